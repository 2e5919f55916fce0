/-
  A part of the proof: what the given program's functions answer, each once; conditions that are enough for it.
-/
import Derived.Test.YtfahnaccpncdpaaGreatDoorSt1
import Derived.Test.YtfahnaccpncdpaaGreatDoorFw3
namespace Go.Proofs.YtfahnaccpncdpaaGreatDoor
open Go Go.Plat
set_option linter.unusedVariables false
set_option linter.unusedSimpArgs false
set_option maxRecDepth 100000
set_option maxHeartbeats 2000000
attribute [local irreducible] AWP Arith BitS BytesS CallS CatS DrawS EndS IdxS LookS LoopEnd Meets ModeS NilS NormL NormM QuoS RemS ShlS ShrS SideS SplitS bitI digitB kindB letterB lexF lexL numC numR okC spanF wordC
theorem index_has (c:UInt8):∀ s:List UInt8,(Lib.indexByte s c= -1∧s.contains c=false∧(s.takeWhile (· != c))=s) ∨
  (0≤Lib.indexByte s c∧s.contains c=true∧Lib.indexByte s c=((s.takeWhile (· != c)).length:Int)∧s.drop ((s.takeWhile (· != c)).length+1)=(s.dropWhile (· != c)).drop 1∧(s.takeWhile (· != c)).length < s.length)
 | []=>.inl ⟨rfl,rfl,rfl⟩
 | b::l=>by
  rw [Lib.indexByte]
  by_cases h:b=c
  ·subst h
   right
   rw [if_pos (by simp)]
   simp
  ·have e:(b==c)=false:=beq_eq_false_iff_ne.2 h
   have e1:(c==b)=false:=beq_eq_false_iff_ne.2 fun q=>h q.symm
   have e2:(b != c)=true:=by simp [bne,e]
   rw [e,List.contains_cons,e1,Bool.false_or,List.takeWhile_cons,List.dropWhile_cons,e2]
   rw [if_neg (by decide),if_pos rfl,if_pos rfl]
   rcases index_has c l with ⟨h1,h2,h3⟩ | ⟨h1,h2,h3,h4,h5⟩
   ·left
    rw [h1,h3]
    exact ⟨rfl,h2,rfl⟩
   ·right
    have e3:(Lib.indexByte l c== -1)=false:=beq_eq_false_iff_ne.2 (by omega)
    rw [e3,if_neg (by decide)]
    refine ⟨by omega,h2,?_,?_,?_⟩
    ·rw [List.length_cons];omega
    ·rw [List.length_cons,List.drop_succ_cons,h4]
    ·rw [List.length_cons,List.length_cons];omega
theorem has_index (c:UInt8) (s:List UInt8):decide (0≤Lib.indexByte s c)=s.contains c:=by
 rcases index_has c s with ⟨h1,h2,_⟩ | ⟨h1,h2,_⟩
 ·rw [h1,h2];rfl
 ·rw [h2,decide_eq_true h1]
theorem contains_meets:Meets Tryz.prog n_strings_Contains (SpecP (fun _:List UInt8×UInt8=>True) (fun (s,c)=>[.str s,.str [c]]) fun (s,c)=>.bool (s.contains c)):=by
 refine meets_lib ⟨_,Tryz.func95,by decide,rfl⟩ ?_
 rintro ⟨s,c⟩ - w F hg vs hl hv
 match vs,hl with
 | [a,b],_=>
  cases hv 0 _ a rfl rfl
  cases hv 1 _ b rfl rfl
  refine (Go.Proofs.Tryz.strings_Contains_one ⟨s.toArray⟩ c w).mono ?_
  rintro e w' ⟨rfl,rfl⟩
  refine ⟨_,rfl,.refl _ _,?_⟩
  show RepP w' F (.bool (s.contains c)) _
  rw [← has_index c s]
  exact .bool _
theorem slindex_meets:Meets Tryz.prog n_internal_stringslite_Index (SpecP (fun _:List UInt8×UInt8=>True) (fun (s,c)=>[.str s,.str [c]]) fun (s,c)=>.int .i64 (Lib.indexByte s c)):=by
 refine meets_lib ⟨_,Tryz.func134,by decide,rfl⟩ ?_
 rintro ⟨s,c⟩ - w F hg vs hl hv
 match vs,hl with
 | [a,b],_=>
  cases hv 0 _ a rfl rfl
  cases hv 1 _ b rfl rfl
  refine (Go.Proofs.Tryz.stringslite_Index_one ⟨s.toArray⟩ c w).mono ?_
  rintro e w' ⟨rfl,rfl⟩
  exact ⟨_,rfl,.refl _ _,.int _ _⟩
theorem sindex_meets:Meets Tryz.prog n_strings_Index (SpecP (fun _:List UInt8×UInt8=>True) (fun (s,c)=>[.str s,.str [c]]) fun (s,c)=>.int .i64 (Lib.indexByte s c)):=by
 refine meets_f tabOk Tryz.func91 rfl (by decide) ?_
 rintro ⟨s,c⟩ -
 refine ⟨Nat.le_refl _,by simp [Tryz.f91],fun E hE=>?_⟩
 refine vcOk _ ?_
 (all_goals refine qgp ?_<;>(repeat' first | exact trivial | intro hc | refine And.intro ?_ ?_)<;>refine Lf.mk ?_)
 refine call_p slindex_meets (s,c) trivial (VS.mk (LeL.of_eq rfl)) ?_
 (all_goals refine qgp ?_<;>(repeat' first | exact trivial | intro hc | refine And.intro ?_ ?_)<;>refine Lf.mk ?_)
 exact end_p (VS.mk (LeD.of_eq rfl))
theorem count_meets:Meets Tryz.prog n_strings_Count (SpecP (fun _:List UInt8×UInt8=>True) (fun (s,c)=>[.str s,.str [c]]) fun (s,c)=>.int .i64 ((s.count c:Nat):Int)):=by
 refine meets_lib ⟨_,Tryz.func90,by decide,rfl⟩ ?_
 rintro ⟨s,c⟩ - w F hg vs hl hv
 match vs,hl with
 | [a,b],_=>
  cases hv 0 _ a rfl rfl
  cases hv 1 _ b rfl rfl
  refine (Go.Proofs.Tryz.strings_Count_one ⟨s.toArray⟩ c w).mono ?_
  rintro e w' ⟨rfl,rfl⟩
  exact ⟨_,rfl,.refl _ _,.int _ _⟩
def cutT (c:UInt8) (s:List UInt8):List UInt8×List UInt8×Bool:=(s.takeWhile (· != c),(s.dropWhile (· != c)).drop 1,s.contains c)
def cutD (p:List UInt8×List UInt8×Bool):D:=.tup [.str p.1,.str p.2.1,.bool p.2.2]
theorem take_len {α:Type} (p:α→Bool) (s:List α):s.take (s.takeWhile p).length=s.takeWhile p:=by
 induction s with
 | nil=>rfl
 | cons a l ih=>
  rw [List.takeWhile_cons]
  split
  ·rw [List.length_cons,List.take_succ_cons,ih]
  ·rfl
theorem drop_while_nil {c:UInt8}:∀ {s:List UInt8},s.contains c=false→s.dropWhile (· != c)=[]
 | [],_=>rfl
 | b::l,h=>by
  rw [List.contains_cons,Bool.or_eq_false_iff] at h
  have e:(b != c)=true:=by
   rw [bne_iff_ne]
   intro q
   rw [q] at h
   simp at h
  rw [List.dropWhile_cons,e,if_pos rfl]
  exact drop_while_nil h.2
attribute [local irreducible] Lib.indexByte
theorem lcut_meets:Meets Tryz.prog n_internal_stringslite_Cut (SpecP (fun ((s,c):List UInt8×UInt8)=>s.length≤1000000000) (fun (s,c)=>[.str s,.str [c]]) fun (s,c)=>cutD (cutT c s)):=by
 refine meets_f tabOk Tryz.func92 rfl (by decide) ?_
 rintro ⟨s,c⟩ hs
 have hs:s.length≤1000000000:=hs
 refine ⟨Nat.le_refl _,by simp [Tryz.f92],fun E hE=>?_⟩
 have hi:=index_has c s
 have hl1:([c]:List UInt8).length=1:=rfl
 have hb: -1≤Lib.indexByte s c∧Lib.indexByte s c≤s.length∧(0≤Lib.indexByte s c→Lib.indexByte s c < s.length):=by omega
 refine vcOk _ ?_
 (all_goals refine qgp (Lf.mk ?_))
 refine call_p slindex_meets (s,c) trivial (VS.mk (LeL.of_eq rfl)) ?_
 (all_goals refine qgp ?_<;>(repeat' first | exact trivial | intro hc | refine And.intro ?_ ?_)<;>refine Lf.mk ?_)
 ·rcases hi with ⟨h1,_⟩ | ⟨h1,h2,h3,h4,h5⟩
  ·omega
  refine end_p (VS.mk (.tup (.cons (LeD.of_eq ?_) (.cons (LeD.of_eq ?_) (.cons (LeD.tt h2) .nil)))))
  ·rw [h3,Int.toNat_natCast]
   exact congrArg D.str (take_len _ s)
  ·rw [h3]
   exact congrArg D.str (by rw [hl1,Int.toNat_natCast,List.take_length,show (((s.takeWhile (· != c)).length:Int)+((1:Nat):Int)).toNat=(s.takeWhile (· != c)).length+1 by omega];exact h4)
 ·rcases hi with ⟨h1,h2,h3⟩ | ⟨h1,h2,h3,h4,h5⟩
  ·refine end_p (VS.mk (.tup (.cons (LeD.of_eq ?_) (.cons (LeD.of_eq ?_) (.cons (LeD.ff h2) .nil)))))
   ·exact congrArg D.str h3.symm
   ·exact congrArg D.str (by show []=(s.dropWhile _).drop 1;rw [drop_while_nil h2];rfl)
  ·omega
theorem cut_meets:Meets Tryz.prog n_strings_Cut (SpecP (fun ((s,c):List UInt8×UInt8)=>s.length≤1000000000) (fun (s,c)=>[.str s,.str [c]]) fun (s,c)=>cutD (cutT c s)):=by
 refine meets_f tabOk Tryz.func48 rfl (by decide) ?_
 rintro ⟨s,c⟩ hs
 refine ⟨Nat.le_refl _,by simp [Tryz.f48],fun E hE=>?_⟩
 refine vcOk _ ?_
 (all_goals refine qgp (Lf.mk ?_))
 refine call_p lcut_meets (s,c) hs (VS.mk (LeL.of_eq rfl)) ?_
 (all_goals refine qgp (Lf.mk ?_))
 exact end_p (VS.mk (LeD.of_eq rfl))
theorem beq_dec (a b:List UInt8):(a==b)=decide (a=b):=by
 by_cases h:a=b
 ·rw [decide_eq_true h,h];exact beq_self_eq_true _
 ·rw [decide_eq_false h,beq_eq_false_iff_ne.2 h]
theorem lprefix_meets:Meets Tryz.prog n_internal_stringslite_HasPrefix (SpecP (fun ((s,p):List UInt8×List UInt8)=>s.length≤1000000000∧p.length≤1000000000) (fun (s,p)=>[.str s,.str p]) fun (s,p)=>.bool (decide (s.take p.length=p))):=by
 refine meets_f tabOk Tryz.func137 rfl (by decide) ?_
 rintro ⟨s,p⟩ ⟨hs,hp⟩
 refine ⟨Nat.le_refl _,by simp [Tryz.f137],fun E hE=>?_⟩
 refine vcOk _ ?_
 (all_goals refine qgp ?_<;>(repeat' first | exact trivial | intro hc | refine And.intro ?_ ?_)<;>refine Lf.mk ?_)
 ·exact end_p (VS.mk (LeD.of_eq (congrArg D.bool (beq_dec _ _))))
 ·refine end_p (VS.mk (LeD.ff (decide_eq_false fun h=>?_)))
  have:=congrArg List.length h
  rw [List.length_take] at this
  omega
theorem prefix_meets:Meets Tryz.prog n_strings_HasPrefix (SpecP (fun ((s,p):List UInt8×List UInt8)=>s.length≤1000000000∧p.length≤1000000000) (fun (s,p)=>[.str s,.str p]) fun (s,p)=>.bool (decide (s.take p.length=p))):=by
 refine meets_f tabOk Tryz.func96 rfl (by decide) ?_
 rintro ⟨s,p⟩ h
 refine ⟨Nat.le_refl _,by simp [Tryz.f96],fun E hE=>?_⟩
 refine vcOk _ ?_
 (all_goals refine qgp (Lf.mk ?_))
 refine call_p lprefix_meets (s,p) h (VS.mk (LeL.of_eq rfl)) ?_
 (all_goals refine qgp (Lf.mk ?_))
 exact end_p (VS.mk (LeD.of_eq rfl))
end Go.Proofs.YtfahnaccpncdpaaGreatDoor
namespace Go.Proofs.YtfahnaccpncdpaaGreatDoor
open Go Go.Plat
set_option linter.unusedVariables false
set_option linter.unusedSimpArgs false
set_option maxRecDepth 100000
set_option maxHeartbeats 2000000
attribute [local irreducible] AWP Arith BitS BytesS CallS CatS DrawS EndS IdxS LookS LoopEnd Meets ModeS NilS NormL NormM QuoS RemS ShlS ShrS SideS SplitS bitI digV digitB kindB letterB lexF lexL numC numR okC spanF wordC
def puF (b:Int):List UInt8→Int→Int×Int
 | [],n=>(n,0)
 | c::r,n=>if digV b c < 0 then (0,2) else if 4294967295 < n * b+digV b c then (4294967295,1) else puF b r (n * b+digV b c)
def puR (b:Int) (s:List UInt8):Int×Int:=if s=[] then (0,2) else puF b s 0
theorem pu_big {b:Int} (hb:b=10∨b=16):∀ (s:List UInt8) (n:Int),4294967295 < n→∀ m,numF b s n=some m→4294967295 < m
 | [],n,h,m,hm=>by rw [numF] at hm;cases hm;exact h
 | c::r,n,h,m,hm=>by rw [numF,if_pos (.inr h)] at hm;cases hm
theorem pu_num {b:Int} (hb:b=10∨b=16):∀ (s:List UInt8) (n:Int),0≤n→n≤4294967295 →
  ((puF b s n).2=0∧numF b s n=some (puF b s n).1∧0≤(puF b s n).1∧(puF b s n).1≤4294967295)∨((puF b s n).2≠0∧∀ m,numF b s n=some m→4294967295 < m)
 | [],n,h0,h1=>.inl ⟨rfl,rfl,h0,h1⟩
 | c::r,n,h0,h1=>by
  rw [puF,numF]
  by_cases hd:digV b c < 0
  ·rw [if_pos hd,if_pos (.inl hd)]
   exact .inr ⟨by decide,fun m hm=>by cases hm⟩
  ·rw [if_neg hd,if_neg (show ¬ (digV b c < 0∨4294967295 < n) by omega)]
   have:=dig_lt b c
   by_cases hn:4294967295 < n * b+digV b c
   ·rw [if_pos hn]
    exact .inr ⟨by decide,pu_big hb r _ hn⟩
   ·rw [if_neg hn]
    exact pu_num hb r _ (by rcases hb with rfl | rfl<;>omega) (by omega)
theorem pu_numR {b:Int} (hb:b=10∨b=16) (s:List UInt8):((puR b s).2=0∧numRb b s=((puR b s).1,true)∧0≤(puR b s).1∧(puR b s).1≤4294967295)∨((puR b s).2≠0∧(numRb b s).2=false):=by
 unfold puR numRb
 by_cases h:s=[]
 ·subst h
  right
  rw [if_pos rfl]
  exact ⟨by decide,by simp [numF,numFin]⟩
 rw [if_neg h]
 rcases pu_num hb s 0 (by decide) (by decide) with ⟨h1,h2,h3,h4⟩ | ⟨h1,h2⟩
 ·left
  rw [h2]
  refine ⟨h1,?_,h3,h4⟩
  show ((puF b s 0).1,decide ((puF b s 0).1 < 4294967296∧s≠[]))=_
  rw [decide_eq_true ⟨by omega,h⟩]
 ·right
  refine ⟨h1,?_⟩
  cases hm:numF b s 0 with
  | none=>rfl
  | some m=>
   have:=h2 m hm
   show decide (m < 4294967296∧s≠[])=false
   rw [decide_eq_false (by rintro ⟨q,_⟩;omega)]
theorem puF_code (b:Int):∀ (s:List UInt8) (n:Int),(puF b s n).2=0∨(puF b s n).2=1∨(puF b s n).2=2
 | [],n=>.inl rfl
 | c::r,n=>by
  rw [puF]
  split
  ·exact .inr (.inr rfl)
  split
  ·exact .inr (.inl rfl)
  ·exact puF_code b r _
theorem pu_code (b:Int) (s:List UInt8):(puR b s).2=0∨(puR b s).2=1∨(puR b s).2=2:=by
 unfold puR
 split
 ·exact .inr (.inr rfl)
 ·exact puF_code b s 0
def lowC (c:UInt8):UInt8:=c ||| 32
theorem low_all:∀ k:Fin 256,(97≤(lowC (UInt8.ofNat k.val)).toNat∧(lowC (UInt8.ofNat k.val)).toNat≤122→¬ (48≤k.val∧k.val≤57)∧((lowC (UInt8.ofNat k.val)).toNat≤102∧digV 16 (UInt8.ofNat k.val)=(lowC (UInt8.ofNat k.val)).toNat - 87∨(103≤(lowC (UInt8.ofNat k.val)).toNat∧digV 16 (UInt8.ofNat k.val)= -1))∧digV 10 (UInt8.ofNat k.val)= -1) ∧
  (48≤k.val∧k.val≤57→digV 16 (UInt8.ofNat k.val)=k.val - 48∧digV 10 (UInt8.ofNat k.val)=k.val - 48) ∧
  (¬ (97≤(lowC (UInt8.ofNat k.val)).toNat∧(lowC (UInt8.ofNat k.val)).toNat≤122)→¬ (48≤k.val∧k.val≤57)→digV 16 (UInt8.ofNat k.val)= -1∧digV 10 (UInt8.ofNat k.val)= -1):=by decide +kernel
theorem low_dig (c:UInt8):(97≤(lowC c).toNat∧(lowC c).toNat≤122→¬ (48≤c.toNat∧c.toNat≤57)∧((lowC c).toNat≤102∧digV 16 c=(lowC c).toNat - 87∨(103≤(lowC c).toNat∧digV 16 c= -1))∧digV 10 c= -1) ∧
  (48≤c.toNat∧c.toNat≤57→digV 16 c=c.toNat - 48∧digV 10 c=c.toNat - 48) ∧
  (¬ (97≤(lowC c).toNat∧(lowC c).toNat≤122)→¬ (48≤c.toNat∧c.toNat≤57)→digV 16 c= -1∧digV 10 c= -1):=by
 have:=low_all ⟨c.toNat,c.toNat_lt⟩
 simp only [UInt8.ofNat_toNat] at this
 exact this
theorem or_32 (c:UInt8):bitI .or .u8 (c.toNat:Int) 32=((lowC c).toNat:Int):=by
 have:∀ k:Fin 256,bitI .or .u8 ((UInt8.ofNat k.val).toNat:Int) 32=((lowC (UInt8.ofNat k.val)).toNat:Int):=by decide +kernel
 have:=this ⟨c.toNat,c.toNat_lt⟩
 simp only [UInt8.ofNat_toNat] at this
 exact this
theorem lower_meets:Meets Tryz.prog n_internal_strconv_lower (SpecP (fun _:UInt8=>True) (fun c=>[byteD c]) fun c=>byteD (lowC c)):=by
 refine meets_f tabOk Tryz.func152 rfl (by decide) fun c _=>?_
 refine ⟨Nat.le_refl _,by simp [Tryz.f152],fun E hE=>?_⟩
 refine vcOk _ ?_
 (all_goals refine qgp (Lf.mk ?_))
 refine bit_mk (or_32 c) ?_
 (all_goals refine qgp (Lf.mk ?_))
 exact end_p (VS.mk (LeD.of_eq rfl))
attribute [local irreducible] lowC
def puD (p:Int×Int):D:=.tup [.int .u64 p.1,if p.2=0 then .nilif else .iface 237 (.int .i64 p.2)]
theorem shl_u64_32 {K:D→Prop} (h:K (.int .u64 4294967296)):ShlS .u64 1 32 K:=by
 unfold ShlS
 refine ⟨by decide,?_⟩
 have e:IntKind.u64.wrap (1 * 2 ^ (min (32:Int).toNat IntKind.u64.bits))=4294967296:=by decide
 rw [e];exact h
theorem parse_in_meets:Meets Tryz.prog n_internal_strconv_ParseUint (SpecP (fun ((s,b):List UInt8×Int)=>s.length≤1000000000∧(b=10∨b=16)) (fun (s,b)=>[.str s,.int .i64 b,.int .i64 32]) fun (s,b)=>puD (puR b s)):=by
 refine meets_f tabOk Tryz.func135 rfl (by decide) ?_
 rintro ⟨s,b⟩ ⟨hs,hb⟩
 refine ⟨Nat.le_refl _,by simp [Tryz.f135],fun E hE=>?_⟩
 rcases hb with rfl | rfl
 ·refine vcOk _ ?_
  have hP:s≠[]→puR 10 s=puF 10 (s.drop 0) 0:=fun h=>by unfold puR;rw [if_neg h];rfl
  (all_goals refine qgp ?_<;>(repeat' first | exact trivial | intro hc | refine And.intro ?_ ?_)<;>refine Lf.mk ?_)
  all_goals first
   | (exfalso;refine absurd trivial ?_;assumption)
   | (exact end_p (VS.mk (LeD.of_eq (by show _=puD (puR _ _);unfold puR;rw [if_pos hc];rfl))))
   | skip
  refine ar_u64 (by decide) (by decide) ?_
  (all_goals refine qgp (Lf.mk ?_))
  refine shl_u64_32 ?_
  (all_goals refine qgp (Lf.mk ?_))
  refine ar_u64 (by decide) (by decide) ?_
  (all_goals refine qgp (Lf.mk ?_))
  have hP:=hP (by assumption)
  refine awp_loop (α:=Nat×Int) (fun p=>p.1≤s.length∧puR 10 s=puF 10 (s.drop p.1) p.2∧0≤p.2∧p.2≤4294967295)
   (fun p=>[(1,.int .i64 10),(8,.bool false),(9,.str s),(10,.int .u64 1844674407370955162),(11,.int .u64 4294967295),(12,.ff),(13,.int .u64 p.2),(99,.sl 1 (s.map byteD) none),(100,.int .i64 s.length),(101,.int .i64 p.1)])
   (fun _=>[]) (fun p=>s.length - p.1) (fun _=>by simp [hE]) (0,0) ⟨Nat.zero_le _,hP,by decide,by decide⟩ ?_ ?_
  ·(repeat' (first | (refine VS.mk ?_) | exact trivial | exact rfl | refine And.intro ?_ ?_))
  rintro ⟨k,n⟩ ⟨hk,hf,hn0,hn1⟩
  dsimp only at hk hf hn0 hn1 ⊢
  have hlast:k=s.length→puD (puR 10 s)= .tup [.int .u64 n,.nilif]:=fun h=>by rw [hf,h,List.drop_length];rfl
  have hstep:k < s.length→puR 10 s=if digV 10 (s.getD k 0) < 0 then (0,2) else if 4294967295 < n * 10+digV 10 (s.getD k 0) then (4294967295,1) else puF 10 (s.drop (k+1)) (n * 10+digV 10 (s.getD k 0)):=fun h=>by
   rw [hf,drop_cons (d:=0) h,puF]
  have hd:=low_dig (s.getD k 0)
  have hq:=(s.getD k 0).toNat_lt
  have hq2:=(lowC (s.getD k 0)).toNat_lt
  have hbB:(lowByte 10).toNat=10:=by decide
  have h48:=lowByte_toNat (((s.getD k 0).toNat:Int) - 48)
  have h97:=lowByte_toNat (((lowC (s.getD k 0)).toNat:Int) - 97)
  have h10:=lowByte_toNat (((lowByte (((lowC (s.getD k 0)).toNat:Int) - 97)).toNat:Int)+10)
  generalize digV 10 (s.getD k 0)=dv at *
  generalize digV 16 (s.getD k 0)=dx at *
  refine vcOk _ ?_
  (all_goals refine qgp ?_<;>(repeat' first | exact trivial | intro hc | refine And.intro ?_ ?_)<;>refine Lf.mk ?_)
  all_goals (try refine call_p lower_meets (s.getD k 0) trivial (VS.mk (LeL.of_eq rfl)) ?_)
  (all_goals refine qgp ?_<;>(repeat' first | exact trivial | intro hc | refine And.intro ?_ ?_)<;>refine Lf.mk ?_)
  all_goals (try refine call_p lower_meets (s.getD k 0) trivial (VS.mk (LeL.of_eq rfl)) ?_)
  (all_goals refine qgp ?_<;>(repeat' first | exact trivial | intro hc | refine And.intro ?_ ?_)<;>refine Lf.mk ?_)
  all_goals (try refine call_p lower_meets (s.getD k 0) trivial (VS.mk (LeL.of_eq rfl)) ?_)
  (all_goals refine qgp ?_<;>(repeat' first | exact trivial | intro hc | refine And.intro ?_ ?_)<;>refine Lf.mk ?_)
  all_goals first
   | (refine absurd hc ?_;decide)
   | (refine end_p (VS.mk (LeD.of_eq ?_));rw [hstep (by omega),if_pos (by omega)];rfl)
   | skip
  all_goals (try refine ar_u64 (by omega) (by omega) ?_)
  (all_goals refine qgp (Lf.mk ?_))
  all_goals (try refine ar_u64 (by omega) (by omega) ?_)
  (all_goals refine qgp (Lf.mk ?_))
  all_goals (try refine ar_u64 (by omega) (by omega) ?_)
  (all_goals refine qgp (Lf.mk ?_))
  all_goals (try refine ar_u64 (by omega) (by omega) ?_)
  (all_goals refine qgp ?_<;>(repeat' first | exact trivial | intro hc | refine And.intro ?_ ?_)<;>refine Lf.mk ?_)
  all_goals first
   | (refine end_p (VS.mk (LeD.of_eq ?_));rw [hstep (by omega),if_neg (by omega),if_pos (by omega)];rfl)
   | (exact end_p (VS.mk (LeD.of_eq (hlast (by omega)).symm)))
   | skip
  all_goals
   have hk1:=hstep (by omega)
   rw [if_neg (by omega),if_neg (by omega)] at hk1
   refine loop_end (k+1,n * 10+dv) ⟨by dsimp only;omega,hk1,by dsimp only;omega,by dsimp only;omega⟩ (by dsimp only;omega) ?_
   (repeat' (first | (refine VS.mk ?_) | exact trivial | exact rfl | refine And.intro ?_ ?_))
   all_goals (first | rfl | (refine congrArg (D.int .u64) ?_;omega))
 ·refine vcOk _ ?_
  have hP:s≠[]→puR 16 s=puF 16 (s.drop 0) 0:=fun h=>by unfold puR;rw [if_neg h];rfl
  (all_goals refine qgp ?_<;>(repeat' first | exact trivial | intro hc | refine And.intro ?_ ?_)<;>refine Lf.mk ?_)
  all_goals first
   | (exfalso;refine absurd trivial ?_;assumption)
   | (exact end_p (VS.mk (LeD.of_eq (by show _=puD (puR _ _);unfold puR;rw [if_pos hc];rfl))))
   | skip
  refine ar_u64 (by decide) (by decide) ?_
  (all_goals refine qgp (Lf.mk ?_))
  refine shl_u64_32 ?_
  (all_goals refine qgp (Lf.mk ?_))
  refine ar_u64 (by decide) (by decide) ?_
  (all_goals refine qgp (Lf.mk ?_))
  have hP:=hP (by assumption)
  refine awp_loop (α:=Nat×Int) (fun p=>p.1≤s.length∧puR 16 s=puF 16 (s.drop p.1) p.2∧0≤p.2∧p.2≤4294967295)
   (fun p=>[(1,.int .i64 16),(8,.bool false),(9,.str s),(10,.int .u64 1152921504606846976),(11,.int .u64 4294967295),(12,.ff),(13,.int .u64 p.2),(99,.sl 1 (s.map byteD) none),(100,.int .i64 s.length),(101,.int .i64 p.1)])
   (fun _=>[]) (fun p=>s.length - p.1) (fun _=>by simp [hE]) (0,0) ⟨Nat.zero_le _,hP,by decide,by decide⟩ ?_ ?_
  ·(repeat' (first | (refine VS.mk ?_) | exact trivial | exact rfl | refine And.intro ?_ ?_))
  rintro ⟨k,n⟩ ⟨hk,hf,hn0,hn1⟩
  dsimp only at hk hf hn0 hn1 ⊢
  have hlast:k=s.length→puD (puR 16 s)= .tup [.int .u64 n,.nilif]:=fun h=>by rw [hf,h,List.drop_length];rfl
  have hstep:k < s.length→puR 16 s=if digV 16 (s.getD k 0) < 0 then (0,2) else if 4294967295 < n * 16+digV 16 (s.getD k 0) then (4294967295,1) else puF 16 (s.drop (k+1)) (n * 16+digV 16 (s.getD k 0)):=fun h=>by
   rw [hf,drop_cons (d:=0) h,puF]
  have hd:=low_dig (s.getD k 0)
  have hq:=(s.getD k 0).toNat_lt
  have hq2:=(lowC (s.getD k 0)).toNat_lt
  have hbB:(lowByte 16).toNat=16:=by decide
  have h48:=lowByte_toNat (((s.getD k 0).toNat:Int) - 48)
  have h97:=lowByte_toNat (((lowC (s.getD k 0)).toNat:Int) - 97)
  have h10:=lowByte_toNat (((lowByte (((lowC (s.getD k 0)).toNat:Int) - 97)).toNat:Int)+10)
  generalize digV 10 (s.getD k 0)=dv at *
  generalize digV 16 (s.getD k 0)=dx at *
  refine vcOk _ ?_
  (all_goals refine qgp ?_<;>(repeat' first | exact trivial | intro hc | refine And.intro ?_ ?_)<;>refine Lf.mk ?_)
  all_goals (try refine call_p lower_meets (s.getD k 0) trivial (VS.mk (LeL.of_eq rfl)) ?_)
  (all_goals refine qgp ?_<;>(repeat' first | exact trivial | intro hc | refine And.intro ?_ ?_)<;>refine Lf.mk ?_)
  all_goals (try refine call_p lower_meets (s.getD k 0) trivial (VS.mk (LeL.of_eq rfl)) ?_)
  (all_goals refine qgp ?_<;>(repeat' first | exact trivial | intro hc | refine And.intro ?_ ?_)<;>refine Lf.mk ?_)
  all_goals (try refine call_p lower_meets (s.getD k 0) trivial (VS.mk (LeL.of_eq rfl)) ?_)
  (all_goals refine qgp ?_<;>(repeat' first | exact trivial | intro hc | refine And.intro ?_ ?_)<;>refine Lf.mk ?_)
  all_goals first
   | (refine absurd hc ?_;decide)
   | (refine end_p (VS.mk (LeD.of_eq ?_));rw [hstep (by omega),if_pos (by omega)];rfl)
   | skip
  all_goals (try refine ar_u64 (by omega) (by omega) ?_)
  (all_goals refine qgp (Lf.mk ?_))
  all_goals (try refine ar_u64 (by omega) (by omega) ?_)
  (all_goals refine qgp (Lf.mk ?_))
  all_goals (try refine ar_u64 (by omega) (by omega) ?_)
  (all_goals refine qgp (Lf.mk ?_))
  all_goals (try refine ar_u64 (by omega) (by omega) ?_)
  (all_goals refine qgp ?_<;>(repeat' first | exact trivial | intro hc | refine And.intro ?_ ?_)<;>refine Lf.mk ?_)
  all_goals first
   | (refine end_p (VS.mk (LeD.of_eq ?_));rw [hstep (by omega),if_neg (by omega),if_pos (by omega)];rfl)
   | (exact end_p (VS.mk (LeD.of_eq (hlast (by omega)).symm)))
   | skip
  all_goals
   have hk1:=hstep (by omega)
   rw [if_neg (by omega),if_neg (by omega)] at hk1
   refine loop_end (k+1,n * 16+dx) ⟨by dsimp only;omega,hk1,by dsimp only;omega,by dsimp only;omega⟩ (by dsimp only;omega) ?_
   (repeat' (first | (refine VS.mk ?_) | exact trivial | exact rfl | refine And.intro ?_ ?_))
   all_goals (first | rfl | (refine congrArg (D.int .u64) ?_;omega))
end Go.Proofs.YtfahnaccpncdpaaGreatDoor
namespace Go.Proofs.YtfahnaccpncdpaaGreatDoor
open Go Go.Plat
set_option linter.unusedVariables false
set_option linter.unusedSimpArgs false
set_option maxRecDepth 100000
set_option maxHeartbeats 2000000
attribute [local irreducible] AWP Arith BitS BytesS CallS CatS DrawS EndS IdxS LookS LoopEnd Meets ModeS NilS NormL NormM QuoS RemS ShlS ShrS SideS SplitS bitI digitB kindB letterB lexF lexL numC numR okC wordC
def rdO (s:List UInt8) (i:Nat):List Ob:=[.cells [.str s,.int .i64 (i:Nat)]]
theorem srun_meets {g:Nat} {p:UInt8→Bool} (hg:Meets Tryz.prog g (SpecP (fun _:UInt8=>True) (fun c=>[byteD c]) fun c=>.bool (p c))) :
  Meets Tryz.prog n_scan_reader_run (SpecF (fun ((s,i):List UInt8×Nat)=>i≤s.length∧s.length≤1000000000) (fun _=>[.loc 0 0,.fn g []]) (fun (s,i)=>rdO s i)
   (fun (s,i)=>.str ((s.take (i+spanF p (s.drop i))).drop i)) fun (s,i)=>rdO s (i+spanF p (s.drop i))):=by
 refine meets_f tabOk Tryz.func49 rfl (by decide) ?_
 rintro ⟨s,i⟩ ⟨hi,hs⟩
 refine ⟨Nat.le_refl _,by simp [Tryz.f49],fun E hE=>?_⟩
 refine vcOk _ ?_
 (all_goals refine qgp (Lf.mk ?_))
 refine awp_loop (α:=Nat) (fun k=>i≤k∧k≤s.length∧∀ j,j < k - i→p ((s.drop i).getD j 0)=true)
  (fun k=>[(0,.loc 0 0),(1,.fn g []),(5,.int .i64 i)])
  (fun k=>rdO s k) (fun k=>s.length - k) (fun _=>by simp [hE,rdO]) i ⟨Nat.le_refl _,by omega,fun j h=>absurd h (by omega)⟩ ?_ ?_
 ·(repeat' (first | (refine VS.mk ?_) | exact trivial | exact rfl | refine And.intro ?_ ?_))
 rintro k ⟨hik,hks,hall⟩
 have hget:(s.drop i).getD (k - i) 0=s.getD k 0:=by rw [List.getD_eq_getElem?_getD,List.getElem?_drop,List.getD_eq_getElem?_getD,show i+(k - i)=k by omega]
 have hend:(k < s.length→p (s.getD k 0)=false)→k=i+spanF p (s.drop i):=fun h=>by
  have:=span_eq (p:=p) (l:=s.drop i) (k:=k - i) (by rw [List.length_drop];omega) hall fun hl=>by rw [hget];exact h (by rw [List.length_drop] at hl;omega)
  omega
 have hmore:p (s.getD k 0)=true→∀ j,j < k+1 - i→p ((s.drop i).getD j 0)=true:=fun h j hj=>by
  by_cases e:j=k - i
  ·rw [e,hget];exact h
  ·exact hall j (by omega)
 refine vcOk _ ?_
 (all_goals refine qgp ?_<;>(repeat' first | exact trivial | intro hc | refine And.intro ?_ ?_)<;>refine Lf.mk ?_)
 ·refine call_p hg (s.getD k 0) trivial (VS.mk (LeL.of_eq (by rw [Int.toNat_natCast];rfl))) ?_
  (all_goals refine qgp ?_<;>(repeat' first | exact trivial | intro hc | refine And.intro ?_ ?_)<;>refine Lf.mk ?_)
  ·have hm:=hmore hc
   refine loop_end (k+1) ⟨by omega,by omega,hm⟩ (by omega) ?_
   (repeat' (first | (refine VS.mk ?_) | exact trivial | exact rfl | refine And.intro ?_ ?_))
  ·have e:=hend fun _=>by simpa using hc
   refine end_mk (And.intro (VS.mk ?_) (VS.mk ?_))
   ·show D.str _=D.str ((s.take (i+spanF p (s.drop i))).drop i)
    rw [← e,Int.toNat_natCast,Int.toNat_natCast]
   ·show rdO s k=rdO s (i+spanF p (s.drop i))
    rw [← e]
 ·have e:=hend fun h=>absurd h (by omega)
  refine end_mk (And.intro (VS.mk ?_) (VS.mk ?_))
  ·show D.str _=D.str ((s.take (i+spanF p (s.drop i))).drop i)
   rw [← e,Int.toNat_natCast,Int.toNat_natCast]
  ·show rdO s k=rdO s (i+spanF p (s.drop i))
   rw [← e]
attribute [local irreducible] digV puF puR spanF
theorem syntax_meets:Meets Tryz.prog n_strconv_syntaxError (SpecP (fun ((a,s):List UInt8×List UInt8)=>s.length≤1000000000) (fun (a,s)=>[.str a,.str s]) fun _=>.any):=by
 refine meets_lib ⟨_,Tryz.func154,by decide,rfl⟩ ?_
 rintro ⟨a,s⟩ hs w F hg vs hl hv
 have hs:s.length≤1000000000:=hs
 match vs,hl with
 | [x,y],_=>
  cases hv 0 _ x rfl rfl
  cases hv 1 _ y rfl rfl
  obtain ⟨u,v,hcell⟩:=(hg 8 _ (by kernel_rfl)).2.2.2 rfl
  refine (Go.Proofs.Tryz.strconv_syntaxError ⟨a.toArray⟩ ⟨s.toArray⟩ _ w (by show s.toArray.size≤_;simp;omega) hcell (.inr ⟨_,_,rfl⟩)).mono ?_
  rintro e w' ⟨N,rfl,_,_,hb⟩
  exact ⟨_,rfl,.below hb,.any _⟩
theorem rngerr_meets:Meets Tryz.prog n_strconv_rangeError (SpecP (fun ((a,s):List UInt8×List UInt8)=>s.length≤1000000000) (fun (a,s)=>[.str a,.str s]) fun _=>.any):=by
 refine meets_lib ⟨_,Tryz.func155,by decide,rfl⟩ ?_
 rintro ⟨a,s⟩ hs w F hg vs hl hv
 have hs:s.length≤1000000000:=hs
 match vs,hl with
 | [x,y],_=>
  cases hv 0 _ x rfl rfl
  cases hv 1 _ y rfl rfl
  obtain ⟨u,v,hcell⟩:=(hg 9 _ (by kernel_rfl)).2.2.2 rfl
  refine (Go.Proofs.Tryz.strconv_rangeError ⟨a.toArray⟩ ⟨s.toArray⟩ _ w (by show s.toArray.size≤_;simp;omega) hcell (.inr ⟨_,_,rfl⟩)).mono ?_
  rintro e w' ⟨N,rfl,_,_,hb⟩
  exact ⟨_,rfl,.below hb,.any _⟩
theorem toerr_meets:Meets Tryz.prog n_strconv_toError (SpecP (fun ((a,s,b,c,e):List UInt8×List UInt8×Int×Int×Int)=>s.length≤1000000000∧(e=1∨e=2)) (fun (a,s,b,c,e)=>[.str a,.str s,.int .i64 b,.int .i64 c,.iface 237 (.int .i64 e)])
  fun _=>.iface 239 .any):=by
 refine meets_f tabOk Tryz.func136 rfl (by decide) ?_
 rintro ⟨a,s,b,c,e⟩ ⟨hs,he⟩
 refine ⟨Nat.le_refl _,by simp [Tryz.f136],fun E hE=>?_⟩
 rcases he with rfl | rfl
 all_goals
  refine vcOk _ ?_
  (all_goals refine qgp (Lf.mk ?_))
  all_goals (try refine ifeq_mk (by kernel_rfl) ?_)
  (all_goals refine qgp ?_<;>(repeat' first | exact trivial | intro hc | refine And.intro ?_ ?_)<;>refine Lf.mk ?_)
  all_goals first
   | (exfalso;refine absurd trivial ?_;assumption)
   | skip
  all_goals (try refine ifeq_mk (by kernel_rfl) ?_)
  (all_goals refine qgp ?_<;>(repeat' first | exact trivial | intro hc | refine And.intro ?_ ?_)<;>refine Lf.mk ?_)
  all_goals first
   | (exfalso;refine absurd trivial ?_;assumption)
   | skip
  all_goals first
   | (refine call_p syntax_meets (a,s) hs (VS.mk (LeL.of_eq rfl)) ?_)
   | (refine call_p rngerr_meets (a,s) hs (VS.mk (LeL.of_eq rfl)) ?_)
   | skip
  (all_goals refine qgp (Lf.mk ?_))
  all_goals first
   | exact end_p (VS.mk (LeD.of_eq rfl))
   | (exfalso;refine absurd hc ?_;decide)
   | skip
theorem parse_uint_meets:Meets Tryz.prog n_strconv_ParseUint (SpecP (fun ((s,b):List UInt8×Int)=>s.length≤1000000000∧(b=10∨b=16)) (fun (s,b)=>[.str s,.int .i64 b,.int .i64 32])
  fun (s,b)=>.tup [.int .u64 (puR b s).1,if (puR b s).2=0 then .nilif else .iface 239 .any]):=by
 refine meets_f tabOk Tryz.func94 rfl (by decide) ?_
 rintro ⟨s,b⟩ ⟨hs,hb⟩
 refine ⟨Nat.le_refl _,by simp [Tryz.f94],fun E hE=>?_⟩
 have hcode:=pu_code b s
 refine vcOk _ ?_
 (all_goals refine qgp (Lf.mk ?_))
 refine call_p parse_in_meets (s,b) ⟨hs,hb⟩ (VS.mk (LeL.of_eq rfl)) ?_
 dsimp only
 generalize puR b s=R at *
 obtain ⟨n,e⟩:=R
 dsimp only at hcode
 unfold puD
 dsimp only
 by_cases he:e=0
 ·rw [if_pos he,if_pos he]
  (all_goals refine qgp ?_<;>(repeat' first | exact trivial | intro hc | refine And.intro ?_ ?_)<;>refine Lf.mk ?_)
  all_goals first
   | (exfalso;exact Bool.noConfusion hc)
   | skip
  exact end_p (VS.mk (LeD.of_eq rfl))
 ·rw [if_neg he,if_neg he]
  (all_goals refine qgp ?_<;>(repeat' first | exact trivial | intro hc | refine And.intro ?_ ?_)<;>refine Lf.mk ?_)
  all_goals first
   | (exfalso;exact Bool.noConfusion hc)
   | (exfalso;refine absurd hc ?_;decide)
   | skip
  refine call_p toerr_meets ([80,97,114,115,101,85,105,110,116],s,b,32,e) ⟨hs,by omega⟩ (VS.mk (LeL.of_eq rfl)) ?_
  (all_goals refine qgp (Lf.mk ?_))
  exact end_p (VS.mk (LeD.of_eq rfl))
end Go.Proofs.YtfahnaccpncdpaaGreatDoor
namespace Go.Proofs.YtfahnaccpncdpaaGreatDoor
open Go Go.Plat
set_option linter.unusedVariables false
set_option linter.unusedSimpArgs false
set_option maxRecDepth 100000
set_option maxHeartbeats 2000000
attribute [local irreducible] AWP Arith BitS BytesS CallS CatS DrawS EndS IdxS LookS LoopEnd Meets ModeS NilS NormL NormM QuoS RemS ShlS ShrS SideS SplitS bitI digitB kindB letterB lexF lexL numC numR okC wordC
def blankC (c:UInt8):Bool:=decide (kindB c=32)
theorem lex_skip:∀ (l:List UInt8) (out:List LTok),lexL l out=lexL (l.drop (spanF blankC l)) out
 | [],out=>rfl
 | c::r,out=>by
  rw [spanF]
  by_cases h:blankC c=true
  ·rw [if_pos h,List.drop_succ_cons,lexL_cons,if_pos (of_decide_eq_true h)]
   exact lex_skip r out
  ·rw [if_neg h,List.drop_zero]
theorem span_sub {p q:UInt8→Bool} (h:∀ c,p c=true→q c=true):∀ l:List UInt8,spanF p (l.takeWhile q)=spanF p l∧(l.takeWhile q).drop (spanF p l)=(l.drop (spanF p l)).takeWhile q∧(l.takeWhile q).take (spanF p l)=l.take (spanF p l)
 | []=>⟨rfl,rfl,rfl⟩
 | c::r=>by
  obtain ⟨h1,h2,h3⟩:=span_sub h r
  rw [List.takeWhile_cons]
  by_cases hp:p c=true
  ·rw [h c hp,if_pos rfl]
   have e:∀ x:List UInt8,spanF p (c::x)=spanF p x+1:=fun x=>by rw [spanF,if_pos hp]
   rw [e,e,h1]
   refine ⟨rfl,?_,?_⟩
   ·rw [List.drop_succ_cons,List.drop_succ_cons,h2]
   ·rw [List.take_succ_cons,List.take_succ_cons,h3]
  ·have e:∀ x:List UInt8,spanF p (c::x)=0:=fun x=>by rw [spanF,if_neg hp]
   rw [e]
   refine ⟨?_,?_,?_⟩
   ·split
    ·exact e _
    ·rfl
   ·rw [List.drop_zero,List.drop_zero,List.takeWhile_cons]
   ·rw [List.take_zero,List.take_zero]
theorem word_59 (c:UInt8) (h:wordC c=true):(c != 59)=true:=by
 rw [bne_iff_ne]
 rintro rfl
 exact absurd h (by decide +kernel)
theorem num_59 (c:UInt8) (h:numC c=true):(c != 59)=true:=by
 rw [bne_iff_ne]
 rintro rfl
 exact absurd h (by decide +kernel)
theorem lex_cut:∀ (n:Nat) (l:List UInt8) (out:List LTok),l.length≤n→lexL l out=lexL (l.takeWhile (· != 59)) out
 | _,[],out,_=>rfl
 | 0,_::_,out,h=>by simp at h
 | n+1,c::r,out,h=>by
  have h:r.length≤n:=by simpa using h
  have ih:=lex_cut n
  have hd:∀ k,1≤k→((c::r).drop k).length≤n:=fun k hk=>by rw [List.length_drop,List.length_cons];omega
  by_cases h59:c=59
  ·subst h59
   rw [List.takeWhile_cons,if_neg (by decide),lexL_cons,if_neg (by decide +kernel),if_neg (by decide +kernel),if_neg (by decide +kernel),if_pos rfl,lexL_nil]
  have e:(c::r).takeWhile (· != 59)=c::r.takeWhile (· != 59):=by rw [List.takeWhile_cons,if_pos (by rw [bne_iff_ne];exact h59)]
  rw [lexL_cons]
  by_cases h1:kindB c=32
  ·rw [if_pos h1,e,lexL_cons,if_pos h1]
   exact ih _ _ h
  rw [if_neg h1]
  by_cases h2:kindB c=97
  ·obtain ⟨q1,q2,q3⟩:=span_sub word_59 (c::r)
   rw [if_pos h2,ih _ _ (hd _ (word_first h2)),← q2,← q3,← q1,e]
   rw [lexL_cons,if_neg h1,if_pos h2]
  rw [if_neg h2]
  by_cases h3:kindB c=48
  ·obtain ⟨q1,q2,q3⟩:=span_sub num_59 (c::r)
   rw [if_pos h3,ih _ _ (hd _ (num_first h3)),← q2,← q3,← q1,e]
   rw [lexL_cons c (r.takeWhile _),if_neg h1,if_neg h2,if_pos h3]
  rw [if_neg h3,if_neg h59]
  have hs:∀ x:UInt8,x≠59→((c::r).take 2=[x,x]↔(c::r.takeWhile (· != 59)).take 2=[x,x])∧((c::r).take 2=[x,x]→(r.drop 1).takeWhile (· != 59)=(r.takeWhile (· != 59)).drop 1):=fun x hx=>by
   cases r with
   | nil=>exact ⟨Iff.rfl,fun _=>rfl⟩
   | cons b r=>
    rw [List.takeWhile_cons]
    by_cases hb:b=59
    ·subst hb
     refine ⟨⟨fun h=>?_,fun h=>?_⟩,fun h=>?_⟩
     ·exact absurd (List.cons.inj (List.cons.inj h).2).1.symm hx
     ·rw [if_neg (by decide)] at h;cases (List.cons.inj h).2
     ·exact absurd (List.cons.inj (List.cons.inj h).2).1.symm hx
    ·rw [if_pos (by rw [bne_iff_ne];exact hb)]
     exact ⟨Iff.rfl,fun _=>rfl⟩
  obtain ⟨s1,s2⟩:=hs 60 (by decide)
  obtain ⟨s3,s4⟩:=hs 62 (by decide)
  have hr1:(r.drop 1).length≤n:=by rw [List.length_drop];omega
  by_cases h4:(c::r).take 2=[60,60]∨(c::r).take 2=[62,62]
  ·have e2:(r.drop 1).takeWhile (· != 59)=(r.takeWhile (· != 59)).drop 1:=h4.elim s2 s4
   have h5:(c::r.takeWhile (· != 59)).take 2=[60,60]∨(c::r.takeWhile (· != 59)).take 2=[62,62]:=h4.imp s1.1 s3.1
   have e3:(c::r).take 2=(c::r.takeWhile (· != 59)).take 2:=by
    rcases h4 with h | h
    ·rw [h,s1.1 h]
    ·rw [h,s3.1 h]
   rw [if_pos h4,ih _ _ hr1,e2,e3,e,lexL_cons,if_neg h1,if_neg h2,if_neg h3,if_neg h59,if_pos h5]
  ·have h5:¬ ((c::r.takeWhile (· != 59)).take 2=[60,60]∨(c::r.takeWhile (· != 59)).take 2=[62,62]):=fun h=>h4 (h.imp s1.2 s3.2)
   rw [if_neg h4,e,lexL_cons,if_neg h1,if_neg h2,if_neg h3,if_neg h59,if_neg h5]
   split
   ·exact ih _ _ h
   ·rfl
theorem cut_lex (l:List UInt8) (out:List LTok):lexL l out=lexL (l.takeWhile (· != 59)) out:=lex_cut _ l out (Nat.le_refl _)
attribute [local irreducible] blankC digV puF puR spanF
theorem kinds_all:∀ k:Fin 256,numC (UInt8.ofNat k.val)=(digitB (UInt8.ofNat k.val) || (letterB (UInt8.ofNat k.val) && UInt8.ofNat k.val != 46)) ∧
  wordC (UInt8.ofNat k.val)=(letterB (UInt8.ofNat k.val) || digitB (UInt8.ofNat k.val) || UInt8.ofNat k.val==47) ∧
  blankC (UInt8.ofNat k.val)=(UInt8.ofNat k.val==32 || UInt8.ofNat k.val==9 || UInt8.ofNat k.val==13) ∧
  (letterB (UInt8.ofNat k.val)=true→kindB (UInt8.ofNat k.val)=97) ∧
  (letterB (UInt8.ofNat k.val)=false→digitB (UInt8.ofNat k.val)=true→kindB (UInt8.ofNat k.val)=48) ∧
  (letterB (UInt8.ofNat k.val)=false→digitB (UInt8.ofNat k.val)=false→blankC (UInt8.ofNat k.val)=false→kindB (UInt8.ofNat k.val)≠97∧kindB (UInt8.ofNat k.val)≠48∧kindB (UInt8.ofNat k.val)≠32):=by decide +kernel
theorem kinds_of (c:UInt8):numC c=(digitB c || (letterB c && c != 46))∧wordC c=(letterB c || digitB c || c==47)∧blankC c=(c==32 || c==9 || c==13)∧(letterB c=true→kindB c=97) ∧
  (letterB c=false→digitB c=true→kindB c=48)∧(letterB c=false→digitB c=false→blankC c=false→kindB c≠97∧kindB c≠48∧kindB c≠32):=by
 have:=kinds_all ⟨c.toNat,c.toNat_lt⟩
 simp only [UInt8.ofNat_toNat] at this
 exact this
theorem byte_beq (c d:UInt8):(((c.toNat:Nat):Int)==((d.toNat:Nat):Int))=(c==d):=by
 by_cases h:c=d
 ·rw [h];simp
 ·rw [beq_eq_false_iff_ne.2 h,beq_eq_false_iff_ne]
  intro e
  exact h (UInt8.toNat_inj.1 (by exact_mod_cast e))
theorem byte_no {c d:UInt8} (h:¬ ((c.toNat:Nat):Int)=((d.toNat:Nat):Int)):(c==d)=false:=by
 rw [← byte_beq];exact beq_eq_false_iff_ne.2 h
theorem byte_yes {c d:UInt8} (h:((c.toNat:Nat):Int)=((d.toNat:Nat):Int)):c=d:=UInt8.toNat_inj.1 (by exact_mod_cast h)
theorem blank_meets:Meets Tryz.prog n_scan_Tokens_1 (SpecP (fun _:UInt8=>True) (fun c=>[byteD c]) fun c=>.bool (blankC c)):=by
 refine meets_f tabOk Tryz.func50 rfl (by decide) fun c _=>?_
 refine ⟨Nat.le_refl _,by simp [Tryz.f50],fun E hE=>?_⟩
 have hk:=(kinds_of c).2.2.1
 rw [hk]
 refine vcOk _ ?_
 (all_goals refine qgp ?_<;>(repeat' first | exact trivial | intro hc | refine And.intro ?_ ?_)<;>refine Lf.mk ?_)
 ·obtain rfl:c=32:=byte_yes hc
  exact end_p (VS.mk (LeD.tt rfl))
 ·obtain rfl:c=9:=byte_yes hc
  exact end_p (VS.mk (LeD.tt rfl))
 ·have h1:(c==32)=false:=byte_no (by assumption)
  have h2:(c==9)=false:=byte_no hc
  exact end_p (VS.mk (LeD.of_eq (congrArg D.bool (by rw [h1,h2];exact byte_beq c 13))))
theorem word_meets:Meets Tryz.prog n_scan_Tokens_2 (SpecP (fun _:UInt8=>True) (fun c=>[byteD c]) fun c=>.bool (wordC c)):=by
 refine meets_f tabOk Tryz.func52 rfl (by decide) fun c _=>?_
 refine ⟨Nat.le_refl _,by simp [Tryz.f52],fun E hE=>?_⟩
 have hk:=(kinds_of c).2.1
 refine vcOk _ ?_
 (all_goals refine qgp (Lf.mk ?_))
 refine call_p letter_meets c trivial (VS.mk (LeL.of_eq rfl)) ?_
 generalize letterB c=x at *
 (all_goals refine qgp ?_<;>(repeat' first | exact trivial | intro hc | refine And.intro ?_ ?_)<;>refine Lf.mk ?_)
 all_goals (try refine call_p digit_meets c trivial (VS.mk (LeL.of_eq rfl)) ?_)
 generalize digitB c=y at *
 (all_goals refine qgp ?_<;>(repeat' first | exact trivial | intro hc | refine And.intro ?_ ?_)<;>refine Lf.mk ?_)
 ·exact end_p (VS.mk (LeD.tt (by rw [hk,hc];rfl)))
 ·exact end_p (VS.mk (LeD.tt (by rw [hk,hc,Bool.or_true];rfl)))
 ·have h1:x=false:=by assumption
  exact end_p (VS.mk (LeD.of_eq (congrArg D.bool (by rw [hk,hc,h1];exact byte_beq c 47))))
theorem numc_meets:Meets Tryz.prog n_scan_reader_number_1 (SpecP (fun _:UInt8=>True) (fun c=>[byteD c]) fun c=>.bool (numC c)):=by
 refine meets_f tabOk Tryz.func93 rfl (by decide) fun c _=>?_
 refine ⟨Nat.le_refl _,by simp [Tryz.f93],fun E hE=>?_⟩
 have hk:=(kinds_of c).1
 refine vcOk _ ?_
 (all_goals refine qgp (Lf.mk ?_))
 refine call_p digit_meets c trivial (VS.mk (LeL.of_eq rfl)) ?_
 generalize digitB c=x at *
 (all_goals refine qgp ?_<;>(repeat' first | exact trivial | intro hc | refine And.intro ?_ ?_)<;>refine Lf.mk ?_)
 all_goals (try refine call_p letter_meets c trivial (VS.mk (LeL.of_eq rfl)) ?_)
 generalize letterB c=y at *
 (all_goals refine qgp ?_<;>(repeat' first | exact trivial | intro hc | refine And.intro ?_ ?_)<;>refine Lf.mk ?_)
 ·exact end_p (VS.mk (LeD.tt (by rw [hk,hc];rfl)))
 ·have h1:x=false:=by assumption
  refine end_p (VS.mk (LeD.of_eq (congrArg D.bool ?_)))
  rw [hk,hc,h1]
  show (!(((c.toNat:Nat):Int)==46))= !(c==46)
  exact congrArg (!·) (byte_beq c 46)
 ·have h1:x=false:=by assumption
  exact end_p (VS.mk (LeD.ff (by rw [hk,hc,h1];rfl)))
theorem us_dig:digV 10 95= -1∧digV 16 95= -1:=by unfold digV;decide
theorem pu_us {b:Int} (hb:b=10∨b=16):∀ (s:List UInt8) (n:Int),(puF b s n).2=0→s.contains 95=false
 | [],n,h=>rfl
 | c::r,n,h=>by
  have hu:=us_dig
  rw [puF] at h
  split at h
  ·cases h
  rename_i hd
  split at h
  ·cases h
  have ih:=pu_us hb r _ h
  rw [List.contains_cons,ih,Bool.or_false,beq_eq_false_iff_ne]
  rintro rfl
  rcases hb with rfl | rfl<;>omega
def numTok (w:List UInt8):LTok×Int:=if (numR w).2=true then (⟨2,(numR w).1,[]⟩,0) else (⟨0,0,[]⟩,2)
def tokRD (p:LTok×Int):D:=.tup [ltokD p.1,.int .i64 p.2]
theorem numR_pu (w:List UInt8):(2 < w.length∧w.take 2=[48,120]→((puR 16 (w.drop 2)).2=0∧numR w=((puR 16 (w.drop 2)).1,true)∧0≤(puR 16 (w.drop 2)).1∧(puR 16 (w.drop 2)).1≤4294967295∧w.contains 95=false)∨((puR 16 (w.drop 2)).2≠0∧(numR w).2=false)) ∧
  (¬ (2 < w.length∧w.take 2=[48,120])→((puR 10 w).2=0∧numR w=((puR 10 w).1,true)∧0≤(puR 10 w).1∧(puR 10 w).1≤4294967295∧w.contains 95=false)∨((puR 10 w).2≠0∧(numR w).2=false)):=by
 have us:∀ {b:Int},(b=10∨b=16)→∀ s,(puR b s).2=0→s.contains 95=false:=fun {b} hb s h=>by
  unfold puR at h
  split at h
  ·cases h
  ·exact pu_us hb s 0 h
 constructor
 ·intro h
  have e:numR w=numRb 16 (w.drop 2):=by unfold numR;rw [if_pos h]
  rw [e]
  rcases pu_numR (.inr rfl) (w.drop 2) with ⟨h1,h2,h3,h4⟩ | h1
  ·left
   refine ⟨h1,h2,h3,h4,?_⟩
   have h5:=us (.inr rfl) _ h1
   rw [← List.take_append_drop 2 w,h.2,List.cons_append,List.cons_append,List.nil_append,List.contains_cons,List.contains_cons,h5]
   rfl
  ·exact .inr h1
 ·intro h
  have e:numR w=numRb 10 w:=by unfold numR;rw [if_neg h]
  rw [e]
  rcases pu_numR (.inl rfl) w with ⟨h1,h2,h3,h4⟩ | h1
  ·exact .inl ⟨h1,h2,h3,h4,us (.inl rfl) _ h1⟩
  ·exact .inr h1
theorem snumber_meets:Meets Tryz.prog n_scan_reader_number (SpecF (fun ((s,i):List UInt8×Nat)=>i≤s.length∧s.length≤1000000000) (fun _=>[.loc 0 0]) (fun (s,i)=>rdO s i)
  (fun (s,i)=>tokRD (numTok ((s.take (i+spanF numC (s.drop i))).drop i))) fun (s,i)=>rdO s (i+spanF numC (s.drop i))):=by
 refine meets_f tabOk Tryz.func54 rfl (by decide) ?_
 rintro ⟨s,i⟩ ⟨hi,hs⟩
 refine ⟨Nat.le_refl _,by simp [Tryz.f54],fun E hE=>?_⟩
 refine vcOk _ ?_
 (all_goals refine qgp (Lf.mk ?_))
 refine call_f (srun_meets numc_meets) [0] [0] (s,i) ⟨hi,hs⟩ rfl rfl ?_
 refine And.intro (VS.mk (LeL.of_eq rfl)) (And.intro (VS.mk rfl) ?_)
 dsimp only
 have hw:((s.take (i+spanF numC (s.drop i))).drop i).length≤1000000000:=by rw [List.length_drop,List.length_take];omega
 generalize (s.take (i+spanF numC (s.drop i))).drop i=w at *
 have hN:=numR_pu w
 (all_goals refine qgp (Lf.mk ?_))
 refine call_p parse_uint_meets (w,10) ⟨hw,.inl rfl⟩ (VS.mk (LeL.of_eq rfl)) ?_
 dsimp only
 generalize puR 10 w=R10 at *
 obtain ⟨n10,e10⟩:=R10
 dsimp only at hN ⊢
 have hbad:(numR w).2=false→numTok w=(⟨0,0,[]⟩,2):=fun h=>by unfold numTok;rw [h,if_neg (by decide)]
 have hgood:∀ n,numR w=(n,true)→numTok w=(⟨2,n,[]⟩,0):=fun n h=>by unfold numTok;rw [h];rfl
 have hdd:List.drop (Int.toNat 2) (List.take ((w.length:Int)).toNat w)=w.drop 2:=by rw [Int.toNat_natCast,List.take_length];rfl
 have hx:2 < w.length→List.drop (Int.toNat 0) (List.take (Int.toNat 2) w)=[48,120]→2 < w.length∧w.take 2=[48,120]:=fun h1 h2=>⟨h1,h2⟩
 by_cases hxx:2 < w.length∧w.take 2=[48,120]
 ·have hN:=hN.1 hxx
  have hx1:=hxx.1
  have hx2:List.drop (Int.toNat 0) (List.take (Int.toNat 2) w)=[48,120]:=hxx.2
  by_cases he:e10=0
  ·rw [if_pos he]
   (all_goals refine qgp ?_<;>(repeat' first | exact trivial | intro hc | refine And.intro ?_ ?_)<;>refine Lf.mk ?_)
   all_goals first
    | (exfalso;exact absurd hx2 (by assumption))
    | skip
   refine call_p parse_uint_meets (w.drop 2,16) ⟨by rw [List.length_drop];omega,.inr rfl⟩ (VS.mk (LeL.of_eq (by rw [hdd];try rfl))) ?_
   dsimp only
   generalize puR 16 (w.drop 2)=R16 at *
   obtain ⟨n16,e16⟩:=R16
   dsimp only at hN ⊢
   rcases hN with ⟨h1,h2,h3,h4,h5⟩ | ⟨h1,h2⟩
   ·rw [if_pos h1]
    (all_goals refine qgp ?_<;>(repeat' first | exact trivial | intro hc | refine And.intro ?_ ?_)<;>refine Lf.mk ?_)
    all_goals first
     | (exfalso;refine absurd trivial ?_;assumption)
     | (exfalso;exact Bool.noConfusion hc)
     | (exfalso;refine absurd hc ?_;decide)
     | skip
    refine call_p contains_meets (w,95) trivial (VS.mk (LeL.of_eq rfl)) ?_
    dsimp only
    rw [h5]
    (all_goals refine qgp ?_<;>(repeat' first | exact trivial | intro hc | refine And.intro ?_ ?_)<;>refine Lf.mk ?_)
    all_goals first
     | (exfalso;refine absurd trivial ?_;assumption)
     | (exfalso;exact Bool.noConfusion hc)
     | (exfalso;refine absurd hc ?_;decide)
     | skip
    refine end_mk (And.intro (VS.mk ?_) (VS.mk rfl))
    show _=tokRD (numTok w)
    rw [hgood _ h2];rfl
   ·rw [if_neg h1]
    (all_goals refine qgp ?_<;>(repeat' first | exact trivial | intro hc | refine And.intro ?_ ?_)<;>refine Lf.mk ?_)
    all_goals first
     | (exfalso;refine absurd trivial ?_;assumption)
     | (exfalso;exact Bool.noConfusion hc)
     | (exfalso;refine absurd hc ?_;decide)
     | skip
    refine end_mk (And.intro (VS.mk ?_) (VS.mk rfl))
    show _=tokRD (numTok w)
    rw [hbad h2];rfl
  ·rw [if_neg he]
   (all_goals refine qgp ?_<;>(repeat' first | exact trivial | intro hc | refine And.intro ?_ ?_)<;>refine Lf.mk ?_)
   all_goals first
    | (exfalso;exact absurd hx2 (by assumption))
    | skip
   refine call_p parse_uint_meets (w.drop 2,16) ⟨by rw [List.length_drop];omega,.inr rfl⟩ (VS.mk (LeL.of_eq (by rw [hdd];try rfl))) ?_
   dsimp only
   generalize puR 16 (w.drop 2)=R16 at *
   obtain ⟨n16,e16⟩:=R16
   dsimp only at hN ⊢
   rcases hN with ⟨h1,h2,h3,h4,h5⟩ | ⟨h1,h2⟩
   ·rw [if_pos h1]
    (all_goals refine qgp ?_<;>(repeat' first | exact trivial | intro hc | refine And.intro ?_ ?_)<;>refine Lf.mk ?_)
    all_goals first
     | (exfalso;refine absurd trivial ?_;assumption)
     | (exfalso;exact Bool.noConfusion hc)
     | (exfalso;refine absurd hc ?_;decide)
     | skip
    refine call_p contains_meets (w,95) trivial (VS.mk (LeL.of_eq rfl)) ?_
    dsimp only
    rw [h5]
    (all_goals refine qgp ?_<;>(repeat' first | exact trivial | intro hc | refine And.intro ?_ ?_)<;>refine Lf.mk ?_)
    all_goals first
     | (exfalso;refine absurd trivial ?_;assumption)
     | (exfalso;exact Bool.noConfusion hc)
     | (exfalso;refine absurd hc ?_;decide)
     | skip
    refine end_mk (And.intro (VS.mk ?_) (VS.mk rfl))
    show _=tokRD (numTok w)
    rw [hgood _ h2];rfl
   ·rw [if_neg h1]
    (all_goals refine qgp ?_<;>(repeat' first | exact trivial | intro hc | refine And.intro ?_ ?_)<;>refine Lf.mk ?_)
    all_goals first
     | (exfalso;refine absurd trivial ?_;assumption)
     | (exfalso;exact Bool.noConfusion hc)
     | (exfalso;refine absurd hc ?_;decide)
     | skip
    refine end_mk (And.intro (VS.mk ?_) (VS.mk rfl))
    show _=tokRD (numTok w)
    rw [hbad h2];rfl
 ·rcases hN.2 hxx with ⟨h1,h2,h3,h4,h5⟩ | ⟨h1,h2⟩
  ·rw [if_pos h1]
   (all_goals refine qgp ?_<;>(repeat' first | exact trivial | intro hc | refine And.intro ?_ ?_)<;>refine Lf.mk ?_)
   all_goals first
    | (exfalso;exact hxx (hx (by omega) (by assumption)))
    | (exfalso;refine absurd trivial ?_;assumption)
    | (exfalso;exact Bool.noConfusion hc)
    | (exfalso;refine absurd hc ?_;decide)
    | skip
   all_goals
    refine call_p contains_meets (w,95) trivial (VS.mk (LeL.of_eq rfl)) ?_
    dsimp only
    rw [h5]
   (all_goals refine qgp ?_<;>(repeat' first | exact trivial | intro hc | refine And.intro ?_ ?_)<;>refine Lf.mk ?_)
   all_goals first
    | (exfalso;refine absurd trivial ?_;assumption)
    | (exfalso;exact Bool.noConfusion hc)
    | skip
   all_goals
    refine end_mk (And.intro (VS.mk ?_) (VS.mk rfl))
    show _=tokRD (numTok w)
    rw [hgood _ h2];rfl
  ·rw [if_neg h1]
   (all_goals refine qgp ?_<;>(repeat' first | exact trivial | intro hc | refine And.intro ?_ ?_)<;>refine Lf.mk ?_)
   all_goals first
    | (exfalso;exact hxx (hx (by omega) (by assumption)))
    | (exfalso;refine absurd trivial ?_;assumption)
    | (exfalso;exact Bool.noConfusion hc)
    | (exfalso;refine absurd hc ?_;decide)
    | skip
   all_goals
    refine end_mk (And.intro (VS.mk ?_) (VS.mk rfl))
    show _=tokRD (numTok w)
    rw [hbad h2];rfl
end Go.Proofs.YtfahnaccpncdpaaGreatDoor
namespace Go.Proofs.YtfahnaccpncdpaaGreatDoor
open Go Go.Plat
set_option linter.unusedVariables false
set_option linter.unusedSimpArgs false
set_option maxRecDepth 100000
set_option maxHeartbeats 2000000
attribute [local irreducible] AWP Arith BitS BytesS CallS CatS DrawS EndS IdxS LookS LoopEnd Meets ModeS NilS NormL NormM QuoS RemS ShlS ShrS SideS SplitS bitI blankC digitB kindB letterB lexF lexL numC numR okC spanF wordC
def signT (s:List UInt8) (i:Nat):(LTok×Int)×Nat:=
 if (s.drop i).take 2=[60,60] then ((⟨3,0,[60,60]⟩,0),i+2) else if (s.drop i).take 2=[62,62] then ((⟨3,0,[62,62]⟩,0),i+2)
 else if signsB.contains (s.getD i 0)=true then ((⟨3,0,[s.getD i 0]⟩,0),i+1) else ((⟨0,0,[]⟩,2),i)
def tokRD' (p:LTok×Int):D:=.tup [ltokD p.1,.int .i64 p.2]
theorem ssign_meets:Meets Tryz.prog n_scan_reader_sign (SpecF (fun ((s,i):List UInt8×Nat)=>i < s.length∧s.length≤1000000000) (fun _=>[.loc 0 0]) (fun (s,i)=>rdO s i)
  (fun (s,i)=>tokRD' (signT s i).1) fun (s,i)=>rdO s (signT s i).2):=by
 refine meets_f tabOk Tryz.func55 rfl (by decide) ?_
 rintro ⟨s,i⟩ ⟨hi,hs⟩
 refine ⟨Nat.le_refl _,by simp [Tryz.f55],fun E hE=>?_⟩
 have hi:i < s.length:=hi
 have hs:s.length≤1000000000:=hs
 refine vcOk _ ?_
 (all_goals refine qgp (Lf.mk ?_))
 refine awp_loop (α:=Nat) (fun k=>k≤2∧(1≤k→(s.drop i).take 2≠[60,60])∧(2≤k→(s.drop i).take 2≠[62,62]))
  (fun k=>[(0,.loc 0 0),(2,.loc 1 0),(7,.sl 1 [.str [60,60],.str [62,62]] none),(8,.int .i64 2),(9,.int .i64 k)])
  (fun k=>rdO s i++[.cells [.int .i64 0,.int .i64 0,.str []]]) (fun k=>2 - k) (fun _=>by simp [hE,rdO]) 0 ⟨by decide,fun h=>absurd h (by decide),fun h=>absurd h (by decide)⟩ ?_ ?_
 ·(repeat' (first | (refine VS.mk ?_) | exact trivial | exact rfl | refine And.intro ?_ ?_))
 rintro k ⟨hk,h1,h2⟩
 have hd:∀ x:List UInt8,x.length=2→(decide ((s.drop i).take x.length=x)=true↔(s.drop i).take 2=x):=fun x hx=>by rw [hx,decide_eq_true_iff]
 have hk3:k=0∨k=1∨k=2:=by omega
 rcases hk3 with rfl | rfl | rfl
 all_goals refine vcOk _ ?_
 (all_goals refine qgp ?_<;>(repeat' first | exact trivial | intro hc | refine And.intro ?_ ?_)<;>refine Lf.mk ?_)
 ·refine call_p prefix_meets (s.drop i,[60,60]) ⟨by rw [List.length_drop];omega,by decide⟩ (VS.mk (LeL.of_eq (by rw [Int.toNat_natCast,Int.toNat_natCast,List.take_length]))) ?_
  (all_goals refine qgp ?_<;>(repeat' first | exact trivial | intro hc | refine And.intro ?_ ?_)<;>refine Lf.mk ?_)
  ·have h:=(hd [60,60] rfl).1 (by simpa using hc)
   have e:signT s i=((⟨3,0,[60,60]⟩,0),i+2):=by unfold signT;rw [if_pos h]
   refine end_mk (And.intro (VS.mk ?_) (VS.mk ?_))
   ·show _=tokRD' (signT s i).1
    rw [e];rfl
   ·show _=rdO s (signT s i).2
    rw [e];rfl
  ·have h:(s.drop i).take 2≠[60,60]:=fun h=>absurd ((hd [60,60] rfl).2 h) (by simpa using hc)
   refine loop_end 1 ⟨by decide,fun _=>h,fun h=>absurd h (by decide)⟩ (by decide) ?_
   (repeat' (first | (refine VS.mk ?_) | exact trivial | exact rfl | refine And.intro ?_ ?_))
 ·refine call_p prefix_meets (s.drop i,[62,62]) ⟨by rw [List.length_drop];omega,by decide⟩ (VS.mk (LeL.of_eq (by rw [Int.toNat_natCast,Int.toNat_natCast,List.take_length]))) ?_
  (all_goals refine qgp ?_<;>(repeat' first | exact trivial | intro hc | refine And.intro ?_ ?_)<;>refine Lf.mk ?_)
  ·have h:=(hd [62,62] rfl).1 (by simpa using hc)
   have e:signT s i=((⟨3,0,[62,62]⟩,0),i+2):=by unfold signT;rw [if_neg (h1 (by decide)),if_pos h]
   refine end_mk (And.intro (VS.mk ?_) (VS.mk ?_))
   ·show _=tokRD' (signT s i).1
    rw [e];rfl
   ·show _=rdO s (signT s i).2
    rw [e];rfl
  ·have h:(s.drop i).take 2≠[62,62]:=fun h=>absurd ((hd [62,62] rfl).2 h) (by simpa using hc)
   refine loop_end 2 ⟨by decide,fun _=>h1 (by decide),fun _=>h⟩ (by decide) ?_
   (repeat' (first | (refine VS.mk ?_) | exact trivial | exact rfl | refine And.intro ?_ ?_))
 ·have hone:List.drop ((i:Int)).toNat (List.take ((i:Int)+1).toNat s)=[s.getD i 0]:=by
   rw [Int.toNat_natCast,show ((i:Int)+1).toNat=i+1 by omega,List.drop_take,drop_cons (d:=0) hi,show i+1 - i=1 by omega];rfl
  refine call_p contains_meets (signsB,s.getD i 0) trivial (VS.mk (LeL.of_eq (by rw [hone];rfl))) ?_
  (all_goals refine qgp ?_<;>(repeat' first | exact trivial | intro hc | refine And.intro ?_ ?_)<;>refine Lf.mk ?_)
  ·have e:signT s i=((⟨0,0,[]⟩,2),i):=by unfold signT;rw [if_neg (h1 (by decide)),if_neg (h2 (by decide)),if_neg (by rw [hc];decide)]
   refine end_mk (And.intro (VS.mk ?_) (VS.mk ?_))
   ·show _=tokRD' (signT s i).1
    rw [e];rfl
   ·show _=rdO s (signT s i).2
    rw [e];rfl
  ·have e:signT s i=((⟨3,0,[s.getD i 0]⟩,0),i+1):=by unfold signT;rw [if_neg (h1 (by decide)),if_neg (h2 (by decide)),if_pos hc]
   refine end_mk (And.intro (VS.mk ?_) (VS.mk ?_))
   ·show _=tokRD' (signT s i).1
    rw [e,hone];rfl
   ·show _=rdO s (signT s i).2
    rw [e];rfl
attribute [local irreducible] digV numTok puF puR signT
theorem tw_mem {p:UInt8→Bool}:∀ {l:List UInt8} {x:UInt8},x∈l.takeWhile p→p x=true
 | [],x,h=>by simp at h
 | a::l,x,h=>by
  rw [List.takeWhile_cons] at h
  split at h
  ·rename_i ha
   rcases List.mem_cons.1 h with rfl | h
   ·exact ha
   ·exact tw_mem h
  ·simp at h
theorem scan_tokens_meets:Meets Tryz.prog n_scan_Tokens (SpecP (fun s:List UInt8=>s.length≤1000000000) (fun s=>[.str s]) fun s=>lexRD (lexR s)):=by
 refine meets_f tabOk Tryz.func35 rfl (by decide) ?_
 intro s hs
 refine ⟨Nat.le_refl _,by simp [Tryz.f35],fun E hE=>?_⟩
 have hR:=lexR_eq s
 refine vcOk _ ?_
 (all_goals refine qgp ?_<;>(repeat' first | exact trivial | intro hc | refine And.intro ?_ ?_)<;>refine Lf.mk ?_)
 ·rw [if_pos (by omega)] at hR
  refine end_p (VS.mk ?_)
  rw [hR]
  exact .tup (.cons (.nil 3) (.cons (.refl _) .nil))
 rw [if_neg (by omega)] at hR
 refine call_p cut_meets (s,59) hs (VS.mk (LeL.of_eq rfl)) ?_
 unfold cutD cutT
 dsimp only
 have hno:∀ x∈s.takeWhile (· != 59),x≠59:=fun x hx=>by
  have:=tw_mem hx
  simpa using this
 have hul:(s.takeWhile (· != 59)).length≤s.length:=(List.takeWhile_prefix _).length_le
 rw [cut_lex] at hR
 generalize s.takeWhile (· != 59)=u at *
 (all_goals refine qgp (Lf.mk ?_))
 refine awp_weak (weak_nil 5 3 rfl) ?_
 refine awp_loop (α:=Nat×List LTok) (fun p=>p.1≤u.length∧p.2.length≤p.1∧lexL u []=lexL (u.drop p.1) p.2)
  (fun p=>[(4,.loc 0 0),(5,.sl 3 (p.2.map ltokD) (some 1))])
  (fun p=>rdO u p.1++[.spare p.2.length]) (fun p=>u.length - p.1) (fun _=>by simp [hE]) (0,[]) ⟨Nat.zero_le _,Nat.le_refl _,rfl⟩ ?_ ?_
 ·(repeat' (first | (refine VS.mk ?_) | exact trivial | exact rfl | refine And.intro ?_ ?_))
 rintro ⟨i,out⟩ ⟨hi,ho,hf⟩
 dsimp only at hi ho hf ⊢
 have hj1:i+spanF blankC (u.drop i)≤u.length:=by have:=span_le blankC (u.drop i);rw [List.length_drop] at this;omega
 have hj2:lexL u []=lexL (u.drop (i+spanF blankC (u.drop i))) out:=by rw [hf,lex_skip,List.drop_drop]
 have hj3:i+spanF blankC (u.drop i) < u.length→blankC (u.getD (i+spanF blankC (u.drop i)) 0)=false:=fun h=>by
  have:=span_end blankC (u.drop i) (by rw [List.length_drop];omega)
  rwa [List.getD_eq_getElem?_getD,List.getElem?_drop,← List.getD_eq_getElem?_getD] at this
 have hj4:i≤i+spanF blankC (u.drop i):=Nat.le_add_right _ _
 refine vcOk _ ?_
 (all_goals refine qgp (Lf.mk ?_))
 refine call_f (srun_meets blank_meets) [0] [0] (u,i) ⟨hi,by omega⟩ rfl rfl ?_
 refine And.intro (VS.mk (LeL.of_eq rfl)) (And.intro (VS.mk rfl) ?_)
 dsimp only
 generalize i+spanF blankC (u.drop i)=j at *
 (all_goals refine qgp ?_<;>(repeat' first | exact trivial | intro hc | refine And.intro ?_ ?_)<;>refine Lf.mk ?_)
 ·rw [List.drop_of_length_le (by omega),lexL_nil] at hj2
  rw [hj2] at hR
  refine end_p (VS.mk ?_)
  rw [hR]
  (first | exact LeL.refl _ | (repeat' (first | exact LeL.nil | exact LeD.refl _ | exact LeD.nil _ | exact LeD.strip _ _ _ | refine LeL.cons ?_ ?_ | refine LeD.tup ?_ | refine LeD.agg ?_)))
 have hjl:j < u.length:=by omega
 obtain ⟨c,hcx⟩:∃ c,u.getD j 0=c:=⟨_,rfl⟩
 obtain ⟨r,hr⟩:∃ r,u.drop (j+1)=r:=⟨_,rfl⟩
 have hd:u.drop j=c::r:=by rw [drop_cons (d:=0) hjl,hcx,hr]
 have h59:c≠59:=hno c (by rw [← hcx,List.getD_eq_getElem?_getD,List.getElem?_eq_getElem hjl];exact List.getElem_mem hjl)
 have hK:=kinds_of c
 have hbl:=hj3 hjl
 rw [hcx] at hbl
 rw [hd,lexL_cons] at hj2
 refine call_p letter_meets c trivial (VS.mk (LeL.of_eq (by rw [Int.toNat_natCast,hcx];rfl))) ?_
 (all_goals refine qgp ?_<;>(repeat' first | exact trivial | intro hc | refine And.intro ?_ ?_)<;>refine Lf.mk ?_)
 ·have hk97:=hK.2.2.2.1 hc
  have h1:=word_first (r:=r) hk97
  have h2:=span_le wordC (c::r)
  rw [if_neg (by rw [hk97];decide),if_pos hk97,← hd,List.drop_drop] at hj2
  rw [← hd] at h1 h2
  rw [List.length_drop] at h2
  refine call_f (srun_meets word_meets) [0] [0] (u,j) ⟨hj1,by omega⟩ rfl rfl ?_
  refine And.intro (VS.mk (LeL.of_eq rfl)) (And.intro (VS.mk rfl) ?_)
  dsimp only
  rw [List.drop_take,Nat.add_sub_cancel_left]
  generalize spanF wordC (u.drop j)=sp at *
  (all_goals refine qgp ?_<;>(repeat' first | exact trivial | intro hc | refine And.intro ?_ ?_)<;>refine Lf.mk ?_)
  all_goals first
   | (exfalso;refine absurd hc ?_;decide)
   | skip
  refine loop_end (j+sp,out++[⟨1,0,(u.drop j).take sp⟩]) ⟨by dsimp only;omega,by dsimp only;rw [List.length_append,List.length_cons,List.length_nil];omega,hj2⟩ (by dsimp only;omega) ?_
  (repeat' (first | (refine VS.mk ?_) | exact trivial | exact rfl | refine And.intro ?_ ?_))
  all_goals (first | rfl | simp [ltokD,rdO])
 refine call_p digit_meets c trivial (VS.mk (LeL.of_eq (by rw [Int.toNat_natCast,hcx];rfl))) ?_
 have hl:letterB c=false:=hc
 (all_goals refine qgp ?_<;>(repeat' first | exact trivial | intro hc | refine And.intro ?_ ?_)<;>refine Lf.mk ?_)
 ·have hk48:=hK.2.2.2.2.1 hl hc
  have h1:=num_first (r:=r) hk48
  have h2:=span_le numC (c::r)
  rw [if_neg (by rw [hk48];decide),if_neg (by rw [hk48];decide),if_pos hk48,← hd,List.drop_drop] at hj2
  rw [← hd] at h1 h2
  rw [List.length_drop] at h2
  refine call_f snumber_meets [0] [0] (u,j) ⟨hj1,by omega⟩ rfl rfl ?_
  refine And.intro (VS.mk (LeL.of_eq rfl)) (And.intro (VS.mk rfl) ?_)
  dsimp only
  rw [List.drop_take,Nat.add_sub_cancel_left]
  generalize spanF numC (u.drop j)=sp at *
  generalize (u.drop j).take sp=w at *
  have hT:numTok w=if (numR w).2=true then (⟨2,(numR w).1,[]⟩,0) else (⟨0,0,[]⟩,2):=by unfold numTok;rfl
  by_cases hn:(numR w).2=true
  ·rw [if_pos hn] at hj2 hT
   rw [hT]
   (all_goals refine qgp ?_<;>(repeat' first | exact trivial | intro hc | refine And.intro ?_ ?_)<;>refine Lf.mk ?_)
   all_goals first
    | (exfalso;refine absurd hc ?_;decide)
    | skip
   refine loop_end (j+sp,out++[⟨2,(numR w).1,[]⟩]) ⟨by dsimp only;omega,by dsimp only;rw [List.length_append,List.length_cons,List.length_nil];omega,hj2⟩ (by dsimp only;omega) ?_
   (repeat' (first | (refine VS.mk ?_) | exact trivial | exact rfl | refine And.intro ?_ ?_))
   all_goals (first | rfl | simp [ltokD,rdO])
  ·rw [if_neg hn] at hj2 hT
   rw [hT]
   rw [hj2] at hR
   (all_goals refine qgp ?_<;>(repeat' first | exact trivial | intro hc | refine And.intro ?_ ?_)<;>refine Lf.mk ?_)
   all_goals first
    | (exfalso;refine absurd hc ?_;decide)
    | skip
   refine end_p (VS.mk ?_)
   rw [hR]
   exact .tup (.cons (.nil 3) (.cons (.refl _) .nil))
 ·obtain ⟨k1,k2,k3⟩:=hK.2.2.2.2.2 hl hc hbl
  rw [if_neg k3,if_neg k1,if_neg k2,if_neg h59] at hj2
  refine call_f ssign_meets [0] [0] (u,j) ⟨hjl,by omega⟩ rfl rfl ?_
  refine And.intro (VS.mk (LeL.of_eq rfl)) (And.intro (VS.mk rfl) ?_)
  dsimp only
  have hS:signT u j=if (u.drop j).take 2=[60,60] then ((⟨3,0,[60,60]⟩,0),j+2) else if (u.drop j).take 2=[62,62] then ((⟨3,0,[62,62]⟩,0),j+2)
    else if signsB.contains (u.getD j 0)=true then ((⟨3,0,[u.getD j 0]⟩,0),j+1) else ((⟨0,0,[]⟩,2),j):=by unfold signT;rfl
  rw [hcx,hd] at hS
  have hr1:r.drop 1=u.drop (j+2):=by rw [← hr,List.drop_drop]
  have two:∀ x:UInt8,(c::r).take 2=[x,x]→j+2≤u.length:=fun x h=>by
   have:=congrArg List.length h
   rw [← hd,List.length_take,List.length_drop] at this
   simp at this
   omega
  by_cases q1:(c::r).take 2=[60,60]
  ·have:=two 60 q1
   rw [if_pos (.inl q1),hr1,q1] at hj2
   rw [if_pos q1] at hS
   rw [hS]
   (all_goals refine qgp ?_<;>(repeat' first | exact trivial | intro hc | refine And.intro ?_ ?_)<;>refine Lf.mk ?_)
   all_goals first
    | (exfalso;refine absurd hc ?_;decide)
    | skip
   refine loop_end (j+2,out++[⟨3,0,[60,60]⟩]) ⟨by dsimp only;omega,by dsimp only;rw [List.length_append,List.length_cons,List.length_nil];omega,hj2⟩ (by dsimp only;omega) ?_
   (repeat' (first | (refine VS.mk ?_) | exact trivial | exact rfl | refine And.intro ?_ ?_))
   all_goals (first | rfl | simp [ltokD,rdO])
  by_cases q2:(c::r).take 2=[62,62]
  ·have:=two 62 q2
   rw [if_pos (.inr q2),hr1,q2] at hj2
   rw [if_neg q1,if_pos q2] at hS
   rw [hS]
   (all_goals refine qgp ?_<;>(repeat' first | exact trivial | intro hc | refine And.intro ?_ ?_)<;>refine Lf.mk ?_)
   all_goals first
    | (exfalso;refine absurd hc ?_;decide)
    | skip
   refine loop_end (j+2,out++[⟨3,0,[62,62]⟩]) ⟨by dsimp only;omega,by dsimp only;rw [List.length_append,List.length_cons,List.length_nil];omega,hj2⟩ (by dsimp only;omega) ?_
   (repeat' (first | (refine VS.mk ?_) | exact trivial | exact rfl | refine And.intro ?_ ?_))
   all_goals (first | rfl | simp [ltokD,rdO])
  rw [if_neg (fun h=>h.elim q1 q2)] at hj2
  rw [if_neg q1,if_neg q2] at hS
  by_cases q3:signsB.contains c=true
  ·rw [if_pos q3,← hr] at hj2
   rw [if_pos q3] at hS
   rw [hS]
   (all_goals refine qgp ?_<;>(repeat' first | exact trivial | intro hc | refine And.intro ?_ ?_)<;>refine Lf.mk ?_)
   all_goals first
    | (exfalso;refine absurd hc ?_;decide)
    | skip
   refine loop_end (j+1,out++[⟨3,0,[c]⟩]) ⟨by dsimp only;omega,by dsimp only;rw [List.length_append,List.length_cons,List.length_nil];omega,hj2⟩ (by dsimp only;omega) ?_
   (repeat' (first | (refine VS.mk ?_) | exact trivial | exact rfl | refine And.intro ?_ ?_))
   all_goals (first | rfl | simp [ltokD,rdO])
  ·rw [if_neg q3] at hj2 hS
   rw [hS]
   rw [hj2] at hR
   (all_goals refine qgp ?_<;>(repeat' first | exact trivial | intro hc | refine And.intro ?_ ?_)<;>refine Lf.mk ?_)
   all_goals first
    | (exfalso;refine absurd hc ?_;decide)
    | skip
   refine end_p (VS.mk ?_)
   rw [hR]
   exact .tup (.cons (.nil 3) (.cons (.refl _) .nil))
end Go.Proofs.YtfahnaccpncdpaaGreatDoor
namespace Go.Proofs.YtfahnaccpncdpaaGreatDoor
open Go Go.Plat
set_option linter.unusedVariables false
set_option linter.unusedSimpArgs false
set_option maxRecDepth 100000
set_option maxHeartbeats 2000000
attribute [local irreducible] AWP Arith BitS BytesS CallS CatS DrawS EndS IdxS LookS LoopEnd Meets ModeS NilS NormL NormM QuoS RemS ShlS ShrS SideS SplitS bitI digitB kindB letterB lexF lexL numC numR okC spanF wordC
def splitC (c:UInt8):List UInt8→List (List UInt8)
 | []=>[[]]
 | b::l=>if b=c then []::splitC c l else match splitC c l with
  | []=>[[b]]
  | x::r=>(b::x)::r
theorem split_len (c:UInt8):∀ s,(splitC c s).length=s.count c+1
 | []=>rfl
 | b::l=>by
  have ih:=split_len c l
  rw [splitC,List.count_cons]
  by_cases h:b=c
  ·rw [if_pos h,h];simp;omega
  ·rw [if_neg h]
   have e:(b==c)=false:=beq_eq_false_iff_ne.2 h
   rw [e]
   cases hl:splitC c l with
   | nil=>rw [hl] at ih;simp at ih
   | cons x r=>rw [hl] at ih;simpa using ih
theorem split_has (c:UInt8):∀ s:List UInt8,(s.contains c=false→splitC c s=[s])∧(s.contains c=true→splitC c s=s.takeWhile (· != c)::splitC c ((s.dropWhile (· != c)).drop 1))
 | []=>⟨fun _=>rfl,fun h=>by simp at h⟩
 | b::l=>by
  obtain ⟨h1,h2⟩:=split_has c l
  rw [splitC,List.contains_cons,List.takeWhile_cons,List.dropWhile_cons]
  by_cases h:b=c
  ·subst h
   refine ⟨fun h=>by simp at h,fun _=>?_⟩
   rw [if_pos rfl]
   simp
  ·have e:(b==c)=false:=beq_eq_false_iff_ne.2 h
   have e1:(c==b)=false:=beq_eq_false_iff_ne.2 fun q=>h q.symm
   have e2:(b != c)=true:=by simp [bne,e]
   rw [if_neg h,e1,Bool.false_or,e2,if_pos rfl,if_pos rfl]
   refine ⟨fun h=>by rw [h1 h],fun h=>by rw [h2 h]⟩
theorem count_drop (c:UInt8) (s:List UInt8) (h:s.contains c=true):s.count c=((s.dropWhile (· != c)).drop 1).count c+1:=by
 have h1:=split_len c s
 rw [(split_has c s).2 h,List.length_cons,split_len] at h1
 omega
theorem count_pos {c:UInt8} {s:List UInt8} (h:0 < s.count c):s.contains c=true:=by
 rw [List.contains_iff_mem]
 exact List.count_pos_iff.1 h
theorem count_none {c:UInt8} {s:List UInt8} (h:s.count c=0):s.contains c=false:=by
 cases e:s.contains c with
 | false=>rfl
 | true=>
  rw [List.contains_iff_mem] at e
  have:=List.count_pos_iff.2 e
  omega
theorem norm_rep {n:Nat} {x:D} {K:List D→Nat→Prop} (h:K (List.replicate n x) n):NormL (List.replicate n x) K:=by unfold NormL;rw [List.length_replicate];exact h
def splA (pre:List (List UInt8)) (m:Nat):List D:=(pre++List.replicate m []).map D.str
theorem splA_set (pre:List (List UInt8)) (m:Nat) (x:List UInt8):(splA pre (m+1)).set pre.length (.str x)=splA (pre++[x]) m:=by
 unfold splA
 rw [← List.map_set,List.set_append_right _ _ (Nat.le_refl _),Nat.sub_self,List.replicate_succ,List.set_cons_zero,List.append_assoc]
 rfl
theorem splA_len (pre:List (List UInt8)) (m:Nat):(splA pre m).length=pre.length+m:=by unfold splA;simp
theorem rens_strs {m:Nat→Option Nat} {ds:List D} {K:List D→Prop} (l:List (List UInt8)) (h:ds=l.map D.str) (hK:K (l.map D.str)):RenS m ds K:=by
 subst h
 have hp:∀ (c:List UInt8),RenOf m (D.str c) (D.str c):=fun c=>renOf_pure trivial
 refine ⟨l.map D.str,⟨rfl,fun i d d' h1 h2=>?_⟩,fun i d d' h1 h2=>?_,hK⟩
 all_goals
  rw [h1] at h2
  cases h2
  simp only [List.getElem?_map,Option.map_eq_some_iff] at h1
  obtain ⟨c,_,rfl⟩:=h1
 ·exact hp c
 ·refine ⟨rfl,rfl,fun j x x' h3 h4=>?_⟩
  rw [h3] at h4
  cases h4
  cases j with
  | zero=>simp [D.cells] at h3;subst h3;exact hp c
  | succ j=>simp [D.cells] at h3
theorem strip_strs (l:List (List UInt8)):StripEls (l.map D.str) (l.map D.str):=by
 refine ⟨rfl,fun i d d' h1 h2=>?_⟩
 rw [h1] at h2
 cases h2
 simp only [List.getElem?_map,Option.map_eq_some_iff] at h1
 obtain ⟨c,_,rfl⟩:=h1
 refine ⟨rfl,rfl,fun j x x' h3 h4=>?_⟩
 rw [h3] at h4
 cases h4
 cases j with
 | zero=>
  simp [D.cells] at h3
  subst h3
  intro w F ρ L v h
  cases h with | pure _ _ h=>exact h
 | succ j=>simp [D.cells] at h3
theorem norm_to {ds ds':List D} {n:Nat} {K:List D→Nat→Prop} (h:ds=ds') (hn:ds'.length=n) (hK:K ds' n):NormL ds K:=by unfold NormL;subst h;rw [hn];exact hK
theorem ix_splA {pre:List (List UInt8)} {m:Nat} {n:Int} {K:D→Prop} (hn:n=pre.length) (h:K (.str [])):IdxS (splA pre (m+1)) n K:=
 ix_map (enc:=D.str) [] (by omega) (by rw [hn,Int.toNat_natCast,List.getElem?_append_right (Nat.le_refl _),Nat.sub_self];rfl) h
attribute [local irreducible] splA
theorem gsplit_meets:Meets Tryz.prog n_strings_genSplit (SpecP (fun ((s,c):List UInt8×UInt8)=>s.length≤1000000) (fun (s,c)=>[.str s,.str [c],.int .i64 0,.int .i64 (-1)]) fun (s,c)=>.sl 1 ((splitC c s).map .str) none):=by
 refine meets_f tabOk Tryz.func47 rfl (by decide) ?_
 rintro ⟨s,c⟩ hs
 have hs:s.length≤1000000:=hs
 have hcl:=List.count_le_length (a:=c) (l:=s)
 refine ⟨Nat.le_refl _,by simp [Tryz.f47],fun E hE=>?_⟩
 refine vcOk _ ?_
 (all_goals refine qgp ?_<;>(repeat' first | exact trivial | intro hc | refine And.intro ?_ ?_)<;>refine Lf.mk ?_)
 all_goals first
  | (exfalso;exact List.cons_ne_nil _ _ hc)
  | skip
 refine call_p count_meets (s,c) trivial (VS.mk (LeL.of_eq rfl)) ?_
 have hmin:min ((s.count c:Int)+1) ((s.length:Int)+1)=((s.count c+1:Nat):Int):=by omega
 (all_goals refine qgs (Lf.mk ?_))
 refine md_r ?_
 refine VS.mk (sd_mk ?_ (VS.mk ?_))
 ·dsimp only
  refine ⟨by omega,rfl,?_,by omega⟩
  show min ((s.count c:Int)+1) ((s.length:Int)+1) * ((16:Nat):Int)≤_
  omega
 dsimp only
 rw [hmin,Int.toNat_natCast]
 refine norm_rep ?_
 (all_goals refine qgo (Lf.mk ?_))
 refine awp_loop (α:=List (List UInt8)×List UInt8) (fun p=>splitC c s=p.1++splitC c p.2∧p.2.length≤s.length∧p.1.length+p.2.count c=s.count c)
  (fun p=>[(0,.str p.2),(1,.str [c]),(2,.int .i64 0),(3,.int .i64 (s.count c)),(9,.osl 1 0 (s.count c+1) 0 (s.count c+1)),(10,.int .i64 p.1.length)])
  (fun p=>[.arr 1 (splA p.1 (s.count c+1 - p.1.length))]) (fun p=>p.2.count c) (fun _=>by simp [hE]) ([],s) ⟨rfl,Nat.le_refl _,by simp⟩ ?_ ?_
 ·(repeat' (first | (refine VS.mk ?_) | exact trivial | exact rfl | refine And.intro ?_ ?_))
  ·refine rens_strs (List.replicate (s.count c+1) []) (by rw [List.map_replicate];rfl) ?_
   (repeat' (first | (refine VS.mk ?_) | exact trivial | exact rfl | refine And.intro ?_ ?_))
   unfold splA
   rfl
  ·exact congrArg (D.int .i64) (by omega)
 rintro ⟨pre,rest⟩ ⟨hsp,hrl,hct⟩
 dsimp only at hsp hrl hct ⊢
 have hsl:=splA_len pre (s.count c - pre.length+1)
 have hm1:s.count c+1 - pre.length=s.count c - pre.length+1:=by omega
 have hset:=fun x=>splA_set pre (s.count c - pre.length) x
 have hsl2:=fun x=>splA_len (pre++[x]) (s.count c - pre.length)
 rw [hm1]
 refine vcOk _ ?_
 (all_goals refine qgo ?_<;>(repeat' first | exact trivial | intro hc | refine And.intro ?_ ?_)<;>refine Lf.mk ?_)
 ·have hct2:rest.contains c=true:=count_pos (by omega)
  have hcd:=count_drop c rest hct2
  have hi:=index_has c rest
  have hb: -1≤Lib.indexByte rest c∧Lib.indexByte rest c≤rest.length∧(0≤Lib.indexByte rest c→Lib.indexByte rest c < rest.length):=by omega
  have hl1:([c]:List UInt8).length=1:=rfl
  have hpos:0≤Lib.indexByte rest c:=by
   rcases hi with ⟨_,h2,_⟩ | ⟨h1,_⟩
   ·rw [hct2] at h2;cases h2
   ·exact h1
  refine call_p sindex_meets (rest,c) trivial (VS.mk (LeL.of_eq rfl)) ?_
  (all_goals refine qgp ?_<;>(repeat' first | exact trivial | intro hc | refine And.intro ?_ ?_)<;>refine Lf.mk ?_)
  refine ix_splA (by omega) ?_
  refine VS.mk ?_
  rcases hi with ⟨h1,_⟩ | ⟨_,_,h3,h4,h5⟩
  ·omega
  have hsp2:=(split_has c rest).2 hct2
  rw [← h4] at hsp2 hcd
  generalize Lib.indexByte rest c=ix at *
  generalize hT:rest.takeWhile (· != c)=tw at *
  have htw:rest.take tw.length=tw:=by rw [← hT];exact take_len _ rest
  subst h3
  have hdl:(rest.drop (tw.length+1)).length≤rest.length:=by rw [List.length_drop];omega
  refine norm_to (ds':=splA (pre++[tw]) (s.count c - pre.length)) (n:=s.count c+1) ?_ ?_ ?_
  ·rw [← hset tw,Nat.zero_add,Int.toNat_natCast,show ((tw.length:Int)+0).toNat=tw.length by omega,htw]
   rfl
  ·rw [hsl2 tw,List.length_append,List.length_cons,List.length_nil];omega
  (all_goals refine qgp (Lf.mk ?_))
  have g1:splitC c s=(pre++[tw])++splitC c (rest.drop (tw.length+1)):=by rw [hsp,hsp2,List.append_assoc];rfl
  have g2:(pre++[tw]).length+(rest.drop (tw.length+1)).count c=s.count c:=by rw [List.length_append,List.length_cons,List.length_nil];omega
  refine loop_end (pre++[tw],rest.drop (tw.length+1)) ⟨g1,by dsimp only;omega,g2⟩ (by dsimp only;omega) ?_
  (repeat' (first | (refine VS.mk ?_) | exact trivial | exact rfl | refine And.intro ?_ ?_))
  ·refine rens_strs ((pre++[tw])++List.replicate (s.count c - pre.length) []) (by unfold splA;rfl) ?_
   (repeat' (first | (refine VS.mk ?_) | exact trivial | exact rfl | refine And.intro ?_ ?_))
   show _=[Ob.arr 1 (splA (pre++[tw]) (s.count c+1 - (pre++[tw]).length))]
   rw [show s.count c+1 - (pre++[tw]).length=s.count c - pre.length by rw [List.length_append,List.length_cons,List.length_nil];omega]
   unfold splA
   rfl
  ·refine congrArg D.str ?_
   dsimp only
   rw [hl1,Int.toNat_natCast,List.take_length,show ((tw.length:Int)+((1:Nat):Int)).toNat=tw.length+1 by omega]
  ·refine congrArg (D.int .i64) ?_
   dsimp only
   rw [List.length_append,List.length_cons,List.length_nil];omega
 ·refine ix_splA (by omega) ?_
  refine VS.mk ?_
  have hno:=(split_has c rest).1 (count_none (by omega))
  refine norm_to (ds':=splA (pre++[rest]) (s.count c - pre.length)) (n:=s.count c+1) ?_ ?_ ?_
  ·rw [← hset rest,Nat.zero_add,Int.toNat_natCast]
  ·rw [hsl2 rest,List.length_append,List.length_cons,List.length_nil];omega
  (all_goals refine qgp (Lf.mk ?_))
  have hfin:splA (pre++[rest]) (s.count c - pre.length)=(splitC c s).map D.str:=by
   rw [hsp,hno,show s.count c - pre.length=0 by omega]
   unfold splA
   rw [List.replicate_zero,List.append_nil]
  rw [hfin]
  have hfl:((splitC c s).map D.str).length=s.count c+1:=by rw [List.length_map,split_len]
  rw [show ((pre.length:Int)+1).toNat - Int.toNat 0=s.count c+1 by simp only [Int.toNat_zero];omega]
  show EndS 0 (.osl 1 0 (s.count c+1) 0 (s.count c+1)) _ _ []
  refine end_freeze (k:=0) (e:=1) (els:=(splitC c s).map D.str) (els':=(splitC c s).map D.str) rfl (Nat.le_refl _) (strip_strs _) (.here _ _ hfl.symm hfl.symm) ?_ (Nat.le_refl _)
  exact end_p (VS.mk (LeD.of_eq rfl))
theorem split_meets:Meets Tryz.prog n_strings_Split (SpecP (fun ((s,c):List UInt8×UInt8)=>s.length≤1000000) (fun (s,c)=>[.str s,.str [c]]) fun (s,c)=>.sl 1 ((splitC c s).map .str) none):=by
 refine meets_f tabOk Tryz.func34 rfl (by decide) ?_
 rintro ⟨s,c⟩ hs
 refine ⟨Nat.le_refl _,by simp [Tryz.f34],fun E hE=>?_⟩
 refine vcOk _ ?_
 (all_goals refine qgp (Lf.mk ?_))
 refine call_p gsplit_meets (s,c) hs (VS.mk (LeL.of_eq rfl)) ?_
 (all_goals refine qgp (Lf.mk ?_))
 exact end_p (VS.mk (LeD.of_eq rfl))
end Go.Proofs.YtfahnaccpncdpaaGreatDoor
namespace Go.Proofs.YtfahnaccpncdpaaGreatDoor
open Go Go.Plat
set_option linter.unusedVariables false
set_option linter.unusedSimpArgs false
set_option maxRecDepth 100000
set_option maxHeartbeats 2000000
attribute [local irreducible] AWP Arith BitS BytesS CallS CatS DrawS EndS IdxS LookS LoopEnd Meets ModeS NilS NormL NormM QuoS RemS ShlS ShrS SideS SplitS bitI digV digitB kindB letterB okC
end Go.Proofs.YtfahnaccpncdpaaGreatDoor
namespace Go.Proofs.YtfahnaccpncdpaaGreatDoor
open Go Go.Plat
set_option linter.unusedVariables false
set_option linter.unusedSimpArgs false
set_option maxRecDepth 100000
set_option maxHeartbeats 2000000
attribute [local irreducible] AWP Arith BitS BytesS CallS CatS DrawS EndS IdxS LookS LoopEnd Meets ModeS NilS NormL NormM QuoS RemS ShlS ShrS SideS SplitS bitI digitB kindB letterB okC
attribute [local irreducible] lexF lexL numC numR spanF wordC
attribute [local irreducible] blankC digV lexR numTok puF puR signT
structure LLine where
 pos:Int
 toks:List LTok
def llineD (l:LLine):D:=.agg [.int .i64 l.pos,.sl 3 (l.toks.map ltokD) none]
def linesF:List (List UInt8)→Int→List LLine→List LLine×Int×Int
 | [],_,out=>(out,0,0)
 | p::r,k,out=>if (lexR p).2≠0 then ([],(lexR p).2,k) else if (lexR p).1.length=0 then linesF r (k+1) out else linesF r (k+1) (out++[⟨k,(lexR p).1⟩])
def linesR (b:List UInt8):List LLine×Int×Int:=if 1200 < b.length then ([],4,0) else linesF (splitC 10 b) 1 []
def linesD (p:List LLine×Int×Int):D:=.tup [.sl 2 (p.1.map llineD) none,.agg [.int .i64 p.2.1,.int .i64 p.2.2]]
theorem linesF_cons (p:List UInt8) (r:List (List UInt8)) (k:Int) (out:List LLine):linesF (p::r) k out =
  if (lexR p).2≠0 then ([],(lexR p).2,k) else if (lexR p).1.length=0 then linesF r (k+1) out else linesF r (k+1) (out++[⟨k,(lexR p).1⟩]):=rfl
theorem part_len (c:UInt8):∀ (s:List UInt8) (p:List UInt8),p∈splitC c s→p.length≤s.length
 | [],p,h=>by rw [splitC,List.mem_singleton] at h;rw [h];exact Nat.le_refl _
 | b::l,p,h=>by
  have ih:=part_len c l
  rw [splitC] at h
  split at h
  ·rcases List.mem_cons.1 h with rfl | h
   ·simp
   ·have:=ih p h;simp;omega
  ·cases hl:splitC c l with
   | nil=>rw [hl,List.mem_singleton] at h;rw [h];simp
   | cons x r=>
    rw [hl] at h
    rcases List.mem_cons.1 h with rfl | h
    ·have:=ih x (by rw [hl];exact List.mem_cons_self);simp;omega
    ·have:=ih p (by rw [hl];exact List.mem_cons_of_mem _ h);simp;omega
theorem scan_lines_meets:Meets Tryz.prog n_scan_Lines (SpecP (fun b:List UInt8=>b.length≤1000000000) (fun b=>[.sl 1 (b.map byteD) none]) fun b=>linesD (linesR b)):=by
 refine meets_f tabOk Tryz.func20 rfl (by decide) ?_
 intro b hb
 refine ⟨Nat.le_refl _,by simp [Tryz.f20],fun E hE=>?_⟩
 have hR:linesR b=if 1200 < b.length then ([],4,0) else linesF (splitC 10 b) 1 []:=rfl
 have hpl:=part_len 10 b
 have hsl:=split_len 10 b
 have hct:=List.count_le_length (a:=10) (l:=b)
 refine vcOk _ ?_
 (all_goals refine qgp ?_<;>(repeat' first | exact trivial | intro hc | refine And.intro ?_ ?_)<;>refine Lf.mk ?_)
 ·rw [if_pos (by omega)] at hR
  refine end_p (VS.mk ?_)
  rw [hR]
  exact .tup (.cons (.nil 2) (.cons (.refl _) .nil))
 rw [if_neg (by omega)] at hR
 refine call_p split_meets (b,10) (by show b.length≤1000000;omega) (VS.mk (LeL.of_eq rfl)) ?_
 dsimp only
 generalize splitC 10 b=ps at *
 (all_goals refine qgp (Lf.mk ?_))
 refine awp_weak (weak_nil 4 2 rfl) ?_
 refine awp_loop (α:=Nat×List LLine) (fun p=>p.1≤ps.length∧p.2.length≤p.1∧linesR b=linesF (ps.drop p.1) (p.1+1) p.2)
  (fun p=>[(3,.loc 0 0),(4,.sl 2 (p.2.map llineD) (some 1)),(15,.sl 1 (ps.map .str) none),(16,.int .i64 ps.length),(17,.int .i64 p.1)])
  (fun p=>[.cells [.int .i64 0,.int .i64 0],.spare p.2.length]) (fun p=>ps.length - p.1) (fun _=>by simp [hE]) (0,[]) ⟨Nat.zero_le _,Nat.le_refl _,by rw [hR];rfl⟩ ?_ ?_
 ·(repeat' (first | (refine VS.mk ?_) | exact trivial | exact rfl | refine And.intro ?_ ?_))
 rintro ⟨i,out⟩ ⟨hi,ho,hf⟩
 dsimp only at hi ho hf ⊢
 refine vcOk _ ?_
 (all_goals refine qgp ?_<;>(repeat' first | exact trivial | intro hc | refine And.intro ?_ ?_)<;>refine Lf.mk ?_)
 ·have hil:i < ps.length:=by omega
  obtain ⟨p,hp⟩:∃ p,ps[i]=p:=⟨_,rfl⟩
  have hpx:ps[i]?=some p:=by rw [List.getElem?_eq_getElem hil,hp]
  have hpm:=hpl p (by rw [← hp];exact List.getElem_mem hil)
  rw [List.drop_eq_getElem_cons hil,hp,linesF_cons] at hf
  refine ix_map p (by omega) (by simpa using hpx) ?_
  (all_goals refine qgp (Lf.mk ?_))
  refine call_p scan_tokens_meets p (by omega) (VS.mk (LeL.of_eq rfl)) ?_
  generalize lexR p=T at *
  obtain ⟨ts,te⟩:=T
  dsimp only at hf
  (all_goals refine qgp ?_<;>(repeat' first | exact trivial | intro hc | refine And.intro ?_ ?_)<;>refine Lf.mk ?_)
  ·rw [if_pos hc] at hf
   refine end_p (VS.mk ?_)
   rw [hf]
   exact .tup (.cons (.nil 2) (.cons (.refl _) .nil))
  ·have ht:te=0:=by assumption
   rw [if_neg (by rw [ht];simp),if_neg (by omega)] at hf
   have hf1:linesR b=linesF (ps.drop (i+1)) (((i+1:Nat):Int)+1) (out++[⟨(i:Int)+1,ts⟩]):=hf
   refine loop_end (i+1,out++[⟨(i:Int)+1,ts⟩]) ⟨by dsimp only;omega,by dsimp only;rw [List.length_append,List.length_cons,List.length_nil];omega,hf1⟩ (by dsimp only;omega) ?_
   (repeat' (first | (refine VS.mk ?_) | exact trivial | exact rfl | refine And.intro ?_ ?_))
   all_goals (first | rfl | simp [llineD])
  ·have ht:te=0:=by assumption
   rw [if_neg (by rw [ht];simp),if_pos (by omega)] at hf
   have hf1:linesR b=linesF (ps.drop (i+1)) (((i+1:Nat):Int)+1) out:=hf
   refine loop_end (i+1,out) ⟨by dsimp only;omega,by dsimp only;omega,hf1⟩ (by dsimp only;omega) ?_
   (repeat' (first | (refine VS.mk ?_) | exact trivial | exact rfl | refine And.intro ?_ ?_))
 ·rw [List.drop_of_length_le (by omega)] at hf
  refine end_p (VS.mk ?_)
  rw [hf]
  (first | exact LeL.refl _ | (repeat' (first | exact LeL.nil | exact LeD.refl _ | exact LeD.nil _ | exact LeD.strip _ _ _ | refine LeL.cons ?_ ?_ | refine LeD.tup ?_ | refine LeD.agg ?_)))
end Go.Proofs.YtfahnaccpncdpaaGreatDoor
namespace Go.Proofs.YtfahnaccpncdpaaGreatDoor
open Go Go.Plat
set_option linter.unusedVariables false
set_option linter.unusedSimpArgs false
set_option maxRecDepth 100000
set_option maxHeartbeats 2000000
attribute [local irreducible] AWP Arith BitS BytesS CallS CatS DrawS EndS IdxS LookS LoopEnd Meets ModeS NilS NormL NormM QuoS RemS ShlS ShrS SideS SplitS bitI
inductive OExpr where
 | mk (kind n:Int) (name:List UInt8) (kids:List OExpr)
def OExpr.kind:OExpr→Int | .mk k _ _ _=>k
def OExpr.n:OExpr→Int | .mk _ n _ _=>n
def OExpr.name:OExpr→List UInt8 | .mk _ _ s _=>s
def OExpr.kids:OExpr→List OExpr | .mk _ _ _ ks=>ks
mutual
def exprD:OExpr→D
 | .mk k n s ks=>.agg [.int .i64 k,.int .i64 n,.str s,.sl 4 (exprDs ks) none]
def exprDs:List OExpr→List D
 | []=>[]
 | e::es=>exprD e::exprDs es
end
mutual
def nodes:OExpr→Nat
 | .mk _ _ s ks=>1+s.length+nodesL ks
def nodesL:List OExpr→Nat
 | []=>0
 | e::es=>nodes e+nodesL es
end
theorem exprDs_map:∀ l:List OExpr,exprDs l=l.map exprD
 | []=>by rw [exprDs];rfl
 | e::es=>by rw [exprDs,exprDs_map es];rfl
def exprU (e:OExpr):D:=.agg [.int .i64 e.kind,.int .i64 e.n,.str e.name,.sl 4 (e.kids.map exprD) none]
theorem mk_kind (k n:Int) (s:List UInt8) (ks:List OExpr):(OExpr.mk k n s ks).kind=k:=rfl
theorem mk_n (k n:Int) (s:List UInt8) (ks:List OExpr):(OExpr.mk k n s ks).n=n:=rfl
theorem mk_name (k n:Int) (s:List UInt8) (ks:List OExpr):(OExpr.mk k n s ks).name=s:=rfl
theorem mk_kids (k n:Int) (s:List UInt8) (ks:List OExpr):(OExpr.mk k n s ks).kids=ks:=rfl
theorem exprU_mk (k n:Int) (s:List UInt8) (ks:List OExpr):exprU (.mk k n s ks)= .agg [.int .i64 k,.int .i64 n,.str s,.sl 4 (ks.map exprD) none]:=rfl
theorem exprD_eq (e:OExpr):exprD e=exprU e:=by
 cases e with
 | mk k n s ks=>rw [exprD,exprDs_map];rfl
theorem map1 (a:OExpr):[a].map exprD=[exprU a]:=by rw [List.map_cons,exprD_eq];rfl
theorem map2 (a b:OExpr):[a,b].map exprD=[exprU a,exprU b]:=by rw [List.map_cons,List.map_cons,exprD_eq,exprD_eq];rfl
theorem nodes_pos (e:OExpr):0 < nodes e:=by cases e;rw [nodes];omega
theorem nodesL_mem:∀ {l:List OExpr} {x:OExpr},x∈l→nodes x≤nodesL l
 | [],_,h=>by simp at h
 | e::es,x,h=>by
  rw [nodesL]
  rcases List.mem_cons.1 h with rfl | h
  ·omega
  ·have:=nodesL_mem h;omega
theorem nodesL_len:∀ l:List OExpr,l.length≤nodesL l
 | []=>by rw [nodesL];simp
 | e::es=>by
  have:=nodesL_len es
  have:=nodes_pos e
  rw [nodesL,List.length_cons];omega
theorem nodes_kid {e x:OExpr} (h:x∈e.kids):nodes x < nodes e:=by
 cases e with
 | mk k n s ks=>have:=nodesL_mem (show x∈ks from h);rw [nodes];omega
theorem kids_len (e:OExpr):e.kids.length < nodes e:=by
 cases e with
 | mk k n s ks=>have:=nodesL_len ks;rw [nodes];show ks.length < _;omega
theorem name_len (e:OExpr):e.name.length < nodes e:=by
 cases e with
 | mk k n s ks=>rw [nodes];show s.length < _;omega
theorem ix_expr {l:List OExpr} {n:Int} {K:D→Prop} (x:OExpr) (h0:0≤n) (h:l[n.toNat]?=some x) (hK:K (exprU x)):IdxS (l.map exprD) n K:=by
 unfold IdxS
 exact ⟨h0,exprU x,by rw [List.getElem?_map,h,← exprD_eq];rfl,hK⟩
attribute [local irreducible] exprD nodes OExpr.kind OExpr.n OExpr.name OExpr.kids
attribute [local irreducible] digitB kindB letterB nameB signedI
structure OTok where
 kind:Int
 n:Int
 text:List UInt8
def tokD (t:OTok):D:=.agg [.int .i64 t.kind,.int .i64 t.n,.str t.text]
structure St where
 rest:List OTok
 err:Int
def noE:OExpr:=.mk 0 0 [] []
def idxT (x:List UInt8):List (List UInt8)→Nat→Int
 | [],_=>-1
 | s::l,k=>if x=s then k else idxT x l (k+1)
def signs (k:Nat):List (List UInt8):=match k with | 0=>[[124]] | 1=>[[38]] | 2=>[[60,60],[62,62]] | 3=>[[43],[45]] | _=>[[42]]
def kinds (k:Nat):List Int:=match k with | 0=>[11] | 1=>[10] | 2=>[8,9] | 3=>[6,7] | _=>[5]
def levD (k:Nat):D:=.agg [.sl 1 ((signs k).map .str) none,.sl 1 ((kinds k).map (.int .i64)) none]
def levsD:D:=.sl 2 [levD 0,levD 1,levD 2,levD 3,levD 4] none
theorem levels_meets:Meets Tryz.prog n_expr_levels (SpecP (fun _:Unit=>True) (fun _=>[]) fun _=>levsD):=by
 refine meets_f tabOk Tryz.func166 rfl (by decide) fun _ _=>?_
 refine ⟨Nat.le_refl _,by simp [Tryz.f166],fun E hE=>?_⟩
 refine vcOk _ ?_
 (all_goals refine qgo (Lf.mk ?_))
 exact end_p (VS.mk (LeD.of_eq rfl))
theorem index_meets:Meets Tryz.prog n_slices_Index_string_string (SpecP (fun ((l,x):List (List UInt8)×List UInt8)=>l.length≤1000000000) (fun (l,x)=>[.sl 1 (l.map .str) none,.str x]) fun (l,x)=>.int .i64 (idxT x l 0)):=by
 refine meets_f tabOk Tryz.func107 rfl (by decide) ?_
 rintro ⟨l,x⟩ hl
 have hl:l.length≤1000000000:=hl
 refine ⟨Nat.le_refl _,by simp [Tryz.f107],fun E hE=>?_⟩
 refine vcOk _ ?_
 (all_goals refine qgo (Lf.mk ?_))
 refine awp_loop (α:=Nat) (fun k=>k≤l.length∧idxT x l 0=idxT x (l.drop k) k)
  (fun k=>[(7,.int .i64 l.length),(8,.int .i64 k),(0,.sl 1 (l.map .str) none),(1,.str x)])
  (fun _=>[]) (fun k=>l.length - k) (fun _=>by simp [hE]) 0 ⟨Nat.zero_le _,by simp⟩ ?_ ?_
 ·(repeat' (first | (refine VS.mk ?_) | exact trivial | exact rfl | refine And.intro ?_ ?_))
 rintro k ⟨hk,hf⟩
 refine vcOk _ ?_
 (all_goals refine qgo ?_<;>(repeat' first | exact trivial | intro hc | refine And.intro ?_ ?_)<;>refine Lf.mk ?_)
 ·obtain ⟨s,hsk⟩:=at_of_lt (l:=l) (k:=k) (by omega)
  have hkl:k < l.length:=by omega
  have hget:l[k]=s:=by rw [List.getElem?_eq_getElem hkl] at hsk;exact Option.some.inj hsk
  rw [List.drop_eq_getElem_cons hkl,hget,idxT] at hf
  refine ix_map s (by omega) (by simpa using hsk) ?_
  (all_goals refine qgo ?_<;>(repeat' first | exact trivial | intro hc | refine And.intro ?_ ?_)<;>refine Lf.mk ?_)
  ·rw [if_pos hc] at hf
   exact end_p (VS.mk (LeD.of_eq (congrArg (D.int .i64) hf.symm)))
  ·rw [if_neg hc] at hf
   refine loop_end (k+1) ⟨by omega,hf⟩ (by omega) ?_
   (repeat' (first | (refine VS.mk ?_) | exact trivial | exact rfl | refine And.intro ?_ ?_))
 ·rw [List.drop_of_length_le (by omega),idxT] at hf
  exact end_p (VS.mk (LeD.of_eq (congrArg (D.int .i64) hf.symm)))
def stO (s:St):List Ob:=[.cells [.sl 3 (s.rest.map tokD) none,.int .i64 s.err]]
def signI (l:List (List UInt8)) (s:St):Int×St:=match s.rest with
 | []=>(-1,s)
 | t::r=>if t.kind=3 then (if 0≤idxT t.text l 0 then (idxT t.text l 0,⟨r,s.err⟩) else (-1,s)) else (-1,s)
def failS (s:St) (e:Int):St:=if s.err=0 then ⟨s.rest,e⟩ else s
theorem idxT_lt (x:List UInt8):∀ (l:List (List UInt8)) (k:Nat),idxT x l k < 0→idxT x l k= -1
 | [],k,_=>rfl
 | s::l,k,h=>by
  rw [idxT] at h ⊢
  split at h
  ·omega
  ·rename_i hn;rw [if_neg hn];exact idxT_lt x l (k+1) h
theorem noE_le:LeD (.agg [.int .i64 0,.int .i64 0,.str [],.nilsl]) (exprU noE):=by
 unfold noE
 rw [exprU_mk]
 exact .agg (.cons (.refl _) (.cons (.refl _) (.cons (.refl _) (.cons (.nil 4) .nil))))
theorem fail_meets:Meets Tryz.prog n_expr_reader_fail (SpecF (fun ((s,e):St×Int)=>True) (fun (s,e)=>[.loc 0 0,.int .i64 e]) (fun (s,_)=>stO s) (fun _=>exprU noE) fun (s,e)=>stO (failS s e)):=by
 refine meets_f tabOk Tryz.func171 rfl (by decide) ?_
 rintro ⟨s,e⟩ -
 refine ⟨Nat.le_refl _,by simp [Tryz.f171],fun E hE=>?_⟩
 refine vcOk _ ?_
 (all_goals refine qgo ?_<;>(repeat' first | exact trivial | intro hc | refine And.intro ?_ ?_)<;>refine Lf.mk ?_)
 ·refine end_le (r1:=exprU noE) noE_le ?_ (Nat.le_refl _)
  refine end_mk ?_
  (repeat' (first | (refine VS.mk ?_) | exact trivial | exact rfl | refine And.intro ?_ ?_))
  ·dsimp only;unfold failS stO;rw [if_pos hc]
 ·refine end_le (r1:=exprU noE) noE_le ?_ (Nat.le_refl _)
  refine end_mk ?_
  (repeat' (first | (refine VS.mk ?_) | exact trivial | exact rfl | refine And.intro ?_ ?_))
  ·dsimp only;unfold failS;rw [if_neg hc];rfl
theorem sign_meets:Meets Tryz.prog n_expr_reader_sign (SpecF (fun ((s,l):St×List (List UInt8))=>l.length≤1000000000∧s.rest.length≤1000000000) (fun (s,l)=>[.loc 0 0,.sl 1 (l.map .str) none]) (fun (s,_)=>stO s) (fun (s,l)=>.int .i64 (signI l s).1)
  fun (s,l)=>stO (signI l s).2):=by
 refine meets_f tabOk Tryz.func168 rfl (by decide) ?_
 rintro ⟨⟨r,e⟩,l⟩ ⟨hl,hr⟩
 have hr:r.length≤1000000000:=hr
 refine ⟨Nat.le_refl _,by simp [Tryz.f168],fun E hE=>?_⟩
 cases r with
 | nil=>
  refine vcOk _ ?_
  (all_goals refine qgp ?_<;>(repeat' first | exact trivial | intro hc | refine And.intro ?_ ?_)<;>refine Lf.mk ?_)
  refine end_mk ?_
  (repeat' (first | (refine VS.mk ?_) | exact trivial | exact rfl | refine And.intro ?_ ?_))
 | cons t r=>
  have hr2:r.length+1≤1000000000:=hr
  refine vcOk _ ?_
  (all_goals refine qgp ?_<;>(repeat' first | exact trivial | intro hc | refine And.intro ?_ ?_)<;>refine Lf.mk ?_)
  ·refine end_mk ?_
   (repeat' (first | (refine VS.mk ?_) | exact trivial | exact rfl | refine And.intro ?_ ?_))
   all_goals (dsimp only [signI];rw [if_neg hc];try rfl)
  ·refine call_p index_meets (l,t.text) hl (VS.mk (LeL.of_eq rfl)) ?_
   (all_goals refine qgp ?_<;>(repeat' first | exact trivial | intro hc | refine And.intro ?_ ?_)<;>refine Lf.mk ?_)
   ·refine end_mk ?_
    (repeat' (first | (refine VS.mk ?_) | exact trivial | exact rfl | refine And.intro ?_ ?_))
    all_goals (dsimp only [signI];rw [if_pos (by assumption),if_pos hc];try rfl)
   ·refine end_mk ?_
    (repeat' (first | (refine VS.mk ?_) | exact trivial | exact rfl | refine And.intro ?_ ?_))
    all_goals (dsimp only [signI];rw [if_pos (by assumption),if_neg hc])
    ·exact congrArg (D.int .i64) (idxT_lt _ _ _ (by omega))
    ·rfl
def kindOf (k:Nat) (i:Int):Int:=(kinds k).getD i.toNat 0
def loopF (k:Nat) (sub:St→OExpr×St):Nat→OExpr→St→OExpr×St
 | 0,e,s=>(e,s)
 | g+1,e,s=>if s.err=0 then (if (signI (signs k) s).1 < 0 then (e,(signI (signs k) s).2)
   else loopF k sub g (.mk (kindOf k (signI (signs k) s).1) 0 [] [e,(sub (signI (signs k) s).2).1]) (sub (signI (signs k) s).2).2)
  else (e,s)
def levelF (k:Nat) (sub:St→OExpr×St) (s:St):OExpr×St:=loopF k sub ((sub s).2.rest.length+1) (sub s).1 (sub s).2
def atF (one:St→OExpr×St):Nat→St→OExpr×St
 | 0=>one
 | j+1=>levelF (4 - j) (atF one j)
def tokI (s:St):OExpr×St:=match s.rest with
 | []=>(noE,failS s 9)
 | t::r=>if t.kind=2 then (.mk 1 (signedI t.n 32) [] [],⟨r,s.err⟩)
  else if t.kind=1 then (if nameB t.text=true then (.mk 2 0 t.text [],⟨r,s.err⟩) else (noE,failS ⟨r,s.err⟩ 7))
  else (noE,failS ⟨r,s.err⟩ 2)
def opens:List (List UInt8):=[[45],[126],[40]]
def closes:List (List UInt8):=[[41]]
def oneStep (one:St→OExpr×St) (s:St):OExpr×St:=
 if (signI opens s).1=0 then (.mk 3 0 [] [(one (signI opens s).2).1],(one (signI opens s).2).2)
 else if (signI opens s).1=1 then (.mk 4 0 [] [(one (signI opens s).2).1],(one (signI opens s).2).2)
 else if (signI opens s).1=2 then
  (if (signI closes (atF one 5 (signI opens s).2).2).1 < 0 then (noE,failS (signI closes (atF one 5 (signI opens s).2).2).2 2)
   else ((atF one 5 (signI opens s).2).1,(signI closes (atF one 5 (signI opens s).2).2).2))
 else tokI (signI opens s).2
def oneI:Nat→St→OExpr×St
 | 0,s=>(noE,failS s 10)
 | f+1,s=>oneStep (oneI f) s
def Shorter (p:St→OExpr×St):Prop:=∀ s,(p s).2.rest.length≤s.rest.length
theorem sign_short (l:List (List UInt8)) (s:St):(signI l s).2.rest.length≤s.rest.length∧(0≤(signI l s).1→(signI l s).2.rest.length+1=s.rest.length):=by
 obtain ⟨r,e⟩:=s
 cases r with
 | nil=>exact ⟨Nat.le_refl _,fun h=>by simp [signI] at h⟩
 | cons t r=>
  simp only [signI]
  split
  ·split
   ·exact ⟨by simp,fun _=>by simp⟩
   ·exact ⟨Nat.le_refl _,fun h=>by simp at h⟩
  ·exact ⟨Nat.le_refl _,fun h=>by simp at h⟩
theorem loop_short {k:Nat} {sub:St→OExpr×St} (hs:Shorter sub):∀ (g:Nat) (e:OExpr) (s:St),(loopF k sub g e s).2.rest.length≤s.rest.length
 | 0,e,s=>Nat.le_refl _
 | g+1,e,s=>by
  rw [loopF]
  have h1:=(sign_short (signs k) s).1
  split
  ·split
   ·exact h1
   ·have:=loop_short (k:=k) hs g (.mk (kindOf k (signI (signs k) s).1) 0 [] [e,(sub (signI (signs k) s).2).1]) (sub (signI (signs k) s).2).2
    have h2:=hs (signI (signs k) s).2
    omega
  ·exact Nat.le_refl _
theorem level_short {k:Nat} {sub:St→OExpr×St} (hs:Shorter sub):Shorter (levelF k sub):=fun s=>by
 have h1:=hs s
 have h2:=loop_short (k:=k) hs ((sub s).2.rest.length+1) (sub s).1 (sub s).2
 unfold levelF;omega
theorem at_short {one:St→OExpr×St} (hs:Shorter one):∀ j,Shorter (atF one j)
 | 0=>hs
 | j+1=>level_short (at_short hs j)
theorem fail_rest (s:St) (e:Int):(failS s e).rest=s.rest:=by unfold failS;split<;>rfl
theorem tok_short:Shorter tokI:=fun s=>by
 obtain ⟨r,e⟩:=s
 cases r with
 | nil=>simp [tokI,fail_rest]
 | cons t r=>
  simp only [tokI]
  repeat' split
  all_goals (try rw [fail_rest]);simp
theorem step_short {one:St→OExpr×St} (hs:Shorter one):Shorter (oneStep one):=fun s=>by
 have h1:=(sign_short opens s).1
 have h2:=hs (signI opens s).2
 have h3:=at_short hs 5 (signI opens s).2
 have h4:=(sign_short closes (atF one 5 (signI opens s).2).2).1
 have h5:=tok_short (signI opens s).2
 unfold oneStep
 repeat' split
 all_goals (try dsimp only);(try rw [fail_rest]);omega
theorem one_short:∀ f,Shorter (oneI f)
 | 0=>fun s=>by rw [oneI,fail_rest];exact Nat.le_refl _
 | f+1=>fun s=>by rw [oneI];exact step_short (one_short f) s
theorem loop_stop {k g:Nat} {sub:St→OExpr×St} {e:OExpr} {s:St} (h:¬ s.err=0):loopF k sub g e s=(e,s):=by
 cases g with
 | zero=>rfl
 | succ g=>rw [loopF,if_neg h]
theorem loop_break {k g:Nat} {sub:St→OExpr×St} {e:OExpr} {s:St} (h:s.err=0) (h2:(signI (signs k) s).1 < 0):loopF k sub (g+1) e s=(e,(signI (signs k) s).2):=by rw [loopF,if_pos h,if_pos h2]
theorem loop_go {k g:Nat} {sub:St→OExpr×St} {e:OExpr} {s:St} (h:s.err=0) (h2:¬ (signI (signs k) s).1 < 0):loopF k sub (g+1) e s =
  loopF k sub g (.mk (kindOf k (signI (signs k) s).1) 0 [] [e,(sub (signI (signs k) s).2).1]) (sub (signI (signs k) s).2).2:=by rw [loopF,if_pos h,if_neg h2]
theorem ix_lev {k:Nat} {K:D→Prop} (hk:k < 5) (h:K (levD k)):IdxS [levD 0,levD 1,levD 2,levD 3,levD 4] (k:Int) K:=by
 unfold IdxS
 refine ⟨by omega,levD k,?_,h⟩
 rw [Int.toNat_natCast]
 match k,hk with
 | 0,_=>rfl
 | 1,_=>rfl
 | 2,_=>rfl
 | 3,_=>rfl
 | 4,_=>rfl
theorem idxT_bd (x:List UInt8):∀ (l:List (List UInt8)) (k:Nat),idxT x l k < ((k+l.length:Nat):Int)
 | [],k=>by rw [idxT];omega
 | s::l,k=>by
  rw [idxT]
  split
  ·simp only [List.length_cons];omega
  ·have:=idxT_bd x l (k+1)
   simp only [List.length_cons];omega
theorem sign_bd (l:List (List UInt8)) (s:St):(signI l s).1 < (l.length:Int)∨l.length=0:=by
 obtain ⟨r,e⟩:=s
 cases r with
 | nil=>simp only [signI];omega
 | cons t r=>
  have:=idxT_bd t.text l 0
  simp only [signI]
  split
  ·split
   ·dsimp only;omega
   ·dsimp only;omega
  ·dsimp only;omega
theorem signs_len (k:Nat):(signs k).length=(kinds k).length∧0 < (signs k).length∧(signs k).length≤2:=by
 unfold signs kinds
 split<;>exact ⟨rfl,by decide,by decide⟩
theorem kinds_at {k:Nat} {s:St} (h:¬ (signI (signs k) s).1 < 0):(kinds k)[(signI (signs k) s).1.toNat]?=some (kindOf k (signI (signs k) s).1):=by
 have h1:=sign_bd (signs k) s
 obtain ⟨h2,h3,_⟩:=signs_len k
 have hlt:(signI (signs k) s).1.toNat < (kinds k).length:=by omega
 unfold kindOf
 rw [List.getD_eq_getElem?_getD,List.getElem?_eq_getElem hlt]
 rfl
attribute [local irreducible] failS loopF oneI oneStep signI tokI
def AtOk (k:Int) (d:Int) (f:St→OExpr×St):Prop:=
 Meets Tryz.prog n_expr_reader_at (SpecF (fun s:St=>s.rest.length≤1000000000) (fun _=>[.loc 0 0,.int .i64 k,.int .i64 d]) stO (fun s=>exprU (f s).1) fun s=>stO (f s).2)
def OneOk (d:Int) (f:St→OExpr×St):Prop:=
 Meets Tryz.prog n_expr_reader_one (SpecF (fun s:St=>s.rest.length≤1000000000) (fun _=>[.loc 0 0,.int .i64 d]) stO (fun s=>exprU (f s).1) fun s=>stO (f s).2)
theorem at_top {d:Int} {one:St→OExpr×St} (h:OneOk d one):AtOk 5 d (atF one 0):=by
 refine meets_f tabOk Tryz.func158 rfl (by decide) ?_
 intro s hs
 refine ⟨Nat.le_refl _,by simp [Tryz.f158],fun E hE=>?_⟩
 refine vcOk _ ?_
 (all_goals refine qgp (Lf.mk ?_))
 refine call_p levels_meets () trivial (VS.mk (LeL.of_eq rfl)) ?_
 (all_goals refine qgp ?_<;>(repeat' first | exact trivial | intro hc | refine And.intro ?_ ?_)<;>refine Lf.mk ?_)
 refine call_f h [0] [0] s hs rfl rfl ?_
 refine And.intro (VS.mk (LeL.of_eq rfl)) (And.intro (VS.mk rfl) ?_)
 (all_goals refine qgp (Lf.mk ?_))
 refine end_mk ?_
 (repeat' (first | (refine VS.mk ?_) | exact trivial | exact rfl | refine And.intro ?_ ?_))
theorem at_level {d:Int} {k:Nat} {sub:St→OExpr×St} (hk:k < 5) (hsub:Shorter sub) (h:AtOk ((k:Int)+1) d sub):AtOk k d (levelF k sub):=by
 refine meets_f tabOk Tryz.func158 rfl (by decide) ?_
 intro s hs
 refine ⟨Nat.le_refl _,by simp [Tryz.f158],fun E hE=>?_⟩
 refine vcOk _ ?_
 (all_goals refine qgp (Lf.mk ?_))
 refine call_p levels_meets () trivial (VS.mk (LeL.of_eq rfl)) ?_
 (all_goals refine qgp ?_<;>(repeat' first | exact trivial | intro hc | refine And.intro ?_ ?_)<;>refine Lf.mk ?_)
 refine call_f h [0] [0] s hs rfl rfl ?_
 refine And.intro (VS.mk (LeL.of_eq rfl)) (And.intro (VS.mk rfl) ?_)
 (all_goals refine qgp (Lf.mk ?_))
 have hs1:=hsub s
 obtain ⟨hsl1,hsl2,hsl3⟩:=signs_len k
 generalize hT:levelF k sub s=T at *
 have hT0:loopF k sub ((sub s).2.rest.length+1) (sub s).1 (sub s).2=T:=hT
 refine awp_loop (α:=Nat×OExpr×St) (fun p=>p.2.2.rest.length < p.1∧p.2.2.rest.length≤1000000000∧loopF k sub p.1 p.2.1 p.2.2=T)
  (fun p=>[(0,.loc 0 0),(1,.int .i64 k),(2,.int .i64 d),(6,.loc 1 0),(7,levsD),(8,.loc 2 0)])
  (fun p=>stO p.2.2++[.cells [.int .i64 0,.int .i64 0,.str [],.nilsl],.cells [.int .i64 p.2.1.kind,.int .i64 p.2.1.n,.str p.2.1.name,.sl 4 (p.2.1.kids.map exprD) none]]) (fun p=>p.1) (fun _=>by simp [hE,stO])
  ((sub s).2.rest.length+1,(sub s).1,(sub s).2) ⟨Nat.lt_succ_self _,Nat.le_trans hs1 hs,hT0⟩ ?_ ?_
 ·(repeat' (first | (refine VS.mk ?_) | exact trivial | exact rfl | refine And.intro ?_ ?_))
 rintro ⟨g,e,s2⟩ ⟨hg,hs2,hl⟩
 dsimp only at hg hs2 hl ⊢
 obtain ⟨g,rfl⟩:∃ g',g=g'+1:=⟨g - 1,by omega⟩
 refine vcOk _ ?_
 (all_goals refine qgp ?_<;>(repeat' first | exact trivial | intro hc | refine And.intro ?_ ?_)<;>refine Lf.mk ?_)
 ·refine ix_lev hk ?_
  (all_goals refine qgp (Lf.mk ?_))
  refine call_f sign_meets [0] [0] (s2,signs k) ⟨by omega,hs2⟩ rfl rfl ?_
  refine And.intro (VS.mk (LeL.of_eq rfl)) (And.intro (VS.mk rfl) ?_)
  obtain ⟨q1,q2⟩:=sign_short (signs k) s2
  (all_goals refine qgp ?_<;>(repeat' first | exact trivial | intro hc | refine And.intro ?_ ?_)<;>refine Lf.mk ?_)
  ·rw [loop_break (by assumption) hc] at hl
   subst hl
   refine end_mk ?_
   (repeat' (first | (refine VS.mk ?_) | exact trivial | exact rfl | refine And.intro ?_ ?_))
  ·rw [loop_go (by assumption) hc] at hl
   have hka:=kinds_at (k:=k) (s:=s2) hc
   refine ix_lev hk ?_
   (all_goals refine qgp (Lf.mk ?_))
   refine ix_map (kindOf k (signI (signs k) s2).1) (by omega) (by simpa using hka) ?_
   (all_goals refine qgp (Lf.mk ?_))
   have q3:=hsub (signI (signs k) s2).2
   refine call_f h [0] [0] (signI (signs k) s2).2 (by omega) rfl rfl ?_
   refine And.intro (VS.mk (LeL.of_eq rfl)) (And.intro (VS.mk rfl) ?_)
   (all_goals refine qgp (Lf.mk ?_))
   refine loop_end (g,.mk (kindOf k (signI (signs k) s2).1) 0 [] [e,(sub (signI (signs k) s2).2).1],(sub (signI (signs k) s2).2).2) ⟨by (dsimp only;omega),by (dsimp only;omega),hl⟩ (by dsimp only;omega) ?_
   dsimp only
   rw [mk_kind,mk_n,mk_name,mk_kids,map2]
   (repeat' (first | (refine VS.mk ?_) | exact trivial | exact rfl | refine And.intro ?_ ?_))
 ·rw [loop_stop hc] at hl
  subst hl
  refine end_mk ?_
  (repeat' (first | (refine VS.mk ?_) | exact trivial | exact rfl | refine And.intro ?_ ?_))
end Go.Proofs.YtfahnaccpncdpaaGreatDoor
namespace Go.Proofs.YtfahnaccpncdpaaGreatDoor
open Go Go.Plat
set_option linter.unusedVariables false
set_option linter.unusedSimpArgs false
set_option maxRecDepth 100000
set_option maxHeartbeats 2000000
attribute [local irreducible] AWP Arith BitS BytesS CallS CatS DrawS EndS IdxS LookS LoopEnd Meets ModeS NilS NormL NormM OExpr.kids OExpr.kind OExpr.n OExpr.name QuoS RemS ShlS ShrS SideS SplitS bitI digitB exprD failS kindB letterB loopF nameB nodes oneI signI signedI
theorem at_all {d:Int} {one:St→OExpr×St} (hs:Shorter one) (h:OneOk d one):AtOk 0 d (atF one 5):=by
 have h5:AtOk (((4:Nat):Int)+1) d (atF one 0):=at_top h
 have h4:AtOk (((3:Nat):Int)+1) d (atF one 1):=at_level (k:=4) (by decide) (at_short hs 0) h5
 have h3:AtOk (((2:Nat):Int)+1) d (atF one 2):=at_level (k:=3) (by decide) (at_short hs 1) h4
 have h2:AtOk (((1:Nat):Int)+1) d (atF one 3):=at_level (k:=2) (by decide) (at_short hs 2) h3
 have h1:AtOk (((0:Nat):Int)+1) d (atF one 4):=at_level (k:=1) (by decide) (at_short hs 3) h2
 exact at_level (k:=0) (by decide) (at_short hs 4) h1
theorem one_deep {d:Int} (h:6 < d):OneOk d (oneI 0):=by
 refine meets_f tabOk Tryz.func167 rfl (by decide) ?_
 intro s hs
 refine ⟨Nat.le_refl _,by simp [Tryz.f167],fun E hE=>?_⟩
 refine vcOk _ ?_
 (all_goals refine qgp ?_<;>(repeat' first | exact trivial | intro hc | refine And.intro ?_ ?_)<;>refine Lf.mk ?_)
 refine call_f fail_meets [0] [0] (s,10) trivial rfl rfl ?_
 refine And.intro (VS.mk (LeL.of_eq rfl)) (And.intro (VS.mk rfl) ?_)
 have ho:oneI 0 s=(noE,failS s 10):=by rw [oneI]
 (all_goals refine qgp (Lf.mk ?_))
 refine end_mk ?_
 (repeat' (first | (refine VS.mk ?_) | exact trivial | exact rfl | refine And.intro ?_ ?_))
 all_goals (rw [ho];rfl)
theorem one_step {d:Int} {one:St→OExpr×St} (hd:d≤6) (hd0:0≤d) (hsub:Shorter one) (h:OneOk (d+1) one):OneOk d (oneStep one):=by
 have hat:=at_all hsub h
 refine meets_f tabOk Tryz.func167 rfl (by decide) ?_
 intro s hs
 have q1:=(sign_short opens s).1
 refine ⟨Nat.le_refl _,by simp [Tryz.f167],fun E hE=>?_⟩
 refine vcOk _ ?_
 (all_goals refine qgp ?_<;>(repeat' first | exact trivial | intro hc | refine And.intro ?_ ?_)<;>refine Lf.mk ?_)
 refine call_f sign_meets [0] [0] (s,opens) ⟨by decide,hs⟩ rfl rfl ?_
 refine And.intro (VS.mk (LeL.of_eq rfl)) (And.intro (VS.mk rfl) ?_)
 dsimp only
 have hstep:oneStep one s=if (signI opens s).1=0 then (.mk 3 0 [] [(one (signI opens s).2).1],(one (signI opens s).2).2)
  else if (signI opens s).1=1 then (.mk 4 0 [] [(one (signI opens s).2).1],(one (signI opens s).2).2)
  else if (signI opens s).1=2 then
   (if (signI closes (atF one 5 (signI opens s).2).2).1 < 0 then (noE,failS (signI closes (atF one 5 (signI opens s).2).2).2 2)
    else ((atF one 5 (signI opens s).2).1,(signI closes (atF one 5 (signI opens s).2).2).2))
  else tokI (signI opens s).2:=rfl
 generalize hS:signI opens s=S at *
 obtain ⟨i,s1⟩:=S
 have q1:s1.rest.length≤s.rest.length:=q1
 (all_goals refine qgp ?_<;>(repeat' first | exact trivial | intro hc | refine And.intro ?_ ?_)<;>refine Lf.mk ?_)
 ·refine call_f h [0] [0] s1 (by omega) rfl rfl ?_
  refine And.intro (VS.mk (LeL.of_eq rfl)) (And.intro (VS.mk rfl) ?_)
  (all_goals refine qgp (Lf.mk ?_))
  have ho:oneStep one s=(.mk 3 0 [] [(one s1).1],(one s1).2):=by rw [hstep,if_pos hc]
  refine end_mk ?_
  (repeat' (first | (refine VS.mk ?_) | exact trivial | exact rfl | refine And.intro ?_ ?_))
  all_goals (rw [ho])
  ·dsimp only;rw [exprU_mk,map1];rfl
  ·rfl
 ·refine call_f h [0] [0] s1 (by omega) rfl rfl ?_
  refine And.intro (VS.mk (LeL.of_eq rfl)) (And.intro (VS.mk rfl) ?_)
  (all_goals refine qgp (Lf.mk ?_))
  have ho:oneStep one s=(.mk 4 0 [] [(one s1).1],(one s1).2):=by rw [hstep,if_neg (by assumption),if_pos hc]
  refine end_mk ?_
  (repeat' (first | (refine VS.mk ?_) | exact trivial | exact rfl | refine And.intro ?_ ?_))
  all_goals (rw [ho])
  ·dsimp only;rw [exprU_mk,map1];rfl
  ·rfl
 ·have q2:=at_short hsub 5 s1
  refine call_f hat [0] [0] s1 (by omega) rfl rfl ?_
  refine And.intro (VS.mk (LeL.of_eq rfl)) (And.intro (VS.mk rfl) ?_)
  (all_goals refine qgp (Lf.mk ?_))
  refine call_f sign_meets [0] [0] ((atF one 5 s1).2,closes) ⟨by decide,by omega⟩ rfl rfl ?_
  refine And.intro (VS.mk (LeL.of_eq rfl)) (And.intro (VS.mk rfl) ?_)
  (all_goals refine qgp ?_<;>(repeat' first | exact trivial | intro hc | refine And.intro ?_ ?_)<;>refine Lf.mk ?_)
  ·refine call_f fail_meets [0] [0] ((signI closes (atF one 5 s1).2).2,2) trivial rfl rfl ?_
   refine And.intro (VS.mk (LeL.of_eq rfl)) (And.intro (VS.mk rfl) ?_)
   (all_goals refine qgp (Lf.mk ?_))
   have ho:oneStep one s=(noE,failS (signI closes (atF one 5 s1).2).2 2):=by rw [hstep,if_neg (by assumption),if_neg (by assumption),if_pos (by assumption)];dsimp only;rw [if_pos hc]
   refine end_mk ?_
   (repeat' (first | (refine VS.mk ?_) | exact trivial | exact rfl | refine And.intro ?_ ?_))
   all_goals (rw [ho];rfl)
  ·have ho:oneStep one s=((atF one 5 s1).1,(signI closes (atF one 5 s1).2).2):=by rw [hstep,if_neg (by assumption),if_neg (by assumption),if_pos (by assumption)];dsimp only;rw [if_neg hc]
   refine end_mk ?_
   (repeat' (first | (refine VS.mk ?_) | exact trivial | exact rfl | refine And.intro ?_ ?_))
   all_goals (rw [ho];rfl)
 ·have hr:s1.rest=[]:=List.eq_nil_of_length_eq_zero (by omega)
  refine call_f fail_meets [0] [0] (s1,9) trivial rfl rfl ?_
  refine And.intro (VS.mk (LeL.of_eq rfl)) (And.intro (VS.mk rfl) ?_)
  (all_goals refine qgp (Lf.mk ?_))
  have ho:oneStep one s=(noE,failS s1 9):=by rw [hstep,if_neg (by assumption),if_neg (by assumption),if_neg (by assumption)];dsimp only;unfold tokI;rw [hr]
  refine end_mk ?_
  (repeat' (first | (refine VS.mk ?_) | exact trivial | exact rfl | refine And.intro ?_ ?_))
  all_goals (rw [ho];rfl)
 ·obtain ⟨r1,e1⟩:=s1
  cases r1 with
  | nil=>exfalso;exact hc rfl
  | cons t r=>
   have ho:oneStep one s=if t.kind=2 then (.mk 1 (signedI t.n 32) [] [],⟨r,e1⟩)
     else if t.kind=1 then (if nameB t.text=true then (.mk 2 0 t.text [],⟨r,e1⟩) else (noE,failS ⟨r,e1⟩ 7))
     else (noE,failS ⟨r,e1⟩ 2):=by rw [hstep,if_neg (by assumption),if_neg (by assumption),if_neg (by assumption)];rfl
   clear hstep hS
   (all_goals refine qgp ?_<;>(repeat' first | exact trivial | intro hc | refine And.intro ?_ ?_)<;>refine Lf.mk ?_)
   ·refine call_p signed_meets2 t.n trivial (VS.mk (LeL.of_eq rfl)) ?_
    (all_goals refine qgp (Lf.mk ?_))
    rw [if_pos hc] at ho
    refine end_le (r1:=exprU (.mk 1 (signedI t.n 32) [] [])) (by rw [exprU_mk];exact .agg (.cons (.refl _) (.cons (.refl _) (.cons (.refl _) (.cons (.nil 4) .nil))))) ?_ (Nat.le_refl _)
    refine end_mk ?_
    (repeat' (first | (refine VS.mk ?_) | exact trivial | exact rfl | refine And.intro ?_ ?_))
    all_goals (rw [ho];rfl)
   ·refine call_p name_any t.text trivial (VS.mk (LeL.of_eq rfl)) ?_
    (all_goals refine qgp ?_<;>(repeat' first | exact trivial | intro hc | refine And.intro ?_ ?_)<;>refine Lf.mk ?_)
    ·rw [if_neg (by assumption),if_pos (by assumption),if_pos hc] at ho
     refine end_le (r1:=exprU (.mk 2 0 t.text [])) (by rw [exprU_mk];exact .agg (.cons (.refl _) (.cons (.refl _) (.cons (.refl _) (.cons (.nil 4) .nil))))) ?_ (Nat.le_refl _)
     refine end_mk ?_
     (repeat' (first | (refine VS.mk ?_) | exact trivial | exact rfl | refine And.intro ?_ ?_))
     all_goals (rw [ho];rfl)
    ·refine call_f fail_meets [0] [0] (⟨r,e1⟩,7) trivial rfl rfl ?_
     refine And.intro (VS.mk (LeL.of_eq rfl)) (And.intro (VS.mk rfl) ?_)
     (all_goals refine qgp (Lf.mk ?_))
     rw [if_neg (by assumption),if_pos hc,if_neg (by rw [(by assumption:nameB t.text=false)];decide)] at ho
     refine end_mk ?_
     (repeat' (first | (refine VS.mk ?_) | exact trivial | exact rfl | refine And.intro ?_ ?_))
     all_goals (rw [ho];rfl)
   ·refine call_f fail_meets [0] [0] (⟨r,e1⟩,2) trivial rfl rfl ?_
    refine And.intro (VS.mk (LeL.of_eq rfl)) (And.intro (VS.mk rfl) ?_)
    (all_goals refine qgp (Lf.mk ?_))
    rw [if_neg (by assumption),if_neg (by assumption)] at ho
    refine end_mk ?_
    (repeat' (first | (refine VS.mk ?_) | exact trivial | exact rfl | refine And.intro ?_ ?_))
    all_goals (rw [ho];rfl)
theorem one_succ (f:Nat):oneI (f+1)=oneStep (oneI f):=by funext s;rw [oneI]
theorem ones:∀ f:Nat,f≤7→OneOk (7 - (f:Int)) (oneI f)
 | 0,_=>one_deep (by decide)
 | f+1,hf=>by
  have h:=ones f (by omega)
  rw [one_succ]
  have e:(7:Int) - ((f+1:Nat):Int)+1=7 - (f:Int):=by omega
  exact one_step (by omega) (by omega) (one_short f) (by rw [e];exact h)
theorem at_one:AtOk 0 0 (atF (oneI 7) 5):=at_all (one_short 7) (ones 7 (by decide))
def parseI (l:List OTok):OExpr×St:=atF (oneI 7) 5 ⟨l,0⟩
def pRes (l:List OTok):OExpr×Int×Int:=if (parseI l).2.err=0 then ((parseI l).1,(l.length:Int) - (parseI l).2.rest.length,0) else (noE,0,(parseI l).2.err)
def pResD (p:OExpr×Int×Int):D:=.tup [exprU p.1,.int .i64 p.2.1,.int .i64 p.2.2]
theorem parse_short (l:List OTok):(parseI l).2.rest.length≤l.length:=at_short (one_short 7) 5 ⟨l,0⟩
theorem parse_meets:Meets Tryz.prog n_expr_Parse (SpecP (fun l:List OTok=>l.length≤1000000000) (fun l=>[.sl 3 (l.map tokD) none]) fun l=>pResD (pRes l)):=by
 refine meets_f tabOk Tryz.func139 rfl (by decide) ?_
 intro l hl
 refine ⟨Nat.le_refl _,by simp [Tryz.f139],fun E hE=>?_⟩
 refine vcOk _ ?_
 (all_goals refine qgp (Lf.mk ?_))
 refine call_f at_one [1] [1] ⟨l,0⟩ hl rfl rfl ?_
 refine And.intro (VS.mk (LeL.of_eq rfl)) (And.intro (VS.mk rfl) ?_)
 have hq:=parse_short l
 have hp:pRes l=if (parseI l).2.err=0 then ((parseI l).1,(l.length:Int) - (parseI l).2.rest.length,0) else (noE,0,(parseI l).2.err):=rfl
 have hx:atF (oneI 7) 5 ⟨l,0⟩=parseI l:=rfl
 rw [hx]
 generalize parseI l=T at *
 obtain ⟨e,r,er⟩:=T
 have hq:r.length≤l.length:=hq
 (all_goals refine qgp ?_<;>(repeat' first | exact trivial | intro hc | refine And.intro ?_ ?_)<;>refine Lf.mk ?_)
 ·rw [hp,if_neg hc]
  exact end_p (VS.mk (.tup (.cons noE_le (.cons (.refl _) (.cons (.refl _) .nil)))))
 ·rw [hp,if_pos hc]
  refine end_p (VS.mk (LeD.of_eq ?_))
  show D.tup [.agg [.int .i64 e.kind,.int .i64 e.n,.str e.name,.sl 4 (e.kids.map exprD) none],.int .i64 _,.int .i64 0]= .tup [exprU e,_,_]
  cases e
  rw [exprU_mk,mk_kind,mk_n,mk_name,mk_kids]
end Go.Proofs.YtfahnaccpncdpaaGreatDoor
namespace Go.Proofs.YtfahnaccpncdpaaGreatDoor
open Go Go.Plat
set_option linter.unusedVariables false
set_option linter.unusedSimpArgs false
set_option maxRecDepth 100000
set_option maxHeartbeats 2000000
attribute [local irreducible] AWP Arith BitS BytesS CallS CatS DrawS EndS IdxS LookS LoopEnd Meets ModeS NilS NormL NormM QuoS RemS ShlS ShrS SideS SplitS bitI
structure OVal where
 name:List UInt8
 n:Int
 deriving DecidableEq
structure OEqu where
 name:List UInt8
 n:Int
def valD (v:OVal):D:=.agg [.str v.name,.int .i64 v.n]
def equD (v:OEqu):D:=.agg [.str v.name,.int .i64 v.n]
def numV (k a b:Int):Int:=
 if k=5 then signedI (a * b) 32 else if k=6 then signedI (a+b) 32 else if k=7 then signedI (a - b) 32
 else if k=8 then signedI (a * 2 ^ (b % 32).toNat) 32 else if k=9 then signedI (a % 4294967296 / 2 ^ (b % 32).toNat) 32
 else if k=10 then signedI (bitI .and .i64 a b) 32 else if k=11 then signedI (bitI .or .i64 a b) 32 else signedI a 32
def S32 (n:Int):Prop:=-2147483648≤n∧n≤2147483647
theorem signed_eq (n:Int):signedI n 32=if n % 4294967296 / 2147483648=1 then n % 4294967296 - 4294967296 else n % 4294967296:=rfl
theorem signed_s32 (n:Int):S32 (signedI n 32):=by
 rw [signed_eq];unfold S32
 split<;>omega
theorem numV_s32 (k a b:Int):S32 (numV k a b):=by
 unfold numV
 repeat' split
 all_goals exact signed_s32 _
theorem and_31 {n:Int}:bitI .and .i64 n 31=n % 32:=and_mask (k:=5) (by decide) (by decide)
theorem and_32 {n:Int}:bitI .and .i64 n 4294967295=n % 4294967296:=and_mask (k:=32) (by decide) (by decide)
theorem not_i64 {n:Int} (h0: -9223372036854775808≤n) (h1:n≤9223372036854775807):bitI .xor .i64 (if IntKind.i64.signed=true then -1 else IntKind.i64.max) n= -n - 1:=by
 unfold bitI
 have e:(BitVec.ofInt IntKind.i64.bits (-1) ^^^ BitVec.ofInt IntKind.i64.bits n).toNat=18446744073709551615 - (BitVec.ofInt 64 n).toNat:=by
  show (BitVec.ofInt 64 (-1) ^^^ BitVec.ofInt 64 n).toNat=_
  have:BitVec.ofInt 64 (-1)=BitVec.allOnes 64:=by decide
  rw [this,BitVec.allOnes_xor,BitVec.toNat_not]
 show IntKind.i64.wrap (((BitVec.ofInt IntKind.i64.bits (-1) ^^^ BitVec.ofInt IntKind.i64.bits n).toNat:Nat):Int)=_
 rw [e]
 have h4:=toNat_ofInt n
 generalize (BitVec.ofInt 64 n).toNat=x at *
 have hx:x≤18446744073709551615:=by omega
 unfold IntKind.wrap
 simp [IntKind.bits,IntKind.signed]
 omega
theorem pow_le31 {y:Nat} (h:y≤31):(1:Int)≤2 ^ y∧(2:Int) ^ y≤2147483648:=by
 have h1:(2:Nat) ^ y≤2 ^ 31:=Nat.pow_le_pow_right (by decide) h
 have h2:1≤(2:Nat) ^ y:=Nat.one_le_two_pow
 have e:((2:Int) ^ y)=((2 ^ y:Nat):Int):=by simp
 rw [e]
 exact ⟨by omega, by have : (2 : Nat) ^ 31 = 2147483648 := by decide
                     omega⟩
theorem shl_bd {a:Int} {y:Nat} (ha:S32 a) (h:y≤31): -4611686018427387904≤a * 2 ^ y∧a * 2 ^ y≤4611686018427387904:=by
 obtain ⟨h1,h2⟩:=pow_le31 h
 obtain ⟨h3,h4⟩:=ha
 generalize (2:Int) ^ y=p at *
 constructor
 ·have: -2147483648 * 2147483648≤a * p:=by
   rcases Int.le_total 0 a with h | h
   ·have:=Int.mul_nonneg h (by omega:0≤p);omega
   ·have h5: -2147483648 * p≤a * p:=Int.mul_le_mul_of_nonneg_right h3 (by omega)
    omega
  omega
 ·have:a * p≤2147483648 * 2147483648:=by
   rcases Int.le_total 0 a with h | h
   ·have h5:a * p≤a * 2147483648:=Int.mul_le_mul_of_nonneg_left h2 h
    omega
   ·have:=Int.mul_nonneg (by omega:0≤-a) (by omega:0≤p)
    rw [Int.neg_mul] at this;omega
  omega
theorem mul_bd {a b:Int} (ha:S32 a) (hb:S32 b): -4611686018427387904≤a * b∧a * b≤4611686018427387904:=by
 obtain ⟨h1,h2⟩:=ha
 obtain ⟨h3,h4⟩:=hb
 have k1:(a * b).natAbs≤2147483648 * 2147483648:=by
  rw [Int.natAbs_mul]
  exact Nat.mul_le_mul (by omega) (by omega)
 omega
theorem shl_var {a y:Int} {K:D→Prop} (ha:S32 a) (h0:0≤y) (h1:y≤31) (h:K (.int .i64 (a * 2 ^ y.toNat))):ShlS .i64 a y K:=by
 unfold ShlS
 refine ⟨h0,?_⟩
 have e:min y.toNat IntKind.i64.bits=y.toNat:=by simp only [IntKind.bits];omega
 obtain ⟨h2,h3⟩:=shl_bd ha (y:=y.toNat) (by omega)
 rw [e,wrap_i64 (by omega) (by omega)]
 exact h
theorem shr_var {x y:Int} {K:D→Prop} (h0:0≤y) (h1:y≤31) (h:K (.int .i64 (x / 2 ^ y.toNat))):ShrS .i64 x y K:=by
 unfold ShrS
 refine ⟨h0,?_⟩
 have e:min y.toNat IntKind.i64.bits=y.toNat:=by simp only [IntKind.bits];omega
 have hp:(0:Int)≤2 ^ y.toNat:=Int.le_of_lt (Int.pow_pos (by decide))
 rw [e,Int.fdiv_eq_ediv_of_nonneg _ hp]
 exact h
attribute [local irreducible] signedI
theorem number_meets:Meets Tryz.prog n_expr_number (SpecP (fun ((k,a,b):Int×Int×Int)=>S32 a∧S32 b) (fun (k,a,b)=>[.int .i64 k,.int .i64 a,.int .i64 b]) fun (k,a,b)=>.int .i64 (numV k a b)):=by
 refine meets_f tabOk Tryz.func169 rfl (by decide) ?_
 rintro ⟨k,a,b⟩ ⟨ha,hb⟩
 refine ⟨Nat.le_refl _,by simp [Tryz.f169],fun E hE=>?_⟩
 refine vcOk _ ?_
 have hm:=mul_bd ha hb
 have ha1:=ha.1
 have ha2:=ha.2
 have hb1:=hb.1
 have hb2:=hb.2
 (all_goals refine qgo ?_<;>(repeat' first | exact trivial | intro hc | refine And.intro ?_ ?_)<;>refine Lf.mk ?_)
 any_goals (first | (refine bit_mk and_31 ?_) | (refine bit_mk and_32 ?_) | (refine bit_mk rfl ?_) | skip)
 have hb32:0≤b % 32∧b % 32≤31:=by omega
 (all_goals refine qgo (Lf.mk ?_))
 any_goals (first | (refine shl_var ha (by omega) (by omega) ?_) | (refine bit_mk and_31 ?_) | skip)
 (all_goals refine qgo (Lf.mk ?_))
 any_goals (first | (refine shr_var (by omega) (by omega) ?_) | skip)
 (all_goals refine qgo (Lf.mk ?_))
 all_goals (refine call_p signed_meets2 _ trivial (VS.mk (LeL.of_eq rfl)) ?_)
 (all_goals refine qgo (Lf.mk ?_))
 all_goals
  refine end_p (VS.mk (LeD.of_eq (congrArg (D.int .i64) (?_:_=numV k a b))))
  unfold numV
  repeat (first | rw [if_pos (by assumption)] | rw [if_neg (by assumption)])
def twoV (k:Int) (a b:OVal):OVal×Int:=
 if a.name=[]∧b.name=[] then (⟨[],numV k a.n b.n⟩,0)
 else if k=6∧(a.name=[]∨b.name=[]) then (⟨a.name++b.name,numV k a.n b.n⟩,0)
 else if k=7∧b.name=[] then (⟨a.name,numV k a.n b.n⟩,0)
 else if k=7∧a.name=b.name then (⟨[],numV k a.n b.n⟩,0)
 else (⟨[],0⟩,8)
def vresD (x:OVal×Int):D:=.tup [valD x.1,.int .i64 x.2]
attribute [local irreducible] numV
theorem two_meets:Meets Tryz.prog n_expr_two (SpecP (fun ((k,a,b):Int×OVal×OVal)=>S32 a.n∧S32 b.n∧a.name.length≤1000000000∧b.name.length≤1000000000) (fun (k,a,b)=>[.int .i64 k,valD a,valD b]) fun (k,a,b)=>vresD (twoV k a b)):=by
 refine meets_f tabOk Tryz.func160 rfl (by decide) ?_
 rintro ⟨k,a,b⟩ ⟨ha,hb,hna,hnb⟩
 refine ⟨Nat.le_refl _,by simp [Tryz.f160],fun E hE=>?_⟩
 refine vcOk _ ?_
 (all_goals refine qgo ?_<;>(repeat' first | exact trivial | intro hc | refine And.intro ?_ ?_)<;>refine Lf.mk ?_)
 any_goals (first | (exfalso;exact absurd ‹a.name=[]› ‹¬ a.name=[]›) | (exfalso;exact absurd ‹b.name=[]› ‹¬ b.name=[]›) | (exfalso;omega) | skip)
 any_goals (first | (refine cat_mk (by omega) ?_) | skip)
 (all_goals refine qgo (Lf.mk ?_))
 any_goals (first | (refine call_p number_meets (k,a.n,b.n) ⟨ha,hb⟩ (VS.mk (LeL.of_eq rfl)) ?_) | skip)
 (all_goals refine qgo (Lf.mk ?_))
 all_goals
  refine end_p (VS.mk (LeD.of_eq (?_:_=vresD (twoV k a b))))
  simp_all [twoV,vresD,valD]
def findQ (n:List UInt8):List OEqu→Option Int
 | []=>none
 | s::l=>if s.name=n then some s.n else findQ n l
def idxQ (n:List UInt8):List OEqu→Nat→Int
 | [],_=>-1
 | s::l,k=>if s.name=n then k else idxQ n l (k+1)
theorem idxQ_spec (n:List UInt8):∀ (l:List OEqu) (k:Nat),(findQ n l=none∧idxQ n l k= -1)∨∃ (i:Nat) (s:OEqu),l[i]?=some s∧idxQ n l k=((k+i:Nat):Int)∧findQ n l=some s.n
 | [],k=>.inl ⟨rfl,rfl⟩
 | s::l,k=>by
  rw [findQ,idxQ]
  by_cases h:s.name=n
  ·rw [if_pos h,if_pos h]
   exact .inr ⟨0,s,rfl,rfl,rfl⟩
  ·rw [if_neg h,if_neg h]
   rcases idxQ_spec n l (k+1) with h1 | ⟨i,t,h1,h2,h3⟩
   ·exact .inl h1
   ·exact .inr ⟨i+1,t,h1,by rw [h2];congr 1;omega,h3⟩
def noVal:OVal:=⟨[],0⟩
def topV (k n:Int) (s:List UInt8) (vs:List OVal) (l:List OEqu):OVal×Int:=
 if k=1∧vs=[] then (⟨[],signedI n 32⟩,0)
 else if k=2∧vs=[] then (match findQ s l with | some m=>(⟨[],signedI m 32⟩,0) | none=>(⟨s,0⟩,0))
 else match vs with
  | [v]=>if k=3∨k=4 then (if v.name=[] then (if k=3 then (⟨[],signedI (-v.n) 32⟩,0) else (⟨[],signedI (-v.n - 1) 32⟩,0)) else (noVal,8)) else (noVal,1)
  | [a,b]=>if 5≤k∧k≤11 then twoV k a b else (noVal,1)
  | _=>(noVal,1)
mutual
def evalE (l:List OEqu):OExpr→OVal×Int
 | .mk k n s ks=>match evalL l ks with
  | .inl w=>(noVal,w)
  | .inr vs=>topV k n s vs l
def evalL (l:List OEqu):List OExpr→Int ⊕ List OVal
 | []=>.inr []
 | e::es=>if (evalE l e).2=0 then (match evalL l es with | .inl w=>.inl w | .inr vs=>.inr ((evalE l e).1::vs)) else .inl (evalE l e).2
end
def evA (l:List OEqu) (acc:List OVal) (es:List OExpr):Int ⊕ List OVal:=match evalL l es with | .inl w=>.inl w | .inr vs=>.inr (acc++vs)
theorem evA_nil (l:List OEqu) (acc:List OVal):evA l acc []= .inr acc:=by unfold evA;rw [evalL];simp
theorem evA_cons (l:List OEqu) (acc:List OVal) (e:OExpr) (es:List OExpr):evA l acc (e::es)=if (evalE l e).2=0 then evA l (acc++[(evalE l e).1]) es else .inl (evalE l e).2:=by
 unfold evA
 rw [evalL]
 by_cases h:(evalE l e).2=0
 ·rw [if_pos h,if_pos h]
  cases evalL l es<;>simp
 ·rw [if_neg h,if_neg h]
theorem evA_all (l:List OEqu) (es:List OExpr):evA l [] es=evalL l es:=by unfold evA;cases evalL l es<;>simp
theorem evalE_eq (l:List OEqu) (e:OExpr):evalE l e=match evalL l e.kids with
  | .inl w=>(noVal,w)
  | .inr vs=>topV e.kind e.n e.name vs l:=by
 cases e with
 | mk k n s ks=>rw [evalE];rfl
structure VOk (v:OVal) (n:Nat):Prop where
 s32:S32 v.n
 len:v.name.length≤n
theorem two_ok {k:Int} {a b:OVal} {m n:Nat} (ha:VOk a m) (hb:VOk b n):VOk (twoV k a b).1 (m+n):=by
 have h1:=ha.len
 have h2:=hb.len
 unfold twoV
 split
 ·exact ⟨numV_s32 _ _ _,by simp⟩
 split
 ·exact ⟨numV_s32 _ _ _,by simp;omega⟩
 split
 ·exact ⟨numV_s32 _ _ _,by dsimp only;omega⟩
 split
 ·exact ⟨numV_s32 _ _ _,by simp⟩
 ·exact ⟨⟨by decide,by decide⟩,by simp⟩
theorem no_ok {n:Nat}:VOk noVal n:=⟨⟨by decide,by decide⟩,by simp [noVal]⟩
def nsum:List OVal→Nat
 | []=>0
 | v::vs=>v.name.length+nsum vs
theorem nsum_app:∀ (a:List OVal) (v:OVal),nsum (a++[v])=nsum a+v.name.length
 | [],v=>by simp [nsum]
 | x::a,v=>by rw [List.cons_append,nsum,nsum,nsum_app];omega
theorem top_ok {k n:Int} {s:List UInt8} {vs:List OVal} {l:List OEqu} {m:Nat} (h:∀ v∈vs,S32 v.n) (hm:nsum vs≤m):VOk (topV k n s vs l).1 (s.length+m):=by
 unfold topV
 split
 ·exact ⟨signed_s32 _,by simp⟩
 split
 ·split
  ·exact ⟨signed_s32 _,by simp⟩
  ·exact ⟨⟨show (-2147483648:Int)≤0 by decide,show (0:Int)≤2147483647 by decide⟩,by dsimp only;omega⟩
 rcases vs with _ | ⟨a,_ | ⟨b,_ | ⟨c,r⟩⟩⟩<;>dsimp only
 ·exact no_ok
 ·split
  ·split
   ·split
    ·exact ⟨signed_s32 _,by simp⟩
    ·exact ⟨signed_s32 _,by simp⟩
   ·exact no_ok
  ·exact no_ok
 ·split
  ·have:=two_ok (k:=k) (a:=a) (b:=b) ⟨h a (by simp),Nat.le_refl _⟩ ⟨h b (by simp),Nat.le_refl _⟩
   simp only [nsum] at hm
   exact ⟨this.s32,by have:=this.len;omega⟩
  ·exact no_ok
 ·exact no_ok
mutual
theorem eval_ok (l:List OEqu):∀ e:OExpr,VOk (evalE l e).1 (nodes e)
 | .mk k n s ks=>by
  rw [evalE,nodes]
  cases h:evalL l ks with
  | inl w=>exact no_ok
  | inr vs=>
   obtain ⟨h1,h2⟩:=evalL_ok l ks vs h
   have:=top_ok (k:=k) (n:=n) (s:=s) (l:=l) h1 h2
   exact ⟨this.s32,by have:=this.len;dsimp only;omega⟩
theorem evalL_ok (l:List OEqu):∀ (es:List OExpr) (vs:List OVal),evalL l es= .inr vs→(∀ v∈vs,S32 v.n)∧nsum vs≤nodesL es
 | [],vs,h=>by rw [evalL] at h;cases h;exact ⟨by simp,by simp [nsum]⟩
 | e::es,vs,h=>by
  rw [evalL] at h
  have he:=eval_ok l e
  split at h
  ·cases hl:evalL l es with
   | inl w=>rw [hl] at h;cases h
   | inr ws=>
    rw [hl] at h
    cases h
    obtain ⟨h1,h2⟩:=evalL_ok l es ws hl
    refine ⟨fun v hv=>?_,?_⟩
    ·rcases List.mem_cons.1 hv with rfl | hv
     ·exact he.s32
     ·exact h1 v hv
    ·rw [nsum,nodesL]
     have:=he.len
     omega
  ·cases h
end
theorem nil_len {α:Type} {l:List α} (h:l.length=0):l=[]:=List.eq_nil_of_length_eq_zero h
theorem top_num {k n:Int} {s:List UInt8} {vs:List OVal} {l:List OEqu} (h1:k=1) (h2:vs.length=0):topV k n s vs l=(⟨[],signedI n 32⟩,0):=by unfold topV;rw [if_pos ⟨h1,nil_len h2⟩]
theorem top_name {k n:Int} {s:List UInt8} {vs:List OVal} {l:List OEqu} (h1:k=2) (h2:vs.length=0):topV k n s vs l=(match findQ s l with | some m=>(⟨[],signedI m 32⟩,0) | none=>(⟨s,0⟩,0)):=by
 unfold topV;rw [if_neg (by rintro ⟨h,_⟩;omega),if_pos ⟨h1,nil_len h2⟩]
theorem top_one {k n:Int} {s:List UInt8} {v:OVal} {l:List OEqu} (h1:k=3∨k=4):topV k n s [v] l=if v.name=[] then (if k=3 then (⟨[],signedI (-v.n) 32⟩,0) else (⟨[],signedI (-v.n - 1) 32⟩,0)) else (noVal,8):=by
 unfold topV;rw [if_neg (by rintro ⟨h,_⟩;omega),if_neg (by rintro ⟨h,_⟩;omega)];dsimp only;rw [if_pos h1]
theorem top_two {k n:Int} {s:List UInt8} {a b:OVal} {l:List OEqu} (h1:5≤k∧k≤11):topV k n s [a,b] l=twoV k a b:=by
 unfold topV;rw [if_neg (by rintro ⟨h,_⟩;omega),if_neg (by rintro ⟨h,_⟩;omega)];dsimp only;rw [if_pos h1]
theorem top_bad {k n:Int} {s:List UInt8} {vs:List OVal} {l:List OEqu} (h0:vs.length=0→k≠1∧k≠2) (h1:vs.length=1→k≠3∧k≠4) (h2:vs.length=2→k < 5∨11 < k):topV k n s vs l=(noVal,1):=by
 unfold topV
 rw [if_neg (by rintro ⟨h,h3⟩;exact (h0 (by rw [h3];rfl)).1 h),if_neg (by rintro ⟨h,h3⟩;exact (h0 (by rw [h3];rfl)).2 h)]
 rcases vs with _ | ⟨a,_ | ⟨b,_ | ⟨c,r⟩⟩⟩<;>dsimp only
 ·rw [if_neg (by have:=h1 rfl;omega)]
 ·rw [if_neg (by have:=h2 rfl;omega)]
theorem len_one {α:Type} {l:List α} (h:l.length=1):∃ a,l=[a]:=by
 rcases l with _ | ⟨a,_ | ⟨b,r⟩⟩<;>simp at h
 exact ⟨a,rfl⟩
theorem len_two {α:Type} {l:List α} (h:l.length=2):∃ a b,l=[a,b]:=by
 rcases l with _ | ⟨a,_ | ⟨b,_ | ⟨c,r⟩⟩⟩<;>simp at h
 exact ⟨a,b,rfl⟩
theorem evclos_meets:Meets Tryz.prog n_expr_Eval_1 (SpecF (fun _:OEqu×OExpr=>True) (fun (s,e)=>[equD s,.loc 0 0]) (fun (s,e)=>[.cells [.int .i64 e.kind,.int .i64 e.n,.str e.name,.sl 4 (e.kids.map exprD) none]]) (fun (s,e)=>.bool (s.name==e.name))
  fun (s,e)=>[.cells [.int .i64 e.kind,.int .i64 e.n,.str e.name,.sl 4 (e.kids.map exprD) none]]):=by
 refine meets_f tabOk Tryz.func159 rfl (by decide) ?_
 rintro ⟨s,e⟩ -
 refine ⟨Nat.le_refl _,by simp [Tryz.f159],fun E hE=>?_⟩
 refine vcOk _ ?_
 (all_goals refine qgo (Lf.mk ?_))
 refine end_mk ?_
 (repeat' (first | (refine VS.mk ?_) | exact trivial | exact rfl | refine And.intro ?_ ?_))
theorem evindex_meets:Meets Tryz.prog n_slices_IndexFunc_api_Equ_api_Equ (SpecF (fun ((l,e):List OEqu×OExpr)=>l.length≤1000000000) (fun (l,e)=>[.sl 2 (l.map equD) none,.fn n_expr_Eval_1 [.loc 0 0]])
  (fun (l,e)=>[.cells [.int .i64 e.kind,.int .i64 e.n,.str e.name,.sl 4 (e.kids.map exprD) none]]) (fun (l,e)=>.int .i64 (idxQ e.name l 0)) fun (l,e)=>[.cells [.int .i64 e.kind,.int .i64 e.n,.str e.name,.sl 4 (e.kids.map exprD) none]]):=by
 refine meets_f tabOk Tryz.func141 rfl (by decide) ?_
 rintro ⟨l,e⟩ hl
 have hl:l.length≤1000000000:=hl
 refine ⟨Nat.le_refl _,by simp [Tryz.f141],fun E hE=>?_⟩
 refine vcOk _ ?_
 (all_goals refine qgo (Lf.mk ?_))
 refine awp_loop (α:=Nat) (fun k=>k≤l.length∧idxQ e.name l 0=idxQ e.name (l.drop k) k)
  (fun k=>[(7,.int .i64 l.length),(8,.int .i64 k),(0,.sl 2 (l.map equD) none),(1,.fn n_expr_Eval_1 [.loc 0 0])])
  (fun _=>[.cells [.int .i64 e.kind,.int .i64 e.n,.str e.name,.sl 4 (e.kids.map exprD) none]]) (fun k=>l.length - k) (fun _=>by simp [hE]) 0 ⟨Nat.zero_le _,by simp⟩ ?_ ?_
 ·(repeat' (first | (refine VS.mk ?_) | exact trivial | exact rfl | refine And.intro ?_ ?_))
 rintro k ⟨hk,hf⟩
 refine vcOk _ ?_
 (all_goals refine qgo ?_<;>(repeat' first | exact trivial | intro hc | refine And.intro ?_ ?_)<;>refine Lf.mk ?_)
 ·obtain ⟨s,hsk⟩:=at_of_lt (l:=l) (k:=k) (by omega)
  have hkl:k < l.length:=by omega
  have hget:l[k]=s:=by rw [List.getElem?_eq_getElem hkl] at hsk;exact Option.some.inj hsk
  rw [List.drop_eq_getElem_cons hkl,hget,idxQ] at hf
  refine ix_map s (by omega) (by simpa using hsk) ?_
  (all_goals refine qgo (Lf.mk ?_))
  refine call_f evclos_meets [0] [0] (s,e) trivial rfl rfl ?_
  refine And.intro (VS.mk (LeL.of_eq rfl)) (And.intro (VS.mk rfl) ?_)
  (all_goals refine qgo ?_<;>(repeat' first | exact trivial | intro hc | refine And.intro ?_ ?_)<;>refine Lf.mk ?_)
  ·rw [if_pos hc] at hf
   refine end_mk ?_
   (repeat' (first | (refine VS.mk ?_) | exact trivial | exact rfl | refine And.intro ?_ ?_))
   exact congrArg (D.int .i64) hf.symm
  ·rw [if_neg hc] at hf
   refine loop_end (k+1) ⟨by omega,hf⟩ (by omega) ?_
   (repeat' (first | (refine VS.mk ?_) | exact trivial | exact rfl | refine And.intro ?_ ?_))
 ·rw [List.drop_of_length_le (by omega),idxQ] at hf
  refine end_mk ?_
  (repeat' (first | (refine VS.mk ?_) | exact trivial | exact rfl | refine And.intro ?_ ?_))
  exact congrArg (D.int .i64) hf.symm
attribute [local irreducible] OExpr.kids OExpr.kind OExpr.n OExpr.name evalE evalL exprD findQ idxQ nodes twoV
theorem no_vres {w:Int} {x:OVal×Int} (h:x=(noVal,w)):LeD (.tup [.agg [.str [],.int .i64 0],.int .i64 w]) (vresD x):=by subst h;exact .refl _
theorem eval_meets (l:List OEqu) (hl:l.length≤1000000000):∀ n:Nat,Meets Tryz.prog n_expr_Eval (SpecP (fun e:OExpr=>nodes e≤n∧nodes e≤4194304) (fun e=>[exprU e,.sl 2 (l.map equD) none]) fun e=>vresD (evalE l e))
 | 0=>by
  refine meets_f tabOk Tryz.func140 rfl (by decide) fun e h=>?_
  have:=nodes_pos e
  omega
 | n+1=>by
  have ih:=eval_meets l hl n
  refine meets_f tabOk Tryz.func140 rfl (by decide) ?_
  rintro e ⟨hn,hN⟩
  have hkl:=kids_len e
  have hnl:=name_len e
  refine ⟨Nat.le_refl _,by simp [Tryz.f140],fun E hE=>?_⟩
  refine vcOk _ ?_
  (all_goals refine qgo (Lf.mk ?_))
  refine awp_weak (weak_nil 6 2 rfl) ?_
  generalize hEV:evalL l e.kids=EV at *
  have hev0:evA l [] e.kids=EV:=by rw [evA_all,hEV]
  refine awp_loop (α:=Nat×List OVal) (fun p=>p.1≤e.kids.length∧evA l p.2 (e.kids.drop p.1)=EV∧p.2.length=p.1∧(∀ v∈p.2,S32 v.n)∧nsum p.2≤p.1 * 4194304)
   (fun p=>[(13,.sl 4 (e.kids.map exprD) none),(14,.int .i64 e.kids.length),(15,.int .i64 p.1),(1,.sl 2 (l.map equD) none),(2,.loc 0 0),(4,.loc 1 0),(6,.sl 2 (p.2.map valD) (some 2))])
   (fun p=>[.cells [.int .i64 e.kind,.int .i64 e.n,.str e.name,.sl 4 (e.kids.map exprD) none],.cells [.str [],.int .i64 0],.spare p.2.length]) (fun p=>e.kids.length - p.1) (fun _=>by simp [hE]) (0,[]) ⟨Nat.zero_le _,by simpa using hev0,rfl,by simp,by simp [nsum]⟩ ?_ ?_
  ·(repeat' (first | (refine VS.mk ?_) | exact trivial | exact rfl | refine And.intro ?_ ?_))
  rintro ⟨k,vs⟩ ⟨hk,hev,hvl,hvs,hns⟩
  dsimp only at hk hev hvl hvs hns ⊢
  refine vcOk _ ?_
  (all_goals refine qgo ?_<;>(repeat' first | exact trivial | intro hc | refine And.intro ?_ ?_)<;>refine Lf.mk ?_)
  ·obtain ⟨x,hx⟩:=at_of_lt (l:=e.kids) (k:=k) (by omega)
   have hxm:=List.mem_of_getElem? hx
   have hxn:=nodes_kid hxm
   have hok:=eval_ok l x
   have hkl3:k < e.kids.length:=by omega
   have hget:e.kids[k]=x:=by rw [List.getElem?_eq_getElem hkl3] at hx;exact Option.some.inj hx
   rw [List.drop_eq_getElem_cons hkl3,hget,evA_cons] at hev
   refine ix_expr x (by omega) (by simpa using hx) ?_
   (all_goals refine qgo (Lf.mk ?_))
   refine call_p ih x ⟨by omega,by omega⟩ (VS.mk (LeL.of_eq rfl)) ?_
   (all_goals refine qgo ?_<;>(repeat' first | exact trivial | intro hc | refine And.intro ?_ ?_)<;>refine Lf.mk ?_)
   ·rw [if_neg hc] at hev
    subst hev
    exact end_p (VS.mk (no_vres (by rw [evalE_eq,hEV])))
   ·rw [if_pos hc] at hev
    have hl1:=hok.len
    refine loop_end (k+1,vs++[(evalE l x).1]) ⟨by (dsimp only;omega),hev,by (dsimp only;rw [List.length_append,hvl];rfl),fun v hv=>?_,by (dsimp only;rw [nsum_app];omega)⟩ (by dsimp only;omega) ?_
    ·(repeat' (first | (refine VS.mk ?_) | exact trivial | exact rfl | refine And.intro ?_ ?_))
     ·simp [valD]
     ·simp [valD]
    ·rcases List.mem_append.1 hv with h | h
     ·exact hvs v h
     ·rw [List.mem_singleton.1 h];exact hok.s32
  all_goals
   rw [List.drop_of_length_le (by omega),evA_nil] at hev
   subst hev
   have hT:evalE l e=topV e.kind e.n e.name vs l:=by rw [evalE_eq,hEV]
  any_goals (first | (exfalso;omega) | exact end_p (VS.mk (no_vres (by rw [hT,top_bad (by omega) (by omega) (by omega)]))) | skip)
  ·refine call_p signed_meets2 e.n trivial (VS.mk (LeL.of_eq rfl)) ?_
   (all_goals refine qgo (Lf.mk ?_))
   refine end_p (VS.mk (LeD.of_eq ?_))
   rw [hT,top_num (by omega) (by omega)]
   rfl
  ·refine call_f evindex_meets [0] [0] (l,e) hl rfl rfl ?_
   refine And.intro (VS.mk (LeL.of_eq rfl)) (And.intro (VS.mk rfl) ?_)
   rcases idxQ_spec e.name l 0 with ⟨h1,h2⟩ | ⟨i,s,h1,h2,h3⟩
   ·dsimp only
    rw [h2]
    (all_goals refine qgo ?_<;>(repeat' first | exact trivial | intro hc | refine And.intro ?_ ?_)<;>refine Lf.mk ?_)
    ·exfalso;omega
    ·refine end_p (VS.mk (LeD.of_eq ?_))
     rw [hT,top_name (by omega) (by omega),h1]
     rfl
   ·have hil:i < l.length:=(List.getElem?_eq_some_iff.1 h1).1
    rw [Nat.zero_add] at h2
    dsimp only
    rw [h2]
    (all_goals refine qgo ?_<;>(repeat' first | exact trivial | intro hc | refine And.intro ?_ ?_)<;>refine Lf.mk ?_)
    ·refine ix_map s (by omega) (by simpa using h1) ?_
     (all_goals refine qgo (Lf.mk ?_))
     refine call_p signed_meets2 s.n trivial (VS.mk (LeL.of_eq rfl)) ?_
     (all_goals refine qgo (Lf.mk ?_))
     refine end_p (VS.mk (LeD.of_eq ?_))
     rw [hT,top_name (by omega) (by omega),h3]
     rfl
    ·exfalso;omega
  ·obtain ⟨v,hv1⟩:=len_one (l:=vs) (by omega)
   subst hv1
   obtain ⟨s1,s2⟩:=hvs v (by simp)
   (all_goals refine qgo ?_<;>(repeat' first | exact trivial | intro hc | refine And.intro ?_ ?_)<;>refine Lf.mk ?_)
   ·exact end_p (VS.mk (no_vres (by rw [hT,top_one (by omega),if_neg (by assumption)])))
   ·refine call_p signed_meets2 (-v.n) trivial (VS.mk (LeL.of_eq (by rw [Int.zero_sub]))) ?_
    (all_goals refine qgo (Lf.mk ?_))
    refine end_p (VS.mk (LeD.of_eq ?_))
    rw [hT,top_one (by omega),if_pos (by assumption),if_pos (by assumption)]
    rfl
   ·exfalso;omega
  ·obtain ⟨v,hv1⟩:=len_one (l:=vs) (by omega)
   subst hv1
   obtain ⟨s1,s2⟩:=hvs v (by simp)
   (all_goals refine qgo ?_<;>(repeat' first | exact trivial | intro hc | refine And.intro ?_ ?_)<;>refine Lf.mk ?_)
   ·exact end_p (VS.mk (no_vres (by rw [hT,top_one (by omega),if_neg (by assumption)])))
   ·exfalso;omega
   ·refine bit_mk (not_i64 (by omega) (by omega)) ?_
    (all_goals refine qgo (Lf.mk ?_))
    refine call_p signed_meets2 (-v.n - 1) trivial (VS.mk (LeL.of_eq rfl)) ?_
    (all_goals refine qgo (Lf.mk ?_))
    refine end_p (VS.mk (LeD.of_eq ?_))
    rw [hT,top_one (by omega),if_pos (by assumption),if_neg (by omega)]
    rfl
  ·obtain ⟨a,b,hab⟩:=len_two (l:=vs) (by omega)
   subst hab
   have sa:=hvs a (by simp)
   have sb:=hvs b (by simp)
   simp only [nsum] at hns
   (all_goals refine qgo (Lf.mk ?_))
   refine call_p two_meets (e.kind,a,b) ⟨sa,sb,by omega,by omega⟩ (VS.mk (LeL.of_eq rfl)) ?_
   (all_goals refine qgo (Lf.mk ?_))
   refine end_p (VS.mk (LeD.of_eq ?_))
   rw [hT,top_two (by omega)]
   rfl
end Go.Proofs.YtfahnaccpncdpaaGreatDoor
namespace Go.Proofs.YtfahnaccpncdpaaGreatDoor
open Go Go.Plat
set_option linter.unusedVariables false
set_option linter.unusedSimpArgs false
set_option maxRecDepth 100000
set_option maxHeartbeats 2000000
attribute [local irreducible] AWP Arith BitS BytesS CallS CatS DrawS EndS IdxS LookS LoopEnd Meets ModeS NilS NormL NormM QuoS RemS ShlS ShrS SideS SplitS bitI
structure ORel where
 at_:Int
 size:Int
 name:List UInt8
 add:Int
 deriving DecidableEq
structure OObj where
 code:List UInt8
 syms:List OSym
 rels:List ORel
 deriving DecidableEq
def relD (r:ORel):D:=.agg [.int .i64 r.at_,.int .i64 r.size,.str r.name,.int .i64 r.add]
def objD (o:OObj):D:=.agg [bytesD o.code,.sl 2 (o.syms.map symD) none,.sl 4 (o.rels.map relD) none]
attribute [local irreducible] letterB digitB kindB nameB RenM signedI
end Go.Proofs.YtfahnaccpncdpaaGreatDoor
namespace Go.Proofs.YtfahnaccpncdpaaGreatDoor
open Go Go.Plat
set_option linter.unusedVariables false
set_option linter.unusedSimpArgs false
set_option maxRecDepth 100000
set_option maxHeartbeats 2000000
attribute [local irreducible] AWP Arith BitS BytesS CallS CatS DrawS EndS IdxS LookS LoopEnd Meets ModeS NilS NormL NormM QuoS RemS ShlS ShrS SideS SplitS bitI
def tk (t:LTok):OTok:=⟨t.kind,t.n,t.text⟩
theorem ltok_tok (l:List LTok):l.map ltokD=(l.map tk).map tokD:=by rw [List.map_map];rfl
structure AOp where
 sign:List UInt8
 reg:Int
 val:OVal
def aopD (o:AOp):D:=.agg [.str o.sign,.int .i64 o.reg,.str o.val.name,.int .i64 o.val.n]
def noV:OVal:=⟨[],0⟩
def regNames:List (List UInt8):=[[48],[49],[50],[51],[52],[53],[54],[55],[56],[57],[49,48],[49,49],[49,50],[49,51],[49,52],[49,53]]
def regI (t:LTok):Int:=if t.kind=1∧t.text.headD 0=114 then idxT (t.text.drop 1) regNames 0 else -1
structure RB where
 rest:List LTok
 fe:Int
 fa:Int
def failR (s:RB) (e line:Int):RB:=if s.fe=0 then ⟨s.rest,e,line⟩ else s
def takeA (c:List UInt8) (s:RB):Bool×RB:=match s.rest with
 | t::r=>if t.kind=3∧t.text=c then (true,⟨r,s.fe,s.fa⟩) else (false,s)
 | []=>(false,s)
def valueA (q:List OEqu) (line:Int) (s:RB):OVal×RB:=
 if (pRes (s.rest.map tk)).2.2=0 then
  ((evalE q (pRes (s.rest.map tk)).1).1,if (evalE q (pRes (s.rest.map tk)).1).2=0 then ⟨s.rest.drop (pRes (s.rest.map tk)).2.1.toNat,s.fe,s.fa⟩
    else failR ⟨s.rest.drop (pRes (s.rest.map tk)).2.1.toNat,s.fe,s.fa⟩ (evalE q (pRes (s.rest.map tk)).1).2 line)
 else (noV,failR s (pRes (s.rest.map tk)).2.2 line)
def signA (s:RB):List UInt8×RB:=
 if (takeA [35] s).1=true then ([35],(takeA [35] s).2) else if (takeA [64] s).1=true then ([64],(takeA [64] s).2) else if (takeA [61] s).1=true then ([61],(takeA [61] s).2) else ([],s)
def regH:List LTok→Int
 | []=>-1
 | t::_=>regI t
def oneB (q:List OEqu) (line:Int) (sg:List UInt8) (s:RB):AOp×RB:=
 if (sg=[]∨sg=[64])∧0≤regH s.rest then (⟨if sg=[] then [114] else sg,regH s.rest,noV⟩,⟨s.rest.drop 1,s.fe,s.fa⟩)
 else if sg=[64] then (⟨sg,0,noV⟩,failR s 2 line)
 else (⟨sg,0,(valueA q line s).1⟩,(valueA q line s).2)
def oneA (q:List OEqu) (line:Int) (s:RB):AOp×RB:=oneB q line (signA s).1 (signA s).2
def commaA (line:Int) (s:RB):RB:=if (takeA [44] s).1=false∨(takeA [44] s).2.rest=[] then failR (takeA [44] s).2 2 line else (takeA [44] s).2
def allF (q:List OEqu) (line:Int):Nat→List AOp→RB→List AOp×RB
 | 0,out,s=>(out,s)
 | f+1,out,s=>if s.rest=[]∨s.fe≠0 then (out,s) else if (oneA q line s).2.rest=[] then (out++[(oneA q line s).1],(oneA q line s).2)
  else allF q line f (out++[(oneA q line s).1]) (commaA line (oneA q line s).2)
def allA (q:List OEqu) (line:Int) (s:RB):List AOp×RB:=allF q line (s.rest.length+1) [] s
def sgA (o:AOp):List UInt8:=if o.sign=[] then [112] else o.sign
def sgsA (l:List AOp):List UInt8:=(l.map sgA).flatten
def shapesT (s:List UInt8):List Int:=
 if s=[] then [0] else if s=[35,114] then [1] else if s=[114,114] then [2] else if s=[114] then [3] else if s=[112] then [4,5] else if s=[64] then [6]
 else if s=[112,114] then [7,8] else if s=[114,64] then [9] else if s=[64,114] then [10] else if s=[35] then [11] else []
structure AItem where
 kind:Int
 at_:Int
 line:Int
 ins:Ins
 long:Bool
 size:Int
 val:OVal
 pool:Int
 idx:Int
def itemC (x:AItem):List D:=[.int .i64 x.kind,.int .i64 x.at_,.int .i64 x.line,.int .i64 x.ins.op,.int .i64 x.ins.n,.int .i64 x.ins.m,.int .i64 x.ins.imm,.bool x.long,.int .i64 x.size,
 .str x.val.name,.int .i64 x.val.n,.int .i64 x.pool,.int .i64 x.idx]
def itemD (x:AItem):D:=.agg (itemC x)
def noI:Ins:=⟨0,0,0,0⟩
structure Bld where
 items:List AItem
 syms:List OSym
 marks:List Int
 shut:List (List OVal)
 has:Bool
 cur:List OVal
 fe:Int
 fa:Int
def failB (b:Bld) (e line:Int):Bld:=if b.fe=0 then { b with fe:=e,fa:=line } else b
def putB (b:Bld) (x:AItem):Bld:={ b with items:=b.items++[x] }
def idxV (v:OVal):List OVal→Nat→Int
 | [],_=>-1
 | x::l,k=>if x.name=v.name∧x.n=v.n then k else idxV v l (k+1)
def withV (v:OVal) (l:List OVal):List OVal:=if idxV v l 0 < 0 then l++[v] else l
def slotV (v:OVal) (l:List OVal):Int:=if idxV v l 0 < 0 then l.length else idxV v l 0
def litB (b:Bld) (v:OVal) (reg line:Int):Bld:=
 putB { b with has:=true,cur:=withV v b.cur } ⟨6,0,line,⟨24,reg,0,0⟩,false,0,noV,b.shut.length,slotV v b.cur⟩
def poolB (b:Bld) (line:Int):Bld:=
 if b.has=true then { putB b ⟨9,0,line,noI,false,0,noV,b.shut.length,0⟩ with shut:=b.shut++[b.cur],has:=false,cur:=[] } else b
def pickS (name:List UInt8):List Int→Int×Int→Int×Int
 | [],p=>p
 | s::l,p=>pickS name l (if 0 < findI name s then (findI name s,s) else p)
def aop (l:List AOp) (k:Nat):AOp:=(l[k]?).getD ⟨[],0,noV⟩
def draftI (op shape:Int) (l:List AOp) (line:Int):AItem:=
 if shape=1 then ⟨1,0,line,⟨op,(aop l 1).reg,0,(aop l 0).val.n⟩,false,0,(aop l 0).val,0,0⟩
 else if shape=2∨shape=9∨shape=10 then ⟨1,0,line,⟨op,(aop l 1).reg,(aop l 0).reg,0⟩,false,0,noV,0,0⟩
 else if shape=3∨shape=6 then ⟨1,0,line,⟨op,(aop l 0).reg,0,0⟩,false,0,noV,0,0⟩
 else if shape=4 then ⟨2,0,line,⟨op,0,0,0⟩,false,0,(aop l 0).val,0,0⟩
 else if shape=5 then ⟨3,0,line,⟨op,0,0,0⟩,false,0,(aop l 0).val,0,0⟩
 else if shape=7 then ⟨4,0,line,⟨op,(aop l 1).reg,0,0⟩,false,0,(aop l 0).val,0,0⟩
 else if shape=8 then ⟨5,0,line,⟨op,(aop l 1).reg,0,0⟩,false,0,(aop l 0).val,0,0⟩
 else if shape=11 then ⟨1,0,line,⟨op,0,0,(aop l 0).val.n⟩,false,0,(aop l 0).val,0,0⟩
 else ⟨1,0,line,⟨op,0,0,0⟩,false,0,noV,0,0⟩
def instrB (b:Bld) (name:List UInt8) (l:List AOp) (line:Int):Bld:=
 if name=[109,111,118,46,108]∧l.length=2∧(aop l 0).sign=[61]∧(aop l 1).sign=[114] then litB b (aop l 0).val (aop l 1).reg line
 else if (pickS name (shapesT (sgsA l)) (0,0)).1=0 then failB b 1 line
 else if ((pickS name (shapesT (sgsA l)) (0,0)).2=1∨(pickS name (shapesT (sgsA l)) (0,0)).2=11)∧(aop l 0).val.name≠[] then failB b 8 line
 else if wrongI (draftI (pickS name (shapesT (sgsA l)) (0,0)).1 (pickS name (shapesT (sgsA l)) (0,0)).2 l line).ins=0
  then putB b (draftI (pickS name (shapesT (sgsA l)) (0,0)).1 (pickS name (shapesT (sgsA l)) (0,0)).2 l line)
 else failB b (wrongI (draftI (pickS name (shapesT (sgsA l)) (0,0)).1 (pickS name (shapesT (sgsA l)) (0,0)).2 l line).ins) line
def lowN (size:Int):Int:=if size=1 then -128 else if size=2 then -32768 else -2147483648
def highN (size:Int):Int:=if size=1 then 255 else if size=2 then 65535 else 4294967295
def datB (size line:Int) (b:Bld) (o:AOp):Bld:=
 putB (if o.sign≠[] then failB b 2 line else if o.val.name≠[]∧size=1 then failB b 8 line else if o.val.name=[]∧(o.val.n < lowN size∨highN size < o.val.n) then failB b 3 line else b)
  ⟨7,0,line,noI,false,size,o.val,0,0⟩
def dataB (b:Bld) (size:Int) (l:List AOp) (line:Int):Bld:=l.foldl (datB size line) (if l=[] then failB b 2 line else b)
def alignB (b:Bld) (l:List AOp) (line:Int):Bld:=
 if l.length≠1∨(aop l 0).sign≠[]∨(aop l 0).val.name≠[] then failB b 2 line
 else if (aop l 0).val.n≠1∧(aop l 0).val.n≠2∧(aop l 0).val.n≠4∧(aop l 0).val.n≠8∧(aop l 0).val.n≠16 then failB b 3 line
 else putB b ⟨8,0,line,noI,false,(aop l 0).val.n,noV,0,0⟩
def digsA:List UInt8→Int→Option Int
 | [],n=>some n
 | c::r,n=>if 48≤c.toNat∧c.toNat≤57 then digsA r (n * 10+((c.toNat:Int) - 48)) else none
theorem digsA_cons (c:UInt8) (r:List UInt8) (n:Int):digsA (c::r) n=if 48≤c.toNat∧c.toNat≤57 then digsA r (n * 10+((c.toNat:Int) - 48)) else none:=rfl
def signT2 (s:List UInt8):Bool:=decide (s.headD 0=45∨s.headD 0=43)
def atoiS (s:List UInt8):Option Int:=
 if signT2 s=true then (if s.length≤1 then none else if s.headD 0=45 then (digsA (s.drop 1) 0).map (fun n=>-n) else digsA (s.drop 1) 0) else digsA s 0
def atoiD (r:Option Int) (e:D):D:=match r with | some n=>.tup [.int .i64 n,.nilif] | none=>.tup [.int .i64 0,e]
theorem digs_step {t:List UInt8} {k:Nat} {n:Int} (hk:k < t.length):digsA (t.drop k) n=if 48≤(t.getD k 0).toNat∧(t.getD k 0).toNat≤57 then digsA (t.drop (k+1)) (n * 10+(((t.getD k 0).toNat:Int) - 48)) else none:=by
 rw [List.drop_eq_getElem_cons hk,digsA_cons,List.getD_eq_getElem?_getD,List.getElem?_eq_getElem hk]
 rfl
theorem low_d48 (c:UInt8):((lowByte ((c.toNat:Int) - 48)).toNat:Int)=((c.toNat:Int) - 48) % 256:=lowByte_toNat _
theorem low_no {c:UInt8} (h:9 < ((lowByte ((c.toNat:Int) - 48)).toNat:Int)):¬ (48≤c.toNat∧c.toNat≤57):=by rw [low_d48] at h;omega
theorem low_yes {c:UInt8} (h:¬ 9 < ((lowByte ((c.toNat:Int) - 48)).toNat:Int)):(48≤c.toNat∧c.toNat≤57)∧((lowByte ((c.toNat:Int) - 48)).toNat:Int)=(c.toNat:Int) - 48:=by
 rw [low_d48] at h ⊢
 have:=c.toNat_lt
 omega
theorem head_c (s:List UInt8) (c:UInt8):(((s.getD (Int.toNat 0) 0).toNat:Int)=(c.toNat:Int))↔s.headD 0=c:=by
 have:s.getD (Int.toNat 0) 0=s.headD 0:=by cases s<;>rfl
 rw [this]
 refine ⟨fun h=>?_,fun h=>by rw [h]⟩
 exact UInt8.toNat.inj (by omega)
theorem at_neg {s:List UInt8} (h:s.headD 0=45):atoiS s=if s.length≤1 then none else (digsA (s.drop 1) 0).map (fun n=>-n):=by
 unfold atoiS signT2
 rw [if_pos (decide_eq_true (.inl h)),if_pos h]
theorem at_pos {s:List UInt8} (h:¬ s.headD 0=45) (h':s.headD 0=43):atoiS s=if s.length≤1 then none else digsA (s.drop 1) 0:=by
 unfold atoiS signT2
 rw [if_pos (decide_eq_true (.inr h')),if_neg h]
theorem at_no {s:List UInt8} (h:¬ s.headD 0=45) (h':¬ s.headD 0=43):atoiS s=digsA s 0:=by
 unfold atoiS signT2
 rw [if_neg (fun e=>(of_decide_eq_true e).elim h h')]
attribute [local irreducible] digsA Lib.itoa
def inAtoi (s:List UInt8):Prop:=1≤s.length∧s.length≤2
def AtI (t:List UInt8) (p:Nat×Int):Prop:=p.1≤t.length∧(p.1=0→p.2=0)∧(p.1≤1→p.2≤9)∧0≤p.2∧p.2≤99∧digsA (t.drop p.1) p.2=digsA t 0
theorem iatoi_meets:Meets Tryz.prog n_internal_strconv_Atoi (SpecP (fun s:List UInt8=>inAtoi s) (fun s=>[.str s]) fun s=>atoiD (atoiS s) (.iface 237 (.int .i64 2))):=by
 refine meets_f tabOk Tryz.func161 rfl (by decide) ?_
 intro s hs
 obtain ⟨h1,h2⟩:=hs
 refine ⟨Nat.le_refl _,by simp [Tryz.f161],fun E hE=>?_⟩
 have ht:List.drop (Int.toNat 1) (List.take ((s.length:Int)).toNat s)=s.drop 1:=by rw [Int.toNat_natCast,List.take_length];rfl
 have hl1:(s.drop 1).length=s.length - 1:=by simp
 refine vcOk _ ?_
 (all_goals refine qgp ?_<;>(repeat' first | exact trivial | intro hc | refine And.intro ?_ ?_)<;>refine Lf.mk ?_)
 all_goals (try rw [ht] at hc)
 all_goals (try rw [ht])
 ·have h45:=(head_c s 45).1 (by assumption)
  refine end_p (VS.mk (LeD.of_eq ?_))
  rw [at_neg h45,if_pos (show s.length≤1 by omega)]
  rfl
 ·have h45:=(head_c s 45).1 (by assumption)
  have hAt:∀ e,atoiD (atoiS s) e=atoiD ((digsA (s.drop 1) 0).map (fun n=>-n)) e:=fun e=>by rw [at_neg h45,if_neg (show ¬ s.length≤1 by omega)]
  have hl2:(s.drop 1).length≤2:=by omega
  clear ht
  generalize s.drop 1=t at *
  refine awp_loop (α:=Nat×Int) (AtI t) (fun p=>[(47,.sl 1 (t.map byteD) none),(48,.int .i64 t.length),(49,.int .i64 p.1),(6,.int .i64 p.2),(5,.str s)])
   (fun _=>[]) (fun p=>t.length - p.1) (fun _=>by rw [hE];exact Nat.le_refl _) (0,0) ⟨Nat.zero_le _,fun _=>rfl,fun _=>by decide,by decide,by decide,rfl⟩ ?_ ?_
  ·(repeat' (first | (refine VS.mk ?_) | exact trivial | exact rfl | refine And.intro ?_ ?_))
  rintro ⟨k,n⟩ ⟨i1,i2,i3,i4,i5,i6⟩
  dsimp only at i1 i2 i3 i4 i5 i6 ⊢
  refine vcOk _ ?_
  (all_goals refine qgp ?_<;>(repeat' first | exact trivial | intro hc | refine And.intro ?_ ?_)<;>refine Lf.mk ?_)
  ·have hst:=digs_step (n:=n) (show k < t.length by omega)
   rw [if_neg (low_no hc),i6] at hst
   refine end_p (VS.mk (LeD.of_eq ?_))
   rw [hAt,hst]
   rfl
  ·obtain ⟨l1,l2⟩:=low_yes hc
   have hst:=digs_step (n:=n) (show k < t.length by omega)
   rw [if_pos l1,i6] at hst
   have hj:AtI t (k+1,n * 10+(((t.getD k 0).toNat:Int) - 48)):=by
    refine ⟨?_,?_,?_,?_,?_,hst.symm⟩<;>dsimp only
    ·omega
    ·intro h;omega
    ·intro h;have:=i2 (by omega);omega
    ·omega
    ·have:=i3 (by omega);omega
   refine loop_end _ hj (by dsimp only;omega) ?_
   (repeat' (first | (refine VS.mk ?_) | exact trivial | exact rfl | refine And.intro ?_ ?_))
   all_goals rw [l2]
  all_goals
   have hk:k=t.length:=by omega
   subst hk
   rw [List.drop_length] at i6
   have i6:digsA t 0=some n:=by rw [← i6,digsA]
   refine end_p (VS.mk (LeD.of_eq ?_))
   rw [hAt,i6]
   exact congrArg (fun x=>D.tup [.int .i64 x,.nilif]) (Int.zero_sub n)
 ·have h45:¬ s.headD 0=45:=fun h=>absurd ((head_c s 45).2 h) (by assumption)
  have h43:=(head_c s 43).1 (by assumption)
  refine end_p (VS.mk (LeD.of_eq ?_))
  rw [at_pos h45 h43,if_pos (show s.length≤1 by omega)]
  rfl
 ·have h45:¬ s.headD 0=45:=fun h=>absurd ((head_c s 45).2 h) (by assumption)
  have h43:=(head_c s 43).1 (by assumption)
  have hAt:∀ e,atoiD (atoiS s) e=atoiD (digsA (s.drop 1) 0) e:=fun e=>by rw [at_pos h45 h43,if_neg (show ¬ s.length≤1 by omega)]
  have hl2:(s.drop 1).length≤2:=by omega
  clear ht
  generalize s.drop 1=t at *
  refine awp_loop (α:=Nat×Int) (AtI t) (fun p=>[(47,.sl 1 (t.map byteD) none),(48,.int .i64 t.length),(49,.int .i64 p.1),(6,.int .i64 p.2),(5,.str s)])
   (fun _=>[]) (fun p=>t.length - p.1) (fun _=>by rw [hE];exact Nat.le_refl _) (0,0) ⟨Nat.zero_le _,fun _=>rfl,fun _=>by decide,by decide,by decide,rfl⟩ ?_ ?_
  ·(repeat' (first | (refine VS.mk ?_) | exact trivial | exact rfl | refine And.intro ?_ ?_))
  rintro ⟨k,n⟩ ⟨i1,i2,i3,i4,i5,i6⟩
  dsimp only at i1 i2 i3 i4 i5 i6 ⊢
  refine vcOk _ ?_
  (all_goals refine qgp ?_<;>(repeat' first | exact trivial | intro hc | refine And.intro ?_ ?_)<;>refine Lf.mk ?_)
  ·have hst:=digs_step (n:=n) (show k < t.length by omega)
   rw [if_neg (low_no hc),i6] at hst
   refine end_p (VS.mk (LeD.of_eq ?_))
   rw [hAt,hst]
   rfl
  ·obtain ⟨l1,l2⟩:=low_yes hc
   have hst:=digs_step (n:=n) (show k < t.length by omega)
   rw [if_pos l1,i6] at hst
   have hj:AtI t (k+1,n * 10+(((t.getD k 0).toNat:Int) - 48)):=by
    refine ⟨?_,?_,?_,?_,?_,hst.symm⟩<;>dsimp only
    ·omega
    ·intro h;omega
    ·intro h;have:=i2 (by omega);omega
    ·omega
    ·have:=i3 (by omega);omega
   refine loop_end _ hj (by dsimp only;omega) ?_
   (repeat' (first | (refine VS.mk ?_) | exact trivial | exact rfl | refine And.intro ?_ ?_))
   all_goals rw [l2]
  all_goals
   have hk:k=t.length:=by omega
   subst hk
   rw [List.drop_length] at i6
   have i6:digsA t 0=some n:=by rw [← i6,digsA]
   refine end_p (VS.mk (LeD.of_eq ?_))
   rw [hAt,i6]
   rfl
 ·have h45:¬ s.headD 0=45:=fun h=>absurd ((head_c s 45).2 h) (by assumption)
  have h43:¬ s.headD 0=43:=fun h=>absurd ((head_c s 43).2 h) (by assumption)
  have hAt:∀ e,atoiD (atoiS s) e=atoiD (digsA s 0) e:=fun e=>by rw [at_no h45 h43]
  refine awp_loop (α:=Nat×Int) (AtI s) (fun p=>[(47,.sl 1 (s.map byteD) none),(48,.int .i64 s.length),(49,.int .i64 p.1),(6,.int .i64 p.2),(5,.str s)])
   (fun _=>[]) (fun p=>s.length - p.1) (fun _=>by rw [hE];exact Nat.le_refl _) (0,0) ⟨Nat.zero_le _,fun _=>rfl,fun _=>by decide,by decide,by decide,rfl⟩ ?_ ?_
  ·(repeat' (first | (refine VS.mk ?_) | exact trivial | exact rfl | refine And.intro ?_ ?_))
  rintro ⟨k,n⟩ ⟨i1,i2,i3,i4,i5,i6⟩
  dsimp only at i1 i2 i3 i4 i5 i6 ⊢
  refine vcOk _ ?_
  (all_goals refine qgp ?_<;>(repeat' first | exact trivial | intro hc | refine And.intro ?_ ?_)<;>refine Lf.mk ?_)
  ·have hst:=digs_step (n:=n) (show k < s.length by omega)
   rw [if_neg (low_no hc),i6] at hst
   refine end_p (VS.mk (LeD.of_eq ?_))
   rw [hAt,hst]
   rfl
  ·obtain ⟨l1,l2⟩:=low_yes hc
   have hst:=digs_step (n:=n) (show k < s.length by omega)
   rw [if_pos l1,i6] at hst
   have hj:AtI s (k+1,n * 10+(((s.getD k 0).toNat:Int) - 48)):=by
    refine ⟨?_,?_,?_,?_,?_,hst.symm⟩<;>dsimp only
    ·omega
    ·intro h;omega
    ·intro h;have:=i2 (by omega);omega
    ·omega
    ·have:=i3 (by omega);omega
   refine loop_end _ hj (by dsimp only;omega) ?_
   (repeat' (first | (refine VS.mk ?_) | exact trivial | exact rfl | refine And.intro ?_ ?_))
   all_goals rw [l2]
  all_goals
   have hk:k=s.length:=by omega
   subst hk
   rw [List.drop_length] at i6
   have i6:digsA s 0=some n:=by rw [← i6,digsA]
   refine end_p (VS.mk (LeD.of_eq ?_))
   rw [hAt,i6]
   rfl
theorem atoi_meets:Meets Tryz.prog n_strconv_Atoi (SpecP (fun s:List UInt8=>inAtoi s) (fun s=>[.str s]) fun s=>atoiD (atoiS s) (.iface 239 .any)):=by
 refine meets_f tabOk Tryz.func142 rfl (by decide) ?_
 intro s hs
 refine ⟨Nat.le_refl _,by simp [Tryz.f142],fun E hE=>?_⟩
 refine vcOk _ ?_
 (all_goals refine qgp (Lf.mk ?_))
 refine call_p iatoi_meets s hs (VS.mk (LeL.of_eq rfl)) ?_
 cases h:atoiS s with
 | some n=>
  dsimp only [atoiD]
  (all_goals refine qgp ?_<;>(repeat' first | exact trivial | intro hc | refine And.intro ?_ ?_)<;>refine Lf.mk ?_)
  all_goals first
   | (exfalso;exact Bool.noConfusion hc)
   | (exfalso;refine absurd trivial ?_;assumption)
   | skip
  exact end_p (VS.mk (LeD.of_eq rfl))
 | none=>
  dsimp only [atoiD]
  (all_goals refine qgp ?_<;>(repeat' first | exact trivial | intro hc | refine And.intro ?_ ?_)<;>refine Lf.mk ?_)
  all_goals first
   | (exfalso;exact Bool.noConfusion hc)
   | (exfalso;refine absurd hc ?_;decide)
   | skip
  refine call_p toerr_meets ([65,116,111,105],s,0,0,2) ⟨by have:=hs.2;omega,.inr rfl⟩ (VS.mk (LeL.of_eq rfl)) ?_
  (all_goals refine qgp (Lf.mk ?_))
  exact end_p (VS.mk (LeD.of_eq rfl))
theorem idx_mem (x:List UInt8):∀ (l:List (List UInt8)) (k:Nat),idxT x l k= -1∨x∈l
 | [],_=>.inl rfl
 | s::l,k=>by
  rw [idxT]
  by_cases h:x=s
  ·exact .inr (by rw [h];exact List.mem_cons_self)
  ·rw [if_neg h]
   exact (idx_mem x l (k+1)).imp id (List.mem_cons_of_mem _)
theorem reg_all:regNames.map (fun r=>(idxT r regNames 0,atoiS r))=(List.range 16).map (fun k:Nat=>((k:Int),some (k:Int))):=by kernel_rfl
theorem reg_ito:(List.range 16).map (fun k=>Lib.itoa ((k:Nat):Int))=regNames:=by kernel_rfl
theorem reg_at {k:Nat} (hk:k < 16):regNames[k]?=some (Lib.itoa (k:Int))∧idxT (Lib.itoa (k:Int)) regNames 0=k∧atoiS (Lib.itoa (k:Int))=some (k:Int):=by
 have h1:regNames[k]?=some (Lib.itoa (k:Int)):=by rw [← reg_ito,List.getElem?_map,List.getElem?_range hk];rfl
 have h2:=congrArg (fun l=>l[k]?) reg_all
 simp only [List.getElem?_map,h1,List.getElem?_range hk,Option.map_some,Option.some.injEq,Prod.mk.injEq] at h2
 exact ⟨h1,h2⟩
theorem reg_yes {s:List UInt8} {n:Int} (h0:0≤n) (h1:n≤15) (h:Lib.itoa n=s):idxT s regNames 0=n:=by
 obtain ⟨k,rfl⟩:=Int.eq_ofNat_of_zero_le h0
 rw [← h]
 exact (reg_at (by omega)).2.1
theorem reg_no {s:List UInt8} (h:∀ n,atoiS s=some n→¬ (0≤n∧n≤15∧Lib.itoa n=s)):idxT s regNames 0= -1:=by
 refine (idx_mem s regNames 0).resolve_right fun hm=>?_
 obtain ⟨k,hk⟩:=List.getElem?_of_mem hm
 have hk16:k < 16:=(List.getElem?_eq_some_iff.1 hk).1
 obtain ⟨h1,_,h3⟩:=reg_at hk16
 rw [h1] at hk
 cases hk
 exact h _ h3 ⟨by omega,by omega,rfl⟩
theorem idx_long {s:List UInt8} (h:s.length=0∨2 < s.length):idxT s regNames 0= -1:=by
 refine (idx_mem s regNames 0).resolve_right fun hm=>?_
 have:∀ r∈regNames,1≤r.length∧r.length≤2:=by decide
 have:=this s hm
 omega
attribute [local irreducible] atoiS regNames idxT
theorem register_meets:Meets Tryz.prog n_asm_register (SpecP (fun t:LTok=>t.text.length≤1000000000) (fun t=>[ltokD t]) fun t=>.int .i64 (regI t)):=by
 refine meets_f tabOk Tryz.func108 rfl (by decide) ?_
 rintro ⟨kd,n,s⟩ hs
 have hs:s.length≤1000000000:=hs
 refine ⟨Nat.le_refl _,by simp [Tryz.f108],fun E hE=>?_⟩
 have ht:List.drop (Int.toNat 1) (List.take ((s.length:Int)).toNat s)=s.drop 1:=by rw [Int.toNat_natCast,List.take_length];rfl
 have hl1:(s.drop 1).length=s.length - 1:=by simp
 refine vcOk _ ?_
 (all_goals refine qgp ?_<;>(repeat' first | exact trivial | intro hc | refine And.intro ?_ ?_)<;>refine Lf.mk ?_)
 ·refine end_p (VS.mk (LeD.of_eq (congrArg (D.int .i64) ?_)))
  unfold regI
  rw [if_neg (fun e=>hc e.1)]
 ·refine end_p (VS.mk (LeD.of_eq (congrArg (D.int .i64) ?_)))
  unfold regI
  dsimp only
  rw [idx_long (.inl (by omega))]
  split<;>rfl
 ·refine end_p (VS.mk (LeD.of_eq (congrArg (D.int .i64) ?_)))
  unfold regI
  dsimp only
  rw [idx_long (.inr (by omega))]
  split<;>rfl
 ·have h114:¬ s.headD 0=114:=fun h=>absurd ((head_c s 114).2 h) (by assumption)
  refine end_p (VS.mk (LeD.of_eq (congrArg (D.int .i64) ?_)))
  unfold regI
  rw [if_neg (fun e=>h114 e.2)]
 ·have h114:=(head_c s 114).1 (by assumption)
  have hR:regI ⟨kd,n,s⟩=idxT (s.drop 1) regNames 0:=by
   unfold regI
   rw [if_pos ⟨by assumption,h114⟩]
  dsimp only
  rw [ht,hR]
  refine call_p atoi_meets (s.drop 1) ⟨by omega,by omega⟩ (VS.mk (LeL.of_eq rfl)) ?_
  cases hat:atoiS (s.drop 1) with
  | none=>
   dsimp only [atoiD]
   (all_goals refine qgp ?_<;>(repeat' first | exact trivial | intro hc | refine And.intro ?_ ?_)<;>refine Lf.mk ?_)
   (any_goals (first | (exfalso;refine Bool.false_ne_true ?_;assumption) | (exfalso;refine Bool.false_ne_true (Eq.symm ?_);assumption) | (exfalso;refine absurd trivial ?_;assumption) | skip))
   refine end_p (VS.mk (LeD.of_eq (congrArg (D.int .i64) ?_)))
   rw [reg_no fun m hm=>by rw [hat] at hm;cases hm]
  | some m=>
   dsimp only [atoiD]
   (all_goals refine qgp ?_<;>(repeat' first | exact trivial | intro hc | refine And.intro ?_ ?_)<;>refine Lf.mk ?_)
   (any_goals (first | (exfalso;refine Bool.false_ne_true ?_;assumption) | (exfalso;refine Bool.false_ne_true (Eq.symm ?_);assumption) | (exfalso;refine absurd trivial ?_;assumption) | skip))
   ·refine end_p (VS.mk (LeD.of_eq (congrArg (D.int .i64) ?_)))
    rw [reg_no fun q hm=>by rw [hat] at hm;cases hm;omega]
   ·refine end_p (VS.mk (LeD.of_eq (congrArg (D.int .i64) ?_)))
    rw [reg_no fun q hm=>by rw [hat] at hm;cases hm;omega]
   ·refine call_p itoa_meets m ⟨by omega,by omega⟩ (VS.mk (LeL.of_eq rfl)) ?_
    (all_goals refine qgp ?_<;>(repeat' first | exact trivial | intro hc | refine And.intro ?_ ?_)<;>refine Lf.mk ?_)
    all_goals (try rw [ht] at hc)
    all_goals (refine end_p (VS.mk (LeD.of_eq (congrArg (D.int .i64) ?_))))
    ·rw [reg_no fun q hm=>by rw [hat] at hm;cases hm;exact fun e=>hc e.2.2]
    ·rw [reg_yes (by omega) (by omega) hc]
end Go.Proofs.YtfahnaccpncdpaaGreatDoor
namespace Go.Proofs.YtfahnaccpncdpaaGreatDoor
open Go Go.Plat
set_option linter.unusedVariables false
set_option linter.unusedSimpArgs false
set_option maxRecDepth 100000
set_option maxHeartbeats 2000000
attribute [local irreducible] AWP Arith BitS BytesS CallS CatS DrawS EndS IdxS LookS LoopEnd Meets ModeS NilS NormL NormM OExpr.kids OExpr.kind OExpr.n OExpr.name QuoS RemS ShlS ShrS SideS SplitS bitI digitB exprD kindB letterB nameB signedI
def wt:List OTok→Nat
 | []=>0
 | t::l=>1+t.text.length+wt l
def Slim (p:St→OExpr×St):Prop:=∀ s,nodes (p s).1+2 * wt (p s).2.rest≤1+2 * wt s.rest
theorem nodes_mk0 (k n:Int) (t:List UInt8):nodes (.mk k n t [])=1+t.length:=by rw [nodes,nodesL,Nat.add_zero]
theorem nodes_mk1 (k n:Int) (a:OExpr):nodes (.mk k n [] [a])=1+nodes a:=by rw [nodes,nodesL,nodesL];simp
theorem nodes_mk2 (k n:Int) (a b:OExpr):nodes (.mk k n [] [a,b])=1+nodes a+nodes b:=by rw [nodes,nodesL,nodesL,nodesL];simp;omega
theorem nodes_no:nodes noE=1:=by unfold noE;rw [nodes_mk0];rfl
theorem sign_wt (l:List (List UInt8)) (s:St):wt (signI l s).2.rest≤wt s.rest∧(0≤(signI l s).1→wt (signI l s).2.rest+1≤wt s.rest):=by
 obtain ⟨r,e⟩:=s
 cases r with
 | nil=>exact ⟨Nat.le_refl _,fun h=>by simp [signI] at h⟩
 | cons t r=>
  simp only [signI]
  split
  ·split
   ·simp only [wt];exact ⟨by omega,fun _=>by omega⟩
   ·exact ⟨Nat.le_refl _,fun h=>by simp at h⟩
  ·exact ⟨Nat.le_refl _,fun h=>by simp at h⟩
theorem loop_slim {k:Nat} {sub:St→OExpr×St} (hs:Slim sub):∀ (g:Nat) (e:OExpr) (s:St),nodes (loopF k sub g e s).1+2 * wt (loopF k sub g e s).2.rest≤nodes e+2 * wt s.rest
 | 0,e,s=>Nat.le_refl _
 | g+1,e,s=>by
  rw [loopF]
  obtain ⟨h1,h1'⟩:=sign_wt (signs k) s
  split
  ·split
   ·dsimp only;omega
   ·rename_i hn
    have h3:=h1' (by omega)
    have:=loop_slim (k:=k) hs g (.mk (kindOf k (signI (signs k) s).1) 0 [] [e,(sub (signI (signs k) s).2).1]) (sub (signI (signs k) s).2).2
    rw [nodes_mk2] at this
    have h2:=hs (signI (signs k) s).2
    omega
  ·exact Nat.le_refl _
theorem level_slim {k:Nat} {sub:St→OExpr×St} (hs:Slim sub):Slim (levelF k sub):=fun s=>by
 have h1:=hs s
 have h2:=loop_slim (k:=k) hs ((sub s).2.rest.length+1) (sub s).1 (sub s).2
 unfold levelF;omega
theorem at_slim {one:St→OExpr×St} (hs:Slim one):∀ j,Slim (atF one j)
 | 0=>hs
 | j+1=>level_slim (at_slim hs j)
theorem tok_slim:Slim tokI:=fun s=>by
 obtain ⟨r,e⟩:=s
 cases r with
 | nil=>simp [tokI,fail_rest,nodes_no,wt]
 | cons t r=>
  simp only [tokI]
  repeat' split
  all_goals (try rw [fail_rest]);simp only [nodes_no,nodes_mk0,wt,List.length_nil];omega
theorem step_slim {one:St→OExpr×St} (hs:Slim one):Slim (oneStep one):=fun s=>by
 obtain ⟨h1,h1'⟩:=sign_wt opens s
 have h2:=hs (signI opens s).2
 have h3:=at_slim hs 5 (signI opens s).2
 have h4:=(sign_wt closes (atF one 5 (signI opens s).2).2).1
 have h5:=tok_slim (signI opens s).2
 have h6:=nodes_pos (atF one 5 (signI opens s).2).1
 unfold oneStep
 repeat' split
 all_goals (try dsimp only);(try rw [fail_rest]);(try simp only [nodes_mk1,nodes_no]);omega
theorem one_slim:∀ f,Slim (oneI f)
 | 0=>fun s=>by rw [oneI,fail_rest,nodes_no];exact Nat.le_refl _
 | f+1=>fun s=>by rw [oneI];exact step_slim (one_slim f) s
theorem res_nodes (L:List OTok):nodes (pRes L).1≤1+2 * wt L:=by
 have h:=at_slim (one_slim 7) 5 ⟨L,0⟩
 have h:nodes (parseI L).1+2 * wt (parseI L).2.rest≤1+2 * wt L:=h
 unfold pRes
 split
 ·dsimp only;omega
 ·dsimp only;rw [nodes_no];omega
end Go.Proofs.YtfahnaccpncdpaaGreatDoor
namespace Go.Proofs.YtfahnaccpncdpaaGreatDoor
open Go Go.Plat
set_option linter.unusedVariables false
set_option linter.unusedSimpArgs false
set_option maxRecDepth 100000
set_option maxHeartbeats 2000000
attribute [local irreducible] AWP Arith BitS BytesS CallS CatS DrawS EndS IdxS Lib.itoa LookS LoopEnd Meets ModeS NilS NormL NormM QuoS RemS ShlS ShrS SideS SplitS bitI evalE pRes regI takeA
def shutD (l:List OVal):D:=.sl 2 (l.map valD) none
def poolsD (b:Bld):List D:=match b.has with | true=>b.shut.map shutD++[.sl 2 (b.cur.map valD) (some 5)] | false=>b.shut.map shutD
def bC (q:List OEqu) (b:Bld):List D:=[.sl 2 (q.map equD) none,.osl 13 1 b.items.length 0 b.items.length,.osl 2 2 b.syms.length 0 b.syms.length,.sl 1 (b.marks.map (.int .i64)) (some 3),
 .osl 1 4 (poolsD b).length 0 (poolsD b).length,.int .i64 b.shut.length,.nilsl,.nilsl,.nilsl,.int .i64 b.fe,.int .i64 b.fa]
def curO (b:Bld):Ob:=match b.has with | true=>.spare b.cur.length | false=>.dead
def bT (b:Bld):List Ob:=[.arr 13 (b.items.map itemD),.arr 2 (b.syms.map symD),.spare b.marks.length,.arr 1 (poolsD b),curO b]
def bO (q:List OEqu) (b:Bld):List Ob:=.cells (bC q b)::bT b
theorem afail_meets:Meets Tryz.prog n_asm_builder_fail (SpecF (fun _:(D×D×D×D×D×D×D×D×D)×Int×Int×Int×Int×List Ob=>True) (fun (_,_,_,e,line,_)=>[.loc 0 0,.int .i64 e,.int .i64 line])
  (fun ((c0,c1,c2,c3,c4,c5,c6,c7,c8),fe,fa,_,_,X)=>.cells [c0,c1,c2,c3,c4,c5,c6,c7,c8,.int .i64 fe,.int .i64 fa]::X) (fun _=>.ff)
  fun ((c0,c1,c2,c3,c4,c5,c6,c7,c8),fe,fa,e,line,X)=>.cells [c0,c1,c2,c3,c4,c5,c6,c7,c8,.int .i64 (if fe=0 then e else fe),.int .i64 (if fe=0 then line else fa)]::X):=by
 refine meets_f tabOk Tryz.func64 rfl (by decide) ?_
 rintro ⟨⟨c0,c1,c2,c3,c4,c5,c6,c7,c8⟩,fe,fa,e,line,X⟩ _
 refine ⟨Nat.le_refl _,by simp [Tryz.f64],fun E hE=>?_⟩
 refine vcOk _ ?_
 (all_goals refine qgp ?_<;>(repeat' first | exact trivial | intro hc | refine And.intro ?_ ?_)<;>refine Lf.mk ?_)
 ·exact end_eq rfl (by dsimp only;rw [if_pos hc,if_pos hc])
 ·exact end_eq rfl (by dsimp only;rw [if_neg hc,if_neg hc])
def arC (s:RB) (line:Int):Ob:=.cells [.loc 0 0,.sl 3 (s.rest.map ltokD) none,.int .i64 line]
def setF (b:Bld) (s:RB):Bld:={ b with fe:=s.fe,fa:=s.fa }
def ardO (q:List OEqu) (b:Bld) (s:RB) (line:Int):List Ob:=bO q (setF b s)++[arC s line]
theorem poolsD_cl (b:Bld):∀ d∈poolsD b,ClL 6 d.cells:=by
 have h1:∀ d∈b.shut.map shutD,ClL 6 d.cells:=by
  intro d hd
  obtain ⟨l,_,rfl⟩:=List.mem_map.1 hd
  exact ClL.cons ClD.sl ClL.nil
 unfold poolsD
 split
 ·intro d hd
  rcases List.mem_append.1 hd with hd | hd
  ·exact h1 d hd
  ·rw [List.mem_singleton] at hd
   subst hd
   exact ClL.cons (ClD.tok (by decide)) ClL.nil
 ·exact h1
theorem items_cl {n:Nat} (l:List AItem):∀ d∈l.map itemD,ClL n d.cells:=by
 intro d hd
 obtain ⟨x,_,rfl⟩:=List.mem_map.1 hd
 exact .cons .int (.cons .int (.cons .int (.cons .int (.cons .int (.cons .int (.cons .int (.cons .bool (.cons .int (.cons .str (.cons .int (.cons .int (.cons .int .nil))))))))))))
theorem syms_cl {n:Nat} (l:List OSym):∀ d∈l.map symD,ClL n d.cells:=by
 intro d hd
 obtain ⟨x,_,rfl⟩:=List.mem_map.1 hd
 exact .cons .str (.cons .int .nil)
theorem ClD.up {n m:Nat} {d:D} (h:ClD n d) (hn:n≤m):ClD m d:=fun f hf=>h f fun k hk=>hf k (by omega)
theorem ClO.up {n m:Nat} {o:Ob} (h:ClO n o) (hn:n≤m):ClO m o:=fun f hf=>h f fun k hk=>hf k (by omega)
theorem bO_cl (q:List OEqu) (b:Bld):∀ o∈bO q b,ClO 6 o:=by
 intro o ho
 simp only [bO,bT,List.mem_cons,List.not_mem_nil,or_false] at ho
 rcases ho with rfl | rfl | rfl | rfl | rfl | rfl
 ·exact .cells (.cons .sl (.cons (.osl (by decide)) (.cons (.osl (by decide)) (.cons (.tok (by decide)) (.cons (.osl (by decide)) (.cons .int (.cons .nilsl (.cons .nilsl (.cons .nilsl (.cons .int (.cons .int .nil)))))))))))
 ·exact .arr (items_cl _)
 ·exact .arr (syms_cl _)
 ·exact .spare
 ·exact .arr (poolsD_cl _)
 ·unfold curO
  split
  ·exact .spare
  ·exact .dead
theorem ardO_cl (q:List OEqu) (b:Bld) (s:RB) (line:Int):∀ o∈ardO q b s line,ClO 7 o:=by
 intro o ho
 rcases List.mem_append.1 ho with ho | ho
 ·exact ClO.up (bO_cl _ _ o ho) (by decide)
 ·rw [List.mem_singleton] at ho
  subst ho
  exact .cells (.cons (.loc (by decide)) (.cons .sl (.cons .int .nil)))
theorem take_cons {c:List UInt8} {t:LTok} {r:List LTok} {e a:Int}:takeA c ⟨t::r,e,a⟩=if t.kind=3∧t.text=c then (true,⟨r,e,a⟩) else (false,⟨t::r,e,a⟩):=by unfold takeA;rfl
theorem take_nil {c:List UInt8} {e a:Int}:takeA c ⟨[],e,a⟩=(false,⟨[],e,a⟩):=by unfold takeA;rfl
theorem atake_meets:Meets Tryz.prog n_asm_reader_take (SpecF (fun ((_,s,_,_):Bld×RB×List UInt8×List OEqu×Int)=>s.rest.length≤1000000000) (fun (_,_,c,_,_)=>[.loc 6 0,.str c])
  (fun (b,s,_,q,line)=>ardO q b s line) (fun (_,s,c,_,_)=>.bool (takeA c s).1) fun (b,s,c,q,line)=>ardO q b (takeA c s).2 line):=by
 refine meets_f tabOk Tryz.func113 rfl (by decide) ?_
 rintro ⟨b,⟨r,e,a⟩,c,q,line⟩ hr
 have hr:r.length≤1000000000:=hr
 refine ⟨Nat.le_refl _,by simp [Tryz.f113],fun E hE=>?_⟩
 cases r with
 | nil=>
  refine vcOk _ ?_
  (all_goals refine qgp ?_<;>(repeat' first | exact trivial | intro hc | refine And.intro ?_ ?_)<;>refine Lf.mk ?_)
  exact end_ff (by rw [take_nil]) (by dsimp only;rw [take_nil]) (Nat.le_of_eq rfl)
 | cons t r=>
  have hr2:r.length+1≤1000000000:=hr
  refine vcOk _ ?_
  (all_goals refine qgp ?_<;>(repeat' first | exact trivial | intro hc | refine And.intro ?_ ?_)<;>refine Lf.mk ?_)
  ·exact end_tt (by rw [take_cons,if_pos ⟨by assumption,by assumption⟩]) (by dsimp only;rw [take_cons,if_pos ⟨by assumption,by assumption⟩];rfl) (Nat.le_of_eq rfl)
  ·exact end_ff (by rw [take_cons,if_neg (fun h=>hc h.2)]) (by dsimp only;rw [take_cons,if_neg (fun h=>hc h.2)]) (Nat.le_of_eq rfl)
  ·exact end_ff (by rw [take_cons,if_neg (fun h=>hc h.1)]) (by dsimp only;rw [take_cons,if_neg (fun h=>hc h.1)]) (Nat.le_of_eq rfl)
theorem fail_bO (q:List OEqu) (b:Bld) (e line:Int):Ob.cells [.sl 2 (q.map equD) none,.osl 13 1 b.items.length 0 b.items.length,.osl 2 2 b.syms.length 0 b.syms.length,.sl 1 (b.marks.map (.int .i64)) (some 3),
  .osl 1 4 (poolsD b).length 0 (poolsD b).length,.int .i64 b.shut.length,.nilsl,.nilsl,.nilsl,.int .i64 (if b.fe=0 then e else b.fe),.int .i64 (if b.fe=0 then line else b.fa)]::bT b=bO q (failB b e line):=by
 unfold failB
 by_cases h:b.fe=0
 ·rw [if_pos h,if_pos h,if_pos h];rfl
 ·rw [if_neg h,if_neg h,if_neg h];rfl
theorem call_fail {av:List D} {L:List Ob} {KP:D→Prop} {KW:D→List Ob→Prop} (q:List OEqu) (b:Bld) (e line:Int) (X:List Ob) (hL:L=bO q b++X) (has:av=[.loc 0 0,.int .i64 e,.int .i64 line])
  (hK:KW .ff (bO q (failB b e line)++X)):CallS Tryz.prog n_asm_builder_fail av L KP KW:=by
 subst has
 refine call_b afail_meets X ((.sl 2 (q.map equD) none,.osl 13 1 b.items.length 0 b.items.length,.osl 2 2 b.syms.length 0 b.syms.length,.sl 1 (b.marks.map (.int .i64)) (some 3),
  .osl 1 4 (poolsD b).length 0 (poolsD b).length,.int .i64 b.shut.length,.nilsl,.nilsl,.nilsl),b.fe,b.fa,e,line,bT b) trivial hL (LeL.refl _) rfl ?_ .ff (bO_cl q b) ?_ ?_
 ·exact .cons (.loc (Nat.lt_of_lt_of_le (by decide:0 < 6) (Nat.le_of_eq rfl))) (.cons .int (.cons .int .nil))
 ·dsimp only
  rw [fail_bO]
  exact bO_cl q _
 ·dsimp only
  rw [fail_bO]
  exact hK
attribute [local irreducible] OExpr.kids OExpr.kind OExpr.n OExpr.name curO exprD nodes poolsD
def inVal (s:RB) (q:List OEqu):Prop:=wt (s.rest.map tk)≤1048576∧q.length≤1000000000
theorem wt_len:∀ l:List OTok,l.length≤wt l
 | []=>Nat.le_refl _
 | t::l=>by have:=wt_len l;rw [wt];simp;omega
theorem wt_drop:∀ (l:List OTok) (k:Nat),wt (l.drop k)≤wt l
 | [],k=>by simp
 | t::l,0=>Nat.le_refl _
 | t::l,k+1=>by have:=wt_drop l k;rw [List.drop_succ_cons,wt];omega
theorem pRes_n (l:List OTok):0≤(pRes l).2.1∧(pRes l).2.1≤l.length:=by
 unfold pRes
 have:=parse_short l
 split
 ·dsimp only;omega
 ·dsimp only;omega
theorem fail_rd (q:List OEqu) (b:Bld) (s:RB) (e line l2:Int) (X:List Ob):bO q (failB (setF b s) e line)++(arC s l2::X)=ardO q b (failR s e line) l2++X:=by
 unfold failB failR ardO setF
 by_cases h:s.fe=0
 ·rw [if_pos h,if_pos h];rfl
 ·rw [if_neg h,if_neg h];rfl
theorem call_rfail {av:List D} {L:List Ob} {KP:D→Prop} {KW:D→List Ob→Prop} (q:List OEqu) (b:Bld) (s:RB) (e line:Int) (X:List Ob) (hL:L=ardO q b s line++X) (has:av=[.loc 0 0,.int .i64 e,.int .i64 line])
  (hK:KW .ff (ardO q b (failR s e line) line++X)):CallS Tryz.prog n_asm_builder_fail av L KP KW:=
 call_fail q (setF b s) e line (arC s line::X) hL has (by rw [fail_rd];exact hK)
theorem valD_cl {n:Nat} (v:OVal):ClD n (valD v):=.agg (.cons .str (.cons .int .nil))
theorem end_rd {n0:Nat} {q:List OEqu} {b:Bld} {s s':RB} {line:Int} {r d:D} {L:List Ob} (X:List Ob) (hL:L=ardO q b s' line++X) (hs:s'=s) (hr:r=d) (hn:n0≤7) (hd:ClD 7 d):EndS n0 r d L (ardO q b s line):=by
 subst hs;subst hr
 exact end_pre (ardO q b s' line) X hL hn hd (ardO_cl _ _ _ _)
theorem value_meets:Meets Tryz.prog n_asm_reader_value (SpecF (fun ((_,s,q,_):Bld×RB×List OEqu×Int)=>inVal s q) (fun _=>[.loc 6 0])
  (fun (b,s,q,line)=>ardO q b s line) (fun (_,s,q,line)=>valD (valueA q line s).1) fun (b,s,q,line)=>ardO q b (valueA q line s).2 line):=by
 refine meets_f tabOk Tryz.func143 rfl (by decide) ?_
 rintro ⟨b,s,q,line⟩ ⟨hw,hq⟩
 refine ⟨Nat.le_refl _,by simp [Tryz.f143],fun E hE=>?_⟩
 have hl:s.rest.length≤1048576:=by have:=wt_len (s.rest.map tk);rw [List.length_map] at this;omega
 have hn:=pRes_n (s.rest.map tk)
 rw [List.length_map] at hn
 have hnodes:=res_nodes (s.rest.map tk)
 have hV:valueA q line s=if (pRes (s.rest.map tk)).2.2=0 then
  ((evalE q (pRes (s.rest.map tk)).1).1,if (evalE q (pRes (s.rest.map tk)).1).2=0 then ⟨s.rest.drop (pRes (s.rest.map tk)).2.1.toNat,s.fe,s.fa⟩
    else failR ⟨s.rest.drop (pRes (s.rest.map tk)).2.1.toNat,s.fe,s.fa⟩ (evalE q (pRes (s.rest.map tk)).1).2 line)
  else (noV,failR s (pRes (s.rest.map tk)).2.2 line):=rfl
 refine vcOk _ ?_
 (all_goals refine qgp (Lf.mk ?_))
 refine call_p parse_meets (s.rest.map tk) (by show (s.rest.map tk).length≤_;rw [List.length_map];omega) (VS.mk (LeL.of_eq (by rw [ltok_tok]))) ?_
 generalize pRes (s.rest.map tk)=P at *
 obtain ⟨e,n,err⟩:=P
 dsimp only at hV hn hnodes ⊢
 (all_goals refine qgp ?_<;>(repeat' first | exact trivial | intro hc | refine And.intro ?_ ?_)<;>refine Lf.mk ?_)
 ·rw [if_neg hc] at hV
  refine call_rfail q b s err line [_,_] rfl rfl ?_
  (all_goals refine qgp (Lf.mk ?_))
  rw [hV]
  exact end_rd [_,_] rfl rfl rfl (Nat.le_of_eq rfl) (valD_cl _)
 ·rw [if_pos hc] at hV
  refine call_p (eval_meets q hq (nodes e)) e ⟨Nat.le_refl _,by omega⟩ (VS.mk (LeL.of_eq rfl)) ?_
  generalize evalE q e=V at *
  obtain ⟨⟨vn,vi⟩,ve⟩:=V
  dsimp only at hV ⊢
  (all_goals refine qgp ?_<;>(repeat' first | exact trivial | intro hc | refine And.intro ?_ ?_)<;>refine Lf.mk ?_)
  ·rw [if_neg hc] at hV
   refine call_rfail q b ⟨s.rest.drop n.toNat,s.fe,s.fa⟩ ve line [_,_,_] rfl rfl ?_
   (all_goals refine qgp (Lf.mk ?_))
   rw [hV]
   exact end_rd [_,_,_] rfl rfl rfl (Nat.le_of_eq rfl) (valD_cl _)
  ·rw [if_pos hc] at hV
   rw [hV]
   exact end_rd (s':=⟨s.rest.drop n.toNat,s.fe,s.fa⟩) [_,_,_] rfl rfl rfl (Nat.le_of_eq rfl) (valD_cl _)
theorem call_take {av:List D} {L:List Ob} {KP:D→Prop} {KW:D→List Ob→Prop} (q:List OEqu) (b:Bld) (s:RB) (c:List UInt8) (line:Int) (X:List Ob) (hl:s.rest.length≤1000000000) (hL:L=ardO q b s line++X) (has:av=[.loc 6 0,.str c])
  (hK:KW (.bool (takeA c s).1) (ardO q b (takeA c s).2 line++X)):CallS Tryz.prog n_asm_reader_take av L KP KW:=by
 subst has
 exact call_b atake_meets X (b,s,c,q,line) hl hL (LeL.refl _) rfl (.cons (.loc (Nat.lt_of_lt_of_le (by decide:6 < 7) (Nat.le_of_eq rfl))) (.cons .str .nil)) .bool (ardO_cl _ _ _ _) (ardO_cl _ _ _ _) hK
theorem call_value {av:List D} {L:List Ob} {KP:D→Prop} {KW:D→List Ob→Prop} (q:List OEqu) (b:Bld) (s:RB) (line:Int) (X:List Ob) (hl:inVal s q) (hL:L=ardO q b s line++X) (has:av=[.loc 6 0])
  (hK:KW (valD (valueA q line s).1) (ardO q b (valueA q line s).2 line++X)):CallS Tryz.prog n_asm_reader_value av L KP KW:=by
 subst has
 exact call_b value_meets X (b,s,q,line) hl hL (LeL.refl _) rfl (.cons (.loc (Nat.lt_of_lt_of_le (by decide:6 < 7) (Nat.le_of_eq rfl))) .nil) (valD_cl _) (ardO_cl _ _ _ _) (ardO_cl _ _ _ _) hK
theorem take_false {c:List UInt8} {s:RB} (h:(takeA c s).1=false):(takeA c s).2=s:=by
 obtain ⟨r,e,a⟩:=s
 cases r with
 | nil=>rw [take_nil]
 | cons t r=>
  rw [take_cons] at h ⊢
  split at h
  ·cases h
  ·rw [if_neg (by assumption)]
theorem take_val {c:List UInt8} {s:RB} {q:List OEqu} (h:inVal s q):inVal (takeA c s).2 q:=by
 obtain ⟨r,e,a⟩:=s
 cases r with
 | nil=>rw [take_nil];exact h
 | cons t r=>
  rw [take_cons]
  split
  ·refine ⟨?_,h.2⟩
   have:=h.1
   rw [List.map_cons,wt] at this
   show wt (r.map tk)≤_
   omega
  ·exact h
theorem take_sub (c:List UInt8) (s:RB):∀ t∈(takeA c s).2.rest,t∈s.rest:=by
 obtain ⟨r,e,a⟩:=s
 cases r with
 | nil=>rw [take_nil];exact fun _ h=>h
 | cons t r=>
  rw [take_cons]
  split
  ·exact fun _ h=>List.mem_cons_of_mem _ h
  ·exact fun _ h=>h
theorem val_len {s:RB} {q:List OEqu} (h:inVal s q):s.rest.length≤1048576:=by have:=h.1;have:=wt_len (s.rest.map tk);rw [List.length_map] at this;omega
theorem sg_neg {s:RB} (h:(takeA [35] s).1=false) (h':(takeA [64] s).1=false) (h2:(takeA [61] s).1=false):signA s=([],s):=by
 unfold signA
 rw [if_neg (by rw [h];decide),if_neg (by rw [h'];decide),if_neg (by rw [h2];decide)]
theorem aopD_cl {n:Nat} (o:AOp):ClD n (aopD o):=.agg (.cons .str (.cons .int (.cons .str (.cons .int .nil))))
theorem sign35 {s:RB} (h:(takeA [35] s).1=true):signA s=([35],(takeA [35] s).2):=by unfold signA;rw [if_pos h]
theorem sign64 {s:RB} (h:(takeA [35] s).1=false) (h1:(takeA [64] s).1=true):signA s=([64],(takeA [64] s).2):=by
 unfold signA;rw [if_neg (by rw [h];decide),if_pos h1]
theorem sign61 {s:RB} (h:(takeA [35] s).1=false) (h1:(takeA [64] s).1=false) (h2:(takeA [61] s).1=true):signA s=([61],(takeA [61] s).2):=by
 unfold signA;rw [if_neg (by rw [h];decide),if_neg (by rw [h1];decide),if_pos h2]
theorem oneB_val {q:List OEqu} {line:Int} {sg:List UInt8} {s:RB} (h:¬ (sg=[]∨sg=[64])):oneB q line sg s=(⟨sg,0,(valueA q line s).1⟩,(valueA q line s).2):=by
 unfold oneB;rw [if_neg fun e=>h e.1,if_neg fun e=>h (.inr e)]
theorem oneB_reg {q:List OEqu} {line:Int} {sg:List UInt8} {t:LTok} {r:List LTok} {e a:Int} (h:sg=[]∨sg=[64]) (h1:0≤regI t):oneB q line sg ⟨t::r,e,a⟩=(⟨if sg=[] then [114] else sg,regI t,noV⟩,⟨r,e,a⟩):=by
 unfold oneB;rw [if_pos ⟨h,h1⟩];rfl
theorem oneB_at {q:List OEqu} {line:Int} {s:RB} (h:regH s.rest < 0):oneB q line [64] s=(⟨[64],0,noV⟩,failR s 2 line):=by
 unfold oneB;rw [if_neg fun e=>by omega,if_pos rfl]
theorem oneB_no {q:List OEqu} {line:Int} {s:RB} (h:regH s.rest < 0):oneB q line [] s=(⟨[],0,(valueA q line s).1⟩,(valueA q line s).2):=by
 unfold oneB;rw [if_neg fun e=>by omega,if_neg (by decide)]
theorem one_meets:Meets Tryz.prog n_asm_reader_one (SpecF (fun ((_,s,q,_):Bld×RB×List OEqu×Int)=>inVal s q∧∀ t∈s.rest,t.text.length≤1000000000) (fun _=>[.loc 6 0])
  (fun (b,s,q,line)=>ardO q b s line) (fun (_,s,q,line)=>aopD (oneA q line s).1) fun (b,s,q,line)=>ardO q b (oneA q line s).2 line):=by
 refine meets_f tabOk Tryz.func112 rfl (by decide) ?_
 rintro ⟨b,s,q,line⟩ ⟨hv,htx⟩
 have hv:inVal s q:=hv
 have htx:∀ t∈s.rest,t.text.length≤1000000000:=htx
 refine ⟨Nat.le_refl _,by simp [Tryz.f112],fun E hE=>?_⟩
 have hl:=val_len hv
 refine vcOk _ ?_
 (all_goals refine qgp (Lf.mk ?_))
 refine awp_unroll (vcOk _ ?_)
 (all_goals refine qgp ?_<;>(repeat' first | exact trivial | intro hc | refine And.intro ?_ ?_)<;>refine Lf.mk ?_)
 refine call_take q b s [35] line [_,_] (by omega) rfl rfl ?_
 cases h35:(takeA [35] s).1 with
 | true=>
  have hone:oneA q line s=(⟨[35],0,(valueA q line (takeA [35] s).2).1⟩,(valueA q line (takeA [35] s).2).2):=by unfold oneA;rw [sign35 h35];exact oneB_val (sg:=[35]) (by decide)
  (all_goals refine qgp ?_<;>(repeat' first | exact trivial | intro hc | refine And.intro ?_ ?_)<;>refine Lf.mk ?_)
  (any_goals (first | (exfalso;refine Bool.false_ne_true ?_;assumption) | (exfalso;refine Bool.false_ne_true (Eq.symm ?_);assumption) | (exfalso;refine absurd trivial ?_;assumption) | skip))
  all_goals first
   | (exfalso;exact absurd (by assumption:([35]:List UInt8)=[64]) (by decide))
   | (exfalso;exact absurd (by assumption:([35]:List UInt8)=[]) (by decide))
   | skip
  all_goals (refine call_value q b (takeA [35] s).2 line [_,_] (take_val hv) rfl rfl ?_)
  (all_goals refine qgp (Lf.mk ?_))
  all_goals (dsimp only;rw [hone])
  all_goals exact end_rd [_,_] rfl rfl rfl (Nat.le_of_eq rfl) (aopD_cl _)
 | false=>
  rw [take_false h35]
  (all_goals refine qgp ?_<;>(repeat' first | exact trivial | intro hc | refine And.intro ?_ ?_)<;>refine Lf.mk ?_)
  (any_goals (first | (exfalso;refine Bool.false_ne_true ?_;assumption) | (exfalso;refine Bool.false_ne_true (Eq.symm ?_);assumption) | (exfalso;refine absurd trivial ?_;assumption) | skip))
  refine in_round (vcOk _ ?_)
  (all_goals refine qgp ?_<;>(repeat' first | exact trivial | intro hc | refine And.intro ?_ ?_)<;>refine Lf.mk ?_)
  refine call_take q b s [64] line [_,_] (by omega) rfl rfl ?_
  cases h64:(takeA [64] s).1 with
  | true=>
   have hone:oneA q line s=oneB q line [64] (takeA [64] s).2:=by unfold oneA;rw [sign64 h35 h64]
   have hsub:∀ t∈(takeA [64] s).2.rest,t.text.length≤1000000000:=fun t ht=>htx t (take_sub _ _ t ht)
   have hl2:=val_len (take_val (c:=[64]) hv)
   generalize (takeA [64] s).2=s' at *
   obtain ⟨r,e,a⟩:=s'
   cases r with
   | nil=>
    have hone:oneA q line s=(⟨[64],0,noV⟩,failR ⟨[],e,a⟩ 2 line):=by rw [hone];exact oneB_at (show regH [] < 0 by decide)
    (all_goals refine qgp ?_<;>(repeat' first | exact trivial | intro hc | refine And.intro ?_ ?_)<;>refine Lf.mk ?_)
    (any_goals (first | (exfalso;refine Bool.false_ne_true ?_;assumption) | (exfalso;refine Bool.false_ne_true (Eq.symm ?_);assumption) | (exfalso;refine absurd trivial ?_;assumption) | skip))
    all_goals first
     | (exfalso;exact absurd (by assumption:¬ ([64]:List UInt8)=[64]) (by decide))
     | skip
    refine call_rfail q b ⟨[],e,a⟩ 2 line [_,_] rfl rfl ?_
    (all_goals refine qgp (Lf.mk ?_))
    dsimp only
    rw [hone]
    exact end_rd [_,_] rfl rfl rfl (Nat.le_of_eq rfl) (aopD_cl _)
   | cons t r=>
    have hl2:r.length+1≤1048576:=hl2
    (all_goals refine qgp ?_<;>(repeat' first | exact trivial | intro hc | refine And.intro ?_ ?_)<;>refine Lf.mk ?_)
    (any_goals (first | (exfalso;refine Bool.false_ne_true ?_;assumption) | (exfalso;refine Bool.false_ne_true (Eq.symm ?_);assumption) | (exfalso;refine absurd trivial ?_;assumption) | skip))
    all_goals first
     | (exfalso;exact absurd trivial (by assumption))
     | (exfalso;exact absurd (by assumption:([64]:List UInt8)=[]) (by decide))
     | (exfalso;exact absurd (by assumption:¬ ([64]:List UInt8)=[64]) (by decide))
     | skip
    refine call_p register_meets t (hsub t List.mem_cons_self) (VS.mk (LeL.of_eq rfl)) ?_
    (all_goals refine qgp ?_<;>(repeat' first | exact trivial | intro hc | refine And.intro ?_ ?_)<;>refine Lf.mk ?_)
    all_goals first
     | (exfalso;exact absurd trivial (by assumption))
     | (exfalso;exact absurd (by assumption:([64]:List UInt8)=[]) (by decide))
     | (exfalso;exact absurd (by assumption:¬ ([64]:List UInt8)=[64]) (by decide))
     | skip
    ·have hone:oneA q line s=(⟨[64],regI t,noV⟩,⟨r,e,a⟩):=by rw [hone];exact oneB_reg (.inr rfl) (by assumption)
     dsimp only
     rw [hone]
     exact end_rd (s':=⟨r,e,a⟩) [_,_] rfl rfl rfl (Nat.le_of_eq rfl) (aopD_cl _)
    ·have hone:oneA q line s=(⟨[64],0,noV⟩,failR ⟨t::r,e,a⟩ 2 line):=by rw [hone];exact oneB_at (show regI t < 0 by omega)
     refine call_rfail q b ⟨t::r,e,a⟩ 2 line [_,_] rfl rfl ?_
     (all_goals refine qgp (Lf.mk ?_))
     dsimp only
     rw [hone]
     exact end_rd [_,_] rfl rfl rfl (Nat.le_of_eq rfl) (aopD_cl _)
  | false=>
   rw [take_false h64]
   (all_goals refine qgp ?_<;>(repeat' first | exact trivial | intro hc | refine And.intro ?_ ?_)<;>refine Lf.mk ?_)
   (any_goals (first | (exfalso;refine Bool.false_ne_true ?_;assumption) | (exfalso;refine Bool.false_ne_true (Eq.symm ?_);assumption) | (exfalso;refine absurd trivial ?_;assumption) | skip))
   refine in_round (vcOk _ ?_)
   (all_goals refine qgp ?_<;>(repeat' first | exact trivial | intro hc | refine And.intro ?_ ?_)<;>refine Lf.mk ?_)
   refine call_take q b s [61] line [_,_] (by omega) rfl rfl ?_
   cases h61:(takeA [61] s).1 with
   | true=>
    have hone:oneA q line s=(⟨[61],0,(valueA q line (takeA [61] s).2).1⟩,(valueA q line (takeA [61] s).2).2):=by unfold oneA;rw [sign61 h35 h64 h61];exact oneB_val (sg:=[61]) (by decide)
    (all_goals refine qgp ?_<;>(repeat' first | exact trivial | intro hc | refine And.intro ?_ ?_)<;>refine Lf.mk ?_)
    (any_goals (first | (exfalso;refine Bool.false_ne_true ?_;assumption) | (exfalso;refine Bool.false_ne_true (Eq.symm ?_);assumption) | (exfalso;refine absurd trivial ?_;assumption) | skip))
    all_goals first
     | (exfalso;exact absurd (by assumption:([61]:List UInt8)=[64]) (by decide))
     | (exfalso;exact absurd (by assumption:([61]:List UInt8)=[]) (by decide))
     | skip
    all_goals (refine call_value q b (takeA [61] s).2 line [_,_] (take_val hv) rfl rfl ?_)
    (all_goals refine qgp (Lf.mk ?_))
    all_goals (dsimp only;rw [hone])
    all_goals exact end_rd [_,_] rfl rfl rfl (Nat.le_of_eq rfl) (aopD_cl _)
   | false=>
    have hone:oneA q line s=oneB q line [] s:=by unfold oneA;rw [sg_neg h35 h64 h61]
    rw [take_false h61]
    clear h35 h64 h61
    obtain ⟨r,e,a⟩:=s
    cases r with
    | nil=>
     have hone:oneA q line ⟨[],e,a⟩=(⟨[],0,(valueA q line ⟨[],e,a⟩).1⟩,(valueA q line ⟨[],e,a⟩).2):=by rw [hone];exact oneB_no (show regH [] < 0 by decide)
     (all_goals refine qgp ?_<;>(repeat' first | exact trivial | intro hc | refine And.intro ?_ ?_)<;>refine Lf.mk ?_)
     (any_goals (first | (exfalso;refine Bool.false_ne_true ?_;assumption) | (exfalso;refine Bool.false_ne_true (Eq.symm ?_);assumption) | (exfalso;refine absurd trivial ?_;assumption) | skip))
     refine in_round (vcOk _ ?_)
     (all_goals refine qgp ?_<;>(repeat' first | exact trivial | intro hc | refine And.intro ?_ ?_)<;>refine Lf.mk ?_)
     all_goals first
      | (exfalso;exact absurd trivial (by assumption))
      | (exfalso;exact absurd (by assumption:([]:List UInt8)=[64]) (by decide))
      | skip
     refine call_value q b ⟨[],e,a⟩ line [_,_] hv rfl rfl ?_
     (all_goals refine qgp (Lf.mk ?_))
     dsimp only
     rw [hone]
     exact end_rd [_,_] rfl rfl rfl (Nat.le_of_eq rfl) (aopD_cl _)
    | cons t r=>
     have hl2:r.length+1≤1048576:=hl
     (all_goals refine qgp ?_<;>(repeat' first | exact trivial | intro hc | refine And.intro ?_ ?_)<;>refine Lf.mk ?_)
     (any_goals (first | (exfalso;refine Bool.false_ne_true ?_;assumption) | (exfalso;refine Bool.false_ne_true (Eq.symm ?_);assumption) | (exfalso;refine absurd trivial ?_;assumption) | skip))
     refine in_round (vcOk _ ?_)
     (all_goals refine qgp ?_<;>(repeat' first | exact trivial | intro hc | refine And.intro ?_ ?_)<;>refine Lf.mk ?_)
     all_goals first
      | (exfalso;exact absurd trivial (by assumption))
      | (exfalso;exact absurd (by assumption:([]:List UInt8)=[64]) (by decide))
      | (exfalso;exact absurd (by assumption:¬ ([]:List UInt8)=[]) (by decide))
      | skip
     refine call_p register_meets t (htx t List.mem_cons_self) (VS.mk (LeL.of_eq rfl)) ?_
     (all_goals refine qgp ?_<;>(repeat' first | exact trivial | intro hc | refine And.intro ?_ ?_)<;>refine Lf.mk ?_)
     all_goals first
      | (exfalso;exact absurd trivial (by assumption))
      | (exfalso;exact absurd (by assumption:([]:List UInt8)=[64]) (by decide))
      | (exfalso;exact absurd (by assumption:¬ ([]:List UInt8)=[]) (by decide))
      | skip
     ·have hone:oneA q line ⟨t::r,e,a⟩=(⟨[114],regI t,noV⟩,⟨r,e,a⟩):=by rw [hone];exact oneB_reg (.inl rfl) (by assumption)
      dsimp only
      rw [hone]
      exact end_rd (s':=⟨r,e,a⟩) [_,_] rfl rfl rfl (Nat.le_of_eq rfl) (aopD_cl _)
     ·have hone:oneA q line ⟨t::r,e,a⟩=(⟨[],0,(valueA q line ⟨t::r,e,a⟩).1⟩,(valueA q line ⟨t::r,e,a⟩).2):=by rw [hone];exact oneB_no (show regI t < 0 by omega)
      refine call_value q b ⟨t::r,e,a⟩ line [_,_] hv rfl rfl ?_
      (all_goals refine qgp (Lf.mk ?_))
      dsimp only
      rw [hone]
      exact end_rd [_,_] rfl rfl rfl (Nat.le_of_eq rfl) (aopD_cl _)
def LessR (s s':RB):Prop:=s'.rest.length≤s.rest.length∧wt (s'.rest.map tk)≤wt (s.rest.map tk)∧∀ t∈s'.rest,t∈s.rest
theorem LessR.refl (s:RB):LessR s s:=⟨Nat.le_refl _,Nat.le_refl _,fun _ h=>h⟩
theorem LessR.trans {a b c:RB} (h:LessR a b) (k:LessR b c):LessR a c:=⟨Nat.le_trans k.1 h.1,Nat.le_trans k.2.1 h.2.1,fun t ht=>h.2.2 t (k.2.2 t ht)⟩
theorem LessR.fail {s s':RB} (h:LessR s s') (e line:Int):LessR s (failR s' e line):=by
 unfold failR
 split
 ·exact h
 ·exact h
theorem LessR.drop {s:RB} (k:Nat) (e a:Int):LessR s ⟨s.rest.drop k,e,a⟩:=
 ⟨by simp,by show wt ((s.rest.drop k).map tk)≤_;rw [List.map_drop];exact wt_drop _ _,fun t ht=>List.mem_of_mem_drop ht⟩
theorem take_less (c:List UInt8) (s:RB):LessR s (takeA c s).2:=by
 obtain ⟨r,e,a⟩:=s
 cases r with
 | nil=>rw [take_nil];exact .refl _
 | cons t r=>
  rw [take_cons]
  split
  ·exact LessR.drop (s:=⟨t::r,e,a⟩) 1 e a
  ·exact .refl _
theorem value_less (q:List OEqu) (line:Int) (s:RB):LessR s (valueA q line s).2:=by
 unfold valueA
 split
 ·dsimp only
  split
  ·exact .drop _ _ _
  ·exact (LessR.drop _ _ _).fail _ _
 ·exact (LessR.refl s).fail _ _
theorem sign_less (s:RB):LessR s (signA s).2:=by
 unfold signA
 split
 ·exact take_less _ _
 split
 ·exact take_less _ _
 split
 ·exact take_less _ _
 ·exact .refl _
theorem one_less (q:List OEqu) (line:Int) (s:RB):LessR s (oneA q line s).2:=by
 unfold oneA oneB
 refine (sign_less s).trans ?_
 split
 ·exact .drop _ _ _
 split
 ·exact (LessR.refl _).fail _ _
 ·exact value_less _ _ _
theorem comma_less (line:Int) (s:RB):LessR s (commaA line s):=by
 unfold commaA
 split
 ·exact (take_less _ _).fail _ _
 ·exact take_less _ _
theorem comma_eats (line:Int) (s:RB) (h:(commaA line s).fe=0):(commaA line s).rest.length+1≤s.rest.length:=by
 unfold commaA at h ⊢
 split
 ·rename_i hc
  rw [if_pos hc] at h
  exfalso
  unfold failR at h
  split at h
  ·exact absurd (show (2:Int)=0 from h) (by decide)
  ·contradiction
 ·rename_i hc
  have ht:(takeA [44] s).1=true:=by
   cases h1:(takeA [44] s).1 with
   | true=>rfl
   | false=>exact absurd (.inl h1) hc
  obtain ⟨r,e,a⟩:=s
  cases r with
  | nil=>rw [take_nil] at ht;cases ht
  | cons t r=>
   rw [take_cons] at ht ⊢
   split at ht
   ·rw [if_pos (by assumption)];exact Nat.le_refl _
   ·cases ht
theorem LessR.val {s s':RB} {q:List OEqu} (h:LessR s s') (hv:inVal s q):inVal s' q:=⟨Nat.le_trans h.2.1 hv.1,hv.2⟩
theorem allF_end {q:List OEqu} {line:Int} {out:List AOp} {s:RB} (h:s.rest=[]∨s.fe≠0):∀ f,allF q line f out s=(out,s)
 | 0=>rfl
 | f+1=>by rw [allF,if_pos h]
theorem allF_step {q:List OEqu} {line:Int} {out:List AOp} {s:RB} (f:Nat) (h:¬ (s.rest=[]∨s.fe≠0)):allF q line (f+1) out s=if (oneA q line s).2.rest=[] then (out++[(oneA q line s).1],(oneA q line s).2)
  else allF q line f (out++[(oneA q line s).1]) (commaA line (oneA q line s).2):=by rw [allF,if_neg h]
theorem comma_def (line:Int) (s:RB):commaA line s=if (takeA [44] s).1=false∨(takeA [44] s).2.rest=[] then failR (takeA [44] s).2 2 line else (takeA [44] s).2:=rfl
attribute [local irreducible] oneA commaA allF
theorem call_one {av:List D} {L:List Ob} {KP:D→Prop} {KW:D→List Ob→Prop} (q:List OEqu) (b:Bld) (s:RB) (line:Int) (X:List Ob) (hl:inVal s q) (ht:∀ t∈s.rest,t.text.length≤1000000000) (hL:L=ardO q b s line++X) (has:av=[.loc 6 0])
  (hK:KW (aopD (oneA q line s).1) (ardO q b (oneA q line s).2 line++X)):CallS Tryz.prog n_asm_reader_one av L KP KW:=by
 subst has
 exact call_b one_meets X (b,s,q,line) ⟨hl,ht⟩ hL (LeL.refl _) rfl (.cons (.loc (Nat.lt_of_lt_of_le (by decide:6 < 7) (Nat.le_of_eq rfl))) .nil) (aopD_cl _) (ardO_cl _ _ _ _) (ardO_cl _ _ _ _) hK
theorem all_meets:Meets Tryz.prog n_asm_reader_all (SpecF (fun ((_,s,q,_):Bld×RB×List OEqu×Int)=>inVal s q∧∀ t∈s.rest,t.text.length≤1000000000) (fun _=>[.loc 6 0])
  (fun (b,s,q,line)=>ardO q b s line) (fun (_,s,q,line)=>.sl 4 ((allA q line s).1.map aopD) none) fun (b,s,q,line)=>ardO q b (allA q line s).2 line):=by
 refine meets_f tabOk Tryz.func65 rfl (by decide) ?_
 rintro ⟨b,s,q,line⟩ ⟨hv,htx⟩
 have hv:inVal s q:=hv
 have htx:∀ t∈s.rest,t.text.length≤1000000000:=htx
 refine ⟨Nat.le_refl _,by simp [Tryz.f65],fun E hE=>?_⟩
 have hl0:=val_len hv
 have hE7:E.L.length=7:=by rw [hE];rfl
 generalize hT:allA q line s=T
 have hT0:allF q line (s.rest.length+1) [] s=T:=hT
 refine vcOk _ ?_
 (all_goals refine qgp (Lf.mk ?_))
 refine awp_weak (weak_nil 3 4 rfl) ?_
 refine awp_loopW (α:=List AOp×RB×Nat) (fun p=>LessR s p.2.1∧(p.2.1.fe=0→p.2.1.rest.length+1≤p.2.2)∧allF q line p.2.2 p.1 p.2.1=T∧p.1.length+p.2.1.rest.length≤s.rest.length+1∧(p.2.1.fe=0→p.1.length+p.2.1.rest.length≤s.rest.length))
  (fun p=>[(0,.loc 6 0),(3,.sl 4 (p.1.map aopD) (some 7))]) (fun p=>ardO q b p.2.1 line++[.spare p.1.length]) (fun p=>p.2.1.rest.length+if p.2.1.fe=0 then 1 else 0) (fun _=>by rw [hE7];exact Nat.le_succ 7) ([],s,s.rest.length+1)
  ⟨.refl _,fun _=>Nat.le_refl _,hT0,by simp,fun _=>by simp⟩ ?_ ?_
 ·exact weak_same rfl ⟨rfl,rfl,trivial⟩
 rintro ⟨out,s1,f⟩ ⟨i1,i2,i3,i4,i5⟩
 dsimp only at i1 i2 i3 i4 i5 ⊢
 have hv1:=i1.val hv
 have hl1:=val_len hv1
 refine vcOk _ ?_
 (all_goals refine qgp ?_<;>(repeat' first | exact trivial | intro hc | refine And.intro ?_ ?_)<;>refine Lf.mk ?_)
 ·have hfe:s1.fe=0:=hc
  have hne:s1.rest≠[]:=fun h=>by simp only [h,List.length_nil] at *;omega
  have hf:=i2 hfe
  have hol:=i5 hfe
  obtain ⟨f,rfl⟩:∃ g,f=g+1:=⟨f - 1,by omega⟩
  rw [allF_step f (fun e=>e.elim hne (fun e=>e hfe))] at i3
  have hone:=one_less q line s1
  refine call_one q b s1 line [_] hv1 (fun t ht=>htx t (i1.2.2 t ht)) rfl rfl ?_
  generalize oneA q line s1=W at *
  obtain ⟨o,s2⟩:=W
  dsimp only at i3 hone ⊢
  have hl2:=hone.1
  (all_goals refine qgk (Lf.mk ?_))
  refine norm_eq ((out++[o]).map aopD) (by rw [List.map_append];rfl) ?_
  rw [List.length_map]
  (all_goals refine qgp ?_<;>(repeat' first | exact trivial | intro hc | refine And.intro ?_ ?_)<;>refine Lf.mk ?_)
  ·have hre:s2.rest=[]:=List.eq_nil_of_length_eq_zero (by omega)
   rw [if_pos hre] at i3
   refine end_le (LeD.strip _ _ _) ?_ (Nat.le_of_eq rfl)
   rw [hT,← i3]
   exact end_rd [_] rfl rfl rfl (Nat.le_of_eq rfl) .sl
  ·have hre:¬ s2.rest=[]:=fun h=>by rw [h] at hc;exact hc rfl
   rw [if_neg hre] at i3
   have hl3:=take_less [44] s2
   have hcl:=comma_less line s2
   have hce:=comma_eats line s2
   have hcd:commaA line s2=if (takeA [44] s2).1=false∨(takeA [44] s2).2.rest=[] then failR (takeA [44] s2).2 2 line else (takeA [44] s2).2:=comma_def line s2
   refine call_take q b s2 [44] line [_] (by omega) rfl rfl ?_
   generalize takeA [44] s2=Y at *
   obtain ⟨y,s3⟩:=Y
   dsimp only at hcd hl3 ⊢
   have hl3:=hl3.1
   have hcl1:=hcl.1
   have hI:LessR s (commaA line s2)∧((commaA line s2).fe=0→(commaA line s2).rest.length+1≤f)∧allF q line f (out++[o]) (commaA line s2)=T∧(out++[o]).length+(commaA line s2).rest.length≤s.rest.length+1 ∧
     ((commaA line s2).fe=0→(out++[o]).length+(commaA line s2).rest.length≤s.rest.length):=by
    refine ⟨i1.trans (hone.trans hcl),fun h=>by have:=hce h;omega,i3,?_,fun h=>?_⟩
    ·rw [List.length_append,List.length_singleton];omega
    ·have:=hce h;rw [List.length_append,List.length_singleton];omega
   have hmu:(commaA line s2).rest.length+(if (commaA line s2).fe=0 then 1 else 0) < s1.rest.length+(if s1.fe=0 then 1 else 0):=by
    rw [if_pos hfe]
    by_cases h:(commaA line s2).fe=0
    ·have:=hce h;rw [if_pos h];omega
    ·rw [if_neg h];omega
   generalize commaA line s2=s4 at *
   (all_goals refine qgp ?_<;>(repeat' first | exact trivial | intro hc | refine And.intro ?_ ?_)<;>refine Lf.mk ?_)
   ·rw [if_pos (.inl hc)] at hcd
    refine call_rfail q b s3 2 line [_] rfl rfl ?_
    rw [← hcd]
    (all_goals refine qgp (Lf.mk ?_))
    exact loop_same (out++[o],s4,f) hI hmu rfl ⟨rfl,rfl,trivial⟩
   ·rw [if_pos (.inr (List.eq_nil_of_length_eq_zero (by omega)))] at hcd
    refine call_rfail q b s3 2 line [_] rfl rfl ?_
    rw [← hcd]
    (all_goals refine qgp (Lf.mk ?_))
    exact loop_same (out++[o],s4,f) hI hmu rfl ⟨rfl,rfl,trivial⟩
   ·have hy:y=true:=by assumption
    rw [if_neg (fun e=>e.elim (fun h=>by rw [hy] at h;cases h) (fun h=>by rw [h] at hc;exact hc rfl))] at hcd
    rw [← hcd]
    exact loop_same (out++[o],s4,f) hI hmu rfl ⟨rfl,rfl,trivial⟩
 ·have hfe:s1.fe≠0:=hc
  rw [allF_end (.inr hfe)] at i3
  refine end_le (LeD.strip _ _ _) ?_ (Nat.le_of_eq rfl)
  rw [hT,← i3]
  exact end_rd [_] rfl rfl rfl (Nat.le_of_eq rfl) .sl
 ·have hre:s1.rest=[]:=List.eq_nil_of_length_eq_zero (by omega)
  rw [allF_end (.inl hre)] at i3
  refine end_le (LeD.strip _ _ _) ?_ (Nat.le_of_eq rfl)
  rw [hT,← i3]
  exact end_rd [_] rfl rfl rfl (Nat.le_of_eq rfl) .sl
end Go.Proofs.YtfahnaccpncdpaaGreatDoor
namespace Go.Proofs.YtfahnaccpncdpaaGreatDoor
open Go Go.Plat
set_option linter.unusedVariables false
set_option linter.unusedSimpArgs false
set_option maxRecDepth 100000
set_option maxHeartbeats 2000000
attribute [local irreducible] AWP Arith BitS BytesS CallS CatS DrawS EndS IdxS Lib.itoa LookS LoopEnd Meets ModeS NilS NormL NormM OExpr.kids OExpr.kind OExpr.n OExpr.name QuoS RemS ShlS ShrS SideS SplitS allA bitI evalE exprD nodes oneA pRes regI takeA
theorem end_bO {n0:Nat} {q:List OEqu} {b b':Bld} {r d:D} {L:List Ob} (X:List Ob) (hL:L=bO q b'++X) (hb:b'=b) (hr:r=d) (hn:n0≤6) (hd:ClD 6 d):EndS n0 r d L (bO q b):=by
 subst hb;subst hr
 exact end_pre (bO q b') X hL hn hd (bO_cl _ _)
theorem aput_meets:Meets Tryz.prog n_asm_builder_put (SpecF (fun ((b,_,_):Bld×AItem×List OEqu)=>b.items.length≤1000000) (fun (_,x,_)=>[.loc 0 0,itemD x])
  (fun (b,_,q)=>bO q b) (fun _=>.tup []) fun (b,x,q)=>bO q (putB b x)):=by
 refine meets_f tabOk Tryz.func69 rfl (by decide) ?_
 rintro ⟨b,x,q⟩ hl
 have hl:b.items.length≤1000000:=hl
 refine ⟨Nat.le_refl _,by simp [Tryz.f69],fun E hE=>?_⟩
 refine vcOk _ ?_
 (all_goals refine qgk (Lf.mk ?_))
 refine norm_eq ((b.items++[x]).map itemD) (by rw [List.map_append];rfl) ?_
 rw [List.length_map]
 (all_goals refine qgk (Lf.mk ?_))
 exact end_bO (b':=putB b x) [_] rfl rfl rfl (Nat.le_of_eq rfl) .tup0
theorem itemD_cl {n:Nat} (x:AItem):ClD n (itemD x):=.agg (.cons .int (.cons .int (.cons .int (.cons .int (.cons .int (.cons .int (.cons .int (.cons .bool (.cons .int (.cons .str (.cons .int (.cons .int (.cons .int .nil)))))))))))))
theorem call_put {av:List D} {L:List Ob} {KP:D→Prop} {KW:D→List Ob→Prop} (q:List OEqu) (b:Bld) (x:AItem) (X:List Ob) (hl:b.items.length≤1000000) (hL:L=bO q b++X) (has:LeL av [.loc 0 0,itemD x])
  (hK:KW (.tup []) (bO q (putB b x)++X)):CallS Tryz.prog n_asm_builder_put av L KP KW:=by
 refine call_le has ?_
 exact call_b aput_meets X (b,x,q) hl hL (LeL.refl _) rfl (.cons (.loc (Nat.lt_of_lt_of_le (by decide:0 < 6) (Nat.le_of_eq rfl))) (.cons (itemD_cl x) .nil)) .tup0 (bO_cl _ _) (bO_cl _ _) hK
theorem item_le {k at_ line:Int} {i:Ins} {size:Int} {v:OVal} {p x:Int}:LeL [.loc 0 0,.agg [.int .i64 k,.int .i64 at_,.int .i64 line,.int .i64 i.op,.int .i64 i.n,.int .i64 i.m,.int .i64 i.imm,.ff,.int .i64 size,.str v.name,.int .i64 v.n,.int .i64 p,.int .i64 x]]
  [.loc 0 0,itemD ⟨k,at_,line,i,false,size,v,p,x⟩]:=
 .cons (.refl _) (.cons (.agg (.cons (.refl _) (.cons (.refl _) (.cons (.refl _) (.cons (.refl _) (.cons (.refl _) (.cons (.refl _) (.cons (.refl _) (.cons (.ff rfl) (.refl _)))))))))) .nil)
theorem failB_items (b:Bld) (e line:Int):(failB b e line).items=b.items:=by unfold failB;split<;>rfl
theorem aalign_meets:Meets Tryz.prog n_asm_builder_align (SpecF (fun ((b,l,_,_):Bld×List AOp×Int×List OEqu)=>b.items.length≤1000000∧l.length≤1000000000) (fun (_,l,line,_)=>[.loc 0 0,.sl 4 (l.map aopD) none,.int .i64 line])
  (fun (b,_,_,q)=>bO q b) (fun _=>.tup []) fun (b,l,line,q)=>bO q (alignB b l line)):=by
 refine meets_f tabOk Tryz.func67 rfl (by decide) ?_
 rintro ⟨b,l,line,q⟩ ⟨hb,hl⟩
 have hb:b.items.length≤1000000:=hb
 have hl:l.length≤1000000000:=hl
 refine ⟨Nat.le_refl _,by simp [Tryz.f67],fun E hE=>?_⟩
 match l,hl with
 | [],_=>
  refine vcOk _ ?_
  (all_goals refine qgp ?_<;>(repeat' first | exact trivial | intro hc | refine And.intro ?_ ?_)<;>refine Lf.mk ?_)
  refine call_fail q b 2 line [] rfl rfl ?_
  (all_goals refine qgp (Lf.mk ?_))
  exact end_bO [] rfl rfl rfl (Nat.le_of_eq rfl) .tup0
 | [o],_=>
  have hA:alignB b [o] line=if o.sign≠[]∨o.val.name≠[] then failB b 2 line else if o.val.n≠1∧o.val.n≠2∧o.val.n≠4∧o.val.n≠8∧o.val.n≠16 then failB b 3 line
    else putB b ⟨8,0,line,noI,false,o.val.n,noV,0,0⟩:=by
   unfold alignB
   by_cases h:o.sign≠[]∨o.val.name≠[]
   ·rw [if_pos h,if_pos (.inr h)]
   ·rw [if_neg h,if_neg (fun e=>e.elim (fun e=>e rfl) h)];rfl
  refine vcOk _ ?_
  (all_goals refine qgp ?_<;>(repeat' first | exact trivial | intro hc | refine And.intro ?_ ?_)<;>refine Lf.mk ?_)
  ·refine call_fail q b 2 line [] rfl rfl ?_
   (all_goals refine qgp (Lf.mk ?_))
   exact end_bO [] rfl (by rw [hA,if_pos (.inl hc)]) rfl (Nat.le_of_eq rfl) .tup0
  ·refine call_fail q b 2 line [] rfl rfl ?_
   (all_goals refine qgp (Lf.mk ?_))
   exact end_bO [] rfl (by rw [hA,if_pos (.inr hc)]) rfl (Nat.le_of_eq rfl) .tup0
  ·refine call_fail q b 3 line [] rfl rfl ?_
   (all_goals refine qgp (Lf.mk ?_))
   exact end_bO [] rfl (by rw [hA,if_neg (fun e=>e.elim (fun e=>e (by assumption)) (fun e=>e (by assumption))),if_pos ⟨by assumption,by assumption,by assumption,by assumption,hc⟩]) rfl (Nat.le_of_eq rfl) .tup0
  all_goals
   refine call_put q b ⟨8,0,line,noI,false,o.val.n,noV,0,0⟩ [] hb rfl item_le ?_
   (all_goals refine qgp (Lf.mk ?_))
   exact end_bO [] rfl (by rw [hA,if_neg (fun e=>e.elim (fun e=>e (by assumption)) (fun e=>e (by assumption))),if_neg (fun e=>by omega)]) rfl (Nat.le_of_eq rfl) .tup0
 | o::o2::l,_=>
  refine vcOk _ ?_
  (all_goals refine qgp ?_<;>(repeat' first | exact trivial | intro hc | refine And.intro ?_ ?_)<;>refine Lf.mk ?_)
  refine call_fail q b 2 line [] rfl rfl ?_
  (all_goals refine qgp (Lf.mk ?_))
  exact end_bO [] rfl (by unfold alignB;rw [if_pos (.inl (by simp))]) rfl (Nat.le_of_eq rfl) .tup0
theorem datB_items (size line:Int) (b:Bld) (o:AOp):(datB size line b o).items.length=b.items.length+1:=by
 unfold datB putB
 dsimp only
 rw [List.length_append,List.length_singleton]
 split
 ·rw [failB_items]
 split
 ·rw [failB_items]
 split
 ·rw [failB_items]
 ·rfl
theorem adata_meets:Meets Tryz.prog n_asm_builder_data (SpecF (fun ((b,size,l,_,_):Bld×Int×List AOp×Int×List OEqu)=>b.items.length+l.length≤1000000∧(size=1∨size=2∨size=4)) (fun (_,size,l,line,_)=>[.loc 0 0,.int .i64 size,.sl 4 (l.map aopD) none,.int .i64 line])
  (fun (b,_,_,_,q)=>bO q b) (fun _=>.tup []) fun (b,size,l,line,q)=>bO q (dataB b size l line)):=by
 refine meets_f tabOk Tryz.func66 rfl (by decide) ?_
 rintro ⟨b,size,l,line,q⟩ ⟨hb,hs⟩
 have hb:b.items.length+l.length≤1000000:=hb
 have hs:size=1∨size=2∨size=4:=hs
 have hE6:∀ E:Entry,E.L=bO q b→E.L.length=6:=fun E h=>by rw [h];rfl
 refine ⟨Nat.le_refl _,by simp [Tryz.f66],fun E hE=>?_⟩
 have hE6:=hE6 E hE
 obtain ⟨s,m,hz1,hz2,hz3,hz4,hz5,hz6,hz7,hz8⟩:∃ (s:Nat) (m:Int),8 * size - 1=(s:Int)∧s≤60∧(2:Int) ^ s=m∧(2:Int) ^ (s+1)=m * 2∧0≤m∧m≤2147483648∧lowN size= -m∧highN size=m * 2 - 1:=by
  rcases hs with rfl | rfl | rfl
  ·exact ⟨7,128,by decide,by decide,by decide,by decide,by decide,by decide,by decide,by decide⟩
  ·exact ⟨15,32768,by decide,by decide,by decide,by decide,by decide,by decide,by decide,by decide⟩
  ·exact ⟨31,2147483648,by decide,by decide,by decide,by decide,by decide,by decide,by decide,by decide⟩
 generalize hT:dataB b size l line=T
 have hT0:l.foldl (datB size line) (if l=[] then failB b 2 line else b)=T:=hT
 refine vcOk _ ?_
 (all_goals refine qgp ?_<;>(repeat' first | exact trivial | intro hc | refine And.intro ?_ ?_)<;>refine Lf.mk ?_)
 ·have hnil:l=[]:=List.eq_nil_of_length_eq_zero (by have hc:((l.length:Nat):Int)=0:=hc;omega)
  subst hnil
  refine call_fail q b 2 line [] rfl rfl ?_
  (all_goals refine qgp (Lf.mk ?_))
  refine awp_unroll (vcOk _ ?_)
  (all_goals refine qgp ?_<;>(repeat' first | exact trivial | intro hc | refine And.intro ?_ ?_)<;>refine Lf.mk ?_)
  exact end_bO [] rfl (by rw [hT,← hT0];rfl) rfl (Nat.le_of_eq rfl) .tup0
 ·have hne:¬ l=[]:=fun h=>by rw [h] at hc;exact hc rfl
  rw [if_neg hne] at hT0
  refine awp_loopW (α:=Nat×Bld) (fun p=>p.1≤l.length∧(l.drop p.1).foldl (datB size line) p.2=T∧p.2.items.length+(l.length - p.1)≤1000000)
   (fun p=>[(0,.loc 0 0),(1,.int .i64 size),(3,.int .i64 line),(18,.sl 4 (l.map aopD) none),(19,.int .i64 l.length),(20,.int .i64 p.1)]) (fun p=>bO q p.2) (fun p=>l.length - p.1) (fun _=>by rw [hE6];exact Nat.le_refl 6) (0,b)
   ⟨Nat.zero_le _,hT0,by dsimp only;omega⟩ ?_ ?_
  ·exact weak_same rfl ⟨rfl,rfl,rfl,rfl,rfl,rfl,trivial⟩
  rintro ⟨k,b1⟩ ⟨i1,i2,i3⟩
  dsimp only at i1 i2 i3 ⊢
  refine vcOk _ ?_
  (all_goals refine qgp ?_<;>(repeat' first | exact trivial | intro hc | refine And.intro ?_ ?_)<;>refine Lf.mk ?_)
  ·obtain ⟨o,ho⟩:=at_of_lt (l:=l) (k:=k) (by omega)
   have hkl:k < l.length:=by omega
   have hget:l[k]=o:=by rw [List.getElem?_eq_getElem hkl] at ho;exact Option.some.inj ho
   rw [List.drop_eq_getElem_cons hkl,hget,List.foldl_cons] at i2
   have hit:=datB_items size line b1 o
   refine ix_map o (by omega) (by simpa using ho) ?_
   (all_goals refine qgp (Lf.mk ?_))
   refine shl_lit (s:=s) (m:=m) hz1 (by omega) hz3 (by omega) (by omega) ?_
   (all_goals refine qgp (Lf.mk ?_))
   refine shl_lit (s:=s+1) (m:=m * 2) (by omega) (by omega) hz4 (by omega) (by omega) ?_
   (all_goals refine qgp ?_<;>(repeat' first | exact trivial | intro hc | refine And.intro ?_ ?_)<;>refine Lf.mk ?_)
   all_goals first
    | (exfalso;exact absurd (by assumption:o.val.name=[]) (by assumption))
    | skip
   ·have hd:datB size line b1 o=putB (failB b1 2 line) ⟨7,0,line,noI,false,size,o.val,0,0⟩:=by unfold datB;rw [if_pos hc]
    rw [hd] at i2 hit
    refine call_fail q b1 2 line [_] rfl rfl ?_
    (all_goals refine qgp (Lf.mk ?_))
    refine call_put q (failB b1 2 line) ⟨7,0,line,noI,false,size,o.val,0,0⟩ [_] (by rw [failB_items];omega) rfl item_le ?_
    (all_goals refine qgp (Lf.mk ?_))
    exact loop_pre (k+1,putB (failB b1 2 line) ⟨7,0,line,noI,false,size,o.val,0,0⟩) [_] ⟨by show k+1≤_;omega,i2,by dsimp only;rw [hit];omega⟩ (by dsimp only;omega) rfl (by rw [hE6];exact Nat.le_refl 6) (bO_cl _ _) ⟨rfl,rfl,rfl,rfl,rfl,rfl,trivial⟩
     (.cons (.loc (Nat.lt_of_lt_of_le (by decide:0 < 6) (Nat.le_of_eq rfl))) (.cons .int (.cons .int (.cons .sl (.cons .int (.cons .int .nil))))))
   ·have hd:datB size line b1 o=putB (failB b1 8 line) ⟨7,0,line,noI,false,size,o.val,0,0⟩:=by unfold datB;rw [if_neg (fun h=>h (by assumption)),if_pos ⟨by assumption,hc⟩]
    rw [hd] at i2 hit
    refine call_fail q b1 8 line [_] rfl rfl ?_
    (all_goals refine qgp (Lf.mk ?_))
    refine call_put q (failB b1 8 line) ⟨7,0,line,noI,false,size,o.val,0,0⟩ [_] (by rw [failB_items];omega) rfl item_le ?_
    (all_goals refine qgp (Lf.mk ?_))
    exact loop_pre (k+1,putB (failB b1 8 line) ⟨7,0,line,noI,false,size,o.val,0,0⟩) [_] ⟨by show k+1≤_;omega,i2,by dsimp only;rw [hit];omega⟩ (by dsimp only;omega) rfl (by rw [hE6];exact Nat.le_refl 6) (bO_cl _ _) ⟨rfl,rfl,rfl,rfl,rfl,rfl,trivial⟩
     (.cons (.loc (Nat.lt_of_lt_of_le (by decide:0 < 6) (Nat.le_of_eq rfl))) (.cons .int (.cons .int (.cons .sl (.cons .int (.cons .int .nil))))))
   ·have hd:datB size line b1 o=putB b1 ⟨7,0,line,noI,false,size,o.val,0,0⟩:=by unfold datB;rw [if_neg (fun h=>h (by assumption)),if_neg (fun h=>absurd h.2 (by assumption)),if_neg (fun h=>absurd h.1 (by assumption))]
    rw [hd] at i2 hit
    refine call_put q b1 ⟨7,0,line,noI,false,size,o.val,0,0⟩ [_] (by omega) rfl item_le ?_
    (all_goals refine qgp (Lf.mk ?_))
    exact loop_pre (k+1,putB b1 ⟨7,0,line,noI,false,size,o.val,0,0⟩) [_] ⟨by show k+1≤_;omega,i2,by dsimp only;rw [hit];omega⟩ (by dsimp only;omega) rfl (by rw [hE6];exact Nat.le_refl 6) (bO_cl _ _) ⟨rfl,rfl,rfl,rfl,rfl,rfl,trivial⟩
     (.cons (.loc (Nat.lt_of_lt_of_le (by decide:0 < 6) (Nat.le_of_eq rfl))) (.cons .int (.cons .int (.cons .sl (.cons .int (.cons .int .nil))))))
   ·have hd:datB size line b1 o=putB (failB b1 3 line) ⟨7,0,line,noI,false,size,o.val,0,0⟩:=by unfold datB;rw [if_neg (fun h=>h (by assumption)),if_neg (fun h=>absurd (by assumption) h.1),if_pos ⟨by assumption,.inl (by rw [hz7];omega)⟩]
    rw [hd] at i2 hit
    refine call_fail q b1 3 line [_] rfl rfl ?_
    (all_goals refine qgp (Lf.mk ?_))
    refine call_put q (failB b1 3 line) ⟨7,0,line,noI,false,size,o.val,0,0⟩ [_] (by rw [failB_items];omega) rfl item_le ?_
    (all_goals refine qgp (Lf.mk ?_))
    exact loop_pre (k+1,putB (failB b1 3 line) ⟨7,0,line,noI,false,size,o.val,0,0⟩) [_] ⟨by show k+1≤_;omega,i2,by dsimp only;rw [hit];omega⟩ (by dsimp only;omega) rfl (by rw [hE6];exact Nat.le_refl 6) (bO_cl _ _) ⟨rfl,rfl,rfl,rfl,rfl,rfl,trivial⟩
     (.cons (.loc (Nat.lt_of_lt_of_le (by decide:0 < 6) (Nat.le_of_eq rfl))) (.cons .int (.cons .int (.cons .sl (.cons .int (.cons .int .nil))))))
   ·have hd:datB size line b1 o=putB (failB b1 3 line) ⟨7,0,line,noI,false,size,o.val,0,0⟩:=by unfold datB;rw [if_neg (fun h=>h (by assumption)),if_neg (fun h=>absurd (by assumption) h.1),if_pos ⟨by assumption,.inr (by rw [hz8];omega)⟩]
    rw [hd] at i2 hit
    refine call_fail q b1 3 line [_] rfl rfl ?_
    (all_goals refine qgp (Lf.mk ?_))
    refine call_put q (failB b1 3 line) ⟨7,0,line,noI,false,size,o.val,0,0⟩ [_] (by rw [failB_items];omega) rfl item_le ?_
    (all_goals refine qgp (Lf.mk ?_))
    exact loop_pre (k+1,putB (failB b1 3 line) ⟨7,0,line,noI,false,size,o.val,0,0⟩) [_] ⟨by show k+1≤_;omega,i2,by dsimp only;rw [hit];omega⟩ (by dsimp only;omega) rfl (by rw [hE6];exact Nat.le_refl 6) (bO_cl _ _) ⟨rfl,rfl,rfl,rfl,rfl,rfl,trivial⟩
     (.cons (.loc (Nat.lt_of_lt_of_le (by decide:0 < 6) (Nat.le_of_eq rfl))) (.cons .int (.cons .int (.cons .sl (.cons .int (.cons .int .nil))))))
   ·have hd:datB size line b1 o=putB b1 ⟨7,0,line,noI,false,size,o.val,0,0⟩:=by unfold datB;rw [if_neg (fun h=>h (by assumption)),if_neg (fun h=>absurd (by assumption) h.1),if_neg (fun h=>by rw [hz7,hz8] at h;omega)]
    rw [hd] at i2 hit
    refine call_put q b1 ⟨7,0,line,noI,false,size,o.val,0,0⟩ [_] (by omega) rfl item_le ?_
    (all_goals refine qgp (Lf.mk ?_))
    exact loop_pre (k+1,putB b1 ⟨7,0,line,noI,false,size,o.val,0,0⟩) [_] ⟨by show k+1≤_;omega,i2,by dsimp only;rw [hit];omega⟩ (by dsimp only;omega) rfl (by rw [hE6];exact Nat.le_refl 6) (bO_cl _ _) ⟨rfl,rfl,rfl,rfl,rfl,rfl,trivial⟩
     (.cons (.loc (Nat.lt_of_lt_of_le (by decide:0 < 6) (Nat.le_of_eq rfl))) (.cons .int (.cons .int (.cons .sl (.cons .int (.cons .int .nil))))))
  ·have hk:k=l.length:=by omega
   subst hk
   rw [List.drop_length] at i2
   exact end_bO [] rfl (by rw [hT];exact i2) rfl (Nat.le_of_eq rfl) .tup0
theorem shut_els (a:List (List OVal)) (c:List OVal):∀ (i:Nat) d d',(a.map shutD++[.sl 2 (c.map valD) (some 5)])[i]?=some d→((a++[c]).map shutD)[i]?=some d'→LeL d.cells d'.cells:=by
 intro i d d' h1 h2
 rw [List.map_append] at h2
 rcases Nat.lt_or_ge i (a.map shutD).length with h | h
 ·rw [List.getElem?_append_left h] at h1 h2
  rw [h1] at h2
  cases h2
  exact LeL.refl _
 ·rw [List.getElem?_append_right h] at h1 h2
  cases hi:i - (a.map shutD).length with
  | zero=>
   rw [hi] at h1 h2
   cases h1
   cases h2
   exact .cons (.strip _ _ _) .nil
  | succ j=>rw [hi] at h1;simp at h1
theorem apool_meets:Meets Tryz.prog n_asm_builder_pool (SpecF (fun ((b,_,_):Bld×Int×List OEqu)=>b.items.length≤1000000∧b.shut.length≤1000000) (fun (_,line,_)=>[.loc 0 0,.int .i64 line])
  (fun (b,_,q)=>bO q b) (fun _=>.tup []) fun (b,line,q)=>bO q (poolB b line)):=by
 refine meets_f tabOk Tryz.func38 rfl (by decide) ?_
 rintro ⟨⟨items,syms,marks,shut,has,cur,fe,fa⟩,line,q⟩ ⟨hl,hp⟩
 have hl:items.length≤1000000:=hl
 have hp:shut.length≤1000000:=hp
 refine ⟨Nat.le_refl _,by simp [Tryz.f38],fun E hE=>?_⟩
 cases has with
 | false=>
  have hlen:(poolsD ⟨items,syms,marks,shut,false,cur,fe,fa⟩).length=shut.length:=by unfold poolsD;simp
  refine vcOk _ ?_
  (all_goals refine qgp ?_<;>(repeat' first | exact trivial | intro hc | refine And.intro ?_ ?_)<;>refine Lf.mk ?_)
  exact end_bO (b':=⟨items,syms,marks,shut,false,cur,fe,fa⟩) [] rfl rfl rfl (Nat.le_of_eq rfl) .tup0
 | true=>
  have hlen:(poolsD ⟨items,syms,marks,shut,true,cur,fe,fa⟩).length=shut.length+1:=by unfold poolsD;simp
  refine vcOk _ ?_
  (all_goals refine qgp ?_<;>(repeat' first | exact trivial | intro hc | refine And.intro ?_ ?_)<;>refine Lf.mk ?_)
  refine call_put q ⟨items,syms,marks,shut,true,cur,fe,fa⟩ ⟨9,0,line,noI,false,0,noV,shut.length,0⟩ [] hl rfl item_le ?_
  (all_goals refine qgp (Lf.mk ?_))
  refine ar_i64 (by show (-9223372036854775808:Int)≤(shut.length:Int)+1;omega) (by show (shut.length:Int)+1≤9223372036854775807;omega) ?_
  (all_goals refine qgp (Lf.mk ?_))
  refine end_els (k:=4) (e:=1) (ds:=shut.map shutD++[.sl 2 (cur.map valD) (some 5)]) ((shut++[cur]).map shutD) rfl (by simp) (shut_els shut cur) ?_ (Nat.le_of_eq rfl)
  refine end_dead (k:=5) (Nat.le_of_eq rfl) ?_ (Nat.le_of_eq rfl)
  refine end_eq rfl ?_
  show [Ob.cells _,_,_,_,_,_]=bO q ⟨items++[⟨9,0,line,noI,false,0,noV,shut.length,0⟩],syms,marks,shut++[cur],false,[],fe,fa⟩
  unfold bO bC bT curO poolsD putB
  simp
theorem aindex_meets:Meets Tryz.prog n_slices_Index_api_Value_api_Value (SpecP (fun ((l,_):List OVal×OVal)=>l.length≤1000000000) (fun (l,x)=>[.sl 2 (l.map valD) none,valD x]) fun (l,x)=>.int .i64 (idxV x l 0)):=by
 refine meets_f tabOk Tryz.func144 rfl (by decide) ?_
 rintro ⟨l,x⟩ hl
 have hl:l.length≤1000000000:=hl
 refine ⟨Nat.le_refl _,by simp [Tryz.f144],fun E hE=>?_⟩
 refine vcOk _ ?_
 (all_goals refine qgo (Lf.mk ?_))
 refine awp_loopW (α:=Nat) (fun k=>k≤l.length∧idxV x l 0=idxV x (l.drop k) k)
  (fun k=>[(7,.int .i64 l.length),(8,.int .i64 k),(0,.sl 2 (l.map valD) none),(3,.loc 0 0)])
  (fun _=>[.cells [.str x.name,.int .i64 x.n]]) (fun k=>l.length - k) (fun _=>by rw [hE];exact Nat.zero_le _) 0 ⟨Nat.zero_le _,by simp⟩ ?_ ?_
 ·exact weak_same rfl ⟨rfl,rfl,rfl,rfl,trivial⟩
 rintro k ⟨hk,hf⟩
 refine vcOk _ ?_
 (all_goals refine qgo ?_<;>(repeat' first | exact trivial | intro hc | refine And.intro ?_ ?_)<;>refine Lf.mk ?_)
 ·obtain ⟨s,hsk⟩:=at_of_lt (l:=l) (k:=k) (by omega)
  have hkl:k < l.length:=by omega
  have hget:l[k]=s:=by rw [List.getElem?_eq_getElem hkl] at hsk;exact Option.some.inj hsk
  rw [List.drop_eq_getElem_cons hkl,hget,idxV] at hf
  refine ix_map s (by omega) (by simpa using hsk) ?_
  (all_goals refine qgo (Lf.mk ?_))
  refine eqS_flat [.str,.int .i64] (by kernel_rfl) rfl ?_
  cases hb:(x.name==s.name && (x.n==s.n && true)) with
  | true=>
   rw [Bool.and_true,Bool.and_eq_true,beq_iff_eq,beq_iff_eq] at hb
   rw [if_pos ⟨hb.1.symm,hb.2.symm⟩] at hf
   (all_goals refine qgo ?_<;>(repeat' first | exact trivial | intro hc | refine And.intro ?_ ?_)<;>refine Lf.mk ?_)
   (any_goals (first | (exfalso;refine Bool.false_ne_true ?_;assumption) | (exfalso;refine Bool.false_ne_true (Eq.symm ?_);assumption) | (exfalso;refine absurd trivial ?_;assumption) | skip))
   exact end_p (VS.mk (LeD.of_eq (congrArg (D.int .i64) hf.symm)))
  | false=>
   have hne:¬ (s.name=x.name∧s.n=x.n):=fun h=>by rw [h.1,h.2] at hb;simp at hb
   rw [if_neg hne] at hf
   (all_goals refine qgo ?_<;>(repeat' first | exact trivial | intro hc | refine And.intro ?_ ?_)<;>refine Lf.mk ?_)
   (any_goals (first | (exfalso;refine Bool.false_ne_true ?_;assumption) | (exfalso;refine Bool.false_ne_true (Eq.symm ?_);assumption) | (exfalso;refine absurd trivial ?_;assumption) | skip))
   exact loop_same (k+1) ⟨by omega,hf⟩ (by omega) rfl ⟨rfl,rfl,rfl,rfl,trivial⟩
 ·rw [List.drop_of_length_le (by omega),idxV] at hf
  exact end_p (VS.mk (LeD.of_eq (congrArg (D.int .i64) hf.symm)))
theorem slot_old {v:OVal} {l:List OVal} (h:¬ idxV v l 0 < 0):slotV v l=idxV v l 0∧withV v l=l:=by unfold slotV withV;rw [if_neg h,if_neg h];exact ⟨rfl,rfl⟩
theorem slot_new {v:OVal} {l:List OVal} (h:idxV v l 0 < 0):slotV v l=l.length∧withV v l=l++[v]:=by unfold slotV withV;rw [if_pos h,if_pos h];exact ⟨rfl,rfl⟩
attribute [local irreducible] idxV slotV withV
theorem alit_open:Meets Tryz.prog n_asm_builder_literal (SpecF (fun ((b,_,_,_,_):Bld×OVal×Int×Int×List OEqu)=>b.has=true∧b.items.length≤1000000∧b.shut.length≤1000000∧b.cur.length≤1000000) (fun (_,v,reg,line,_)=>[.loc 0 0,valD v,.int .i64 reg,.int .i64 line])
  (fun (b,_,_,_,q)=>bO q b) (fun _=>.tup []) fun (b,v,reg,line,q)=>bO q (litB b v reg line)):=by
 refine meets_f tabOk Tryz.func114 rfl (by decide) ?_
 rintro ⟨⟨items,syms,marks,shut,has,cur,fe,fa⟩,v,reg,line,q⟩ ⟨hh,hl,hp,hcu⟩
 have hh:has=true:=hh
 subst hh
 have hl:items.length≤1000000:=hl
 have hp:shut.length≤1000000:=hp
 have hcu:cur.length≤1000000:=hcu
 have hlen:(poolsD ⟨items,syms,marks,shut,true,cur,fe,fa⟩).length=shut.length+1:=by unfold poolsD;simp
 refine ⟨Nat.le_refl _,by simp [Tryz.f114],fun E hE=>?_⟩
 refine vcOk _ ?_
 (all_goals refine qgp ?_<;>(repeat' first | exact trivial | intro hc | refine And.intro ?_ ?_)<;>refine Lf.mk ?_)
 have hget:(poolsD ⟨items,syms,marks,shut,true,cur,fe,fa⟩)[shut.length]?=some (.sl 2 (cur.map valD) (some 5)):=by
  show (shut.map shutD++[.sl 2 (cur.map valD) (some 5)])[shut.length]?=_
  simp
 refine ix_rfl (d:=.sl 2 (cur.map valD) (some 5)) (Int.natCast_nonneg _) (by simpa using hget) ?_
 (all_goals refine qgp (Lf.mk ?_))
 refine call_p aindex_meets (cur,v) (by show cur.length≤_;omega) (VS.mk (LeL.of_eq rfl)) ?_
 by_cases hi:idxV v cur 0 < 0
 ·obtain ⟨s1,s2⟩:=slot_new hi
  (all_goals refine qgk ?_<;>(repeat' first | exact trivial | intro hc | refine And.intro ?_ ?_)<;>refine Lf.mk ?_)
  ·refine ix_rfl (d:=.sl 2 (cur.map valD) (some 5)) (Int.natCast_nonneg _) (by simpa using hget) ?_
   (all_goals refine qgk (Lf.mk ?_))
   refine ix_rfl (d:=.sl 2 (cur.map valD) (some 5)) (Int.natCast_nonneg _) (by simpa using hget) ?_
   (all_goals refine qgk (Lf.mk ?_))
   refine norm_eq ((cur++[v]).map valD) (by rw [List.map_append];rfl) ?_
   rw [List.length_map]
   (all_goals refine qgk (Lf.mk ?_))
   refine ix_rfl (d:=.sl 2 (cur.map valD) (some 5)) (Int.natCast_nonneg _) (by simpa using hget) ?_
   (all_goals refine qgp (Lf.mk ?_))
   have hset:(poolsD ⟨items,syms,marks,shut,true,cur,fe,fa⟩).set (0+((shut.length:Nat):Int).toNat) (.sl 2 ((cur++[v]).map valD) (some 5))=poolsD ⟨items,syms,marks,shut,true,cur++[v],fe,fa⟩:=by
    show (shut.map shutD++[D.sl 2 (cur.map valD) (some 5)]).set _ _=shut.map shutD++[D.sl 2 ((cur++[v]).map valD) (some 5)]
    rw [Nat.zero_add,Int.toNat_natCast,List.set_append_right _ _ (by simp)]
    simp
   have hbC:bC q ⟨items,syms,marks,shut,true,cur,fe,fa⟩=bC q ⟨items,syms,marks,shut,true,cur++[v],fe,fa⟩:=by
    unfold bC
    rw [hlen,show (poolsD ⟨items,syms,marks,shut,true,cur++[v],fe,fa⟩).length=shut.length+1 by unfold poolsD;simp]
   refine call_put q ⟨items,syms,marks,shut,true,cur++[v],fe,fa⟩ ⟨6,0,line,⟨24,reg,0,0⟩,false,0,noV,shut.length,cur.length⟩ [.cells [.str v.name,.int .i64 v.n]] hl ?_ item_le ?_
   ·show Ob.cells (bC q _)::Ob.arr 13 (items.map itemD)::Ob.arr 2 (syms.map symD)::Ob.spare marks.length::Ob.arr 1 (List.set _ _ _)::Ob.spare (cur++[v]).length::[Ob.cells [.str v.name,.int .i64 v.n]]=_
    rw [hbC]
    exact congrArg (fun x=>Ob.cells (bC q ⟨items,syms,marks,shut,true,cur++[v],fe,fa⟩)::[Ob.arr 13 (items.map itemD),Ob.arr 2 (syms.map symD),Ob.spare marks.length,Ob.arr 1 x,Ob.spare (cur++[v]).length,Ob.cells [.str v.name,.int .i64 v.n]]) hset
   (all_goals refine qgp (Lf.mk ?_))
   refine end_bO [_] rfl ?_ rfl (Nat.le_of_eq rfl) .tup0
   unfold litB
   rw [s1,s2]
  ·exact absurd hi hc
 ·obtain ⟨s1,s2⟩:=slot_old hi
  (all_goals refine qgp ?_<;>(repeat' first | exact trivial | intro hc | refine And.intro ?_ ?_)<;>refine Lf.mk ?_)
  refine call_put q ⟨items,syms,marks,shut,true,cur,fe,fa⟩ ⟨6,0,line,⟨24,reg,0,0⟩,false,0,noV,shut.length,idxV v cur 0⟩ [_] hl rfl item_le ?_
  (all_goals refine qgp (Lf.mk ?_))
  refine end_bO [_] rfl ?_ rfl (Nat.le_of_eq rfl) .tup0
  unfold litB
  rw [s1,s2]
end Go.Proofs.YtfahnaccpncdpaaGreatDoor
namespace Go.Proofs.YtfahnaccpncdpaaGreatDoor
open Go Go.Plat
set_option linter.unusedVariables false
set_option linter.unusedSimpArgs false
set_option maxRecDepth 100000
set_option maxHeartbeats 2000000
attribute [local irreducible] AWP Arith BitS BytesS CallS CatS DrawS EndS IdxS LookS LoopEnd Meets ModeS NilS NormL NormM QuoS RemS ShlS ShrS SideS SplitS bitI
def w64 (n:Int):Int:=IntKind.i64.wrap n
def upA (n of:Int):Int:=(n+of - 1) / of * of
def poolLen (pools:List (List OVal)) (k:Int):Int:=((pools[k.toNat]?).getD []).length
def sizeA (pools:List (List OVal)) (x:AItem) (a:Int):Int:=
 if x.kind=2∧x.long=true then 6 else if x.kind=7 then x.size else if x.kind=8 then upA a x.size - a else if x.kind=9 then upA a 4 - a+4 * poolLen pools x.pool else 2
def placeI (pools:List (List OVal)):List AItem→Int→List AItem×Int
 | [],a=>([],a)
 | x::l,a=>({ x with at_:=a }::(placeI pools l (a+sizeA pools x a)).1,(placeI pools l (a+sizeA pools x a)).2)
def itA (items:List AItem) (k:Int):AItem:=(items[k.toNat]?).getD ⟨0,0,0,noI,false,0,noV,0,0⟩
def markAt (items:List AItem) (e m:Int):Int:=if m < items.length then (itA items m).at_ else e
def placeS (items:List AItem) (e:Int):List OSym→List Int→List OSym
 | s::ss,m::ms=>⟨s.name,markAt items e m⟩::placeS items e ss ms
 | ss,_=>ss
def posF {α:Type} (p:α→Bool):List α→Nat→Int
 | [],_=>-1
 | x::l,k=>if p x=true then k else posF p l (k+1)
def idxN (n:List UInt8) (l:List OSym) (k:Nat):Int:=posF (fun s=>s.name==n) l k
def symA (syms:List OSym) (k:Int):OSym:=(syms[k.toNat]?).getD ⟨[],0⟩
def targetA (syms:List OSym) (v:OVal):Int×Int:=
 if v.name=[] then (0,8) else if idxN v.name syms 0 < 0 then (0,6) else (w64 ((symA syms (idxN v.name syms 0)).at_+v.n),0)
def shapeI (op:Int):Int:=match infoR op with | some r=>r.shape | none=>0
def fromA (op a:Int):Int:=if op=24 then a+4 - (a+4) % 4 else a+4
def ofA (op:Int):Int:=if op=24 then 4 else 2
def farA (op a to:Int):Int:=w64 ((w64 (to - fromA op a)).tdiv (ofA op))
def awayA (op a to:Int):Int×Int:=
 if (w64 (to - fromA op a)).tmod (ofA op)≠0 then (0,11)
 else if farA op a to < lowI (shapeI op)∨highI (shapeI op) < farA op a to then (farA op a to,3) else (farA op a to,0)
def mustL (syms:List OSym) (x:AItem):Bool:=decide (x.kind=2∧x.long=false∧(targetA syms x.val).2=0∧(awayA x.ins.op x.at_ (targetA syms x.val).1).2=3)
def growI (syms:List OSym) (x:AItem):AItem:=if mustL syms x=true then { x with long:=true } else x
structure Lay where
 items:List AItem
 syms:List OSym
def placeL (pools:List (List OVal)) (marks:List Int) (s:Lay):Lay×Int:=
 (⟨(placeI pools s.items 0).1,placeS (placeI pools s.items 0).1 (placeI pools s.items 0).2 s.syms marks⟩,(placeI pools s.items 0).2)
def relaxF (pools:List (List OVal)) (marks:List Int):Nat→Lay→Lay×Int
 | 0,s=>(s,0)
 | f+1,s=>if ((placeL pools marks s).1.items.any (mustL (placeL pools marks s).1.syms))=false∨8000 < (placeL pools marks s).2
   then (⟨(placeL pools marks s).1.items.map (growI (placeL pools marks s).1.syms),(placeL pools marks s).1.syms⟩,(placeL pools marks s).2)
   else relaxF pools marks f ⟨(placeL pools marks s).1.items.map (growI (placeL pools marks s).1.syms),(placeL pools marks s).1.syms⟩
def shortN (l:List AItem):Nat:=(l.filter fun x=>decide (x.kind=2∧x.long=false)).length
def relaxL (pools:List (List OVal)) (marks:List Int) (s:Lay):Lay×Int:=relaxF pools marks (shortN s.items+1) s
structure Out where
 code:List UInt8
 rels:List ORel
 fe:Int
 fa:Int
def failE (o:Out) (e line:Int):Out:=if o.fe=0 then ⟨o.code,o.rels,e,line⟩ else o
def halfE (o:Out) (i:Ins) (line:Int):Out:=if wrongI i=0 then ⟨o.code++[lowByte (encV i / 256),lowByte (encV i)],o.rels,o.fe,o.fa⟩ else failE o (wrongI i) line
def leadE (o:Out) (i:Ins) (a to line:Int):Out:=if (awayA i.op a to).2=0 then halfE o ⟨i.op,i.n,i.m,(awayA i.op a to).1⟩ line else failE o (awayA i.op a to).2 line
def nearE (o:Out) (x:AItem) (to:Int):Out:=
 if x.long=false then leadE o x.ins x.at_ to x.line else halfE (leadE (halfE o ⟨w64 (35 - x.ins.op),0,0,1⟩ x.line) ⟨19,0,0,0⟩ (x.at_+2) to x.line) ⟨1,0,0,0⟩ x.line
def relE (syms:List OSym) (at_ size:Int) (v:OVal):ORel:=if (targetA syms v).2=0 then ⟨at_,size,[],signedI (targetA syms v).1 32⟩ else ⟨at_,size,v.name,v.n⟩
def wordE (syms:List OSym) (o:Out) (v:OVal) (size:Nat):Out:=
 if v.name=[] then ⟨putN (o.code++List.replicate size 0) o.code.length size v.n,o.rels,o.fe,o.fa⟩
 else ⟨o.code++List.replicate size 0,o.rels++[relE syms o.code.length size v],o.fe,o.fa⟩
def fillE (o:Out) (to:Int):Out:=⟨o.code++List.replicate (to - o.code.length).toNat 0,o.rels,o.fe,o.fa⟩
def idxP (p:Int) (l:List AItem) (k:Nat):Int:=posF (fun y=>y.kind==9 && y.pool==p) l k
def emitE (pools:List (List OVal)) (items:List AItem) (syms:List OSym) (o:Out) (x:AItem):Out:=
 if x.kind=7 then (if x.at_ % x.size≠0 then failE o 11 x.line else wordE syms o x.val x.size.toNat)
 else if x.kind=8 then fillE o (upA x.at_ x.size)
 else if x.kind=9 then ((pools[x.pool.toNat]?).getD []).foldl (fun o v=>wordE syms o v 4) (fillE o (upA x.at_ 4))
 else if x.at_ % 2≠0 then failE o 11 x.line
 else if x.kind=1 then halfE o x.ins x.line
 else if x.kind=6 then leadE o x.ins x.at_ (upA (itA items (idxP x.pool items 0)).at_ 4+4 * x.idx) x.line
 else if (targetA syms x.val).2≠0 then failE o (targetA syms x.val).2 x.line
 else if x.kind=2 then nearE o x (targetA syms x.val).1
 else leadE o x.ins x.at_ (targetA syms x.val).1 x.line
def emitAll (pools:List (List OVal)) (items:List AItem) (syms:List OSym) (o:Out):Out:=items.foldl (fun o x=>if o.fe=0 then emitE pools items syms o x else o) o
end Go.Proofs.YtfahnaccpncdpaaGreatDoor
