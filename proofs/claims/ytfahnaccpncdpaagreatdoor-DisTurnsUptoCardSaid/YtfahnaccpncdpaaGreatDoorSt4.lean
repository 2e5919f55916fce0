/-
  A part of the proof: what the given program's functions answer, each once; conditions that are enough for it.
-/
import Derived.Test.YtfahnaccpncdpaaGreatDoorSt1
import Derived.Test.YtfahnaccpncdpaaGreatDoorSt3
import Derived.Test.YtfahnaccpncdpaaGreatDoorFw3
import Derived.Test.YtfahnaccpncdpaaGreatDoorRows
import Derived.WalkKit
import Derived.ProofKit
import Derived.OpenShut
import Derived.JoinedCond
import Derived.Deep.DeepHandedRow
import Derived.Lay
namespace Go.Proofs.YtfahnaccpncdpaaGreatDoor
open Go Go.Plat
set_option linter.unusedVariables false
set_option linter.unusedSimpArgs false
set_option maxRecDepth 100000
set_option maxHeartbeats 2000000
attribute [local irreducible] AWP Arith BitS BytesS CallS CatS DrawS EndS IdxS LookS LoopEnd Meets ModeS NilS NormL NormM QuoS RemS ShlS ShrS SideS SplitS bitI blankC decI digitB encV finI getN infoR irows isI kindB ldM letterB lexF lexL numC numR okC putN shapeM signedI spanF toM wordC wrongI
theorem span_sep {p:UInt8→Bool} {s rest:List UInt8} (h:∀ c∈s,p c=true) (hr:∀ c r,rest=c::r→p c=false):s.length=spanF p (s++rest):=by
 refine span_eq (by rw [List.length_append];omega) (fun j hj=>?_) (fun hl=>?_)
 ·rw [List.getD_eq_getElem?_getD,List.getElem?_append_left hj,List.getElem?_eq_getElem hj]
  exact h _ (List.getElem_mem hj)
 ·rw [List.getD_eq_getElem?_getD,List.getElem?_append_right (Nat.le_refl _),Nat.sub_self]
  match rest,hr with
  | [],_=>rw [List.length_append] at hl;simp at hl
  | c::r,hr=>exact hr c r rfl
def Sep:List UInt8→Prop
 | []=>True
 | c::_=>c=32∨c=44∨c=58
theorem sep_32 (r:List UInt8):Sep (32::r):=Or.inl rfl
theorem sep_58 (r:List UInt8):Sep (58::r):=Or.inr (Or.inr rfl)
theorem sep_no {p:UInt8→Bool} (h1:p 32=false) (h2:p 44=false) (h3:p 58=false) {l:List UInt8} (hs:Sep l):∀ c r,l=c::r→p c=false:=by
 rintro c r rfl
 rcases hs with rfl | rfl | rfl
 ·exact h1
 ·exact h2
 ·exact h3
theorem sex_word {c:UInt8} {s rest:List UInt8} (h0:kindB c=97) (h:∀ x∈c::s,wordC x=true) (hr:Sep rest) (out:List LTok):lexL (c::s++rest) out=lexL rest (out++[⟨1,0,c::s⟩]):=by
 have e:=span_sep h (sep_no (by decide +kernel) (by decide +kernel) (by decide +kernel) hr)
 rw [List.cons_append,lexL_cons,if_neg (by rw [h0];decide),if_pos h0]
 rw [← List.cons_append,← e,List.drop_left,List.take_left]
theorem sex_num {c:UInt8} {s rest:List UInt8} {n:Int} (h0:kindB c=48) (h:∀ x∈c::s,numC x=true) (hn:numR (c::s)=(n,true)) (hr:Sep rest) (out:List LTok) :
  lexL (c::s++rest) out=lexL rest (out++[⟨2,n,[]⟩]):=by
 have e:=span_sep h (sep_no (by decide +kernel) (by decide +kernel) (by decide +kernel) hr)
 rw [List.cons_append,lexL_cons,if_neg (by rw [h0];decide),if_neg (by rw [h0];decide),if_pos h0]
 rw [← List.cons_append,← e,List.drop_left,List.take_left,hn]
 rw [if_pos rfl]
theorem sex_dec {u:Nat} (hu:u < 4294967296) {rest:List UInt8} (hr:Sep rest) (out:List LTok):lexL (Lib.decDigits u++rest) out=lexL rest (out++[⟨2,u,[]⟩]):=by
 have hn:=num_of_dec hu
 have hd:=dec_dig u
 have hne:=dec_ne u
 generalize Lib.decDigits u=l at *
 cases l with
 | nil=>exact absurd rfl hne
 | cons c s=>exact sex_num (kind_dig (hd c List.mem_cons_self)) (fun x hx=>num_yes (.inr (kind_dig (hd x hx)))) hn hr out
theorem word_dig {c:UInt8} (h:48≤c.toNat∧c.toNat≤57):wordC c=true:=by
 unfold wordC
 rw [kind_dig h]
 rfl
theorem word_hex {k:Nat} (h:k < 16):wordC (digH k)=true:=by
 have:∀ k:Fin 16,wordC (digH k.1)=true:=by decide +kernel
 exact this ⟨k,h⟩
theorem word_hexR:∀ (f u:Nat) (acc:List UInt8),u < 16 ^ (f+1)→(∀ c∈acc,wordC c=true)→∀ c∈hexR f u acc,wordC c=true
 | 0,u,acc,h,k=>fun c hc=>by
  rw [hexR] at hc
  rcases List.mem_cons.1 hc with rfl | hc
  ·exact word_hex h
  ·exact k c hc
 | f+1,u,acc,h,k=>fun c hc=>by
  rw [hexR] at hc
  split at hc
  ·rcases List.mem_cons.1 hc with rfl | hc
   ·exact word_hex (by assumption)
   ·exact k c hc
  ·have hpw:16 ^ (f+1+1)=16 ^ (f+1) * 16:=Nat.pow_succ _ _
   refine word_hexR f _ _ (by omega) (fun d hd=>?_) c hc
   rcases List.mem_cons.1 hd with rfl | hd
   ·exact word_hex (Nat.mod_lt _ (by decide))
   ·exact k d hd
theorem hexR_len2:∀ (f u k:Nat) (acc:List UInt8),u < 16 ^ (k+1)→(hexR f u acc).length≤acc.length+k+1
 | 0,u,k,acc,_=>by rw [hexR,List.length_cons];omega
 | f+1,u,k,acc,h=>by
  rw [hexR]
  split
  ·rw [List.length_cons];omega
  ·cases k with
   | zero=>omega
   | succ k=>
    have hpw:16 ^ (k+1+1)=16 ^ (k+1) * 16:=Nat.pow_succ _ _
    have:=hexR_len2 f (u / 16) k (digH (u % 16)::acc) (by omega)
    rw [List.length_cons] at this
    omega
theorem word_name {n:Int} (h0:0≤n) (h1:n < 4294967296):(∀ c∈nameH n,wordC c=true)∧(nameH n).length≤9:=by
 have hp:(4294967296:Nat)=16 ^ (7+1):=by decide
 have hq:(4294967296:Nat)≤16 ^ (15+1):=by decide
 unfold nameH hexI
 rw [if_neg (by omega)]
 refine ⟨fun c hc=>?_,?_⟩
 ·rcases List.mem_cons.1 hc with rfl | hc
  ·decide +kernel
  ·exact word_hexR _ _ _ (by omega) (fun d hd=>by cases hd) c hc
 ·have:=hexR_len2 15 n.toNat 7 [] (by omega)
  rw [List.length_cons]
  simp only [List.length_nil] at this
  omega
def nameT (td:Int):LTok:=⟨1,0,nameH td⟩
def regT (n:Int):LTok:=⟨1,0,114::Lib.itoa n⟩
def immT (n:Int):List LTok:=if n < 0 then [⟨3,0,[45]⟩,⟨2, -n,[]⟩] else [⟨2,n,[]⟩]
def tokC (i:Ins) (td:Int) (c:UInt8):List LTok:=if c=105 then immT i.imm else if c=110 then [regT i.n] else if c=109 then [regT i.m] else if c=112 then [nameT td] else if c=32 then [] else [⟨3,0,[c]⟩]
def toksF (i:Ins) (td:Int) (f:List UInt8):List LTok:=f.flatMap (tokC i td)
def letF (c:UInt8):Bool:=c==105 || c==110 || c==109 || c==112
def altF:List UInt8→Bool
 | []=>true
 | c::f=>(if letF c=true then (f==[] || f.head?==some 44) else (c==32 || c==35 || c==44 || c==64)) && altF f
theorem forms_alt (s:Int):altF (formI s)=true:=by
 by_cases h:s < 1∨11 < s
 ·rw [form_no h];rfl
 ·have:∀ k:Fin 12,altF (formsL.getD k.1 [])=true:=by decide
  exact this ⟨s.toNat,by omega⟩
theorem dfill_cons (i:Ins) (td:Int) (c:UInt8) (f:List UInt8):fillF i td (c::f)=fillC i td c++fillF i td f:=List.flatMap_cons
theorem toks_cons (i:Ins) (td:Int) (c:UInt8) (f:List UInt8):toksF i td (c::f)=tokC i td c++toksF i td f:=List.flatMap_cons
theorem sep_fill {i:Ins} {td:Int} {f:List UInt8} (h:(f==[] || f.head?==some 44)=true):Sep (fillF i td f):=by
 cases f with
 | nil=>exact trivial
 | cons d f=>
  have hd:d=44:=by simpa using h
  subst hd
  rw [dfill_cons]
  exact .inr (.inl rfl)
theorem itoa_nn {n:Int} (h:0≤n):Lib.itoa n=Lib.decDigits n.toNat:=by unfold Lib.itoa;rw [if_neg (by omega)]
theorem lex_reg {n:Int} (h0:0≤n) {rest:List UInt8} (hr:Sep rest) (out:List LTok):lexL ((114::Lib.itoa n)++rest) out=lexL rest (out++[regT n]):=by
 unfold regT
 refine sex_word (by decide +kernel) (fun x hx=>?_) hr out
 rcases List.mem_cons.1 hx with rfl | hx
 ·decide +kernel
 ·rw [itoa_nn h0] at hx
  exact word_dig (dec_dig _ x hx)
theorem lex_imm {n:Int} (h0: -4096≤n) (h1:n≤4096) {rest:List UInt8} (hr:Sep rest) (out:List LTok):lexL (Lib.itoa n++rest) out=lexL rest (out++immT n):=by
 unfold immT
 by_cases h:n < 0
 ·obtain ⟨u,rfl⟩:∃ u:Nat,n= -(u:Int):=⟨n.natAbs,by omega⟩
  rw [Lib.itoa_neg u (by omega),if_pos h,List.cons_append,lex_sign1 (by decide +kernel) (by decide) (by decide) (by decide) (by decide +kernel),sex_dec (by omega) hr,List.append_assoc,Int.neg_neg]
  rfl
 ·rw [itoa_nn (by omega),if_neg h,sex_dec (by omega) hr,show ((n.toNat:Nat):Int)=n by omega]
theorem lex_fill {i:Ins} {td:Int} (hn:0≤i.n) (hm:0≤i.m) (hi: -4096≤i.imm∧i.imm≤4096) (h0:0≤td) (h1:td < 4294967296):∀ (f:List UInt8),altF f=true→∀ out,lexL (fillF i td f) out=some (out++toksF i td f)
 | [],_,out=>by
  show lexL [] out=some (out++[])
  rw [lexL_nil,List.append_nil]
 | c::f,h,out=>by
  rw [altF,Bool.and_eq_true] at h
  obtain ⟨ha,hf⟩:=h
  have ih:=lex_fill hn hm hi h0 h1 f hf
  rw [dfill_cons,toks_cons,← List.append_assoc]
  by_cases hl:letF c=true
  ·rw [if_pos hl] at ha
   have hs:=sep_fill (i:=i) (td:=td) ha
   unfold fillC tokC
   by_cases c1:c=105
   ·rw [if_pos c1,if_pos c1,lex_imm hi.1 hi.2 hs,ih]
   rw [if_neg c1,if_neg c1]
   by_cases c2:c=110
   ·rw [if_pos c2,if_pos c2,lex_reg hn hs,ih]
   rw [if_neg c2,if_neg c2]
   by_cases c3:c=109
   ·rw [if_pos c3,if_pos c3,lex_reg hm hs,ih]
   rw [if_neg c3,if_neg c3]
   by_cases c4:c=112
   ·rw [if_pos c4,if_pos c4]
    have hw:=(word_name h0 h1).1
    unfold nameT
    unfold nameH at hw ⊢
    rw [sex_word (by decide +kernel) hw hs,ih]
   ·exfalso
    unfold letF at hl
    simp [c1,c2,c3,c4] at hl
  ·rw [if_neg hl] at ha
   have c0:c≠105∧c≠110∧c≠109∧c≠112:=by
    unfold letF at hl
    simp only [Bool.or_eq_true,beq_iff_eq,not_or] at hl
    exact ⟨hl.1.1.1,hl.1.1.2,hl.1.2,hl.2⟩
   unfold fillC tokC
   rw [if_neg c0.1,if_neg c0.2.1,if_neg c0.2.2.1,if_neg c0.2.2.2,if_neg c0.1,if_neg c0.2.1,if_neg c0.2.2.1,if_neg c0.2.2.2]
   simp only [Bool.or_eq_true,beq_iff_eq] at ha
   rcases ha with ((rfl | rfl) | rfl) | rfl
   ·rw [if_pos rfl,List.singleton_append,lex_blank,ih,List.append_nil]
   all_goals
    rw [if_neg (by decide),List.singleton_append,lex_sign1 (by decide +kernel) (by decide) (by decide) (by decide) (by decide +kernel),ih]
theorem irows_word:irows.all (fun r=>decide (kindB (r.name.headD 0)=97) && r.name.all wordC)=true:=by unfold irows;decide +kernel
theorem lex_ins {i:Ins} {at_:Int} {r:IRow} (hr:infoR i.op=some r) (hn:0≤i.n) (hm:0≤i.m) (hi: -4096≤i.imm∧i.imm≤4096) (h0:0≤toM i at_) (h1:toM i at_ < 4294967296) :
  lexL (lineH i at_) []=some (⟨1,0,r.name⟩::toksF i (toM i at_) (formI r.shape)):=by
 have hm2:=(infoR_mem hr).1
 have hw:=List.all_eq_true.1 irows_word r hm2
 have hnn:=irow_name r hm2
 have hl:=lex_fill hn hm hi h0 h1 (formI r.shape) (forms_alt _)
 have hs:Sep (fillF i (toM i at_) (formI r.shape)):=by
  rcases forms_ok r.shape with h | ⟨x,f,h,_⟩
  ·rw [h];exact trivial
  ·rw [h];exact .inl rfl
 unfold lineH
 rw [hr]
 dsimp only
 rw [Bool.and_eq_true,decide_eq_true_eq] at hw
 obtain ⟨w1,w2⟩:=hw
 generalize r.name=nm at *
 cases nm with
 | nil=>exact absurd rfl hnn
 | cons c s=>rw [sex_word (c:=c) w1 (fun x hx=>List.all_eq_true.1 w2 x hx) hs,hl];rfl
theorem fill_len2 {i:Ins} {td:Int} (hn:0≤i.n∧i.n≤15) (hm:0≤i.m∧i.m≤15) (hi: -4096≤i.imm∧i.imm≤4096) (h0:0≤td) (h1:td < 4294967296):∀ f:List UInt8,(fillF i td f).length≤11 * f.length
 | []=>Nat.le_refl _
 | x::f=>by
  have h2:=fill_len2 hn hm hi h0 h1 f
  rw [dfill_cons,List.length_append,List.length_cons]
  have h3:(fillC i td x).length≤11:=by
   have hd:∀ u:Nat,u < 4294967296→(Lib.decDigits u).length≤10:=fun u h=>dig_ten h
   have hr:∀ n:Int,0≤n→n≤15→(114::Lib.itoa n).length≤11:=fun n a b=>by
    rw [List.length_cons,itoa_nn a]
    have:=hd n.toNat (by omega)
    omega
   unfold fillC
   split
   ·by_cases h:i.imm < 0
    ·have:=hd i.imm.natAbs (by omega)
     rw [show i.imm= -((i.imm.natAbs:Nat):Int) by omega,Lib.itoa_neg _ (by omega),List.length_cons]
     omega
    ·rw [itoa_nn (by omega)]
     have:=hd i.imm.toNat (by omega)
     omega
   split
   ·exact hr _ hn.1 hn.2
   split
   ·exact hr _ hm.1 hm.2
   split
   ·have:=(word_name h0 h1).2;omega
   ·show 1≤11;decide
  omega
theorem ins_lex {i:Ins} {at_:Int} {r:IRow} (hr:infoR i.op=some r) (hn:0≤i.n∧i.n≤15) (hm:0≤i.m∧i.m≤15) (hi: -4096≤i.imm∧i.imm≤4096) (h0:0≤toM i at_) (h1:toM i at_≤1000000000) :
  lexR (lineH i at_)=(⟨1,0,r.name⟩::toksF i (toM i at_) (formI r.shape),0)∧∀ c∈lineH i at_,c≠10:=by
 have hw:=irow_ok hr
 have hf:=fill_len2 (i:=i) (td:=toM i at_) hn hm hi h0 (by omega) (formI r.shape)
 have h6:=form_len r.shape
 have hl:=lex_ins (at_:=at_) hr hn.1 hm.1 hi h0 (by omega)
 have e:lineH i at_=r.name++fillF i (toM i at_) (formI r.shape):=by unfold lineH;rw [hr]
 refine ⟨?_,fun c hc=>?_⟩
 ·rw [lexR_eq,if_neg (by rw [e,List.length_append];omega),hl]
  rfl
 ·have h33:∀ c:UInt8,OkC c→c≠10:=fun c h e=>by
   rw [e] at h
   exact absurd h.1 (by decide)
  rw [e] at hc
  rcases List.mem_append.1 hc with hc | hc
  ·exact h33 c (hw.1 c hc)
  rcases forms_ok r.shape with h | ⟨x,f,h,hx⟩
  ·rw [h] at hc;cases hc
  ·rw [h,dfill_cons] at hc
   rcases List.mem_append.1 hc with hc | hc
   ·rw [List.mem_singleton.1 hc];decide
   ·exact h33 c (ok_fill (i:=i) (by omega) h1 hx c hc)
theorem label_lex {n:Int} (h0:0≤n) (h1:n < 4294967296):lexR (nameH n++[58])=([nameT n,⟨3,0,[58]⟩],0)∧∀ c∈nameH n++[58],c≠10:=by
 obtain ⟨hw,hl⟩:=word_name h0 h1
 have h10:wordC 10=false:=by decide +kernel
 refine ⟨?_,fun c hc=>?_⟩
 ·rw [lexR_eq,if_neg (by rw [List.length_append];show ¬ 80 < (nameH n).length+1;omega)]
  unfold nameT
  unfold nameH at hw ⊢
  rw [sex_word (by decide +kernel) hw (sep_58 _),lex_sign1 (by decide +kernel) (by decide) (by decide) (by decide) (by decide +kernel),lexL_nil]
  rfl
 ·rcases List.mem_append.1 hc with hc | hc
  ·rintro rfl
   exact Bool.noConfusion ((hw _ hc).symm.trans h10)
  ·rw [List.mem_singleton.1 hc];decide
def datW (one:Bool):List UInt8:=if one=true then [46,98,121,116,101] else [46,119,111,114,100]
def datT (one:Bool) (n:Int):List LTok:=[⟨1,0,datW one⟩,⟨2,n,[]⟩]
theorem dat_lex (one:Bool) {n:Int} (h0:0≤n) (h1:n < 4294967296):lexR (datW one++32::Lib.itoa n)=(datT one n,0)∧∀ c∈datW one++32::Lib.itoa n,c≠10:=by
 have hi:=itoa_nn h0
 have hl:=dig_ten (u:=n.toNat) (by omega)
 have hd:(datW one).length=5∧∀ c∈datW one,c≠10:=by cases one<;>decide
 have hx:lexL (datW one++32::Lib.itoa n) []=some (datT one n):=by
  have h2:=sex_dec (u:=n.toNat) (by omega) (rest:=[]) trivial ([]++[⟨1,0,datW one⟩])
  rw [List.append_nil,lexL_nil,show ((n.toNat:Nat):Int)=n by omega] at h2
  have h3:lexL (datW one++32::Lib.itoa n) []=lexL (32::Lib.itoa n) ([]++[⟨1,0,datW one⟩]):=by
   cases one
   ·exact sex_word (c:=46) (s:=[119,111,114,100]) (by decide +kernel) (by decide +kernel) (sep_32 _) []
   ·exact sex_word (c:=46) (s:=[98,121,116,101]) (by decide +kernel) (by decide +kernel) (sep_32 _) []
  rw [h3,lex_blank,hi,h2]
  rfl
 refine ⟨?_,fun c hc=>?_⟩
 ·rw [lexR_eq,if_neg (by rw [List.length_append,List.length_cons,hd.1,hi];omega),hx]
  rfl
 ·rcases List.mem_append.1 hc with hc | hc
  ·exact hd.2 c hc
  ·rcases List.mem_cons.1 hc with rfl | hc
   ·decide
   ·rw [hi] at hc
    have:=dec_dig _ c hc
    rintro rfl
    have:(10:UInt8).toNat=10:=rfl
    omega
end Go.Proofs.YtfahnaccpncdpaaGreatDoor
namespace Go.Proofs.YtfahnaccpncdpaaGreatDoor
open Go Go.Plat
set_option linter.unusedVariables false
set_option linter.unusedSimpArgs false
set_option maxRecDepth 100000
set_option maxHeartbeats 2000000
attribute [local irreducible] AWP Arith BitS BytesS CallS CatS DrawS EndS IdxS LookS LoopEnd Meets ModeS NilS NormL NormM QuoS RemS ShlS ShrS SideS SplitS bitI blankC digV digitB letterB lexF lexL lexR nameB numC numR numTok okC puF puR signT spanF wordC
inductive TokW:LTok→Prop
 | word {c:UInt8} {s:List UInt8} (h0:kindB c=97) (h:∀ x∈c::s,wordC x=true):TokW ⟨1,0,c::s⟩
 | num {n:Nat} (h:n < 4294967296):TokW ⟨2,(n:Int),[]⟩
 | shift {c:UInt8} (h:c=60∨c=62):TokW ⟨3,0,[c,c]⟩
 | sign {c:UInt8} (h0:kindB c=0) (h1:c≠59) (h:signsB.contains c=true):TokW ⟨3,0,[c]⟩
theorem kind_cases (c:UInt8):kindB c=97∨kindB c=48∨kindB c=32∨kindB c=0:=by
 unfold kindB
 repeat' split
 all_goals simp
attribute [local irreducible] kindB
theorem span_mem {p:UInt8→Bool}:∀ (l:List UInt8) (x:UInt8),x∈l.take (spanF p l)→p x=true
 | [],x,h=>by simp at h
 | c::r,x,h=>by
  rw [spanF] at h
  by_cases hp:p c=true
  ·rw [if_pos hp,List.take_succ_cons] at h
   rcases List.mem_cons.1 h with rfl | h
   ·exact hp
   ·exact span_mem r x h
  ·rw [if_neg hp,List.take_zero] at h
   simp at h
theorem numR_range {w:List UInt8} (h:(numR w).2=true):∃ n:Nat,(numR w).1=n∧n < 4294967296:=by
 obtain ⟨h1,h2⟩:=numR_pu w
 by_cases hx:2 < w.length∧w.take 2=[48,120]
 ·rcases h1 hx with ⟨_,e,g1,g2,_⟩ | ⟨_,e⟩
  ·exact ⟨(puR 16 (w.drop 2)).1.toNat,by rw [e];dsimp only;omega,by omega⟩
  ·rw [e] at h;cases h
 ·rcases h2 hx with ⟨_,e,g1,g2,_⟩ | ⟨_,e⟩
  ·exact ⟨(puR 10 w).1.toNat,by rw [e];dsimp only;omega,by omega⟩
  ·rw [e] at h;cases h
theorem lexF_ok (N:Nat):∀ (f:Nat) (l:List UInt8) (out r:List LTok),l.length≤N→(∀ t∈out,TokW t∧t.text.length≤N)→lexF f l out=some r→∀ t∈r,TokW t∧t.text.length≤N
 | 0,l,out,r,hN,ho,h=>by rw [lexF] at h;cases h;exact ho
 | f+1,[],out,r,hN,ho,h=>by rw [lexF] at h;cases h;exact ho
 | f+1,c::l,out,r,hN,ho,h=>by
  have ih:=lexF_ok N f
  have hl:l.length+1≤N:=by simpa using hN
  have snoc:∀ u,TokW u→u.text.length≤N→∀ t∈out++[u],TokW t∧t.text.length≤N:=fun u h1 h2 t ht=>by
   rcases List.mem_append.1 ht with ht | ht
   ·exact ho t ht
   ·rw [List.mem_singleton] at ht;rw [ht];exact ⟨h1,h2⟩
  have hd:∀ n,((c::l).drop n).length≤N:=fun n=>by rw [List.length_drop];simp;omega
  have hk:∀ n,((c::l).take n).length≤N:=fun n=>by rw [List.length_take];simp;omega
  rw [lexF] at h
  split at h
  ·exact ih _ _ _ (by omega) ho h
  rename_i n32
  split at h
  ·rename_i h1
   have hf:=word_first (r:=l) h1
   have hm:=span_mem (p:=wordC) (c::l)
   have hk2:=hk (spanF wordC (c::l))
   obtain ⟨k,hk3⟩:∃ k,spanF wordC (c::l)=k+1:=⟨spanF wordC (c::l) - 1,by omega⟩
   rw [hk3] at h hm hk2
   refine ih _ _ _ (hd _) (snoc _ ?_ hk2) h
   exact .word h1 hm
  rename_i n97
  split at h
  ·split at h
   ·rename_i h1 h2
    obtain ⟨n,e,hn⟩:=numR_range h2
    refine ih _ _ _ (hd _) (snoc _ ?_ (Nat.zero_le _)) h
    rw [e]
    exact .num hn
   ·cases h
  rename_i n48
  split at h
  ·cases h;exact ho
  rename_i n59
  split at h
  ·rename_i h1
   have hk2:=hk 2
   refine ih _ _ _ (by rw [List.length_drop];omega) (snoc _ ?_ hk2) h
   rcases h1 with h1 | h1
   ·rw [h1];exact .shift (.inl rfl)
   ·rw [h1];exact .shift (.inr rfl)
  split at h
  ·rename_i h1
   refine ih _ _ _ (by omega) (snoc _ ?_ (by simp;omega)) h
   refine .sign ?_ n59 h1
   rcases kind_cases c with e | e | e | e
   ·exact absurd e n97
   ·exact absurd e n48
   ·exact absurd e n32
   ·exact e
  ·cases h
theorem lexR_ok (s:List UInt8):∀ t∈(lexR s).1,TokW t∧t.text.length≤80:=by
 rw [lexR_eq]
 split
 ·intro t h;simp at h
 ·rename_i h
  unfold lexL lexFin
  cases hl:lexF (s.length+1) s [] with
  | none=>intro t h;simp at h
  | some r=>exact lexF_ok 80 _ _ _ _ (by omega) (fun t ht=>by simp at ht) hl
end Go.Proofs.YtfahnaccpncdpaaGreatDoor
namespace Go.Proofs.YtfahnaccpncdpaaGreatDoor
open Go Go.Plat
set_option linter.unusedVariables false
set_option linter.unusedSimpArgs false
set_option maxRecDepth 100000
set_option maxHeartbeats 2000000
attribute [local irreducible] AWP Arith BitS BytesS CallS CatS DrawS EndS IdxS LookS LoopEnd Meets ModeS NilS NormL NormM QuoS RemS ShlS ShrS SideS SplitS bitI blankC digV digitB letterB lexF lexL lexR nameB numC numR numTok okC puF puR signT spanF wordC
theorem srcR_len (s:List UInt8):(lexR s).1.length≤s.length:=by
 rw [lexR_eq]
 split
 ·simp
 ·rename_i h
  unfold lexL lexFin
  cases hl:lexF (s.length+1) s [] with
  | none=>simp
  | some r=>
   have:=lexF_len _ _ _ _ hl
   simp at this ⊢
   omega
def srcSum (ps:List (List UInt8)):Nat:=(ps.map List.length).sum
theorem src_split (c:UInt8):∀ s,srcSum (splitC c s)≤s.length
 | []=>by rw [splitC];simp [srcSum]
 | b::l=>by
  have ih:=src_split c l
  rw [splitC,List.length_cons]
  split
  ·simp only [srcSum,List.map_cons,List.sum_cons,List.length_nil] at ih ⊢;omega
  ·split
   ·simp [srcSum]
   ·next hx=>
    rw [hx] at ih
    simp only [srcSum,List.map_cons,List.sum_cons,List.length_cons] at ih ⊢
    omega
theorem srcT_snoc:∀ (l:List LLine) (x:LLine),totL (l++[x])=totL l+x.toks.length
 | [],x=>by show x.toks.length+0=0+x.toks.length;omega
 | y::l,x=>by rw [List.cons_append,totL,totL,srcT_snoc l x];omega
def SrcT (t:LTok):Prop:=t.text.length≤80
theorem srcF_tot:∀ (ps:List (List UInt8)) (k:Int) (out:List LLine),(∀ x∈out,∀ t∈x.toks,SrcT t)→totL (linesF ps k out).1≤totL out+srcSum ps∧∀ x∈(linesF ps k out).1,∀ t∈x.toks,SrcT t
 | [],k,out,h=>⟨by rw [linesF];simp,h⟩
 | p::r,k,out,h=>by
  have es:srcSum (p::r)=p.length+srcSum r:=by simp [srcSum]
  rw [linesF_cons,es]
  split
  ·exact ⟨by rw [totL];omega,fun x hx=>by simp at hx⟩
  split
  ·obtain ⟨h1,h2⟩:=srcF_tot r (k+1) out h
   exact ⟨by omega,h2⟩
  ·obtain ⟨h1,h2⟩:=srcF_tot r (k+1) (out++[⟨k,(lexR p).1⟩]) fun x hx=>by
    rcases List.mem_append.1 hx with hx | hx
    ·exact h x hx
    ·rw [List.mem_singleton] at hx;rw [hx];exact fun t ht=>(lexR_ok p t ht).2
   have:=srcR_len p
   rw [srcT_snoc] at h1
   dsimp only at h1
   exact ⟨by omega,h2⟩
theorem src_wt:∀ l:List LTok,(∀ t∈l,SrcT t)→wt (l.map tk)≤81 * l.length
 | [],_=>by simp [wt]
 | t::l,h=>by
  have ih:=src_wt l fun x hx=>h x (List.mem_cons_of_mem _ hx)
  have ht:t.text.length≤80:=h t (List.mem_cons_self ..)
  rw [List.map_cons,wt,List.length_cons]
  have:(tk t).text=t.text:=rfl
  rw [this]
  omega
theorem src_ok (b:List UInt8):totL (linesR b).1≤1200∧(linesR b).1.length≤1201∧∀ x∈(linesR b).1,x.toks.length≤80∧wt (x.toks.map tk)≤1048576:=by
 obtain ⟨q1,q2⟩:=linesR_ok b
 have q3:totL (linesR b).1≤1200∧∀ x∈(linesR b).1,∀ t∈x.toks,SrcT t:=by
  unfold linesR
  split
  ·exact ⟨by rw [totL];omega,fun x hx=>by simp at hx⟩
  ·next hb=>
   obtain ⟨a1,a2⟩:=srcF_tot (splitC 10 b) 1 [] fun x hx=>by simp at hx
   have:=src_split 10 b
   rw [totL] at a1
   exact ⟨by omega,a2⟩
 refine ⟨q3.1,q1,fun x hx=>?_⟩
 have h1:=src_wt x.toks (q3.2 x hx)
 have h2:=q2 x hx
 exact ⟨h2,by omega⟩
theorem src_plain {b:List UInt8} (hb:b.length≤1000000000) (hp:∀ x∈(linesR b).1,plainH (headM x)) (hl:(linesR b).1.length≤200):PlainB b:=by
 obtain ⟨h1,_,h3⟩:=src_ok b
 exact ⟨hb,⟨hl,fun x hx=>⟨hp x hx,by have:=(h3 x hx).1;omega⟩⟩,by omega,fun x hx=>(h3 x hx).2⟩
end Go.Proofs.YtfahnaccpncdpaaGreatDoor
namespace Go.Proofs.YtfahnaccpncdpaaGreatDoor
open Go Go.Plat
set_option linter.unusedVariables false
set_option linter.unusedSimpArgs false
set_option maxRecDepth 100000
set_option maxHeartbeats 2000000
attribute [local irreducible] AWP Arith BitS BytesS CallS CatS DrawS EndS IdxS LookS LoopEnd Meets ModeS NilS NormL NormM QuoS RemS ShlS ShrS SideS SplitS bitI blankC decI digitB encV finI infoR irows isI kindB letterB lexF lexL lexR lineH nameH numC numR okC shapeM signedI spanF wordC wrongI
theorem isI_of {b:List UInt8} {at_:Int} {i:Ins} (h:isI b at_=some i):decI (getN b at_ 2)=(i,0)∧at_+2≤b.length∧finI i at_ b.length=true:=by
 unfold isI at h
 split at h
 ·cases h
 ·rename_i hn
  have h0:(decI (getN b at_ 2)).2=0:=Classical.byContradiction fun h0=>hn (.inr (.inl h0))
  have hf:finI (decI (getN b at_ 2)).1 at_ b.length=true:=by
   cases hf:finI (decI (getN b at_ 2)).1 at_ b.length with
   | true=>rfl
   | false=>exact absurd (.inr (.inr hf)) hn
  have hi:=Option.some.inj h
  rw [← hi]
  exact ⟨Prod.ext rfl h0,by omega,hf⟩
theorem fin_to {i:Ins} {at_ n:Int} (h:finI i at_ n=true) (hn:0 < n):0≤toM i at_∧toM i at_ < n:=by
 unfold finI at h
 by_cases hl:ldM i=true
 ·rw [hl] at h
  simpa using h
 ·have ht:toM i at_=0:=by
   unfold ldM at hl
   rw [decide_eq_true_eq] at hl
   unfold toM
   rw [if_neg (fun h=>hl (by omega)),if_neg (fun h=>hl (by omega))]
  rw [ht]
  exact ⟨Int.le_refl 0,hn⟩
def rowN (i:Ins):List UInt8:=match infoR i.op with | some r=>r.name | none=>[]
def itemT (b:List UInt8) (k:Nat):List LTok:=match isI b (2 * (k:Int)) with
 | some i=>⟨1,0,rowN i⟩::toksF i (toM i (2 * (k:Int))) (formI (shapeM i.op))
 | none=>if (b.length:Int) < 2 * (k:Int)+2 then datT true (b.getD (2 * k) 0).toNat else datT false (getN b (2 * (k:Int)) 2)
def itemS (b:List UInt8) (k:Nat):List UInt8:=match isI b (2 * (k:Int)) with
 | some i=>lineH i (2 * (k:Int))
 | none=>if (b.length:Int) < 2 * (k:Int)+2 then datW true++32::Lib.itoa ((b.getD (2 * k) 0).toNat:Int) else datW false++32::Lib.itoa (getN b (2 * (k:Int)) 2)
theorem item_S (b:List UInt8) (k:Nat):itemI b k=itemS b k++[10]:=by
 unfold itemI itemS
 cases isI b (2 * (k:Int)) with
 | some i=>rfl
 | none=>
  dsimp only
  split
  ·unfold byteT datW;simp
  ·unfold dwordT datW;simp
theorem headT_ne {t:LTok} {l:List LTok}:(t::l).length≠0:=Nat.succ_ne_zero _
theorem item_lex {b:List UInt8} (hb:b.length≤1048576) {k:Nat} (hk:2 * k < b.length):lexR (itemS b k)=(itemT b k,0)∧(∀ c∈itemS b k,c≠10)∧(itemT b k).length≠0:=by
 unfold itemS itemT
 cases hi:isI b (2 * (k:Int)) with
 | none=>
  dsimp only
  have hc:=(b.getD (2 * k) 0).toNat_lt
  have h0:=getN_nn b (2 * (k:Int)) 2
  have h1:=getN_le b (2 * (k:Int))
  split
  ·obtain ⟨a1,a2⟩:=dat_lex true (n:=((b.getD (2 * k) 0).toNat:Int)) (by omega) (by omega)
   exact ⟨a1,a2,headT_ne⟩
  ·obtain ⟨a1,a2⟩:=dat_lex false h0 (by omega)
   exact ⟨a1,a2,headT_ne⟩
 | some i=>
  dsimp only
  have h0:=isI_in hi
  obtain ⟨_,_,hf⟩:=isI_of hi
  have ht:=fin_to hf (by omega)
  obtain ⟨r,hr⟩:=h0.op
  obtain ⟨a1,a2⟩:=ins_lex hr h0.n h0.m h0.imm ht.1 (by omega)
  have hn:rowN i=r.name:=by unfold rowN;rw [hr]
  rw [shape_some hr,hn]
  exact ⟨a1,a2,headT_ne⟩
def linK (b:List UInt8) (P:List Int):Nat→List LLine
 | 0=>[]
 | k+1=>if 2 * (k:Int)∈P then linK b P k++[⟨((linK b P k).length:Int)+1,[nameT (2 * (k:Int)),⟨3,0,[58]⟩]⟩,⟨((linK b P k).length:Int)+2,itemT b k⟩]
  else linK b P k++[⟨((linK b P k).length:Int)+1,itemT b k⟩]
def feedN (s:List UInt8):Nat:=(s.filter (·==10)).length
theorem feed_app (a b:List UInt8):feedN (a++b)=feedN a+feedN b:=by unfold feedN;rw [List.filter_append,List.length_append]
theorem feed_no {a:List UInt8} (h:∀ c∈a,c≠10):feedN a=0:=by
 unfold feedN
 rw [List.filter_eq_nil_iff.2 fun c hc=>by simpa using h c hc]
 rfl
attribute [local irreducible] itemI markI itemS itemT linesF splitC
theorem text_lines {b:List UInt8} (hb:b.length≤1048576) (P:List Int):∀ (k:Nat) (rest:List UInt8),k≤halves b →
  linesF (splitC 10 (textF b P k++rest)) 1 []=linesF (splitC 10 rest) (((linK b P k).length:Int)+1) (linK b P k)∧feedN (textF b P k)=(linK b P k).length
 | 0,rest,_=>by
  rw [textF,linK,List.nil_append]
  exact ⟨rfl,rfl⟩
 | k+1,rest,hk=>by
  have hkb:2 * k < b.length:=by unfold halves at hk;omega
  have ih:=fun r=>text_lines hb P k r (by omega)
  obtain ⟨i1,i2,i3⟩:=item_lex hb hkb
  have hmk:markI P k=if (2 * (k:Int))∈P then nameH (2 * (k:Int))++[58,10] else []:=by unfold markI;rfl
  have f10:feedN [10]=1:=rfl
  rw [textF,linK,item_S,feed_app,feed_app,feed_app,(ih []).2,feed_no i2,f10,List.append_assoc,List.append_assoc,(ih _).1,hmk]
  by_cases hm:2 * (k:Int)∈P
  ·obtain ⟨l1,l2⟩:=label_lex (n:=2 * (k:Int)) (by omega) (by omega)
   rw [if_pos hm,if_pos hm]
   have e:nameH (2 * (k:Int))++[58,10]=(nameH (2 * (k:Int))++[58])++[10]:=by simp
   rw [e,feed_app,feed_no l2,f10]
   refine ⟨?_,by rw [List.length_append];simp only [List.length_cons,List.length_nil]⟩
   have e2:((nameH (2 * (k:Int))++[58])++[10])++((itemS b k++[10])++rest)=(nameH (2 * (k:Int))++[58])++10::(itemS b k++10::rest):=by simp
   rw [e2,line_step _ _ _ l2 l1 headT_ne,line_step _ _ _ i2 i1 i3,List.append_assoc]
   have e3:((linK b P k).length:Int)+1+1=((linK b P k).length:Int)+2:=by omega
   have e4:((linK b P k++([⟨((linK b P k).length:Int)+1,[nameT (2 * (k:Int)),⟨3,0,[58]⟩]⟩,⟨((linK b P k).length:Int)+2,itemT b k⟩]:List LLine)).length:Int)+1=((linK b P k).length:Int)+2+1:=by
    rw [List.length_append];simp only [List.length_cons,List.length_nil];omega
   rw [e3,e4]
   rfl
  ·rw [if_neg hm,if_neg hm,List.nil_append]
   have f0:feedN []=0:=rfl
   refine ⟨?_,by rw [List.length_append,f0];simp only [List.length_cons,List.length_nil,Nat.zero_add]⟩
   rw [show (itemS b k++[10])++rest=itemS b k++10::rest by simp,line_step _ _ _ i2 i1 i3,List.length_append]
   rfl
def linD (b:List UInt8):List LLine:=linK b (ledF b (halves b)) (halves b)
theorem dis_lines {b:List UInt8} (hb:b.length≤1048576):linesR (disT b)=(if 1200 < (disT b).length then ([],4,0) else (linD b,0,0))∧feedN (disT b)=(linD b).length:=by
 obtain ⟨h1,h2⟩:=text_lines hb (ledF b (halves b)) (halves b) [] (Nat.le_refl _)
 rw [List.append_nil] at h1
 refine ⟨?_,h2⟩
 unfold linesR
 split
 ·rfl
 ·unfold disT
  rw [h1,lines_nil]
  rfl
theorem irows_plain:irows.all (fun r=>decide (plainH r.name))=true:=by unfold irows plainH;decide
theorem name_plain (n:Int):plainH (nameH n):=by
 unfold plainH nameH
 refine ⟨?_,?_,?_,?_,?_,?_,?_,?_⟩<;>exact fun h=>absurd (List.cons.inj h).1 (by decide)
theorem item_plain (b:List UInt8) (k:Nat) (p:Int):plainH (headM ⟨p,itemT b k⟩):=by
 unfold itemT
 cases hi:isI b (2 * (k:Int)) with
 | none=>
  dsimp only
  split
  ·show plainH [46,98,121,116,101];decide
  ·show plainH [46,119,111,114,100];decide
 | some i=>
  obtain ⟨r,hr⟩:=(isI_in hi).op
  show plainH (rowN i)
  have hn:rowN i=r.name:=by unfold rowN;rw [hr]
  rw [hn]
  exact of_decide_eq_true (List.all_eq_true.1 irows_plain r (infoR_mem hr).1)
theorem lin_plain (b:List UInt8) (P:List Int):∀ k,∀ x∈linK b P k,plainH (headM x)
 | 0=>fun x hx=>by rw [linK] at hx;cases hx
 | k+1=>fun x hx=>by
  rw [linK] at hx
  split at hx
  ·rcases List.mem_append.1 hx with hx | hx
   ·exact lin_plain b P k x hx
   ·simp only [List.mem_cons,List.not_mem_nil,or_false] at hx
    rcases hx with rfl | rfl
    ·exact name_plain _
    ·exact item_plain b k _
  ·rcases List.mem_append.1 hx with hx | hx
   ·exact lin_plain b P k x hx
   ·rw [List.mem_singleton.1 hx];exact item_plain b k _
end Go.Proofs.YtfahnaccpncdpaaGreatDoor
namespace Go.Proofs.YtfahnaccpncdpaaGreatDoor
open Go Go.Plat
set_option linter.unusedVariables false
set_option linter.unusedSimpArgs false
set_option maxRecDepth 100000
set_option maxHeartbeats 2000000
attribute [local irreducible] AWP Arith BitS BytesS CallS CatS DrawS EndS IdxS LookS LoopEnd Meets ModeS NilS NormL NormM QuoS RemS ShlS ShrS SideS SplitS bitI
def bI (its:List AItem) (sy:List OSym) (mk:List Int):Bld:=⟨its,sy,mk,[],false,[],0,0⟩
theorem linesB_nil (q:List OEqu) (b:Bld):linesB q [] b=b:=rfl
attribute [local irreducible] lineB
theorem linesB_app (q:List OEqu) (l m:List LLine) (b:Bld):linesB q (l++m) b=linesB q m (linesB q l b):=by unfold linesB;rw [List.foldl_append]
end Go.Proofs.YtfahnaccpncdpaaGreatDoor
namespace Go.Proofs.YtfahnaccpncdpaaGreatDoor
open Go Go.Plat
set_option linter.unusedVariables false
set_option linter.unusedSimpArgs false
set_option maxRecDepth 100000
set_option maxHeartbeats 2000000
attribute [local irreducible] AWP Arith BitS BytesS CallS CatS DrawS EndS IdxS LookS LoopEnd Meets ModeS NilS NormL NormM QuoS RemS ShlS ShrS SideS SplitS bitI
def atI (x:AItem) (a:Int):AItem:={ x with at_:=a }
def placedN:List AItem→Int→List AItem
 | [],_=>[]
 | x::l,a=>atI x a::placedN l (a+2)
theorem placed_len:∀ (F:List AItem) (a:Int),(placedN F a).length=F.length
 | [],_=>rfl
 | x::F,a=>by rw [placedN,List.length_cons,placed_len F,List.length_cons]
theorem still {syms:List OSym} {x:AItem} (h:x.kind≠2∨x.long=true):mustL syms x=false∧growI syms x=x:=by
 have hm:mustL syms x=false:=by
  unfold mustL
  refine decide_eq_false fun e=>?_
  rcases h with h | h
  ·exact h e.1
  ·rw [h] at e;exact absurd e.2.1 (by decide)
 exact ⟨hm,by unfold growI;rw [if_neg (by rw [hm];decide)]⟩
theorem w64_id {n:Int} (h1: -1000000≤n) (h2:n≤1000000):w64 n=n:=by unfold w64;exact wrap_i64 (by omega) (by omega)
def encB (w:Int):List UInt8:=[lowByte (w / 256),lowByte w]
theorem half_ok {c:List UInt8} {i:Ins} {line:Int} (h:wrongI i=0):halfE ⟨c,[],0,0⟩ i line=⟨c++encB (encV i),[],0,0⟩:=by unfold halfE;rw [if_pos h];rfl
theorem lead_ok {c:List UInt8} {i:Ins} {a to m line:Int} (ha:awayA i.op a to=(m,0)) (h:wrongI ⟨i.op,i.n,i.m,m⟩=0):leadE ⟨c,[],0,0⟩ i a to line=⟨c++encB (encV ⟨i.op,i.n,i.m,m⟩),[],0,0⟩:=by
 unfold leadE
 rw [ha,if_pos rfl,half_ok h]
def comT:LTok:=⟨3,0,[44]⟩
theorem all_one {k:Int} {A:List LTok} {o:AOp} (hA:A≠[]) (h:oneA [] k ⟨A,0,0⟩=(o,⟨[],0,0⟩)):allA [] k ⟨A,0,0⟩=([o],⟨[],0,0⟩):=by
 unfold allA
 rw [allF,if_neg (fun e=>e.elim hA (fun e=>e rfl)),h,if_pos rfl]
 rfl
theorem comma_ok (k:Int) {B:List LTok} (hB:B≠[]):commaA k ⟨comT::B,0,0⟩=⟨B,0,0⟩:=by
 have ht:takeA [44] ⟨comT::B,0,0⟩=(true,⟨B,0,0⟩):=by rw [take_cons,if_pos ⟨rfl,rfl⟩]
 unfold commaA
 rw [ht,if_neg (fun e=>e.elim (fun e=>Bool.noConfusion e) hB)]
theorem all_two {k:Int} {A B:List LTok} {o1 o2:AOp} (hA:A≠[]) (hB:B≠[]) (h1:oneA [] k ⟨A,0,0⟩=(o1,⟨comT::B,0,0⟩)) (h2:oneA [] k ⟨B,0,0⟩=(o2,⟨[],0,0⟩)):allA [] k ⟨A,0,0⟩=([o1,o2],⟨[],0,0⟩):=by
 obtain ⟨n,hn⟩:∃ n,A.length=n+1:=by
  cases A with
  | nil=>exact absurd rfl hA
  | cons a l=>exact ⟨l.length,rfl⟩
 show allF [] k (A.length+1) [] ⟨A,0,0⟩=_
 rw [hn,allF,if_neg (fun e=>e.elim hA (fun e=>e rfl)),h1]
 dsimp only
 rw [if_neg (show ¬ (comT::B=[]) from List.cons_ne_nil _ _),comma_ok k hB,allF,if_neg (fun e=>e.elim hB (fun e=>e rfl)),h2,if_pos rfl]
 rfl
theorem map_at {α:Type} {f g:Nat→α} {n:Nat} (h:(List.range n).map f=(List.range n).map g) {j:Nat} (hj:j∈List.range n):f j=g j:=List.map_inj_left.1 h j hj
theorem regT_all:(List.range 16).map (fun n:Nat=>regI (regT (n:Int)))=(List.range 16).map fun n:Nat=>(n:Int):=by kernel_rfl
theorem reg_T {n:Int} (h0:0≤n) (h1:n≤15):regI (regT n)=n:=by
 obtain ⟨u,rfl⟩:=Int.eq_ofNat_of_zero_le h0
 exact map_at regT_all (List.mem_range.2 (by omega))
theorem take_word {c:List UInt8} {w:List UInt8} {n:Int} {R:List LTok}:takeA c ⟨⟨1,n,w⟩::R,0,0⟩=(false,⟨⟨1,n,w⟩::R,0,0⟩):=by rw [take_cons,if_neg (fun h=>absurd h.1 (show ¬ (1:Int)=3 by decide))]
theorem one_reg (k:Int) {n:Int} (h0:0≤n) (h1:n≤15) (R:List LTok):oneA [] k ⟨regT n::R,0,0⟩=(⟨[114],n,noV⟩,⟨R,0,0⟩):=by
 have hr:=reg_T h0 h1
 have hs:signA ⟨regT n::R,0,0⟩=([],⟨regT n::R,0,0⟩):=by
  unfold signA regT
  rw [take_word,take_word,take_word]
  rfl
 have hh:regH (regT n::R)=n:=hr
 unfold oneA
 rw [hs]
 unfold oneB
 dsimp only
 rw [hh,if_pos ⟨.inl rfl,h0⟩,if_pos rfl]
 rfl
theorem one_at (k:Int) {n:Int} (h0:0≤n) (h1:n≤15) (R:List LTok):oneA [] k ⟨⟨3,0,[64]⟩::regT n::R,0,0⟩=(⟨[64],n,noV⟩,⟨R,0,0⟩):=by
 have hr:=reg_T h0 h1
 have hs:signA ⟨⟨3,0,[64]⟩::regT n::R,0,0⟩=([64],⟨regT n::R,0,0⟩):=by
  have t1:takeA [35] ⟨⟨3,0,[64]⟩::regT n::R,0,0⟩=(false,⟨⟨3,0,[64]⟩::regT n::R,0,0⟩):=by rw [take_cons,if_neg (fun h=>absurd h.2 (show ¬ ([64]:List UInt8)=[35] by decide))]
  have t2:takeA [64] ⟨⟨3,0,[64]⟩::regT n::R,0,0⟩=(true,⟨regT n::R,0,0⟩):=by rw [take_cons,if_pos ⟨rfl,rfl⟩]
  unfold signA
  rw [t1,t2]
  rfl
 have hh:regH (regT n::R)=n:=hr
 unfold oneA
 rw [hs]
 unfold oneB
 dsimp only
 rw [hh,if_pos ⟨.inr rfl,h0⟩,if_neg (by decide)]
 rfl
theorem immT_all (k:Int) (t:LTok):(List.range 384).map (fun j:Nat=>(oneA [] k ⟨⟨3,0,[35]⟩::immT ((j:Int) - 128),0,0⟩,oneA [] k ⟨⟨3,0,[35]⟩::(immT ((j:Int) - 128)++[comT,t]),0,0⟩))
  = (List.range 384).map fun j:Nat=>((⟨[35],0,⟨[],(j:Int) - 128⟩⟩,⟨[],0,0⟩),(⟨[35],0,⟨[],(j:Int) - 128⟩⟩,⟨[comT,t],0,0⟩)):=by kernel_rfl
theorem one_imm (k:Int) (t:LTok) {n:Int} (h0: -128≤n) (h1:n≤255):oneA [] k ⟨⟨3,0,[35]⟩::immT n,0,0⟩=(⟨[35],0,⟨[],n⟩⟩,⟨[],0,0⟩)∧oneA [] k ⟨⟨3,0,[35]⟩::(immT n++[comT,t]),0,0⟩=(⟨[35],0,⟨[],n⟩⟩,⟨[comT,t],0,0⟩):=by
 have h:=map_at (immT_all k t) (List.mem_range.2 (show (n+128).toNat < 384 by omega))
 rw [show (((n+128).toNat:Nat):Int) - 128=n by omega,Prod.mk.injEq] at h
 exact h
theorem nameT_all (k:Int) (t:LTok):(List.range 300).map (fun j:Nat=>(oneA [] k ⟨[nameT (2 * (j:Int))],0,0⟩,oneA [] k ⟨[nameT (2 * (j:Int)),comT,t],0,0⟩))
  = (List.range 300).map fun j:Nat=>((⟨[],0,⟨nameH (2 * (j:Int)),0⟩⟩,⟨[],0,0⟩),(⟨[],0,⟨nameH (2 * (j:Int)),0⟩⟩,⟨[comT,t],0,0⟩)):=by kernel_rfl
def EvenS (td:Int):Prop:=0≤td∧td < 600∧td % 2=0
theorem one_name (k:Int) (t:LTok) {td:Int} (h:EvenS td):oneA [] k ⟨[nameT td],0,0⟩=(⟨[],0,⟨nameH td,0⟩⟩,⟨[],0,0⟩)∧oneA [] k ⟨[nameT td,comT,t],0,0⟩=(⟨[],0,⟨nameH td,0⟩⟩,⟨[comT,t],0,0⟩):=by
 obtain ⟨h0,h1,h2⟩:=h
 have h:=map_at (nameT_all k t) (List.mem_range.2 (show (td / 2).toNat < 300 by omega))
 rw [show 2 * (((td / 2).toNat:Nat):Int)=td by omega,Prod.mk.injEq] at h
 exact h
def opsF (s:Int) (i:Ins) (td:Int):List AOp:=
 if s=1 then [⟨[35],0,⟨[],i.imm⟩⟩,⟨[114],i.n,noV⟩] else if s=2 then [⟨[114],i.m,noV⟩,⟨[114],i.n,noV⟩] else if s=3 then [⟨[114],i.n,noV⟩] else if s=4∨s=5 then [⟨[],0,⟨nameH td,0⟩⟩]
 else if s=6 then [⟨[64],i.n,noV⟩] else if s=7∨s=8 then [⟨[],0,⟨nameH td,0⟩⟩,⟨[114],i.n,noV⟩] else if s=9 then [⟨[114],i.m,noV⟩,⟨[64],i.n,noV⟩] else if s=10 then [⟨[64],i.m,noV⟩,⟨[114],i.n,noV⟩]
 else if s=11 then [⟨[35],0,⟨[],i.imm⟩⟩] else []
def noCol:List LTok→Prop
 | t::_=>¬ (t.kind=3∧t.text=[58])
 | []=>True
theorem irows_shape:irows.all (fun r=>decide (0≤r.shape∧r.shape≤11))=true:=by unfold irows;decide
theorem dshape_in {op:Int} {r:IRow} (h:infoR op=some r):0≤r.shape∧r.shape≤11:=of_decide_eq_true (List.all_eq_true.1 irows_shape r (infoR_mem h).1)
theorem noc_word {w:List UInt8} {n:Int} {R:List LTok}:noCol (⟨1,n,w⟩::R):=fun h=>absurd h.1 (show ¬ (1:Int)=3 by decide)
theorem noc_sign {c:UInt8} (h:c≠58) {R:List LTok}:noCol (⟨3,0,[c]⟩::R):=fun e=>h (List.cons.inj e.2).1
theorem ops_all (k:Int) {i:Ins} {td:Int} {r:IRow} (hr:infoR i.op=some r) (hw:wrongI i=0) (ht:EvenS td) :
  noCol (toksF i td (formI r.shape))∧allA [] k ⟨toksF i td (formI r.shape),0,0⟩=(opsF r.shape i td,⟨[],0,0⟩):=by
 obtain ⟨r',hr',n0,n1,m0,m1,_,_,l,h⟩:=wrongI_0 hw
 obtain rfl:r'=r:=Option.some.inj (hr'.symm.trans hr)
 obtain ⟨s0,s1⟩:=dshape_in hr
 have dn:∀ {a:LTok} {l:List LTok},a::l≠[]:=List.cons_ne_nil _ _
 have hs:r'.shape=0∨r'.shape=1∨r'.shape=2∨r'.shape=3∨r'.shape=4∨r'.shape=5∨r'.shape=6∨r'.shape=7∨r'.shape=8∨r'.shape=9∨r'.shape=10∨r'.shape=11:=by omega
 generalize r'.shape=s at *
 rcases hs with rfl | rfl | rfl | rfl | rfl | rfl | rfl | rfl | rfl | rfl | rfl | rfl
 ·exact ⟨trivial,rfl⟩
 ·have e:toksF i td (formI 1)=⟨3,0,[35]⟩::(immT i.imm++[comT,regT i.n]):=by show toksF i td [32,35,105,44,110]=_;simp [toksF,tokC,comT]
  have l1: -128≤i.imm:=l
  have h1:i.imm≤127:=h
  rw [e]
  exact ⟨noc_sign (by decide),all_two dn dn (one_imm k _ l1 (by omega)).2 (one_reg k n0 n1 [])⟩
 ·have e:toksF i td (formI 2)=regT i.m::comT::[regT i.n]:=by show toksF i td [32,109,44,110]=_;simp [toksF,tokC,comT]
  rw [e]
  exact ⟨noc_word,all_two dn dn (one_reg k m0 m1 _) (one_reg k n0 n1 [])⟩
 ·have e:toksF i td (formI 3)=[regT i.n]:=by show toksF i td [32,110]=_;simp [toksF,tokC]
  rw [e]
  exact ⟨noc_word,all_one dn (one_reg k n0 n1 [])⟩
 ·have e:toksF i td (formI 4)=[nameT td]:=by show toksF i td [32,112]=_;simp [toksF,tokC]
  rw [e]
  exact ⟨noc_word,all_one dn (one_name k comT ht).1⟩
 ·have e:toksF i td (formI 5)=[nameT td]:=by show toksF i td [32,112]=_;simp [toksF,tokC]
  rw [e]
  exact ⟨noc_word,all_one dn (one_name k comT ht).1⟩
 ·have e:toksF i td (formI 6)=[⟨3,0,[64]⟩,regT i.n]:=by show toksF i td [32,64,110]=_;simp [toksF,tokC]
  rw [e]
  exact ⟨noc_sign (by decide),all_one dn (one_at k n0 n1 [])⟩
 ·have e:toksF i td (formI 7)=[nameT td,comT,regT i.n]:=by show toksF i td [32,112,44,110]=_;simp [toksF,tokC,comT]
  rw [e]
  exact ⟨noc_word,all_two dn dn (one_name k _ ht).2 (one_reg k n0 n1 [])⟩
 ·have e:toksF i td (formI 8)=[nameT td,comT,regT i.n]:=by show toksF i td [32,112,44,110]=_;simp [toksF,tokC,comT]
  rw [e]
  exact ⟨noc_word,all_two dn dn (one_name k _ ht).2 (one_reg k n0 n1 [])⟩
 ·have e:toksF i td (formI 9)=regT i.m::comT::[⟨3,0,[64]⟩,regT i.n]:=by show toksF i td [32,109,44,64,110]=_;simp [toksF,tokC,comT]
  rw [e]
  exact ⟨noc_word,all_two dn dn (one_reg k m0 m1 _) (one_at k n0 n1 [])⟩
 ·have e:toksF i td (formI 10)=⟨3,0,[64]⟩::regT i.m::comT::[regT i.n]:=by show toksF i td [32,64,109,44,110]=_;simp [toksF,tokC,comT]
  rw [e]
  exact ⟨noc_sign (by decide),all_two dn dn (one_at k m0 m1 _) (one_reg k n0 n1 [])⟩
 ·have e:toksF i td (formI 11)=⟨3,0,[35]⟩::immT i.imm:=by show toksF i td [32,35,105]=_;simp [toksF,tokC]
  have l1:0≤i.imm:=l
  have h1:i.imm≤255:=h
  rw [e]
  exact ⟨noc_sign (by decide),all_one dn (one_imm k comT (by omega) h1).1⟩
def sgsS (s:Int):List UInt8:=
 if s=1 then [35,114] else if s=2 then [114,114] else if s=3 then [114] else if s=4∨s=5 then [112] else if s=6 then [64] else if s=7∨s=8 then [112,114] else if s=9 then [114,64] else if s=10 then [64,114] else if s=11 then [35] else []
theorem irows_pick:irows.all (fun r=>pickS r.name (shapesT (sgsS r.shape)) (0,0)==(r.op,r.shape) && decide (0 < r.op) && r.name.headD 0 != 46)=true:=by kernel_rfl
def insA (i:Ins) (td line:Int):AItem:=draftI i.op (shapeM i.op) (opsF (shapeM i.op) i td) line
structure InsR (i:Ins) (td:Int) (x:AItem):Prop where
 long:x.long=false
 what:(ldM i=false∧x.kind=1∧x.ins=i)∨(ldM i=true∧(x.kind=2∨x.kind=3∨x.kind=4∨x.kind=5)∧x.ins=⟨i.op,i.n,i.m,0⟩∧x.val=⟨nameH td,0⟩)
theorem wrong_imm {i:Ins} {r:IRow} (hr:infoR i.op=some r) (hw:wrongI i=0) {m:Int} (h0:lowI r.shape≤m) (h1:m≤highI r.shape):wrongI ⟨i.op,i.n,i.m,m⟩=0:=by
 unfold wrongI at hw ⊢
 dsimp only
 rw [hr] at hw ⊢
 dsimp only at hw ⊢
 split at hw
 ·exact absurd hw (by decide)
 ·rename_i hb
  refine if_neg fun h=>hb ?_
  unfold badReg at h ⊢
  dsimp only at h
  rcases h with h | h | h | h | h | h | h | h
  ·exact .inl h
  ·exact .inr (.inl h)
  ·exact .inr (.inr (.inl h))
  ·exact .inr (.inr (.inr (.inl h)))
  ·exact .inr (.inr (.inr (.inr (.inl h))))
  ·exact .inr (.inr (.inr (.inr (.inr (.inl h)))))
  ·omega
  ·omega
theorem ins_ok {i:Ins} {r:IRow} (hr:infoR i.op=some r) (hw:wrongI i=0) (td line:Int) :
  InsR i td (insA i td line)∧wrongI (insA i td line).ins=0∧sgsA (opsF r.shape i td)=sgsS r.shape∧((r.shape=1∨r.shape=11)→(aop (opsF r.shape i td) 0).val.name=[])∧(aop (opsF r.shape i td) 0).sign≠[61]:=by
 obtain ⟨r',hr',n0,n1,m0,m1,u1,u2,l,h⟩:=wrongI_0 hw
 obtain rfl:r'=r:=Option.some.inj (hr'.symm.trans hr)
 obtain ⟨s0,s1⟩:=dshape_in hr
 have hwi:∀ m,lowI r'.shape≤m→m≤highI r'.shape→wrongI ⟨i.op,i.n,i.m,m⟩=0:=fun m a b=>wrong_imm hr hw a b
 have hsh:=shape_some hr
 have hl:ldM i=decide (r'.shape=4∨r'.shape=5∨r'.shape=7∨r'.shape=8):=by unfold ldM;rw [hsh]
 have hI:insA i td line=draftI i.op r'.shape (opsF r'.shape i td) line:=by unfold insA;rw [hsh]
 rw [hI]
 clear hI hsh hr' hr
 have hs:r'.shape=0∨r'.shape=1∨r'.shape=2∨r'.shape=3∨r'.shape=4∨r'.shape=5∨r'.shape=6∨r'.shape=7∨r'.shape=8∨r'.shape=9∨r'.shape=10∨r'.shape=11:=by
  omega
 obtain ⟨op,n,m,imm⟩:=i
 have zi:(0:Int)≤imm→imm≤0→imm=0:=fun a b=>by omega
 dsimp only at *
 generalize r'.shape=s at *
 rcases hs with rfl | rfl | rfl | rfl | rfl | rfl | rfl | rfl | rfl | rfl | rfl | rfl
 ·obtain rfl:n=0:=u1 rfl
  obtain rfl:m=0:=u2 rfl
  obtain rfl:imm=0:=zi l h
  exact ⟨⟨rfl,.inl ⟨hl,rfl,rfl⟩⟩,hw,rfl,fun h=>absurd h (by decide),by show ([]:List UInt8)≠[61];decide⟩
 ·obtain rfl:m=0:=u2 rfl
  exact ⟨⟨rfl,.inl ⟨hl,rfl,rfl⟩⟩,hw,rfl,fun _=>rfl,by show ([35]:List UInt8)≠[61];decide⟩
 ·obtain rfl:imm=0:=zi l h
  exact ⟨⟨rfl,.inl ⟨hl,rfl,rfl⟩⟩,hw,rfl,fun h=>absurd h (by decide),by show ([114]:List UInt8)≠[61];decide⟩
 ·obtain rfl:m=0:=u2 rfl
  obtain rfl:imm=0:=zi l h
  exact ⟨⟨rfl,.inl ⟨hl,rfl,rfl⟩⟩,hw,rfl,fun h=>absurd h (by decide),by show ([114]:List UInt8)≠[61];decide⟩
 ·obtain rfl:n=0:=u1 rfl
  obtain rfl:m=0:=u2 rfl
  exact ⟨⟨rfl,.inr ⟨hl,.inl rfl,rfl,rfl⟩⟩,hwi 0 (by decide) (by decide),rfl,fun h=>absurd h (by decide),by show ([]:List UInt8)≠[61];decide⟩
 ·obtain rfl:n=0:=u1 rfl
  obtain rfl:m=0:=u2 rfl
  exact ⟨⟨rfl,.inr ⟨hl,.inr (.inl rfl),rfl,rfl⟩⟩,hwi 0 (by decide) (by decide),rfl,fun h=>absurd h (by decide),by show ([]:List UInt8)≠[61];decide⟩
 ·obtain rfl:m=0:=u2 rfl
  obtain rfl:imm=0:=zi l h
  exact ⟨⟨rfl,.inl ⟨hl,rfl,rfl⟩⟩,hw,rfl,fun h=>absurd h (by decide),by show ([64]:List UInt8)≠[61];decide⟩
 ·obtain rfl:m=0:=u2 rfl
  exact ⟨⟨rfl,.inr ⟨hl,.inr (.inr (.inl rfl)),rfl,rfl⟩⟩,hwi 0 (by decide) (by decide),rfl,fun h=>absurd h (by decide),by show ([]:List UInt8)≠[61];decide⟩
 ·obtain rfl:m=0:=u2 rfl
  exact ⟨⟨rfl,.inr ⟨hl,.inr (.inr (.inr rfl)),rfl,rfl⟩⟩,hwi 0 (by decide) (by decide),rfl,fun h=>absurd h (by decide),by show ([]:List UInt8)≠[61];decide⟩
 ·obtain rfl:imm=0:=zi l h
  exact ⟨⟨rfl,.inl ⟨hl,rfl,rfl⟩⟩,hw,rfl,fun h=>absurd h (by decide),by show ([114]:List UInt8)≠[61];decide⟩
 ·obtain rfl:imm=0:=zi l h
  exact ⟨⟨rfl,.inl ⟨hl,rfl,rfl⟩⟩,hw,rfl,fun h=>absurd h (by decide),by show ([64]:List UInt8)≠[61];decide⟩
 ·obtain rfl:n=0:=u1 rfl
  obtain rfl:m=0:=u2 rfl
  exact ⟨⟨rfl,.inl ⟨hl,rfl,rfl⟩⟩,hw,rfl,fun _=>rfl,by show ([35]:List UInt8)≠[61];decide⟩
theorem labs_no {k:Int} {t:LTok} {T:List LTok} {B:Bld} (h:noCol T):labsF [] k (t::T) B=(B,t::T):=by
 cases T with
 | nil=>rfl
 | cons c r=>rw [labsF,if_neg fun e=>h e.2]
theorem rest_ok {k:Int} {w:List UInt8} {T:List LTok} {ops:List AOp} (its:List AItem) (sy:List OSym) (mk:List Int) (h:allA [] k ⟨T,0,0⟩=(ops,⟨[],0,0⟩)):restB [] (bI its sy mk) k (⟨1,0,w⟩::T)=wordB (bI its sy mk) w ops k:=by
 have h2:allA [] k ⟨T,(bI its sy mk).fe,(bI its sy mk).fa⟩=(ops,⟨[],0,0⟩):=h
 rw [restB,if_neg (fun e=>e rfl),if_neg (fun e=>e rfl),h2,if_neg (fun e=>e rfl)]
 rfl
theorem line_ops {k:Int} {w:List UInt8} {T:List LTok} {ops:List AOp} (its:List AItem) (sy:List OSym) (mk:List Int) (hc:noCol T) (h:allA [] k ⟨T,0,0⟩=(ops,⟨[],0,0⟩)):lineB [] (bI its sy mk) ⟨k,⟨1,0,w⟩::T⟩=wordB (bI its sy mk) w ops k:=by
 unfold lineB
 dsimp only
 rw [labs_no hc]
 exact rest_ok its sy mk h
theorem put_bI (its:List AItem) (sy:List OSym) (mk:List Int) (x:AItem):putB (bI its sy mk) x=bI (its++[x]) sy mk:=rfl
theorem line_ins {i:Ins} {td k:Int} (hw:wrongI i=0) (ht:EvenS td) (its:List AItem) (sy:List OSym) (mk:List Int) :
  lineB [] (bI its sy mk) ⟨k,⟨1,0,rowN i⟩::toksF i td (formI (shapeM i.op))⟩=bI (its++[insA i td k]) sy mk:=by
 obtain ⟨r,hr⟩:=(wr_in hw).op
 obtain ⟨a1,a2⟩:=ops_all k hr hw ht
 obtain ⟨_,b2,b3,b4,b5⟩:=ins_ok hr hw td k
 have hn:rowN i=r.name:=by unfold rowN;rw [hr]
 obtain ⟨hmem,hop⟩:=infoR_mem hr
 have hp:=List.all_eq_true.1 irows_pick r hmem
 rw [Bool.and_eq_true,Bool.and_eq_true,decide_eq_true_eq,beq_iff_eq,bne_iff_ne] at hp
 obtain ⟨⟨p1,p2⟩,p3⟩:=hp
 have hsh:=shape_some hr
 have hI:insA i td k=draftI r.op r.shape (opsF r.shape i td) k:=by unfold insA;rw [hsh,hop]
 rw [hI] at b2 ⊢
 rw [hsh,hn,line_ops its sy mk a1 a2]
 have nd:∀ d:List UInt8,d.headD 0=46→r.name≠d:=fun d hd e=>p3 (by rw [e];exact hd)
 unfold wordB
 rw [if_neg (nd _ rfl),if_neg (nd _ rfl),if_neg (nd _ rfl),if_neg (nd _ rfl),if_neg (nd _ rfl)]
 unfold instrB
 rw [if_neg (fun e=>b5 e.2.2.1),b3,p1,if_neg (by show ¬ r.op=0;omega),if_neg (fun e=>e.2 (b4 e.1)),if_pos b2,put_bI]
def datA (one:Bool) (n k:Int):AItem:=⟨7,0,k,noI,false,if one=true then 1 else 2,⟨[],n⟩,0,0⟩
theorem sgn_small {n:Int} (h0:0≤n) (h1:n≤65535):signedI n 32=n:=by rw [signed32 h0 (by omega),if_pos (by omega)]
theorem line_dat {one:Bool} {n k:Int} (h0:0≤n) (h1:n≤if one=true then 255 else 65535) (its:List AItem) (sy:List OSym) (mk:List Int) :
  lineB [] (bI its sy mk) ⟨k,datT one n⟩=bI (its++[datA one n k]) sy mk:=by
 have h2:n≤65535:=by cases one<;>simp at h1<;>omega
 have ha:=all_num n k
 rw [sgn_small h0 h2] at ha
 unfold datT
 rw [line_ops its sy mk (show noCol [⟨2,n,[]⟩] from fun h=>absurd h.1 (show ¬ (2:Int)=3 by decide)) ha]
 unfold wordB dataB
 cases one
 ·rw [if_neg (by decide),if_pos (by decide),if_neg (by simp),List.foldl_cons,List.foldl_nil]
  unfold datB
  have hr:¬ (n < lowN 2∨highN 2 < n):=by
   have e3:lowN 2= -32768:=rfl
   have e4:highN 2=65535:=rfl
   rw [e3,e4]
   omega
  rw [if_neg (fun h=>h rfl),if_neg (fun h=>h.1 rfl),if_neg (fun h=>hr h.2),put_bI]
  rfl
 ·rw [if_pos (by decide),if_neg (by simp),List.foldl_cons,List.foldl_nil]
  unfold datB
  have h3:n≤255:=h1
  have hr:¬ (n < lowN 1∨highN 1 < n):=by
   have e3:lowN 1= -128:=rfl
   have e4:highN 1=255:=rfl
   rw [e3,e4]
   omega
  rw [if_neg (fun h=>h rfl),if_neg (fun h=>h.1 rfl),if_neg (fun h=>hr h.2),put_bI]
  rfl
def hexV (a:Nat) (c:UInt8):Nat:=a * 16+(if c.toNat < 58 then c.toNat - 48 else c.toNat - 87)
theorem hexV_dig (a:Nat) {k:Nat} (h:k < 16):hexV a (digH k)=a * 16+k:=by
 have:∀ k:Fin 16,(if (digH k.1).toNat < 58 then (digH k.1).toNat - 48 else (digH k.1).toNat - 87)=k.1:=by decide
 unfold hexV
 rw [this ⟨k,h⟩]
theorem hexV_R:∀ (f u:Nat) (acc:List UInt8),u < 16 ^ (f+1)→(hexR f u acc).foldl hexV 0=acc.foldl hexV u
 | 0,u,acc,h=>by
  rw [hexR,List.foldl_cons,hexV_dig 0 (by omega)]
  congr 1
  omega
 | f+1,u,acc,h=>by
  rw [hexR]
  split
  ·rw [List.foldl_cons,hexV_dig 0 (by assumption)]
   congr 1
   omega
  ·have hpw:16 ^ (f+1+1)=16 ^ (f+1) * 16:=Nat.pow_succ _ _
   rw [hexV_R f _ _ (by omega),List.foldl_cons,hexV_dig _ (Nat.mod_lt _ (by decide))]
   congr 1
   omega
theorem name_inj {a b:Int} (ha:0≤a) (ha':a≤100000) (hb:0≤b) (hb':b≤100000) (h:nameH a=nameH b):a=b:=by
 have hp:(100000:Nat) < 16 ^ (15+1):=by decide
 have h2:hexR 15 a.toNat []=hexR 15 b.toNat []:=by
  unfold nameH hexI at h
  rw [if_neg (by omega),if_neg (by omega)] at h
  exact (List.cons.inj h).2
 have h3:=hexV_R 15 a.toNat [] (by omega)
 have h4:=hexV_R 15 b.toNat [] (by omega)
 rw [h2,h4] at h3
 have h5:b.toNat=a.toNat:=h3
 omega
theorem name_good:(List.range 300).map (fun j:Nat=>(nameB (nameH (2 * (j:Int))),regI (nameT (2 * (j:Int)))))=(List.range 300).map fun _:Nat=>(true,(-1:Int)):=by kernel_rfl
theorem line_label {td k:Int} (h:EvenS td) (its:List AItem) (sy:List OSym) (mk:List Int) (hn:∀ s∈sy,s.name≠nameH td) :
  lineB [] (bI its sy mk) ⟨k,[nameT td,⟨3,0,[58]⟩]⟩=bI its (sy++[⟨nameH td,0⟩]) (mk++[(its.length:Int)]):=by
 obtain ⟨h0,h1,h2⟩:=h
 have h:=map_at name_good (List.mem_range.2 (show (td / 2).toNat < 300 by omega))
 rw [show 2 * (((td / 2).toNat:Nat):Int)=td by omega,Prod.mk.injEq] at h
 have hl:labelB [] (bI its sy mk) (nameT td) k=bI its (sy++[⟨nameH td,0⟩]) (mk++[(its.length:Int)]):=by
  unfold labelB
  rw [if_neg]
  ·rfl
  rintro (e | e | e | e)
  ·exact Bool.noConfusion (e.symm.trans h.1)
  ·rw [h.2] at e;omega
  ·obtain ⟨s,hs,he⟩:=List.any_eq_true.1 e
   exact hn s hs (show s.name=(nameT td).text by simpa using he)
  ·exact Bool.noConfusion e
 unfold lineB
 dsimp only
 rw [labsF,if_pos ⟨rfl,rfl,rfl⟩,hl]
 rfl
attribute [local irreducible] decI encV formI infoR isI lineB nameH toksF wrongI
inductive ItR (b:List UInt8) (j:Nat) (x:AItem):Prop
 | ins {i:Ins} (h:isI b (2 * (j:Int))=some i) (hx:InsR i (toM i (2 * (j:Int))) x)
 | half (hl:2 * j+2≤b.length) (hk:x.kind=7) (hs:x.size=2) (hv:x.val=⟨[],getN b (2 * (j:Int)) 2⟩) (hg:x.long=false)
 | last (hl:b.length=2 * j+1) (hk:x.kind=7) (hs:x.size=1) (hv:x.val=⟨[],((b.getD (2 * j) 0).toNat:Int)⟩) (hg:x.long=false)
theorem isI_wr {b:List UInt8} {at_:Int} {i:Ins} (h:isI b at_=some i):wrongI i=0∧encV i=getN b at_ 2∧at_+2≤b.length∧(0 < (b.length:Int)→0≤toM i at_∧toM i at_ < b.length):=by
 obtain ⟨h1,h2,h3⟩:=isI_of h
 have ht:=@turn2 (getN b at_ 2)
 rw [h1] at ht
 obtain ⟨_,_,h4,h5⟩:=ht rfl
 exact ⟨h4,h5,h2,fun hn=>fin_to h3 hn⟩
theorem toM_even (i:Ins) {a:Int} (h:a % 2=0):toM i a % 2=0:=by
 unfold toM
 split
 ·omega
 split
 ·omega
 ·rfl
theorem item_line {b:List UInt8} (hb:b.length≤600) {k:Nat} (hk:2 * k < b.length) (p:Int):∃ x,ItR b k x∧∀ its sy mk,lineB [] (bI its sy mk) ⟨p,itemT b k⟩=bI (its++[x]) sy mk:=by
 unfold itemT
 cases hi:isI b (2 * (k:Int)) with
 | none=>
  dsimp only
  have hc:=(b.getD (2 * k) 0).toNat_lt
  have h0:=getN_nn b (2 * (k:Int)) 2
  have h1:=getN_le b (2 * (k:Int))
  split
  ·refine ⟨datA true ((b.getD (2 * k) 0).toNat:Int) p,.last (by omega) rfl rfl rfl rfl,fun its sy mk=>?_⟩
   exact line_dat (one:=true) (by omega) (by show _≤(255:Int);omega) its sy mk
  ·refine ⟨datA false (getN b (2 * (k:Int)) 2) p,.half (by omega) rfl rfl rfl rfl,fun its sy mk=>?_⟩
   exact line_dat (one:=false) h0 (by show _≤(65535:Int);omega) its sy mk
 | some i=>
  dsimp only
  obtain ⟨h1,_,_,h4⟩:=isI_wr hi
  have h4:=h4 (by omega)
  obtain ⟨r,hr⟩:=(wr_in h1).op
  exact ⟨insA i (toM i (2 * (k:Int))) p,.ins hi (ins_ok hr h1 _ p).1,fun its sy mk=>line_ins h1 ⟨h4.1,by omega,toM_even i (by omega)⟩ its sy mk⟩
def labK (P:List Int) (k:Nat):List Nat:=(List.range k).filter fun j=>decide (2 * (j:Int)∈P)
theorem labK_succ (P:List Int) (k:Nat):labK P (k+1)=if 2 * (k:Int)∈P then labK P k++[k] else labK P k:=by
 unfold labK
 rw [List.range_succ,List.filter_append]
 split
 ·rename_i h;rw [List.filter_cons,if_pos (by simpa using h)];rfl
 ·rename_i h;rw [List.filter_cons,if_neg (by simpa using h)];exact List.append_nil _
theorem labK_lt {P:List Int} {k j:Nat} (h:j∈labK P k):j < k:=List.mem_range.1 (List.mem_filter.1 h).1
def symL (L:List Nat):List OSym:=L.map fun j:Nat=>⟨nameH (2 * (j:Int)),0⟩
def mrkL (L:List Nat):List Int:=L.map fun j:Nat=>(j:Int)
theorem read_all {b:List UInt8} (hb:b.length≤600) (P:List Int):∀ k,k≤halves b→∃ its,linesB [] (linK b P k) b0=bI its (symL (labK P k)) (mrkL (labK P k))∧its.length=k∧∀ j x,its[j]?=some x→ItR b j x
 | 0,_=>⟨[],rfl,rfl,fun j x h=>by cases h⟩
 | k+1,hk=>by
  have hkb:2 * k < b.length:=by unfold halves at hk;omega
  obtain ⟨its,i1,i2,i3⟩:=read_all hb P k (by omega)
  have snoc:∀ x,ItR b k x→∀ j y,(its++[x])[j]?=some y→ItR b j y:=fun x hx j y hy=>by
   rcases Nat.lt_or_ge j its.length with h | h
   ·rw [List.getElem?_append_left h] at hy;exact i3 j y hy
   ·rw [List.getElem?_append_right h] at hy
    cases hj:j - its.length with
    | zero=>
     rw [hj] at hy
     have e:j=k:=by omega
     subst e
     cases hy
     exact hx
    | succ n=>rw [hj] at hy;cases hy
  rw [linK,labK_succ]
  split
  ·obtain ⟨x,hx,hl⟩:=item_line hb hkb (((linK b P k).length:Int)+2)
   refine ⟨its++[x],?_,by rw [List.length_append,i2];rfl,snoc x hx⟩
   rw [linesB_app,i1,linesB_step,line_label ⟨by omega,by omega,by omega⟩ _ _ _ (fun s hs=>?_),linesB_step,hl,linesB_nil,i2]
   ·unfold symL mrkL
    rw [List.map_append,List.map_append]
    rfl
   ·obtain ⟨j,hj,rfl⟩:=List.mem_map.1 hs
    have hjk:=labK_lt hj
    intro e
    have:=name_inj (by omega) (by omega) (by omega) (by omega) e
    omega
  ·obtain ⟨x,hx,hl⟩:=item_line hb hkb (((linK b P k).length:Int)+1)
   refine ⟨its++[x],?_,by rw [List.length_append,i2];rfl,snoc x hx⟩
   rw [linesB_app,i1,linesB_step,hl,linesB_nil]
theorem placed_get:∀ (F:List AItem) (a:Int) (j:Nat),(placedN F a)[j]?=(F[j]?).map fun x=>atI x (a+2 * (j:Int))
 | [],a,j=>by rw [placedN];rfl
 | x::F,a,0=>by
  rw [placedN,show a+2 * ((0:Nat):Int)=a by omega]
  rfl
 | x::F,a,j+1=>by
  rw [placedN,List.getElem?_cons_succ,placed_get F (a+2) j,List.getElem?_cons_succ,show a+2+2 * (j:Int)=a+2 * ((j+1:Nat):Int) by omega]
theorem item_size {b:List UInt8} {j:Nat} {x:AItem} (h:ItR b j x) (a:Int):sizeA [] x a=if b.length=2 * j+1 then 1 else 2:=by
 cases h with
 | ins h hx=>
  have h2:=(isI_wr h).2.2.1
  rw [if_neg (by omega)]
  have hl:=hx.long
  unfold sizeA
  rw [if_neg (fun e=>by rw [hl] at e;exact Bool.noConfusion e.2)]
  obtain ⟨_,hk,_⟩ | ⟨_,hk,_⟩:=hx.what
  ·rw [if_neg (by omega),if_neg (by omega),if_neg (by omega)]
  ·rw [if_neg (by omega),if_neg (by omega),if_neg (by omega)]
 | half hl hk hs hv hg=>rw [if_neg (by omega)];unfold sizeA;rw [if_neg (by omega),if_pos hk,hs]
 | last hl hk hs hv hg=>rw [if_pos hl];unfold sizeA;rw [if_neg (by omega),if_pos hk,hs]
theorem place_dis {b:List UInt8}:∀ (F:List AItem) (j0:Nat),(∀ j x,F[j]?=some x→ItR b (j0+j) x)→j0+F.length=halves b→placeI [] F (2 * (j0:Int))=(placedN F (2 * (j0:Int)),(b.length:Int))∨F=[]
 | [],j0,h,hl=>.inr rfl
 | x::F,j0,h,hl=>by
  rw [List.length_cons] at hl
  refine .inl ?_
  have hx:=item_size (h 0 x rfl) (2 * (j0:Int))
  rw [Nat.add_zero] at hx
  rw [placeI,placedN,hx]
  cases F with
  | nil=>
   rw [placeI,placedN]
   have hh:halves b=j0+1:=hl.symm
   unfold halves at hh
   split
   ·refine Prod.ext rfl ?_
    show 2 * (j0:Int)+1=_
    omega
   ·refine Prod.ext rfl ?_
    show 2 * (j0:Int)+2=_
    omega
  | cons y F=>
   rw [List.length_cons] at hl
   have hh:halves b=j0+(F.length+1+1):=hl.symm
   unfold halves at hh
   rw [if_neg (by omega),show 2 * (j0:Int)+2=2 * ((j0+1:Nat):Int) by omega]
   rcases place_dis (y::F) (j0+1) (fun j z hz=>by rw [Nat.add_assoc,Nat.add_comm 1 j];exact h (j+1) z hz) (by rw [List.length_cons];omega) with e | e
   ·rw [e];rfl
   ·cases e
def symP (L:List Nat):List OSym:=L.map fun j:Nat=>⟨nameH (2 * (j:Int)),2 * (j:Int)⟩
theorem place_syms {its:List AItem} (e:Int):∀ L:List Nat,(∀ j∈L,j < its.length)→placeS (placedN its 0) e (symL L) (mrkL L)=symP L
 | [],_=>rfl
 | j::L,h=>by
  have hj:=h j List.mem_cons_self
  have hm:markAt (placedN its 0) e (j:Int)=2 * (j:Int):=by
   obtain ⟨x,hx⟩:=at_of_lt (l:=its) (k:=j) (by omega)
   unfold markAt itA
   rw [if_pos (by rw [placed_len];omega),Int.toNat_natCast,placed_get,hx]
   show 0+2 * (j:Int)=_
   omega
  show (⟨nameH (2 * (j:Int)),markAt (placedN its 0) e (j:Int)⟩:OSym)::placeS (placedN its 0) e (symL L) (mrkL L)=_
  rw [hm,place_syms e L fun i hi=>h i (List.mem_cons_of_mem _ hi)]
  rfl
theorem posF_spec {α:Type} (p:α→Bool):∀ (l:List α) (k:Nat),(∃ x∈l,p x=true)→∃ (j:Nat) (x:α),posF p l k=((k+j:Nat):Int)∧l[j]?=some x∧p x=true
 | [],k,h=>by obtain ⟨x,hx,_⟩:=h;cases hx
 | y::l,k,h=>by
  rw [posF]
  split
  ·exact ⟨0,y,rfl,rfl,by assumption⟩
  ·rename_i hn
   obtain ⟨x,hx,hp⟩:=h
   rcases List.mem_cons.1 hx with rfl | hx
   ·exact absurd hp hn
   ·obtain ⟨j,z,h1,h2,h3⟩:=posF_spec p l (k+1) ⟨x,hx,hp⟩
    exact ⟨j+1,z,by rw [h1];congr 1;omega,h2,h3⟩
theorem target_dis {L:List Nat} (hL:∀ j∈L,j≤1000) {j:Nat} (h:j∈L):targetA (symP L) ⟨nameH (2 * (j:Int)),0⟩=(2 * (j:Int),0):=by
 have hjb:=hL j h
 obtain ⟨k,s,h1,h2,h3⟩:=posF_spec (fun s:OSym=>s.name==nameH (2 * (j:Int))) (symP L) 0 ⟨⟨nameH (2 * (j:Int)),2 * (j:Int)⟩,List.mem_map.2 ⟨j,h,rfl⟩,beq_self_eq_true _⟩
 have hi:idxN (nameH (2 * (j:Int))) (symP L) 0=(k:Int):=by unfold idxN;rw [h1,Nat.zero_add]
 have hs:s.at_=2 * (j:Int):=by
  obtain ⟨m,hm,rfl⟩:=List.mem_map.1 (List.mem_of_getElem? h2)
  have hmb:=hL m hm
  have:=name_inj (by omega) (by omega) (by omega) (by omega) (by simpa using h3:nameH (2 * (m:Int))=nameH (2 * (j:Int)))
  exact this
 unfold targetA
 dsimp only
 rw [if_neg (by unfold nameH;exact List.cons_ne_nil _ _),hi,if_neg (by omega)]
 unfold symA
 rw [Int.toNat_natCast,h2]
 show (w64 (s.at_+0),(0:Int))=_
 rw [hs,Int.add_zero,w64_id (by omega) (by omega)]
theorem irows_op:irows.all (fun r=>decide (r.shape=8↔r.op=24))=true:=by unfold irows;decide
theorem far_gen {d of m:Int} (hd:d=of * m) (ho:of=2∨of=4) (h1: -100000≤m) (h2:m≤100000):(w64 d).tmod of=0∧w64 ((w64 d).tdiv of)=m:=by
 have e:w64 d=m * of:=by
  rw [w64_id]
  ·rw [hd,Int.mul_comm]
  ·rcases ho with rfl | rfl<;>omega
  ·rcases ho with rfl | rfl<;>omega
 rw [e,Int.mul_tmod_left,Int.mul_tdiv_cancel m (by omega),w64_id (by omega) (by omega)]
 exact ⟨rfl,rfl⟩
theorem away_dis {i:Ins} {a:Int} (hw:wrongI i=0) (hl:ldM i=true) (ha:0≤a) (ha':a≤10000):awayA i.op a (toM i a)=(i.imm,0):=by
 obtain ⟨r,hr,_,_,_,_,_,_,l,h⟩:=wrongI_0 hw
 have hsh:=shape_some hr
 have h24:=of_decide_eq_true (List.all_eq_true.1 irows_op r (infoR_mem hr).1)
 rw [(infoR_mem hr).2] at h24
 have hsi:shapeI i.op=r.shape:=by unfold shapeI;rw [hr]
 have hli:=(wr_in hw).imm
 unfold ldM at hl
 rw [decide_eq_true_eq,hsh] at hl
 have hd:toM i a - fromA i.op a=ofA i.op * i.imm∧(ofA i.op=2∨ofA i.op=4):=by
  unfold toM fromA ofA
  rw [hsh]
  by_cases h8:i.op=24
  ·have h8':r.shape=8:=h24.2 h8
   rw [if_neg (by omega),if_pos h8',if_pos h8,if_pos h8]
   omega
  ·have h8':r.shape≠8:=fun e=>h8 (h24.1 e)
   rw [if_pos (by omega),if_neg h8,if_neg h8]
   omega
 obtain ⟨e1,e2⟩:=far_gen hd.1 hd.2 (by omega) (by omega)
 have hf:farA i.op a (toM i a)=i.imm:=e2
 unfold awayA
 rw [e1,if_neg (fun h=>h rfl),hf,hsi,if_neg (by omega)]
def twoB (b:List UInt8) (j:Nat):List UInt8:=(b.drop (2 * j)).take 2
theorem two_get {b:List UInt8} {j:Nat} (h:2 * j+2≤b.length):twoB b j=[b.getD (2 * j) 0,b.getD (2 * j+1) 0]:=by
 unfold twoB
 rw [List.drop_eq_getElem_cons (by omega),List.drop_eq_getElem_cons (by omega),List.take_succ_cons,List.take_succ_cons,List.take_zero,List.getD_eq_getElem?_getD,List.getD_eq_getElem?_getD,List.getElem?_eq_getElem,List.getElem?_eq_getElem]
 rfl
theorem two_one {b:List UInt8} {j:Nat} (h:b.length=2 * j+1):twoB b j=[b.getD (2 * j) 0]:=by
 unfold twoB
 rw [List.drop_eq_getElem_cons (by omega),List.drop_of_length_le (by omega),List.take_succ_cons,List.take_nil,List.getD_eq_getElem?_getD,List.getElem?_eq_getElem]
 rfl
theorem low_nat {c:UInt8} {n:Int} (h:n % 256=(c.toNat:Int)):lowByte n=c:=by
 refine UInt8.toNat_inj.1 ?_
 have:=lowByte_toNat n
 omega
theorem get_two {b:List UInt8} {j:Nat} (h:2 * j+2≤b.length):getN b (2 * (j:Int)) 2=((b.getD (2 * j) 0).toNat:Int) * 256+((b.getD (2 * j+1) 0).toNat:Int):=by
 have b0:byteAt b (2 * (j:Int)+((0:Nat):Int))=((b.getD (2 * j) 0).toNat:Int):=by
  unfold byteAt
  rw [if_pos (by omega),show (2 * (j:Int)+((0:Nat):Int)).toNat=2 * j by omega]
 have b1:byteAt b (2 * (j:Int)+((1:Nat):Int))=((b.getD (2 * j+1) 0).toNat:Int):=by
  unfold byteAt
  rw [if_pos (by omega),show (2 * (j:Int)+((1:Nat):Int)).toNat=2 * j+1 by omega]
 rw [getN,getN,getN,b0,b1]
 omega
theorem enc_two {b:List UInt8} {j:Nat} (h:2 * j+2≤b.length):encB (getN b (2 * (j:Int)) 2)=twoB b j:=by
 have h0:=(b.getD (2 * j) 0).toNat_lt
 have h1:=(b.getD (2 * j+1) 0).toNat_lt
 rw [two_get h,get_two h]
 unfold encB
 rw [low_nat (c:=b.getD (2 * j) 0) (by omega),low_nat (c:=b.getD (2 * j+1) 0) (by omega)]
theorem put_two (c:List UInt8) (w:Int):putN (c++List.replicate 2 0) c.length 2 w=c++encB w:=by
 have h1:setAt (c++List.replicate 2 0) ((c.length:Int)+((1:Nat):Int)) (lowByte w)=c++[0,lowByte w]:=by
  unfold setAt
  rw [if_pos (by simp;omega),show ((c.length:Int)+((1:Nat):Int)).toNat=c.length+1 by omega,List.set_append_right _ _ (by omega),show c.length+1 - c.length=1 by omega]
  rfl
 have h2:setAt (c++[0,lowByte w]) ((c.length:Int)+((0:Nat):Int)) (lowByte (w / 256))=c++encB w:=by
  unfold setAt
  rw [if_pos (by simp;omega),show ((c.length:Int)+((0:Nat):Int)).toNat=c.length by omega,List.set_append_right _ _ (by omega),Nat.sub_self]
  rfl
 rw [putN,h1,putN,h2,putN]
theorem put_one (c:List UInt8) (w:Int):putN (c++List.replicate 1 0) c.length 1 w=c++[lowByte w]:=by
 have h2:setAt (c++List.replicate 1 0) ((c.length:Int)+((0:Nat):Int)) (lowByte w)=c++[lowByte w]:=by
  unfold setAt
  rw [if_pos (by simp;omega),show ((c.length:Int)+((0:Nat):Int)).toNat=c.length by omega,List.set_append_right _ _ (by omega),Nat.sub_self]
  rfl
 rw [putN,h2,putN]
theorem led_mem {b:List UInt8} {j:Nat} {i:Ins} (h:isI b (2 * (j:Int))=some i) (hl:ldM i=true):∀ k,j < k→toM i (2 * (j:Int))∈ledF b k
 | 0,hk=>by omega
 | k+1,hk=>by
  rw [ledF]
  by_cases e:j=k
  ·subst e
   refine List.mem_append.2 (.inr ?_)
   unfold ledI
   rw [h]
   dsimp only
   rw [if_pos hl]
   exact List.mem_singleton.2 rfl
  ·exact List.mem_append.2 (.inl (led_mem h hl k (by omega)))
def labD (b:List UInt8):List Nat:=labK (ledF b (halves b)) (halves b)
theorem target_of {b:List UInt8} (hb:b.length≤600) {j:Nat} (hj:j < halves b) {i:Ins} (h:isI b (2 * (j:Int))=some i) (hl:ldM i=true):targetA (symP (labD b)) ⟨nameH (toM i (2 * (j:Int))),0⟩=(toM i (2 * (j:Int)),0):=by
 obtain ⟨_,_,hlen,ht⟩:=isI_wr h
 have ht:=ht (by omega)
 have he:=toM_even i (a:=2 * (j:Int)) (by omega)
 have hm:=led_mem h hl (halves b) hj
 have hh:halves b=(b.length+1) / 2:=rfl
 have e:toM i (2 * (j:Int))=2 * (((toM i (2 * (j:Int)) / 2).toNat:Nat):Int):=by omega
 have hk:(toM i (2 * (j:Int)) / 2).toNat∈labD b:=by
  unfold labD labK
  refine List.mem_filter.2 ⟨List.mem_range.2 (by omega),?_⟩
  rw [decide_eq_true_eq,← e]
  exact hm
 rw [e]
 exact target_dis (fun k hk=>by have:=labK_lt hk;omega) hk
theorem still_dis {b:List UInt8} (hb:b.length≤600) {j:Nat} {x:AItem} (h:ItR b j x):mustL (symP (labD b)) (atI x (2 * (j:Int)))=false:=by
 cases h with
 | ins h hx=>
  obtain ⟨hw,_,hlen,_⟩:=isI_wr h
  obtain ⟨_,hk,_⟩ | ⟨hl,hk,hi,hv⟩:=hx.what
  ·exact (still (.inl (by show x.kind≠2;omega))).1
  ·have ht:=target_of hb (by unfold halves;omega) h hl
   have ha:=away_dis (a:=2 * (j:Int)) hw hl (by omega) (by omega)
   unfold mustL
   refine decide_eq_false fun e=>?_
   have e4:(awayA x.ins.op (2 * (j:Int)) (targetA (symP (labD b)) x.val).1).2=3:=e.2.2.2
   rw [hv,ht,hi] at e4
   dsimp only at e4
   rw [ha] at e4
   exact absurd e4 (show ¬ (0:Int)=3 by decide)
 | half hl hk hs hv hg=>exact (still (.inl (by show x.kind≠2;omega))).1
 | last hl hk hs hv hg=>exact (still (.inl (by show x.kind≠2;omega))).1
theorem emit_dis {b:List UInt8} (hb:b.length≤600) {j:Nat} {x:AItem} (its:List AItem) (c:List UInt8) (h:ItR b j x):emitE [] its (symP (labD b)) ⟨c,[],0,0⟩ (atI x (2 * (j:Int)))=⟨c++twoB b j,[],0,0⟩:=by
 have hat:(atI x (2 * (j:Int))).at_=2 * (j:Int):=rfl
 have hkd:(atI x (2 * (j:Int))).kind=x.kind:=rfl
 cases h with
 | @ins i h hx=>
  obtain ⟨hw,he,hlen,_⟩:=isI_wr h
  obtain ⟨_,hk,hi⟩ | ⟨hl,hk,hi,hv⟩:=hx.what
  ·unfold emitE
   rw [hat,hkd,if_neg (by omega),if_neg (by omega),if_neg (by omega),if_neg (by omega),if_pos hk,show (atI x (2 * (j:Int))).ins=i from hi,half_ok hw,he,enc_two (by omega)]
  ·have ht:=target_of hb (by unfold halves;omega) h hl
   have ha:=away_dis (a:=2 * (j:Int)) hw hl (by omega) (by omega)
   have hlead:∀ line,leadE ⟨c,[],0,0⟩ ⟨i.op,i.n,i.m,0⟩ (2 * (j:Int)) (toM i (2 * (j:Int))) line=⟨c++twoB b j,[],0,0⟩:=fun line=>by
    rw [lead_ok (i:=⟨i.op,i.n,i.m,0⟩) ha hw]
    show (⟨c++encB (encV i),[],0,0⟩:Out)=_
    rw [he,enc_two (by omega)]
   unfold emitE
   rw [hat,hkd,if_neg (by omega),if_neg (by omega),if_neg (by omega),if_neg (by omega),if_neg (by omega),if_neg (by omega),show (atI x (2 * (j:Int))).val=⟨nameH (toM i (2 * (j:Int))),0⟩ from hv,ht,if_neg (fun e=>e rfl)]
   split
   ·unfold nearE
    rw [if_pos (show (atI x (2 * (j:Int))).long=false from hx.long),show (atI x (2 * (j:Int))).ins=⟨i.op,i.n,i.m,0⟩ from hi]
    exact hlead _
   ·rw [show (atI x (2 * (j:Int))).ins=⟨i.op,i.n,i.m,0⟩ from hi]
    exact hlead _
 | half hl hk hs hv hg=>
  unfold emitE
  rw [hat,hkd,if_pos hk,show (atI x (2 * (j:Int))).size=2 from hs,if_neg (by omega),show (atI x (2 * (j:Int))).val=⟨[],getN b (2 * (j:Int)) 2⟩ from hv]
  unfold wordE
  rw [if_pos rfl]
  show (⟨putN (c++List.replicate 2 0) c.length 2 (getN b (2 * (j:Int)) 2),[],0,0⟩:Out)=_
  rw [put_two,enc_two hl]
 | last hl hk hs hv hg=>
  unfold emitE
  rw [hat,hkd,if_pos hk,show (atI x (2 * (j:Int))).size=1 from hs,if_neg (by omega),show (atI x (2 * (j:Int))).val=⟨[],((b.getD (2 * j) 0).toNat:Int)⟩ from hv]
  unfold wordE
  rw [if_pos rfl]
  show (⟨putN (c++List.replicate 1 0) c.length 1 ((b.getD (2 * j) 0).toNat:Int),[],0,0⟩:Out)=_
  have hc:=(b.getD (2 * j) 0).toNat_lt
  rw [put_one,two_one hl,low_nat (c:=b.getD (2 * j) 0) (by omega)]
theorem emits_dis {b:List UInt8} (hb:b.length≤600) (its:List AItem):∀ (F:List AItem) (j0:Nat) (c:List UInt8),(∀ j x,F[j]?=some x→ItR b (j0+j) x) →
  (placedN F (2 * (j0:Int))).foldl (fun o x=>if o.fe=0 then emitE [] its (symP (labD b)) o x else o) ⟨c,[],0,0⟩=⟨c++(b.drop (2 * j0)).take (2 * F.length),[],0,0⟩
 | [],j0,c,_=>by
  rw [placedN,List.foldl_nil]
  show _=(⟨c++[],[],0,0⟩:Out)
  rw [List.append_nil]
 | x::F,j0,c,h=>by
  have h0:ItR b j0 x:=h 0 x rfl
  rw [placedN,List.foldl_cons,if_pos rfl,emit_dis hb its c h0,show 2 * (j0:Int)+2=2 * ((j0+1:Nat):Int) by omega,emits_dis hb its F (j0+1) _ fun j y hy=>by rw [Nat.add_assoc,Nat.add_comm 1 j];exact h (j+1) y hy,
   List.append_assoc]
  have e:twoB b j0++(b.drop (2 * (j0+1))).take (2 * F.length)=(b.drop (2 * j0)).take (2 * (x::F).length):=by
   unfold twoB
   rw [show 2 * (j0+1)=2 * j0+2 by omega,← List.drop_drop,List.length_cons,show 2 * (F.length+1)=2+2 * F.length by omega,List.take_add]
  rw [e]
theorem relax_dis {b:List UInt8} (hb:b.length≤600) {its:List AItem} (hl:its.length=halves b) (h:∀ j x,its[j]?=some x→ItR b j x):relaxL [] (mrkL (labD b)) ⟨its,symL (labD b)⟩=(⟨placedN its 0,symP (labD b)⟩,(b.length:Int)):=by
 have hp:placeI [] its 0=(placedN its 0,(b.length:Int)):=by
  rcases place_dis its 0 (fun j x hx=>by rw [Nat.zero_add];exact h j x hx) (by omega) with e | e
  ·exact e
  ·subst e
   have h0:halves b=0:=hl.symm
   have:b.length=0:=by unfold halves at h0;omega
   rw [this]
   rfl
 have hs:placeL [] (mrkL (labD b)) ⟨its,symL (labD b)⟩=(⟨placedN its 0,symP (labD b)⟩,(b.length:Int)):=by
  unfold placeL
  dsimp only
  rw [hp]
  dsimp only
  rw [place_syms _ (labD b) fun j hj=>by have:=labK_lt hj;omega]
 have hm:∀ x∈placedN its 0,mustL (symP (labD b)) x=false:=fun x hx=>by
  obtain ⟨j,hj,rfl⟩:=List.getElem_of_mem hx
  have hg:=placed_get its 0 j
  rw [List.getElem?_eq_getElem hj] at hg
  cases hy:its[j]? with
  | none=>rw [hy] at hg;cases hg
  | some y=>
   rw [hy] at hg
   have e:(placedN its 0)[j]=atI y (2 * (j:Int)):=by
    have:=Option.some.inj hg
    rw [this]
    show atI y (0+2 * (j:Int))=_
    rw [Int.zero_add]
   rw [e]
   exact still_dis hb (h j y hy)
 unfold relaxL
 dsimp only
 rw [relaxF_step,hs]
 dsimp only
 rw [if_pos (.inl (List.any_eq_false.2 fun x hx=>by rw [hm x hx];exact Bool.noConfusion))]
 have hg:(placedN its 0).map (growI (symP (labD b)))=placedN its 0:=by
  refine (List.map_congr_left fun x hx=>?_).trans (List.map_id _)
  unfold growI
  rw [if_neg (by rw [hm x hx];exact Bool.noConfusion)]
  rfl
 rw [hg]
theorem lin_len (b:List UInt8) (P:List Int):∀ k,k≤(linK b P k).length
 | 0=>Nat.le_refl _
 | k+1=>by
  have:=lin_len b P k
  rw [linK]
  split
  ·rw [List.length_append];show k+1≤_+2;omega
  ·rw [List.length_append];show k+1≤_+1;omega
theorem dis_built {b:List UInt8} (hl:(linD b).length≤200):buildR [] (linD b)=(⟨b,symP (labD b),[]⟩,0,0):=by
 have h0:=lin_len b (ledF b (halves b)) (halves b)
 have h1:halves b≤200:=Nat.le_trans h0 hl
 have hb:b.length≤600:=by unfold halves at h1;omega
 have hh:halves b=(b.length+1) / 2:=rfl
 obtain ⟨its,i1,i2,i3⟩:=read_all hb (ledF b (halves b)) (halves b) (Nat.le_refl _)
 have hr:=relax_dis hb i2 i3
 have he:=emits_dis hb (placedN its 0) its 0 [] fun j x hx=>by rw [Nat.zero_add];exact i3 j x hx
 rw [List.nil_append,Nat.mul_zero,List.drop_zero,List.take_of_length_le (by omega)] at he
 have hpool:∀ sy mk line,poolB (bI its sy mk) line=bI its sy mk:=fun sy mk line=>by unfold poolB;rw [if_neg (fun h=>Bool.noConfusion h)]
 have e1:linesB [] (linD b) b0=bI its (symL (labD b)) (mrkL (labD b)):=i1
 unfold buildR
 rw [e1,hpool]
 unfold layR emitAll bI
 dsimp only
 rw [hr]
 dsimp only
 have he2:(placedN its 0).foldl (fun o x=>if o.fe=0 then emitE [] (placedN its 0) (symP (labD b)) o x else o) ⟨[],[],0,0⟩=⟨b,[],0,0⟩:=he
 rw [he2,if_neg (fun h=>h rfl),if_neg (by omega),if_neg (fun h=>h rfl)]
end Go.Proofs.YtfahnaccpncdpaaGreatDoor
namespace Go.Proofs.YtfahnaccpncdpaaGreatDoor
open Go Go.Plat
set_option linter.unusedVariables false
set_option linter.unusedSimpArgs false
set_option maxRecDepth 100000
set_option maxHeartbeats 2000000
attribute [local irreducible] AWP Arith BitS BytesS CallS CatS DrawS EndS IdxS Lib.itoa LookS LoopEnd Meets ModeS NilS NormL NormM OExpr.kids OExpr.kind OExpr.n OExpr.name QuoS RemS ShlS ShrS SideS SplitS allA awayA bitI buildR encV evalE exprD findI halfE idxV infoR labelB leadE linesR nameB nearE nodes oneA pRes putN regI signedI sizeA slotV takeA targetA withV wordE wrongI
theorem mfail_meets:Meets Tryz.prog n_macro_maker_fail (SpecF (fun _:List LLine×Int×Int×Int=>True) (fun (_,_,e,a)=>[.loc 0 0,.int .i64 e,.int .i64 a]) (fun (out,looked,_,_)=>mO out looked 0 0) (fun _=>.ff) fun (out,looked,e,a)=>mO out looked e a):=by
 refine meets_f tabOk Tryz.func56 rfl (by decide) ?_
 rintro ⟨out,looked,e,a⟩ _
 refine ⟨Nat.le_refl _,by simp [Tryz.f56],fun E hE=>?_⟩
 refine vcOk _ ?_
 (all_goals refine qgp ?_<;>(repeat' first | exact trivial | intro hc | refine And.intro ?_ ?_)<;>refine Lf.mk ?_)
 ·exact end_eq rfl rfl
 all_goals exact absurd trivial hc
def manyO (l:List LLine) (p:Int) (k:Nat):Bool→List Ob
 | false=>mO (l.take k) k 0 0
 | true=>mO (l.take 200) 201 4 p
def manyL (l:List LLine) (x:LLine):Prop:=200 < l.length∧l.length≤3000∧l[200]?=some x∧∀ x∈l,plainH (headM x)∧x.toks.length≤1000000000
theorem mlines_many:Meets Tryz.prog n_macro_maker_lines (SpecF (fun ((l,x):List LLine×LLine)=>manyL l x)
  (fun (l,_)=>[.loc 0 0,.sl 2 (l.map llineD) none,.int .i64 0]) (fun _=>mO [] 0 0 0) (fun _=>.tup []) fun (l,x)=>mO (l.take 200) 201 4 x.pos):=by
 refine meets_f tabOk Tryz.func36 rfl (by decide) ?_
 rintro ⟨l,x0⟩ ⟨hl0,hl1,hx0,hl⟩
 have hl0:200 < l.length:=hl0
 have hl1:l.length≤3000:=hl1
 refine ⟨Nat.le_refl _,by simp [Tryz.f36],fun E hE=>?_⟩
 have hE2:E.L.length=2:=by rw [hE];rfl
 refine vcOk _ ?_
 (all_goals refine qgp ?_<;>(repeat' first | exact trivial | intro hc | refine And.intro ?_ ?_)<;>refine Lf.mk ?_)
 refine awp_loopW (α:=Nat×Bool) (fun p=>match p.2 with | false=>p.1≤200 | true=>p.1=201) (fun p=>[(0,.loc 0 0),(1,.sl 2 (l.map llineD) none),(2,.int .i64 0),(7,.int .i64 p.1)]) (fun p=>manyO l x0.pos p.1 p.2) (fun p=>202 - p.1) (fun ⟨_,d⟩=>by rw [hE2];cases d<;>exact Nat.le_refl 2) (0,false) (Nat.zero_le _) ?_ ?_
 ·exact weak_same rfl ⟨rfl,rfl,rfl,rfl,trivial⟩
 rintro ⟨k,d⟩ hk
 cases d with
 | true=>
  have hk:k=201:=hk
  subst hk
  show AWP _ _ _ _ _ _ (mO (l.take 200) 201 4 x0.pos)
  refine vcOk _ ?_
  (all_goals refine qgp ?_<;>(repeat' first | exact trivial | intro hc | refine And.intro ?_ ?_)<;>refine Lf.mk ?_)
  all_goals first
   | exact end_eq rfl rfl
   | exact absurd trivial hc
 | false=>
  have hk:k≤200:=hk
  show AWP _ _ _ _ _ _ (mO (l.take k) k 0 0)
  have hkl:k < l.length:=by omega
  obtain ⟨x,hx⟩:=at_of_lt (l:=l) (k:=k) (by omega)
  have hgx:l[k]=x:=by rw [List.getElem?_eq_getElem hkl] at hx;exact Option.some.inj hx
  obtain ⟨hp,hxl⟩:=hl x (List.mem_of_getElem? hx)
  have hxk:l[((k:Nat):Int).toNat]?=some x:=by rw [Int.toNat_natCast];exact hx
  have hok:(l.take k).length=k:=by rw [List.length_take];omega
  have htk:(l.take (k+1)).drop k=[x]:=by
   rw [List.take_succ_eq_append_getElem hkl,List.drop_left' hok,hgx]
  have htk2:l.take (k+1)=l.take k++[x]:=by rw [List.take_succ_eq_append_getElem hkl,hgx]
  have h200:k=200→l.take k=l.take 200∧x=x0:=fun e=>by
   subst e
   exact ⟨rfl,Option.some.inj (hx.symm.trans hx0)⟩
  refine vcOk _ ?_
  (all_goals refine qgp ?_<;>(repeat' first | exact trivial | intro hc | refine And.intro ?_ ?_)<;>refine Lf.mk ?_)
  refine ix_map x (Int.natCast_nonneg k) hxk ?_
  (all_goals refine qgp ?_<;>(repeat' first | exact trivial | intro hc | refine And.intro ?_ ?_)<;>refine Lf.mk ?_)
  refine call_p mhead_meets x hxl (VS.mk (LeL.of_eq rfl)) ?_
  obtain ⟨p1,p2,p3,p4,p5,p6,p7,p8⟩:=hp
  (all_goals refine qgp ?_<;>(repeat' first | exact trivial | intro hc | refine And.intro ?_ ?_)<;>refine Lf.mk ?_)
  all_goals first
   | (exfalso;exact p1 (by assumption))
   | (exfalso;exact p2 (by assumption))
   | (exfalso;exact p3 (by assumption))
   | (exfalso;exact p4 (by assumption))
   | (exfalso;exact p5 (by assumption))
   | (exfalso;exact p6 (by assumption))
   | (exfalso;exact p7 (by assumption))
   | (exfalso;exact p8 (by assumption))
   | skip
  refine call_b mfind_meets [] (l.take k,(k:Int)+1,0,0,headM x) trivial rfl (LeL.refl _) rfl (.cons (.loc (Nat.lt_of_lt_of_le (by decide:0 < 2) (Nat.le_of_eq rfl))) (.cons .str .nil)) .int (mO_cl _ _ _ _) (mO_cl _ _ _ _) ?_
  generalize hOK:l.take k=ok at *
  (all_goals refine qgk ?_<;>(repeat' first | exact trivial | intro hc | refine And.intro ?_ ?_)<;>refine Lf.mk ?_)
  ·exact absurd hc (by decide)
  ·have hk200:k=200:=by omega
   obtain ⟨e1,e2⟩:=h200 hk200
   refine ix_map x (Int.natCast_nonneg k) hxk ?_
   (all_goals refine qgk ?_<;>(repeat' first | exact trivial | intro hc | refine And.intro ?_ ?_)<;>refine Lf.mk ?_)
   refine call_b mfail_meets [] (ok,(k:Int)+1,4,x.pos) trivial rfl (LeL.refl _) rfl (.cons (.loc (Nat.lt_of_lt_of_le (by decide:0 < 2) (Nat.le_of_eq rfl))) (.cons .int (.cons .int .nil))) .ff (mO_cl _ _ _ _) (mO_cl _ _ _ _) ?_
   (all_goals refine qgk ?_<;>(repeat' first | exact trivial | intro hc | refine And.intro ?_ ?_)<;>refine Lf.mk ?_)
   subst hk200
   rw [e2] at *
   exact loop_same (201,true) rfl (by show 202 - 201 < 202 - 200;decide) (by rw [e1];rfl) ⟨rfl,rfl,rfl,rfl,trivial⟩
  ·refine call_p sown_meets [x] ⟨by simp,fun y hy=>by rw [List.mem_singleton] at hy;subst hy;exact hxl⟩ (VS.mk (LeL.of_eq (by dsimp only;rw [Int.toNat_natCast,show (((k:Nat):Int)+1).toNat=k+1 by omega,htk]))) ?_
   (all_goals refine qgk ?_<;>(repeat' first | exact trivial | intro hc | refine And.intro ?_ ?_)<;>refine Lf.mk ?_)
   exact loop_same (k+1,false) (by show k+1≤_;omega) (by show 202 - (k+1) < 202 - k;omega) (by show _=mO (l.take (k+1)) ((k+1:Nat):Int) 0 0;rw [htk2];rfl) ⟨rfl,rfl,rfl,rfl,trivial⟩
  ·exact absurd trivial hc
theorem expand_many:Meets Tryz.prog n_macro_Expand (SpecP (fun ((l,x):List LLine×LLine)=>manyL l x) (fun (l,_)=>[.sl 2 (l.map llineD) none]) fun (_,x)=>.tup [.nilsl,.nilsl,.agg [.int .i64 4,.int .i64 x.pos]]):=by
 refine meets_f tabOk Tryz.func21 rfl (by decide) ?_
 rintro ⟨l,x⟩ h
 have h:manyL l x:=h
 refine ⟨Nat.le_refl _,by simp [Tryz.f21],fun E hE=>?_⟩
 have hE0:E.L.length=0:=by rw [hE];rfl
 refine awp_seqK (vcOk _ ?_)
 (all_goals refine qgp ?_<;>(repeat' first | exact trivial | intro hc | refine And.intro ?_ ?_)<;>refine Lf.mk ?_)
 refine awp_seqK (vcOk _ ?_)
 (all_goals refine qgp ?_<;>(repeat' first | exact trivial | intro hc | refine And.intro ?_ ?_)<;>refine Lf.mk ?_)
 refine awp_weak (σ':=[(0,.sl 2 (l.map llineD) none),(4,.loc 2 0),(5,.loc 0 0)]) (L':=mO [] 0 0 0++[T5]) ?_ ?_
 ·rw [hE0]
  refine weak_trans (weak_cellnil' 1 2 [.nilsl,.nilsl,.sl 2 [] (some 2),.int .i64 0,.int .i64 0,.int .i64 0] rfl ⟨.same,.same,.here,.same,.same,.same,trivial⟩) ?_
  refine weak_keepO [1,2,0] rfl rfl ?_ ⟨.flat .sl,.loc rfl,.loc rfl,trivial⟩
  exact .cons (o:=.cells [.nilsl,.nilsl,.sl 2 [] (some 2),.int .i64 0,.int .i64 0,.int .i64 0]) rfl ⟨_,rfl,.cons (.flat .nilsl) (.cons (.flat .nilsl) (.cons (.tok rfl) (.cons (.flat .int) (.cons (.flat .int) (.cons (.flat .int) .nil)))))⟩
   (.cons (o:=.spare 0) rfl rfl (.cons (o:=T5) rfl ⟨_,rfl,.cons (.flat .int) (.cons (.flat .int) .nil)⟩ .nil))
 refine vcOk _ ?_
 (all_goals refine qgp ?_<;>(repeat' first | exact trivial | intro hc | refine And.intro ?_ ?_)<;>refine Lf.mk ?_)
 refine call_b mlines_many [T5] (l,x) h rfl (LeL.refl _) rfl (.cons (.loc (Nat.lt_of_lt_of_le (by decide:0 < 2) (Nat.le_of_eq rfl))) (.cons .sl (.cons .int .nil))) .tup0 (mO_cl _ _ _ _) (mO_cl _ _ _ _) ?_
 dsimp only
 (all_goals refine qgp ?_<;>(repeat' first | exact trivial | intro hc | refine And.intro ?_ ?_)<;>refine Lf.mk ?_)
 exact end_p (VS.mk (LeD.refl _))
structure ManyB (b:List UInt8) (x:LLine):Prop where
 len:b.length≤1000000000
 ok:(linesR b).2.1=0
 many:manyL (linesR b).1 x
theorem unit_many:Meets Tryz.prog n_asm_Unit (SpecP (fun ((b,x):List UInt8×LLine)=>ManyB b x) (fun (b,_)=>[.sl 1 (b.map byteD) none]) fun (_,x)=>.tup [objD noO,.agg [.int .i64 4,.int .i64 x.pos]]):=by
 refine meets_f tabOk Tryz.func6 rfl (by decide) ?_
 rintro ⟨b,x⟩ ⟨h1,h2,h3⟩
 refine ⟨Nat.le_refl _,by simp [Tryz.f6],fun E hE=>?_⟩
 refine vcOk _ ?_
 (all_goals refine qgp ?_<;>(repeat' first | exact trivial | intro hc | refine And.intro ?_ ?_)<;>refine Lf.mk ?_)
 refine call_p scan_lines_meets b h1 (VS.mk (LeL.of_eq rfl)) ?_
 have hD:linesD (linesR b)= .tup [.sl 2 ((linesR b).1.map llineD) none,.agg [.int .i64 (linesR b).2.1,.int .i64 (linesR b).2.2]]:=rfl
 rw [hD,h2]
 dsimp only at h3 ⊢
 generalize (linesR b).1=l at *
 (all_goals refine qgp ?_<;>(repeat' first | exact trivial | intro hc | refine And.intro ?_ ?_)<;>refine Lf.mk ?_)
 ·exact absurd trivial hc
 refine call_p expand_many (l,x) h3 (VS.mk (LeL.of_eq rfl)) ?_
 (all_goals refine qgp ?_<;>(repeat' first | exact trivial | intro hc | refine And.intro ?_ ?_)<;>refine Lf.mk ?_)
 exact end_p (VS.mk (LeD.tup (.cons (LeD.agg (.cons (.nil 1) (.cons (.nil 2) (.cons (.nil 4) .nil)))) (LeL.refl _))))
end Go.Proofs.YtfahnaccpncdpaaGreatDoor
namespace Go.Proofs.YtfahnaccpncdpaaGreatDoor
open Go Go.Plat
set_option linter.unusedVariables false
set_option linter.unusedSimpArgs false
set_option maxRecDepth 100000
set_option maxHeartbeats 2000000
attribute [local irreducible] AWP Arith BitS BytesS CallS CatS DrawS EndS IdxS LookS LoopEnd Meets ModeS NilS NormL NormM QuoS RemS ShlS ShrS SideS SplitS bitI buildR disT linesR unitP
inductive DisR (b:List UInt8):Prop
 | long (h:1200 < (disT b).length) (hp:PlainB (disT b)) (hu:unitP (disT b)=(noO,4,0))
 | many (h:(disT b).length≤1200) (hf:200 < feedN (disT b)) (x:LLine) (hm:ManyB (disT b) x)
 | fit (h:(disT b).length≤1200) (hf:feedN (disT b)≤200) (hp:PlainB (disT b)) (hu:unitP (disT b)=(⟨b,symP (labD b),[]⟩,0,0))
theorem dis_len {b:List UInt8} (hb:b.length≤1048576):(disT b).length≤300 * 524289:=by
 have h:=text_len b (ledF b (halves b)) (halves b)
 have hh:halves b=(b.length+1) / 2:=rfl
 unfold disT
 omega
theorem unitP_eq (b:List UInt8):unitP b=if (linesR b).2.1≠0 then (noO,(linesR b).2.1,(linesR b).2.2) else buildR [] (linesR b).1:=by unfold unitP;rfl
theorem dis_r {b:List UInt8} (hb:b.length≤1048576):DisR b:=by
 obtain ⟨h1,h2⟩:=dis_lines hb
 have hlen:=dis_len hb
 have hp:=lin_plain b (ledF b (halves b)) (halves b)
 obtain ⟨s1,s2,s3⟩:=src_ok (disT b)
 by_cases hL:1200 < (disT b).length
 ·rw [if_pos hL] at h1
  refine .long hL (src_plain (by omega) (fun x hx=>?_) ?_) ?_
  ·rw [h1] at hx;cases hx
  ·rw [h1];exact Nat.zero_le _
  ·rw [unitP_eq,h1];rfl
 ·rw [if_neg hL] at h1
  rw [h1] at s2 s3
  by_cases hF:200 < feedN (disT b)
  ·have hn:200 < (linD b).length:=by omega
   obtain ⟨x,hx⟩:=at_of_lt (l:=linD b) (k:=200) (by omega)
   refine .many (by omega) hF x ⟨by omega,by rw [h1],?_⟩
   rw [h1]
   exact ⟨hn,Nat.le_trans s2 (by decide),hx,fun y hy=>⟨hp y hy,by have:=(s3 y hy).1;omega⟩⟩
  ·refine .fit (by omega) (by omega) (src_plain (by omega) (fun x hx=>?_) ?_) ?_
   ·rw [h1] at hx;exact hp x hx
   ·rw [h1];show (linD b).length≤200;omega
   ·rw [unitP_eq,h1]
    exact dis_built (by omega)
end Go.Proofs.YtfahnaccpncdpaaGreatDoor
namespace Go.Proofs.YtfahnaccpncdpaaGreatDoor
open Go Go.Plat
set_option linter.unusedVariables false
set_option linter.unusedSimpArgs false
set_option maxRecDepth 100000
set_option maxHeartbeats 2000000
attribute [local irreducible] AWP Arith BitS BytesS CallS CatS DrawS EndS IdxS LookS LoopEnd Meets ModeS NilS NormL NormM QuoS RemS ShlS ShrS SideS SplitS bitI
theorem feeds_meets:Meets Tryz.prog n_pllaw8_feeds (SpecP (fun s:List UInt8=>s.length≤1000000000) (fun s=>[.str s]) fun s=>.int .i64 (feedN s:Nat)):=by
 refine meets_f tabOk Tryz.func7 rfl (by decide) ?_
 rintro s hs
 have hs:s.length≤1000000000:=hs
 refine ⟨Nat.le_refl _,by simp [Tryz.f7],fun E hE=>?_⟩
 refine vcOk _ ?_
 (all_goals refine qgp ?_<;>(repeat' first | exact trivial | intro hc | refine And.intro ?_ ?_)<;>refine Lf.mk ?_)
 refine awp_loop (α:=Nat) (fun k=>k≤s.length∧feedN (s.take k)≤k) (fun k=>[(0,.str s),(3,.int .i64 (feedN (s.take k):Nat)),(6,.int .i64 s.length),(7,.int .i64 k)]) (fun _=>[]) (fun k=>s.length - k) (fun _=>by simp [hE]) 0 ⟨Nat.zero_le _,Nat.le_refl _⟩ ?_ ?_
 ·(repeat' (first | (refine VS.mk ?_) | exact trivial | exact rfl | refine And.intro ?_ ?_))
 rintro k ⟨hk,hf⟩
 have hk:k≤s.length:=hk
 have step:k < s.length→s.take (k+1)=s.take k++[s.getD k 0]:=fun h=>by
  rw [List.take_succ_eq_append_getElem h,List.getD_eq_getElem?_getD,List.getElem?_eq_getElem h]
  rfl
 refine vcOk _ ?_
 (all_goals refine qgp ?_<;>(repeat' first | exact trivial | intro hc | refine And.intro ?_ ?_)<;>refine Lf.mk ?_)
 ·rw [Int.toNat_natCast] at hc
  have e:s.getD k 0=10:=UInt8.toNat_inj.1 (by exact_mod_cast hc)
  have hn:feedN (s.take (k+1))=feedN (s.take k)+1:=by rw [step (by omega),feed_app,e];rfl
  refine loop_end (k+1) ⟨by omega,by omega⟩ (by omega) ?_
  rw [hn]
  (repeat' (first | (refine VS.mk ?_) | exact trivial | exact rfl | refine And.intro ?_ ?_))
 ·rw [Int.toNat_natCast] at hc
  have e:s.getD k 0≠10:=fun e=>hc (by rw [e];rfl)
  have hn:feedN (s.take (k+1))=feedN (s.take k):=by
   rw [step (by omega),feed_app,feed_no (a:=[s.getD k 0]) fun c hc=>by rw [List.mem_singleton.1 hc];exact e]
   rfl
  refine loop_end (k+1) ⟨by omega,by omega⟩ (by omega) ?_
  rw [hn]
  (repeat' (first | (refine VS.mk ?_) | exact trivial | exact rfl | refine And.intro ?_ ?_))
 ·have e:s.take k=s:=List.take_of_length_le (by omega)
  rw [e]
  exact end_p (VS.mk (LeD.of_eq rfl))
theorem alive_text:disT [0,9,137,253]=[120,48,58,10,110,111,112,10,98,116,32,120,48,10]:=by kernel_rfl
theorem alive_to:toM ⟨19,0,0,3⟩ 10=20∧ldM ⟨19,0,0,3⟩=true:=⟨by kernel_rfl,by kernel_rfl⟩
theorem alive_line:lineH ⟨3,2,0, -1⟩ 0=[109,111,118,32,35,45,49,44,114,50]:=by kernel_rfl
theorem alive_in:LineIn ⟨3,2,0, -1⟩ 0:=⟨⟨⟨3,[109,111,118],1,57344⟩,by kernel_rfl⟩,by decide,by decide,by decide,by decide⟩
attribute [local irreducible] disT lineH toM ldM unitP feedN linesR symP labD
theorem alive8_meets:Meets Tryz.prog n_pllaw8_alive (SpecP (fun _:Unit=>True) (fun _=>[]) fun _=>.bool true):=by
 refine meets_f tabOk Tryz.func4 rfl (by decide) fun _ _=>?_
 refine ⟨Nat.le_refl _,by simp [Tryz.f4],fun E hE=>?_⟩
 refine vcOk _ ?_
 (all_goals refine qgp ?_<;>(repeat' first | exact trivial | intro hc | refine And.intro ?_ ?_)<;>refine Lf.mk ?_)
 refine call_p to_meets (⟨19,0,0,3⟩,10) (by decide) (VS.mk (LeL.of_eq rfl)) ?_
 dsimp only
 rw [alive_to.1,alive_to.2]
 (all_goals refine qgs ?_<;>(repeat' first | exact trivial | intro hc | refine And.intro ?_ ?_)<;>refine Lf.mk ?_)
 refine md_l ?_
 (all_goals refine qgp ?_<;>(repeat' first | exact trivial | intro hc | refine And.intro ?_ ?_)<;>refine Lf.mk ?_)
 refine call_p dtext_meets [0,9,137,253] (by decide) (VS.mk (LeL.of_eq rfl)) ?_
 rw [alive_text]
 (all_goals refine qgp ?_<;>(repeat' first | exact trivial | intro hc | refine And.intro ?_ ?_)<;>refine Lf.mk ?_)
 ·refine call_p dline_meets (⟨3,2,0, -1⟩,0) alive_in (VS.mk (LeL.of_eq rfl)) ?_
  dsimp only
  rw [alive_line]
  (all_goals refine qgp ?_<;>(repeat' first | exact trivial | intro hc | refine And.intro ?_ ?_)<;>refine Lf.mk ?_)
  all_goals first
   | exact end_p (VS.mk (LeD.tt rfl))
   | exact end_p (VS.mk (LeD.of_eq rfl))
   | exact absurd trivial hc
 ·exact Bool.noConfusion hc
 ·exact absurd trivial hc
 ·exact absurd trivial hc
theorem disturns_meets:Meets Tryz.prog n_pllaw8_DisTurns (SpecP (fun b:List UInt8=>b.length≤1048576) (fun b=>[bytesD b]) fun _=>.bool true):=by
 refine meets_f tabOk Tryz.func3 rfl (by decide) ?_
 rintro b hb
 have hb:b.length≤1048576:=hb
 have hlen:=dis_len hb
 refine ⟨Nat.le_refl _,by simp [Tryz.f3],fun E hE=>?_⟩
 have hR:=dis_r hb
 refine vcOk _ ?_
 (all_goals refine qgp ?_<;>(repeat' first | exact trivial | intro hc | refine And.intro ?_ ?_)<;>refine Lf.mk ?_)
 refine call_p alive8_meets () trivial (VS.mk (LeL.of_eq rfl)) ?_
 (all_goals refine qgp ?_<;>(repeat' first | exact trivial | intro hc | refine And.intro ?_ ?_)<;>refine Lf.mk ?_)
 (any_goals (first | (exfalso;refine Bool.false_ne_true ?_;assumption) | (exfalso;refine Bool.false_ne_true (Eq.symm ?_);assumption) | (exfalso;refine absurd trivial ?_;assumption) | skip))
 refine call_p dtext_meets b hb (VS.mk (LeL.of_eq rfl)) ?_
 dsimp only
 cases hR with
 | long h hp hu=>
  (all_goals refine qgp ?_<;>(repeat' first | exact trivial | intro hc | refine And.intro ?_ ?_)<;>refine Lf.mk ?_)
  refine call_p unit_plain (disT b) hp (VS.mk (LeL.of_eq rfl)) ?_
  rw [hu]
  (all_goals refine qgp ?_<;>(repeat' first | exact trivial | intro hc | refine And.intro ?_ ?_)<;>refine Lf.mk ?_)
  exact end_p (VS.mk (LeD.of_eq rfl))
 | many h hf x hm=>
  (all_goals refine qgp ?_<;>(repeat' first | exact trivial | intro hc | refine And.intro ?_ ?_)<;>refine Lf.mk ?_)
  refine call_p unit_many (disT b,x) hm (VS.mk (LeL.of_eq rfl)) ?_
  dsimp only
  (all_goals refine qgp ?_<;>(repeat' first | exact trivial | intro hc | refine And.intro ?_ ?_)<;>refine Lf.mk ?_)
  refine call_p feeds_meets (disT b) (by omega) (VS.mk (LeL.of_eq rfl)) ?_
  dsimp only
  (all_goals refine qgp ?_<;>(repeat' first | exact trivial | intro hc | refine And.intro ?_ ?_)<;>refine Lf.mk ?_)
  exact end_p (VS.mk (LeD.of_eq rfl))
 | fit h hf hp hu=>
  (all_goals refine qgp ?_<;>(repeat' first | exact trivial | intro hc | refine And.intro ?_ ?_)<;>refine Lf.mk ?_)
  refine call_p unit_plain (disT b) hp (VS.mk (LeL.of_eq rfl)) ?_
  rw [hu]
  (all_goals refine qgp ?_<;>(repeat' first | exact trivial | intro hc | refine And.intro ?_ ?_)<;>refine Lf.mk ?_)
  refine call_p feeds_meets (disT b) (by omega) (VS.mk (LeL.of_eq rfl)) ?_
  dsimp only
  (all_goals refine qgp ?_<;>(repeat' first | exact trivial | intro hc | refine And.intro ?_ ?_)<;>refine Lf.mk ?_)
  ·exact end_p (VS.mk (LeD.of_eq rfl))
  ·exact absurd trivial hc
  ·exact absurd trivial hc
end Go.Proofs.YtfahnaccpncdpaaGreatDoor
namespace Go.Proofs.YtfahnaccpncdpaaGreatDoor
open Go Go.Plat
set_option linter.unusedVariables false
set_option linter.unusedSimpArgs false
set_option maxRecDepth 100000
set_option maxHeartbeats 2000000
attribute [local irreducible] AWP Arith BitS BytesS CallS CatS DrawS EndS IdxS LookS LoopEnd Meets ModeS NilS NormL NormM QuoS RemS ShlS ShrS SideS SplitS bitI
theorem own:ownKnob Tryz.prog.godebug=none:=by kernel_rfl
theorem one_le {H:Type} (d:DataW H):1≤Rows.uptoBulk d:=by
 cases d with
 | lit l=>cases l<;>simp [Rows.uptoBulk]
 | nil=>simp [Rows.uptoBulk]
 | ptr d=>simp [Rows.uptoBulk]
 | slice el sp=>simp [Rows.uptoBulk]
 | agg ps=>simp [Rows.uptoBulk]
 | iface t d=>simp [Rows.uptoBulk]
 | map es=>simp [Rows.uptoBulk]
 | held h=>simp [Rows.uptoBulk]
theorem length_le {H:Type} (l:List (DataW H)):l.length≤Rows.uptoBulkAll l:=by
 induction l with
 | nil=>simp [Rows.uptoBulkAll]
 | cons x r ih=>have:=one_le x;simp only [Rows.uptoBulkAll,List.length_cons];omega
theorem elems_all {H:Type} (d:DataW H):Rows.uptoBulkAll (elems d)≤Rows.uptoBulk d:=by
 cases d<;>simp only [elems,Rows.uptoBulk,Rows.uptoBulkAll]<;>omega
theorem elems_le {H:Type} (d:DataW H):(elems d).length≤Rows.uptoBulk d:=Nat.le_trans (length_le _) (elems_all d)
theorem bound {H:Type} {l:List (DataW H)} (hk:Rows.uptoSmall H l=true):Rows.uptoBulkAll l≤1048576:=of_decide_eq_true hk
end Go.Proofs.YtfahnaccpncdpaaGreatDoor
namespace Go.Plat
open Go
set_option linter.unusedVariables false
set_option linter.unusedSimpArgs false
abbrev GFact (w:World) (F:Nat→Nat→Prop) (g:Nat) (cs:List D):Prop:=RepP w F (.ptr cs) (.pointer (some ⟨g,0,none⟩)) ∧
 (∀ off,¬ F g off)∧(∃ row t z,w.heap[g]?=some (.cells row t z)∧(row.size=cs.length∨cs=[.any])) ∧
 (cs=[.any]→∃ u v,w.cell? ⟨g,0,none⟩=some (.iface u v))
def GOkL (w:World) (F:Nat→Nat→Prop) (l:List (Nat×Nat×List Nat)):Prop:=∀ g cs,findG l g=some cs→GFact w F g cs
theorem gokl_nil {w:World} {F:Nat→Nat→Prop}:GOkL w F []:=fun g cs h=>by cases h
theorem gokl_cons {w:World} {F:Nat→Nat→Prop} {h k:Nat} {ns:List Nat} {r:List (Nat×Nat×List Nat)} (hf:GFact w F h (globD k ns)) (hr:GOkL w F r):GOkL w F ((h,k,ns)::r):=by
 intro g cs hg
 rw [findG] at hg
 cases hb:Nat.beq h g with
 | false=>rw [hb] at hg;exact hr g cs hg
 | true=>
  rw [hb] at hg
  have e:=Nat.eq_of_beq_eq_true hb
  subst e
  cases hg
  exact hf
theorem gfact {P:Program} {w:World} {name:String} {g:Nat} {k:IntKind} {zs:List Int} {ns:List Nat} (hn:P.globalNamed name=some g) (h:Lib.TabIs P w name k zs)
  (hz:zs=ns.map fun n:Nat=>(n:Int)):GFact w F0 g (ns.map fun n=>D.int k (n:Nat)):=by
 have hc:=fun i hi=>h.cell hn i hi
 refine ⟨.ptr _ _ _ (fun j=>.int k (zs.getD j 0)) (fun j c hj=>⟨?_,fun f=>f⟩) (fun j c hj=>?_),fun off f=>f,?_,fun e=>absurd e (fun e=>?_)⟩
 ·have hjl:j < ns.length:=by
   have:=(List.getElem?_eq_some_iff.1 hj).1
   simpa using this
  rw [Nat.zero_add]
  exact hc j (by rw [hz];simpa using hjl)
 ·have hjl:j < ns.length:=by
   have:=(List.getElem?_eq_some_iff.1 hj).1
   simpa using this
  rw [List.getElem?_map,List.getElem?_eq_getElem hjl] at hj
  cases hj
  have:zs.getD j 0=(ns[j]:Int):=by
   rw [hz,List.getD_eq_getElem?_getD,List.getElem?_map,List.getElem?_eq_getElem hjl];rfl
  dsimp only
  rw [this]
  exact .int _ _
 ·unfold Lib.TabIs World.var? at h
  rw [hn] at h
  dsimp only [Option.bind_some] at h
  split at h
  ·rename_i cs t z hh
   cases h
   exact ⟨_,_,_,hh,.inl (by rw [hz];simp)⟩
  ·cases h
 ·match ns,e with
  | [],e=>cases e
  | n::r,e=>cases (List.cons.inj e).1
theorem tab_of_vars {P:Program} {W:World} {name:String} {k:IntKind} {zs:List Int} {rest:List (String×DataW Unit)} {g:Nat} {t e:TypeId} {n:Nat} {ps:List MemPlace} {d:DataW Unit}
  (hg:P.globalNamed name=some g) (hty:(P.globals[g]?).map (·.type)=some t) (ht:P.underlying t=some (.array n e)) (he:P.underlying e=some (.int k)) (hce:P.cellsOf e=1) (hct:P.cellsOf t=n)
  (hd:d=Lib.tabData k zs) (h:DataW.LaidVars P W ((name,d)::rest) ps):Lib.TabIs P W name k zs∧∃ q,DataW.LaidVars P W rest q:=by
 subst hd
 obtain ⟨g',t',cs,fuel,p,q,hg',ht',hvar,hd,hr,_⟩:=h
 obtain rfl:=Option.some.inj (hg.symm.trans hg')
 obtain rfl:=Option.some.inj (hty.symm.trans ht')
 refine ⟨?_,q,hr⟩
 unfold Lib.TabIs
 rw [hvar,← Lib.cells_of_tab ht he hce hct hd]
theorem laid_tail {P:Program} {W:World} {x:String×DataW Unit} {rest:List (String×DataW Unit)} {ps:List MemPlace} (h:DataW.LaidVars P W (x::rest) ps):∃ q,DataW.LaidVars P W rest q:=by
 obtain ⟨g',t',cs,fuel,p,q,hg',ht',hvar,hd,hr,_⟩:=h
 exact ⟨q,hr⟩
def isIf:DataW Unit→Bool
 | .iface _ _=>true
 | _=>false
theorem iface_of_vars {P:Program} {W:World} {name:String} {rest:List (String×DataW Unit)} {g:Nat} {t:TypeId} {ps:List MemPlace} {d:DataW Unit}
  (hg:P.globalNamed name=some g) (hty:(P.globals[g]?).map (·.type)=some t) (ht:((P.underlying t).map fun | .interface _=>true | _=>false)=some true)
  (hd:isIf d=true) (h:DataW.LaidVars P W ((name,d)::rest) ps):GFact W F0 g [.any]∧∃ q,DataW.LaidVars P W rest q:=by
 obtain ⟨g',t',cs,fuel,p,q,hg',ht',hvar,htr,hr,_⟩:=h
 obtain rfl:=Option.some.inj (hg.symm.trans hg')
 obtain rfl:=Option.some.inj (hty.symm.trans ht')
 refine ⟨?_,q,hr⟩
 cases d with
 | iface n x=>
  have hrow:∃ u v,cs.toList=[Value.iface u v]:=by
   cases fuel with
   | zero=>simp [DataW.trod] at htr
   | succ fuel=>
    cases hun:P.underlying t with
    | none=>rw [hun] at ht;cases ht
    | some dd=>
     rw [hun] at ht
     cases dd with
     | interface ms=>
      generalize cs.toList=l at htr
      unfold DataW.trod at htr
      rw [hun] at htr
      match l,htr with
      | [],htr=>cases htr
      | [.nilIface],htr=>cases htr
      | [.iface u v],htr=>exact ⟨u,v,rfl⟩
      | a::b::r,htr=>cases a<;>cases htr
      | [.bool _],htr | [.int _ _],htr | [.float _ _],htr | [.string _],htr | [.pointer _],htr | [.slice _ _ _],htr | [.map _],htr | [.chan _],htr | [.func _ _ _],htr | [.nilFunc],htr | [.agg _],htr | [.tuple _],htr=>cases htr
     | _=>cases ht
  obtain ⟨u,v,hv⟩:=hrow
  have hcs:cs= #[Value.iface u v]:=by
   apply Array.ext'
   rw [hv]
  subst hcs
  unfold World.var? at hvar
  rw [hg] at hvar
  dsimp only [Option.bind_some] at hvar
  split at hvar
  ·rename_i cs t z hh
   cases hvar
   have hcell:W.cell? ⟨g,0,none⟩=some (.iface u v):=by simp only [World.cell?,hh];rfl
   refine ⟨.ptr _ _ _ (fun _=>.iface u v) (fun j c hj=>?_) (fun j c hj=>?_),fun off f=>f,⟨_,_,_,hh,.inl rfl⟩,fun _=>⟨u,v,hcell⟩⟩
   ·cases j with
    | zero=>exact ⟨hcell,fun f=>f⟩
    | succ j=>simp at hj
   ·cases j with
    | zero=>
     simp at hj
     subst hj
     exact .any _
    | succ j=>simp at hj
  ·cases hvar
 | _=>cases hd
end Go.Plat
