/- ReduceKeeps, where what it reads is of the bulk that the row names: the row's statement and its card. The package variables that the row lists read as the program lays them. Printed by card16.py, a program of mine. -/
import Derived.Test.YtmggdbbmmkkplaaGreatDoorMRKeeps5
import Derived.Test.YtmggdbbmmkkplaaGreatDoorCards
import Derived.Test.YtmggdbbmmkkplaaGreatDoorTie
import Derived.WalkKit
import Derived.ProofKit
import Derived.OpenShut
import Derived.Deep.DeepHandedRow
import Derived.Deep.Slices
import Derived.LaidHandle
import Derived.Lib.LaidTab
import Derived.Lib.TrailingZeros
import Derived.ChangeSame
set_option linter.unusedVariables false
set_option linter.unusedSimpArgs false
namespace Go.Proofs.YtmggdbbmmkkplaaGreatDoor
section
open Gw
theorem gaL_nil (M:List Nd) (i:Nat) (way:List Int) (l:List (List Int)):gaL M i [] way l=l:=by simp only [gaL]
theorem gaL_cons (M:List Nd) (i:Nat) (y:PTerm) (r:List PTerm) (way:List Int) (l:List (List Int)):gaL M i (y :: r) way l=gaL M (i + 1) r way (gaT M y (way ++ [(i:Int)]) l):=by simp only [gaL]
theorem each14 {M:List Nd} : ∀ (K:Nat) (x:PTerm) (way:List Int) (l:List (List Int)),depT x ≤ K→way.length + depT x ≤ 100000→rightT x=true→toldB M x=true→l.length < 1000 →
  zda.f K (some M) x way l=some (gaT M x way l,decide ((gaT M x way l).length < 1000))
 | 0,x,_,_,h,_,_,_,_=>by have:=yW x; omega
 | K + 1,x,way,l,h,hw,hr,ht,hl=>by
  have hd:=yQ x
  show zda.g (zda.f K) (some M) x way l=_
  have loop : ∀ (m j:Nat) (l:List (List Int)),j + m=x.sub.length→l.length < 1000→forN (fun i s=>zda.b0 way (zda.f K) (some M) x i s) m (j:Int) l=some (if (gaL M j (x.sub.drop j) way l).length < 1000 then .inl (gaL M j (x.sub.drop j) way l) else .inr (gaL M j (x.sub.drop j) way l,false)):=by
   intro m
   induction m with
   | zero =>
    intro j l hj hl
    rw [List.drop_of_length_le zbB]
    rw [gaL_nil,if_pos hl]; rfl
   | succ m ih =>
    intro j l hj hl
    have hjl:j < x.sub.length:=by omega
    have hdp:depT x.sub[j] ≤ depL x.sub:=yV _ (List.getElem_mem hjl)
    have hb:zda.b0 way (zda.f K) (some M) x (j:Int) l=some (if (gaT M x.sub[j] (way ++ [(j:Int)]) l).length < 1000 then .go (gaT M x.sub[j] (way ++ [(j:Int)]) l) else .ret (gaT M x.sub[j] (way ++ [(j:Int)]) l,false)):=by
     unfold zda.b0
     rw [chk,if_pos zbC,chk,if_pos (by rw [List.length_take,List.length_singleton]; simp; omega),zaI hjl,show way.take (Int.toNat (way.length:Int))=way from List.take_length,each14 K _ _ l zbB (by rw [List.length_append,List.length_singleton]; omega) (yp hr hjl) (told_kid ht hjl) hl,zbF]
     by_cases c:(gaT M x.sub[j] (way ++ [(j:Int)]) l).length < 1000
     ·rw [if_pos c,if_neg (by simpa using c)]
     ·rw [if_neg c,if_pos (by simpa using c)]
    rw [drop_at hjl,gaL_cons]
    simp only [forN,hb,zbF]
    by_cases c:(gaT M x.sub[j] (way ++ [(j:Int)]) l).length < 1000
    ·rw [if_pos c,show ((j:Int) + 1)=((j + 1:Nat):Int) by omega]
     exact ih (j + 1) _ zbB c
    ·rw [if_neg c,gaL_full zbB,if_neg c]
  have fin : ∀ l1:List (List Int),l1.length < 1000→((forN (fun i s=>zda.b0 way (zda.f K) (some M) x i s) ((x.sub.length:Int) - 0).toNat 0 l1).bind (aft fun (s14:List (List Int))=>some (s14,true)))=some (gaL M 0 x.sub way l1,decide ((gaL M 0 x.sub way l1).length < 1000)):=fun l1 h1=>by
   have:=loop x.sub.length 0 l1 zbB h1
   rw [List.drop_zero] at this
   rw [show ((x.sub.length:Int) - 0).toNat=x.sub.length by omega]
   rw [show ((0:Nat):Int)=0 from rfl] at this
   rw [this,zbF]
   by_cases c:(gaL M 0 x.sub way l1).length < 1000
   ·rw [if_pos c,decide_eq_true c]; rfl
   ·rw [if_neg c,decide_eq_false c]; rfl
  unfold zda.g
  rw [fits14 hr (kid_form ht),zbF]
  by_cases c:rowV M x=0
  ·have hg:gaT M x way l=gaL M 0 x.sub way l:=by rw [gaT_eq,if_neg (Nat.not_le.2 hl),if_neg (fun q=>q c)]
   rw [hg,if_pos c,if_neg zbC,zbF,if_neg zbC]
   exact fin l hl
  ·have hg:gaT M x way l=gaL M 0 x.sub way (l ++ [way]):=by rw [gaT_eq,if_neg (Nat.not_le.2 hl),if_pos c]
   rw [hg,if_neg c,if_pos zbC]
   unfold zcZ.f zbP.f
   rw [chk,if_pos (by simp; omega),zbF,chk,if_pos (by simp; omega),zbF]
   have hll:(l ++ [way]).length=l.length + 1:=by rw [List.length_append,List.length_singleton]
   by_cases c2:(l ++ [way]).length < 1000
   ·have d:decide (((l ++ [way]).length:Int) < 1000)=true:=decide_eq_true zbB
    rw [d,if_neg zbC]
    exact fin _ c2
   ·have d:decide (((l ++ [way]).length:Int) < 1000)=false:=decide_eq_false zbB
    rw [d,if_pos zbC,gaL_full (Nat.not_lt.1 c2),decide_eq_false c2]
end
section
open Gw
end
section
open Gw
def j6 (M:List Nd) (x:PTerm):List (List Int) × Int:=if je M x ≠ 0 then ([],je M x) else (gaT M x [] [],0)
theorem Redexes14 {M:List Nd} {K:Nat} {x:PTerm} (hK:300000 ≤ K) (hn:nmT x) (hM:M.Nodup):zdb.f K (some M) x=some (j6 M x):=by
 unfold zdb.f
 rw [begun14 zbB hn hM,zbF]
 by_cases c:je M x=0
 ·obtain ⟨⟨a1,a2,a3⟩,a4⟩ := ahead_ok.1 c
  have hv:j6 M x=(gaT M x [] [],0):=by unfold j6; rw [if_neg (fun q=>q c)]
  rw [hv,if_neg (by simpa using c),chk,if_pos (by simpa using c),each14 K x [] [] zbB (by simp; omega) a3 a4 zbC]; rfl
 ·have hv:j6 M x=([],je M x):=by unfold j6; rw [if_pos c]
  rw [hv,if_pos (by simpa using c)]
end
section
open Gw
mutual
def fiT (M:List Nd):PTerm→List Int→Option (List Int)
 | .mk k n o f s,way=>if rowV M (.mk k n o f s) ≠ 0 then some way else fiL M 0 s way
def fiL (M:List Nd):Nat→List PTerm→List Int→Option (List Int)
 | _,[],_=>none
 | i,y :: r,way=>match fiT M y (way ++ [(i:Int)]) with
  | some w=>some w
  | none=>fiL M (i + 1) r way
end
mutual
theorem gaT_head (M:List Nd) : ∀ (x:PTerm) (way a:List Int) (l:List (List Int)),(gaT M x way (a :: l)).head? = some a
 | .mk k n o f s,way,a,l=>by
  simp only [gaT]
  split
  ·rfl
  ·split
   ·exact ga_head M s 0 way a (l ++ [way])
   ·exact ga_head M s 0 way a l
theorem ga_head (M:List Nd) : ∀ (r:List PTerm) (i:Nat) (way a:List Int) (l:List (List Int)),(gaL M i r way (a :: l)).head? = some a
 | [],i,way,a,l=>by rw [gaL_nil]; rfl
 | y :: r,i,way,a,l=>by
  have h:=gaT_head M y (way ++ [(i:Int)]) a l
  rw [gaL_cons]
  cases q:gaT M y (way ++ [(i:Int)]) (a :: l) with
  | nil=>rw [q] at h; cases h
  | cons b l'=>rw [q] at h; cases h; exact ga_head M r (i + 1) way a l'
end
mutual
theorem fi_ga (M:List Nd) : ∀ (x:PTerm) (way:List Int),(gaT M x way []).head? = fiT M x way
 | .mk k n o f s,way=>by
  have h:=gaL_fi M s 0 way
  simp only [gaT,fiT]
  rw [if_neg zbC]
  by_cases c:rowV M (.mk k n o f s) ≠ 0
  ·rw [if_pos c,if_pos c]; exact ga_head M s 0 way way [] 
  ·rw [if_neg c,if_neg c]; exact h
theorem gaL_fi (M:List Nd) : ∀ (r:List PTerm) (i:Nat) (way:List Int),(gaL M i r way []).head? = fiL M i r way
 | [],i,way=>by simp only [gaL,fiL]; rfl
 | y :: r,i,way=>by
  have h:=fi_ga M y (way ++ [(i:Int)])
  rw [gaL_cons,fiL]
  cases q:gaT M y (way ++ [(i:Int)]) [] with
  | nil=>rw [q] at h; rw [← h]; exact gaL_fi M r (i + 1) way
  | cons a l=>rw [q] at h; rw [← h]; exact ga_head M r (i + 1) way a l
end
end
section
open Gw
theorem fiL_cons (M:List Nd) (i:Nat) (y:PTerm) (r:List PTerm) (way:List Int):fiL M i (y :: r) way=(fiT M y (way ++ [(i:Int)])).or (fiL M (i + 1) r way):=by
 rw [fiL]; cases fiT M y (way ++ [(i:Int)]) <;> rfl
end
section
open Gw
end
section
open Gw
theorem told_z (M:List Nd):toldB M PTerm.z=true:=by rw [toldB_eq]; rfl
theorem told_any {M:List Nd} {x:PTerm} (h:toldB M x=true) (i:Int):toldB M (kid x i)=true:=by
 unfold kid at_
 rw [List.getD_eq_getElem?_getD]
 by_cases c:i.toNat < x.sub.length
 ·rw [List.getElem?_eq_getElem c]; exact told_kid h c
 ·rw [List.getElem?_eq_none zbB]; exact told_z M
theorem bes_form {M:List Nd} (hw:Wf M) {p:PTerm} (hp:toldB M p=true) {k f:Int} (hf:f=3∨f=4∨f=5) (h:besV M p k f=2):inb (nd M p.form).l M.length=true∧inb (nd M p.form).r M.length=true:=by
 obtain ⟨h1,h2,h3⟩ := zaw h
 have hi:=told_form hp h1
 rw [← h3] at hf
 exact ⟨hw.left hi hf,hw.right hi hf⟩
theorem done_ok {M:List Nd} {x:PTerm} {w:List Int} (h:(uy M x w).2=0):(doV M x w).2=0∧xL (doV M x w).1=0∧uy M x w=((doV M x w).1,0):=by
 unfold uy at h ⊢
 by_cases c:(doV M x w).2=0
 ·rw [if_neg (fun q=>q c)] at h ⊢
  by_cases k:xL (doV M x w).1=0
  ·rw [if_neg (fun q=>q k)]; exact ⟨c,k,rfl⟩
  ·rw [if_pos k] at h; exact absurd h zbA
 ·rw [if_pos c] at h; exact absurd h c
theorem nm_done {M:List Nd} {x:PTerm} {w:List Int} (hn:nmT x) (h:(uy M x w).2=0):nmT (uy M x w).1:=by
 obtain ⟨h1,h2,h3⟩ := done_ok h
 rw [h3]; exact nm_do w x hn
end
section
open Gw
abbrev Env:=ByteArray→Option Int
def Env.up (Γ:Env) (b:ByteArray) (c:Int):Env:=fun z=>if b=z then some c else Γ z
inductive Ty (M:List Nd):Env→PTerm→Bool→Int→Prop
 | var {Γ:Env} {nm ot:ByteArray} {fm f:Int} {s:List PTerm}:Γ nm=some f→Ty M Γ (.mk 1 nm ot fm s) false f
 | app {Γ:Env} {nm ot:ByteArray} {fm f:Int} {p q:PTerm}:Ty M Γ p false f→(nd M f).kind=5→Ty M Γ q true (nd M f).l→Ty M Γ (.mk 3 nm ot fm [p,q]) false (nd M f).r
 | fst {Γ:Env} {nm ot:ByteArray} {fm f:Int} {p:PTerm}:Ty M Γ p false f→(nd M f).kind=3→Ty M Γ (.mk 5 nm ot fm [p]) false (nd M f).l
 | snd {Γ:Env} {nm ot:ByteArray} {fm f:Int} {p:PTerm}:Ty M Γ p false f→(nd M f).kind=3→Ty M Γ (.mk 6 nm ot fm [p]) false (nd M f).r
 | the {Γ:Env} {nm ot:ByteArray} {fm:Int} {p:PTerm}:inb fm M.length=true→Ty M Γ p true fm→Ty M Γ (.mk 11 nm ot fm [p]) false fm
 | let_ {Γ:Env} {nm ot:ByteArray} {fm f g:Int} {p q:PTerm} {c:Bool}:Ty M Γ p false f→Ty M (Γ.up nm f) q c g→Ty M Γ (.mk 12 nm ot fm [p,q]) c g
 | case_ {Γ:Env} {nm ot:ByteArray} {fm f g:Int} {p q u:PTerm} {c:Bool}:Ty M Γ p false f→(nd M f).kind=4→Ty M (Γ.up nm (nd M f).l) q c g→Ty M (Γ.up ot (nd M f).r) u c g→Ty M Γ (.mk 9 nm ot fm [p,q,u]) c g
 | lam {Γ:Env} {nm ot:ByteArray} {fm f:Int} {p:PTerm}:(nd M f).kind=5→Ty M (Γ.up nm (nd M f).l) p true (nd M f).r→Ty M Γ (.mk 2 nm ot fm [p]) true f
 | pair {Γ:Env} {nm ot:ByteArray} {fm f:Int} {p q:PTerm}:(nd M f).kind=3→Ty M Γ p true (nd M f).l→Ty M Γ q true (nd M f).r→Ty M Γ (.mk 4 nm ot fm [p,q]) true f
 | inl {Γ:Env} {nm ot:ByteArray} {fm f:Int} {p:PTerm}:(nd M f).kind=4→Ty M Γ p true (nd M f).l→Ty M Γ (.mk 7 nm ot fm [p]) true f
 | inr {Γ:Env} {nm ot:ByteArray} {fm f:Int} {p:PTerm}:(nd M f).kind=4→Ty M Γ p true (nd M f).r→Ty M Γ (.mk 8 nm ot fm [p]) true f
 | abort {Γ:Env} {nm ot:ByteArray} {fm f g:Int} {p:PTerm}:Ty M Γ p false g→(nd M g).kind=2→Ty M Γ (.mk 10 nm ot fm [p]) true f
 | flip {Γ:Env} {x:PTerm} {f:Int}:Ty M Γ x false f→Ty M Γ x true f
theorem Env.up_same {Γ Γ':Env} {b:ByteArray} {c:Int} {P:ByteArray→Prop} (h : ∀ z,b ≠ z→P z→Γ z=Γ' z) : ∀ z,P z→Γ.up b c z=Γ'.up b c z:=fun z hz=>by
 unfold Env.up
 by_cases e:b=z
 ·rw [if_pos e,if_pos e]
 ·rw [if_neg e,if_neg e]; exact h z e hz
theorem free_1 {k:Int} {nm ot:ByteArray} {fm:Int} {p:PTerm} {z:ByteArray} (hk:k ≠ 1) (hb:xu k nm ot 0 ≠ z) (h:xF z p):xF z (.mk k nm ot fm [p]) :=
 (zah _ _).2 (.inr ⟨hk,0,by simp [PTerm.sub],hb,h⟩)
theorem free_2a {k:Int} {nm ot:ByteArray} {fm:Int} {p q:PTerm} {z:ByteArray} (hk:k ≠ 1) (hb:xu k nm ot 0 ≠ z) (h:xF z p):xF z (.mk k nm ot fm [p,q]) :=
 (zah _ _).2 (.inr ⟨hk,0,by simp [PTerm.sub],hb,h⟩)
theorem free_2b {k:Int} {nm ot:ByteArray} {fm:Int} {p q:PTerm} {z:ByteArray} (hk:k ≠ 1) (hb:xu k nm ot 1 ≠ z) (h:xF z q):xF z (.mk k nm ot fm [p,q]) :=
 (zah _ _).2 (.inr ⟨hk,1,by simp [PTerm.sub],hb,h⟩)
theorem free_3a {k:Int} {nm ot:ByteArray} {fm:Int} {p q u:PTerm} {z:ByteArray} (hk:k ≠ 1) (hb:xu k nm ot 0 ≠ z) (h:xF z p):xF z (.mk k nm ot fm [p,q,u]) :=
 (zah _ _).2 (.inr ⟨hk,0,by simp [PTerm.sub],hb,h⟩)
theorem free_3b {k:Int} {nm ot:ByteArray} {fm:Int} {p q u:PTerm} {z:ByteArray} (hk:k ≠ 1) (hb:xu k nm ot 1 ≠ z) (h:xF z q):xF z (.mk k nm ot fm [p,q,u]) :=
 (zah _ _).2 (.inr ⟨hk,1,by simp [PTerm.sub],hb,h⟩)
theorem free_3c {k:Int} {nm ot:ByteArray} {fm:Int} {p q u:PTerm} {z:ByteArray} (hk:k ≠ 1) (hb:xu k nm ot 2 ≠ z) (h:xF z u):xF z (.mk k nm ot fm [p,q,u]) :=
 (zah _ _).2 (.inr ⟨hk,2,by simp [PTerm.sub],hb,h⟩)
theorem uU {k:Int} {nm ot:ByteArray} {fm:Int} {p:PTerm} (h:rightT (.mk k nm ot fm [p])=true):rightT p=true:=yp h (i:=0) (by simp [PTerm.sub])
theorem right_2 {k:Int} {nm ot:ByteArray} {fm:Int} {p q:PTerm} (h:rightT (.mk k nm ot fm [p,q])=true):rightT p=true∧rightT q=true:=⟨yp h (i:=0) (by simp [PTerm.sub]),yp h (i:=1) (by simp [PTerm.sub])⟩
theorem right_3 {k:Int} {nm ot:ByteArray} {fm:Int} {p q u:PTerm} (h:rightT (.mk k nm ot fm [p,q,u])=true):rightT p=true∧rightT q=true∧rightT u=true:=⟨yp h (i:=0) (by simp [PTerm.sub]),yp h (i:=1) (by simp [PTerm.sub]),yp h (i:=2) (by simp [PTerm.sub])⟩
theorem jH {x:PTerm} (h:rightT x=true) {z:ByteArray} (hz:xF z x):(⟨#[]⟩ : ByteArray) ≠ z:=fun e=>jK (free_word _ x (Nat.le_refl _) h z hz) e.symm
theorem Ty.congr {M:List Nd} {Γ:Env} {x:PTerm} {c:Bool} {f:Int} (h:Ty M Γ x c f):rightT x=true → ∀ {Γ':Env},(∀ z,xF z x→Γ z=Γ' z)→Ty M Γ' x c f:=by
 have b2 : ∀ a b,xu 2 a b 0=a:=fun a b=>by simp [xu]
 have b12 : ∀ a b,xu 12 a b 0=⟨#[]⟩ ∧ xu 12 a b 1=a:=fun a b=>by simp [xu]
 have b9 : ∀ a b,xu 9 a b 0=⟨#[]⟩ ∧ xu 9 a b 1=a∧xu 9 a b 2=b:=fun a b=>by simp [xu]
 induction h with
 | var e=>intro _ Γ' h; exact .var ((h _ ((zah _ _).2 (.inl ⟨rfl,rfl⟩))).symm.trans e)
 | app _ k _ ih1 ih2=>intro hr Γ' h; have r:=right_2 hr; exact .app (ih1 r.1 fun z hz=>h z (free_2a zbA (by simpa [xu] using jH r.1 hz) hz)) k (ih2 r.2 fun z hz=>h z (free_2b zbA (by simpa [xu] using jH r.2 hz) hz))
 | fst _ k ih=>intro hr Γ' h; have r:=uU hr; exact .fst (ih r fun z hz=>h z (free_1 zbA (by simpa [xu] using jH r hz) hz)) k
 | snd _ k ih=>intro hr Γ' h; have r:=uU hr; exact .snd (ih r fun z hz=>h z (free_1 zbA (by simpa [xu] using jH r hz) hz)) k
 | the k _ ih=>intro hr Γ' h; have r:=uU hr; exact .the k (ih r fun z hz=>h z (free_1 zbA (by simpa [xu] using jH r hz) hz))
 | let_ _ _ ih1 ih2 =>
  intro hr Γ' h; have r:=right_2 hr
  exact .let_ (ih1 r.1 fun z hz=>h z (free_2a zbA (by rw [(b12 _ _).1]; exact jH r.1 hz) hz)) (ih2 r.2 fun z hz=>Env.up_same (P:=fun z=>xF z _) (fun z e hz=>h z (free_2b zbA (by rw [(b12 _ _).2]; exact e) hz)) z hz)
 | case_ _ k _ _ ih1 ih2 ih3 =>
  intro hr Γ' h; have r:=right_3 hr
  exact .case_ (ih1 r.1 fun z hz=>h z (free_3a zbA (by rw [(b9 _ _).1]; exact jH r.1 hz) hz)) k (ih2 r.2.1 fun z hz=>Env.up_same (P:=fun z=>xF z _) (fun z e hz=>h z (free_3b zbA (by rw [(b9 _ _).2.1]; exact e) hz)) z hz) (ih3 r.2.2 fun z hz=>Env.up_same (P:=fun z=>xF z _) (fun z e hz=>h z (free_3c zbA (by rw [(b9 _ _).2.2]; exact e) hz)) z hz)
 | lam k _ ih =>
  intro hr Γ' h; have r:=uU hr
  exact .lam k (ih r fun z hz=>Env.up_same (P:=fun z=>xF z _) (fun z e hz=>h z (free_1 zbA (by rw [b2]; exact e) hz)) z hz)
 | pair k _ _ ih1 ih2=>intro hr Γ' h; have r:=right_2 hr; exact .pair k (ih1 r.1 fun z hz=>h z (free_2a zbA (by simpa [xu] using jH r.1 hz) hz)) (ih2 r.2 fun z hz=>h z (free_2b zbA (by simpa [xu] using jH r.2 hz) hz))
 | inl k _ ih=>intro hr Γ' h; have r:=uU hr; exact .inl k (ih r fun z hz=>h z (free_1 zbA (by simpa [xu] using jH r hz) hz))
 | inr k _ ih=>intro hr Γ' h; have r:=uU hr; exact .inr k (ih r fun z hz=>h z (free_1 zbA (by simpa [xu] using jH r hz) hz))
 | abort _ k ih=>intro hr Γ' h; have r:=uU hr; exact .abort (ih r fun z hz=>h z (free_1 zbA (by simpa [xu] using jH r hz) hz)) k
 | flip _ ih=>intro hr Γ' h; exact .flip (ih hr h)
def Env.upB (Γ:Env) (b:ByteArray) (c:Int):Env:=if b=⟨#[]⟩ then Γ else Γ.up b c
theorem Env.upB_ne {Γ:Env} {b:ByteArray} {c:Int} (h:b ≠ ⟨#[]⟩):Γ.upB b c=Γ.up b c:=if_neg h
theorem Env.upB_0 {Γ:Env} {c:Int}:Γ.upB ⟨#[]⟩ c=Γ:=if_pos rfl
theorem Ty.ofVar {M:List Nd} {Γ:Env} {w:ByteArray} {c:Int} (h:Γ w=some c):Ty M Γ (varT w) false c := .var h
theorem Ty.part {M:List Nd} {d:Nat} (IH : ∀ {x:PTerm},depT x ≤ d→rightT x=true → ∀ {Γ:Env} {n:ByteArray} {y:PTerm} {a f:Int} {c:Bool},isWord n→rightT y=true→sizeT x + sizeT y + 4 < 9223372036854775808→Ty M (Γ.up n a) x c f→Ty M Γ y false a→Ty M Γ (putT x n y) c f)
  {x:PTerm} (hr:rightT x=true) (hk:x.kind ≠ 1) {Γ:Env} {n:ByteArray} {y:PTerm} {a:Int} (hn:isWord n) (hy:rightT y=true) (hb:sizeT x + sizeT y + 4 < 9223372036854775808) (hty:Ty M Γ y false a)
  {j:Nat} (hj:j < x.sub.length) (hp:depT x.sub[j] ≤ d) {c0:Int} {c:Bool} {g:Int} (h:Ty M ((Γ.up n a).upB (xc x j) c0) x.sub[j] c g):Ty M (Γ.upB (xu x.kind (nmC x n y) (otC x n y) j) c0) (putC putT x n y j x.sub[j]) c g:=by
 have hs:=yI x
 have hne:=jK hn
 have hsp:sizeT x.sub[j] ≤ sizeL x.sub:=vO (List.getElem_mem hj)
 have hrp:=yp hr hj
 have hbw:=bind_word hr j
 rw [bind_put hr hk n y hj]
 generalize x.sub[j]=p at *
 generalize hB:xc x j=b at *
 by_cases c1:b=n∨¬ xF n p
 ·have hren:¬ renC x n y j p:=fun q=>c1.elim (hB ▸ q.1.1) (fun r=>r q.1.2)
  rw [if_neg hren,putC,if_pos (hB ▸ c1)]
  refine h.congr hrp fun z hz=>?_
  rcases hbw with hb0 | hbw
  ·subst hb0
   rw [Env.upB_0,Env.upB_0]
   have:n ≠ z:=by rintro rfl; exact c1.elim (fun q=>hne q.symm) (fun q=>q hz)
   unfold Env.up; rw [if_neg this]
  ·rw [Env.upB_ne (jK hbw),Env.upB_ne (jK hbw)]
   unfold Env.up
   by_cases e:b=z
   ·rw [if_pos e,if_pos e]
   ·rw [if_neg e,if_neg e,if_neg]
    rintro rfl
    exact c1.elim e (fun q=>q hz)
 have c1':b ≠ n∧xF n p:=⟨fun q=>c1 (.inl q),Classical.byContradiction fun q=>c1 (.inr q)⟩
 by_cases c3:b ≠ ⟨#[]⟩ ∧ xF b y
 ·have hren:renC x n y j p:=by unfold renC; rw [hB]; exact ⟨c1',c3⟩
  have hns:¬ (xc x j=n∨¬ xF n p):=by rw [hB]; exact c1
  have hp3:xc x j ≠ ⟨#[]⟩ ∧ xF (xc x j) y:=by rw [hB]; exact c3
  rw [if_pos hren,putC,if_neg hns,if_pos hp3,hB]
  obtain ⟨f1,f2,f3⟩ := fresh_ok (p:=p) (y:=y) (n:=n) zbB
  have hww:isWord (xO p y n):=uj _ _ _
  generalize xO p y n=w at *
  have hbw':=hbw.resolve_left c3.1
  rw [Env.upB_ne c3.1] at h
  rw [Env.upB_ne (jK hww)]
  have hw1:sizeT (varT w)=1:=rfl
  have hsr:=size_ren p b w
  have q1:Ty M ((Γ.up n a).up w c0) (putT p b (varT w)) c g:=by
   refine IH hp hrp (a:=c0) hbw' (jT hww) zbB (h.congr hrp fun z hz=>?_) (.ofVar (by unfold Env.up; rw [if_pos rfl]))
   have hzw:w ≠ z:=by rintro rfl; exact f1 hz
   unfold Env.up
   by_cases e:b=z
   ·rw [if_pos e,if_pos e]
   ·rw [if_neg e,if_neg e,if_neg hzw]
  have hq:rightT (putT p b (varT w))=true:=kM d p hp hrp _ _ (jT hww)
  refine IH (Nat.le_trans (dep_ren _ _ _) hp) hq (a:=a) hn hy zbB (q1.congr hq fun z _=>?_) (hty.congr hy fun z hz=>?_)
  ·unfold Env.up
   by_cases e:w=z
   ·rw [if_pos e,if_pos e,if_neg]; rintro rfl; exact f3 e
   ·rw [if_neg e,if_neg e]
  ·have hzw:w ≠ z:=by rintro rfl; exact f2 hz
   unfold Env.up; rw [if_neg hzw]
 ·have hren:¬ renC x n y j p:=fun q=>c3 (by have:=q.2; rw [hB] at this; exact this)
  have hns:¬ (xc x j=n∨¬ xF n p):=by rw [hB]; exact c1
  have hp3:¬ (xc x j ≠ ⟨#[]⟩ ∧ xF (xc x j) y):=by rw [hB]; exact c3
  rw [if_neg hren,putC,if_neg hns,if_neg hp3]
  refine IH hp hrp (a:=a) hn hy zbB (h.congr hrp fun z _=>?_) (hty.congr hy fun z hz=>?_)
  ·by_cases hb0:b=⟨#[]⟩
   ·subst hb0; rw [Env.upB_0,Env.upB_0]
   ·rw [Env.upB_ne hb0,Env.upB_ne hb0]
    unfold Env.up
    by_cases e:b=z
    ·rw [if_pos e,if_pos e,if_neg]; rintro rfl; exact c1'.1 e
    ·rw [if_neg e,if_neg e]
  ·by_cases hb0:b=⟨#[]⟩
   ·subst hb0; rw [Env.upB_0]
   ·rw [Env.upB_ne hb0]
    have hzw:b ≠ z:=by rintro rfl; exact c3 ⟨hb0,hz⟩
    unfold Env.up; rw [if_neg hzw]
theorem Ty.put {M:List Nd} : ∀ (d:Nat) {x:PTerm},depT x ≤ d→rightT x=true → ∀ {Γ:Env} {n:ByteArray} {y:PTerm} {a f:Int} {c:Bool},isWord n→rightT y=true→sizeT x + sizeT y + 4 < 9223372036854775808→Ty M (Γ.up n a) x c f→Ty M Γ y false a→Ty M Γ (putT x n y) c f
 | 0,x,h,_,_,_,_,_,_,_,_,_,_,_,_=>by have:=yW x; omega
 | d + 1,x,h,hr,Γ,n,y,a,f,c,hn,hy,hb,ht,hty=>by
  have hd:=yQ x
  have part:=fun (hk:x.kind ≠ 1) (j:Nat) (hj:j < x.sub.length)=>@Ty.part M d (fun {x}=>Ty.put d) x hr hk Γ n y a hn hy hb hty j hj (by have:=yV _ (List.getElem_mem hj); omega)
  have hnm : ∀ (k:x.kind=2∨x.kind=9∨x.kind=12),nmC x n y ≠ ⟨#[]⟩ := fun k=>by
   by_cases q:(x.kind=2∨x.kind=12∨x.kind=9)∧renC x n y (if x.kind=2 then 0 else 1) (x.sub.getD (if x.kind=2 then 0 else 1) PTerm.z)
   ·rw [nmC_pos q]; exact jK (uj _ _ _)
   ·rw [nmC_neg q]; exact jK ((xY hr).nm zbB)
  have hot : ∀ (k:x.kind=9),otC x n y ≠ ⟨#[]⟩ := fun k=>by
   unfold otC
   split
   ·exact jK (uj _ _ _)
   ·exact jK ((xY hr).ot k)
  have hnm0 : ∀ (k:x.kind=2∨x.kind=9∨x.kind=12),x.name ≠ ⟨#[]⟩ := fun k=>jK ((xY hr).nm zbB)
  have hot0 : ∀ (k:x.kind=9),x.other ≠ ⟨#[]⟩ := fun k=>jK ((xY hr).ot k)
  -- a part under no name,under the first one,under the other one
  have p0 : ∀ (hk:x.kind ≠ 1) (j:Nat) (hj:j < x.sub.length),(∀ a b,xu x.kind a b j=⟨#[]⟩) → ∀ {c g},Ty M (Γ.up n a) x.sub[j] c g→Ty M Γ (putC putT x n y j x.sub[j]) c g:=fun hk j hj e c g h=>by
   have:=part hk j hj (c0:=0) (c:=c) (g:=g) (by unfold xc; rw [e,Env.upB_0]; exact h)
   rwa [e,Env.upB_0] at this
  have p1 : ∀ (hk:x.kind=2∨x.kind=9∨x.kind=12) (j:Nat) (hj:j < x.sub.length),(∀ a b,xu x.kind a b j=a) → ∀ {c0 c g},Ty M ((Γ.up n a).up x.name c0) x.sub[j] c g→Ty M (Γ.up (nmC x n y) c0) (putC putT x n y j x.sub[j]) c g:=fun hk j hj e c0 c g h=>by
   have:=part zbB j hj (c0:=c0) (c:=c) (g:=g) (by unfold xc; rw [e,Env.upB_ne (hnm0 hk)]; exact h)
   rwa [e,Env.upB_ne (hnm hk)] at this
  have p2 : ∀ (hk:x.kind=9) (j:Nat) (hj:j < x.sub.length),(∀ a b,xu x.kind a b j=b) → ∀ {c0 c g},Ty M ((Γ.up n a).up x.other c0) x.sub[j] c g→Ty M (Γ.up (otC x n y) c0) (putC putT x n y j x.sub[j]) c g:=fun hk j hj e c0 c g h=>by
   have:=part zbB j hj (c0:=c0) (c:=c) (g:=g) (by unfold xc; rw [e,Env.upB_ne (hot0 hk)]; exact h)
   rwa [e,Env.upB_ne (hot hk)] at this
  clear part
  have both : ∀ {c f},Ty M (Γ.up n a) x c f→(c=true → ∀ f,Ty M (Γ.up n a) x false f→Ty M Γ (putT x n y) false f)→Ty M Γ (putT x n y) c f:=by
   intro c f ht hfl
   cases ht with
   | var e =>
    rw [put_var n y rfl]
    show Ty M Γ (if _=n then y else _) false _
    unfold Env.up at e
    split
    ·rename_i q
     simp only [PTerm.name] at q
     subst q
     rw [if_pos rfl] at e; cases e; exact hty
    ·rename_i q
     simp only [PTerm.name] at q
     rw [if_neg (Ne.symm q)] at e
     exact .var e
   | app h1 k h2 =>
    rw [vz n y (by simp [PTerm.kind])]
    exact .app (p0 (by simp [PTerm.kind]) 0 (by simp [PTerm.sub]) (by simp [xu,PTerm.kind]) h1) k (p0 (by simp [PTerm.kind]) 1 (by simp [PTerm.sub]) (by simp [xu,PTerm.kind]) h2)
   | fst h1 k =>
    rw [vz n y (by simp [PTerm.kind])]
    exact .fst (p0 (by simp [PTerm.kind]) 0 (by simp [PTerm.sub]) (by simp [xu,PTerm.kind]) h1) k
   | snd h1 k =>
    rw [vz n y (by simp [PTerm.kind])]
    exact .snd (p0 (by simp [PTerm.kind]) 0 (by simp [PTerm.sub]) (by simp [xu,PTerm.kind]) h1) k
   | the k h1 =>
    rw [vz n y (by simp [PTerm.kind])]
    exact .the k (p0 (by simp [PTerm.kind]) 0 (by simp [PTerm.sub]) (by simp [xu,PTerm.kind]) h1)
   | let_ h1 h2 =>
    rw [vz n y (by simp [PTerm.kind])]
    exact .let_ (p0 (by simp [PTerm.kind]) 0 (by simp [PTerm.sub]) (by simp [xu,PTerm.kind]) h1) (p1 (by simp [PTerm.kind]) 1 (by simp [PTerm.sub]) (by simp [xu,PTerm.kind]) h2)
   | case_ h1 k h2 h3 =>
    rw [vz n y (by simp [PTerm.kind])]
    exact .case_ (p0 (by simp [PTerm.kind]) 0 (by simp [PTerm.sub]) (by simp [xu,PTerm.kind]) h1) k (p1 (by simp [PTerm.kind]) 1 (by simp [PTerm.sub]) (by simp [xu,PTerm.kind]) h2) (p2 (by simp [PTerm.kind]) 2 (by simp [PTerm.sub]) (by simp [xu,PTerm.kind]) h3)
   | lam k h1 =>
    rw [vz n y (by simp [PTerm.kind])]
    exact .lam k (p1 (by simp [PTerm.kind]) 0 (by simp [PTerm.sub]) (by simp [xu,PTerm.kind]) h1)
   | pair k h1 h2 =>
    rw [vz n y (by simp [PTerm.kind])]
    exact .pair k (p0 (by simp [PTerm.kind]) 0 (by simp [PTerm.sub]) (by simp [xu,PTerm.kind]) h1) (p0 (by simp [PTerm.kind]) 1 (by simp [PTerm.sub]) (by simp [xu,PTerm.kind]) h2)
   | inl k h1 =>
    rw [vz n y (by simp [PTerm.kind])]
    exact .inl k (p0 (by simp [PTerm.kind]) 0 (by simp [PTerm.sub]) (by simp [xu,PTerm.kind]) h1)
   | inr k h1 =>
    rw [vz n y (by simp [PTerm.kind])]
    exact .inr k (p0 (by simp [PTerm.kind]) 0 (by simp [PTerm.sub]) (by simp [xu,PTerm.kind]) h1)
   | abort h1 k =>
    rw [vz n y (by simp [PTerm.kind])]
    exact .abort (p0 (by simp [PTerm.kind]) 0 (by simp [PTerm.sub]) (by simp [xu,PTerm.kind]) h1) k
   | flip h1=>exact .flip (hfl rfl _ h1)
  exact both ht fun _ f h=>both h fun q=>by cases q
end
section
open Gw
def zav (s:Sc):Env:=fun z=>(s.find? (fun q=>decide (q.1=z))).map (·.2)
theorem vR (nm:ByteArray) (f:Int) (s:Sc):zav ((nm,f) :: s)=(zav s).up nm f:=by
 funext z
 unfold zav Env.up
 rw [List.find?_cons]
 by_cases e:nm=z <;> simp [e]
section
variable {M:List Nd} {P:Int→Sc→Option Int→TR} {s:Sc} {x:PTerm} {id:Int}
theorem told_1 (k:x.kind=1):yg M P s x=(match s.find? (fun q=>decide (q.1=x.name)) with | some q => .ok q.2 | none => .no 131 []):=by
 unfold yg
 exact if_pos k
theorem told_3 (k:x.kind=3):yg M P s x=(P 0 s none).bind fun f=>ofK M f 5 fun n=>(P 1 s (some n.l)).bind fun _ => .ok n.r:=by
 unfold yg
 rw [if_neg zbB,if_pos k]
theorem told_5 (k:x.kind=5):yg M P s x=(P 0 s none).bind fun f=>ofK M f 3 fun n => .ok n.l:=by
 unfold yg
 rw [if_neg zbB,if_neg zbB,if_pos k]
theorem told_6 (k:x.kind=6):yg M P s x=(P 0 s none).bind fun f=>ofK M f 3 fun n => .ok n.r:=by
 unfold yg
 rw [if_neg zbB,if_neg zbB,if_neg zbB,if_pos k]
theorem told_11 (k:x.kind=11):yg M P s x=(if inb x.form M.length then (P 0 s (some x.form)).bind fun _ => .ok x.form else .no 31 []):=by
 unfold yg
 rw [if_neg zbB,if_neg zbB,if_neg zbB,if_neg zbB,if_pos k]
theorem told_12 (k:x.kind=12):yg M P s x=(P 0 s none).bind fun f=>P 1 ((x.name,f) :: s) none:=by
 unfold yg
 rw [if_neg zbB,if_neg zbB,if_neg zbB,if_neg zbB,if_neg zbB,if_pos k]
theorem told_9 (k:x.kind=9):yg M P s x=(P 0 s none).bind fun f=>ofK M f 4 fun n=>(P 1 ((x.name,n.l) :: s) none).bind fun a=>(P 2 ((x.other,n.r) :: s) none).bind fun b=>if a=b then .ok a else .no 130 []:=by
 unfold yg
 rw [if_neg zbB,if_neg zbB,if_neg zbB,if_neg zbB,if_neg zbB,if_neg zbB,if_pos k]
theorem told_else (k1:x.kind ≠ 1) (k3:x.kind ≠ 3) (k5:x.kind ≠ 5) (k6:x.kind ≠ 6) (k11:x.kind ≠ 11) (k12:x.kind ≠ 12) (k9:x.kind ≠ 9):yg M P s x = .no 132 []:=by
 unfold yg
 rw [if_neg k1,if_neg k3,if_neg k5,if_neg k6,if_neg k11,if_neg k12,if_neg k9]
theorem chkd_2 (k:x.kind=2):yD M P s x id=ofK M id 5 fun n=>P 0 ((x.name,n.l) :: s) (some n.r):=by
 unfold yD
 rw [if_pos k]
theorem chkd_4 (k:x.kind=4):yD M P s x id=ofK M id 3 fun n=>(P 0 s (some n.l)).bind fun _=>P 1 s (some n.r):=by
 unfold yD
 rw [if_neg zbB,if_pos k]
theorem chkd_7 (k:x.kind=7):yD M P s x id=ofK M id 4 fun n=>P 0 s (some n.l):=by
 unfold yD
 rw [if_neg zbB,if_neg zbB,if_pos k]
theorem chkd_8 (k:x.kind=8):yD M P s x id=ofK M id 4 fun n=>P 0 s (some n.r):=by
 unfold yD
 rw [if_neg zbB,if_neg zbB,if_neg zbB,if_pos k]
theorem chkd_9 (k:x.kind=9):yD M P s x id=(P 0 s none).bind fun f=>ofK M f 4 fun n=>(P 1 ((x.name,n.l) :: s) (some id)).bind fun _=>P 2 ((x.other,n.r) :: s) (some id):=by
 unfold yD
 rw [if_neg zbB,if_neg zbB,if_neg zbB,if_neg zbB,if_pos k]
theorem chkd_10 (k:x.kind=10):yD M P s x id=(P 0 s none).bind fun f=>ofK M f 2 fun _ => .ok id:=by
 unfold yD
 rw [if_neg zbB,if_neg zbB,if_neg zbB,if_neg zbB,if_neg zbB,if_pos k]
theorem chkd_12 (k:x.kind=12):yD M P s x id=(P 0 s none).bind fun f=>P 1 ((x.name,f) :: s) (some id):=by
 unfold yD
 rw [if_neg zbB,if_neg zbB,if_neg zbB,if_neg zbB,if_neg zbB,if_neg zbB,if_pos k]
theorem chkd_else (k2:x.kind ≠ 2) (k4:x.kind ≠ 4) (k7:x.kind ≠ 7) (k8:x.kind ≠ 8) (k9:x.kind ≠ 9) (k10:x.kind ≠ 10) (k12:x.kind ≠ 12):yD M P s x id=(yg M P s x).bind fun f=>if f=id then .ok id else .no 130 []:=by
 unfold yD
 rw [if_neg k2,if_neg k4,if_neg k7,if_neg k8,if_neg k9,if_neg k10,if_neg k12]
end
theorem right_shape {k:Int} {nm ot:ByteArray} {fm:Int} {l:List PTerm} (h:rightT (.mk k nm ot fm l)=true) :
  ((k=2∨k=5∨k=6∨k=7∨k=8∨k=10∨k=11) → ∃ p,l=[p])∧((k=3∨k=4∨k=12) → ∃ p q,l=[p,q])∧(k=9 → ∃ p q u,l=[p,q,u]):=by
 have h1:=(xY h).len
 simp only [PTerm.kind,PTerm.sub] at h1
 refine ⟨fun q=>?_,fun q=>?_,fun q=>?_⟩
 ·have:l.length=1:=by rcases q with rfl | rfl | rfl | rfl | rfl | rfl | rfl <;> simp [ye] at h1 <;> omega
  exact List.length_eq_one_iff.1 this
 ·have:l.length=2:=by rcases q with rfl | rfl | rfl <;> simp [ye] at h1 <;> omega
  match l,this with
  | [p,q],_=>exact ⟨p,q,rfl⟩
 ·have:l.length=3:=by subst q; simp [ye] at h1; omega
  match l,this with
  | [p,q,u],_=>exact ⟨p,q,u,rfl⟩
theorem jj {M:List Nd} : ∀ (k:Nat) (x:PTerm) (s:Sc),rightT x=true→(∀ b,tyS M k x s none = .ok b→Ty M (zav s) x false b) ∧ ∀ id b,tyS M k x s (some id) = .ok b→Ty M (zav s) x true id
 | 0,x,s,_=>⟨fun b h=>(by cases h),fun id b h=>(by cases h)⟩
 | k + 1,.mk kd nm ot fm l,s,hr=>by
  obtain ⟨s1,s2,s3⟩ := right_shape hr
  have told : ∀ b,tyS M (k + 1) (.mk kd nm ot fm l) s none = .ok b→Ty M (zav s) (.mk kd nm ot fm l) false b:=by
   intro b h
   rw [ux] at h
   by_cases k1:kd=1
   ·subst k1
    rw [told_1 rfl] at h
    replace h:(match s.find? (fun q=>decide (q.1=nm)) with | some q=>TR.ok q.2 | none=>TR.no 131 [])=TR.ok b:=h
    cases hf:s.find? (fun q=>decide (q.1=nm)) with
    | none=>rw [hf] at h; cases h
    | some q=>rw [hf] at h; cases h; exact .var (by unfold zav; rw [hf]; rfl)
   by_cases k3:kd=3
   ·obtain ⟨p,q,rfl⟩ := s2 (.inl k3)
    subst k3
    rw [told_3 rfl] at h
    obtain ⟨f,h1,h2⟩ := TR.bind_ok.1 h
    obtain ⟨e,h3⟩ := ul.1 h2
    obtain ⟨u,h4,h5⟩ := TR.bind_ok.1 h3
    cases h5
    have r:=right_2 hr
    exact .app ((jj k p s r.1).1 f (TR.at_ok.1 h1)) e ((jj k q s r.2).2 _ u (TR.at_ok.1 h4))
   by_cases k5:kd=5
   ·obtain ⟨p,rfl⟩ := s1 zbB
    subst k5
    rw [told_5 rfl] at h
    obtain ⟨f,h1,h2⟩ := TR.bind_ok.1 h
    obtain ⟨e,h3⟩ := ul.1 h2
    cases h3
    exact .fst ((jj k p s (uU hr)).1 f (TR.at_ok.1 h1)) e
   by_cases k6:kd=6
   ·obtain ⟨p,rfl⟩ := s1 zbB
    subst k6
    rw [told_6 rfl] at h
    obtain ⟨f,h1,h2⟩ := TR.bind_ok.1 h
    obtain ⟨e,h3⟩ := ul.1 h2
    cases h3
    exact .snd ((jj k p s (uU hr)).1 f (TR.at_ok.1 h1)) e
   by_cases k11:kd=11
   ·obtain ⟨p,rfl⟩ := s1 zbB
    subst k11
    rw [told_11 rfl] at h
    replace h:(if inb fm M.length then ((tyS M k (at_ PTerm.z [p] 0) s (some fm)).at_ 0).bind fun _=>TR.ok fm else TR.no 31 [])=TR.ok b:=h
    by_cases hi:inb fm M.length=true
    ·rw [if_pos hi] at h
     obtain ⟨f,h1,h2⟩ := TR.bind_ok.1 h
     cases h2
     exact .the hi ((jj k p s (uU hr)).2 _ f (TR.at_ok.1 h1))
    ·rw [if_neg hi] at h; cases h
   by_cases k12:kd=12
   ·obtain ⟨p,q,rfl⟩ := s2 zbB
    subst k12
    rw [told_12 rfl] at h
    obtain ⟨f,h1,h2⟩ := TR.bind_ok.1 h
    have r:=right_2 hr
    exact .let_ ((jj k p s r.1).1 f (TR.at_ok.1 h1)) (by rw [← vR]; exact (jj k q _ r.2).1 b (TR.at_ok.1 h2))
   by_cases k9:kd=9
   ·obtain ⟨p,q,u,rfl⟩ := s3 k9
    subst k9
    rw [told_9 rfl] at h
    obtain ⟨f,h1,h2⟩ := TR.bind_ok.1 h
    obtain ⟨e,h3⟩ := ul.1 h2
    obtain ⟨a1,h4,h5⟩ := TR.bind_ok.1 h3
    obtain ⟨b1,h6,h7⟩ := TR.bind_ok.1 h5
    split at h7
    ·rename_i he
     cases h7
     subst he
     have r:=right_3 hr
     exact .case_ ((jj k p s r.1).1 f (TR.at_ok.1 h1)) e (by rw [← vR]; exact (jj k q _ r.2.1).1 _ (TR.at_ok.1 h4)) (by rw [← vR]; exact (jj k u _ r.2.2).1 _ (TR.at_ok.1 h6))
    ·cases h7
   rw [told_else (x := .mk kd nm ot fm l) k1 k3 k5 k6 k11 k12 k9] at h; cases h
  refine ⟨told,fun id b h=>?_⟩
  rw [uK] at h
  have htold : ∀ f,yg M (fun i s' w=>(tyS M k (at_ PTerm.z (PTerm.mk kd nm ot fm l).sub i) s' w).at_ i) s (.mk kd nm ot fm l) = .ok f→Ty M (zav s) (.mk kd nm ot fm l) false f:=fun f hf=>told f (by rw [ux]; exact hf)
  clear told
  by_cases k2:kd=2
  ·obtain ⟨p,rfl⟩ := s1 zbB
   subst k2
   rw [chkd_2 rfl] at h
   obtain ⟨e,h1⟩ := ul.1 h
   exact .lam e (by rw [← vR]; exact (jj k p _ (uU hr)).2 _ b (TR.at_ok.1 h1))
  by_cases k4:kd=4
  ·obtain ⟨p,q,rfl⟩ := s2 zbB
   subst k4
   rw [chkd_4 rfl] at h
   obtain ⟨e,h1⟩ := ul.1 h
   obtain ⟨u,h2,h3⟩ := TR.bind_ok.1 h1
   have r:=right_2 hr
   exact .pair e ((jj k p s r.1).2 _ u (TR.at_ok.1 h2)) ((jj k q s r.2).2 _ b (TR.at_ok.1 h3))
  by_cases k7:kd=7
  ·obtain ⟨p,rfl⟩ := s1 zbB
   subst k7
   rw [chkd_7 rfl] at h
   obtain ⟨e,h1⟩ := ul.1 h
   exact .inl e ((jj k p s (uU hr)).2 _ b (TR.at_ok.1 h1))
  by_cases k8:kd=8
  ·obtain ⟨p,rfl⟩ := s1 zbB
   subst k8
   rw [chkd_8 rfl] at h
   obtain ⟨e,h1⟩ := ul.1 h
   exact .inr e ((jj k p s (uU hr)).2 _ b (TR.at_ok.1 h1))
  by_cases k9:kd=9
  ·obtain ⟨p,q,u,rfl⟩ := s3 k9
   subst k9
   rw [chkd_9 rfl] at h
   obtain ⟨f,h1,h2⟩ := TR.bind_ok.1 h
   obtain ⟨e,h3⟩ := ul.1 h2
   obtain ⟨a1,h4,h5⟩ := TR.bind_ok.1 h3
   have r:=right_3 hr
   exact .case_ ((jj k p s r.1).1 f (TR.at_ok.1 h1)) e (by rw [← vR]; exact (jj k q _ r.2.1).2 _ a1 (TR.at_ok.1 h4)) (by rw [← vR]; exact (jj k u _ r.2.2).2 _ b (TR.at_ok.1 h5))
  by_cases k10:kd=10
  ·obtain ⟨p,rfl⟩ := s1 zbB
   subst k10
   rw [chkd_10 rfl] at h
   obtain ⟨f,h1,h2⟩ := TR.bind_ok.1 h
   obtain ⟨e,h3⟩ := ul.1 h2
   exact .abort ((jj k p s (uU hr)).1 f (TR.at_ok.1 h1)) e
  by_cases k12:kd=12
  ·obtain ⟨p,q,rfl⟩ := s2 zbB
   subst k12
   rw [chkd_12 rfl] at h
   obtain ⟨f,h1,h2⟩ := TR.bind_ok.1 h
   have r:=right_2 hr
   exact .let_ ((jj k p s r.1).1 f (TR.at_ok.1 h1)) (by rw [← vR]; exact (jj k q _ r.2).2 _ b (TR.at_ok.1 h2))
  rw [chkd_else (x := .mk kd nm ot fm l) k2 k4 k7 k8 k9 k10 k12] at h
  obtain ⟨f,h1,h2⟩ := TR.bind_ok.1 h
  split at h2
  ·rename_i e
   subst e
   exact .flip (htold _ h1)
  ·cases h2
theorem of_ty {M:List Nd} {Γ:Env} {x:PTerm} {c:Bool} {f:Int} (h:Ty M Γ x c f) : ∀ (s:Sc),zav s=Γ → ∃ K,∀ k,K ≤ k → ∃ b,tyS M k x s (if c then some f else none) = .ok b∧(c=false→b=f):=by
 have P1 : ∀ {k:Nat} {x:PTerm} {s:Sc} {w:Option Int} {b i:Int},tyS M k x s w = .ok b→(tyS M k x s w).at_ i = .ok b:=fun h=>TR.at_ok.2 h
 induction h with
 | var e =>
  intro s hs
  refine ⟨1,fun k hk=>?_⟩
  obtain ⟨k,rfl⟩ : ∃ k',k=k' + 1:=⟨k - 1,by omega⟩
  rename_i nm ot fm f l
  rw [← hs] at e
  unfold zav at e
  refine ⟨f,?_,fun _=>rfl⟩
  show tyS M (k + 1) _ s none=_
  rw [ux,told_1 rfl]
  show (match s.find? (fun q=>decide (q.1=nm)) with | some q=>TR.ok q.2 | none=>TR.no 131 [])=TR.ok f
  cases hq:s.find? (fun q=>decide (q.1=nm)) with
  | none=>rw [hq] at e; cases e
  | some q=>rw [hq] at e; cases e; rfl
 | app _ e _ ih1 ih2 =>
  intro s hs
  obtain ⟨K1,h1⟩ := ih1 s hs
  obtain ⟨K2,h2⟩ := ih2 s hs
  refine ⟨K1 + K2 + 1,fun k hk=>?_⟩
  obtain ⟨k,rfl⟩ : ∃ k',k=k' + 1:=⟨k - 1,by omega⟩
  obtain ⟨b1,q1,r1⟩ := h1 k zbB
  obtain ⟨b2,q2,r2⟩ := h2 k zbB
  cases r1 rfl
  refine ⟨_,?_,fun _=>rfl⟩
  show tyS M (k + 1) _ s none=_
  rw [ux,told_3 rfl]
  exact TR.bind_ok.2 ⟨_,P1 q1,ul.2 ⟨e,TR.bind_ok.2 ⟨_,P1 q2,rfl⟩⟩⟩
 | fst _ e ih1 =>
  intro s hs
  obtain ⟨K1,h1⟩ := ih1 s hs
  refine ⟨K1 + 1,fun k hk=>?_⟩
  obtain ⟨k,rfl⟩ : ∃ k',k=k' + 1:=⟨k - 1,by omega⟩
  obtain ⟨b1,q1,r1⟩ := h1 k zbB
  cases r1 rfl
  refine ⟨_,?_,fun _=>rfl⟩
  show tyS M (k + 1) _ s none=_
  rw [ux,told_5 rfl]
  exact TR.bind_ok.2 ⟨_,P1 q1,ul.2 ⟨e,rfl⟩⟩
 | snd _ e ih1 =>
  intro s hs
  obtain ⟨K1,h1⟩ := ih1 s hs
  refine ⟨K1 + 1,fun k hk=>?_⟩
  obtain ⟨k,rfl⟩ : ∃ k',k=k' + 1:=⟨k - 1,by omega⟩
  obtain ⟨b1,q1,r1⟩ := h1 k zbB
  cases r1 rfl
  refine ⟨_,?_,fun _=>rfl⟩
  show tyS M (k + 1) _ s none=_
  rw [ux,told_6 rfl]
  exact TR.bind_ok.2 ⟨_,P1 q1,ul.2 ⟨e,rfl⟩⟩
 | the e _ ih1 =>
  intro s hs
  obtain ⟨K1,h1⟩ := ih1 s hs
  refine ⟨K1 + 1,fun k hk=>?_⟩
  obtain ⟨k,rfl⟩ : ∃ k',k=k' + 1:=⟨k - 1,by omega⟩
  obtain ⟨b1,q1,r1⟩ := h1 k zbB
  refine ⟨_,?_,fun _=>rfl⟩
  show tyS M (k + 1) _ s none=_
  rw [ux,told_11 rfl]
  refine (if_pos e).trans ?_
  exact TR.bind_ok.2 ⟨_,P1 q1,rfl⟩
 | let_ _ _ ih1 ih2 =>
  intro s hs
  rename_i Γ nm ot fm f g p q c _ _
  obtain ⟨K1,h1⟩ := ih1 s hs
  obtain ⟨K2,h2⟩ := ih2 ((nm,f) :: s) (by rw [vR,hs])
  refine ⟨K1 + K2 + 1,fun k hk=>?_⟩
  obtain ⟨k,rfl⟩ : ∃ k',k=k' + 1:=⟨k - 1,by omega⟩
  obtain ⟨b1,q1,r1⟩ := h1 k zbB
  obtain ⟨b2,q2,r2⟩ := h2 k zbB
  cases r1 rfl
  cases c with
  | false =>
   cases r2 rfl
   refine ⟨_,?_,fun _=>rfl⟩
   show tyS M (k + 1) _ s none=_
   rw [ux,told_12 rfl]
   exact TR.bind_ok.2 ⟨_,P1 q1,P1 q2⟩
  | true =>
   refine ⟨b2,?_,fun q=>by cases q⟩
   show tyS M (k + 1) _ s (some g)=_
   rw [uK,chkd_12 rfl]
   exact TR.bind_ok.2 ⟨_,P1 q1,P1 q2⟩
 | case_ _ e _ _ ih1 ih2 ih3 =>
  intro s hs
  rename_i Γ nm ot fm f g p q u c _ _ _
  obtain ⟨K1,h1⟩ := ih1 s hs
  obtain ⟨K2,h2⟩ := ih2 ((nm,(nd M f).l) :: s) (by rw [vR,hs])
  obtain ⟨K3,h3⟩ := ih3 ((ot,(nd M f).r) :: s) (by rw [vR,hs])
  refine ⟨K1 + K2 + K3 + 1,fun k hk=>?_⟩
  obtain ⟨k,rfl⟩ : ∃ k',k=k' + 1:=⟨k - 1,by omega⟩
  obtain ⟨b1,q1,r1⟩ := h1 k zbB
  obtain ⟨b2,q2,r2⟩ := h2 k zbB
  obtain ⟨b3,q3,r3⟩ := h3 k zbB
  cases r1 rfl
  cases c with
  | false =>
   cases r2 rfl
   cases r3 rfl
   refine ⟨_,?_,fun _=>rfl⟩
   show tyS M (k + 1) _ s none=_
   rw [ux,told_9 rfl]
   exact TR.bind_ok.2 ⟨_,P1 q1,ul.2 ⟨e,TR.bind_ok.2 ⟨_,P1 q2,TR.bind_ok.2 ⟨_,P1 q3,by rw [if_pos rfl]⟩⟩⟩⟩
  | true =>
   refine ⟨b3,?_,fun q=>by cases q⟩
   show tyS M (k + 1) _ s (some g)=_
   rw [uK,chkd_9 rfl]
   exact TR.bind_ok.2 ⟨_,P1 q1,ul.2 ⟨e,TR.bind_ok.2 ⟨_,P1 q2,P1 q3⟩⟩⟩
 | lam e _ ih1 =>
  intro s hs
  rename_i Γ nm ot fm f p _
  obtain ⟨K1,h1⟩ := ih1 ((nm,(nd M f).l) :: s) (by rw [vR,hs])
  refine ⟨K1 + 1,fun k hk=>?_⟩
  obtain ⟨k,rfl⟩ : ∃ k',k=k' + 1:=⟨k - 1,by omega⟩
  obtain ⟨b1,q1,r1⟩ := h1 k zbB
  refine ⟨b1,?_,fun q=>by cases q⟩
  show tyS M (k + 1) _ s (some f)=_
  rw [uK,chkd_2 rfl]
  exact ul.2 ⟨e,P1 q1⟩
 | pair e _ _ ih1 ih2 =>
  intro s hs
  rename_i Γ nm ot fm f p q _ _
  obtain ⟨K1,h1⟩ := ih1 s hs
  obtain ⟨K2,h2⟩ := ih2 s hs
  refine ⟨K1 + K2 + 1,fun k hk=>?_⟩
  obtain ⟨k,rfl⟩ : ∃ k',k=k' + 1:=⟨k - 1,by omega⟩
  obtain ⟨b1,q1,r1⟩ := h1 k zbB
  obtain ⟨b2,q2,r2⟩ := h2 k zbB
  refine ⟨b2,?_,fun q=>by cases q⟩
  show tyS M (k + 1) _ s (some f)=_
  rw [uK,chkd_4 rfl]
  exact ul.2 ⟨e,TR.bind_ok.2 ⟨_,P1 q1,P1 q2⟩⟩
 | inl e _ ih1 =>
  intro s hs
  rename_i Γ nm ot fm f p _
  obtain ⟨K1,h1⟩ := ih1 s hs
  refine ⟨K1 + 1,fun k hk=>?_⟩
  obtain ⟨k,rfl⟩ : ∃ k',k=k' + 1:=⟨k - 1,by omega⟩
  obtain ⟨b1,q1,r1⟩ := h1 k zbB
  refine ⟨b1,?_,fun q=>by cases q⟩
  show tyS M (k + 1) _ s (some f)=_
  rw [uK,chkd_7 rfl]
  exact ul.2 ⟨e,P1 q1⟩
 | inr e _ ih1 =>
  intro s hs
  rename_i Γ nm ot fm f p _
  obtain ⟨K1,h1⟩ := ih1 s hs
  refine ⟨K1 + 1,fun k hk=>?_⟩
  obtain ⟨k,rfl⟩ : ∃ k',k=k' + 1:=⟨k - 1,by omega⟩
  obtain ⟨b1,q1,r1⟩ := h1 k zbB
  refine ⟨b1,?_,fun q=>by cases q⟩
  show tyS M (k + 1) _ s (some f)=_
  rw [uK,chkd_8 rfl]
  exact ul.2 ⟨e,P1 q1⟩
 | abort _ e ih1 =>
  intro s hs
  rename_i Γ nm ot fm f g p _
  obtain ⟨K1,h1⟩ := ih1 s hs
  refine ⟨K1 + 1,fun k hk=>?_⟩
  obtain ⟨k,rfl⟩ : ∃ k',k=k' + 1:=⟨k - 1,by omega⟩
  obtain ⟨b1,q1,r1⟩ := h1 k zbB
  cases r1 rfl
  refine ⟨f,?_,fun q=>by cases q⟩
  show tyS M (k + 1) _ s (some f)=_
  rw [uK,chkd_10 rfl]
  exact TR.bind_ok.2 ⟨_,P1 q1,ul.2 ⟨e,rfl⟩⟩
 | flip _ ih1 =>
  intro s hs
  obtain ⟨K1,h1⟩ := ih1 s hs
  refine ⟨K1,fun k hk=>?_⟩
  obtain ⟨b1,q1,r1⟩ := h1 k hk
  cases r1 rfl
  exact ⟨_,(tyS_one k _ s _ q1).1,fun q=>by cases q⟩
theorem told_iff {M:List Nd} {x:PTerm} (hr:rightT x=true) (s:Sc) (f:Int):tyS M (depT x) x s none = .ok f↔Ty M (zav s) x false f:=by
 constructor
 ·exact (jj _ x s hr).1 f
 ·intro h
  obtain ⟨K,hK⟩ := of_ty h s rfl
  obtain ⟨b,q,r⟩ := hK (max K (depT x)) (Nat.le_max_left ..)
  cases r rfl
  rw [← tyS_dep (max K (depT x)) (Nat.le_max_right ..)]; exact q
theorem chkd_iff {M:List Nd} {x:PTerm} (hr:rightT x=true) (s:Sc) (id:Int):(∃ b,tyS M (depT x) x s (some id) = .ok b)↔Ty M (zav s) x true id:=by
 constructor
 ·rintro ⟨b,h⟩; exact (jj _ x s hr).2 id b h
 ·intro h
  obtain ⟨K,hK⟩ := of_ty h s rfl
  obtain ⟨b,q,_⟩ := hK (max K (depT x)) (Nat.le_max_left ..)
  exact ⟨b,by rw [← tyS_dep (max K (depT x)) (Nat.le_max_right ..)]; exact q⟩
end
section
open Gw
theorem Ty.told_of {M:List Nd} {Γ:Env} {x:PTerm} {f:Int} (h:Ty M Γ x true f) (hk:x.kind=1∨x.kind=3∨x.kind=5∨x.kind=6∨x.kind=11):Ty M Γ x false f:=by
 cases h <;> first | assumption | (exfalso; simp [PTerm.kind] at hk)
theorem Ty.no_false {M:List Nd} {Γ:Env} {x:PTerm} {f:Int} (h:Ty M Γ x false f) (hk:x.kind=2∨x.kind=4∨x.kind=7∨x.kind=8∨x.kind=10):False:=by
 cases h <;> simp [PTerm.kind] at hk
theorem ty_putV {M:List Nd} {Γ:Env} {x y:PTerm} {n:ByteArray} {a f:Int} {c:Bool} (h0:(putV x n y).2=0) (ht:Ty M (Γ.up n a) x c f) (hy:Ty M Γ y false a):Ty M Γ (putV x n y).1 c f:=by
 obtain ⟨cx,cy,hn,e,g⟩ := putV_ok h0
 obtain ⟨x1,x2,x3⟩ := yz.1 cx
 obtain ⟨y1,y2,y3⟩ := yz.1 cy
 rw [e]; exact Ty.put _ (Nat.le_refl _) x3 hn y3 zbB ht hy
theorem Ty.besof {M:List Nd} {Γ:Env} {p:PTerm} {g k f:Int} (h:Ty M Γ p false g) (hb:besV M p k f=2):(nd M g).kind=f∧p.form=g∧(kid p 0).kind=k∧Ty M Γ (kid p 0) true g:=by
 obtain ⟨b1,b2,b3⟩ := zaw hb
 cases h <;> first | (exfalso; simp [PTerm.kind] at b1; done) | skip
 rename_i hi hp
 exact ⟨b3,rfl,b2,hp⟩
theorem bes_val {M:List Nd} {Γ:Env} {p:PTerm} {g k f:Int} (h:Ty M Γ p false g) (hk:k=2∨k=4∨k=7∨k=8):besV M p k f=0∨besV M p k f=2:=by
 rcases bes_vals M p k f with q | q | q
 ·exact .inl q
 ·exfalso
  unfold besV at q
  by_cases e:p.kind=k
  ·exact h.no_false zbB
  ·rw [if_neg e] at q
   split at q <;> exact absurd q zbA
 ·exact .inr q
theorem cont_0 {M:List Nd} {x:PTerm} (h:rowV M x=0):yj M x=(PTerm.z,140):=by unfold yj; simp only [h]; rfl
theorem cont_2 {M:List Nd} {x:PTerm} (h:rowV M x=2):yj M x=if (putV (kid (kid (kid x 0) 0) 0) (kid (kid x 0) 0).name (theT (kid x 1) (nd M (kid x 0).form).l)).2 ≠ 0 then putV (kid (kid (kid x 0) 0) 0) (kid (kid x 0) 0).name (theT (kid x 1) (nd M (kid x 0).form).l) else (theT (putV (kid (kid (kid x 0) 0) 0) (kid (kid x 0) 0).name (theT (kid x 1) (nd M (kid x 0).form).l)).1 (nd M (kid x 0).form).r,0):=by unfold yj; simp only [h]; rfl
theorem cont_4 {M:List Nd} {x:PTerm} (h:rowV M x=4):yj M x=(if x.kind=6 then theT (kid (kid (kid x 0) 0) 1) (nd M (kid x 0).form).r else theT (kid (kid (kid x 0) 0) 0) (nd M (kid x 0).form).l,0):=by unfold yj; simp only [h]; rfl
theorem cont_6 {M:List Nd} {x:PTerm} (h:rowV M x=6):yj M x=intoV x (theT (kid (kid (kid x 0) 0) 0) (if besV M (kid x 0) 8 4=2 then (nd M (kid x 0).form).r else (nd M (kid x 0).form).l)) (decide (besV M (kid x 0) 8 4=2)):=by unfold yj; simp only [h]; rfl
theorem cont_7 {M:List Nd} {x:PTerm} (h:rowV M x=7):yj M x=putV (kid x 1) x.name (kid x 0):=by unfold yj; simp only [h]; rfl
theorem cont_8 {M:List Nd} {x:PTerm} (h:rowV M x=8):yj M x=(kid x 0,0):=by unfold yj; simp only [h]; rfl
theorem Ty.inb_both {M:List Nd} (hw:Wf M) {f:Int} (hi:inb f M.length=true) (hk:(nd M f).kind=3∨(nd M f).kind=4∨(nd M f).kind=5):inb (nd M f).l M.length=true∧inb (nd M f).r M.length=true:=⟨hw.left hi hk,hw.right hi hk⟩
theorem nd_in {M:List Nd} {f:Int} (h:(nd M f).kind ≠ 0):inb f M.length=true:=by
 refine Classical.byContradiction fun q=>h ?_
 unfold nd zaj
 rw [if_neg (by simpa [vX,inb] using q)]; rfl
theorem Ty.cont {M:List Nd} (hw:Wf M) {Γ:Env} {x:PTerm} {c:Bool} {f:Int} (h:Ty M Γ x c f) (h0:(yj M x).2=0):Ty M Γ (yj M x).1 c f:=by
 have none : ∀ {P:Prop},rowV M x=0→P:=fun q=>by rw [cont_0 q] at h0; exact absurd h0 zbA
 have both : ∀ {c f},Ty M Γ x c f→(c=true → ∀ f,Ty M Γ x false f→Ty M Γ (yj M x).1 false f)→Ty M Γ (yj M x).1 c f:=by
  intro c f ht hfl
  cases ht with
  | var e=>exact none (by simp [rowV,PTerm.kind])
  | @app _ nm ot fm g p q h1 k h2 =>
   have hrow:rowV M (.mk 3 nm ot fm [p,q])=besV M p 2 5:=by simp only [rowV,mk_kind,if_true]; rfl
   rcases bes_val (k:=2) (f:=5) h1 zbC with b | b
   ·exact none (by rw [hrow,b])
   ·obtain ⟨b1,b2,b3,b4⟩ := h1.besof b
    have hi:=Ty.inb_both hw (nd_in (by rw [b1]; decide)) (.inr (.inr b1))
    rw [cont_2 (by rw [hrow,b])] at h0 ⊢
    have hk0:kid (PTerm.mk 3 nm ot fm [p,q]) 0=p:=rfl
    have hk1:kid (PTerm.mk 3 nm ot fm [p,q]) 1=q:=rfl
    rw [hk0,hk1,b2] at h0 ⊢
    generalize kid p 0=u at b3 b4 h0 ⊢
    split at h0
    ·rename_i d; exact absurd h0 d
    rename_i d
    rw [if_neg d]
    cases b4 <;> first | (exfalso; simp [PTerm.kind] at b3; done) | skip
    ·rename_i k5 hb
     exact .the hi.2 (ty_putV (by simpa using d) hb (.the hi.1 h2))
    ·rename_i hb; exact (hb.no_false (.inl b3)).elim
  | @fst _ nm ot fm g p h1 k =>
   have hrow:rowV M (.mk 5 nm ot fm [p])=if besV M p 4 3=0 then 0 else 2 + besV M p 4 3:=by simp only [rowV,mk_kind]; rfl
   rcases bes_val (k:=4) (f:=3) h1 zbC with b | b
   ·exact none (by rw [hrow,b]; rfl)
   ·obtain ⟨b1,b2,b3,b4⟩ := h1.besof b
    have hi:=Ty.inb_both hw (nd_in (by rw [b1]; decide)) (.inl b1)
    rw [cont_4 (by rw [hrow,b]; rfl)] at h0 ⊢
    have hk0:kid (PTerm.mk 5 nm ot fm [p]) 0=p:=rfl
    rw [hk0,b2]
    generalize kid p 0=u at b3 b4
    cases b4 <;> first | (exfalso; simp [PTerm.kind] at b3; done) | skip
    ·rename_i k3 ha hb; exact .the hi.1 ha
    ·rename_i hb; exact (hb.no_false (.inr (.inl b3))).elim
  | @snd _ nm ot fm g p h1 k =>
   have hrow:rowV M (.mk 6 nm ot fm [p])=if besV M p 4 3=0 then 0 else 2 + besV M p 4 3:=by simp only [rowV,mk_kind]; rfl
   rcases bes_val (k:=4) (f:=3) h1 zbC with b | b
   ·exact none (by rw [hrow,b]; rfl)
   ·obtain ⟨b1,b2,b3,b4⟩ := h1.besof b
    have hi:=Ty.inb_both hw (nd_in (by rw [b1]; decide)) (.inl b1)
    rw [cont_4 (by rw [hrow,b]; rfl)] at h0 ⊢
    have hk0:kid (PTerm.mk 6 nm ot fm [p]) 0=p:=rfl
    rw [hk0,b2]
    generalize kid p 0=u at b3 b4
    cases b4 <;> first | (exfalso; simp [PTerm.kind] at b3; done) | skip
    ·rename_i k3 ha hb; exact .the hi.2 hb
    ·rename_i hb; exact (hb.no_false (.inr (.inl b3))).elim
  | @the _ nm ot fm p k h1 =>
   have hrow:rowV M (.mk 11 nm ot f [p])=if p.kind=1∨p.kind=3∨p.kind=5∨p.kind=6∨p.kind=11 then 8 else 0:=by simp only [rowV,mk_kind]; rfl
   by_cases q:p.kind=1∨p.kind=3∨p.kind=5∨p.kind=6∨p.kind=11
   ·rw [cont_8 (by rw [hrow,if_pos q])]
    exact h1.told_of q
   ·exact none (by rw [hrow,if_neg q])
  | @let_ _ nm ot fm g1 g2 p q c h1 h2 =>
   have hrow:rowV M (.mk 12 nm ot fm [p,q])=7:=by simp only [rowV,mk_kind]; rfl
   rw [cont_7 hrow] at h0 ⊢
   exact ty_putV h0 h2 h1
  | @case_ _ nm ot fm g1 g2 p q u c h1 k h2 h3 =>
   have hrow:rowV M (.mk 9 nm ot fm [p,q,u])=if besV M p 7 4 ≠ 0 then 4 + besV M p 7 4 else if besV M p 8 4 ≠ 0 then 4 + besV M p 8 4 else 0:=by simp only [rowV,mk_kind]; rfl
   have hk0:kid (PTerm.mk 9 nm ot fm [p,q,u]) 0=p:=rfl
   rcases bes_val (k:=7) (f:=4) h1 zbC with b | b
   ·rcases bes_val (k:=8) (f:=4) h1 zbC with b' | b'
    ·exact none (by rw [hrow,b,b']; rfl)
    ·obtain ⟨b1,b2,b3,b4⟩ := h1.besof b'
     have hi:=Ty.inb_both hw (nd_in (by rw [b1]; decide)) (.inr (.inl b1))
     rw [cont_6 (by rw [hrow,b,b']; rfl),hk0,b',b2] at h0 ⊢
     generalize kid p 0=v at b3 b4 h0 ⊢
     cases b4 <;> first | (exfalso; simp [PTerm.kind] at b3; done) | skip
     ·rename_i k4 ha
      exact ty_putV (x:=u) h0 h3 (.the hi.2 ha)
     ·rename_i hb; exact (hb.no_false (.inr (.inr (.inr (.inl b3))))).elim
   ·obtain ⟨b1,b2,b3,b4⟩ := h1.besof b
    have hi:=Ty.inb_both hw (nd_in (by rw [b1]; decide)) (.inr (.inl b1))
    have b':besV M p 8 4=0:=by
     rcases bes_val (k:=8) (f:=4) h1 zbC with q | q
     ·exact q
     ·have:=(h1.besof q).2.2.1; omega
    rw [cont_6 (by rw [hrow,b]; rfl),hk0,b',b2] at h0 ⊢
    generalize kid p 0=v at b3 b4 h0 ⊢
    cases b4 <;> first | (exfalso; simp [PTerm.kind] at b3; done) | skip
    ·rename_i k4 ha
     exact ty_putV (x:=q) h0 h2 (.the hi.1 ha)
    ·rename_i hb; exact (hb.no_false (.inr (.inr (.inl b3)))).elim
  | lam k h1=>exact none (by simp [rowV,PTerm.kind])
  | pair k h1 h2=>exact none (by simp [rowV,PTerm.kind])
  | inl k h1=>exact none (by simp [rowV,PTerm.kind])
  | inr k h1=>exact none (by simp [rowV,PTerm.kind])
  | abort h1 k=>exact none (by simp [rowV,PTerm.kind])
  | flip h1=>exact .flip (hfl rfl _ h1)
 exact both h fun _ f h=>both h fun q=>by cases q
theorem Ty.set {M:List Nd} {x y:PTerm} {j:Nat} (hj:j < x.sub.length) (IH : ∀ {Γ:Env} {c:Bool} {f:Int},Ty M Γ x.sub[j] c f→Ty M Γ y c f) {Γ:Env} {c:Bool} {f:Int} (h:Ty M Γ x c f) (hr:rightT x=true):Ty M Γ ⟨x.kind,x.name,x.other,x.form,x.sub.set j y⟩ c f:=by
 have both : ∀ {c f},Ty M Γ x c f→(c=true → ∀ f,Ty M Γ x false f→Ty M Γ ⟨x.kind,x.name,x.other,x.form,x.sub.set j y⟩ false f)→Ty M Γ ⟨x.kind,x.name,x.other,x.form,x.sub.set j y⟩ c f:=by
  intro c f ht hfl
  cases ht with
  | var e=>exact .var e
  | app h1 k h2 =>
   rcases j with _ | _ | j
   ·exact .app (IH h1) k h2
   ·exact .app h1 k (IH h2)
   ·exact absurd hj (by simp only [zaP,List.length_cons,List.length_nil]; omega)
  | fst h1 k =>
   rcases j with _ | j
   ·exact .fst (IH h1) k
   ·exact absurd hj (by simp only [zaP,List.length_cons,List.length_nil]; omega)
  | snd h1 k =>
   rcases j with _ | j
   ·exact .snd (IH h1) k
   ·exact absurd hj (by simp only [zaP,List.length_cons,List.length_nil]; omega)
  | the k h1 =>
   rcases j with _ | j
   ·exact .the k (IH h1)
   ·exact absurd hj (by simp only [zaP,List.length_cons,List.length_nil]; omega)
  | let_ h1 h2 =>
   rcases j with _ | _ | j
   ·exact .let_ (IH h1) h2
   ·exact .let_ h1 (IH h2)
   ·exact absurd hj (by simp only [zaP,List.length_cons,List.length_nil]; omega)
  | case_ h1 k h2 h3 =>
   rcases j with _ | _ | _ | j
   ·exact .case_ (IH h1) k h2 h3
   ·exact .case_ h1 k (IH h2) h3
   ·exact .case_ h1 k h2 (IH h3)
   ·exact absurd hj (by simp only [zaP,List.length_cons,List.length_nil]; omega)
  | lam k h1 =>
   rcases j with _ | j
   ·exact .lam k (IH h1)
   ·exact absurd hj (by simp only [zaP,List.length_cons,List.length_nil]; omega)
  | pair k h1 h2 =>
   rcases j with _ | _ | j
   ·exact .pair k (IH h1) h2
   ·exact .pair k h1 (IH h2)
   ·exact absurd hj (by simp only [zaP,List.length_cons,List.length_nil]; omega)
  | inl k h1 =>
   rcases j with _ | j
   ·exact .inl k (IH h1)
   ·exact absurd hj (by simp only [zaP,List.length_cons,List.length_nil]; omega)
  | inr k h1 =>
   rcases j with _ | j
   ·exact .inr k (IH h1)
   ·exact absurd hj (by simp only [zaP,List.length_cons,List.length_nil]; omega)
  | abort h1 k =>
   rcases j with _ | j
   ·exact .abort (IH h1) k
   ·exact absurd hj (by simp only [zaP,List.length_cons,List.length_nil]; omega)
  | flip h1=>exact .flip (hfl rfl _ h1)
 exact both h fun _ f h=>both h fun q=>by cases q
theorem ty_do {M:List Nd} (hw:Wf M) : ∀ (w:List Int) {x:PTerm} {Γ:Env} {c:Bool} {f:Int},rightT x=true→Ty M Γ x c f→(doV M x w).2=0→Ty M Γ (doV M x w).1 c f
 | [],x,Γ,c,f,hr,h,h0=>by
  rw [doV] at h0 ⊢; exact h.cont hw h0
 | k :: w,x,Γ,c,f,hr,h,h0=>by
  rw [doV] at h0 ⊢
  by_cases cc:k < 0∨(x.sub.length:Int) ≤ k
  ·rw [if_pos cc] at h0; exact absurd h0 zbA
  rw [if_neg cc] at h0 ⊢
  by_cases z:(doV M (kid x k) w).2=0
  ·rw [if_neg (fun q=>q z)]
   obtain ⟨j,rfl⟩ : ∃ j:Nat,k=j:=⟨k.toNat,by omega⟩
   have hj:j < x.sub.length:=by omega
   have hkj:kid x (j:Int)=x.sub[j]:=kid_at hj
   rw [hkj] at z ⊢
   exact h.set hj (fun h'=>ty_do hw w (yp hr hj) h' z) hr
  ·rw [if_pos z] at h0; exact absurd h0 z
theorem ty_done {M:List Nd} (hw:Wf M) {x:PTerm} {w:List Int} {Γ:Env} {c:Bool} {f:Int} (hr:rightT x=true) (h:Ty M Γ x c f) (h0:(uy M x w).2=0):Ty M Γ (uy M x w).1 c f:=by
 obtain ⟨h1,h2,h3⟩ := done_ok h0
 rw [h3]; exact ty_do hw w hr h h1
end
section
open Gw
end
section
open Gw
theorem wf_nil:Wf []:=⟨by simp,by simp,fun i hi=>absurd (zM hi) zbC,fun i hi=>absurd (zM hi) zbC,fun j n h=>by simp at h⟩
theorem tables14 {rows:List Nd} (hn : ∀ n ∈ rows,n.name.size < 9223372036854775808) (hl:rows.length * 40 ≤ 140737488355328) : ∃ M,zdt.f rows=some (some M,some M)∧Wf M:=by
 unfold zdt.f
 rcases both_some hn hl with h | ⟨h,hw⟩
 ·exact ⟨[],by rw [h]; rfl,wf_nil⟩
 ·exact ⟨rows,by rw [h]; rfl,hw⟩
end
section
open Gw
def InT (M:List Nd):List Int→PTerm→Prop
 | [],x=>rowV M x ≠ 0
 | k :: w,x=>0 ≤ k∧k < (x.sub.length:Int)∧InT M w (kid x k)
mutual
theorem gaT_in (M:List Nd) : ∀ (x:PTerm) (way:List Int) (l:List (List Int)) (w:List Int),w ∈ gaT M x way l→w ∈ l ∨ ∃ v,w=way ++ v∧InT M v x
 | .mk k n o f s,way,l,w,hw=>by
  simp only [gaT] at hw
  split at hw
  ·exact .inl hw
  ·rcases gaL_in M s 0 way _ w hw with q | ⟨j,v,hj,e,h⟩
   ·split at q
    ·rename_i c
     rcases List.mem_append.1 q with q | q
     ·exact .inl q
     ·rw [List.mem_singleton] at q; subst q
      exact .inr ⟨[],by simp,c⟩
    ·exact .inl q
   ·refine .inr ⟨(j:Int) :: v,by rw [e,Nat.zero_add],?_⟩
    refine ⟨by omega,by show (j:Int) < (s.length:Int); omega,?_⟩
    rw [show kid (PTerm.mk k n o f s) (j:Int)=s[j] from kid_at hj]; exact h
theorem gaL_in (M:List Nd) : ∀ (r:List PTerm) (i:Nat) (way:List Int) (l:List (List Int)) (w:List Int),w ∈ gaL M i r way l→w ∈ l ∨ ∃ j v,∃ h:j < r.length,w=way ++ ((i + j:Nat):Int) :: v∧InT M v r[j]
 | [],i,way,l,w,hw=>by rw [gaL_nil] at hw; exact .inl hw
 | y :: r,i,way,l,w,hw=>by
  rw [gaL_cons] at hw
  rcases gaL_in M r (i + 1) way _ w hw with q | ⟨j,v,hj,e,h⟩
  ·rcases gaT_in M y _ l w q with p | ⟨v,e,h⟩
   ·exact .inl p
   ·exact .inr ⟨0,v,by simp,by rw [e]; simp,h⟩
  ·exact .inr ⟨j + 1,v,by simpa using hj,by rw [e,show i + 1 + j=i + (j + 1) by omega],h⟩
end
theorem ga_in {M:List Nd} {x:PTerm} {w:List Int} (h:w ∈ gaT M x [] []):InT M w x:=by
 rcases gaT_in M x [] [] w h with q | ⟨v,e,h⟩
 ·simp at q
 ·rw [e]; exact h
theorem kid_lt {x:PTerm} {i:Int} (h0:0 ≤ i) (h1:i < (x.sub.length:Int)):sizeT (kid x i) < sizeT x∧depT (kid x i) < depT x:=by
 obtain ⟨j,rfl⟩ : ∃ j:Nat,i=j:=⟨i.toNat,by omega⟩
 have hj:j < x.sub.length:=by omega
 have:=vO (List.getElem_mem hj); have:=yV _ (List.getElem_mem hj); have:=yI x; have:=yQ x
 rw [show kid x (j:Int)=x.sub[j] from kid_at hj]; omega
theorem right_the {a:PTerm} {f:Int} (ha:rightT a=true) (h:0 ≤ f∧f < 1024):rightT (theT a f)=true:=by
 refine right_of ⟨rfl,fun q=>absurd q (by simp [PTerm.kind]),fun _=>rfl,fun q=>absurd q (by simp [PTerm.kind]),fun _=>rfl,fun _=>h,fun q=>absurd rfl q⟩ fun i hi=>?_
 have:i=0:=by simpa [PTerm.sub] using hi
 subst this; exact ha
theorem kL {x y:PTerm} {n:ByteArray} (hx:xL x=0) (hy:xL y=0) (hn:isWord n):(putV x n y).2=0∨(putV x n y).2=121:=by
 unfold putV
 rw [if_neg (fun q=>q hx),if_neg (fun q=>q hy),if_neg (fun q=>q hn)]
 split
 ·exact .inr rfl
 ·exact .inl rfl
theorem form_lt {M:List Nd} (hw:Wf M) {i:Int} (h:inb i M.length=true):0 ≤ i∧i < 1024:=by
 have:=zM h; have:=hw.len; omega
theorem none9 {r:Int} (h0:0 ≤ r) (h8:r ≤ 8) (c0:r ≠ 0) (c1:¬ r=1) (c2:¬ r=2) (c3:¬ r=3) (c4:¬ r=4) (c5:¬ r=5) (c6:¬ r=6) (c7:¬ r=7) (c8:¬ r=8):False:=by omega
theorem cont_code {M:List Nd} (hw:Wf M) {x:PTerm} (hc:xL x=0) (ht:toldB M x=true) (h:rowV M x ≠ 0):(yj M x).2=0∨(yj M x).2=121:=by
 obtain ⟨hs,hd,hr⟩ := yz.1 hc
 obtain ⟨r1,r2,r3,r4,r5,r6,r7,r8⟩ := @row_iff M x
 obtain ⟨l2,l1,l3⟩ := kids (hr:=hr)
 have ck : ∀ {i:Int},0 ≤ i→i < (x.sub.length:Int)→xL (kid x i)=0∧sizeT (kid x i) < sizeT x∧depT (kid x i) < depT x∧rightT (kid x i)=true:=fun {i} h0 h1=>by
  have:=kid_lt h0 h1
  have hk:=vu hr rfl ⟨h0,h1⟩
  exact ⟨yz.2 ⟨by omega,by omega,hk⟩,this.1,this.2,hk⟩
 have ck2 : ∀ {p:PTerm} {i:Int},rightT p=true→sizeT p < sizeT x→depT p < depT x→0 ≤ i→i < (p.sub.length:Int)→xL (kid p i)=0∧sizeT (kid p i) + 1 < sizeT x∧depT (kid p i) + 1 < depT x∧rightT (kid p i)=true:=fun {p i} hp h1 h2 h3 h4=>by
  have:=kid_lt h3 h4
  have hk:=vu hp rfl ⟨h3,h4⟩
  exact ⟨yz.2 ⟨by omega,by omega,hk⟩,by omega,by omega,hk⟩
 have the0 : ∀ {a:PTerm} {f:Int},rightT a=true→sizeT a < sizeT x→depT a < depT x→inb f M.length=true→xL (theT a f)=0:=fun {a f} h1 h2 h3 h4=>by
  refine yz.2 ⟨by rw [size_the]; omega,?_,right_the h1 (form_lt hw h4)⟩
  have e:depT (theT a f)=1 + depL [a]:=yQ (theT a f)
  have e2:depL [a]=depT a:=by simp [depL]
  omega
 have tk0:=told_any ht 0
 unfold yj
 dsimp only
 split
 ·rename_i c
  obtain ⟨k3,k2⟩ := r1.1 c
  have hl:=l2 (.inl k3)
  obtain ⟨c0,s0,d0,p0⟩ := ck (i:=0) zbB zbB
  have hl0:=(yL p0).2.1 k2
  exact kL (ck2 p0 s0 d0 (i:=0) zbB zbB).1 (ck (i:=1) zbB zbB).1 ((xY p0).nm (.inr (.inl k2)))
 split
 ·rename_i _ c
  obtain ⟨k3,b⟩ := r2.1 c
  have hl:=l2 (.inl k3)
  obtain ⟨c0,s0,d0,p0⟩ := ck (i:=0) zbB zbB
  obtain ⟨b1,b2,b3⟩ := zaw b
  have hl0:=(yL p0).2.2.2.2 b1
  obtain ⟨c1,s1,d1,p1⟩ := ck2 p0 s0 d0 (i:=0) zbB zbB
  have hl1:=(yL p1).2.1 b2
  obtain ⟨c2,s2,d2,p2⟩ := ck2 p1 zbB zbB (i:=0) zbB zbB
  obtain ⟨cy,sy,dy,py⟩ := ck (i:=1) zbB zbB
  have hf:=bes_form hw tk0 (.inr (.inr rfl)) b
  rcases kL c2 (the0 py sy dy hf.1) ((xY p1).nm (.inr (.inl b2))) with q | q
  ·rw [if_neg (fun z=>z q)]; exact .inl rfl
  ·rw [if_pos (by rw [q]; decide)]; exact .inr q
 split
 ·exact .inl rfl
 split
 ·exact .inl rfl
 split
 ·rename_i c
  have h5:=r5.1 c
  have hl:=l3 h5.1
  obtain ⟨c0,s0,d0,p0⟩ := ck (i:=0) zbB zbB
  have hl0:(kid x 0).sub.length=1:=by
   have:=zaQ p0
   rcases h5.2 with q | q <;> rw [q] at this <;> simp [ye] at this <;> omega
  have hy:=(ck2 p0 s0 d0 (i:=0) zbB zbB).1
  unfold intoV
  split
  ·exact kL (ck (i:=2) zbB zbB).1 hy ((xY hr).ot h5.1)
  ·exact kL (ck (i:=1) zbB zbB).1 hy ((xY hr).nm (.inr (.inr (.inl h5.1))))
 split
 ·rename_i c
  have h6:=r6.1 c
  have hl:=l3 h6.1
  obtain ⟨c0,s0,d0,p0⟩ := ck (i:=0) zbB zbB
  have hb:(kid x 0).kind=11∧((kid (kid x 0) 0).kind=7∨(kid (kid x 0) 0).kind=8)∧inb (nd M (kid x 0).form).l M.length=true∧inb (nd M (kid x 0).form).r M.length=true:=by
   rcases h6.2 with q | q
   ·have b:=zaw q; exact ⟨b.1,by omega,bes_form hw tk0 (.inr (.inl rfl)) q⟩
   ·have b:=zaw q; exact ⟨b.1,by omega,bes_form hw tk0 (.inr (.inl rfl)) q⟩
  obtain ⟨b1,b2,b3,b4⟩ := hb
  have hl0:=(yL p0).2.2.2.2 b1
  obtain ⟨c1,s1,d1,p1⟩ := ck2 p0 s0 d0 (i:=0) zbB zbB
  have hl1:(kid (kid x 0) 0).sub.length=1:=by
   have:=zaQ p1
   rcases b2 with q | q <;> rw [q] at this <;> simp [ye] at this <;> omega
  obtain ⟨c2,s2,d2,p2⟩ := ck2 p1 zbB zbB (i:=0) zbB zbB
  have hy:xL (theT (kid (kid (kid x 0) 0) 0) (if besV M (kid x 0) 8 4=2 then (nd M (kid x 0).form).r else (nd M (kid x 0).form).l))=0:=the0 p2 zbB zbB (by split <;> assumption)
  unfold intoV
  split
  ·exact kL (ck (i:=2) zbB zbB).1 hy ((xY hr).ot h6.1)
  ·exact kL (ck (i:=1) zbB zbB).1 hy ((xY hr).nm (.inr (.inr (.inl h6.1))))
 split
 ·rename_i c
  have k12:=r7.1 c
  have hl:=l2 (.inr k12)
  exact kL (ck (i:=1) zbB zbB).1 (ck (i:=0) zbB zbB).1 ((xY hr).nm (.inr (.inr (.inr k12))))
 split
 ·exact .inl rfl
 ·rename_i c1 c2 c3 c4 c5 c6 c7 c8
  exfalso
  obtain ⟨-,q0,q8⟩ := r8
  exact none9 q0 q8 h c1 c2 c3 c4 c5 c6 c7 c8
theorem do_code {M:List Nd} (hw:Wf M) : ∀ (w:List Int) {x:PTerm},xL x=0→toldB M x=true→InT M w x→(doV M x w).2=0∨(doV M x w).2=121
 | [],x,hc,ht,h=>by rw [doV]; exact cont_code hw hc ht h
 | k :: w,x,hc,ht,h=>by
  obtain ⟨hs,hd,hr⟩ := yz.1 hc
  have hk:=kid_lt h.1 h.2.1
  rw [doV,if_neg (by have:=h.1; have:=h.2.1; omega)]
  have ih:=do_code hw w (yz.2 ⟨by omega,by omega,vu hr rfl ⟨h.1,h.2.1⟩⟩) (told_any ht k) h.2.2
  split
  ·exact ih
  ·exact .inl rfl
theorem done_code {M:List Nd} (hw:Wf M) {x:PTerm} {w:List Int} (ha:je M x=0) (h:InT M w x):(uy M x w).2=0∨(uy M x w).2=121:=by
 obtain ⟨a1,a2⟩ := ahead_ok.1 ha
 have:=do_code hw w (yz.2 a1) a2 h
 unfold uy
 split
 ·exact this
 ·split
  ·exact .inr rfl
  ·exact .inl rfl
end
section
open Gw
mutual
def NormT (M:List Nd):PTerm→Prop
 | .mk k n o f s=>rowV M (.mk k n o f s)=0∧NormL M s
def NormL (M:List Nd):List PTerm→Prop
 | []=>True
 | y :: r=>NormT M y∧NormL M r
end
mutual
theorem norm_fi (M:List Nd) : ∀ (x:PTerm) (way:List Int),fiT M x way=none→NormT M x
 | .mk k n o f s,way,h=>by
  simp only [fiT] at h
  split at h
  ·cases h
  ·rename_i c; simp only [NormT]; exact ⟨Classical.not_not.1 c,norm_fiL M s 0 way h⟩
theorem norm_fiL (M:List Nd) : ∀ (r:List PTerm) (i:Nat) (way:List Int),fiL M i r way=none→NormL M r
 | [],i,way,h=>by simp only [NormL]
 | y :: r,i,way,h=>by
  rw [fiL_cons] at h
  simp only [NormL]
  cases q:fiT M y (way ++ [(i:Int)]) with
  | some w=>rw [q] at h; cases h
  | none=>rw [q] at h; exact ⟨norm_fi M y _ q,norm_fiL M r (i + 1) way h⟩
end
end
section
open Gw
theorem where_ok {M:List Nd} {l:List Hyp} {x:PTerm} {id:Int} (h:(kP M l x id).2=0):inb id M.length=true∧jN M l=true∧xL x=0∧Ty M (zav (scS l)) x true id:=by
 unfold kP at h
 by_cases c:(inb id M.length && jN M l)=true
 ·rw [if_pos c] at h
  rw [Bool.and_eq_true] at c
  by_cases k:xL x ≠ 0
  ·rw [if_pos k] at h; exact absurd h k
  ·rw [if_neg k] at h
   have hk:xL x=0:=by omega
   refine ⟨c.1,c.2,hk,(chkd_iff (yz.1 hk).2.2 _ _).1 ?_⟩
   have hcd:=tyS_cd (M:=M) (depT x) x (scS l) (some id)
   cases ht:tyS M (depT x) x (scS l) (some id) with
   | ok f=>exact ⟨f,rfl⟩
   | no e w =>
    rw [ht] at hcd h
    exact absurd h (cd_pos hcd (by intro f; simp))
 ·rw [if_neg c] at h; exact absurd h zbA
theorem where_of {M:List Nd} {l:List Hyp} {x:PTerm} {id:Int} (h1:inb id M.length=true) (h2:jN M l=true) (h3:xL x=0) (h4:Ty M (zav (scS l)) x true id):(kP M l x id).2=0:=by
 obtain ⟨b,e⟩ := (chkd_iff (yz.1 h3).2.2 (scS l) id).2 h4
 unfold kP
 rw [if_pos (by rw [h1,h2]; rfl),if_neg (fun q=>q h3),e]; rfl
end
section
open Gw
theorem infer_ok {M:List Nd} {l:List Hyp} {x:PTerm} (h:(jO M l x).2=0):jN M l=true∧xL x=0∧Ty M (zav (scS l)) x false (jO M l x).1:=by
 unfold jO at h ⊢
 by_cases c:jN M l=true
 ·rw [if_pos c] at h ⊢
  by_cases k:xL x ≠ 0
  ·rw [if_pos k] at h; exact absurd h k
  ·rw [if_neg k] at h ⊢
   have hk:xL x=0:=by omega
   refine ⟨c,hk,?_⟩
   have hcd:=tyS_cd (M:=M) (depT x) x (scS l) none
   cases ht:tyS M (depT x) x (scS l) none with
   | ok f=>exact (told_iff (yz.1 hk).2.2 _ _).1 ht
   | no e w =>
    rw [ht] at hcd h
    exact absurd h (cd_pos hcd (by intro f; simp))
 ·rw [if_neg c] at h; exact absurd h zbA
theorem infer_of {M:List Nd} {l:List Hyp} {x:PTerm} {f:Int} (h2:jN M l=true) (h3:xL x=0) (h4:Ty M (zav (scS l)) x false f):jO M l x=(f,0):=by
 have e:=(told_iff (yz.1 h3).2.2 (scS l) f).2 h4
 unfold jO
 rw [if_pos h2,if_neg (fun q=>q h3),e]; rfl
theorem at_wy {L:List (List Int)} {j:Nat} (h:j < L.length):at_ [] L (j:Int)=L[j]:=by
 unfold at_; rw [Int.toNat_natCast,List.getD_eq_getElem?_getD,List.getElem?_eq_getElem h]; rfl
theorem ReduceKeeps_true {K:Nat} (hK:1100000 ≤ K) (hh:zds.f K=some true) {rows:List Nd} (hn : ∀ n ∈ rows,n.name.size < 9223372036854775808) (hl:rows.length * 40 ≤ 140737488355328) {hyps:List Hyp} (hy:hyps.length ≤ 1048576) {x:PTerm} (hx:nmT x) (hs:sizeT x ≤ 1048576) (id:Int):zdH.f K rows hyps x id=some true:=by
 obtain ⟨M,ht,hw⟩ := tables14 hn hl
 unfold zdH.f
 rw [ht,zbF,copy12 K x zbB zbB,zbF,Redexes14 zbB hx hw.nodup,zbF]
 simp only [zdo.f,zbF]
 by_cases ha:je M x=0
 rotate_left
 ·have hv:j6 M x=([],je M x):=by unfold j6; rw [if_pos ha]
  rw [hv]; simp [ha,hh]
 have hv:j6 M x=(gaT M x [] [],0):=by unfold j6; rw [if_neg (fun q=>q ha)]
 rw [hv,CheckF_some hw zbB hx zbB,Infer_some hw zbB hx zbB]
 simp only [ne_eq,not_true_eq_false,decide_false,Bool.false_eq_true,if_false,zbF]
 have hlen:=gaT_len M x [] [] zbC
 have hb : ∀ i:Nat,i < (gaT M x [] []).length→i < 60→zdH.b0 (gaT M x [] [],0) K x (some M,some M) (kP M hyps x id).2 hyps id (jO M hyps x) (i:Int)=some (.go ((i + 1:Nat):Int)):=fun i hi h60=>by
  have hin:=ga_in (List.getElem_mem hi)
  have hat:at_ [] (gaT M x [] []) (i:Int)=(gaT M x [] [])[i]:=at_wy hi
  unfold zdH.b0
  rw [if_pos (by simp; omega),copy12 K x zbB zbB,zbF,chk,if_pos (jz zbB (by show (i:Int) < ((gaT M x [] []).length:Int); omega))]
  show (zcY.f K (some M) x (at_ [] (gaT M x [] []) (i:Int))).bind _=_
  rw [hat]
  generalize (gaT M x [] [])[i]=w at hin ⊢
  have hD:DoV M x w=uy M x w:=by unfold DoV; rw [if_neg (fun q=>q ha)]
  rw [Do14 zbB hx hw.nodup,hD,zbF]
  simp only [zdo.f,zbF]
  have hcode:=done_code hw ha hin
  by_cases e:(uy M x w).2=121
  ·rw [if_pos (by simpa using e),wrap_succ zbB]
  have e0:(uy M x w).2=0:=hcode.resolve_right e
  obtain ⟨d1,d2,d3⟩ := done_ok e0
  have hny:=nm_done hx e0
  have hcy:xL (uy M x w).1=0:=by rw [d3]; exact d2
  have hr:=(ahead_ok.1 ha).1.2.2
  have hC:(kP M hyps x id).2=0→(kP M hyps (uy M x w).1 id).2=0:=fun h=>by
   obtain ⟨a,b,c,d⟩ := where_ok h
   exact where_of a b hcy (ty_done hw hr d e0)
  have hI:(jO M hyps x).2=0→jO M hyps (uy M x w).1=((jO M hyps x).1,0):=fun h=>by
   obtain ⟨a,b,c⟩ := infer_ok h
   exact infer_of a hcy (ty_done hw hr c e0)
  rw [if_neg (by simpa using e),if_neg (by simp [e0])]
  generalize (uy M x w).1=y at hny hcy hC hI ⊢
  have hsy:=(yz.1 hcy).1
  have q1:=copy12 K y zbB zbB
  have q2:=CheckF_some (M:=M) (K:=K) (l:=hyps) (x:=y) (id:=id) hw zbB hny zbB
  have q3:=Infer_some (M:=M) (K:=K) (l:=hyps) (x:=y) hw zbB hny zbB
  have q4:=wrap_succ (i:=i) zbB
  by_cases c0:(kP M hyps x id).2=0
  ·have q5:=hC c0
   by_cases ci:(jO M hyps x).2=0
   ·have q6:=hI ci
    simp [c0,chk,q1,q2,q3,q4,q5,ci,q6]
   ·simp [c0,chk,q1,q2,q3,q4,q5,ci]
  ·by_cases ci:(jO M hyps x).2=0
   ·have q6:=hI ci
    simp [c0,chk,q1,q3,q4,ci,q6]
   ·simp [c0,chk,q1,q3,q4,ci]
 have hloop:=iter_brk (b:=fun s=>zdH.b0 (gaT M x [] [],0) K x (some M,some M) (kP M hyps x id).2 hyps id (jO M hyps x) s) (inv:=fun i=>(i:Int)) (s:=((min (gaT M x [] []).length 60:Nat):Int)) (min (gaT M x [] []).length 60) 0 K zbB (fun j _ hj=>hb j zbB zbB) (by
  show zdH.b0 _ _ _ _ _ _ _ _ ((0 + min (gaT M x [] []).length 60:Nat):Int)=_
  unfold zdH.b0
  rw [Nat.zero_add,if_neg (by simp only [Bool.and_eq_true,decide_eq_true_eq]; omega)])
 have hloop:iter (fun s=>zdH.b0 (gaT M x [] [],0) K x (some M,some M) (kP M hyps x id).2 hyps id (jO M hyps x) s) K 0=_:=hloop
 rw [hloop]
 simp [aft,hh]
end
section
open Gw
set_option maxRecDepth 100000
theorem heads14b:zds.f 1100000=some true:=by decide +kernel
end
section
open Gw Go.ChangeShapes Go.WideShapes Go.ChangeAt Go.RowKit
set_option maxRecDepth 100000
theorem ownKnob_none:ownKnob PP.godebug=none:=by kernel_rfl
theorem laidOut_PP:laidOutB PP=true:=by kernel_rfl
theorem trodAll_stays {H:Type} {enc:TypeId × Value→H} {W W':World} {sp:Nat→Bool} : ∀ {ts:List TypeId} {vs:List Value} {ds:List (DataW H)} {ps:List MemPlace},(∀ t ∈ ts,PP.readableRec t=true∧t < PP.types.size) →
  DataW.TrodAll enc PP W 0 (fun _=>true) true ts vs ds ps→(∀ p ∈ ps,W.sameAt W' p)→(∀ p ∈ ps,sp p.block=true)→DataW.TrodAll enc PP W' 0 sp true ts vs ds ps
 | [],vs,ds,ps,_,h,_,_=>by
  obtain ⟨rfl,rfl,rfl⟩ := trodAll_nil h
  exact trodAll_mk0
 | t :: ts,vs,ds,ps,hr,h,h1,h2=>by
  obtain ⟨v,vs,d,ds,p,q,rfl,rfl,rfl,h0,h3⟩ := trodAll_cons h
  have ht:=hr t zbC
  exact trodAll_cons_mk (WideElems.Trod_stays laidOut_PP ht.1 ht.2 h0 (fun x hx=>h1 x (by simp [hx])) (fun x hx=>h2 x (by simp [hx])))
   (trodAll_stays (fun t ht=>hr t (by simp [ht])) h3 (fun x hx=>h1 x (by simp [hx])) (fun x hx=>h2 x (by simp [hx])))
def oth0:Oth:=⟨fun _=>False,[],fun _ h=>by cases h⟩
section
variable {P:Program} {W:World} {b t:Nat} {k:IntKind} {v:Value}
theorem cell_int (ht:P.underlying t=some (.int k)) (h:Cell.okWide P W .any b t v) : ∃ n,v = .int k n∧k.has n:=by
 simp only [Cell.okWide,ht] at h
 cases v <;> simp_all [Cell.ok]
theorem int_of (ht:P.underlying t=some (.int k)) (h:Value.okWide P W .any b t v) : ∃ n,v = .int k n∧k.has n:=by
 unfold Value.okWide at h
 rw [ht] at h
 exact cell_int ht h
end
section
variable {H:Type} {enc:TypeId × Value→H} {P:Program} {W:World} {t:TypeId} {fuel:Nat} {cs:List Value} {x:DataW H × List MemPlace} {sp:Nat→Bool} {hd:Bool} {b0:Nat}
theorem take_one {l:List Value} {o:Nat} {v:Value} (h:(l.drop o).take 1=[v]):l[o]? = some v:=by
 have:((l.drop o).take 1)[0]? = some v:=by rw [h]; rfl
 rw [List.getElem?_take] at this
 simpa using this
theorem fld_int {i off ft:Nat} {k:IntKind} (hf:kA P t i off ft) (hk:P.underlying ft=some (.int k)) (hc:P.cellsOf ft=1) (h:DataW.trod enc P W b0 sp hd fuel t cs=some x) : ∃ n,cs[off]? = some (.int k n):=by
 obtain ⟨fs,fd,hu,hi,rfl,rfl⟩ := hf
 obtain ⟨xs,n,_,_,hl,hx,hall⟩ := DataW.trod_struct hu h
 have h1:=hall i fd hi
 have h2:i < xs.length:=by rw [hx]; exact (Array.getElem?_eq_some_iff.1 hi).1
 rw [List.getElem?_eq_getElem h2,hc] at h1
 obtain ⟨n,e,_⟩ := DataW.trod_int hk h1
 exact ⟨n,take_one e⟩
theorem fld_str {i off ft:Nat} (hf:kA P t i off ft) (hk:P.underlying ft=some .string) (hc:P.cellsOf ft=1) (h:DataW.trod enc P W b0 sp hd fuel t cs=some x) : ∃ s:ByteArray,cs[off]? = some (.string s)∧s.size ≤ maxLen:=by
 obtain ⟨fs,fd,hu,hi,rfl,rfl⟩ := hf
 obtain ⟨xs,n,_,_,hl,hx,hall⟩ := DataW.trod_struct hu h
 have h1:=hall i fd hi
 have h2:i < xs.length:=by rw [hx]; exact (Array.getElem?_eq_some_iff.1 hi).1
 rw [List.getElem?_eq_getElem h2,hc] at h1
 obtain ⟨s,e,_,hs⟩ := DataW.trod_string hk h1
 exact ⟨s,take_one e,hs⟩
theorem slice_of {α:Type} [Inhabited α] {e k:Nat} {C:α→List Value} {Q:α→Prop} {base:Nat} {v:Value} {d:DataW H} {ps:List MemPlace} (ht:P.underlying t=some (.slice e)) (hk:P.cellsOf e=k) (hC : ∀ a,(C a).length=k) (hk0:0 < k)
  (hel : ∀ (n:Nat) (cs:List Value) (x:DataW H × List MemPlace),DataW.trod enc P W 0 (fun _=>true) true n e cs=some x → ∃ a,cs=C a∧Q a)
  (hval:Value.okWide P W .any base t v) (h:DataW.Trod enc P W 0 (fun _=>true) true t v d ps) :
  ∃ (l:List α) (s:SlV),v=s.v∧Rd W k s (l.map C)∧(∀ a ∈ l,Q a)∧(l=[] ∨ ∃ elems spare,d = .slice elems spare∧elems.length=l.length):=by
 obtain ⟨a0,len0,cap0,rfl⟩ := okWide_slice ht hval
 obtain ⟨fuel,hf⟩ := h
 rcases Deep.open_slice ht hf with ⟨h1,h2⟩ | ⟨a,len,cap,m,n,D,Pl,h1,_,hlc,hcm,hm,h2,hx⟩
 ·simp [Value.cells] at h1
  obtain ⟨rfl,rfl,rfl⟩ := h1
  exact ⟨[],SlV.nil,SlV.nil_eq,Rd.nil W k,by simp,.inl rfl⟩
 ·simp [Value.cells] at h1
  obtain ⟨rfl,rfl,rfl⟩ := h1
  have hval2:=hval
  simp only [Value.okWide,ht,Cell.okWide,Cell.ok] at hval2
  obtain ⟨_,_,_,hspot,row,cells,hshape,_⟩ := hval2
  obtain ⟨ab,ao,asp⟩ := a
  obtain rfl:asp=none:=hspot
  simp only at hshape
  have hlt:ab < W.heap.size:=by
   unfold World.shape? at hshape
   cases hh:W.heap[ab]? with
   | none=>rw [hh] at hshape; cases hshape
   | some o=>exact (Array.getElem?_eq_some_iff.1 hh).1
  have hmc:m=cap0:=by rw [hm]; rfl
  obtain ⟨f,hfx⟩ := Deep.choose_lt (α:=α) (n:=len0) (p:=fun i y=>W.cells? 0 ((⟨ab,ao,none⟩ : Addr).add (i * P.cellsOf e)) (P.cellsOf e)=some (C y)∧Q y) (fun i hi=>by
   obtain ⟨cs',hc,ht'⟩ := hx i zbB
   obtain ⟨y,rfl,hq⟩ := hel _ _ _ ht'
   exact ⟨y,hc,hq⟩)
  refine ⟨(List.range len0).map f,⟨some ⟨ab,ao,none⟩,len0,cap0⟩,by rw [SlV.eq],⟨⟨by simp,?_,?_⟩,?_,hlc⟩,?_,.inr ⟨_,_,by simpa using congrArg Prod.fst h2,by simp⟩⟩
  ·intro r hr
   obtain ⟨y,_,rfl⟩ := List.mem_map.1 hr
   exact hC y
  ·intro i r hr
   rw [List.getElem?_map,List.getElem?_map] at hr
   have hi:i < len0:=by
    refine Nat.lt_of_not_le fun q=>?_
    rw [List.getElem?_eq_none (by simpa using q)] at hr; cases hr
   rw [List.getElem?_eq_getElem (by simpa using hi)] at hr
   simp only [List.getElem_range,Option.map_some,Option.some.injEq] at hr
   subst hr
   obtain ⟨h3,_⟩ := hfx i hi
   obtain ⟨_,hl,hc⟩ := World.cells?_some h3
   refine ⟨rfl,fun j v hv=>?_⟩
   have hj:j < k:=by have:=(List.getElem?_eq_some_iff.1 hv).1; rw [hC] at this; exact this
   have h4:=hc j (by rw [hk]; exact hj)
   rw [hv] at h4
   have hadd:((⟨ab,ao,none⟩ : Addr).add (i * P.cellsOf e)).add j=⟨ab,ao + i * k + j,none⟩ := by
    rw [hk]
    unfold Addr.add
    by_cases h5:i * k=0
    ·by_cases h6:j=0
     ·simp [h5,h6]
     ·simp [h5,h6]
    ·by_cases h6:j=0
     ·simp [h5,h6]
     ·simp [h5,h6]
   rw [hadd] at h4
   exact h4
  ·rintro i ⟨_,rfl⟩
   exact hlt
  ·intro y hy
   obtain ⟨i,hi,rfl⟩ := List.mem_map.1 hy
   exact (hfx i (List.mem_range.1 hi)).2
end
instance:Inhabited Nd:=⟨Nd.z⟩
theorem nds_of {H:Type} {enc:TypeId × Value→H} {W:World} {base:Nat} {v:Value} {d:DataW H} {ps:List MemPlace} (hval:Value.okWide PP W .any base uA v) (h:DataW.Trod enc PP W 0 (fun _=>true) true uA v d ps) :
  ∃ (l:List Nd) (s:SlV),v=s.v∧Rd W 4 s (l.map Nd.C)∧(∀ a ∈ l,a.name.size < 9223372036854775808)∧(l=[] ∨ ∃ elems spare,d = .slice elems spare∧elems.length=l.length):=by
 refine slice_of xn.1 zbD Nd.len zbA (fun n cs x hx=>?_) hval h
 obtain ⟨a,ha⟩ := fld_int fv_Nd_kind un_api_Kind zbD hx
 obtain ⟨b,hb,hbs⟩ := fld_str fv_Nd_name yM zbD hx
 obtain ⟨c,hc⟩ := fld_int fv_Nd_l un_int zbD hx
 obtain ⟨d,hd⟩ := fld_int fv_Nd_r un_int zbD hx
 obtain ⟨fs,fd,hu,_⟩ := fv_Nd_kind
 obtain ⟨xs,n',_,_,hl,_⟩ := DataW.trod_struct hu hx
 have hl:cs.length=4:=hl.trans zbD
 refine ⟨⟨a,b,c,d⟩,?_,by have:maxLen=9223372036854775807:=rfl; show b.size < _; omega⟩
 match cs,hl with
 | [v0,v1,v2,v3],_ =>
  simp at ha hb hc hd
  subst ha hb hc hd
  rfl
theorem bulk_one {H:Type} (d:DataW H):1 ≤ Rows.uptoBulk d:=by
 cases d with
 | lit l=>cases l <;> simp [Rows.uptoBulk]
 | nil=>simp [Rows.uptoBulk]
 | ptr d=>simp [Rows.uptoBulk]
 | slice elems spare=>simp [Rows.uptoBulk]
 | agg parts=>simp [Rows.uptoBulk]
 | iface t d=>simp [Rows.uptoBulk]
 | map entries=>simp [Rows.uptoBulk]
 | held h=>simp [Rows.uptoBulk]
theorem bulk_part {H:Type} {d:DataW H} {l:List (DataW H)} (h:d ∈ l):Rows.uptoBulk d ≤ Rows.uptoBulkAll l:=by
 induction l with
 | nil=>cases h
 | cons x r ih =>
  simp only [Rows.uptoBulkAll]
  cases List.mem_cons.1 h with
  | inl e=>subst e; omega
  | inr e=>have:=ih e; omega
theorem bulk_len {H:Type} (l:List (DataW H)):l.length ≤ Rows.uptoBulkAll l:=by
 induction l with
 | nil=>simp [Rows.uptoBulkAll]
 | cons x r ih=>have:=bulk_one x; simp only [Rows.uptoBulkAll,List.length_cons]; omega
theorem small_len {H:Type} {α:Type} {l:List α} {d:DataW H} {ds:List (DataW H)} (hk:Rows.uptoSmall H ds=true) (hd:d ∈ ds) (h:l=[] ∨ ∃ elems spare,d = .slice elems spare∧elems.length=l.length):l.length ≤ 1048576:=by
 rcases h with rfl | ⟨elems,spare,rfl,he⟩
 ·simp
 ·have h1:=bulk_part hd
  have h2:=bulk_len elems
  have h3:Rows.uptoBulkAll ds ≤ 1048576:=by simpa [Rows.uptoSmall] using hk
  simp only [Rows.uptoBulk] at h1
  omega
def Held (W:World) (Z:List OA):Prop := ∀ z ∈ Z,∃ F,z.holds W F
theorem Held.nil {W:World}:Held W []:=fun _ h=>by cases h
theorem Held.cons {W:World} {z:OA} {Z:List OA} (h : ∃ F,z.holds W F) (hz:Held W Z):Held W (z :: Z):=fun x hx=>by
 rcases List.mem_cons.1 hx with rfl | hx
 ·exact h
 ·exact hz x hx
theorem Held.s {W:World} {Z:List OA} {k:Nat} {α:Type} {C:α→List Value} {s:SlV} {l:List α} (hr:Rd W k s (l.map C)) (hl:l.length ≤ 140737488355328) (hz:Held W Z):Held W (fS k C s l :: Z) :=
 .cons ⟨s.fp,⟨hr,hl⟩,fun _=>Iff.rfl⟩ hz
theorem stheld {W:World} {Z:List OA} (h:Held W Z):St (fun _=>False) oth0 W W [] Z :=
 ⟨fun _=>False,fun _ h=>h.elim,fun _ h=>h.elim,Chg.refl _ _,trivial,fun z hz=>by
  obtain ⟨F,hF⟩ := h z hz
  exact ⟨F,hF,fun i _ q=>q.elim (fun x=>x) (fun x=>x)⟩,fun d hd=>absurd hd (by simp [oth0])⟩
instance:Inhabited Term:=⟨Term.z⟩
instance:Inhabited PTerm:=⟨PTerm.z⟩
theorem bulk_get {H:Type} {xs:List (DataW H × List MemPlace)} {i:Nat} {z:DataW H × List MemPlace} (h:xs[i]? = some z):Rows.uptoBulk z.1 ≤ Rows.uptoBulkAll (xs.map (·.1)) :=
 bulk_part (List.mem_map.2 ⟨z,List.mem_of_getElem? h,rfl⟩)
theorem bigA_of {w:World} {μ α:Type} {R:μ→α→OA} : ∀ {ms:List μ} {l:List α},ms.length=l.length→(∀ (i:Nat) m x,ms[i]? = some m→l[i]? = some x → ∃ F,(R m x).holds w F) → ∃ F,(bigA R ms l).holds w F
 | [],[],_,_=>⟨fun _=>False,trivial,fun _ x=>x⟩
 | m :: ms,x :: xs,hl,h=>by
  obtain ⟨F,hF⟩ := h 0 m x rfl rfl
  obtain ⟨G,hG⟩ := bigA_of (ms:=ms) (l:=xs) (by simpa using hl) fun i m x h1 h2=>h (i + 1) m x (by simpa using h1) (by simpa using h2)
  exact ⟨fun i=>F i∨G i,F,G,hF,hG,fun _=>Iff.rfl⟩
 | [],_ :: _,hl,_=>by simp at hl
 | _ :: _,[],hl,_=>by simp at hl
theorem nmL_of : ∀ {l:List PTerm},(∀ x ∈ l,nmT x)→nmL l
 | [],_=>trivial
 | x :: l,h=>⟨h x zbC,nmL_of fun y hy=>h y (by simp [hy])⟩
theorem sizeL_bulk {H:Type} : ∀ {l:List PTerm} {ds:List (DataW H)},l.length=ds.length→(∀ (i:Nat) x d,l[i]? = some x→ds[i]? = some d→sizeT x ≤ Rows.uptoBulk d)→sizeL l ≤ Rows.uptoBulkAll ds
 | [],[],_,_=>by simp [sizeL]
 | x :: l,d :: ds,hl,h=>by
  have h1:=h 0 x d rfl rfl
  have h2:=sizeL_bulk (l:=l) (ds:=ds) (by simpa using hl) fun i x d h3 h4=>h (i + 1) x d (by simpa using h3) (by simpa using h4)
  simp only [sizeL,Rows.uptoBulkAll]; omega
 | [],_ :: _,hl,_=>by simp at hl
 | _ :: _,[],hl,_=>by simp at hl
theorem term_trod {H:Type} {enc:TypeId × Value→H} {W:World} (fuel:Nat) : ∀ {cs:List Value} {x:DataW H × List MemPlace},DataW.trod enc PP W 0 (fun _=>true) true fuel zo cs=some x→Rows.uptoBulk x.1 ≤ 1048576 →
  ∃ (m:Term) (y:PTerm),cs=Term.C m∧(m.kind=y.kind∧m.name=y.name∧m.other=y.other∧m.form=y.form)∧(nmT y∧sizeT y ≤ Rows.uptoBulk x.1) ∧ ∃ F,(vd m.sub y.sub).holds W F:=by
 induction fuel using Nat.strongRecOn with
 | _ fuel ih =>
 intro cs x hx hb
 obtain ⟨k,hk⟩ := fld_int fv_Term_kind un_api_TermKind zbD hx
 obtain ⟨n,hn,hns⟩ := fld_str fv_Term_name yM zbD hx
 obtain ⟨o,ho,hos⟩ := fld_str fv_Term_other yM zbD hx
 obtain ⟨f,hf⟩ := fld_int fv_Term_form un_int zbD hx
 obtain ⟨fs,fd,hu,hi,hoff,hty⟩ := fv_Term_sub
 obtain ⟨xs,n1,hfu,hxx,hl,hlen,hall⟩ := DataW.trod_struct hu hx
 have hl:cs.length=5:=hl.trans zbD
 have h1:=hall 4 fd hi
 have h2:4 < xs.length:=by rw [hlen]; exact (Array.getElem?_eq_some_iff.1 hi).1
 rw [hoff,hty,show PP.cellsOf T_L_api_Term=1 from by kernel_rfl,List.getElem?_eq_getElem h2] at h1
 have hbx:1 + Rows.uptoBulk (xs[4]).1 ≤ Rows.uptoBulk x.1:=by
  have:=bulk_get (List.getElem?_eq_getElem h2)
  rw [hxx]
  simp only [Rows.uptoBulk]
  omega
 have hbz:Rows.uptoBulk (xs[4]).1 ≤ 1048576:=by omega
 have hmax:maxLen=9223372036854775807:=rfl
 have hcs : ∀ v4,cs[4]? = some v4→cs=[.int .i64 k,.string n,.string o,.int .i64 f,v4]:=by
  intro v4 h4
  match cs,hl with
  | [c0,c1,c2,c3,c4],_ =>
   simp at hk hn ho hf h4
   subst hk hn ho hf h4
   rfl
 rcases DataW.trod_slice zz.1 h1 with ⟨e1,e2⟩ | ⟨a,len,cap,elems,rest,n2,hfu2,e1,e2,_,hlc,hcm,hel,hget,_⟩
 ·have h4:=hcs _ (take_one e1)
  refine ⟨⟨k,n,o,f,SlV.nil⟩,.mk k n o f [],?_,⟨rfl,rfl,rfl,rfl⟩,⟨⟨by show n.size < _; omega,by show o.size < _; omega,trivial⟩,by rw [yI]; simp only [PTerm.sub,sizeL]; omega⟩,fun _=>False,(0,[]),fun _=>False,fun _=>False,⟨⟨Sl.nil W 5,by simp⟩,fun i=>⟨fun x=>x.elim,fun x=>absurd rfl x.1⟩⟩,⟨trivial,fun _ x=>x⟩,fun _=>⟨fun x=>x.elim,fun x=>x.elim id id⟩⟩
  rw [h4,SlV.nil_eq]; rfl
 ·have h4:=hcs _ (take_one e1)
  have hbe:Rows.uptoBulkAll (elems.map (·.1)) ≤ 1048576:=by
   rw [e2] at hbz
   simp only [Rows.uptoBulk] at hbz
   omega
  have hlen2:len ≤ 1048576:=by
   have:=bulk_len (elems.map (·.1))
   rw [List.length_map,hel] at this
   omega
  have hone : ∀ i,i < len → ∃ q:Term × PTerm,(W.cells? 0 (a.add (i * PP.cellsOf zo)) (PP.cellsOf zo)=some (Term.C q.1))∧(q.1.kind=q.2.kind∧q.1.name=q.2.name∧q.1.other=q.2.other∧q.1.form=q.2.form)∧(nmT q.2 ∧ ∀ z,elems[i]? = some z→sizeT q.2 ≤ Rows.uptoBulk z.1) ∧ ∃ F,(vd q.1.sub q.2.sub).holds W F:=by
   intro i hi'
   have h5:=hget i hi'
   have h6:i < elems.length:=by omega
   rw [List.getElem?_eq_getElem h6] at h5
   cases hc:W.cells? 0 (a.add (i * PP.cellsOf zo)) (PP.cellsOf zo) with
   | none=>rw [hc] at h5; simp at h5
   | some cs' =>
    rw [hc] at h5
    simp only [zbF] at h5
    obtain ⟨m,y,rfl,hm,hy,hF⟩ := ih n2 zbB h5 (by have:=bulk_get (List.getElem?_eq_getElem h6); omega)
    exact ⟨(m,y),rfl,hm,⟨hy.1,fun z hz=>by cases (List.getElem?_eq_getElem h6).symm.trans hz; exact hy.2⟩,hF⟩
  obtain ⟨g,hg⟩ := Deep.choose_lt (α:=Term × PTerm) hone
  have hsz:PP.cellsOf zo=5:=by kernel_rfl
  refine ⟨⟨k,n,o,f,⟨some a,len,cap⟩⟩,.mk k n o f ((List.range len).map fun i=>(g i).2),?_,⟨rfl,rfl,rfl,rfl⟩,⟨⟨by show n.size < _; omega,by show o.size < _; omega,nmL_of fun y hy=>?_⟩,?_⟩,?_⟩
  ·rw [h4]; show _=[_,_,_,_,SlV.v _]; rw [SlV.eq]
  ·obtain ⟨i,hi',rfl⟩ := List.mem_map.1 hy
   exact (hg i (List.mem_range.1 hi')).2.2.1.1
  ·have hs:sizeL ((List.range len).map fun i=>(g i).2) ≤ Rows.uptoBulkAll (elems.map (·.1)):=by
    refine sizeL_bulk (by simp [hel]) fun i y d h1 h2=>?_
    have hi':i < len:=by
     refine Nat.lt_of_not_le fun q=>?_
     rw [List.getElem?_eq_none (by simpa using q)] at h1; cases h1
    rw [List.getElem?_map] at h1 h2
    rw [List.getElem?_range hi'] at h1
    simp only [Option.map_some,Option.some.injEq] at h1
    subst h1
    cases hz:elems[i]? with
    | none=>rw [hz] at h2; cases h2
    | some z=>rw [hz] at h2; cases h2; exact (hg i hi').2.2.1.2 z hz
   rw [yI]
   have:Rows.uptoBulkAll (elems.map (·.1)) ≤ Rows.uptoBulk (xs[4]).1:=by
    rw [e2]; simp only [Rows.uptoBulk]; omega
   simp only [PTerm.sub]; omega
  ·have hsl:Sl W 5 ⟨some a,len,cap⟩ (((List.range len).map fun i=>(g i).1).map Term.C):=by
    refine ⟨by simp,?_,?_⟩
    ·intro r hr
     obtain ⟨y,_,rfl⟩ := List.mem_map.1 hr
     exact Term.len y
    ·intro i r hr
     rw [List.getElem?_map,List.getElem?_map] at hr
     have hi':i < len:=by
      refine Nat.lt_of_not_le fun q=>?_
      rw [List.getElem?_eq_none (by simpa using q)] at hr; cases hr
     rw [List.getElem?_eq_getElem (by simpa using hi')] at hr
     simp only [List.getElem_range,Option.map_some,Option.some.injEq] at hr
     subst hr
     obtain ⟨_,_,hc0⟩ := World.cells?_some (hg 0 zbB).1
     obtain ⟨ab,ao,asp⟩ := a
     have hsp:asp=none:=by
      have h7:=hc0 0 (by rw [hsz]; decide)
      simp only [Nat.zero_mul,Addr.add,if_true] at h7
      cases asp with
      | none=>rfl
      | some q =>
       unfold World.cell? at h7
       simp only [Option.isSome_some,if_true] at h7
       split at h7
       ·exact absurd h7.symm (by simp [Term.C])
       ·exact absurd h7.symm (by simp [Term.C])
     subst hsp
     obtain ⟨_,_,hc⟩ := World.cells?_some (hg i hi').1
     refine ⟨rfl,fun j v hv=>?_⟩
     have hj:j < 5:=by have:=(List.getElem?_eq_some_iff.1 hv).1; rw [Term.len] at this; exact this
     have h8:=hc j (by rw [hsz]; exact hj)
     rw [hv] at h8
     have hadd:((⟨ab,ao,none⟩ : Addr).add (i * PP.cellsOf zo)).add j=⟨ab,ao + i * 5 + j,none⟩ := by
      rw [hsz]
      unfold Addr.add
      by_cases h5:i * 5=0
      ·by_cases h6:j=0
       ·simp [h5,h6]
       ·simp [h5,h6]
      ·by_cases h6:j=0
       ·simp [h5,h6]
       ·simp [h5,h6]
     rw [hadd] at h8
     exact h8
   have hbig : ∃ F,(bigA xx ((List.range len).map fun i=>(g i).1) ((List.range len).map fun i=>(g i).2)).holds W F:=by
    refine bigA_of zbC fun i m x h1 h2=>?_
    rw [List.getElem?_map] at h1 h2
    have hi':i < len:=by
     refine Nat.lt_of_not_le fun q=>?_
     rw [List.getElem?_eq_none (by simpa using q)] at h1; cases h1
    rw [List.getElem?_range hi'] at h1 h2
    simp only [Option.map_some,Option.some.injEq] at h1 h2
    subst h1 h2
    obtain ⟨_,he,_,F,hF⟩ := hg i hi'
    have:=zbr (s:=(g i).1.sub) hF
    rw [show mT (g i).2 (g i).1.sub=(g i).1 from by rw [mT,← he.1,← he.2.1,← he.2.2.1,← he.2.2.2]] at this
    exact ⟨F,this⟩
   obtain ⟨F,hF⟩ := hbig
   exact ⟨_,fTerms_mk (F:=fun i=>((List.range len).map fun i=>(g i).1) ≠ []∧i=_) ⟨⟨hsl,by simp; omega⟩,fun _=>Iff.rfl⟩ hF⟩
theorem term_of {H:Type} {enc:TypeId × Value→H} {W:World} {v:Value} {d:DataW H} {ds:List (DataW H)} {ps:List MemPlace} {base:Nat} (hval:Value.okWide PP W .any base zo v) (h:DataW.Trod enc PP W 0 (fun _=>true) true zo v d ps) (hk:Rows.uptoSmall H ds=true) (hd:d ∈ ds) :
  ∃ (y:PTerm) (s:SlV),v = .agg (Term.C (⟨y.kind,y.name,y.other,y.form,s⟩ : Term)).toArray∧(nmT y∧sizeT y ≤ 1048576) ∧ ∃ F,(zg s y.sub).holds W F:=by
 obtain ⟨fuel,hf⟩ := h
 have hb:Rows.uptoBulk d ≤ 1048576:=by
  have h1:=bulk_part hd
  have h3:Rows.uptoBulkAll ds ≤ 1048576:=by simpa [Rows.uptoSmall] using hk
  omega
 obtain ⟨m,y,hc,he,hn,hF⟩ := term_trod fuel hf hb
 have hu : ∃ fs,PP.underlying zo=some (.struct fs):=by
  obtain ⟨fs,fd,hu,_⟩ := fv_Term_sub; exact ⟨fs,hu⟩
 obtain ⟨fs,hu⟩ := hu
 unfold Value.okWide at hval
 rw [hu] at hval
 obtain ⟨cs,rfl,_⟩ := hval
 refine ⟨y,m.sub,?_,⟨hn.1,Nat.le_trans hn.2 hb⟩,hF⟩
 have hm:m=(⟨y.kind,y.name,y.other,y.form,m.sub⟩ : Term):=by rw [← he.1,← he.2.1,← he.2.2.1,← he.2.2.2]
 rw [← hm]
 have hc':cs.toList=Term.C m:=hc
 rw [← hc']
theorem Held.f {W:World} {Z:List OA} {s:SlV} {l:List PTerm} (h : ∃ F,(zg s l).holds W F) (hz:Held W Z):Held W (zg s l :: Z) := .cons h hz
end
section
open Gw Go.ChangeShapes Go.WideShapes Go.ChangeAt Go.RowKit
set_option maxRecDepth 100000
theorem gEt:PP.globalNamed "errors.errorType" = some 0:=by kernel_rfl
theorem gRt:(PP.cutTypes.find? (·.1 == "internal/reflectlite.rtype")).map (·.2)=some 229:=by kernel_rfl
theorem gSize:PP.types.size=289:=by kernel_rfl
theorem gRow:((List.range 289).filter fun t=>PP.rowNamed t [101,114,114,111,114])=[107]:=by kernel_rfl
theorem gHandle:typeHandle PP 107 = .pointer (some ⟨4,107,none⟩):=by kernel_rfl
theorem et_core {W:World} (h:handlesMet PP [("errors.errorType",Rows.laid_errors_errorType)] W):Et W:=by
 obtain ⟨name,u,ty,e1,e2,e3,e4,e5⟩ := h _ (List.mem_singleton.2 rfl)
 have en:name=[101,114,114,111,114]:=(zbE e1).symm
 subst en
 obtain rfl:=zbE (gRt.symm.trans e2)
 have hm:ty ∈ (List.range 289).filter fun t=>PP.rowNamed t [101,114,114,111,114]:=List.mem_filter.2 ⟨List.mem_range.2 (by rw [← gSize]; exact e3),e4⟩
 rw [gRow] at hm
 obtain rfl:=List.mem_singleton.1 hm
 rw [gHandle] at e5
 intro j v hj
 cases j with
 | zero=>simp at hj; subst hj; simpa [etV] using World.var?_cell gEt e5 0
 | succ j=>simp at hj
theorem Held.et {W:World} {Z:List OA} (h:Et W) (hz:Held W Z):Held W (oEt :: Z) := .cons ⟨fun i=>i=0,h,fun _=>Iff.rfl⟩ hz
-- hypotheses
instance:Inhabited Hyp:=⟨Hyp.z⟩
theorem hyp_trod {H:Type} {enc:TypeId × Value→H} {W:World} {n:Nat} {cs:List Value} {x:DataW H × List MemPlace} (hx:DataW.trod enc PP W 0 (fun _=>true) true n T_Hyp cs=some x) : ∃ a:Hyp,cs=Hyp.C a∧True:=by
 obtain ⟨a,ha,has⟩ := fld_str fv_Hyp_name yM zbD hx
 obtain ⟨b,hb⟩ := fld_int fv_Hyp_form un_int zbD hx
 obtain ⟨fs,fd,hu,_⟩ := fv_Hyp_name
 obtain ⟨xs,n',_,_,hl,_⟩ := DataW.trod_struct hu hx
 have hl:cs.length=2:=hl.trans zbD
 refine ⟨⟨a,b⟩,?_,trivial⟩
 match cs,hl with
 | [v0,v1],_ =>
  simp at ha hb
  subst ha hb
  rfl
theorem hyps_of {H:Type} {enc:TypeId × Value→H} {W:World} {base:Nat} {v:Value} {d:DataW H} {ps:List MemPlace} (hval:Value.okWide PP W .any base jc v) (h:DataW.Trod enc PP W 0 (fun _=>true) true jc v d ps) :
  ∃ (l:List Hyp) (s:SlV),v=s.v∧Rd W 2 s (l.map Hyp.C)∧(∀ a ∈ l,True)∧(l=[] ∨ ∃ elems spare,d = .slice elems spare∧elems.length=l.length) :=
 slice_of sl_L_api_Hyp.1 zbD Hyp.len zbA (fun n cs x hx=>hyp_trod hx) hval h
end
section
open Gw Go.ChangeShapes Go.WideShapes Go.ChangeAt Go.RowKit
set_option maxRecDepth 100000
def tz64:List Int:=Lib.deBruijn64tab.map fun (z:Nat)=>(z:Int)
def tz32:List Int:=Lib.deBruijn32tab.map fun (z:Nat)=>(z:Int)
theorem laidMet_tail {P:Program} {w:World} {x:String × DataW Unit} {l:List (String × DataW Unit)} (h:laidMet P (x :: l) w):laidMet P l w:=by
 obtain ⟨ps,⟨g,t,cs,fuel,p,q,_,_,_,_,hv,rfl⟩,hn,hr⟩ := h
 exact ⟨q,hv,(List.nodup_append.1 hn).2.1,fun b off hp=>hr b off (List.mem_append_right _ hp)⟩
theorem post_old {H:Type} {enc:TypeId × Value→H} {P:Program} {f:Func} {s:ChangeSpec} {apart fresh handsOn again:Bool} {W W':World} {args:Array Value} {v:Value} {ds gs:List (DataW H)} {before pa pv:List MemPlace}
  (hW:DataW.Whole enc P f.params.toList s.vars apart W args.toList ds gs before)
  (hres : ∀ (b:Nat) (sp:Nat→Bool) (hd:Bool),DataW.TrodAll enc P W' b sp hd f.resultTypes.toList (v.resultList f.resultTypes.size) (s.fn H (ds ++ gs)).results [])
  (hargs : ∀ sp:Nat→Bool,(∀ p ∈ before,sp p.block=true)→DataW.TrodAll enc P W' 0 sp true f.params.toList args.toList (s.fn H (ds ++ gs)).args pa)
  (hvars : ∀ sp:Nat→Bool,(∀ p ∈ before,sp p.block=true)→DataW.TrodVars enc P W' sp s.vars (s.fn H (ds ++ gs)).vars pv)
  (hps:before=pa ++ pv) (hk:W.keptBut W' (· ∈ before)) (hfz : ∀ a,a.block < W.heap.size→W'.frozen? a=W.frozen? a)
  (hok : ∀ (j:Nat) (t:TypeId) (r:Value),f.resultTypes[j]? = some t→(v.resultList f.resultTypes.size)[j]? = some r→Value.okWide P W' .any 0 t r) :
  s.post enc P f apart fresh handsOn again W args v W':=by
 have hlt : ∀ p ∈ before,p.block < W.heap.size:=fun p hp=>hW.lt p hp
 have h0 : ∀ p ∈ before,(fun b=>decide (b < W.heap.size)) p.block=true:=fun p hp=>decide_eq_true (hlt p hp)
 have hin : ∀ p ∈ before,p ∈ pa∨p ∈ pv:=fun p hp=>List.mem_append.1 (hps ▸ hp)
 have hin' : ∀ p,p ∈ ([] ++ pa) ++ pv→p ∈ before:=fun p hp=>by rw [hps]; simpa using hp
 refine ⟨ds,gs,before,[],pa,pv,hW,hres _ _ _,hargs _ h0,hvars _ h0,World.keptBut_mono (fun p hp=>⟨hp,.inr (hin p hp)⟩) hk,fun _=>?_⟩
 obtain ⟨_,_,_,_,_,hz,hn⟩ := hW
 refine ⟨hok,_,_,([] ++ pa) ++ pv,⟨[] ++ pa,pv,trodAll_append (hargs _ fun _ _=>rfl) (hres _ _ _),hvars _ (fun _ _=>rfl),rfl,fun b off hp=>?_,fun ha=>?_⟩,fun p hp _=>hin' p hp⟩
 ·have hb:=hin' _ hp
  rw [hfz _ (hlt _ hb)]; exact hz b off hb
 ·have:=hn ha
  rw [hps] at this
  simpa using this
theorem pw_core {W:World} {rest:List (String × DataW Unit)} (h:laidMet PP (("internal/strconv.uint64pow10",Rows.laid_internal_strconv_uint64pow10) :: rest) W):Pw W :=
 Lib.tabIs_of_head (rest:=rest) gPw (t:=T_20_uint64) (e:=T_uint64) (n:=20) zbD ar_20_uint64.1 zbD zbD zbD h
theorem Held.pw {W:World} {Z:List OA} (h:Pw W) (hz:Held W Z):Held W (oPw :: Z) := .cons ⟨fun i=>i=1,⟨h,fun _=>Iff.rfl⟩⟩ hz
instance:Inhabited ByteArray:=⟨ByteArray.empty⟩
end
section
open Gw Go.ChangeShapes Go.WideShapes Go.ChangeAt Go.RowKit
set_option maxRecDepth 100000
theorem laid_four {W:World} (h:laidMetH PP [("math/bits.deBruijn32tab",Rows.laid_math_bits_deBruijn32tab),("math/bits.deBruijn64tab",Rows.laid_math_bits_deBruijn64tab),("internal/strconv.uint64pow10",Rows.laid_internal_strconv_uint64pow10),("errors.errorType",Rows.laid_errors_errorType)] W):Pw W∧Et W:=by
 have h':laidMet PP [("math/bits.deBruijn32tab",Rows.laid_math_bits_deBruijn32tab),("math/bits.deBruijn64tab",Rows.laid_math_bits_deBruijn64tab),("internal/strconv.uint64pow10",Rows.laid_internal_strconv_uint64pow10)] W∧handlesMet PP [("errors.errorType",Rows.laid_errors_errorType)] W:=h
 exact ⟨pw_core (laidMet_tail (laidMet_tail h'.1)),et_core h'.2⟩
end
section
open Gw Go.ChangeShapes Go.WideShapes Go.ChangeAt Go.RowKit
set_option maxRecDepth 100000
namespace LawReduceKeeps
theorem contract (H:Type) (enc:TypeId × Value→H) (W:World) (base:Nat) (args:Array Value) (ds gs:List (DataW H)) (before:List MemPlace)
  (hval : ∀ (j:Nat) t v,xD.params[j]? = some t→args[j]? = some v→Value.okWide PP W .any base t v)
  (hW:DataW.Whole enc PP xD.params.toList Rows.reduceKeepsSpec.vars false W args.toList ds gs before) (hL:laidMetH PP Rows.reduceKeepsUptoRow.laid W) (hsm:Rows.uptoSmall H (ds ++ gs)=true) :
  Calls PP yu args W fun e W' => ∃ v,e = .returned v∧Rows.reduceKeepsSpec.post enc PP xD false true false false W args v W':=by
 have hW':=hW
 have hlt:=hW.lt
 obtain ⟨p,q,hA0,hV,rfl,hfz,hnd⟩ := hW
 have hA:DataW.TrodAll enc PP W 0 (fun _=>true) true xD.params.toList args.toList ds p:=hA0
 have hpar:xD.params = #[uA,jc,zo,xh]:=by kernel_rfl
 rw [hpar] at hA hval
 obtain ⟨v0,v1,v2,v3,d0,d1,d2,d3,p0,p1,p2,p3,rfl,rfl,rfl,h0,h1,h2,h3⟩ := trodAll_four hA
 obtain ⟨rfl,rfl⟩ := trodVars_none hV
 obtain ⟨a0,s0,rfl,hrd0,hnm0,hsl0⟩ := nds_of (hval 0 _ _ rfl rfl) h0
 have hln0:=small_len hsm zbC hsl0
 obtain ⟨a1,s1,rfl,hrd1,hnm1,hsl1⟩ := hyps_of (hval 1 _ _ rfl rfl) h1
 have hln1:=small_len hsm zbC hsl1
 obtain ⟨a2,s2,rfl,⟨hnm2,hbg2⟩,hf2⟩ := term_of (hval 2 _ _ rfl rfl) h2 hsm zbC
 obtain ⟨a3,rfl,hr3⟩ := int_of (k := .i64) un_int (hval 3 _ _ rfl rfl)
 have S:=stheld (W:=W) (.s hrd0 zbB (.s hrd1 zbB (.f hf2 (.et (laid_four hL).2 (.pw (laid_four hL).1 .nil)))))
 refine (law14_ReduceKeeps_st S (ReduceKeeps_true (K:=1100000) zbB heads14b hnm0 zbB hln1 hnm2 hbg2 a3)).mono fun e W' ⟨v,he,hv,hS⟩ => ?_
 subst hv
 have hx:=hS.frame
 refine ⟨_,he,post_old (pa:=p0 ++ p1 ++ p2 ++ p3) (pv:=[]) hW' (fun _ _ _=>trodAll_cons_mk (shut_bool un_bool _) trodAll_mk0) (fun sp hsp=>?_) (fun _ _=>rfl) zbC ((Ext.below hx).frame _) hx.froz (ok_one zbD rfl (okWide_bool_mk un_bool _))⟩
 rw [hpar]
 refine trodAll_stays (ts:=[uA,jc,zo,xh]) (fun t ht=>?_) hA (fun p hp=>(Ext.below hx).same (hlt p (by simpa using hp))) (fun p hp=>hsp p (by simpa using hp))
 simp only [List.mem_cons,List.not_mem_nil,or_false] at ht
 rcases ht with rfl | rfl | rfl | rfl <;> exact ⟨by kernel_rfl,of_decide_eq_true zbD⟩
noncomputable def laidWorld0 (os:Os):World :=
 { World.holding PP os ⟨#[],#[],[]⟩ with heap:=(World.holding PP os ⟨#[],#[],[]⟩).heap.modify 0 fun
   | .cells _ t frozen => .cells #[etV] t frozen
   | o=>o }
noncomputable def laidWorld1 (os:Os):World :=
 { laidWorld0 os with heap:=(laidWorld0 os).heap.modify 3 fun
   | .cells _ t frozen => .cells (tz64.map (Value.int .u8)).toArray t frozen
   | o=>o }
noncomputable def laidWorld2 (os:Os):World :=
 { laidWorld1 os with heap:=(laidWorld1 os).heap.modify 2 fun
   | .cells _ t frozen => .cells (tz32.map (Value.int .u8)).toArray t frozen
   | o=>o }
noncomputable def laidWorld (os:Os):World :=
 { laidWorld2 os with heap:=(laidWorld2 os).heap.modify 1 fun
   | .cells _ t frozen => .cells (Lib.pow10Tab.map (Value.int .u64)).toArray t frozen
   | o=>o }
def argsN:Array Value := #[.slice none 0 0,.slice none 0 0,.agg #[.int .i64 0,.string ByteArray.empty,.string ByteArray.empty,.int .i64 0,.slice none 0 0],.int .i64 0]
theorem laid_met (os:Os):laidMetH PP Rows.reduceKeepsUptoRow.laid ((laidWorld os).forCall (fun _ _=>0) ⟨#[],argsN,[]⟩).memory :=
 laidMetH_of_parts (laidMet_of_run' 8 zbD zbD) zbD
def ddN (H:Type):List (DataW H):=[.nil,.nil,.agg [.lit (.int .i64 0),.lit (.string []),.lit (.string []),.lit (.int .i64 0),.nil],.lit (.int .i64 0)]
theorem reads (os:Os) {H:Type} (enc:TypeId × Value→H) : ∃ places,DataW.whole enc PP ((laidWorld os).forCall (fun _ _=>0) ⟨#[],argsN,[]⟩).memory xD.params.toList Rows.reduceKeepsSpec.vars false argsN.toList 8=some (ddN H,[],places) :=
 ⟨[],by kernel_rfl⟩
theorem lifted (os:Os) (started:os.Started) (H:Type) (enc:TypeId × Value→H) (F:Stop.Interp) :
  ReturnsInHanded {} Tryz.checked os yu .any ((Rows.OpenSpec.upto Rows.reduceKeepsSpec).preRow enc PP xD Rows.reduceKeepsUptoRow.domain false Rows.reduceKeepsUptoRow.laid) (((Rows.OpenSpec.upto Rows.reduceKeepsSpec).at F).post enc PP xD false true false false):=by
 obtain ⟨places,hx⟩ := reads os enc
 refine returnsInHanded_of_row (C:=Tryz.checked) (s:=Rows.OpenSpec.upto Rows.reduceKeepsSpec) ownKnob_none started zbD ud
  (witness_row_at (enc:=enc) (C:=Tryz.checked) false (laidWorld os) argsN rfl zbD zbD zbD
   (OpenSpec.preRow_of_cond 8 hx zbD (fun k hk=>by cases hk; kernel_rfl) zbD (laid_met os))) ?_
 intro W base args ds gs before hval hW _ hcond _ hL _ _
 exact contract H enc W base args ds gs before hval hW hL (hcond _ rfl)
theorem said:Rows.ReduceKeepsUptoSaid :=
 OpenClaim.holds_of_cond yu xD rfl rfl rfl rfl rfl rfl rfl ⟨rfl,rfl,rfl,rfl,rfl⟩ rfl rfl rfl rfl rfl zbD ud zbD
  (of_decide_eq_true zbD) (by unfold Func.isWrapper; first | (rw [if_pos (by decide +kernel)]; kernel_rfl) | (rw [if_neg (by decide +kernel)]; exact ⟨rfl,rfl⟩))
  (fun os started H enc _ F=>by rw [OpenClaim.pre_eq_preRow]; exact lifted os started H enc F)
theorem plain (f:FuncId) (fn:Func) (hf:Tryz.pinned.checked.prog.funcNamed "dictum/dictumlaw14.ReduceKeeps" = some f) (hfn:Tryz.pinned.checked.prog.funcs[f]? = some fn) :
  true=Tryz.pinned.checked.prog.looks [] ∧ ∀ (j:Nat) t,fn.params[j]? = some t→Tryz.pinned.checked.prog.wantsStandIn t=false:=by
 obtain rfl:f=yu:=zbE ((show PP.funcNamed "dictum/dictumlaw14.ReduceKeeps" = some yu by kernel_rfl).symm.trans hf) |>.symm
 obtain rfl:fn=xD:=(zbE (ud.symm.trans hfn)).symm
 refine ⟨by kernel_rfl,fun j t ht=>?_⟩
 rw [show xD.params = #[uA,jc,zo,xh] by kernel_rfl] at ht
 have hm:t ∈ [uA,jc,zo,xh]:=by simpa using Array.mem_of_getElem? ht
 simp only [List.mem_cons,List.not_mem_nil,or_false] at hm
 rcases hm with rfl | rfl | rfl | rfl
 ·exact (show PP.wantsStandIn uA=false by kernel_rfl)
 ·exact (show PP.wantsStandIn jc=false by kernel_rfl)
 ·exact (show PP.wantsStandIn zo=false by kernel_rfl)
 ·exact (show PP.wantsStandIn xh=false by kernel_rfl)
theorem card:Rows.ReduceKeepsUptoCardSaid :=
 Claim7.holds_tied_plain_at .later [] _ _ _ _ said (fun _ h=>by cases h) zbD (fun _ h=>by cases h) reduceKeepsUpto_row_tie rfl ⟨rfl,rfl⟩ zbD rfl plain zbD
end LawReduceKeeps
end
end Go.Proofs.YtmggdbbmmkkplaaGreatDoor
