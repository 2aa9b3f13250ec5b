/- ReduceDoes, where what it reads is of the bulk that the row names: the row's statement and its card. The package variables that the row lists read as the program lays them. Printed by card14.py, a program of mine. -/
import Derived.Test.YtmggdbbmmkkplaaGreatDoorMRDoes5
import Derived.Test.YtmggdbbmmkkplaaGreatDoorCards
import Derived.Test.YtmggdbbmmkkplaaGreatDoorTie
import Derived.WalkKit
import Derived.ProofKit
import Derived.OpenShut
import Derived.Deep.DeepHandedRow
import Derived.Deep.Slices
import Derived.Lib.LaidTab
import Derived.Lib.TrailingZeros
import Derived.ChangeSame
set_option linter.unusedVariables false
set_option linter.unusedSimpArgs false
namespace Go.Proofs.YtmggdbbmmkkplaaGreatDoor
section
open Gw
theorem ym {x:PTerm} (h:rightT x=true) {i:Nat} (hi:i < x.sub.length):rightT x.sub[i]=true:=by
 rw [zah,Bool.and_eq_true] at h; exact rightL_mem h.2 _ (List.getElem_mem hi)
theorem rightL_iff : ∀ {l:List PTerm},rightL l=true ↔ ∀ i (h:i < l.length),rightT l[i]=true:=by
 intro l
 rw [rightL_all,List.all_eq_true]
 constructor
 ·intro h i hi; exact h _ (List.getElem_mem hi)
 ·intro h x hx
  obtain ⟨i,hi,rfl⟩ := List.getElem_of_mem hx
  exact h i hi
structure NodeR (x:PTerm):Prop where
 len:yC x.kind=(x.sub.length:Int)
 nm:(x.kind=1∨x.kind=2∨x.kind=9∨x.kind=12)→isWord x.name
 nm0:¬ (x.kind=1∨x.kind=2∨x.kind=9∨x.kind=12)→x.name=⟨#[]⟩
 ot:x.kind=9→isWord x.other
 ot0:x.kind ≠ 9→x.other=⟨#[]⟩
 fm:x.kind=11→0 ≤ x.form∧x.form < 1024
 fm0:x.kind ≠ 11→x.form=0
theorem nodeR_iff (x:PTerm):nodeR x=true↔NodeR x:=by
 unfold nodeR
 simp only [Bool.and_eq_true,decide_eq_true_eq]
 constructor
 ·rintro ⟨⟨⟨h1,h2⟩,h3⟩,h4⟩
  refine ⟨h1,fun h=>?_,fun h=>?_,fun h=>?_,fun h=>?_,fun h=>?_,fun h=>?_⟩
  ·rw [if_pos h] at h2; simpa using h2
  ·rw [if_neg h] at h2; simpa using h2
  ·rw [if_pos h] at h3; simpa using h3
  ·rw [if_neg h] at h3; simpa using h3
  ·rw [if_pos h] at h4; simpa using h4
  ·rw [if_neg h] at h4; simpa using h4
 ·intro h
  refine ⟨⟨⟨h.len,?_⟩,?_⟩,?_⟩
  ·split
   ·rename_i q; simpa using h.nm q
   ·rename_i q; simpa using h.nm0 q
  ·split
   ·rename_i q; simpa using h.ot q
   ·rename_i q; simpa using h.ot0 q
  ·split
   ·rename_i q; simpa using h.fm q
   ·rename_i q; simpa using h.fm0 q
theorem uO {x:PTerm} (h:rightT x=true):NodeR x:=by
 rw [zah,Bool.and_eq_true] at h; exact (nodeR_iff x).1 h.1
theorem right_of {x:PTerm} (h:NodeR x) (hs : ∀ i (h:i < x.sub.length),rightT x.sub[i]=true):rightT x=true:=by
 rw [zah,Bool.and_eq_true]; exact ⟨(nodeR_iff x).2 h,rightL_iff.2 hs⟩
theorem yl {x:PTerm} (h:rightT x=true):(x.kind=1→x.sub=[])∧(x.kind=2→x.sub.length=1)∧(x.kind=12→x.sub.length=2)∧(x.kind=9→x.sub.length=3)∧(x.kind=11→x.sub.length=1):=by
 have h1:=(uO h).len
 refine ⟨fun k=>?_,fun k=>?_,fun k=>?_,fun k=>?_,fun k=>?_⟩ <;> rw [k] at h1 <;> simp [yC] at h1
 ·exact List.eq_nil_of_length_eq_zero zbq
 all_goals omega
theorem kn {z:ByteArray} (h:isWord z):rightT (varT z)=true:=by
 refine right_of ⟨rfl,fun _=>h,fun q=>absurd (.inl rfl) q,fun q=>absurd q (by simp [varT,PTerm.kind]),fun _=>rfl,fun q=>absurd q (by simp [varT,PTerm.kind]),fun _=>rfl⟩ fun i hi=>?_
 simp [varT,PTerm.sub] at hi
theorem free_word : ∀ (d:Nat) (x:PTerm),depT x ≤ d→rightT x=true → ∀ z,xO z x→isWord z
 | 0,x,h,_,_,_=>by have:=yx x; omega
 | d + 1,x,h,hr,z,hz=>by
  have hd:=yj x
  rcases (free_iff z x).1 hz with ⟨h1,h2⟩ | ⟨h1,j,hj,h2,h3⟩
  ·rw [← h2]; exact (uO hr).nm (.inl h1)
  ·exact free_word d x.sub[j] (by have:=ye _ (List.getElem_mem hj); omega) (ym hr hj) z h3
theorem no_empty {x:PTerm} (h:rightT x=true):cntT ⟨#[]⟩ x=0:=by
 by_cases e:cntT ⟨#[]⟩ x=0
 ·exact e
 ·exact absurd rfl (word_ne (free_word _ x (Nat.le_refl _) h _ e))
theorem getD_get {l:List PTerm} {i:Nat} (h:i < l.length):l.getD i PTerm.z=l[i]:=by simp [List.getD_eq_getElem?_getD,h]
theorem zbl {x:PTerm} (n:ByteArray) (y:PTerm) (hk:x.kind ≠ 1):putT x n y=⟨x.kind,nmC x n y,otC x n y,x.form,x.sub.mapIdx fun i p=>putC putT x n y i p⟩ := by rw [putT_eq,if_neg hk]
theorem put_var {x:PTerm} (n:ByteArray) (y:PTerm) (hk:x.kind=1):putT x n y=if x.name=n then y else x:=by rw [putT_eq,if_pos hk]
theorem bind_put {x:PTerm} (hr:rightT x=true) (hk:x.kind ≠ 1) (n:ByteArray) (y:PTerm) {j:Nat} (hj:j < x.sub.length):yF x.kind (nmC x n y) (otC x n y) j=if renC x n y j x.sub[j] then xC x.sub[j] y n else xb x j:=by
 obtain ⟨_,l2,l12,l9,_⟩ := yl hr
 by_cases k2:x.kind=2
 ·have hj0:j=0:=by have:=l2 k2; omega
  subst hj0
  have e : ∀ a b,yF x.kind a b 0=a:=fun a b=>by simp [yF,k2]
  rw [e]
  unfold nmC xb
  rw [e]
  simp only [k2,if_true,getD_get hj,true_or,true_and]
 by_cases k12:x.kind=12
 ·have hj1:j=0∨j=1:=by have:=l12 k12; omega
  rcases hj1 with rfl | rfl
  ·have e : ∀ a b,yF x.kind a b 0=⟨#[]⟩ := fun a b=>by simp [yF,k12]
   rw [e,if_neg]
   ·unfold xb; rw [e]
   ·rintro ⟨_,h,_⟩; unfold xb at h; rw [e] at h; exact h rfl
  ·have e : ∀ a b,yF x.kind a b 1=a:=fun a b=>by simp [yF,k12]
   rw [e]
   unfold nmC xb
   rw [e]
   simp only [k12,getD_get hj,show ¬ ((12:Int)=2) by decide,if_false,false_or,true_or,true_and]
 by_cases k9:x.kind=9
 ·have hj1:j=0∨j=1∨j=2:=by have:=l9 k9; omega
  rcases hj1 with rfl | rfl | rfl
  ·have e : ∀ a b,yF x.kind a b 0=⟨#[]⟩ := fun a b=>by simp [yF,k9]
   rw [e,if_neg]
   ·unfold xb; rw [e]
   ·rintro ⟨_,h,_⟩; unfold xb at h; rw [e] at h; exact h rfl
  ·have e : ∀ a b,yF x.kind a b 1=a:=fun a b=>by simp [yF,k9]
   rw [e]
   unfold nmC xb
   rw [e]
   simp only [k9,getD_get hj,show ¬ ((9:Int)=2) by decide,show ¬ ((9:Int)=12) by decide,if_false,false_or,true_and]
  ·have e : ∀ a b,yF x.kind a b 2=b:=fun a b=>by simp [yF,k9]
   rw [e]
   unfold otC xb
   rw [e]
   simp only [k9,getD_get hj,true_and]
 ·have e : ∀ a b,yF x.kind a b j=⟨#[]⟩ := fun a b=>by simp [yF,k2,k12,k9]
  rw [e,if_neg]
  ·unfold xb; rw [e]
  ·rintro ⟨_,h,_⟩; unfold xb at h; rw [e] at h; exact h rfl
theorem km : ∀ (d:Nat) (x:PTerm),depT x ≤ d→rightT x=true → ∀ (n:ByteArray) (y:PTerm),rightT y=true→rightT (putT x n y)=true
 | 0,x,h,_,_,_,_=>by have:=yx x; omega
 | d + 1,x,h,hr,n,y,hy=>by
  have hd:=yj x
  by_cases hk:x.kind=1
  ·rw [put_var n y hk]; split <;> assumption
  rw [zbl n y hk]
  have hn:=uO hr
  have w1:nmC x n y=x.name∨((x.kind=2∨x.kind=12∨x.kind=9)∧isWord (nmC x n y)):=by
   unfold nmC
   dsimp only
   by_cases q:(x.kind=2∨x.kind=12∨x.kind=9)∧renC x n y (if x.kind=2 then 0 else 1) (x.sub.getD (if x.kind=2 then 0 else 1) PTerm.z)
   ·rw [if_pos q]; exact .inr ⟨q.1,uL _ _ _⟩
   ·rw [if_neg q]; exact .inl rfl
  have w2:otC x n y=x.other∨(x.kind=9∧isWord (otC x n y)):=by
   unfold otC
   split
   ·rename_i q; right; exact ⟨q.1,uL _ _ _⟩
   ·left; rfl
  refine right_of ⟨?_,fun q=>?_,fun q=>?_,fun q=>?_,fun q=>?_,fun q=>hn.fm q,fun q=>hn.fm0 q⟩ fun i hi=>?_
  ·show yC x.kind=((x.sub.mapIdx _).length:Int)
   rw [List.length_mapIdx]; exact hn.len
  ·show isWord (nmC x n y)
   rcases w1 with w | w
   ·rw [w]; exact hn.nm q
   ·exact w.2
  ·show nmC x n y=_
   rcases w1 with w | w
   ·rw [w]; exact hn.nm0 q
   ·refine absurd ?_ q
    show x.kind=1∨x.kind=2∨x.kind=9∨x.kind=12
    omega
  ·show isWord (otC x n y)
   rcases w2 with w | w
   ·rw [w]; exact hn.ot q
   ·exact w.2
  ·show otC x n y=_
   rcases w2 with w | w
   ·rw [w]; exact hn.ot0 q
   ·exact absurd w.1 q
  ·have hi':i < x.sub.length:=by simpa [PTerm.sub] using hi
   have ei:(x.sub.mapIdx fun i p=>putC putT x n y i p)[i]'(by simpa using hi')=putC putT x n y i x.sub[i]:=List.getElem_mapIdx ..
   show rightT ((x.sub.mapIdx fun i p=>putC putT x n y i p)[i]'(by simpa using hi'))=true
   rw [ei]
   have hp:depT x.sub[i] ≤ d:=by have:=ye _ (List.getElem_mem hi'); omega
   have hrp:=ym hr hi'
   unfold putC
   split
   ·exact hrp
   ·split
    ·exact km d _ (Nat.le_trans (dep_ren _ _ _) hp) (km d _ hp hrp _ _ (kn (uL _ _ _))) n y hy
    ·exact km d _ hp hrp n y hy
def sumI (f:Nat→PTerm→Nat):Nat→List PTerm→Nat
 | _,[]=>0
 | i,p :: l=>f i p + sumI f (i + 1) l
theorem cntL_sumI (n:ByteArray) (k:Int) (nm ot:ByteArray) : ∀ (l:List PTerm) (i:Nat),cntL n k nm ot i l=sumI (fun i p=>if yF k nm ot i=n then 0 else cntT n p) i l
 | [],_=>rfl
 | y :: l,i=>by simp only [cntL,sumI,cntL_sumI n k nm ot l (i + 1)]
theorem sumI_map {F A B:Nat→PTerm→Nat} {m:Nat} : ∀ {l:List PTerm} {i:Nat} {g:Nat→PTerm→PTerm},(∀ j (h:j < l.length),F (i + j) (g j l[j])=A (i + j) l[j] + B (i + j) l[j] * m)→sumI F i (l.mapIdx g)=sumI A i l + sumI B i l * m
 | [],_,_,_=>by simp [sumI]
 | y :: l,i,g,h=>by
  rw [List.mapIdx_cons]
  simp only [sumI]
  have h1:=sumI_map (F:=F) (A:=A) (B:=B) (m:=m) (l:=l) (i:=i + 1) (g:=fun j=>g (j + 1)) (fun j hj=>by
   have:=h (j + 1) (by simpa using hj)
   rw [show i + 1 + j=i + (j + 1) by omega]
   simpa using this)
  have h2:=h 0 zbr
  simp at h2
  rw [h1,h2,Nat.add_mul]; omega
theorem sumI_le {A B:Nat→PTerm→Nat} : ∀ {l:List PTerm} {i:Nat},(∀ j (h:j < l.length),A (i + j) l[j] ≤ B (i + j) l[j])→sumI A i l ≤ sumI B i l
 | [],_,_=>Nat.le_refl _
 | y :: l,i,h=>by
  have h1:=sumI_le (A:=A) (B:=B) (l:=l) (i:=i + 1) (fun j hj=>by
   have:=h (j + 1) (by simpa using hj)
   rw [show i + 1 + j=i + (j + 1) by omega]
   simpa using this)
  have h2:=h 0 zbr
  simp at h2
  simp only [sumI]; omega
theorem sumI_zero {A:Nat→PTerm→Nat} {l:List PTerm} {i:Nat} (h : ∀ j (h:j < l.length),A (i + j) l[j]=0):sumI A i l=0:=by
 have h1:sumI A i l ≤ sumI (fun _ _=>0) i l:=sumI_le fun j hj=>Nat.le_of_eq (h j hj)
 have h2 : ∀ (l:List PTerm) (i:Nat),sumI (fun _ _=>0) i l=0:=by
  intro l
  induction l with
  | nil=>intro i; rfl
  | cons y l ih=>intro i; simp [sumI,ih]
 rw [h2] at h1; omega
theorem cnt_put : ∀ (d:Nat) (x:PTerm),depT x ≤ d→rightT x=true → ∀ (n:ByteArray) (y:PTerm),rightT y=true→sizeT x + sizeT y + 4 < 9223372036854775808 → ∀ z,cntT z (putT x n y)=(if z=n then 0 else cntT z x) + cntT n x * cntT z y
 | 0,x,h,_,_,_,_,_,_=>by have:=yx x; omega
 | d + 1,x,h,hr,n,y,hy,hb,z=>by
  have hd:=yj x
  have hs:=xD x
  by_cases hk:x.kind=1
  ·rw [put_var n y hk,vz n x,vz z x,if_pos hk,if_pos hk]
   by_cases e:x.name=n
   ·rw [if_pos e,if_pos e,Nat.one_mul]
    by_cases e2:z=n
    ·rw [if_pos e2]; omega
    ·rw [if_neg e2,if_neg (fun q=>e2 (q.symm.trans e))]; omega
   ·rw [if_neg e,if_neg e,Nat.zero_mul,vz z x,if_pos hk]
    by_cases e2:z=n
    ·rw [if_pos e2,if_neg (fun q=>e (q.trans e2))]
    ·rw [if_neg e2]; rfl
  rw [zbl n y hk,vz n x,vz z x,if_neg hk,if_neg hk,vz]
  show (if x.kind=1 then _ else cntL z x.kind (nmC x n y) (otC x n y) 0 (x.sub.mapIdx fun i p=>putC putT x n y i p))=_
  rw [if_neg hk,cntL_sumI,cntL_sumI,cntL_sumI]
  have hzz : ∀ (l:List PTerm) (i:Nat) (f:Nat→PTerm→Nat),(if z=n then 0 else sumI f i l)=sumI (fun i p=>if z=n then 0 else f i p) i l:=by
   intro l i f
   by_cases e:z=n
   ·simp only [if_pos e]; exact (sumI_zero fun _ _=>rfl).symm
   ·simp only [if_neg e]
  rw [hzz]
  refine sumI_map fun j hj=>?_
  simp only [Nat.zero_add]
  have hp:depT x.sub[j] ≤ d:=by have:=ye _ (List.getElem_mem hj); omega
  have hsp:sizeT x.sub[j] ≤ sizeL x.sub:=xS (List.getElem_mem hj)
  have hrp:=ym hr hj
  have hq:rightT (putT x.sub[j] (xb x j) (varT (xC x.sub[j] y n)))=true:=km d _ hp hrp _ _ (kn (uL _ _ _))
  have hbp:=bind_put hr hk n y hj
  rw [hbp]
  generalize x.sub[j]=p at *
  by_cases c1:xb x j=n
  ·have hren:¬ renC x n y j p:=fun q=>q.1.1 c1
   have c1':yF x.kind x.name x.other j=n:=c1
   rw [if_neg hren,putC,if_pos (Or.inl c1),if_pos c1,c1',c1]
   by_cases e:z=n
   ·subst e; simp
   ·simp [e,Ne.symm e]
  by_cases c2:xO n p
  ·by_cases c3:xb x j ≠ ⟨#[]⟩ ∧ xO (xb x j) y
   ·have hren:renC x n y j p:=⟨⟨c1,c2⟩,c3⟩
    have hns:¬ (xb x j=n∨¬ xO n p):=fun q=>q.elim c1 (fun q=>q c2)
    rw [if_pos hren,putC,if_neg hns,if_pos c3,if_neg c1]
    obtain ⟨f1,f2,f3⟩ := fresh_ok (p:=p) (y:=y) (n:=n) zbq
    have hww:isWord (xC p y n):=uL _ _ _
    generalize xC p y n=w at *
    have g1:cntT w p=0:=by simpa [xO] using f1
    have g2:cntT w y=0:=by simpa [xO] using f2
    have hw1:sizeT (varT w)=1:=rfl
    have hvar : ∀ z,cntT z (varT w)=if w=z then 1 else 0:=fun z=>by rw [vz]; rfl
    by_cases e:w=z
    ·subst e
     rw [if_pos rfl,g1,g2]; simp
    ·rw [if_neg e]
     have hsr:=size_ren p (xb x j) w
     rw [cnt_put d _ (Nat.le_trans (dep_ren _ _ _) hp) hq n y hy zbq z]
     rw [cnt_put d p hp hrp (xb x j) (varT w) (kn hww) zbq z,cnt_put d p hp hrp (xb x j) (varT w) (kn hww) zbq n,hvar,hvar,if_neg e,if_neg f3]
     simp [Ne.symm c1]
     by_cases e2:z=n <;> by_cases e3:z=xb x j <;> simp [e2,e3,eq_comm]
   ·have hren:¬ renC x n y j p:=fun q=>c3 q.2
    have hns:¬ (xb x j=n∨¬ xO n p):=fun q=>q.elim c1 (fun q=>q c2)
    rw [if_neg hren,putC,if_neg hns,if_neg c3,if_neg c1,cnt_put d p hp hrp n y hy zbq z]
    by_cases e:xb x j=z
    ·rw [if_pos e,if_pos e]
     have hz0:cntT z y=0:=by
      rw [← e]
      by_cases e0:xb x j=⟨#[]⟩
      ·rw [e0]; exact no_empty hy
      ·have:¬ xO (xb x j) y:=fun q=>c3 ⟨e0,q⟩
       simpa [xO] using this
     rw [hz0]; simp
    ·rw [if_neg e,if_neg e]
  ·have hren:¬ renC x n y j p:=fun q=>c2 q.1.2
   rw [if_neg hren,putC,if_pos (Or.inr c2),if_neg c1]
   have g:cntT n p=0:=by simpa [xO] using c2
   rw [g,Nat.zero_mul,Nat.add_zero]
   by_cases e:z=n
   ·rw [if_pos e,e,g]; simp
   ·rw [if_neg e]
end
section
open Gw
theorem PTerm.eta (x:PTerm):PTerm.mk x.kind x.name x.other x.form x.sub=x:=by cases x; rfl
theorem mk_kind (k:Int) (n o:ByteArray) (f:Int) (s:List PTerm):(PTerm.mk k n o f s).kind=k:=rfl
theorem mk_name (k:Int) (n o:ByteArray) (f:Int) (s:List PTerm):(PTerm.mk k n o f s).name=n:=rfl
theorem mk_other (k:Int) (n o:ByteArray) (f:Int) (s:List PTerm):(PTerm.mk k n o f s).other=o:=rfl
theorem mk_form (k:Int) (n o:ByteArray) (f:Int) (s:List PTerm):(PTerm.mk k n o f s).form=f:=rfl
theorem mk_sub (k:Int) (n o:ByteArray) (f:Int) (s:List PTerm):(PTerm.mk k n o f s).sub=s:=rfl
mutual
def stripT:PTerm→PTerm
 | .mk k nm ot f s=>if k=11 then (stripL s).headD PTerm.z else .mk k nm ot f (stripL s)
def stripL:List PTerm→List PTerm
 | []=>[]
 | x :: l=>stripT x :: stripL l
end
theorem stripL_map : ∀ l:List PTerm,stripL l=l.map stripT
 | []=>rfl
 | x :: l=>by simp only [stripL,stripL_map l,List.map_cons]
theorem stripT_eq (x:PTerm):stripT x=if x.kind=11 then (x.sub.map stripT).headD PTerm.z else ⟨x.kind,x.name,x.other,x.form,x.sub.map stripT⟩ := by
 cases x; simp only [stripT,stripL_map]; rfl
theorem strip_the {x:PTerm} (hr:rightT x=true) (hk:x.kind=11) : ∃ p,x.sub=[p]∧stripT x=stripT p:=by
 obtain ⟨_,_,_,_,l⟩ := yl hr
 have:=l hk
 match h:x.sub,this with
 | [p],_=>exact ⟨p,rfl,by rw [stripT_eq,if_pos hk,h]; rfl⟩
theorem strip_node {x:PTerm} (hk:x.kind ≠ 11):stripT x=⟨x.kind,x.name,x.other,x.form,x.sub.map stripT⟩ := by rw [stripT_eq,if_neg hk]
theorem strip_size : ∀ (d:Nat) (x:PTerm),depT x ≤ d→rightT x=true→sizeT (stripT x) ≤ sizeT x∧depT (stripT x) ≤ depT x∧rightT (stripT x)=true∧(stripT x).kind ≠ 11
 | 0,x,h,_=>by have:=yx x; omega
 | d + 1,x,h,hr=>by
  have hd:=yj x
  have hs:=xD x
  by_cases hk:x.kind=11
  ·obtain ⟨p,hp,e⟩ := strip_the hr hk
   have h1:depT p ≤ depL x.sub:=ye _ (by rw [hp]; simp)
   have h2:sizeT p ≤ sizeL x.sub:=xS (by rw [hp]; simp)
   have hrp:rightT p=true:=by rw [zah,Bool.and_eq_true] at hr; exact rightL_mem hr.2 _ (by rw [hp]; simp)
   have:=strip_size d p zbq hrp
   rw [e]
   exact ⟨by omega,by omega,this.2.2.1,this.2.2.2⟩
  ·have ih:=fun i (hi:i < x.sub.length)=>strip_size d x.sub[i] (by have:=ye _ (List.getElem_mem hi); omega) (ym hr hi)
   have hm:x.sub.map stripT=x.sub.mapIdx fun _ p=>stripT p:=by
    refine List.ext_getElem zbr fun i h1 h2=>by simp
   rw [strip_node hk]
   refine ⟨?_,?_,?_,hk⟩
   ·rw [xD,xD x]
    show 1 + sizeL (x.sub.map stripT) ≤ _
    rw [hm]
    exact Nat.add_le_add_left (sizeL_map fun i hi=>(ih i hi).1) 1
   ·rw [yj,yj x]
    show 1 + depL (x.sub.map stripT) ≤ _
    rw [hm]
    exact Nat.add_le_add_left (depL_map fun i hi=>(ih i hi).2.1) 1
   ·have hn:=uO hr
    refine right_of ⟨?_,hn.nm,hn.nm0,hn.ot,hn.ot0,hn.fm,hn.fm0⟩ fun i hi=>?_
    ·show yC x.kind=((x.sub.map stripT).length:Int)
     rw [List.length_map]; exact hn.len
    ·have hi':i < x.sub.length:=by simpa [PTerm.sub] using hi
     have ei:(x.sub.map stripT)[i]'(by simpa using hi')=stripT x.sub[i]:=List.getElem_map ..
     show rightT ((x.sub.map stripT)[i]'(by simpa using hi'))=true
     rw [ei]; exact (ih i hi').2.2.1
end
section
open Gw
theorem yp {i:Int} {n:Nat} (h0:0 ≤ i) (h1:i < n):inb i n=true:=by simp [inb,h0,h1]
theorem vD {i:Nat} (h:i < 1000000000000):IntKind.i64.wrap ((i:Int) + 1)=((i + 1:Nat):Int):=by rw [wrap_small ⟨by omega,by omega⟩]; omega
theorem zbe {σ:Type} {b:Int→σ→Option σ} {inv:Nat→σ} : ∀ (n i:Nat),(∀ j:Nat,i ≤ j→j < i + n→b j (inv j)=some (inv (j + 1)))→forS b n i (inv i)=some (inv (i + n))
 | 0,i,_=>rfl
 | n + 1,i,h=>by
  have ih:=zbe (b:=b) (inv:=inv) n (i + 1) (fun j h1 h2=>h j zbq zbq)
  simp only [forS,h i (Nat.le_refl _) zbq,zbu]
  rw [show ((i:Int) + 1)=((i + 1:Nat):Int) by omega,ih,show i + 1 + n=i + (n + 1) by omega]
theorem zaA {σ ρ:Type} {b:σ→Option (Stp σ ρ)} {inv:Nat→σ} {s:σ} : ∀ (n i k:Nat),n < k→(∀ j:Nat,i ≤ j→j < i + n→b (inv j)=some (.go (inv (j + 1))))→b (inv (i + n))=some (.brk s)→iter b k (inv i)=some (.inl s)
 | n,i,0,hk,_,_=>by omega
 | 0,i,k + 1,_,_,h=>by simp only [iter]; rw [show i + 0=i from rfl] at h; rw [h]; rfl
 | n + 1,i,k + 1,hk,h,he=>by
  simp only [iter,h i (Nat.le_refl _) zbq,zbu]
  exact zaA n (i + 1) k zbq (fun j h1 h2=>h j zbq zbq) (by rw [show i + 1 + n=i + (n + 1) by omega]; exact he)
theorem iter_ret {σ ρ:Type} {b:σ→Option (Stp σ ρ)} {inv:Nat→σ} {r:ρ} : ∀ (n i k:Nat),n < k→(∀ j:Nat,i ≤ j→j < i + n→b (inv j)=some (.go (inv (j + 1))))→b (inv (i + n))=some (.ret r)→iter b k (inv i)=some (.inr r)
 | n,i,0,hk,_,_=>by omega
 | 0,i,k + 1,_,_,h=>by simp only [iter]; rw [show i + 0=i from rfl] at h; rw [h]; rfl
 | n + 1,i,k + 1,hk,h,he=>by
  simp only [iter,h i (Nat.le_refl _) zbq,zbu]
  exact iter_ret n (i + 1) k zbq (fun j h1 h2=>h j zbq zbq) (by rw [show i + 1 + n=i + (n + 1) by omega]; exact he)
theorem iter_any {σ ρ:Type} {b:σ→Option (Stp σ ρ)} {inv:Nat→σ} {p:Nat→Bool} {r:ρ} {s:σ} : ∀ (n i k:Nat),n < k→(∀ j:Nat,i ≤ j→j < i + n→b (inv j)=some (if p j then .ret r else .go (inv (j + 1))))→b (inv (i + n))=some (.brk s)→iter b k (inv i)=some (if (List.range' i n).any p then .inr r else .inl s)
 | n,i,0,hk,_,_=>by omega
 | 0,i,k + 1,_,_,h=>by simp only [iter]; rw [show i + 0=i from rfl] at h; rw [h]; rfl
 | n + 1,i,k + 1,hk,h,he=>by
  have h0:=h i (Nat.le_refl _) zbq
  simp only [iter,h0,zbu]
  by_cases hp:p i=true
  ·simp [hp,List.range'_succ]
  ·have ih:=iter_any (b:=b) (inv:=inv) (p:=p) (r:=r) (s:=s) n (i + 1) k zbq (fun j h1 h2=>h j zbq zbq) (by rw [show i + 1 + n=i + (n + 1) by omega]; exact he)
   simp only [hp,if_neg,Bool.false_eq_true,not_false_eq_true,List.range'_succ,List.any_cons,Bool.false_or]
   simpa using ih
theorem uc : ∀ l:List PTerm,l.length ≤ sizeL l
 | []=>Nat.le_refl _
 | y :: l=>by have:=ud y; have:=uc l; simp only [sizeL,List.length_cons]; omega
theorem copy12 : ∀ (K:Nat) (x:PTerm),sizeT x + 2 ≤ K→sizeT x ≤ 1000000000000→zdr.f K x=some x
 | 0,x,h,_=>by omega
 | K + 1,x,h,hb=>by
  have hs:=xD x
  have hl:=uc x.sub
  show zdr.g (zdr.f K) K x=_
  unfold zdr.g
  have hloop:=zaA (b:=fun s=>zdr.b0 x (zdr.f K) s.1 s.2) (inv:=fun i=>((i:Int),(⟨x.kind,x.name,x.other,x.form,x.sub.take i⟩ : PTerm))) (s:=((x.sub.length:Int),x)) x.sub.length 0 K zbq (fun j _ hj=>by
   have hj:j < x.sub.length:=by omega
   have hm:sizeT x.sub[j] ≤ sizeL x.sub:=xS (List.getElem_mem hj)
   show zdr.b0 x (zdr.f K) (j:Int) (⟨x.kind,x.name,x.other,x.form,x.sub.take j⟩ : PTerm)=_
   unfold zdr.b0
   rw [if_pos (by simp; omega),chk,if_pos (yp zbq zbq),vk hj,copy12 K _ zbq zbq]
   simp only [zbu]
   rw [chk,if_pos (by show decide ((((x.sub.take j).length + 1) * 72) ≤ _)=true; rw [List.length_take]; simp; omega),vD zbq]
   show some (Stp.go (((j + 1:Nat):Int),PTerm.mk x.kind x.name x.other x.form (x.sub.take j ++ [x.sub[j]])))=_
   rw [← List.take_succ_eq_append_getElem hj]) (by
   show zdr.b0 x (zdr.f K) ((0 + x.sub.length:Nat):Int) (⟨x.kind,x.name,x.other,x.form,x.sub.take (0 + x.sub.length)⟩ : PTerm)=_
   unfold zdr.b0
   rw [Nat.zero_add,if_neg zbr,List.take_length,PTerm.eta])
  have hloop:iter (fun s=>zdr.b0 x (zdr.f K) s.1 s.2) K (0,(⟨x.kind,x.name,x.other,x.form,([]:List PTerm)⟩ : PTerm))=some (.inl ((x.sub.length:Int),x)):=hloop
  rw [hloop]
  show some (⟨x.kind,x.name,x.other,x.form,x.sub⟩ : PTerm)=some x
  rw [PTerm.eta]
theorem bind14 (x:PTerm) (i:Nat):zcx.f x (i:Int)=some (xb x i):=by
 unfold zcx.f xb yF
 have e1:((i:Int)=1)=(i=1):=by apply propext; omega
 have e2:((i:Int)=2)=(i=2):=by apply propext; omega
 simp only [e1,e2]
 by_cases h2:x.kind=2
 ·simp [h2]
 ·by_cases h1:i=1
  ·by_cases h3:x.kind=12∨x.kind=9
   ·simp [h1,h3]
   ·have a:=(not_or.1 h3).1; have b:=(not_or.1 h3).2
    simp [h1,h2,a,b]
  ·by_cases h9:x.kind=9 <;> by_cases h4:i=2 <;> simp [h1,h2,h9,h4]
theorem bind12 (x:PTerm) (i:Nat):zds.f x (i:Int)=some (xb x i):=by
 unfold zds.f xb yF
 have e1:((i:Int)=1)=(i=1):=by apply propext; omega
 have e2:((i:Int)=2)=(i=2):=by apply propext; omega
 simp only [e1,e2]
 by_cases h2:x.kind=2
 ·simp [h2]
 ·by_cases h1:i=1
  ·by_cases h12:x.kind=12
   ·simp [h1,h12]
   ·by_cases h9:x.kind=9
    ·simp [h1,h9]
    ·simp [h1,h2,h12,h9]
  ·by_cases h9:x.kind=9 <;> by_cases h4:i=2 <;> by_cases h12:x.kind=12 <;> simp [h1,h2,h9,h4,h12]
theorem free12 : ∀ (K:Nat) (x:PTerm),sizeT x + 2 ≤ K→sizeT x ≤ 1000000000000 → ∀ n,zdt.f K x n=some (decide (xO n x))
 | 0,x,h,_,_=>by omega
 | K + 1,x,h,hb,n=>by
  have hs:=xD x
  have hl:=uc x.sub
  show zdt.g (zdt.f K) K x n=_
  unfold zdt.g
  by_cases hk:x.kind=1
  ·rw [if_pos (by simpa using hk)]
   congr 1
   by_cases e:x.name=n
   ·rw [decide_eq_true e,decide_eq_true]; exact (free_iff _ _).2 (.inl ⟨hk,e⟩)
   ·rw [decide_eq_false e,decide_eq_false]
    intro q
    rcases (free_iff _ _).1 q with q | q
    ·exact e q.2
    ·exact q.1 hk
  rw [if_neg (by simpa using hk)]
  have hloop:=iter_any (b:=fun s=>zdt.b0 x n (zdt.f K) s) (inv:=fun i=>(i:Int)) (p:=fun j=>decide (xb x j ≠ n) && decide (xO n (x.sub.getD j PTerm.z))) (r:=true) (s:=(x.sub.length:Int)) x.sub.length 0 K zbq (fun j _ hj=>by
   have hj:j < x.sub.length:=by omega
   have hm:sizeT x.sub[j] ≤ sizeL x.sub:=xS (List.getElem_mem hj)
   show zdt.b0 x n (zdt.f K) (j:Int)=_
   unfold zdt.b0
   have hg:x.sub.getD j PTerm.z=x.sub[j]:=by rw [List.getD_eq_getElem?_getD,List.getElem?_eq_getElem hj]; rfl
   rw [if_pos (by simp; omega),bind12,zbu,chk,if_pos (by rw [yp zbq zbq]; simp),vk hj,hg,vD zbq]
   by_cases e:xb x j=n
   ·simp [e]
   ·rw [if_pos (by simpa using e),free12 K _ zbq zbq n]
    by_cases f:xO n x.sub[j] <;> simp [e,f]) (by
   show zdt.b0 x n (zdt.f K) ((0 + x.sub.length:Nat):Int)=_
   unfold zdt.b0
   rw [Nat.zero_add,if_neg zbr])
  have hloop:iter (fun s=>zdt.b0 x n (zdt.f K) s) K 0=_:=hloop
  rw [hloop]
  have key:((List.range' 0 x.sub.length).any fun j=>decide (xb x j ≠ n) && decide (xO n (x.sub.getD j PTerm.z)))=decide (xO n x):=by
   rw [Bool.eq_iff_iff,List.any_eq_true]
   constructor
   ·rintro ⟨j,hj,q⟩
    have hj:j < x.sub.length:=by have:=List.mem_range'_1.1 hj; omega
    obtain ⟨q1,q2⟩ := Bool.and_eq_true_iff.1 q
    have q2:=of_decide_eq_true q2
    rw [List.getD_eq_getElem?_getD,List.getElem?_eq_getElem hj] at q2
    exact decide_eq_true ((free_iff _ _).2 (.inr ⟨hk,j,hj,of_decide_eq_true q1,q2⟩))
   ·intro q
    rcases (free_iff _ _).1 (of_decide_eq_true q) with q | ⟨_,j,hj,q1,q2⟩
    ·exact absurd q.1 hk
    ·refine ⟨j,List.mem_range'_1.2 ⟨by omega,by omega⟩,Bool.and_eq_true_iff.2 ⟨decide_eq_true q1,decide_eq_true ?_⟩⟩
     rw [List.getD_eq_getElem?_getD,List.getElem?_eq_getElem hj]; exact q2
  rw [key]
  by_cases q:xO n x
  ·rw [decide_eq_true q]; rfl
  ·rw [decide_eq_false q]; rfl
end
section
open Gw
theorem wrap_u8 {n:Int} (h:0 ≤ n∧n < 256):IntKind.u8.wrap n=n:=by
 obtain ⟨m,rfl⟩ : ∃ m:Nat,n=m:=⟨n.toNat,by omega⟩
 have hm:m < 256:=by omega
 have : ∀ m:Fin 256,IntKind.u8.wrap ((m.1:Nat):Int)=m.1:=by decide +kernel
 exact this ⟨m,hm⟩
theorem dig_char (u:Nat):strOfNums [IntKind.u8.wrap (IntKind.i64.wrap (48 + Int.tmod (u:Int) 10))]=⟨[UInt8.ofNat (48 + u % 10)].toArray⟩ := by
 have hu:u % 10 < 10:=Nat.mod_lt _ zbp
 have e:Int.tmod (u:Int) 10=((u % 10:Nat):Int):=by rw [Int.tmod_eq_emod_of_nonneg zbq]; omega
 rw [e,wrap_small ⟨by omega,by omega⟩,wrap_u8 ⟨by omega,by omega⟩]
 unfold strOfNums
 simp only [List.map_cons,List.map_nil]
 rw [show (48 + ((u % 10:Nat):Int)).toNat=48 + u % 10 by omega]
theorem dig_go {u:Nat} {l:List UInt8} (hb:u < 9223372036854775808) (h:0 < u∨l=[]) (hl:l.length ≤ 1000):zdu.b0 (u:Int) (⟨l.toArray⟩ : ByteArray)=some (.go (((u / 10:Nat):Int),⟨(UInt8.ofNat (48 + u % 10) :: l).toArray⟩)):=by
 unfold zdu.b0
 rw [if_pos (by rcases h with h | h <;> simp [h]),dig_char,chk,if_pos (by rw [ba_size,ba_size]; simp; omega),ba_app]
 have e:Int.tdiv (u:Int) 10=((u / 10:Nat):Int):=by rw [Int.tdiv_eq_ediv_of_nonneg zbq]; omega
 rw [e,wrap_small ⟨by omega,by omega⟩]; rfl
theorem dig_end {l:List UInt8} (h:l ≠ []):zdu.b0 0 (⟨l.toArray⟩ : ByteArray)=some (.brk (0,⟨l.toArray⟩)):=by
 unfold zdu.b0
 have:(⟨l.toArray⟩ : ByteArray) ≠ ⟨#[]⟩ := fun e=>h (ba_inj (a:=l) (b:=[]) e)
 rw [if_neg (by simp [this])]
theorem dig_loop : ∀ (k u:Nat) (l:List UInt8) (K:Nat),u < 10 ^ (k + 1)→u < 9223372036854775808→(0 < u∨l=[])→l.length + k ≤ 100→k + 2 ≤ K→iter (fun s:Int × ByteArray=>zdu.b0 s.1 s.2) K ((u:Int),(⟨l.toArray⟩ : ByteArray))=some (.inl (0,⟨(decK (k + 1) u ++ l).toArray⟩))
 | k,u,l,0,_,_,_,_,hK=>by omega
 | k,u,l,1,_,_,_,_,hK=>by omega
 | k,u,l,K + 2,hu,hb,h,hl,hK=>by
  rw [iter]
  simp only [dig_go hb h zbq,zbu]
  by_cases h10:u < 10
  ·rw [show u / 10=0 by omega]
   rw [iter]
   simp only [Int.ofNat_zero,Int.natCast_zero,dig_end (List.cons_ne_nil _ _),zbu]
   rw [show u % 10=u by omega]
   simp [decK,h10]
  ·obtain ⟨k,rfl⟩ : ∃ k',k=k' + 1:=by
    cases k with
    | zero=>simp at hu; omega
    | succ k=>exact ⟨k,rfl⟩
   rw [dig_loop k (u / 10) (UInt8.ofNat (48 + u % 10) :: l) (K + 1) (by rw [Nat.pow_succ] at hu; omega) zbq (.inl zbq) (by simp; omega) zbq]
   rw [show decK (k + 1 + 1) u=decK (k + 1) (u / 10) ++ [UInt8.ofNat (48 + u % 10)] by rw [decK,if_neg h10]]
   simp
theorem digits12 {K:Nat} (hK:30 ≤ K) {j:Nat} (hj:j < 9223372036854775808):zdu.f K (j:Int)=some (decN (j:Int)):=by
 unfold zdu.f
 have:=dig_loop 19 j [] K zbq hj (.inr rfl) zbp zbq
 have this:iter (fun s:Int × ByteArray=>zdu.b0 s.1 s.2) K ((j:Int),(⟨#[]⟩ : ByteArray))=_:=this
 rw [this,decN_nn zbq]
 simp [aft]
theorem fresh12 {K:Nat} {p y:PTerm} {n:ByteArray} (hK:sizeT p + sizeT y + 40 ≤ K) (hb:sizeT p + sizeT y ≤ 1000000000):zdv.f K p y n=some (xC p y n):=by
 obtain ⟨j,hj,hjb⟩ := not_blocked (p:=p) (y:=y) (n:=n) zbq
 obtain ⟨g1,g2,g3⟩ := zaM (p:=fun k => !blocked p y n (vNm k)) (m:=sizeT p + sizeT y + 2) (i:=0) (j:=j) zbq zbq (by simpa using hjb)
 unfold zdv.f
 have body : ∀ i:Nat,i ≤ sizeT p + sizeT y + 2→zdv.b0 K n p y (i:Int)=some (if blocked p y n (vNm i) then .go ((i + 1:Nat):Int) else .ret (vNm i)):=fun i hi=>by
  unfold zdv.b0
  rw [digits12 zbq zbq,zbu,chk,if_pos (dec_ok 118 zbq)]
  rw [show (⟨#[118]⟩ : ByteArray) ++ decN (i:Int)=vNm i from rfl,vD zbq,free12 K p zbq zbq,free12 K y zbq zbq]
  unfold blocked
  by_cases e:vNm i=n
  ·simp [e]
  ·by_cases f1:xO (vNm i) p
   ·simp [e,f1]
   ·by_cases f2:xO (vNm i) y <;> simp [e,f1,f2]
 have hr:=iter_ret (b:=fun s=>zdv.b0 K n p y s) (inv:=fun i=>(i:Int)) (r:=xC p y n) (firstN (fun k => !blocked p y n (vNm k)) (sizeT p + sizeT y + 2) 0) 0 K zbq (fun i _ hi=>by
  show zdv.b0 K n p y (i:Int)=_
  have hbl:blocked p y n (vNm i)=true:=by simpa using g3 i zbq zbq
  rw [body i zbq,if_pos hbl]) (by
  show zdv.b0 K n p y ((0 + _:Nat):Int)=_
  have hbl:blocked p y n (xC p y n)=false:=by simpa [xC] using g1
  rw [Nat.zero_add,body _ zbq]
  show some (if blocked p y n (xC p y n)=true then _ else Stp.ret (xC p y n))=_
  rw [if_neg (by rw [hbl]; decide)])
 have hr:iter (fun s=>zdv.b0 K n p y s) K 0=_:=hr
 rw [hr]; rfl
end
section
open Gw
def idxN (x:PTerm):Nat:=if x.kind=2 then 0 else 1
def nmJ (x:PTerm) (n:ByteArray) (y:PTerm) (j:Nat):ByteArray:=if idxN x < j then nmC x n y else x.name
def otJ (x:PTerm) (n:ByteArray) (y:PTerm) (j:Nat):ByteArray:=if 2 < j then otC x n y else x.other
theorem getD_at {l:List PTerm} {j:Nat} (h:j < l.length):l.getD j PTerm.z=l[j]:=by rw [List.getD_eq_getElem?_getD,List.getElem?_eq_getElem h]; rfl
theorem parts_le {k:Int} (h:k ≠ 9):yC k ≤ 2:=by
 unfold yC
 by_cases h1:k=1
 ·rw [if_pos h1]; decide
 rw [if_neg h1,if_neg h]
 by_cases h2:k=3∨k=4∨k=12
 ·rw [if_pos h2]; decide
 rw [if_neg h2]
 by_cases h3:k=2∨k=5∨k=6∨k=7∨k=8∨k=10∨k=11
 ·rw [if_pos h3]; decide
 rw [if_neg h3]; decide
theorem third {x:PTerm} (hr:rightT x=true) (h:2 < x.sub.length):x.kind=9:=by
 apply Classical.byContradiction
 intro q
 have h1:=(uO hr).len
 have h2:=parts_le q
 omega
theorem ren_bind {x:PTerm} {n:ByteArray} {y:PTerm} {j:Nat} {p:PTerm} (h:renC x n y j p):x.kind=2∨(j=1∧(x.kind=12∨x.kind=9))∨(x.kind=9∧j=2):=by
 have hb:yF x.kind x.name x.other j ≠ ⟨#[]⟩ := h.2.1
 unfold yF at hb
 by_cases c:x.kind=2∨j=1∧(x.kind=12∨x.kind=9)
 ·rcases c with c | c
  ·exact .inl c
  ·exact .inr (.inl c)
 ·rw [if_neg c] at hb
  by_cases c2:x.kind=9∧j=2
  ·exact .inr (.inr c2)
  ·rw [if_neg c2] at hb; exact absurd rfl hb
theorem nmJ_end {x:PTerm} (hr:rightT x=true) (n:ByteArray) (y:PTerm):nmJ x n y x.sub.length=nmC x n y:=by
 obtain ⟨_,l2,l12,l9,_⟩ := yl hr
 unfold nmJ
 by_cases h:idxN x < x.sub.length
 ·rw [if_pos h]
 ·rw [if_neg h,nmC_neg]
  intro q
  unfold idxN at h
  rcases q.1 with k | k | k
  ·rw [if_pos k] at h; have:=l2 k; omega
  ·rw [if_neg zbq] at h; have:=l12 k; omega
  ·rw [if_neg zbq] at h; have:=l9 k; omega
theorem otJ_end {x:PTerm} (hr:rightT x=true) (n:ByteArray) (y:PTerm):otJ x n y x.sub.length=otC x n y:=by
 obtain ⟨_,l2,l12,l9,_⟩ := yl hr
 unfold otJ
 by_cases h:2 < x.sub.length
 ·rw [if_pos h]
 ·rw [if_neg h,otC_neg]
  intro q
  have:=l9 q.1; omega
theorem nmJ_succ {x:PTerm} (hr:rightT x=true) (n:ByteArray) (y:PTerm) {j:Nat} (hj:j < x.sub.length):nmJ x n y (j + 1)=if renC x n y j x.sub[j]∧¬ j=2 then xC x.sub[j] y n else nmJ x n y j:=by
 obtain ⟨_,l2,l12,l9,_⟩ := yl hr
 have hi1:idxN x ≤ 1:=by unfold idxN; split <;> omega
 by_cases hi:j=idxN x
 ·have e1:nmJ x n y (j + 1)=nmC x n y:=by unfold nmJ; rw [if_pos zbq]
  have e2:nmJ x n y j=x.name:=by unfold nmJ; rw [if_neg zbq]
  rw [e1,e2]
  have hg:x.sub.getD (if x.kind=2 then 0 else 1) PTerm.z=x.sub[j]:=by
   rw [show (if x.kind=2 then 0 else 1)=j from hi.symm]; exact getD_at hj
  have hidx:(if x.kind=2 then 0 else 1)=j:=hi.symm
  by_cases c:renC x n y j x.sub[j]
  ·have hk:x.kind=2∨x.kind=12∨x.kind=9:=by
    rcases ren_bind c with q | q | q
    ·exact .inl q
    ·exact .inr q.2
    ·exact .inr (.inr q.1)
   have cc:renC x n y (if x.kind=2 then 0 else 1) (x.sub.getD (if x.kind=2 then 0 else 1) PTerm.z):=by rw [hg,hidx]; exact c
   rw [if_pos ⟨c,by omega⟩,nmC_pos ⟨hk,cc⟩,hg]
  ·have cc:¬ renC x n y (if x.kind=2 then 0 else 1) (x.sub.getD (if x.kind=2 then 0 else 1) PTerm.z):=by rw [hg,hidx]; exact c
   rw [if_neg (fun q=>c q.1),nmC_neg (fun q=>cc q.2)]
 ·have e:nmJ x n y (j + 1)=nmJ x n y j:=by
   unfold nmJ
   by_cases q:idxN x < j
   ·rw [if_pos q,if_pos zbq]
   ·rw [if_neg q,if_neg zbq]
  rw [e,if_neg]
  intro q
  rcases ren_bind q.1 with k | k | k
  ·have:=l2 k; unfold idxN at hi; rw [if_pos k] at hi; omega
  ·have:x.kind ≠ 2:=by omega
   unfold idxN at hi; rw [if_neg this] at hi; omega
  ·exact q.2 k.2
theorem otJ_succ {x:PTerm} (hr:rightT x=true) (n:ByteArray) (y:PTerm) {j:Nat} (hj:j < x.sub.length):otJ x n y (j + 1)=if renC x n y j x.sub[j]∧j=2 then xC x.sub[j] y n else otJ x n y j:=by
 by_cases h2:j=2
 ·subst h2
  have k9:=third hr hj
  have e1:otJ x n y (2 + 1)=otC x n y:=by unfold otJ; rw [if_pos zbq]
  have e2:otJ x n y 2=x.other:=by unfold otJ; rw [if_neg zbq]
  rw [e1,e2]
  have hg:x.sub.getD 2 PTerm.z=x.sub[2]:=getD_at hj
  by_cases c:renC x n y 2 x.sub[2]
  ·rw [if_pos ⟨c,rfl⟩,otC_pos ⟨k9,by rw [hg]; exact c⟩,hg]
  ·rw [if_neg (fun q=>c q.1),otC_neg (fun q=>c (by have:=q.2; rw [hg] at this; exact this))]
 ·have e:otJ x n y (j + 1)=otJ x n y j:=by
   unfold otJ
   by_cases q:2 < j
   ·rw [if_pos q,if_pos zbq]
   ·rw [if_neg q,if_neg zbq]
  rw [e,if_neg (fun q=>h2 q.2)]
def stJ (x:PTerm) (n:ByteArray) (y:PTerm) (j:Nat):PTerm:=⟨x.kind,nmJ x n y j,otJ x n y j,x.form,(x.sub.mapIdx fun i p=>putC putT x n y i p).take j⟩
theorem take_put {x:PTerm} (n:ByteArray) (y:PTerm) {j:Nat} (hj:j < x.sub.length):(x.sub.mapIdx fun i p=>putC putT x n y i p).take (j + 1)=(x.sub.mapIdx fun i p=>putC putT x n y i p).take j ++ [putC putT x n y j x.sub[j]]:=by
 rw [List.take_succ_eq_append_getElem (by simpa using hj),List.getElem_mapIdx]
theorem stJ_end {x:PTerm} (hr:rightT x=true) (hk:x.kind ≠ 1) (n:ByteArray) (y:PTerm):stJ x n y x.sub.length=putT x n y:=by
 rw [zbl n y hk]
 unfold stJ
 rw [nmJ_end hr,otJ_end hr,List.take_of_length_le zbr]
theorem put12 : ∀ (K:Nat) (x:PTerm) (n:ByteArray) (y:PTerm),rightT x=true→rightT y=true→sizeT x + sizeT y + 60 ≤ K→sizeT x + sizeT y ≤ 1000000000→zdw.f K x n y=some (putT x n y)
 | 0,x,n,y,_,_,h,_=>by omega
 | K + 1,x,n,y,hr,hy,h,hb=>by
  have hs:=xD x
  have hsy:=ud y
  have hl:=uc x.sub
  show zdw.g (zdw.f K) K x n y=_
  unfold zdw.g
  by_cases hk:x.kind=1
  ·rw [if_pos (by simpa using hk),put_var n y hk]
   by_cases e:x.name=n
   ·rw [if_pos (by simpa using e),if_pos e,copy12 K y zbq zbq]; rfl
   ·rw [if_neg (by simpa using e),if_neg e]
  rw [if_neg (by simpa using hk)]
  have hloop:=zaA (b:=fun s:Int × PTerm=>zdw.b0 x n K y (zdw.f K) s.1 s.2) (inv:=fun i=>((i:Int),stJ x n y i)) (s:=((x.sub.length:Int),putT x n y)) x.sub.length 0 K zbq (fun j _ hj=>by
   have hj:j < x.sub.length:=by omega
   have hm:sizeT x.sub[j] ≤ sizeL x.sub:=xS (List.getElem_mem hj)
   have hrp:=ym hr hj
   show zdw.b0 x n K y (zdw.f K) (j:Int) (stJ x n y j)=_
   unfold zdw.b0
   have hlen:(stJ x n y j).sub.length ≤ 1000000000000:=by show ((x.sub.mapIdx fun i p=>putC putT x n y i p).take j).length ≤ _; simp; omega
   have hck:decide (((stJ x n y j).sub.length + 1) * 72 ≤ 140737488355328)=true:=by simp; omega
   rw [if_pos (by simp; omega),chk,if_pos (yp zbq zbq),vk hj,bind12,zbu,vD zbq,free12 K _ zbq zbq n]
   have e3:=nmJ_succ hr n y hj
   have e4:=otJ_succ hr n y hj
   have hst:stJ x n y (j + 1)=⟨x.kind,nmJ x n y (j + 1),otJ x n y (j + 1),x.form,(stJ x n y j).sub ++ [putC putT x n y j x.sub[j]]⟩ := by
    unfold stJ; rw [take_put n y hj]; rfl
   show _=some (Stp.go (((j + 1:Nat):Int),stJ x n y (j + 1)))
   by_cases c1:xb x j=n∨¬ xO n x.sub[j]
   ·have hren:¬ renC x n y j x.sub[j]:=fun q=>c1.elim q.1.1 (fun r=>r q.1.2)
    have hp:putC putT x n y j x.sub[j]=x.sub[j]:=by rw [putC,if_pos c1]
    have n1:nmJ x n y (j + 1)=nmJ x n y j:=by rw [e3,if_neg (fun q=>hren q.1)]
    have o1:otJ x n y (j + 1)=otJ x n y j:=by rw [e4,if_neg (fun q=>hren q.1)]
    rw [hst,n1,o1,hp]
    have hg:(if (!(decide (xb x j=n)))=true then some (decide (xO n x.sub[j])) else some false)=some (!(decide (xb x j=n)) && decide (xO n x.sub[j])):=by
     by_cases e:xb x j=n <;> simp [e]
    rw [hg,zbu,if_pos (by
     rcases c1 with e | e
     ·simp [e]
     ·simp [e]),copy12 K _ zbq zbq,zbu,chk,if_pos hck]
    rfl
   have c1':xb x j ≠ n∧xO n x.sub[j]:=⟨fun q=>c1 (.inl q),Classical.byContradiction fun q=>c1 (.inr q)⟩
   rw [if_pos (by simpa using c1'.1),decide_eq_true c1'.2,zbu,if_neg (by simp [c1'.1])]
   by_cases c3:xb x j ≠ ⟨#[]⟩ ∧ xO (xb x j) y
   ·have hren:renC x n y j x.sub[j]:=⟨c1',c3⟩
    have hp:putC putT x n y j x.sub[j]=putT (putT x.sub[j] (xb x j) (varT (xC x.sub[j] y n))) n y:=by rw [putC,if_neg c1,if_pos c3]
    have hww:=uL x.sub[j] y n
    have hvr:rightT (varT (xC x.sub[j] y n))=true:=kn hww
    have hv1:sizeT (varT (xC x.sub[j] y n))=1:=rfl
    have hq:rightT (putT x.sub[j] (xb x j) (varT (xC x.sub[j] y n)))=true:=km _ _ (Nat.le_refl _) hrp _ _ hvr
    have hsr:=size_ren x.sub[j] (xb x j) (xC x.sub[j] y n)
    rw [if_pos (by simpa using c3.1),free12 K y zbq zbq (xb x j),decide_eq_true c3.2,zbu,if_pos (by simp [c3.1]),fresh12 zbq zbq,zbu]
    have hrec:zdw.f K x.sub[j] (xb x j) (⟨1,xC x.sub[j] y n,ByteArray.empty,0,[]⟩ : PTerm)=some (putT x.sub[j] (xb x j) (varT (xC x.sub[j] y n))):=put12 K x.sub[j] (xb x j) (varT (xC x.sub[j] y n)) hrp hvr zbq zbq
    rw [hrec,zbu]
    have hrec2:=put12 K _ n y hq hy zbq zbq
    by_cases h2:j=2
    ·have k9:x.kind=9:=by subst h2; exact third hr hj
     have n1:nmJ x n y (j + 1)=nmJ x n y j:=by rw [e3,if_neg (fun q=>q.2 h2)]
     have o1:otJ x n y (j + 1)=xC x.sub[j] y n:=by rw [e4,if_pos ⟨hren,h2⟩]
     rw [if_pos (by simp [k9,h2]),zbu]
     dsimp only
     rw [hrec2,zbu,chk,if_pos (by exact hck),hst,n1,o1,hp]
     rfl
    ·have n1:nmJ x n y (j + 1)=xC x.sub[j] y n:=by rw [e3,if_pos ⟨hren,h2⟩]
     have o1:otJ x n y (j + 1)=otJ x n y j:=by rw [e4,if_neg (fun q=>h2 q.2)]
     rw [if_neg (by simp; intro _; omega),zbu]
     dsimp only
     rw [hrec2,zbu,chk,if_pos (by exact hck),hst,n1,o1,hp]
     rfl
   ·have hren:¬ renC x n y j x.sub[j]:=fun q=>c3 q.2
    have hp:putC putT x n y j x.sub[j]=putT x.sub[j] n y:=by rw [putC,if_neg c1,if_neg c3]
    have hg:(if decide (xb x j ≠ ⟨#[]⟩)=true then zdt.f K y (xb x j) else some false)=some (decide (xb x j ≠ ⟨#[]⟩) && decide (xO (xb x j) y)):=by
     by_cases e:xb x j=⟨#[]⟩
     ·simp [e]
     ·rw [if_pos (by simpa using e),free12 K y zbq zbq]; simp [e]
    have hc:(decide (xb x j ≠ ⟨#[]⟩) && decide (xO (xb x j) y))=false:=by
     cases hq:(decide (xb x j ≠ ⟨#[]⟩) && decide (xO (xb x j) y)) with
     | false=>rfl
     | true =>
      obtain ⟨a,b⟩ := Bool.and_eq_true_iff.1 hq
      exact absurd ⟨of_decide_eq_true a,of_decide_eq_true b⟩ c3
    have n1:nmJ x n y (j + 1)=nmJ x n y j:=by rw [e3,if_neg (fun q=>hren q.1)]
    have o1:otJ x n y (j + 1)=otJ x n y j:=by rw [e4,if_neg (fun q=>hren q.1)]
    rw [hg,hc,zbu,if_neg zbr,zbu]
    dsimp only
    rw [put12 K _ n y hrp hy zbq zbq,zbu,chk,if_pos (by exact hck),hst,n1,o1,hp]
    rfl) (by
   show zdw.b0 x n K y (zdw.f K) ((0 + x.sub.length:Nat):Int) (stJ x n y (0 + x.sub.length))=_
   unfold zdw.b0
   rw [Nat.zero_add,if_neg zbr,stJ_end hr hk])
  have h0:stJ x n y 0=⟨x.kind,x.name,x.other,x.form,([]:List PTerm)⟩ := by
   unfold stJ nmJ otJ; rw [if_neg zbq,if_neg zbq]; rfl
  rw [show ((0:Nat):Int)=0 from rfl,h0] at hloop
  rw [hloop]
  show some (⟨_,_,_,_,_⟩ : PTerm)=_
  rw [PTerm.eta]
end
section
open Gw
def vL (m:List (ByteArray × Int)) (z:ByteArray):Int:=(Gw.look z m).getD 0
theorem look_insB (x y:ByteArray) (v:Int) : ∀ l:List (ByteArray × Int),Gw.look y (Gw.ins x v l)=if y=x then some v else Gw.look y l
 | []=>by by_cases e:y=x <;> simp [Gw.ins,Gw.look,e]
 | (k,w) :: l=>by
  by_cases e:x=k
  ·subst e
   by_cases e2:y=x <;> simp [Gw.ins,Gw.look,e2]
  ·by_cases e2:y=k
   ·have:y ≠ x:=fun q=>e (q.symm.trans e2)
    subst e2
    simp [Gw.ins,Gw.look,e,this]
   ·simp [Gw.ins,Gw.look,e,e2,look_insB x y v l]
theorem vL_ins (x:ByteArray) (v:Int) (l:List (ByteArray × Int)) (z:ByteArray):vL (Gw.ins x v l) z=if z=x then v else vL l z:=by
 unfold vL; rw [look_insB]; split <;> rfl
theorem cnt_le (z:ByteArray) (x:PTerm):cntT z x ≤ sizeT x:=by
 have:=cnt_sum x [z] zbr
 simpa using this
theorem drop_at {l:List PTerm} {j:Nat} (h:j < l.length):l.drop j=l[j] :: l.drop (j + 1):=List.drop_eq_getElem_cons h
theorem names14 : ∀ (K:Nat) (x:PTerm) (B F:List (ByteArray × Int)),sizeT x + 2 ≤ K→(∀ z,0 ≤ vL B z∧vL B z + sizeT x ≤ 1000000000000)→(∀ z,0 ≤ vL F z∧vL F z + sizeT x ≤ 1000000000000) →
  ∃ B' F',zcz.f K x B F=some (B',F')∧(∀ z,vL B' z=vL B z) ∧ ∀ z,vL F' z=vL F z + (if vL B z=0 then (cntT z x:Int) else 0)
 | 0,x,B,F,h,_,_=>by omega
 | K + 1,x,B,F,h,hB,hF=>by
  have hs:=xD x
  have hl:=uc x.sub
  show ∃ B' F',zcz.g (zcz.f K) x B F=_∧_
  unfold zcz.g
  by_cases hk:x.kind=1
  ·rw [if_pos (by simpa using hk)]
   have hc : ∀ z,(cntT z x:Int)=if z=x.name then 1 else 0:=fun z=>by
    rw [vz,if_pos hk]
    by_cases e:x.name=z
    ·rw [if_pos e,if_pos e.symm]; rfl
    ·rw [if_neg e,if_neg (fun q=>e q.symm)]; rfl
   by_cases h0:vL B x.name=0
   ·refine ⟨B,Gw.ins x.name (IntKind.i64.wrap (vL F x.name + 1)) F,?_,fun _=>rfl,fun z=>?_⟩
    ·show ((if decide (vL B x.name=0) then some (Gw.ins x.name (IntKind.i64.wrap (vL F x.name + 1)) F) else some F).bind fun o4=>some (B,o4))=_
     rw [if_pos (by simpa using h0)]; rfl
    ·rw [vL_ins,wrap_small ⟨by have:=(hF x.name).1; omega,by have:=(hF x.name).2; omega⟩,hc]
     by_cases e:z=x.name
     ·rw [if_pos e,if_pos e,e,if_pos h0]
     ·rw [if_neg e,if_neg e]; split <;> omega
   ·refine ⟨B,F,?_,fun _=>rfl,fun z=>?_⟩
    ·show ((if decide (vL B x.name=0) then some (Gw.ins x.name (IntKind.i64.wrap (vL F x.name + 1)) F) else some F).bind fun o4=>some (B,o4))=_
     rw [if_neg (by simpa using h0)]; rfl
    ·rw [hc]
     by_cases e:z=x.name
     ·rw [e,if_neg h0]; omega
     ·rw [if_neg e]; split <;> omega
  rw [if_neg (by simpa using hk)]
  have loop : ∀ (m j:Nat) (B F:List (ByteArray × Int)),j + m=x.sub.length→(∀ z,0 ≤ vL B z∧vL B z + (1 + sizeL (x.sub.drop j)) ≤ 1000000000000)→(∀ z,0 ≤ vL F z∧vL F z + sizeL (x.sub.drop j) ≤ 1000000000000) →
    ∃ B' F',forS (fun i s=>zcz.b0 x (zcz.f K) i s.1 s.2) m (j:Int) (B,F)=some (B',F')∧(∀ z,vL B' z=vL B z) ∧ ∀ z,vL F' z=vL F z + (if vL B z=0 then (cntL z x.kind x.name x.other j (x.sub.drop j):Int) else 0):=by
   intro m
   induction m with
   | zero =>
    intro j B F hj _ _
    refine ⟨B,F,rfl,fun _=>rfl,fun z=>?_⟩
    rw [List.drop_of_length_le zbq]
    simp [cntL]
   | succ m ih =>
    intro j B F hj hB hF
    have hjl:j < x.sub.length:=by omega
    have hd:=drop_at hjl
    have hsd:sizeL (x.sub.drop j)=sizeT x.sub[j] + sizeL (x.sub.drop (j + 1)):=by rw [hd]; rfl
    have hm:sizeT x.sub[j] ≤ sizeL x.sub:=xS (List.getElem_mem hjl)
    have hsp:=ud x.sub[j]
    have hw1:IntKind.i64.wrap (vL B (xb x j) + 1)=vL B (xb x j) + 1:=wrap_small ⟨by have:=(hB (xb x j)).1; omega,by have:=(hB (xb x j)).2; omega⟩
    have hB1 : ∀ z,vL (Gw.ins (xb x j) (vL B (xb x j) + 1) B) z=if z=xb x j then vL B (xb x j) + 1 else vL B z:=fun z=>vL_ins _ _ _ z
    obtain ⟨B2,F2,e1,e2,e3⟩ := names14 K x.sub[j] (Gw.ins (xb x j) (vL B (xb x j) + 1) B) F zbq (fun z=>by
     rw [hB1]; have:=hB z; have:=hB (xb x j); split <;> omega) (fun z=>by have:=hF z; omega)
    have hb2:vL B2 (xb x j)=vL B (xb x j) + 1:=by rw [e2,hB1,if_pos rfl]
    have hw2:IntKind.i64.wrap (vL B2 (xb x j) - 1)=vL B (xb x j):=by
     rw [hb2,wrap_small ⟨by have:=(hB (xb x j)).1; omega,by have:=(hB (xb x j)).2; omega⟩]; omega
    have hB3 : ∀ z,vL (Gw.ins (xb x j) (vL B (xb x j)) B2) z=vL B z:=fun z=>by
     rw [vL_ins,e2,hB1]
     by_cases e:z=xb x j
     ·rw [if_pos e,e]
     ·rw [if_neg e,if_neg e]
    have hF2 : ∀ z,vL F2 z=vL F z + (if vL B z=0 then (if xb x j=z then 0 else (cntT z x.sub[j]:Int)) else 0):=fun z=>by
     rw [e3,hB1]
     by_cases e:z=xb x j
     ·have:=(hB (xb x j)).1
      rw [if_pos e,if_neg zbq,if_pos e.symm]; split <;> omega
     ·have e':¬ xb x j=z:=fun q=>e q.symm
      simp only [if_neg e,if_neg e']
    obtain ⟨B4,F4,g1,g2,g3⟩ := ih (j + 1) (Gw.ins (xb x j) (vL B (xb x j)) B2) F2 zbq (fun z=>by rw [hB3]; have:=hB z; omega) (fun z=>by
     have h1:=hF z; have h2:=cnt_le z x.sub[j]; rw [hF2]; split
     ·split <;> omega
     ·omega)
    refine ⟨B4,F4,?_,fun z=>by rw [g2,hB3],fun z=>?_⟩
    ·have hbody:zcz.b0 x (zcz.f K) (j:Int) B F=some (Gw.ins (xb x j) (vL B (xb x j)) B2,F2):=by
      unfold zcz.b0
      rw [bind14,zbu,vk hjl]
      show ((zcz.f K x.sub[j] (Gw.ins (xb x j) (IntKind.i64.wrap (vL B (xb x j) + 1)) B) F).bind fun r21=>some (Gw.ins (xb x j) (IntKind.i64.wrap (vL r21.1 (xb x j) - 1)) r21.1,r21.2))=_
      rw [hw1,e1,zbu,hw2]
     simp only [forS,hbody,zbu]
     rw [show ((j:Int) + 1)=((j + 1:Nat):Int) by omega]
     exact g1
    ·rw [g3,hB3,hF2,hd]
     have hcl:cntL z x.kind x.name x.other j (x.sub[j] :: x.sub.drop (j + 1))=(if xb x j=z then 0 else cntT z x.sub[j]) + cntL z x.kind x.name x.other (j + 1) (x.sub.drop (j + 1)):=by rw [cntL]
     rw [hcl]
     by_cases e:xb x j=z
     ·simp only [if_pos e]; split <;> omega
     ·simp only [if_neg e]; split <;> omega
  obtain ⟨B',F',e1,e2,e3⟩ := loop x.sub.length 0 B F zbq (fun z=>by have:=hB z; rw [List.drop_zero]; omega) (fun z=>by have:=hF z; rw [List.drop_zero]; omega)
  refine ⟨B',F',?_,e2,fun z=>?_⟩
  ·rw [show ((x.sub.length:Int) - 0).toNat=x.sub.length by omega]
   have e1:forS (fun i s=>zcz.b0 x (zcz.f K) i s.1 s.2) x.sub.length 0 (B,F)=some (B',F'):=e1
   rw [e1]; rfl
  ·rw [e3,vz,if_neg hk,List.drop_zero]
theorem freely14 {K:Nat} {x:PTerm} (hK:sizeT x + 2 ≤ K) (hb:sizeT x ≤ 1000000000) : ∃ F,zcA.f K x=some F ∧ ∀ z,vL F z=cntT z x:=by
 obtain ⟨B',F',e1,_,e3⟩ := names14 K x [] [] hK (fun z=>⟨Int.le_refl _,by show (0:Int) + _ ≤ _; omega⟩) (fun z=>⟨Int.le_refl _,by show (0:Int) + _ ≤ _; omega⟩)
 refine ⟨F',by unfold zcA.f; rw [e1]; rfl,fun z=>?_⟩
 rw [e3]
 show (0:Int) + (if (0:Int)=0 then _ else _)=_
 rw [if_pos rfl]; omega
theorem fresh14 {K:Nat} {p y:PTerm} {n:ByteArray} {G F:List (ByteArray × Int)} (hG : ∀ z,vL G z=cntT z p) (hF : ∀ z,vL F z=cntT z y) (hK:sizeT p + sizeT y + 40 ≤ K) (hb:sizeT p + sizeT y ≤ 1000000000):zcC.f K G F n=some (xC p y n):=by
 obtain ⟨j,hj,hjb⟩ := not_blocked (p:=p) (y:=y) (n:=n) zbq
 obtain ⟨g1,g2,g3⟩ := zaM (p:=fun k => !blocked p y n (vNm k)) (m:=sizeT p + sizeT y + 2) (i:=0) (j:=j) zbq zbq (by simpa using hjb)
 unfold zcC.f
 have body : ∀ i:Nat,i ≤ sizeT p + sizeT y + 2→zcC.b0 G F n (i:Int)=some (if blocked p y n (vNm i) then .go ((i + 1:Nat):Int) else .ret (vNm i)):=fun i hi=>by
  unfold zcC.b0 strconv_Itoa.f
  rw [chk,if_pos (by simp; omega),zbu,chk,if_pos (dec_ok 118 zbq)]
  rw [show (⟨#[118]⟩ : ByteArray) ++ decN (i:Int)=vNm i from rfl,vD zbq]
  have q1:((Gw.look (vNm i) G).getD 0=0)=¬ xO (vNm i) p:=by
   apply propext; show vL G (vNm i)=0↔_; rw [hG]; unfold xO; omega
  have q2:((Gw.look (vNm i) F).getD 0=0)=¬ xO (vNm i) y:=by
   apply propext; show vL F (vNm i)=0↔_; rw [hF]; unfold xO; omega
  unfold blocked
  simp only [q1,q2]
  by_cases e:vNm i=n
  ·simp [e]
  ·by_cases f1:xO (vNm i) p
   ·simp [e,f1]
   ·by_cases f2:xO (vNm i) y <;> simp [e,f1,f2]
 have hr:=iter_ret (b:=fun s=>zcC.b0 G F n s) (inv:=fun i=>(i:Int)) (r:=xC p y n) (firstN (fun k => !blocked p y n (vNm k)) (sizeT p + sizeT y + 2) 0) 0 K zbq (fun i _ hi=>by
  show zcC.b0 G F n (i:Int)=_
  have hbl:blocked p y n (vNm i)=true:=by simpa using g3 i zbq zbq
  rw [body i zbq,if_pos hbl]) (by
  show zcC.b0 G F n ((0 + _:Nat):Int)=_
  have hbl:blocked p y n (xC p y n)=false:=by simpa [xC] using g1
  rw [Nat.zero_add,body _ zbq]
  show some (if blocked p y n (xC p y n)=true then _ else Stp.ret (xC p y n))=_
  rw [if_neg (by rw [hbl]; decide)])
 have hr:iter (fun s=>zcC.b0 G F n s) K 0=_:=hr
 rw [hr]; rfl
end
section
open Gw
def setJ (l:List PTerm) (j:Nat):List PTerm:=l.take j ++ List.replicate (l.length - j) PTerm.z
theorem setJ_len (l:List PTerm) (j:Nat) (h:j ≤ l.length):(setJ l j).length=l.length:=by unfold setJ; simp; omega
theorem setJ_0 (l:List PTerm):setJ l 0=List.replicate l.length PTerm.z:=by simp [setJ]
theorem setJ_end (l:List PTerm):setJ l l.length=l:=by simp [setJ]
theorem setJ_succ {l:List PTerm} {j:Nat} (h:j < l.length):(setJ l j).set j l[j]=setJ l (j + 1):=by
 unfold setJ
 rw [show l.length - j=(l.length - (j + 1)) + 1 by omega,List.replicate_succ,List.set_append_right _ _ (by simp; omega),List.take_succ_eq_append_getElem h]
 have:j - (l.take j).length=0:=by simp; omega
 rw [this,List.set_cons_zero,List.append_assoc]
 rfl
theorem len3 {x:PTerm} (hr:rightT x=true):x.sub.length ≤ 3:=by
 have h1:=(uO hr).len
 by_cases k:x.kind=9
 ·rw [k] at h1; have:yC 9=3:=by decide
  omega
 ·have:=parts_le k; omega
theorem clone14 : ∀ (K:Nat) (x:PTerm),rightT x=true→sizeT x + 2 ≤ K→zcB.f K x=some x
 | 0,x,_,h=>by omega
 | K + 1,x,hr,h=>by
  have hs:=xD x
  have h3:=len3 hr
  show zcB.g (zcB.f K) x=_
  unfold zcB.g
  rw [chk,if_pos (by simp; omega),show ((x.sub.length:Int) - 0).toNat=x.sub.length by omega,show Int.toNat (x.sub.length:Int)=x.sub.length from rfl]
  have hloop:=zbe (b:=fun i s=>zcB.b0 (zcB.f K) x i s) (inv:=fun i=>setJ x.sub i) x.sub.length 0 (fun j _ hj=>by
   have hj:j < x.sub.length:=by omega
   have hm:sizeT x.sub[j] ≤ sizeL x.sub:=xS (List.getElem_mem hj)
   show zcB.b0 (zcB.f K) x (j:Int) (setJ x.sub j)=_
   unfold zcB.b0
   rw [vk hj,clone14 K _ (ym hr hj) zbq,zbu,chk,if_pos (yp zbq (by rw [setJ_len _ _ zbq]; omega))]
   show some ((setJ x.sub j).set j x.sub[j])=_
   rw [setJ_succ hj])
  rw [Nat.zero_add,setJ_end,setJ_0] at hloop
  have hloop:forS (fun i s=>zcB.b0 (zcB.f K) x i s) x.sub.length 0 (List.replicate x.sub.length PTerm.z)=some x.sub:=hloop
  rw [hloop,zbu,PTerm.eta]
def plS (x:PTerm) (n:ByteArray) (y:PTerm):List PTerm:=x.sub.mapIdx fun i p=>putC putT x n y i p
theorem plS_len (x:PTerm) (n:ByteArray) (y:PTerm):(plS x n y).length=x.sub.length:=by unfold plS; simp
theorem plS_at {x:PTerm} (n:ByteArray) (y:PTerm) {j:Nat} (hj:j < x.sub.length):(plS x n y)[j]'(by rw [plS_len]; exact hj)=putC putT x n y j x.sub[j]:=List.getElem_mapIdx ..
def stP (x:PTerm) (n:ByteArray) (y:PTerm) (j:Nat):PTerm:=⟨x.kind,nmJ x n y j,otJ x n y j,x.form,setJ (plS x n y) j⟩
theorem vL_one (w z:ByteArray):vL (Gw.ins w 1 ([]:List (ByteArray × Int))) z=cntT z (varT w):=by
 rw [vL_ins,vz]
 show _=(((if (1:Int)=1 then (if w=z then 1 else 0) else _):Nat):Int)
 rw [if_pos rfl]
 by_cases e:z=w
 ·rw [if_pos e,if_pos e.symm]; rfl
 ·rw [if_neg e,if_neg (fun q=>e q.symm)]; rfl
theorem put14 : ∀ (K:Nat) (x:PTerm) (n:ByteArray) (y:PTerm) (F:List (ByteArray × Int)),rightT x=true→rightT y=true→(∀ z,vL F z=cntT z y)→sizeT x + sizeT y + 60 ≤ K→sizeT x + sizeT y ≤ 1000000000→zcD.f K x n y F=some (putT x n y)
 | 0,x,n,y,F,_,_,_,h,_=>by omega
 | K + 1,x,n,y,F,hr,hy,hF,h,hb=>by
  have hs:=xD x
  have hsy:=ud y
  have hl:=uc x.sub
  have h3:=len3 hr
  show zcD.g (zcD.f K) K x n y F=_
  unfold zcD.g
  by_cases hk:x.kind=1
  ·rw [if_pos (by simpa using hk),put_var n y hk]
   by_cases e:x.name=n
   ·rw [if_pos (by simpa using e),if_pos e,clone14 K y hy zbq]; rfl
   ·rw [if_neg (by simpa using e),if_neg e]
  rw [if_neg (by simpa using hk),chk,if_pos (by simp; omega),show ((x.sub.length:Int) - 0).toNat=x.sub.length by omega,show Int.toNat (x.sub.length:Int)=x.sub.length from rfl]
  have hloop:=zbe (b:=fun i s=>zcD.b0 x K n F (zcD.f K) y i s) (inv:=fun i=>stP x n y i) x.sub.length 0 (fun j _ hj=>by
   have hj:j < x.sub.length:=by omega
   have hm:sizeT x.sub[j] ≤ sizeL x.sub:=xS (List.getElem_mem hj)
   have hrp:=ym hr hj
   obtain ⟨G,hG,hG2⟩ := freely14 (K:=K) (x:=x.sub[j]) zbq zbq
   show zcD.b0 x K n F (zcD.f K) y (j:Int) (stP x n y j)=some (stP x n y (j + 1))
   unfold zcD.b0
   have hck:inb (j:Int) (setJ (plS x n y) j).length=true:=yp zbq (by rw [setJ_len _ _ (by rw [plS_len]; omega),plS_len]; omega)
   rw [vk hj,bind14,zbu,hG,zbu]
   have e3:=nmJ_succ hr n y hj
   have e4:=otJ_succ hr n y hj
   have hst:stP x n y (j + 1)=⟨x.kind,nmJ x n y (j + 1),otJ x n y (j + 1),x.form,(setJ (plS x n y) j).set (Int.toNat (j:Int)) (putC putT x n y j x.sub[j])⟩ := by
    unfold stP
    rw [← plS_at n y hj,show Int.toNat (j:Int)=j from rfl,setJ_succ (by rw [plS_len]; exact hj)]
   have q1:((Gw.look n G).getD 0=0)=¬ xO n x.sub[j]:=by
    apply propext; show vL G n=0↔_; rw [hG2]; unfold xO; omega
   have q2:(0 < (Gw.look (xb x j) F).getD 0)=xO (xb x j) y:=by
    apply propext; show 0 < vL F (xb x j)↔_; rw [hF]; unfold xO; omega
   simp only [q1,q2]
   by_cases c1:xb x j=n∨¬ xO n x.sub[j]
   ·have hren:¬ renC x n y j x.sub[j]:=fun q=>c1.elim q.1.1 (fun r=>r q.1.2)
    have hp:putC putT x n y j x.sub[j]=x.sub[j]:=by rw [putC,if_pos c1]
    have n1:nmJ x n y (j + 1)=nmJ x n y j:=by rw [e3,if_neg (fun q=>hren q.1)]
    have o1:otJ x n y (j + 1)=otJ x n y j:=by rw [e4,if_neg (fun q=>hren q.1)]
    rw [hst,n1,o1,hp]
    rw [if_pos (by
     rcases c1 with e | e
     ·simp [e]
     ·simp [e]),clone14 K _ hrp zbq,zbu]
    show chk (inb (j:Int) (setJ (plS x n y) j).length) _=_
    rw [chk,if_pos hck]
    rfl
   have c1':xb x j ≠ n∧xO n x.sub[j]:=⟨fun q=>c1 (.inl q),Classical.byContradiction fun q=>c1 (.inr q)⟩
   rw [if_neg (by simp [c1'.1,c1'.2])]
   by_cases c3:xb x j ≠ ⟨#[]⟩ ∧ xO (xb x j) y
   ·have hren:renC x n y j x.sub[j]:=⟨c1',c3⟩
    have hp:putC putT x n y j x.sub[j]=putT (putT x.sub[j] (xb x j) (varT (xC x.sub[j] y n))) n y:=by rw [putC,if_neg c1,if_pos c3]
    have hww:=uL x.sub[j] y n
    have hvr:rightT (varT (xC x.sub[j] y n))=true:=kn hww
    have hv1:sizeT (varT (xC x.sub[j] y n))=1:=rfl
    have hq:rightT (putT x.sub[j] (xb x j) (varT (xC x.sub[j] y n)))=true:=km _ _ (Nat.le_refl _) hrp _ _ hvr
    have hsr:=size_ren x.sub[j] (xb x j) (xC x.sub[j] y n)
    rw [if_pos (by simp [c3.1,c3.2]),fresh14 hG2 hF zbq zbq,zbu]
    have hrec:zcD.f K x.sub[j] (xb x j) (⟨1,xC x.sub[j] y n,ByteArray.empty,0,[]⟩ : PTerm) (Gw.ins (xC x.sub[j] y n) 1 ([]:List (ByteArray × Int)))=some (putT x.sub[j] (xb x j) (varT (xC x.sub[j] y n))):=put14 K x.sub[j] (xb x j) (varT (xC x.sub[j] y n)) _ hrp hvr (fun z=>vL_one _ z) zbq zbq
    rw [hrec,zbu]
    have hrec2:=put14 K _ n y F hq hy hF zbq zbq
    by_cases h2:j=2
    ·have n1:nmJ x n y (j + 1)=nmJ x n y j:=by rw [e3,if_neg (fun q=>q.2 h2)]
     have o1:otJ x n y (j + 1)=xC x.sub[j] y n:=by rw [e4,if_pos ⟨hren,h2⟩]
     rw [if_pos (by simp [h2]),zbu]
     dsimp only
     rw [hrec2,zbu]
     show chk (inb (j:Int) (setJ (plS x n y) j).length) _=_
     rw [chk,if_pos hck,hst,n1,o1,hp]
     rfl
    ·have n1:nmJ x n y (j + 1)=xC x.sub[j] y n:=by rw [e3,if_pos ⟨hren,h2⟩]
     have o1:otJ x n y (j + 1)=otJ x n y j:=by rw [e4,if_neg (fun q=>h2 q.2)]
     rw [if_neg (by simp; omega),zbu]
     dsimp only
     rw [hrec2,zbu]
     show chk (inb (j:Int) (setJ (plS x n y) j).length) _=_
     rw [chk,if_pos hck,hst,n1,o1,hp]
     rfl
   ·have hren:¬ renC x n y j x.sub[j]:=fun q=>c3 q.2
    have hp:putC putT x n y j x.sub[j]=putT x.sub[j] n y:=by rw [putC,if_neg c1,if_neg c3]
    have n1:nmJ x n y (j + 1)=nmJ x n y j:=by rw [e3,if_neg (fun q=>hren q.1)]
    have o1:otJ x n y (j + 1)=otJ x n y j:=by rw [e4,if_neg (fun q=>hren q.1)]
    rw [if_neg (by simpa using c3),zbu]
    dsimp only
    rw [put14 K _ n y F hrp hy hF zbq zbq,zbu]
    show chk (inb (j:Int) (setJ (plS x n y) j).length) _=_
    rw [chk,if_pos hck,hst,n1,o1,hp]
    rfl)
  have h0:stP x n y 0=⟨x.kind,x.name,x.other,x.form,List.replicate x.sub.length PTerm.z⟩ := by
   unfold stP nmJ otJ; rw [if_neg zbq,if_neg zbq,setJ_0,plS_len]
  have h1:stP x n y (0 + x.sub.length)=putT x n y:=by
   unfold stP
   rw [Nat.zero_add,nmJ_end hr,otJ_end hr,zbl n y hk]
   have:=setJ_end (plS x n y)
   rw [plS_len] at this
   rw [this]; rfl
  rw [h0,h1] at hloop
  have hloop:forS (fun i s=>zcD.b0 x K n F (zcD.f K) y i s) x.sub.length 0 (⟨x.kind,x.name,x.other,x.form,List.replicate x.sub.length PTerm.z⟩ : PTerm)=some (putT x n y):=hloop
  rw [hloop,zbu,PTerm.eta]
end
section
open Gw
mutual
def gD (b:Bool) (n:ByteArray) (a:Nat):PTerm→Nat
 | .mk k nm ot _ s=>if k=1 then (if nm=n then a else 1) else 1 + gDL b n a k nm ot 0 s
def gDL (b:Bool) (n:ByteArray) (a:Nat) (k:Int) (nm ot:ByteArray):Nat→List PTerm→Nat
 | _,[]=>0
 | i,y :: l=>max (if yF k nm ot i=n then (if b then depT y else 0) else gD b n a y) (gDL b n a k nm ot (i + 1) l)
end
theorem gD_eq (b:Bool) (n:ByteArray) (a:Nat) (x:PTerm):gD b n a x=if x.kind=1 then (if x.name=n then a else 1) else 1 + gDL b n a x.kind x.name x.other 0 x.sub:=by cases x; simp only [gD]; rfl
theorem gDL_take (b:Bool) (n:ByteArray) (a:Nat) (k:Int) (nm ot:ByteArray) : ∀ {l:List PTerm} {i j:Nat} {x:PTerm},l[j]? = some x→gDL b n a k nm ot i (l.take (j + 1))=max (gDL b n a k nm ot i (l.take j)) (if yF k nm ot (i + j)=n then (if b then depT x else 0) else gD b n a x)
 | [],_,_,_,h=>by simp at h
 | y :: l,i,0,x,h=>by simp at h; subst h; simp [gDL]
 | y :: l,i,j + 1,x,h=>by
  have:=gDL_take b n a k nm ot (l:=l) (i:=i + 1) (j:=j) (by simpa using h)
  simp only [List.take_succ_cons,gDL]
  rw [this,show i + 1 + j=i + (j + 1) by omega]; omega
mutual
theorem gD_le (n:ByteArray) (a:Nat) : ∀ x,gD false n a x ≤ gD true n a x∧gD true n a x ≤ max (gD false n a x) (depT x)
 | .mk k nm ot f s=>by
  simp only [gD,depT]
  by_cases hk:k=1
  ·simp only [if_pos hk]; omega
  ·simp only [if_neg hk]
   have:=gDL_le n a k nm ot 0 s
   omega
theorem gDL_le (n:ByteArray) (a:Nat) (k:Int) (nm ot:ByteArray) : ∀ (i:Nat) (l:List PTerm),gDL false n a k nm ot i l ≤ gDL true n a k nm ot i l∧gDL true n a k nm ot i l ≤ max (gDL false n a k nm ot i l) (depL l)
 | _,[]=>by simp [gDL]
 | i,y :: l=>by
  have h1:=gD_le n a y
  have h2:=gDL_le n a k nm ot (i + 1) l
  simp only [gDL,depL]
  by_cases e:yF k nm ot i=n
  ·simp only [if_pos e]
   simp only [if_true,Bool.false_eq_true,if_false]; omega
  ·simp only [if_neg e]; omega
end
theorem gD_low {b:Bool} {n:ByteArray} {a:Nat} {x:PTerm} (hb:gD b n a x ≤ gD true n a x) (ha:a ≤ 1024) : ∀ (d:Nat) (y:PTerm),depT y ≤ d→gD true n a y ≤ d + 1024
 | 0,y,h=>by have:=yx y; omega
 | d + 1,y,h=>by
  have hd:=yj y
  rw [gD_eq]
  by_cases hk:y.kind=1
  ·rw [if_pos hk]; split <;> omega
  rw [if_neg hk]
  have key : ∀ (l:List PTerm) (i:Nat),(∀ z ∈ l,depT z ≤ d)→gDL true n a y.kind y.name y.other i l ≤ d + 1024:=by
   intro l
   induction l with
   | nil=>intro i _; simp [gDL]
   | cons z l ih =>
    intro i hz
    have h1:=ih (i + 1) (fun w hw=>hz w (by simp [hw]))
    have h2:=gD_low hb ha d z (hz z zbr)
    have h3:=hz z zbr
    simp only [gDL]
    split
    ·simp only [if_true]; omega
    ·omega
  have:=key y.sub 0 (fun z hz=>by have:=ye _ hz; omega)
  omega
theorem cntL_le (n:ByteArray) (k:Int) (nm ot:ByteArray) : ∀ (l:List PTerm) (i:Nat),cntL n k nm ot i l ≤ sizeL l
 | [],i=>by simp [cntL,sizeL]
 | y :: l,i=>by
  have h1:=cntL_le n k nm ot l (i + 1)
  have h2:=cnt_le n y
  simp only [cntL,sizeL]; split <;> omega
theorem max_int (a b:Nat):(if (a:Int) < (b:Int) then (b:Int) else (a:Int))=((max a b:Nat):Int):=by
 split <;> omega
theorem grown14 : ∀ (K:Nat) (x:PTerm) (n:ByteArray) (a e:Nat),rightT x=true→sizeT x + 1100 ≤ K→sizeT x ≤ 65536→depT x ≤ 1024→1 ≤ a→a ≤ 65536→e ≤ 1024 →
  zcy.f K x n (a:Int) (e:Int)=some (((sizeT x + cntT n x * (a - 1):Nat):Int),((gD true n e x:Nat):Int))
 | 0,x,n,a,e,_,h,_,_,_,_,_=>by omega
 | K + 1,x,n,a,e,hr,h,hb,hdp,ha,ha2,he=>by
  have hs:=xD x
  have hd:=yj x
  have hl:=uc x.sub
  show zcy.g (zcy.f K) K x n a e=_
  unfold zcy.g
  by_cases hk:x.kind=1
  ·rw [if_pos (by simpa using hk),gD_eq,if_pos hk,vz,if_pos hk]
   have h0:x.sub=[]:=(yl hr).1 hk
   have hs1:sizeT x=1:=by rw [hs,h0]; rfl
   by_cases q:x.name=n
   ·rw [if_pos (by simpa using q),if_pos q,if_pos q,hs1]
    congr 2; omega
   ·rw [if_neg (by simpa using q),if_neg q,if_neg q,hs1]
    simp
  rw [if_neg (by simpa using hk),show ((x.sub.length:Int) - 0).toNat=x.sub.length by omega]
  have hmul : ∀ c:Nat,c ≤ 65536→c * (a - 1) ≤ 4294967296:=fun c hc=>Nat.le_trans (Nat.mul_le_mul hc (show a - 1 ≤ 65536 by omega)) zbp
  have hloop:=zbe (b:=fun i (s:Int × Int)=>zcy.b0 x K n (zcy.f K) a e i s.1 s.2) (inv:=fun i=>(((1 + sizeL (x.sub.take i) + cntL n x.kind x.name x.other 0 (x.sub.take i) * (a - 1):Nat):Int),((gDL true n e x.kind x.name x.other 0 (x.sub.take i):Nat):Int))) x.sub.length 0 (fun j _ hj=>by
   have hj:j < x.sub.length:=by omega
   have hjo:x.sub[j]? = some x.sub[j]:=List.getElem?_eq_getElem hj
   have hm:sizeT x.sub[j] ≤ sizeL x.sub:=xS (List.getElem_mem hj)
   have hmd:depT x.sub[j] ≤ depL x.sub:=ye _ (List.getElem_mem hj)
   have hst:=sizeL_take hjo
   have hct:=cntL_take n x.kind x.name x.other (i:=0) hjo
   have hdt:=gDL_take true n e x.kind x.name x.other (i:=0) hjo
   rw [Nat.zero_add] at hct hdt
   have hsl:=zaF (l:=x.sub) (j + 1)
   have hcl:=cntL_le n x.kind x.name x.other (x.sub.take j) 0
   have hm1:=hmul (cntL n x.kind x.name x.other 0 (x.sub.take j)) zbq
   have hc2:=cnt_le n x.sub[j]
   have hm2:=hmul (cntT n x.sub[j]) zbq
   show zcy.b0 x K n (zcy.f K) a e (j:Int) _ _=_
   unfold zcy.b0 zbG.f zbL.f
   rw [vk hj,zbu,show (1025:Int)=((1025:Nat):Int) from rfl,deep_some K x.sub[j] 1025 zbq zbq zbq zbq]
   simp only [zbu]
   rw [bind14,zbu]
   by_cases q:xb x j=n
   ·have q':yF x.kind x.name x.other j=n:=q
    rw [if_neg (by simpa using q)]
    rw [hst,hct,hdt,if_pos q',if_pos q']
    have e1:(if true=true then depT x.sub[j] else 0)=depT x.sub[j]:=rfl
    rw [e1,show min (sizeT x.sub[j]) 65537=sizeT x.sub[j] by omega,show min (depT x.sub[j]) 1025=depT x.sub[j] by omega,max_int,Nat.add_zero]
    rw [wrap_small ⟨by omega,by omega⟩]
    congr 2; omega
   ·have q':¬ yF x.kind x.name x.other j=n:=q
    rw [if_pos (by simpa using q),grown14 K x.sub[j] n a e (ym hr hj) zbq zbq zbq ha ha2 he,zbu]
    rw [hst,hct,hdt,if_neg q',if_neg q',max_int]
    rw [wrap_small ⟨by omega,by omega⟩]
    rw [Nat.add_mul]
    congr 2; omega)
  have h0:(((1 + sizeL (x.sub.take 0) + cntL n x.kind x.name x.other 0 (x.sub.take 0) * (a - 1):Nat):Int),((gDL true n e x.kind x.name x.other 0 (x.sub.take 0):Nat):Int))=((1:Int),(0:Int)):=by
   rw [List.take_zero]; simp [sizeL,cntL,gDL]
  rw [h0,Nat.zero_add,List.take_length] at hloop
  have hloop:forS (fun i (s:Int × Int)=>zcy.b0 x K n (zcy.f K) a e i s.1 s.2) x.sub.length 0 (1,0)=_:=hloop
  rw [hloop,zbu,gD_eq,if_neg hk,vz,if_neg hk,hs]
  have hlow:=gD_low (b:=true) (n:=n) (a:=e) (x:=x) (Nat.le_refl _) he _ x (Nat.le_refl _)
  rw [gD_eq,if_neg hk] at hlow
  rw [wrap_small ⟨by omega,by omega⟩]
  congr 2; omega
end
section
open Gw
end
section
open Gw
end
section
open Gw
def err:TR→Option (Int × List Int)
 | .ok _=>none
 | .no c w=>some (c,w.reverse)
abbrev Tc:Type:=PChecker→PTerm→List (ByteArray × Int)→Option (Int × Option (Int × List Int))
abbrev Cc:Type:=PChecker→PTerm→List (ByteArray × Int)→Int→Option (Option (Int × List Int))
def Sok (M:List Nd) (s:Sc):Prop := ∀ q ∈ s,inb q.2 M.length=true
def Tells (M:List Nd) (r:Option (Int × Option (Int × List Int))) (t:TR):Prop := ∃ i,r=some (i,err t) ∧ ∀ f,t = .ok f→i=f∧inb f M.length=true
section
variable {M:List Nd} {x:PTerm} {k:Nat} {T:Tc} {C:Cc}
structure Parts (M:List Nd) (k:Nat) (x:PTerm) (T:Tc) (C:Cc):Prop where
 told : ∀ i,inb i x.sub.length=true → ∀ s,Sok M s→Tells M (T ⟨some M⟩ (at_ PTerm.z x.sub i) s) (tyS M k (at_ PTerm.z x.sub i) s none)
 chkd : ∀ i,inb i x.sub.length=true → ∀ s,Sok M s → ∀ id,inb id M.length=true→C ⟨some M⟩ (at_ PTerm.z x.sub i) s id=some (err (tyS M k (at_ PTerm.z x.sub i) s (some id)))
end
end
section
open Gw
end
section
open Gw
-- nodes,levels,what is right,as the document tells them
theorem rsize_some : ∀ (K:Nat) (x:PTerm) (n:Nat),n ≤ 65536→65540 ≤ K + n→sizeL x.sub < 9223372036854775807→zbM.f K x (n:Int)=some ((min (n + sizeT x) 65537:Nat):Int)
 | 0,_,_,h1,h2,_=>by omega
 | K + 1,x,n,h1,h2,hbig=>by
  show zbM.g (zbM.f K) K x n=_
  unfold zbM.g
  have hs:=xD x
  have hls:=zbi x.sub
  have hw:IntKind.i64.wrap ((n:Int) + 1)=((n + 1:Nat):Int):=by
   rw [show ((n:Int) + 1)=((n + 1:Nat):Int) by omega]; exact kS zbq
  have hgrow : ∀ i,i ≤ x.sub.length→i ≤ sizeL (x.sub.take i):=fun i hi=>by
   have:=zbi (x.sub.take i); rw [List.length_take] at this; omega
  obtain ⟨N,hN1,hN2⟩ : ∃ N,N=min x.sub.length (65536 - n)∧(N=x.sub.length∨65537 ≤ n + 1 + sizeL (x.sub.take N)):=by
   refine ⟨_,rfl,?_⟩
   by_cases h:x.sub.length ≤ 65536 - n
   ·left; omega
   ·right
    have:=hgrow (min x.sub.length (65536 - n)) zbq
    omega
  have hfin:min (n + 1 + sizeL (x.sub.take N)) 65537=min (n + sizeT x) 65537:=by
   rcases hN2 with h | h
   ·rw [h,List.take_length]; omega
   ·have:=zaF (l:=x.sub) N; omega
  obtain ⟨j,hj⟩ := iter_count (b:=fun s=>zbM.b0 x (zbM.f K) s.1 s.2) (g:=fun i=>((min (n + 1 + sizeL (x.sub.take i)) 65537:Nat):Int)) N (fun i hi=>by
   have hil:i < x.sub.length:=by omega
   have he:=List.getElem?_eq_getElem hil
   have hd:=sizeL_take he
   simp only [zbM.b0]
   by_cases hc:n + 1 + sizeL (x.sub.take i) ≤ 65536
   ·left
    have hm:min (n + 1 + sizeL (x.sub.take i)) 65537=n + 1 + sizeL (x.sub.take i):=by omega
    rw [hm,if_pos (by simp; omega),chk_t (by rw [inb_nat]; exact decide_eq_true hil),vk hil,rsize_some K _ _ hc zbq (by have:=xS (List.getElem_mem hil); have:=xD x.sub[i]; omega)]
    simp only [zbu]
    rw [show (i:Int) + 1=((i + 1:Nat):Int) by omega,kS zbq,hd]
    congr 5
    omega
   ·right
    rw [if_neg (by simp; omega)]
    refine ⟨rfl,?_⟩
    congr 1
    have h6:=zaF (l:=x.sub) i
    have h7:sizeL (x.sub.take i) ≤ sizeL (x.sub.take N):=by
     have:=zaF (l:=x.sub.take N) i
     rw [List.take_take,Nat.min_eq_left zbq] at this; exact this
    omega) (by
   simp only [zbM.b0]
   rcases hN2 with h | h
   ·rw [if_neg (by rw [h]; simp)]
   ·rw [if_neg (by simp; omega)]) K 0 zbq zbq
  simp only [List.take_zero,sizeL,Nat.add_zero] at hj
  rw [Nat.min_eq_left (show n + 1 ≤ 65537 by omega),show ((0:Nat):Int)=0 from rfl,hfin] at hj
  rw [hw,hj]
  simp only [zbu,aft]
theorem rdeep_some : ∀ (K:Nat) (x:PTerm) (lv:Nat),1 ≤ lv→lv ≤ 1025→sizeT x ≤ 65536→sizeT x + 1025 < K + lv→zbO.f K x (lv:Int)=some ((min (lv - 1 + depT x) 1025:Nat):Int)
 | 0,x,lv,h1,h2,h3,hK=>by have:=ud x; omega
 | K + 1,x,lv,h1,h2,h3,hK=>by
  show zbO.g (zbO.f K) K x lv=_
  unfold zbO.g
  have hp:=yx x
  by_cases hm:1024 < lv
  ·rw [if_pos (by simp; omega)]
   congr 2; omega
  rw [if_neg (by simp; omega)]
  have hw:IntKind.i64.wrap ((lv:Int) + 1)=((lv + 1:Nat):Int):=by
   rw [show ((lv:Int) + 1)=((lv + 1:Nat):Int) by omega]; exact kS zbq
  have hs:=xD x
  have hls:=zbi x.sub
  obtain ⟨j,hj⟩ := iter_count (b:=fun s=>zbO.b0 x (zbO.f K) lv s.1 s.2) (g:=fun i=>((min (lv + depL (x.sub.take i)) 1025:Nat):Int)) x.sub.length (fun i hi=>by
   have he:=List.getElem?_eq_getElem hi
   have hd:=depL_take he
   have hle:=depL_le (l:=x.sub) i
   simp only [zbO.b0,hw]
   by_cases hc:lv + depL (x.sub.take i) ≤ 1024
   ·left
    rw [if_pos (by simp; omega),chk_t (by rw [inb_nat]; exact decide_eq_true hi),vk hi,rdeep_some K _ (lv + 1) zbq zbq (by have:=xS (List.getElem_mem hi); omega) (by have:=xS (List.getElem_mem hi); omega)]
    simp only [zbu]
    rw [show (i:Int) + 1=((i + 1:Nat):Int) by omega,kS zbq]
    congr 3
    rw [hd]
    split <;> omega
   ·right
    rw [if_neg (by simp; omega)]
    refine ⟨rfl,?_⟩
    rw [List.take_length]
    congr 1
    omega) (by
   simp only [zbO.b0,hw]
   rw [if_neg zbr]) K 0 zbq zbq
  simp only [List.take_zero,depL,Nat.add_zero,List.take_length] at hj
  rw [show min lv 1025=lv by omega,show ((0:Nat):Int)=0 from rfl] at hj
  rw [hj]
  simp only [zbu,aft]
  rw [yj]
  congr 2
  omega
theorem rparts_some (k:Int):zbJ.f k=some (yC k):=by
 by_cases h:k=1∨k=2∨k=3∨k=4∨k=5∨k=6∨k=7∨k=8∨k=9∨k=10∨k=11∨k=12
 ·rcases h with rfl | rfl | rfl | rfl | rfl | rfl | rfl | rfl | rfl | rfl | rfl | rfl <;> decide
 ·simp only [not_or] at h
  obtain ⟨h1,h2,h3,h4,h5,h6,h7,h8,h9,h10,h11,h12⟩ := h
  simp [zbJ.f,yC,h1,h2,h3,h4,h5,h6,h7,h8,h9,h10,h11,h12]
theorem iter_all {ρ:Type} {b:Int→Option (Stp Int ρ)} {p:Nat→Bool} {r:ρ} (n:Nat) (h : ∀ i,i < n→b (i:Int)=some (if p i then .go ((i + 1:Nat):Int) else .ret r)) (he:b (n:Int)=some (.brk (n:Int))) :
  ∀ (k i:Nat),i ≤ n→n - i < k→iter b k (i:Int)=some (if (List.range' i (n - i)).all p then .inl (n:Int) else .inr r)
 | 0,i,_,hk=>by omega
 | k + 1,i,hi,hk=>by
  by_cases hin:i=n
  ·subst hin; simp only [iter,he,zbu,Nat.sub_self,List.range'_zero,List.all_nil,if_true]
  ·rw [iter,h i zbq,show n - i=(n - (i + 1)) + 1 by omega,List.range'_succ,List.all_cons]
   cases hp:p i with
   | true =>
    simp only [if_true,zbu,Bool.true_and]
    exact iter_all n h he k (i + 1) zbq zbq
   | false=>simp only [Bool.false_eq_true,if_false,zbu,Bool.false_and]
theorem rright_some : ∀ (K:Nat) (x:PTerm),nmT x→depT x + 3 < K→zbV.f K x=some (rightT x)
 | 0,x,_,h=>by omega
 | K + 1,x,hn,hK=>by
  have hd:=yj x
  obtain ⟨n1,n2,n3⟩ := (ja x).1 hn
  show zbV.g (zbV.f K) K x=_
  unfold zbV.g
  rw [rparts_some,zah]
  simp only [zbu]
  by_cases hl:yC x.kind=(x.sub.length:Int)
  ·have hlen:x.sub.length ≤ 3:=by
    unfold yC at hl
    split at hl
    ·omega
    split at hl
    ·omega
    split at hl
    ·omega
    split at hl <;> omega
   have hloop:iter (fun s=>zbV.b0 x (zbV.f K) s) K 0=some (if rightL x.sub then .inl (x.sub.length:Int) else .inr false):=by
    have h1:=iter_all (b:=fun s=>zbV.b0 x (zbV.f K) s) (p:=fun i=>rightT (x.sub.getD i PTerm.z)) (r:=false) x.sub.length (fun i hi=>by
     have he:=List.getElem?_eq_getElem hi
     have hm:=List.getElem_mem hi
     simp only [zbV.b0]
     rw [if_pos (by simp; omega),chk_t (by rw [inb_nat]; exact decide_eq_true hi),vk hi,rright_some K _ (nmL_mem n3 _ hm) (by have:=ye _ hm; omega)]
     simp only [zbu,List.getD_eq_getElem?_getD,he,Option.getD_some]
     rw [show (i:Int) + 1=((i + 1:Nat):Int) by omega,kS zbq]
     cases rightT x.sub[i] <;> rfl) (by
     simp only [zbV.b0]
     rw [if_neg zbr]) K 0 zbq zbq
    rw [show ((0:Nat):Int)=0 from rfl] at h1
    rw [h1]
    have h2:(List.range' 0 (x.sub.length - 0)).all (fun i=>rightT (x.sub.getD i PTerm.z))=rightL x.sub:=by
     rw [rightL_all,Bool.eq_iff_iff]
     simp only [List.all_eq_true,List.mem_range'_1,Nat.sub_zero]
     constructor
     ·intro hh y hy
      obtain ⟨k,hk,rfl⟩ := List.getElem_of_mem hy
      have:=hh k ⟨by omega,by omega⟩
      simpa only [List.getD_eq_getElem?_getD,List.getElem?_eq_getElem hk,Option.getD_some] using this
     ·intro hh k hk
      have hk':k < x.sub.length:=by omega
      simp only [List.getD_eq_getElem?_getD,List.getElem?_eq_getElem hk',Option.getD_some]
      exact hh _ (List.getElem_mem hk')
    rw [h2]
   rw [hloop]
   unfold nodeR
   simp only [zbA.f]
   rw [chk_t (decide_eq_true n1),chk_t (decide_eq_true n2)]
   have hb:((((decide (x.kind=1)) || (decide (x.kind=2))) || (decide (x.kind=9))) || (decide (x.kind=12)))=decide (x.kind=1∨x.kind=2∨x.kind=9∨x.kind=12):=by
    rw [Bool.eq_iff_iff]; simp; omega
   rw [hb]
   generalize yC x.kind=p at hl
   subst hl
   by_cases hk:x.kind=1∨x.kind=2∨x.kind=9∨x.kind=12
   ·simp only [if_pos hk,decide_eq_true hk]
    by_cases hw:isWord x.name
    ·by_cases h9:x.kind=9
     ·have h9':¬ x.kind ≠ 9:=fun q=>q h9
      simp only [if_pos h9,decide_eq_true h9,decide_eq_false h9']
      by_cases ho:isWord x.other
      ·by_cases hf:x.form=0
       ·cases hr:rightL x.sub <;> simp [h9,hw,ho,hf,hr,aft]
       ·cases hr:rightL x.sub <;> simp [h9,hw,ho,hf,hr,aft]
      ·simp [hw,ho]
     ·have h9':x.kind ≠ 9:=h9
      simp only [if_neg h9,decide_eq_false h9,decide_eq_true h9']
      by_cases ho:x.other=⟨#[]⟩
      ·by_cases h11:x.kind=11
       ·omega
       ·by_cases hf:x.form=0
        ·cases hr:rightL x.sub <;> simp [h11,hw,ho,hf,hr,aft]
        ·cases hr:rightL x.sub <;> simp [h11,hw,ho,hf,hr,aft]
      ·simp [hw,ho]
    ·simp [hw]
   ·have h9:¬ x.kind=9:=fun e=>hk (.inr (.inr (.inl e)))
    have h9':x.kind ≠ 9:=h9
    simp only [if_neg hk,decide_eq_false hk,if_neg h9,decide_eq_false h9,decide_eq_true h9']
    by_cases hw:x.name=⟨#[]⟩
    ·by_cases ho:x.other=⟨#[]⟩
     ·by_cases h11:x.kind=11
      ·by_cases hf:0 ≤ x.form
       ·by_cases hg:x.form < 1024
        ·have q1:¬ x.form < 0:=by omega
         have q2:¬ 1024 ≤ x.form:=by omega
         cases hr:rightL x.sub <;> simp [h11,hw,ho,hf,hg,q1,q2,hr,aft]
        ·have q2:1024 ≤ x.form:=by omega
         simp [h11,hw,ho,hf,hg,q2]
       ·have q1:x.form < 0:=by omega
        simp [h11,hw,ho,hf,q1]
      ·by_cases hf:x.form=0
       ·cases hr:rightL x.sub <;> simp [h11,hw,ho,hf,hr,aft]
       ·simp [h11,hw,ho,hf]
     ·simp [hw,ho]
    ·simp [hw]
  ·rw [if_pos (by simpa using hl)]
   simp [nodeR,hl]
theorem kP {K:Nat} {x:PTerm} (hK:67000 ≤ K) (hn:nmT x) (hbig:sizeL x.sub < 9223372036854775807):zbW.f K x=some (yo x):=by
 unfold zbW.f zbN.f zbP.f yo
 rw [show (0:Int)=((0:Nat):Int) from rfl,rsize_some K x 0 zbq zbq hbig]
 simp only [zbu,Nat.zero_add]
 by_cases hs:65536 < sizeT x
 ·have h1:min (sizeT x) 65537=65537:=by omega
  simp [h1,hs]
 ·have h1:min (sizeT x) 65537=sizeT x:=by omega
  have h2:¬ (65536:Int) < (sizeT x:Int):=by omega
  rw [h1,show (1:Int)=((1:Nat):Int) from rfl]
  simp only [h2,decide_false,Bool.not_false,if_true,rdeep_some K x 1 zbq zbq zbq zbq,zbu,Bool.false_or,decide_eq_true_eq,hs,false_or,Nat.sub_self,Nat.zero_add]
  have hdp:=yx x
  by_cases hd:1024 < depT x
  ·have h3:(1024:Int) < ((min (depT x) 1025:Nat):Int):=by omega
   simp [h3,hd]
  ·have h3:¬ (1024:Int) < ((min (depT x) 1025:Nat):Int):=by omega
   rw [if_neg h3,if_neg hd,rright_some K x hn zbq]
   cases rightT x <;> rfl
end
section
open Gw
set_option maxRecDepth 4000
theorem grown12 : ∀ (K:Nat) (x:PTerm) (n:ByteArray) (lv e:Nat),sizeT x + 1100 ≤ K→sizeT x ≤ 65536→1 ≤ lv→lv + depT x ≤ 4000→1 ≤ e→e ≤ 1024 →
  zdx.f K x n (lv:Int) (e:Int)=some (((cntT n x:Nat):Int),((lv - 1 + gD false n e x:Nat):Int))
 | 0,x,n,lv,e,h,_,_,_,_,_=>by omega
 | K + 1,x,n,lv,e,h,hb,hlv,hdp,he1,he=>by
  have hs:=xD x
  have hd:=yj x
  have hl:=uc x.sub
  show zdx.g (zdx.f K) K x n lv e=_
  unfold zdx.g
  by_cases hk:x.kind=1
  ·rw [if_pos (by simpa using hk),gD_eq,if_pos hk,vz,if_pos hk]
   by_cases q:x.name=n
   ·rw [if_pos (by simpa using q),if_pos q,if_pos q,wrap_small (n:=(lv:Int) + e) ⟨by omega,by omega⟩,wrap_small ⟨by omega,by omega⟩]
    refine congrArg some (Prod.ext rfl ?_)
    show (lv:Int) + e - 1=((lv - 1 + e:Nat):Int)
    omega
   ·rw [if_neg (by simpa using q),if_neg q,if_neg q]
    refine congrArg some (Prod.ext rfl ?_)
    show (lv:Int)=((lv - 1 + 1:Nat):Int)
    omega
  rw [if_neg (by simpa using hk)]
  have hloop:=zaA (b:=fun s:Int × Int × Int=>zdx.b0 x n (zdx.f K) lv e s.1 s.2.1 s.2.2) (inv:=fun i=>(((cntL n x.kind x.name x.other 0 (x.sub.take i):Nat):Int),((lv + gDL false n e x.kind x.name x.other 0 (x.sub.take i):Nat):Int),(i:Int))) (s:=(((cntL n x.kind x.name x.other 0 x.sub:Nat):Int),((lv + gDL false n e x.kind x.name x.other 0 x.sub:Nat):Int),(x.sub.length:Int))) x.sub.length 0 K zbq (fun j _ hj=>by
   have hj:j < x.sub.length:=by omega
   have hjo:x.sub[j]? = some x.sub[j]:=List.getElem?_eq_getElem hj
   have hm:sizeT x.sub[j] ≤ sizeL x.sub:=xS (List.getElem_mem hj)
   have hmd:depT x.sub[j] ≤ depL x.sub:=ye _ (List.getElem_mem hj)
   have hct:=cntL_take n x.kind x.name x.other (i:=0) hjo
   have hdt:=gDL_take false n e x.kind x.name x.other (i:=0) hjo
   rw [Nat.zero_add] at hct hdt
   have hcl:=cntL_le n x.kind x.name x.other (x.sub.take (j + 1)) 0
   have hsl:=zaF (l:=x.sub) (j + 1)
   show zdx.b0 x n (zdx.f K) lv e _ _ (j:Int)=_
   unfold zdx.b0
   rw [if_pos (by simp; omega),bind12,zbu,vD zbq]
   by_cases q:xb x j=n
   ·have q':yF x.kind x.name x.other j=n:=q
    rw [if_pos (by simpa using q)]
    rw [hct,hdt,if_pos q',if_pos q']
    have e2:(if false=true then depT x.sub[j] else 0)=0:=rfl
    rw [e2,Nat.max_zero]
    rfl
   ·have q':¬ yF x.kind x.name x.other j=n:=q
    rw [if_neg (by simpa using q),chk,if_pos (yp zbq zbq),vk hj,wrap_small (n:=(lv:Int) + 1) ⟨by omega,by omega⟩]
    rw [show ((lv:Int) + 1)=((lv + 1:Nat):Int) by omega,grown12 K x.sub[j] n (lv + 1) e zbq zbq zbq zbq he1 he,zbu]
    rw [hct] at hcl
    rw [if_neg q'] at hcl hct hdt
    rw [hct,hdt,max_int,wrap_small ⟨by omega,by omega⟩]
    generalize gDL false n e x.kind x.name x.other 0 (x.sub.take j)=G
    generalize gD false n e x.sub[j]=D
    generalize cntL n x.kind x.name x.other 0 (x.sub.take j)=A
    generalize cntT n x.sub[j]=B'
    rw [show max (lv + G) (lv + 1 - 1 + D)=lv + max G D by omega,show ((A:Nat):Int) + (B':Nat)=((A + B':Nat):Int) by omega]) (by
   show zdx.b0 x n (zdx.f K) lv e _ _ ((0 + x.sub.length:Nat):Int)=_
   unfold zdx.b0
   rw [Nat.zero_add,if_neg zbr,List.take_length])
  have h0:(((cntL n x.kind x.name x.other 0 (x.sub.take 0):Nat):Int),((lv + gDL false n e x.kind x.name x.other 0 (x.sub.take 0):Nat):Int),((0:Nat):Int))=((0:Int),(lv:Int),(0:Int)):=by
   rw [List.take_zero]; simp [cntL,gDL]
  rw [h0] at hloop
  have hloop:iter (fun s:Int × Int × Int=>zdx.b0 x n (zdx.f K) lv e s.1 s.2.1 s.2.2) K (0,(lv:Int),0)=_:=hloop
  rw [hloop,gD_eq,if_neg hk,vz,if_neg hk]
  refine congrArg some (Prod.ext rfl ?_)
  show ((lv + gDL false n e x.kind x.name x.other 0 x.sub:Nat):Int)=((lv - 1 + (1 + gDL false n e x.kind x.name x.other 0 x.sub):Nat):Int)
  omega
theorem vM {x:PTerm}:yo x=0↔sizeT x ≤ 65536∧depT x ≤ 1024∧rightT x=true:=by
 unfold yo
 by_cases h:65536 < sizeT x∨1024 < depT x
 ·rw [if_pos h]; constructor
  ·intro q; exact absurd q zbp
  ·intro q; omega
 ·rw [if_neg h]
  by_cases r:rightT x=true
  ·rw [if_pos r]; exact ⟨fun _=>⟨by omega,by omega,r⟩,fun _=>rfl⟩
  ·rw [if_neg r]; exact ⟨fun q=>absurd q zbp,fun q=>absurd q.2.2 r⟩
def putV (x:PTerm) (n:ByteArray) (y:PTerm):PTerm × Int :=
 if yo x ≠ 0 then (PTerm.z,yo x) else if yo y ≠ 0 then (PTerm.z,yo y) else if ¬ isWord n then (PTerm.z,32)
 else if 65536 < sizeT x + cntT n x * (sizeT y - 1)∨1024 < gD true n (depT y) x then (PTerm.z,121) else (putT x n y,0)
theorem Put14 {K:Nat} {x:PTerm} {n:ByteArray} {y:PTerm} (hK:200000 ≤ K) (hx:nmT x) (hy:nmT y) (hn:n.size < 9223372036854775808):zcE.f K x n y=some (putV x n y):=by
 unfold zcE.f putV
 rw [zak zbq hx,zbu]
 by_cases cx:yo x=0
 rotate_left
 ·rw [if_pos (by simpa using cx),if_pos cx]; rfl
 rw [if_neg (by simpa using cx),if_neg (by simpa using cx),zak zbq hy,zbu]
 by_cases cy:yo y=0
 rotate_left
 ·rw [if_pos (by simpa using cy),if_pos cy]; rfl
 rw [if_neg (by simpa using cy),if_neg (by simpa using cy)]
 unfold zbz.f
 rw [chk,if_pos (by simpa using hn),zbu]
 by_cases w:isWord n
 rotate_left
 ·rw [if_pos (by simpa using w),if_pos w]; rfl
 obtain ⟨x1,x2,x3⟩ := vM.1 cx
 obtain ⟨y1,y2,y3⟩ := vM.1 cy
 have ys:=ud y
 rw [if_neg (by simpa using w),if_neg (by simpa using w)]
 unfold zbG.f zbL.f
 rw [zbu,show (1025:Int)=((1025:Nat):Int) from rfl,deep_some K y 1025 zbq zbq zbq zbq]
 simp only [zbu]
 rw [show min (sizeT y) 65537=sizeT y by omega,show min (depT y) 1025=depT y by omega,grown14 K x n (sizeT y) (depT y) x3 zbq x1 x2 ys y1 y2,zbu]
 obtain ⟨F,hF,hF2⟩ := freely14 (K:=K) (x:=y) zbq zbq
 by_cases c:65536 < sizeT x + cntT n x * (sizeT y - 1)∨1024 < gD true n (depT y) x
 ·rw [if_pos c,if_pos]
  ·rfl
  ·rw [Bool.or_eq_true_iff]
   rcases c with c | c
   ·exact .inl (decide_eq_true zbq)
   ·exact .inr (decide_eq_true zbq)
 ·rw [if_neg c,if_neg,hF,zbu,put14 K x n y F x3 y3 hF2 zbq zbq]
  ·rfl
  ·rw [Bool.or_eq_true_iff]
   rintro (q | q)
   ·have q:=of_decide_eq_true q; exact c (.inl zbq)
   ·have q:=of_decide_eq_true q; exact c (.inr zbq)
theorem Put12 {K:Nat} {x:PTerm} {n:ByteArray} {y:PTerm} (hK:200000 ≤ K) (hx:nmT x) (hy:nmT y) (hn:n.size < 9223372036854775808) (bx:sizeT x ≤ 1000000000) (by_:sizeT y ≤ 1000000000):zdy.f K x n y=some (putV x n y):=by
 have sx:=xD x
 have sy:=xD y
 unfold zdy.f putV
 rw [kP zbq hx zbq,zbu]
 by_cases cx:yo x=0
 rotate_left
 ·rw [if_neg (by simpa using cx),zbu,if_neg (by simpa using cx),zbu,if_neg (by simp [cx]),zbu,if_pos (by simpa using cx),if_pos cx]; rfl
 rw [if_pos (by simpa using cx),if_neg (by simpa using cx),kP zbq hy zbq,zbu,zbu]
 by_cases cy:yo y=0
 rotate_left
 ·rw [if_neg (by simpa using cy),zbu,if_neg (by simp [cy]),zbu,if_pos (by simpa using cy),if_pos cy]; rfl
 rw [if_pos (by simpa using cy),if_neg (by simpa using cy)]
 unfold zbA.f
 rw [chk,if_pos (by simpa using hn),zbu]
 by_cases w:isWord n
 rotate_left
 ·rw [if_pos (by simp [cy,w]),zbu,if_pos zbp,if_pos w]; rfl
 obtain ⟨x1,x2,x3⟩ := vM.1 cx
 obtain ⟨y1,y2,y3⟩ := vM.1 cy
 have ys:=ud y
 have dy:=yx y
 rw [if_neg (by simp [w]),zbu,if_neg (by simpa using cy),if_neg (by simpa using w)]
 unfold zbP.f zbN.f
 have hsz:=rsize_some K x 0 zbq zbq zbq
 have hsy:=rsize_some K y 0 zbq zbq zbq
 have hdy:=rdeep_some K y 1 zbq zbq y1 zbq
 rw [show (1:Int)=((1:Nat):Int) from rfl,hdy]
 simp only [zbu]
 rw [show min (1 - 1 + depT y) 1025=depT y by omega,grown12 K x n 1 (depT y) zbq x1 zbq zbq dy y2,zbu]
 rw [show ((0:Nat):Int)=0 from rfl] at hsz hsy
 rw [hsz,hsy]
 simp only [zbu]
 rw [show min (0 + sizeT x) 65537=sizeT x by omega,show min (0 + sizeT y) 65537=sizeT y by omega]
 have hc:=cnt_le n x
 have hm:cntT n x * (sizeT y - 1) ≤ 4294967296:=Nat.le_trans (Nat.mul_le_mul (show cntT n x ≤ 65536 by omega) (show sizeT y - 1 ≤ 65536 by omega)) zbp
 have e1:IntKind.i64.wrap ((sizeT y:Int) - ((1:Nat):Int))=((sizeT y - 1:Nat):Int):=by rw [wrap_small ⟨by omega,by omega⟩]; omega
 have e2:((cntT n x:Nat):Int) * ((sizeT y - 1:Nat):Int)=((cntT n x * (sizeT y - 1):Nat):Int):=by rw [Int.natCast_mul]
 have hg:=gD_le n (depT y) x
 have e3:(decide (65536 < IntKind.i64.wrap ((sizeT x:Int) + IntKind.i64.wrap (((cntT n x:Nat):Int) * IntKind.i64.wrap ((sizeT y:Int) - ((1:Nat):Int))))) || decide ((1024:Int) < ((1 - 1 + gD false n (depT y) x:Nat):Int)))=decide (65536 < sizeT x + cntT n x * (sizeT y - 1)∨1024 < gD true n (depT y) x):=by
  rw [e1,e2,wrap_small (n:=((cntT n x * (sizeT y - 1):Nat):Int)) ⟨by omega,by omega⟩,wrap_small ⟨by omega,by omega⟩,Bool.eq_iff_iff,Bool.or_eq_true_iff,decide_eq_true_eq,decide_eq_true_eq,decide_eq_true_eq]
  omega
 rw [e3]
 by_cases c:65536 < sizeT x + cntT n x * (sizeT y - 1)∨1024 < gD true n (depT y) x
 ·rw [decide_eq_true c,if_pos rfl,if_pos c]; rfl
 ·rw [decide_eq_false c,if_neg zbp,if_neg c,put12 K x n y x3 y3 zbq zbq]; rfl
end
section
open Gw
abbrev kid (x:PTerm) (i:Int):PTerm:=at_ PTerm.z x.sub i
def besV (M:List Nd) (p:PTerm) (k f:Int):Int:=if p.kind=k then 1 else if p.kind=11∧(kid p 0).kind=k∧(nd M p.form).kind=f then 2 else 0
def rowV (M:List Nd) (x:PTerm):Int :=
 if x.kind=3 then besV M (kid x 0) 2 5
 else if x.kind=5∨x.kind=6 then (if besV M (kid x 0) 4 3=0 then 0 else 2 + besV M (kid x 0) 4 3)
 else if x.kind=9 then (if besV M (kid x 0) 7 4 ≠ 0 then 4 + besV M (kid x 0) 7 4 else if besV M (kid x 0) 8 4 ≠ 0 then 4 + besV M (kid x 0) 8 4 else 0)
 else if x.kind=12 then 7
 else if x.kind=11 then (if (kid x 0).kind=1∨(kid x 0).kind=3∨(kid x 0).kind=5∨(kid x 0).kind=6∨(kid x 0).kind=11 then 8 else 0)
 else 0
theorem jW {x:PTerm} (hr:rightT x=true):(x.sub.length:Int)=yC x.kind:=(uO hr).len.symm
theorem kid_at {x:PTerm} {i:Nat} (h:i < x.sub.length):kid x (i:Int)=x.sub[i]:=vk h
theorem zag {x:PTerm} (hr:rightT x=true) {i:Nat} (h:i < x.sub.length):rightT (kid x (i:Int))=true:=by rw [kid_at h]; exact ym hr h
theorem nd_at {M:List Nd} {i:Int} (h:inb i M.length=true):at_ Nd.z M i=nd M i:=by
 have h2:uM M i=true:=by simpa [uM,inb] using h
 unfold nd nodeS
 rw [if_pos h2]; rfl
theorem vd {M:List Nd} {p:PTerm} (hr:rightT p=true) (hf:p.kind=11→inb p.form M.length=true) {k f:Int} : ∃ q n,zdA.f (some M) p k f=some (q,n,decide (besV M p k f=2),decide (besV M p k f ≠ 0))∧(besV M p k f=1→q=p)∧(besV M p k f=2→q=kid p 0∧n=nd M p.form):=by
 unfold zdA.f
 by_cases h1:p.kind=k
 ·have hb:besV M p k f=1:=by unfold besV; rw [if_pos h1]
  rw [if_pos (by simpa using h1),hb]
  exact ⟨p,Nd.z,rfl,fun _=>rfl,fun q=>absurd q zbp⟩
 rw [if_neg (by simpa using h1)]
 by_cases h11:p.kind=11
 ·have hl:p.sub.length=1:=(yl hr).2.2.2.2 h11
  have hi:=hf h11
  have hi':inb p.form ((some M).getD []).length=true:=hi
  have hin:inb 0 p.sub.length=true:=by rw [hl]; rfl
  rw [chk,if_pos (by rw [hin]; simp),chk,if_pos (show (some M).isSome=true from rfl),chk,if_pos (by rw [hi']; simp)]
  have hat:at_ Nd.z ((some M).getD []) p.form=nd M p.form:=nd_at hi
  by_cases c:(kid p 0).kind=k∧(nd M p.form).kind=f
  ·have hb:besV M p k f=2:=by unfold besV; rw [if_neg h1,if_pos ⟨h11,c⟩]
   have c2:(at_ PTerm.z p.sub 0).kind=k:=c.1
   rw [hb,hat,if_pos (by simp [h11,c2,c.2]),chk,if_pos hin,chk,if_pos hi']
   exact ⟨_,_,rfl,fun q=>absurd q zbp,fun _=>⟨rfl,rfl⟩⟩
  ·have hb:besV M p k f=0:=by unfold besV; rw [if_neg h1,if_neg (fun q=>c q.2)]
   rw [hb,hat,if_neg (by
    intro q
    rw [Bool.and_eq_true_iff,Bool.and_eq_true_iff] at q
    exact c ⟨of_decide_eq_true q.1.2,of_decide_eq_true q.2⟩)]
   exact ⟨_,_,rfl,fun q=>absurd q zbp,fun q=>absurd q zbp⟩
 ·have hb:besV M p k f=0:=by unfold besV; rw [if_neg h1,if_neg (fun q=>h11 q.1)]
  rw [hb,chk,if_pos (by simp [h11]),chk,if_pos (show (some M).isSome=true from rfl),chk,if_pos (by simp [h11]),if_neg (by simp [h11])]
  exact ⟨_,_,rfl,fun q=>absurd q zbp,fun q=>absurd q zbp⟩
theorem uf {x:PTerm} {k:Int} (h:0 < x.sub.length):zbZ.f x k=some (decide ((kid x 0).kind=k)):=by
 unfold zbZ.f
 have hin:inb 0 x.sub.length=true:=yp zbq zbq
 rw [chk,if_pos (by rw [hin]; simp)]
 have:decide (0 < (x.sub.length:Int))=true:=decide_eq_true zbq
 rw [this]; rfl
theorem uH {M:List Nd} {x:PTerm} (hl:0 < x.sub.length) (hr:rightT (kid x 0)=true) (hf:(kid x 0).kind=11→inb (kid x 0).form M.length=true) {k f:Int} (hk:k ≠ 11):zca.f (some M) x k f=some (decide (besV M (kid x 0) k f=2)):=by
 unfold zca.f besV
 have hin:inb 0 x.sub.length=true:=yp zbq zbq
 rw [uf hl,zbu,chk,if_pos (by rw [hin]; simp)]
 by_cases h11:(kid x 0).kind=11
 ·have hl1:(kid x 0).sub.length=1:=(yl hr).2.2.2.2 h11
  have hne:¬ (kid x 0).kind=k:=by rw [h11]; exact fun q=>hk q.symm
  rw [if_neg hne,if_pos (by simp [h11])]
  rw [show zbZ.f (at_ PTerm.z x.sub 0) k=some (decide ((kid (kid x 0) 0).kind=k)) from uf (x:=kid x 0) zbq,zbu]
  by_cases c:(kid (kid x 0) 0).kind=k
  ·rw [if_neg (by simp [h11,c]),chk,if_pos hin]
   have hi:=hf h11
   unfold zbv.f
   simp only [Option.map_some,zbu]
   show some (decide ((nd M (kid x 0).form).kind=f))=_
   by_cases q:(nd M (kid x 0).form).kind=f
   ·rw [if_pos ⟨h11,c,q⟩]; simp [q]
   ·rw [if_neg (fun z=>q z.2.2)]; simp [q]
  ·rw [if_pos (by simp [c]),if_neg (fun z=>c z.2.1)]; rfl
 ·rw [if_neg (by simp [h11]),zbu,if_pos (by simp [h11])]
  by_cases c:(kid x 0).kind=k
  ·rw [if_pos c]; rfl
  ·rw [if_neg c,if_neg (fun z=>h11 z.1)]; rfl
end
section
open Gw
theorem kG (M:List Nd) (p:PTerm) (k f:Int):besV M p k f=0∨besV M p k f=1∨besV M p k f=2:=by
 unfold besV; split
 ·exact .inr (.inl rfl)
 ·split
  ·exact .inr (.inr rfl)
  ·exact .inl rfl
theorem row_some {n b:Int} (hn:0 ≤ n∧n ≤ 10) (hb:b=0∨b=1∨b=2):zdB.f n (decide (b=2)) (decide (b ≠ 0))=some (if b=0 then 0 else n - 1 + b):=by
 unfold zdB.f
 rcases hb with rfl | rfl | rfl
 ·rfl
 ·show some n=some (n - 1 + 1); congr 1; omega
 ·show some (IntKind.i64.wrap (n + 1))=some (n - 1 + 2)
  rw [wrap_small ⟨by omega,by omega⟩]; congr 1; omega
section
variable {M:List Nd} {x:PTerm}
theorem kids {hr:rightT x=true}:(x.kind=3∨x.kind=12→x.sub.length=2)∧(x.kind=5∨x.kind=6∨x.kind=11→x.sub.length=1)∧(x.kind=9→x.sub.length=3):=by
 have h:=jW hr
 refine ⟨fun k=>?_,fun k=>?_,fun k=>?_⟩
 ·rcases k with k | k <;> rw [k] at h <;> simp [yC] at h <;> omega
 ·rcases k with k | k | k <;> rw [k] at h <;> simp [yC] at h <;> omega
 ·rw [k] at h; simp [yC] at h; omega
theorem Row12 (hr:rightT x=true) (hf:(kid x 0).kind=11→inb (kid x 0).form M.length=true):zdC.f (some M) x=some (rowV M x):=by
 obtain ⟨l2,l1,l3⟩ := kids (hr:=hr)
 unfold zdC.f rowV
 by_cases k3:x.kind=3
 ·have hl:=l2 (.inl k3)
  have hin:inb 0 x.sub.length=true:=by rw [hl]; rfl
  obtain ⟨q,n,e,_⟩ := vd (M:=M) (p:=kid x 0) (zag hr (i:=0) zbq) hf (k:=2) (f:=5)
  rw [if_pos (by simpa using k3),if_pos k3,chk,if_pos hin,e,zbu]
  show ((zdB.f 1 (decide (besV M (kid x 0) 2 5=2)) (decide (besV M (kid x 0) 2 5 ≠ 0))).bind fun r17=>some r17)=_
  rw [row_some ⟨by decide,by decide⟩ (kG _ _ _ _),zbu]
  congr 1; split <;> omega
 rw [if_neg (by simpa using k3),if_neg k3]
 have hb:(if decide (x.kind=5)=true then some (decide (x.kind=5)) else some (decide (x.kind=6)))=some (decide (x.kind=5∨x.kind=6)):=by
  by_cases k5:x.kind=5 <;> simp [k5]
 rw [hb,zbu]
 by_cases k56:x.kind=5∨x.kind=6
 ·have hl:=l1 zbq
  have hin:inb 0 x.sub.length=true:=by rw [hl]; rfl
  obtain ⟨q,n,e,_⟩ := vd (M:=M) (p:=kid x 0) (zag hr (i:=0) zbq) hf (k:=4) (f:=3)
  rw [if_pos (decide_eq_true k56),if_pos k56,chk,if_pos hin,e,zbu]
  show ((zdB.f 3 (decide (besV M (kid x 0) 4 3=2)) (decide (besV M (kid x 0) 4 3 ≠ 0))).bind fun r17=>some r17)=_
  rw [row_some ⟨by decide,by decide⟩ (kG _ _ _ _),zbu]
  congr 1
 rw [if_neg (by simpa using k56),if_neg k56]
 by_cases k9:x.kind=9
 ·have hl:=l3 k9
  have hin:inb 0 x.sub.length=true:=by rw [hl]; rfl
  obtain ⟨q,n,e,_⟩ := vd (M:=M) (p:=kid x 0) (zag hr (i:=0) zbq) hf (k:=7) (f:=4)
  obtain ⟨q2,n2,e2,_⟩ := vd (M:=M) (p:=kid x 0) (zag hr (i:=0) zbq) hf (k:=8) (f:=4)
  rw [if_pos (by simpa using k9),if_pos k9,chk,if_pos hin,e,zbu]
  by_cases z:besV M (kid x 0) 7 4=0
  ·rw [if_pos (by show (!decide (besV M (kid x 0) 7 4 ≠ 0))=true; simp [z]),chk,if_pos hin,e2,zbu,if_neg (fun c=>c z)]
   show ((zdB.f 5 (decide (besV M (kid x 0) 8 4=2)) (decide (besV M (kid x 0) 8 4 ≠ 0))).bind fun r17=>some r17)=_
   rw [row_some ⟨by decide,by decide⟩ (kG _ _ _ _),zbu]
   by_cases z8:besV M (kid x 0) 8 4=0
   ·rw [if_pos z8,if_neg (fun c=>c z8)]
   ·rw [if_neg z8,if_pos z8]; congr 1
  ·rw [if_neg (by show ¬ (!decide (besV M (kid x 0) 7 4 ≠ 0))=true; simp [z]),if_pos z]
   show ((zdB.f 5 (decide (besV M (kid x 0) 7 4=2)) (decide (besV M (kid x 0) 7 4 ≠ 0))).bind fun r17=>some r17)=_
   rw [row_some ⟨by decide,by decide⟩ (kG _ _ _ _),zbu,if_neg z]
   congr 1
 rw [if_neg (by simpa using k9),if_neg k9]
 by_cases k12:x.kind=12
 ·rw [if_pos (by simpa using k12),if_pos k12]
 rw [if_neg (by simpa using k12),if_neg k12]
 by_cases k11:x.kind=11
 ·have hl:=l1 zbq
  have hin:inb 0 x.sub.length=true:=by rw [hl]; rfl
  rw [if_pos (by simpa using k11),if_pos k11,chk,if_pos hin]
  have hc:(((((decide ((at_ PTerm.z x.sub 0).kind=1)) || (decide ((at_ PTerm.z x.sub 0).kind=3))) || (decide ((at_ PTerm.z x.sub 0).kind=5))) || (decide ((at_ PTerm.z x.sub 0).kind=6))) || (decide ((at_ PTerm.z x.sub 0).kind=11)))=decide ((kid x 0).kind=1∨(kid x 0).kind=3∨(kid x 0).kind=5∨(kid x 0).kind=6∨(kid x 0).kind=11):=by
   rw [show at_ PTerm.z x.sub 0=kid x 0 from rfl,Bool.eq_iff_iff]; simp only [Bool.or_eq_true,decide_eq_true_eq]; omega
  rw [hc]
  by_cases c:(kid x 0).kind=1∨(kid x 0).kind=3∨(kid x 0).kind=5∨(kid x 0).kind=6∨(kid x 0).kind=11
  ·rw [decide_eq_true c,if_pos rfl,if_pos c]
  ·rw [decide_eq_false c,if_neg zbp,if_neg c]
 ·rw [if_neg (by simpa using k11),if_neg k11]
theorem row_iff:(rowV M x=1↔x.kind=3∧(kid x 0).kind=2)∧(rowV M x=2↔x.kind=3∧besV M (kid x 0) 2 5=2)∧(rowV M x=3↔(x.kind=5∨x.kind=6)∧(kid x 0).kind=4)∧(rowV M x=4↔(x.kind=5∨x.kind=6)∧besV M (kid x 0) 4 3=2) ∧
  (rowV M x=5↔x.kind=9∧((kid x 0).kind=7∨(kid x 0).kind=8))∧(rowV M x=6↔x.kind=9∧(besV M (kid x 0) 8 4=2∨besV M (kid x 0) 7 4=2))∧(rowV M x=7↔x.kind=12) ∧
  (rowV M x=8↔x.kind=11∧((kid x 0).kind=1∨(kid x 0).kind=3∨(kid x 0).kind=5∨(kid x 0).kind=6∨(kid x 0).kind=11))∧0 ≤ rowV M x∧rowV M x ≤ 8:=by
 have v25:=kG M (kid x 0) 2 5
 have v43:=kG M (kid x 0) 4 3
 have v74:=kG M (kid x 0) 7 4
 have v84:=kG M (kid x 0) 8 4
 have one : ∀ k f,(besV M (kid x 0) k f=1↔(kid x 0).kind=k):=fun k f=>by
  unfold besV
  by_cases h:(kid x 0).kind=k
  ·rw [if_pos h]; simp [h]
  ·rw [if_neg h]; constructor
   ·intro q; split at q <;> omega
   ·intro q; exact absurd q h
 have two : ∀ k f,besV M (kid x 0) k f=2→(kid x 0).kind=11∧(kid (kid x 0) 0).kind=k:=fun k f q=>by
  unfold besV at q
  split at q
  ·omega
  ·split at q
   ·rename_i z; exact ⟨z.1,z.2.1⟩
   ·omega
 have o25:=one 2 5; have o43:=one 4 3; have o74:=one 7 4; have o84:=one 8 4
 have t74:=two 7 4; have t84:=two 8 4
 by_cases k3:x.kind=3
 ·clear v43 v74 v84 o43 o74 o84 t74 t84
  have e:rowV M x=besV M (kid x 0) 2 5:=by unfold rowV; rw [if_pos k3]
  refine ⟨?_,?_,?_,?_,?_,?_,?_,?_,?_,?_⟩ <;> omega
 by_cases k56:x.kind=5∨x.kind=6
 ·clear v25 v74 v84 o25 o74 o84 t74 t84
  by_cases z:besV M (kid x 0) 4 3=0
  ·have e:rowV M x=0:=by unfold rowV; rw [if_neg k3,if_pos k56,if_pos z]
   refine ⟨?_,?_,?_,?_,?_,?_,?_,?_,?_,?_⟩ <;> omega
  ·have e:rowV M x=2 + besV M (kid x 0) 4 3:=by unfold rowV; rw [if_neg k3,if_pos k56,if_neg z]
   refine ⟨?_,?_,?_,?_,?_,?_,?_,?_,?_,?_⟩ <;> omega
 by_cases k9:x.kind=9
 ·clear v25 v43 o25 o43
  have t74:=fun q=>(t74 q).1
  have t84:=fun q=>(t84 q).1
  by_cases z:besV M (kid x 0) 7 4=0
  ·by_cases z8:besV M (kid x 0) 8 4=0
   ·have e:rowV M x=0:=by unfold rowV; rw [if_neg k3,if_neg k56,if_pos k9,if_neg (fun c=>c z),if_neg (fun c=>c z8)]
    refine ⟨?_,?_,?_,?_,?_,?_,?_,?_,?_,?_⟩ <;> omega
   ·have e:rowV M x=4 + besV M (kid x 0) 8 4:=by unfold rowV; rw [if_neg k3,if_neg k56,if_pos k9,if_neg (fun c=>c z),if_pos z8]
    refine ⟨?_,?_,?_,?_,?_,?_,?_,?_,?_,?_⟩ <;> omega
  ·have e:rowV M x=4 + besV M (kid x 0) 7 4:=by unfold rowV; rw [if_neg k3,if_neg k56,if_pos k9,if_pos z]
   refine ⟨?_,?_,?_,?_,?_,?_,?_,?_,?_,?_⟩ <;> omega
 clear v25 v43 v74 v84 o25 o43 o74 o84 t74 t84
 by_cases k12:x.kind=12
 ·have e:rowV M x=7:=by unfold rowV; rw [if_neg k3,if_neg k56,if_neg k9,if_pos k12]
  refine ⟨?_,?_,?_,?_,?_,?_,?_,?_,?_,?_⟩ <;> omega
 by_cases k11:x.kind=11
 ·by_cases z:(kid x 0).kind=1∨(kid x 0).kind=3∨(kid x 0).kind=5∨(kid x 0).kind=6∨(kid x 0).kind=11
  ·have e:rowV M x=8:=by unfold rowV; rw [if_neg k3,if_neg k56,if_neg k9,if_neg k12,if_pos k11,if_pos z]
   refine ⟨?_,?_,?_,?_,?_,?_,?_,?_,?_,?_⟩ <;> omega
  ·have e:rowV M x=0:=by unfold rowV; rw [if_neg k3,if_neg k56,if_neg k9,if_neg k12,if_pos k11,if_neg z]
   refine ⟨?_,?_,?_,?_,?_,?_,?_,?_,?_,?_⟩ <;> omega
 ·have e:rowV M x=0:=by unfold rowV; rw [if_neg k3,if_neg k56,if_neg k9,if_neg k12,if_neg k11]
  refine ⟨?_,?_,?_,?_,?_,?_,?_,?_,?_,?_⟩ <;> omega
theorem dec_of {p q:Prop} [Decidable p] [Decidable q] (h:p↔q):decide p=decide q:=by rw [Bool.eq_iff_iff,decide_eq_true_eq,decide_eq_true_eq]; exact h
theorem rules14 (hr:rightT x=true) (hf:(kid x 0).kind=11→inb (kid x 0).form M.length=true) :
  zcg.f (some M) x=some (decide (rowV M x=1))∧zch.f (some M) x=some (decide (rowV M x=2))∧zci.f (some M) x=some (decide (rowV M x=3))∧zck.f (some M) x=some (decide (rowV M x=4)) ∧
  zcm.f (some M) x=some (decide (rowV M x=5))∧zcn.f (some M) x=some (decide (rowV M x=6))∧zco.f (some M) x=some (decide (rowV M x=7))∧zcp.f (some M) x=some (decide (rowV M x=8)):=by
 obtain ⟨l2,l1,l3⟩ := kids (hr:=hr)
 obtain ⟨r1,r2,r3,r4,r5,r6,r7,r8,_⟩ := row_iff (M:=M) (x:=x)
 have hk0:0 < x.sub.length→rightT (kid x 0)=true:=fun h=>zag hr (i:=0) h
 rw [dec_of r1,dec_of r2,dec_of r3,dec_of r4,dec_of r5,dec_of r6,dec_of r7,dec_of r8]
 refine ⟨?_,?_,?_,?_,?_,?_,?_,?_⟩
 ·unfold zcg.f
  by_cases k:x.kind=3
  ·rw [if_pos (by simpa using k),uf (by have:=l2 (.inl k); omega),zbu]; simp [k]
  ·rw [if_neg (by simpa using k),zbu]; simp [k]
 ·unfold zch.f
  by_cases k:x.kind=3
  ·have hl:=l2 (.inl k)
   rw [if_pos (by simpa using k),uH zbq (hk0 zbq) hf zbp,zbu]; simp [k]
  ·rw [if_neg (by simpa using k),zbu]; simp [k]
 ·unfold zci.f zcc.f
  rw [zbu]
  by_cases k:x.kind=5∨x.kind=6
  ·have hl:=l1 zbq
   have kb:((decide (x.kind=5)) || (decide (x.kind=6)))=true:=by simpa using k
   rw [kb,if_pos rfl,uf zbq,zbu]; simp [k]
  ·have kb:((decide (x.kind=5)) || (decide (x.kind=6)))=false:=by simpa using k
   rw [kb,if_neg zbp,zbu]; simp [k]
 ·unfold zck.f zcc.f
  rw [zbu]
  by_cases k:x.kind=5∨x.kind=6
  ·have hl:=l1 zbq
   have kb:((decide (x.kind=5)) || (decide (x.kind=6)))=true:=by simpa using k
   rw [kb,if_pos rfl,uH zbq (hk0 zbq) hf zbp,zbu]; simp [k]
  ·have kb:((decide (x.kind=5)) || (decide (x.kind=6)))=false:=by simpa using k
   rw [kb,if_neg zbp,zbu]; simp [k]
 ·unfold zcm.f zce.f
  by_cases k:x.kind=9
  ·have hl:=l3 k
   rw [uf zbq,zbu,if_pos (by simpa using k),uf zbq,zbu]
   by_cases c7:(kid x 0).kind=7
   ·rw [if_neg (by simp [c7]),zbu,zbu]; simp [k,c7]
   ·rw [if_pos (by simp [k,c7]),zbu,zbu]; simp [k,c7]
  ·have hh : ∃ b,zbZ.f x 8=some b:=by
    unfold zbZ.f
    by_cases hl:0 < x.sub.length
    ·rw [chk,if_pos (by rw [show inb 0 x.sub.length=true from yp zbq zbq]; simp)]; exact ⟨_,rfl⟩
    ·rw [chk,if_pos (by rw [show decide (0 < (x.sub.length:Int))=false from decide_eq_false zbq]; rfl)]; exact ⟨_,rfl⟩
   obtain ⟨b,hb⟩ := hh
   rw [hb,zbu,if_neg (by simpa using k),zbu,if_neg (by simp [k]),zbu,zbu]; simp [k]
 ·unfold zcn.f zcf.f
  by_cases k:x.kind=9
  ·have hl:=l3 k
   rw [uH zbq (hk0 zbq) hf zbp,zbu]
   by_cases c8:besV M (kid x 0) 8 4=2
   ·rw [if_neg (by simp [c8]),zbu,zbu]; simp [k,c8]
   ·rw [if_pos (by simp [k,c8]),uH zbq (hk0 zbq) hf zbp,zbu,zbu]; simp [k,c8]
  ·have hh : ∃ b,zca.f (some M) x 8 4=some b:=by
    by_cases hl:0 < x.sub.length
    ·exact ⟨_,uH hl (hk0 hl) hf zbp⟩
    ·unfold zca.f zbZ.f
     have d0:decide (0 < (x.sub.length:Int))=false:=decide_eq_false zbq
     rw [d0]
     exact ⟨false,rfl⟩
   obtain ⟨b,hb⟩ := hh
   rw [hb,zbu,if_neg (by simp [k]),zbu,zbu]; simp [k]
 ·rfl
 ·unfold zcp.f
  by_cases k:x.kind=11
  ·have hl:=l1 zbq
   rw [if_neg (by simpa using k),chk,if_pos (by rw [hl]; rfl),show at_ PTerm.z x.sub 0=kid x 0 from rfl]
   by_cases c1:(kid x 0).kind=1
   ·simp [k,c1]
   by_cases c3:(kid x 0).kind=3
   ·simp [k,c3]
   by_cases c5:(kid x 0).kind=5
   ·simp [k,c5]
   by_cases c6:(kid x 0).kind=6
   ·simp [k,c6]
   by_cases c11:(kid x 0).kind=11
   ·simp [k,c11]
   ·simp [k,c1,c3,c5,c6,c11]
  ·rw [if_pos (by simpa using k)]; simp [k]
theorem fits14 (hr:rightT x=true) (hf:(kid x 0).kind=11→inb (kid x 0).form M.length=true):zcM.f (some M) x=some (if rowV M x=0 then (8,false) else (rowV M x - 1,true)):=by
 obtain ⟨e1,e2,e3,e4,e5,e6,e7,e8⟩ := rules14 (M:=M) hr hf
 have hb:=(row_iff (M:=M) (x:=x)).2.2.2.2.2.2.2.2
 unfold zcM.f
 rw [e1,e2,e3,e4,e5,e6,e7,e8]
 simp only [zbu]
 generalize rowV M x=r at *
 have:r=0∨r=1∨r=2∨r=3∨r=4∨r=5∨r=6∨r=7∨r=8:=by omega
 rcases this with rfl | rfl | rfl | rfl | rfl | rfl | rfl | rfl | rfl <;> rfl
end
end
section
open Gw
theorem at_or {l:List PTerm} (i:Int):at_ PTerm.z l i ∈ l∨at_ PTerm.z l i=PTerm.z:=by
 unfold at_
 rw [List.getD_eq_getElem?_getD]
 by_cases h:i.toNat < l.length
 ·left; rw [List.getElem?_eq_getElem h]; exact List.getElem_mem h
 ·right; rw [List.getElem?_eq_none zbq]; rfl
end
section
open Gw
abbrev theT (a:PTerm) (f:Int):PTerm:=⟨11,⟨#[]⟩,⟨#[]⟩,f,[a]⟩
def k8 (x:PTerm) (a:PTerm) (b:Bool):PTerm × Int:=if b then putV (kid x 2) x.other a else putV (kid x 1) x.name a
def xU (M:List Nd) (x:PTerm):PTerm × Int :=
 let p:=kid x 0; let q:=kid p 0; let f:=nd M p.form
 if rowV M x=1 then putV (kid p 0) p.name (kid x 1)
 else if rowV M x=2 then (let r:=putV (kid q 0) q.name (theT (kid x 1) f.l); if r.2 ≠ 0 then r else (theT r.1 f.r,0))
 else if rowV M x=3 then (if x.kind=6 then kid p 1 else kid p 0,0)
 else if rowV M x=4 then (if x.kind=6 then theT (kid q 1) f.r else theT (kid q 0) f.l,0)
 else if rowV M x=5 then k8 x (kid p 0) (decide (p.kind=8))
 else if rowV M x=6 then k8 x (theT (kid q 0) (if besV M p 8 4=2 then f.r else f.l)) (decide (besV M p 8 4=2))
 else if rowV M x=7 then putV (kid x 1) x.name (kid x 0)
 else if rowV M x=8 then (kid x 0,0)
 else (PTerm.z,140)
theorem zaa {M:List Nd} {p:PTerm} {k f:Int} (h:besV M p k f=2):p.kind=11∧(kid p 0).kind=k∧(nd M p.form).kind=f:=by
 unfold besV at h
 by_cases c:p.kind=k
 ·rw [if_pos c] at h; exact absurd h zbp
 ·rw [if_neg c] at h
  by_cases c2:p.kind=11∧(kid p 0).kind=k∧(nd M p.form).kind=f
  ·exact c2
  ·rw [if_neg c2] at h; exact absurd h zbp
theorem nm_z:nmT PTerm.z:=by unfold PTerm.z; simp [nmT,nmL]
theorem nm_mem : ∀ {l:List PTerm},nmL l → ∀ y ∈ l,nmT y
 | [],_,_,h=>by simp at h
 | a :: l,h,y,hy=>by
  rcases List.mem_cons.1 hy with rfl | hy
  ·exact h.1
  ·exact nm_mem h.2 y hy
theorem xM {x:PTerm} (h:nmT x) (i:Int):nmT (kid x i):=by
 rcases at_or (l:=x.sub) i with q | q
 ·exact nm_mem ((ja x).1 h).2.2 _ q
 ·unfold kid; rw [q]; exact nm_z
theorem zaG (x:PTerm) (i:Int):sizeT (kid x i) ≤ sizeT x:=by
 rcases at_or (l:=x.sub) i with q | q
 ·have:=xS q; have:=xD x; unfold kid; omega
 ·unfold kid; rw [q]; exact ud x
theorem zaT {a:PTerm} (h:nmT a) (f:Int):nmT (theT a f):=by
 rw [ja]; exact ⟨by show (0:Nat) < _; decide,by show (0:Nat) < _; decide,⟨h,trivial⟩⟩
theorem size_the (a:PTerm) (f:Int):sizeT (theT a f)=1 + sizeT a:=by rw [xD]; rfl
section
variable {M:List Nd} {x:PTerm} {K:Nat}
theorem x5 {x:PTerm} (hr:rightT x=true) {i:Int} {n:Nat} (h:x.sub.length=n) (hi:0 ≤ i∧i < n):rightT (kid x i)=true:=by
 obtain ⟨j,rfl⟩ : ∃ j:Nat,i=j:=⟨i.toNat,by omega⟩
 exact zag hr zbq
theorem zbh (hl:0 < x.sub.length) (b:Bool):zcb.f (some M) x b=some (if b then (nd M (kid x 0).form).r else (nd M (kid x 0).form).l):=by
 unfold zcb.f zbv.f
 rw [chk,if_pos (yp zbq zbq)]
 simp only [Option.map_some,zbu]
 cases b <;> rfl
theorem into_some (hK:200000 ≤ K) (hn:nmT x) {a:PTerm} (ha:nmT a) (hl:x.sub.length=3) (b:Bool):zcH.f K x a b=some (k8 x a b):=by
 unfold zcH.f k8
 have hnx:=(ja x).1 hn
 cases b
 ·rw [if_neg zbp,if_neg zbp,chk,if_pos (yp zbq zbq),Put14 hK (xM hn 1) ha hnx.1]; rfl
 ·rw [if_pos rfl,if_pos rfl,chk,if_pos (yp zbq zbq),Put14 hK (xM hn 2) ha hnx.2.1]; rfl
theorem cont14 (hK:200000 ≤ K) (hr:rightT x=true) (hn:nmT x) (hf:(kid x 0).kind=11→inb (kid x 0).form M.length=true) (h0:rowV M x ≠ 0) :
  ∃ p,zcL.f K (rowV M x - 1) (some M) x=some p∧p.2=(xU M x).2∧(p.2=0→p.1=(xU M x).1):=by
 obtain ⟨l2,l1,l3⟩ := kids (hr:=hr)
 have b12:=(row_iff (M:=M) (x:=x)).2.2.2.2.2.2.2.2
 have hin : ∀ {y:PTerm} {i:Int} {n:Nat},y.sub.length=n→(0 ≤ i∧i < n)→inb i y.sub.length=true:=fun h hi=>yp hi.1 zbq
 have hc:rowV M x=1∨rowV M x=2∨rowV M x=3∨rowV M x=4∨rowV M x=5∨rowV M x=6∨rowV M x=7∨rowV M x=8:=by omega
 rcases hc with e | e | e | e | e | e | e | e
 ·obtain ⟨k3,kp⟩ := (row_iff (M:=M) (x:=x)).1.1 e
  have hl:=l2 (.inl k3)
  have hp:=x5 hr hl (i:=0) zbq
  have hpl:(kid x 0).sub.length=1:=(yl hp).2.1 kp
  have hv:xU M x=putV (kid (kid x 0) 0) (kid x 0).name (kid x 1):=by unfold xU; simp only [e]; rfl
  refine ⟨xU M x,?_,rfl,fun _=>rfl⟩
  rw [hv,e]
  show zcF.f K (some M) x=_
  unfold zcF.f
  rw [chk,if_pos (hin (i:=0) hl zbq),chk,if_pos (hin (y:=kid x 0) (i:=0) hpl zbq),chk,if_pos (hin (i:=0) hl zbq),chk,if_pos (hin (i:=1) hl zbq)]
  rw [Put14 hK (xM (xM hn 0) 0) (xM hn 1) ((ja _).1 (xM hn 0)).1]; rfl
 ·obtain ⟨k3,kb⟩ := (row_iff (M:=M) (x:=x)).2.1.1 e
  obtain ⟨kp,kq,_⟩ := zaa kb
  have hl:=l2 (.inl k3)
  have hp:=x5 hr hl (i:=0) zbq
  have hpl:(kid x 0).sub.length=1:=(yl hp).2.2.2.2 kp
  have hq:=x5 hp hpl (i:=0) zbq
  have hql:(kid (kid x 0) 0).sub.length=1:=(yl hq).2.1 kq
  have hv:xU M x=(let r:=putV (kid (kid (kid x 0) 0) 0) (kid (kid x 0) 0).name (theT (kid x 1) (nd M (kid x 0).form).l); if r.2 ≠ 0 then r else (theT r.1 (nd M (kid x 0).form).r,0)):=by unfold xU; simp only [e]; rfl
  have ht:nmT (theT (kid x 1) (nd M (kid x 0).form).l):=zaT (xM hn 1) _
  refine ⟨(theT (putV (kid (kid (kid x 0) 0) 0) (kid (kid x 0) 0).name (theT (kid x 1) (nd M (kid x 0).form).l)).1 (nd M (kid x 0).form).r,(putV (kid (kid (kid x 0) 0) 0) (kid (kid x 0) 0).name (theT (kid x 1) (nd M (kid x 0).form).l)).2),?_,?_,?_⟩
  ·rw [e]
   show zcG.f K (some M) x=_
   unfold zcG.f
   rw [chk,if_pos (hin (i:=0) hl zbq),chk,if_pos (hin (y:=kid x 0) (i:=0) hpl zbq),chk,if_pos (hin (y:=kid (kid x 0) 0) (i:=0) hql zbq),chk,if_pos (hin (i:=1) hl zbq),zbh zbq,zbu]
   unfold zbY.f
   rw [zbu]
   show ((zcE.f K (kid (kid (kid x 0) 0) 0) (kid (kid x 0) 0).name (theT (kid x 1) (nd M (kid x 0).form).l)).bind _)=_
   rw [Put14 hK (xM (xM (xM hn 0) 0) 0) ht ((ja _).1 (xM (xM hn 0) 0)).1,zbu,zbh zbq]
   rfl
  ·rw [hv]; dsimp only; split <;> simp_all
  ·intro z; rw [hv]; dsimp only at z ⊢; rw [if_neg (fun c=>c z)]
 ·obtain ⟨k56,kp⟩ := (row_iff (M:=M) (x:=x)).2.2.1.1 e
  have hl:=l1 zbq
  have hp:=x5 hr hl (i:=0) zbq
  have hpl:(kid x 0).sub.length=2:=by have:=jW hp; rw [kp] at this; simp [yC] at this; omega
  have hv:xU M x=(if x.kind=6 then kid (kid x 0) 1 else kid (kid x 0) 0,0):=by unfold xU; simp only [e]; rfl
  refine ⟨xU M x,?_,rfl,fun _=>rfl⟩
  rw [hv,e]
  show zcj.f (some M) x=_
  unfold zcj.f zcd.f
  rw [chk,if_pos (hin (i:=0) hl zbq)]
  by_cases k6:x.kind=6
  ·rw [if_pos (by simpa using k6),chk,if_pos (hin (y:=kid x 0) (i:=1) hpl zbq),if_pos k6]; rfl
  ·rw [if_neg (by simpa using k6),chk,if_pos (hin (y:=kid x 0) (i:=0) hpl zbq),if_neg k6]; rfl
 ·obtain ⟨k56,kb⟩ := (row_iff (M:=M) (x:=x)).2.2.2.1.1 e
  obtain ⟨kp,kq,_⟩ := zaa kb
  have hl:=l1 zbq
  have hp:=x5 hr hl (i:=0) zbq
  have hpl:(kid x 0).sub.length=1:=(yl hp).2.2.2.2 kp
  have hq:=x5 hp hpl (i:=0) zbq
  have hql:(kid (kid x 0) 0).sub.length=2:=by have:=jW hq; rw [kq] at this; simp [yC] at this; omega
  have hv:xU M x=(if x.kind=6 then theT (kid (kid (kid x 0) 0) 1) (nd M (kid x 0).form).r else theT (kid (kid (kid x 0) 0) 0) (nd M (kid x 0).form).l,0):=by unfold xU; simp only [e]; rfl
  refine ⟨xU M x,?_,rfl,fun _=>rfl⟩
  rw [hv,e]
  show zcl.f (some M) x=_
  unfold zcl.f zcd.f zbY.f
  rw [chk,if_pos (hin (i:=0) hl zbq),chk,if_pos (hin (y:=kid x 0) (i:=0) hpl zbq)]
  by_cases k6:x.kind=6
  ·rw [if_pos (by simpa using k6),chk,if_pos (hin (y:=kid (kid x 0) 0) (i:=1) hql zbq),zbu,zbh zbq,if_pos k6]; simp [k6]; rfl
  ·rw [if_neg (by simpa using k6),chk,if_pos (hin (y:=kid (kid x 0) 0) (i:=0) hql zbq),zbu,zbh zbq,if_neg k6]; simp [k6]; rfl
 ·obtain ⟨k9,kp⟩ := (row_iff (M:=M) (x:=x)).2.2.2.2.1.1 e
  have hl:=l3 k9
  have hp:=x5 hr hl (i:=0) zbq
  have hpl:(kid x 0).sub.length=1:=by have:=jW hp; rcases kp with kp | kp <;> rw [kp] at this <;> simp [yC] at this <;> omega
  have hv:xU M x=k8 x (kid (kid x 0) 0) (decide ((kid x 0).kind=8)):=by unfold xU; simp only [e]; rfl
  refine ⟨xU M x,?_,rfl,fun _=>rfl⟩
  rw [hv,e]
  show zcI.f K (some M) x=_
  unfold zcI.f
  have hj : ∃ b,zce.f x=some (decide ((kid x 0).kind=8),b):=by
   unfold zce.f
   rw [uf zbq,zbu,if_pos (by simpa using k9),uf zbq,zbu]
   by_cases c7:(kid x 0).kind=7
   ·rw [if_neg (by simp [c7]),zbu]; exact ⟨_,rfl⟩
   ·rw [if_pos (by simp [k9,c7]),zbu]; exact ⟨_,rfl⟩
  obtain ⟨b,hj⟩ := hj
  rw [hj,zbu,chk,if_pos (hin (i:=0) hl zbq),chk,if_pos (hin (y:=kid x 0) (i:=0) hpl zbq)]
  rw [into_some hK hn (xM (xM hn 0) 0) hl]; rfl
 ·obtain ⟨k9,kb⟩ := (row_iff (M:=M) (x:=x)).2.2.2.2.2.1.1 e
  have hl:=l3 k9
  have hp:=x5 hr hl (i:=0) zbq
  have hk:(kid x 0).kind=11∧((kid (kid x 0) 0).kind=8∨(kid (kid x 0) 0).kind=7):=by
   rcases kb with kb | kb
   ·obtain ⟨a,b,_⟩ := zaa kb; exact ⟨a,.inl b⟩
   ·obtain ⟨a,b,_⟩ := zaa kb; exact ⟨a,.inr b⟩
  have hpl:(kid x 0).sub.length=1:=(yl hp).2.2.2.2 hk.1
  have hq:=x5 hp hpl (i:=0) zbq
  have hql:(kid (kid x 0) 0).sub.length=1:=by have:=jW hq; rcases hk.2 with kp | kp <;> rw [kp] at this <;> simp [yC] at this <;> omega
  have hv:xU M x=k8 x (theT (kid (kid (kid x 0) 0) 0) (if besV M (kid x 0) 8 4=2 then (nd M (kid x 0).form).r else (nd M (kid x 0).form).l)) (decide (besV M (kid x 0) 8 4=2)):=by unfold xU; simp only [e]; rfl
  refine ⟨xU M x,?_,rfl,fun _=>rfl⟩
  rw [hv,e]
  show zcJ.f K (some M) x=_
  unfold zcJ.f
  have hj : ∃ b,zcf.f (some M) x=some (decide (besV M (kid x 0) 8 4=2),b):=by
   unfold zcf.f
   rw [uH zbq hp hf zbp,zbu]
   by_cases c8:besV M (kid x 0) 8 4=2
   ·rw [if_neg (by simp [c8]),zbu]; exact ⟨_,rfl⟩
   ·rw [if_pos (by simp [k9,c8]),uH zbq hp hf zbp,zbu]; exact ⟨_,rfl⟩
  obtain ⟨b,hj⟩ := hj
  rw [hj,zbu,chk,if_pos (hin (i:=0) hl zbq),chk,if_pos (hin (y:=kid x 0) (i:=0) hpl zbq),chk,if_pos (hin (y:=kid (kid x 0) 0) (i:=0) hql zbq),zbh zbq,zbu]
  unfold zbY.f
  rw [zbu]
  have hsel:(if decide (besV M (kid x 0) 8 4=2)=true then (nd M (kid x 0).form).r else (nd M (kid x 0).form).l)=(if besV M (kid x 0) 8 4=2 then (nd M (kid x 0).form).r else (nd M (kid x 0).form).l):=by
   by_cases c:besV M (kid x 0) 8 4=2 <;> simp [c]
  show ((zcH.f K x (theT (kid (kid (kid x 0) 0) 0) (if decide (besV M (kid x 0) 8 4=2)=true then (nd M (kid x 0).form).r else (nd M (kid x 0).form).l)) (decide (besV M (kid x 0) 8 4=2))).bind fun r44=>some (r44.1,r44.2))=_
  rw [hsel,into_some hK hn (zaT (xM (xM (xM hn 0) 0) 0) _) hl]; rfl
 ·have k12:=(row_iff (M:=M) (x:=x)).2.2.2.2.2.2.1.1 e
  have hl:=l2 (.inr k12)
  have hv:xU M x=putV (kid x 1) x.name (kid x 0):=by unfold xU; simp only [e]; rfl
  refine ⟨xU M x,?_,rfl,fun _=>rfl⟩
  rw [hv,e]
  show zcK.f K (some M) x=_
  unfold zcK.f
  rw [chk,if_pos (hin (i:=1) hl zbq),chk,if_pos (hin (i:=0) hl zbq),Put14 hK (xM hn 1) (xM hn 0) ((ja _).1 hn).1]; rfl
 ·obtain ⟨k11,_⟩ := (row_iff (M:=M) (x:=x)).2.2.2.2.2.2.2.1.1 e
  have hl:=l1 zbq
  have hv:xU M x=(kid x 0,0):=by unfold xU; simp only [e]; rfl
  refine ⟨xU M x,?_,rfl,fun _=>rfl⟩
  rw [hv,e]
  show zcq.f (some M) x=_
  unfold zcq.f
  rw [chk,if_pos (hin (i:=0) hl zbq)]
end
end
section
open Gw
theorem sizeL_put {n:ByteArray} {k:Int} {nm ot:ByteArray} {m:Nat} : ∀ (l:List PTerm) (i:Nat) (f:Nat→PTerm→PTerm),(∀ j (h:j < l.length),sizeT (f j l[j])=sizeT l[j] + (if yF k nm ot (i + j)=n then 0 else cntT n l[j]) * m)→sizeL (l.mapIdx f)=sizeL l + cntL n k nm ot i l * m
 | [],i,f,_=>by simp [sizeL,cntL]
 | y :: l,i,f,h=>by
  have h0:=h 0 zbr
  have ih:=sizeL_put (n:=n) (k:=k) (nm:=nm) (ot:=ot) (m:=m) l (i + 1) (fun j=>f (j + 1)) (fun j hj=>by
   have:=h (j + 1) (by simpa using hj)
   rw [show i + 1 + j=i + (j + 1) by omega]
   simpa using this)
  rw [List.mapIdx_cons]
  simp only [sizeL,cntL]
  rw [ih]
  simp only [List.getElem_cons_zero,Nat.add_zero] at h0
  rw [h0,Nat.add_mul]; omega
theorem size_put : ∀ (d:Nat) (x:PTerm),depT x ≤ d→rightT x=true → ∀ (n:ByteArray) (y:PTerm),rightT y=true→sizeT x + sizeT y + 4 < 9223372036854775808→sizeT (putT x n y)=sizeT x + cntT n x * (sizeT y - 1)
 | 0,x,h,_,_,_,_,_=>by have:=yx x; omega
 | d + 1,x,h,hr,n,y,hy,hb=>by
  have hd:=yj x
  have hs:=xD x
  have hsy:=ud y
  by_cases hk:x.kind=1
  ·have h0:x.sub=[]:=(yl hr).1 hk
   have hs1:sizeT x=1:=by rw [hs,h0]; rfl
   rw [put_var n y hk,vz,if_pos hk]
   by_cases e:x.name=n
   ·rw [if_pos e,if_pos e,hs1]; omega
   ·rw [if_neg e,if_neg e]; omega
  rw [zbl n y hk,xD,vz,if_neg hk]
  show 1 + sizeL (x.sub.mapIdx fun i p=>putC putT x n y i p)=_
  rw [sizeL_put (n:=n) (k:=x.kind) (nm:=x.name) (ot:=x.other) (m:=sizeT y - 1) x.sub 0 (fun i p=>putC putT x n y i p) (fun j hj=>?_),hs]
  ·omega
  ·rw [Nat.zero_add]
   have hp:depT x.sub[j] ≤ d:=by have:=ye _ (List.getElem_mem hj); omega
   have hsp:sizeT x.sub[j] ≤ sizeL x.sub:=xS (List.getElem_mem hj)
   have hrp:=ym hr hj
   by_cases c1:xb x j=n∨¬ xO n x.sub[j]
   ·rw [putC,if_pos c1]
    rcases c1 with c | c
    ·have c':yF x.kind x.name x.other j=n:=c
     rw [if_pos c']; omega
    ·have g:cntT n x.sub[j]=0:=by unfold xO at c; omega
     rw [g]; split <;> omega
   have c1':xb x j ≠ n∧xO n x.sub[j]:=⟨fun q=>c1 (.inl q),Classical.byContradiction fun q=>c1 (.inr q)⟩
   have c':¬ yF x.kind x.name x.other j=n:=c1'.1
   rw [if_neg c']
   by_cases c3:xb x j ≠ ⟨#[]⟩ ∧ xO (xb x j) y
   ·rw [putC,if_neg c1,if_pos c3]
    obtain ⟨f1,f2,f3⟩ := fresh_ok (p:=x.sub[j]) (y:=y) (n:=n) zbq
    have hvr:rightT (varT (xC x.sub[j] y n))=true:=kn (uL _ _ _)
    have hv1:sizeT (varT (xC x.sub[j] y n))=1:=rfl
    have hq:=km d _ hp hrp (xb x j) _ hvr
    have hsr:=size_ren x.sub[j] (xb x j) (xC x.sub[j] y n)
    rw [size_put d _ (Nat.le_trans (dep_ren _ _ _) hp) hq n y hy zbq,size_put d _ hp hrp (xb x j) _ hvr zbq,hv1]
    have hcv:cntT n (varT (xC x.sub[j] y n))=0:=by
     rw [vz]; show (if (1:Int)=1 then (if xC x.sub[j] y n=n then 1 else 0) else _)=0
     rw [if_pos rfl,if_neg f3]
    rw [cnt_put d _ hp hrp (xb x j) _ hvr zbq n,hcv,if_neg (fun q=>c1'.1 q.symm)]
    simp
   ·rw [putC,if_neg c1,if_neg c3,size_put d _ hp hrp n y hy zbq]
end
section
open Gw
theorem zaK {M:List Nd} {p:PTerm} {k f:Int} (h:p.kind=k):besV M p k f=1:=by unfold besV; rw [if_pos h]
theorem putV_ok {x:PTerm} {n:ByteArray} {y:PTerm} (h:(putV x n y).2=0):yo x=0∧yo y=0∧isWord n∧(putV x n y).1=putT x n y∧sizeT (putT x n y) ≤ 65536:=by
 unfold putV at h ⊢
 by_cases cx:yo x=0
 rotate_left
 ·rw [if_pos cx] at h; exact absurd h cx
 rw [if_neg (fun q=>q cx)] at h ⊢
 by_cases cy:yo y=0
 rotate_left
 ·rw [if_pos cy] at h; exact absurd h cy
 rw [if_neg (fun q=>q cy)] at h ⊢
 by_cases w:isWord n
 rotate_left
 ·rw [if_pos w] at h; exact absurd h zbp
 rw [if_neg (fun q=>q w)] at h ⊢
 by_cases c:65536 < sizeT x + cntT n x * (sizeT y - 1)∨1024 < gD true n (depT y) x
 ·rw [if_pos c] at h; exact absurd h zbp
 rw [if_neg c]
 obtain ⟨x1,x2,x3⟩ := vM.1 cx
 obtain ⟨y1,y2,y3⟩ := vM.1 cy
 refine ⟨cx,cy,w,rfl,?_⟩
 rw [size_put _ x (Nat.le_refl _) x3 n y y3 zbq]
 omega
section
variable {M:List Nd} {x:PTerm} {K:Nat}
theorem the12 {a:PTerm} {f:Int} (hK:200000 ≤ K) (hs:sizeT a ≤ 100000):zdz.f K a f=some (theT a f):=by
 unfold zdz.f; rw [copy12 K a zbq zbq]; rfl
theorem cont12 (hK:200000 ≤ K) (hr:rightT x=true) (hn:nmT x) (hsz:sizeT x ≤ 65536) (hf:(kid x 0).kind=11→inb (kid x 0).form M.length=true) :
  ∃ p,zdD.f K (some M) x=some p∧p.2=(xU M x).2∧(p.2=0→p.1=(xU M x).1):=by
 obtain ⟨l2,l1,l3⟩ := kids (hr:=hr)
 have b12:=(row_iff (M:=M) (x:=x)).2.2.2.2.2.2.2.2
 have hin : ∀ {y:PTerm} {i:Int} {n:Nat},y.sub.length=n→(0 ≤ i∧i < n)→inb i y.sub.length=true:=fun h hi=>yp hi.1 zbq
 have sk : ∀ i,sizeT (kid x i) ≤ 65536:=fun i=>Nat.le_trans (zaG x i) hsz
 have sk2 : ∀ i j,sizeT (kid (kid x i) j) ≤ 65536:=fun i j=>Nat.le_trans (zaG _ j) (sk i)
 have sk3 : ∀ i j l,sizeT (kid (kid (kid x i) j) l) ≤ 65536:=fun i j l=>Nat.le_trans (zaG _ l) (sk2 i j)
 have hnx:=(ja x).1 hn
 unfold zdD.f
 rw [Row12 hr hf,zbu]
 have hc:rowV M x=0∨rowV M x=1∨rowV M x=2∨rowV M x=3∨rowV M x=4∨rowV M x=5∨rowV M x=6∨rowV M x=7∨rowV M x=8:=by omega
 rcases hc with e | e | e | e | e | e | e | e | e
 ·have hv:xU M x=(PTerm.z,140):=by unfold xU; simp only [e]; rfl
  simp only [e]
  exact ⟨(PTerm.z,140),rfl,by rw [hv],fun _=>by rw [hv]⟩
 ·obtain ⟨k3,kp⟩ := (row_iff (M:=M) (x:=x)).1.1 e
  have hl:=l2 (.inl k3)
  have hp:=x5 hr hl (i:=0) zbq
  have hpl:(kid x 0).sub.length=1:=(yl hp).2.1 kp
  have hv:xU M x=putV (kid (kid x 0) 0) (kid x 0).name (kid x 1):=by unfold xU; simp only [e]; rfl
  obtain ⟨q,n,e1,e2,_⟩ := vd (M:=M) hp hf (k:=2) (f:=5)
  obtain rfl:=e2 (zaK kp)
  rw [zaK kp] at e1
  refine ⟨xU M x,?_,rfl,fun _=>rfl⟩
  simp only [e,Int.reduceEq,decide_true,decide_false,if_true,if_false,Bool.false_eq_true,zbu]
  rw [chk,if_pos (hin (i:=0) hl zbq),e1,zbu]
  simp only [Int.reduceEq,decide_false,Bool.not_false,if_true]
  rw [chk,if_pos (hin (y:=kid x 0) (i:=0) hpl zbq),chk,if_pos (hin (i:=1) hl zbq),Put12 hK (xM (xM hn 0) 0) (xM hn 1) ((ja _).1 (xM hn 0)).1 (by have:=sk2 0 0; omega) (by have:=sk 1; omega),hv]
  rfl
 ·obtain ⟨k3,kb⟩ := (row_iff (M:=M) (x:=x)).2.1.1 e
  obtain ⟨kp,kq,_⟩ := zaa kb
  have hl:=l2 (.inl k3)
  have hp:=x5 hr hl (i:=0) zbq
  have hpl:(kid x 0).sub.length=1:=(yl hp).2.2.2.2 kp
  have hq:=x5 hp hpl (i:=0) zbq
  have hql:(kid (kid x 0) 0).sub.length=1:=(yl hq).2.1 kq
  have hv:xU M x=(let r:=putV (kid (kid (kid x 0) 0) 0) (kid (kid x 0) 0).name (theT (kid x 1) (nd M (kid x 0).form).l); if r.2 ≠ 0 then r else (theT r.1 (nd M (kid x 0).form).r,0)):=by unfold xU; simp only [e]; rfl
  have ht:nmT (theT (kid x 1) (nd M (kid x 0).form).l):=zaT (xM hn 1) _
  obtain ⟨q,n,e1,_,e3⟩ := vd (M:=M) hp hf (k:=2) (f:=5)
  obtain ⟨rfl,rfl⟩ := e3 kb
  rw [kb] at e1
  simp only [e,Int.reduceEq,decide_true,decide_false,if_true,if_false,Bool.false_eq_true,zbu]
  rw [chk,if_pos (hin (i:=0) hl zbq),e1,zbu]
  simp only [decide_true,Bool.not_true,if_false,Bool.false_eq_true]
  rw [chk,if_pos (hin (y:=kid (kid x 0) 0) (i:=0) hql zbq),chk,if_pos (hin (i:=1) hl zbq),the12 (a:=kid x 1) hK (by have:=sk 1; omega),zbu,Put12 hK (xM (xM (xM hn 0) 0) 0) ht ((ja _).1 (xM (xM hn 0) 0)).1 (by have:=sk3 0 0 0; omega) (by rw [size_the]; have:=sk 1; omega),zbu]
  by_cases c:(putV (kid (kid (kid x 0) 0) 0) (kid (kid x 0) 0).name (theT (kid x 1) (nd M (kid x 0).form).l)).2=0
  ·rw [if_neg (by simpa using c)]
   have hsm:sizeT (putV (kid (kid (kid x 0) 0) 0) (kid (kid x 0) 0).name (theT (kid x 1) (nd M (kid x 0).form).l)).1 ≤ 100000:=by
    obtain ⟨_,_,_,g,g2⟩ := putV_ok c
    rw [g]; omega
   rw [the12 hK hsm]
   exact ⟨_,rfl,by rw [hv]; dsimp only; rw [if_neg (fun z=>z c)],fun _=>by rw [hv]; dsimp only; rw [if_neg (fun z=>z c)]⟩
  ·rw [if_pos (by simpa using c)]
   exact ⟨_,rfl,by rw [hv]; dsimp only; rw [if_pos c],fun z=>absurd z c⟩
 ·obtain ⟨k56,kp⟩ := (row_iff (M:=M) (x:=x)).2.2.1.1 e
  have hl:=l1 zbq
  have hp:=x5 hr hl (i:=0) zbq
  have hpl:(kid x 0).sub.length=2:=by have:=jW hp; rw [kp] at this; simp [yC] at this; omega
  have hv:xU M x=(if x.kind=6 then kid (kid x 0) 1 else kid (kid x 0) 0,0):=by unfold xU; simp only [e]; rfl
  obtain ⟨q,n,e1,e2,_⟩ := vd (M:=M) hp hf (k:=4) (f:=3)
  obtain rfl:=e2 (zaK kp)
  rw [zaK kp] at e1
  refine ⟨xU M x,?_,rfl,fun _=>rfl⟩
  simp only [e,Int.reduceEq,decide_true,decide_false,if_true,if_false,Bool.false_eq_true,zbu]
  rw [chk,if_pos (hin (i:=0) hl zbq),e1,zbu,hv]
  by_cases k6:x.kind=6
  ·rw [if_pos (by simpa using k6),zbu,if_pos k6]
   simp only [Int.reduceEq,decide_false,Bool.false_eq_true,if_false]
   rw [chk,if_pos (hin (y:=kid x 0) (i:=1) hpl zbq),copy12 K _ (by have:=sk2 0 1; show sizeT (kid (kid x 0) 1) + 2 ≤ K; omega) (by have:=sk2 0 1; show sizeT (kid (kid x 0) 1) ≤ _; omega)]; rfl
  ·rw [if_neg (by simpa using k6),zbu,if_neg k6]
   simp only [Int.reduceEq,decide_false,Bool.false_eq_true,if_false]
   rw [chk,if_pos (hin (y:=kid x 0) (i:=0) hpl zbq),copy12 K _ (by have:=sk2 0 0; show sizeT (kid (kid x 0) 0) + 2 ≤ K; omega) (by have:=sk2 0 0; show sizeT (kid (kid x 0) 0) ≤ _; omega)]; rfl
 ·obtain ⟨k56,kb⟩ := (row_iff (M:=M) (x:=x)).2.2.2.1.1 e
  obtain ⟨kp,kq,_⟩ := zaa kb
  have hl:=l1 zbq
  have hp:=x5 hr hl (i:=0) zbq
  have hpl:(kid x 0).sub.length=1:=(yl hp).2.2.2.2 kp
  have hq:=x5 hp hpl (i:=0) zbq
  have hql:(kid (kid x 0) 0).sub.length=2:=by have:=jW hq; rw [kq] at this; simp [yC] at this; omega
  have hv:xU M x=(if x.kind=6 then theT (kid (kid (kid x 0) 0) 1) (nd M (kid x 0).form).r else theT (kid (kid (kid x 0) 0) 0) (nd M (kid x 0).form).l,0):=by unfold xU; simp only [e]; rfl
  obtain ⟨q,n,e1,_,e3⟩ := vd (M:=M) hp hf (k:=4) (f:=3)
  obtain ⟨rfl,rfl⟩ := e3 kb
  rw [kb] at e1
  refine ⟨xU M x,?_,rfl,fun _=>rfl⟩
  simp only [e,Int.reduceEq,decide_true,decide_false,if_true,if_false,Bool.false_eq_true,zbu]
  rw [chk,if_pos (hin (i:=0) hl zbq),e1,zbu,hv]
  by_cases k6:x.kind=6
  ·rw [if_pos (by simpa using k6),zbu,if_pos k6]
   simp only [decide_true,if_true]
   rw [chk,if_pos (hin (y:=kid (kid x 0) 0) (i:=1) hql zbq),the12 (a:=kid (kid (kid x 0) 0) 1) hK (by have:=sk3 0 0 1; omega)]; rfl
  ·rw [if_neg (by simpa using k6),zbu,if_neg k6]
   simp only [decide_true,if_true]
   rw [chk,if_pos (hin (y:=kid (kid x 0) 0) (i:=0) hql zbq),the12 (a:=kid (kid (kid x 0) 0) 0) hK (by have:=sk3 0 0 0; omega)]; rfl
 ·obtain ⟨k9,kp⟩ := (row_iff (M:=M) (x:=x)).2.2.2.2.1.1 e
  have hl:=l3 k9
  have hp:=x5 hr hl (i:=0) zbq
  have hpl:(kid x 0).sub.length=1:=by have:=jW hp; rcases kp with kp | kp <;> rw [kp] at this <;> simp [yC] at this <;> omega
  have hv:xU M x=k8 x (kid (kid x 0) 0) (decide ((kid x 0).kind=8)):=by unfold xU; simp only [e]; rfl
  refine ⟨xU M x,?_,rfl,fun _=>rfl⟩
  simp only [e,Int.reduceEq,decide_true,decide_false,if_true,if_false,Bool.false_eq_true,zbu]
  obtain ⟨q,n,e1,e2,_⟩ := vd (M:=M) hp hf (k:=7) (f:=4)
  rw [chk,if_pos (hin (i:=0) hl zbq),e1,zbu,hv]
  rcases kp with kp | kp
  ·obtain rfl:=e2 (zaK kp)
   rw [zaK kp]
   simp only [Int.reduceEq,decide_false,decide_true,Bool.not_true,Bool.false_eq_true,if_false,zbu,ne_eq,not_false_eq_true]
   rw [chk,if_pos (hin (y:=kid x 0) (i:=0) hpl zbq),chk,if_pos (hin (i:=1) hl zbq),Put12 hK (xM hn 1) (xM (xM hn 0) 0) hnx.1 (by have:=sk 1; omega) (by have:=sk2 0 0; omega)]
   rw [show decide ((kid x 0).kind=8)=false from decide_eq_false zbq]
   unfold k8
   rw [if_neg zbp]; rfl
  ·have b7:besV M (kid x 0) 7 4=0:=by unfold besV; rw [if_neg zbq,if_neg (fun z=>by have:=z.1; omega)]
   rw [b7]
   simp only [Int.reduceEq,decide_false,decide_true,Bool.not_false,if_true,ne_eq,not_true_eq_false]
   obtain ⟨q2,n2,e3,e4,_⟩ := vd (M:=M) hp hf (k:=8) (f:=4)
   obtain rfl:=e4 (zaK kp)
   rw [chk,if_pos (hin (i:=0) hl zbq),e3,zaK kp]
   simp only [Int.reduceEq,decide_false,decide_true,Bool.false_eq_true,if_false,zbu]
   rw [chk,if_pos (hin (y:=kid x 0) (i:=0) hpl zbq),chk,if_pos (hin (i:=2) hl zbq),Put12 hK (xM hn 2) (xM (xM hn 0) 0) hnx.2.1 (by have:=sk 2; omega) (by have:=sk2 0 0; omega)]
   rw [show decide ((kid x 0).kind=8)=true from decide_eq_true kp]
   unfold k8
   rw [if_pos rfl]; rfl
 ·obtain ⟨k9,kb⟩ := (row_iff (M:=M) (x:=x)).2.2.2.2.2.1.1 e
  have hl:=l3 k9
  have hp:=x5 hr hl (i:=0) zbq
  have hk:(kid x 0).kind=11∧((kid (kid x 0) 0).kind=8∨(kid (kid x 0) 0).kind=7):=by
   rcases kb with kb | kb
   ·obtain ⟨a,b,_⟩ := zaa kb; exact ⟨a,.inl b⟩
   ·obtain ⟨a,b,_⟩ := zaa kb; exact ⟨a,.inr b⟩
  have hpl:(kid x 0).sub.length=1:=(yl hp).2.2.2.2 hk.1
  have hq:=x5 hp hpl (i:=0) zbq
  have hql:(kid (kid x 0) 0).sub.length=1:=by have:=jW hq; rcases hk.2 with kp | kp <;> rw [kp] at this <;> simp [yC] at this <;> omega
  have hv:xU M x=k8 x (theT (kid (kid (kid x 0) 0) 0) (if besV M (kid x 0) 8 4=2 then (nd M (kid x 0).form).r else (nd M (kid x 0).form).l)) (decide (besV M (kid x 0) 8 4=2)):=by unfold xU; simp only [e]; rfl
  have hz : ∀ f,sizeT (theT (kid (kid (kid x 0) 0) 0) f) ≤ 1000000000:=fun f=>by rw [size_the]; have:=sk3 0 0 0; omega
  have hnt : ∀ f,nmT (theT (kid (kid (kid x 0) 0) 0) f):=fun f=>zaT (xM (xM (xM hn 0) 0) 0) f
  refine ⟨xU M x,?_,rfl,fun _=>rfl⟩
  simp only [e,Int.reduceEq,decide_true,decide_false,if_true,if_false,Bool.false_eq_true,zbu]
  obtain ⟨q,n,e1,_,e2⟩ := vd (M:=M) hp hf (k:=7) (f:=4)
  rw [chk,if_pos (hin (i:=0) hl zbq),e1,zbu,hv]
  by_cases b8:besV M (kid x 0) 8 4=2
  ·obtain ⟨_,c8,_⟩ := zaa b8
   have b7:besV M (kid x 0) 7 4=0:=by unfold besV; rw [if_neg zbq,if_neg (fun z=>by have:=z.2.1; omega)]
   rw [b7]
   simp only [Int.reduceEq,decide_false,decide_true,Bool.not_false,if_true,ne_eq,not_true_eq_false]
   obtain ⟨q2,n2,e3,_,e4⟩ := vd (M:=M) hp hf (k:=8) (f:=4)
   obtain ⟨rfl,rfl⟩ := e4 b8
   rw [chk,if_pos (hin (i:=0) hl zbq),e3,b8]
   simp only [decide_true,if_true,zbu]
   rw [chk,if_pos (hin (y:=kid (kid x 0) 0) (i:=0) hql zbq),the12 (a:=kid (kid (kid x 0) 0) 0) hK (by have:=sk3 0 0 0; omega),zbu,chk,if_pos (hin (i:=2) hl zbq),Put12 hK (xM hn 2) (hnt _) hnx.2.1 (by have:=sk 2; omega) (hz _)]
   unfold k8
   rw [if_pos rfl]; rfl
  ·have b7:besV M (kid x 0) 7 4=2:=kb.resolve_left b8
   obtain ⟨rfl,rfl⟩ := e2 b7
   rw [b7]
   simp only [Int.reduceEq,decide_true,decide_false,Bool.not_true,Bool.false_eq_true,if_false,if_true,zbu,ne_eq,not_false_eq_true]
   rw [chk,if_pos (hin (y:=kid (kid x 0) 0) (i:=0) hql zbq),the12 (a:=kid (kid (kid x 0) 0) 0) hK (by have:=sk3 0 0 0; omega),zbu,chk,if_pos (hin (i:=1) hl zbq),Put12 hK (xM hn 1) (hnt _) hnx.1 (by have:=sk 1; omega) (hz _)]
   rw [if_neg b8,show decide (besV M (kid x 0) 8 4=2)=false from decide_eq_false b8]
   unfold k8
   rw [if_neg zbp]; rfl
 ·have k12:=(row_iff (M:=M) (x:=x)).2.2.2.2.2.2.1.1 e
  have hl:=l2 (.inr k12)
  have hv:xU M x=putV (kid x 1) x.name (kid x 0):=by unfold xU; simp only [e]; rfl
  refine ⟨xU M x,?_,rfl,fun _=>rfl⟩
  simp only [e,Int.reduceEq,decide_true,decide_false,if_true,if_false,Bool.false_eq_true,zbu]
  rw [chk,if_pos (hin (i:=1) hl zbq),chk,if_pos (hin (i:=0) hl zbq),Put12 hK (xM hn 1) (xM hn 0) hnx.1 (by have:=sk 1; omega) (by have:=sk 0; omega),hv]; rfl
 ·obtain ⟨k11,_⟩ := (row_iff (M:=M) (x:=x)).2.2.2.2.2.2.2.1.1 e
  have hl:=l1 zbq
  have hv:xU M x=(kid x 0,0):=by unfold xU; simp only [e]; rfl
  refine ⟨xU M x,?_,rfl,fun _=>rfl⟩
  simp only [e,Int.reduceEq,decide_true,decide_false,if_true,if_false,Bool.false_eq_true,zbu]
  rw [chk,if_pos (hin (i:=0) hl zbq),copy12 K _ (by have:=sk 0; show sizeT (kid x 0) + 2 ≤ K; omega) (by have:=sk 0; show sizeT (kid x 0) ≤ _; omega),hv]; rfl
end
end
section
open Gw
mutual
def toldB (M:List Nd):PTerm→Bool
 | .mk k _ _ f s=>(if k=11 then inb f M.length else true) && toldBL M s
def toldBL (M:List Nd):List PTerm→Bool
 | []=>true
 | x :: l=>toldB M x && toldBL M l
end
theorem toldB_eq (M:List Nd) (x:PTerm):toldB M x=((if x.kind=11 then inb x.form M.length else true) && toldBL M x.sub):=by cases x; simp only [toldB]; rfl
theorem toldBL_all (M:List Nd) : ∀ l:List PTerm,toldBL M l=l.all (toldB M)
 | []=>rfl
 | x :: l=>by simp only [toldBL,List.all_cons,toldBL_all M l]
theorem told_kid {M:List Nd} {x:PTerm} (h:toldB M x=true) {i:Nat} (hi:i < x.sub.length):toldB M x.sub[i]=true:=by
 rw [toldB_eq,Bool.and_eq_true_iff,toldBL_all,List.all_eq_true] at h
 exact h.2 _ (List.getElem_mem hi)
theorem told_form {M:List Nd} {x:PTerm} (h:toldB M x=true) (hk:x.kind=11):inb x.form M.length=true:=by
 rw [toldB_eq,Bool.and_eq_true_iff,if_pos hk] at h
 exact h.1
theorem told12 {M:List Nd} : ∀ (K:Nat) (x:PTerm),sizeT x + 2 ≤ K→sizeT x ≤ 1000000000000→zdE.f K (some M) x=some (toldB M x)
 | 0,x,h,_=>by omega
 | K + 1,x,h,hb=>by
  have hs:=xD x
  have hl:=uc x.sub
  show zdE.g (zdE.f K) K (some M) x=_
  unfold zdE.g zdd.f
  have hh:(if decide (x.kind=11)=true then chk (some M).isSome (some ((decide (0 ≤ x.form)) && (decide (x.form < (((some M).getD []).length:Int))))) else some false)=some (decide (x.kind=11) && inb x.form M.length):=by
   by_cases k:x.kind=11
   ·rw [if_pos (by simpa using k)]; simp [k,chk,inb]
   ·rw [if_neg (by simpa using k)]; simp [k]
  rw [hh,zbu,toldB_eq]
  by_cases c:x.kind=11∧inb x.form M.length=false
  ·rw [if_pos (by simp [c.1,c.2]),if_pos c.1,c.2]; rfl
  have hfirst:(if x.kind=11 then inb x.form M.length else true)=true:=by
   by_cases k:x.kind=11
   ·rw [if_pos k]
    cases q:inb x.form M.length with
    | true=>rfl
    | false=>exact absurd ⟨k,q⟩ c
   ·rw [if_neg k]
  rw [hfirst,Bool.true_and,if_neg (by
   by_cases k:x.kind=11
   ·rw [if_pos k] at hfirst; simp [k,hfirst]
   ·simp [k])]
  have hloop:=iter_any (b:=fun s=>zdE.b0 x (zdE.f K) (some M) s) (inv:=fun i=>(i:Int)) (p:=fun j => !toldB M (x.sub.getD j PTerm.z)) (r:=false) (s:=(x.sub.length:Int)) x.sub.length 0 K zbq (fun j _ hj=>by
   have hj:j < x.sub.length:=by omega
   have hm:sizeT x.sub[j] ≤ sizeL x.sub:=xS (List.getElem_mem hj)
   show zdE.b0 x (zdE.f K) (some M) (j:Int)=_
   unfold zdE.b0
   rw [if_pos (by simp; omega),chk,if_pos (yp zbq zbq),vk hj,told12 K _ zbq zbq,zbu,getD_at hj,vD zbq]
   cases toldB M x.sub[j] <;> rfl) (by
   show zdE.b0 x (zdE.f K) (some M) ((0 + x.sub.length:Nat):Int)=_
   unfold zdE.b0
   rw [Nat.zero_add,if_neg zbr])
  have hloop:iter (fun s=>zdE.b0 x (zdE.f K) (some M) s) K 0=_:=hloop
  rw [hloop,toldBL_all]
  have key:((List.range' 0 x.sub.length).any fun j => !toldB M (x.sub.getD j PTerm.z)) = !x.sub.all (toldB M):=by
   rw [Bool.eq_iff_iff,List.any_eq_true,Bool.not_eq_true',List.all_eq_false]
   constructor
   ·rintro ⟨j,hj,q⟩
    have hj:j < x.sub.length:=by have:=List.mem_range'_1.1 hj; omega
    rw [getD_at hj] at q
    exact ⟨_,List.getElem_mem hj,by simpa using q⟩
   ·rintro ⟨y,hy,q⟩
    obtain ⟨j,hj,rfl⟩ := List.getElem_of_mem hy
    exact ⟨j,List.mem_range'_1.2 ⟨by omega,by omega⟩,by rw [getD_at hj]; simpa using q⟩
  rw [key]
  cases x.sub.all (toldB M) <;> rfl
theorem containsB {rec:Tb→PTerm→Option Bool} {T:Tb} {p:PTerm→Bool} {l:List PTerm} (h : ∀ x ∈ l,rec T x=some (p x)) (hl:l.length < 9223372036854775807):zct.g rec l T=some (!l.all p):=by
 unfold zct.g zcs.g
 have hf:=kg (b:=fun i s=>zcs.b0 rec l T i) (p:=fun j => !p (l.getD j PTerm.z)) (r:=fun j=>(j:Int)) l.length 0 () (fun j h1 h2=>by
  have hj:j < l.length:=by omega
  show zcs.b0 rec l T (j:Int)=_
  unfold zcs.b0 zcr.g
  rw [vk hj,h _ (List.getElem_mem hj),getD_at hj]
  cases p l[j] <;> rfl)
 have hf:forN (fun i s=>zcs.b0 rec l T i) l.length 0 ()=_:=hf
 rw [show ((l.length:Int) - 0).toNat=l.length by omega,hf]
 cases q:(List.range' 0 l.length).find? fun j => !p (l.getD j PTerm.z) with
 | some j =>
  have h1:=List.find?_some q
  have h2:=List.mem_range'_1.1 (List.mem_of_find?_eq_some q)
  have hj:j < l.length:=by omega
  rw [getD_at hj] at h1
  show some (decide ((0:Int) ≤ (j:Int)))=_
  rw [decide_eq_true zbq]
  have:l.all p=false:=List.all_eq_false.2 ⟨_,List.getElem_mem hj,by simpa using h1⟩
  rw [this]; rfl
 | none =>
  have h1:=List.find?_eq_none.1 q
  show some (decide ((0:Int) ≤ -1))=_
  have:l.all p=true:=by
   rw [List.all_eq_true]
   intro y hy
   obtain ⟨j,hj,rfl⟩ := List.getElem_of_mem hy
   have:=h1 j (List.mem_range'_1.2 ⟨by omega,by omega⟩)
   rw [getD_at hj] at this
   simpa using this
  rw [this]; rfl
theorem known14 {M:List Nd} : ∀ (K:Nat) (x:PTerm),depT x ≤ K→rightT x=true→zcu.f K (some M) x=some (toldB M x)
 | 0,x,h,_=>by have:=yx x; omega
 | K + 1,x,h,hr=>by
  have hd:=yj x
  have h3:=len3 hr
  show zcu.g (zcu.f K) (some M) x=_
  unfold zcu.g zbw.f
  have hh:(if decide (x.kind=11)=true then (some M).map (fun N=>(N.length:Int)) else some 0)=some (if x.kind=11 then (M.length:Int) else 0):=by
   by_cases k:x.kind=11
   ·rw [if_pos (by simpa using k),if_pos k]; rfl
   ·rw [if_neg (by simpa using k),if_neg k]
  rw [hh,zbu,toldB_eq,toldBL_all]
  have hc:=containsB (rec:=zcu.f K) (T:=some M) (p:=toldB M) (l:=x.sub) (fun y hy=>by
   obtain ⟨j,hj,rfl⟩ := List.getElem_of_mem hy
   exact known14 K _ (by have:=ye _ (List.getElem_mem hj); omega) (ym hr hj)) zbq
  by_cases k:x.kind=11
  ·rw [if_pos k,if_pos k]
   have hf:=(uO hr).fm k
   by_cases c:(M.length:Int) ≤ x.form
   ·have:inb x.form M.length=false:=by
     unfold inb; rw [decide_eq_false (p:=x.form < (M.length:Int)) zbq]; simp
    rw [if_pos (by simp [k,c]),this]; rfl
   ·rw [if_neg (by simp [k]; omega),hc,zbu,yp hf.1 zbq,Bool.true_and,Bool.not_not]
  ·rw [if_neg (by simp [k]),hc,zbu,if_neg k,Bool.true_and,Bool.not_not]
end
section
open Gw
def vQ (M:List Nd) (x:PTerm):Int:=if yo x ≠ 0 then yo x else if toldB M x then 0 else 31
theorem ahead12 {M:List Nd} {K:Nat} {x:PTerm} (hK:200000 ≤ K) (hn:nmT x) (hb:sizeT x ≤ 1000000000):zdF.f K (some M) x=some (vQ M x):=by
 unfold zdF.f vQ
 have hs:=xD x
 rw [kP zbq hn zbq,zbu]
 by_cases c:yo x=0
 ·obtain ⟨c1,_,_⟩ := vM.1 c
  rw [if_pos (by simpa using c),told12 K x zbq zbq,zbu,c]
  cases toldB M x <;> simp
 ·rw [if_neg (by simpa using c),zbu,if_neg (by simp [c]),if_pos c]
theorem begun14 {M:List Nd} {K:Nat} {x:PTerm} (hK:200000 ≤ K) (hn:nmT x) (hM:M.Nodup):zcw.f K (some M) x=some (decide (vQ M x=0),vQ M x):=by
 unfold zcw.f vQ
 have hc:zbX.f (some M)=some (some M):=by
  unfold zbX.f; rw [chk,if_pos (by simpa using hM)]
 rw [hc,zbu,if_neg zbr,zak zbq hn,zbu]
 by_cases c:yo x=0
 ·obtain ⟨c1,c2,c3⟩ := vM.1 c
  rw [if_neg (by simpa using c),known14 K x zbq c3,zbu,c]
  unfold zcv.f
  cases toldB M x <;> simp
 ·rw [if_pos (by simpa using c),if_pos c,decide_eq_false c]
theorem ahead_ok {M:List Nd} {x:PTerm}:vQ M x=0↔(sizeT x ≤ 65536∧depT x ≤ 1024∧rightT x=true)∧toldB M x=true:=by
 unfold vQ
 rw [← vM]
 by_cases c:yo x=0
 ·rw [if_neg (fun q=>q c)]
  cases h:toldB M x with
  | true=>simp [c]
  | false=>simp
 ·rw [if_pos c]; simp [c]
def doV (M:List Nd):PTerm→List Int→PTerm × Int
 | x,[]=>xU M x
 | x,k :: w=>if k < 0∨(x.sub.length:Int) ≤ k then (PTerm.z,140) else if (doV M (kid x k) w).2 ≠ 0 then (PTerm.z,(doV M (kid x k) w).2) else (⟨x.kind,x.name,x.other,x.form,x.sub.set k.toNat (doV M (kid x k) w).1⟩,0)
theorem kid_form {M:List Nd} {x:PTerm} (ht:toldB M x=true):(kid x 0).kind=11→inb (kid x 0).form M.length=true:=by
 intro h
 by_cases hl:0 < x.sub.length
 ·have e:kid x ((0:Nat):Int)=x.sub[0]:=kid_at hl
  have e':kid x 0=x.sub[0]:=e
  rw [e'] at h ⊢
  exact told_form (told_kid ht hl) h
 ·exfalso
  have h0:x.sub=[]:=List.eq_nil_of_length_eq_zero zbq
  unfold kid at h
  rw [h0] at h
  exact absurd h zbp
theorem do14 {M:List Nd} : ∀ (K:Nat) (x:PTerm) (w:List Int),200000 + depT x ≤ K→nmT x→rightT x=true→toldB M x=true → ∃ p,zcQ.f K (some M) x w=some p∧p.2=(doV M x w).2∧(p.2=0→p.1=(doV M x w).1)
 | 0,x,w,h,_,_,_=>by omega
 | K + 1,x,w,h,hn,hr,ht=>by
  have hd:=yj x
  have hdp:=yx x
  have h3:=len3 hr
  show ∃ p,zcQ.g (zcQ.f K) K (some M) x w=some p∧_
  unfold zcQ.g
  match w with
  | [] =>
   rw [if_pos zbp,fits14 hr (kid_form ht),zbu]
   by_cases c:rowV M x=0
   ·rw [if_pos c,if_pos zbp]
    have hv:xU M x=(PTerm.z,140):=by unfold xU; simp only [c]; rfl
    exact ⟨(PTerm.z,140),rfl,by show _=(xU M x).2; rw [hv],fun q=>absurd q zbp⟩
   ·rw [if_neg c,if_neg zbr]
    obtain ⟨p,e1,e2,e3⟩ := cont14 (K:=K) zbq hr hn (kid_form ht) c
    rw [show ((rowV M x - 1,true):Int × Bool).1=rowV M x - 1 from rfl,e1]
    exact ⟨p,rfl,e2,e3⟩
  | k :: w =>
   rw [if_neg (by simp; omega),chk,if_pos (by simp [inb])]
   have hk:at_ (0:Int) (k :: w) 0=k:=rfl
   rw [hk]
   have hdo:doV M x (k :: w)=if k < 0∨(x.sub.length:Int) ≤ k then (PTerm.z,140) else if (doV M (kid x k) w).2 ≠ 0 then (PTerm.z,(doV M (kid x k) w).2) else (⟨x.kind,x.name,x.other,x.form,x.sub.set k.toNat (doV M (kid x k) w).1⟩,0):=by rw [doV]
   rw [hdo]
   by_cases c:k < 0∨(x.sub.length:Int) ≤ k
   ·rw [if_pos (by simpa using c),if_pos c]
    exact ⟨(PTerm.z,140),rfl,rfl,fun _=>rfl⟩
   ·rw [if_neg (by simpa using c),if_neg c,chk,if_pos (yp zbq zbq),chk,if_pos (by simp; omega)]
    obtain ⟨j,rfl⟩ : ∃ j:Nat,k=j:=⟨k.toNat,by omega⟩
    have hj:j < x.sub.length:=by omega
    have hkj:kid x (j:Int)=x.sub[j]:=kid_at hj
    obtain ⟨p,e1,e2,e3⟩ := do14 K (kid x (j:Int)) w (by rw [hkj]; have:=ye _ (List.getElem_mem hj); omega) (xM hn _) (by rw [hkj]; exact ym hr hj) (by rw [hkj]; exact told_kid ht hj)
    rw [show ((((j:Int) :: w).drop ((1:Int)).toNat))=w from rfl,e1,zbu]
    by_cases z:p.2=0
    ·have z':(doV M (kid x (j:Int)) w).2=0:=by rw [← e2]; exact z
     have hcl:zbE.f x.sub=some x.sub:=by
      unfold zbE.f; rw [chk,if_pos (by simp; omega)]
     rw [if_neg (by simpa using z),if_neg (fun q=>q z'),hcl,zbu,chk,if_pos (yp zbq zbq),e3 z]
     exact ⟨_,rfl,rfl,fun _=>rfl⟩
    ·have z':(doV M (kid x (j:Int)) w).2 ≠ 0:=by rw [← e2]; exact z
     rw [if_pos (by simpa using z),if_pos z']
     exact ⟨_,rfl,e2,fun q=>absurd q z⟩
theorem do12 {M:List Nd} : ∀ (K:Nat) (x:PTerm) (w:List Int),200000 + depT x ≤ K→nmT x→rightT x=true→sizeT x ≤ 65536→toldB M x=true → ∃ p,zdI.f K (some M) x w=some p∧p.2=(doV M x w).2∧(p.2=0→p.1=(doV M x w).1)
 | 0,x,w,h,_,_,_,_=>by omega
 | K + 1,x,w,h,hn,hr,hsz,ht=>by
  have hd:=yj x
  have hdp:=yx x
  have h3:=len3 hr
  show ∃ p,zdI.g (zdI.f K) K (some M) x w=some p∧_
  unfold zdI.g
  match w with
  | [] =>
   rw [if_pos zbp]
   obtain ⟨p,e1,e2,e3⟩ := cont12 (K:=K) zbq hr hn hsz (kid_form ht)
   rw [e1]
   exact ⟨p,rfl,e2,e3⟩
  | k :: w =>
   rw [if_neg (by simp; omega),chk,if_pos (by simp [inb])]
   have hk:at_ (0:Int) (k :: w) 0=k:=rfl
   rw [hk]
   have hdo:doV M x (k :: w)=if k < 0∨(x.sub.length:Int) ≤ k then (PTerm.z,140) else if (doV M (kid x k) w).2 ≠ 0 then (PTerm.z,(doV M (kid x k) w).2) else (⟨x.kind,x.name,x.other,x.form,x.sub.set k.toNat (doV M (kid x k) w).1⟩,0):=by rw [doV]
   rw [hdo]
   by_cases c:k < 0∨(x.sub.length:Int) ≤ k
   ·rw [if_pos (by simpa using c),if_pos c]
    exact ⟨(PTerm.z,140),rfl,rfl,fun _=>rfl⟩
   ·rw [if_neg (by simpa using c),if_neg c,chk,if_pos (yp zbq zbq),chk,if_pos (by simp; omega)]
    obtain ⟨j,rfl⟩ : ∃ j:Nat,k=j:=⟨k.toNat,by omega⟩
    have hj:j < x.sub.length:=by omega
    have hkj:kid x (j:Int)=x.sub[j]:=kid_at hj
    obtain ⟨p,e1,e2,e3⟩ := do12 K (kid x (j:Int)) w (by rw [hkj]; have:=ye _ (List.getElem_mem hj); omega) (xM hn _) (by rw [hkj]; exact ym hr hj) (Nat.le_trans (zaG x _) hsz) (by rw [hkj]; exact told_kid ht hj)
    rw [show ((((j:Int) :: w).drop ((1:Int)).toNat))=w from rfl,e1,zbu]
    by_cases z:p.2=0
    ·have z':(doV M (kid x (j:Int)) w).2=0:=by rw [← e2]; exact z
     rw [if_neg (by simpa using z),if_neg (fun q=>q z'),copy12 K x zbq zbq,zbu,chk,if_pos (yp zbq zbq),e3 z]
     exact ⟨_,rfl,rfl,fun _=>rfl⟩
    ·have z':(doV M (kid x (j:Int)) w).2 ≠ 0:=by rw [← e2]; exact z
     rw [if_pos (by simpa using z),if_pos z']
     exact ⟨_,rfl,e2,fun q=>absurd q z⟩
end
section
open Gw
theorem nm_all : ∀ {l:List PTerm},(∀ y ∈ l,nmT y)→nmL l
 | [],_=>trivial
 | a :: l,h=>⟨h a zbr,nm_all fun y hy=>h y (by simp [hy])⟩
theorem vNm_size (k:Nat):(vNm k).size < 9223372036854775808:=by
 rw [vNm_eq,ba_size]; have:=decK_len 20 k; simp; omega
theorem nm_var {w:ByteArray} (h:w.size < 9223372036854775808):nmT (varT w):=by
 rw [ja]; exact ⟨h,by show (0:Nat) < _; decide,trivial⟩
theorem nmC_size {x:PTerm} (h:x.name.size < 9223372036854775808) (n:ByteArray) (y:PTerm):(nmC x n y).size < 9223372036854775808:=by
 by_cases q:(x.kind=2∨x.kind=12∨x.kind=9)∧renC x n y (if x.kind=2 then 0 else 1) (x.sub.getD (if x.kind=2 then 0 else 1) PTerm.z)
 ·rw [nmC_pos q]; exact vNm_size _
 ·rw [nmC_neg q]; exact h
theorem otC_size {x:PTerm} (h:x.other.size < 9223372036854775808) (n:ByteArray) (y:PTerm):(otC x n y).size < 9223372036854775808:=by
 by_cases q:x.kind=9∧renC x n y 2 (x.sub.getD 2 PTerm.z)
 ·rw [otC_pos q]; exact vNm_size _
 ·rw [otC_neg q]; exact h
theorem nm_put : ∀ (d:Nat) (x:PTerm),depT x ≤ d→nmT x → ∀ (n:ByteArray) (y:PTerm),nmT y→nmT (putT x n y)
 | 0,x,h,_,_,_,_=>by have:=yx x; omega
 | d + 1,x,h,hn,n,y,hy=>by
  have hd:=yj x
  have hx:=(ja x).1 hn
  by_cases hk:x.kind=1
  ·rw [put_var n y hk]; split
   ·exact hy
   ·exact hn
  rw [zbl n y hk,ja]
  refine ⟨nmC_size hx.1 n y,otC_size hx.2.1 n y,nm_all fun z hz=>?_⟩
  have hz:z ∈ x.sub.mapIdx fun i p=>putC putT x n y i p:=hz
  obtain ⟨j,hj,rfl⟩ := List.getElem_of_mem hz
  have hj':j < x.sub.length:=by simpa using hj
  rw [List.getElem_mapIdx]
  have hp:depT x.sub[j] ≤ d:=by have:=ye _ (List.getElem_mem hj'); omega
  have hnp:nmT x.sub[j]:=nm_mem hx.2.2 _ (List.getElem_mem hj')
  unfold putC
  split
  ·exact hnp
  ·split
   ·exact nm_put d _ (Nat.le_trans (dep_ren _ _ _) hp) (nm_put d _ hp hnp _ _ (nm_var (vNm_size _))) n y hy
   ·exact nm_put d _ hp hnp n y hy
theorem nm_putV {x:PTerm} (hx:nmT x) (n:ByteArray) {y:PTerm} (hy:nmT y):nmT (putV x n y).1:=by
 unfold putV
 split
 ·exact nm_z
 ·split
  ·exact nm_z
  ·split
   ·exact nm_z
   ·split
    ·exact nm_z
    ·exact nm_put _ x (Nat.le_refl _) hx n y hy
theorem nm_into {x a:PTerm} (hx:nmT x) (ha:nmT a) (b:Bool):nmT (k8 x a b).1:=by
 unfold k8; split
 ·exact nm_putV (xM hx 2) _ ha
 ·exact nm_putV (xM hx 1) _ ha
theorem nm_cont {M:List Nd} {x:PTerm} (hx:nmT x):nmT (xU M x).1:=by
 have k:=fun i=>xM hx i
 have k2:=fun i j=>xM (k i) j
 have k3:=fun i j l=>xM (k2 i j) l
 unfold xU
 dsimp only
 split
 ·exact nm_putV (k2 0 0) _ (k 1)
 ·split
  ·split
   ·exact nm_putV (k3 0 0 0) _ (zaT (k 1) _)
   ·exact zaT (nm_putV (k3 0 0 0) _ (zaT (k 1) _)) _
  ·split
   ·show nmT (if x.kind=6 then kid (kid x 0) 1 else kid (kid x 0) 0)
    split
    ·exact k2 0 1
    ·exact k2 0 0
   ·split
    ·show nmT (if x.kind=6 then theT (kid (kid (kid x 0) 0) 1) _ else theT (kid (kid (kid x 0) 0) 0) _)
     split
     ·exact zaT (k3 0 0 1) _
     ·exact zaT (k3 0 0 0) _
    ·split
     ·exact nm_into hx (k2 0 0) _
     ·split
      ·exact nm_into hx (zaT (k3 0 0 0) _) _
      ·split
       ·exact nm_putV (k 1) _ (k 0)
       ·split
        ·exact k 0
        ·exact nm_z
theorem nm_do {M:List Nd} : ∀ (w:List Int) (x:PTerm),nmT x→nmT (doV M x w).1
 | [],x,hx=>by rw [doV]; exact nm_cont hx
 | k :: w,x,hx=>by
  rw [doV]
  split
  ·exact nm_z
  ·split
   ·exact nm_z
   ·have h:=(ja x).1 hx
    rw [ja]
    refine ⟨h.1,h.2.1,nm_all fun y hy=>?_⟩
    rcases List.mem_or_eq_of_mem_set (show y ∈ x.sub.set k.toNat (doV M (kid x k) w).1 from hy) with q | q
    ·exact nm_mem h.2.2 y q
    ·rw [q]; exact nm_do w _ (xM hx k)
end
section
open Gw
theorem rclone14 : ∀ (K:Nat) (x:PTerm),sizeT x + 2 ≤ K→sizeT x ≤ 1000000000→zcN.f K x=some x
 | 0,x,h,_=>by omega
 | K + 1,x,h,hb=>by
  have hs:=xD x
  have hl:=uc x.sub
  show zcN.g (zcN.f K) x=_
  unfold zcN.g zbE.f
  rw [chk,if_pos (by simp; omega),zbu,PTerm.eta,show ((x.sub.length:Int) - 0).toNat=x.sub.length by omega]
  have hloop:=zbe (b:=fun i s=>zcN.b0 (zcN.f K) i s) (inv:=fun _=>x) x.sub.length 0 (fun j _ hj=>by
   have hj:j < x.sub.length:=by omega
   have hm:sizeT x.sub[j] ≤ sizeL x.sub:=xS (List.getElem_mem hj)
   show zcN.b0 (zcN.f K) (j:Int) x=_
   unfold zcN.b0
   rw [chk,if_pos (yp zbq zbq),vk hj,rclone14 K _ zbq zbq,zbu,chk,if_pos (yp zbq zbq)]
   show some (⟨x.kind,x.name,x.other,x.form,x.sub.set j x.sub[j]⟩ : PTerm)=_
   rw [List.set_getElem_self,PTerm.eta])
  have hloop:forS (fun i s=>zcN.b0 (zcN.f K) i s) x.sub.length 0 x=some x:=hloop
  rw [hloop,zbu,PTerm.eta]
def kL (M:List Nd) (x:PTerm) (w:List Int):PTerm × Int :=
 if (doV M x w).2 ≠ 0 then (PTerm.z,(doV M x w).2) else if yo (doV M x w).1 ≠ 0 then (PTerm.z,121) else ((doV M x w).1,0)
def DoV (M:List Nd) (x:PTerm) (w:List Int):PTerm × Int:=if vQ M x ≠ 0 then (PTerm.z,vQ M x) else kL M x w
theorem done14 {M:List Nd} {K:Nat} {x:PTerm} {w:List Int} (hK:300000 ≤ K) (hn:nmT x) (ha:vQ M x=0):zcR.f K (some M) x w=some (kL M x w):=by
 obtain ⟨⟨a1,a2,a3⟩,a4⟩ := ahead_ok.1 ha
 obtain ⟨p,e1,e2,e3⟩ := do14 K x w zbq hn a3 a4
 unfold zcR.f
 rw [e1,zbu]
 by_cases c:p.2=0
 ·have c':(doV M x w).2=0:=by rw [← e2]; exact c
  rw [if_pos (by simpa using c),e3 c,zak zbq (nm_do w x hn),zbu]
  by_cases k:yo (doV M x w).1=0
  ·obtain ⟨k1,_,_⟩ := vM.1 k
   have hv:kL M x w=((doV M x w).1,0):=by unfold kL; rw [if_neg (fun q=>q c'),if_neg (fun q=>q k)]
   rw [hv,if_neg (by simp [k]),if_neg (by simpa using c),rclone14 K _ zbq zbq]; rfl
  ·have hv:kL M x w=(PTerm.z,121):=by unfold kL; rw [if_neg (fun q=>q c'),if_pos k]
   rw [hv,if_pos (by simp [c,k]),if_pos zbp]; rfl
 ·have c':(doV M x w).2 ≠ 0:=by rw [← e2]; exact c
  have hv:kL M x w=(PTerm.z,(doV M x w).2):=by unfold kL; rw [if_pos c']
  rw [hv,if_neg (by simpa using c),zbu,if_neg (by simp [c]),if_pos (by simpa using c),e2]; rfl
theorem Do14 {M:List Nd} {K:Nat} {x:PTerm} {w:List Int} (hK:300000 ≤ K) (hn:nmT x) (hM:M.Nodup):zcS.f K (some M) x w=some (DoV M x w):=by
 unfold zcS.f
 rw [begun14 zbq hn hM,zbu]
 by_cases c:vQ M x=0
 ·have hv:DoV M x w=kL M x w:=by unfold DoV; rw [if_neg (fun q=>q c)]
  rw [hv,if_neg (by simpa using c),chk,if_pos (by simpa using c),done14 hK hn c]; rfl
 ·have hv:DoV M x w=(PTerm.z,vQ M x):=by unfold DoV; rw [if_pos c]
  rw [hv,if_pos (by simpa using c)]; rfl
end
section
open Gw
theorem sizeL_set : ∀ {l:List PTerm} {j:Nat} (h:j < l.length) (y:PTerm),sizeL (l.set j y) + sizeT l[j]=sizeL l + sizeT y
 | [],j,h,y=>by simp at h
 | a :: l,0,h,y=>by simp only [List.set_cons_zero,sizeL,List.getElem_cons_zero]; omega
 | a :: l,j + 1,h,y=>by
  have:=sizeL_set (l:=l) (j:=j) (by simpa using h) y
  simp only [List.set_cons_succ,sizeL,List.getElem_cons_succ]; omega
def Small (B:Nat) (p:PTerm × Int):Prop:=p.2=0→sizeT p.1 ≤ B
theorem zai (x:PTerm) (n:ByteArray) (y:PTerm) {B:Nat} (hB:65536 ≤ B):Small B (putV x n y):=fun h=>by
 obtain ⟨_,_,_,e,g⟩ := putV_ok h
 rw [e]; omega
theorem small_into (x a:PTerm) (b:Bool) {B:Nat} (hB:65536 ≤ B):Small B (k8 x a b):=by
 unfold k8; split
 ·exact zai _ _ _ hB
 ·exact zai _ _ _ hB
theorem small_cont {M:List Nd} {x:PTerm} (hs:sizeT x ≤ 65536):Small 65540 (xU M x):=by
 have sk : ∀ i,sizeT (kid x i) ≤ 65536:=fun i=>Nat.le_trans (zaG x i) hs
 have sk2 : ∀ i j,sizeT (kid (kid x i) j) ≤ 65536:=fun i j=>Nat.le_trans (zaG _ j) (sk i)
 have sk3 : ∀ i j l,sizeT (kid (kid (kid x i) j) l) ≤ 65536:=fun i j l=>Nat.le_trans (zaG _ l) (sk2 i j)
 unfold xU
 dsimp only
 split
 ·exact zai _ _ _ zbp
 ·split
  ·split
   ·exact zai _ _ _ zbp
   ·rename_i c
    intro _
    have:=zai (kid (kid (kid x 0) 0) 0) (kid (kid x 0) 0).name (theT (kid x 1) (nd M (kid x 0).form).l) (B:=65536) zbp (by simpa using c)
    rw [size_the]; omega
  ·split
   ·intro _
    show sizeT (if x.kind=6 then kid (kid x 0) 1 else kid (kid x 0) 0) ≤ _
    have:=sk2 0 1; have:=sk2 0 0
    split <;> omega
   ·split
    ·intro _
     show sizeT (if x.kind=6 then theT (kid (kid (kid x 0) 0) 1) _ else theT (kid (kid (kid x 0) 0) 0) _) ≤ _
     have:=sk3 0 0 1; have:=sk3 0 0 0
     split <;> rw [size_the] <;> omega
    ·split
     ·exact small_into _ _ _ zbp
     ·split
      ·exact small_into _ _ _ zbp
      ·split
       ·exact zai _ _ _ zbp
       ·split
        ·intro _; have:=sk 0; show sizeT (kid x 0) ≤ _; omega
        ·intro h; exact absurd h zbp
theorem small_do {M:List Nd} : ∀ (w:List Int) (x:PTerm),sizeT x ≤ 65536→(doV M x w).2=0→sizeT (doV M x w).1 ≤ sizeT x + 65540
 | [],x,hs,h=>by rw [doV] at h ⊢; have:=small_cont (M:=M) hs h; omega
 | k :: w,x,hs,h=>by
  rw [doV] at h ⊢
  by_cases c:k < 0∨(x.sub.length:Int) ≤ k
  ·rw [if_pos c] at h; exact absurd h zbp
  rw [if_neg c] at h ⊢
  by_cases z:(doV M (kid x k) w).2=0
  ·rw [if_neg (fun q=>q z)]
   obtain ⟨j,rfl⟩ : ∃ j:Nat,k=j:=⟨k.toNat,by omega⟩
   have hj:j < x.sub.length:=by omega
   have hkj:kid x (j:Int)=x.sub[j]:=kid_at hj
   have hm:sizeT x.sub[j] ≤ sizeL x.sub:=xS (List.getElem_mem hj)
   have hx:=xD x
   have ih:=small_do (M:=M) w (kid x (j:Int)) (by rw [hkj]; omega) z
   have hset:=sizeL_set hj (doV M (kid x (j:Int)) w).1
   rw [xD]
   show 1 + sizeL (x.sub.set j (doV M (kid x (j:Int)) w).1) ≤ _
   rw [hkj] at ih hset ⊢
   omega
  ·rw [if_pos z] at h; exact absurd h z
theorem Do12 {M:List Nd} {K:Nat} {x:PTerm} {w:List Int} (hK:300000 ≤ K) (hn:nmT x) (hb:sizeT x ≤ 1000000000):zdJ.f K (some M) x w=some (DoV M x w):=by
 unfold zdJ.f
 rw [ahead12 zbq hn hb,zbu]
 by_cases a:vQ M x=0
 rotate_left
 ·have hv:DoV M x w=(PTerm.z,vQ M x):=by unfold DoV; rw [if_pos a]
  rw [hv,if_pos (by simpa using a)]; rfl
 have hv0:DoV M x w=kL M x w:=by unfold DoV; rw [if_neg (fun q=>q a)]
 obtain ⟨⟨a1,a2,a3⟩,a4⟩ := ahead_ok.1 a
 obtain ⟨p,e1,e2,e3⟩ := do12 K x w zbq hn a3 a1 a4
 rw [hv0,if_neg (by simpa using a),e1,zbu]
 by_cases c:p.2=0
 ·have c':(doV M x w).2=0:=by rw [← e2]; exact c
  have hsz:=small_do w x a1 c'
  have hsl:=xD (doV M x w).1
  rw [if_pos (by simpa using c),e3 c,kP zbq (nm_do w x hn) zbq,zbu]
  by_cases k:yo (doV M x w).1=0
  ·have hv:kL M x w=((doV M x w).1,0):=by unfold kL; rw [if_neg (fun q=>q c'),if_neg (fun q=>q k)]
   rw [hv,if_neg (by simp [k]),if_neg (by simpa using c)]
  ·have hv:kL M x w=(PTerm.z,121):=by unfold kL; rw [if_neg (fun q=>q c'),if_pos k]
   rw [hv,if_pos (by simp [c,k]),if_pos zbp]; rfl
 ·have c':(doV M x w).2 ≠ 0:=by rw [← e2]; exact c
  have hv:kL M x w=(PTerm.z,(doV M x w).2):=by unfold kL; rw [if_pos c']
  rw [hv,if_neg (by simpa using c),zbu,if_neg (by simp [c]),if_pos (by simpa using c),e2]; rfl
end
section
open Gw
def mixJ (l:List PTerm) (j:Nat):List PTerm:=(l.map stripT).take j ++ l.drop j
theorem mixJ_len (l:List PTerm) {j:Nat} (h:j ≤ l.length):(mixJ l j).length=l.length:=by unfold mixJ; simp; omega
theorem mixJ_at {l:List PTerm} {j:Nat} (h:j < l.length):at_ PTerm.z (mixJ l j) (j:Int)=l[j]:=by
 rw [vk (by rw [mixJ_len l zbq]; exact h)]
 unfold mixJ
 rw [List.getElem_append_right (by simp; omega)]
 simp [show j - min j l.length=0 by omega]
theorem mixJ_set {l:List PTerm} {j:Nat} (h:j < l.length):(mixJ l j).set j (stripT l[j])=mixJ l (j + 1):=by
 unfold mixJ
 rw [List.drop_eq_getElem_cons h,List.set_append_right _ _ (by simp; omega),List.take_succ_eq_append_getElem (by simpa using h)]
 have:j - ((l.map stripT).take j).length=0:=by simp; omega
 rw [this,List.set_cons_zero,List.append_assoc,List.getElem_map]
 rfl
theorem strip14 : ∀ (K:Nat) (x:PTerm),rightT x=true→depT x ≤ K→zcO.f K x=some (stripT x)
 | 0,x,_,h=>by have:=yx x; omega
 | K + 1,x,hr,h=>by
  have hd:=yj x
  have h3:=len3 hr
  show zcO.g (zcO.f K) x=_
  unfold zcO.g
  by_cases k:x.kind=11
  ·obtain ⟨p,hp,e⟩ := strip_the hr k
   have hl:x.sub.length=1:=by rw [hp]; rfl
   have h0:at_ PTerm.z x.sub 0=x.sub[0]:=vk (i:=0) zbq
   have hp0:x.sub[0]=p:=by simp [hp]
   rw [if_pos (by simpa using k),chk,if_pos (yp zbq zbq),h0,strip14 K _ (ym hr zbq) (by have:=ye _ (List.getElem_mem (show 0 < x.sub.length by omega)); omega),hp0,e]; rfl
  ·rw [if_neg (by simpa using k)]
   unfold zbE.f
   rw [chk,if_pos (by simp; omega),zbu,show ((x.sub.length:Int) - 0).toNat=x.sub.length by omega]
   have hloop:=zbe (b:=fun i s=>zcO.b0 (zcO.f K) i s) (inv:=fun j=>(⟨x.kind,x.name,x.other,x.form,mixJ x.sub j⟩ : PTerm)) x.sub.length 0 (fun j _ hj=>by
    have hj:j < x.sub.length:=by omega
    show zcO.b0 (zcO.f K) (j:Int) (⟨x.kind,x.name,x.other,x.form,mixJ x.sub j⟩ : PTerm)=_
    have hin:inb (j:Int) (mixJ x.sub j).length=true:=yp zbq (by rw [mixJ_len _ zbq]; omega)
    unfold zcO.b0
    simp only [mk_sub,mk_kind,mk_name,mk_other,mk_form]
    rw [chk,if_pos hin,mixJ_at hj,strip14 K _ (ym hr hj) (by have:=ye _ (List.getElem_mem hj); omega),zbu,chk,if_pos hin]
    show some (⟨_,_,_,_,(mixJ x.sub j).set j (stripT x.sub[j])⟩ : PTerm)=_
    rw [mixJ_set hj])
   have e0:mixJ x.sub 0=x.sub:=by simp [mixJ]
   have e1:mixJ x.sub (0 + x.sub.length)=x.sub.map stripT:=by
    unfold mixJ; rw [Nat.zero_add,List.take_of_length_le zbr,List.drop_length,List.append_nil]
   rw [e0,e1] at hloop
   have hloop:forS (fun i s=>zcO.b0 (zcO.f K) i s) x.sub.length 0 (⟨x.kind,x.name,x.other,x.form,x.sub⟩ : PTerm)=_:=hloop
   rw [hloop,zbu,strip_node k]; rfl
theorem strip12 : ∀ (K:Nat) (x:PTerm),rightT x=true→sizeT x + 2 ≤ K→sizeT x ≤ 1000000000→zdK.f K x=some (stripT x)
 | 0,x,_,h,_=>by omega
 | K + 1,x,hr,h,hb=>by
  have hs:=xD x
  have h3:=len3 hr
  show zdK.g (zdK.f K) K x=_
  unfold zdK.g
  by_cases k:x.kind=11
  ·obtain ⟨p,hp,e⟩ := strip_the hr k
   have hl:x.sub.length=1:=by rw [hp]; rfl
   have h0:at_ PTerm.z x.sub 0=x.sub[0]:=vk (i:=0) zbq
   have hp0:x.sub[0]=p:=by simp [hp]
   rw [if_pos (by simpa using k),chk,if_pos (yp zbq zbq),h0,strip12 K _ (ym hr zbq) (by have:=xS (List.getElem_mem (show 0 < x.sub.length by omega)); omega) (by have:=xS (List.getElem_mem (show 0 < x.sub.length by omega)); omega),hp0,e]; rfl
  ·rw [if_neg (by simpa using k)]
   have hl:=uc x.sub
   have hloop:=zaA (b:=fun s:Int × PTerm=>zdK.b0 x (zdK.f K) s.1 s.2) (inv:=fun i=>((i:Int),(⟨x.kind,x.name,x.other,x.form,(x.sub.map stripT).take i⟩ : PTerm))) (s:=((x.sub.length:Int),stripT x)) x.sub.length 0 K zbq (fun j _ hj=>by
    have hj:j < x.sub.length:=by omega
    have hm:sizeT x.sub[j] ≤ sizeL x.sub:=xS (List.getElem_mem hj)
    show zdK.b0 x (zdK.f K) (j:Int) (⟨x.kind,x.name,x.other,x.form,(x.sub.map stripT).take j⟩ : PTerm)=_
    unfold zdK.b0
    rw [if_pos (by simp; omega),chk,if_pos (yp zbq zbq),vk hj,strip12 K _ (ym hr hj) zbq zbq]
    simp only [zbu]
    rw [chk,if_pos (by show decide (((((x.sub.map stripT).take j).length + 1) * 72) ≤ _)=true; simp; omega),vD zbq]
    show some (Stp.go (((j + 1:Nat):Int),PTerm.mk x.kind x.name x.other x.form ((x.sub.map stripT).take j ++ [stripT x.sub[j]])))=_
    rw [List.take_succ_eq_append_getElem (by simpa using hj),List.getElem_map]) (by
    show zdK.b0 x (zdK.f K) ((0 + x.sub.length:Nat):Int) (⟨x.kind,x.name,x.other,x.form,(x.sub.map stripT).take (0 + x.sub.length)⟩ : PTerm)=_
    unfold zdK.b0
    rw [Nat.zero_add,if_neg zbr,List.take_of_length_le zbr,strip_node k])
   have hloop:iter (fun s:Int × PTerm=>zdK.b0 x (zdK.f K) s.1 s.2) K (0,(⟨x.kind,x.name,x.other,x.form,([]:List PTerm)⟩ : PTerm))=_:=hloop
   rw [hloop]
   show some (⟨_,_,_,_,_⟩ : PTerm)=_
   rw [PTerm.eta]
def kT (x:PTerm):PTerm × Int:=if yo x ≠ 0 then (PTerm.z,yo x) else (stripT x,0)
theorem Strip14 {K:Nat} {x:PTerm} (hK:200000 ≤ K) (hn:nmT x):zcP.f K x=some (kT x):=by
 unfold zcP.f
 rw [zak zbq hn,zbu]
 by_cases c:yo x=0
 ·obtain ⟨c1,c2,c3⟩ := vM.1 c
  have hv:kT x=(stripT x,0):=by unfold kT; rw [if_neg (fun q=>q c)]
  rw [hv,if_neg (by simpa using c),strip14 K x c3 zbq]; rfl
 ·have hv:kT x=(PTerm.z,yo x):=by unfold kT; rw [if_pos c]
  rw [hv,if_pos (by simpa using c)]; rfl
theorem Strip12 {K:Nat} {x:PTerm} (hK:200000 ≤ K) (hn:nmT x) (hb:sizeT x ≤ 1000000000):zdL.f K x=some (kT x):=by
 have hs:=xD x
 unfold zdL.f
 rw [kP zbq hn zbq,zbu]
 by_cases c:yo x=0
 ·obtain ⟨c1,c2,c3⟩ := vM.1 c
  have hv:kT x=(stripT x,0):=by unfold kT; rw [if_neg (fun q=>q c)]
  rw [hv,if_neg (by simpa using c),strip12 K x c3 zbq zbq]; rfl
 ·have hv:kT x=(PTerm.z,yo x):=by unfold kT; rw [if_pos c]
  rw [hv,if_pos (by simpa using c)]; rfl
end
section
open Gw
mutual
def gaT (M:List Nd):PTerm→List Int→List (List Int)→List (List Int)
 | .mk k n o f s,way,l=>if 1000 ≤ l.length then l else gaL M 0 s way (if rowV M (.mk k n o f s) ≠ 0 then l ++ [way] else l)
def gaL (M:List Nd):Nat→List PTerm→List Int→List (List Int)→List (List Int)
 | _,[],_,l=>l
 | i,y :: r,way,l=>gaL M (i + 1) r way (gaT M y (way ++ [(i:Int)]) l)
end
theorem gaT_eq (M:List Nd) (x:PTerm) (way:List Int) (l:List (List Int)):gaT M x way l=if 1000 ≤ l.length then l else gaL M 0 x.sub way (if rowV M x ≠ 0 then l ++ [way] else l):=by cases x; simp only [gaT]; rfl
theorem gaT_full {M:List Nd} {x:PTerm} {way:List Int} {l:List (List Int)} (h:1000 ≤ l.length):gaT M x way l=l:=by rw [gaT_eq,if_pos h]
theorem gaL_full {M:List Nd} : ∀ {r:List PTerm} {i:Nat} {way:List Int} {l:List (List Int)},1000 ≤ l.length→gaL M i r way l=l
 | [],i,way,l,h=>by simp only [gaL]
 | y :: r,i,way,l,h=>by simp only [gaL]; rw [gaT_full h]; exact gaL_full h
mutual
theorem gaT_len (M:List Nd) : ∀ (x:PTerm) (way:List Int) (l:List (List Int)),l.length ≤ 1000→(gaT M x way l).length ≤ 1000
 | .mk k n o f s,way,l,h=>by
  simp only [gaT]
  split
  ·exact h
  ·refine gaL_len M s 0 way _ ?_
   split
   ·rw [List.length_append,List.length_singleton]; omega
   ·exact h
theorem gaL_len (M:List Nd) : ∀ (r:List PTerm) (i:Nat) (way:List Int) (l:List (List Int)),l.length ≤ 1000→(gaL M i r way l).length ≤ 1000
 | [],i,way,l,h=>by simpa only [gaL] using h
 | y :: r,i,way,l,h=>by simp only [gaL]; exact gaL_len M r (i + 1) way _ (gaT_len M y _ l h)
end
end
section
open Gw
theorem gaL_nil (M:List Nd) (i:Nat) (way:List Int) (l:List (List Int)):gaL M i [] way l=l:=by simp only [gaL]
theorem zbg (M:List Nd) (i:Nat) (y:PTerm) (r:List PTerm) (way:List Int) (l:List (List Int)):gaL M i (y :: r) way l=gaL M (i + 1) r way (gaT M y (way ++ [(i:Int)]) l):=by simp only [gaL]
theorem each14 {M:List Nd} : ∀ (K:Nat) (x:PTerm) (way:List Int) (l:List (List Int)),depT x ≤ K→way.length + depT x ≤ 100000→rightT x=true→toldB M x=true→l.length < 1000 →
  zcU.f K (some M) x way l=some (gaT M x way l,decide ((gaT M x way l).length < 1000))
 | 0,x,_,_,h,_,_,_,_=>by have:=yx x; omega
 | K + 1,x,way,l,h,hw,hr,ht,hl=>by
  have hd:=yj x
  show zcU.g (zcU.f K) (some M) x way l=_
  have loop : ∀ (m j:Nat) (l:List (List Int)),j + m=x.sub.length→l.length < 1000→forN (fun i s=>zcU.b0 way (zcU.f K) (some M) x i s) m (j:Int) l=some (if (gaL M j (x.sub.drop j) way l).length < 1000 then .inl (gaL M j (x.sub.drop j) way l) else .inr (gaL M j (x.sub.drop j) way l,false)):=by
   intro m
   induction m with
   | zero =>
    intro j l hj hl
    rw [List.drop_of_length_le zbq]
    rw [gaL_nil,if_pos hl]; rfl
   | succ m ih =>
    intro j l hj hl
    have hjl:j < x.sub.length:=by omega
    have hdp:depT x.sub[j] ≤ depL x.sub:=ye _ (List.getElem_mem hjl)
    have hb:zcU.b0 way (zcU.f K) (some M) x (j:Int) l=some (if (gaT M x.sub[j] (way ++ [(j:Int)]) l).length < 1000 then .go (gaT M x.sub[j] (way ++ [(j:Int)]) l) else .ret (gaT M x.sub[j] (way ++ [(j:Int)]) l,false)):=by
     unfold zcU.b0
     rw [chk,if_pos zbr,chk,if_pos (by rw [List.length_take,List.length_singleton]; simp; omega),vk hjl,show way.take (Int.toNat (way.length:Int))=way from List.take_length,each14 K _ _ l zbq (by rw [List.length_append,List.length_singleton]; omega) (ym hr hjl) (told_kid ht hjl) hl,zbu]
     by_cases c:(gaT M x.sub[j] (way ++ [(j:Int)]) l).length < 1000
     ·rw [if_pos c,if_neg (by simpa using c)]
     ·rw [if_neg c,if_pos (by simpa using c)]
    rw [drop_at hjl,zbg]
    simp only [forN,hb,zbu]
    by_cases c:(gaT M x.sub[j] (way ++ [(j:Int)]) l).length < 1000
    ·rw [if_pos c,show ((j:Int) + 1)=((j + 1:Nat):Int) by omega]
     exact ih (j + 1) _ zbq c
    ·rw [if_neg c,gaL_full zbq,if_neg c]
  have fin : ∀ l1:List (List Int),l1.length < 1000→((forN (fun i s=>zcU.b0 way (zcU.f K) (some M) x i s) ((x.sub.length:Int) - 0).toNat 0 l1).bind (aft fun (s14:List (List Int))=>some (s14,true)))=some (gaL M 0 x.sub way l1,decide ((gaL M 0 x.sub way l1).length < 1000)):=fun l1 h1=>by
   have:=loop x.sub.length 0 l1 zbq h1
   rw [List.drop_zero] at this
   rw [show ((x.sub.length:Int) - 0).toNat=x.sub.length by omega]
   rw [show ((0:Nat):Int)=0 from rfl] at this
   rw [this,zbu]
   by_cases c:(gaL M 0 x.sub way l1).length < 1000
   ·rw [if_pos c,decide_eq_true c]; rfl
   ·rw [if_neg c,decide_eq_false c]; rfl
  unfold zcU.g
  rw [fits14 hr (kid_form ht),zbu]
  by_cases c:rowV M x=0
  ·have hg:gaT M x way l=gaL M 0 x.sub way l:=by rw [gaT_eq,if_neg (Nat.not_le.2 hl),if_neg (fun q=>q c)]
   rw [hg,if_pos c,if_neg zbr,zbu,if_neg zbr]
   exact fin l hl
  ·have hg:gaT M x way l=gaL M 0 x.sub way (l ++ [way]):=by rw [gaT_eq,if_neg (Nat.not_le.2 hl),if_pos c]
   rw [hg,if_neg c,if_pos zbr]
   unfold zcT.f zbF.f
   rw [chk,if_pos (by simp; omega),zbu,chk,if_pos (by simp; omega),zbu]
   have hll:(l ++ [way]).length=l.length + 1:=by rw [List.length_append,List.length_singleton]
   by_cases c2:(l ++ [way]).length < 1000
   ·have d:decide (((l ++ [way]).length:Int) < 1000)=true:=decide_eq_true zbq
    rw [d,if_neg zbr]
    exact fin _ c2
   ·have d:decide (((l ++ [way]).length:Int) < 1000)=false:=decide_eq_false zbq
    rw [d,if_pos zbr,gaL_full (Nat.not_lt.1 c2),decide_eq_false c2]
end
section
open Gw
theorem gaL_take {M:List Nd} {way:List Int} : ∀ (r:List PTerm) (i j:Nat) (l:List (List Int)),(h:j < r.length)→gaL M i (r.take (j + 1)) way l=gaT M r[j] (way ++ [((i + j:Nat):Int)]) (gaL M i (r.take j) way l)
 | [],i,j,l,h=>by simp at h
 | y :: r,i,0,l,h=>by simp only [List.take_succ_cons,List.take_zero,zbg,gaL_nil,List.getElem_cons_zero]; rfl
 | y :: r,i,j + 1,l,h=>by
  have:=gaL_take (M:=M) (way:=way) r (i + 1) j (gaT M y (way ++ [(i:Int)]) l) (by simpa using h)
  simp only [List.take_succ_cons,zbg,List.getElem_cons_succ]
  rw [this,show i + 1 + j=i + (j + 1) by omega]
theorem gather12 {M:List Nd} : ∀ (K:Nat) (x:PTerm) (way:List Int) (l:List (List Int)),sizeT x + 2 ≤ K→way.length + depT x ≤ 100000→rightT x=true→toldB M x=true→l.length ≤ 1000 →
  zdG.f K (some M) x way l=some (gaT M x way l)
 | 0,x,_,_,h,_,_,_,_=>by omega
 | K + 1,x,way,l,h,hw,hr,ht,hl=>by
  have hd:=yj x
  have hs:=xD x
  have hlen:=uc x.sub
  have h3:=len3 hr
  show zdG.g (zdG.f K) K (some M) x way l=_
  unfold zdG.g
  by_cases f:1000 ≤ l.length
  ·rw [if_pos (by simpa using (show (1000:Int) ≤ l.length by omega)),gaT_full f]
  rw [if_neg (by simpa using (show ¬ (1000:Int) ≤ l.length by omega)),Row12 hr (kid_form ht),zbu]
  have fin : ∀ l1:List (List Int),l1.length ≤ 1000→((iter (fun s:List (List Int) × Int=>zdG.b0 x way (zdG.f K) (some M) s.1 s.2) K (l1,0)).bind (aft fun (s25:List (List Int) × Int)=>some s25.1))=some (gaL M 0 x.sub way l1):=fun l1 h1=>by
   have hloop:=zaA (b:=fun s:List (List Int) × Int=>zdG.b0 x way (zdG.f K) (some M) s.1 s.2) (inv:=fun i=>(gaL M 0 (x.sub.take i) way l1,(i:Int))) (s:=(gaL M 0 x.sub way l1,(x.sub.length:Int))) x.sub.length 0 K zbq (fun j _ hj=>by
    have hj:j < x.sub.length:=by omega
    have hm:sizeT x.sub[j] ≤ sizeL x.sub:=xS (List.getElem_mem hj)
    have hdp:depT x.sub[j] ≤ depL x.sub:=ye _ (List.getElem_mem hj)
    have ht1:=gaL_take (M:=M) (way:=way) x.sub 0 j l1 hj
    rw [Nat.zero_add] at ht1
    show zdG.b0 x way (zdG.f K) (some M) (gaL M 0 (x.sub.take j) way l1) (j:Int)=some (.go (gaL M 0 (x.sub.take (j + 1)) way l1,((j + 1:Nat):Int)))
    unfold zdG.b0
    rw [if_pos (by simp; omega),chk,if_pos (yp zbq zbq),chk,if_pos zbr,chk,if_pos (by rw [List.length_take,List.length_singleton]; simp; omega),vk hj,show way.take (Int.toNat (way.length:Int))=way from List.take_length,gather12 K _ _ _ zbq (by rw [List.length_append,List.length_singleton]; omega) (ym hr hj) (told_kid ht hj) (gaL_len M _ 0 way l1 h1),zbu,vD zbq,ht1]) (by
    show zdG.b0 x way (zdG.f K) (some M) _ ((0 + x.sub.length:Nat):Int)=_
    unfold zdG.b0
    rw [Nat.zero_add,if_neg zbr,List.take_length])
   rw [List.take_zero,gaL_nil] at hloop
   have hloop:iter (fun s:List (List Int) × Int=>zdG.b0 x way (zdG.f K) (some M) s.1 s.2) K (l1,0)=_:=hloop
   rw [hloop]; rfl
  by_cases c:rowV M x=0
  ·have hg:gaT M x way l=gaL M 0 x.sub way l:=by rw [gaT_eq,if_neg f,if_neg (fun q=>q c)]
   rw [hg,if_neg (by simpa using c),zbu]
   exact fin l hl
  ·have hg:gaT M x way l=gaL M 0 x.sub way (l ++ [way]):=by rw [gaT_eq,if_neg f,if_pos c]
   rw [hg,if_pos (by simpa using c),chk,if_pos (by simp; omega),chk,if_pos (by simp; omega),zbu,List.nil_append]
   exact fin _ (by rw [List.length_append,List.length_singleton]; omega)
end
section
open Gw
def yq (M:List Nd) (x:PTerm):List (List Int) × Int:=if vQ M x ≠ 0 then ([],vQ M x) else (gaT M x [] [],0)
theorem Redexes14 {M:List Nd} {K:Nat} {x:PTerm} (hK:300000 ≤ K) (hn:nmT x) (hM:M.Nodup):zcV.f K (some M) x=some (yq M x):=by
 unfold zcV.f
 rw [begun14 zbq hn hM,zbu]
 by_cases c:vQ M x=0
 ·obtain ⟨⟨a1,a2,a3⟩,a4⟩ := ahead_ok.1 c
  have hv:yq M x=(gaT M x [] [],0):=by unfold yq; rw [if_neg (fun q=>q c)]
  rw [hv,if_neg (by simpa using c),chk,if_pos (by simpa using c),each14 K x [] [] zbq (by simp; omega) a3 a4 zbr]; rfl
 ·have hv:yq M x=([],vQ M x):=by unfold yq; rw [if_pos c]
  rw [hv,if_pos (by simpa using c)]
theorem Redexes12 {M:List Nd} {K:Nat} {x:PTerm} (hK:300000 ≤ K) (hn:nmT x) (hb:sizeT x ≤ 1000000000):zdH.f K (some M) x=some (yq M x):=by
 unfold zdH.f
 rw [ahead12 zbq hn hb,zbu]
 by_cases c:vQ M x=0
 ·obtain ⟨⟨a1,a2,a3⟩,a4⟩ := ahead_ok.1 c
  have hv:yq M x=(gaT M x [] [],0):=by unfold yq; rw [if_neg (fun q=>q c)]
  rw [hv,if_neg (by simpa using c),gather12 K x [] [] zbq (by simp; omega) a3 a4 zbr]; rfl
 ·have hv:yq M x=([],vQ M x):=by unfold yq; rw [if_pos c]
  rw [hv,if_pos (by simpa using c)]
theorem Normal14 {M:List Nd} {K:Nat} {x:PTerm} (hK:300000 ≤ K) (hn:nmT x) (hM:M.Nodup):zcW.f K (some M) x=some ((decide ((yq M x).2=0)) && (decide (((yq M x).1.length:Int)=0)),(yq M x).2):=by
 unfold zcW.f
 rw [Redexes14 hK hn hM]; rfl
end
section
open Gw
mutual
def fiT (M:List Nd):PTerm→List Int→Option (List Int)
 | .mk k n o f s,way=>if rowV M (.mk k n o f s) ≠ 0 then some way else fiL M 0 s way
def fiL (M:List Nd):Nat→List PTerm→List Int→Option (List Int)
 | _,[],_=>none
 | i,y :: r,way=>match fiT M y (way ++ [(i:Int)]) with
  | some w=>some w
  | none=>fiL M (i + 1) r way
end
mutual
theorem gaT_head (M:List Nd) : ∀ (x:PTerm) (way a:List Int) (l:List (List Int)),(gaT M x way (a :: l)).head? = some a
 | .mk k n o f s,way,a,l=>by
  simp only [gaT]
  split
  ·rfl
  ·split
   ·exact ga_head M s 0 way a (l ++ [way])
   ·exact ga_head M s 0 way a l
theorem ga_head (M:List Nd) : ∀ (r:List PTerm) (i:Nat) (way a:List Int) (l:List (List Int)),(gaL M i r way (a :: l)).head? = some a
 | [],i,way,a,l=>by rw [gaL_nil]; rfl
 | y :: r,i,way,a,l=>by
  have h:=gaT_head M y (way ++ [(i:Int)]) a l
  rw [zbg]
  cases q:gaT M y (way ++ [(i:Int)]) (a :: l) with
  | nil=>rw [q] at h; cases h
  | cons b l'=>rw [q] at h; cases h; exact ga_head M r (i + 1) way a l'
end
mutual
theorem fi_ga (M:List Nd) : ∀ (x:PTerm) (way:List Int),(gaT M x way []).head? = fiT M x way
 | .mk k n o f s,way=>by
  have h:=gaL_fi M s 0 way
  simp only [gaT,fiT]
  rw [if_neg zbr]
  by_cases c:rowV M (.mk k n o f s) ≠ 0
  ·rw [if_pos c,if_pos c]; exact ga_head M s 0 way way [] 
  ·rw [if_neg c,if_neg c]; exact h
theorem gaL_fi (M:List Nd) : ∀ (r:List PTerm) (i:Nat) (way:List Int),(gaL M i r way []).head? = fiL M i r way
 | [],i,way=>by simp only [gaL,fiL]; rfl
 | y :: r,i,way=>by
  have h:=fi_ga M y (way ++ [(i:Int)])
  rw [zbg,fiL]
  cases q:gaT M y (way ++ [(i:Int)]) [] with
  | nil=>rw [q] at h; rw [← h]; exact gaL_fi M r (i + 1) way
  | cons a l=>rw [q] at h; rw [← h]; exact ga_head M r (i + 1) way a l
end
end
section
open Gw
end
section
open Gw
end
section
open Gw
end
section
open Gw
end
section
open Gw
theorem wf_nil:Wf []:=⟨by simp,by simp,fun i hi=>absurd (zC hi) zbr,fun i hi=>absurd (zC hi) zbr,fun j n h=>by simp at h⟩
theorem tables14 {rows:List Nd} (hn : ∀ n ∈ rows,n.name.size < 9223372036854775808) (hl:rows.length * 40 ≤ 140737488355328) : ∃ M,zdp.f rows=some (some M,some M)∧Wf M:=by
 unfold zdp.f
 rcases both_some hn hl with h | ⟨h,hw⟩
 ·exact ⟨[],by rw [h]; rfl,wf_nil⟩
 ·exact ⟨rows,by rw [h]; rfl,hw⟩
theorem like14 (M:List Nd):zdq.f (some M) (some M)=some true:=by unfold zdq.f; rw [like_self]; rfl
theorem same_refl : ∀ (K:Nat) (x:PTerm),sizeT x + 2 ≤ K→sizeT x ≤ 1000000000→zdm.f K x x=some true
 | 0,x,h,_=>by omega
 | K + 1,x,h,hb=>by
  have hs:=xD x
  have hl:=uc x.sub
  show zdm.g (zdm.f K) K x x=_
  unfold zdm.g
  rw [if_neg zbr]
  have hloop:=zaA (b:=fun s=>zdm.b0 x x (zdm.f K) s) (inv:=fun i=>(i:Int)) (s:=(x.sub.length:Int)) x.sub.length 0 K zbq (fun j _ hj=>by
   have hj:j < x.sub.length:=by omega
   have hm:sizeT x.sub[j] ≤ sizeL x.sub:=xS (List.getElem_mem hj)
   show zdm.b0 x x (zdm.f K) (j:Int)=_
   unfold zdm.b0
   rw [if_pos (by simp; omega),chk,if_pos (yp zbq zbq),chk,if_pos (yp zbq zbq),vk hj,same_refl K _ zbq zbq,zbu,if_neg zbr,vD zbq]) (by
   show zdm.b0 x x (zdm.f K) ((0 + x.sub.length:Nat):Int)=_
   unfold zdm.b0
   rw [Nat.zero_add,if_neg zbr])
  have hloop:iter (fun s=>zdm.b0 x x (zdm.f K) s) K 0=_:=hloop
  rw [hloop]; rfl
theorem ways_refl (l:List (List Int)):zdn.f l l=some true:=by
 unfold zdn.f
 rw [if_neg zbr]
 have h1:=kg (b:=fun i s=>zdn.b0 l l i) (p:=fun _=>false) (r:=fun _=>false) l.length 0 () (by
  intro k _ hk
  unfold zdn.b0
  rw [inb_nat,chk,if_pos (by simp; omega),ints_self]
  rfl)
 have e0:(((l.length:Nat):Int) - 0).toNat=l.length:=by omega
 rw [e0,show (0:Int)=((0:Nat):Int) from rfl,h1,show (List.range' 0 l.length).find? (fun _=>false)=none from List.find?_eq_none.2 zbr]
 rfl
theorem size_z:sizeT PTerm.z=1:=by rfl
theorem DoV_size {M:List Nd} {x:PTerm} {w:List Int}:sizeT (DoV M x w).1 ≤ 65536:=by
 unfold DoV
 split
 ·exact Nat.le_of_lt (by rw [size_z]; decide)
 ·unfold kL
  split
  ·exact Nat.le_of_lt (by rw [size_z]; decide)
  ·split
   ·exact Nat.le_of_lt (by rw [size_z]; decide)
   ·rename_i c; exact (vM.1 (Classical.not_not.1 c)).1
theorem StripV_size {x:PTerm}:sizeT (kT x).1 ≤ 65536:=by
 unfold kT
 split
 ·exact Nat.le_of_lt (by rw [size_z]; decide)
 ·rename_i c
  obtain ⟨c1,_,c3⟩ := vM.1 (by omega:yo x=0)
  exact Nat.le_trans (strip_size _ x (Nat.le_refl _) c3).1 c1
end
section
open Gw
mutual
theorem gaT_ways (M:List Nd) : ∀ (x:PTerm) (way:List Int) (l:List (List Int)),∀ w ∈ gaT M x way l,w ∈ l∨w.length ≤ way.length + depT x
 | .mk k n o f s,way,l,w,hw=>by
  have hd:depT (.mk k n o f s)=1 + depL s:=yj (.mk k n o f s)
  simp only [gaT] at hw
  split at hw
  ·exact .inl hw
  ·rcases gaL_ways M s 0 way _ w hw with q | q
   ·split at q
    ·rcases List.mem_append.1 q with q | q
     ·exact .inl q
     ·rw [List.mem_singleton] at q; subst q; exact .inr zbq
    ·exact .inl q
   ·exact .inr zbq
theorem gaL_ways (M:List Nd) : ∀ (r:List PTerm) (i:Nat) (way:List Int) (l:List (List Int)),∀ w ∈ gaL M i r way l,w ∈ l∨w.length ≤ way.length + depL r + 1
 | [],i,way,l,w,hw=>by rw [gaL_nil] at hw; exact .inl hw
 | y :: r,i,way,l,w,hw=>by
  have h1:depT y ≤ depL (y :: r):=ye _ zbr
  have h2:depL r ≤ depL (y :: r):=by simp only [depL]; omega
  rw [zbg] at hw
  rcases gaL_ways M r (i + 1) way _ w hw with q | q
  ·rcases gaT_ways M y _ l w q with p | p
   ·exact .inl p
   ·rw [List.length_append,List.length_singleton] at p; exact .inr zbq
  ·exact .inr zbq
end
theorem set_lens {L:List (List Int)} {j:Nat} (hj:j < L.length) {a:List Int} (h:a.length=L[j].length):(L.set j a).map List.length=L.map List.length:=by
 apply List.ext_getElem
 ·simp
 ·intro i h1 h2
  rw [List.getElem_map,List.getElem_map,List.getElem_set]
  split
  ·rename_i e; subst e; exact h
  ·rfl
theorem lens_at {L L':List (List Int)} (h:L'.map List.length=L.map List.length):L'.length=L.length ∧ ∀ j (h1:j < L'.length) (h2:j < L.length),L'[j].length=L[j].length:=by
 have hl:L'.length=L.length:=by have:=congrArg List.length h; simpa using this
 refine ⟨hl,fun j h1 h2=>?_⟩
 have h3:(L'.map List.length)[j]? = (L.map List.length)[j]? := by rw [h]
 simpa [h1,h2] using h3
theorem at_ways {L:List (List Int)} {j:Nat} (h:j < L.length):at_ [] L (j:Int)=L[j]:=by
 unfold at_; rw [Int.toNat_natCast,List.getD_eq_getElem?_getD,List.getElem?_eq_getElem h]; rfl
theorem write_one {j:Nat} : ∀ (m i k:Nat) (L:List (List Int)) (hj:j < L.length),i + m=L[j].length→m < k→i + m < 1000000 →
  ∃ L',iter (fun s=>zdM.b2 (j:Int) s.1 s.2) k ((i:Int),L)=some (.inl (((i + m:Nat):Int),L'))∧L'.map List.length=L.map List.length
 | m,i,0,L,hj,h,hk,_=>by omega
 | 0,i,k + 1,L,hj,h,hk,hb=>by
  refine ⟨L,?_,rfl⟩
  simp only [iter]
  have:zdM.b2 (j:Int) (i:Int) L=some (.brk ((i:Int),L)):=by
   unfold zdM.b2
   rw [chk,if_pos (yp zbq zbq),at_ways hj,if_neg (by simp; omega)]
  rw [this]; rfl
 | m + 1,i,k + 1,L,hj,h,hk,hb=>by
  have hb2:zdM.b2 (j:Int) (i:Int) L=some (.go (((i + 1:Nat):Int),L.set j (L[j].set i (-7)))):=by
   unfold zdM.b2
   rw [chk,if_pos (yp zbq zbq),at_ways hj,if_pos (by simp; omega),chk,if_pos (yp zbq zbq),chk,if_pos (yp zbq zbq),vD zbq]
   rfl
  have hs:=set_lens hj (a:=L[j].set i (-7)) zbr
  have hj':j < (L.set j (L[j].set i (-7))).length:=by simpa using hj
  obtain ⟨L',e,hL⟩ := write_one m (i + 1) k (L.set j (L[j].set i (-7))) hj' (by rw [(lens_at hs).2 j hj' hj]; omega) zbq zbq
  refine ⟨L',?_,hL.trans hs⟩
  simp only [iter]
  rw [hb2]
  show iter _ k (((i + 1:Nat):Int),L.set j (L[j].set i (-7)))=_
  rw [e,show i + 1 + m=i + (m + 1) by omega]
theorem write_all {K:Nat} (hK:1000000 ≤ K) : ∀ (m i k:Nat) (L:List (List Int)),i + m=L.length→m < k→L.length < 1000000→(∀ w ∈ L,w.length < 1000000) →
  ∃ s,iter (fun s=>zdM.b1 K s.1 s.2) k ((i:Int),L)=some (.inl s)
 | m,i,0,L,h,hk,_,_=>by omega
 | 0,i,k + 1,L,h,hk,hb,hw=>by
  refine ⟨((i:Int),L),?_⟩
  simp only [iter]
  have:zdM.b1 K (i:Int) L=some (.brk ((i:Int),L)):=by
   unfold zdM.b1
   rw [if_neg (by simp; omega)]
  rw [this]; rfl
 | m + 1,i,k + 1,L,h,hk,hb,hw=>by
  have hi:i < L.length:=by omega
  have hli:=hw _ (List.getElem_mem hi)
  obtain ⟨L',e,hL⟩ := write_one (j:=i) L[i].length 0 K L hi zbq zbq zbq
  obtain ⟨hl,hat⟩ := lens_at hL
  have hb1:zdM.b1 K (i:Int) L=some (.go (((i + 1:Nat):Int),L')):=by
   unfold zdM.b1
   have e':iter (fun s=>zdM.b2 (i:Int) s.1 s.2) K (0,L)=_:=e
   rw [if_pos (by simp; omega),e',zbu,vD zbq]; rfl
  obtain ⟨s,e2⟩ := write_all hK m (i + 1) k L' zbq zbq zbq (fun w hw'=>by
   obtain ⟨q,hq,rfl⟩ := List.getElem_of_mem hw'
   rw [hat q hq zbq]; exact hw _ (List.getElem_mem _))
  refine ⟨s,?_⟩
  simp only [iter]
  rw [hb1]
  exact e2
theorem ReduceDoes_true {K:Nat} (hK:1100000 ≤ K) (hh:zdo.f K=some true) {rows:List Nd} (hn : ∀ n ∈ rows,n.name.size < 9223372036854775808) (hl:rows.length * 40 ≤ 140737488355328) {x:PTerm} (hx:nmT x) (hs:sizeT x ≤ 1048576) {way:List Int} (hway:way.length * 8 ≤ 140737488355328):zdM.f K rows x way=some true:=by
 obtain ⟨M,ht,hw⟩ := tables14 hn hl
 have hR14:=Redexes14 (M:=M) (K:=K) (x:=x) zbq hx hw.nodup
 have hlen:(yq M x).1.length ≤ 1000 ∧ ∀ w ∈ (yq M x).1,w.length < 1000000:=by
  unfold yq
  split
  ·exact ⟨by simp,by simp⟩
  ·rename_i c
   obtain ⟨⟨_,a2,_⟩,_⟩ := ahead_ok.1 (by omega:vQ M x=0)
   refine ⟨gaT_len M x [] [] zbr,fun w hw=>?_⟩
   rcases gaT_ways M x [] [] w hw with q | q
   ·simp at q
   ·simp only [List.length_nil] at q; omega
 have hloop:forN (fun i s=>zdM.b0 K (some M,some M) x (yq M x) i) ((2:Int) - 0).toNat 0 ()=some (.inl ()):=by
  have hb : ∀ i:Int,zdM.b0 K (some M,some M) x (yq M x) i=some (.go ()):=fun i=>by
   obtain ⟨s,e⟩ := write_all (K:=K) zbq (yq M x).1.length 0 K (yq M x).1 zbq zbq zbq hlen.2
   have e:iter (fun s=>zdM.b1 K s.1 s.2) K (0,(yq M x).1)=_:=e
   unfold zdM.b0
   rw [hR14,zbu,ways_refl,zbu]
   simp only [zdk.f,Bool.not_true,Bool.not_false,if_true,zbu,ne_eq,not_true_eq_false,decide_false,Bool.or_false,Bool.false_eq_true,if_false]
   rw [e]; rfl
  show forN _ 2 0 ()=_
  simp only [forN,hb,zbu]
 unfold zdM.f
 have hz:=DoV_size (M:=M) (x:=x) (w:=way)
 have hz2:=StripV_size (x:=x)
 rw [ht,zbu,copy12 K x zbq zbq,zbu,chk,if_pos (by simp; omega),Redexes12 zbq hx zbq,zbu]
 simp only []
 rw [hloop,zbu]
 simp only [aft]
 rw [Normal14 zbq hx hw.nodup,zbu,List.nil_append,Do14 zbq hx hw.nodup,zbu,Do12 zbq hx zbq,zbu,Strip14 zbq hx,zbu,Strip12 zbq hx zbq,zbu,same_refl K _ zbq zbq,same_refl K _ zbq zbq,same_refl K x zbq zbq,ints_self]
 simp [zdk.f,like14,hh]
end
section
open Gw
set_option maxRecDepth 100000
theorem heads14b:zdo.f 1100000=some true:=by decide +kernel
end
section
open Gw Go.ChangeShapes Go.WideShapes Go.ChangeAt Go.RowKit
set_option maxRecDepth 100000
theorem ownKnob_none:ownKnob PP.godebug=none:=by kernel_rfl
theorem laidOut_PP:laidOutB PP=true:=by kernel_rfl
theorem trodAll_stays {H:Type} {enc:TypeId × Value→H} {W W':World} {sp:Nat→Bool} : ∀ {ts:List TypeId} {vs:List Value} {ds:List (DataW H)} {ps:List MemPlace},(∀ t ∈ ts,PP.readableRec t=true∧t < PP.types.size) →
  DataW.TrodAll enc PP W 0 (fun _=>true) true ts vs ds ps→(∀ p ∈ ps,W.sameAt W' p)→(∀ p ∈ ps,sp p.block=true)→DataW.TrodAll enc PP W' 0 sp true ts vs ds ps
 | [],vs,ds,ps,_,h,_,_=>by
  obtain ⟨rfl,rfl,rfl⟩ := trodAll_nil h
  exact trodAll_mk0
 | t :: ts,vs,ds,ps,hr,h,h1,h2=>by
  obtain ⟨v,vs,d,ds,p,q,rfl,rfl,rfl,h0,h3⟩ := trodAll_cons h
  have ht:=hr t zbr
  exact trodAll_cons_mk (WideElems.Trod_stays laidOut_PP ht.1 ht.2 h0 (fun x hx=>h1 x (by simp [hx])) (fun x hx=>h2 x (by simp [hx])))
   (trodAll_stays (fun t ht=>hr t (by simp [ht])) h3 (fun x hx=>h1 x (by simp [hx])) (fun x hx=>h2 x (by simp [hx])))
def oth0:Oth:=⟨fun _=>False,[],fun _ h=>by cases h⟩
section
variable {P:Program} {W:World} {b t:Nat} {k:IntKind} {v:Value}
end
section
variable {H:Type} {enc:TypeId × Value→H} {P:Program} {W:World} {t:TypeId} {fuel:Nat} {cs:List Value} {x:DataW H × List MemPlace} {sp:Nat→Bool} {hd:Bool} {b0:Nat}
theorem take_one {l:List Value} {o:Nat} {v:Value} (h:(l.drop o).take 1=[v]):l[o]? = some v:=by
 have:((l.drop o).take 1)[0]? = some v:=by rw [h]; rfl
 rw [List.getElem?_take] at this
 simpa using this
theorem fld_int {i off ft:Nat} {k:IntKind} (hf:zap P t i off ft) (hk:P.underlying ft=some (.int k)) (hc:P.cellsOf ft=1) (h:DataW.trod enc P W b0 sp hd fuel t cs=some x) : ∃ n,cs[off]? = some (.int k n):=by
 obtain ⟨fs,fd,hu,hi,rfl,rfl⟩ := hf
 obtain ⟨xs,n,_,_,hl,hx,hall⟩ := DataW.trod_struct hu h
 have h1:=hall i fd hi
 have h2:i < xs.length:=by rw [hx]; exact (Array.getElem?_eq_some_iff.1 hi).1
 rw [List.getElem?_eq_getElem h2,hc] at h1
 obtain ⟨n,e,_⟩ := DataW.trod_int hk h1
 exact ⟨n,take_one e⟩
theorem fld_str {i off ft:Nat} (hf:zap P t i off ft) (hk:P.underlying ft=some .string) (hc:P.cellsOf ft=1) (h:DataW.trod enc P W b0 sp hd fuel t cs=some x) : ∃ s:ByteArray,cs[off]? = some (.string s)∧s.size ≤ maxLen:=by
 obtain ⟨fs,fd,hu,hi,rfl,rfl⟩ := hf
 obtain ⟨xs,n,_,_,hl,hx,hall⟩ := DataW.trod_struct hu h
 have h1:=hall i fd hi
 have h2:i < xs.length:=by rw [hx]; exact (Array.getElem?_eq_some_iff.1 hi).1
 rw [List.getElem?_eq_getElem h2,hc] at h1
 obtain ⟨s,e,_,hs⟩ := DataW.trod_string hk h1
 exact ⟨s,take_one e,hs⟩
theorem slice_of {α:Type} [Inhabited α] {e k:Nat} {C:α→List Value} {Q:α→Prop} {base:Nat} {v:Value} {d:DataW H} {ps:List MemPlace} (ht:P.underlying t=some (.slice e)) (hk:P.cellsOf e=k) (hC : ∀ a,(C a).length=k) (hk0:0 < k)
  (hel : ∀ (n:Nat) (cs:List Value) (x:DataW H × List MemPlace),DataW.trod enc P W 0 (fun _=>true) true n e cs=some x → ∃ a,cs=C a∧Q a)
  (hval:Value.okWide P W .any base t v) (h:DataW.Trod enc P W 0 (fun _=>true) true t v d ps) :
  ∃ (l:List α) (s:SlV),v=s.v∧Rd W k s (l.map C)∧(∀ a ∈ l,Q a)∧(l=[] ∨ ∃ elems spare,d = .slice elems spare∧elems.length=l.length):=by
 obtain ⟨a0,len0,cap0,rfl⟩ := okWide_slice ht hval
 obtain ⟨fuel,hf⟩ := h
 rcases Deep.open_slice ht hf with ⟨h1,h2⟩ | ⟨a,len,cap,m,n,D,Pl,h1,_,hlc,hcm,hm,h2,hx⟩
 ·simp [Value.cells] at h1
  obtain ⟨rfl,rfl,rfl⟩ := h1
  exact ⟨[],SlV.nil,SlV.nil_eq,Rd.nil W k,by simp,.inl rfl⟩
 ·simp [Value.cells] at h1
  obtain ⟨rfl,rfl,rfl⟩ := h1
  have hval2:=hval
  simp only [Value.okWide,ht,Cell.okWide,Cell.ok] at hval2
  obtain ⟨_,_,_,hspot,row,cells,hshape,_⟩ := hval2
  obtain ⟨ab,ao,asp⟩ := a
  obtain rfl:asp=none:=hspot
  simp only at hshape
  have hlt:ab < W.heap.size:=by
   unfold World.shape? at hshape
   cases hh:W.heap[ab]? with
   | none=>rw [hh] at hshape; cases hshape
   | some o=>exact (Array.getElem?_eq_some_iff.1 hh).1
  have hmc:m=cap0:=by rw [hm]; rfl
  obtain ⟨f,hfx⟩ := Deep.choose_lt (α:=α) (n:=len0) (p:=fun i y=>W.cells? 0 ((⟨ab,ao,none⟩ : Addr).add (i * P.cellsOf e)) (P.cellsOf e)=some (C y)∧Q y) (fun i hi=>by
   obtain ⟨cs',hc,ht'⟩ := hx i zbq
   obtain ⟨y,rfl,hq⟩ := hel _ _ _ ht'
   exact ⟨y,hc,hq⟩)
  refine ⟨(List.range len0).map f,⟨some ⟨ab,ao,none⟩,len0,cap0⟩,by rw [SlV.eq],⟨⟨by simp,?_,?_⟩,?_,hlc⟩,?_,.inr ⟨_,_,by simpa using congrArg Prod.fst h2,by simp⟩⟩
  ·intro r hr
   obtain ⟨y,_,rfl⟩ := List.mem_map.1 hr
   exact hC y
  ·intro i r hr
   rw [List.getElem?_map,List.getElem?_map] at hr
   have hi:i < len0:=by
    refine Nat.lt_of_not_le fun q=>?_
    rw [List.getElem?_eq_none (by simpa using q)] at hr; cases hr
   rw [List.getElem?_eq_getElem (by simpa using hi)] at hr
   simp only [List.getElem_range,Option.map_some,Option.some.injEq] at hr
   subst hr
   obtain ⟨h3,_⟩ := hfx i hi
   obtain ⟨_,hl,hc⟩ := World.cells?_some h3
   refine ⟨rfl,fun j v hv=>?_⟩
   have hj:j < k:=by have:=(List.getElem?_eq_some_iff.1 hv).1; rw [hC] at this; exact this
   have h4:=hc j (by rw [hk]; exact hj)
   rw [hv] at h4
   have hadd:((⟨ab,ao,none⟩ : Addr).add (i * P.cellsOf e)).add j=⟨ab,ao + i * k + j,none⟩ := by
    rw [hk]
    unfold Addr.add
    by_cases h5:i * k=0
    ·by_cases h6:j=0
     ·simp [h5,h6]
     ·simp [h5,h6]
    ·by_cases h6:j=0
     ·simp [h5,h6]
     ·simp [h5,h6]
   rw [hadd] at h4
   exact h4
  ·rintro i ⟨_,rfl⟩
   exact hlt
  ·intro y hy
   obtain ⟨i,hi,rfl⟩ := List.mem_map.1 hy
   exact (hfx i (List.mem_range.1 hi)).2
end
instance:Inhabited Nd:=⟨Nd.z⟩
theorem nds_of {H:Type} {enc:TypeId × Value→H} {W:World} {base:Nat} {v:Value} {d:DataW H} {ps:List MemPlace} (hval:Value.okWide PP W .any base ug v) (h:DataW.Trod enc PP W 0 (fun _=>true) true ug v d ps) :
  ∃ (l:List Nd) (s:SlV),v=s.v∧Rd W 4 s (l.map Nd.C)∧(∀ a ∈ l,a.name.size < 9223372036854775808)∧(l=[] ∨ ∃ elems spare,d = .slice elems spare∧elems.length=l.length):=by
 refine slice_of z1.1 zbs Nd.len zbp (fun n cs x hx=>?_) hval h
 obtain ⟨a,ha⟩ := fld_int fv_Nd_kind un_api_Kind zbs hx
 obtain ⟨b,hb,hbs⟩ := fld_str fv_Nd_name yI zbs hx
 obtain ⟨c,hc⟩ := fld_int fv_Nd_l un_int zbs hx
 obtain ⟨d,hd⟩ := fld_int fv_Nd_r un_int zbs hx
 obtain ⟨fs,fd,hu,_⟩ := fv_Nd_kind
 obtain ⟨xs,n',_,_,hl,_⟩ := DataW.trod_struct hu hx
 have hl:cs.length=4:=hl.trans zbs
 refine ⟨⟨a,b,c,d⟩,?_,by have:maxLen=9223372036854775807:=rfl; show b.size < _; omega⟩
 match cs,hl with
 | [v0,v1,v2,v3],_ =>
  simp at ha hb hc hd
  subst ha hb hc hd
  rfl
theorem bulk_one {H:Type} (d:DataW H):1 ≤ Rows.uptoBulk d:=by
 cases d with
 | lit l=>cases l <;> simp [Rows.uptoBulk]
 | nil=>simp [Rows.uptoBulk]
 | ptr d=>simp [Rows.uptoBulk]
 | slice elems spare=>simp [Rows.uptoBulk]
 | agg parts=>simp [Rows.uptoBulk]
 | iface t d=>simp [Rows.uptoBulk]
 | map entries=>simp [Rows.uptoBulk]
 | held h=>simp [Rows.uptoBulk]
theorem bulk_part {H:Type} {d:DataW H} {l:List (DataW H)} (h:d ∈ l):Rows.uptoBulk d ≤ Rows.uptoBulkAll l:=by
 induction l with
 | nil=>cases h
 | cons x r ih =>
  simp only [Rows.uptoBulkAll]
  cases List.mem_cons.1 h with
  | inl e=>subst e; omega
  | inr e=>have:=ih e; omega
theorem bulk_len {H:Type} (l:List (DataW H)):l.length ≤ Rows.uptoBulkAll l:=by
 induction l with
 | nil=>simp [Rows.uptoBulkAll]
 | cons x r ih=>have:=bulk_one x; simp only [Rows.uptoBulkAll,List.length_cons]; omega
theorem small_len {H:Type} {α:Type} {l:List α} {d:DataW H} {ds:List (DataW H)} (hk:Rows.uptoSmall H ds=true) (hd:d ∈ ds) (h:l=[] ∨ ∃ elems spare,d = .slice elems spare∧elems.length=l.length):l.length ≤ 1048576:=by
 rcases h with rfl | ⟨elems,spare,rfl,he⟩
 ·simp
 ·have h1:=bulk_part hd
  have h2:=bulk_len elems
  have h3:Rows.uptoBulkAll ds ≤ 1048576:=by simpa [Rows.uptoSmall] using hk
  simp only [Rows.uptoBulk] at h1
  omega
def Held (W:World) (Z:List OA):Prop := ∀ z ∈ Z,∃ F,z.holds W F
theorem Held.nil {W:World}:Held W []:=fun _ h=>by cases h
theorem Held.cons {W:World} {z:OA} {Z:List OA} (h : ∃ F,z.holds W F) (hz:Held W Z):Held W (z :: Z):=fun x hx=>by
 rcases List.mem_cons.1 hx with rfl | hx
 ·exact h
 ·exact hz x hx
theorem Held.s {W:World} {Z:List OA} {k:Nat} {α:Type} {C:α→List Value} {s:SlV} {l:List α} (hr:Rd W k s (l.map C)) (hl:l.length ≤ 140737488355328) (hz:Held W Z):Held W (fS k C s l :: Z) :=
 .cons ⟨s.fp,⟨hr,hl⟩,fun _=>Iff.rfl⟩ hz
theorem stheld {W:World} {Z:List OA} (h:Held W Z):St (fun _=>False) oth0 W W [] Z :=
 ⟨fun _=>False,fun _ h=>h.elim,fun _ h=>h.elim,Chg.refl _ _,trivial,fun z hz=>by
  obtain ⟨F,hF⟩ := h z hz
  exact ⟨F,hF,fun i _ q=>q.elim (fun x=>x) (fun x=>x)⟩,fun d hd=>absurd hd (by simp [oth0])⟩
instance:Inhabited Term:=⟨Term.z⟩
instance:Inhabited PTerm:=⟨PTerm.z⟩
theorem bulk_get {H:Type} {xs:List (DataW H × List MemPlace)} {i:Nat} {z:DataW H × List MemPlace} (h:xs[i]? = some z):Rows.uptoBulk z.1 ≤ Rows.uptoBulkAll (xs.map (·.1)) :=
 bulk_part (List.mem_map.2 ⟨z,List.mem_of_getElem? h,rfl⟩)
theorem bigA_of {w:World} {μ α:Type} {R:μ→α→OA} : ∀ {ms:List μ} {l:List α},ms.length=l.length→(∀ (i:Nat) m x,ms[i]? = some m→l[i]? = some x → ∃ F,(R m x).holds w F) → ∃ F,(bigA R ms l).holds w F
 | [],[],_,_=>⟨fun _=>False,trivial,fun _ x=>x⟩
 | m :: ms,x :: xs,hl,h=>by
  obtain ⟨F,hF⟩ := h 0 m x rfl rfl
  obtain ⟨G,hG⟩ := bigA_of (ms:=ms) (l:=xs) (by simpa using hl) fun i m x h1 h2=>h (i + 1) m x (by simpa using h1) (by simpa using h2)
  exact ⟨fun i=>F i∨G i,F,G,hF,hG,fun _=>Iff.rfl⟩
 | [],_ :: _,hl,_=>by simp at hl
 | _ :: _,[],hl,_=>by simp at hl
theorem nmL_of : ∀ {l:List PTerm},(∀ x ∈ l,nmT x)→nmL l
 | [],_=>trivial
 | x :: l,h=>⟨h x zbr,nmL_of fun y hy=>h y (by simp [hy])⟩
theorem sizeL_bulk {H:Type} : ∀ {l:List PTerm} {ds:List (DataW H)},l.length=ds.length→(∀ (i:Nat) x d,l[i]? = some x→ds[i]? = some d→sizeT x ≤ Rows.uptoBulk d)→sizeL l ≤ Rows.uptoBulkAll ds
 | [],[],_,_=>by simp [sizeL]
 | x :: l,d :: ds,hl,h=>by
  have h1:=h 0 x d rfl rfl
  have h2:=sizeL_bulk (l:=l) (ds:=ds) (by simpa using hl) fun i x d h3 h4=>h (i + 1) x d (by simpa using h3) (by simpa using h4)
  simp only [sizeL,Rows.uptoBulkAll]; omega
 | [],_ :: _,hl,_=>by simp at hl
 | _ :: _,[],hl,_=>by simp at hl
theorem term_trod {H:Type} {enc:TypeId × Value→H} {W:World} (fuel:Nat) : ∀ {cs:List Value} {x:DataW H × List MemPlace},DataW.trod enc PP W 0 (fun _=>true) true fuel zj cs=some x→Rows.uptoBulk x.1 ≤ 1048576 →
  ∃ (m:Term) (y:PTerm),cs=Term.C m∧(m.kind=y.kind∧m.name=y.name∧m.other=y.other∧m.form=y.form)∧(nmT y∧sizeT y ≤ Rows.uptoBulk x.1) ∧ ∃ F,(yM m.sub y.sub).holds W F:=by
 induction fuel using Nat.strongRecOn with
 | _ fuel ih =>
 intro cs x hx hb
 obtain ⟨k,hk⟩ := fld_int fv_Term_kind un_api_TermKind zbs hx
 obtain ⟨n,hn,hns⟩ := fld_str fv_Term_name yI zbs hx
 obtain ⟨o,ho,hos⟩ := fld_str fv_Term_other yI zbs hx
 obtain ⟨f,hf⟩ := fld_int fv_Term_form un_int zbs hx
 obtain ⟨fs,fd,hu,hi,hoff,hty⟩ := fv_Term_sub
 obtain ⟨xs,n1,hfu,hxx,hl,hlen,hall⟩ := DataW.trod_struct hu hx
 have hl:cs.length=5:=hl.trans zbs
 have h1:=hall 4 fd hi
 have h2:4 < xs.length:=by rw [hlen]; exact (Array.getElem?_eq_some_iff.1 hi).1
 rw [hoff,hty,show PP.cellsOf T_L_api_Term=1 from by kernel_rfl,List.getElem?_eq_getElem h2] at h1
 have hbx:1 + Rows.uptoBulk (xs[4]).1 ≤ Rows.uptoBulk x.1:=by
  have:=bulk_get (List.getElem?_eq_getElem h2)
  rw [hxx]
  simp only [Rows.uptoBulk]
  omega
 have hbz:Rows.uptoBulk (xs[4]).1 ≤ 1048576:=by omega
 have hmax:maxLen=9223372036854775807:=rfl
 have hcs : ∀ v4,cs[4]? = some v4→cs=[.int .i64 k,.string n,.string o,.int .i64 f,v4]:=by
  intro v4 h4
  match cs,hl with
  | [c0,c1,c2,c3,c4],_ =>
   simp at hk hn ho hf h4
   subst hk hn ho hf h4
   rfl
 rcases DataW.trod_slice zp.1 h1 with ⟨e1,e2⟩ | ⟨a,len,cap,elems,rest,n2,hfu2,e1,e2,_,hlc,hcm,hel,hget,_⟩
 ·have h4:=hcs _ (take_one e1)
  refine ⟨⟨k,n,o,f,SlV.nil⟩,.mk k n o f [],?_,⟨rfl,rfl,rfl,rfl⟩,⟨⟨by show n.size < _; omega,by show o.size < _; omega,trivial⟩,by rw [xD]; simp only [PTerm.sub,sizeL]; omega⟩,fun _=>False,(0,[]),fun _=>False,fun _=>False,⟨⟨Sl.nil W 5,by simp⟩,fun i=>⟨fun x=>x.elim,fun x=>absurd rfl x.1⟩⟩,⟨trivial,fun _ x=>x⟩,fun _=>⟨fun x=>x.elim,fun x=>x.elim id id⟩⟩
  rw [h4,SlV.nil_eq]; rfl
 ·have h4:=hcs _ (take_one e1)
  have hbe:Rows.uptoBulkAll (elems.map (·.1)) ≤ 1048576:=by
   rw [e2] at hbz
   simp only [Rows.uptoBulk] at hbz
   omega
  have hlen2:len ≤ 1048576:=by
   have:=bulk_len (elems.map (·.1))
   rw [List.length_map,hel] at this
   omega
  have hone : ∀ i,i < len → ∃ q:Term × PTerm,(W.cells? 0 (a.add (i * PP.cellsOf zj)) (PP.cellsOf zj)=some (Term.C q.1))∧(q.1.kind=q.2.kind∧q.1.name=q.2.name∧q.1.other=q.2.other∧q.1.form=q.2.form)∧(nmT q.2 ∧ ∀ z,elems[i]? = some z→sizeT q.2 ≤ Rows.uptoBulk z.1) ∧ ∃ F,(yM q.1.sub q.2.sub).holds W F:=by
   intro i hi'
   have h5:=hget i hi'
   have h6:i < elems.length:=by omega
   rw [List.getElem?_eq_getElem h6] at h5
   cases hc:W.cells? 0 (a.add (i * PP.cellsOf zj)) (PP.cellsOf zj) with
   | none=>rw [hc] at h5; simp at h5
   | some cs' =>
    rw [hc] at h5
    simp only [zbu] at h5
    obtain ⟨m,y,rfl,hm,hy,hF⟩ := ih n2 zbq h5 (by have:=bulk_get (List.getElem?_eq_getElem h6); omega)
    exact ⟨(m,y),rfl,hm,⟨hy.1,fun z hz=>by cases (List.getElem?_eq_getElem h6).symm.trans hz; exact hy.2⟩,hF⟩
  obtain ⟨g,hg⟩ := Deep.choose_lt (α:=Term × PTerm) hone
  have hsz:PP.cellsOf zj=5:=by kernel_rfl
  refine ⟨⟨k,n,o,f,⟨some a,len,cap⟩⟩,.mk k n o f ((List.range len).map fun i=>(g i).2),?_,⟨rfl,rfl,rfl,rfl⟩,⟨⟨by show n.size < _; omega,by show o.size < _; omega,nmL_of fun y hy=>?_⟩,?_⟩,?_⟩
  ·rw [h4]; show _=[_,_,_,_,SlV.v _]; rw [SlV.eq]
  ·obtain ⟨i,hi',rfl⟩ := List.mem_map.1 hy
   exact (hg i (List.mem_range.1 hi')).2.2.1.1
  ·have hs:sizeL ((List.range len).map fun i=>(g i).2) ≤ Rows.uptoBulkAll (elems.map (·.1)):=by
    refine sizeL_bulk (by simp [hel]) fun i y d h1 h2=>?_
    have hi':i < len:=by
     refine Nat.lt_of_not_le fun q=>?_
     rw [List.getElem?_eq_none (by simpa using q)] at h1; cases h1
    rw [List.getElem?_map] at h1 h2
    rw [List.getElem?_range hi'] at h1
    simp only [Option.map_some,Option.some.injEq] at h1
    subst h1
    cases hz:elems[i]? with
    | none=>rw [hz] at h2; cases h2
    | some z=>rw [hz] at h2; cases h2; exact (hg i hi').2.2.1.2 z hz
   rw [xD]
   have:Rows.uptoBulkAll (elems.map (·.1)) ≤ Rows.uptoBulk (xs[4]).1:=by
    rw [e2]; simp only [Rows.uptoBulk]; omega
   simp only [PTerm.sub]; omega
  ·have hsl:Sl W 5 ⟨some a,len,cap⟩ (((List.range len).map fun i=>(g i).1).map Term.C):=by
    refine ⟨by simp,?_,?_⟩
    ·intro r hr
     obtain ⟨y,_,rfl⟩ := List.mem_map.1 hr
     exact Term.len y
    ·intro i r hr
     rw [List.getElem?_map,List.getElem?_map] at hr
     have hi':i < len:=by
      refine Nat.lt_of_not_le fun q=>?_
      rw [List.getElem?_eq_none (by simpa using q)] at hr; cases hr
     rw [List.getElem?_eq_getElem (by simpa using hi')] at hr
     simp only [List.getElem_range,Option.map_some,Option.some.injEq] at hr
     subst hr
     obtain ⟨_,_,hc0⟩ := World.cells?_some (hg 0 zbq).1
     obtain ⟨ab,ao,asp⟩ := a
     have hsp:asp=none:=by
      have h7:=hc0 0 (by rw [hsz]; decide)
      simp only [Nat.zero_mul,Addr.add,if_true] at h7
      cases asp with
      | none=>rfl
      | some q =>
       unfold World.cell? at h7
       simp only [Option.isSome_some,if_true] at h7
       split at h7
       ·exact absurd h7.symm (by simp [Term.C])
       ·exact absurd h7.symm (by simp [Term.C])
     subst hsp
     obtain ⟨_,_,hc⟩ := World.cells?_some (hg i hi').1
     refine ⟨rfl,fun j v hv=>?_⟩
     have hj:j < 5:=by have:=(List.getElem?_eq_some_iff.1 hv).1; rw [Term.len] at this; exact this
     have h8:=hc j (by rw [hsz]; exact hj)
     rw [hv] at h8
     have hadd:((⟨ab,ao,none⟩ : Addr).add (i * PP.cellsOf zj)).add j=⟨ab,ao + i * 5 + j,none⟩ := by
      rw [hsz]
      unfold Addr.add
      by_cases h5:i * 5=0
      ·by_cases h6:j=0
       ·simp [h5,h6]
       ·simp [h5,h6]
      ·by_cases h6:j=0
       ·simp [h5,h6]
       ·simp [h5,h6]
     rw [hadd] at h8
     exact h8
   have hbig : ∃ F,(bigA xj ((List.range len).map fun i=>(g i).1) ((List.range len).map fun i=>(g i).2)).holds W F:=by
    refine bigA_of zbr fun i m x h1 h2=>?_
    rw [List.getElem?_map] at h1 h2
    have hi':i < len:=by
     refine Nat.lt_of_not_le fun q=>?_
     rw [List.getElem?_eq_none (by simpa using q)] at h1; cases h1
    rw [List.getElem?_range hi'] at h1 h2
    simp only [Option.map_some,Option.some.injEq] at h1 h2
    subst h1 h2
    obtain ⟨_,he,_,F,hF⟩ := hg i hi'
    have:=zbc (s:=(g i).1.sub) hF
    rw [show mT (g i).2 (g i).1.sub=(g i).1 from by rw [mT,← he.1,← he.2.1,← he.2.2.1,← he.2.2.2]] at this
    exact ⟨F,this⟩
   obtain ⟨F,hF⟩ := hbig
   exact ⟨_,fTerms_mk (F:=fun i=>((List.range len).map fun i=>(g i).1) ≠ []∧i=_) ⟨⟨hsl,by simp; omega⟩,fun _=>Iff.rfl⟩ hF⟩
theorem term_of {H:Type} {enc:TypeId × Value→H} {W:World} {v:Value} {d:DataW H} {ds:List (DataW H)} {ps:List MemPlace} {base:Nat} (hval:Value.okWide PP W .any base zj v) (h:DataW.Trod enc PP W 0 (fun _=>true) true zj v d ps) (hk:Rows.uptoSmall H ds=true) (hd:d ∈ ds) :
  ∃ (y:PTerm) (s:SlV),v = .agg (Term.C (⟨y.kind,y.name,y.other,y.form,s⟩ : Term)).toArray∧(nmT y∧sizeT y ≤ 1048576) ∧ ∃ F,(zf s y.sub).holds W F:=by
 obtain ⟨fuel,hf⟩ := h
 have hb:Rows.uptoBulk d ≤ 1048576:=by
  have h1:=bulk_part hd
  have h3:Rows.uptoBulkAll ds ≤ 1048576:=by simpa [Rows.uptoSmall] using hk
  omega
 obtain ⟨m,y,hc,he,hn,hF⟩ := term_trod fuel hf hb
 have hu : ∃ fs,PP.underlying zj=some (.struct fs):=by
  obtain ⟨fs,fd,hu,_⟩ := fv_Term_sub; exact ⟨fs,hu⟩
 obtain ⟨fs,hu⟩ := hu
 unfold Value.okWide at hval
 rw [hu] at hval
 obtain ⟨cs,rfl,_⟩ := hval
 refine ⟨y,m.sub,?_,⟨hn.1,Nat.le_trans hn.2 hb⟩,hF⟩
 have hm:m=(⟨y.kind,y.name,y.other,y.form,m.sub⟩ : Term):=by rw [← he.1,← he.2.1,← he.2.2.1,← he.2.2.2]
 rw [← hm]
 have hc':cs.toList=Term.C m:=hc
 rw [← hc']
theorem Held.f {W:World} {Z:List OA} {s:SlV} {l:List PTerm} (h : ∃ F,(zf s l).holds W F) (hz:Held W Z):Held W (zf s l :: Z) := .cons h hz
end
section
open Gw Go.ChangeShapes Go.WideShapes Go.ChangeAt Go.RowKit
set_option maxRecDepth 100000
def tz64:List Int:=Lib.deBruijn64tab.map fun (z:Nat)=>(z:Int)
def tz32:List Int:=Lib.deBruijn32tab.map fun (z:Nat)=>(z:Int)
theorem laidMet_tail {P:Program} {w:World} {x:String × DataW Unit} {l:List (String × DataW Unit)} (h:laidMet P (x :: l) w):laidMet P l w:=by
 obtain ⟨ps,⟨g,t,cs,fuel,p,q,_,_,_,_,hv,rfl⟩,hn,hr⟩ := h
 exact ⟨q,hv,(List.nodup_append.1 hn).2.1,fun b off hp=>hr b off (List.mem_append_right _ hp)⟩
theorem post_old {H:Type} {enc:TypeId × Value→H} {P:Program} {f:Func} {s:ChangeSpec} {apart fresh handsOn again:Bool} {W W':World} {args:Array Value} {v:Value} {ds gs:List (DataW H)} {before pa pv:List MemPlace}
  (hW:DataW.Whole enc P f.params.toList s.vars apart W args.toList ds gs before)
  (hres : ∀ (b:Nat) (sp:Nat→Bool) (hd:Bool),DataW.TrodAll enc P W' b sp hd f.resultTypes.toList (v.resultList f.resultTypes.size) (s.fn H (ds ++ gs)).results [])
  (hargs : ∀ sp:Nat→Bool,(∀ p ∈ before,sp p.block=true)→DataW.TrodAll enc P W' 0 sp true f.params.toList args.toList (s.fn H (ds ++ gs)).args pa)
  (hvars : ∀ sp:Nat→Bool,(∀ p ∈ before,sp p.block=true)→DataW.TrodVars enc P W' sp s.vars (s.fn H (ds ++ gs)).vars pv)
  (hps:before=pa ++ pv) (hk:W.keptBut W' (· ∈ before)) (hfz : ∀ a,a.block < W.heap.size→W'.frozen? a=W.frozen? a)
  (hok : ∀ (j:Nat) (t:TypeId) (r:Value),f.resultTypes[j]? = some t→(v.resultList f.resultTypes.size)[j]? = some r→Value.okWide P W' .any 0 t r) :
  s.post enc P f apart fresh handsOn again W args v W':=by
 have hlt : ∀ p ∈ before,p.block < W.heap.size:=fun p hp=>hW.lt p hp
 have h0 : ∀ p ∈ before,(fun b=>decide (b < W.heap.size)) p.block=true:=fun p hp=>decide_eq_true (hlt p hp)
 have hin : ∀ p ∈ before,p ∈ pa∨p ∈ pv:=fun p hp=>List.mem_append.1 (hps ▸ hp)
 have hin' : ∀ p,p ∈ ([] ++ pa) ++ pv→p ∈ before:=fun p hp=>by rw [hps]; simpa using hp
 refine ⟨ds,gs,before,[],pa,pv,hW,hres _ _ _,hargs _ h0,hvars _ h0,World.keptBut_mono (fun p hp=>⟨hp,.inr (hin p hp)⟩) hk,fun _=>?_⟩
 obtain ⟨_,_,_,_,_,hz,hn⟩ := hW
 refine ⟨hok,_,_,([] ++ pa) ++ pv,⟨[] ++ pa,pv,trodAll_append (hargs _ fun _ _=>rfl) (hres _ _ _),hvars _ (fun _ _=>rfl),rfl,fun b off hp=>?_,fun ha=>?_⟩,fun p hp _=>hin' p hp⟩
 ·have hb:=hin' _ hp
  rw [hfz _ (hlt _ hb)]; exact hz b off hb
 ·have:=hn ha
  rw [hps] at this
  simpa using this
theorem pw_core {W:World} {rest:List (String × DataW Unit)} (h:laidMet PP (("internal/strconv.uint64pow10",Rows.laid_internal_strconv_uint64pow10) :: rest) W):Pw W :=
 Lib.tabIs_of_head (rest:=rest) gPw (t:=T_20_uint64) (e:=T_uint64) (n:=20) zbs ar_20_uint64.1 zbs zbs zbs h
theorem laid_three {W:World} (h:laidMetH PP [("math/bits.deBruijn32tab",Rows.laid_math_bits_deBruijn32tab),("math/bits.deBruijn64tab",Rows.laid_math_bits_deBruijn64tab),("internal/strconv.uint64pow10",Rows.laid_internal_strconv_uint64pow10)] W):Pw W:=by
 have h':laidMet PP [("math/bits.deBruijn32tab",Rows.laid_math_bits_deBruijn32tab),("math/bits.deBruijn64tab",Rows.laid_math_bits_deBruijn64tab),("internal/strconv.uint64pow10",Rows.laid_internal_strconv_uint64pow10)] W:=h
 exact pw_core (laidMet_tail (laidMet_tail h'))
theorem Held.pw {W:World} {Z:List OA} (h:Pw W) (hz:Held W Z):Held W (oPw :: Z) := .cons ⟨fun i=>i=1,⟨h,fun _=>Iff.rfl⟩⟩ hz
theorem ints_of {H:Type} {enc:TypeId × Value→H} {W:World} {base:Nat} {v:Value} {d:DataW H} {ps:List MemPlace} (hval:Value.okWide PP W .any base xm v) (h:DataW.Trod enc PP W 0 (fun _=>true) true xm v d ps) :
  ∃ (l:List Int) (s:SlV),v=s.v∧Rd W 1 s (l.map IC)∧(∀ a ∈ l,True)∧(l=[] ∨ ∃ elems spare,d = .slice elems spare∧elems.length=l.length):=by
 refine slice_of xF.1 zbs (fun _=>rfl) zbp (fun n cs x hx=>?_) hval h
 obtain ⟨n,rfl,_⟩ := DataW.trod_int un_int hx
 exact ⟨n,rfl,trivial⟩
instance:Inhabited ByteArray:=⟨ByteArray.empty⟩
end
section
open Gw Go.ChangeShapes Go.WideShapes Go.ChangeAt Go.RowKit
set_option maxRecDepth 100000
namespace LawReduceDoes
theorem contract (H:Type) (enc:TypeId × Value→H) (W:World) (base:Nat) (args:Array Value) (ds gs:List (DataW H)) (before:List MemPlace)
  (hval : ∀ (j:Nat) t v,xJ.params[j]? = some t→args[j]? = some v→Value.okWide PP W .any base t v)
  (hW:DataW.Whole enc PP xJ.params.toList Rows.reduceDoesSpec.vars false W args.toList ds gs before) (hL:laidMetH PP Rows.reduceDoesUptoRow.laid W) (hsm:Rows.uptoSmall H (ds ++ gs)=true) :
  Calls PP yu args W fun e W' => ∃ v,e = .returned v∧Rows.reduceDoesSpec.post enc PP xJ false true false false W args v W':=by
 have hW':=hW
 have hlt:=hW.lt
 obtain ⟨p,q,hA0,hV,rfl,hfz,hnd⟩ := hW
 have hA:DataW.TrodAll enc PP W 0 (fun _=>true) true xJ.params.toList args.toList ds p:=hA0
 have hpar:xJ.params = #[ug,zj,xm]:=by kernel_rfl
 rw [hpar] at hA hval
 obtain ⟨v0,v1,v2,d0,d1,d2,p0,p1,p2,rfl,rfl,rfl,h0,h1,h2⟩ := trodAll_three hA
 obtain ⟨rfl,rfl⟩ := trodVars_none hV
 obtain ⟨a0,s0,rfl,hrd0,hnm0,hsl0⟩ := nds_of (hval 0 _ _ rfl rfl) h0
 have hln0:=small_len hsm zbr hsl0
 obtain ⟨a1,s1,rfl,⟨hnm1,hbg1⟩,hf1⟩ := term_of (hval 1 _ _ rfl rfl) h1 hsm zbr
 obtain ⟨a2,s2,rfl,hrd2,hnm2,hsl2⟩ := ints_of (hval 2 _ _ rfl rfl) h2
 have hln2:=small_len hsm zbr hsl2
 have S:=stheld (W:=W) (.s hrd0 zbq (.f hf1 (.s hrd2 zbq (.pw (laid_three hL) .nil))))
 refine (law14_ReduceDoes_st S (ReduceDoes_true (K:=1100000) zbq heads14b hnm0 zbq hnm1 hbg1 zbq)).mono fun e W' ⟨v,he,hv,hS⟩ => ?_
 subst hv
 have hx:=hS.frame
 refine ⟨_,he,post_old (pa:=p0 ++ p1 ++ p2) (pv:=[]) hW' (fun _ _ _=>trodAll_cons_mk (shut_bool un_bool _) trodAll_mk0) (fun sp hsp=>?_) (fun _ _=>rfl) zbr ((Ext.below hx).frame _) hx.froz (ok_one zbs rfl (okWide_bool_mk un_bool _))⟩
 rw [hpar]
 refine trodAll_stays (ts:=[ug,zj,xm]) (fun t ht=>?_) hA (fun p hp=>(Ext.below hx).same (hlt p (by simpa using hp))) (fun p hp=>hsp p (by simpa using hp))
 simp only [List.mem_cons,List.not_mem_nil,or_false] at ht
 rcases ht with rfl | rfl | rfl <;> exact ⟨by kernel_rfl,of_decide_eq_true zbs⟩
noncomputable def laidWorld1 (os:Os):World :=
 { World.holding PP os ⟨#[],#[],[]⟩ with heap:=(World.holding PP os ⟨#[],#[],[]⟩).heap.modify 3 fun
   | .cells _ t frozen => .cells (tz64.map (Value.int .u8)).toArray t frozen
   | o=>o }
noncomputable def laidWorld2 (os:Os):World :=
 { laidWorld1 os with heap:=(laidWorld1 os).heap.modify 2 fun
   | .cells _ t frozen => .cells (tz32.map (Value.int .u8)).toArray t frozen
   | o=>o }
noncomputable def laidWorld (os:Os):World :=
 { laidWorld2 os with heap:=(laidWorld2 os).heap.modify 1 fun
   | .cells _ t frozen => .cells (Lib.pow10Tab.map (Value.int .u64)).toArray t frozen
   | o=>o }
def argsN:Array Value := #[.slice none 0 0,.agg #[.int .i64 0,.string ByteArray.empty,.string ByteArray.empty,.int .i64 0,.slice none 0 0],.slice none 0 0]
theorem laid_met (os:Os):laidMet PP Rows.reduceDoesUptoRow.laid ((laidWorld os).forCall (fun _ _=>0) ⟨#[],argsN,[]⟩).memory :=
 laidMet_of_run' 8 zbs zbs
def ddN (H:Type):List (DataW H):=[.nil,.agg [.lit (.int .i64 0),.lit (.string []),.lit (.string []),.lit (.int .i64 0),.nil],.nil]
theorem reads (os:Os) {H:Type} (enc:TypeId × Value→H) : ∃ places,DataW.whole enc PP ((laidWorld os).forCall (fun _ _=>0) ⟨#[],argsN,[]⟩).memory xJ.params.toList Rows.reduceDoesSpec.vars false argsN.toList 8=some (ddN H,[],places) :=
 ⟨[],by kernel_rfl⟩
theorem lifted (os:Os) (started:os.Started) (H:Type) (enc:TypeId × Value→H) (F:Stop.Interp) :
  ReturnsInHanded {} Tryz.checked os yu .any ((Rows.OpenSpec.upto Rows.reduceDoesSpec).preRow enc PP xJ Rows.reduceDoesUptoRow.domain false Rows.reduceDoesUptoRow.laid) (((Rows.OpenSpec.upto Rows.reduceDoesSpec).at F).post enc PP xJ false true false false):=by
 obtain ⟨places,hx⟩ := reads os enc
 refine returnsInHanded_of_row (C:=Tryz.checked) (s:=Rows.OpenSpec.upto Rows.reduceDoesSpec) ownKnob_none started zbs vY
  (witness_row_at (enc:=enc) (C:=Tryz.checked) false (laidWorld os) argsN rfl zbs zbs zbs
   (OpenSpec.preRow_of_cond 8 hx zbs (fun k hk=>by cases hk; kernel_rfl) zbs (laid_met os))) ?_
 intro W base args ds gs before hval hW _ hcond _ hL _ _
 exact contract H enc W base args ds gs before hval hW hL (hcond _ rfl)
theorem said:Rows.ReduceDoesUptoSaid :=
 OpenClaim.holds_of_cond yu xJ rfl rfl rfl rfl rfl rfl rfl ⟨rfl,rfl,rfl,rfl,rfl⟩ rfl rfl rfl rfl rfl zbs vY zbs
  (of_decide_eq_true zbs) (by unfold Func.isWrapper; first | (rw [if_pos (by decide +kernel)]; kernel_rfl) | (rw [if_neg (by decide +kernel)]; exact ⟨rfl,rfl⟩))
  (fun os started H enc _ F=>by rw [OpenClaim.pre_eq_preRow]; exact lifted os started H enc F)
theorem plain (f:FuncId) (fn:Func) (hf:Tryz.pinned.checked.prog.funcNamed "dictum/dictumlaw14.ReduceDoes" = some f) (hfn:Tryz.pinned.checked.prog.funcs[f]? = some fn) :
  true=Tryz.pinned.checked.prog.looks [] ∧ ∀ (j:Nat) t,fn.params[j]? = some t→Tryz.pinned.checked.prog.wantsStandIn t=false:=by
 obtain rfl:f=yu:=zbt ((show PP.funcNamed "dictum/dictumlaw14.ReduceDoes" = some yu by kernel_rfl).symm.trans hf) |>.symm
 obtain rfl:fn=xJ:=(zbt (vY.symm.trans hfn)).symm
 refine ⟨by kernel_rfl,fun j t ht=>?_⟩
 rw [show xJ.params = #[ug,zj,xm] by kernel_rfl] at ht
 have hm:t ∈ [ug,zj,xm]:=by simpa using Array.mem_of_getElem? ht
 simp only [List.mem_cons,List.not_mem_nil,or_false] at hm
 rcases hm with rfl | rfl | rfl
 ·exact (show PP.wantsStandIn ug=false by kernel_rfl)
 ·exact (show PP.wantsStandIn zj=false by kernel_rfl)
 ·exact (show PP.wantsStandIn xm=false by kernel_rfl)
theorem card:Rows.ReduceDoesUptoCardSaid :=
 Claim7.holds_tied_plain_at .later [] _ _ _ _ said (fun _ h=>by cases h) zbs (fun _ h=>by cases h) reduceDoesUpto_row_tie rfl ⟨rfl,rfl⟩ zbs rfl plain zbs
end LawReduceDoes
end
end Go.Proofs.YtmggdbbmmkkplaaGreatDoor
