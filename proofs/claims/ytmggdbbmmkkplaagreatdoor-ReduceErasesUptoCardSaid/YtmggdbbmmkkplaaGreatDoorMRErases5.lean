/- ReduceErases, where what it reads is of the bulk that the row names: the row's statement and its card. The package variables that the row lists read as the program lays them. Printed by card14.py, a program of mine. -/
import Derived.Test.YtmggdbbmmkkplaaGreatDoorMRErases4
import Derived.Test.YtmggdbbmmkkplaaGreatDoorCards
import Derived.Test.YtmggdbbmmkkplaaGreatDoorTie
import Derived.WalkKit
import Derived.ProofKit
import Derived.OpenShut
import Derived.Deep.DeepHandedRow
import Derived.Deep.Slices
import Derived.Lib.LaidTab
import Derived.Lib.TrailingZeros
import Derived.ChangeSame
set_option linter.unusedVariables false
set_option linter.unusedSimpArgs false
namespace Go.Proofs.YtmggdbbmmkkplaaGreatDoor
section
open Gw
def yn (k:Int) (nm ot:ByteArray) (i:Nat):ByteArray:=if k=2∨i=1∧(k=12∨k=9) then nm else if k=9∧i=2 then ot else ⟨#[]⟩
abbrev zY (x:PTerm) (i:Nat):ByteArray:=yn x.kind x.name x.other i
mutual
def cntT (n:ByteArray):PTerm→Nat
 | .mk k nm ot _ s=>if k=1 then (if nm=n then 1 else 0) else cntL n k nm ot 0 s
def cntL (n:ByteArray) (k:Int) (nm ot:ByteArray):Nat→List PTerm→Nat
 | _,[]=>0
 | i,y :: l=>(if yn k nm ot i=n then 0 else cntT n y) + cntL n k nm ot (i + 1) l
end
theorem yQ (n:ByteArray) (x:PTerm):cntT n x=if x.kind=1 then (if x.name=n then 1 else 0) else cntL n x.kind x.name x.other 0 x.sub:=by cases x; simp only [cntT]; rfl
theorem cntL_take (n:ByteArray) (k:Int) (nm ot:ByteArray) : ∀ {l:List PTerm} {i j:Nat} {x:PTerm},l[j]? = some x→cntL n k nm ot i (l.take (j + 1))=cntL n k nm ot i (l.take j) + (if yn k nm ot (i + j)=n then 0 else cntT n x)
 | [],_,_,_,h=>by simp at h
 | y :: l,i,0,x,h=>by simp at h; subst h; simp [cntL]
 | y :: l,i,j + 1,x,h=>by
  have:=cntL_take n k nm ot (l:=l) (i:=i + 1) (j:=j) (by simpa using h)
  simp only [List.take_succ_cons,cntL]
  rw [this,show i + 1 + j=i + (j + 1) by omega]; omega
def xG (n:ByteArray) (x:PTerm):Prop:=cntT n x ≠ 0
instance (n:ByteArray) (x:PTerm):Decidable (xG n x):=inferInstanceAs (Decidable (cntT n x ≠ 0))
theorem cntL_free (n:ByteArray) (k:Int) (nm ot:ByteArray) : ∀ {l:List PTerm} {i:Nat},cntL n k nm ot i l ≠ 0 ↔ ∃ j,∃ h:j < l.length,yn k nm ot (i + j) ≠ n∧xG n l[j]
 | [],i=>by simp [cntL]
 | y :: l,i=>by
  have ih:=cntL_free n k nm ot (l:=l) (i:=i + 1)
  simp only [cntL]
  constructor
  ·intro h
   by_cases h1:(if yn k nm ot i=n then 0 else cntT n y)=0
   ·obtain ⟨j,hj,h2,h3⟩ := ih.1 zaJ
    exact ⟨j + 1,by simpa using hj,by rw [show i + (j + 1)=i + 1 + j by omega]; exact h2,by simpa using h3⟩
   ·refine ⟨0,by simp,?_⟩
    by_cases hb:yn k nm ot i=n
    ·rw [if_pos hb] at h1; exact absurd rfl h1
    ·rw [if_neg hb] at h1; exact ⟨by simpa using hb,by simpa [xG] using h1⟩
  ·rintro ⟨j,hj,h2,h3⟩
   cases j with
   | zero =>
    have h2':yn k nm ot i ≠ n:=by simpa using h2
    rw [if_neg h2']
    have:cntT n y ≠ 0:=by simpa [xG] using h3
    omega
   | succ j =>
    have:=ih.2 ⟨j,by simpa using hj,by rw [show i + 1 + j=i + (j + 1) by omega]; exact h2,by simpa using h3⟩
    omega
theorem free_iff (n:ByteArray) (x:PTerm):xG n x↔(x.kind=1∧x.name=n)∨(x.kind ≠ 1 ∧ ∃ j,∃ h:j < x.sub.length,zY x j ≠ n∧xG n x.sub[j]):=by
 unfold xG
 rw [yQ]
 by_cases h:x.kind=1
 ·by_cases h2:x.name=n <;> simp [h,h2]
 ·rw [if_neg h,cntL_free]
  simp [h,xG]
def k7 (p:Nat→Bool):Nat→Nat→Nat
 | 0,i=>i
 | m + 1,i=>if p i then i else k7 p m (i + 1)
theorem kh {p:Nat→Bool} : ∀ {m i j:Nat},i ≤ j→j < i + m→p j=true→p (k7 p m i)=true∧k7 p m i ≤ j ∧ ∀ q,i ≤ q→q < k7 p m i→p q=false
 | 0,i,j,h1,h2,_=>by omega
 | m + 1,i,j,h1,h2,h=>by
  unfold k7
  by_cases hp:p i=true
  ·rw [if_pos hp]; exact ⟨hp,h1,fun q _ _=>by omega⟩
  ·rw [if_neg hp]
   have hj:i ≠ j:=fun e=>hp (e ▸ h)
   obtain ⟨h3,h4,h5⟩ := kh (p:=p) (m:=m) (i:=i + 1) (j:=j) zaJ zaJ h
   refine ⟨h3,h4,fun q hq hq2=>?_⟩
   by_cases e:q=i
   ·subst e; simpa using hp
   ·exact h5 q zaJ hq2
def vNm (k:Nat):ByteArray:=(⟨#[118]⟩ : ByteArray) ++ decN (k:Int)
theorem vNm_eq (k:Nat):vNm k=⟨((118:UInt8) :: decK 20 k).toArray⟩ := by
 unfold vNm; rw [decN_nn zaJ]; exact ba_app [118] _
theorem vNm_inj {a b:Nat} (ha:a < 9223372036854775808) (hb:b < 9223372036854775808) (h:vNm a=vNm b):a=b:=by
 rw [vNm_eq,vNm_eq] at h
 have h1:=(List.cons.inj (ba_inj h)).2
 have h2:=congrArg valD h1
 rwa [decK_val 20 a zaJ,decK_val 20 b zaJ] at h2
theorem vNm_word (k:Nat):isWord (vNm k):=by
 rw [vNm_eq]; exact word_of zaI (decK_ne 19 _) (by have:=decK_len 20 k; omega) (decK_dig 20 _)
theorem word_ne {s:ByteArray} (h:isWord s):s ≠ ⟨#[]⟩ := fun e=>by subst e; exact absurd h.1 zaI
def blocked (p y:PTerm) (n z:ByteArray):Bool:=decide (xG z p) || decide (xG z y) || decide (z=n)
def xz (p y:PTerm) (n:ByteArray):ByteArray:=vNm (k7 (fun k => !blocked p y n (vNm k)) (sizeT p + sizeT y + 2) 0)
theorem sum_add {α:Type} (f g:α→Nat) : ∀ l:List α,(l.map fun z=>f z + g z).sum=(l.map f).sum + (l.map g).sum
 | []=>rfl
 | a :: l=>by simp only [List.map_cons,List.sum_cons,sum_add f g l]; omega
theorem sum_le {α:Type} (f g:α→Nat) : ∀ l:List α,(∀ z ∈ l,f z ≤ g z)→(l.map f).sum ≤ (l.map g).sum
 | [],_=>by simp
 | a :: l,h=>by
  have:=sum_le f g l (fun z hz=>h z (by simp [hz]))
  have:=h a zaK
  simp only [List.map_cons,List.sum_cons]; omega
theorem sum_zero : ∀ l:List ByteArray,(l.map fun _:ByteArray=>0).sum=0
 | []=>rfl
 | b :: l=>by have:=sum_zero l; simp only [List.map_cons,List.sum_cons]; omega
theorem sum_one {n:ByteArray} : ∀ {l:List ByteArray},l.Nodup→(l.map fun z=>if n=z then 1 else 0).sum ≤ 1
 | [],_=>by simp
 | a :: l,h=>by
  rw [List.nodup_cons] at h
  simp only [List.map_cons,List.sum_cons]
  by_cases e:n=a
  ·subst e
   have:(l.map fun z=>if n=z then 1 else 0).sum ≤ (l.map fun _=>0).sum:=sum_le _ _ l (fun z hz=>by
    rw [if_neg]; · omega
    ·rintro rfl; exact h.1 hz)
   have h0:(l.map fun _:ByteArray=>0).sum=0:=sum_zero l
   rw [if_pos rfl]; omega
  ·rw [if_neg e]; have:=sum_one h.2 (n:=n); omega
mutual
theorem cnt_sum : ∀ (x:PTerm) (l:List ByteArray),l.Nodup→(l.map fun z=>cntT z x).sum ≤ sizeT x
 | .mk k nm ot f s,l,hl=>by
  simp only [cntT,sizeT]
  by_cases h:k=1
  ·simp only [if_pos h]
   have:=sum_one (n:=nm) hl
   omega
  ·simp only [if_neg h]
   have:=cnt_sumL k nm ot 0 s l hl
   omega
theorem cnt_sumL : ∀ (k:Int) (nm ot:ByteArray) (i:Nat) (s:List PTerm) (l:List ByteArray),l.Nodup→(l.map fun z=>cntL z k nm ot i s).sum ≤ sizeL s
 | k,nm,ot,i,[],l,_=>by
  simp only [cntL,sizeL]
  exact Nat.le_of_eq (sum_zero l)
 | k,nm,ot,i,y :: s,l,hl=>by
  simp only [cntL,sizeL]
  rw [sum_add]
  have h1:=cnt_sum y l hl
  have h2:=cnt_sumL k nm ot (i + 1) s l hl
  have h3:(l.map fun z=>if yn k nm ot i=z then 0 else cntT z y).sum ≤ (l.map fun z=>cntT z y).sum:=sum_le _ _ l (fun z _=>by split <;> omega)
  omega
end
theorem sum_len {α:Type} (f:α→Nat) : ∀ l:List α,(∀ z ∈ l,1 ≤ f z)→l.length ≤ (l.map f).sum
 | [],_=>by simp
 | a :: l,h=>by
  have:=sum_len f l (fun z hz=>h z (by simp [hz]))
  have:=h a zaK
  simp only [List.map_cons,List.sum_cons,List.length_cons]; omega
theorem vNms_nodup (m:Nat) (hm:m < 9223372036854775808):((List.range m).map vNm).Nodup:=by
 rw [List.nodup_iff_pairwise_ne,List.pairwise_map]
 refine (List.nodup_range (n:=m)).imp_of_mem ?_
 intro a b ha hb hab e
 exact hab (vNm_inj (by have:=List.mem_range.1 ha; omega) (by have:=List.mem_range.1 hb; omega) e)
theorem not_blocked {p y:PTerm} {n:ByteArray} (h:sizeT p + sizeT y + 2 < 9223372036854775808) : ∃ j,j < sizeT p + sizeT y + 2∧blocked p y n (vNm j)=false:=by
 apply Classical.byContradiction
 intro hc
 have hall : ∀ z ∈ (List.range (sizeT p + sizeT y + 2)).map vNm,1 ≤ (cntT z p + cntT z y) + (if n=z then 1 else 0):=by
  intro z hz
  obtain ⟨j,hj,rfl⟩ := List.mem_map.1 hz
  have hb:blocked p y n (vNm j)=true:=by
   cases hq:blocked p y n (vNm j) with
   | true=>rfl
   | false=>exact absurd ⟨j,List.mem_range.1 hj,hq⟩ hc
  have hb:(cntT (vNm j) p ≠ 0∨cntT (vNm j) y ≠ 0)∨vNm j=n:=by
   unfold blocked at hb
   rcases Bool.or_eq_true_iff.1 hb with q | q
   ·rcases Bool.or_eq_true_iff.1 q with q | q
    ·exact .inl (.inl (of_decide_eq_true q))
    ·exact .inl (.inr (of_decide_eq_true q))
   ·exact .inr (of_decide_eq_true q)
  by_cases e:n=vNm j
  ·rw [if_pos e]; omega
  ·rw [if_neg e]
   have e':vNm j ≠ n:=fun q=>e q.symm
   rcases hb with (hb | hb) | hb
   ·omega
   ·omega
   ·exact absurd hb e'
 have hn:=vNms_nodup (sizeT p + sizeT y + 2) h
 have h1:=sum_len _ _ hall
 rw [sum_add,sum_add] at h1
 have h2:=cnt_sum p _ hn
 have h3:=cnt_sum y _ hn
 have h4:=sum_one (n:=n) hn
 rw [List.length_map,List.length_range] at h1
 omega
theorem fresh_ok {p y:PTerm} {n:ByteArray} (h:sizeT p + sizeT y + 2 < 9223372036854775808):¬ xG (xz p y n) p∧¬ xG (xz p y n) y∧xz p y n ≠ n:=by
 obtain ⟨j,hj,hb⟩ := not_blocked (p:=p) (y:=y) (n:=n) h
 have:=(kh (p:=fun k => !blocked p y n (vNm k)) (m:=sizeT p + sizeT y + 2) (i:=0) (j:=j) zaJ zaJ (by simpa using hb)).1
 have h2:blocked p y n (xz p y n)=false:=by simpa [xz] using this
 have h3:(¬ xG (xz p y n) p∧¬ xG (xz p y n) y)∧xz p y n ≠ n:=by simpa [blocked] using h2
 exact ⟨h3.1.1,h3.1.2,h3.2⟩
theorem uA (p y:PTerm) (n:ByteArray):isWord (xz p y n):=vNm_word _
def varT (s:ByteArray):PTerm:=⟨1,s,⟨#[]⟩,0,[]⟩
def renC (x:PTerm) (n:ByteArray) (y:PTerm) (i:Nat) (p:PTerm):Prop:=(zY x i ≠ n∧xG n p)∧(zY x i ≠ ⟨#[]⟩ ∧ xG (zY x i) y)
instance (x:PTerm) (n:ByteArray) (y:PTerm) (i:Nat) (p:PTerm):Decidable (renC x n y i p):=inferInstanceAs (Decidable ((zY x i ≠ n∧xG n p)∧(zY x i ≠ ⟨#[]⟩ ∧ xG (zY x i) y)))
def putC (P:PTerm→ByteArray→PTerm→PTerm) (x:PTerm) (n:ByteArray) (y:PTerm) (i:Nat) (p:PTerm):PTerm :=
 if zY x i=n∨¬ xG n p then p
 else if zY x i ≠ ⟨#[]⟩ ∧ xG (zY x i) y then P (P p (zY x i) (varT (xz p y n))) n y
 else P p n y
def nmC (x:PTerm) (n:ByteArray) (y:PTerm):ByteArray :=
 let i:=if x.kind=2 then 0 else 1
 if (x.kind=2∨x.kind=12∨x.kind=9)∧renC x n y i (x.sub.getD i PTerm.z) then xz (x.sub.getD i PTerm.z) y n else x.name
def otC (x:PTerm) (n:ByteArray) (y:PTerm):ByteArray :=
 if x.kind=9∧renC x n y 2 (x.sub.getD 2 PTerm.z) then xz (x.sub.getD 2 PTerm.z) y n else x.other
def zad:Nat→PTerm→ByteArray→PTerm→PTerm
 | 0,x,_,_=>x
 | d + 1,x,n,y=>if x.kind=1 then (if x.name=n then y else x) else ⟨x.kind,nmC x n y,otC x n y,x.form,x.sub.mapIdx fun i p=>putC (zad d) x n y i p⟩
theorem depL_map {f:Nat→PTerm→PTerm} : ∀ {l:List PTerm},(∀ i (h:i < l.length),depT (f i l[i]) ≤ depT l[i])→depL (l.mapIdx f) ≤ depL l
 | [],_=>Nat.le_refl _
 | y :: l,h=>by
  rw [List.mapIdx_cons]
  simp only [depL]
  have h1:=depL_map (f:=fun i=>f (i + 1)) (l:=l) (fun i hi=>by have:=h (i + 1) (by simpa using hi); simpa using this)
  have h2:=h 0 zaK
  simp at h2
  omega
theorem sizeL_map {f:Nat→PTerm→PTerm} : ∀ {l:List PTerm},(∀ i (h:i < l.length),sizeT (f i l[i]) ≤ sizeT l[i])→sizeL (l.mapIdx f) ≤ sizeL l
 | [],_=>Nat.le_refl _
 | y :: l,h=>by
  rw [List.mapIdx_cons]
  simp only [sizeL]
  have h1:=sizeL_map (f:=fun i=>f (i + 1)) (l:=l) (fun i hi=>by have:=h (i + 1) (by simpa using hi); simpa using this)
  have h2:=h 0 zaK
  simp at h2
  omega
theorem mapIdx_same {f g:Nat→PTerm→PTerm} {l:List PTerm} (h : ∀ i (h:i < l.length),f i l[i]=g i l[i]):l.mapIdx f=l.mapIdx g:=by
 refine List.ext_getElem zaK fun i h1 h2=>?_
 rw [List.getElem_mapIdx,List.getElem_mapIdx]
 exact h i (by simpa using h1)
theorem jV : ∀ (d:Nat) (x:PTerm),depT x ≤ d→(∀ n z,depT (zad d x n (varT z)) ≤ depT x∧sizeT (zad d x n (varT z)) ≤ sizeT x) ∧ ∀ n y,zad (d + 1) x n y=zad d x n y
 | 0,x,h=>by have:=yj x; omega
 | d + 1,x,h=>by
  have hd:=ya x
  have hp : ∀ i (hi:i < x.sub.length),depT x.sub[i] ≤ d:=fun i hi=>by have:=xR _ (List.getElem_mem hi); omega
  have ihp:=fun i hi=>jV d x.sub[i] (hp i hi)
  have hc : ∀ n z i (hi:i < x.sub.length),depT (putC (zad d) x n (varT z) i x.sub[i]) ≤ depT x.sub[i]∧sizeT (putC (zad d) x n (varT z) i x.sub[i]) ≤ sizeT x.sub[i]:=by
   intro n z i hi
   unfold putC
   split
   ·exact ⟨Nat.le_refl _,Nat.le_refl _⟩
   ·split
    ·obtain ⟨a1,a2⟩ := (ihp i hi).1 (zY x i) (xz x.sub[i] (varT z) n)
     obtain ⟨b1,b2⟩ := (jV d (zad d x.sub[i] (zY x i) (varT (xz x.sub[i] (varT z) n))) (Nat.le_trans a1 (hp i hi))).1 n z
     exact ⟨Nat.le_trans b1 a1,Nat.le_trans b2 a2⟩
    ·exact (ihp i hi).1 n z
  refine ⟨fun n z=>?_,fun n y=>?_⟩
  ·have e1:depT (varT z)=1:=rfl
   have e2:sizeT (varT z)=1:=rfl
   have h1:=yj x
   have h2:=jY x
   unfold zad
   split
   ·split
    ·rw [e1,e2]; exact ⟨h1,h2⟩
    ·exact ⟨Nat.le_refl _,Nat.le_refl _⟩
   ·have h3:=depL_map fun i hi=>(hc n z i hi).1
    have h4:=sizeL_map fun i hi=>(hc n z i hi).2
    rw [ya,yk,ya x,yk x]
    exact ⟨Nat.add_le_add_left h3 1,Nat.add_le_add_left h4 1⟩
  ·show zad (d + 1 + 1) x n y=_
   rw [zad,zad]
   split
   ·rfl
   ·congr 1
    refine mapIdx_same fun i hi=>?_
    unfold putC
    split
    ·rfl
    ·split
     ·rw [(ihp i hi).2]
      exact (jV d _ (Nat.le_trans ((ihp i hi).1 _ _).1 (hp i hi))).2 n y
     ·exact (ihp i hi).2 n y
def putT (x:PTerm) (n:ByteArray) (y:PTerm):PTerm:=zad (depT x) x n y
theorem putS_dep (x:PTerm) (n:ByteArray) (y:PTerm) : ∀ {d:Nat},depT x ≤ d→zad d x n y=putT x n y:=by
 intro d h
 induction d with
 | zero=>have:=yj x; omega
 | succ d ih =>
  by_cases e:depT x=d + 1
  ·unfold putT; rw [e]
  ·rw [(jV d x zaJ).2,ih zaJ]
theorem putT_eq (x:PTerm) (n:ByteArray) (y:PTerm):putT x n y=if x.kind=1 then (if x.name=n then y else x) else ⟨x.kind,nmC x n y,otC x n y,x.form,x.sub.mapIdx fun i p=>putC putT x n y i p⟩ := by
 have hd:=ya x
 unfold putT
 rw [show depT x=depL x.sub + 1 by omega,zad]
 split
 ·rfl
 ·congr 1
  refine mapIdx_same fun i hi=>?_
  have hp:depT x.sub[i] ≤ depL x.sub:=xR _ (List.getElem_mem hi)
  unfold putC
  split
  ·rfl
  ·split
   ·rw [putS_dep _ _ _ hp,putS_dep _ _ _ (by rw [← putS_dep _ _ _ hp]; exact Nat.le_trans ((jV _ _ hp).1 _ _).1 hp)]
    rfl
   ·exact putS_dep _ _ _ hp
theorem dep_ren (p:PTerm) (n z:ByteArray):depT (putT p n (varT z)) ≤ depT p:=((jV _ p (Nat.le_refl _)).1 n z).1
theorem size_ren (p:PTerm) (n z:ByteArray):sizeT (putT p n (varT z)) ≤ sizeT p:=((jV _ p (Nat.le_refl _)).1 n z).2
theorem nmC_pos {x:PTerm} {n:ByteArray} {y:PTerm} (h:(x.kind=2∨x.kind=12∨x.kind=9)∧renC x n y (if x.kind=2 then 0 else 1) (x.sub.getD (if x.kind=2 then 0 else 1) PTerm.z)):nmC x n y=xz (x.sub.getD (if x.kind=2 then 0 else 1) PTerm.z) y n:=if_pos h
theorem nmC_neg {x:PTerm} {n:ByteArray} {y:PTerm} (h:¬ ((x.kind=2∨x.kind=12∨x.kind=9)∧renC x n y (if x.kind=2 then 0 else 1) (x.sub.getD (if x.kind=2 then 0 else 1) PTerm.z))):nmC x n y=x.name:=if_neg h
theorem otC_pos {x:PTerm} {n:ByteArray} {y:PTerm} (h:x.kind=9∧renC x n y 2 (x.sub.getD 2 PTerm.z)):otC x n y=xz (x.sub.getD 2 PTerm.z) y n:=if_pos h
theorem otC_neg {x:PTerm} {n:ByteArray} {y:PTerm} (h:¬ (x.kind=9∧renC x n y 2 (x.sub.getD 2 PTerm.z))):otC x n y=x.other:=if_neg h
end
section
open Gw
theorem xY {x:PTerm} (h:rightT x=true) {i:Nat} (hi:i < x.sub.length):rightT x.sub[i]=true:=by
 rw [kO,Bool.and_eq_true] at h; exact rightL_mem h.2 _ (List.getElem_mem hi)
theorem rightL_iff : ∀ {l:List PTerm},rightL l=true ↔ ∀ i (h:i < l.length),rightT l[i]=true:=by
 intro l
 rw [rightL_all,List.all_eq_true]
 constructor
 ·intro h i hi; exact h _ (List.getElem_mem hi)
 ·intro h x hx
  obtain ⟨i,hi,rfl⟩ := List.getElem_of_mem hx
  exact h i hi
structure NodeR (x:PTerm):Prop where
 len:vu x.kind=(x.sub.length:Int)
 nm:(x.kind=1∨x.kind=2∨x.kind=9∨x.kind=12)→isWord x.name
 nm0:¬ (x.kind=1∨x.kind=2∨x.kind=9∨x.kind=12)→x.name=⟨#[]⟩
 ot:x.kind=9→isWord x.other
 ot0:x.kind ≠ 9→x.other=⟨#[]⟩
 fm:x.kind=11→0 ≤ x.form∧x.form < 1024
 fm0:x.kind ≠ 11→x.form=0
theorem nodeR_iff (x:PTerm):nodeR x=true↔NodeR x:=by
 unfold nodeR
 simp only [Bool.and_eq_true,decide_eq_true_eq]
 constructor
 ·rintro ⟨⟨⟨h1,h2⟩,h3⟩,h4⟩
  refine ⟨h1,fun h=>?_,fun h=>?_,fun h=>?_,fun h=>?_,fun h=>?_,fun h=>?_⟩
  ·rw [if_pos h] at h2; simpa using h2
  ·rw [if_neg h] at h2; simpa using h2
  ·rw [if_pos h] at h3; simpa using h3
  ·rw [if_neg h] at h3; simpa using h3
  ·rw [if_pos h] at h4; simpa using h4
  ·rw [if_neg h] at h4; simpa using h4
 ·intro h
  refine ⟨⟨⟨h.len,?_⟩,?_⟩,?_⟩
  ·split
   ·rename_i q; simpa using h.nm q
   ·rename_i q; simpa using h.nm0 q
  ·split
   ·rename_i q; simpa using h.ot q
   ·rename_i q; simpa using h.ot0 q
  ·split
   ·rename_i q; simpa using h.fm q
   ·rename_i q; simpa using h.fm0 q
theorem ym {x:PTerm} (h:rightT x=true):NodeR x:=by
 rw [kO,Bool.and_eq_true] at h; exact (nodeR_iff x).1 h.1
theorem right_of {x:PTerm} (h:NodeR x) (hs : ∀ i (h:i < x.sub.length),rightT x.sub[i]=true):rightT x=true:=by
 rw [kO,Bool.and_eq_true]; exact ⟨(nodeR_iff x).2 h,rightL_iff.2 hs⟩
theorem xS {x:PTerm} (h:rightT x=true):(x.kind=1→x.sub=[])∧(x.kind=2→x.sub.length=1)∧(x.kind=12→x.sub.length=2)∧(x.kind=9→x.sub.length=3)∧(x.kind=11→x.sub.length=1):=by
 have h1:=(ym h).len
 refine ⟨fun k=>?_,fun k=>?_,fun k=>?_,fun k=>?_,fun k=>?_⟩ <;> rw [k] at h1 <;> simp [vu] at h1
 ·exact List.eq_nil_of_length_eq_zero zaJ
 all_goals omega
theorem je {z:ByteArray} (h:isWord z):rightT (varT z)=true:=by
 refine right_of ⟨rfl,fun _=>h,fun q=>absurd (.inl rfl) q,fun q=>absurd q (by simp [varT,PTerm.kind]),fun _=>rfl,fun q=>absurd q (by simp [varT,PTerm.kind]),fun _=>rfl⟩ fun i hi=>?_
 simp [varT,PTerm.sub] at hi
theorem bind_word {x:PTerm} (h:rightT x=true) (i:Nat):zY x i=⟨#[]⟩ ∨ isWord (zY x i):=by
 have hn:=ym h
 unfold zY yn
 split
 ·rename_i q
  right; exact hn.nm zaJ
 ·split
  ·rename_i q; right; exact hn.ot q.1
  ·left; rfl
theorem free_word : ∀ (d:Nat) (x:PTerm),depT x ≤ d→rightT x=true → ∀ z,xG z x→isWord z
 | 0,x,h,_,_,_=>by have:=yj x; omega
 | d + 1,x,h,hr,z,hz=>by
  have hd:=ya x
  rcases (free_iff z x).1 hz with ⟨h1,h2⟩ | ⟨h1,j,hj,h2,h3⟩
  ·rw [← h2]; exact (ym hr).nm (.inl h1)
  ·exact free_word d x.sub[j] (by have:=xR _ (List.getElem_mem hj); omega) (xY hr hj) z h3
theorem no_empty {x:PTerm} (h:rightT x=true):cntT ⟨#[]⟩ x=0:=by
 by_cases e:cntT ⟨#[]⟩ x=0
 ·exact e
 ·exact absurd rfl (word_ne (free_word _ x (Nat.le_refl _) h _ e))
theorem zaB {l:List PTerm} {i:Nat} (h:i < l.length):l.getD i PTerm.z=l[i]:=by simp [List.getD_eq_getElem?_getD,h]
theorem jB {x:PTerm} (n:ByteArray) (y:PTerm) (hk:x.kind ≠ 1):putT x n y=⟨x.kind,nmC x n y,otC x n y,x.form,x.sub.mapIdx fun i p=>putC putT x n y i p⟩ := by rw [putT_eq,if_neg hk]
theorem zam {x:PTerm} (n:ByteArray) (y:PTerm) (hk:x.kind=1):putT x n y=if x.name=n then y else x:=by rw [putT_eq,if_pos hk]
theorem bind_put {x:PTerm} (hr:rightT x=true) (hk:x.kind ≠ 1) (n:ByteArray) (y:PTerm) {j:Nat} (hj:j < x.sub.length):yn x.kind (nmC x n y) (otC x n y) j=if renC x n y j x.sub[j] then xz x.sub[j] y n else zY x j:=by
 obtain ⟨_,l2,l12,l9,_⟩ := xS hr
 by_cases k2:x.kind=2
 ·have hj0:j=0:=by have:=l2 k2; omega
  subst hj0
  have e : ∀ a b,yn x.kind a b 0=a:=fun a b=>by simp [yn,k2]
  rw [e]
  unfold nmC zY
  rw [e]
  simp only [k2,if_true,zaB hj,true_or,true_and]
 by_cases k12:x.kind=12
 ·have hj1:j=0∨j=1:=by have:=l12 k12; omega
  rcases hj1 with rfl | rfl
  ·have e : ∀ a b,yn x.kind a b 0=⟨#[]⟩ := fun a b=>by simp [yn,k12]
   rw [e,if_neg]
   ·unfold zY; rw [e]
   ·rintro ⟨_,h,_⟩; unfold zY at h; rw [e] at h; exact h rfl
  ·have e : ∀ a b,yn x.kind a b 1=a:=fun a b=>by simp [yn,k12]
   rw [e]
   unfold nmC zY
   rw [e]
   simp only [k12,zaB hj,show ¬ ((12:Int)=2) by decide,if_false,false_or,true_or,true_and]
 by_cases k9:x.kind=9
 ·have hj1:j=0∨j=1∨j=2:=by have:=l9 k9; omega
  rcases hj1 with rfl | rfl | rfl
  ·have e : ∀ a b,yn x.kind a b 0=⟨#[]⟩ := fun a b=>by simp [yn,k9]
   rw [e,if_neg]
   ·unfold zY; rw [e]
   ·rintro ⟨_,h,_⟩; unfold zY at h; rw [e] at h; exact h rfl
  ·have e : ∀ a b,yn x.kind a b 1=a:=fun a b=>by simp [yn,k9]
   rw [e]
   unfold nmC zY
   rw [e]
   simp only [k9,zaB hj,show ¬ ((9:Int)=2) by decide,show ¬ ((9:Int)=12) by decide,if_false,false_or,true_and]
  ·have e : ∀ a b,yn x.kind a b 2=b:=fun a b=>by simp [yn,k9]
   rw [e]
   unfold otC zY
   rw [e]
   simp only [k9,zaB hj,true_and]
 ·have e : ∀ a b,yn x.kind a b j=⟨#[]⟩ := fun a b=>by simp [yn,k2,k12,k9]
  rw [e,if_neg]
  ·unfold zY; rw [e]
  ·rintro ⟨_,h,_⟩; unfold zY at h; rw [e] at h; exact h rfl
theorem jX : ∀ (d:Nat) (x:PTerm),depT x ≤ d→rightT x=true → ∀ (n:ByteArray) (y:PTerm),rightT y=true→rightT (putT x n y)=true
 | 0,x,h,_,_,_,_=>by have:=yj x; omega
 | d + 1,x,h,hr,n,y,hy=>by
  have hd:=ya x
  by_cases hk:x.kind=1
  ·rw [zam n y hk]; split <;> assumption
  rw [jB n y hk]
  have hn:=ym hr
  have w1:nmC x n y=x.name∨((x.kind=2∨x.kind=12∨x.kind=9)∧isWord (nmC x n y)):=by
   unfold nmC
   dsimp only
   by_cases q:(x.kind=2∨x.kind=12∨x.kind=9)∧renC x n y (if x.kind=2 then 0 else 1) (x.sub.getD (if x.kind=2 then 0 else 1) PTerm.z)
   ·rw [if_pos q]; exact .inr ⟨q.1,uA _ _ _⟩
   ·rw [if_neg q]; exact .inl rfl
  have w2:otC x n y=x.other∨(x.kind=9∧isWord (otC x n y)):=by
   unfold otC
   split
   ·rename_i q; right; exact ⟨q.1,uA _ _ _⟩
   ·left; rfl
  refine right_of ⟨?_,fun q=>?_,fun q=>?_,fun q=>?_,fun q=>?_,fun q=>hn.fm q,fun q=>hn.fm0 q⟩ fun i hi=>?_
  ·show vu x.kind=((x.sub.mapIdx _).length:Int)
   rw [List.length_mapIdx]; exact hn.len
  ·show isWord (nmC x n y)
   rcases w1 with w | w
   ·rw [w]; exact hn.nm q
   ·exact w.2
  ·show nmC x n y=_
   rcases w1 with w | w
   ·rw [w]; exact hn.nm0 q
   ·refine absurd ?_ q
    show x.kind=1∨x.kind=2∨x.kind=9∨x.kind=12
    omega
  ·show isWord (otC x n y)
   rcases w2 with w | w
   ·rw [w]; exact hn.ot q
   ·exact w.2
  ·show otC x n y=_
   rcases w2 with w | w
   ·rw [w]; exact hn.ot0 q
   ·exact absurd w.1 q
  ·have hi':i < x.sub.length:=by simpa [PTerm.sub] using hi
   have ei:(x.sub.mapIdx fun i p=>putC putT x n y i p)[i]'(by simpa using hi')=putC putT x n y i x.sub[i]:=List.getElem_mapIdx ..
   show rightT ((x.sub.mapIdx fun i p=>putC putT x n y i p)[i]'(by simpa using hi'))=true
   rw [ei]
   have hp:depT x.sub[i] ≤ d:=by have:=xR _ (List.getElem_mem hi'); omega
   have hrp:=xY hr hi'
   unfold putC
   split
   ·exact hrp
   ·split
    ·exact jX d _ (Nat.le_trans (dep_ren _ _ _) hp) (jX d _ hp hrp _ _ (je (uA _ _ _))) n y hy
    ·exact jX d _ hp hrp n y hy
def sumI (f:Nat→PTerm→Nat):Nat→List PTerm→Nat
 | _,[]=>0
 | i,p :: l=>f i p + sumI f (i + 1) l
theorem kM (n:ByteArray) (k:Int) (nm ot:ByteArray) : ∀ (l:List PTerm) (i:Nat),cntL n k nm ot i l=sumI (fun i p=>if yn k nm ot i=n then 0 else cntT n p) i l
 | [],_=>rfl
 | y :: l,i=>by simp only [cntL,sumI,kM n k nm ot l (i + 1)]
theorem sumI_map {F A B:Nat→PTerm→Nat} {m:Nat} : ∀ {l:List PTerm} {i:Nat} {g:Nat→PTerm→PTerm},(∀ j (h:j < l.length),F (i + j) (g j l[j])=A (i + j) l[j] + B (i + j) l[j] * m)→sumI F i (l.mapIdx g)=sumI A i l + sumI B i l * m
 | [],_,_,_=>by simp [sumI]
 | y :: l,i,g,h=>by
  rw [List.mapIdx_cons]
  simp only [sumI]
  have h1:=sumI_map (F:=F) (A:=A) (B:=B) (m:=m) (l:=l) (i:=i + 1) (g:=fun j=>g (j + 1)) (fun j hj=>by
   have:=h (j + 1) (by simpa using hj)
   rw [show i + 1 + j=i + (j + 1) by omega]
   simpa using this)
  have h2:=h 0 zaK
  simp at h2
  rw [h1,h2,Nat.add_mul]; omega
theorem sumI_le {A B:Nat→PTerm→Nat} : ∀ {l:List PTerm} {i:Nat},(∀ j (h:j < l.length),A (i + j) l[j] ≤ B (i + j) l[j])→sumI A i l ≤ sumI B i l
 | [],_,_=>Nat.le_refl _
 | y :: l,i,h=>by
  have h1:=sumI_le (A:=A) (B:=B) (l:=l) (i:=i + 1) (fun j hj=>by
   have:=h (j + 1) (by simpa using hj)
   rw [show i + 1 + j=i + (j + 1) by omega]
   simpa using this)
  have h2:=h 0 zaK
  simp at h2
  simp only [sumI]; omega
theorem sumI_zero {A:Nat→PTerm→Nat} {l:List PTerm} {i:Nat} (h : ∀ j (h:j < l.length),A (i + j) l[j]=0):sumI A i l=0:=by
 have h1:sumI A i l ≤ sumI (fun _ _=>0) i l:=sumI_le fun j hj=>Nat.le_of_eq (h j hj)
 have h2 : ∀ (l:List PTerm) (i:Nat),sumI (fun _ _=>0) i l=0:=by
  intro l
  induction l with
  | nil=>intro i; rfl
  | cons y l ih=>intro i; simp [sumI,ih]
 rw [h2] at h1; omega
theorem cnt_put : ∀ (d:Nat) (x:PTerm),depT x ≤ d→rightT x=true → ∀ (n:ByteArray) (y:PTerm),rightT y=true→sizeT x + sizeT y + 4 < 9223372036854775808 → ∀ z,cntT z (putT x n y)=(if z=n then 0 else cntT z x) + cntT n x * cntT z y
 | 0,x,h,_,_,_,_,_,_=>by have:=yj x; omega
 | d + 1,x,h,hr,n,y,hy,hb,z=>by
  have hd:=ya x
  have hs:=yk x
  by_cases hk:x.kind=1
  ·rw [zam n y hk,yQ n x,yQ z x,if_pos hk,if_pos hk]
   by_cases e:x.name=n
   ·rw [if_pos e,if_pos e,Nat.one_mul]
    by_cases e2:z=n
    ·rw [if_pos e2]; omega
    ·rw [if_neg e2,if_neg (fun q=>e2 (q.symm.trans e))]; omega
   ·rw [if_neg e,if_neg e,Nat.zero_mul,yQ z x,if_pos hk]
    by_cases e2:z=n
    ·rw [if_pos e2,if_neg (fun q=>e (q.trans e2))]
    ·rw [if_neg e2]; rfl
  rw [jB n y hk,yQ n x,yQ z x,if_neg hk,if_neg hk,yQ]
  show (if x.kind=1 then _ else cntL z x.kind (nmC x n y) (otC x n y) 0 (x.sub.mapIdx fun i p=>putC putT x n y i p))=_
  rw [if_neg hk,kM,kM,kM]
  have hzz : ∀ (l:List PTerm) (i:Nat) (f:Nat→PTerm→Nat),(if z=n then 0 else sumI f i l)=sumI (fun i p=>if z=n then 0 else f i p) i l:=by
   intro l i f
   by_cases e:z=n
   ·simp only [if_pos e]; exact (sumI_zero fun _ _=>rfl).symm
   ·simp only [if_neg e]
  rw [hzz]
  refine sumI_map fun j hj=>?_
  simp only [Nat.zero_add]
  have hp:depT x.sub[j] ≤ d:=by have:=xR _ (List.getElem_mem hj); omega
  have hsp:sizeT x.sub[j] ≤ sizeL x.sub:=y8 (List.getElem_mem hj)
  have hrp:=xY hr hj
  have hq:rightT (putT x.sub[j] (zY x j) (varT (xz x.sub[j] y n)))=true:=jX d _ hp hrp _ _ (je (uA _ _ _))
  have hbp:=bind_put hr hk n y hj
  rw [hbp]
  generalize x.sub[j]=p at *
  by_cases c1:zY x j=n
  ·have hren:¬ renC x n y j p:=fun q=>q.1.1 c1
   have c1':yn x.kind x.name x.other j=n:=c1
   rw [if_neg hren,putC,if_pos (Or.inl c1),if_pos c1,c1',c1]
   by_cases e:z=n
   ·subst e; simp
   ·simp [e,Ne.symm e]
  by_cases c2:xG n p
  ·by_cases c3:zY x j ≠ ⟨#[]⟩ ∧ xG (zY x j) y
   ·have hren:renC x n y j p:=⟨⟨c1,c2⟩,c3⟩
    have hns:¬ (zY x j=n∨¬ xG n p):=fun q=>q.elim c1 (fun q=>q c2)
    rw [if_pos hren,putC,if_neg hns,if_pos c3,if_neg c1]
    obtain ⟨f1,f2,f3⟩ := fresh_ok (p:=p) (y:=y) (n:=n) zaJ
    have hww:isWord (xz p y n):=uA _ _ _
    generalize xz p y n=w at *
    have g1:cntT w p=0:=by simpa [xG] using f1
    have g2:cntT w y=0:=by simpa [xG] using f2
    have hw1:sizeT (varT w)=1:=rfl
    have hvar : ∀ z,cntT z (varT w)=if w=z then 1 else 0:=fun z=>by rw [yQ]; rfl
    by_cases e:w=z
    ·subst e
     rw [if_pos rfl,g1,g2]; simp
    ·rw [if_neg e]
     have hsr:=size_ren p (zY x j) w
     rw [cnt_put d _ (Nat.le_trans (dep_ren _ _ _) hp) hq n y hy zaJ z]
     rw [cnt_put d p hp hrp (zY x j) (varT w) (je hww) zaJ z,cnt_put d p hp hrp (zY x j) (varT w) (je hww) zaJ n,hvar,hvar,if_neg e,if_neg f3]
     simp [Ne.symm c1]
     by_cases e2:z=n <;> by_cases e3:z=zY x j <;> simp [e2,e3,eq_comm]
   ·have hren:¬ renC x n y j p:=fun q=>c3 q.2
    have hns:¬ (zY x j=n∨¬ xG n p):=fun q=>q.elim c1 (fun q=>q c2)
    rw [if_neg hren,putC,if_neg hns,if_neg c3,if_neg c1,cnt_put d p hp hrp n y hy zaJ z]
    by_cases e:zY x j=z
    ·rw [if_pos e,if_pos e]
     have hz0:cntT z y=0:=by
      rw [← e]
      by_cases e0:zY x j=⟨#[]⟩
      ·rw [e0]; exact no_empty hy
      ·have:¬ xG (zY x j) y:=fun q=>c3 ⟨e0,q⟩
       simpa [xG] using this
     rw [hz0]; simp
    ·rw [if_neg e,if_neg e]
  ·have hren:¬ renC x n y j p:=fun q=>c2 q.1.2
   rw [if_neg hren,putC,if_pos (Or.inr c2),if_neg c1]
   have g:cntT n p=0:=by simpa [xG] using c2
   rw [g,Nat.zero_mul,Nat.add_zero]
   by_cases e:z=n
   ·rw [if_pos e,e,g]; simp
   ·rw [if_neg e]
end
section
open Gw
theorem PTerm.eta (x:PTerm):PTerm.mk x.kind x.name x.other x.form x.sub=x:=by cases x; rfl
theorem put_same {x:PTerm} {n:ByteArray} (hr:rightT x=true) (h:¬ xG n x) (y:PTerm):putT x n y=x:=by
 by_cases hk:x.kind=1
 ·rw [zam n y hk,if_neg]
  intro e
  exact h ((free_iff n x).2 (.inl ⟨hk,e⟩))
 have hc : ∀ j (hj:j < x.sub.length),zY x j=n∨¬ xG n x.sub[j]:=fun j hj=>by
  by_cases e:zY x j=n
  ·exact .inl e
  ·exact .inr fun q=>h ((free_iff n x).2 (.inr ⟨hk,j,hj,e,q⟩))
 have hren : ∀ j (hj:j < x.sub.length),¬ renC x n y j x.sub[j]:=fun j hj q=>(hc j hj).elim q.1.1 (fun r=>r q.1.2)
 have hz:¬ xG n PTerm.z:=by simp [xG,yQ,PTerm.z,PTerm.kind,PTerm.sub,cntL]
 have hren2 : ∀ j,¬ renC x n y j (x.sub.getD j PTerm.z):=fun j=>by
  by_cases hj:j < x.sub.length
  ·rw [zaB hj]; exact hren j hj
  ·rw [List.getD_eq_getElem?_getD,List.getElem?_eq_none zaJ]
   exact fun q=>hz q.1.2
 rw [jB n y hk]
 have e1:nmC x n y=x.name:=by unfold nmC; exact if_neg fun q=>hren2 _ q.2
 have e2:otC x n y=x.other:=by unfold otC; exact if_neg fun q=>hren2 _ q.2
 have e3:x.sub.mapIdx (fun i p=>putC putT x n y i p)=x.sub:=by
  refine List.ext_getElem zaK fun i h1 h2=>?_
  rw [List.getElem_mapIdx,putC,if_pos (hc i h2)]
 rw [e1,e2,e3,PTerm.eta]
theorem mk_kind (k:Int) (n o:ByteArray) (f:Int) (s:List PTerm):(PTerm.mk k n o f s).kind=k:=rfl
theorem mk_name (k:Int) (n o:ByteArray) (f:Int) (s:List PTerm):(PTerm.mk k n o f s).name=n:=rfl
theorem mk_other (k:Int) (n o:ByteArray) (f:Int) (s:List PTerm):(PTerm.mk k n o f s).other=o:=rfl
theorem mk_form (k:Int) (n o:ByteArray) (f:Int) (s:List PTerm):(PTerm.mk k n o f s).form=f:=rfl
theorem mk_sub (k:Int) (n o:ByteArray) (f:Int) (s:List PTerm):(PTerm.mk k n o f s).sub=s:=rfl
mutual
def stripT:PTerm→PTerm
 | .mk k nm ot f s=>if k=11 then (stripL s).headD PTerm.z else .mk k nm ot f (stripL s)
def stripL:List PTerm→List PTerm
 | []=>[]
 | x :: l=>stripT x :: stripL l
end
theorem stripL_map : ∀ l:List PTerm,stripL l=l.map stripT
 | []=>rfl
 | x :: l=>by simp only [stripL,stripL_map l,List.map_cons]
theorem kP (x:PTerm):stripT x=if x.kind=11 then (x.sub.map stripT).headD PTerm.z else ⟨x.kind,x.name,x.other,x.form,x.sub.map stripT⟩ := by
 cases x; simp only [stripT,stripL_map]; rfl
theorem jZ {x:PTerm} (hr:rightT x=true) (hk:x.kind=11) : ∃ p,x.sub=[p]∧stripT x=stripT p:=by
 obtain ⟨_,_,_,_,l⟩ := xS hr
 have:=l hk
 match h:x.sub,this with
 | [p],_=>exact ⟨p,rfl,by rw [kP,if_pos hk,h]; rfl⟩
theorem x0 {x:PTerm} (hk:x.kind ≠ 11):stripT x=⟨x.kind,x.name,x.other,x.form,x.sub.map stripT⟩ := by rw [kP,if_neg hk]
theorem strip_z:stripT PTerm.z=PTerm.z:=by rw [kP]; rfl
theorem strip_getD (l:List PTerm) (i:Nat):(l.map stripT).getD i PTerm.z=stripT (l.getD i PTerm.z):=by
 rw [List.getD_eq_getElem?_getD,List.getD_eq_getElem?_getD,List.getElem?_map]
 cases l[i]? with
 | none=>exact strip_z.symm
 | some x=>rfl
theorem v6 : ∀ (d:Nat) (x:PTerm),depT x ≤ d→rightT x=true→sizeT (stripT x) ≤ sizeT x∧depT (stripT x) ≤ depT x∧rightT (stripT x)=true∧(stripT x).kind ≠ 11
 | 0,x,h,_=>by have:=yj x; omega
 | d + 1,x,h,hr=>by
  have hd:=ya x
  have hs:=yk x
  by_cases hk:x.kind=11
  ·obtain ⟨p,hp,e⟩ := jZ hr hk
   have h1:depT p ≤ depL x.sub:=xR _ (by rw [hp]; simp)
   have h2:sizeT p ≤ sizeL x.sub:=y8 (by rw [hp]; simp)
   have hrp:rightT p=true:=by rw [kO,Bool.and_eq_true] at hr; exact rightL_mem hr.2 _ (by rw [hp]; simp)
   have:=v6 d p zaJ hrp
   rw [e]
   exact ⟨by omega,by omega,this.2.2.1,this.2.2.2⟩
  ·have ih:=fun i (hi:i < x.sub.length)=>v6 d x.sub[i] (by have:=xR _ (List.getElem_mem hi); omega) (xY hr hi)
   have hm:x.sub.map stripT=x.sub.mapIdx fun _ p=>stripT p:=by
    refine List.ext_getElem zaK fun i h1 h2=>by simp
   rw [x0 hk]
   refine ⟨?_,?_,?_,hk⟩
   ·rw [yk,yk x]
    show 1 + sizeL (x.sub.map stripT) ≤ _
    rw [hm]
    exact Nat.add_le_add_left (sizeL_map fun i hi=>(ih i hi).1) 1
   ·rw [ya,ya x]
    show 1 + depL (x.sub.map stripT) ≤ _
    rw [hm]
    exact Nat.add_le_add_left (depL_map fun i hi=>(ih i hi).2.1) 1
   ·have hn:=ym hr
    refine right_of ⟨?_,hn.nm,hn.nm0,hn.ot,hn.ot0,hn.fm,hn.fm0⟩ fun i hi=>?_
    ·show vu x.kind=((x.sub.map stripT).length:Int)
     rw [List.length_map]; exact hn.len
    ·have hi':i < x.sub.length:=by simpa [PTerm.sub] using hi
     have ei:(x.sub.map stripT)[i]'(by simpa using hi')=stripT x.sub[i]:=List.getElem_map ..
     show rightT ((x.sub.map stripT)[i]'(by simpa using hi'))=true
     rw [ei]; exact (ih i hi').2.2.1
theorem strip_right {x:PTerm} (hr:rightT x=true):rightT (stripT x)=true:=(v6 _ x (Nat.le_refl _) hr).2.2.1
theorem cnt_strip : ∀ (d:Nat) (x:PTerm),depT x ≤ d→rightT x=true → ∀ z,z ≠ ⟨#[]⟩ → cntT z (stripT x)=cntT z x
 | 0,x,h,_,_,_=>by have:=yj x; omega
 | d + 1,x,h,hr,z,hz=>by
  have hd:=ya x
  by_cases hk:x.kind=11
  ·obtain ⟨p,hp,e⟩ := jZ hr hk
   have h1:depT p ≤ depL x.sub:=xR _ (by rw [hp]; simp)
   have hrp:rightT p=true:=by rw [kO,Bool.and_eq_true] at hr; exact rightL_mem hr.2 _ (by rw [hp]; simp)
   rw [e,cnt_strip d p zaJ hrp z hz,yQ z x,hk,hp]
   have hb : ∀ a b,yn 11 a b 0=⟨#[]⟩ := fun a b=>by simp [yn]
   simp [cntL,hb,Ne.symm hz]
  ·rw [x0 hk,yQ,yQ z x]
   show (if x.kind=1 then (if x.name=z then 1 else 0) else cntL z x.kind x.name x.other 0 (x.sub.map stripT))=_
   congr 1
   rw [kM,kM,show x.sub.map stripT=x.sub.mapIdx fun _ p=>stripT p from List.ext_getElem zaK fun i h1 h2=>by simp]
   have:=sumI_map (F:=fun i p=>if yn x.kind x.name x.other i=z then 0 else cntT z p) (A:=fun i p=>if yn x.kind x.name x.other i=z then 0 else cntT z p) (B:=fun _ _=>0) (m:=0) (l:=x.sub) (i:=0) (g:=fun _ p=>stripT p) (fun j hj=>by
    rw [cnt_strip d x.sub[j] (by have:=xR _ (List.getElem_mem hj); omega) (xY hr hj) z hz]; omega)
   rw [this]; omega
theorem jR {x:PTerm} (hr:rightT x=true) {z:ByteArray} (hz:z ≠ ⟨#[]⟩):xG z (stripT x)↔xG z x:=by
 unfold xG; rw [cnt_strip _ x (Nat.le_refl _) hr z hz]
theorem firstN_eq {p q:Nat→Bool} {m m' j:Nat} (hpq : ∀ k,p k=q k) (h1:j < m) (h2:j < m') (h:p j=true):k7 p m 0=k7 q m' 0:=by
 obtain ⟨a1,a2,a3⟩ := kh (p:=p) (m:=m) (i:=0) (j:=j) zaJ zaJ h
 obtain ⟨b1,b2,b3⟩ := kh (p:=q) (m:=m') (i:=0) (j:=j) zaJ zaJ (by rw [← hpq]; exact h)
 rcases Nat.lt_trichotomy (k7 p m 0) (k7 q m' 0) with c | c | c
 ·have:=b3 _ (Nat.zero_le _) c
  rw [← hpq,a1] at this; cases this
 ·exact c
 ·have:=a3 _ (Nat.zero_le _) c
  rw [hpq,b1] at this; cases this
theorem fresh_strip {p y:PTerm} (hp:rightT p=true) (hy:rightT y=true) (n:ByteArray) (hb:sizeT p + sizeT y + 2 < 9223372036854775808):xz (stripT p) (stripT y) n=xz p y n:=by
 have h1:=v6 _ p (Nat.le_refl _) hp
 have h2:=v6 _ y (Nat.le_refl _) hy
 obtain ⟨j,hj,hbl⟩ := not_blocked (p:=stripT p) (y:=stripT y) (n:=n) zaJ
 unfold xz
 congr 1
 refine firstN_eq (j:=j) (fun k=>?_) hj zaJ (by simpa using hbl)
 have hw:=word_ne (vNm_word k)
 unfold blocked
 rw [Bool.eq_iff_iff]
 simp [jR hp hw,jR hy hw]
theorem strip_put : ∀ (d:Nat) (x:PTerm),depT x ≤ d→rightT x=true → ∀ (n:ByteArray) (y:PTerm),isWord n→rightT y=true→sizeT x + sizeT y + 4 < 9223372036854775808→stripT (putT x n y)=putT (stripT x) n (stripT y)
 | 0,x,h,_,_,_,_,_,_=>by have:=yj x; omega
 | d + 1,x,h,hr,n,y,hn,hy,hb=>by
  have hd:=ya x
  have hs:=yk x
  have hne:=word_ne hn
  by_cases hk:x.kind=1
  ·have hk11:x.kind ≠ 11:=by omega
   rw [zam n y hk]
   have e:stripT x=x:=by rw [x0 hk11,(xS hr).1 hk]; show PTerm.mk x.kind x.name x.other x.form []=x; rw [← (xS hr).1 hk,PTerm.eta]
   rw [e,zam n _ hk]
   split
   ·rfl
   ·exact e
  -- a part
  have part : ∀ j (hj:j < x.sub.length),stripT (putC putT x n y j x.sub[j])=putC putT x n (stripT y) j (stripT x.sub[j])∧(renC x n (stripT y) j (stripT x.sub[j])↔renC x n y j x.sub[j])∧xz (stripT x.sub[j]) (stripT y) n=xz x.sub[j] y n:=by
   intro j hj
   have hp:depT x.sub[j] ≤ d:=by have:=xR _ (List.getElem_mem hj); omega
   have hsp:sizeT x.sub[j] ≤ sizeL x.sub:=y8 (List.getElem_mem hj)
   have hrp:=xY hr hj
   generalize x.sub[j]=p at *
   have hf:=fresh_strip hrp hy n zaJ
   have hbw:zY x j ≠ ⟨#[]⟩ → (xG (zY x j) (stripT y)↔xG (zY x j) y):=fun q=>jR hy q
   have hc3:(zY x j ≠ ⟨#[]⟩ ∧ xG (zY x j) (stripT y))↔(zY x j ≠ ⟨#[]⟩ ∧ xG (zY x j) y):=⟨fun q=>⟨q.1,(hbw q.1).1 q.2⟩,fun q=>⟨q.1,(hbw q.1).2 q.2⟩⟩
   refine ⟨?_,?_,hf⟩
   ·by_cases c1:zY x j=n∨¬ xG n p
    ·rw [putC,putC,if_pos c1,if_pos (c1.imp id fun q r=>q ((jR hrp hne).1 r))]
    ·have c1':¬ (zY x j=n∨¬ xG n (stripT p)):=fun q=>c1 (q.imp id fun q r=>q ((jR hrp hne).2 r))
     by_cases c3:zY x j ≠ ⟨#[]⟩ ∧ xG (zY x j) y
     ·rw [putC,putC,if_neg c1,if_neg c1',if_pos c3,if_pos (hc3.2 c3),hf]
      have hww:=uA p y n
      have hbw2:isWord (zY x j):=(bind_word hr j).resolve_left c3.1
      have hq:rightT (putT p (zY x j) (varT (xz p y n)))=true:=jX d p hp hrp _ _ (je hww)
      have hsz:sizeT (varT (xz p y n))=1:=rfl
      have hsr:=size_ren p (zY x j) (xz p y n)
      rw [strip_put d _ (Nat.le_trans (dep_ren _ _ _) hp) hq n y hn hy zaJ,strip_put d p hp hrp _ _ hbw2 (je hww) zaJ]
      rw [show stripT (varT (xz p y n))=varT (xz p y n) by rw [x0 (by simp [varT,PTerm.kind])]; rfl]
     ·rw [putC,putC,if_neg c1,if_neg c1',if_neg c3,if_neg (fun q=>c3 (hc3.1 q))]
      exact strip_put d p hp hrp n y hn hy zaJ
   ·unfold renC
    rw [jR hrp hne,hc3]
  by_cases hk11:x.kind=11
  ·obtain ⟨p,hp,e⟩ := jZ hr hk11
   have h0:0 < x.sub.length:=by rw [hp]; simp
   have hp0:x.sub[0]=p:=by simp [hp]
   obtain ⟨e1,_,_⟩ := part 0 h0
   have hb0:zY x 0=⟨#[]⟩ := by simp [zY,yn,hk11]
   have hsx:stripT (putT x n y)=stripT (putC putT x n y 0 p):=by
    rw [jB n y hk,kP,if_pos (show (⟨x.kind,nmC x n y,otC x n y,x.form,_⟩ : PTerm).kind=11 from hk11)]
    show ((x.sub.mapIdx fun i p=>putC putT x n y i p).map stripT).headD PTerm.z=_
    rw [hp]; rfl
   have hrp:rightT p=true:=hp0 ▸ xY hr h0
   rw [hsx,e,← hp0,e1,putC,hp0]
   by_cases c2:xG n (stripT p)
   ·rw [if_neg (by rw [hb0]; exact fun q=>q.elim (fun q=>hne q.symm) (fun q=>q c2)),if_neg (fun q=>q.1 hb0)]
   ·rw [if_pos (.inr c2),put_same (strip_right hrp) c2]
  ·rw [jB n y hk,x0 (x:=⟨x.kind,nmC x n y,otC x n y,x.form,_⟩) hk11,x0 hk11,jB (x:=⟨x.kind,x.name,x.other,x.form,x.sub.map stripT⟩) n (stripT y) hk]
   simp only [mk_kind,mk_name,mk_other,mk_form,mk_sub]
   have hgz:¬ xG n PTerm.z:=by simp [xG,yQ,PTerm.z,PTerm.kind,PTerm.sub,cntL]
   have hren : ∀ j,(renC ⟨x.kind,x.name,x.other,x.form,x.sub.map stripT⟩ n (stripT y) j ((x.sub.map stripT).getD j PTerm.z)↔renC x n y j (x.sub.getD j PTerm.z))∧(renC x n y j (x.sub.getD j PTerm.z)→xz ((x.sub.map stripT).getD j PTerm.z) (stripT y) n=xz (x.sub.getD j PTerm.z) y n):=by
    intro j
    rw [strip_getD]
    by_cases hj:j < x.sub.length
    ·rw [zaB hj]
     obtain ⟨_,q1,q2⟩ := part j hj
     exact ⟨q1,fun _=>q2⟩
    ·rw [List.getD_eq_getElem?_getD,List.getElem?_eq_none zaJ]
     simp only [Option.getD_none,strip_z]
     exact ⟨⟨fun q=>absurd q.1.2 hgz,fun q=>absurd q.1.2 hgz⟩,fun q=>absurd q.1.2 hgz⟩
   congr 1
   ·by_cases c:(x.kind=2∨x.kind=12∨x.kind=9)∧renC x n y (if x.kind=2 then 0 else 1) (x.sub.getD (if x.kind=2 then 0 else 1) PTerm.z)
    ·exact (nmC_pos c).trans (((nmC_pos (x:=⟨x.kind,x.name,x.other,x.form,x.sub.map stripT⟩) (n:=n) (y:=stripT y) ⟨c.1,(hren _).1.2 c.2⟩).trans ((hren _).2 c.2)).symm)
    ·exact (nmC_neg c).trans (nmC_neg (x:=⟨x.kind,x.name,x.other,x.form,x.sub.map stripT⟩) (n:=n) (y:=stripT y) (fun q=>c ⟨q.1,(hren _).1.1 q.2⟩)).symm
   ·by_cases c:x.kind=9∧renC x n y 2 (x.sub.getD 2 PTerm.z)
    ·exact (otC_pos c).trans (((otC_pos (x:=⟨x.kind,x.name,x.other,x.form,x.sub.map stripT⟩) (n:=n) (y:=stripT y) ⟨c.1,(hren _).1.2 c.2⟩).trans ((hren _).2 c.2)).symm)
    ·exact (otC_neg c).trans (otC_neg (x:=⟨x.kind,x.name,x.other,x.form,x.sub.map stripT⟩) (n:=n) (y:=stripT y) (fun q=>c ⟨q.1,(hren _).1.1 q.2⟩)).symm
   ·refine List.ext_getElem zaK fun i h1 h2=>?_
    have hi:i < x.sub.length:=by simpa using h1
    simp only [List.getElem_map,List.getElem_mapIdx]
    exact (part i hi).1
end
section
open Gw
theorem vt {i:Int} {n:Nat} (h0:0 ≤ i) (h1:i < n):inb i n=true:=by simp [inb,h0,h1]
theorem wrap_succ {i:Nat} (h:i < 1000000000000):IntKind.i64.wrap ((i:Int) + 1)=((i + 1:Nat):Int):=by rw [wrap_small ⟨by omega,by omega⟩]; omega
theorem zaz {σ:Type} {b:Int→σ→Option σ} {inv:Nat→σ} : ∀ (n i:Nat),(∀ j:Nat,i ≤ j→j < i + n→b j (inv j)=some (inv (j + 1)))→forS b n i (inv i)=some (inv (i + n))
 | 0,i,_=>rfl
 | n + 1,i,h=>by
  have ih:=zaz (b:=b) (inv:=inv) n (i + 1) (fun j h1 h2=>h j zaJ zaJ)
  simp only [forS,h i (Nat.le_refl _) zaJ,zaN]
  rw [show ((i:Int) + 1)=((i + 1:Nat):Int) by omega,ih,show i + 1 + n=i + (n + 1) by omega]
theorem iter_brk {σ ρ:Type} {b:σ→Option (Stp σ ρ)} {inv:Nat→σ} {s:σ} : ∀ (n i k:Nat),n < k→(∀ j:Nat,i ≤ j→j < i + n→b (inv j)=some (.go (inv (j + 1))))→b (inv (i + n))=some (.brk s)→iter b k (inv i)=some (.inl s)
 | n,i,0,hk,_,_=>by omega
 | 0,i,k + 1,_,_,h=>by simp only [iter]; rw [show i + 0=i from rfl] at h; rw [h]; rfl
 | n + 1,i,k + 1,hk,h,he=>by
  simp only [iter,h i (Nat.le_refl _) zaJ,zaN]
  exact iter_brk n (i + 1) k zaJ (fun j h1 h2=>h j zaJ zaJ) (by rw [show i + 1 + n=i + (n + 1) by omega]; exact he)
theorem iter_ret {σ ρ:Type} {b:σ→Option (Stp σ ρ)} {inv:Nat→σ} {r:ρ} : ∀ (n i k:Nat),n < k→(∀ j:Nat,i ≤ j→j < i + n→b (inv j)=some (.go (inv (j + 1))))→b (inv (i + n))=some (.ret r)→iter b k (inv i)=some (.inr r)
 | n,i,0,hk,_,_=>by omega
 | 0,i,k + 1,_,_,h=>by simp only [iter]; rw [show i + 0=i from rfl] at h; rw [h]; rfl
 | n + 1,i,k + 1,hk,h,he=>by
  simp only [iter,h i (Nat.le_refl _) zaJ,zaN]
  exact iter_ret n (i + 1) k zaJ (fun j h1 h2=>h j zaJ zaJ) (by rw [show i + 1 + n=i + (n + 1) by omega]; exact he)
theorem zaD : ∀ l:List PTerm,l.length ≤ sizeL l
 | []=>Nat.le_refl _
 | y :: l=>by have:=jY y; have:=zaD l; simp only [sizeL,List.length_cons]; omega
theorem copy12 : ∀ (K:Nat) (x:PTerm),sizeT x + 2 ≤ K→sizeT x ≤ 1000000000000→zcy.f K x=some x
 | 0,x,h,_=>by omega
 | K + 1,x,h,hb=>by
  have hs:=yk x
  have hl:=zaD x.sub
  show zcy.g (zcy.f K) K x=_
  unfold zcy.g
  have hloop:=iter_brk (b:=fun s=>zcy.b0 x (zcy.f K) s.1 s.2) (inv:=fun i=>((i:Int),(⟨x.kind,x.name,x.other,x.form,x.sub.take i⟩ : PTerm))) (s:=((x.sub.length:Int),x)) x.sub.length 0 K zaJ (fun j _ hj=>by
   have hj:j < x.sub.length:=by omega
   have hm:sizeT x.sub[j] ≤ sizeL x.sub:=y8 (List.getElem_mem hj)
   show zcy.b0 x (zcy.f K) (j:Int) (⟨x.kind,x.name,x.other,x.form,x.sub.take j⟩ : PTerm)=_
   unfold zcy.b0
   rw [if_pos (by simp; omega),chk,if_pos (vt zaJ zaJ),jq hj,copy12 K _ zaJ zaJ]
   simp only [zaN]
   rw [chk,if_pos (by show decide ((((x.sub.take j).length + 1) * 72) ≤ _)=true; rw [List.length_take]; simp; omega),wrap_succ zaJ]
   show some (Stp.go (((j + 1:Nat):Int),PTerm.mk x.kind x.name x.other x.form (x.sub.take j ++ [x.sub[j]])))=_
   rw [← List.take_succ_eq_append_getElem hj]) (by
   show zcy.b0 x (zcy.f K) ((0 + x.sub.length:Nat):Int) (⟨x.kind,x.name,x.other,x.form,x.sub.take (0 + x.sub.length)⟩ : PTerm)=_
   unfold zcy.b0
   rw [Nat.zero_add,if_neg zaK,List.take_length,PTerm.eta])
  have hloop:iter (fun s=>zcy.b0 x (zcy.f K) s.1 s.2) K (0,(⟨x.kind,x.name,x.other,x.form,([]:List PTerm)⟩ : PTerm))=some (.inl ((x.sub.length:Int),x)):=hloop
  rw [hloop]
  show some (⟨x.kind,x.name,x.other,x.form,x.sub⟩ : PTerm)=some x
  rw [PTerm.eta]
theorem bind14 (x:PTerm) (i:Nat):zbH.f x (i:Int)=some (zY x i):=by
 unfold zbH.f zY yn
 have e1:((i:Int)=1)=(i=1):=by apply propext; omega
 have e2:((i:Int)=2)=(i=2):=by apply propext; omega
 simp only [e1,e2]
 by_cases h2:x.kind=2
 ·simp [h2]
 ·by_cases h1:i=1
  ·by_cases h3:x.kind=12∨x.kind=9
   ·simp [h1,h3]
   ·have a:=(not_or.1 h3).1; have b:=(not_or.1 h3).2
    simp [h1,h2,a,b]
  ·by_cases h9:x.kind=9 <;> by_cases h4:i=2 <;> simp [h1,h2,h9,h4]
end
section
open Gw
end
section
open Gw
def idxN (x:PTerm):Nat:=if x.kind=2 then 0 else 1
def nmJ (x:PTerm) (n:ByteArray) (y:PTerm) (j:Nat):ByteArray:=if idxN x < j then nmC x n y else x.name
def otJ (x:PTerm) (n:ByteArray) (y:PTerm) (j:Nat):ByteArray:=if 2 < j then otC x n y else x.other
theorem getD_at {l:List PTerm} {j:Nat} (h:j < l.length):l.getD j PTerm.z=l[j]:=by rw [List.getD_eq_getElem?_getD,List.getElem?_eq_getElem h]; rfl
theorem parts_le {k:Int} (h:k ≠ 9):vu k ≤ 2:=by
 unfold vu
 by_cases h1:k=1
 ·rw [if_pos h1]; decide
 rw [if_neg h1,if_neg h]
 by_cases h2:k=3∨k=4∨k=12
 ·rw [if_pos h2]; decide
 rw [if_neg h2]
 by_cases h3:k=2∨k=5∨k=6∨k=7∨k=8∨k=10∨k=11
 ·rw [if_pos h3]; decide
 rw [if_neg h3]; decide
theorem third {x:PTerm} (hr:rightT x=true) (h:2 < x.sub.length):x.kind=9:=by
 apply Classical.byContradiction
 intro q
 have h1:=(ym hr).len
 have h2:=parts_le q
 omega
theorem ren_bind {x:PTerm} {n:ByteArray} {y:PTerm} {j:Nat} {p:PTerm} (h:renC x n y j p):x.kind=2∨(j=1∧(x.kind=12∨x.kind=9))∨(x.kind=9∧j=2):=by
 have hb:yn x.kind x.name x.other j ≠ ⟨#[]⟩ := h.2.1
 unfold yn at hb
 by_cases c:x.kind=2∨j=1∧(x.kind=12∨x.kind=9)
 ·rcases c with c | c
  ·exact .inl c
  ·exact .inr (.inl c)
 ·rw [if_neg c] at hb
  by_cases c2:x.kind=9∧j=2
  ·exact .inr (.inr c2)
  ·rw [if_neg c2] at hb; exact absurd rfl hb
theorem nmJ_end {x:PTerm} (hr:rightT x=true) (n:ByteArray) (y:PTerm):nmJ x n y x.sub.length=nmC x n y:=by
 obtain ⟨_,l2,l12,l9,_⟩ := xS hr
 unfold nmJ
 by_cases h:idxN x < x.sub.length
 ·rw [if_pos h]
 ·rw [if_neg h,nmC_neg]
  intro q
  unfold idxN at h
  rcases q.1 with k | k | k
  ·rw [if_pos k] at h; have:=l2 k; omega
  ·rw [if_neg zaJ] at h; have:=l12 k; omega
  ·rw [if_neg zaJ] at h; have:=l9 k; omega
theorem otJ_end {x:PTerm} (hr:rightT x=true) (n:ByteArray) (y:PTerm):otJ x n y x.sub.length=otC x n y:=by
 obtain ⟨_,l2,l12,l9,_⟩ := xS hr
 unfold otJ
 by_cases h:2 < x.sub.length
 ·rw [if_pos h]
 ·rw [if_neg h,otC_neg]
  intro q
  have:=l9 q.1; omega
theorem nmJ_succ {x:PTerm} (hr:rightT x=true) (n:ByteArray) (y:PTerm) {j:Nat} (hj:j < x.sub.length):nmJ x n y (j + 1)=if renC x n y j x.sub[j]∧¬ j=2 then xz x.sub[j] y n else nmJ x n y j:=by
 obtain ⟨_,l2,l12,l9,_⟩ := xS hr
 have hi1:idxN x ≤ 1:=by unfold idxN; split <;> omega
 by_cases hi:j=idxN x
 ·have e1:nmJ x n y (j + 1)=nmC x n y:=by unfold nmJ; rw [if_pos zaJ]
  have e2:nmJ x n y j=x.name:=by unfold nmJ; rw [if_neg zaJ]
  rw [e1,e2]
  have hg:x.sub.getD (if x.kind=2 then 0 else 1) PTerm.z=x.sub[j]:=by
   rw [show (if x.kind=2 then 0 else 1)=j from hi.symm]; exact getD_at hj
  have hidx:(if x.kind=2 then 0 else 1)=j:=hi.symm
  by_cases c:renC x n y j x.sub[j]
  ·have hk:x.kind=2∨x.kind=12∨x.kind=9:=by
    rcases ren_bind c with q | q | q
    ·exact .inl q
    ·exact .inr q.2
    ·exact .inr (.inr q.1)
   have cc:renC x n y (if x.kind=2 then 0 else 1) (x.sub.getD (if x.kind=2 then 0 else 1) PTerm.z):=by rw [hg,hidx]; exact c
   rw [if_pos ⟨c,by omega⟩,nmC_pos ⟨hk,cc⟩,hg]
  ·have cc:¬ renC x n y (if x.kind=2 then 0 else 1) (x.sub.getD (if x.kind=2 then 0 else 1) PTerm.z):=by rw [hg,hidx]; exact c
   rw [if_neg (fun q=>c q.1),nmC_neg (fun q=>cc q.2)]
 ·have e:nmJ x n y (j + 1)=nmJ x n y j:=by
   unfold nmJ
   by_cases q:idxN x < j
   ·rw [if_pos q,if_pos zaJ]
   ·rw [if_neg q,if_neg zaJ]
  rw [e,if_neg]
  intro q
  rcases ren_bind q.1 with k | k | k
  ·have:=l2 k; unfold idxN at hi; rw [if_pos k] at hi; omega
  ·have:x.kind ≠ 2:=by omega
   unfold idxN at hi; rw [if_neg this] at hi; omega
  ·exact q.2 k.2
theorem otJ_succ {x:PTerm} (hr:rightT x=true) (n:ByteArray) (y:PTerm) {j:Nat} (hj:j < x.sub.length):otJ x n y (j + 1)=if renC x n y j x.sub[j]∧j=2 then xz x.sub[j] y n else otJ x n y j:=by
 by_cases h2:j=2
 ·subst h2
  have k9:=third hr hj
  have e1:otJ x n y (2 + 1)=otC x n y:=by unfold otJ; rw [if_pos zaJ]
  have e2:otJ x n y 2=x.other:=by unfold otJ; rw [if_neg zaJ]
  rw [e1,e2]
  have hg:x.sub.getD 2 PTerm.z=x.sub[2]:=getD_at hj
  by_cases c:renC x n y 2 x.sub[2]
  ·rw [if_pos ⟨c,rfl⟩,otC_pos ⟨k9,by rw [hg]; exact c⟩,hg]
  ·rw [if_neg (fun q=>c q.1),otC_neg (fun q=>c (by have:=q.2; rw [hg] at this; exact this))]
 ·have e:otJ x n y (j + 1)=otJ x n y j:=by
   unfold otJ
   by_cases q:2 < j
   ·rw [if_pos q,if_pos zaJ]
   ·rw [if_neg q,if_neg zaJ]
  rw [e,if_neg (fun q=>h2 q.2)]
end
section
open Gw
def vL (m:List (ByteArray × Int)) (z:ByteArray):Int:=(Gw.look z m).getD 0
theorem look_insB (x y:ByteArray) (v:Int) : ∀ l:List (ByteArray × Int),Gw.look y (Gw.ins x v l)=if y=x then some v else Gw.look y l
 | []=>by by_cases e:y=x <;> simp [Gw.ins,Gw.look,e]
 | (k,w) :: l=>by
  by_cases e:x=k
  ·subst e
   by_cases e2:y=x <;> simp [Gw.ins,Gw.look,e2]
  ·by_cases e2:y=k
   ·have:y ≠ x:=fun q=>e (q.symm.trans e2)
    subst e2
    simp [Gw.ins,Gw.look,e,this]
   ·simp [Gw.ins,Gw.look,e,e2,look_insB x y v l]
theorem vL_ins (x:ByteArray) (v:Int) (l:List (ByteArray × Int)) (z:ByteArray):vL (Gw.ins x v l) z=if z=x then v else vL l z:=by
 unfold vL; rw [look_insB]; split <;> rfl
theorem cnt_le (z:ByteArray) (x:PTerm):cntT z x ≤ sizeT x:=by
 have:=cnt_sum x [z] zaK
 simpa using this
theorem drop_at {l:List PTerm} {j:Nat} (h:j < l.length):l.drop j=l[j] :: l.drop (j + 1):=List.drop_eq_getElem_cons h
theorem names14 : ∀ (K:Nat) (x:PTerm) (B F:List (ByteArray × Int)),sizeT x + 2 ≤ K→(∀ z,0 ≤ vL B z∧vL B z + sizeT x ≤ 1000000000000)→(∀ z,0 ≤ vL F z∧vL F z + sizeT x ≤ 1000000000000) →
  ∃ B' F',zbJ.f K x B F=some (B',F')∧(∀ z,vL B' z=vL B z) ∧ ∀ z,vL F' z=vL F z + (if vL B z=0 then (cntT z x:Int) else 0)
 | 0,x,B,F,h,_,_=>by omega
 | K + 1,x,B,F,h,hB,hF=>by
  have hs:=yk x
  have hl:=zaD x.sub
  show ∃ B' F',zbJ.g (zbJ.f K) x B F=_∧_
  unfold zbJ.g
  by_cases hk:x.kind=1
  ·rw [if_pos (by simpa using hk)]
   have hc : ∀ z,(cntT z x:Int)=if z=x.name then 1 else 0:=fun z=>by
    rw [yQ,if_pos hk]
    by_cases e:x.name=z
    ·rw [if_pos e,if_pos e.symm]; rfl
    ·rw [if_neg e,if_neg (fun q=>e q.symm)]; rfl
   by_cases h0:vL B x.name=0
   ·refine ⟨B,Gw.ins x.name (IntKind.i64.wrap (vL F x.name + 1)) F,?_,fun _=>rfl,fun z=>?_⟩
    ·show ((if decide (vL B x.name=0) then some (Gw.ins x.name (IntKind.i64.wrap (vL F x.name + 1)) F) else some F).bind fun o4=>some (B,o4))=_
     rw [if_pos (by simpa using h0)]; rfl
    ·rw [vL_ins,wrap_small ⟨by have:=(hF x.name).1; omega,by have:=(hF x.name).2; omega⟩,hc]
     by_cases e:z=x.name
     ·rw [if_pos e,if_pos e,e,if_pos h0]
     ·rw [if_neg e,if_neg e]; split <;> omega
   ·refine ⟨B,F,?_,fun _=>rfl,fun z=>?_⟩
    ·show ((if decide (vL B x.name=0) then some (Gw.ins x.name (IntKind.i64.wrap (vL F x.name + 1)) F) else some F).bind fun o4=>some (B,o4))=_
     rw [if_neg (by simpa using h0)]; rfl
    ·rw [hc]
     by_cases e:z=x.name
     ·rw [e,if_neg h0]; omega
     ·rw [if_neg e]; split <;> omega
  rw [if_neg (by simpa using hk)]
  have loop : ∀ (m j:Nat) (B F:List (ByteArray × Int)),j + m=x.sub.length→(∀ z,0 ≤ vL B z∧vL B z + (1 + sizeL (x.sub.drop j)) ≤ 1000000000000)→(∀ z,0 ≤ vL F z∧vL F z + sizeL (x.sub.drop j) ≤ 1000000000000) →
    ∃ B' F',forS (fun i s=>zbJ.b0 x (zbJ.f K) i s.1 s.2) m (j:Int) (B,F)=some (B',F')∧(∀ z,vL B' z=vL B z) ∧ ∀ z,vL F' z=vL F z + (if vL B z=0 then (cntL z x.kind x.name x.other j (x.sub.drop j):Int) else 0):=by
   intro m
   induction m with
   | zero =>
    intro j B F hj _ _
    refine ⟨B,F,rfl,fun _=>rfl,fun z=>?_⟩
    rw [List.drop_of_length_le zaJ]
    simp [cntL]
   | succ m ih =>
    intro j B F hj hB hF
    have hjl:j < x.sub.length:=by omega
    have hd:=drop_at hjl
    have hsd:sizeL (x.sub.drop j)=sizeT x.sub[j] + sizeL (x.sub.drop (j + 1)):=by rw [hd]; rfl
    have hm:sizeT x.sub[j] ≤ sizeL x.sub:=y8 (List.getElem_mem hjl)
    have hsp:=jY x.sub[j]
    have hw1:IntKind.i64.wrap (vL B (zY x j) + 1)=vL B (zY x j) + 1:=wrap_small ⟨by have:=(hB (zY x j)).1; omega,by have:=(hB (zY x j)).2; omega⟩
    have hB1 : ∀ z,vL (Gw.ins (zY x j) (vL B (zY x j) + 1) B) z=if z=zY x j then vL B (zY x j) + 1 else vL B z:=fun z=>vL_ins _ _ _ z
    obtain ⟨B2,F2,e1,e2,e3⟩ := names14 K x.sub[j] (Gw.ins (zY x j) (vL B (zY x j) + 1) B) F zaJ (fun z=>by
     rw [hB1]; have:=hB z; have:=hB (zY x j); split <;> omega) (fun z=>by have:=hF z; omega)
    have hb2:vL B2 (zY x j)=vL B (zY x j) + 1:=by rw [e2,hB1,if_pos rfl]
    have hw2:IntKind.i64.wrap (vL B2 (zY x j) - 1)=vL B (zY x j):=by
     rw [hb2,wrap_small ⟨by have:=(hB (zY x j)).1; omega,by have:=(hB (zY x j)).2; omega⟩]; omega
    have hB3 : ∀ z,vL (Gw.ins (zY x j) (vL B (zY x j)) B2) z=vL B z:=fun z=>by
     rw [vL_ins,e2,hB1]
     by_cases e:z=zY x j
     ·rw [if_pos e,e]
     ·rw [if_neg e,if_neg e]
    have hF2 : ∀ z,vL F2 z=vL F z + (if vL B z=0 then (if zY x j=z then 0 else (cntT z x.sub[j]:Int)) else 0):=fun z=>by
     rw [e3,hB1]
     by_cases e:z=zY x j
     ·have:=(hB (zY x j)).1
      rw [if_pos e,if_neg zaJ,if_pos e.symm]; split <;> omega
     ·have e':¬ zY x j=z:=fun q=>e q.symm
      simp only [if_neg e,if_neg e']
    obtain ⟨B4,F4,g1,g2,g3⟩ := ih (j + 1) (Gw.ins (zY x j) (vL B (zY x j)) B2) F2 zaJ (fun z=>by rw [hB3]; have:=hB z; omega) (fun z=>by
     have h1:=hF z; have h2:=cnt_le z x.sub[j]; rw [hF2]; split
     ·split <;> omega
     ·omega)
    refine ⟨B4,F4,?_,fun z=>by rw [g2,hB3],fun z=>?_⟩
    ·have hbody:zbJ.b0 x (zbJ.f K) (j:Int) B F=some (Gw.ins (zY x j) (vL B (zY x j)) B2,F2):=by
      unfold zbJ.b0
      rw [bind14,zaN,jq hjl]
      show ((zbJ.f K x.sub[j] (Gw.ins (zY x j) (IntKind.i64.wrap (vL B (zY x j) + 1)) B) F).bind fun r21=>some (Gw.ins (zY x j) (IntKind.i64.wrap (vL r21.1 (zY x j) - 1)) r21.1,r21.2))=_
      rw [hw1,e1,zaN,hw2]
     simp only [forS,hbody,zaN]
     rw [show ((j:Int) + 1)=((j + 1:Nat):Int) by omega]
     exact g1
    ·rw [g3,hB3,hF2,hd]
     have hcl:cntL z x.kind x.name x.other j (x.sub[j] :: x.sub.drop (j + 1))=(if zY x j=z then 0 else cntT z x.sub[j]) + cntL z x.kind x.name x.other (j + 1) (x.sub.drop (j + 1)):=by rw [cntL]
     rw [hcl]
     by_cases e:zY x j=z
     ·simp only [if_pos e]; split <;> omega
     ·simp only [if_neg e]; split <;> omega
  obtain ⟨B',F',e1,e2,e3⟩ := loop x.sub.length 0 B F zaJ (fun z=>by have:=hB z; rw [List.drop_zero]; omega) (fun z=>by have:=hF z; rw [List.drop_zero]; omega)
  refine ⟨B',F',?_,e2,fun z=>?_⟩
  ·rw [show ((x.sub.length:Int) - 0).toNat=x.sub.length by omega]
   have e1:forS (fun i s=>zbJ.b0 x (zbJ.f K) i s.1 s.2) x.sub.length 0 (B,F)=some (B',F'):=e1
   rw [e1]; rfl
  ·rw [e3,yQ,if_neg hk,List.drop_zero]
theorem freely14 {K:Nat} {x:PTerm} (hK:sizeT x + 2 ≤ K) (hb:sizeT x ≤ 1000000000) : ∃ F,zbK.f K x=some F ∧ ∀ z,vL F z=cntT z x:=by
 obtain ⟨B',F',e1,_,e3⟩ := names14 K x [] [] hK (fun z=>⟨Int.le_refl _,by show (0:Int) + _ ≤ _; omega⟩) (fun z=>⟨Int.le_refl _,by show (0:Int) + _ ≤ _; omega⟩)
 refine ⟨F',by unfold zbK.f; rw [e1]; rfl,fun z=>?_⟩
 rw [e3]
 show (0:Int) + (if (0:Int)=0 then _ else _)=_
 rw [if_pos rfl]; omega
theorem fresh14 {K:Nat} {p y:PTerm} {n:ByteArray} {G F:List (ByteArray × Int)} (hG : ∀ z,vL G z=cntT z p) (hF : ∀ z,vL F z=cntT z y) (hK:sizeT p + sizeT y + 40 ≤ K) (hb:sizeT p + sizeT y ≤ 1000000000):zbM.f K G F n=some (xz p y n):=by
 obtain ⟨j,hj,hjb⟩ := not_blocked (p:=p) (y:=y) (n:=n) zaJ
 obtain ⟨g1,g2,g3⟩ := kh (p:=fun k => !blocked p y n (vNm k)) (m:=sizeT p + sizeT y + 2) (i:=0) (j:=j) zaJ zaJ (by simpa using hjb)
 unfold zbM.f
 have body : ∀ i:Nat,i ≤ sizeT p + sizeT y + 2→zbM.b0 G F n (i:Int)=some (if blocked p y n (vNm i) then .go ((i + 1:Nat):Int) else .ret (vNm i)):=fun i hi=>by
  unfold zbM.b0 strconv_Itoa.f
  rw [chk,if_pos (by simp; omega),zaN,chk,if_pos (dec_ok 118 zaJ)]
  rw [show (⟨#[118]⟩ : ByteArray) ++ decN (i:Int)=vNm i from rfl,wrap_succ zaJ]
  have q1:((Gw.look (vNm i) G).getD 0=0)=¬ xG (vNm i) p:=by
   apply propext; show vL G (vNm i)=0↔_; rw [hG]; unfold xG; omega
  have q2:((Gw.look (vNm i) F).getD 0=0)=¬ xG (vNm i) y:=by
   apply propext; show vL F (vNm i)=0↔_; rw [hF]; unfold xG; omega
  unfold blocked
  simp only [q1,q2]
  by_cases e:vNm i=n
  ·simp [e]
  ·by_cases f1:xG (vNm i) p
   ·simp [e,f1]
   ·by_cases f2:xG (vNm i) y <;> simp [e,f1,f2]
 have hr:=iter_ret (b:=fun s=>zbM.b0 G F n s) (inv:=fun i=>(i:Int)) (r:=xz p y n) (k7 (fun k => !blocked p y n (vNm k)) (sizeT p + sizeT y + 2) 0) 0 K zaJ (fun i _ hi=>by
  show zbM.b0 G F n (i:Int)=_
  have hbl:blocked p y n (vNm i)=true:=by simpa using g3 i zaJ zaJ
  rw [body i zaJ,if_pos hbl]) (by
  show zbM.b0 G F n ((0 + _:Nat):Int)=_
  have hbl:blocked p y n (xz p y n)=false:=by simpa [xz] using g1
  rw [Nat.zero_add,body _ zaJ]
  show some (if blocked p y n (xz p y n)=true then _ else Stp.ret (xz p y n))=_
  rw [if_neg (by rw [hbl]; decide)])
 have hr:iter (fun s=>zbM.b0 G F n s) K 0=_:=hr
 rw [hr]; rfl
end
section
open Gw
def setJ (l:List PTerm) (j:Nat):List PTerm:=l.take j ++ List.replicate (l.length - j) PTerm.z
theorem setJ_len (l:List PTerm) (j:Nat) (h:j ≤ l.length):(setJ l j).length=l.length:=by unfold setJ; simp; omega
theorem setJ_0 (l:List PTerm):setJ l 0=List.replicate l.length PTerm.z:=by simp [setJ]
theorem setJ_end (l:List PTerm):setJ l l.length=l:=by simp [setJ]
theorem setJ_succ {l:List PTerm} {j:Nat} (h:j < l.length):(setJ l j).set j l[j]=setJ l (j + 1):=by
 unfold setJ
 rw [show l.length - j=(l.length - (j + 1)) + 1 by omega,List.replicate_succ,List.set_append_right _ _ (by simp; omega),List.take_succ_eq_append_getElem h]
 have:j - (l.take j).length=0:=by simp; omega
 rw [this,List.set_cons_zero,List.append_assoc]
 rfl
theorem len3 {x:PTerm} (hr:rightT x=true):x.sub.length ≤ 3:=by
 have h1:=(ym hr).len
 by_cases k:x.kind=9
 ·rw [k] at h1; have:vu 9=3:=by decide
  omega
 ·have:=parts_le k; omega
theorem clone14 : ∀ (K:Nat) (x:PTerm),rightT x=true→sizeT x + 2 ≤ K→zbL.f K x=some x
 | 0,x,_,h=>by omega
 | K + 1,x,hr,h=>by
  have hs:=yk x
  have h3:=len3 hr
  show zbL.g (zbL.f K) x=_
  unfold zbL.g
  rw [chk,if_pos (by simp; omega),show ((x.sub.length:Int) - 0).toNat=x.sub.length by omega,show Int.toNat (x.sub.length:Int)=x.sub.length from rfl]
  have hloop:=zaz (b:=fun i s=>zbL.b0 (zbL.f K) x i s) (inv:=fun i=>setJ x.sub i) x.sub.length 0 (fun j _ hj=>by
   have hj:j < x.sub.length:=by omega
   have hm:sizeT x.sub[j] ≤ sizeL x.sub:=y8 (List.getElem_mem hj)
   show zbL.b0 (zbL.f K) x (j:Int) (setJ x.sub j)=_
   unfold zbL.b0
   rw [jq hj,clone14 K _ (xY hr hj) zaJ,zaN,chk,if_pos (vt zaJ (by rw [setJ_len _ _ zaJ]; omega))]
   show some ((setJ x.sub j).set j x.sub[j])=_
   rw [setJ_succ hj])
  rw [Nat.zero_add,setJ_end,setJ_0] at hloop
  have hloop:forS (fun i s=>zbL.b0 (zbL.f K) x i s) x.sub.length 0 (List.replicate x.sub.length PTerm.z)=some x.sub:=hloop
  rw [hloop,zaN,PTerm.eta]
def plS (x:PTerm) (n:ByteArray) (y:PTerm):List PTerm:=x.sub.mapIdx fun i p=>putC putT x n y i p
theorem plS_len (x:PTerm) (n:ByteArray) (y:PTerm):(plS x n y).length=x.sub.length:=by unfold plS; simp
theorem plS_at {x:PTerm} (n:ByteArray) (y:PTerm) {j:Nat} (hj:j < x.sub.length):(plS x n y)[j]'(by rw [plS_len]; exact hj)=putC putT x n y j x.sub[j]:=List.getElem_mapIdx ..
def stP (x:PTerm) (n:ByteArray) (y:PTerm) (j:Nat):PTerm:=⟨x.kind,nmJ x n y j,otJ x n y j,x.form,setJ (plS x n y) j⟩
theorem vL_one (w z:ByteArray):vL (Gw.ins w 1 ([]:List (ByteArray × Int))) z=cntT z (varT w):=by
 rw [vL_ins,yQ]
 show _=(((if (1:Int)=1 then (if w=z then 1 else 0) else _):Nat):Int)
 rw [if_pos rfl]
 by_cases e:z=w
 ·rw [if_pos e,if_pos e.symm]; rfl
 ·rw [if_neg e,if_neg (fun q=>e q.symm)]; rfl
theorem put14 : ∀ (K:Nat) (x:PTerm) (n:ByteArray) (y:PTerm) (F:List (ByteArray × Int)),rightT x=true→rightT y=true→(∀ z,vL F z=cntT z y)→sizeT x + sizeT y + 60 ≤ K→sizeT x + sizeT y ≤ 1000000000→zbN.f K x n y F=some (putT x n y)
 | 0,x,n,y,F,_,_,_,h,_=>by omega
 | K + 1,x,n,y,F,hr,hy,hF,h,hb=>by
  have hs:=yk x
  have hsy:=jY y
  have hl:=zaD x.sub
  have h3:=len3 hr
  show zbN.g (zbN.f K) K x n y F=_
  unfold zbN.g
  by_cases hk:x.kind=1
  ·rw [if_pos (by simpa using hk),zam n y hk]
   by_cases e:x.name=n
   ·rw [if_pos (by simpa using e),if_pos e,clone14 K y hy zaJ]; rfl
   ·rw [if_neg (by simpa using e),if_neg e]
  rw [if_neg (by simpa using hk),chk,if_pos (by simp; omega),show ((x.sub.length:Int) - 0).toNat=x.sub.length by omega,show Int.toNat (x.sub.length:Int)=x.sub.length from rfl]
  have hloop:=zaz (b:=fun i s=>zbN.b0 x K n F (zbN.f K) y i s) (inv:=fun i=>stP x n y i) x.sub.length 0 (fun j _ hj=>by
   have hj:j < x.sub.length:=by omega
   have hm:sizeT x.sub[j] ≤ sizeL x.sub:=y8 (List.getElem_mem hj)
   have hrp:=xY hr hj
   obtain ⟨G,hG,hG2⟩ := freely14 (K:=K) (x:=x.sub[j]) zaJ zaJ
   show zbN.b0 x K n F (zbN.f K) y (j:Int) (stP x n y j)=some (stP x n y (j + 1))
   unfold zbN.b0
   have hck:inb (j:Int) (setJ (plS x n y) j).length=true:=vt zaJ (by rw [setJ_len _ _ (by rw [plS_len]; omega),plS_len]; omega)
   rw [jq hj,bind14,zaN,hG,zaN]
   have e3:=nmJ_succ hr n y hj
   have e4:=otJ_succ hr n y hj
   have hst:stP x n y (j + 1)=⟨x.kind,nmJ x n y (j + 1),otJ x n y (j + 1),x.form,(setJ (plS x n y) j).set (Int.toNat (j:Int)) (putC putT x n y j x.sub[j])⟩ := by
    unfold stP
    rw [← plS_at n y hj,show Int.toNat (j:Int)=j from rfl,setJ_succ (by rw [plS_len]; exact hj)]
   have q1:((Gw.look n G).getD 0=0)=¬ xG n x.sub[j]:=by
    apply propext; show vL G n=0↔_; rw [hG2]; unfold xG; omega
   have q2:(0 < (Gw.look (zY x j) F).getD 0)=xG (zY x j) y:=by
    apply propext; show 0 < vL F (zY x j)↔_; rw [hF]; unfold xG; omega
   simp only [q1,q2]
   by_cases c1:zY x j=n∨¬ xG n x.sub[j]
   ·have hren:¬ renC x n y j x.sub[j]:=fun q=>c1.elim q.1.1 (fun r=>r q.1.2)
    have hp:putC putT x n y j x.sub[j]=x.sub[j]:=by rw [putC,if_pos c1]
    have n1:nmJ x n y (j + 1)=nmJ x n y j:=by rw [e3,if_neg (fun q=>hren q.1)]
    have o1:otJ x n y (j + 1)=otJ x n y j:=by rw [e4,if_neg (fun q=>hren q.1)]
    rw [hst,n1,o1,hp]
    rw [if_pos (by
     rcases c1 with e | e
     ·simp [e]
     ·simp [e]),clone14 K _ hrp zaJ,zaN]
    show chk (inb (j:Int) (setJ (plS x n y) j).length) _=_
    rw [chk,if_pos hck]
    rfl
   have c1':zY x j ≠ n∧xG n x.sub[j]:=⟨fun q=>c1 (.inl q),Classical.byContradiction fun q=>c1 (.inr q)⟩
   rw [if_neg (by simp [c1'.1,c1'.2])]
   by_cases c3:zY x j ≠ ⟨#[]⟩ ∧ xG (zY x j) y
   ·have hren:renC x n y j x.sub[j]:=⟨c1',c3⟩
    have hp:putC putT x n y j x.sub[j]=putT (putT x.sub[j] (zY x j) (varT (xz x.sub[j] y n))) n y:=by rw [putC,if_neg c1,if_pos c3]
    have hww:=uA x.sub[j] y n
    have hvr:rightT (varT (xz x.sub[j] y n))=true:=je hww
    have hv1:sizeT (varT (xz x.sub[j] y n))=1:=rfl
    have hq:rightT (putT x.sub[j] (zY x j) (varT (xz x.sub[j] y n)))=true:=jX _ _ (Nat.le_refl _) hrp _ _ hvr
    have hsr:=size_ren x.sub[j] (zY x j) (xz x.sub[j] y n)
    rw [if_pos (by simp [c3.1,c3.2]),fresh14 hG2 hF zaJ zaJ,zaN]
    have hrec:zbN.f K x.sub[j] (zY x j) (⟨1,xz x.sub[j] y n,ByteArray.empty,0,[]⟩ : PTerm) (Gw.ins (xz x.sub[j] y n) 1 ([]:List (ByteArray × Int)))=some (putT x.sub[j] (zY x j) (varT (xz x.sub[j] y n))):=put14 K x.sub[j] (zY x j) (varT (xz x.sub[j] y n)) _ hrp hvr (fun z=>vL_one _ z) zaJ zaJ
    rw [hrec,zaN]
    have hrec2:=put14 K _ n y F hq hy hF zaJ zaJ
    by_cases h2:j=2
    ·have n1:nmJ x n y (j + 1)=nmJ x n y j:=by rw [e3,if_neg (fun q=>q.2 h2)]
     have o1:otJ x n y (j + 1)=xz x.sub[j] y n:=by rw [e4,if_pos ⟨hren,h2⟩]
     rw [if_pos (by simp [h2]),zaN]
     dsimp only
     rw [hrec2,zaN]
     show chk (inb (j:Int) (setJ (plS x n y) j).length) _=_
     rw [chk,if_pos hck,hst,n1,o1,hp]
     rfl
    ·have n1:nmJ x n y (j + 1)=xz x.sub[j] y n:=by rw [e3,if_pos ⟨hren,h2⟩]
     have o1:otJ x n y (j + 1)=otJ x n y j:=by rw [e4,if_neg (fun q=>h2 q.2)]
     rw [if_neg (by simp; omega),zaN]
     dsimp only
     rw [hrec2,zaN]
     show chk (inb (j:Int) (setJ (plS x n y) j).length) _=_
     rw [chk,if_pos hck,hst,n1,o1,hp]
     rfl
   ·have hren:¬ renC x n y j x.sub[j]:=fun q=>c3 q.2
    have hp:putC putT x n y j x.sub[j]=putT x.sub[j] n y:=by rw [putC,if_neg c1,if_neg c3]
    have n1:nmJ x n y (j + 1)=nmJ x n y j:=by rw [e3,if_neg (fun q=>hren q.1)]
    have o1:otJ x n y (j + 1)=otJ x n y j:=by rw [e4,if_neg (fun q=>hren q.1)]
    rw [if_neg (by simpa using c3),zaN]
    dsimp only
    rw [put14 K _ n y F hrp hy hF zaJ zaJ,zaN]
    show chk (inb (j:Int) (setJ (plS x n y) j).length) _=_
    rw [chk,if_pos hck,hst,n1,o1,hp]
    rfl)
  have h0:stP x n y 0=⟨x.kind,x.name,x.other,x.form,List.replicate x.sub.length PTerm.z⟩ := by
   unfold stP nmJ otJ; rw [if_neg zaJ,if_neg zaJ,setJ_0,plS_len]
  have h1:stP x n y (0 + x.sub.length)=putT x n y:=by
   unfold stP
   rw [Nat.zero_add,nmJ_end hr,otJ_end hr,jB n y hk]
   have:=setJ_end (plS x n y)
   rw [plS_len] at this
   rw [this]; rfl
  rw [h0,h1] at hloop
  have hloop:forS (fun i s=>zbN.b0 x K n F (zbN.f K) y i s) x.sub.length 0 (⟨x.kind,x.name,x.other,x.form,List.replicate x.sub.length PTerm.z⟩ : PTerm)=some (putT x n y):=hloop
  rw [hloop,zaN,PTerm.eta]
end
section
open Gw
mutual
def gD (b:Bool) (n:ByteArray) (a:Nat):PTerm→Nat
 | .mk k nm ot _ s=>if k=1 then (if nm=n then a else 1) else 1 + gDL b n a k nm ot 0 s
def gDL (b:Bool) (n:ByteArray) (a:Nat) (k:Int) (nm ot:ByteArray):Nat→List PTerm→Nat
 | _,[]=>0
 | i,y :: l=>max (if yn k nm ot i=n then (if b then depT y else 0) else gD b n a y) (gDL b n a k nm ot (i + 1) l)
end
theorem gD_eq (b:Bool) (n:ByteArray) (a:Nat) (x:PTerm):gD b n a x=if x.kind=1 then (if x.name=n then a else 1) else 1 + gDL b n a x.kind x.name x.other 0 x.sub:=by cases x; simp only [gD]; rfl
theorem gDL_take (b:Bool) (n:ByteArray) (a:Nat) (k:Int) (nm ot:ByteArray) : ∀ {l:List PTerm} {i j:Nat} {x:PTerm},l[j]? = some x→gDL b n a k nm ot i (l.take (j + 1))=max (gDL b n a k nm ot i (l.take j)) (if yn k nm ot (i + j)=n then (if b then depT x else 0) else gD b n a x)
 | [],_,_,_,h=>by simp at h
 | y :: l,i,0,x,h=>by simp at h; subst h; simp [gDL]
 | y :: l,i,j + 1,x,h=>by
  have:=gDL_take b n a k nm ot (l:=l) (i:=i + 1) (j:=j) (by simpa using h)
  simp only [List.take_succ_cons,gDL]
  rw [this,show i + 1 + j=i + (j + 1) by omega]; omega
mutual
theorem gD_le (n:ByteArray) (a:Nat) : ∀ x,gD false n a x ≤ gD true n a x∧gD true n a x ≤ max (gD false n a x) (depT x)
 | .mk k nm ot f s=>by
  simp only [gD,depT]
  by_cases hk:k=1
  ·simp only [if_pos hk]; omega
  ·simp only [if_neg hk]
   have:=gDL_le n a k nm ot 0 s
   omega
theorem gDL_le (n:ByteArray) (a:Nat) (k:Int) (nm ot:ByteArray) : ∀ (i:Nat) (l:List PTerm),gDL false n a k nm ot i l ≤ gDL true n a k nm ot i l∧gDL true n a k nm ot i l ≤ max (gDL false n a k nm ot i l) (depL l)
 | _,[]=>by simp [gDL]
 | i,y :: l=>by
  have h1:=gD_le n a y
  have h2:=gDL_le n a k nm ot (i + 1) l
  simp only [gDL,depL]
  by_cases e:yn k nm ot i=n
  ·simp only [if_pos e]
   simp only [if_true,Bool.false_eq_true,if_false]; omega
  ·simp only [if_neg e]; omega
end
theorem gD_low {b:Bool} {n:ByteArray} {a:Nat} {x:PTerm} (hb:gD b n a x ≤ gD true n a x) (ha:a ≤ 1024) : ∀ (d:Nat) (y:PTerm),depT y ≤ d→gD true n a y ≤ d + 1024
 | 0,y,h=>by have:=yj y; omega
 | d + 1,y,h=>by
  have hd:=ya y
  rw [gD_eq]
  by_cases hk:y.kind=1
  ·rw [if_pos hk]; split <;> omega
  rw [if_neg hk]
  have key : ∀ (l:List PTerm) (i:Nat),(∀ z ∈ l,depT z ≤ d)→gDL true n a y.kind y.name y.other i l ≤ d + 1024:=by
   intro l
   induction l with
   | nil=>intro i _; simp [gDL]
   | cons z l ih =>
    intro i hz
    have h1:=ih (i + 1) (fun w hw=>hz w (by simp [hw]))
    have h2:=gD_low hb ha d z (hz z zaK)
    have h3:=hz z zaK
    simp only [gDL]
    split
    ·simp only [if_true]; omega
    ·omega
  have:=key y.sub 0 (fun z hz=>by have:=xR _ hz; omega)
  omega
theorem cntL_le (n:ByteArray) (k:Int) (nm ot:ByteArray) : ∀ (l:List PTerm) (i:Nat),cntL n k nm ot i l ≤ sizeL l
 | [],i=>by simp [cntL,sizeL]
 | y :: l,i=>by
  have h1:=cntL_le n k nm ot l (i + 1)
  have h2:=cnt_le n y
  simp only [cntL,sizeL]; split <;> omega
theorem max_int (a b:Nat):(if (a:Int) < (b:Int) then (b:Int) else (a:Int))=((max a b:Nat):Int):=by
 split <;> omega
theorem grown14 : ∀ (K:Nat) (x:PTerm) (n:ByteArray) (a e:Nat),rightT x=true→sizeT x + 1100 ≤ K→sizeT x ≤ 65536→depT x ≤ 1024→1 ≤ a→a ≤ 65536→e ≤ 1024 →
  zbI.f K x n (a:Int) (e:Int)=some (((sizeT x + cntT n x * (a - 1):Nat):Int),((gD true n e x:Nat):Int))
 | 0,x,n,a,e,_,h,_,_,_,_,_=>by omega
 | K + 1,x,n,a,e,hr,h,hb,hdp,ha,ha2,he=>by
  have hs:=yk x
  have hd:=ya x
  have hl:=zaD x.sub
  show zbI.g (zbI.f K) K x n a e=_
  unfold zbI.g
  by_cases hk:x.kind=1
  ·rw [if_pos (by simpa using hk),gD_eq,if_pos hk,yQ,if_pos hk]
   have h0:x.sub=[]:=(xS hr).1 hk
   have hs1:sizeT x=1:=by rw [hs,h0]; rfl
   by_cases q:x.name=n
   ·rw [if_pos (by simpa using q),if_pos q,if_pos q,hs1]
    congr 2; omega
   ·rw [if_neg (by simpa using q),if_neg q,if_neg q,hs1]
    simp
  rw [if_neg (by simpa using hk),show ((x.sub.length:Int) - 0).toNat=x.sub.length by omega]
  have hmul : ∀ c:Nat,c ≤ 65536→c * (a - 1) ≤ 4294967296:=fun c hc=>Nat.le_trans (Nat.mul_le_mul hc (show a - 1 ≤ 65536 by omega)) zaI
  have hloop:=zaz (b:=fun i (s:Int × Int)=>zbI.b0 x K n (zbI.f K) a e i s.1 s.2) (inv:=fun i=>(((1 + sizeL (x.sub.take i) + cntL n x.kind x.name x.other 0 (x.sub.take i) * (a - 1):Nat):Int),((gDL true n e x.kind x.name x.other 0 (x.sub.take i):Nat):Int))) x.sub.length 0 (fun j _ hj=>by
   have hj:j < x.sub.length:=by omega
   have hjo:x.sub[j]? = some x.sub[j]:=List.getElem?_eq_getElem hj
   have hm:sizeT x.sub[j] ≤ sizeL x.sub:=y8 (List.getElem_mem hj)
   have hmd:depT x.sub[j] ≤ depL x.sub:=xR _ (List.getElem_mem hj)
   have hst:=sizeL_take hjo
   have hct:=cntL_take n x.kind x.name x.other (i:=0) hjo
   have hdt:=gDL_take true n e x.kind x.name x.other (i:=0) hjo
   rw [Nat.zero_add] at hct hdt
   have hsl:=sizeL_le (l:=x.sub) (j + 1)
   have hcl:=cntL_le n x.kind x.name x.other (x.sub.take j) 0
   have hm1:=hmul (cntL n x.kind x.name x.other 0 (x.sub.take j)) zaJ
   have hc2:=cnt_le n x.sub[j]
   have hm2:=hmul (cntT n x.sub[j]) zaJ
   show zbI.b0 x K n (zbI.f K) a e (j:Int) _ _=_
   unfold zbI.b0 zaX.f zbb.f
   rw [jq hj,zaN,show (1025:Int)=((1025:Nat):Int) from rfl,deep_some K x.sub[j] 1025 zaJ zaJ zaJ zaJ]
   simp only [zaN]
   rw [bind14,zaN]
   by_cases q:zY x j=n
   ·have q':yn x.kind x.name x.other j=n:=q
    rw [if_neg (by simpa using q)]
    rw [hst,hct,hdt,if_pos q',if_pos q']
    have e1:(if true=true then depT x.sub[j] else 0)=depT x.sub[j]:=rfl
    rw [e1,show min (sizeT x.sub[j]) 65537=sizeT x.sub[j] by omega,show min (depT x.sub[j]) 1025=depT x.sub[j] by omega,max_int,Nat.add_zero]
    rw [wrap_small ⟨by omega,by omega⟩]
    congr 2; omega
   ·have q':¬ yn x.kind x.name x.other j=n:=q
    rw [if_pos (by simpa using q),grown14 K x.sub[j] n a e (xY hr hj) zaJ zaJ zaJ ha ha2 he,zaN]
    rw [hst,hct,hdt,if_neg q',if_neg q',max_int]
    rw [wrap_small ⟨by omega,by omega⟩]
    rw [Nat.add_mul]
    congr 2; omega)
  have h0:(((1 + sizeL (x.sub.take 0) + cntL n x.kind x.name x.other 0 (x.sub.take 0) * (a - 1):Nat):Int),((gDL true n e x.kind x.name x.other 0 (x.sub.take 0):Nat):Int))=((1:Int),(0:Int)):=by
   rw [List.take_zero]; simp [sizeL,cntL,gDL]
  rw [h0,Nat.zero_add,List.take_length] at hloop
  have hloop:forS (fun i (s:Int × Int)=>zbI.b0 x K n (zbI.f K) a e i s.1 s.2) x.sub.length 0 (1,0)=_:=hloop
  rw [hloop,zaN,gD_eq,if_neg hk,yQ,if_neg hk,hs]
  have hlow:=gD_low (b:=true) (n:=n) (a:=e) (x:=x) (Nat.le_refl _) he _ x (Nat.le_refl _)
  rw [gD_eq,if_neg hk] at hlow
  rw [wrap_small ⟨by omega,by omega⟩]
  congr 2; omega
end
section
open Gw
end
section
open Gw
end
section
open Gw
def err:TR→Option (Int × List Int)
 | .ok _=>none
 | .no c w=>some (c,w.reverse)
abbrev Tc:Type:=PChecker→PTerm→List (ByteArray × Int)→Option (Int × Option (Int × List Int))
abbrev Cc:Type:=PChecker→PTerm→List (ByteArray × Int)→Int→Option (Option (Int × List Int))
def Sok (M:List Nd) (s:Sc):Prop := ∀ q ∈ s,inb q.2 M.length=true
def Tells (M:List Nd) (r:Option (Int × Option (Int × List Int))) (t:TR):Prop := ∃ i,r=some (i,err t) ∧ ∀ f,t = .ok f→i=f∧inb f M.length=true
section
variable {M:List Nd} {x:PTerm} {k:Nat} {T:Tc} {C:Cc}
structure Parts (M:List Nd) (k:Nat) (x:PTerm) (T:Tc) (C:Cc):Prop where
 told : ∀ i,inb i x.sub.length=true → ∀ s,Sok M s→Tells M (T ⟨some M⟩ (at_ PTerm.z x.sub i) s) (tyS M k (at_ PTerm.z x.sub i) s none)
 chkd : ∀ i,inb i x.sub.length=true → ∀ s,Sok M s → ∀ id,inb id M.length=true→C ⟨some M⟩ (at_ PTerm.z x.sub i) s id=some (err (tyS M k (at_ PTerm.z x.sub i) s (some id)))
end
end
section
open Gw
end
section
open Gw
-- nodes,levels,what is right,as the document tells them
end
section
open Gw
set_option maxRecDepth 4000
theorem xU {x:PTerm}:x6 x=0↔sizeT x ≤ 65536∧depT x ≤ 1024∧rightT x=true:=by
 unfold x6
 by_cases h:65536 < sizeT x∨1024 < depT x
 ·rw [if_pos h]; constructor
  ·intro q; exact absurd q zaI
  ·intro q; omega
 ·rw [if_neg h]
  by_cases r:rightT x=true
  ·rw [if_pos r]; exact ⟨fun _=>⟨by omega,by omega,r⟩,fun _=>rfl⟩
  ·rw [if_neg r]; exact ⟨fun q=>absurd q zaI,fun q=>absurd q.2.2 r⟩
def putV (x:PTerm) (n:ByteArray) (y:PTerm):PTerm × Int :=
 if x6 x ≠ 0 then (PTerm.z,x6 x) else if x6 y ≠ 0 then (PTerm.z,x6 y) else if ¬ isWord n then (PTerm.z,32)
 else if 65536 < sizeT x + cntT n x * (sizeT y - 1)∨1024 < gD true n (depT y) x then (PTerm.z,121) else (putT x n y,0)
theorem Put14 {K:Nat} {x:PTerm} {n:ByteArray} {y:PTerm} (hK:200000 ≤ K) (hx:nmT x) (hy:nmT y) (hn:n.size < 9223372036854775808):zbO.f K x n y=some (putV x n y):=by
 unfold zbO.f putV
 rw [jM zaJ hx,zaN]
 by_cases cx:x6 x=0
 rotate_left
 ·rw [if_pos (by simpa using cx),if_pos cx]; rfl
 rw [if_neg (by simpa using cx),if_neg (by simpa using cx),jM zaJ hy,zaN]
 by_cases cy:x6 y=0
 rotate_left
 ·rw [if_pos (by simpa using cy),if_pos cy]; rfl
 rw [if_neg (by simpa using cy),if_neg (by simpa using cy)]
 unfold zaS.f
 rw [chk,if_pos (by simpa using hn),zaN]
 by_cases w:isWord n
 rotate_left
 ·rw [if_pos (by simpa using w),if_pos w]; rfl
 obtain ⟨x1,x2,x3⟩ := xU.1 cx
 obtain ⟨y1,y2,y3⟩ := xU.1 cy
 have ys:=jY y
 rw [if_neg (by simpa using w),if_neg (by simpa using w)]
 unfold zaX.f zbb.f
 rw [zaN,show (1025:Int)=((1025:Nat):Int) from rfl,deep_some K y 1025 zaJ zaJ zaJ zaJ]
 simp only [zaN]
 rw [show min (sizeT y) 65537=sizeT y by omega,show min (depT y) 1025=depT y by omega,grown14 K x n (sizeT y) (depT y) x3 zaJ x1 x2 ys y1 y2,zaN]
 obtain ⟨F,hF,hF2⟩ := freely14 (K:=K) (x:=y) zaJ zaJ
 by_cases c:65536 < sizeT x + cntT n x * (sizeT y - 1)∨1024 < gD true n (depT y) x
 ·rw [if_pos c,if_pos]
  ·rfl
  ·rw [Bool.or_eq_true_iff]
   rcases c with c | c
   ·exact .inl (decide_eq_true zaJ)
   ·exact .inr (decide_eq_true zaJ)
 ·rw [if_neg c,if_neg,hF,zaN,put14 K x n y F x3 y3 hF2 zaJ zaJ]
  ·rfl
  ·rw [Bool.or_eq_true_iff]
   rintro (q | q)
   ·have q:=of_decide_eq_true q; exact c (.inl zaJ)
   ·have q:=of_decide_eq_true q; exact c (.inr zaJ)
end
section
open Gw
abbrev kid (x:PTerm) (i:Int):PTerm:=at_ PTerm.z x.sub i
def besV (M:List Nd) (p:PTerm) (k f:Int):Int:=if p.kind=k then 1 else if p.kind=11∧(kid p 0).kind=k∧(nd M p.form).kind=f then 2 else 0
def rowV (M:List Nd) (x:PTerm):Int :=
 if x.kind=3 then besV M (kid x 0) 2 5
 else if x.kind=5∨x.kind=6 then (if besV M (kid x 0) 4 3=0 then 0 else 2 + besV M (kid x 0) 4 3)
 else if x.kind=9 then (if besV M (kid x 0) 7 4 ≠ 0 then 4 + besV M (kid x 0) 7 4 else if besV M (kid x 0) 8 4 ≠ 0 then 4 + besV M (kid x 0) 8 4 else 0)
 else if x.kind=12 then 7
 else if x.kind=11 then (if (kid x 0).kind=1∨(kid x 0).kind=3∨(kid x 0).kind=5∨(kid x 0).kind=6∨(kid x 0).kind=11 then 8 else 0)
 else 0
theorem zac {x:PTerm} (hr:rightT x=true):(x.sub.length:Int)=vu x.kind:=(ym hr).len.symm
theorem kid_at {x:PTerm} {i:Nat} (h:i < x.sub.length):kid x (i:Int)=x.sub[i]:=jq h
theorem kN {x:PTerm} (hr:rightT x=true) {i:Nat} (h:i < x.sub.length):rightT (kid x (i:Int))=true:=by rw [kid_at h]; exact xY hr h
theorem nd_at {M:List Nd} {i:Int} (h:inb i M.length=true):at_ Nd.z M i=nd M i:=by
 have h2:uB M i=true:=by simpa [uB,inb] using h
 unfold nd nodeS
 rw [if_pos h2]; rfl
theorem beside_doc {M:List Nd} {p:PTerm} (hr:rightT p=true) (hf:p.kind=11→inb p.form M.length=true) {k f:Int} : ∃ q n,zcz.f (some M) p k f=some (q,n,decide (besV M p k f=2),decide (besV M p k f ≠ 0))∧(besV M p k f=1→q=p)∧(besV M p k f=2→q=kid p 0∧n=nd M p.form):=by
 unfold zcz.f
 by_cases h1:p.kind=k
 ·have hb:besV M p k f=1:=by unfold besV; rw [if_pos h1]
  rw [if_pos (by simpa using h1),hb]
  exact ⟨p,Nd.z,rfl,fun _=>rfl,fun q=>absurd q zaI⟩
 rw [if_neg (by simpa using h1)]
 by_cases h11:p.kind=11
 ·have hl:p.sub.length=1:=(xS hr).2.2.2.2 h11
  have hi:=hf h11
  have hi':inb p.form ((some M).getD []).length=true:=hi
  have hin:inb 0 p.sub.length=true:=by rw [hl]; rfl
  rw [chk,if_pos (by rw [hin]; simp),chk,if_pos (show (some M).isSome=true from rfl),chk,if_pos (by rw [hi']; simp)]
  have hat:at_ Nd.z ((some M).getD []) p.form=nd M p.form:=nd_at hi
  by_cases c:(kid p 0).kind=k∧(nd M p.form).kind=f
  ·have hb:besV M p k f=2:=by unfold besV; rw [if_neg h1,if_pos ⟨h11,c⟩]
   have c2:(at_ PTerm.z p.sub 0).kind=k:=c.1
   rw [hb,hat,if_pos (by simp [h11,c2,c.2]),chk,if_pos hin,chk,if_pos hi']
   exact ⟨_,_,rfl,fun q=>absurd q zaI,fun _=>⟨rfl,rfl⟩⟩
  ·have hb:besV M p k f=0:=by unfold besV; rw [if_neg h1,if_neg (fun q=>c q.2)]
   rw [hb,hat,if_neg (by
    intro q
    rw [Bool.and_eq_true_iff,Bool.and_eq_true_iff] at q
    exact c ⟨of_decide_eq_true q.1.2,of_decide_eq_true q.2⟩)]
   exact ⟨_,_,rfl,fun q=>absurd q zaI,fun q=>absurd q zaI⟩
 ·have hb:besV M p k f=0:=by unfold besV; rw [if_neg h1,if_neg (fun q=>h11 q.1)]
  rw [hb,chk,if_pos (by simp [h11]),chk,if_pos (show (some M).isSome=true from rfl),chk,if_pos (by simp [h11]),if_neg (by simp [h11])]
  exact ⟨_,_,rfl,fun q=>absurd q zaI,fun q=>absurd q zaI⟩
theorem vU {x:PTerm} {k:Int} (h:0 < x.sub.length):zbj.f x k=some (decide ((kid x 0).kind=k)):=by
 unfold zbj.f
 have hin:inb 0 x.sub.length=true:=vt zaJ zaJ
 rw [chk,if_pos (by rw [hin]; simp)]
 have:decide (0 < (x.sub.length:Int))=true:=decide_eq_true zaJ
 rw [this]; rfl
theorem uw {M:List Nd} {x:PTerm} (hl:0 < x.sub.length) (hr:rightT (kid x 0)=true) (hf:(kid x 0).kind=11→inb (kid x 0).form M.length=true) {k f:Int} (hk:k ≠ 11):zbk.f (some M) x k f=some (decide (besV M (kid x 0) k f=2)):=by
 unfold zbk.f besV
 have hin:inb 0 x.sub.length=true:=vt zaJ zaJ
 rw [vU hl,zaN,chk,if_pos (by rw [hin]; simp)]
 by_cases h11:(kid x 0).kind=11
 ·have hl1:(kid x 0).sub.length=1:=(xS hr).2.2.2.2 h11
  have hne:¬ (kid x 0).kind=k:=by rw [h11]; exact fun q=>hk q.symm
  rw [if_neg hne,if_pos (by simp [h11])]
  rw [show zbj.f (at_ PTerm.z x.sub 0) k=some (decide ((kid (kid x 0) 0).kind=k)) from vU (x:=kid x 0) zaJ,zaN]
  by_cases c:(kid (kid x 0) 0).kind=k
  ·rw [if_neg (by simp [h11,c]),chk,if_pos hin]
   have hi:=hf h11
   unfold zaO.f
   simp only [Option.map_some,zaN]
   show some (decide ((nd M (kid x 0).form).kind=f))=_
   by_cases q:(nd M (kid x 0).form).kind=f
   ·rw [if_pos ⟨h11,c,q⟩]; simp [q]
   ·rw [if_neg (fun z=>q z.2.2)]; simp [q]
  ·rw [if_pos (by simp [c]),if_neg (fun z=>c z.2.1)]; rfl
 ·rw [if_neg (by simp [h11]),zaN,if_pos (by simp [h11])]
  by_cases c:(kid x 0).kind=k
  ·rw [if_pos c]; rfl
  ·rw [if_neg c,if_neg (fun z=>h11 z.1)]; rfl
end
section
open Gw
theorem j8 (M:List Nd) (p:PTerm) (k f:Int):besV M p k f=0∨besV M p k f=1∨besV M p k f=2:=by
 unfold besV; split
 ·exact .inr (.inl rfl)
 ·split
  ·exact .inr (.inr rfl)
  ·exact .inl rfl
theorem row_some {n b:Int} (hn:0 ≤ n∧n ≤ 10) (hb:b=0∨b=1∨b=2):zcA.f n (decide (b=2)) (decide (b ≠ 0))=some (if b=0 then 0 else n - 1 + b):=by
 unfold zcA.f
 rcases hb with rfl | rfl | rfl
 ·rfl
 ·show some n=some (n - 1 + 1); congr 1; omega
 ·show some (IntKind.i64.wrap (n + 1))=some (n - 1 + 2)
  rw [wrap_small ⟨by omega,by omega⟩]; congr 1; omega
section
variable {M:List Nd} {x:PTerm}
theorem kids {hr:rightT x=true}:(x.kind=3∨x.kind=12→x.sub.length=2)∧(x.kind=5∨x.kind=6∨x.kind=11→x.sub.length=1)∧(x.kind=9→x.sub.length=3):=by
 have h:=zac hr
 refine ⟨fun k=>?_,fun k=>?_,fun k=>?_⟩
 ·rcases k with k | k <;> rw [k] at h <;> simp [vu] at h <;> omega
 ·rcases k with k | k | k <;> rw [k] at h <;> simp [vu] at h <;> omega
 ·rw [k] at h; simp [vu] at h; omega
theorem Row12 (hr:rightT x=true) (hf:(kid x 0).kind=11→inb (kid x 0).form M.length=true):zcB.f (some M) x=some (rowV M x):=by
 obtain ⟨l2,l1,l3⟩ := kids (hr:=hr)
 unfold zcB.f rowV
 by_cases k3:x.kind=3
 ·have hl:=l2 (.inl k3)
  have hin:inb 0 x.sub.length=true:=by rw [hl]; rfl
  obtain ⟨q,n,e,_⟩ := beside_doc (M:=M) (p:=kid x 0) (kN hr (i:=0) zaJ) hf (k:=2) (f:=5)
  rw [if_pos (by simpa using k3),if_pos k3,chk,if_pos hin,e,zaN]
  show ((zcA.f 1 (decide (besV M (kid x 0) 2 5=2)) (decide (besV M (kid x 0) 2 5 ≠ 0))).bind fun r17=>some r17)=_
  rw [row_some ⟨by decide,by decide⟩ (j8 _ _ _ _),zaN]
  congr 1; split <;> omega
 rw [if_neg (by simpa using k3),if_neg k3]
 have hb:(if decide (x.kind=5)=true then some (decide (x.kind=5)) else some (decide (x.kind=6)))=some (decide (x.kind=5∨x.kind=6)):=by
  by_cases k5:x.kind=5 <;> simp [k5]
 rw [hb,zaN]
 by_cases k56:x.kind=5∨x.kind=6
 ·have hl:=l1 zaJ
  have hin:inb 0 x.sub.length=true:=by rw [hl]; rfl
  obtain ⟨q,n,e,_⟩ := beside_doc (M:=M) (p:=kid x 0) (kN hr (i:=0) zaJ) hf (k:=4) (f:=3)
  rw [if_pos (decide_eq_true k56),if_pos k56,chk,if_pos hin,e,zaN]
  show ((zcA.f 3 (decide (besV M (kid x 0) 4 3=2)) (decide (besV M (kid x 0) 4 3 ≠ 0))).bind fun r17=>some r17)=_
  rw [row_some ⟨by decide,by decide⟩ (j8 _ _ _ _),zaN]
  congr 1
 rw [if_neg (by simpa using k56),if_neg k56]
 by_cases k9:x.kind=9
 ·have hl:=l3 k9
  have hin:inb 0 x.sub.length=true:=by rw [hl]; rfl
  obtain ⟨q,n,e,_⟩ := beside_doc (M:=M) (p:=kid x 0) (kN hr (i:=0) zaJ) hf (k:=7) (f:=4)
  obtain ⟨q2,n2,e2,_⟩ := beside_doc (M:=M) (p:=kid x 0) (kN hr (i:=0) zaJ) hf (k:=8) (f:=4)
  rw [if_pos (by simpa using k9),if_pos k9,chk,if_pos hin,e,zaN]
  by_cases z:besV M (kid x 0) 7 4=0
  ·rw [if_pos (by show (!decide (besV M (kid x 0) 7 4 ≠ 0))=true; simp [z]),chk,if_pos hin,e2,zaN,if_neg (fun c=>c z)]
   show ((zcA.f 5 (decide (besV M (kid x 0) 8 4=2)) (decide (besV M (kid x 0) 8 4 ≠ 0))).bind fun r17=>some r17)=_
   rw [row_some ⟨by decide,by decide⟩ (j8 _ _ _ _),zaN]
   by_cases z8:besV M (kid x 0) 8 4=0
   ·rw [if_pos z8,if_neg (fun c=>c z8)]
   ·rw [if_neg z8,if_pos z8]; congr 1
  ·rw [if_neg (by show ¬ (!decide (besV M (kid x 0) 7 4 ≠ 0))=true; simp [z]),if_pos z]
   show ((zcA.f 5 (decide (besV M (kid x 0) 7 4=2)) (decide (besV M (kid x 0) 7 4 ≠ 0))).bind fun r17=>some r17)=_
   rw [row_some ⟨by decide,by decide⟩ (j8 _ _ _ _),zaN,if_neg z]
   congr 1
 rw [if_neg (by simpa using k9),if_neg k9]
 by_cases k12:x.kind=12
 ·rw [if_pos (by simpa using k12),if_pos k12]
 rw [if_neg (by simpa using k12),if_neg k12]
 by_cases k11:x.kind=11
 ·have hl:=l1 zaJ
  have hin:inb 0 x.sub.length=true:=by rw [hl]; rfl
  rw [if_pos (by simpa using k11),if_pos k11,chk,if_pos hin]
  have hc:(((((decide ((at_ PTerm.z x.sub 0).kind=1)) || (decide ((at_ PTerm.z x.sub 0).kind=3))) || (decide ((at_ PTerm.z x.sub 0).kind=5))) || (decide ((at_ PTerm.z x.sub 0).kind=6))) || (decide ((at_ PTerm.z x.sub 0).kind=11)))=decide ((kid x 0).kind=1∨(kid x 0).kind=3∨(kid x 0).kind=5∨(kid x 0).kind=6∨(kid x 0).kind=11):=by
   rw [show at_ PTerm.z x.sub 0=kid x 0 from rfl,Bool.eq_iff_iff]; simp only [Bool.or_eq_true,decide_eq_true_eq]; omega
  rw [hc]
  by_cases c:(kid x 0).kind=1∨(kid x 0).kind=3∨(kid x 0).kind=5∨(kid x 0).kind=6∨(kid x 0).kind=11
  ·rw [decide_eq_true c,if_pos rfl,if_pos c]
  ·rw [decide_eq_false c,if_neg zaI,if_neg c]
 ·rw [if_neg (by simpa using k11),if_neg k11]
theorem row_iff:(rowV M x=1↔x.kind=3∧(kid x 0).kind=2)∧(rowV M x=2↔x.kind=3∧besV M (kid x 0) 2 5=2)∧(rowV M x=3↔(x.kind=5∨x.kind=6)∧(kid x 0).kind=4)∧(rowV M x=4↔(x.kind=5∨x.kind=6)∧besV M (kid x 0) 4 3=2) ∧
  (rowV M x=5↔x.kind=9∧((kid x 0).kind=7∨(kid x 0).kind=8))∧(rowV M x=6↔x.kind=9∧(besV M (kid x 0) 8 4=2∨besV M (kid x 0) 7 4=2))∧(rowV M x=7↔x.kind=12) ∧
  (rowV M x=8↔x.kind=11∧((kid x 0).kind=1∨(kid x 0).kind=3∨(kid x 0).kind=5∨(kid x 0).kind=6∨(kid x 0).kind=11))∧0 ≤ rowV M x∧rowV M x ≤ 8:=by
 have v25:=j8 M (kid x 0) 2 5
 have v43:=j8 M (kid x 0) 4 3
 have v74:=j8 M (kid x 0) 7 4
 have v84:=j8 M (kid x 0) 8 4
 have one : ∀ k f,(besV M (kid x 0) k f=1↔(kid x 0).kind=k):=fun k f=>by
  unfold besV
  by_cases h:(kid x 0).kind=k
  ·rw [if_pos h]; simp [h]
  ·rw [if_neg h]; constructor
   ·intro q; split at q <;> omega
   ·intro q; exact absurd q h
 have two : ∀ k f,besV M (kid x 0) k f=2→(kid x 0).kind=11∧(kid (kid x 0) 0).kind=k:=fun k f q=>by
  unfold besV at q
  split at q
  ·omega
  ·split at q
   ·rename_i z; exact ⟨z.1,z.2.1⟩
   ·omega
 have o25:=one 2 5; have o43:=one 4 3; have o74:=one 7 4; have o84:=one 8 4
 have t74:=two 7 4; have t84:=two 8 4
 by_cases k3:x.kind=3
 ·clear v43 v74 v84 o43 o74 o84 t74 t84
  have e:rowV M x=besV M (kid x 0) 2 5:=by unfold rowV; rw [if_pos k3]
  refine ⟨?_,?_,?_,?_,?_,?_,?_,?_,?_,?_⟩ <;> omega
 by_cases k56:x.kind=5∨x.kind=6
 ·clear v25 v74 v84 o25 o74 o84 t74 t84
  by_cases z:besV M (kid x 0) 4 3=0
  ·have e:rowV M x=0:=by unfold rowV; rw [if_neg k3,if_pos k56,if_pos z]
   refine ⟨?_,?_,?_,?_,?_,?_,?_,?_,?_,?_⟩ <;> omega
  ·have e:rowV M x=2 + besV M (kid x 0) 4 3:=by unfold rowV; rw [if_neg k3,if_pos k56,if_neg z]
   refine ⟨?_,?_,?_,?_,?_,?_,?_,?_,?_,?_⟩ <;> omega
 by_cases k9:x.kind=9
 ·clear v25 v43 o25 o43
  have t74:=fun q=>(t74 q).1
  have t84:=fun q=>(t84 q).1
  by_cases z:besV M (kid x 0) 7 4=0
  ·by_cases z8:besV M (kid x 0) 8 4=0
   ·have e:rowV M x=0:=by unfold rowV; rw [if_neg k3,if_neg k56,if_pos k9,if_neg (fun c=>c z),if_neg (fun c=>c z8)]
    refine ⟨?_,?_,?_,?_,?_,?_,?_,?_,?_,?_⟩ <;> omega
   ·have e:rowV M x=4 + besV M (kid x 0) 8 4:=by unfold rowV; rw [if_neg k3,if_neg k56,if_pos k9,if_neg (fun c=>c z),if_pos z8]
    refine ⟨?_,?_,?_,?_,?_,?_,?_,?_,?_,?_⟩ <;> omega
  ·have e:rowV M x=4 + besV M (kid x 0) 7 4:=by unfold rowV; rw [if_neg k3,if_neg k56,if_pos k9,if_pos z]
   refine ⟨?_,?_,?_,?_,?_,?_,?_,?_,?_,?_⟩ <;> omega
 clear v25 v43 v74 v84 o25 o43 o74 o84 t74 t84
 by_cases k12:x.kind=12
 ·have e:rowV M x=7:=by unfold rowV; rw [if_neg k3,if_neg k56,if_neg k9,if_pos k12]
  refine ⟨?_,?_,?_,?_,?_,?_,?_,?_,?_,?_⟩ <;> omega
 by_cases k11:x.kind=11
 ·by_cases z:(kid x 0).kind=1∨(kid x 0).kind=3∨(kid x 0).kind=5∨(kid x 0).kind=6∨(kid x 0).kind=11
  ·have e:rowV M x=8:=by unfold rowV; rw [if_neg k3,if_neg k56,if_neg k9,if_neg k12,if_pos k11,if_pos z]
   refine ⟨?_,?_,?_,?_,?_,?_,?_,?_,?_,?_⟩ <;> omega
  ·have e:rowV M x=0:=by unfold rowV; rw [if_neg k3,if_neg k56,if_neg k9,if_neg k12,if_pos k11,if_neg z]
   refine ⟨?_,?_,?_,?_,?_,?_,?_,?_,?_,?_⟩ <;> omega
 ·have e:rowV M x=0:=by unfold rowV; rw [if_neg k3,if_neg k56,if_neg k9,if_neg k12,if_neg k11]
  refine ⟨?_,?_,?_,?_,?_,?_,?_,?_,?_,?_⟩ <;> omega
theorem dec_of {p q:Prop} [Decidable p] [Decidable q] (h:p↔q):decide p=decide q:=by rw [Bool.eq_iff_iff,decide_eq_true_eq,decide_eq_true_eq]; exact h
theorem rules14 (hr:rightT x=true) (hf:(kid x 0).kind=11→inb (kid x 0).form M.length=true) :
  zbq.f (some M) x=some (decide (rowV M x=1))∧zbr.f (some M) x=some (decide (rowV M x=2))∧zbs.f (some M) x=some (decide (rowV M x=3))∧zbu.f (some M) x=some (decide (rowV M x=4)) ∧
  zbw.f (some M) x=some (decide (rowV M x=5))∧zbx.f (some M) x=some (decide (rowV M x=6))∧zby.f (some M) x=some (decide (rowV M x=7))∧zbz.f (some M) x=some (decide (rowV M x=8)):=by
 obtain ⟨l2,l1,l3⟩ := kids (hr:=hr)
 obtain ⟨r1,r2,r3,r4,r5,r6,r7,r8,_⟩ := row_iff (M:=M) (x:=x)
 have hk0:0 < x.sub.length→rightT (kid x 0)=true:=fun h=>kN hr (i:=0) h
 rw [dec_of r1,dec_of r2,dec_of r3,dec_of r4,dec_of r5,dec_of r6,dec_of r7,dec_of r8]
 refine ⟨?_,?_,?_,?_,?_,?_,?_,?_⟩
 ·unfold zbq.f
  by_cases k:x.kind=3
  ·rw [if_pos (by simpa using k),vU (by have:=l2 (.inl k); omega),zaN]; simp [k]
  ·rw [if_neg (by simpa using k),zaN]; simp [k]
 ·unfold zbr.f
  by_cases k:x.kind=3
  ·have hl:=l2 (.inl k)
   rw [if_pos (by simpa using k),uw zaJ (hk0 zaJ) hf zaI,zaN]; simp [k]
  ·rw [if_neg (by simpa using k),zaN]; simp [k]
 ·unfold zbs.f zbm.f
  rw [zaN]
  by_cases k:x.kind=5∨x.kind=6
  ·have hl:=l1 zaJ
   have kb:((decide (x.kind=5)) || (decide (x.kind=6)))=true:=by simpa using k
   rw [kb,if_pos rfl,vU zaJ,zaN]; simp [k]
  ·have kb:((decide (x.kind=5)) || (decide (x.kind=6)))=false:=by simpa using k
   rw [kb,if_neg zaI,zaN]; simp [k]
 ·unfold zbu.f zbm.f
  rw [zaN]
  by_cases k:x.kind=5∨x.kind=6
  ·have hl:=l1 zaJ
   have kb:((decide (x.kind=5)) || (decide (x.kind=6)))=true:=by simpa using k
   rw [kb,if_pos rfl,uw zaJ (hk0 zaJ) hf zaI,zaN]; simp [k]
  ·have kb:((decide (x.kind=5)) || (decide (x.kind=6)))=false:=by simpa using k
   rw [kb,if_neg zaI,zaN]; simp [k]
 ·unfold zbw.f zbo.f
  by_cases k:x.kind=9
  ·have hl:=l3 k
   rw [vU zaJ,zaN,if_pos (by simpa using k),vU zaJ,zaN]
   by_cases c7:(kid x 0).kind=7
   ·rw [if_neg (by simp [c7]),zaN,zaN]; simp [k,c7]
   ·rw [if_pos (by simp [k,c7]),zaN,zaN]; simp [k,c7]
  ·have hh : ∃ b,zbj.f x 8=some b:=by
    unfold zbj.f
    by_cases hl:0 < x.sub.length
    ·rw [chk,if_pos (by rw [show inb 0 x.sub.length=true from vt zaJ zaJ]; simp)]; exact ⟨_,rfl⟩
    ·rw [chk,if_pos (by rw [show decide (0 < (x.sub.length:Int))=false from decide_eq_false zaJ]; rfl)]; exact ⟨_,rfl⟩
   obtain ⟨b,hb⟩ := hh
   rw [hb,zaN,if_neg (by simpa using k),zaN,if_neg (by simp [k]),zaN,zaN]; simp [k]
 ·unfold zbx.f zbp.f
  by_cases k:x.kind=9
  ·have hl:=l3 k
   rw [uw zaJ (hk0 zaJ) hf zaI,zaN]
   by_cases c8:besV M (kid x 0) 8 4=2
   ·rw [if_neg (by simp [c8]),zaN,zaN]; simp [k,c8]
   ·rw [if_pos (by simp [k,c8]),uw zaJ (hk0 zaJ) hf zaI,zaN,zaN]; simp [k,c8]
  ·have hh : ∃ b,zbk.f (some M) x 8 4=some b:=by
    by_cases hl:0 < x.sub.length
    ·exact ⟨_,uw hl (hk0 hl) hf zaI⟩
    ·unfold zbk.f zbj.f
     have d0:decide (0 < (x.sub.length:Int))=false:=decide_eq_false zaJ
     rw [d0]
     exact ⟨false,rfl⟩
   obtain ⟨b,hb⟩ := hh
   rw [hb,zaN,if_neg (by simp [k]),zaN,zaN]; simp [k]
 ·rfl
 ·unfold zbz.f
  by_cases k:x.kind=11
  ·have hl:=l1 zaJ
   rw [if_neg (by simpa using k),chk,if_pos (by rw [hl]; rfl),show at_ PTerm.z x.sub 0=kid x 0 from rfl]
   by_cases c1:(kid x 0).kind=1
   ·simp [k,c1]
   by_cases c3:(kid x 0).kind=3
   ·simp [k,c3]
   by_cases c5:(kid x 0).kind=5
   ·simp [k,c5]
   by_cases c6:(kid x 0).kind=6
   ·simp [k,c6]
   by_cases c11:(kid x 0).kind=11
   ·simp [k,c11]
   ·simp [k,c1,c3,c5,c6,c11]
  ·rw [if_pos (by simpa using k)]; simp [k]
theorem fits14 (hr:rightT x=true) (hf:(kid x 0).kind=11→inb (kid x 0).form M.length=true):zbW.f (some M) x=some (if rowV M x=0 then (8,false) else (rowV M x - 1,true)):=by
 obtain ⟨e1,e2,e3,e4,e5,e6,e7,e8⟩ := rules14 (M:=M) hr hf
 have hb:=(row_iff (M:=M) (x:=x)).2.2.2.2.2.2.2.2
 unfold zbW.f
 rw [e1,e2,e3,e4,e5,e6,e7,e8]
 simp only [zaN]
 generalize rowV M x=r at *
 have:r=0∨r=1∨r=2∨r=3∨r=4∨r=5∨r=6∨r=7∨r=8:=by omega
 rcases this with rfl | rfl | rfl | rfl | rfl | rfl | rfl | rfl | rfl <;> rfl
end
end
section
open Gw
theorem at_or {l:List PTerm} (i:Int):at_ PTerm.z l i ∈ l∨at_ PTerm.z l i=PTerm.z:=by
 unfold at_
 rw [List.getD_eq_getElem?_getD]
 by_cases h:i.toNat < l.length
 ·left; rw [List.getElem?_eq_getElem h]; exact List.getElem_mem h
 ·right; rw [List.getElem?_eq_none zaJ]; rfl
end
section
open Gw
abbrev theT (a:PTerm) (f:Int):PTerm:=⟨11,⟨#[]⟩,⟨#[]⟩,f,[a]⟩
def kG (x:PTerm) (a:PTerm) (b:Bool):PTerm × Int:=if b then putV (kid x 2) x.other a else putV (kid x 1) x.name a
def xV (M:List Nd) (x:PTerm):PTerm × Int :=
 let p:=kid x 0; let q:=kid p 0; let f:=nd M p.form
 if rowV M x=1 then putV (kid p 0) p.name (kid x 1)
 else if rowV M x=2 then (let r:=putV (kid q 0) q.name (theT (kid x 1) f.l); if r.2 ≠ 0 then r else (theT r.1 f.r,0))
 else if rowV M x=3 then (if x.kind=6 then kid p 1 else kid p 0,0)
 else if rowV M x=4 then (if x.kind=6 then theT (kid q 1) f.r else theT (kid q 0) f.l,0)
 else if rowV M x=5 then kG x (kid p 0) (decide (p.kind=8))
 else if rowV M x=6 then kG x (theT (kid q 0) (if besV M p 8 4=2 then f.r else f.l)) (decide (besV M p 8 4=2))
 else if rowV M x=7 then putV (kid x 1) x.name (kid x 0)
 else if rowV M x=8 then (kid x 0,0)
 else (PTerm.z,140)
theorem uD {M:List Nd} {p:PTerm} {k f:Int} (h:besV M p k f=2):p.kind=11∧(kid p 0).kind=k∧(nd M p.form).kind=f:=by
 unfold besV at h
 by_cases c:p.kind=k
 ·rw [if_pos c] at h; exact absurd h zaI
 ·rw [if_neg c] at h
  by_cases c2:p.kind=11∧(kid p 0).kind=k∧(nd M p.form).kind=f
  ·exact c2
  ·rw [if_neg c2] at h; exact absurd h zaI
theorem nm_z:nmT PTerm.z:=by unfold PTerm.z; simp [nmT,nmL]
theorem nm_mem : ∀ {l:List PTerm},nmL l → ∀ y ∈ l,nmT y
 | [],_,_,h=>by simp at h
 | a :: l,h,y,hy=>by
  rcases List.mem_cons.1 hy with rfl | hy
  ·exact h.1
  ·exact nm_mem h.2 y hy
theorem yN {x:PTerm} (h:nmT x) (i:Int):nmT (kid x i):=by
 rcases at_or (l:=x.sub) i with q | q
 ·exact nm_mem ((kv x).1 h).2.2 _ q
 ·unfold kid; rw [q]; exact nm_z
theorem nm_the {a:PTerm} (h:nmT a) (f:Int):nmT (theT a f):=by
 rw [kv]; exact ⟨by show (0:Nat) < _; decide,by show (0:Nat) < _; decide,⟨h,trivial⟩⟩
theorem size_the (a:PTerm) (f:Int):sizeT (theT a f)=1 + sizeT a:=by rw [yk]; rfl
section
variable {M:List Nd} {x:PTerm} {K:Nat}
theorem xZ {x:PTerm} (hr:rightT x=true) {i:Int} {n:Nat} (h:x.sub.length=n) (hi:0 ≤ i∧i < n):rightT (kid x i)=true:=by
 obtain ⟨j,rfl⟩ : ∃ j:Nat,i=j:=⟨i.toNat,by omega⟩
 exact kN hr zaJ
theorem zaC (hl:0 < x.sub.length) (b:Bool):zbl.f (some M) x b=some (if b then (nd M (kid x 0).form).r else (nd M (kid x 0).form).l):=by
 unfold zbl.f zaO.f
 rw [chk,if_pos (vt zaJ zaJ)]
 simp only [Option.map_some,zaN]
 cases b <;> rfl
theorem into_some (hK:200000 ≤ K) (hn:nmT x) {a:PTerm} (ha:nmT a) (hl:x.sub.length=3) (b:Bool):zbR.f K x a b=some (kG x a b):=by
 unfold zbR.f kG
 have hnx:=(kv x).1 hn
 cases b
 ·rw [if_neg zaI,if_neg zaI,chk,if_pos (vt zaJ zaJ),Put14 hK (yN hn 1) ha hnx.1]; rfl
 ·rw [if_pos rfl,if_pos rfl,chk,if_pos (vt zaJ zaJ),Put14 hK (yN hn 2) ha hnx.2.1]; rfl
theorem cont14 (hK:200000 ≤ K) (hr:rightT x=true) (hn:nmT x) (hf:(kid x 0).kind=11→inb (kid x 0).form M.length=true) (h0:rowV M x ≠ 0) :
  ∃ p,zbV.f K (rowV M x - 1) (some M) x=some p∧p.2=(xV M x).2∧(p.2=0→p.1=(xV M x).1):=by
 obtain ⟨l2,l1,l3⟩ := kids (hr:=hr)
 have b12:=(row_iff (M:=M) (x:=x)).2.2.2.2.2.2.2.2
 have hin : ∀ {y:PTerm} {i:Int} {n:Nat},y.sub.length=n→(0 ≤ i∧i < n)→inb i y.sub.length=true:=fun h hi=>vt hi.1 zaJ
 have hc:rowV M x=1∨rowV M x=2∨rowV M x=3∨rowV M x=4∨rowV M x=5∨rowV M x=6∨rowV M x=7∨rowV M x=8:=by omega
 rcases hc with e | e | e | e | e | e | e | e
 ·obtain ⟨k3,kp⟩ := (row_iff (M:=M) (x:=x)).1.1 e
  have hl:=l2 (.inl k3)
  have hp:=xZ hr hl (i:=0) zaJ
  have hpl:(kid x 0).sub.length=1:=(xS hp).2.1 kp
  have hv:xV M x=putV (kid (kid x 0) 0) (kid x 0).name (kid x 1):=by unfold xV; simp only [e]; rfl
  refine ⟨xV M x,?_,rfl,fun _=>rfl⟩
  rw [hv,e]
  show zbP.f K (some M) x=_
  unfold zbP.f
  rw [chk,if_pos (hin (i:=0) hl zaJ),chk,if_pos (hin (y:=kid x 0) (i:=0) hpl zaJ),chk,if_pos (hin (i:=0) hl zaJ),chk,if_pos (hin (i:=1) hl zaJ)]
  rw [Put14 hK (yN (yN hn 0) 0) (yN hn 1) ((kv _).1 (yN hn 0)).1]; rfl
 ·obtain ⟨k3,kb⟩ := (row_iff (M:=M) (x:=x)).2.1.1 e
  obtain ⟨kp,kq,_⟩ := uD kb
  have hl:=l2 (.inl k3)
  have hp:=xZ hr hl (i:=0) zaJ
  have hpl:(kid x 0).sub.length=1:=(xS hp).2.2.2.2 kp
  have hq:=xZ hp hpl (i:=0) zaJ
  have hql:(kid (kid x 0) 0).sub.length=1:=(xS hq).2.1 kq
  have hv:xV M x=(let r:=putV (kid (kid (kid x 0) 0) 0) (kid (kid x 0) 0).name (theT (kid x 1) (nd M (kid x 0).form).l); if r.2 ≠ 0 then r else (theT r.1 (nd M (kid x 0).form).r,0)):=by unfold xV; simp only [e]; rfl
  have ht:nmT (theT (kid x 1) (nd M (kid x 0).form).l):=nm_the (yN hn 1) _
  refine ⟨(theT (putV (kid (kid (kid x 0) 0) 0) (kid (kid x 0) 0).name (theT (kid x 1) (nd M (kid x 0).form).l)).1 (nd M (kid x 0).form).r,(putV (kid (kid (kid x 0) 0) 0) (kid (kid x 0) 0).name (theT (kid x 1) (nd M (kid x 0).form).l)).2),?_,?_,?_⟩
  ·rw [e]
   show zbQ.f K (some M) x=_
   unfold zbQ.f
   rw [chk,if_pos (hin (i:=0) hl zaJ),chk,if_pos (hin (y:=kid x 0) (i:=0) hpl zaJ),chk,if_pos (hin (y:=kid (kid x 0) 0) (i:=0) hql zaJ),chk,if_pos (hin (i:=1) hl zaJ),zaC zaJ,zaN]
   unfold zbi.f
   rw [zaN]
   show ((zbO.f K (kid (kid (kid x 0) 0) 0) (kid (kid x 0) 0).name (theT (kid x 1) (nd M (kid x 0).form).l)).bind _)=_
   rw [Put14 hK (yN (yN (yN hn 0) 0) 0) ht ((kv _).1 (yN (yN hn 0) 0)).1,zaN,zaC zaJ]
   rfl
  ·rw [hv]; dsimp only; split <;> simp_all
  ·intro z; rw [hv]; dsimp only at z ⊢; rw [if_neg (fun c=>c z)]
 ·obtain ⟨k56,kp⟩ := (row_iff (M:=M) (x:=x)).2.2.1.1 e
  have hl:=l1 zaJ
  have hp:=xZ hr hl (i:=0) zaJ
  have hpl:(kid x 0).sub.length=2:=by have:=zac hp; rw [kp] at this; simp [vu] at this; omega
  have hv:xV M x=(if x.kind=6 then kid (kid x 0) 1 else kid (kid x 0) 0,0):=by unfold xV; simp only [e]; rfl
  refine ⟨xV M x,?_,rfl,fun _=>rfl⟩
  rw [hv,e]
  show zbt.f (some M) x=_
  unfold zbt.f zbn.f
  rw [chk,if_pos (hin (i:=0) hl zaJ)]
  by_cases k6:x.kind=6
  ·rw [if_pos (by simpa using k6),chk,if_pos (hin (y:=kid x 0) (i:=1) hpl zaJ),if_pos k6]; rfl
  ·rw [if_neg (by simpa using k6),chk,if_pos (hin (y:=kid x 0) (i:=0) hpl zaJ),if_neg k6]; rfl
 ·obtain ⟨k56,kb⟩ := (row_iff (M:=M) (x:=x)).2.2.2.1.1 e
  obtain ⟨kp,kq,_⟩ := uD kb
  have hl:=l1 zaJ
  have hp:=xZ hr hl (i:=0) zaJ
  have hpl:(kid x 0).sub.length=1:=(xS hp).2.2.2.2 kp
  have hq:=xZ hp hpl (i:=0) zaJ
  have hql:(kid (kid x 0) 0).sub.length=2:=by have:=zac hq; rw [kq] at this; simp [vu] at this; omega
  have hv:xV M x=(if x.kind=6 then theT (kid (kid (kid x 0) 0) 1) (nd M (kid x 0).form).r else theT (kid (kid (kid x 0) 0) 0) (nd M (kid x 0).form).l,0):=by unfold xV; simp only [e]; rfl
  refine ⟨xV M x,?_,rfl,fun _=>rfl⟩
  rw [hv,e]
  show zbv.f (some M) x=_
  unfold zbv.f zbn.f zbi.f
  rw [chk,if_pos (hin (i:=0) hl zaJ),chk,if_pos (hin (y:=kid x 0) (i:=0) hpl zaJ)]
  by_cases k6:x.kind=6
  ·rw [if_pos (by simpa using k6),chk,if_pos (hin (y:=kid (kid x 0) 0) (i:=1) hql zaJ),zaN,zaC zaJ,if_pos k6]; simp [k6]; rfl
  ·rw [if_neg (by simpa using k6),chk,if_pos (hin (y:=kid (kid x 0) 0) (i:=0) hql zaJ),zaN,zaC zaJ,if_neg k6]; simp [k6]; rfl
 ·obtain ⟨k9,kp⟩ := (row_iff (M:=M) (x:=x)).2.2.2.2.1.1 e
  have hl:=l3 k9
  have hp:=xZ hr hl (i:=0) zaJ
  have hpl:(kid x 0).sub.length=1:=by have:=zac hp; rcases kp with kp | kp <;> rw [kp] at this <;> simp [vu] at this <;> omega
  have hv:xV M x=kG x (kid (kid x 0) 0) (decide ((kid x 0).kind=8)):=by unfold xV; simp only [e]; rfl
  refine ⟨xV M x,?_,rfl,fun _=>rfl⟩
  rw [hv,e]
  show zbS.f K (some M) x=_
  unfold zbS.f
  have hj : ∃ b,zbo.f x=some (decide ((kid x 0).kind=8),b):=by
   unfold zbo.f
   rw [vU zaJ,zaN,if_pos (by simpa using k9),vU zaJ,zaN]
   by_cases c7:(kid x 0).kind=7
   ·rw [if_neg (by simp [c7]),zaN]; exact ⟨_,rfl⟩
   ·rw [if_pos (by simp [k9,c7]),zaN]; exact ⟨_,rfl⟩
  obtain ⟨b,hj⟩ := hj
  rw [hj,zaN,chk,if_pos (hin (i:=0) hl zaJ),chk,if_pos (hin (y:=kid x 0) (i:=0) hpl zaJ)]
  rw [into_some hK hn (yN (yN hn 0) 0) hl]; rfl
 ·obtain ⟨k9,kb⟩ := (row_iff (M:=M) (x:=x)).2.2.2.2.2.1.1 e
  have hl:=l3 k9
  have hp:=xZ hr hl (i:=0) zaJ
  have hk:(kid x 0).kind=11∧((kid (kid x 0) 0).kind=8∨(kid (kid x 0) 0).kind=7):=by
   rcases kb with kb | kb
   ·obtain ⟨a,b,_⟩ := uD kb; exact ⟨a,.inl b⟩
   ·obtain ⟨a,b,_⟩ := uD kb; exact ⟨a,.inr b⟩
  have hpl:(kid x 0).sub.length=1:=(xS hp).2.2.2.2 hk.1
  have hq:=xZ hp hpl (i:=0) zaJ
  have hql:(kid (kid x 0) 0).sub.length=1:=by have:=zac hq; rcases hk.2 with kp | kp <;> rw [kp] at this <;> simp [vu] at this <;> omega
  have hv:xV M x=kG x (theT (kid (kid (kid x 0) 0) 0) (if besV M (kid x 0) 8 4=2 then (nd M (kid x 0).form).r else (nd M (kid x 0).form).l)) (decide (besV M (kid x 0) 8 4=2)):=by unfold xV; simp only [e]; rfl
  refine ⟨xV M x,?_,rfl,fun _=>rfl⟩
  rw [hv,e]
  show zbT.f K (some M) x=_
  unfold zbT.f
  have hj : ∃ b,zbp.f (some M) x=some (decide (besV M (kid x 0) 8 4=2),b):=by
   unfold zbp.f
   rw [uw zaJ hp hf zaI,zaN]
   by_cases c8:besV M (kid x 0) 8 4=2
   ·rw [if_neg (by simp [c8]),zaN]; exact ⟨_,rfl⟩
   ·rw [if_pos (by simp [k9,c8]),uw zaJ hp hf zaI,zaN]; exact ⟨_,rfl⟩
  obtain ⟨b,hj⟩ := hj
  rw [hj,zaN,chk,if_pos (hin (i:=0) hl zaJ),chk,if_pos (hin (y:=kid x 0) (i:=0) hpl zaJ),chk,if_pos (hin (y:=kid (kid x 0) 0) (i:=0) hql zaJ),zaC zaJ,zaN]
  unfold zbi.f
  rw [zaN]
  have hsel:(if decide (besV M (kid x 0) 8 4=2)=true then (nd M (kid x 0).form).r else (nd M (kid x 0).form).l)=(if besV M (kid x 0) 8 4=2 then (nd M (kid x 0).form).r else (nd M (kid x 0).form).l):=by
   by_cases c:besV M (kid x 0) 8 4=2 <;> simp [c]
  show ((zbR.f K x (theT (kid (kid (kid x 0) 0) 0) (if decide (besV M (kid x 0) 8 4=2)=true then (nd M (kid x 0).form).r else (nd M (kid x 0).form).l)) (decide (besV M (kid x 0) 8 4=2))).bind fun r44=>some (r44.1,r44.2))=_
  rw [hsel,into_some hK hn (nm_the (yN (yN (yN hn 0) 0) 0) _) hl]; rfl
 ·have k12:=(row_iff (M:=M) (x:=x)).2.2.2.2.2.2.1.1 e
  have hl:=l2 (.inr k12)
  have hv:xV M x=putV (kid x 1) x.name (kid x 0):=by unfold xV; simp only [e]; rfl
  refine ⟨xV M x,?_,rfl,fun _=>rfl⟩
  rw [hv,e]
  show zbU.f K (some M) x=_
  unfold zbU.f
  rw [chk,if_pos (hin (i:=1) hl zaJ),chk,if_pos (hin (i:=0) hl zaJ),Put14 hK (yN hn 1) (yN hn 0) ((kv _).1 hn).1]; rfl
 ·obtain ⟨k11,_⟩ := (row_iff (M:=M) (x:=x)).2.2.2.2.2.2.2.1.1 e
  have hl:=l1 zaJ
  have hv:xV M x=(kid x 0,0):=by unfold xV; simp only [e]; rfl
  refine ⟨xV M x,?_,rfl,fun _=>rfl⟩
  rw [hv,e]
  show zbA.f (some M) x=_
  unfold zbA.f
  rw [chk,if_pos (hin (i:=0) hl zaJ)]
end
end
section
open Gw
theorem sizeL_put {n:ByteArray} {k:Int} {nm ot:ByteArray} {m:Nat} : ∀ (l:List PTerm) (i:Nat) (f:Nat→PTerm→PTerm),(∀ j (h:j < l.length),sizeT (f j l[j])=sizeT l[j] + (if yn k nm ot (i + j)=n then 0 else cntT n l[j]) * m)→sizeL (l.mapIdx f)=sizeL l + cntL n k nm ot i l * m
 | [],i,f,_=>by simp [sizeL,cntL]
 | y :: l,i,f,h=>by
  have h0:=h 0 zaK
  have ih:=sizeL_put (n:=n) (k:=k) (nm:=nm) (ot:=ot) (m:=m) l (i + 1) (fun j=>f (j + 1)) (fun j hj=>by
   have:=h (j + 1) (by simpa using hj)
   rw [show i + 1 + j=i + (j + 1) by omega]
   simpa using this)
  rw [List.mapIdx_cons]
  simp only [sizeL,cntL]
  rw [ih]
  simp only [List.getElem_cons_zero,Nat.add_zero] at h0
  rw [h0,Nat.add_mul]; omega
theorem size_put : ∀ (d:Nat) (x:PTerm),depT x ≤ d→rightT x=true → ∀ (n:ByteArray) (y:PTerm),rightT y=true→sizeT x + sizeT y + 4 < 9223372036854775808→sizeT (putT x n y)=sizeT x + cntT n x * (sizeT y - 1)
 | 0,x,h,_,_,_,_,_=>by have:=yj x; omega
 | d + 1,x,h,hr,n,y,hy,hb=>by
  have hd:=ya x
  have hs:=yk x
  have hsy:=jY y
  by_cases hk:x.kind=1
  ·have h0:x.sub=[]:=(xS hr).1 hk
   have hs1:sizeT x=1:=by rw [hs,h0]; rfl
   rw [zam n y hk,yQ,if_pos hk]
   by_cases e:x.name=n
   ·rw [if_pos e,if_pos e,hs1]; omega
   ·rw [if_neg e,if_neg e]; omega
  rw [jB n y hk,yk,yQ,if_neg hk]
  show 1 + sizeL (x.sub.mapIdx fun i p=>putC putT x n y i p)=_
  rw [sizeL_put (n:=n) (k:=x.kind) (nm:=x.name) (ot:=x.other) (m:=sizeT y - 1) x.sub 0 (fun i p=>putC putT x n y i p) (fun j hj=>?_),hs]
  ·omega
  ·rw [Nat.zero_add]
   have hp:depT x.sub[j] ≤ d:=by have:=xR _ (List.getElem_mem hj); omega
   have hsp:sizeT x.sub[j] ≤ sizeL x.sub:=y8 (List.getElem_mem hj)
   have hrp:=xY hr hj
   by_cases c1:zY x j=n∨¬ xG n x.sub[j]
   ·rw [putC,if_pos c1]
    rcases c1 with c | c
    ·have c':yn x.kind x.name x.other j=n:=c
     rw [if_pos c']; omega
    ·have g:cntT n x.sub[j]=0:=by unfold xG at c; omega
     rw [g]; split <;> omega
   have c1':zY x j ≠ n∧xG n x.sub[j]:=⟨fun q=>c1 (.inl q),Classical.byContradiction fun q=>c1 (.inr q)⟩
   have c':¬ yn x.kind x.name x.other j=n:=c1'.1
   rw [if_neg c']
   by_cases c3:zY x j ≠ ⟨#[]⟩ ∧ xG (zY x j) y
   ·rw [putC,if_neg c1,if_pos c3]
    obtain ⟨f1,f2,f3⟩ := fresh_ok (p:=x.sub[j]) (y:=y) (n:=n) zaJ
    have hvr:rightT (varT (xz x.sub[j] y n))=true:=je (uA _ _ _)
    have hv1:sizeT (varT (xz x.sub[j] y n))=1:=rfl
    have hq:=jX d _ hp hrp (zY x j) _ hvr
    have hsr:=size_ren x.sub[j] (zY x j) (xz x.sub[j] y n)
    rw [size_put d _ (Nat.le_trans (dep_ren _ _ _) hp) hq n y hy zaJ,size_put d _ hp hrp (zY x j) _ hvr zaJ,hv1]
    have hcv:cntT n (varT (xz x.sub[j] y n))=0:=by
     rw [yQ]; show (if (1:Int)=1 then (if xz x.sub[j] y n=n then 1 else 0) else _)=0
     rw [if_pos rfl,if_neg f3]
    rw [cnt_put d _ hp hrp (zY x j) _ hvr zaJ n,hcv,if_neg (fun q=>c1'.1 q.symm)]
    simp
   ·rw [putC,if_neg c1,if_neg c3,size_put d _ hp hrp n y hy zaJ]
end
section
open Gw
theorem putV_ok {x:PTerm} {n:ByteArray} {y:PTerm} (h:(putV x n y).2=0):x6 x=0∧x6 y=0∧isWord n∧(putV x n y).1=putT x n y∧sizeT (putT x n y) ≤ 65536:=by
 unfold putV at h ⊢
 by_cases cx:x6 x=0
 rotate_left
 ·rw [if_pos cx] at h; exact absurd h cx
 rw [if_neg (fun q=>q cx)] at h ⊢
 by_cases cy:x6 y=0
 rotate_left
 ·rw [if_pos cy] at h; exact absurd h cy
 rw [if_neg (fun q=>q cy)] at h ⊢
 by_cases w:isWord n
 rotate_left
 ·rw [if_pos w] at h; exact absurd h zaI
 rw [if_neg (fun q=>q w)] at h ⊢
 by_cases c:65536 < sizeT x + cntT n x * (sizeT y - 1)∨1024 < gD true n (depT y) x
 ·rw [if_pos c] at h; exact absurd h zaI
 rw [if_neg c]
 obtain ⟨x1,x2,x3⟩ := xU.1 cx
 obtain ⟨y1,y2,y3⟩ := xU.1 cy
 refine ⟨cx,cy,w,rfl,?_⟩
 rw [size_put _ x (Nat.le_refl _) x3 n y y3 zaJ]
 omega
section
variable {M:List Nd} {x:PTerm} {K:Nat}
end
end
section
open Gw
mutual
def toldB (M:List Nd):PTerm→Bool
 | .mk k _ _ f s=>(if k=11 then inb f M.length else true) && toldBL M s
def toldBL (M:List Nd):List PTerm→Bool
 | []=>true
 | x :: l=>toldB M x && toldBL M l
end
theorem toldB_eq (M:List Nd) (x:PTerm):toldB M x=((if x.kind=11 then inb x.form M.length else true) && toldBL M x.sub):=by cases x; simp only [toldB]; rfl
theorem toldBL_all (M:List Nd) : ∀ l:List PTerm,toldBL M l=l.all (toldB M)
 | []=>rfl
 | x :: l=>by simp only [toldBL,List.all_cons,toldBL_all M l]
theorem told_kid {M:List Nd} {x:PTerm} (h:toldB M x=true) {i:Nat} (hi:i < x.sub.length):toldB M x.sub[i]=true:=by
 rw [toldB_eq,Bool.and_eq_true_iff,toldBL_all,List.all_eq_true] at h
 exact h.2 _ (List.getElem_mem hi)
theorem told_form {M:List Nd} {x:PTerm} (h:toldB M x=true) (hk:x.kind=11):inb x.form M.length=true:=by
 rw [toldB_eq,Bool.and_eq_true_iff,if_pos hk] at h
 exact h.1
theorem containsB {rec:Tb→PTerm→Option Bool} {T:Tb} {p:PTerm→Bool} {l:List PTerm} (h : ∀ x ∈ l,rec T x=some (p x)) (hl:l.length < 9223372036854775807):zbD.g rec l T=some (!l.all p):=by
 unfold zbD.g zbC.g
 have hf:=forN_find (b:=fun i s=>zbC.b0 rec l T i) (p:=fun j => !p (l.getD j PTerm.z)) (r:=fun j=>(j:Int)) l.length 0 () (fun j h1 h2=>by
  have hj:j < l.length:=by omega
  show zbC.b0 rec l T (j:Int)=_
  unfold zbC.b0 zbB.g
  rw [jq hj,h _ (List.getElem_mem hj),getD_at hj]
  cases p l[j] <;> rfl)
 have hf:forN (fun i s=>zbC.b0 rec l T i) l.length 0 ()=_:=hf
 rw [show ((l.length:Int) - 0).toNat=l.length by omega,hf]
 cases q:(List.range' 0 l.length).find? fun j => !p (l.getD j PTerm.z) with
 | some j =>
  have h1:=List.find?_some q
  have h2:=List.mem_range'_1.1 (List.mem_of_find?_eq_some q)
  have hj:j < l.length:=by omega
  rw [getD_at hj] at h1
  show some (decide ((0:Int) ≤ (j:Int)))=_
  rw [decide_eq_true zaJ]
  have:l.all p=false:=List.all_eq_false.2 ⟨_,List.getElem_mem hj,by simpa using h1⟩
  rw [this]; rfl
 | none =>
  have h1:=List.find?_eq_none.1 q
  show some (decide ((0:Int) ≤ -1))=_
  have:l.all p=true:=by
   rw [List.all_eq_true]
   intro y hy
   obtain ⟨j,hj,rfl⟩ := List.getElem_of_mem hy
   have:=h1 j (List.mem_range'_1.2 ⟨by omega,by omega⟩)
   rw [getD_at hj] at this
   simpa using this
  rw [this]; rfl
theorem known14 {M:List Nd} : ∀ (K:Nat) (x:PTerm),depT x ≤ K→rightT x=true→zbE.f K (some M) x=some (toldB M x)
 | 0,x,h,_=>by have:=yj x; omega
 | K + 1,x,h,hr=>by
  have hd:=ya x
  have h3:=len3 hr
  show zbE.g (zbE.f K) (some M) x=_
  unfold zbE.g zaP.f
  have hh:(if decide (x.kind=11)=true then (some M).map (fun N=>(N.length:Int)) else some 0)=some (if x.kind=11 then (M.length:Int) else 0):=by
   by_cases k:x.kind=11
   ·rw [if_pos (by simpa using k),if_pos k]; rfl
   ·rw [if_neg (by simpa using k),if_neg k]
  rw [hh,zaN,toldB_eq,toldBL_all]
  have hc:=containsB (rec:=zbE.f K) (T:=some M) (p:=toldB M) (l:=x.sub) (fun y hy=>by
   obtain ⟨j,hj,rfl⟩ := List.getElem_of_mem hy
   exact known14 K _ (by have:=xR _ (List.getElem_mem hj); omega) (xY hr hj)) zaJ
  by_cases k:x.kind=11
  ·rw [if_pos k,if_pos k]
   have hf:=(ym hr).fm k
   by_cases c:(M.length:Int) ≤ x.form
   ·have:inb x.form M.length=false:=by
     unfold inb; rw [decide_eq_false (p:=x.form < (M.length:Int)) zaJ]; simp
    rw [if_pos (by simp [k,c]),this]; rfl
   ·rw [if_neg (by simp [k]; omega),hc,zaN,vt hf.1 zaJ,Bool.true_and,Bool.not_not]
  ·rw [if_neg (by simp [k]),hc,zaN,if_neg k,Bool.true_and,Bool.not_not]
end
section
open Gw
def uh (M:List Nd) (x:PTerm):Int:=if x6 x ≠ 0 then x6 x else if toldB M x then 0 else 31
theorem begun14 {M:List Nd} {K:Nat} {x:PTerm} (hK:200000 ≤ K) (hn:nmT x) (hM:M.Nodup):zbG.f K (some M) x=some (decide (uh M x=0),uh M x):=by
 unfold zbG.f uh
 have hc:zbh.f (some M)=some (some M):=by
  unfold zbh.f; rw [chk,if_pos (by simpa using hM)]
 rw [hc,zaN,if_neg zaK,jM zaJ hn,zaN]
 by_cases c:x6 x=0
 ·obtain ⟨c1,c2,c3⟩ := xU.1 c
  rw [if_neg (by simpa using c),known14 K x zaJ c3,zaN,c]
  unfold zbF.f
  cases toldB M x <;> simp
 ·rw [if_pos (by simpa using c),if_pos c,decide_eq_false c]
theorem ahead_ok {M:List Nd} {x:PTerm}:uh M x=0↔(sizeT x ≤ 65536∧depT x ≤ 1024∧rightT x=true)∧toldB M x=true:=by
 unfold uh
 rw [← xU]
 by_cases c:x6 x=0
 ·rw [if_neg (fun q=>q c)]
  cases h:toldB M x with
  | true=>simp [c]
  | false=>simp
 ·rw [if_pos c]; simp [c]
def doV (M:List Nd):PTerm→List Int→PTerm × Int
 | x,[]=>xV M x
 | x,k :: w=>if k < 0∨(x.sub.length:Int) ≤ k then (PTerm.z,140) else if (doV M (kid x k) w).2 ≠ 0 then (PTerm.z,(doV M (kid x k) w).2) else (⟨x.kind,x.name,x.other,x.form,x.sub.set k.toNat (doV M (kid x k) w).1⟩,0)
theorem kid_form {M:List Nd} {x:PTerm} (ht:toldB M x=true):(kid x 0).kind=11→inb (kid x 0).form M.length=true:=by
 intro h
 by_cases hl:0 < x.sub.length
 ·have e:kid x ((0:Nat):Int)=x.sub[0]:=kid_at hl
  have e':kid x 0=x.sub[0]:=e
  rw [e'] at h ⊢
  exact told_form (told_kid ht hl) h
 ·exfalso
  have h0:x.sub=[]:=List.eq_nil_of_length_eq_zero zaJ
  unfold kid at h
  rw [h0] at h
  exact absurd h zaI
theorem do14 {M:List Nd} : ∀ (K:Nat) (x:PTerm) (w:List Int),200000 + depT x ≤ K→nmT x→rightT x=true→toldB M x=true → ∃ p,zca.f K (some M) x w=some p∧p.2=(doV M x w).2∧(p.2=0→p.1=(doV M x w).1)
 | 0,x,w,h,_,_,_=>by omega
 | K + 1,x,w,h,hn,hr,ht=>by
  have hd:=ya x
  have hdp:=yj x
  have h3:=len3 hr
  show ∃ p,zca.g (zca.f K) K (some M) x w=some p∧_
  unfold zca.g
  match w with
  | [] =>
   rw [if_pos zaI,fits14 hr (kid_form ht),zaN]
   by_cases c:rowV M x=0
   ·rw [if_pos c,if_pos zaI]
    have hv:xV M x=(PTerm.z,140):=by unfold xV; simp only [c]; rfl
    exact ⟨(PTerm.z,140),rfl,by show _=(xV M x).2; rw [hv],fun q=>absurd q zaI⟩
   ·rw [if_neg c,if_neg zaK]
    obtain ⟨p,e1,e2,e3⟩ := cont14 (K:=K) zaJ hr hn (kid_form ht) c
    rw [show ((rowV M x - 1,true):Int × Bool).1=rowV M x - 1 from rfl,e1]
    exact ⟨p,rfl,e2,e3⟩
  | k :: w =>
   rw [if_neg (by simp; omega),chk,if_pos (by simp [inb])]
   have hk:at_ (0:Int) (k :: w) 0=k:=rfl
   rw [hk]
   have hdo:doV M x (k :: w)=if k < 0∨(x.sub.length:Int) ≤ k then (PTerm.z,140) else if (doV M (kid x k) w).2 ≠ 0 then (PTerm.z,(doV M (kid x k) w).2) else (⟨x.kind,x.name,x.other,x.form,x.sub.set k.toNat (doV M (kid x k) w).1⟩,0):=by rw [doV]
   rw [hdo]
   by_cases c:k < 0∨(x.sub.length:Int) ≤ k
   ·rw [if_pos (by simpa using c),if_pos c]
    exact ⟨(PTerm.z,140),rfl,rfl,fun _=>rfl⟩
   ·rw [if_neg (by simpa using c),if_neg c,chk,if_pos (vt zaJ zaJ),chk,if_pos (by simp; omega)]
    obtain ⟨j,rfl⟩ : ∃ j:Nat,k=j:=⟨k.toNat,by omega⟩
    have hj:j < x.sub.length:=by omega
    have hkj:kid x (j:Int)=x.sub[j]:=kid_at hj
    obtain ⟨p,e1,e2,e3⟩ := do14 K (kid x (j:Int)) w (by rw [hkj]; have:=xR _ (List.getElem_mem hj); omega) (yN hn _) (by rw [hkj]; exact xY hr hj) (by rw [hkj]; exact told_kid ht hj)
    rw [show ((((j:Int) :: w).drop ((1:Int)).toNat))=w from rfl,e1,zaN]
    by_cases z:p.2=0
    ·have z':(doV M (kid x (j:Int)) w).2=0:=by rw [← e2]; exact z
     have hcl:zaV.f x.sub=some x.sub:=by
      unfold zaV.f; rw [chk,if_pos (by simp; omega)]
     rw [if_neg (by simpa using z),if_neg (fun q=>q z'),hcl,zaN,chk,if_pos (vt zaJ zaJ),e3 z]
     exact ⟨_,rfl,rfl,fun _=>rfl⟩
    ·have z':(doV M (kid x (j:Int)) w).2 ≠ 0:=by rw [← e2]; exact z
     rw [if_pos (by simpa using z),if_pos z']
     exact ⟨_,rfl,e2,fun q=>absurd q z⟩
end
section
open Gw
theorem nm_all : ∀ {l:List PTerm},(∀ y ∈ l,nmT y)→nmL l
 | [],_=>trivial
 | a :: l,h=>⟨h a zaK,nm_all fun y hy=>h y (by simp [hy])⟩
theorem vNm_size (k:Nat):(vNm k).size < 9223372036854775808:=by
 rw [vNm_eq,ba_size]; have:=decK_len 20 k; simp; omega
theorem nm_var {w:ByteArray} (h:w.size < 9223372036854775808):nmT (varT w):=by
 rw [kv]; exact ⟨h,by show (0:Nat) < _; decide,trivial⟩
theorem nmC_size {x:PTerm} (h:x.name.size < 9223372036854775808) (n:ByteArray) (y:PTerm):(nmC x n y).size < 9223372036854775808:=by
 by_cases q:(x.kind=2∨x.kind=12∨x.kind=9)∧renC x n y (if x.kind=2 then 0 else 1) (x.sub.getD (if x.kind=2 then 0 else 1) PTerm.z)
 ·rw [nmC_pos q]; exact vNm_size _
 ·rw [nmC_neg q]; exact h
theorem otC_size {x:PTerm} (h:x.other.size < 9223372036854775808) (n:ByteArray) (y:PTerm):(otC x n y).size < 9223372036854775808:=by
 by_cases q:x.kind=9∧renC x n y 2 (x.sub.getD 2 PTerm.z)
 ·rw [otC_pos q]; exact vNm_size _
 ·rw [otC_neg q]; exact h
theorem nm_put : ∀ (d:Nat) (x:PTerm),depT x ≤ d→nmT x → ∀ (n:ByteArray) (y:PTerm),nmT y→nmT (putT x n y)
 | 0,x,h,_,_,_,_=>by have:=yj x; omega
 | d + 1,x,h,hn,n,y,hy=>by
  have hd:=ya x
  have hx:=(kv x).1 hn
  by_cases hk:x.kind=1
  ·rw [zam n y hk]; split
   ·exact hy
   ·exact hn
  rw [jB n y hk,kv]
  refine ⟨nmC_size hx.1 n y,otC_size hx.2.1 n y,nm_all fun z hz=>?_⟩
  have hz:z ∈ x.sub.mapIdx fun i p=>putC putT x n y i p:=hz
  obtain ⟨j,hj,rfl⟩ := List.getElem_of_mem hz
  have hj':j < x.sub.length:=by simpa using hj
  rw [List.getElem_mapIdx]
  have hp:depT x.sub[j] ≤ d:=by have:=xR _ (List.getElem_mem hj'); omega
  have hnp:nmT x.sub[j]:=nm_mem hx.2.2 _ (List.getElem_mem hj')
  unfold putC
  split
  ·exact hnp
  ·split
   ·exact nm_put d _ (Nat.le_trans (dep_ren _ _ _) hp) (nm_put d _ hp hnp _ _ (nm_var (vNm_size _))) n y hy
   ·exact nm_put d _ hp hnp n y hy
theorem nm_putV {x:PTerm} (hx:nmT x) (n:ByteArray) {y:PTerm} (hy:nmT y):nmT (putV x n y).1:=by
 unfold putV
 split
 ·exact nm_z
 ·split
  ·exact nm_z
  ·split
   ·exact nm_z
   ·split
    ·exact nm_z
    ·exact nm_put _ x (Nat.le_refl _) hx n y hy
theorem nm_into {x a:PTerm} (hx:nmT x) (ha:nmT a) (b:Bool):nmT (kG x a b).1:=by
 unfold kG; split
 ·exact nm_putV (yN hx 2) _ ha
 ·exact nm_putV (yN hx 1) _ ha
theorem nm_cont {M:List Nd} {x:PTerm} (hx:nmT x):nmT (xV M x).1:=by
 have k:=fun i=>yN hx i
 have k2:=fun i j=>yN (k i) j
 have k3:=fun i j l=>yN (k2 i j) l
 unfold xV
 dsimp only
 split
 ·exact nm_putV (k2 0 0) _ (k 1)
 ·split
  ·split
   ·exact nm_putV (k3 0 0 0) _ (nm_the (k 1) _)
   ·exact nm_the (nm_putV (k3 0 0 0) _ (nm_the (k 1) _)) _
  ·split
   ·show nmT (if x.kind=6 then kid (kid x 0) 1 else kid (kid x 0) 0)
    split
    ·exact k2 0 1
    ·exact k2 0 0
   ·split
    ·show nmT (if x.kind=6 then theT (kid (kid (kid x 0) 0) 1) _ else theT (kid (kid (kid x 0) 0) 0) _)
     split
     ·exact nm_the (k3 0 0 1) _
     ·exact nm_the (k3 0 0 0) _
    ·split
     ·exact nm_into hx (k2 0 0) _
     ·split
      ·exact nm_into hx (nm_the (k3 0 0 0) _) _
      ·split
       ·exact nm_putV (k 1) _ (k 0)
       ·split
        ·exact k 0
        ·exact nm_z
theorem nm_do {M:List Nd} : ∀ (w:List Int) (x:PTerm),nmT x→nmT (doV M x w).1
 | [],x,hx=>by rw [doV]; exact nm_cont hx
 | k :: w,x,hx=>by
  rw [doV]
  split
  ·exact nm_z
  ·split
   ·exact nm_z
   ·have h:=(kv x).1 hx
    rw [kv]
    refine ⟨h.1,h.2.1,nm_all fun y hy=>?_⟩
    rcases List.mem_or_eq_of_mem_set (show y ∈ x.sub.set k.toNat (doV M (kid x k) w).1 from hy) with q | q
    ·exact nm_mem h.2.2 y q
    ·rw [q]; exact nm_do w _ (yN hx k)
end
section
open Gw
theorem rclone14 : ∀ (K:Nat) (x:PTerm),sizeT x + 2 ≤ K→sizeT x ≤ 1000000000→zbX.f K x=some x
 | 0,x,h,_=>by omega
 | K + 1,x,h,hb=>by
  have hs:=yk x
  have hl:=zaD x.sub
  show zbX.g (zbX.f K) x=_
  unfold zbX.g zaV.f
  rw [chk,if_pos (by simp; omega),zaN,PTerm.eta,show ((x.sub.length:Int) - 0).toNat=x.sub.length by omega]
  have hloop:=zaz (b:=fun i s=>zbX.b0 (zbX.f K) i s) (inv:=fun _=>x) x.sub.length 0 (fun j _ hj=>by
   have hj:j < x.sub.length:=by omega
   have hm:sizeT x.sub[j] ≤ sizeL x.sub:=y8 (List.getElem_mem hj)
   show zbX.b0 (zbX.f K) (j:Int) x=_
   unfold zbX.b0
   rw [chk,if_pos (vt zaJ zaJ),jq hj,rclone14 K _ zaJ zaJ,zaN,chk,if_pos (vt zaJ zaJ)]
   show some (⟨x.kind,x.name,x.other,x.form,x.sub.set j x.sub[j]⟩ : PTerm)=_
   rw [List.set_getElem_self,PTerm.eta])
  have hloop:forS (fun i s=>zbX.b0 (zbX.f K) i s) x.sub.length 0 x=some x:=hloop
  rw [hloop,zaN,PTerm.eta]
def uj (M:List Nd) (x:PTerm) (w:List Int):PTerm × Int :=
 if (doV M x w).2 ≠ 0 then (PTerm.z,(doV M x w).2) else if x6 (doV M x w).1 ≠ 0 then (PTerm.z,121) else ((doV M x w).1,0)
def DoV (M:List Nd) (x:PTerm) (w:List Int):PTerm × Int:=if uh M x ≠ 0 then (PTerm.z,uh M x) else uj M x w
theorem done14 {M:List Nd} {K:Nat} {x:PTerm} {w:List Int} (hK:300000 ≤ K) (hn:nmT x) (ha:uh M x=0):zcb.f K (some M) x w=some (uj M x w):=by
 obtain ⟨⟨a1,a2,a3⟩,a4⟩ := ahead_ok.1 ha
 obtain ⟨p,e1,e2,e3⟩ := do14 K x w zaJ hn a3 a4
 unfold zcb.f
 rw [e1,zaN]
 by_cases c:p.2=0
 ·have c':(doV M x w).2=0:=by rw [← e2]; exact c
  rw [if_pos (by simpa using c),e3 c,jM zaJ (nm_do w x hn),zaN]
  by_cases k:x6 (doV M x w).1=0
  ·obtain ⟨k1,_,_⟩ := xU.1 k
   have hv:uj M x w=((doV M x w).1,0):=by unfold uj; rw [if_neg (fun q=>q c'),if_neg (fun q=>q k)]
   rw [hv,if_neg (by simp [k]),if_neg (by simpa using c),rclone14 K _ zaJ zaJ]; rfl
  ·have hv:uj M x w=(PTerm.z,121):=by unfold uj; rw [if_neg (fun q=>q c'),if_pos k]
   rw [hv,if_pos (by simp [c,k]),if_pos zaI]; rfl
 ·have c':(doV M x w).2 ≠ 0:=by rw [← e2]; exact c
  have hv:uj M x w=(PTerm.z,(doV M x w).2):=by unfold uj; rw [if_pos c']
  rw [hv,if_neg (by simpa using c),zaN,if_neg (by simp [c]),if_pos (by simpa using c),e2]; rfl
theorem Do14 {M:List Nd} {K:Nat} {x:PTerm} {w:List Int} (hK:300000 ≤ K) (hn:nmT x) (hM:M.Nodup):zcc.f K (some M) x w=some (DoV M x w):=by
 unfold zcc.f
 rw [begun14 zaJ hn hM,zaN]
 by_cases c:uh M x=0
 ·have hv:DoV M x w=uj M x w:=by unfold DoV; rw [if_neg (fun q=>q c)]
  rw [hv,if_neg (by simpa using c),chk,if_pos (by simpa using c),done14 hK hn c]; rfl
 ·have hv:DoV M x w=(PTerm.z,uh M x):=by unfold DoV; rw [if_pos c]
  rw [hv,if_pos (by simpa using c)]; rfl
end
section
open Gw
end
section
open Gw
def mixJ (l:List PTerm) (j:Nat):List PTerm:=(l.map stripT).take j ++ l.drop j
theorem mixJ_len (l:List PTerm) {j:Nat} (h:j ≤ l.length):(mixJ l j).length=l.length:=by unfold mixJ; simp; omega
theorem mixJ_at {l:List PTerm} {j:Nat} (h:j < l.length):at_ PTerm.z (mixJ l j) (j:Int)=l[j]:=by
 rw [jq (by rw [mixJ_len l zaJ]; exact h)]
 unfold mixJ
 rw [List.getElem_append_right (by simp; omega)]
 simp [show j - min j l.length=0 by omega]
theorem mixJ_set {l:List PTerm} {j:Nat} (h:j < l.length):(mixJ l j).set j (stripT l[j])=mixJ l (j + 1):=by
 unfold mixJ
 rw [List.drop_eq_getElem_cons h,List.set_append_right _ _ (by simp; omega),List.take_succ_eq_append_getElem (by simpa using h)]
 have:j - ((l.map stripT).take j).length=0:=by simp; omega
 rw [this,List.set_cons_zero,List.append_assoc,List.getElem_map]
 rfl
theorem strip14 : ∀ (K:Nat) (x:PTerm),rightT x=true→depT x ≤ K→zbY.f K x=some (stripT x)
 | 0,x,_,h=>by have:=yj x; omega
 | K + 1,x,hr,h=>by
  have hd:=ya x
  have h3:=len3 hr
  show zbY.g (zbY.f K) x=_
  unfold zbY.g
  by_cases k:x.kind=11
  ·obtain ⟨p,hp,e⟩ := jZ hr k
   have hl:x.sub.length=1:=by rw [hp]; rfl
   have h0:at_ PTerm.z x.sub 0=x.sub[0]:=jq (i:=0) zaJ
   have hp0:x.sub[0]=p:=by simp [hp]
   rw [if_pos (by simpa using k),chk,if_pos (vt zaJ zaJ),h0,strip14 K _ (xY hr zaJ) (by have:=xR _ (List.getElem_mem (show 0 < x.sub.length by omega)); omega),hp0,e]; rfl
  ·rw [if_neg (by simpa using k)]
   unfold zaV.f
   rw [chk,if_pos (by simp; omega),zaN,show ((x.sub.length:Int) - 0).toNat=x.sub.length by omega]
   have hloop:=zaz (b:=fun i s=>zbY.b0 (zbY.f K) i s) (inv:=fun j=>(⟨x.kind,x.name,x.other,x.form,mixJ x.sub j⟩ : PTerm)) x.sub.length 0 (fun j _ hj=>by
    have hj:j < x.sub.length:=by omega
    show zbY.b0 (zbY.f K) (j:Int) (⟨x.kind,x.name,x.other,x.form,mixJ x.sub j⟩ : PTerm)=_
    have hin:inb (j:Int) (mixJ x.sub j).length=true:=vt zaJ (by rw [mixJ_len _ zaJ]; omega)
    unfold zbY.b0
    simp only [mk_sub,mk_kind,mk_name,mk_other,mk_form]
    rw [chk,if_pos hin,mixJ_at hj,strip14 K _ (xY hr hj) (by have:=xR _ (List.getElem_mem hj); omega),zaN,chk,if_pos hin]
    show some (⟨_,_,_,_,(mixJ x.sub j).set j (stripT x.sub[j])⟩ : PTerm)=_
    rw [mixJ_set hj])
   have e0:mixJ x.sub 0=x.sub:=by simp [mixJ]
   have e1:mixJ x.sub (0 + x.sub.length)=x.sub.map stripT:=by
    unfold mixJ; rw [Nat.zero_add,List.take_of_length_le zaK,List.drop_length,List.append_nil]
   rw [e0,e1] at hloop
   have hloop:forS (fun i s=>zbY.b0 (zbY.f K) i s) x.sub.length 0 (⟨x.kind,x.name,x.other,x.form,x.sub⟩ : PTerm)=_:=hloop
   rw [hloop,zaN,x0 k]; rfl
def StripV (x:PTerm):PTerm × Int:=if x6 x ≠ 0 then (PTerm.z,x6 x) else (stripT x,0)
theorem Strip14 {K:Nat} {x:PTerm} (hK:200000 ≤ K) (hn:nmT x):zbZ.f K x=some (StripV x):=by
 unfold zbZ.f
 rw [jM zaJ hn,zaN]
 by_cases c:x6 x=0
 ·obtain ⟨c1,c2,c3⟩ := xU.1 c
  have hv:StripV x=(stripT x,0):=by unfold StripV; rw [if_neg (fun q=>q c)]
  rw [hv,if_neg (by simpa using c),strip14 K x c3 zaJ]; rfl
 ·have hv:StripV x=(PTerm.z,x6 x):=by unfold StripV; rw [if_pos c]
  rw [hv,if_pos (by simpa using c)]; rfl
end
section
open Gw
mutual
def gaT (M:List Nd):PTerm→List Int→List (List Int)→List (List Int)
 | .mk k n o f s,way,l=>if 1000 ≤ l.length then l else gaL M 0 s way (if rowV M (.mk k n o f s) ≠ 0 then l ++ [way] else l)
def gaL (M:List Nd):Nat→List PTerm→List Int→List (List Int)→List (List Int)
 | _,[],_,l=>l
 | i,y :: r,way,l=>gaL M (i + 1) r way (gaT M y (way ++ [(i:Int)]) l)
end
theorem gaT_eq (M:List Nd) (x:PTerm) (way:List Int) (l:List (List Int)):gaT M x way l=if 1000 ≤ l.length then l else gaL M 0 x.sub way (if rowV M x ≠ 0 then l ++ [way] else l):=by cases x; simp only [gaT]; rfl
theorem gaT_full {M:List Nd} {x:PTerm} {way:List Int} {l:List (List Int)} (h:1000 ≤ l.length):gaT M x way l=l:=by rw [gaT_eq,if_pos h]
theorem gaL_full {M:List Nd} : ∀ {r:List PTerm} {i:Nat} {way:List Int} {l:List (List Int)},1000 ≤ l.length→gaL M i r way l=l
 | [],i,way,l,h=>by simp only [gaL]
 | y :: r,i,way,l,h=>by simp only [gaL]; rw [gaT_full h]; exact gaL_full h
mutual
theorem gaT_len (M:List Nd) : ∀ (x:PTerm) (way:List Int) (l:List (List Int)),l.length ≤ 1000→(gaT M x way l).length ≤ 1000
 | .mk k n o f s,way,l,h=>by
  simp only [gaT]
  split
  ·exact h
  ·refine gaL_len M s 0 way _ ?_
   split
   ·rw [List.length_append,List.length_singleton]; omega
   ·exact h
theorem gaL_len (M:List Nd) : ∀ (r:List PTerm) (i:Nat) (way:List Int) (l:List (List Int)),l.length ≤ 1000→(gaL M i r way l).length ≤ 1000
 | [],i,way,l,h=>by simpa only [gaL] using h
 | y :: r,i,way,l,h=>by simp only [gaL]; exact gaL_len M r (i + 1) way _ (gaT_len M y _ l h)
end
end
section
open Gw
theorem gaL_nil (M:List Nd) (i:Nat) (way:List Int) (l:List (List Int)):gaL M i [] way l=l:=by simp only [gaL]
theorem gaL_cons (M:List Nd) (i:Nat) (y:PTerm) (r:List PTerm) (way:List Int) (l:List (List Int)):gaL M i (y :: r) way l=gaL M (i + 1) r way (gaT M y (way ++ [(i:Int)]) l):=by simp only [gaL]
theorem each14 {M:List Nd} : ∀ (K:Nat) (x:PTerm) (way:List Int) (l:List (List Int)),depT x ≤ K→way.length + depT x ≤ 100000→rightT x=true→toldB M x=true→l.length < 1000 →
  zce.f K (some M) x way l=some (gaT M x way l,decide ((gaT M x way l).length < 1000))
 | 0,x,_,_,h,_,_,_,_=>by have:=yj x; omega
 | K + 1,x,way,l,h,hw,hr,ht,hl=>by
  have hd:=ya x
  show zce.g (zce.f K) (some M) x way l=_
  have loop : ∀ (m j:Nat) (l:List (List Int)),j + m=x.sub.length→l.length < 1000→forN (fun i s=>zce.b0 way (zce.f K) (some M) x i s) m (j:Int) l=some (if (gaL M j (x.sub.drop j) way l).length < 1000 then .inl (gaL M j (x.sub.drop j) way l) else .inr (gaL M j (x.sub.drop j) way l,false)):=by
   intro m
   induction m with
   | zero =>
    intro j l hj hl
    rw [List.drop_of_length_le zaJ]
    rw [gaL_nil,if_pos hl]; rfl
   | succ m ih =>
    intro j l hj hl
    have hjl:j < x.sub.length:=by omega
    have hdp:depT x.sub[j] ≤ depL x.sub:=xR _ (List.getElem_mem hjl)
    have hb:zce.b0 way (zce.f K) (some M) x (j:Int) l=some (if (gaT M x.sub[j] (way ++ [(j:Int)]) l).length < 1000 then .go (gaT M x.sub[j] (way ++ [(j:Int)]) l) else .ret (gaT M x.sub[j] (way ++ [(j:Int)]) l,false)):=by
     unfold zce.b0
     rw [chk,if_pos zaK,chk,if_pos (by rw [List.length_take,List.length_singleton]; simp; omega),jq hjl,show way.take (Int.toNat (way.length:Int))=way from List.take_length,each14 K _ _ l zaJ (by rw [List.length_append,List.length_singleton]; omega) (xY hr hjl) (told_kid ht hjl) hl,zaN]
     by_cases c:(gaT M x.sub[j] (way ++ [(j:Int)]) l).length < 1000
     ·rw [if_pos c,if_neg (by simpa using c)]
     ·rw [if_neg c,if_pos (by simpa using c)]
    rw [drop_at hjl,gaL_cons]
    simp only [forN,hb,zaN]
    by_cases c:(gaT M x.sub[j] (way ++ [(j:Int)]) l).length < 1000
    ·rw [if_pos c,show ((j:Int) + 1)=((j + 1:Nat):Int) by omega]
     exact ih (j + 1) _ zaJ c
    ·rw [if_neg c,gaL_full zaJ,if_neg c]
  have fin : ∀ l1:List (List Int),l1.length < 1000→((forN (fun i s=>zce.b0 way (zce.f K) (some M) x i s) ((x.sub.length:Int) - 0).toNat 0 l1).bind (aft fun (s14:List (List Int))=>some (s14,true)))=some (gaL M 0 x.sub way l1,decide ((gaL M 0 x.sub way l1).length < 1000)):=fun l1 h1=>by
   have:=loop x.sub.length 0 l1 zaJ h1
   rw [List.drop_zero] at this
   rw [show ((x.sub.length:Int) - 0).toNat=x.sub.length by omega]
   rw [show ((0:Nat):Int)=0 from rfl] at this
   rw [this,zaN]
   by_cases c:(gaL M 0 x.sub way l1).length < 1000
   ·rw [if_pos c,decide_eq_true c]; rfl
   ·rw [if_neg c,decide_eq_false c]; rfl
  unfold zce.g
  rw [fits14 hr (kid_form ht),zaN]
  by_cases c:rowV M x=0
  ·have hg:gaT M x way l=gaL M 0 x.sub way l:=by rw [gaT_eq,if_neg (Nat.not_le.2 hl),if_neg (fun q=>q c)]
   rw [hg,if_pos c,if_neg zaK,zaN,if_neg zaK]
   exact fin l hl
  ·have hg:gaT M x way l=gaL M 0 x.sub way (l ++ [way]):=by rw [gaT_eq,if_neg (Nat.not_le.2 hl),if_pos c]
   rw [hg,if_neg c,if_pos zaK]
   unfold zcd.f zaW.f
   rw [chk,if_pos (by simp; omega),zaN,chk,if_pos (by simp; omega),zaN]
   have hll:(l ++ [way]).length=l.length + 1:=by rw [List.length_append,List.length_singleton]
   by_cases c2:(l ++ [way]).length < 1000
   ·have d:decide (((l ++ [way]).length:Int) < 1000)=true:=decide_eq_true zaJ
    rw [d,if_neg zaK]
    exact fin _ c2
   ·have d:decide (((l ++ [way]).length:Int) < 1000)=false:=decide_eq_false zaJ
    rw [d,if_pos zaK,gaL_full (Nat.not_lt.1 c2),decide_eq_false c2]
end
section
open Gw
end
section
open Gw
def jp (M:List Nd) (x:PTerm):List (List Int) × Int:=if uh M x ≠ 0 then ([],uh M x) else (gaT M x [] [],0)
theorem Redexes14 {M:List Nd} {K:Nat} {x:PTerm} (hK:300000 ≤ K) (hn:nmT x) (hM:M.Nodup):zcf.f K (some M) x=some (jp M x):=by
 unfold zcf.f
 rw [begun14 zaJ hn hM,zaN]
 by_cases c:uh M x=0
 ·obtain ⟨⟨a1,a2,a3⟩,a4⟩ := ahead_ok.1 c
  have hv:jp M x=(gaT M x [] [],0):=by unfold jp; rw [if_neg (fun q=>q c)]
  rw [hv,if_neg (by simpa using c),chk,if_pos (by simpa using c),each14 K x [] [] zaJ (by simp; omega) a3 a4 zaK]; rfl
 ·have hv:jp M x=([],uh M x):=by unfold jp; rw [if_pos c]
  rw [hv,if_pos (by simpa using c)]
end
section
open Gw
mutual
def fiT (M:List Nd):PTerm→List Int→Option (List Int)
 | .mk k n o f s,way=>if rowV M (.mk k n o f s) ≠ 0 then some way else fiL M 0 s way
def fiL (M:List Nd):Nat→List PTerm→List Int→Option (List Int)
 | _,[],_=>none
 | i,y :: r,way=>match fiT M y (way ++ [(i:Int)]) with
  | some w=>some w
  | none=>fiL M (i + 1) r way
end
mutual
theorem gaT_head (M:List Nd) : ∀ (x:PTerm) (way a:List Int) (l:List (List Int)),(gaT M x way (a :: l)).head? = some a
 | .mk k n o f s,way,a,l=>by
  simp only [gaT]
  split
  ·rfl
  ·split
   ·exact ga_head M s 0 way a (l ++ [way])
   ·exact ga_head M s 0 way a l
theorem ga_head (M:List Nd) : ∀ (r:List PTerm) (i:Nat) (way a:List Int) (l:List (List Int)),(gaL M i r way (a :: l)).head? = some a
 | [],i,way,a,l=>by rw [gaL_nil]; rfl
 | y :: r,i,way,a,l=>by
  have h:=gaT_head M y (way ++ [(i:Int)]) a l
  rw [gaL_cons]
  cases q:gaT M y (way ++ [(i:Int)]) (a :: l) with
  | nil=>rw [q] at h; cases h
  | cons b l'=>rw [q] at h; cases h; exact ga_head M r (i + 1) way a l'
end
mutual
theorem fi_ga (M:List Nd) : ∀ (x:PTerm) (way:List Int),(gaT M x way []).head? = fiT M x way
 | .mk k n o f s,way=>by
  have h:=gaL_fi M s 0 way
  simp only [gaT,fiT]
  rw [if_neg zaK]
  by_cases c:rowV M (.mk k n o f s) ≠ 0
  ·rw [if_pos c,if_pos c]; exact ga_head M s 0 way way [] 
  ·rw [if_neg c,if_neg c]; exact h
theorem gaL_fi (M:List Nd) : ∀ (r:List PTerm) (i:Nat) (way:List Int),(gaL M i r way []).head? = fiL M i r way
 | [],i,way=>by simp only [gaL,fiL]; rfl
 | y :: r,i,way=>by
  have h:=fi_ga M y (way ++ [(i:Int)])
  rw [gaL_cons,fiL]
  cases q:gaT M y (way ++ [(i:Int)]) [] with
  | nil=>rw [q] at h; rw [← h]; exact gaL_fi M r (i + 1) way
  | cons a l=>rw [q] at h; rw [← h]; exact ga_head M r (i + 1) way a l
end
end
section
open Gw
end
section
open Gw
theorem told_all {M:List Nd} {l:List PTerm} (h : ∀ y ∈ l,toldB M y=true):toldBL M l=true:=by rw [toldBL_all,List.all_eq_true]; exact h
end
section
open Gw
theorem told_z (M:List Nd):toldB M PTerm.z=true:=by rw [toldB_eq]; rfl
theorem told_any {M:List Nd} {x:PTerm} (h:toldB M x=true) (i:Int):toldB M (kid x i)=true:=by
 unfold kid at_
 rw [List.getD_eq_getElem?_getD]
 by_cases c:i.toNat < x.sub.length
 ·rw [List.getElem?_eq_getElem c]; exact told_kid h c
 ·rw [List.getElem?_eq_none zaJ]; exact told_z M
theorem bes_form {M:List Nd} (hw:Wf M) {p:PTerm} (hp:toldB M p=true) {k f:Int} (hf:f=3∨f=4∨f=5) (h:besV M p k f=2):inb (nd M p.form).l M.length=true∧inb (nd M p.form).r M.length=true:=by
 obtain ⟨h1,h2,h3⟩ := uD h
 have hi:=told_form hp h1
 rw [← h3] at hf
 exact ⟨hw.left hi hf,hw.right hi hf⟩
theorem done_ok {M:List Nd} {x:PTerm} {w:List Int} (h:(uj M x w).2=0):(doV M x w).2=0∧x6 (doV M x w).1=0∧uj M x w=((doV M x w).1,0):=by
 unfold uj at h ⊢
 by_cases c:(doV M x w).2=0
 ·rw [if_neg (fun q=>q c)] at h ⊢
  by_cases k:x6 (doV M x w).1=0
  ·rw [if_neg (fun q=>q k)]; exact ⟨c,k,rfl⟩
  ·rw [if_pos k] at h; exact absurd h zaI
 ·rw [if_pos c] at h; exact absurd h c
theorem nm_done {M:List Nd} {x:PTerm} {w:List Int} (hn:nmT x) (h:(uj M x w).2=0):nmT (uj M x w).1:=by
 obtain ⟨h1,h2,h3⟩ := done_ok h
 rw [h3]; exact nm_do w x hn
end
section
open Gw
theorem cont_2 {M:List Nd} {x:PTerm} (h:rowV M x=2):xV M x=if (putV (kid (kid (kid x 0) 0) 0) (kid (kid x 0) 0).name (theT (kid x 1) (nd M (kid x 0).form).l)).2 ≠ 0 then putV (kid (kid (kid x 0) 0) 0) (kid (kid x 0) 0).name (theT (kid x 1) (nd M (kid x 0).form).l) else (theT (putV (kid (kid (kid x 0) 0) 0) (kid (kid x 0) 0).name (theT (kid x 1) (nd M (kid x 0).form).l)).1 (nd M (kid x 0).form).r,0):=by unfold xV; simp only [h]; rfl
theorem cont_4 {M:List Nd} {x:PTerm} (h:rowV M x=4):xV M x=(if x.kind=6 then theT (kid (kid (kid x 0) 0) 1) (nd M (kid x 0).form).r else theT (kid (kid (kid x 0) 0) 0) (nd M (kid x 0).form).l,0):=by unfold xV; simp only [h]; rfl
theorem cont_6 {M:List Nd} {x:PTerm} (h:rowV M x=6):xV M x=kG x (theT (kid (kid (kid x 0) 0) 0) (if besV M (kid x 0) 8 4=2 then (nd M (kid x 0).form).r else (nd M (kid x 0).form).l)) (decide (besV M (kid x 0) 8 4=2)):=by unfold xV; simp only [h]; rfl
theorem cont_7 {M:List Nd} {x:PTerm} (h:rowV M x=7):xV M x=putV (kid x 1) x.name (kid x 0):=by unfold xV; simp only [h]; rfl
theorem cont_8 {M:List Nd} {x:PTerm} (h:rowV M x=8):xV M x=(kid x 0,0):=by unfold xV; simp only [h]; rfl
end
section
open Gw
end
section
open Gw
theorem wf_nil:Wf []:=⟨by simp,by simp,fun i hi=>absurd (zD hi) zaK,fun i hi=>absurd (zD hi) zaK,fun j n h=>by simp at h⟩
theorem tables14 {rows:List Nd} (hn : ∀ n ∈ rows,n.name.size < 9223372036854775808) (hl:rows.length * 40 ≤ 140737488355328) : ∃ M,zcx.f rows=some (some M,some M)∧Wf M:=by
 unfold zcx.f
 rcases both_some hn hl with h | ⟨h,hw⟩
 ·exact ⟨[],by rw [h]; rfl,wf_nil⟩
 ·exact ⟨rows,by rw [h]; rfl,hw⟩
end
section
open Gw
def InT (M:List Nd):List Int→PTerm→Prop
 | [],x=>rowV M x ≠ 0
 | k :: w,x=>0 ≤ k∧k < (x.sub.length:Int)∧InT M w (kid x k)
mutual
theorem gaT_in (M:List Nd) : ∀ (x:PTerm) (way:List Int) (l:List (List Int)) (w:List Int),w ∈ gaT M x way l→w ∈ l ∨ ∃ v,w=way ++ v∧InT M v x
 | .mk k n o f s,way,l,w,hw=>by
  simp only [gaT] at hw
  split at hw
  ·exact .inl hw
  ·rcases gaL_in M s 0 way _ w hw with q | ⟨j,v,hj,e,h⟩
   ·split at q
    ·rename_i c
     rcases List.mem_append.1 q with q | q
     ·exact .inl q
     ·rw [List.mem_singleton] at q; subst q
      exact .inr ⟨[],by simp,c⟩
    ·exact .inl q
   ·refine .inr ⟨(j:Int) :: v,by rw [e,Nat.zero_add],?_⟩
    refine ⟨by omega,by show (j:Int) < (s.length:Int); omega,?_⟩
    rw [show kid (PTerm.mk k n o f s) (j:Int)=s[j] from kid_at hj]; exact h
theorem gaL_in (M:List Nd) : ∀ (r:List PTerm) (i:Nat) (way:List Int) (l:List (List Int)) (w:List Int),w ∈ gaL M i r way l→w ∈ l ∨ ∃ j v,∃ h:j < r.length,w=way ++ ((i + j:Nat):Int) :: v∧InT M v r[j]
 | [],i,way,l,w,hw=>by rw [gaL_nil] at hw; exact .inl hw
 | y :: r,i,way,l,w,hw=>by
  rw [gaL_cons] at hw
  rcases gaL_in M r (i + 1) way _ w hw with q | ⟨j,v,hj,e,h⟩
  ·rcases gaT_in M y _ l w q with p | ⟨v,e,h⟩
   ·exact .inl p
   ·exact .inr ⟨0,v,by simp,by rw [e]; simp,h⟩
  ·exact .inr ⟨j + 1,v,by simpa using hj,by rw [e,show i + 1 + j=i + (j + 1) by omega],h⟩
end
theorem ga_in {M:List Nd} {x:PTerm} {w:List Int} (h:w ∈ gaT M x [] []):InT M w x:=by
 rcases gaT_in M x [] [] w h with q | ⟨v,e,h⟩
 ·simp at q
 ·rw [e]; exact h
theorem kid_lt {x:PTerm} {i:Int} (h0:0 ≤ i) (h1:i < (x.sub.length:Int)):sizeT (kid x i) < sizeT x∧depT (kid x i) < depT x:=by
 obtain ⟨j,rfl⟩ : ∃ j:Nat,i=j:=⟨i.toNat,by omega⟩
 have hj:j < x.sub.length:=by omega
 have:=y8 (List.getElem_mem hj); have:=xR _ (List.getElem_mem hj); have:=yk x; have:=ya x
 rw [show kid x (j:Int)=x.sub[j] from kid_at hj]; omega
theorem right_the {a:PTerm} {f:Int} (ha:rightT a=true) (h:0 ≤ f∧f < 1024):rightT (theT a f)=true:=by
 refine right_of ⟨rfl,fun q=>absurd q (by simp [PTerm.kind]),fun _=>rfl,fun q=>absurd q (by simp [PTerm.kind]),fun _=>rfl,fun _=>h,fun q=>absurd rfl q⟩ fun i hi=>?_
 have:i=0:=by simpa [PTerm.sub] using hi
 subst this; exact ha
theorem jW {x y:PTerm} {n:ByteArray} (hx:x6 x=0) (hy:x6 y=0) (hn:isWord n):(putV x n y).2=0∨(putV x n y).2=121:=by
 unfold putV
 rw [if_neg (fun q=>q hx),if_neg (fun q=>q hy),if_neg (fun q=>q hn)]
 split
 ·exact .inr rfl
 ·exact .inl rfl
theorem form_lt {M:List Nd} (hw:Wf M) {i:Int} (h:inb i M.length=true):0 ≤ i∧i < 1024:=by
 have:=zD h; have:=hw.len; omega
theorem none9 {r:Int} (h0:0 ≤ r) (h8:r ≤ 8) (c0:r ≠ 0) (c1:¬ r=1) (c2:¬ r=2) (c3:¬ r=3) (c4:¬ r=4) (c5:¬ r=5) (c6:¬ r=6) (c7:¬ r=7) (c8:¬ r=8):False:=by omega
theorem cont_code {M:List Nd} (hw:Wf M) {x:PTerm} (hc:x6 x=0) (ht:toldB M x=true) (h:rowV M x ≠ 0):(xV M x).2=0∨(xV M x).2=121:=by
 obtain ⟨hs,hd,hr⟩ := xU.1 hc
 obtain ⟨r1,r2,r3,r4,r5,r6,r7,r8⟩ := @row_iff M x
 obtain ⟨l2,l1,l3⟩ := kids (hr:=hr)
 have ck : ∀ {i:Int},0 ≤ i→i < (x.sub.length:Int)→x6 (kid x i)=0∧sizeT (kid x i) < sizeT x∧depT (kid x i) < depT x∧rightT (kid x i)=true:=fun {i} h0 h1=>by
  have:=kid_lt h0 h1
  have hk:=xZ hr rfl ⟨h0,h1⟩
  exact ⟨xU.2 ⟨by omega,by omega,hk⟩,this.1,this.2,hk⟩
 have ck2 : ∀ {p:PTerm} {i:Int},rightT p=true→sizeT p < sizeT x→depT p < depT x→0 ≤ i→i < (p.sub.length:Int)→x6 (kid p i)=0∧sizeT (kid p i) + 1 < sizeT x∧depT (kid p i) + 1 < depT x∧rightT (kid p i)=true:=fun {p i} hp h1 h2 h3 h4=>by
  have:=kid_lt h3 h4
  have hk:=xZ hp rfl ⟨h3,h4⟩
  exact ⟨xU.2 ⟨by omega,by omega,hk⟩,by omega,by omega,hk⟩
 have the0 : ∀ {a:PTerm} {f:Int},rightT a=true→sizeT a < sizeT x→depT a < depT x→inb f M.length=true→x6 (theT a f)=0:=fun {a f} h1 h2 h3 h4=>by
  refine xU.2 ⟨by rw [size_the]; omega,?_,right_the h1 (form_lt hw h4)⟩
  have e:depT (theT a f)=1 + depL [a]:=ya (theT a f)
  have e2:depL [a]=depT a:=by simp [depL]
  omega
 have tk0:=told_any ht 0
 unfold xV
 dsimp only
 split
 ·rename_i c
  obtain ⟨k3,k2⟩ := r1.1 c
  have hl:=l2 (.inl k3)
  obtain ⟨c0,s0,d0,p0⟩ := ck (i:=0) zaJ zaJ
  have hl0:=(xS p0).2.1 k2
  exact jW (ck2 p0 s0 d0 (i:=0) zaJ zaJ).1 (ck (i:=1) zaJ zaJ).1 ((ym p0).nm (.inr (.inl k2)))
 split
 ·rename_i _ c
  obtain ⟨k3,b⟩ := r2.1 c
  have hl:=l2 (.inl k3)
  obtain ⟨c0,s0,d0,p0⟩ := ck (i:=0) zaJ zaJ
  obtain ⟨b1,b2,b3⟩ := uD b
  have hl0:=(xS p0).2.2.2.2 b1
  obtain ⟨c1,s1,d1,p1⟩ := ck2 p0 s0 d0 (i:=0) zaJ zaJ
  have hl1:=(xS p1).2.1 b2
  obtain ⟨c2,s2,d2,p2⟩ := ck2 p1 zaJ zaJ (i:=0) zaJ zaJ
  obtain ⟨cy,sy,dy,py⟩ := ck (i:=1) zaJ zaJ
  have hf:=bes_form hw tk0 (.inr (.inr rfl)) b
  rcases jW c2 (the0 py sy dy hf.1) ((ym p1).nm (.inr (.inl b2))) with q | q
  ·rw [if_neg (fun z=>z q)]; exact .inl rfl
  ·rw [if_pos (by rw [q]; decide)]; exact .inr q
 split
 ·exact .inl rfl
 split
 ·exact .inl rfl
 split
 ·rename_i c
  have h5:=r5.1 c
  have hl:=l3 h5.1
  obtain ⟨c0,s0,d0,p0⟩ := ck (i:=0) zaJ zaJ
  have hl0:(kid x 0).sub.length=1:=by
   have:=zac p0
   rcases h5.2 with q | q <;> rw [q] at this <;> simp [vu] at this <;> omega
  have hy:=(ck2 p0 s0 d0 (i:=0) zaJ zaJ).1
  unfold kG
  split
  ·exact jW (ck (i:=2) zaJ zaJ).1 hy ((ym hr).ot h5.1)
  ·exact jW (ck (i:=1) zaJ zaJ).1 hy ((ym hr).nm (.inr (.inr (.inl h5.1))))
 split
 ·rename_i c
  have h6:=r6.1 c
  have hl:=l3 h6.1
  obtain ⟨c0,s0,d0,p0⟩ := ck (i:=0) zaJ zaJ
  have hb:(kid x 0).kind=11∧((kid (kid x 0) 0).kind=7∨(kid (kid x 0) 0).kind=8)∧inb (nd M (kid x 0).form).l M.length=true∧inb (nd M (kid x 0).form).r M.length=true:=by
   rcases h6.2 with q | q
   ·have b:=uD q; exact ⟨b.1,by omega,bes_form hw tk0 (.inr (.inl rfl)) q⟩
   ·have b:=uD q; exact ⟨b.1,by omega,bes_form hw tk0 (.inr (.inl rfl)) q⟩
  obtain ⟨b1,b2,b3,b4⟩ := hb
  have hl0:=(xS p0).2.2.2.2 b1
  obtain ⟨c1,s1,d1,p1⟩ := ck2 p0 s0 d0 (i:=0) zaJ zaJ
  have hl1:(kid (kid x 0) 0).sub.length=1:=by
   have:=zac p1
   rcases b2 with q | q <;> rw [q] at this <;> simp [vu] at this <;> omega
  obtain ⟨c2,s2,d2,p2⟩ := ck2 p1 zaJ zaJ (i:=0) zaJ zaJ
  have hy:x6 (theT (kid (kid (kid x 0) 0) 0) (if besV M (kid x 0) 8 4=2 then (nd M (kid x 0).form).r else (nd M (kid x 0).form).l))=0:=the0 p2 zaJ zaJ (by split <;> assumption)
  unfold kG
  split
  ·exact jW (ck (i:=2) zaJ zaJ).1 hy ((ym hr).ot h6.1)
  ·exact jW (ck (i:=1) zaJ zaJ).1 hy ((ym hr).nm (.inr (.inr (.inl h6.1))))
 split
 ·rename_i c
  have k12:=r7.1 c
  have hl:=l2 (.inr k12)
  exact jW (ck (i:=1) zaJ zaJ).1 (ck (i:=0) zaJ zaJ).1 ((ym hr).nm (.inr (.inr (.inr k12))))
 split
 ·exact .inl rfl
 ·rename_i c1 c2 c3 c4 c5 c6 c7 c8
  exfalso
  obtain ⟨-,q0,q8⟩ := r8
  exact none9 q0 q8 h c1 c2 c3 c4 c5 c6 c7 c8
theorem do_code {M:List Nd} (hw:Wf M) : ∀ (w:List Int) {x:PTerm},x6 x=0→toldB M x=true→InT M w x→(doV M x w).2=0∨(doV M x w).2=121
 | [],x,hc,ht,h=>by rw [doV]; exact cont_code hw hc ht h
 | k :: w,x,hc,ht,h=>by
  obtain ⟨hs,hd,hr⟩ := xU.1 hc
  have hk:=kid_lt h.1 h.2.1
  rw [doV,if_neg (by have:=h.1; have:=h.2.1; omega)]
  have ih:=do_code hw w (xU.2 ⟨by omega,by omega,xZ hr rfl ⟨h.1,h.2.1⟩⟩) (told_any ht k) h.2.2
  split
  ·exact ih
  ·exact .inl rfl
theorem done_code {M:List Nd} (hw:Wf M) {x:PTerm} {w:List Int} (ha:uh M x=0) (h:InT M w x):(uj M x w).2=0∨(uj M x w).2=121:=by
 obtain ⟨a1,a2⟩ := ahead_ok.1 ha
 have:=do_code hw w (xU.2 a1) a2 h
 unfold uj
 split
 ·exact this
 ·split
  ·exact .inr rfl
  ·exact .inl rfl
end
section
open Gw
theorem yX {x:PTerm} (h:x.kind ≠ 11):(stripT x).kind=x.kind:=by rw [x0 h,mk_kind]
theorem gD_strip {n:ByteArray} (hne:n ≠ ⟨#[]⟩) : ∀ (d:Nat) (x:PTerm),depT x ≤ d→rightT x=true → ∀ {e e':Nat},e ≤ e'→gD true n e (stripT x) ≤ gD true n e' x
 | 0,x,h,_,_,_,_=>by have:=yj x; omega
 | d + 1,x,h,hr,e,e',he=>by
  have hd:=ya x
  by_cases k:x.kind=11
  ·obtain ⟨p,hp,e1⟩ := jZ hr k
   have hl:p ∈ x.sub:=by rw [hp]; simp
   have hdp:=xR _ hl
   have hrp:rightT p=true:=by
    have:=xY hr (i:=0) (by rw [hp]; simp)
    simpa [hp] using this
   have ih:=gD_strip hne d p zaJ hrp he
   rw [e1,gD_eq true n e' x,if_neg zaJ,hp]
   simp only [gDL]
   have hb:yn x.kind x.name x.other 0 ≠ n:=by rw [k]; simpa [yn] using hne.symm
   rw [if_neg hb]; omega
  ·rw [x0 k,gD_eq,gD_eq true n e' x]
   show (if x.kind=1 then (if x.name=n then e else 1) else 1 + gDL true n e x.kind x.name x.other 0 (x.sub.map stripT)) ≤ _
   by_cases k1:x.kind=1
   ·rw [if_pos k1,if_pos k1]; split <;> omega
   ·rw [if_neg k1,if_neg k1]
    have key : ∀ (l:List PTerm) (i:Nat),(∀ z ∈ l,depT z ≤ d∧rightT z=true)→gDL true n e x.kind x.name x.other i (l.map stripT) ≤ gDL true n e' x.kind x.name x.other i l:=by
     intro l
     induction l with
     | nil=>intro i _; simp [gDL]
     | cons z l ih =>
      intro i hz
      have h1:=ih (i + 1) (fun y hy=>hz y (by simp [hy]))
      obtain ⟨z1,z2⟩ := hz z zaK
      have h2:=gD_strip hne d z z1 z2 he
      have h3:=v6 _ z (Nat.le_refl _) z2
      simp only [List.map_cons,gDL]
      split
      ·simp only [if_true]; omega
      ·omega
    have:=key x.sub 0 (fun z hz=>by
     obtain ⟨j,hj,rfl⟩ := List.getElem_of_mem hz
     have:=xR _ (List.getElem_mem hj)
     exact ⟨by omega,xY hr hj⟩)
    omega
theorem ke {x:PTerm} (h:x6 x=0):x6 (stripT x)=0:=by
 obtain ⟨h1,h2,h3⟩ := xU.1 h
 obtain ⟨s1,s2,s3,_⟩ := v6 _ x (Nat.le_refl _) h3
 exact xU.2 ⟨by omega,by omega,s3⟩
theorem zae {x y:PTerm} {n:ByteArray} (h:(putV x n y).2=0):putV (stripT x) n (stripT y)=(stripT (putV x n y).1,0):=by
 obtain ⟨cx,cy,hn,e,g⟩ := putV_ok h
 obtain ⟨x1,x2,x3⟩ := xU.1 cx
 obtain ⟨y1,y2,y3⟩ := xU.1 cy
 have hne:=word_ne hn
 have hcond:¬ (65536 < sizeT x + cntT n x * (sizeT y - 1)∨1024 < gD true n (depT y) x):=fun q=>by
  unfold putV at h
  rw [if_neg (fun q=>q cx),if_neg (fun q=>q cy),if_neg (fun q=>q hn),if_pos q] at h
  exact absurd h zaI
 obtain ⟨s1,s2,s3,_⟩ := v6 _ x (Nat.le_refl _) x3
 obtain ⟨t1,t2,t3,_⟩ := v6 _ y (Nat.le_refl _) y3
 have hc:=cnt_strip _ x (Nat.le_refl _) x3 n hne
 have hg:=gD_strip hne _ x (Nat.le_refl _) x3 t2
 have hm:cntT n x * (sizeT (stripT y) - 1) ≤ cntT n x * (sizeT y - 1):=Nat.mul_le_mul_left _ zaJ
 have hcond':¬ (65536 < sizeT (stripT x) + cntT n (stripT x) * (sizeT (stripT y) - 1)∨1024 < gD true n (depT (stripT y)) (stripT x)):=fun q=>hcond (by rw [hc] at q; omega)
 rw [e,strip_put _ x (Nat.le_refl _) x3 n y hn y3 zaJ]
 unfold putV
 rw [if_neg (fun q=>q (ke cx)),if_neg (fun q=>q (ke cy)),if_neg (fun q=>q hn),if_neg hcond']
theorem xP {x:PTerm} (hk:x.kind ≠ 11) (i:Int):kid (stripT x) i=stripT (kid x i):=by
 rw [x0 hk]
 show at_ PTerm.z (x.sub.map stripT) i=_
 unfold at_; exact strip_getD _ _
theorem zag (a:PTerm) (f:Int):stripT (theT a f)=stripT a:=by rw [kP]; rfl
theorem ja {p:PTerm} (hr:rightT p=true) (hk:p.kind=11):stripT p=stripT (kid p 0):=by
 obtain ⟨q,hq,e⟩ := jZ hr hk
 have:kid p 0=q:=by unfold kid; rw [hq]; rfl
 rw [this,e]
theorem cont_1 {M:List Nd} {x:PTerm} (h:rowV M x=1):xV M x=putV (kid (kid x 0) 0) (kid x 0).name (kid x 1):=by unfold xV; simp only [h]; rfl
theorem cont_3 {M:List Nd} {x:PTerm} (h:rowV M x=3):xV M x=(if x.kind=6 then kid (kid x 0) 1 else kid (kid x 0) 0,0):=by unfold xV; simp only [h]; rfl
theorem cont_5 {M:List Nd} {x:PTerm} (h:rowV M x=5):xV M x=kG x (kid (kid x 0) 0) (decide ((kid x 0).kind=8)):=by unfold xV; simp only [h]; rfl
theorem row_cases {r:Int} (h0:0 ≤ r) (h8:r ≤ 8) (c0:r ≠ 0) (c8:r ≠ 8):r=1∨r=2∨r=3∨r=4∨r=5∨r=6∨r=7:=by omega
theorem into_strip {x a:PTerm} {b:Bool} (hk:x.kind ≠ 11) (h:(kG x a b).2=0):kG (stripT x) (stripT a) b=(stripT (kG x a b).1,0):=by
 unfold kG at h ⊢
 have hn:(stripT x).name=x.name:=by rw [x0 hk,mk_name]
 have ho:(stripT x).other=x.other:=by rw [x0 hk,mk_other]
 rw [xP hk,xP hk,hn,ho]
 cases b
 ·exact zae h
 ·exact zae h
theorem cont_strip {M:List Nd} {x:PTerm} (hr:rightT x=true) (h:rowV M x ≠ 0) (h8:rowV M x ≠ 8) (h0:(xV M x).2=0):xV M (stripT x)=(stripT (xV M x).1,0):=by
 obtain ⟨r1,r2,r3,r4,r5,r6,r7,-,q0,q8⟩ := @row_iff M x
 obtain ⟨s1,-,s3,-,s5,-,s7,-⟩ := @row_iff M (stripT x)
 obtain ⟨l2,l1,l3⟩ := kids (hr:=hr)
 have nm : ∀ {p:PTerm},p.kind ≠ 11→(stripT p).name=p.name:=fun k=>by rw [x0 k,mk_name]
 rcases row_cases q0 q8 h h8 with c | c | c | c | c | c | c
 ·obtain ⟨k3,k2⟩ := r1.1 c
  have hx:x.kind ≠ 11:=by omega
  have hp:(kid x 0).kind ≠ 11:=by omega
  have hs:rowV M (stripT x)=1:=s1.2 ⟨by rw [yX hx]; exact k3,by rw [xP hx,yX hp]; exact k2⟩
  rw [cont_1 c] at h0 ⊢
  rw [cont_1 hs,xP hx,xP hx,xP hp,nm hp]
  exact zae h0
 ·obtain ⟨k3,b⟩ := r2.1 c
  obtain ⟨b1,b2,b3⟩ := uD b
  have hx:x.kind ≠ 11:=by omega
  have hl:=l2 (.inl k3)
  have hrp:rightT (kid x 0)=true:=xZ hr hl ⟨by omega,by omega⟩
  have hq:(kid (kid x 0) 0).kind ≠ 11:=by omega
  have e0:kid (stripT x) 0=stripT (kid (kid x 0) 0):=by rw [xP hx,ja hrp b1]
  have hs:rowV M (stripT x)=1:=s1.2 ⟨by rw [yX hx]; exact k3,by rw [e0,yX hq]; exact b2⟩
  rw [cont_2 c] at h0 ⊢
  split at h0
  ·rename_i d; exact absurd h0 d
  rename_i d
  have hp:=zae (by simpa using d:(putV (kid (kid (kid x 0) 0) 0) (kid (kid x 0) 0).name (theT (kid x 1) (nd M (kid x 0).form).l)).2=0)
  rw [zag] at hp
  rw [if_neg d,cont_1 hs,e0,xP hq,xP hx,nm hq,hp,zag]
 ·obtain ⟨k56,k4⟩ := r3.1 c
  have hx:x.kind ≠ 11:=by omega
  have hp:(kid x 0).kind ≠ 11:=by omega
  have hs:rowV M (stripT x)=3:=s3.2 ⟨by rw [yX hx]; exact k56,by rw [xP hx,yX hp]; exact k4⟩
  rw [cont_3 c,cont_3 hs,yX hx,xP hx,xP hp,xP hp]
  split <;> rfl
 ·obtain ⟨k56,b⟩ := r4.1 c
  obtain ⟨b1,b2,b3⟩ := uD b
  have hx:x.kind ≠ 11:=by omega
  have hl:=l1 zaJ
  have hrp:rightT (kid x 0)=true:=xZ hr hl ⟨by omega,by omega⟩
  have hq:(kid (kid x 0) 0).kind ≠ 11:=by omega
  have e0:kid (stripT x) 0=stripT (kid (kid x 0) 0):=by rw [xP hx,ja hrp b1]
  have hs:rowV M (stripT x)=3:=s3.2 ⟨by rw [yX hx]; exact k56,by rw [e0,yX hq]; exact b2⟩
  rw [cont_4 c,cont_3 hs,yX hx,e0,xP hq,xP hq]
  split
  ·rw [zag]
  ·rw [zag]
 ·obtain ⟨k9,k78⟩ := r5.1 c
  have hx:x.kind ≠ 11:=by omega
  have hp:(kid x 0).kind ≠ 11:=by omega
  have hs:rowV M (stripT x)=5:=s5.2 ⟨by rw [yX hx]; exact k9,by rw [xP hx,yX hp]; exact k78⟩
  rw [cont_5 c] at h0 ⊢
  rw [cont_5 hs,xP hx,xP hp,yX hp]
  exact into_strip hx h0
 ·obtain ⟨k9,b⟩ := r6.1 c
  have hx:x.kind ≠ 11:=by omega
  have hl:=l3 k9
  have hrp:rightT (kid x 0)=true:=xZ hr hl ⟨by omega,by omega⟩
  have hb:(kid x 0).kind=11∧((kid (kid x 0) 0).kind=7∨(kid (kid x 0) 0).kind=8)∧(besV M (kid x 0) 8 4=2↔(kid (kid x 0) 0).kind=8):=by
   rcases b with b | b
   ·have q:=uD b; exact ⟨q.1,.inr q.2.1,⟨fun _=>q.2.1,fun _=>b⟩⟩
   ·have q:=uD b
    refine ⟨q.1,.inl q.2.1,⟨fun z=>(uD z).2.1,fun z=>?_⟩⟩
    have:=q.2.1; omega
  obtain ⟨b1,b2,b3⟩ := hb
  have hq:(kid (kid x 0) 0).kind ≠ 11:=by omega
  have e0:kid (stripT x) 0=stripT (kid (kid x 0) 0):=by rw [xP hx,ja hrp b1]
  have hs:rowV M (stripT x)=5:=s5.2 ⟨by rw [yX hx]; exact k9,by rw [e0,yX hq]; exact b2⟩
  rw [cont_6 c] at h0 ⊢
  have hi:=into_strip hx h0
  rw [zag] at hi
  rw [cont_5 hs,e0,xP hq,yX hq,← hi,dec_of b3]
 ·have k12:=r7.1 c
  have hx:x.kind ≠ 11:=by omega
  have hs:rowV M (stripT x)=7:=s7.2 (by rw [yX hx]; exact k12)
  rw [cont_7 c] at h0 ⊢
  rw [cont_7 hs,xP hx,xP hx,nm hx]
  exact zae h0
def atT:List Int→PTerm→PTerm
 | [],x=>x
 | k :: w,x=>atT w (kid x k)
def bareT:List Int→PTerm→List Int
 | [],x=>[]
 | k :: w,x=>if x.kind ≠ 11 then k :: bareT w (kid x k) else bareT w (kid x k)
theorem do_strip {M:List Nd} : ∀ (w:List Int) {x:PTerm},rightT x=true→InT M w x→(doV M x w).2=0 →
  (rowV M (atT w x)=8→stripT (doV M x w).1=stripT x)∧(rowV M (atT w x) ≠ 8→doV M (stripT x) (bareT w x)=(stripT (doV M x w).1,0))
 | [],x,hr,hi,h0=>by
  rw [doV] at h0
  simp only [atT]
  refine ⟨fun h8=>?_,fun h8=>?_⟩
  ·have k11:=((@row_iff M x).2.2.2.2.2.2.2.1.1 h8).1
   rw [doV,cont_8 h8]
   exact (ja hr k11).symm
  ·show doV M (stripT x) []=_
   rw [doV,doV]; exact cont_strip hr hi h8 h0
 | k :: w,x,hr,⟨i1,i2,i3⟩,h0=>by
  obtain ⟨j,rfl⟩ : ∃ j:Nat,k=j:=⟨k.toNat,by omega⟩
  have hj:j < x.sub.length:=by omega
  have hkj:kid x (j:Int)=x.sub[j]:=kid_at hj
  have hrk:rightT (kid x (j:Int))=true:=xZ hr rfl ⟨i1,i2⟩
  have hdo:doV M x ((j:Int) :: w)=if (doV M (kid x (j:Int)) w).2 ≠ 0 then (PTerm.z,(doV M (kid x (j:Int)) w).2) else (⟨x.kind,x.name,x.other,x.form,x.sub.set j (doV M (kid x (j:Int)) w).1⟩,0):=by
   rw [doV,if_neg zaJ]; rfl
  rw [hdo] at h0 ⊢
  by_cases z:(doV M (kid x (j:Int)) w).2=0
  rotate_left
  ·rw [if_pos z] at h0; exact absurd h0 z
  rw [if_neg (fun q=>q z)]
  obtain ⟨a1,a2⟩ := do_strip w hrk i3 z
  simp only [atT,bareT]
  generalize hy:(doV M (kid x (j:Int)) w).1=y at a1 a2 ⊢
  by_cases k11:x.kind=11
  ·have hl:=(xS hr).2.2.2.2 k11
   have hj0:j=0:=by omega
   subst hj0
   have e1:stripT x=stripT (kid x ((0:Nat):Int)):=ja hr k11
   have e2:stripT (⟨x.kind,x.name,x.other,x.form,x.sub.set 0 y⟩ : PTerm)=stripT y:=by
    obtain ⟨p,hp,_⟩ := jZ hr k11
    rw [kP]
    simp only [mk_kind,mk_sub,k11,if_true,hp,List.set_cons_zero,List.map_cons,List.headD_cons]
   rw [e2,e1,if_neg (fun q=>q k11)]
   exact ⟨a1,a2⟩
  ·have e2:stripT (⟨x.kind,x.name,x.other,x.form,x.sub.set j y⟩ : PTerm)=⟨x.kind,x.name,x.other,x.form,(x.sub.map stripT).set j (stripT y)⟩ := by
    rw [x0 (show ¬ (PTerm.mk x.kind x.name x.other x.form (x.sub.set j y)).kind=11 from k11)]
    simp only [mk_kind,mk_name,mk_other,mk_form,mk_sub,List.map_set]
   rw [if_pos k11,e2]
   refine ⟨fun h8=>?_,fun h8=>?_⟩
   ·rw [a1 h8,hkj,x0 k11]
    congr 1
    rw [← List.getElem_map stripT (l:=x.sub) (h:=by simpa using hj),List.set_getElem_self]
   ·have a:=a2 h8
    have hks:kid (stripT x) (j:Int)=stripT (kid x (j:Int)):=xP k11 _
    have hsl:(stripT x).sub.length=x.sub.length:=by rw [x0 k11,mk_sub,List.length_map]
    rw [doV,if_neg zaJ,hks,a]
    rw [if_neg zaK,x0 k11]
    rfl
end
section
open Gw
theorem alike_self : ∀ (K:Nat) (x:PTerm) (p:List (ByteArray × Int)) (lev:Nat),depT x ≤ K→lev + depT x ≤ 100000→0 < lev→rightT x=true → ∃ p',zcF.f K x x p p (lev:Int)=some (p',p',true)
 | 0,x,_,_,h,_,_,_=>by have:=yj x; omega
 | K + 1,x,p,lev,h,hb,hl,hr=>by
  have hd:=ya x
  have h3:=len3 hr
  show ∃ p',zcF.g (zcF.f K) x x p p (lev:Int)=some (p',p',true)
  unfold zcF.g
  rw [if_neg zaK]
  by_cases k1:x.kind=1
  ·rw [if_pos (by simpa using k1)]
   exact ⟨p,by simp⟩
  rw [if_neg (by simpa using k1)]
  have hstep : ∀ (j:Nat) (hj:j < x.sub.length) (q:List (ByteArray × Int)),∃ q',zcF.b0 x x (zcF.f K) (lev:Int) (j:Int) q q=some (.go (q',q')):=fun j hj q=>by
   have hdj:=xR _ (List.getElem_mem hj)
   have ih:=fun r=>alike_self K x.sub[j] r (lev + 1) zaJ zaJ zaJ (xY hr hj)
   have one : ∀ r,∃ r',zcD.g (zcF.f K) x (j:Int) x r r (lev:Int)=some (r',r',true):=fun r=>by
    obtain ⟨r',e⟩ := ih r
    refine ⟨r',?_⟩
    unfold zcD.g
    rw [chk,if_pos (vt zaJ zaJ),chk,if_pos (vt zaJ zaJ),jq hj,wrap_succ zaJ,e]; rfl
   unfold zcF.b0
   rw [bind14 x j,zaN]
   unfold zcE.g
   by_cases hb:zY x j=(⟨#[]⟩ : ByteArray)
   ·obtain ⟨q',e⟩ := one q
    exact ⟨q',by rw [zaN,if_pos (by simpa using hb),e]; rfl⟩
   ·obtain ⟨q',e⟩ := one (Gw.ins (zY x j) (lev:Int) q)
    exact ⟨Gw.ins (zY x j) ((Gw.look (zY x j) q).getD 0) q',by rw [zaN,if_neg (by simpa using hb),e]; rfl⟩
  have loop : ∀ (m j:Nat) (q:List (ByteArray × Int)),j + m=x.sub.length → ∃ q',forN (fun i (s:List (ByteArray × Int) × List (ByteArray × Int))=>zcF.b0 x x (zcF.f K) (lev:Int) i s.1 s.2) m (j:Int) (q,q)=some (.inl (q',q')):=by
   intro m
   induction m with
   | zero=>intro j q _; exact ⟨q,rfl⟩
   | succ m ih =>
    intro j q hj
    obtain ⟨q1,e1⟩ := hstep j zaJ q
    obtain ⟨q2,e2⟩ := ih (j + 1) q1 zaJ
    refine ⟨q2,?_⟩
    simp only [forN,e1,zaN]
    rw [show ((j:Int) + 1)=((j + 1:Nat):Int) by omega]; exact e2
  obtain ⟨q',e⟩ := loop x.sub.length 0 p zaJ
  refine ⟨q',?_⟩
  rw [show ((x.sub.length:Int) - 0).toNat=x.sub.length by omega]
  rw [show ((0:Nat):Int)=0 from rfl] at e
  rw [e]; rfl
theorem Alpha_self {K:Nat} {x:PTerm} (hK:200000 ≤ K) (hn:nmT x) (hc:x6 x=0):zcG.f K x x=some true:=by
 obtain ⟨c1,c2,c3⟩ := xU.1 hc
 obtain ⟨p',e⟩ := alike_self K x [] 1 zaJ zaJ zaJ c3
 have e:zcF.f K x x [] [] 1=some (p',p',true):=e
 unfold zcG.f
 rw [jM zaJ hn]
 simp [hc,chk,e]
theorem at_wy {L:List (List Int)} {j:Nat} (h:j < L.length):at_ [] L (j:Int)=L[j]:=by
 unfold at_; rw [Int.toNat_natCast,List.getD_eq_getElem?_getD,List.getElem?_eq_getElem h]; rfl
theorem at_int {L:List Int} {j:Nat} (h:j < L.length):at_ (0:Int) L (j:Int)=L[j]:=by
 unfold at_; rw [Int.toNat_natCast,List.getD_eq_getElem?_getD,List.getElem?_eq_getElem h]; rfl
theorem at_mid (u:List Int) (k:Int) (v:List Int):at_ (0:Int) (u ++ k :: v) (u.length:Int)=k:=by
 rw [at_int zaK]; simp
theorem At_loop {M:List Nd} : ∀ (v u:List Int) (x:PTerm),InT M v x→forS (fun i s=>zcC.b0 (u ++ v) i s) v.length (u.length:Int) x=some (atT v x)
 | [],u,x,_=>rfl
 | k :: v,u,x,⟨h1,h2,h3⟩ => by
  have ih:=At_loop v (u ++ [k]) (kid x k) h3
  rw [List.append_assoc,List.singleton_append,List.length_append,List.length_singleton] at ih
  simp only [List.length_cons,forS]
  have hb:zcC.b0 (u ++ k :: v) (u.length:Int) x=some (kid x k):=by
   unfold zcC.b0
   rw [at_mid,chk,if_pos (vt h1 h2)]
  rw [hb,zaN,show ((u.length:Int) + 1)=((u.length + 1:Nat):Int) by omega]
  exact ih
theorem At_some {M:List Nd} {w:List Int} {x:PTerm} (h:InT M w x):zcC.f x w=some (atT w x):=by
 unfold zcC.f
 have:=At_loop w [] x h
 rw [List.nil_append] at this
 rw [show ((w.length:Int) - 0).toNat=w.length by omega]
 rw [show (0:Int)=(([]:List Int).length:Int) from rfl,this]; rfl
theorem Bare_loop {M:List Nd} : ∀ (v u l:List Int) (x:PTerm),InT M v x→(l.length + v.length) * 8 ≤ 140737488355328 → ∃ y,forS (fun i (s:List Int × PTerm)=>zcH.b0 (u ++ v) i s.1 s.2) v.length (u.length:Int) (l,x)=some (l ++ bareT v x,y)
 | [],u,l,x,_,_=>⟨x,by simp [forS,bareT]⟩
 | k :: v,u,l,x,⟨h1,h2,h3⟩,hb=>by
  simp only [List.length_cons] at hb
  have hB:zcH.b0 (u ++ k :: v) (u.length:Int) l x=some (if x.kind ≠ 11 then l ++ [k] else l,kid x k):=by
   unfold zcH.b0
   rw [at_mid]
   by_cases c:x.kind ≠ 11
   ·rw [if_pos (by simpa using c),if_pos c,chk,if_pos (by simp; omega),chk,if_pos (vt h1 h2)]
   ·rw [if_neg (by simpa using c),if_neg c,chk,if_pos (vt h1 h2)]
  obtain ⟨y,ih⟩ := Bare_loop v (u ++ [k]) (if x.kind ≠ 11 then l ++ [k] else l) (kid x k) h3 (by
   by_cases c:x.kind ≠ 11
   ·rw [if_pos c,List.length_append,List.length_singleton]; omega
   ·rw [if_neg c]; omega)
  rw [List.append_assoc,List.singleton_append,List.length_append,List.length_singleton] at ih
  refine ⟨y,?_⟩
  simp only [List.length_cons,forS]
  rw [hB,zaN,show ((u.length:Int) + 1)=((u.length + 1:Nat):Int) by omega,ih]
  congr 2
  simp only [bareT]
  split <;> simp
theorem Bare_some {M:List Nd} {w:List Int} {x:PTerm} (h:InT M w x) (hb:w.length * 8 ≤ 140737488355328):zcH.f x w=some (bareT w x):=by
 unfold zcH.f
 obtain ⟨y,e⟩ := Bare_loop w [] [] x h (by simpa using hb)
 rw [List.nil_append] at e
 rw [show ((w.length:Int) - 0).toNat=w.length by omega]
 rw [show (([]:List Int).length:Int)=0 from rfl] at e
 rw [e]; rfl
theorem atT_ok {M:List Nd} : ∀ (w:List Int) {x:PTerm},rightT x=true→toldB M x=true→InT M w x→rightT (atT w x)=true∧toldB M (atT w x)=true∧w.length + depT (atT w x) ≤ depT x
 | [],x,hr,ht,_=>⟨hr,ht,by simp [atT]⟩
 | k :: w,x,hr,ht,⟨h1,h2,h3⟩ => by
  have ih:=atT_ok w (xZ hr rfl ⟨h1,h2⟩) (told_any ht k) h3
  have:=kid_lt h1 h2
  simp only [atT,List.length_cons]
  exact ⟨ih.1,ih.2.1,by omega⟩
theorem nm_strip : ∀ (d:Nat) (x:PTerm),depT x ≤ d→rightT x=true→nmT x→nmT (stripT x)
 | 0,x,h,_,_=>by have:=yj x; omega
 | d + 1,x,h,hr,hn=>by
  have hd:=ya x
  by_cases k:x.kind=11
  ·rw [ja hr k]
   have hl:=(xS hr).2.2.2.2 k
   have hk:=kid_lt (x:=x) (i:=0) zaJ zaJ
   exact nm_strip d _ zaJ (xZ hr hl ⟨by omega,by omega⟩) (yN hn 0)
  ·rw [x0 k]
   obtain ⟨kx,nx,ox,fx,sx⟩ := x
   have hn':=hn
   simp only [nmT] at hn' ⊢
   refine ⟨hn'.1,hn'.2.1,nm_all fun y hy=>?_⟩
   obtain ⟨z,hz,rfl⟩ := List.mem_map.1 hy
   obtain ⟨j,hj,rfl⟩ := List.getElem_of_mem hz
   have:=xR _ (List.getElem_mem hj)
   exact nm_strip d _ zaJ (xY hr (i:=j) hj) (nm_mem hn'.2.2 _ (List.getElem_mem hj))
theorem told_strip {M:List Nd} : ∀ (d:Nat) (x:PTerm),depT x ≤ d→rightT x=true→toldB M (stripT x)=true
 | 0,x,h,_=>by have:=yj x; omega
 | d + 1,x,h,hr=>by
  have hd:=ya x
  by_cases k:x.kind=11
  ·rw [ja hr k]
   have hl:=(xS hr).2.2.2.2 k
   have hk:=kid_lt (x:=x) (i:=0) zaJ zaJ
   exact told_strip d _ zaJ (xZ hr hl ⟨by omega,by omega⟩)
  ·rw [x0 k,toldB_eq,Bool.and_eq_true_iff]
   refine ⟨by show (if x.kind=11 then _ else true)=true; rw [if_neg k],told_all fun y hy=>?_⟩
   obtain ⟨z,hz,rfl⟩ := List.mem_map.1 hy
   obtain ⟨j,hj,rfl⟩ := List.getElem_of_mem hz
   have:=xR _ (List.getElem_mem hj)
   exact told_strip d _ zaJ (xY hr hj)
theorem ReduceErases_true {K:Nat} (hK:1100000 ≤ K) (hh:zcw.f K=some true) {rows:List Nd} (hn : ∀ n ∈ rows,n.name.size < 9223372036854775808) (hl:rows.length * 40 ≤ 140737488355328) {x:PTerm} (hx:nmT x) (hs:sizeT x ≤ 1048576):zcI.f K rows x=some true:=by
 obtain ⟨M,ht,hw⟩ := tables14 hn hl
 unfold zcI.f
 rw [ht,zaN,copy12 K x zaJ zaJ,zaN,Redexes14 zaJ hx hw.nodup,zaN]
 simp only [zcs.f,zaN]
 by_cases ha:uh M x=0
 rotate_left
 ·have hv:jp M x=([],uh M x):=by unfold jp; rw [if_pos ha]
  rw [hv]; simp [ha,hh]
 have hv:jp M x=(gaT M x [] [],0):=by unfold jp; rw [if_neg (fun q=>q ha)]
 obtain ⟨hcx,htx⟩ := ahead_ok.1 ha
 have hc:=xU.2 hcx
 have hr:=hcx.2.2
 have hS:StripV x=(stripT x,0):=by unfold StripV; rw [if_neg (fun q=>q hc)]
 have hcs:=ke hc
 have hns:=nm_strip _ x (Nat.le_refl _) hr hx
 have has:uh M (stripT x)=0:=ahead_ok.2 ⟨xU.1 hcs,told_strip _ x (Nat.le_refl _) hr⟩
 rw [hv,Strip14 zaJ hx,hS]
 simp only [ne_eq,not_true_eq_false,decide_false,Bool.false_eq_true,if_false,zaN]
 have hlen:=gaT_len M x [] [] zaK
 have hb : ∀ i:Nat,i < (gaT M x [] []).length→i < 40→zcI.b0 (gaT M x [] [],0) K x (some M,some M) (stripT x,0) (i:Int)=some (.go ((i + 1:Nat):Int)):=fun i hi h40=>by
  have hin:=ga_in (List.getElem_mem hi)
  have hat:at_ [] (gaT M x [] []) (i:Int)=(gaT M x [] [])[i]:=at_wy hi
  have q4:=wrap_succ (i:=i) zaJ
  have hinb:inb (i:Int) (gaT M x [] []).length=true:=vt zaJ zaJ
  generalize hw':(gaT M x [] [])[i]=w at hin hat
  have hD:DoV M x w=uj M x w:=by unfold DoV; rw [if_neg (fun q=>q ha)]
  have q0:=Do14 (M:=M) (K:=K) (x:=x) (w:=w) zaJ hx hw.nodup
  rw [hD] at q0
  have hcode:=done_code hw ha hin
  have q1:=copy12 K x zaJ zaJ
  unfold zcI.b0
  rw [if_pos (by simp; omega),q1,zaN,chk,if_pos (show inb (i:Int) (gaT M x [] []).length=true from hinb)]
  show (zcc.f K (some M) x (at_ [] (gaT M x [] []) (i:Int))).bind _=_
  rw [hat,q0,zaN]
  simp only [zcs.f,zaN]
  by_cases e:(uj M x w).2=121
  ·rw [if_pos (by simpa using e),q4]
  have e0:(uj M x w).2=0:=hcode.resolve_right e
  obtain ⟨d1,d2,d3⟩ := done_ok e0
  have hny:=nm_done hx e0
  have hcy:x6 (uj M x w).1=0:=by rw [d3]; exact d2
  have hdy:(doV M x w).1=(uj M x w).1:=by rw [d3]
  obtain ⟨s1,s2⟩ := do_strip w hr hin d1
  rw [hdy] at s1 s2
  rw [if_neg (by simpa using e)]
  generalize (uj M x w).1=y at hny hcy s1 s2 ⊢
  have hsy:=(xU.1 hcy).1
  have hSy:StripV y=(stripT y,0):=by unfold StripV; rw [if_neg (fun q=>q hcy)]
  have q2:=copy12 K y zaJ zaJ
  have q3:=Strip14 (K:=K) (x:=y) zaJ hny
  rw [hSy] at q3
  obtain ⟨a1,a2,a3⟩ := atT_ok w hr htx hin
  have q5:=At_some hin
  have q6:=Row12 (M:=M) a1 (kid_form a2)
  have hAl:=Alpha_self (K:=K) (x:=stripT y) zaJ (nm_strip _ y (Nat.le_refl _) (xU.1 hcy).2.2 hny) (ke hcy)
  by_cases h8:rowV M (atT w x)=8
  ·have hS8:=s1 h8
   rw [hS8] at hAl q3
   simp [e0,chk,hinb,hat,q2,q3,q4,q5,q6,h8,hAl]
  ·have hS9:=s2 h8
   have q7:=Bare_some hin zaJ
   have q8:=copy12 K (stripT x) (by have:=(xU.1 hcs).1; omega) (by have:=(xU.1 hcs).1; omega)
   have hD2:DoV M (stripT x) (bareT w x)=(stripT y,0):=by
    unfold DoV uj
    rw [if_neg (fun q=>q has),hS9]
    simp [ke hcy]
   have q9:=Do14 (M:=M) (K:=K) (x:=stripT x) (w:=bareT w x) zaJ hns hw.nodup
   rw [hD2] at q9
   simp [e0,chk,hinb,hat,q2,q3,q4,q5,q6,h8,q7,q8,q9,hAl]
 have hloop:=iter_brk (b:=fun s=>zcI.b0 (gaT M x [] [],0) K x (some M,some M) (stripT x,0) s) (inv:=fun i=>(i:Int)) (s:=((min (gaT M x [] []).length 40:Nat):Int)) (min (gaT M x [] []).length 40) 0 K zaJ (fun j _ hj=>hb j zaJ zaJ) (by
  show zcI.b0 _ _ _ _ _ ((0 + min (gaT M x [] []).length 40:Nat):Int)=_
  unfold zcI.b0
  rw [Nat.zero_add,if_neg (by simp only [Bool.and_eq_true,decide_eq_true_eq]; omega)])
 have hloop:iter (fun s=>zcI.b0 (gaT M x [] [],0) K x (some M,some M) (stripT x,0) s) K 0=_:=hloop
 rw [hloop]
 simp [aft,hh]
end
section
open Gw
set_option maxRecDepth 100000
theorem heads14b:zcw.f 1100000=some true:=by decide +kernel
end
section
open Gw Go.ChangeShapes Go.WideShapes Go.ChangeAt Go.RowKit
set_option maxRecDepth 100000
theorem ownKnob_none:ownKnob PP.godebug=none:=by kernel_rfl
theorem laidOut_PP:laidOutB PP=true:=by kernel_rfl
theorem trodAll_stays {H:Type} {enc:TypeId × Value→H} {W W':World} {sp:Nat→Bool} : ∀ {ts:List TypeId} {vs:List Value} {ds:List (DataW H)} {ps:List MemPlace},(∀ t ∈ ts,PP.readableRec t=true∧t < PP.types.size) →
  DataW.TrodAll enc PP W 0 (fun _=>true) true ts vs ds ps→(∀ p ∈ ps,W.sameAt W' p)→(∀ p ∈ ps,sp p.block=true)→DataW.TrodAll enc PP W' 0 sp true ts vs ds ps
 | [],vs,ds,ps,_,h,_,_=>by
  obtain ⟨rfl,rfl,rfl⟩ := trodAll_nil h
  exact trodAll_mk0
 | t :: ts,vs,ds,ps,hr,h,h1,h2=>by
  obtain ⟨v,vs,d,ds,p,q,rfl,rfl,rfl,h0,h3⟩ := trodAll_cons h
  have ht:=hr t zaK
  exact trodAll_cons_mk (WideElems.Trod_stays laidOut_PP ht.1 ht.2 h0 (fun x hx=>h1 x (by simp [hx])) (fun x hx=>h2 x (by simp [hx])))
   (trodAll_stays (fun t ht=>hr t (by simp [ht])) h3 (fun x hx=>h1 x (by simp [hx])) (fun x hx=>h2 x (by simp [hx])))
def oth0:Oth:=⟨fun _=>False,[],fun _ h=>by cases h⟩
section
variable {P:Program} {W:World} {b t:Nat} {k:IntKind} {v:Value}
end
section
variable {H:Type} {enc:TypeId × Value→H} {P:Program} {W:World} {t:TypeId} {fuel:Nat} {cs:List Value} {x:DataW H × List MemPlace} {sp:Nat→Bool} {hd:Bool} {b0:Nat}
theorem take_one {l:List Value} {o:Nat} {v:Value} (h:(l.drop o).take 1=[v]):l[o]? = some v:=by
 have:((l.drop o).take 1)[0]? = some v:=by rw [h]; rfl
 rw [List.getElem?_take] at this
 simpa using this
theorem fld_int {i off ft:Nat} {k:IntKind} (hf:kW P t i off ft) (hk:P.underlying ft=some (.int k)) (hc:P.cellsOf ft=1) (h:DataW.trod enc P W b0 sp hd fuel t cs=some x) : ∃ n,cs[off]? = some (.int k n):=by
 obtain ⟨fs,fd,hu,hi,rfl,rfl⟩ := hf
 obtain ⟨xs,n,_,_,hl,hx,hall⟩ := DataW.trod_struct hu h
 have h1:=hall i fd hi
 have h2:i < xs.length:=by rw [hx]; exact (Array.getElem?_eq_some_iff.1 hi).1
 rw [List.getElem?_eq_getElem h2,hc] at h1
 obtain ⟨n,e,_⟩ := DataW.trod_int hk h1
 exact ⟨n,take_one e⟩
theorem fld_str {i off ft:Nat} (hf:kW P t i off ft) (hk:P.underlying ft=some .string) (hc:P.cellsOf ft=1) (h:DataW.trod enc P W b0 sp hd fuel t cs=some x) : ∃ s:ByteArray,cs[off]? = some (.string s)∧s.size ≤ maxLen:=by
 obtain ⟨fs,fd,hu,hi,rfl,rfl⟩ := hf
 obtain ⟨xs,n,_,_,hl,hx,hall⟩ := DataW.trod_struct hu h
 have h1:=hall i fd hi
 have h2:i < xs.length:=by rw [hx]; exact (Array.getElem?_eq_some_iff.1 hi).1
 rw [List.getElem?_eq_getElem h2,hc] at h1
 obtain ⟨s,e,_,hs⟩ := DataW.trod_string hk h1
 exact ⟨s,take_one e,hs⟩
theorem slice_of {α:Type} [Inhabited α] {e k:Nat} {C:α→List Value} {Q:α→Prop} {base:Nat} {v:Value} {d:DataW H} {ps:List MemPlace} (ht:P.underlying t=some (.slice e)) (hk:P.cellsOf e=k) (hC : ∀ a,(C a).length=k) (hk0:0 < k)
  (hel : ∀ (n:Nat) (cs:List Value) (x:DataW H × List MemPlace),DataW.trod enc P W 0 (fun _=>true) true n e cs=some x → ∃ a,cs=C a∧Q a)
  (hval:Value.okWide P W .any base t v) (h:DataW.Trod enc P W 0 (fun _=>true) true t v d ps) :
  ∃ (l:List α) (s:SlV),v=s.v∧Rd W k s (l.map C)∧(∀ a ∈ l,Q a)∧(l=[] ∨ ∃ elems spare,d = .slice elems spare∧elems.length=l.length):=by
 obtain ⟨a0,len0,cap0,rfl⟩ := okWide_slice ht hval
 obtain ⟨fuel,hf⟩ := h
 rcases Deep.open_slice ht hf with ⟨h1,h2⟩ | ⟨a,len,cap,m,n,D,Pl,h1,_,hlc,hcm,hm,h2,hx⟩
 ·simp [Value.cells] at h1
  obtain ⟨rfl,rfl,rfl⟩ := h1
  exact ⟨[],SlV.nil,SlV.nil_eq,Rd.nil W k,by simp,.inl rfl⟩
 ·simp [Value.cells] at h1
  obtain ⟨rfl,rfl,rfl⟩ := h1
  have hval2:=hval
  simp only [Value.okWide,ht,Cell.okWide,Cell.ok] at hval2
  obtain ⟨_,_,_,hspot,row,cells,hshape,_⟩ := hval2
  obtain ⟨ab,ao,asp⟩ := a
  obtain rfl:asp=none:=hspot
  simp only at hshape
  have hlt:ab < W.heap.size:=by
   unfold World.shape? at hshape
   cases hh:W.heap[ab]? with
   | none=>rw [hh] at hshape; cases hshape
   | some o=>exact (Array.getElem?_eq_some_iff.1 hh).1
  have hmc:m=cap0:=by rw [hm]; rfl
  obtain ⟨f,hfx⟩ := Deep.choose_lt (α:=α) (n:=len0) (p:=fun i y=>W.cells? 0 ((⟨ab,ao,none⟩ : Addr).add (i * P.cellsOf e)) (P.cellsOf e)=some (C y)∧Q y) (fun i hi=>by
   obtain ⟨cs',hc,ht'⟩ := hx i zaJ
   obtain ⟨y,rfl,hq⟩ := hel _ _ _ ht'
   exact ⟨y,hc,hq⟩)
  refine ⟨(List.range len0).map f,⟨some ⟨ab,ao,none⟩,len0,cap0⟩,by rw [SlV.eq],⟨⟨by simp,?_,?_⟩,?_,hlc⟩,?_,.inr ⟨_,_,by simpa using congrArg Prod.fst h2,by simp⟩⟩
  ·intro r hr
   obtain ⟨y,_,rfl⟩ := List.mem_map.1 hr
   exact hC y
  ·intro i r hr
   rw [List.getElem?_map,List.getElem?_map] at hr
   have hi:i < len0:=by
    refine Nat.lt_of_not_le fun q=>?_
    rw [List.getElem?_eq_none (by simpa using q)] at hr; cases hr
   rw [List.getElem?_eq_getElem (by simpa using hi)] at hr
   simp only [List.getElem_range,Option.map_some,Option.some.injEq] at hr
   subst hr
   obtain ⟨h3,_⟩ := hfx i hi
   obtain ⟨_,hl,hc⟩ := World.cells?_some h3
   refine ⟨rfl,fun j v hv=>?_⟩
   have hj:j < k:=by have:=(List.getElem?_eq_some_iff.1 hv).1; rw [hC] at this; exact this
   have h4:=hc j (by rw [hk]; exact hj)
   rw [hv] at h4
   have hadd:((⟨ab,ao,none⟩ : Addr).add (i * P.cellsOf e)).add j=⟨ab,ao + i * k + j,none⟩ := by
    rw [hk]
    unfold Addr.add
    by_cases h5:i * k=0
    ·by_cases h6:j=0
     ·simp [h5,h6]
     ·simp [h5,h6]
    ·by_cases h6:j=0
     ·simp [h5,h6]
     ·simp [h5,h6]
   rw [hadd] at h4
   exact h4
  ·rintro i ⟨_,rfl⟩
   exact hlt
  ·intro y hy
   obtain ⟨i,hi,rfl⟩ := List.mem_map.1 hy
   exact (hfx i (List.mem_range.1 hi)).2
end
instance:Inhabited Nd:=⟨Nd.z⟩
theorem nds_of {H:Type} {enc:TypeId × Value→H} {W:World} {base:Nat} {v:Value} {d:DataW H} {ps:List MemPlace} (hval:Value.okWide PP W .any base vW v) (h:DataW.Trod enc PP W 0 (fun _=>true) true vW v d ps) :
  ∃ (l:List Nd) (s:SlV),v=s.v∧Rd W 4 s (l.map Nd.C)∧(∀ a ∈ l,a.name.size < 9223372036854775808)∧(l=[] ∨ ∃ elems spare,d = .slice elems spare∧elems.length=l.length):=by
 refine slice_of xe.1 zaL Nd.len zaI (fun n cs x hx=>?_) hval h
 obtain ⟨a,ha⟩ := fld_int fv_Nd_kind un_api_Kind zaL hx
 obtain ⟨b,hb,hbs⟩ := fld_str fv_Nd_name yP zaL hx
 obtain ⟨c,hc⟩ := fld_int fv_Nd_l un_int zaL hx
 obtain ⟨d,hd⟩ := fld_int fv_Nd_r un_int zaL hx
 obtain ⟨fs,fd,hu,_⟩ := fv_Nd_kind
 obtain ⟨xs,n',_,_,hl,_⟩ := DataW.trod_struct hu hx
 have hl:cs.length=4:=hl.trans zaL
 refine ⟨⟨a,b,c,d⟩,?_,by have:maxLen=9223372036854775807:=rfl; show b.size < _; omega⟩
 match cs,hl with
 | [v0,v1,v2,v3],_ =>
  simp at ha hb hc hd
  subst ha hb hc hd
  rfl
theorem bulk_one {H:Type} (d:DataW H):1 ≤ Rows.uptoBulk d:=by
 cases d with
 | lit l=>cases l <;> simp [Rows.uptoBulk]
 | nil=>simp [Rows.uptoBulk]
 | ptr d=>simp [Rows.uptoBulk]
 | slice elems spare=>simp [Rows.uptoBulk]
 | agg parts=>simp [Rows.uptoBulk]
 | iface t d=>simp [Rows.uptoBulk]
 | map entries=>simp [Rows.uptoBulk]
 | held h=>simp [Rows.uptoBulk]
theorem bulk_part {H:Type} {d:DataW H} {l:List (DataW H)} (h:d ∈ l):Rows.uptoBulk d ≤ Rows.uptoBulkAll l:=by
 induction l with
 | nil=>cases h
 | cons x r ih =>
  simp only [Rows.uptoBulkAll]
  cases List.mem_cons.1 h with
  | inl e=>subst e; omega
  | inr e=>have:=ih e; omega
theorem bulk_len {H:Type} (l:List (DataW H)):l.length ≤ Rows.uptoBulkAll l:=by
 induction l with
 | nil=>simp [Rows.uptoBulkAll]
 | cons x r ih=>have:=bulk_one x; simp only [Rows.uptoBulkAll,List.length_cons]; omega
theorem small_len {H:Type} {α:Type} {l:List α} {d:DataW H} {ds:List (DataW H)} (hk:Rows.uptoSmall H ds=true) (hd:d ∈ ds) (h:l=[] ∨ ∃ elems spare,d = .slice elems spare∧elems.length=l.length):l.length ≤ 1048576:=by
 rcases h with rfl | ⟨elems,spare,rfl,he⟩
 ·simp
 ·have h1:=bulk_part hd
  have h2:=bulk_len elems
  have h3:Rows.uptoBulkAll ds ≤ 1048576:=by simpa [Rows.uptoSmall] using hk
  simp only [Rows.uptoBulk] at h1
  omega
def Held (W:World) (Z:List OA):Prop := ∀ z ∈ Z,∃ F,z.holds W F
theorem Held.nil {W:World}:Held W []:=fun _ h=>by cases h
theorem Held.cons {W:World} {z:OA} {Z:List OA} (h : ∃ F,z.holds W F) (hz:Held W Z):Held W (z :: Z):=fun x hx=>by
 rcases List.mem_cons.1 hx with rfl | hx
 ·exact h
 ·exact hz x hx
theorem Held.s {W:World} {Z:List OA} {k:Nat} {α:Type} {C:α→List Value} {s:SlV} {l:List α} (hr:Rd W k s (l.map C)) (hl:l.length ≤ 140737488355328) (hz:Held W Z):Held W (fS k C s l :: Z) :=
 .cons ⟨s.fp,⟨hr,hl⟩,fun _=>Iff.rfl⟩ hz
theorem stheld {W:World} {Z:List OA} (h:Held W Z):St (fun _=>False) oth0 W W [] Z :=
 ⟨fun _=>False,fun _ h=>h.elim,fun _ h=>h.elim,Chg.refl _ _,trivial,fun z hz=>by
  obtain ⟨F,hF⟩ := h z hz
  exact ⟨F,hF,fun i _ q=>q.elim (fun x=>x) (fun x=>x)⟩,fun d hd=>absurd hd (by simp [oth0])⟩
instance:Inhabited Term:=⟨Term.z⟩
instance:Inhabited PTerm:=⟨PTerm.z⟩
theorem bulk_get {H:Type} {xs:List (DataW H × List MemPlace)} {i:Nat} {z:DataW H × List MemPlace} (h:xs[i]? = some z):Rows.uptoBulk z.1 ≤ Rows.uptoBulkAll (xs.map (·.1)) :=
 bulk_part (List.mem_map.2 ⟨z,List.mem_of_getElem? h,rfl⟩)
theorem bigA_of {w:World} {μ α:Type} {R:μ→α→OA} : ∀ {ms:List μ} {l:List α},ms.length=l.length→(∀ (i:Nat) m x,ms[i]? = some m→l[i]? = some x → ∃ F,(R m x).holds w F) → ∃ F,(bigA R ms l).holds w F
 | [],[],_,_=>⟨fun _=>False,trivial,fun _ x=>x⟩
 | m :: ms,x :: xs,hl,h=>by
  obtain ⟨F,hF⟩ := h 0 m x rfl rfl
  obtain ⟨G,hG⟩ := bigA_of (ms:=ms) (l:=xs) (by simpa using hl) fun i m x h1 h2=>h (i + 1) m x (by simpa using h1) (by simpa using h2)
  exact ⟨fun i=>F i∨G i,F,G,hF,hG,fun _=>Iff.rfl⟩
 | [],_ :: _,hl,_=>by simp at hl
 | _ :: _,[],hl,_=>by simp at hl
theorem nmL_of : ∀ {l:List PTerm},(∀ x ∈ l,nmT x)→nmL l
 | [],_=>trivial
 | x :: l,h=>⟨h x zaK,nmL_of fun y hy=>h y (by simp [hy])⟩
theorem sizeL_bulk {H:Type} : ∀ {l:List PTerm} {ds:List (DataW H)},l.length=ds.length→(∀ (i:Nat) x d,l[i]? = some x→ds[i]? = some d→sizeT x ≤ Rows.uptoBulk d)→sizeL l ≤ Rows.uptoBulkAll ds
 | [],[],_,_=>by simp [sizeL]
 | x :: l,d :: ds,hl,h=>by
  have h1:=h 0 x d rfl rfl
  have h2:=sizeL_bulk (l:=l) (ds:=ds) (by simpa using hl) fun i x d h3 h4=>h (i + 1) x d (by simpa using h3) (by simpa using h4)
  simp only [sizeL,Rows.uptoBulkAll]; omega
 | [],_ :: _,hl,_=>by simp at hl
 | _ :: _,[],hl,_=>by simp at hl
theorem term_trod {H:Type} {enc:TypeId × Value→H} {W:World} (fuel:Nat) : ∀ {cs:List Value} {x:DataW H × List MemPlace},DataW.trod enc PP W 0 (fun _=>true) true fuel zk cs=some x→Rows.uptoBulk x.1 ≤ 1048576 →
  ∃ (m:Term) (y:PTerm),cs=Term.C m∧(m.kind=y.kind∧m.name=y.name∧m.other=y.other∧m.form=y.form)∧(nmT y∧sizeT y ≤ Rows.uptoBulk x.1) ∧ ∃ F,(yG m.sub y.sub).holds W F:=by
 induction fuel using Nat.strongRecOn with
 | _ fuel ih =>
 intro cs x hx hb
 obtain ⟨k,hk⟩ := fld_int fv_Term_kind un_api_TermKind zaL hx
 obtain ⟨n,hn,hns⟩ := fld_str fv_Term_name yP zaL hx
 obtain ⟨o,ho,hos⟩ := fld_str fv_Term_other yP zaL hx
 obtain ⟨f,hf⟩ := fld_int fv_Term_form un_int zaL hx
 obtain ⟨fs,fd,hu,hi,hoff,hty⟩ := fv_Term_sub
 obtain ⟨xs,n1,hfu,hxx,hl,hlen,hall⟩ := DataW.trod_struct hu hx
 have hl:cs.length=5:=hl.trans zaL
 have h1:=hall 4 fd hi
 have h2:4 < xs.length:=by rw [hlen]; exact (Array.getElem?_eq_some_iff.1 hi).1
 rw [hoff,hty,show PP.cellsOf T_L_api_Term=1 from by kernel_rfl,List.getElem?_eq_getElem h2] at h1
 have hbx:1 + Rows.uptoBulk (xs[4]).1 ≤ Rows.uptoBulk x.1:=by
  have:=bulk_get (List.getElem?_eq_getElem h2)
  rw [hxx]
  simp only [Rows.uptoBulk]
  omega
 have hbz:Rows.uptoBulk (xs[4]).1 ≤ 1048576:=by omega
 have hmax:maxLen=9223372036854775807:=rfl
 have hcs : ∀ v4,cs[4]? = some v4→cs=[.int .i64 k,.string n,.string o,.int .i64 f,v4]:=by
  intro v4 h4
  match cs,hl with
  | [c0,c1,c2,c3,c4],_ =>
   simp at hk hn ho hf h4
   subst hk hn ho hf h4
   rfl
 rcases DataW.trod_slice zr.1 h1 with ⟨e1,e2⟩ | ⟨a,len,cap,elems,rest,n2,hfu2,e1,e2,_,hlc,hcm,hel,hget,_⟩
 ·have h4:=hcs _ (take_one e1)
  refine ⟨⟨k,n,o,f,SlV.nil⟩,.mk k n o f [],?_,⟨rfl,rfl,rfl,rfl⟩,⟨⟨by show n.size < _; omega,by show o.size < _; omega,trivial⟩,by rw [yk]; simp only [PTerm.sub,sizeL]; omega⟩,fun _=>False,(0,[]),fun _=>False,fun _=>False,⟨⟨Sl.nil W 5,by simp⟩,fun i=>⟨fun x=>x.elim,fun x=>absurd rfl x.1⟩⟩,⟨trivial,fun _ x=>x⟩,fun _=>⟨fun x=>x.elim,fun x=>x.elim id id⟩⟩
  rw [h4,SlV.nil_eq]; rfl
 ·have h4:=hcs _ (take_one e1)
  have hbe:Rows.uptoBulkAll (elems.map (·.1)) ≤ 1048576:=by
   rw [e2] at hbz
   simp only [Rows.uptoBulk] at hbz
   omega
  have hlen2:len ≤ 1048576:=by
   have:=bulk_len (elems.map (·.1))
   rw [List.length_map,hel] at this
   omega
  have hone : ∀ i,i < len → ∃ q:Term × PTerm,(W.cells? 0 (a.add (i * PP.cellsOf zk)) (PP.cellsOf zk)=some (Term.C q.1))∧(q.1.kind=q.2.kind∧q.1.name=q.2.name∧q.1.other=q.2.other∧q.1.form=q.2.form)∧(nmT q.2 ∧ ∀ z,elems[i]? = some z→sizeT q.2 ≤ Rows.uptoBulk z.1) ∧ ∃ F,(yG q.1.sub q.2.sub).holds W F:=by
   intro i hi'
   have h5:=hget i hi'
   have h6:i < elems.length:=by omega
   rw [List.getElem?_eq_getElem h6] at h5
   cases hc:W.cells? 0 (a.add (i * PP.cellsOf zk)) (PP.cellsOf zk) with
   | none=>rw [hc] at h5; simp at h5
   | some cs' =>
    rw [hc] at h5
    simp only [zaN] at h5
    obtain ⟨m,y,rfl,hm,hy,hF⟩ := ih n2 zaJ h5 (by have:=bulk_get (List.getElem?_eq_getElem h6); omega)
    exact ⟨(m,y),rfl,hm,⟨hy.1,fun z hz=>by cases (List.getElem?_eq_getElem h6).symm.trans hz; exact hy.2⟩,hF⟩
  obtain ⟨g,hg⟩ := Deep.choose_lt (α:=Term × PTerm) hone
  have hsz:PP.cellsOf zk=5:=by kernel_rfl
  refine ⟨⟨k,n,o,f,⟨some a,len,cap⟩⟩,.mk k n o f ((List.range len).map fun i=>(g i).2),?_,⟨rfl,rfl,rfl,rfl⟩,⟨⟨by show n.size < _; omega,by show o.size < _; omega,nmL_of fun y hy=>?_⟩,?_⟩,?_⟩
  ·rw [h4]; show _=[_,_,_,_,SlV.v _]; rw [SlV.eq]
  ·obtain ⟨i,hi',rfl⟩ := List.mem_map.1 hy
   exact (hg i (List.mem_range.1 hi')).2.2.1.1
  ·have hs:sizeL ((List.range len).map fun i=>(g i).2) ≤ Rows.uptoBulkAll (elems.map (·.1)):=by
    refine sizeL_bulk (by simp [hel]) fun i y d h1 h2=>?_
    have hi':i < len:=by
     refine Nat.lt_of_not_le fun q=>?_
     rw [List.getElem?_eq_none (by simpa using q)] at h1; cases h1
    rw [List.getElem?_map] at h1 h2
    rw [List.getElem?_range hi'] at h1
    simp only [Option.map_some,Option.some.injEq] at h1
    subst h1
    cases hz:elems[i]? with
    | none=>rw [hz] at h2; cases h2
    | some z=>rw [hz] at h2; cases h2; exact (hg i hi').2.2.1.2 z hz
   rw [yk]
   have:Rows.uptoBulkAll (elems.map (·.1)) ≤ Rows.uptoBulk (xs[4]).1:=by
    rw [e2]; simp only [Rows.uptoBulk]; omega
   simp only [PTerm.sub]; omega
  ·have hsl:Sl W 5 ⟨some a,len,cap⟩ (((List.range len).map fun i=>(g i).1).map Term.C):=by
    refine ⟨by simp,?_,?_⟩
    ·intro r hr
     obtain ⟨y,_,rfl⟩ := List.mem_map.1 hr
     exact Term.len y
    ·intro i r hr
     rw [List.getElem?_map,List.getElem?_map] at hr
     have hi':i < len:=by
      refine Nat.lt_of_not_le fun q=>?_
      rw [List.getElem?_eq_none (by simpa using q)] at hr; cases hr
     rw [List.getElem?_eq_getElem (by simpa using hi')] at hr
     simp only [List.getElem_range,Option.map_some,Option.some.injEq] at hr
     subst hr
     obtain ⟨_,_,hc0⟩ := World.cells?_some (hg 0 zaJ).1
     obtain ⟨ab,ao,asp⟩ := a
     have hsp:asp=none:=by
      have h7:=hc0 0 (by rw [hsz]; decide)
      simp only [Nat.zero_mul,Addr.add,if_true] at h7
      cases asp with
      | none=>rfl
      | some q =>
       unfold World.cell? at h7
       simp only [Option.isSome_some,if_true] at h7
       split at h7
       ·exact absurd h7.symm (by simp [Term.C])
       ·exact absurd h7.symm (by simp [Term.C])
     subst hsp
     obtain ⟨_,_,hc⟩ := World.cells?_some (hg i hi').1
     refine ⟨rfl,fun j v hv=>?_⟩
     have hj:j < 5:=by have:=(List.getElem?_eq_some_iff.1 hv).1; rw [Term.len] at this; exact this
     have h8:=hc j (by rw [hsz]; exact hj)
     rw [hv] at h8
     have hadd:((⟨ab,ao,none⟩ : Addr).add (i * PP.cellsOf zk)).add j=⟨ab,ao + i * 5 + j,none⟩ := by
      rw [hsz]
      unfold Addr.add
      by_cases h5:i * 5=0
      ·by_cases h6:j=0
       ·simp [h5,h6]
       ·simp [h5,h6]
      ·by_cases h6:j=0
       ·simp [h5,h6]
       ·simp [h5,h6]
     rw [hadd] at h8
     exact h8
   have hbig : ∃ F,(bigA xv ((List.range len).map fun i=>(g i).1) ((List.range len).map fun i=>(g i).2)).holds W F:=by
    refine bigA_of zaK fun i m x h1 h2=>?_
    rw [List.getElem?_map] at h1 h2
    have hi':i < len:=by
     refine Nat.lt_of_not_le fun q=>?_
     rw [List.getElem?_eq_none (by simpa using q)] at h1; cases h1
    rw [List.getElem?_range hi'] at h1 h2
    simp only [Option.map_some,Option.some.injEq] at h1 h2
    subst h1 h2
    obtain ⟨_,he,_,F,hF⟩ := hg i hi'
    have:=zax (s:=(g i).1.sub) hF
    rw [show mT (g i).2 (g i).1.sub=(g i).1 from by rw [mT,← he.1,← he.2.1,← he.2.2.1,← he.2.2.2]] at this
    exact ⟨F,this⟩
   obtain ⟨F,hF⟩ := hbig
   exact ⟨_,fTerms_mk (F:=fun i=>((List.range len).map fun i=>(g i).1) ≠ []∧i=_) ⟨⟨hsl,by simp; omega⟩,fun _=>Iff.rfl⟩ hF⟩
theorem term_of {H:Type} {enc:TypeId × Value→H} {W:World} {v:Value} {d:DataW H} {ds:List (DataW H)} {ps:List MemPlace} {base:Nat} (hval:Value.okWide PP W .any base zk v) (h:DataW.Trod enc PP W 0 (fun _=>true) true zk v d ps) (hk:Rows.uptoSmall H ds=true) (hd:d ∈ ds) :
  ∃ (y:PTerm) (s:SlV),v = .agg (Term.C (⟨y.kind,y.name,y.other,y.form,s⟩ : Term)).toArray∧(nmT y∧sizeT y ≤ 1048576) ∧ ∃ F,(ze s y.sub).holds W F:=by
 obtain ⟨fuel,hf⟩ := h
 have hb:Rows.uptoBulk d ≤ 1048576:=by
  have h1:=bulk_part hd
  have h3:Rows.uptoBulkAll ds ≤ 1048576:=by simpa [Rows.uptoSmall] using hk
  omega
 obtain ⟨m,y,hc,he,hn,hF⟩ := term_trod fuel hf hb
 have hu : ∃ fs,PP.underlying zk=some (.struct fs):=by
  obtain ⟨fs,fd,hu,_⟩ := fv_Term_sub; exact ⟨fs,hu⟩
 obtain ⟨fs,hu⟩ := hu
 unfold Value.okWide at hval
 rw [hu] at hval
 obtain ⟨cs,rfl,_⟩ := hval
 refine ⟨y,m.sub,?_,⟨hn.1,Nat.le_trans hn.2 hb⟩,hF⟩
 have hm:m=(⟨y.kind,y.name,y.other,y.form,m.sub⟩ : Term):=by rw [← he.1,← he.2.1,← he.2.2.1,← he.2.2.2]
 rw [← hm]
 have hc':cs.toList=Term.C m:=hc
 rw [← hc']
theorem Held.f {W:World} {Z:List OA} {s:SlV} {l:List PTerm} (h : ∃ F,(ze s l).holds W F) (hz:Held W Z):Held W (ze s l :: Z) := .cons h hz
end
section
open Gw Go.ChangeShapes Go.WideShapes Go.ChangeAt Go.RowKit
set_option maxRecDepth 100000
def tz64:List Int:=Lib.deBruijn64tab.map fun (z:Nat)=>(z:Int)
def tz32:List Int:=Lib.deBruijn32tab.map fun (z:Nat)=>(z:Int)
theorem laidMet_tail {P:Program} {w:World} {x:String × DataW Unit} {l:List (String × DataW Unit)} (h:laidMet P (x :: l) w):laidMet P l w:=by
 obtain ⟨ps,⟨g,t,cs,fuel,p,q,_,_,_,_,hv,rfl⟩,hn,hr⟩ := h
 exact ⟨q,hv,(List.nodup_append.1 hn).2.1,fun b off hp=>hr b off (List.mem_append_right _ hp)⟩
theorem post_old {H:Type} {enc:TypeId × Value→H} {P:Program} {f:Func} {s:ChangeSpec} {apart fresh handsOn again:Bool} {W W':World} {args:Array Value} {v:Value} {ds gs:List (DataW H)} {before pa pv:List MemPlace}
  (hW:DataW.Whole enc P f.params.toList s.vars apart W args.toList ds gs before)
  (hres : ∀ (b:Nat) (sp:Nat→Bool) (hd:Bool),DataW.TrodAll enc P W' b sp hd f.resultTypes.toList (v.resultList f.resultTypes.size) (s.fn H (ds ++ gs)).results [])
  (hargs : ∀ sp:Nat→Bool,(∀ p ∈ before,sp p.block=true)→DataW.TrodAll enc P W' 0 sp true f.params.toList args.toList (s.fn H (ds ++ gs)).args pa)
  (hvars : ∀ sp:Nat→Bool,(∀ p ∈ before,sp p.block=true)→DataW.TrodVars enc P W' sp s.vars (s.fn H (ds ++ gs)).vars pv)
  (hps:before=pa ++ pv) (hk:W.keptBut W' (· ∈ before)) (hfz : ∀ a,a.block < W.heap.size→W'.frozen? a=W.frozen? a)
  (hok : ∀ (j:Nat) (t:TypeId) (r:Value),f.resultTypes[j]? = some t→(v.resultList f.resultTypes.size)[j]? = some r→Value.okWide P W' .any 0 t r) :
  s.post enc P f apart fresh handsOn again W args v W':=by
 have hlt : ∀ p ∈ before,p.block < W.heap.size:=fun p hp=>hW.lt p hp
 have h0 : ∀ p ∈ before,(fun b=>decide (b < W.heap.size)) p.block=true:=fun p hp=>decide_eq_true (hlt p hp)
 have hin : ∀ p ∈ before,p ∈ pa∨p ∈ pv:=fun p hp=>List.mem_append.1 (hps ▸ hp)
 have hin' : ∀ p,p ∈ ([] ++ pa) ++ pv→p ∈ before:=fun p hp=>by rw [hps]; simpa using hp
 refine ⟨ds,gs,before,[],pa,pv,hW,hres _ _ _,hargs _ h0,hvars _ h0,World.keptBut_mono (fun p hp=>⟨hp,.inr (hin p hp)⟩) hk,fun _=>?_⟩
 obtain ⟨_,_,_,_,_,hz,hn⟩ := hW
 refine ⟨hok,_,_,([] ++ pa) ++ pv,⟨[] ++ pa,pv,trodAll_append (hargs _ fun _ _=>rfl) (hres _ _ _),hvars _ (fun _ _=>rfl),rfl,fun b off hp=>?_,fun ha=>?_⟩,fun p hp _=>hin' p hp⟩
 ·have hb:=hin' _ hp
  rw [hfz _ (hlt _ hb)]; exact hz b off hb
 ·have:=hn ha
  rw [hps] at this
  simpa using this
theorem pw_core {W:World} {rest:List (String × DataW Unit)} (h:laidMet PP (("internal/strconv.uint64pow10",Rows.laid_internal_strconv_uint64pow10) :: rest) W):Pw W :=
 Lib.tabIs_of_head (rest:=rest) gPw (t:=T_20_uint64) (e:=T_uint64) (n:=20) zaL ar_20_uint64.1 zaL zaL zaL h
theorem laid_three {W:World} (h:laidMetH PP [("math/bits.deBruijn32tab",Rows.laid_math_bits_deBruijn32tab),("math/bits.deBruijn64tab",Rows.laid_math_bits_deBruijn64tab),("internal/strconv.uint64pow10",Rows.laid_internal_strconv_uint64pow10)] W):Pw W:=by
 have h':laidMet PP [("math/bits.deBruijn32tab",Rows.laid_math_bits_deBruijn32tab),("math/bits.deBruijn64tab",Rows.laid_math_bits_deBruijn64tab),("internal/strconv.uint64pow10",Rows.laid_internal_strconv_uint64pow10)] W:=h
 exact pw_core (laidMet_tail (laidMet_tail h'))
theorem Held.pw {W:World} {Z:List OA} (h:Pw W) (hz:Held W Z):Held W (oPw :: Z) := .cons ⟨fun i=>i=1,⟨h,fun _=>Iff.rfl⟩⟩ hz
instance:Inhabited ByteArray:=⟨ByteArray.empty⟩
end
section
open Gw Go.ChangeShapes Go.WideShapes Go.ChangeAt Go.RowKit
set_option maxRecDepth 100000
namespace LawReduceErases
theorem contract (H:Type) (enc:TypeId × Value→H) (W:World) (base:Nat) (args:Array Value) (ds gs:List (DataW H)) (before:List MemPlace)
  (hval : ∀ (j:Nat) t v,xx.params[j]? = some t→args[j]? = some v→Value.okWide PP W .any base t v)
  (hW:DataW.Whole enc PP xx.params.toList Rows.reduceErasesSpec.vars false W args.toList ds gs before) (hL:laidMetH PP Rows.reduceErasesUptoRow.laid W) (hsm:Rows.uptoSmall H (ds ++ gs)=true) :
  Calls PP yc args W fun e W' => ∃ v,e = .returned v∧Rows.reduceErasesSpec.post enc PP xx false true false false W args v W':=by
 have hW':=hW
 have hlt:=hW.lt
 obtain ⟨p,q,hA0,hV,rfl,hfz,hnd⟩ := hW
 have hA:DataW.TrodAll enc PP W 0 (fun _=>true) true xx.params.toList args.toList ds p:=hA0
 have hpar:xx.params = #[vW,zk]:=by kernel_rfl
 rw [hpar] at hA hval
 obtain ⟨v0,v1,d0,d1,p0,p1,rfl,rfl,rfl,h0,h1⟩ := trodAll_two hA
 obtain ⟨rfl,rfl⟩ := trodVars_none hV
 obtain ⟨a0,s0,rfl,hrd0,hnm0,hsl0⟩ := nds_of (hval 0 _ _ rfl rfl) h0
 have hln0:=small_len hsm zaK hsl0
 obtain ⟨a1,s1,rfl,⟨hnm1,hbg1⟩,hf1⟩ := term_of (hval 1 _ _ rfl rfl) h1 hsm zaK
 have S:=stheld (W:=W) (.s hrd0 zaJ (.f hf1 (.pw (laid_three hL) .nil)))
 refine (law14_ReduceErases_st S (ReduceErases_true (K:=1100000) zaJ heads14b hnm0 zaJ hnm1 hbg1)).mono fun e W' ⟨v,he,hv,hS⟩ => ?_
 subst hv
 have hx:=hS.frame
 refine ⟨_,he,post_old (pa:=p0 ++ p1) (pv:=[]) hW' (fun _ _ _=>trodAll_cons_mk (shut_bool un_bool _) trodAll_mk0) (fun sp hsp=>?_) (fun _ _=>rfl) zaK ((Ext.below hx).frame _) hx.froz (ok_one zaL rfl (okWide_bool_mk un_bool _))⟩
 rw [hpar]
 refine trodAll_stays (ts:=[vW,zk]) (fun t ht=>?_) hA (fun p hp=>(Ext.below hx).same (hlt p (by simpa using hp))) (fun p hp=>hsp p (by simpa using hp))
 simp only [List.mem_cons,List.not_mem_nil,or_false] at ht
 rcases ht with rfl | rfl <;> exact ⟨by kernel_rfl,of_decide_eq_true zaL⟩
noncomputable def laidWorld1 (os:Os):World :=
 { World.holding PP os ⟨#[],#[],[]⟩ with heap:=(World.holding PP os ⟨#[],#[],[]⟩).heap.modify 3 fun
   | .cells _ t frozen => .cells (tz64.map (Value.int .u8)).toArray t frozen
   | o=>o }
noncomputable def laidWorld2 (os:Os):World :=
 { laidWorld1 os with heap:=(laidWorld1 os).heap.modify 2 fun
   | .cells _ t frozen => .cells (tz32.map (Value.int .u8)).toArray t frozen
   | o=>o }
noncomputable def laidWorld (os:Os):World :=
 { laidWorld2 os with heap:=(laidWorld2 os).heap.modify 1 fun
   | .cells _ t frozen => .cells (Lib.pow10Tab.map (Value.int .u64)).toArray t frozen
   | o=>o }
def argsN:Array Value := #[.slice none 0 0,.agg #[.int .i64 0,.string ByteArray.empty,.string ByteArray.empty,.int .i64 0,.slice none 0 0]]
theorem laid_met (os:Os):laidMet PP Rows.reduceErasesUptoRow.laid ((laidWorld os).forCall (fun _ _=>0) ⟨#[],argsN,[]⟩).memory :=
 laidMet_of_run' 8 zaL zaL
def ddN (H:Type):List (DataW H):=[.nil,.agg [.lit (.int .i64 0),.lit (.string []),.lit (.string []),.lit (.int .i64 0),.nil]]
theorem reads (os:Os) {H:Type} (enc:TypeId × Value→H) : ∃ places,DataW.whole enc PP ((laidWorld os).forCall (fun _ _=>0) ⟨#[],argsN,[]⟩).memory xx.params.toList Rows.reduceErasesSpec.vars false argsN.toList 8=some (ddN H,[],places) :=
 ⟨[],by kernel_rfl⟩
theorem lifted (os:Os) (started:os.Started) (H:Type) (enc:TypeId × Value→H) (F:Stop.Interp) :
  ReturnsInHanded {} Tryz.checked os yc .any ((Rows.OpenSpec.upto Rows.reduceErasesSpec).preRow enc PP xx Rows.reduceErasesUptoRow.domain false Rows.reduceErasesUptoRow.laid) (((Rows.OpenSpec.upto Rows.reduceErasesSpec).at F).post enc PP xx false true false false):=by
 obtain ⟨places,hx⟩ := reads os enc
 refine returnsInHanded_of_row (C:=Tryz.checked) (s:=Rows.OpenSpec.upto Rows.reduceErasesSpec) ownKnob_none started zaL vv
  (witness_row_at (enc:=enc) (C:=Tryz.checked) false (laidWorld os) argsN rfl zaL zaL zaL
   (OpenSpec.preRow_of_cond 8 hx zaL (fun k hk=>by cases hk; kernel_rfl) zaL (laid_met os))) ?_
 intro W base args ds gs before hval hW _ hcond _ hL _ _
 exact contract H enc W base args ds gs before hval hW hL (hcond _ rfl)
theorem said:Rows.ReduceErasesUptoSaid :=
 OpenClaim.holds_of_cond yc xx rfl rfl rfl rfl rfl rfl rfl ⟨rfl,rfl,rfl,rfl,rfl⟩ rfl rfl rfl rfl rfl zaL vv zaL
  (of_decide_eq_true zaL) (by unfold Func.isWrapper; first | (rw [if_pos (by decide +kernel)]; kernel_rfl) | (rw [if_neg (by decide +kernel)]; exact ⟨rfl,rfl⟩))
  (fun os started H enc _ F=>by rw [OpenClaim.pre_eq_preRow]; exact lifted os started H enc F)
theorem plain (f:FuncId) (fn:Func) (hf:Tryz.pinned.checked.prog.funcNamed "dictum/dictumlaw14.ReduceErases" = some f) (hfn:Tryz.pinned.checked.prog.funcs[f]? = some fn) :
  true=Tryz.pinned.checked.prog.looks [] ∧ ∀ (j:Nat) t,fn.params[j]? = some t→Tryz.pinned.checked.prog.wantsStandIn t=false:=by
 obtain rfl:f=yc:=zaM ((show PP.funcNamed "dictum/dictumlaw14.ReduceErases" = some yc by kernel_rfl).symm.trans hf) |>.symm
 obtain rfl:fn=xx:=(zaM (vv.symm.trans hfn)).symm
 refine ⟨by kernel_rfl,fun j t ht=>?_⟩
 rw [show xx.params = #[vW,zk] by kernel_rfl] at ht
 have hm:t ∈ [vW,zk]:=by simpa using Array.mem_of_getElem? ht
 simp only [List.mem_cons,List.not_mem_nil,or_false] at hm
 rcases hm with rfl | rfl
 ·exact (show PP.wantsStandIn vW=false by kernel_rfl)
 ·exact (show PP.wantsStandIn zk=false by kernel_rfl)
theorem card:Rows.ReduceErasesUptoCardSaid :=
 Claim7.holds_tied_plain_at .later [] _ _ _ _ said (fun _ h=>by cases h) zaL (fun _ h=>by cases h) reduceErasesUpto_row_tie rfl ⟨rfl,rfl⟩ zaL rfl plain zaL
end LawReduceErases
end
end Go.Proofs.YtmggdbbmmkkplaaGreatDoor
