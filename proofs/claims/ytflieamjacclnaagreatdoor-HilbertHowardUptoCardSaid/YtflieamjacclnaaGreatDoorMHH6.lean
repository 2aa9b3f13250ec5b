/- HilbertHoward, where what it reads is of the bulk that the row names: the row's statement and its card. The package variables that the row lists read as the program lays them. Printed by card16.py, a program of mine. -/
import Derived.Test.YtflieamjacclnaaGreatDoorMHH5
import Derived.Test.YtflieamjacclnaaGreatDoorCards
import Derived.Test.YtflieamjacclnaaGreatDoorTie
import Derived.WalkKit
import Derived.ProofKit
import Derived.OpenShut
import Derived.Deep.DeepHandedRow
import Derived.Deep.Slices
import Derived.LaidHandle
import Derived.Lib.LaidTab
import Derived.Lib.TrailingZeros
import Derived.ChangeSame
set_option linter.unusedVariables false
set_option linter.unusedSimpArgs false
namespace Go.Proofs.YtflieamjacclnaaGreatDoor
section
open Gw
theorem told_v {M:List Nd} {P:Int→Sc→Option Int→TR} {s:Sc} {n:ByteArray} {f:Int} (h:s.find? (fun q=>decide (q.1=n))=some (n,f)):yd M P s (vT n) = .ok f:=by
 unfold yd
 rw [if_pos (show (vT n).kind=1 from rfl)]
 show (match s.find? (fun q=>decide (q.1=n)) with | some q=>TR.ok q.2 | none => .no 131 [])=_
 rw [h]
theorem ty_v {M:List Nd} {k:Nat} {s:Sc} {n:ByteArray} {f:Int} (hk:1 ≤ k) (h:s.find? (fun q=>decide (q.1=n))=some (n,f)):tyS M k (vT n) s none = .ok f:=by
 obtain ⟨k,rfl⟩ : ∃ k',k=k' + 1:=⟨k - 1,by omega⟩
 rw [zas,told_v h]
theorem ty_vc {M:List Nd} {k:Nat} {s:Sc} {n:ByteArray} {f:Int} (hk:1 ≤ k) (h:s.find? (fun q=>decide (q.1=n))=some (n,f)):tyS M k (vT n) s (some f) = .ok f:=by
 obtain ⟨k,rfl⟩ : ∃ k',k=k' + 1:=⟨k - 1,by omega⟩
 rw [zar]
 unfold yr
 rw [told_v h]
 simp [vT,PTerm.kind,TR.bind]
-- an axiom's term
theorem ty_ax {M:List Nd} {kd f:Int} (h:axS M kd f=true) (s:Sc) : ∀ k,depT (axT kd) ≤ k → ∃ g,tyS M k (axT kd) s (some f) = .ok g:=by
 intro k hk
 unfold axS at h
 by_cases h1:kd=1
 ·subst h1
  simp only [axT,if_true] at hk ⊢
  obtain ⟨k,rfl⟩ : ∃ k',k=k' + 3:=⟨k - 3,by simp [funT,nT,vT,depT,depL] at hk; omega⟩
  simp at h
  simp [tyS,yr,yd,ofK,funT,nT,vT,at_,TR.at_,TR.bind,h,PTerm.kind,PTerm.name,PTerm.sub,PTerm.other]
 by_cases h2:kd=2
 ·subst h2
  simp only [axT,show ¬ ((2:Int)=1) by decide,if_false,if_true] at hk ⊢
  obtain ⟨k,rfl⟩ : ∃ k',k=k' + 6:=⟨k - 6,by simp [funT,nT,vT,depT,depL] at hk; omega⟩
  simp at h
  simp [tyS,yr,yd,ofK,funT,nT,vT,at_,TR.at_,TR.bind,h,PTerm.kind,PTerm.name,PTerm.sub,PTerm.other]
 by_cases h3:kd=3
 ·subst h3
  simp only [axT,show ¬ ((3:Int)=1) by decide,show ¬ ((3:Int)=2) by decide,if_false,if_true] at hk ⊢
  obtain ⟨k,rfl⟩ : ∃ k',k=k' + 3:=⟨k - 3,by simp [funT,nT,vT,depT,depL] at hk; omega⟩
  simp at h
  simp [tyS,yr,yd,ofK,funT,nT,vT,at_,TR.at_,TR.bind,h,PTerm.kind,PTerm.name,PTerm.sub,PTerm.other]
 by_cases h4:kd=4
 ·subst h4
  simp only [axT,show ¬ ((4:Int)=1) by decide,show ¬ ((4:Int)=2) by decide,show ¬ ((4:Int)=3) by decide,if_false,if_true] at hk ⊢
  obtain ⟨k,rfl⟩ : ∃ k',k=k' + 3:=⟨k - 3,by simp [funT,nT,vT,depT,depL] at hk; omega⟩
  simp at h
  simp [tyS,yr,yd,ofK,funT,nT,vT,at_,TR.at_,TR.bind,h,PTerm.kind,PTerm.name,PTerm.sub,PTerm.other]
 by_cases h5:kd=5
 ·subst h5
  simp only [axT,show ¬ ((5:Int)=1) by decide,show ¬ ((5:Int)=2) by decide,show ¬ ((5:Int)=3) by decide,show ¬ ((5:Int)=4) by decide,if_false,if_true] at hk ⊢
  obtain ⟨k,rfl⟩ : ∃ k',k=k' + 4:=⟨k - 4,by simp [funT,nT,vT,depT,depL] at hk; omega⟩
  simp at h
  simp [tyS,yr,yd,ofK,funT,nT,vT,at_,TR.at_,TR.bind,h,PTerm.kind,PTerm.name,PTerm.sub,PTerm.other]
 by_cases h6:kd=6
 ·subst h6
  simp only [axT,show ¬ ((6:Int)=1) by decide,show ¬ ((6:Int)=2) by decide,show ¬ ((6:Int)=3) by decide,show ¬ ((6:Int)=4) by decide,show ¬ ((6:Int)=5) by decide,if_false,if_true] at hk ⊢
  obtain ⟨k,rfl⟩ : ∃ k',k=k' + 3:=⟨k - 3,by simp [funT,nT,vT,depT,depL] at hk; omega⟩
  simp at h
  simp [tyS,yr,yd,ofK,funT,nT,vT,at_,TR.at_,TR.bind,h,PTerm.kind,PTerm.name,PTerm.sub,PTerm.other]
 by_cases h7:kd=7
 ·subst h7
  simp only [axT,show ¬ ((7:Int)=1) by decide,show ¬ ((7:Int)=2) by decide,show ¬ ((7:Int)=3) by decide,show ¬ ((7:Int)=4) by decide,show ¬ ((7:Int)=5) by decide,show ¬ ((7:Int)=6) by decide,if_false,if_true] at hk ⊢
  obtain ⟨k,rfl⟩ : ∃ k',k=k' + 3:=⟨k - 3,by simp [funT,nT,vT,depT,depL] at hk; omega⟩
  simp at h
  simp [tyS,yr,yd,ofK,funT,nT,vT,at_,TR.at_,TR.bind,h,PTerm.kind,PTerm.name,PTerm.sub,PTerm.other]
 by_cases h8:kd=8
 ·subst h8
  simp only [axT,show ¬ ((8:Int)=1) by decide,show ¬ ((8:Int)=2) by decide,show ¬ ((8:Int)=3) by decide,show ¬ ((8:Int)=4) by decide,show ¬ ((8:Int)=5) by decide,show ¬ ((8:Int)=6) by decide,show ¬ ((8:Int)=7) by decide,if_false,if_true] at hk ⊢
  obtain ⟨k,rfl⟩ : ∃ k',k=k' + 6:=⟨k - 6,by simp [funT,nT,vT,depT,depL] at hk; omega⟩
  simp at h
  simp [tyS,yr,yd,ofK,funT,nT,vT,at_,TR.at_,TR.bind,h,PTerm.kind,PTerm.name,PTerm.sub,PTerm.other]
 by_cases h9:kd=9
 ·subst h9
  simp only [axT,show ¬ ((9:Int)=1) by decide,show ¬ ((9:Int)=2) by decide,show ¬ ((9:Int)=3) by decide,show ¬ ((9:Int)=4) by decide,show ¬ ((9:Int)=5) by decide,show ¬ ((9:Int)=6) by decide,show ¬ ((9:Int)=7) by decide,show ¬ ((9:Int)=8) by decide,if_false] at hk ⊢
  obtain ⟨k,rfl⟩ : ∃ k',k=k' + 3:=⟨k - 3,by simp [funT,nT,vT,depT,depL] at hk; omega⟩
  simp at h
  simp [tyS,yr,yd,ofK,funT,nT,vT,at_,TR.at_,TR.bind,h,PTerm.kind,PTerm.name,PTerm.sub,PTerm.other]
 simp [h1,h2,h3,h4,h5,h6,h7,h8,h9] at h
-- a line's part
def lsc (ls:List Ln):Nat→Sc
 | 0=>[]
 | n + 1=>(lNm n,(at_ Ln.z ls n).form) :: lsc ls n
theorem find_h {ls:List Ln} {base:Sc} {f:Int} (hf:0 ≤ f) : ∀ n:Nat,(lsc ls n ++ base).find? (fun q=>decide (q.1=hNm f))=base.find? (fun q=>decide (q.1=hNm f))
 | 0=>rfl
 | n + 1=>by
  have:¬ lNm n=hNm f:=fun e=>hl_ne hf (show (0:Int) ≤ n by omega) e.symm
  rw [lsc,List.cons_append,List.find?_cons]
  simp only [this,decide_false]
  exact find_h hf n
theorem find_l {ls:List Ln} {base:Sc} {a:Int} (h0:0 ≤ a) : ∀ n:Nat,a < n→n < 9223372036854775808→(lsc ls n ++ base).find? (fun q=>decide (q.1=lNm a))=some (lNm a,(at_ Ln.z ls a).form)
 | 0,h,_=>by omega
 | n + 1,h,hb=>by
  rw [lsc,List.cons_append,List.find?_cons]
  by_cases e:a=n
  ·subst e; simp
  ·have:¬ lNm n=lNm a:=fun q=>e (lNm_inj ⟨by omega,by omega⟩ ⟨by omega,by omega⟩ q).symm
   simp only [this,decide_false]
   exact find_l h0 n zcb zcb
def byH (hyps:List Int):List Hyp:=hyps.map fun h=>⟨hNm h,h⟩
theorem find_by {hyps:List Int} {f:Int} (hr : ∀ h ∈ hyps,0 ≤ h∧h < 9223372036854775808) (hf:f ∈ hyps):(scS (byH hyps)).find? (fun q=>decide (q.1=hNm f))=some (hNm f,f):=by
 have hm : ∀ q ∈ scS (byH hyps),∃ h ∈ hyps,q=(hNm h,h):=fun q hq=>by
  obtain ⟨a,ha,rfl⟩ := List.mem_map.1 (List.mem_reverse.1 hq)
  obtain ⟨h,hh,rfl⟩ := List.mem_map.1 ha
  exact ⟨h,hh,rfl⟩
 cases hc:(scS (byH hyps)).find? (fun q=>decide (q.1=hNm f)) with
 | none =>
  rw [List.find?_eq_none] at hc
  exact absurd (decide_eq_true (rfl:hNm f=hNm f)) (hc (hNm f,f) (List.mem_reverse.2 (List.mem_map.2 ⟨⟨hNm f,f⟩,List.mem_map.2 ⟨f,hf,rfl⟩,rfl⟩)))
 | some q =>
  obtain ⟨h,hh,rfl⟩ := hm q (List.mem_of_find?_eq_some hc)
  have e:hNm h=hNm f:=of_decide_eq_true (List.find?_some (p:=fun q:ByteArray × Int=>decide (q.1=hNm f)) hc)
  rw [hNm_inj (hr h hh) (hr f hf) e]
theorem ty_part {M:List Nd} {hyps:List Int} {ls:List Ln} (hr : ∀ h ∈ hyps,0 ≤ h∧h < 9223372036854775808) (hf:jv M ls=true) {n:Nat} (hn:n < ls.length) (hb:ls.length < 9223372036854775808) (h:yQ M hyps ls n=true) (hx:FineL (at_ Ln.z ls n)) :
  ∀ k,depT (jG (at_ Ln.z ls n)) ≤ k→tyS M k (jG (at_ Ln.z ls n)) (lsc ls n ++ scS (byH hyps)) none = .ok (at_ Ln.z ls n).form:=by
 intro k hk
 have hin:=form_in hf (yA (show (0:Int) ≤ n by omega) zcb)
 unfold yQ at h
 generalize hX:at_ Ln.z ls (n:Int)=x at *
 by_cases k10:x.kind=10
 ·have e:jG x=vT (hNm x.form):=by unfold jG; rw [if_pos k10]
  rw [e] at hk ⊢
  simp only [k10,show ¬ ((10:Int)=11) by decide,if_false,if_true,Bool.and_eq_true,List.any_eq_true,decide_eq_true_eq] at h
  obtain ⟨_,y,hy,rfl⟩ := h
  refine ty_v (by have:=zak (vT (hNm x.form)); omega) ?_
  rw [find_h hx.form.1]
  exact find_by hr hy
 ·by_cases k11:x.kind=11
  ·have e:jG x=nT 3 [vT (lNm x.a),vT (lNm x.b)]:=by unfold jG; rw [if_neg k10,if_pos k11]
   rw [e] at hk ⊢
   simp only [k11,if_true,Bool.and_eq_true,decide_eq_true_eq] at h
   obtain ⟨⟨⟨⟨⟨⟨a0,a1⟩,b0⟩,b1⟩,c⟩,d⟩,e⟩ := h
   obtain ⟨k,rfl⟩ : ∃ k',k=k' + 2:=⟨k - 2,by simp [nT,vT,depT,depL] at hk; omega⟩
   have h1:=ty_v (M:=M) (k:=k + 1) zcb (find_l (ls:=ls) (base:=scS (byH hyps)) a0 n a1 zcb)
   have h2:=ty_vc (M:=M) (k:=k + 1) zcb (find_l (ls:=ls) (base:=scS (byH hyps)) b0 n b1 zcb)
   rw [zas]
   unfold yd
   rw [if_neg (by simp [nT,PTerm.kind]),if_pos (show (nT 3 [vT (lNm x.a),vT (lNm x.b)]).kind=3 from rfl)]
   have g0:at_ PTerm.z (nT 3 [vT (lNm x.a),vT (lNm x.b)]).sub 0=vT (lNm x.a):=rfl
   have g1:at_ PTerm.z (nT 3 [vT (lNm x.a),vT (lNm x.b)]).sub 1=vT (lNm x.b):=rfl
   simp only [g0,g1,h1,TR.at_,TR.bind,ofK,c,if_true,d,h2,e]
  ·have e:jG x=⟨11,ByteArray.empty,ByteArray.empty,x.form,[axT x.kind]⟩ := by unfold jG; rw [if_neg k10,if_neg k11]
   rw [e] at hk ⊢
   simp only [k10,k11,if_false,Bool.and_eq_true] at h
   obtain ⟨k,rfl⟩ : ∃ k',k=k' + 1:=⟨k - 1,by simp [depT] at hk; omega⟩
   obtain ⟨g,hg⟩ := ty_ax h.2 (lsc ls n ++ scS (byH hyps)) k (by simp [depT,depL] at hk; omega)
   rw [zas]
   unfold yd
   have g0:at_ PTerm.z (PTerm.mk 11 ByteArray.empty ByteArray.empty x.form [axT x.kind]).sub 0=axT x.kind:=rfl
   simp only [g0,PTerm.kind,PTerm.form,show ¬ ((11:Int)=1) by decide,show ¬ ((11:Int)=3) by decide,show ¬ ((11:Int)=5) by decide,show ¬ ((11:Int)=6) by decide,if_false,if_true,hin,hg,TR.at_,TR.bind]
theorem ty_lets {M:List Nd} {hyps:List Int} {ls:List Ln} (hr : ∀ h ∈ hyps,0 ≤ h∧h < 9223372036854775808) (hA:All M hyps ls) (hF : ∀ x ∈ ls,FineL x) (hb:ls.length < 9223372036854775808) {id:Int} : ∀ (n:Nat) (y:PTerm),n ≤ ls.length →
  (∀ k,depT y ≤ k → ∃ g,tyS M k y (lsc ls n ++ scS (byH hyps)) (some id) = .ok g) → ∀ k,depT (letsT ls n y) ≤ k → ∃ g,tyS M k (letsT ls n y) (scS (byH hyps)) (some id) = .ok g
 | 0,y,_,h=>h
 | n + 1,y,hn,h=>by
  have hl:n < ls.length:=by omega
  have e:at_ Ln.z ls n=ls[n]:=by
   unfold at_; rw [Int.toNat_natCast,List.getD_eq_getElem?_getD,List.getElem?_eq_getElem hl]; rfl
  have hx:=hF _ (List.getElem_mem hl)
  rw [← e] at hx
  rw [letsT]
  refine ty_lets hr hA hF hb n _ zcb fun k hk=>?_
  obtain ⟨k,rfl⟩ : ∃ k',k=k' + 1:=⟨k - 1,by simp [depT] at hk; omega⟩
  simp [depT,depL] at hk
  have h1:=ty_part hr hA.1 hl hb (hA.2 n (yA zcb zcb)) hx k zcb
  obtain ⟨g,h2⟩ := h k zcb
  rw [lsc,List.cons_append] at h2
  rw [zar]
  unfold yr
  have g0:at_ PTerm.z (PTerm.mk 12 (lNm n) ByteArray.empty 0 [jG (at_ Ln.z ls n),y]).sub 0=jG (at_ Ln.z ls n):=rfl
  have g1:at_ PTerm.z (PTerm.mk 12 (lNm n) ByteArray.empty 0 [jG (at_ Ln.z ls n),y]).sub 1=y:=rfl
  exact ⟨g,by simp only [g0,g1,PTerm.kind,PTerm.name,show ¬ ((12:Int)=2) by decide,show ¬ ((12:Int)=4) by decide,show ¬ ((12:Int)=7) by decide,show ¬ ((12:Int)=8) by decide,show ¬ ((12:Int)=9) by decide,show ¬ ((12:Int)=10) by decide,if_false,if_true,h1,h2,TR.at_,TR.bind]⟩
theorem ty_term {M:List Nd} {hyps:List Int} {ls:List Ln} (hr : ∀ h ∈ hyps,0 ≤ h∧h < 9223372036854775808) (hA:All M hyps ls) (hF : ∀ x ∈ ls,FineL x) (hb:ls.length < 9223372036854775808) (h0:0 < ls.length) : ∀ k,depT (um ls) ≤ k → ∃ g,tyS M k (um ls) (scS (byH hyps)) (some (lastS ls)) = .ok g :=
 ty_lets hr hA hF hb ls.length _ (Nat.le_refl _) fun k hk=>⟨_,ty_vc (by have:=zak (vT (lNm ((ls.length:Int) - 1))); omega) (find_l zcb ls.length zcb hb)⟩
end
section
open Gw
theorem by_loop {K:Nat} (hK:30 ≤ K) {hyps:List Int} (hr : ∀ h ∈ hyps,0 ≤ h∧h < 9223372036854775808) (hb:hyps.length ≤ 16777216) : ∀ (n i:Nat) (acc:List Hyp),i + n=hyps.length→acc.length ≤ i→forS (fun i s=>zdP.b0 K hyps i s) n i acc=some (acc ++ byH (hyps.drop i))
 | 0,i,acc,hi,_=>by rw [List.drop_eq_nil_of_le zcb]; simp [forS,byH]
 | n + 1,i,acc,hi,ha=>by
  have hil:i < hyps.length:=by omega
  have he:at_ (0:Int) hyps (i:Int)=hyps[i]:=by
   unfold at_; rw [Int.toNat_natCast,List.getD_eq_getElem?_getD,List.getElem?_eq_getElem hil]; rfl
  have h1:=hr _ (List.getElem_mem hil)
  simp only [forS]
  unfold zdP.b0
  rw [he,Dec_doc hK h1.1 h1.2]
  simp only [Option.bind_some]
  rw [dec_ok 104 h1.1,chk,if_pos rfl,chk,if_pos (by simp; omega)]
  simp only [Option.bind_some]
  have:=by_loop hK hr hb n (i + 1) (acc ++ [⟨hNm hyps[i],hyps[i]⟩]) zcb (by simp; omega)
  unfold zdP.b0 at this
  refine Eq.trans this ?_
  rw [List.drop_eq_getElem_cons hil,List.append_assoc]
  rfl
theorem told_some {M:List Nd} (hw:Wf M) {K:Nat} (hK:67000 ≤ K) {hyps:List Int} {ls:List Ln} (hc:uK M hyps ls=0) (h1:hyps.length ≤ 16777216) (h2:ls.length < 4611686018427387904):zdP.f K (some M) hyps ls (lastS ls)=some (some M,true):=by
 have hlen:=hw.len
 obtain ⟨c1,c2,c3⟩ := check_iff.1 hc
 obtain ⟨hF,h0⟩ := fine_of hw hc zcb
 have hr : ∀ h ∈ hyps,0 ≤ h∧h < 9223372036854775808:=fun h hh=>by
  have:=zO (List.all_eq_true.1 c1 h hh); omega
 unfold zdP.f
 rw [TellsH_some hw (show 10 ≤ K by omega) (show hyps.length < 4611686018427387904 by omega) h2]
 simp only [hc,if_true,Option.bind_some,zdI.f,ne_eq,not_true_eq_false,decide_false,Bool.or_false,Bool.false_eq_true,if_false]
 rw [TermH_some hw hK (show hyps.length < 4611686018427387904 by omega) h2]
 simp only [Option.bind_some]
 by_cases hf:1024 < ls.length∨65536 < sizeT (um ls)∨1024 < depT (um ls)
 ·have t:termH M hyps ls=(z0T,150):=by unfold termH; rw [if_neg (by simpa using hc),if_pos hf]
  rw [t]; simp
 ·have t:termH M hyps ls=(um ls,0):=by unfold termH; rw [if_neg (by simpa using hc),if_neg hf]
  rw [t]
  have e0:(((hyps.length:Nat):Int) - 0).toNat=hyps.length:=by omega
  have hl:=by_loop (show 30 ≤ K by omega) hr h1 hyps.length 0 [] zcb zcc
  simp only [show ¬ ((0:Int)=150) by decide,decide_false,Bool.false_eq_true,if_false,decide_true,if_true]
  rw [e0,show forS (fun i s=>zdP.b0 K hyps i s) hyps.length 0 ([]:List Hyp)=_ from hl]
  simp only [Option.bind_some,List.nil_append,List.drop_zero]
  have hrt:=right_term hF h0
  have hbl:(byH hyps).length=hyps.length:=by simp [byH]
  rw [CheckF_some hw zcb (nm_right _ hrt) (by rw [hbl]; omega)]
  have hck:jQ (um ls)=0:=by unfold jQ; rw [if_neg zcb,if_pos hrt]
  have hid:inb (lastS ls) M.length=true:=form_in c2.1 (yA zcb zcb)
  have hho:uj M (byH hyps)=true:=List.all_eq_true.2 fun x hx=>by
   obtain ⟨h,hh,rfl⟩ := List.mem_map.1 hx
   exact List.all_eq_true.1 c1 h hh
  obtain ⟨g,hg⟩ := ty_term hr c2 hF (show ls.length < 9223372036854775808 by omega) h0 (depT (um ls)) (Nat.le_refl _)
  have hwh:(whereS M (byH hyps) (um ls) (lastS ls)).2=0:=by
   unfold whereS
   rw [if_pos (by rw [hid,hho]; rfl),if_neg (by simpa using hck),hg]; rfl
  rw [hwh]
  simp
end
section
open Gw
theorem forms_loop (hyps:List Hyp) (hb:hyps.length ≤ 16777216) : ∀ (n i:Nat) (acc:List Int),i + n=hyps.length→acc.length ≤ i→forS (fun i s=>zdQ.b0 hyps i s) n i acc=some (acc ++ fms (hyps.drop i))
 | 0,i,acc,hi,_=>by rw [List.drop_eq_nil_of_le zcb]; simp [forS]
 | n + 1,i,acc,hi,ha=>by
  have hil:i < hyps.length:=by omega
  have he:at_ Hyp.z hyps (i:Int)=hyps[i]:=by
   unfold at_; rw [Int.toNat_natCast,List.getD_eq_getElem?_getD,List.getElem?_eq_getElem hil]; rfl
  simp only [forS]
  unfold zdQ.b0
  rw [he,chk,if_pos (by simp; omega)]
  simp only [Option.bind_some]
  have:=forms_loop hyps hb n (i + 1) (acc ++ [hyps[i].form]) zcb (by simp; omega)
  unfold zdQ.b0 at this
  refine Eq.trans this ?_
  rw [List.drop_eq_getElem_cons hil,List.append_assoc]
  rfl
theorem Compile_some {M:List Nd} (hw:Wf M) {K:Nat} (hK:70000 ≤ K) {hyps:List Hyp} {x:PTerm} {id:Int} (hn:nmT x) (hl:hyps.length ≤ 16777216) :
  ∃ t l e,zdz.f K (some M) hyps x id=some (some t,l,e)∧(e ≠ 0→l=[])∧(e=0→Grown M t∧All t (fms hyps) l∧l.length ≤ 4096∧HasF l ((l.length:Int) - 1) id∧uj M hyps=true):=by
 unfold zdz.f
 rw [CheckF_some hw zcb hn zcb]
 simp only [Option.bind_some]
 by_cases hc:(whereS M hyps x id).2=0
 rotate_left
 ·rw [if_pos (by simpa using hc)]; exact ⟨M,[],_,rfl,fun _=>rfl,fun q=>absurd q hc⟩
 rw [if_neg (by simpa using hc)]
 unfold whereS at hc
 split at hc
 rotate_left
 ·simp at hc
 rename_i h1
 rw [Bool.and_eq_true] at h1
 split at hc
 ·rename_i h2; exact absurd hc h2
 rename_i h2
 obtain ⟨q1,q2,q3⟩ := checkT_ok h2
 have hcd:=tyS_cd (M:=M) (depT x) x (scS hyps) (some id)
 have hty : ∃ g,tyS M (depT x) x (scS hyps) (some id) = .ok g:=by
  cases ht:tyS M (depT x) x (scS hyps) (some id) with
  | ok g=>exact ⟨g,rfl⟩
  | no c w=>rw [ht] at hc hcd; exact absurd hc (cd_pos hcd (by intro f; simp))
 have P:Pre M hyps x id:=⟨hw,h1.2,h1.1,q3,q1,q2,by omega,hty⟩
 obtain ⟨t,l,b,e,g,hb⟩ := comp_rec (k:=K - depT x) zcb (depT x) x (Nat.le_refl _) M hyps id P
 rw [show depT x + (K - depT x)=K by omega] at e
 simp only [zcg.f,Option.map_some,Option.bind_some,zcu.f]
 rw [chk,if_pos (by simp; omega)]
 simp only [Option.bind_some,e,zcU.f]
 by_cases c:b=0
 ·subst c; exact ⟨t,l,0,rfl,fun q=>absurd rfl q,fun _=>⟨g,(hb rfl).1,(hb rfl).2.1,(hb rfl).2.2,h1.2⟩⟩
 ·simp only [c,ne_eq,not_false_eq_true,decide_true,if_true,cutP16 g,Option.bind_some]
  exact ⟨M,[],b,rfl,fun _=>rfl,fun q=>absurd q c⟩
theorem HilbertHoward_true {K:Nat} (hK:70000 ≤ K) (hh:zdL.f K=some true) {rows:List Nd} (hn : ∀ n ∈ rows,n.name.size < 9223372036854775808) (hl:rows.length * 40 ≤ 140737488355328) {hyps:List Hyp} {x:PTerm} (id:Int) (hx:nmT x) (h1:hyps.length ≤ 16777216) (h2:sizeT x + 2 ≤ K) (h3:sizeT x ≤ 1000000000000):zdQ.f K rows hyps x id=some true:=by
 obtain ⟨M,ht,hw,_⟩ := tables16 hn hl
 unfold zdQ.f
 rw [ht]
 simp only [Option.bind_some]
 rw [copy_some K x h2 h3]
 simp only [Option.bind_some]
 obtain ⟨t,l,e,hC,hE,hO⟩ := Compile_some hw hK (id:=id) hx h1
 rw [hC]
 simp only [Option.bind_some,zdI.f]
 by_cases c:e=0
 ·obtain ⟨g,hA,hlen,hF,hho⟩ := hO c
  have e0:(((hyps.length:Nat):Int) - 0).toNat=hyps.length:=by omega
  have hf:=forms_loop hyps h1 hyps.length 0 [] zcb zcc
  rw [if_neg (by simpa using c),e0,show forS (fun i s=>zdQ.b0 hyps i s) hyps.length 0 ([]:List Int)=_ from hf]
  simp only [Option.bind_some,List.nil_append,List.drop_zero]
  have hpos:=zO hF.1
  have hck:uK t (fms hyps) l=0:=check_iff.2 ⟨List.all_eq_true.2 fun y hy=>by
   obtain ⟨a,ha,rfl⟩ := List.mem_map.1 hy
   exact ud g.1 (List.all_eq_true.1 hho a ha),hA,by intro q; rw [q] at hpos; simp at hpos⟩
  have el:lastS l=id:=hF.2
  have:=told_some g.2 (show 67000 ≤ K by omega) hck (by simpa using h1) zcb
  rw [el] at this
  simp [this,hh]
 ·rw [if_pos (by simpa using c),hE c]
  simp [hh]
end
section
open Gw
end
section
open Gw
set_option maxRecDepth 100000
theorem heads16b:zdL.f 2200000=some true:=by decide +kernel
end
section
open Gw Go.ChangeShapes Go.WideShapes Go.ChangeAt Go.RowKit
set_option maxRecDepth 100000
theorem ownKnob_none:ownKnob PP.godebug=none:=by kernel_rfl
theorem laidOut_PP:laidOutB PP=true:=by kernel_rfl
theorem trodAll_stays {H:Type} {enc:TypeId × Value→H} {W W':World} {sp:Nat→Bool} : ∀ {ts:List TypeId} {vs:List Value} {ds:List (DataW H)} {ps:List MemPlace},(∀ t ∈ ts,PP.readableRec t=true∧t < PP.types.size) →
  DataW.TrodAll enc PP W 0 (fun _=>true) true ts vs ds ps→(∀ p ∈ ps,W.sameAt W' p)→(∀ p ∈ ps,sp p.block=true)→DataW.TrodAll enc PP W' 0 sp true ts vs ds ps
 | [],vs,ds,ps,_,h,_,_=>by
  obtain ⟨rfl,rfl,rfl⟩ := trodAll_nil h
  exact trodAll_mk0
 | t :: ts,vs,ds,ps,hr,h,h1,h2=>by
  obtain ⟨v,vs,d,ds,p,q,rfl,rfl,rfl,h0,h3⟩ := trodAll_cons h
  have ht:=hr t zcc
  exact trodAll_cons_mk (WideElems.Trod_stays laidOut_PP ht.1 ht.2 h0 (fun x hx=>h1 x (by simp [hx])) (fun x hx=>h2 x (by simp [hx])))
   (trodAll_stays (fun t ht=>hr t (by simp [ht])) h3 (fun x hx=>h1 x (by simp [hx])) (fun x hx=>h2 x (by simp [hx])))
def oth0:Oth:=⟨fun _=>False,[],fun _ h=>by cases h⟩
section
variable {P:Program} {W:World} {b t:Nat} {k:IntKind} {v:Value}
theorem cell_int (ht:P.underlying t=some (.int k)) (h:Cell.okWide P W .any b t v) : ∃ n,v = .int k n∧k.has n:=by
 simp only [Cell.okWide,ht] at h
 cases v <;> simp_all [Cell.ok]
theorem int_of (ht:P.underlying t=some (.int k)) (h:Value.okWide P W .any b t v) : ∃ n,v = .int k n∧k.has n:=by
 unfold Value.okWide at h
 rw [ht] at h
 exact cell_int ht h
end
section
variable {H:Type} {enc:TypeId × Value→H} {P:Program} {W:World} {t:TypeId} {fuel:Nat} {cs:List Value} {x:DataW H × List MemPlace} {sp:Nat→Bool} {hd:Bool} {b0:Nat}
theorem take_one {l:List Value} {o:Nat} {v:Value} (h:(l.drop o).take 1=[v]):l[o]? = some v:=by
 have:((l.drop o).take 1)[0]? = some v:=by rw [h]; rfl
 rw [List.getElem?_take] at this
 simpa using this
theorem fld_int {i off ft:Nat} {k:IntKind} (hf:ka P t i off ft) (hk:P.underlying ft=some (.int k)) (hc:P.cellsOf ft=1) (h:DataW.trod enc P W b0 sp hd fuel t cs=some x) : ∃ n,cs[off]? = some (.int k n):=by
 obtain ⟨fs,fd,hu,hi,rfl,rfl⟩ := hf
 obtain ⟨xs,n,_,_,hl,hx,hall⟩ := DataW.trod_struct hu h
 have h1:=hall i fd hi
 have h2:i < xs.length:=by rw [hx]; exact (Array.getElem?_eq_some_iff.1 hi).1
 rw [List.getElem?_eq_getElem h2,hc] at h1
 obtain ⟨n,e,_⟩ := DataW.trod_int hk h1
 exact ⟨n,take_one e⟩
theorem fld_str {i off ft:Nat} (hf:ka P t i off ft) (hk:P.underlying ft=some .string) (hc:P.cellsOf ft=1) (h:DataW.trod enc P W b0 sp hd fuel t cs=some x) : ∃ s:ByteArray,cs[off]? = some (.string s)∧s.size ≤ maxLen:=by
 obtain ⟨fs,fd,hu,hi,rfl,rfl⟩ := hf
 obtain ⟨xs,n,_,_,hl,hx,hall⟩ := DataW.trod_struct hu h
 have h1:=hall i fd hi
 have h2:i < xs.length:=by rw [hx]; exact (Array.getElem?_eq_some_iff.1 hi).1
 rw [List.getElem?_eq_getElem h2,hc] at h1
 obtain ⟨s,e,_,hs⟩ := DataW.trod_string hk h1
 exact ⟨s,take_one e,hs⟩
theorem slice_of {α:Type} [Inhabited α] {e k:Nat} {C:α→List Value} {Q:α→Prop} {base:Nat} {v:Value} {d:DataW H} {ps:List MemPlace} (ht:P.underlying t=some (.slice e)) (hk:P.cellsOf e=k) (hC : ∀ a,(C a).length=k) (hk0:0 < k)
  (hel : ∀ (n:Nat) (cs:List Value) (x:DataW H × List MemPlace),DataW.trod enc P W 0 (fun _=>true) true n e cs=some x → ∃ a,cs=C a∧Q a)
  (hval:Value.okWide P W .any base t v) (h:DataW.Trod enc P W 0 (fun _=>true) true t v d ps) :
  ∃ (l:List α) (s:SlV),v=s.v∧Rd W k s (l.map C)∧(∀ a ∈ l,Q a)∧(l=[] ∨ ∃ elems spare,d = .slice elems spare∧elems.length=l.length):=by
 obtain ⟨a0,len0,cap0,rfl⟩ := okWide_slice ht hval
 obtain ⟨fuel,hf⟩ := h
 rcases Deep.open_slice ht hf with ⟨h1,h2⟩ | ⟨a,len,cap,m,n,D,Pl,h1,_,hlc,hcm,hm,h2,hx⟩
 ·simp [Value.cells] at h1
  obtain ⟨rfl,rfl,rfl⟩ := h1
  exact ⟨[],SlV.nil,SlV.nil_eq,Rd.nil W k,by simp,.inl rfl⟩
 ·simp [Value.cells] at h1
  obtain ⟨rfl,rfl,rfl⟩ := h1
  have hval2:=hval
  simp only [Value.okWide,ht,Cell.okWide,Cell.ok] at hval2
  obtain ⟨_,_,_,hspot,row,cells,hshape,_⟩ := hval2
  obtain ⟨ab,ao,asp⟩ := a
  obtain rfl:asp=none:=hspot
  simp only at hshape
  have hlt:ab < W.heap.size:=by
   unfold World.shape? at hshape
   cases hh:W.heap[ab]? with
   | none=>rw [hh] at hshape; cases hshape
   | some o=>exact (Array.getElem?_eq_some_iff.1 hh).1
  have hmc:m=cap0:=by rw [hm]; rfl
  obtain ⟨f,hfx⟩ := Deep.choose_lt (α:=α) (n:=len0) (p:=fun i y=>W.cells? 0 ((⟨ab,ao,none⟩ : Addr).add (i * P.cellsOf e)) (P.cellsOf e)=some (C y)∧Q y) (fun i hi=>by
   obtain ⟨cs',hc,ht'⟩ := hx i zcb
   obtain ⟨y,rfl,hq⟩ := hel _ _ _ ht'
   exact ⟨y,hc,hq⟩)
  refine ⟨(List.range len0).map f,⟨some ⟨ab,ao,none⟩,len0,cap0⟩,by rw [SlV.eq],⟨⟨by simp,?_,?_⟩,?_,hlc⟩,?_,.inr ⟨_,_,by simpa using congrArg Prod.fst h2,by simp⟩⟩
  ·intro r hr
   obtain ⟨y,_,rfl⟩ := List.mem_map.1 hr
   exact hC y
  ·intro i r hr
   rw [List.getElem?_map,List.getElem?_map] at hr
   have hi:i < len0:=by
    refine Nat.lt_of_not_le fun q=>?_
    rw [List.getElem?_eq_none (by simpa using q)] at hr; cases hr
   rw [List.getElem?_eq_getElem (by simpa using hi)] at hr
   simp only [List.getElem_range,Option.map_some,Option.some.injEq] at hr
   subst hr
   obtain ⟨h3,_⟩ := hfx i hi
   obtain ⟨_,hl,hc⟩ := World.cells?_some h3
   refine ⟨rfl,fun j v hv=>?_⟩
   have hj:j < k:=by have:=(List.getElem?_eq_some_iff.1 hv).1; rw [hC] at this; exact this
   have h4:=hc j (by rw [hk]; exact hj)
   rw [hv] at h4
   have hadd:((⟨ab,ao,none⟩ : Addr).add (i * P.cellsOf e)).add j=⟨ab,ao + i * k + j,none⟩ := by
    rw [hk]
    unfold Addr.add
    by_cases h5:i * k=0
    ·by_cases h6:j=0
     ·simp [h5,h6]
     ·simp [h5,h6]
    ·by_cases h6:j=0
     ·simp [h5,h6]
     ·simp [h5,h6]
   rw [hadd] at h4
   exact h4
  ·rintro i ⟨_,rfl⟩
   exact hlt
  ·intro y hy
   obtain ⟨i,hi,rfl⟩ := List.mem_map.1 hy
   exact (hfx i (List.mem_range.1 hi)).2
end
instance:Inhabited Nd:=⟨Nd.z⟩
theorem nds_of {H:Type} {enc:TypeId × Value→H} {W:World} {base:Nat} {v:Value} {d:DataW H} {ps:List MemPlace} (hval:Value.okWide PP W .any base ut v) (h:DataW.Trod enc PP W 0 (fun _=>true) true ut v d ps) :
  ∃ (l:List Nd) (s:SlV),v=s.v∧Rd W 4 s (l.map Nd.C)∧(∀ a ∈ l,a.name.size < 9223372036854775808)∧(l=[] ∨ ∃ elems spare,d = .slice elems spare∧elems.length=l.length):=by
 refine slice_of xe.1 zcd Nd.len zca (fun n cs x hx=>?_) hval h
 obtain ⟨a,ha⟩ := fld_int fv_Nd_kind un_api_Kind zcd hx
 obtain ⟨b,hb,hbs⟩ := fld_str fv_Nd_name yH zcd hx
 obtain ⟨c,hc⟩ := fld_int fv_Nd_l un_int zcd hx
 obtain ⟨d,hd⟩ := fld_int fv_Nd_r un_int zcd hx
 obtain ⟨fs,fd,hu,_⟩ := fv_Nd_kind
 obtain ⟨xs,n',_,_,hl,_⟩ := DataW.trod_struct hu hx
 have hl:cs.length=4:=hl.trans zcd
 refine ⟨⟨a,b,c,d⟩,?_,by have:maxLen=9223372036854775807:=rfl; show b.size < _; omega⟩
 match cs,hl with
 | [v0,v1,v2,v3],_ =>
  simp at ha hb hc hd
  subst ha hb hc hd
  rfl
theorem bulk_one {H:Type} (d:DataW H):1 ≤ Rows.uptoBulk d:=by
 cases d with
 | lit l=>cases l <;> simp [Rows.uptoBulk]
 | nil=>simp [Rows.uptoBulk]
 | ptr d=>simp [Rows.uptoBulk]
 | slice elems spare=>simp [Rows.uptoBulk]
 | agg parts=>simp [Rows.uptoBulk]
 | iface t d=>simp [Rows.uptoBulk]
 | map entries=>simp [Rows.uptoBulk]
 | held h=>simp [Rows.uptoBulk]
theorem bulk_part {H:Type} {d:DataW H} {l:List (DataW H)} (h:d ∈ l):Rows.uptoBulk d ≤ Rows.uptoBulkAll l:=by
 induction l with
 | nil=>cases h
 | cons x r ih =>
  simp only [Rows.uptoBulkAll]
  cases List.mem_cons.1 h with
  | inl e=>subst e; omega
  | inr e=>have:=ih e; omega
theorem bulk_len {H:Type} (l:List (DataW H)):l.length ≤ Rows.uptoBulkAll l:=by
 induction l with
 | nil=>simp [Rows.uptoBulkAll]
 | cons x r ih=>have:=bulk_one x; simp only [Rows.uptoBulkAll,List.length_cons]; omega
theorem small_len {H:Type} {α:Type} {l:List α} {d:DataW H} {ds:List (DataW H)} (hk:Rows.uptoSmall H ds=true) (hd:d ∈ ds) (h:l=[] ∨ ∃ elems spare,d = .slice elems spare∧elems.length=l.length):l.length ≤ 1048576:=by
 rcases h with rfl | ⟨elems,spare,rfl,he⟩
 ·simp
 ·have h1:=bulk_part hd
  have h2:=bulk_len elems
  have h3:Rows.uptoBulkAll ds ≤ 1048576:=by simpa [Rows.uptoSmall] using hk
  simp only [Rows.uptoBulk] at h1
  omega
def Held (W:World) (Z:List OA):Prop := ∀ z ∈ Z,∃ F,z.holds W F
theorem Held.nil {W:World}:Held W []:=fun _ h=>by cases h
theorem Held.cons {W:World} {z:OA} {Z:List OA} (h : ∃ F,z.holds W F) (hz:Held W Z):Held W (z :: Z):=fun x hx=>by
 rcases List.mem_cons.1 hx with rfl | hx
 ·exact h
 ·exact hz x hx
theorem Held.s {W:World} {Z:List OA} {k:Nat} {α:Type} {C:α→List Value} {s:SlV} {l:List α} (hr:Rd W k s (l.map C)) (hl:l.length ≤ 140737488355328) (hz:Held W Z):Held W (fS k C s l :: Z) :=
 .cons ⟨s.fp,⟨hr,hl⟩,fun _=>Iff.rfl⟩ hz
theorem stheld {W:World} {Z:List OA} (h:Held W Z):St (fun _=>False) oth0 W W [] Z :=
 ⟨fun _=>False,fun _ h=>h.elim,fun _ h=>h.elim,Chg.refl _ _,trivial,fun z hz=>by
  obtain ⟨F,hF⟩ := h z hz
  exact ⟨F,hF,fun i _ q=>q.elim (fun x=>x) (fun x=>x)⟩,fun d hd=>absurd hd (by simp [oth0])⟩
theorem gEt:PP.globalNamed "errors.errorType" = some 0:=by kernel_rfl
theorem gRt:(PP.cutTypes.find? (·.1 == "internal/reflectlite.rtype")).map (·.2)=some 233:=by kernel_rfl
theorem gSize:PP.types.size=285:=by kernel_rfl
theorem gRow:((List.range 285).filter fun t=>PP.rowNamed t [101,114,114,111,114])=[170]:=by kernel_rfl
theorem gHandle:typeHandle PP 170 = .pointer (some ⟨4,170,none⟩):=by kernel_rfl
theorem et_core {W:World} (h:handlesMet PP [("errors.errorType",Rows.laid_errors_errorType)] W):Et W:=by
 obtain ⟨name,u,ty,e1,e2,e3,e4,e5⟩ := h _ (List.mem_singleton.2 rfl)
 have en:name=[101,114,114,111,114]:=(zce e1).symm
 subst en
 obtain rfl:=zce (gRt.symm.trans e2)
 have hm:ty ∈ (List.range 285).filter fun t=>PP.rowNamed t [101,114,114,111,114]:=List.mem_filter.2 ⟨List.mem_range.2 (by rw [← gSize]; exact e3),e4⟩
 rw [gRow] at hm
 obtain rfl:=List.mem_singleton.1 hm
 rw [gHandle] at e5
 intro j v hj
 cases j with
 | zero=>simp at hj; subst hj; simpa [etV] using World.var?_cell gEt e5 0
 | succ j=>simp at hj
theorem Held.et {W:World} {Z:List OA} (h:Et W) (hz:Held W Z):Held W (oEt :: Z) := .cons ⟨fun i=>i=0,h,fun _=>Iff.rfl⟩ hz
-- terms
instance:Inhabited Term:=⟨Term.z⟩
instance:Inhabited PTerm:=⟨PTerm.z⟩
theorem bulk_get {H:Type} {xs:List (DataW H × List MemPlace)} {i:Nat} {z:DataW H × List MemPlace} (h:xs[i]? = some z):Rows.uptoBulk z.1 ≤ Rows.uptoBulkAll (xs.map (·.1)) :=
 bulk_part (List.mem_map.2 ⟨z,List.mem_of_getElem? h,rfl⟩)
theorem bigA_of {w:World} {μ α:Type} {R:μ→α→OA} : ∀ {ms:List μ} {l:List α},ms.length=l.length→(∀ (i:Nat) m x,ms[i]? = some m→l[i]? = some x → ∃ F,(R m x).holds w F) → ∃ F,(bigA R ms l).holds w F
 | [],[],_,_=>⟨fun _=>False,trivial,fun _ x=>x⟩
 | m :: ms,x :: xs,hl,h=>by
  obtain ⟨F,hF⟩ := h 0 m x rfl rfl
  obtain ⟨G,hG⟩ := bigA_of (ms:=ms) (l:=xs) (by simpa using hl) fun i m x h1 h2=>h (i + 1) m x (by simpa using h1) (by simpa using h2)
  exact ⟨fun i=>F i∨G i,F,G,hF,hG,fun _=>Iff.rfl⟩
 | [],_ :: _,hl,_=>by simp at hl
 | _ :: _,[],hl,_=>by simp at hl
theorem nmL_of : ∀ {l:List PTerm},(∀ x ∈ l,nmT x)→nmL l
 | [],_=>trivial
 | x :: l,h=>⟨h x zcc,nmL_of fun y hy=>h y (by simp [hy])⟩
theorem sizeL_bulk {H:Type} : ∀ {l:List PTerm} {ds:List (DataW H)},l.length=ds.length→(∀ (i:Nat) x d,l[i]? = some x→ds[i]? = some d→sizeT x ≤ Rows.uptoBulk d)→sizeL l ≤ Rows.uptoBulkAll ds
 | [],[],_,_=>by simp [sizeL]
 | x :: l,d :: ds,hl,h=>by
  have h1:=h 0 x d rfl rfl
  have h2:=sizeL_bulk (l:=l) (ds:=ds) (by simpa using hl) fun i x d h3 h4=>h (i + 1) x d (by simpa using h3) (by simpa using h4)
  simp only [sizeL,Rows.uptoBulkAll]; omega
 | [],_ :: _,hl,_=>by simp at hl
 | _ :: _,[],hl,_=>by simp at hl
theorem term_trod {H:Type} {enc:TypeId × Value→H} {W:World} (fuel:Nat) : ∀ {cs:List Value} {x:DataW H × List MemPlace},DataW.trod enc PP W 0 (fun _=>true) true fuel zj cs=some x→Rows.uptoBulk x.1 ≤ 1048576 →
  ∃ (m:Term) (y:PTerm),cs=Term.C m∧(m.kind=y.kind∧m.name=y.name∧m.other=y.other∧m.form=y.form)∧(nmT y∧sizeT y ≤ Rows.uptoBulk x.1) ∧ ∃ F,(zau m.sub y.sub).holds W F:=by
 induction fuel using Nat.strongRecOn with
 | _ fuel ih =>
 intro cs x hx hb
 obtain ⟨k,hk⟩ := fld_int fv_Term_kind un_api_TermKind zcd hx
 obtain ⟨n,hn,hns⟩ := fld_str fv_Term_name yH zcd hx
 obtain ⟨o,ho,hos⟩ := fld_str fv_Term_other yH zcd hx
 obtain ⟨f,hf⟩ := fld_int fv_Term_form un_int zcd hx
 obtain ⟨fs,fd,hu,hi,hoff,hty⟩ := fv_Term_sub
 obtain ⟨xs,n1,hfu,hxx,hl,hlen,hall⟩ := DataW.trod_struct hu hx
 have hl:cs.length=5:=hl.trans zcd
 have h1:=hall 4 fd hi
 have h2:4 < xs.length:=by rw [hlen]; exact (Array.getElem?_eq_some_iff.1 hi).1
 rw [hoff,hty,show PP.cellsOf T_L_api_Term=1 from by kernel_rfl,List.getElem?_eq_getElem h2] at h1
 have hbx:1 + Rows.uptoBulk (xs[4]).1 ≤ Rows.uptoBulk x.1:=by
  have:=bulk_get (List.getElem?_eq_getElem h2)
  rw [hxx]
  simp only [Rows.uptoBulk]
  omega
 have hbz:Rows.uptoBulk (xs[4]).1 ≤ 1048576:=by omega
 have hmax:maxLen=9223372036854775807:=rfl
 have hcs : ∀ v4,cs[4]? = some v4→cs=[.int .i64 k,.string n,.string o,.int .i64 f,v4]:=by
  intro v4 h4
  match cs,hl with
  | [c0,c1,c2,c3,c4],_ =>
   simp at hk hn ho hf h4
   subst hk hn ho hf h4
   rfl
 rcases DataW.trod_slice zN.1 h1 with ⟨e1,e2⟩ | ⟨a,len,cap,elems,rest,n2,hfu2,e1,e2,_,hlc,hcm,hel,hget,_⟩
 ·have h4:=hcs _ (take_one e1)
  refine ⟨⟨k,n,o,f,SlV.nil⟩,.mk k n o f [],?_,⟨rfl,rfl,rfl,rfl⟩,⟨⟨by show n.size < _; omega,by show o.size < _; omega,trivial⟩,by rw [zbg]; simp only [PTerm.sub,sizeL]; omega⟩,fun _=>False,(0,[]),fun _=>False,fun _=>False,⟨⟨Sl.nil W 5,by simp⟩,fun i=>⟨fun x=>x.elim,fun x=>absurd rfl x.1⟩⟩,⟨trivial,fun _ x=>x⟩,fun _=>⟨fun x=>x.elim,fun x=>x.elim id id⟩⟩
  rw [h4,SlV.nil_eq]; rfl
 ·have h4:=hcs _ (take_one e1)
  have hbe:Rows.uptoBulkAll (elems.map (·.1)) ≤ 1048576:=by
   rw [e2] at hbz
   simp only [Rows.uptoBulk] at hbz
   omega
  have hlen2:len ≤ 1048576:=by
   have:=bulk_len (elems.map (·.1))
   rw [List.length_map,hel] at this
   omega
  have hone : ∀ i,i < len → ∃ q:Term × PTerm,(W.cells? 0 (a.add (i * PP.cellsOf zj)) (PP.cellsOf zj)=some (Term.C q.1))∧(q.1.kind=q.2.kind∧q.1.name=q.2.name∧q.1.other=q.2.other∧q.1.form=q.2.form)∧(nmT q.2 ∧ ∀ z,elems[i]? = some z→sizeT q.2 ≤ Rows.uptoBulk z.1) ∧ ∃ F,(zau q.1.sub q.2.sub).holds W F:=by
   intro i hi'
   have h5:=hget i hi'
   have h6:i < elems.length:=by omega
   rw [List.getElem?_eq_getElem h6] at h5
   cases hc:W.cells? 0 (a.add (i * PP.cellsOf zj)) (PP.cellsOf zj) with
   | none=>rw [hc] at h5; simp at h5
   | some cs' =>
    rw [hc] at h5
    simp only [Option.bind_some] at h5
    obtain ⟨m,y,rfl,hm,hy,hF⟩ := ih n2 zcb h5 (by have:=bulk_get (List.getElem?_eq_getElem h6); omega)
    exact ⟨(m,y),rfl,hm,⟨hy.1,fun z hz=>by cases (List.getElem?_eq_getElem h6).symm.trans hz; exact hy.2⟩,hF⟩
  obtain ⟨g,hg⟩ := Deep.choose_lt (α:=Term × PTerm) hone
  have hsz:PP.cellsOf zj=5:=by kernel_rfl
  refine ⟨⟨k,n,o,f,⟨some a,len,cap⟩⟩,.mk k n o f ((List.range len).map fun i=>(g i).2),?_,⟨rfl,rfl,rfl,rfl⟩,⟨⟨by show n.size < _; omega,by show o.size < _; omega,nmL_of fun y hy=>?_⟩,?_⟩,?_⟩
  ·rw [h4]; show _=[_,_,_,_,SlV.v _]; rw [SlV.eq]
  ·obtain ⟨i,hi',rfl⟩ := List.mem_map.1 hy
   exact (hg i (List.mem_range.1 hi')).2.2.1.1
  ·have hs:sizeL ((List.range len).map fun i=>(g i).2) ≤ Rows.uptoBulkAll (elems.map (·.1)):=by
    refine sizeL_bulk (by simp [hel]) fun i y d h1 h2=>?_
    have hi':i < len:=by
     refine Nat.lt_of_not_le fun q=>?_
     rw [List.getElem?_eq_none (by simpa using q)] at h1; cases h1
    rw [List.getElem?_map] at h1 h2
    rw [List.getElem?_range hi'] at h1
    simp only [Option.map_some,Option.some.injEq] at h1
    subst h1
    cases hz:elems[i]? with
    | none=>rw [hz] at h2; cases h2
    | some z=>rw [hz] at h2; cases h2; exact (hg i hi').2.2.1.2 z hz
   rw [zbg]
   have:Rows.uptoBulkAll (elems.map (·.1)) ≤ Rows.uptoBulk (xs[4]).1:=by
    rw [e2]; simp only [Rows.uptoBulk]; omega
   simp only [PTerm.sub]; omega
  ·have hsl:Sl W 5 ⟨some a,len,cap⟩ (((List.range len).map fun i=>(g i).1).map Term.C):=by
    refine ⟨by simp,?_,?_⟩
    ·intro r hr
     obtain ⟨y,_,rfl⟩ := List.mem_map.1 hr
     exact Term.len y
    ·intro i r hr
     rw [List.getElem?_map,List.getElem?_map] at hr
     have hi':i < len:=by
      refine Nat.lt_of_not_le fun q=>?_
      rw [List.getElem?_eq_none (by simpa using q)] at hr; cases hr
     rw [List.getElem?_eq_getElem (by simpa using hi')] at hr
     simp only [List.getElem_range,Option.map_some,Option.some.injEq] at hr
     subst hr
     obtain ⟨_,_,hc0⟩ := World.cells?_some (hg 0 zcb).1
     obtain ⟨ab,ao,asp⟩ := a
     have hsp:asp=none:=by
      have h7:=hc0 0 (by rw [hsz]; decide)
      simp only [Nat.zero_mul,Addr.add,if_true] at h7
      cases asp with
      | none=>rfl
      | some q =>
       unfold World.cell? at h7
       simp only [Option.isSome_some,if_true] at h7
       split at h7
       ·exact absurd h7.symm (by simp [Term.C])
       ·exact absurd h7.symm (by simp [Term.C])
     subst hsp
     obtain ⟨_,_,hc⟩ := World.cells?_some (hg i hi').1
     refine ⟨rfl,fun j v hv=>?_⟩
     have hj:j < 5:=by have:=(List.getElem?_eq_some_iff.1 hv).1; rw [Term.len] at this; exact this
     have h8:=hc j (by rw [hsz]; exact hj)
     rw [hv] at h8
     have hadd:((⟨ab,ao,none⟩ : Addr).add (i * PP.cellsOf zj)).add j=⟨ab,ao + i * 5 + j,none⟩ := by
      rw [hsz]
      unfold Addr.add
      by_cases h5:i * 5=0
      ·by_cases h6:j=0
       ·simp [h5,h6]
       ·simp [h5,h6]
      ·by_cases h6:j=0
       ·simp [h5,h6]
       ·simp [h5,h6]
     rw [hadd] at h8
     exact h8
   have hbig : ∃ F,(bigA xh ((List.range len).map fun i=>(g i).1) ((List.range len).map fun i=>(g i).2)).holds W F:=by
    refine bigA_of zcc fun i m x h1 h2=>?_
    rw [List.getElem?_map] at h1 h2
    have hi':i < len:=by
     refine Nat.lt_of_not_le fun q=>?_
     rw [List.getElem?_eq_none (by simpa using q)] at h1; cases h1
    rw [List.getElem?_range hi'] at h1 h2
    simp only [Option.map_some,Option.some.injEq] at h1 h2
    subst h1 h2
    obtain ⟨_,he,_,F,hF⟩ := hg i hi'
    have:=fTerm_mk (s:=(g i).1.sub) hF
    rw [show mT (g i).2 (g i).1.sub=(g i).1 from by rw [mT,← he.1,← he.2.1,← he.2.2.1,← he.2.2.2]] at this
    exact ⟨F,this⟩
   obtain ⟨F,hF⟩ := hbig
   exact ⟨_,fTerms_mk (F:=fun i=>((List.range len).map fun i=>(g i).1) ≠ []∧i=_) ⟨⟨hsl,by simp; omega⟩,fun _=>Iff.rfl⟩ hF⟩
theorem term_of {H:Type} {enc:TypeId × Value→H} {W:World} {v:Value} {d:DataW H} {ds:List (DataW H)} {ps:List MemPlace} {base:Nat} (hval:Value.okWide PP W .any base zj v) (h:DataW.Trod enc PP W 0 (fun _=>true) true zj v d ps) (hk:Rows.uptoSmall H ds=true) (hd:d ∈ ds) :
  ∃ (y:PTerm) (s:SlV),v = .agg (Term.C (⟨y.kind,y.name,y.other,y.form,s⟩ : Term)).toArray∧(nmT y∧sizeT y ≤ 1048576) ∧ ∃ F,(zn s y.sub).holds W F:=by
 obtain ⟨fuel,hf⟩ := h
 have hb:Rows.uptoBulk d ≤ 1048576:=by
  have h1:=bulk_part hd
  have h3:Rows.uptoBulkAll ds ≤ 1048576:=by simpa [Rows.uptoSmall] using hk
  omega
 obtain ⟨m,y,hc,he,hn,hF⟩ := term_trod fuel hf hb
 have hu : ∃ fs,PP.underlying zj=some (.struct fs):=by
  obtain ⟨fs,fd,hu,_⟩ := fv_Term_sub; exact ⟨fs,hu⟩
 obtain ⟨fs,hu⟩ := hu
 unfold Value.okWide at hval
 rw [hu] at hval
 obtain ⟨cs,rfl,_⟩ := hval
 refine ⟨y,m.sub,?_,⟨hn.1,Nat.le_trans hn.2 hb⟩,hF⟩
 have hm:m=(⟨y.kind,y.name,y.other,y.form,m.sub⟩ : Term):=by rw [← he.1,← he.2.1,← he.2.2.1,← he.2.2.2]
 rw [← hm]
 have hc':cs.toList=Term.C m:=hc
 rw [← hc']
theorem Held.f {W:World} {Z:List OA} {s:SlV} {l:List PTerm} (h : ∃ F,(zn s l).holds W F) (hz:Held W Z):Held W (zn s l :: Z) := .cons h hz
-- hypotheses
instance:Inhabited Hyp:=⟨Hyp.z⟩
theorem hyp_trod {H:Type} {enc:TypeId × Value→H} {W:World} {n:Nat} {cs:List Value} {x:DataW H × List MemPlace} (hx:DataW.trod enc PP W 0 (fun _=>true) true n xN cs=some x) : ∃ a:Hyp,cs=Hyp.C a∧True:=by
 obtain ⟨a,ha,has⟩ := fld_str fv_Hyp_name yH zcd hx
 obtain ⟨b,hb⟩ := fld_int fv_Hyp_form un_int zcd hx
 obtain ⟨fs,fd,hu,_⟩ := fv_Hyp_name
 obtain ⟨xs,n',_,_,hl,_⟩ := DataW.trod_struct hu hx
 have hl:cs.length=2:=hl.trans zcd
 refine ⟨⟨a,b⟩,?_,trivial⟩
 match cs,hl with
 | [v0,v1],_ =>
  simp at ha hb
  subst ha hb
  rfl
theorem hyps_of {H:Type} {enc:TypeId × Value→H} {W:World} {base:Nat} {v:Value} {d:DataW H} {ps:List MemPlace} (hval:Value.okWide PP W .any base uW v) (h:DataW.Trod enc PP W 0 (fun _=>true) true uW v d ps) :
  ∃ (l:List Hyp) (s:SlV),v=s.v∧Rd W 2 s (l.map Hyp.C)∧(∀ a ∈ l,True)∧(l=[] ∨ ∃ elems spare,d = .slice elems spare∧elems.length=l.length) :=
 slice_of yk.1 zcd Hyp.len zca (fun n cs x hx=>hyp_trod hx) hval h
end
section
open Gw Go.ChangeShapes Go.WideShapes Go.ChangeAt Go.RowKit
set_option maxRecDepth 100000
def tz64:List Int:=Lib.deBruijn64tab.map fun (z:Nat)=>(z:Int)
def tz32:List Int:=Lib.deBruijn32tab.map fun (z:Nat)=>(z:Int)
theorem laidMet_tail {P:Program} {w:World} {x:String × DataW Unit} {l:List (String × DataW Unit)} (h:laidMet P (x :: l) w):laidMet P l w:=by
 obtain ⟨ps,⟨g,t,cs,fuel,p,q,_,_,_,_,hv,rfl⟩,hn,hr⟩ := h
 exact ⟨q,hv,(List.nodup_append.1 hn).2.1,fun b off hp=>hr b off (List.mem_append_right _ hp)⟩
theorem post_old {H:Type} {enc:TypeId × Value→H} {P:Program} {f:Func} {s:ChangeSpec} {apart fresh handsOn again:Bool} {W W':World} {args:Array Value} {v:Value} {ds gs:List (DataW H)} {before pa pv:List MemPlace}
  (hW:DataW.Whole enc P f.params.toList s.vars apart W args.toList ds gs before)
  (hres : ∀ (b:Nat) (sp:Nat→Bool) (hd:Bool),DataW.TrodAll enc P W' b sp hd f.resultTypes.toList (v.resultList f.resultTypes.size) (s.fn H (ds ++ gs)).results [])
  (hargs : ∀ sp:Nat→Bool,(∀ p ∈ before,sp p.block=true)→DataW.TrodAll enc P W' 0 sp true f.params.toList args.toList (s.fn H (ds ++ gs)).args pa)
  (hvars : ∀ sp:Nat→Bool,(∀ p ∈ before,sp p.block=true)→DataW.TrodVars enc P W' sp s.vars (s.fn H (ds ++ gs)).vars pv)
  (hps:before=pa ++ pv) (hk:W.keptBut W' (· ∈ before)) (hfz : ∀ a,a.block < W.heap.size→W'.frozen? a=W.frozen? a)
  (hok : ∀ (j:Nat) (t:TypeId) (r:Value),f.resultTypes[j]? = some t→(v.resultList f.resultTypes.size)[j]? = some r→Value.okWide P W' .any 0 t r) :
  s.post enc P f apart fresh handsOn again W args v W':=by
 have hlt : ∀ p ∈ before,p.block < W.heap.size:=fun p hp=>hW.lt p hp
 have h0 : ∀ p ∈ before,(fun b=>decide (b < W.heap.size)) p.block=true:=fun p hp=>decide_eq_true (hlt p hp)
 have hin : ∀ p ∈ before,p ∈ pa∨p ∈ pv:=fun p hp=>List.mem_append.1 (hps ▸ hp)
 have hin' : ∀ p,p ∈ ([] ++ pa) ++ pv→p ∈ before:=fun p hp=>by rw [hps]; simpa using hp
 refine ⟨ds,gs,before,[],pa,pv,hW,hres _ _ _,hargs _ h0,hvars _ h0,World.keptBut_mono (fun p hp=>⟨hp,.inr (hin p hp)⟩) hk,fun _=>?_⟩
 obtain ⟨_,_,_,_,_,hz,hn⟩ := hW
 refine ⟨hok,_,_,([] ++ pa) ++ pv,⟨[] ++ pa,pv,trodAll_append (hargs _ fun _ _=>rfl) (hres _ _ _),hvars _ (fun _ _=>rfl),rfl,fun b off hp=>?_,fun ha=>?_⟩,fun p hp _=>hin' p hp⟩
 ·have hb:=hin' _ hp
  rw [hfz _ (hlt _ hb)]; exact hz b off hb
 ·have:=hn ha
  rw [hps] at this
  simpa using this
theorem pw_core {W:World} {rest:List (String × DataW Unit)} (h:laidMet PP (("internal/strconv.uint64pow10",Rows.laid_internal_strconv_uint64pow10) :: rest) W):Pw W :=
 Lib.tabIs_of_head (rest:=rest) gPw (t:=T_20_uint64) (e:=T_uint64) (n:=20) zcd ar_20_uint64.1 zcd zcd zcd h
theorem laid_four {W:World} (h:laidMetH PP [("math/bits.deBruijn32tab",Rows.laid_math_bits_deBruijn32tab),("math/bits.deBruijn64tab",Rows.laid_math_bits_deBruijn64tab),("internal/strconv.uint64pow10",Rows.laid_internal_strconv_uint64pow10),("errors.errorType",Rows.laid_errors_errorType)] W):Pw W∧Et W:=by
 have h':laidMet PP [("math/bits.deBruijn32tab",Rows.laid_math_bits_deBruijn32tab),("math/bits.deBruijn64tab",Rows.laid_math_bits_deBruijn64tab),("internal/strconv.uint64pow10",Rows.laid_internal_strconv_uint64pow10)] W∧handlesMet PP [("errors.errorType",Rows.laid_errors_errorType)] W:=h
 exact ⟨pw_core (laidMet_tail (laidMet_tail h'.1)),et_core h'.2⟩
theorem Held.pw {W:World} {Z:List OA} (h:Pw W) (hz:Held W Z):Held W (oPw :: Z) := .cons ⟨fun i=>i=1,⟨h,fun _=>Iff.rfl⟩⟩ hz
instance:Inhabited Ln:=⟨Ln.z⟩
instance:Inhabited ByteArray:=⟨ByteArray.empty⟩
end
section
open Gw Go.ChangeShapes Go.WideShapes Go.ChangeAt Go.RowKit
set_option maxRecDepth 100000
namespace LawHilbertHoward
theorem contract (H:Type) (enc:TypeId × Value→H) (W:World) (base:Nat) (args:Array Value) (ds gs:List (DataW H)) (before:List MemPlace)
  (hval : ∀ (j:Nat) t v,xp.params[j]? = some t→args[j]? = some v→Value.okWide PP W .any base t v)
  (hW:DataW.Whole enc PP xp.params.toList Rows.hilbertHowardSpec.vars false W args.toList ds gs before) (hL:laidMetH PP Rows.hilbertHowardUptoRow.laid W) (hsm:Rows.uptoSmall H (ds ++ gs)=true) :
  Calls PP yu args W fun e W' => ∃ v,e = .returned v∧Rows.hilbertHowardSpec.post enc PP xp false true false false W args v W':=by
 have hW':=hW
 have hlt:=hW.lt
 obtain ⟨p,q,hA0,hV,rfl,hfz,hnd⟩ := hW
 have hA:DataW.TrodAll enc PP W 0 (fun _=>true) true xp.params.toList args.toList ds p:=hA0
 have hpar:xp.params = #[ut,uW,zj,xB]:=by kernel_rfl
 rw [hpar] at hA hval
 obtain ⟨v0,v1,v2,v3,d0,d1,d2,d3,p0,p1,p2,p3,rfl,rfl,rfl,h0,h1,h2,h3⟩ := trodAll_four hA
 obtain ⟨rfl,rfl⟩ := trodVars_none hV
 obtain ⟨a0,s0,rfl,hrd0,hnm0,hsl0⟩ := nds_of (hval 0 _ _ rfl rfl) h0
 have hln0:=small_len hsm zcc hsl0
 obtain ⟨a1,s1,rfl,hrd1,hnm1,hsl1⟩ := hyps_of (hval 1 _ _ rfl rfl) h1
 have hln1:=small_len hsm zcc hsl1
 obtain ⟨a2,s2,rfl,⟨hnm2,hbg2⟩,hf2⟩ := term_of (hval 2 _ _ rfl rfl) h2 hsm zcc
 obtain ⟨a3,rfl,hr3⟩ := int_of (k := .i64) un_int (hval 3 _ _ rfl rfl)
 have S:=stheld (W:=W) (.s hrd0 zcb (.s hrd1 zcb (.f hf2 (.et (laid_four hL).2 (.pw (laid_four hL).1 .nil)))))
 refine (law16_HilbertHoward_st S (HilbertHoward_true (K:=2200000) zcb heads16b hnm0 zcb a3 hnm2 zcb zcb zcb)).mono fun e W' ⟨v,he,hv,hS⟩ => ?_
 subst hv
 have hx:=hS.frame
 refine ⟨_,he,post_old (pa:=p0 ++ p1 ++ p2 ++ p3) (pv:=[]) hW' (fun _ _ _=>trodAll_cons_mk (shut_bool un_bool _) trodAll_mk0) (fun sp hsp=>?_) (fun _ _=>rfl) zcc ((Ext.below hx).frame _) hx.froz (ok_one zcd rfl (okWide_bool_mk un_bool _))⟩
 rw [hpar]
 refine trodAll_stays (ts:=[ut,uW,zj,xB]) (fun t ht=>?_) hA (fun p hp=>(Ext.below hx).same (hlt p (by simpa using hp))) (fun p hp=>hsp p (by simpa using hp))
 simp only [List.mem_cons,List.not_mem_nil,or_false] at ht
 rcases ht with rfl | rfl | rfl | rfl <;> exact ⟨by kernel_rfl,of_decide_eq_true zcd⟩
noncomputable def laidWorld0 (os:Os):World :=
 { World.holding PP os ⟨#[],#[],[]⟩ with heap:=(World.holding PP os ⟨#[],#[],[]⟩).heap.modify 0 fun
   | .cells _ t frozen => .cells #[etV] t frozen
   | o=>o }
noncomputable def laidWorld1 (os:Os):World :=
 { laidWorld0 os with heap:=(laidWorld0 os).heap.modify 3 fun
   | .cells _ t frozen => .cells (tz64.map (Value.int .u8)).toArray t frozen
   | o=>o }
noncomputable def laidWorld2 (os:Os):World :=
 { laidWorld1 os with heap:=(laidWorld1 os).heap.modify 2 fun
   | .cells _ t frozen => .cells (tz32.map (Value.int .u8)).toArray t frozen
   | o=>o }
noncomputable def laidWorld (os:Os):World :=
 { laidWorld2 os with heap:=(laidWorld2 os).heap.modify 1 fun
   | .cells _ t frozen => .cells (Lib.pow10Tab.map (Value.int .u64)).toArray t frozen
   | o=>o }
def argsN:Array Value := #[.slice none 0 0,.slice none 0 0,.agg #[.int .i64 0,.string ByteArray.empty,.string ByteArray.empty,.int .i64 0,.slice none 0 0],.int .i64 0]
theorem laid_met (os:Os):laidMetH PP Rows.hilbertHowardUptoRow.laid ((laidWorld os).forCall (fun _ _=>0) ⟨#[],argsN,[]⟩).memory :=
 laidMetH_of_parts (laidMet_of_run' 8 zcd zcd) zcd
def ddN (H:Type):List (DataW H):=[.nil,.nil,.agg [.lit (.int .i64 0),.lit (.string []),.lit (.string []),.lit (.int .i64 0),.nil],.lit (.int .i64 0)]
theorem reads (os:Os) {H:Type} (enc:TypeId × Value→H) : ∃ places,DataW.whole enc PP ((laidWorld os).forCall (fun _ _=>0) ⟨#[],argsN,[]⟩).memory xp.params.toList Rows.hilbertHowardSpec.vars false argsN.toList 8=some (ddN H,[],places) :=
 ⟨[],by kernel_rfl⟩
theorem lifted (os:Os) (started:os.Started) (H:Type) (enc:TypeId × Value→H) (F:Stop.Interp) :
  ReturnsInHanded {} Tryz.checked os yu .any ((Rows.OpenSpec.upto Rows.hilbertHowardSpec).preRow enc PP xp Rows.hilbertHowardUptoRow.domain false Rows.hilbertHowardUptoRow.laid) (((Rows.OpenSpec.upto Rows.hilbertHowardSpec).at F).post enc PP xp false true false false):=by
 obtain ⟨places,hx⟩ := reads os enc
 refine returnsInHanded_of_row (C:=Tryz.checked) (s:=Rows.OpenSpec.upto Rows.hilbertHowardSpec) ownKnob_none started zcd vv
  (witness_row_at (enc:=enc) (C:=Tryz.checked) false (laidWorld os) argsN rfl zcd zcd zcd
   (OpenSpec.preRow_of_cond 8 hx zcd (fun k hk=>by cases hk; kernel_rfl) zcd (laid_met os))) ?_
 intro W base args ds gs before hval hW _ hcond _ hL _ _
 exact contract H enc W base args ds gs before hval hW hL (hcond _ rfl)
theorem said:Rows.HilbertHowardUptoSaid :=
 OpenClaim.holds_of_cond yu xp rfl rfl rfl rfl rfl rfl rfl ⟨rfl,rfl,rfl,rfl,rfl⟩ rfl rfl rfl rfl rfl zcd vv zcd
  (of_decide_eq_true zcd) (by unfold Func.isWrapper; first | (rw [if_pos (by decide +kernel)]; kernel_rfl) | (rw [if_neg (by decide +kernel)]; exact ⟨rfl,rfl⟩))
  (fun os started H enc _ F=>by rw [OpenClaim.pre_eq_preRow]; exact lifted os started H enc F)
theorem plain (f:FuncId) (fn:Func) (hf:Tryz.pinned.checked.prog.funcNamed "dictum/dictumlaw16.HilbertHoward" = some f) (hfn:Tryz.pinned.checked.prog.funcs[f]? = some fn) :
  true=Tryz.pinned.checked.prog.looks [] ∧ ∀ (j:Nat) t,fn.params[j]? = some t→Tryz.pinned.checked.prog.wantsStandIn t=false:=by
 obtain rfl:f=yu:=zce ((show PP.funcNamed "dictum/dictumlaw16.HilbertHoward" = some yu by kernel_rfl).symm.trans hf) |>.symm
 obtain rfl:fn=xp:=(zce (vv.symm.trans hfn)).symm
 refine ⟨by kernel_rfl,fun j t ht=>?_⟩
 rw [show xp.params = #[ut,uW,zj,xB] by kernel_rfl] at ht
 have hm:t ∈ [ut,uW,zj,xB]:=by simpa using Array.mem_of_getElem? ht
 simp only [List.mem_cons,List.not_mem_nil,or_false] at hm
 rcases hm with rfl | rfl | rfl | rfl
 ·exact (show PP.wantsStandIn ut=false by kernel_rfl)
 ·exact (show PP.wantsStandIn uW=false by kernel_rfl)
 ·exact (show PP.wantsStandIn zj=false by kernel_rfl)
 ·exact (show PP.wantsStandIn xB=false by kernel_rfl)
theorem card:Rows.HilbertHowardUptoCardSaid :=
 Claim7.holds_tied_plain_at .later [] _ _ _ _ said (fun _ h=>by cases h) zcd (fun _ h=>by cases h) hilbertHowardUpto_row_tie rfl ⟨rfl,rfl⟩ zcd rfl plain zcd
end LawHilbertHoward
end
end Go.Proofs.YtflieamjacclnaaGreatDoor
