/- Texts put together. -/
import Derived.Test.YtmggdbbmmkkplaaGreatDoorMRFrees1
import Derived.WalkKit
import Derived.LaidEql
import Derived.Stop.Asserts
import Derived.RowKitTokens
import Derived.WideLaws
import Derived.Shelf.Strconv.Itoa0
import Derived.Shelf.Strconv.Itoa1
import Derived.Shelf.LaysM
import Derived.Shelf.Strconv.Itoa2
import Derived.Shelf.Strconv.Itoa3
import Derived.Test.YtmggdbbmmkkplaaGreatDoorProg
import Derived.ControlIn
set_option linter.unusedVariables false
set_option linter.unusedSimpArgs false
namespace Go.Proofs.YtmggdbbmmkkplaaGreatDoor
section
open Go.RowKit
namespace Gw
def ws (P:Program) (rd:Option Nat) (n:Nat) (dm:List Nat) (l:List Oper) (lo:Nat) (Q:Post) (f:Fr) (w:World):Prop :=
 ∀ (a:Act) (listed:Array Bool),Is n dm a f→listed.size=l.length→Closed l.toArray listed→(∀ j,j < l.length→(listed.getD j false=true↔j < lo))→wpAnyIn (fen rd) 0 P .any l.toArray (lift n Q) (l.length - lo) listed a w
def drawS (ops:Array Oper) (m:Nat):Bool :=
 (ops.toList.take m).all (fun o=>o.dst.isSome) &&
 decide (((ops.toList.take m).filterMap (·.dst)).Nodup) &&
 ops.toList.zipIdx.all (fun q=>q.1.after.toList.all fun e => !Region.binds .any e || decide (e.on < q.2)) &&
 ops.toList.zipIdx.all (fun q=>decide (q.2 < m) || (List.range m).all fun i=>((Region.before ops).getD q.2 0).testBit i) &&
 decide (m ≤ ops.size)
def chainS (ops:Array Oper) (lo hi:Nat):Bool :=
 ops.toList.zipIdx.all (fun q=>q.1.after.toList.all fun e => !Region.binds .any e || decide (e.on < q.2)) &&
 ops.toList.zipIdx.all (fun q=>decide (q.2 < lo) || (List.range (min q.2 hi)).all fun i=>((Region.before ops).getD q.2 0).testBit i) &&
 decide (hi ≤ ops.size)
theorem cnt_pre (listed:Array Bool) (m n:Nat) (hmn:m ≤ n) (h1 : ∀ j,j < m→listed.getD j false=true) (h2 : ∀ j,m ≤ j→j < n→listed.getD j false=false):cnt listed n=m:=by
 have hz : ∀ k,m ≤ k→k ≤ n→cnt listed k=m:=by
  intro k
  induction k with
  | zero=>intro h _; rw [show m=0 by omega]; rfl
  | succ k ihk =>
   intro h3 h4
   by_cases hk:m ≤ k
   ·rw [kB,ihk hk zan,h2 k hk zan]; simp
   ·have:k + 1=m:=by omega
    rw [this]
    exact cnt_all listed m h1
 exact hz n hmn (Nat.le_refl _)
section
variable {P:Program} {rd:Option Nat} {n m:Nat} {dm:List Nat} {ops:Array Oper} {Q:Post} {f:Fr} {w:World}
theorem wc_ws {id:Nat} {l:List Oper} (hm:P.follows .mixedOrders=true) (h : ∀ w',Ext w w'→ws P rd n dm l 0 Q f w'):wc P rd n dm (.region id l.toArray true) Q f w:=by
 intro a ha
 refine wpIn_region_any hm ?_
 have:=h _ (Ext.drawn w) a (Array.replicate l.toArray.size false) ha zao (by intro j o _ h; rw [yR] at h; cases h) (by intro j _; rw [yR]; simp)
 simpa using this
theorem back_of {l:List Oper} (hback : ∀ q ∈ l.toArray.toList.zipIdx,(q.1.after.toList.all fun e => !Region.binds .any e || decide (e.on < q.2))=true):Back l.toArray:=by
 intro i o hi e he hbd
 have:=List.all_eq_true.1 (hback (o,i) (by
  rw [List.mem_zipIdx_iff_getElem?]
  simpa using hi)) e (by simpa using he)
 simp only [hbd,Bool.not_true,Bool.false_or,decide_eq_true_eq] at this
 exact this
theorem ord_of {l:List Oper} {k j:Nat} (hk:k < l.length) (h2:((Region.before l.toArray).getD k 0).testBit j=true) {listed:Array Bool} (hr:k ∈ Region.ready .any l.toArray listed) (hc:Closed l.toArray listed):listed.getD j false=true:=by
 rw [mem_ready] at hr
 obtain ⟨_,o,ho',hall⟩ := hr
 refine jf hc [] #[] rfl zao zao l.toArray.toList zao k (by simpa using hk) j ?_ ?_
 ·unfold Region.before at h2
  rw [← Array.foldl_toList] at h2
  exact h2
 ·rw [ho']
  simpa using hall
theorem zal {l:List Oper} (lo hi:Nat) (hB:chainS l.toArray lo hi=true) (hlh:lo ≤ hi) (h:wl P rd n dm l.toArray ((l.take hi).drop lo) (fun dm' e f' w'=>e = .normal∧ws P rd n dm' l hi Q f' w') f w):ws P rd n dm l lo Q f w:=by
 simp only [chainS,Bool.and_eq_true,decide_eq_true_eq] at hB
 obtain ⟨⟨hback,htail⟩,hhi⟩ := hB
 rw [List.all_eq_true] at hback htail
 simp only [List.size_toArray] at hhi
 have hb:Back l.toArray:=back_of hback
 have hord : ∀ k,lo ≤ k→k < l.length → ∀ listed:Array Bool,k ∈ Region.ready .any l.toArray listed→Closed l.toArray listed → ∀ j,j < k→j < hi→listed.getD j false=true:=by
  intro k hmk hk listed hr hc j hj hjh
  have h1:=htail (l[k],k) (by
   rw [List.mem_zipIdx_iff_getElem?]
   simp)
  simp only [Bool.or_eq_true,decide_eq_true_eq] at h1
  rcases h1 with h1 | h1
  ·omega
  ·rw [List.all_eq_true] at h1
   exact ord_of hk (h1 j (by simp; omega)) hr hc
 intro a listed ha hs hc hl
 have hR:=h a ha
 clear h
 have main : ∀ (fuel k:Nat) (listed:Array Bool) (a:Act) (w:World),lo ≤ k→k ≤ hi→listed.size=l.length→Closed l.toArray listed→(∀ j,j < l.length→(listed.getD j false=true↔j < k))→fuel + k=hi →
   wpListIn (fen rd) 0 P l.toArray (lift n (fun dm' e f' w'=>e = .normal∧ws P rd n dm' l hi Q f' w')) ((l.take hi).drop k) a w→wpAnyIn (fen rd) 0 P .any l.toArray (lift n Q) (l.length - k) listed a w:=by
  intro fuel
  induction fuel with
  | zero =>
   intro k listed a w hlk hkh hs hc hl hf h
   have:k=hi:=by omega
   subst this
   rw [List.drop_eq_nil_of_le (by simp; omega)] at h
   obtain ⟨dm',f',ha',_,hws⟩ := h
   exact hws a listed ha' hs hc hl
  | succ fuel ih =>
   intro k listed a w hlk hkh hs hc hl hf h
   have hs':listed.size=l.toArray.size:=by simpa using hs
   have hkl:k < l.length:=by omega
   have hd:(l.take hi).drop k=l[k] :: (l.take hi).drop (k + 1):=by
    rw [List.drop_eq_getElem_cons (by simp; omega)]
    simp
   rw [hd] at h
   rw [show l.length - k=(l.length - (k + 1)) + 1 by omega]
   refine ⟨fun hr=>?_,fun i hi'=>?_⟩
   ·have:=ready_nil hb hs' hr k (by simpa using hkl)
    rw [hl k hkl] at this
    omega
   ·obtain ⟨h1,h2⟩ := jo hs' hi'
    have h1':i < l.length:=by simpa using h1
    have hge:k ≤ i:=by
     refine Nat.le_of_not_lt fun hlt=>?_
     rw [(hl i h1').2 hlt] at h2
     cases h2
    have hik:i=k:=by
     by_cases hki:k < i
     ·have:=hord i zan h1' listed hi' hc k hki zan
      rw [hl k hkl] at this
      omega
     ·omega
    subst hik
    have h':=wpOp_of_wpList (i:=i) (o:=l[i]) zao h
    have hr' : ∀ e a w,lift n (fun dm' e f' w'=>e = .normal∧ws P rd n dm' l hi Q f' w') e a w→e = .normal:=by
     rintro e a w ⟨_,_,_,he,_⟩; exact he
    unfold wpOpIn at h' ⊢
    rw [show l.toArray[i]? = some l[i] by simp] at h' ⊢
    have hstep : ∀ a' w',wpListIn (fen rd) 0 P l.toArray (lift n (fun dm' e f' w'=>e = .normal∧ws P rd n dm' l hi Q f' w')) ((l.take hi).drop (i + 1)) a' w'→wpAnyIn (fen rd) 0 P .any l.toArray (lift n Q) (l.length - (i + 1)) (listed.setIfInBounds i true) a' w':=by
     intro a' w' h''
     refine ih (i + 1) _ a' w' zan zan (by simpa using hs) (hc.set hs' hi') (fun j hj=>?_) zan h''
     rw [vJ _ _ _ zan]
     by_cases hij:i=j
     ·subst hij; simp
     ·rw [if_neg hij,hl j hj]
      omega
    show if _ then _ else _
    have h':if _ then _ else _:=h'
    split at h'
    ·rename_i hw
     rw [if_pos hw]
     exact upon_mono2 hstep (fun e a w he q=>absurd (hr' e a w q) he) h'
    ·rename_i hw
     rw [if_neg hw]
     exact ⟨h'.1,hstep _ _ h'.2⟩
 exact main (hi - lo) lo listed a w (Nat.le_refl _) hlh hs hc hl zan hR
theorem ws_tail {l:List Oper} (lo:Nat) (hB:chainS l.toArray lo l.length=true) (hlo:lo ≤ l.length) (h:wl P rd n dm l.toArray (l.drop lo) Q f w):ws P rd n dm l lo Q f w:=by
 simp only [chainS,Bool.and_eq_true,decide_eq_true_eq] at hB
 obtain ⟨⟨hback,htail⟩,hhi⟩ := hB
 rw [List.all_eq_true] at hback htail
 have hb:Back l.toArray:=back_of hback
 have hord : ∀ k,lo ≤ k→k < l.toArray.size → ∀ listed:Array Bool,listed.size=l.toArray.size→k ∈ Region.ready .any l.toArray listed→Closed l.toArray listed → ∀ j,j < k→listed.getD j false=true:=by
  intro k hmk hk listed _ hr hc j hj
  have hkl:k < l.length:=by simpa using hk
  have h1:=htail (l[k],k) (by
   rw [List.mem_zipIdx_iff_getElem?]
   simp)
  simp only [Bool.or_eq_true,decide_eq_true_eq] at h1
  rcases h1 with h1 | h1
  ·omega
  ·rw [List.all_eq_true] at h1
   exact ord_of hkl (h1 j (by simp; omega)) hr hc
 intro a listed ha hs hc hl
 exact any_tail (rd:=rd) (P:=P) (m:=lo) (R:=lift n Q) hb hord (l.length - lo) lo listed a w (Nat.le_refl _) (by simpa using hs) hc (by simpa using hl) (by simp; omega) (h a ha)
theorem ws_draw {l:List Oper} (lo m:Nat) (D:Draw) (hB:drawS l.toArray m=true) (hlm:lo ≤ m)
  (hst : ∀ L i v w w',L i=true→D.Le L w w'→D.V i v w→D.V i v w') (hT:D.T (fun j=>decide (j < lo)) w) (hV0 : ∀ j o,j < lo→l[j]? = some o→D.V j (f (o.dst.getD 0)) w)
  (ho:Owes P rd n dm l.toArray ((l.take m).filterMap (·.dst)) D f (l.take m) 0)
  (hq : ∀ L g w,(∀ j,L j=decide (j < m))→D.T L w→allV D g w (l.take m) 0 (ws P rd n dm l m Q (mask ((l.take m).filterMap (·.dst)) g f) w)):ws P rd n dm l lo Q f w:=by
 intro a listed0 ha hs0 hc0 hl0
 simp only [drawS,Bool.and_eq_true,decide_eq_true_eq,List.all_eq_true] at hB
 obtain ⟨⟨⟨⟨hsome,hnd⟩,hback⟩,htail⟩,hml⟩ := hB
 simp only [List.size_toArray] at hml
 generalize hds:(l.take m).filterMap (·.dst)=ds at *
 have hb:Back l.toArray:=by
  intro i o hi e he hbd
  have:=hback (o,i) (by
   rw [List.mem_zipIdx_iff_getElem?]
   simpa using hi) e (by simpa using he)
  simp only [hbd,Bool.not_true,Bool.false_or,decide_eq_true_eq] at this
  exact this
 have hord : ∀ k,m ≤ k→k < l.toArray.size → ∀ listed:Array Bool,listed.size=l.toArray.size→k ∈ Region.ready .any l.toArray listed→Closed l.toArray listed → ∀ j,j < m→listed.getD j false=true:=by
  intro k hmk hk listed hs hr hc j hj
  have hkl:k < l.length:=by simpa using hk
  have h1:=htail (l[k],k) (by
   rw [List.mem_zipIdx_iff_getElem?]
   simp)
  simp only [Bool.or_eq_true,decide_eq_true_eq] at h1
  rcases h1 with h1 | h1
  ·omega
  ·rw [List.all_eq_true] at h1
   have h2:=h1 j (by simpa using hj)
   rw [mem_ready] at hr
   obtain ⟨_,o,ho',hall⟩ := hr
   refine jf hc [] #[] rfl zao zao l.toArray.toList zao k hk j ?_ ?_
   ·unfold Region.before at h2
    rw [← Array.foldl_toList] at h2
    exact h2
   ·rw [ho']
    simpa using hall
 have hmd : ∀ j o,(l.take m)[j]? = some o→j < m∧l.toArray[j]? = some o ∧ ∃ d,o.dst=some d∧d ∈ ds:=by
  intro j o hj
  have hjm:j < m:=by
   have:=(List.getElem?_eq_some_iff.1 hj).1
   simp at this; omega
  have hjo:l[j]? = some o:=by rw [List.getElem?_take] at hj; simpa [hjm] using hj
  have hso:=hsome o (List.mem_of_getElem? hj)
  cases hd:o.dst with
  | none=>rw [hd] at hso; simp at hso
  | some d=>exact ⟨hjm,by simpa using hjo,d,rfl,by rw [← hds]; exact List.mem_filterMap.2 ⟨o,List.mem_of_getElem? hj,hd⟩⟩
 have hinj : ∀ (i j:Nat) (oi oj:Oper) (d:Nat),(l.take m)[i]? = some oi→(l.take m)[j]? = some oj→oi.dst=some d→oj.dst=some d→i=j:=by
  have hgen : ∀ (L:List Oper),(L.filterMap (·.dst)).Nodup → ∀ (i j:Nat) (oi oj:Oper) (d:Nat),L[i]? = some oi→L[j]? = some oj→oi.dst=some d→oj.dst=some d→i=j:=by
   intro L
   induction L with
   | nil=>intro _ i j oi oj d h; simp at h
   | cons o L ih =>
    intro hn i j oi oj d hi hj hdi hdj
    have hn':(L.filterMap (·.dst)).Nodup:=by
     rw [List.filterMap_cons] at hn
     split at hn
     ·exact hn
     ·exact (List.nodup_cons.1 hn).2
    have hno : ∀ (k:Nat) (ok:Oper) (dd:Nat),L[k]? = some ok→o.dst=some dd→ok.dst ≠ some dd:=by
     intro k ok dd hk hod hkd
     rw [List.filterMap_cons,hod] at hn
     exact (List.nodup_cons.1 hn).1 (List.mem_filterMap.2 ⟨ok,List.mem_of_getElem? hk,hkd⟩)
    cases i with
    | zero =>
     cases j with
     | zero=>rfl
     | succ j=>simp at hi; subst hi; exact absurd hdj (hno j oj d (by simpa using hj) hdi)
    | succ i =>
     cases j with
     | zero=>simp at hj; subst hj; exact absurd hdi (hno i oi d (by simpa using hi) hdj)
     | succ j=>rw [ih hn' i j oi oj d (by simpa using hi) (by simpa using hj) hdi hdj]
  exact hgen _ (by rw [hds]; exact hnd)
 have main : ∀ (fuel:Nat) (listed:Array Bool) (g:Fr) (a:Act) (w:World),listed.size=l.length→fuel + cnt listed l.length=l.length→Closed l.toArray listed→(∀ j,m ≤ j→j < l.length→listed.getD j false=false) →
   Is n dm a (mask ds g f)→D.T (fun j=>listed.getD j false) w→(∀ j o,(l.take m)[j]? = some o→listed.getD j false=true→D.V j (g (o.dst.getD 0)) w)→wpAnyIn (fen rd) 0 P .any l.toArray (lift n Q) fuel listed a w:=by
  intro fuel
  induction fuel with
  | zero =>
   intro listed g a w hs hcnt hc hno ha hT hV
   have hall:=cnt_full listed l.length zan
   have hm':m=l.length:=by
    by_cases h:m < l.length
    ·have:=hno m (Nat.le_refl _) h
     rw [hall m h] at this
     cases this
    ·omega
   have hfin:=jy (l.take m) 0 (fun j o hj=>by rw [Nat.zero_add]; exact hV j o hj (hall j (by have:=(hmd j o hj).1; omega))) (hq _ g w (fun j=>by
    by_cases hj:j < l.length
    ·rw [hall j hj,decide_eq_true zan]
    ·rw [jF listed j zan,decide_eq_false zan]) hT)
   have hf0:=hfin a listed ha hs hc (fun j hj=>⟨fun _=>by omega,fun _=>hall j hj⟩)
   rw [show l.length - m=0 by omega] at hf0
   exact hf0
  | succ fuel ih =>
   intro listed g a w hs hcnt hc hno ha hT hV
   have hs':listed.size=l.toArray.size:=by simpa using hs
   refine ⟨fun hr=>?_,fun i hi=>?_⟩
   ·have hall:=ready_nil hb hs' hr
    have:=cnt_all listed l.length (fun j hj=>hall j (by simpa using hj))
    omega
   ·obtain ⟨h1,h2⟩ := jo hs' hi
    have h1':i < l.length:=by simpa using h1
    by_cases him:i < m
    ·have hio:(l.take m)[i]? = some l[i]:=by
      rw [List.getElem?_take,if_pos him]
      exact List.getElem?_eq_getElem h1'
     obtain ⟨_,hio',d,hd,hdds⟩ := hmd i _ hio
     have howe:=owes_at _ 0 ho i _ hio (fun j=>listed.getD j false) g w (by rw [Nat.zero_add]; exact h2) hT
     rw [Nat.zero_add] at howe
     have hready:=hi
     rw [mem_ready] at hready
     obtain ⟨_,o,hoo,hall⟩ := hready
     rw [hio'] at hoo
     cases hoo
     have hwl:=kL (ops:=l.toArray) (v8 l[i]) (fun j hj=>by
      unfold v8 at hj
      obtain ⟨e,he,rfl⟩ := List.mem_map.1 hj
      obtain ⟨he1,he2⟩ := List.mem_filter.1 he
      have hbd:Region.binds .any e=true:=by
       unfold Region.binds
       cases hg:e.ground <;> rw [hg] at he2 <;> simp at he2 ⊢
      have hlt:=hb i _ hio' e (by simpa using he1) hbd
      have hlst:=hall e (by simpa using he1) hbd
      have hjm:e.on < m:=by omega
      have hjo:(l.take m)[e.on]? = some l[e.on]:=by
       rw [List.getElem?_take,if_pos hjm]
       exact List.getElem?_eq_getElem zan
      have:=hV e.on _ hjo hlst
      unfold vq
      obtain ⟨_,hj2,dj,hdj,_⟩ := hmd _ _ hjo
      rw [hj2]
      simp only [zar]
      exact this) howe
     rw [hd] at hwl
     refine wpOp_of_wl hio' hwl (fun dm e f' w' q=>q.1) ?_ ha
     rintro dm' a' f' w' ha' ⟨_,rfl,hT',hL',v,rfl,hV'⟩
     have hmask:upd (mask ds g f) d v=mask ds (upd g d v) f:=by
      funext k
      by_cases hk:k=d
      ·subst hk
       rw [upd_same,yb hdds,upd_same]
      ·rw [ya _ _ _ _ hk]
       by_cases hkd:k ∈ ds
       ·rw [yb hkd,yb hkd,ya _ _ _ _ hk]
       ·rw [x7 hkd,x7 hkd]
     simp only [Option.getD_some] at ha'
     rw [hmask] at ha'
     rw [plus_set listed i zan] at hT'
     refine ih _ (upd g d v) a' w' (by simpa using hs) ?_ (hc.set hs' hi) ?_ ha' hT' ?_
     ·rw [cnt_set listed i zan h2,if_pos h1']; omega
     ·intro j hmj hjl
      rw [vJ _ _ _ zan,if_neg zan]
      exact hno j hmj hjl
     ·intro j oj hj hlj
      obtain ⟨_,_,dj,hdj,_⟩ := hmd j oj hj
      rw [vJ _ _ _ zan] at hlj
      by_cases hij:i=j
      ·subst hij
       rw [hio] at hj
       cases hj
       rw [hd]
       simp only [Option.getD_some,upd_same]
       exact hV'
      ·rw [if_neg hij] at hlj
       have hne:dj ≠ d:=fun e=>hij (hinj i j _ oj d hio hj hd (by rw [hdj,e]))
       have:=hst _ j _ _ _ hlj hL' (hV j oj hj hlj)
       rw [hdj] at this ⊢
       simp only [Option.getD_some] at this ⊢
       rw [ya _ _ _ _ hne]
       exact this
    ·have hallj:=hord i zan h1 listed hs' hi hc
     have hfin:=jy (l.take m) 0 (fun j o hj=>by rw [Nat.zero_add]; exact hV j o hj (hallj j (by have:=(hmd j o hj).1; omega))) (hq _ g w (fun j=>by
      by_cases hj:j < m
      ·rw [hallj j hj,decide_eq_true hj]
      ·rw [decide_eq_false hj]
       by_cases hjl:j < l.length
       ·exact hno j zan hjl
       ·exact jF listed j zan) hT)
     have hf0:=hfin a listed ha hs hc (fun j hj=>⟨(fun h=>by
      refine Nat.lt_of_not_le fun hij=>?_
      rw [hno j hij hj] at h
      cases h),hallj j⟩)
     have hcn:=cnt_pre listed m l.length zan hallj hno
     rw [show l.length - m=fuel + 1 by omega] at hf0
     exact hf0.2 i hi
 have h0:Is n dm a (mask ds f f):=by
  have:mask ds f f=f:=by funext k; unfold mask; cases ds.elem k <;> rfl
  rw [this]; exact ha
 have hlm':lo ≤ l.length:=by omega
 have hz:=cnt_pre listed0 lo l.length hlm' (fun j hj=>(hl0 j zan).2 hj) (fun j h1 h2=>by
  cases h:listed0.getD j false with
  | false=>rfl
  | true=>have:=(hl0 j h2).1 h; omega)
 refine main _ listed0 f a w hs0 (by rw [hz]; omega) hc0 (fun j h1 h2=>?_) h0 ?_ ?_
 ·cases h:listed0.getD j false with
  | false=>rfl
  | true=>have:=(hl0 j h2).1 h; omega
 ·have he:(fun j=>listed0.getD j false)=fun j=>decide (j < lo):=by
   funext j
   by_cases hj:j < l.length
   ·cases h:listed0.getD j false with
    | true=>rw [decide_eq_true ((hl0 j hj).1 h)]
    | false =>
     refine (decide_eq_false fun h'=>?_).symm
     rw [(hl0 j hj).2 h'] at h; cases h
   ·rw [jF _ _ zan,decide_eq_false zan]
  rw [he]; exact hT
 ·intro j o hj hlj
  obtain ⟨hjm,hjo,_⟩ := hmd j o hj
  exact hV0 j o ((hl0 j zan).1 hlj) (by simpa using hjo)
def needsS (ops:Array Oper) (lo m n:Nat) (sm:List Nat):Bool :=
 let ds:=(ops.toList.take m).filterMap (·.dst)
 sm.all (fun k=>decide (lo ≤ k) && decide (k < m)) && (ops.toList.take m).zipIdx.all fun q=>decide (q.2 < lo) || (let o:=q.1
  (o.op.operands.toList.all fun x=>match x with
   | .tmp t => !ds.elem t || (v8 o).any fun j=>(((ops[j]?).bind (·.dst)) == some t) && (sm.elem q.2 || !sm.elem j)
   | _=>true) &&
  (match o.guard with
   | none=>true
   | some (j,_)=>(v8 o).elem j && (((ops[j]?).bind (·.dst)).any fun t=>decide (t < n)) && !sm.elem j) &&
  (match o.op with | .select .. => false | _=>true) &&
  (match o.dst with | some d=>decide (d < n) | none=>false))
theorem uL {l:List Oper} {V:Veil} (lo m:Nat) (sm:List Nat) (hB:drawS l.toArray m=true) (hlm:lo ≤ m) (hN:needsS l.toArray lo m n sm=true)
  (hst : ∀ i v w w',sm.elem i=true→Ext w w'→V i v w→V i v w')
  (h:wm P l.toArray w V sm (kf l.toArray sm) ((l.take m).drop lo) lo (fun f' => ∀ g w',Ext w w'→(∀ i,sm.elem i=true→i < m→V i (g (vq l.toArray i)) w')→ws P rd n dm l m Q (mask (kf l.toArray sm) g f') w') f):ws P rd n dm l lo Q f w:=by
 obtain ⟨F0,hF0',hFK,hF'⟩ := wm_vals _ _ _ h
 simp only [needsS,Bool.and_eq_true] at hN
 obtain ⟨hsm,hN⟩ := hN
 have hB':=hB
 simp only [drawS,Bool.and_eq_true,decide_eq_true_eq,List.all_eq_true] at hB
 obtain ⟨⟨⟨⟨hsome,hnd⟩,hback⟩,htail⟩,hml⟩ := hB
 simp only [List.size_toArray] at hml
 have hlen:(l.take m).length=m:=by simp; omega
 have hlen':lo + ((l.take m).drop lo).length=m:=by rw [List.length_drop,hlen]; omega
 rw [hlen'] at hFK
 obtain ⟨F,hF0,hFm,hF,hFlo⟩ : ∃ F:Nat→Fr,F 0=f∧F m=F0 m∧(∀ (k:Nat) (o:Oper),lo ≤ k→(l.take m)[k]? = some o →
   (sm.elem k=true→(∀ g,SOp P l.toArray w o (mask (kf l.toArray sm) g (F k)) (fun w=>givs l.toArray V sm g w o) (V k))∧F (k + 1)=F k)∧(sm.elem k=false → ∃ v,SOp P l.toArray w o (F k) (fun _=>True) (fun v' _=>v'=v)∧F (k + 1)=upd (F k) (o.dst.getD 0) v)) ∧ ∀ k,k ≤ lo→F k=f:=by
  refine ⟨fun k=>if k ≤ lo then f else F0 k,by simp,?_,?_,fun k hk=>if_pos hk⟩
  ·show (if m ≤ lo then f else F0 m)=F0 m
   split
   ·rw [show m=lo by omega,hF0']
   ·rfl
  ·intro k o hlk hk
   have hk0:(if k ≤ lo then f else F0 k)=F0 k:=by
    split
    ·rw [show k=lo by omega,hF0']
    ·rfl
   have hk1:(if k + 1 ≤ lo then f else F0 (k + 1))=F0 (k + 1):=if_neg zan
   simp only [hk0,hk1]
   have:=hF' (k - lo) o (by rw [List.getElem?_drop,show lo + (k - lo)=k by omega]; exact hk)
   rw [show lo + (k - lo)=k by omega] at this
   exact this
 rw [← hFm] at hFK
 generalize hss:kf l.toArray sm=ss at *
 let U:Veil:=fun i v w=>if sm.elem i=true then V i v w else ∀ o,(l.take m)[i]? = some o→v=F (i + 1) (o.dst.getD 0)
 have hdist : ∀ (i j:Nat) (oi oj:Oper) (d:Nat),(l.take m)[i]? = some oi→(l.take m)[j]? = some oj→oi.dst=some d→oj.dst=some d→i=j:=by
  have hgen : ∀ (L:List Oper),(L.filterMap (·.dst)).Nodup → ∀ (i j:Nat) (oi oj:Oper) (d:Nat),L[i]? = some oi→L[j]? = some oj→oi.dst=some d→oj.dst=some d→i=j:=by
   intro L
   induction L with
   | nil=>intro _ i j oi oj d h; simp at h
   | cons o L ih =>
    intro hn i j oi oj d hi hj hdi hdj
    have hn':(L.filterMap (·.dst)).Nodup:=by
     rw [List.filterMap_cons] at hn
     split at hn
     ·exact hn
     ·exact (List.nodup_cons.1 hn).2
    have hno : ∀ (k:Nat) (ok:Oper) (dd:Nat),L[k]? = some ok→o.dst=some dd→ok.dst ≠ some dd:=by
     intro k ok dd hk hod hkd
     rw [List.filterMap_cons,hod] at hn
     exact (List.nodup_cons.1 hn).1 (List.mem_filterMap.2 ⟨ok,List.mem_of_getElem? hk,hkd⟩)
    cases i with
    | zero =>
     cases j with
     | zero=>rfl
     | succ j=>simp at hi; subst hi; exact absurd hdj (hno j oj d (by simpa using hj) hdi)
    | succ i =>
     cases j with
     | zero=>simp at hj; subst hj; exact absurd hdi (hno i oi d (by simpa using hi) hdj)
     | succ j=>rw [ih hn' i j oi oj d (by simpa using hi) (by simpa using hj) hdi hdj]
  exact hgen _ hnd
 have hdst : ∀ (i:Nat) (o:Oper),(l.take m)[i]? = some o → ∃ d,o.dst=some d:=by
  intro i o hi
  have:=hsome o (List.mem_of_getElem? hi)
  cases hd:o.dst with
  | none=>rw [hd] at this; simp at this
  | some d=>exact ⟨d,rfl⟩
 have hat : ∀ (i:Nat) (o:Oper),(l.take m)[i]? = some o→i < m∧l.toArray[i]? = some o:=by
  intro i o hi
  have him:i < m:=by have:=(List.getElem?_eq_some_iff.1 hi).1; omega
  exact ⟨him,by rw [List.getElem?_take,if_pos him] at hi; simpa using hi⟩
 have hsmd : ∀ k ∈ sm,∃ o,(l.take m)[k]? = some o∧o.dst=some (vq l.toArray k):=by
  intro k hk
  have hkm:k < m:=by have:=List.all_eq_true.1 hsm k hk; simp only [Bool.and_eq_true,decide_eq_true_eq] at this; omega
  have hkl:k < (l.take m).length:=by omega
  obtain ⟨d,hd⟩ := hdst k _ (List.getElem?_eq_getElem hkl)
  refine ⟨_,List.getElem?_eq_getElem hkl,?_⟩
  have:=(hat k _ (List.getElem?_eq_getElem hkl)).2
  unfold vq
  rw [this,zar,hd]; rfl
 -- one step of the run keeps the slots of other operations
 have hstep : ∀ (k:Nat) (o:Oper) (d:Nat),(l.take m)[k]? = some o→(∀ dk,o.dst=some dk→d ≠ dk)→F (k + 1) d=F k d:=by
  intro k o d hk hne
  obtain ⟨dk,hdk⟩ := hdst k o hk
  by_cases hlk:k < lo
  ·rw [hFlo (k + 1) zan,hFlo k zan]
  replace hlk:lo ≤ k:=by omega
  cases hs:sm.elem k with
  | true=>rw [((hF k o hlk hk).1 hs).2]
  | false =>
   obtain ⟨v,_,hFk⟩ := (hF k o hlk hk).2 hs
   rw [hFk,hdk]
   exact ya _ _ _ _ (hne dk hdk)
 have hkeep : ∀ (k i:Nat) (o:Oper) (d:Nat),(l.take m)[i]? = some o→o.dst=some d→i < k→k ≤ m→F k d=F (i + 1) d:=by
  intro k
  induction k with
  | zero=>intro i o d _ _ h; omega
  | succ k ih =>
   intro i o d hi hd hik hkm
   by_cases hik':i=k
   ·subst hik'; rfl
   ·have hkl:k < (l.take m).length:=by omega
    rw [hstep k _ d (List.getElem?_eq_getElem hkl) (fun dk hdk e=>by subst e; exact hik' (hdist i k o _ d hi (List.getElem?_eq_getElem hkl) hd hdk))]
    exact ih i o d hi hd zan zan
 have hout : ∀ (k d:Nat),k ≤ m→d ∉ (l.take m).filterMap (·.dst)→F k d=f d:=by
  intro k
  induction k with
  | zero=>intro d _ _; rw [hF0]
  | succ k ih =>
   intro d hkm hd
   have hkl:k < (l.take m).length:=by omega
   rw [hstep k _ d (List.getElem?_eq_getElem hkl) (fun dk hdk e=>by subst e; exact hd (List.mem_filterMap.2 ⟨_,List.getElem_mem hkl,hdk⟩))]
   exact ih d zan hd
 have hssd : ∀ (j:Nat) (oj:Oper) (t:Nat),(l.take m)[j]? = some oj→oj.dst=some t→(t ∈ ss ↔ ∃ k,sm.elem k=true∧vq l.toArray k=t):=by
  intro j oj t _ _
  rw [← hss]
  unfold kf
  simp
 -- in the frame of a run,a slot that an operation of V's makes is g's; a quiet one's is the run's
 have hslot : ∀ (i:Nat) (o:Oper) (g:Fr) (w':World),(l.take m)[i]? = some o→(∀ j ∈ v8 o,U j (g (vq l.toArray j)) w') → ∀ (j:Nat) (oj:Oper) (t:Nat),j ∈ v8 o→l.toArray[j]? = some oj→oj.dst=some t →
   (sm.elem j=false→mask ((l.take m).filterMap (·.dst)) g f t=F i t)∧mask ((l.take m).filterMap (·.dst)) g f t=g t∧j < i:=by
  intro i o g w' hi hneed j oj t hj hoj hdj
  have hji:j < i:=by
   unfold v8 at hj
   obtain ⟨e,he,rfl⟩ := List.mem_map.1 hj
   obtain ⟨he1,he2⟩ := List.mem_filter.1 he
   have hbd:Region.binds .any e=true:=by
    unfold Region.binds
    cases hg:e.ground <;> rw [hg] at he2 <;> simp at he2 ⊢
   have:=hback (o,i) (by rw [List.mem_zipIdx_iff_getElem?]; simpa using (hat i o hi).2) e (by simpa using he1)
   simp only [hbd,Bool.not_true,Bool.false_or,decide_eq_true_eq] at this
   exact this
  have him:=(hat i o hi).1
  have hjm:(l.take m)[j]? = some oj:=by
   rw [List.getElem?_take,if_pos zan]
   simpa using hoj
  have ht:t ∈ (l.take m).filterMap (·.dst):=List.mem_filterMap.2 ⟨oj,List.mem_of_getElem? hjm,hdj⟩
  have hda:vq l.toArray j=t:=by simp [vq,hoj,hdj]
  refine ⟨fun hs=>?_,yb ht,hji⟩
  rw [yb ht,hkeep i j oj t hjm hdj hji zan]
  have:=hneed j hj
  simp only [U,hs,Bool.false_eq_true,if_false] at this
  have:=this oj hjm
  rw [hda,hdj] at this
  exact this
 have hsmlo : ∀ k,k < lo→sm.elem k=false:=fun k hk=>by
  cases h:sm.elem k with
  | false=>rfl
  | true =>
   have:=List.all_eq_true.1 hsm k (by simpa using h)
   simp only [Bool.and_eq_true,decide_eq_true_eq] at this
   omega
 refine ws_draw lo m ⟨fun L w'=>Ext w w' ∧ ∀ i,i < lo→L i=true,fun _=>Ext,U⟩ hB' hlm (fun L i v w1 w2 _ hl hv=>?_) ⟨Ext.refl w,fun i hi=>by simpa using hi⟩ (fun j o hj ho=>?_) ?_ ?_
 ·simp only [U] at hv ⊢
  split
  ·rename_i hs; rw [if_pos hs] at hv; exact hst i v w1 w2 hs hl hv
  ·rename_i hs; rw [if_neg hs] at hv; exact hv
 ·simp only [U,hsmlo j hj,Bool.false_eq_true,if_false]
  intro o' ho'
  rw [hFlo (j + 1) zan]
  have:=(hat j o' ho').2
  rw [List.getElem?_toArray] at this
  rw [ho] at this; cases this; rfl
 ·-- each operation
  have howe : ∀ (L:List Oper) (k:Nat),(∀ j o,L[j]? = some o→(l.take m)[k + j]? = some o)→Owes P rd n dm l.toArray ((l.take m).filterMap (·.dst)) ⟨fun L w'=>Ext w w' ∧ ∀ i,i < lo→L i=true,fun _=>Ext,U⟩ f L k:=by
   intro L
   induction L with
   | nil=>intro k _; trivial
   | cons o L ih =>
    intro k hL
    refine ⟨?_,ih (k + 1) (fun j o' hj=>by
     have:=hL (j + 1) o' (by simpa using hj)
     rwa [show k + (j + 1)=k + 1 + j by omega] at this)⟩
    have hk:(l.take m)[k]? = some o:=hL 0 o rfl
    obtain ⟨hkm,hko⟩ := hat k o hk
    obtain ⟨d,hd⟩ := hdst k o hk
    intro Ls g w1 hLi hTw
    have hlk:lo ≤ k:=by
     refine Nat.le_of_not_lt fun h=>?_
     rw [hTw.2 k h] at hLi; cases hLi
    refine (show ∀ (p:Prop),((∀ j ∈ v8 o,U j (g (vq l.toArray j)) w1)→p)→givens l.toArray ⟨fun L w'=>Ext w w' ∧ ∀ i,i < lo→L i=true,fun _=>Ext,U⟩ g w1 (v8 o) p from ?_) _ ?_
    ·intro p
     generalize v8 o=nl
     induction nl with
     | nil=>intro hp; exact hp zao
     | cons j nl ihn =>
      intro hp hj
      exact ihn (fun h'=>hp (fun j' hj'=>by
       rcases List.mem_cons.1 hj' with rfl | hj'
       ·exact hj
       ·exact h' j' hj'))
    intro hneed
    have hNo:=List.all_eq_true.1 hN (o,k) (by rw [List.mem_zipIdx_iff_getElem?]; simpa using hk)
    simp only [Bool.or_eq_true,decide_eq_true_eq] at hNo
    replace hNo:=hNo.resolve_left zan
    simp only [Bool.and_eq_true] at hNo
    obtain ⟨⟨⟨hops,hgd⟩,hsel⟩,hdn⟩ := hNo
    rw [hd] at hdn
    simp only [decide_eq_true_eq] at hdn
    have hsel' : ∀ cs b,o.op ≠ .select cs b:=by
     intro cs b e
     rw [e] at hsel
     cases hsel
    have hsl:=hslot k o g w1 hk hneed
    -- the frame that the proof of this operation has seen
    have hfr : ∀ fr:Fr,(fr=F k∧sm.elem k=false∨fr=mask ss g (F k)∧sm.elem k=true) → ∀ x ∈ o.op.operands,evF fr x=evF (mask ((l.take m).filterMap (·.dst)) g f) x:=by
     intro fr hfr x hx
     cases x with
     | tmp t =>
      have h0:=List.all_eq_true.1 hops (.tmp t) (by simpa using hx)
      simp only [Bool.or_eq_true] at h0
      show fr t=mask _ g f t
      by_cases ht:t ∈ (l.take m).filterMap (·.dst)
      ·rcases h0 with h1 | h1
       ·simp at h1
        obtain ⟨x,hx1,hx2⟩ := List.mem_filterMap.1 ht
        exact absurd hx2 (h1 x hx1)
       ·obtain ⟨j,hj,hjt⟩ := List.any_eq_true.1 h1
        simp only [Bool.and_eq_true,beq_iff_eq] at hjt
        obtain ⟨hjt,hjq⟩ := hjt
        cases hoj:l.toArray[j]? with
        | none=>rw [hoj] at hjt; simp at hjt
        | some oj =>
         rw [hoj] at hjt
         have hdj:oj.dst=some t:=by simpa using hjt
         obtain ⟨q1,q2,q3⟩ := hsl j oj t hj hoj hdj
         rcases hfr with ⟨rfl,hs⟩ | ⟨rfl,hs⟩
         ·rw [hs] at hjq
          simp only [Bool.false_or,Bool.not_eq_true'] at hjq
          exact (q1 hjq).symm
         ·have hda:vq l.toArray j=t:=by simp [vq,hoj,hdj]
          by_cases hjs:sm.elem j=true
          ·rw [q2]
           refine yb ?_
           rw [← hss]; unfold kf
           exact List.mem_map.2 ⟨j,by simpa using hjs,hda⟩
          ·have hjs':sm.elem j=false:=by simpa using hjs
           rw [q1 hjs']
           refine x7 ?_
           rw [← hss]; unfold kf
           intro hmem
           obtain ⟨k',hk',hdk'⟩ := List.mem_map.1 hmem
           have hjm:(l.take m)[j]? = some oj:=by
            rw [List.getElem?_take,if_pos zan]
            simpa using hoj
           obtain ⟨ok,hok,hdk⟩ := hsmd k' hk'
           rw [hdk'] at hdk
           have:=hdist k' j ok oj t hok hjm hdk hdj
           subst this
           rw [show sm.elem k'=true by simpa using hk'] at hjs'
           cases hjs' 
      ·rw [x7 ht]
       rcases hfr with ⟨rfl,hs⟩ | ⟨rfl,hs⟩
       ·exact hout k t zan ht
       ·rw [x7,hout k t zan ht]
        rw [← hss]; unfold kf
        intro hmem
        obtain ⟨k',hk',hdk'⟩ := List.mem_map.1 hmem
        obtain ⟨ok,hok,hdk⟩ := hsmd k' hk'
        rw [hdk'] at hdk
        exact ht (List.mem_filterMap.2 ⟨ok,List.mem_of_getElem? hok,hdk⟩)
     | _=>rfl
    -- the operation,on the frame at hand
    have hgiv:givs l.toArray V sm g w1 o:=fun j hj hs=>by
     have:=hneed j hj
     simp only [U,hs,if_true] at this
     exact this
    obtain ⟨fr,H,R,hso,hfrx,hH,hR⟩ : ∃ (fr:Fr) (H:World→Prop) (R:Value→World→Prop),SOp P l.toArray w o fr H R∧(fr=F k∧sm.elem k=false∨fr=mask ss g (F k)∧sm.elem k=true)∧H w1∧(∀ v w',R v w'→U k v w'):=by
     cases hs:sm.elem k with
     | true=>exact ⟨_,_,_,((hF k o hlk hk).1 hs).1 g,.inr ⟨rfl,rfl⟩,hgiv,fun v w' hv=>by simp only [U,hs,if_true]; exact hv⟩
     | false =>
      obtain ⟨v,hv,hFk⟩ := (hF k o hlk hk).2 hs
      refine ⟨_,_,_,hv,.inl ⟨rfl,rfl⟩,trivial,fun v' w' e=>?_⟩
      simp only [U,hs,Bool.false_eq_true,if_false]
      intro o' ho'
      rw [hk] at ho'
      cases ho'
      rw [hFk,e,upd_same]
    have hoper:=hfr fr hfrx
    have hfin : ∀ v w',Ext w1 w'→R v w'→obPost dm ⟨fun L w'=>Ext w w' ∧ ∀ i,i < lo→L i=true,fun _=>Ext,U⟩ Ls k (o.dst.getD 0) (mask ((l.take m).filterMap (·.dst)) g f) w1 dm .normal (upd (mask ((l.take m).filterMap (·.dst)) g f) (o.dst.getD 0) v) w' :=
     fun v w' hx hv=>ob (D:=⟨fun L w'=>Ext w w' ∧ ∀ i,i < lo→L i=true,fun _=>Ext,U⟩) ⟨hTw.1.trans hx,fun i hi=>by unfold plus; rw [hTw.2 i hi]; simp⟩ hx (hR v w' hv)
    obtain ⟨od,oop,oty,opos,oaf,ogd⟩ := o
    simp only at hd
    subst hd
    simp only [Option.getD_some] at hfin
    intro a ha
    cases ogd with
    | none =>
     have q:=srun_congr hsel' hoper (show SRun P w _ fr H R from hso)
     refine wpListIn_plain rfl fun K' hK=>?_
     refine wl_of_srun q hTw.1 hH ha _ _ fun v w' hx hv=>hK _ _ ?_
     exact ⟨_,_,ha.put hdn v,hfin v w' hx hv⟩
    | some gp =>
     obtain ⟨j,pol⟩ := gp
     obtain ⟨c,t,ht,hjs,hqy,hqn⟩ := hso
     simp only [Bool.and_eq_true,Bool.not_eq_true'] at hgd
     obtain ⟨⟨hjn,hjd⟩,hjq⟩ := hgd
     cases hoj:l.toArray[j]? with
     | none=>rw [hoj] at hjs; simp at hjs
     | some oj =>
      rw [hoj] at hjd
      simp only [zar,Option.any_eq_true] at hjd
      obtain ⟨dj,hdj,hdjn⟩ := hjd
      obtain ⟨q1,q2,q3⟩ := hsl j oj dj (by simpa using hjn) hoj hdj
      have hda:vq l.toArray j=dj:=by simp [vq,hoj,hdj]
      have hfd:fr dj=mask ((l.take m).filterMap (·.dst)) g f dj:=by
       rcases hfrx with ⟨rfl,_⟩ | ⟨rfl,_⟩
       ·exact (q1 hjq).symm
       ·rw [q1 hjq]
        refine x7 ?_
        rw [← hss]; unfold kf
        intro hmem
        obtain ⟨k',hk',hdk'⟩ := List.mem_map.1 hmem
        obtain ⟨ok,hok,hdk⟩ := hsmd k' hk'
        rw [hdk'] at hdk
        have hjm:(l.take m)[j]? = some oj:=by
         rw [List.getElem?_take,if_pos zan]
         simpa using hoj
        have:=hdist k' j ok oj dj hok hjm hdk hdj
        subst this
        rw [show sm.elem k'=true by simpa using hk'] at hjq
        cases hjq
      rw [hda,hfd] at ht
      refine wpListIn_step fun K' hK=>?_
      rw [km ha rfl hoj hdj ht (by simpa using hdjn)]
      cases hc:(c && (t == pol)) with
      | true =>
       rw [if_pos rfl]
       have q:=srun_congr hsel' hoper (hqy hc)
       refine wl_of_srun q hTw.1 hH ha _ _ fun v w' hx hv=>hK _ _ ?_
       exact ⟨_,_,ha.put hdn v,hfin v w' hx hv⟩
      | false =>
       rw [if_neg zao]
       have:=hfin undef w1 (Ext.refl w1) (hqn hc w1)
       exact ⟨fun _ _=>trivial,hK _ _ ⟨_,_,ha.put hdn undef,this⟩⟩
  exact howe _ 0 (fun j o hj=>by rw [Nat.zero_add]; exact hj)
 ·-- the tail
  intro Ls g w1 _ hTw
  have hall : ∀ (L:List Oper) (k:Nat) (p:Prop),((∀ j o,L[j]? = some o→U (k + j) (g (o.dst.getD 0)) w1)→p)→allV ⟨fun L w'=>Ext w w' ∧ ∀ i,i < lo→L i=true,fun _=>Ext,U⟩ g w1 L k p:=by
   intro L
   induction L with
   | nil=>intro k p hp; exact hp (by intro j o h; simp at h)
   | cons o L ih =>
    intro k p hp hv
    refine ih (k + 1) p fun h'=>hp fun j o' hj=>?_
    cases j with
    | zero=>simp at hj; subst hj; exact hv
    | succ j =>
     have:=h' j o' (by simpa using hj)
     rwa [show k + 1 + j=k + (j + 1) by omega] at this
  refine hall _ 0 _ fun hv=>?_
  have heq:mask ((l.take m).filterMap (·.dst)) g f=mask ss g (F m):=by
   funext t
   by_cases ht:t ∈ (l.take m).filterMap (·.dst)
   ·rw [yb ht]
    obtain ⟨o,ho,hd⟩ := List.mem_filterMap.1 ht
    obtain ⟨i,hi⟩ := List.getElem?_of_mem ho
    have hiv:=hv i o hi
    rw [Nat.zero_add,hd] at hiv
    simp only [Option.getD_some] at hiv
    cases hs:sm.elem i with
    | true =>
     refine (yb ?_).symm
     rw [← hss]; unfold kf
     refine List.mem_map.2 ⟨i,by simpa using hs,?_⟩
     unfold vq
     rw [(hat i o hi).2,zar,hd]; rfl
    | false =>
     simp only [U,hs,Bool.false_eq_true,if_false] at hiv
     have:=hiv o hi
     rw [hd] at this
     simp only [Option.getD_some] at this
     rw [this,x7,← hkeep m i o t hi hd (hat i o hi).1 (Nat.le_refl _)]
     rw [← hss]; unfold kf
     intro hmem
     obtain ⟨k',hk',hdk'⟩ := List.mem_map.1 hmem
     obtain ⟨ok,hok,hdk⟩ := hsmd k' hk'
     rw [hdk'] at hdk
     have:=hdist k' i ok o t hok hi hdk hd
     subst this
     rw [show sm.elem k'=true by simpa using hk'] at hs
     cases hs
   ·rw [x7 ht,x7,hout m t (Nat.le_refl _) ht]
    rw [← hss]; unfold kf
    intro hmem
    obtain ⟨k',hk',hdk'⟩ := List.mem_map.1 hmem
    obtain ⟨ok,hok,hdk⟩ := hsmd k' hk'
    rw [hdk'] at hdk
    exact ht (List.mem_filterMap.2 ⟨ok,List.mem_of_getElem? hok,hdk⟩)
  rw [heq]
  refine hFK g w1 hTw.1 fun i hs him=>?_
  obtain ⟨o,ho,hd⟩ := hsmd i (by simpa using hs)
  have:=hv i o ho
  rw [Nat.zero_add,hd] at this
  simp only [Option.getD_some,U,hs,if_true] at this
  exact this
end
end Gw
end
section
open Go.RowKit
namespace Gw
section
variable {A:Nat→Prop} {N:Oth} {w0 w w':World} {L Z:List OA}
end
section
variable {P:Program} {n:Nat} {dm:List Nat} {Q:Post} {f:Fr} {w:World}
end
section
variable {P:Program} {g:FuncId} {args:Array Value} {A:Nat→Prop} {N:Oth} {w:World} {L Z:List OA}
theorem calls_mono {R R':Value→World→Prop} (h:Calls P g args w fun e w' => ∃ v,e = .returned v∧R v w') (hR : ∀ v w',R v w'→R' v w'):Calls P g args w fun e w' => ∃ v,e = .returned v∧R' v w' :=
 CallsIn.mono (F:=fen none) (n:=0) (callsIn_wide.2 h) (by rintro e w' ⟨v,rfl,hv⟩; exact ⟨v,rfl,hR v w' hv⟩) |> callsIn_wide.1
theorem toSt {v0:Value} (h:Calls P g args w fun e w' => ∃ v,e = .returned v∧(v=v0∧Ext w w')) (S:St A N w w L Z):Calls P g args w fun e w' => ∃ v,e = .returned v∧(v=v0∧St A N w w' L []) :=
 calls_mono h fun _ _ h=>⟨h.1,(S.ext h.2).pickZ zao⟩
end
end Gw
end
section
open Gw Go.RowKit
abbrev Tb:=Option (List Nd)
def oT (a:Option Addr) (t:Tb):OA where
 holds:=fun w F=>match t with
  | none=>(a=none ∧ ∀ i,¬ F i) ∨ ∃ p,a=some ⟨p,0,none⟩ ∧ Blk w p ui (Tab.C Tab.z) ∧ ∀ i,F i↔i=p
  | some N => ∃ p,a=some ⟨p,0,none⟩ ∧ TabAt w p N F∧N.length ≤ 1024
 loc:=fun {S w w' F} h hc hs=>by
  cases t with
  | none =>
   rcases h with h | ⟨p,h1,h2,h3⟩
   ·exact .inl h
   ·exact .inr ⟨p,h1,h2.chg hc (hs p ((h3 p).2 rfl)),h3⟩
  | some N=>obtain ⟨p,h1,h2,h3⟩ := h; exact ⟨p,h1,h2.keep hc hs,h3⟩
 lt:=fun {w F} h i hi=>by
  cases t with
  | none =>
   rcases h with h | ⟨p,h1,h2,h3⟩
   ·exact absurd hi (h.2 i)
   ·rw [(h3 i).1 hi]; exact h2.lt
  | some N=>obtain ⟨p,h1,h2,h3⟩ := h; exact h2.lt i hi
theorem oT.nil (w:World):(oT none none).holds w (fun _=>False) := .inl ⟨rfl,fun _ x=>x⟩
theorem oT.dead {w:World} {a:Option Addr} {F:Nat→Prop} (h:(oT a none).holds w F):Dead w a:=by
 rcases h with h | ⟨p,h1,h2,_⟩
 ·exact .inl h.1
 ·exact .inr ⟨p,h1,h2⟩
def oR (a:Option Addr) (t:Tb):OA where
 holds:=fun w F=>match t with
  | none=>a=none ∧ ∀ i,¬ F i
  | some N => ∃ p s,a=some ⟨p,0,none⟩ ∧ Blk w p T_RTab (RTab.C ⟨s⟩)∧Own w 0 T_Nd 4 s (N.map Nd.C)∧N.length ≤ 140737488355328∧¬ s.fp p ∧ ∀ i,F i↔(i=p∨s.fp i)
 loc:=fun {S w w' F} h hc hs=>by
  cases t with
  | none=>exact h
  | some N =>
   obtain ⟨p,s,h1,h2,h3,h4,h5,h6⟩ := h
   exact ⟨p,s,h1,h2.chg hc (hs p ((h6 p).2 (.inl rfl))),h3.keep hc (fun i hi=>hs i ((h6 i).2 (.inr hi))),h4,h5,h6⟩
 lt:=fun {w F} h i hi=>by
  cases t with
  | none=>exact absurd hi (h.2 i)
  | some N =>
   obtain ⟨p,s,h1,h2,h3,h4,h5,h6⟩ := h
   rcases (h6 i).1 hi with rfl | hi
   ·exact h2.lt
   ·exact h3.lt i hi
theorem oR.nil (w:World):(oR none none).holds w (fun _=>False):=⟨rfl,fun _ x=>x⟩
section
variable {A:Nat→Prop} {N:Oth} {w0 w w':World} {L Z:List OA}
theorem Gw.St.openR (h:St A N w0 w L Z) (k:Nat) {a:Option Addr} {t:Tb} {L':List OA} (ht:t.isSome=true) (e:L[k]? = some (oR a t):=by rfl) (e':L.eraseIdx k=L':=by rfl) : ∃ p s,a=some ⟨p,0,none⟩ ∧ St A N w0 w (oB p T_RTab (RTab.C ⟨s⟩) :: oS T_Nd 4 Nd.C s (t.getD []) :: L') Z:=by
 subst e'
 obtain ⟨M,rfl⟩ := Option.isSome_iff_exists.1 ht
 obtain ⟨U,hU,hN,hA,hL,hZ,hW⟩ := h
 obtain ⟨F,⟨p,s,h1,h2,h3,h4,h5,h6⟩,hF,hR⟩ := hL.front k e
 refine ⟨p,s,h1,U,hU,hN,hA,⟨fun i=>i=p,⟨h2,fun _=>Iff.rfl⟩,fun i hi=>hF i ((h6 i).2 (.inl hi)),s.fp,⟨⟨h3,h4⟩,fun _=>Iff.rfl⟩,fun i hi=>⟨hF i ((h6 i).2 (.inr hi)),fun q=>h5 (q ▸ hi)⟩,?_⟩,hZ,hW⟩
 exact hR.mono fun i hi=>⟨⟨hi.1,fun q=>hi.2 ((h6 i).2 (.inl q))⟩,fun q=>hi.2 ((h6 i).2 (.inr q))⟩
theorem Gw.St.shutR {p:Nat} {s:SlV} {M:List Nd} (h:St A N w0 w (oB p T_RTab (RTab.C ⟨s⟩) :: oS T_Nd 4 Nd.C s M :: L) Z) {a:Option Addr} (ha:a=some ⟨p,0,none⟩):St A N w0 w (oR a (some M) :: L) Z:=by
 obtain ⟨U,hU,hN,hA,⟨F,h1,hF,G,h2,hG,hR⟩,hZ,hW⟩ := h
 refine ⟨U,hU,hN,hA,⟨fun i=>F i∨G i,⟨p,s,ha,h1.1,h2.1.1,h2.1.2,fun q=>(hG p ((h2.2 p).2 q)).2 ((h1.2 p).2 rfl),fun i=>or_congr (h1.2 i) (h2.2 i)⟩,fun i hi=>hi.elim (hF i) (fun q=>(hG i q).1),?_⟩,hZ,hW⟩
 exact hR.mono fun i hi=>⟨hi.1.1,fun q=>q.elim hi.1.2 hi.2⟩
theorem Gw.St.seeR (h:St A N w0 w L Z) (k:Nat) {a:Option Addr} {t:Tb} (ht:t.isSome=true) (e:Z[k]? = some (oR a t):=by rfl) : ∃ p s,a=some ⟨p,0,none⟩ ∧ St A N w0 w L (oB p T_RTab (RTab.C ⟨s⟩) :: fS 4 Nd.C s (t.getD []) :: Z):=by
 obtain ⟨M,rfl⟩ := Option.isSome_iff_exists.1 ht
 obtain ⟨F,p,s,h1,_⟩ := h.frz k e
 have key : ∀ F,(oR a (some M)).holds w F → ∃ p' s',a=some ⟨p',0,none⟩ ∧ Blk w p' T_RTab (RTab.C ⟨s'⟩)∧Own w 0 T_Nd 4 s' (M.map Nd.C)∧M.length ≤ 140737488355328∧F p' ∧ ∀ i,s'.fp i→F i:=by
  rintro F ⟨p,s,h1,h2,h3,h4,h5,h6⟩
  exact ⟨p,s,h1,h2,h3,h4,(h6 p).2 (.inl rfl),fun i hi=>(h6 i).2 (.inr hi)⟩
 obtain ⟨U,hU,hN,hA,hL,hZ,hW⟩ := h
 obtain ⟨F,hF,hFU⟩ := hZ _ (List.mem_of_getElem? e)
 obtain ⟨p',s',e1,e2,e3,e4,e5,e6⟩ := key F hF
 refine ⟨p',s',e1,U,hU,hN,hA,hL,fun z hz=>?_,hW⟩
 rcases List.mem_cons.1 hz with rfl | hz
 ·exact ⟨fun i=>i=p',⟨e2,fun _=>Iff.rfl⟩,fun i hi=>by rw [hi]; exact hFU p' e5⟩
 rcases List.mem_cons.1 hz with rfl | hz
 ·exact ⟨s'.fp,⟨⟨e3.toRd,e4⟩,fun _=>Iff.rfl⟩,fun i hi=>hFU i (e6 i hi)⟩
 ·exact hZ z hz
theorem oR.len {a:Option Addr} {t:Tb} {w:World} {F:Nat→Prop} (h:(oR a t).holds w F):(t.getD []).length ≤ 140737488355328:=by
 cases t with
 | none=>simp
 | some M=>obtain ⟨p,s,_,_,_,h4,_⟩ := h; exact h4
theorem Gw.St.lenRZ (h:St A N w0 w L Z) (k:Nat) {a:Option Addr} {t:Tb} (e:Z[k]? = some (oR a t):=by rfl):(t.getD []).length ≤ 140737488355328:=(h.frz k e).elim fun _ h=>oR.len h
end
section
variable {A:Nat→Prop} {N:Oth} {w:World}
def zas.f (t:Tb) (i:Int):Option (Nd × Bool):=t.map fun N=>nodeS N i
theorem jw {a:Option Addr} {t:Tb} {i:Int} (S:St A N w w [] [oT a t]) {r:Nd × Bool} (H:zas.f t i=some r):Calls PP ue #[.pointer a,.int .i64 i] w <| Rt fun v w'=>(v = .tuple #[.agg (Nd.C r.1).toArray,.bool r.2]∧St A N w w' [] []):=by
 cases t with
 | none=>cases H
 | some M =>
  cases H
  obtain ⟨F,p,rfl,T,hN⟩ := S.frz 0 rfl
  exact toSt (formula_Table_Node_ok w i T) S
def zat.f (t:Tb):Option Int:=t.map fun N=>(N.length:Int)
theorem formula_Table_Len_st {a:Option Addr} {t:Tb} (S:St A N w w [] [oT a t]) {r:Int} (H:zat.f t=some r):Calls PP uA #[.pointer a] w <| Rt fun v w'=>(v = .int .i64 r∧St A N w w' [] []):=by
 cases t with
 | none=>cases H
 | some M =>
  cases H
  obtain ⟨F,p,rfl,T,hN⟩ := S.frz 0 rfl
  exact toSt (formula_Table_Len_ok w T) S
theorem mutT {P:Program} {g:FuncId} {args:Array Value} {p:Nat} {M M':List Nd} {v0:Value} (S:St A N w w [oT (some ⟨p,0,none⟩) (some M)] []) (hM:M'.length ≤ 1024)
  (h : ∀ F,TabAt w p M F→M.length ≤ 1024→Calls P g args w fun e w' => ∃ v,e = .returned v∧(∃ A',v=v0∧TabAt w' p M' A'∧Chg F w w'∧(∀ i,A' i→F i∨w.heap.size ≤ i))) :
  Calls P g args w fun e w' => ∃ v,e = .returned v∧(v=v0∧St A N w w' [oT (some ⟨p,0,none⟩) (some M')] []):=by
 obtain ⟨U,hU,hN,hA,⟨F,hF,hFU,_⟩,hZ,hW⟩ := S
 obtain ⟨p',hp,T,hl⟩ := hF
 cases hp
 refine calls_mono (h F T hl) ?_
 rintro v w' ⟨A',rfl,T',hc,hg⟩
 refine ⟨rfl,fun i=>F i∨A' i,fun i hi=>⟨?_,?_,?_⟩,fun i hi=>Nat.lt_of_lt_of_le (hN i hi) hc.size,hc.mono fun i hi hf=>((hU i (hFU i hf)).1).elim id (fun q=>absurd hi zan),⟨A',⟨p,rfl,T',hM⟩,fun i hi => .inr hi,trivial⟩,fun z hz=>by simp at hz,hW.chg hc (fun i hi=>(hU i (hFU i hi)).2.2)⟩
 ·rcases hi with hi | hi
  ·exact (hU i (hFU i hi)).1
  ·exact (hg i hi).elim (fun q=>(hU i (hFU i q)).1) .inr
 ·rcases hi with hi | hi
  ·exact Nat.lt_of_lt_of_le (hU i (hFU i hi)).2.1 hc.size
  ·exact T'.lt i hi
 ·rcases hi with hi | hi
  ·exact (hU i (hFU i hi)).2.2
  ·exact (hg i hi).elim (fun q=>(hU i (hFU i q)).2.2) (fun q hn=>absurd (hN i hn) zan)
def zau.f (t:Tb) (a b:Int):Option (Tb × Int × Int):=t.map fun N=>(some (putS N (impN a b)).1,(putS N (impN a b)).2)
theorem formula_Table_Imp_st {p:Option Addr} {t:Tb} {a b:Int} (S:St A N w w [oT p t] []) {r:Tb × Int × Int} (H:zau.f t a b=some r):Calls PP uz #[.pointer p,.int .i64 a,.int .i64 b] w <| Rt fun v w'=>(v = .tuple #[.int .i64 r.2.1,.int .i64 r.2.2]∧St A N w w' [oT p r.1] []):=by
 cases t with
 | none=>cases H
 | some M =>
  cases H
  obtain ⟨F,p,rfl,T,hN⟩ := S.own 0 rfl
  exact mutT S (put_len hN) fun F T hl=>formula_Table_Imp_ok w a b T hl
def zav.f (t:Tb) (n:Nd):Option (Tb × Int × Int):=chk (decide (n.name.size < 9223372036854775808)) (t.map fun N=>(some (putS N n).1,(putS N n).2))
theorem jX {p:Option Addr} {t:Tb} {n:Nd} (S:St A N w w [oT p t] []) {r:Tb × Int × Int} (H:zav.f t n=some r):Calls PP uB #[.pointer p,.agg (Nd.C n).toArray] w <| Rt fun v w'=>(v = .tuple #[.int .i64 r.2.1,.int .i64 r.2.2]∧St A N w w' [oT p r.1] []):=by
 obtain ⟨hs,H⟩ := zX H
 cases t with
 | none=>cases H
 | some M =>
  cases H
  obtain ⟨F,p,rfl,T,hN⟩ := S.own 0 rfl
  exact mutT S (put_len hN) fun F T hl=>jW w n T (of_decide_eq_true hs) hl
def zaw.f (s:ByteArray):Option Bool:=chk (decide (s.size < 9223372036854775808)) (some (decide (isWord s)))
theorem formula_Word_st {s:ByteArray} (S:St A N w w [] []) {r:Bool} (H:zaw.f s=some r):Calls PP kr #[.string s] w <| Rt fun v w'=>(v = .bool r∧St A N w w' [] []):=by
 obtain ⟨hs,H⟩ := zX H
 cases H
 exact toSt (formula_Word_ok w s (of_decide_eq_true hs)) S
def zax.f (s:ByteArray):Option Bool:=chk (decide (s.size < 9223372036854775808)) (some (decide (isWord s)))
theorem ref03_Word_st {s:ByteArray} (S:St A N w w [] []) {r:Bool} (H:zax.f s=some r):Calls PP F_ref03_Word #[.string s] w <| Rt fun v w'=>(v = .bool r∧St A N w w' [] []):=by
 obtain ⟨hs,H⟩ := zX H
 cases H
 exact toSt (ref03_Word_ok w s (of_decide_eq_true hs)) S
end
end
section
open Gw Go.RowKit
section
variable {A:Nat→Prop} {N:Oth} {w0 w w':World} {L Z:List OA}
theorem Gw.Sep.fam {w:World} : ∀ {L:List OA} {U:Nat→Prop},Sep w U L → ∃ F:Nat→Nat→Prop,(∀ k a,L[k]? = some a→a.holds w (F k) ∧ ∀ i,F k i→U i) ∧ ∀ j k i,j ≠ k→j < L.length→k < L.length→F j i→¬ F k i
 | [],_,_=>⟨fun _ _=>False,by simp,by simp⟩
 | a :: L,U,⟨G,h,hG,hL⟩ => by
  obtain ⟨F,h1,h2⟩ := Sep.fam hL
  refine ⟨fun k=>match k with | 0=>G | k + 1=>F k,fun k b hb=>?_,fun j k i hjk hj hk=>?_⟩
  ·cases k with
   | zero=>simp at hb; subst hb; exact ⟨h,hG⟩
   | succ k=>have:=h1 k b (by simpa using hb); exact ⟨this.1,fun i hi=>(this.2 i hi).1⟩
  ·have hin : ∀ k,k < L.length → ∀ i,F k i→¬ G i:=fun k hk i hi=>((h1 k _ (List.getElem?_eq_getElem hk)).2 i hi).2
   cases j with
   | zero =>
    cases k with
    | zero=>exact absurd rfl hjk
    | succ k=>exact fun hi q=>hin k (by simpa using hk) i q hi
   | succ j =>
    cases k with
    | zero=>exact fun hi q=>hin j (by simpa using hj) i hi q
    | succ k=>exact h2 j k i zan (by simpa using hj) (by simpa using hk)
theorem Gw.Sep.of_fam {w:World} {L:List OA} {U:Nat→Prop} {F:Nat→Nat→Prop} (h1 : ∀ k a,L[k]? = some a→a.holds w (F k) ∧ ∀ i,F k i→U i) (h2 : ∀ j k i,j ≠ k→j < L.length→k < L.length→F j i→¬ F k i) :
  ∀ (ks:List Nat) (V:Nat→Prop),ks.Nodup→(∀ k ∈ ks,k < L.length → ∀ i,F k i→V i)→Sep w V (sel L ks)
 | [],_,_,_=>trivial
 | k :: ks,V,hn,hV=>by
  have hn':=List.nodup_cons.1 hn
  cases hk:L[k]? with
  | none =>
   rw [show sel L (k :: ks)=sel L ks by simp [sel,hk]]
   exact Sep.of_fam h1 h2 ks V hn'.2 fun k' hk'=>hV k' (by simp [hk'])
  | some a =>
   have hkl:=(List.getElem?_eq_some_iff.1 hk).1
   rw [show sel L (k :: ks)=a :: sel L ks by simp [sel,hk]]
   refine ⟨F k,(h1 k a hk).1,hV k zao hkl,Sep.of_fam h1 h2 ks _ hn'.2 fun k' hk' hl i hi=>⟨hV k' (by simp [hk']) hl i hi,?_⟩⟩
   exact h2 k' k i (fun e=>hn'.1 (e ▸ hk')) hl hkl hi
theorem Gw.St.arr (h:St A N w0 w L Z) (ks zs:List Nat) {L' Z':List OA} (hk:ks.Nodup:=by decide) (e:sel L ks=L':=by rfl) (ez:sel Z zs=Z':=by rfl):St A N w0 w L' Z':=by
 subst e
 refine St.zs ?_ zs ez
 obtain ⟨U,hU,hN,hA,hL,hZ,hW⟩ := h
 obtain ⟨F,h1,h2⟩ := hL.fam
 exact ⟨U,hU,hN,hA,Sep.of_fam h1 h2 ks U hk fun k _ hl i hi=>(h1 k _ (List.getElem?_eq_getElem hl)).2 i hi,hZ,hW⟩
theorem Gw.St.calln (h:St A N w0 w L Z) (n:Nat) {Zc:List OA} (hl:Lend (L.drop n) Z Zc) : ∃ B M,St B M w w (L.take n) Zc ∧ ∀ w' P' Z' L',St B M w w' P' Z'→P' ++ L.drop n=L'→St A N w0 w' L' Z :=
 h.call (L.take n) (L.drop n) hl (List.take_append_drop n L).symm
abbrev zipT (M:List Nd):List (Nd × Int):=M.zipIdx.map fun q=>(q.1,(q.2:Int))
theorem Gw.St.openT {a:Option Addr} {M:List Nd} (h:St A N w0 w (oT a (some M) :: L) Z) : ∃ p s m,a=some ⟨p,0,none⟩ ∧ M.length ≤ 1024∧St A N w0 w (oB p ui (Tab.C ⟨s,some m⟩) :: oM m ndV (Value.int .i64) (zipT M) :: oS T_Nd 4 Nd.C s M :: L) Z:=by
 obtain ⟨U,hU,hN,hA,⟨F,⟨p,h1,⟨s,m,b,o,mm,h2,h3,h4,hF⟩,hl⟩,hFU,hR⟩,hZ,hW⟩ := h
 refine ⟨p,s,m,h1,hl,U,hU,hN,hA,⟨fun i=>i=p,⟨b,fun _=>Iff.rfl⟩,fun i hi=>hFU i ((hF i).2 (.inl hi)),fun i=>i=m,⟨mm,fun _=>Iff.rfl⟩,fun i hi=>⟨hFU i ((hF i).2 (.inr (.inl hi))),fun q=>h2 (q.symm.trans hi)⟩,s.fp,⟨⟨o,by omega⟩,fun _=>Iff.rfl⟩,fun i hi=>⟨⟨hFU i ((hF i).2 (.inr (.inr hi))),fun q=>h3 (q ▸ hi)⟩,fun q=>h4 (q ▸ hi)⟩,?_⟩,hZ,hW⟩
 exact hR.mono fun i hi=>⟨⟨⟨hi.1,fun q=>hi.2 ((hF i).2 (.inl q))⟩,fun q=>hi.2 ((hF i).2 (.inr (.inl q)))⟩,fun q=>hi.2 ((hF i).2 (.inr (.inr q)))⟩
theorem Gw.St.shutT {p m:Nat} {s:SlV} {M:List Nd} (h:St A N w0 w (oB p ui (Tab.C ⟨s,some m⟩) :: oM m ndV (Value.int .i64) (zipT M) :: oS T_Nd 4 Nd.C s M :: L) Z) (hl:M.length ≤ 1024) {a:Option Addr} (ha:a=some ⟨p,0,none⟩):St A N w0 w (oT a (some M) :: L) Z:=by
 obtain ⟨U,hU,hN,hA,⟨F,h1,hF,G,h2,hG,K,h3,hK,hR⟩,hZ,hW⟩ := h
 have p1:F p:=(h1.2 p).2 rfl
 have p2:G m:=(h2.2 m).2 rfl
 refine ⟨U,hU,hN,hA,⟨fun i=>i=p∨i=m∨s.fp i,⟨p,ha,⟨s,m,h1.1,h3.1.1,h2.1,fun q=>(hG m p2).2 (q ▸ p1),fun q=>(hK p ((h3.2 p).2 q)).1.2 p1,fun q=>(hK m ((h3.2 m).2 q)).2 p2,fun i=>Iff.rfl⟩,hl⟩,?_,?_⟩,hZ,hW⟩
 ·rintro i (rfl | rfl | hi)
  ·exact hF _ p1
  ·exact (hG _ p2).1
  ·exact (hK _ ((h3.2 i).2 hi)).1.1
 ·refine hR.mono fun i hi=>⟨hi.1.1.1,?_⟩
  rintro (rfl | rfl | q)
  ·exact hi.1.1.2 p1
  ·exact hi.1.2 p2
  ·exact hi.2 ((h3.2 i).2 q)
end
section
variable {P:Program} {rd:Option Nat} {n:Nat} {dm:List Nat} {ops:Array Oper} {Q:Post} {f:Fr} {w w':World} {rest:List Oper} {ty:TypeId} {pos:String} {af:Array Edge} {d:Option Tmp} {gd:Option (Nat × Bool)}
theorem Gw.wd {d:Tmp} {op:Op} {v:Value} (hr:Does P ⟨some d,op,ty,pos,af,none⟩ f w v w') (h:wl P rd n dm ops rest Q (upd f d v) w') (hd:d < n:=by decide):wl P rd n dm ops (⟨some d,op,ty,pos,af,none⟩ :: rest) Q f w:=zj hr hd h
theorem Gw.wg {dd:Tmp} {op:Op} {j:Nat} {pol t:Bool} {v:Value} {oj:Oper} {dj:Tmp} (hr:(t == pol)=true→Does P ⟨some dd,op,ty,pos,af,some (j,pol)⟩ f w v w) (h:wl P rd n dm ops rest Q (upd f dd (gv (t == pol) v)) w) (hj:ops[j]? = some oj:=by rfl) (hdj:oj.dst=some dj:=by rfl) (ht:f dj = .bool t:=by rfl) (hdn:dj < n:=by decide) (hd:dd < n:=by decide):wl P rd n dm ops (⟨some dd,op,ty,pos,af,some (j,pol)⟩ :: rest) Q f w:=zJ hj hdj ht hdn hr hd h
theorem wl_gon2 {op:Op} {j:Nat} {pol c t:Bool} {oj:Oper} {dj:Tmp} (hj:ops[j]? = some oj) (hdj:oj.dst=some dj) (ht:f dj=gv c (.bool t)) (hdn:dj < n) (hg:(c && (t == pol))=true)
  (h:wl P rd n dm ops (⟨d,op,ty,pos,af,none⟩ :: rest) Q f w):wl P rd n dm ops (⟨d,op,ty,pos,af,some (j,pol)⟩ :: rest) Q f w:=fun a ha=>by
 have h1:=h a ha
 simp only [wpListIn] at h1 ⊢
 rw [km ha rfl hj hdj ht hdn,hg]
 exact h1
theorem yv {op:Op} {j:Nat} {pol t:Bool} {oj:Oper} {dj:Tmp} (hj:ops[j]? = some oj) (hdj:oj.dst=some dj) (ht:f dj = .bool t) (hdn:dj < n) (hg:(t == pol)=true)
  (h:wl P rd n dm ops (⟨d,op,ty,pos,af,none⟩ :: rest) Q f w):wl P rd n dm ops (⟨d,op,ty,pos,af,some (j,pol)⟩ :: rest) Q f w :=
 wl_gon2 (c:=true) hj hdj (by rw [ht]; exact gv_t _) hdn hg h
theorem run_eqGuard_sl (op:BinOp) (t:TypeId) (x y:Operand) (a b:Option Addr) (i j k l:Nat):(eqGuard op t x y (.slice a i j) (.slice b k l)).run P w = .ok () w:=by
 unfold eqGuard
 split <;> rfl
theorem does_isnil {t u e k:TypeId} {x y:Operand} {s:SlV} (ht:xV P t e k) (hx:evF f x=s.v) (hy:evF f y = .slice none 0 0):Does P ⟨d,.binOp .eql t x y u,ty,pos,af,gd⟩ f w (.bool s.p.isNone) w:=by
 rw [SlV.eq] at hx
 simp only [Does,execOp,hx,hy,Sem.run_bind,run_eqGuard_sl,Result.andThen_ok,Lib.run_eql_slice_nil w t e s.p s.n s.c 0 0 ht.1,Sem.run_pure]
theorem does_makeMap {t:TypeId}:Does P ⟨d,.makeMap t none,ty,pos,af,gd⟩ f w (.map (some w.heap.size)) (w.alloc (.map #[] 0)):=by
 simp [Does,execOp,run_makeMap]
end
section
variable {A:Nat→Prop} {N:Oth} {w:World}
def zay.f:Option Tb:=some (some [])
theorem jm (S:St A N w w [] []) {r:Tb} (H:zay.f=some r):Calls PP F_formula_New #[] w <| Rt fun v w' => ∃ a:Option Addr,(v = .pointer a∧St A N w w' [oT a r] []):=by
 obtain rfl:=zaq H
 refine zu (n:=4) Tryz.func35 rfl rfl zao ?_
 repeat (first | refine zb ?_ | refine za ?_ | refine zL ?_)
 refine zj (zZ rfl) zam ?_
 refine zd ?_
 repeat (first | refine zb ?_ | refine za ?_ | refine zL ?_)
 refine zj does_makeMap zam ?_
 replace S:=S.nil T_Nd 4 Nd.C
 replace S:St A N w (w.alloc (.map #[] 0)) [oM w.heap.size ndV (Value.int .i64) (zipT []),oS T_Nd 4 Nd.C SlV.nil []] [] :=
  S.add (b:=oM w.heap.size ndV (Value.int .i64) (zipT [])) (G:=(· = w.heap.size)) (Ext.alloc _ _) ⟨⟨#[],0,heap_alloc_new w _,rfl,by simp,by simp⟩,fun _=>Iff.rfl⟩ (fun i hi=>by rw [hi]; exact Nat.le_refl _)
 refine zj (vP bu_Tab (Bld.one rfl rfl (by rw [Tab.len]; decide) (Tab.set_at_ _ _) Bld.nil)) zam ?_
 refine zH rfl zam fun b w2 hw2=>?_
 replace S:=S.new hw2
 refine zj (zZ rfl) zam ?_
 refine zd ?_
 refine zr ?_
 exact ⟨_,(zP (zf rfl)),_,rfl,S.shutT zao rfl⟩
end
section
variable {A:Nat→Prop} {N:Oth} {w0 w w':World} {L Z:List OA}
theorem Gw.St.seeT (h:St A N w0 w L Z) (k:Nat) {a:Option Addr} {M:List Nd} (e:Z[k]? = some (oT a (some M)):=by rfl) : ∃ p s m,a=some ⟨p,0,none⟩ ∧ M.length ≤ 1024∧St A N w0 w L (oB p ui (Tab.C ⟨s,some m⟩) :: fS 4 Nd.C s M :: Z):=by
 have key : ∀ F,(oT a (some M)).holds w F → ∃ p s m,a=some ⟨p,0,none⟩ ∧ Blk w p ui (Tab.C ⟨s,some m⟩)∧Own w 0 T_Nd 4 s (M.map Nd.C)∧M.length ≤ 1024∧F p ∧ ∀ i,s.fp i→F i:=by
  rintro F ⟨p,h1,⟨s,m,b,o,mm,h2,h3,h4,hF⟩,hl⟩
  exact ⟨p,s,m,h1,b,o,hl,(hF p).2 (.inl rfl),fun i hi=>(hF i).2 (.inr (.inr hi))⟩
 obtain ⟨U,hU,hN,hA,hL,hZ,hW⟩ := h
 obtain ⟨F,hF,hFU⟩ := hZ _ (List.mem_of_getElem? e)
 obtain ⟨p,s,m,e1,e2,e3,e4,e5,e6⟩ := key F hF
 refine ⟨p,s,m,e1,e4,U,hU,hN,hA,hL,fun z hz=>?_,hW⟩
 rcases List.mem_cons.1 hz with rfl | hz
 ·exact ⟨fun i=>i=p,⟨e2,fun _=>Iff.rfl⟩,fun i hi=>by rw [hi]; exact hFU p e5⟩
 rcases List.mem_cons.1 hz with rfl | hz
 ·exact ⟨s.fp,⟨⟨e3.toRd,by omega⟩,fun _=>Iff.rfl⟩,fun i hi=>hFU i (e6 i hi)⟩
 ·exact hZ z hz
end
section
variable {A:Nat→Prop} {N:Oth} {w:World}
end
section
variable {A:Nat→Prop} {N:Oth} {w0 w:World} {L Z:List OA}
theorem Gw.St.nil_oT (h:St A N w0 w L Z):St A N w0 w (oT none none :: L) Z:=h.add (b:=oT none none) (Ext.refl w) (oT.nil w) (fun _ x=>x.elim)
end
end
section
open Go.RowKit
namespace Gw
def OA.star (a b:OA):OA where
 holds:=fun w F => ∃ G H,a.holds w G∧b.holds w H∧(∀ i,G i→¬ H i) ∧ ∀ i,F i↔(G i∨H i)
 loc:=fun ⟨G,H,g,h,d,e⟩ hc hs=>⟨G,H,a.loc g hc (fun i hi=>hs i ((e i).2 (.inl hi))),b.loc h hc (fun i hi=>hs i ((e i).2 (.inr hi))),d,e⟩
 lt:=fun ⟨G,H,g,h,d,e⟩ i hi=>((e i).1 hi).elim (a.lt g i) (b.lt h i)
def OA.ex {α:Type} (f:α→OA):OA where
 holds:=fun w F => ∃ x,(f x).holds w F
 loc:=fun ⟨x,h⟩ hc hs=>⟨x,(f x).loc h hc hs⟩
 lt:=fun ⟨x,h⟩ => (f x).lt h
def OA.pure (p:Prop):OA where
 holds:=fun _ F=>p ∧ ∀ i,¬ F i
 loc:=fun h _ _=>h
 lt:=fun h i hi=>(h.2 i hi).elim
section
variable {A:Nat→Prop} {N:Oth} {w0 w w':World} {L Z:List OA}
theorem St.sep (h:St A N w0 w L Z) {L':List OA} (hs : ∀ U,Sep w U L→Sep w U L'):St A N w0 w L' Z:=by
 obtain ⟨U,hU,hN,hA,hL,hZ,hW⟩ := h
 exact ⟨U,hU,hN,hA,hs U hL,hZ,hW⟩
theorem St.unstar (h:St A N w0 w L Z) (k:Nat) {a b:OA} {L':List OA} (e:L[k]? = some (a.star b):=by rfl) (e':a :: b :: L.eraseIdx k=L':=by rfl):St A N w0 w L' Z:=by
 subst e'
 refine h.sep fun U hL=>?_
 obtain ⟨F,⟨G,H,g,h,d,q⟩,hF,hR⟩ := hL.front k e
 refine ⟨G,g,fun i hi=>hF i ((q i).2 (.inl hi)),H,h,fun i hi=>⟨hF i ((q i).2 (.inr hi)),fun hg=>d i hg hi⟩,hR.mono fun i hi=>⟨⟨hi.1,fun hg=>hi.2 ((q i).2 (.inl hg))⟩,fun hh=>hi.2 ((q i).2 (.inr hh))⟩⟩
theorem St.star {a b:OA} (h:St A N w0 w (a :: b :: L) Z):St A N w0 w (a.star b :: L) Z:=by
 refine h.sep fun U hL=>?_
 obtain ⟨G,g,hG,H,h,hH,hR⟩ := hL
 exact ⟨fun i=>G i∨H i,⟨G,H,g,h,fun i hg hh=>(hH i hh).2 hg,fun _=>Iff.rfl⟩,fun i hi=>hi.elim (hG i) (fun q=>(hH i q).1),hR.mono fun i hi=>⟨hi.1.1,fun q=>q.elim hi.1.2 hi.2⟩⟩
theorem St.unex (h:St A N w0 w L Z) (k:Nat) {α:Type} {f:α→OA} (e:L[k]? = some (OA.ex f):=by rfl) : ∃ x,St A N w0 w (f x :: L.eraseIdx k) Z:=by
 obtain ⟨U,hU,hN,hA,hL,hZ,hW⟩ := h
 obtain ⟨F,⟨x,g⟩,hF,hR⟩ := hL.front k e
 exact ⟨x,U,hU,hN,hA,⟨F,g,hF,hR⟩,hZ,hW⟩
theorem St.toex {α:Type} {f:α→OA} (x:α) (h:St A N w0 w (f x :: L) Z):St A N w0 w (OA.ex f :: L) Z:=by
 refine h.sep fun U hL=>?_
 obtain ⟨F,g,hF,hR⟩ := hL
 exact ⟨F,⟨x,g⟩,hF,hR⟩
theorem St.putp (h:St A N w0 w L Z) {p:Prop} (hp:p):St A N w0 w (OA.pure p :: L) Z :=
 h.add (b:=OA.pure p) (G:=fun _=>False) (Ext.refl w) ⟨hp,fun _ x=>x⟩ (fun _ x=>x.elim)
theorem St.unstarZ (h:St A N w0 w L Z) (k:Nat) {a b:OA} (e:Z[k]? = some (a.star b):=by rfl):St A N w0 w L (a :: b :: Z):=by
 have h1:=h.part k (a:=a.star b) (b:=b) (fun F ⟨G,H,g,h,d,q⟩ => ⟨H,h,fun i hi=>(q i).2 (.inr hi)⟩) e
 exact h1.part (k + 1) (a:=a.star b) (b:=a) (fun F ⟨G,H,g,h,d,q⟩ => ⟨G,g,fun i hi=>(q i).2 (.inl hi)⟩) (by simpa using e)
theorem St.unexZ (h:St A N w0 w L Z) (k:Nat) {α:Type} {f:α→OA} (e:Z[k]? = some (OA.ex f):=by rfl) : ∃ x,St A N w0 w L (f x :: Z):=by
 obtain ⟨U,hU,hN,hA,hL,hZ,hW⟩ := h
 obtain ⟨F,⟨x,g⟩,hF⟩ := hZ _ (List.mem_of_getElem? e)
 refine ⟨x,U,hU,hN,hA,hL,fun z hz=>?_,hW⟩
 rcases List.mem_cons.1 hz with rfl | hz
 ·exact ⟨F,g,hF⟩
 ·exact hZ z hz
theorem St.getpZ (h:St A N w0 w L Z) (k:Nat) {p:Prop} (e:Z[k]? = some (OA.pure p):=by rfl):p:=(h.frz k e).elim fun _ h=>h.1
theorem St.frzO (h:St A N w0 w L Z) (k:Nat) {a:OA} {L':List OA} (q:L[k]? = some a:=by rfl) (q':L.eraseIdx k=L':=by rfl):St A N w0 w L' (a :: Z):=h.freeze k (a:=a) (fun _ h=>h) q q'
end
def big {μ α:Type} (R:μ→α→OA):List μ→List α→OA
 | [],[]=>OA.pure True
 | m :: ms,x :: xs=>(R m x).star (big R ms xs)
 | _,_=>OA.pure False
theorem big_len {w:World} {μ α:Type} {R:μ→α→OA} : ∀ {ms:List μ} {l:List α} {F:Nat→Prop},(big R ms l).holds w F→ms.length=l.length
 | [],[],_,_=>rfl
 | m :: ms,x :: xs,F,⟨_,_,_,h,_⟩ => by simp [big_len h]
 | [],_ :: _,_,h=>h.1.elim
 | _ :: _,[],_,h=>h.1.elim
theorem big_at {w:World} {μ α:Type} {R:μ→α→OA} : ∀ {ms:List μ} {l:List α} {F:Nat→Prop} {i:Nat} {m:μ} {x:α},(big R ms l).holds w F→ms[i]? = some m→l[i]? = some x → ∃ G,(R m x).holds w G ∧ ∀ j,G j→F j
 | [],[],_,_,_,_,_,h,_=>by simp at h
 | m :: ms,x :: xs,F,i,m',x',⟨G,H,g,h,d,e⟩,hm,hx=>by
  cases i with
  | zero=>simp at hm hx; subst hm hx; exact ⟨G,g,fun j hj=>(e j).2 (.inl hj)⟩
  | succ i =>
   obtain ⟨K,k,hK⟩ := big_at h (by simpa using hm) (by simpa using hx)
   exact ⟨K,k,fun j hj=>(e j).2 (.inr (hK j hj))⟩
 | [],_ :: _,_,_,_,_,h,_,_=>h.1.elim
 | _ :: _,[],_,_,_,_,h,_,_=>h.1.elim
theorem big_push {w:World} {μ α:Type} {R:μ→α→OA} {m:μ} {x:α} {G:Nat→Prop} (g:(R m x).holds w G) : ∀ {ms:List μ} {l:List α} {F:Nat→Prop},(big R ms l).holds w F→(∀ i,F i→¬ G i)→(big R (ms ++ [m]) (l ++ [x])).holds w fun i=>F i∨G i
 | [],[],F,h,d=>⟨G,fun _=>False,g,⟨trivial,fun _ x=>x⟩,fun _ _ x=>x,fun i=>⟨fun q=>q.elim (fun q=>absurd q (h.2 i)) .inl,fun q=>q.elim .inr (fun x=>x.elim)⟩⟩
 | m' :: ms,x' :: xs,F,⟨G',H',g',h',d',e'⟩,d=>by
  refine ⟨G',fun i=>H' i∨G i,g',big_push g h' (fun i hi=>d i ((e' i).2 (.inr hi))),fun i hi q=>q.elim (d' i hi) (d i ((e' i).2 (.inl hi))),fun i=>?_⟩
  show F i∨G i↔_
  rw [e' i,or_assoc]
 | [],_ :: _,_,h,_=>h.1.elim
 | _ :: _,[],_,h,_=>h.1.elim
def oD (e k:Nat) {μ α:Type} (C:μ→List Value) (R:μ→α→OA) (s:SlV) (l:List α):OA:=OA.ex fun ms=>(oS e k C s ms).star (big R ms l)
section
variable {A:Nat→Prop} {N:Oth} {w0 w w':World} {L Z:List OA} {e k:Nat} {μ α:Type} {C:μ→List Value} {R:μ→α→OA} {s:SlV} {l:List α}
def OA.on (a:OA) (w:World):Prop := ∃ F,a.holds w F
theorem oD.rd (h:(oD e k C R s l).on w) : ∃ ms:List μ,Rd w k s (ms.map C)∧ms.length=l.length∧(∀ (i:Nat) m x,ms[i]? = some m→l[i]? = some x→(R m x).on w)∧l.length ≤ 140737488355328:=by
 obtain ⟨F,ms,G,H,g,h,d,q⟩ := h
 refine ⟨ms,g.1.1.toRd,big_len h,fun i m x hm hx=>(big_at h hm hx).elim fun K hk=>⟨K,hk.1⟩,?_⟩
 rw [← big_len h]; exact g.1.2
theorem St.onO (h:St A N w0 w L Z) (k:Nat) {a:OA} (e:L[k]? = some a:=by rfl):a.on w:=h.own k e
theorem St.onZ (h:St A N w0 w L Z) (k:Nat) {a:OA} (e:Z[k]? = some a:=by rfl):a.on w:=h.frz k e
theorem St.lenDZ (h:St A N w0 w L Z) (n:Nat) (q:Z[n]? = some (oD e k C R s l):=by rfl):l.length ≤ 140737488355328:=(oD.rd (h.frz n q)).elim fun _ h=>h.2.2.2
theorem oD.nil_holds (w:World) (e k:Nat) {μ α:Type} (C:μ→List Value) (R:μ→α→OA):(oD e k C R SlV.nil []).holds w (fun _=>False) :=
 ⟨[],fun _=>False,fun _=>False,⟨⟨by simpa using Own.nil w 0 e k,by simp⟩,fun i=>⟨fun x=>x.elim,fun x=>absurd rfl x.1⟩⟩,⟨trivial,fun _ x=>x⟩,fun _ _ x=>x,fun _=>⟨fun x=>x.elim,fun x=>x.elim id id⟩⟩
theorem St.nilD (h:St A N w0 w L Z) (e k:Nat) {μ α:Type} (C:μ→List Value) (R:μ→α→OA):St A N w0 w (oD e k C R SlV.nil [] :: L) Z :=
 h.add (b:=oD e k C R SlV.nil []) (G:=fun _=>False) (Ext.refl w) (oD.nil_holds w e k C R) (fun _ x=>x.elim)
theorem St.openD (h:St A N w0 w L Z) (n:Nat) (q:L[n]? = some (oD e k C R s l):=by rfl) : ∃ ms:List μ,St A N w0 w (oS e k C s ms :: big R ms l :: L.eraseIdx n) Z:=by
 obtain ⟨ms,h1⟩ := h.unex n (f:=fun ms=>(oS e k C s ms).star (big R ms l)) q
 exact ⟨ms,h1.unstar 0⟩
theorem St.shutD {ms:List μ} (h:St A N w0 w (oS e k C s ms :: big R ms l :: L) Z):St A N w0 w (oD e k C R s l :: L) Z:=St.toex (f:=fun ms=>(oS e k C s ms).star (big R ms l)) ms h.star
theorem St.pushD {ms:List μ} {m:μ} {x:α} (h:St A N w0 w (oS e k C s (ms ++ [m]) :: big R ms l :: R m x :: L) Z):St A N w0 w (oD e k C R s (l ++ [x]) :: L) Z:=by
 refine St.shutD (ms:=ms ++ [m]) (h.sep fun U hL=>?_)
 obtain ⟨F,f,hF,G,g,hG,H,hh,hH,hR⟩ := hL
 exact ⟨F,f,hF,fun i=>G i∨H i,big_push hh g (fun i hg hi=>(hH i hi).2 hg),fun i hi=>hi.elim (hG i) (fun q=>(hH i q).1),hR.mono fun i hi=>⟨hi.1.1,fun q=>q.elim hi.1.2 hi.2⟩⟩
end
section
variable {P:Program} {f:Fr} {w w':World} {d:Option Tmp} {ty:TypeId} {pos:String} {af:Array Edge} {gd:Option (Nat × Bool)}
theorem zaa {e' k':Nat} {μ α:Type} {C:μ→List Value} {R:μ→α→OA} {l:List α} {x:Operand} {t e k:Nat} {s:SlV} (ht:xV P t e k) (hx:evF f x=s.v) (h:(oD e' k' C R s l).on w):Does P ⟨d,.call ⟨.builtin .len,#[x],#[t]⟩,ty,pos,af,gd⟩ f w (.int .i64 l.length) w:=by
 obtain ⟨ms,hr,hl,_⟩ := oD.rd h
 have:=xE (P:=P) (f:=f) (d:=d) (ty:=ty) (pos:=pos) (af:=af) (gd:=gd) ht hx hr
 rw [hl] at this; exact this
theorem does_indexD {e':Nat} {μ α:Type} {C:μ→List Value} {R:μ→α→OA} {l:List α} {x y:Operand} {t e k:Nat} {kd:IntKind} {i:Int} {s:SlV} (ht:xV P t e k) (hx:evF f x=s.v) (hy:evF f y = .int kd i) (h:(oD e' k C R s l).on w) (h0:0 ≤ i) (h1:i < l.length) :
  Does P ⟨d,.indexAddr t x y,ty,pos,af,gd⟩ f w (.pointer (some ⟨s.blk,s.off + i.toNat * k,none⟩)) w:=by
 obtain ⟨ms,hr,hl,_⟩ := oD.rd h
 exact xg ht hx hy hr h0 zan
theorem Does.to {o:Oper} {v v':Value} (h:Does P o f w v w') (e:v=v'):Does P o f w v' w':=e ▸ h
theorem wl_makeMap {α β:Type} {C:α→Value} {D:β→Value} {rd:Option Nat} {n:Nat} {dm:List Nat} {ops:Array Oper} {rest:List Oper} {Q:Post} {dd:Tmp} {t:TypeId} (hd:dd < n)
  (h : ∀ m w',MapB w' m C D []→Ext w w'→w.heap.size ≤ m→wl P rd n dm ops rest Q (upd f dd (.map (some m))) w'):wl P rd n dm ops (⟨some dd,.makeMap t none,ty,pos,af,none⟩ :: rest) Q f w :=
 zj does_makeMap hd (h _ _ ⟨#[],0,heap_alloc_new w _,rfl,by simp,by simp⟩ (Ext.alloc _ _) (Nat.le_refl _))
end
section
variable {A:Nat→Prop} {N:Oth} {w0 w w':World} {L Z:List OA}
theorem St.newM (h:St A N w0 w L Z) {α β:Type} {C:α→Value} {D:β→Value} {m:Nat} (hm:MapB w' m C D ([]:List (α × β))) (hx:Ext w w') (hl:w.heap.size ≤ m):St A N w0 w' (oM m C D [] :: L) Z :=
 h.add (b:=oM m C D []) (G:=(· = m)) hx ⟨hm,fun _=>Iff.rfl⟩ (fun i hi=>by rw [hi]; exact hl)
end
end Gw
end
section
open Go.RowKit
namespace Gw
def OA.and (a b:OA):OA where
 holds:=fun w F => ∃ G H,a.holds w G∧b.holds w H ∧ ∀ i,F i↔(G i∨H i)
 loc:=fun ⟨G,H,g,h,e⟩ hc hs=>⟨G,H,a.loc g hc (fun i hi=>hs i ((e i).2 (.inl hi))),b.loc h hc (fun i hi=>hs i ((e i).2 (.inr hi))),e⟩
 lt:=fun ⟨G,H,g,h,e⟩ i hi=>((e i).1 hi).elim (a.lt g i) (b.lt h i)
def bigA {μ α:Type} (R:μ→α→OA):List μ→List α→OA
 | [],[]=>OA.pure True
 | m :: ms,x :: xs=>(R m x).and (bigA R ms xs)
 | _,_=>OA.pure False
theorem ky {w:World} {μ α:Type} {R:μ→α→OA} : ∀ {ms:List μ} {l:List α} {F:Nat→Prop},(bigA R ms l).holds w F→ms.length=l.length
 | [],[],_,_=>rfl
 | m :: ms,x :: xs,F,⟨_,_,_,h,_⟩ => by simp [ky h]
 | [],_ :: _,_,h=>h.1.elim
 | _ :: _,[],_,h=>h.1.elim
theorem bigA_at {w:World} {μ α:Type} {R:μ→α→OA} : ∀ {ms:List μ} {l:List α} {F:Nat→Prop} {i:Nat} {m:μ} {x:α},(bigA R ms l).holds w F→ms[i]? = some m→l[i]? = some x → ∃ G,(R m x).holds w G ∧ ∀ j,G j→F j
 | [],[],_,_,_,_,_,h,_=>by simp at h
 | m :: ms,x :: xs,F,i,m',x',⟨G,H,g,h,e⟩,hm,hx=>by
  cases i with
  | zero=>simp at hm hx; subst hm hx; exact ⟨G,g,fun j hj=>(e j).2 (.inl hj)⟩
  | succ i =>
   obtain ⟨K,k,hK⟩ := bigA_at h (by simpa using hm) (by simpa using hx)
   exact ⟨K,k,fun j hj=>(e j).2 (.inr (hK j hj))⟩
 | [],_ :: _,_,_,_,_,h,_,_=>h.1.elim
 | _ :: _,[],_,_,_,_,h,_,_=>h.1.elim
theorem bigA_set {w:World} {μ α:Type} {R:μ→α→OA} {m:μ} {x:α} {G:Nat→Prop} (g:(R m x).holds w G) : ∀ {ms:List μ} {l:List α} {F:Nat→Prop} {i:Nat},(bigA R ms l).holds w F → ∃ K,(bigA R (ms.set i m) (l.set i x)).holds w K ∧ ∀ j,K j→F j∨G j
 | [],[],F,i,h=>⟨F,h,fun j hj => .inl hj⟩
 | m' :: ms,x' :: xs,F,i,⟨G',H,g',h,e⟩ => by
  cases i with
  | zero=>exact ⟨fun j=>G j∨H j,⟨G,H,g,h,fun _=>Iff.rfl⟩,fun j hj=>hj.elim .inr (fun q => .inl ((e j).2 (.inr q)))⟩
  | succ i =>
   obtain ⟨K,k,hK⟩ := bigA_set g (i:=i) h
   exact ⟨fun j=>G' j∨K j,⟨G',K,g',k,fun _=>Iff.rfl⟩,fun j hj=>hj.elim (fun q => .inl ((e j).2 (.inl q))) (fun q=>(hK j q).elim (fun q => .inl ((e j).2 (.inr q))) .inr)⟩
 | [],_ :: _,_,_,h=>h.1.elim
 | _ :: _,[],_,_,h=>h.1.elim
theorem bigA_push {w:World} {μ α:Type} {R:μ→α→OA} {m:μ} {x:α} {G:Nat→Prop} (g:(R m x).holds w G) : ∀ {ms:List μ} {l:List α} {F:Nat→Prop},(bigA R ms l).holds w F→(bigA R (ms ++ [m]) (l ++ [x])).holds w fun i=>F i∨G i
 | [],[],F,h=>⟨G,fun _=>False,g,⟨trivial,fun _ x=>x⟩,fun i=>⟨fun q=>q.elim (fun q=>absurd q (h.2 i)) .inl,fun q=>q.elim .inr (fun x=>x.elim)⟩⟩
 | m' :: ms,x' :: xs,F,⟨G',H',g',h',e'⟩ => by
  refine ⟨G',fun i=>H' i∨G i,g',bigA_push g h',fun i=>?_⟩
  show F i∨G i↔_
  rw [e' i,or_assoc]
 | [],_ :: _,_,h=>h.1.elim
 | _ :: _,[],_,h=>h.1.elim
section
variable {A:Nat→Prop} {N:Oth} {w0 w w':World} {L Z:List OA}
theorem St.andZ (h:St A N w0 w L Z) (j k:Nat) {a b:OA} (e:Z[j]? = some a:=by rfl) (e':Z[k]? = some b:=by rfl):St A N w0 w L (a.and b :: Z):=by
 obtain ⟨U,hU,hN,hA,hL,hZ,hW⟩ := h
 refine ⟨U,hU,hN,hA,hL,fun z hz=>?_,hW⟩
 rcases List.mem_cons.1 hz with rfl | hz
 ·obtain ⟨F,g,hF⟩ := hZ _ (List.mem_of_getElem? e)
  obtain ⟨G,g',hG⟩ := hZ _ (List.mem_of_getElem? e')
  exact ⟨fun i=>F i∨G i,⟨F,G,g,g',fun _=>Iff.rfl⟩,fun i hi=>hi.elim (hF i) (hG i)⟩
 ·exact hZ z hz
theorem St.unandZ (h:St A N w0 w L Z) (k:Nat) {a b:OA} (e:Z[k]? = some (a.and b):=by rfl):St A N w0 w L (a :: b :: Z):=by
 have h1:=h.part k (a:=a.and b) (b:=b) (fun F ⟨G,H,g,h,q⟩ => ⟨H,h,fun i hi=>(q i).2 (.inr hi)⟩) e
 exact h1.part (k + 1) (a:=a.and b) (b:=a) (fun F ⟨G,H,g,h,q⟩ => ⟨G,g,fun i hi=>(q i).2 (.inl hi)⟩) (by simpa using e)
end
section
variable {P:Program} {f:Fr} {w:World}
theorem kN {r1 r2 r3 r4:ResultVar} {v1 v2 v3 v4:Value} (h1:vZ P r1 f w v1) (h2:vZ P r2 f w v2) (h3:vZ P r3 f w v3) (h4:vZ P r4 f w v4):Rets P #[r1,r2,r3,r4] f w (.tuple #[v1,v2,v3,v4]):=by
 unfold Rets
 unfold vZ at h1 h2 h3 h4
 simp only [Array.mapM_eq_mapM_toList,List.mapM_cons,List.mapM_nil]
 simp [h1,h2,h3,h4]
end
end Gw
end
section
open Gw Go.RowKit
inductive PTerm where
 | mk (kind:Int) (name other:ByteArray) (form:Int) (sub:List PTerm)
namespace PTerm
def kind:PTerm→Int | mk k _ _ _ _=>k
def name:PTerm→ByteArray | mk _ n _ _ _=>n
def other:PTerm→ByteArray | mk _ _ o _ _=>o
def form:PTerm→Int | mk _ _ _ f _=>f
def sub:PTerm→List PTerm | mk _ _ _ _ s=>s
def z:PTerm:=mk 0 ByteArray.empty ByteArray.empty 0 []
end PTerm
abbrev mT (x:PTerm) (s:SlV):Term:=⟨x.kind,x.name,x.other,x.form,s⟩
def fT (s:SlV) (ms:List Term):OA where
 holds:=fun w F=>(Sl w 5 s (ms.map Term.C)∧ms.length ≤ 140737488355328) ∧ ∀ i,F i↔(ms ≠ []∧i=s.blk)
 loc:=fun h hc hs=>⟨⟨h.1.1.chg hc (fun hr=>hs _ ((h.2 _).2 ⟨fun e=>hr (by rw [e]; rfl),rfl⟩)),h.1.2⟩,h.2⟩
 lt:=fun {w F} h i hi=>by
  obtain ⟨hne,rfl⟩ := (h.2 i).1 hi
  obtain ⟨m,ms,rfl⟩ := List.exists_cons_of_ne_nil hne
  have h1:=(h.1.1.cells 0 (Term.C m) zao).2 0 (.int .i64 m.kind) rfl
  rcases Nat.lt_or_ge s.blk w.heap.size with q | q
  ·exact q
  ·simp [World.cell?,Array.getElem?_eq_none q] at h1
theorem fT.sl {w:World} {s:SlV} {ms:List Term} (h:(fT s ms).on w):Sl w 5 s (ms.map Term.C):=h.elim fun _ h=>h.1.1
theorem fT.at {w:World} {s:SlV} {ms:List Term} (h:(fT s ms).on w) {i:Nat} {m:Term} (hm:ms[i]? = some m):ub w s.blk (s.off + i * 5) (Term.C m):=((fT.sl h).cells i _ (by simp [hm])).2
theorem fT.len {w:World} {s:SlV} {ms:List Term} (h:(fT s ms).on w):ms.length ≤ 140737488355328:=h.elim fun _ h=>h.1.2
theorem fT.of {w:World} {s:SlV} {ms:List Term} {F:Nat→Prop} (h:(fS 5 Term.C s ms).holds w F) : ∃ G,(fT s ms).holds w G ∧ ∀ i,G i→F i :=
 ⟨fun i=>ms ≠ []∧i=s.blk,⟨⟨h.1.1.sl,h.1.2⟩,fun _=>Iff.rfl⟩,fun i hi=>(h.2 i).2 ⟨(fun e=>by
  obtain ⟨m,ms,rfl⟩ := List.exists_cons_of_ne_nil hi.1
  have h2:=(h.1.1.sl.cells 0 (Term.C m) zao).1
  rw [e] at h2; exact absurd h2 zao),hi.2⟩⟩
def fTm:Nat→Term→PTerm→OA
 | 0,_,_=>OA.pure False
 | d + 1,m,x=>(OA.pure (m.kind=x.kind∧m.name=x.name∧m.other=x.other∧m.form=x.form)).and (OA.ex fun (ms:List Term)=>(fT m.sub ms).and (bigA (fTm d) ms x.sub))
def yB (s:SlV) (l:List PTerm):OA:=OA.ex fun (q:Nat × List Term)=>(fT s q.2).and (bigA (fTm q.1) q.2 l)
abbrev ze (s:SlV) (l:List PTerm):OA:=yB s l
def xk (m:Term) (x:PTerm):OA:=OA.ex fun (d:Nat)=>fTm d m x
theorem fTm_eqs {w:World} {F:Nat→Prop} : ∀ {d:Nat} {m:Term} {x:PTerm},(fTm d m x).holds w F→m.kind=x.kind∧m.name=x.name∧m.other=x.other∧m.form=x.form
 | _ + 1,_,_,⟨_,_,g,_⟩ => g.1
 | 0,_,_,h=>h.1.elim
theorem fTm_sub {w:World} {F:Nat→Prop} : ∀ {d:Nat} {m:Term} {x:PTerm},(fTm d m x).holds w F → ∃ G,(yB m.sub x.sub).holds w G ∧ ∀ i,G i→F i
 | d + 1,_,_,⟨_,H,_,⟨ms,h⟩,e⟩ => ⟨H,⟨(d,ms),h⟩,fun i hi=>(e i).2 (.inr hi)⟩
 | 0,_,_,h=>h.1.elim
theorem bigA_mono {w:World} {μ α:Type} {R R':μ→α→OA} (hR : ∀ m x F,(R m x).holds w F→(R' m x).holds w F) : ∀ {ms:List μ} {l:List α} {F:Nat→Prop},(bigA R ms l).holds w F→(bigA R' ms l).holds w F
 | [],[],_,h=>h
 | m :: ms,x :: xs,F,⟨G,H,g,h,e⟩ => ⟨G,H,hR _ _ _ g,bigA_mono hR h,e⟩
 | [],_ :: _,_,h=>h.1.elim
 | _ :: _,[],_,h=>h.1.elim
theorem fTm_mono {w:World} : ∀ {d d':Nat} {m:Term} {x:PTerm} {F:Nat→Prop},d ≤ d'→(fTm d m x).holds w F→(fTm d' m x).holds w F
 | 0,_,_,_,_,_,h=>h.1.elim
 | d + 1,0,_,_,_,hd,_=>by omega
 | d + 1,d' + 1,_,_,_,hd,⟨G,H,g,⟨ms,G2,H2,g2,h2,e2⟩,e⟩ => ⟨G,H,g,⟨ms,G2,H2,g2,bigA_mono (fun _ _ _ q=>fTm_mono zan q) h2,e2⟩,e⟩
theorem zab {w:World} {F:Nat→Prop} {x:PTerm} {s:SlV}:(yB s x.sub).holds w F→(xk (mT x s) x).holds w F
 | ⟨(d,ms),h⟩ => ⟨d + 1,fun _=>False,F,⟨⟨rfl,rfl,rfl,rfl⟩,fun _ q=>q⟩,⟨ms,h⟩,fun _=>⟨.inr,fun q=>q.elim (fun q=>q.elim) id⟩⟩
theorem big_depth {w:World} : ∀ {ms:List Term} {l:List PTerm} {F:Nat→Prop},(bigA xk ms l).holds w F → ∃ d,(bigA (fTm d) ms l).holds w F
 | [],[],_,h=>⟨0,h⟩
 | m :: ms,x :: xs,F,⟨G,H,⟨d,g⟩,h,e⟩ => by
  obtain ⟨d',h'⟩ := big_depth h
  exact ⟨max d d',G,H,fTm_mono (Nat.le_max_left ..) g,bigA_mono (fun _ _ _ q=>fTm_mono (Nat.le_max_right ..) q) h',e⟩
 | [],_ :: _,_,h=>h.1.elim
 | _ :: _,[],_,h=>h.1.elim
theorem fTerms_mk {w:World} {F G:Nat→Prop} {s:SlV} {ms:List Term} {l:List PTerm} (h:(fT s ms).holds w F) (h':(bigA xk ms l).holds w G):(yB s l).holds w fun i=>F i∨G i:=by
 obtain ⟨d,h'⟩ := big_depth h'
 exact ⟨(d,ms),F,G,h,h',fun _=>Iff.rfl⟩
theorem yB.rd {w:World} {s:SlV} {l:List PTerm} (h:(ze s l).on w) : ∃ ms:List Term,Sl w 5 s (ms.map Term.C)∧ms.length=l.length∧l.length ≤ 140737488355328:=by
 obtain ⟨F,⟨d,ms⟩,G,H,g,hh,q⟩ := h
 have hl:ms.length=l.length:=ky hh
 exact ⟨ms,g.1.1,hl,by rw [← hl]; exact g.1.2⟩
section
variable {A:Nat→Prop} {N:Oth} {w0 w w':World} {L Z:List OA}
theorem Gw.St.eqsTm (h:St A N w0 w L Z) (k:Nat) {m:Term} {x:PTerm} (e:Z[k]? = some (xk m x):=by rfl):m.kind=x.kind∧m.name=x.name∧m.other=x.other∧m.form=x.form:=by
 obtain ⟨F,d,h⟩ := h.frz k e
 exact fTm_eqs h
theorem Gw.St.subTm (h:St A N w0 w L Z) (k:Nat) {m:Term} {x:PTerm} (e:Z[k]? = some (xk m x):=by rfl):St A N w0 w L (yB m.sub x.sub :: Z):=by
 obtain ⟨U,hU,hN,hA,hL,hZ,hW⟩ := h
 refine ⟨U,hU,hN,hA,hL,fun z hz=>?_,hW⟩
 rcases List.mem_cons.1 hz with rfl | hz
 ·obtain ⟨F,⟨d,g⟩,hF⟩ := hZ _ (List.mem_of_getElem? e)
  obtain ⟨G,g',hG⟩ := fTm_sub g
  exact ⟨G,g',fun i hi=>hF i (hG i hi)⟩
 ·exact hZ z hz
theorem Gw.St.eltTm (h:St A N w0 w L Z) (k:Nat) {s:SlV} {l:List PTerm} {i:Int} (hi:0 ≤ i∧i < l.length) (e:Z[k]? = some (yB s l):=by rfl) :
  ∃ m:Term,ub w s.blk (s.off + i.toNat * 5) (Term.C m)∧St A N w0 w L (xk m (at_ PTerm.z l i) :: Z):=by
 obtain ⟨U,hU,hN,hA,hL,hZ,hW⟩ := h
 obtain ⟨F,⟨⟨d,ms⟩,G,H,g,hh,q⟩,hF⟩ := hZ _ (List.mem_of_getElem? e)
 have hl:ms.length=l.length:=ky hh
 have h1:i.toNat < ms.length:=by omega
 have h2:i.toNat < l.length:=by omega
 have h3:at_ PTerm.z l i=l[i.toNat]:=by simp [at_,List.getD_eq_getElem?_getD,h2]
 obtain ⟨K,hk,hK⟩ := bigA_at hh (List.getElem?_eq_getElem h1) (List.getElem?_eq_getElem h2)
 refine ⟨ms[i.toNat],fT.at ⟨_,g⟩ (List.getElem?_eq_getElem h1),U,hU,hN,hA,hL,fun z hz=>?_,hW⟩
 rcases List.mem_cons.1 hz with rfl | hz
 ·rw [h3]; exact ⟨K,⟨d,hk⟩,fun j hj=>hF j ((q j).2 (.inr (hK j hj)))⟩
 ·exact hZ z hz
theorem Gw.St.viewTerm (h:St A N w0 w L Z) (k:Nat) {s:SlV} {l:List PTerm} {i:Int} (hi:0 ≤ i∧i < l.length) (e:Z[k]? = some (ze s l):=by rfl) :
  ∃ n:SlV,ub w s.blk (s.off + i.toNat * 5) (Term.C ⟨(at_ PTerm.z l i).kind,(at_ PTerm.z l i).name,(at_ PTerm.z l i).other,(at_ PTerm.z l i).form,n⟩)∧St A N w0 w L (ze n (at_ PTerm.z l i).sub :: Z):=by
 obtain ⟨m,hc,h1⟩ := h.eltTm k hi e
 obtain ⟨e1,e2,e3,e4⟩ := h1.eqsTm 0
 have h2:=h1.subTm 0
 refine ⟨m.sub,by rw [← e1,← e2,← e3,← e4]; exact hc,h2.pickZ fun z hz=>?_⟩
 rcases List.mem_cons.1 hz with rfl | hz
 ·exact List.mem_cons_self ..
 ·exact List.mem_cons_of_mem _ (List.mem_cons_of_mem _ hz)
theorem Gw.St.lenFZ (h:St A N w0 w L Z) (n:Nat) {s:SlV} {l:List PTerm} (q:Z[n]? = some (ze s l):=by rfl):l.length ≤ 140737488355328:=(yB.rd (h.frz n q)).elim fun _ h=>h.2.2
theorem Gw.St.nilTm (h:St A N w0 w L Z):St A N w0 w L (ze SlV.nil [] :: Z) :=
 h.say ⟨(0,[]),fun _=>False,fun _=>False,⟨⟨by simpa using Sl.nil w 5,by simp⟩,fun i=>⟨fun x=>x.elim,fun x=>absurd rfl x.1⟩⟩,⟨trivial,fun _ x=>x⟩,fun _=>⟨fun x=>x.elim,fun x=>x.elim id id⟩⟩
theorem Gw.St.bigTm (h:St A N w0 w L Z):St A N w0 w L (bigA xk [] [] :: Z):=h.say ⟨trivial,fun _ x=>x⟩
theorem Gw.St.consTm {ms:List Term} {l:List PTerm} (h:St A N w0 w L (bigA xk ms l :: Z)) (k:Nat) {x:PTerm} {s:SlV} (e:Z[k]? = some (ze s x.sub):=by rfl):St A N w0 w L (bigA xk (mT x s :: ms) (x :: l) :: Z):=by
 have h1:=h.part (k + 1) (a:=ze s x.sub) (b:=xk (mT x s) x) (fun F q=>⟨F,zab q,fun _ q=>q⟩) (by simpa using e)
 have h2:=h1.andZ 0 1
 refine h2.pickZ fun z hz=>?_
 rcases List.mem_cons.1 hz with rfl | hz
 ·exact List.mem_cons_self ..
 ·exact List.mem_cons_of_mem _ (List.mem_cons_of_mem _ (List.mem_cons_of_mem _ hz))
theorem Gw.St.frzTm (h:St A N w0 w L Z) (n k:Nat) {s:SlV} {ms:List Term} {l:List PTerm} {L':List OA} (q:L[n]? = some (oS zm 5 Term.C s ms):=by rfl) (q':L.eraseIdx n=L':=by rfl) (e:Z[k]? = some (bigA xk ms l):=by rfl):St A N w0 w L' (ze s l :: Z):=by
 have h1:=h.frzS n q q'
 replace h1:=h1.part 0 (a:=fS 5 Term.C s ms) (b:=fT s ms) (fun F q=>fT.of q)
 have h2:=h1.andZ 0 (k + 2) (a:=fT s ms) (b:=bigA xk ms l) rfl (by simpa using e)
 have h3:=h2.part 0 (a:=(fT s ms).and (bigA xk ms l)) (b:=ze s l) (fun F ⟨G,H,g,hh,q⟩ => ⟨_,fTerms_mk g hh,fun i hi=>(q i).2 hi⟩)
 refine h3.pickZ fun z hz=>?_
 rcases List.mem_cons.1 hz with rfl | hz
 ·exact List.mem_cons_self ..
 ·exact List.mem_cons_of_mem _ (List.mem_cons_of_mem _ (List.mem_cons_of_mem _ (List.mem_cons_of_mem _ hz)))
end
section
variable {P:Program} {f:Fr} {w w':World} {d:Option Tmp} {ty:TypeId} {pos:String} {af:Array Edge} {gd:Option (Nat × Bool)}
theorem Gw.does_lenF {l:List PTerm} {x:Operand} {t e k:Nat} {s:SlV} (ht:xV P t e k) (hx:evF f x=s.v) (h:(ze s l).on w):Does P ⟨d,.call ⟨.builtin .len,#[x],#[t]⟩,ty,pos,af,gd⟩ f w (.int .i64 l.length) w:=by
 obtain ⟨ms,hr,hl,_⟩ := yB.rd h
 have:=does_lenS (P:=P) (f:=f) (w:=w) (d:=d) (ty:=ty) (pos:=pos) (af:=af) (gd:=gd) ht hx
 rw [hr.len,List.length_map,hl] at this; exact this
theorem Gw.does_indexF {l:List PTerm} {x y:Operand} {t e:Nat} {kd:IntKind} {i:Int} {s:SlV} (ht:xV P t e 5) (hx:evF f x=s.v) (hy:evF f y = .int kd i) (h:(ze s l).on w) (h0:0 ≤ i) (h1:i < l.length) :
  Does P ⟨d,.indexAddr t x y,ty,pos,af,gd⟩ f w (.pointer (some ⟨s.blk,s.off + i.toNat * 5,none⟩)) w:=by
 obtain ⟨ms,hr,hl,_⟩ := yB.rd h
 exact does_indexS ht hx hy hr h0 (by rw [List.length_map]; omega) rfl
end
section
variable {A:Nat→Prop} {N:Oth} {w0 w w':World} {L Z:List OA}
end
-- short words
abbrev tmT (x:PTerm) (s:SlV):Term:=⟨x.kind,x.name,x.other,x.form,s⟩
abbrev tmC (x:PTerm) (s:SlV):List Value:=Term.C (tmT x s)
abbrev tmZ:Term:=⟨0,ByteArray.empty,ByteArray.empty,0,SlV.nil⟩
abbrev tmN (k f:Int) (s:SlV):Term:=⟨k,ByteArray.empty,ByteArray.empty,f,s⟩
abbrev tmM (k:Int) (n:ByteArray) (s:SlV):Term:=⟨k,n,ByteArray.empty,0,s⟩
abbrev ptN (k f:Int) (l:List PTerm):PTerm:=⟨k,ByteArray.empty,ByteArray.empty,f,l⟩
abbrev ptM (k:Int) (n:ByteArray) (l:List PTerm):PTerm:=⟨k,n,ByteArray.empty,0,l⟩
abbrev kd (x:PTerm) (i:Int):PTerm:=at_ PTerm.z x.sub i
abbrev bA (a:Array UInt8):ByteArray:=⟨a⟩
section
variable {rd:Option Nat} {n:Nat} {dm:List Nat} {ops:Array Oper} {rest:List Oper} {Q:Post} {f:Fr} {w:World} {d:Option Tmp} {gd:Option (Nat × Bool)}
theorem wsT {t b:Nat} {x y:Operand} {ty:_} {pos:String} {af:_} {a c:Term} (hx:evF f x = .pointer (some ⟨b,0,none⟩)) (hy:evF f y = .agg (Term.C c).toArray) (hb:Blk w b t (Term.C a))
  (h : ∀ w',Blk w' b t (Term.C c)→Chg (· = b) w w'→w'.heap.size=w.heap.size→wl PP rd n dm ops rest Q f w'):wl PP rd n dm ops (⟨none,.store zm x y,ty,pos,af,none⟩ :: rest) Q f w :=
 z7 z1 hx hy hb (Term.len _) (by rw [Term.len]; decide) (Term.one _) (xx (Term.len _)) h
theorem ldT {x:Operand} {t b:Nat} {ty:_} {pos:String} {af:_} {a:Term} (hx:evF f x = .pointer (some ⟨b,0,none⟩)) (hc:Blk w b t (Term.C a)):Does PP ⟨d,.load zm x,ty,pos,af,gd⟩ f w (.agg (Term.C a).toArray) w:=zt z1 hx (hc.all _ (Term.len _)) (Term.len _)
theorem ldC {x:Operand} {b o:Nat} {ty:_} {pos:String} {af:_} {a:Term} (hx:evF f x = .pointer (some ⟨b,o,none⟩)) (hc:ub w b o (Term.C a)):Does PP ⟨d,.load zm x,ty,pos,af,gd⟩ f w (.agg (Term.C a).toArray) w:=zt z1 hx hc (Term.len _)
theorem rtT {p t b:Nat} {a:Term} (hx:f p = .pointer (some ⟨b,0,none⟩)) (hc:Blk w b t (Term.C a)):vZ PP (.cell p zm) f w (.agg (Term.C a).toArray):=yS z1 hx (hc.all _ (Term.len _)) (Term.len _)
end
end
section
open Gw
section
variable {A:Nat→Prop} {N:Oth} {w0 w:World} {L Z:List OA}
theorem bigA_snoc {w:World} {μ α:Type} {R:μ→α→OA} {m:μ} {x:α} {ms:List μ} {l:List α} {F:Nat→Prop} (h:((bigA R ms l).and (R m x)).holds w F) : ∃ G,(bigA R (ms ++ [m]) (l ++ [x])).holds w G ∧ ∀ i,G i→F i:=by
 obtain ⟨G,H,g,hh,q⟩ := h
 exact ⟨_,bigA_push hh g,fun i hi=>(q i).2 hi⟩
theorem Gw.St.lenTm (h:St A N w0 w L Z) (k:Nat) {ms:List Term} {l:List PTerm} (e:Z[k]? = some (bigA xk ms l):=by rfl):ms.length=l.length:=(h.frz k e).elim fun _ h=>ky h
theorem Gw.St.snocTm {ms:List Term} {l:List PTerm} (h:St A N w0 w L Z) (k1 k2:Nat) {x:PTerm} {s:SlV} (e1:Z[k1]? = some (bigA xk ms l):=by rfl) (e2:Z[k2]? = some (ze s x.sub):=by rfl):St A N w0 w L (bigA xk (ms ++ [mT x s]) (l ++ [x]) :: Z):=by
 have h1:=h.part k2 (a:=ze s x.sub) (b:=xk (mT x s) x) (fun F q=>⟨F,zab q,fun _ q=>q⟩) e2
 have h2:=h1.andZ (k1 + 1) 0 (a:=bigA xk ms l) (b:=xk (mT x s) x) (by simpa using e1) rfl
 have h3:=h2.part 0 (a:=(bigA xk ms l).and (xk (mT x s) x)) (b:=bigA xk (ms ++ [mT x s]) (l ++ [x])) (fun F q=>bigA_snoc q)
 refine h3.pickZ fun z hz=>?_
 rcases List.mem_cons.1 hz with rfl | hz
 ·exact List.mem_cons_self ..
 ·exact List.mem_cons_of_mem _ (List.mem_cons_of_mem _ (List.mem_cons_of_mem _ hz))
end
end
section
open Gw Go.RowKit
def oCl (b o:Nat) (l:List Value):OA where
 holds:=fun w F=>ub w b o l∧b < w.heap.size ∧ ∀ i,F i↔i=b
 loc:=fun h hc hs=>⟨ub.chg h.1 hc (hs _ ((h.2.2 _).2 rfl)),Nat.lt_of_lt_of_le h.2.1 hc.size,h.2.2⟩
 lt:=fun h i hi=>by rw [(h.2.2 i).1 hi]; exact h.2.1
section
variable {A:Nat→Prop} {N:Oth} {w0 w:World} {L Z:List OA}
theorem Gw.St.cl (h:St A N w0 w L Z) (k:Nat) {b o:Nat} {l:List Value} (e:Z[k]? = some (oCl b o l):=by rfl):ub w b o l:=(h.frz k e).elim fun _ q=>q.1
theorem Gw.St.viewTermC (h:St A N w0 w L Z) (k:Nat) {s:SlV} {l:List PTerm} {i:Int} (hi:0 ≤ i∧i < l.length) (e:Z[k]? = some (ze s l):=by rfl) :
  ∃ n:SlV,St A N w0 w L (oCl s.blk (s.off + Int.toNat i * 5) (Term.C ⟨(at_ PTerm.z l i).kind,(at_ PTerm.z l i).name,(at_ PTerm.z l i).other,(at_ PTerm.z l i).form,n⟩) :: ze n (at_ PTerm.z l i).sub :: Z):=by
 obtain ⟨n,hc,S⟩ := h.viewTerm k hi e
 refine ⟨n,S.part (k + 1) (a:=ze s l) (b:=oCl s.blk (s.off + Int.toNat i * 5) (Term.C ⟨(at_ PTerm.z l i).kind,(at_ PTerm.z l i).name,(at_ PTerm.z l i).other,(at_ PTerm.z l i).form,n⟩)) (fun F hF=>⟨fun j=>j=s.blk,⟨hc,?_,fun _=>Iff.rfl⟩,fun j hj=>?_⟩) (by simpa using e)⟩
 ·exact World.block_lt_of_cell? (a:=⟨_,_,none⟩) w (hc 0 (.int .i64 (at_ PTerm.z l i).kind) rfl)
 ·obtain ⟨⟨d,ms⟩,G,H,g,hh,q⟩ := hF
  have hl:=ky hh
  rw [hj]
  refine (q _).2 (.inl ((g.2 _).2 ⟨fun e0=>?_,rfl⟩))
  have e0':ms=[]:=e0
  rw [e0'] at hl
  simp at hl
  omega
end
end
section
open Go.RowKit
namespace Gw
section
variable {P:Program} {rd:Option Nat} {n:Nat} {dm:List Nat} {ops:Array Oper} {Q:Post} {f:Fr} {w:World} {rest:List Oper} {ty:TypeId} {pos:String} {af:Array Edge}
theorem does_clipZ {α:Type} {C:α→List Value} {d:Option Tmp} {gd:Option (Nat × Bool)} {t e k:Nat} {x y z:Operand} {s:SlV} {l:List α} {kd kd':IntKind} {i:Int} (ht:xV P t e k) (hx:evF f x=s.v) (hy:evF f y = .int kd i) (hz:evF f z = .int kd' i) (hs:Rd w k s (l.map C)) (hi:0 ≤ i∧i ≤ l.length) :
  Does P ⟨d,.slice t x none (some y) (some z),ty,pos,af,gd⟩ f w (⟨s.p,i.toNat,i.toNat⟩ : SlV).v w:=by
 have hn:=hs.sl.len
 rw [List.length_map] at hn
 have:=hs.room
 refine (does_sliceG (l:=0) (h:=i.toNat) (m:=i.toNat) ht hx (by simp only [Option.map_none,Option.map_some,hy,hz]; exact bounds_him hi.1 zan)).val ?_
 cases hp:s.p <;> simp [SlV.eq,hp,Addr.add]
theorem Rd.clip {α:Type} {C:α→List Value} {k:Nat} {s:SlV} {l:List α} {i:Int} (hs:Rd w k s (l.map C)) (hi:0 ≤ i∧i ≤ l.length):Rd w k ⟨s.p,i.toNat,i.toNat⟩ ((l.take i.toNat).map C) ∧ ∀ j,SlV.fp ⟨s.p,i.toNat,i.toNat⟩ j→s.fp j:=by
 have hfp : ∀ j,SlV.fp ⟨s.p,i.toNat,i.toNat⟩ j→s.fp j:=fun j hj=>hj
 refine ⟨⟨⟨?_,fun r hr=>?_,fun j r hj=>?_⟩,fun j hj=>hs.lt j (hfp j hj),Nat.le_refl _⟩,hfp⟩
 ·simp; omega
 ·obtain ⟨a,ha,rfl⟩ := List.mem_map.1 hr
  exact hs.sl.row _ (List.mem_map.2 ⟨a,List.mem_of_mem_take ha,rfl⟩)
 ·have hj':(l.map C)[j]? = some r:=by
   rw [List.getElem?_map,List.getElem?_take] at hj
   rw [List.getElem?_map]
   split at hj
   ·exact hj
   ·simp at hj
  exact hs.sl.cells _ _ hj'
theorem wl_appendZ {α:Type} {C:α→List Value} {dd:Tmp} {t e k bytes:Nat} {x y:Operand} {s r:SlV} {l m:List α} (ht:xV P t e k) (he:uc P e k bytes) (hx:evF f x=s.v) (hy:evF f y=r.v) (hs:Rd w k s (l.map C)) (hfull:s.c=s.n) (hr:Rd w k r (m.map C)) (hne:m ≠ [])
  (hm:(l.length + m.length) * bytes ≤ 140737488355328) (hm2:l.length + m.length ≤ 140737488355328) (hd:dd < n)
  (h : ∀ (s':SlV) w',Own w' 0 e k s' ((l ++ m).map C)→Ext w w'→(∀ i,s'.fp i→w.heap.size ≤ i)→wl P rd n dm ops rest Q (upd f dd s'.v) w'):wl P rd n dm ops (⟨some dd,.call ⟨.builtin .append,#[x,y],#[t,t]⟩,ty,pos,af,none⟩ :: rest) Q f w:=by
 obtain ⟨i,z,hi,hz,hsz,hby,hzs,hk0⟩ := he
 have hp:r.p=some ⟨r.blk,r.off,none⟩ := by
  cases m with
  | nil=>exact absurd rfl hne
  | cons a m=>exact (hr.sl.cells 0 (C a) rfl).1
 have hnl:(m.map C).flatten.length=m.length * k:=by have:=jB hr.sl.row; simpa using this
 have hol:(l.map C).flatten.length=l.length * k:=by have:=jB hs.sl.row; simpa using this
 have hpos:0 < m.length:=List.length_pos_iff.2 hne
 have hcell : ∀ {s:SlV} {l:List α},Rd w k s (l.map C) → ∀ j u,((l.map C).flatten)[j]? = some u→w.cell? ((⟨s.blk,s.off,none⟩ : Addr).add j)=some u:=by
  intro s l hr j u hj
  rw [k8]
  have hl:(l.map C).flatten.length=l.length * k:=by have:=jB hr.sl.row; simpa using this
  have hlt:j < l.length * k:=by rw [← hl]; exact (List.getElem?_eq_some_iff.1 hj).1
  have hq:j / k < (l.map C).length:=by rw [List.length_map]; exact Nat.div_lt_of_lt_mul (by rw [Nat.mul_comm]; exact hlt)
  have hc:=(hr.sl.cells (j / k) _ (List.getElem?_eq_getElem hq)).2
  have hmod:j % k < k:=Nat.mod_lt _ hk0
  have hf:=flat_at (l.map C) (j / k) _ (j % k) hmod hr.sl.row (List.getElem?_eq_getElem hq)
  rw [Nat.div_add_mod' j k,hj] at hf
  have:=hc (j % k) u hf.symm
  rw [Nat.add_assoc,Nat.div_add_mod' j k] at this
  exact this
 have hrow : ∀ q ∈ (l ++ m).map C,q.length=k:=fun q hq=>by
  rw [List.map_append] at hq
  exact (List.mem_append.1 hq).elim (hs.sl.row q) (hr.sl.row q)
 have hwrap : ∀ (s':SlV) w',(Builtin.append_ #[t,t] ty #[s.v,.slice (some ⟨r.blk,r.off,none⟩) m.length r.c]).run P w = .ok s'.v w'→Does P ⟨some dd,.call ⟨.builtin .append,#[x,y],#[t,t]⟩,ty,pos,af,none⟩ f w s'.v w':=by
  intro s' w' hrun
  unfold Does
  show (execOp (evF f) _).run P w=_
  unfold execOp
  have hrv:r.v = .slice (some ⟨r.blk,r.off,none⟩) m.length r.c:=by rw [SlV.eq,hp,hr.sl.len]; simp
  simp only [resolve,invoke,builtin,Sem.run_bind,Sem.run_pure,Result.andThen_ok,List.map_toArray,List.map_cons,List.map_nil,hx,hy]
  rw [hrv,hrun]
  rfl
 have fresh : ∀ (old:Nat),(Builtin.append_ #[t,t] ty #[s.v,.slice (some ⟨r.blk,r.off,none⟩) m.length r.c]).run P w = .ok (.slice (some ⟨w.heap.size,0,none⟩) (l.length + m.length) (grownCap w (l.length + m.length) old e)) (w.drew.alloc (.cells ((l.map C).flatten.toArray ++ (m.map C).flatten.toArray ++ Builtin.zeroCells z.cells (grownCap w (l.length + m.length) old e - (l.length + m.length))) e))→wl P rd n dm ops (⟨some dd,.call ⟨.builtin .append,#[x,y],#[t,t]⟩,ty,pos,af,none⟩ :: rest) Q f w:=by
  intro old hr2
  have hge:=grownCap_ge w (l.length + m.length) old e
  refine zj (v:=(⟨some ⟨w.heap.size,0,none⟩,l.length + m.length,grownCap w (l.length + m.length) old e⟩ : SlV).v) (hwrap _ _ (by simp only [SlV.eq] at hr2 ⊢; exact hr2)) hd (h _ _ ⟨.inr ⟨w.heap.size,grownCap w (l.length + m.length) old e,_,by simp,Nat.zero_le _,heap_alloc_new w.drew _,by simpa using hge,?_,?_⟩,hrow⟩ ⟨rfl,rfl,rfl,by simp,fun b hb _=>heap_alloc_old (w:=w.drew) (h:=hb) ..,kD w.drew _ (ve.cells _ _)⟩ (fun j hj=>Nat.le_of_eq hj.2.symm))
  ·simp only [Array.size_append,List.size_toArray,size_zeroCells,hzs,hol,hnl,← Nat.add_mul]
   exact Nat.mul_le_mul_right k zan
  ·simp only [Array.toList_append,List.append_assoc,List.flatten_append,List.length_append,List.map_append,List.length_map]
   rw [← List.append_assoc,Nat.add_mul,← hol,← hnl,← List.length_append]
   exact List.take_left
 have hn:s.n=l.length:=by have:=hs.sl.len; simpa using this
 cases hsp:s.p with
 | none =>
  have hl0:l=[]:=by
   cases l with
   | nil=>rfl
   | cons a l=>have:=(hs.sl.cells 0 (C a) rfl).1; rw [hsp] at this; cases this
  subst hl0
  have hr2:=run_append_nil (P:=P) w t ty e i z ht.1 hi hz ⟨r.blk,r.off,none⟩ m.length r.c (m.map C).flatten (by rw [hnl,hsz]) (hcell hr) hpos zan (by have:=hm; simp only [List.length_nil,Nat.zero_add] at this; rw [hby]; omega)
  refine fresh 0 ?_
  have e:s.v = .slice none 0 0:=by rw [SlV.eq,hsp,hfull,hn]; rfl
  rw [e]
  simpa using hr2
 | some a =>
  have hr2:=run_append_grow (P:=P) w t ty e i z ht.1 hi hz a l.length l.length (l.map C).flatten (by rw [hsz]; exact hol) (fun j u hj=>?_) ⟨r.blk,r.off,none⟩ m.length r.c (m.map C).flatten (by rw [hnl,hsz]) (hcell hr) zan zan (growslice_fits zan (by rw [hby]; exact hm))
  ·exact fresh l.length (by rw [SlV.eq,hsp,hfull,hn]; exact hr2)
  ·have hq:s.p=some ⟨s.blk,s.off,none⟩ := by
    cases l with
    | nil=>simp at hj
    | cons b l=>exact (hs.sl.cells 0 (C b) rfl).1
   rw [hsp] at hq
   rw [zaq hq]
   exact hcell hs j u hj
theorem wl_makeN {α:Type} {C:α→List Value} {dd:Tmp} {t e k bytes:Nat} {x y:Operand} {z:α} {v:Value} {i:Int} {kl kc:IntKind} (ht:xV P t e k) (he:uc P e k bytes) (hz:(P.info? e).bind (·.zero)=some v) (hx:evF f x = .int kl i) (hy:evF f y = .int kc i) (h1:v.cells=(C z).toArray) (h0:0 ≤ i) (hm:i.toNat * bytes ≤ 140737488355328) (hm2:i.toNat * k ≤ 16777216) (hd:dd < n)
  (h : ∀ b w' (s:SlV),(Own w' 0 e k s ((List.replicate i.toNat z).map C) ∧ ∀ i,s.fp i→i=b)→(Ext w w'∧w.heap.size ≤ b)→wl P rd n dm ops rest Q (upd f dd s.v) w'):wl P rd n dm ops (⟨some dd,.makeSlice t x y,ty,pos,af,none⟩ :: rest) Q f w:=by
 obtain ⟨ti,z',hi,hz',hsz,hby,hzs,hk0⟩ := he
 have hzv:z'=v:=by rw [hi] at hz; simp only [zar,hz'] at hz; exact zaq hz
 subst hzv
 have hm3:i.toNat ≤ i.toNat * k:=Nat.le_mul_of_pos_right _ hk0
 obtain ⟨w',hr,hown,hgr⟩ := run_makeSlice_full (P:=P) w 0 t e ti z' k ht.1 hi hz' hsz kl kc i.toNat zan (by rw [hby,Nat.mul_comm]; omega) (by unfold maxLen; omega) (Nat.zero_le _)
 have hb1:bytes * i.toNat ≤ 281474976710656:=by rw [Nat.mul_comm]; omega
 have hb2:(bytes:Int) * (i.toNat:Int) ≤ 281474976710656:=by
  have h:((bytes * i.toNat:Nat):Int) ≤ 281474976710656:=by omega
  rwa [Int.natCast_mul] at h
 have hw':=run_makeSlice (P:=P) (w:=w) t e ti z' ht.1 hi hz' kl kc (i.toNat:Int) (i.toNat:Int) (Int.natCast_nonneg _) (Int.le_refl _) (by rw [hsz,Int.toNat_natCast]; exact hm2) (by rw [hby]; exact hb2) zan
 have hE:Ext w w':=⟨hgr.os,hgr.tape,hgr.output,hgr.size,fun b hb _=>hgr.block b hb zao,by
  rw [hr] at hw'
  injection hw' with _ hw2
  rw [hw2]
  exact kD _ _ (ve.cells _ _)⟩
 have hck:(C z).length=k:=by have:=congrArg Array.size h1; simp only [List.size_toArray] at this; omega
 have hfl:(madeCells z'.cells (i.toNat * k)).toList=((List.replicate i.toNat z).map C).flatten:=by
  rw [h1]
  simp only [madeCells,Array.toList_map,Array.toList_range,List.map_replicate,List.size_toArray,hck]
  generalize i.toNat=m
  refine List.ext_getElem? fun j=>?_
  have hrow : ∀ r ∈ List.replicate m (C z),r.length=k:=fun r hr=>by rw [(List.mem_replicate.1 hr).2,hck]
  have hlen:(List.replicate m (C z)).flatten.length=m * k:=by rw [jB hrow,List.length_replicate]
  by_cases hj:j < m * k
  ·have hq:j / k < m:=Nat.div_lt_of_lt_mul (by rw [Nat.mul_comm]; exact hj)
   have hmod:j % k < k:=Nat.mod_lt _ hk0
   have hf:=flat_at (List.replicate m (C z)) (j / k) (C z) (j % k) hmod hrow (by simp [hq])
   rw [Nat.div_add_mod' j k] at hf
   rw [hf]
   have hlt:j % k < (C z).length:=by omega
   simp [hj,hlt]
  ·rw [List.getElem?_eq_none (by simpa using Nat.not_lt.1 hj),List.getElem?_eq_none (by rw [hlen]; omega)]
 refine zj (v:=(⟨some ⟨w.heap.size,0,none⟩,i.toNat,i.toNat⟩ : SlV).v) (w':=w') ?_ hd (h w.heap.size w' _ ⟨Own.of ?_ ?_,fun j hj=>hj.2⟩ ⟨hE,Nat.le_refl _⟩)
 ·unfold Does execOp
  simp only [hx,hy]
  rw [show i=(i.toNat:Int) by omega,SlV.eq]
  simp only [Int.toNat_natCast]
  simp only [Sem.run_bind,hr,Result.andThen_ok,Sem.run_pure]
 ·rw [SlV.eq]; simp only [List.length_map,List.length_replicate]; rw [← hfl]; exact hown
 ·intro r hr
  obtain ⟨b,hb,rfl⟩ := List.mem_map.1 hr
  rw [(List.mem_replicate.1 hb).2,hck]
theorem set_flatk {α:Type} {C:α→List Value} {a:α} {k:Nat} (ha:(C a).length=k) : ∀ (l:List α) (j:Nat),(∀ b ∈ l,(C b).length=k)→j < l.length→((l.set j a).map C).flatten=((l.map C).flatten).take (j * k) ++ C a ++ ((l.map C).flatten).drop (j * k + k)
 | [],_,_,hj=>by simp at hj
 | b :: l,j,hb,hj=>by
  have hk:=hb b zao
  cases j with
  | zero=>simp [← hk]
  | succ j =>
   have ih:=set_flatk ha l j (fun c hc=>hb c (by simp [hc])) (by simpa using hj)
   simp only [List.set_cons_succ,List.map_cons,List.flatten_cons,ih]
   rw [show (j + 1) * k=(C b).length + j * k by rw [hk,Nat.add_mul]; omega,List.take_length_add_append,show (C b).length + j * k + k=(C b).length + (j * k + k) by omega,List.drop_length_add_append]
   simp
theorem kn {α:Type} {C:α→List Value} {t e k:Nat} {x y:Operand} {s:SlV} {l:List α} {a:α} {i:Int} (ht:AggT P t k) (hx:evF f x = .pointer (some ⟨s.blk,s.off + i.toNat * k,none⟩)) (hy:evF f y = .agg (C a).toArray) (hs:Own w 0 e k s (l.map C)) (hi:0 ≤ i∧i < l.length) (ha:(C a).length=k) (h1 : ∀ v ∈ C a,v.oneCell'=true)
  (h : ∀ w',Own w' 0 e k s ((l.set i.toNat a).map C)→Chg s.fp w w'→wl P rd n dm ops rest Q f w'):wl P rd n dm ops (⟨none,.store t x y,ty,pos,af,none⟩ :: rest) Q f w:=by
 have hrow : ∀ r ∈ ((l.set i.toNat a).map C),r.length=k:=by
  intro r hr
  obtain ⟨b,hb,rfl⟩ := List.mem_map.1 hr
  rcases List.mem_or_eq_of_mem_set hb with hb | rfl
  ·exact hs.row _ (List.mem_map.2 ⟨b,hb,rfl⟩)
  ·exact ha
 have hone : ∀ b ∈ l,(C b).length=k:=fun b hb=>hs.row _ (List.mem_map.2 ⟨b,hb,rfl⟩)
 have hset:=set_flatk ha l i.toNat hone zan
 have hll:=flat_len hone
 rcases hs.own with ⟨_,hn⟩ | ⟨g,cap,cur,rfl,hlo,hg,hnc,hcs,htk⟩
 ·simp at hn; subst hn; simp at hi; omega
 ·rw [List.length_map] at hnc htk
  have hik:i.toNat * k + k ≤ l.length * k:=by rw [← Nat.succ_mul]; exact Nat.mul_le_mul_right k zan
  have hlk:l.length * k ≤ cur.size:=Nat.le_trans (Nat.mul_le_mul_right k hnc) hcs
  have hx':evF f x = .pointer (some ⟨g,i.toNat * k,none⟩):=by rw [hx]; simp [SlV.blk,SlV.off]
  refine z7 (l:=cur.toList) (l':=cur.toList.take (i.toNat * k) ++ C a ++ cur.toList.drop (i.toNat * k + k)) ht hx' hy (by show w.heap[g]? = _; simpa using hg) ha (by simpa using Nat.le_trans hik hlk) h1 rfl fun w' hb hc _=>?_
  refine h w' ⟨.inr ⟨g,cap,(cur.toList.take (i.toNat * k) ++ C a ++ cur.toList.drop (i.toNat * k + k)).toArray,by simp,hlo,hb,by simpa using hnc,?_,?_⟩,hrow⟩ (hc.mono fun j _ hj=>⟨by simp,by rw [hj]; rfl⟩)
  ·simp only [List.size_toArray,List.length_append,List.length_take,List.length_drop,Array.length_toList,ha]
   omega
  ·rw [hset,← htk]
   simp only [List.length_map,List.length_set]
   have e1:(cur.toList.take (i.toNat * k)).length=i.toNat * k:=by simp; omega
   rw [List.take_take,Nat.min_eq_left zan,List.drop_take,List.append_assoc,List.append_assoc,List.take_append,e1,List.take_of_length_le zan,List.take_append,ha,List.take_of_length_le (l:=C a) zan]
   rw [show l.length * k - i.toNat * k - k=l.length * k - (i.toNat * k + k) by omega]
theorem wl_appendT {α:Type} {C:α→List Value} {dd:Tmp} {t e k bytes:Nat} {x y:Operand} {s r:SlV} {l m:List α} (ht:xV P t e k) (he:uc P e k bytes) (hx:evF f x=s.v) (hy:evF f y=r.v) (hs:Own w 0 e k s (l.map C)) (hr:Sl w k r (m.map C))
  (h1 : ∀ a,∀ v ∈ C a,v.oneCell'=true) (hm:(l.length + m.length) * bytes ≤ 140737488355328) (hm2:l.length + m.length ≤ 140737488355328) (hd:dd < n)
  (h : ∀ (s':SlV) w',Own w' 0 e k s' ((l ++ m).map C)→Chg s.fp w w'→(∀ i,s'.fp i→s.fp i∨w.heap.size ≤ i)→wl P rd n dm ops rest Q (upd f dd s'.v) w'):wl P rd n dm ops (⟨some dd,.call ⟨.builtin .append,#[x,y],#[t,t]⟩,ty,pos,af,none⟩ :: rest) Q f w:=by
 by_cases hne:m=[]
 ·subst hne
  refine zj (does_append0 ht hx hy hs.room (by have:=hr.len; simpa using this)) hd ?_
  exact h s w (by simpa using hs) (Chg.refl _ _) (fun i hi => .inl hi)
 ·refine wl_append (news:=m.map C) ht he hx hy hs hr (by simpa using hne) ?_ (by simpa using hm) (by simpa using hm2) (Nat.zero_le _) hd fun s' w' ho hc hg=>h s' w' (by simpa using ho) hc hg
  intro r hr v hv
  obtain ⟨a,ha,rfl⟩ := List.mem_map.1 hr
  exact h1 a v hv
end
section
variable {A:Nat→Prop} {N:Oth} {w0 w w':World} {L Z:List OA}
theorem St.clipZ (h:St A N w0 w L Z) (n:Nat) {k:Nat} {α:Type} {C:α→List Value} {s:SlV} {l:List α} {i:Int} (hi:0 ≤ i∧i ≤ l.length) (q:Z[n]? = some (fS k C s l):=by rfl) :
  St A N w0 w L (fS k C ⟨s.p,i.toNat,i.toNat⟩ (l.take i.toNat) :: Z) :=
 h.part n (a:=fS k C s l) (fun _ hF=>⟨_,⟨⟨(Rd.clip hF.1.1 hi).1,by have:=hF.1.2; simp only [List.length_take]; omega⟩,fun _=>Iff.rfl⟩,fun j hj=>(hF.2 j).2 ((Rd.clip hF.1.1 hi).2 j hj)⟩) q
theorem St.ownS (h:St A N w0 w L Z) {e k:Nat} {α:Type} {C:α→List Value} {s:SlV} {l:List α} (hc:Ext w w') (ho:Own w' 0 e k s (l.map C)) (hl:l.length ≤ 140737488355328) (hf : ∀ i,s.fp i→w.heap.size ≤ i):St A N w0 w' (oS e k C s l :: L) Z :=
 h.add (b:=oS e k C s l) (G:=s.fp) hc ⟨⟨ho,hl⟩,fun _=>Iff.rfl⟩ hf
end
end Gw
end
section
open Gw Go.RowKit
theorem yB.elt_ {w:World} {s:SlV} {l:List PTerm} (h:(ze s l).on w) {i:Int} (hi:0 ≤ i∧i < l.length) : ∃ n:SlV,ub w s.blk (s.off + i.toNat * 5) (Term.C ⟨(at_ PTerm.z l i).kind,(at_ PTerm.z l i).name,(at_ PTerm.z l i).other,(at_ PTerm.z l i).form,n⟩):=by
 obtain ⟨F,⟨d,ms⟩,G,H,g,hh,q⟩ := h
 have hl:ms.length=l.length:=ky hh
 have h1:i.toNat < ms.length:=by omega
 have h2:i.toNat < l.length:=by omega
 have h3:at_ PTerm.z l i=l[i.toNat]:=by simp [at_,List.getD_eq_getElem?_getD,h2]
 obtain ⟨K,hk,hK⟩ := bigA_at hh (List.getElem?_eq_getElem h1) (List.getElem?_eq_getElem h2)
 obtain ⟨e1,e2,e3,e4⟩ := fTm_eqs hk
 have hc:=fT.at ⟨_,g⟩ (List.getElem?_eq_getElem h1)
 exact ⟨ms[i.toNat].sub,by rw [h3,← e1,← e2,← e3,← e4]; exact hc⟩
theorem yB.get_kind {w:World} {s:SlV} {l:List PTerm} (h:(ze s l).on w) {i:Int} (hi:0 ≤ i∧i < l.length):w.cell? ⟨s.blk,s.off + i.toNat * 5 + 0,none⟩ = some (.int .i64 (at_ PTerm.z l i).kind):=by
 obtain ⟨n,hc⟩ := yB.elt_ h hi
 exact hc.get (Term.get_kind _)
theorem yB.get_name {w:World} {s:SlV} {l:List PTerm} (h:(ze s l).on w) {i:Int} (hi:0 ≤ i∧i < l.length):w.cell? ⟨s.blk,s.off + i.toNat * 5 + 1,none⟩ = some (.string (at_ PTerm.z l i).name):=by
 obtain ⟨n,hc⟩ := yB.elt_ h hi
 exact hc.get (Term.get_name _)
theorem yB.get_form {w:World} {s:SlV} {l:List PTerm} (h:(ze s l).on w) {i:Int} (hi:0 ≤ i∧i < l.length):w.cell? ⟨s.blk,s.off + i.toNat * 5 + 3,none⟩ = some (.int .i64 (at_ PTerm.z l i).form):=by
 obtain ⟨n,hc⟩ := yB.elt_ h hi
 exact hc.get (Term.get_form _)
section
variable {A:Nat→Prop} {N:Oth} {w0 w:World} {L Z:List OA}
theorem Gw.St.openTm (h:St A N w0 w L Z) (k:Nat) {s:SlV} {l:List PTerm} (e:Z[k]? = some (ze s l):=by rfl) : ∃ ms:List Term,St A N w0 w L (fT s ms :: bigA xk ms l :: Z):=by
 obtain ⟨⟨d,ms⟩,h1⟩ := h.unexZ k (f:=fun (q:Nat × List Term)=>(fT s q.2).and (bigA (fTm q.1) q.2 l)) e
 have h2:=h1.unandZ 0 (a:=fT s ms) (b:=bigA (fTm d) ms l)
 have h3:=h2.part 1 (a:=bigA (fTm d) ms l) (b:=bigA xk ms l) (fun F q=>⟨F,bigA_mono (R:=fTm d) (R':=xk) (fun _ _ _ q=>⟨d,q⟩) q,fun _ q=>q⟩)
 refine ⟨ms,h3.pickZ fun z hz=>?_⟩
 rcases List.mem_cons.1 hz with rfl | hz
 ·simp
 rcases List.mem_cons.1 hz with rfl | hz
 ·simp
 ·simp [hz]
theorem bigA_setI {w:World} {m:Term} {x:PTerm} {ms:List Term} {l:List PTerm} {i:Nat} {F:Nat→Prop} (h:((bigA xk ms l).and (xk m x)).holds w F) : ∃ G,(bigA xk (ms.set i m) (l.set i x)).holds w G ∧ ∀ i,G i→F i:=by
 obtain ⟨G,H,g,hh,q⟩ := h
 obtain ⟨K,hk,hK⟩ := bigA_set hh (i:=i) g
 exact ⟨K,hk,fun j hj=>(q j).2 (hK j hj)⟩
theorem Gw.St.setTm {ms:List Term} {l:List PTerm} (h:St A N w0 w L Z) (k1 k2 i:Nat) {x:PTerm} {s:SlV} (e1:Z[k1]? = some (bigA xk ms l):=by rfl) (e2:Z[k2]? = some (ze s x.sub):=by rfl):St A N w0 w L (bigA xk (ms.set i (mT x s)) (l.set i x) :: Z):=by
 have h1:=h.part k2 (a:=ze s x.sub) (b:=xk (mT x s) x) (fun F q=>⟨F,zab q,fun _ q=>q⟩) e2
 have h2:=h1.andZ (k1 + 1) 0 (a:=bigA xk ms l) (b:=xk (mT x s) x) (by simpa using e1) rfl
 have h3:=h2.part 0 (a:=(bigA xk ms l).and (xk (mT x s) x)) (b:=bigA xk (ms.set i (mT x s)) (l.set i x)) (fun F q=>bigA_setI q)
 refine h3.pickZ fun z hz=>?_
 rcases List.mem_cons.1 hz with rfl | hz
 ·exact List.mem_cons_self ..
 ·exact List.mem_cons_of_mem _ (List.mem_cons_of_mem _ (List.mem_cons_of_mem _ hz))
theorem Gw.St.viewH (h:St A N w0 w L Z) (j k:Nat) {s:SlV} {ms:List Term} {l:List PTerm} {i:Int} (hi:0 ≤ i∧i < l.length) (e:L[j]? = some (oS zm 5 Term.C s ms):=by rfl) (e':Z[k]? = some (bigA xk ms l):=by rfl) :
  ∃ n:SlV,ub w s.blk (s.off + i.toNat * 5) (Term.C ⟨(at_ PTerm.z l i).kind,(at_ PTerm.z l i).name,(at_ PTerm.z l i).other,(at_ PTerm.z l i).form,n⟩)∧St A N w0 w L (ze n (at_ PTerm.z l i).sub :: Z):=by
 have hl:ms.length=l.length:=h.lenTm k e'
 have hr:=h.rdO j e
 have h1:i.toNat < ms.length:=by omega
 have h2:i.toNat < l.length:=by omega
 have h3:at_ PTerm.z l i=l[i.toNat]:=by simp [at_,List.getD_eq_getElem?_getD,h2]
 have hc:=hr.at (List.getElem?_eq_getElem h1)
 have q:=h.part k (a:=bigA xk ms l) (b:=xk ms[i.toNat] l[i.toNat]) (fun F q=>bigA_at q (List.getElem?_eq_getElem h1) (List.getElem?_eq_getElem h2)) e'
 rw [← h3] at q
 obtain ⟨e1,e2,e3,e4⟩ := q.eqsTm 0
 have q2:=q.subTm 0
 refine ⟨ms[i.toNat].sub,by rw [← e1,← e2,← e3,← e4]; exact hc,q2.pickZ fun z hz=>?_⟩
 rcases List.mem_cons.1 hz with rfl | hz
 ·exact List.mem_cons_self ..
 ·exact List.mem_cons_of_mem _ (List.mem_cons_of_mem _ hz)
theorem rep_holds (w:World) : ∀ n,(bigA xk (List.replicate n Term.z) (List.replicate n PTerm.z)).holds w (fun _=>False)
 | 0=>⟨trivial,fun _ x=>x⟩
 | n + 1=>by
  refine ⟨fun _=>False,fun _=>False,?_,rep_holds w n,fun _=>⟨fun x=>x.elim,fun x=>x.elim id id⟩⟩
  have:(yB SlV.nil PTerm.z.sub).holds w (fun _=>False):=⟨(0,[]),fun _=>False,fun _=>False,⟨⟨by simpa using Sl.nil w 5,by simp⟩,fun i=>⟨fun x=>x.elim,fun x=>absurd rfl x.1⟩⟩,⟨trivial,fun _ x=>x⟩,fun _=>⟨fun x=>x.elim,fun x=>x.elim id id⟩⟩
  exact zab this
theorem Gw.St.repTm (h:St A N w0 w L Z) (n:Nat):St A N w0 w L (bigA xk (List.replicate n Term.z) (List.replicate n PTerm.z) :: Z):=h.say (rep_holds w n)
end
section
variable {A:Nat→Prop} {N:Oth} {w:World}
def zaz.f (l:List PTerm):Option (List PTerm):=chk (decide (l.length ≤ 1000000000)) (some l)
theorem yd {l:List PTerm} {s:SlV} (S:St A N w w [] [ze s l]) {r:List PTerm} (H:zaz.f l=some r):Calls PP vn #[s.v] w fun e w' => ∃ v,e = .returned v ∧ ∃ (s':SlV) (ms:List Term),(v=s'.v∧St A N w w' [oS zm 5 Term.C s' ms] [bigA xk ms r]):=by
 obtain ⟨hl,H⟩ := zX H
 obtain rfl:=zaq H
 replace hl:=of_decide_eq_true hl
 obtain ⟨ms,S⟩ := S.openTm 0
 have hml:ms.length=l.length:=S.lenTm 1
 refine zu (n:=8) Tryz.func78 rfl rfl zao ?_
 repeat (first | refine zb ?_ | refine za ?_ | refine zL ?_)
 repeat (first | refine zj (zh rfl) zam ?_ | refine zj (zk rfl) zam ?_ | refine zj (zB rfl) zam ?_ | refine zj (zM rfl) zam ?_ | refine zj (zi rfl) zam ?_ | refine zj (xT) zam ?_)
 refine zd ?_
 repeat (first | refine zb ?_ | refine za ?_ | refine zL ?_)
 repeat (first | refine zj (zh rfl) zam ?_ | refine zj (zk rfl) zam ?_ | refine zj (zB rfl) zam ?_ | refine zj (zM rfl) zam ?_ | refine zj (zi rfl) zam ?_ | refine zj (xT) zam ?_)
 refine zj (does_isnil zq rfl rfl) zam ?_
 refine zd ?_
 refine zI rfl (fun hc=>?_) (fun hc=>?_)
 ·repeat (first | refine zb ?_ | refine za ?_ | refine zL ?_)
  repeat (first | refine zj (zh rfl) zam ?_ | refine zj (zk rfl) zam ?_ | refine zj (zB rfl) zam ?_ | refine zj (zM rfl) zam ?_ | refine zj (zi rfl) zam ?_ | refine zj (xT) zam ?_)
  refine zd ?_
  refine zr ?_
  refine ⟨_,(zP (zf rfl)),SlV.nil,[],rfl,?_⟩
  have hr:=fT.sl (S.frz 0 rfl)
  obtain rfl:ms=[]:=by
   cases ms with
   | nil=>rfl
   | cons a l =>
    have:=(hr.cells 0 (Term.C a) rfl).1
    rw [this] at hc; cases hc
  exact (S.zs (Z':=[bigA xk [] l]) [1]).nil zm 5 Term.C
 ·refine zw ?_
  repeat (first | refine zb ?_ | refine za ?_ | refine zL ?_)
  refine vi (C:=Term.C) (l:=[]) (vs:=[]) zq uu.zero rfl rfl zao zam rfl zam fun b w1 s1 hB h1=>?_
  replace S:=S.lit hB h1 zao
  repeat (first | refine zj (zh rfl) zam ?_ | refine zj (zk rfl) zam ?_ | refine zj (zB rfl) zam ?_ | refine zj (zM rfl) zam ?_ | refine zj (zi rfl) zam ?_ | refine zj (xT) zam ?_)
  refine wl_appendT (C:=Term.C) (m:=ms) zq uu rfl rfl (S.sl 0) (fT.sl (S.frz 0 rfl)) Term.one (by simp; omega) (by simp; omega) zam fun s2 w2 O h2 g2=>?_
  replace S:=S.push 0 (l':=[] ++ ms) O (by simp; omega) h2 g2
  refine zj (yM rfl) zam ?_
  refine zd ?_
  refine zr ?_
  exact ⟨_,(zP (zf rfl)),s2,ms,rfl,S.zs (Z':=[bigA xk ms l]) [1]⟩
def zaA.f (l:List Int):Option (List Int):=chk (decide (l.length ≤ 1000000000)) (some l)
theorem uV {l:List Int} {s:SlV} (S:St A N w w [] [fS 1 IC s l]) {r:List Int} (H:zaA.f l=some r):Calls PP u7 #[s.v] w fun e w' => ∃ v,e = .returned v ∧ ∃ s':SlV,(v=s'.v∧St A N w w' [oS xy 1 IC s' r] []):=by
 obtain ⟨hl,H⟩ := zX H
 obtain rfl:=zaq H
 replace hl:=of_decide_eq_true hl
 refine zu (n:=8) Tryz.func41 rfl rfl zao ?_
 repeat (first | refine zb ?_ | refine za ?_ | refine zL ?_)
 repeat (first | refine zj (zh rfl) zam ?_ | refine zj (zk rfl) zam ?_ | refine zj (zB rfl) zam ?_ | refine zj (zM rfl) zam ?_ | refine zj (zi rfl) zam ?_ | refine zj (xT) zam ?_)
 refine zd ?_
 repeat (first | refine zb ?_ | refine za ?_ | refine zL ?_)
 repeat (first | refine zj (zh rfl) zam ?_ | refine zj (zk rfl) zam ?_ | refine zj (zB rfl) zam ?_ | refine zj (zM rfl) zam ?_ | refine zj (zi rfl) zam ?_ | refine zj (xT) zam ?_)
 refine zj (does_isnil xZ rfl rfl) zam ?_
 refine zd ?_
 refine zI rfl (fun hc=>?_) (fun hc=>?_)
 ·repeat (first | refine zb ?_ | refine za ?_ | refine zL ?_)
  repeat (first | refine zj (zh rfl) zam ?_ | refine zj (zk rfl) zam ?_ | refine zj (zB rfl) zam ?_ | refine zj (zM rfl) zam ?_ | refine zj (zi rfl) zam ?_ | refine zj (xT) zam ?_)
  refine zd ?_
  refine zr ?_
  refine ⟨_,(zP (zf rfl)),SlV.nil,rfl,?_⟩
  have hr:=(S.rd 0).sl
  obtain rfl:l=[]:=by
   cases l with
   | nil=>rfl
   | cons a l =>
    have:=(hr.cells 0 (IC a) rfl).1
    rw [this] at hc; cases hc
  exact (S.zs (Z':=[]) []).nil xy 1 IC
 ·refine zw ?_
  repeat (first | refine zb ?_ | refine za ?_ | refine zL ?_)
  refine vi (C:=IC) (l:=[]) (vs:=[]) xZ el_int.zero rfl rfl zao zam rfl zam fun b w1 s1 hB h1=>?_
  replace S:St A N w w1 [oS xy 1 IC s1 []] [fS 1 IC s l]:=S.lit hB h1 zao
  repeat (first | refine zj (zh rfl) zam ?_ | refine zj (zk rfl) zam ?_ | refine zj (zB rfl) zam ?_ | refine zj (zM rfl) zam ?_ | refine zj (zi rfl) zam ?_ | refine zj (xT) zam ?_)
  refine wl_appendm (C:=IC) xZ el_int rfl rfl (S.sl 0) (S.rd 0) (fun a v hv=>by rw [List.mem_singleton.1 hv]; rfl) (by simp; omega) (by simp; omega) zam fun s2 w2 O h2 g2=>?_
  replace S:St A N w w2 [oS xy 1 IC s2 l] [fS 1 IC s l]:=S.push 0 (l':=[] ++ l) O (by simp; omega) h2 g2
  refine zj (yM rfl) zam ?_
  refine zd ?_
  refine zr ?_
  exact ⟨_,(zP (zf rfl)),s2,rfl,S.zs (Z':=[]) []⟩
end
theorem Gw.St.viewTermG {A:Nat→Prop} {N:Oth} {w0 w:World} {L Z:List OA} (h:St A N w0 w L Z) (k:Nat) {s:SlV} {l:List PTerm} {i:Int} (e:Z[k]? = some (ze s l):=by rfl) :
  ∃ n:SlV,((0 ≤ i∧i < l.length)→ub w s.blk (s.off + i.toNat * 5) (Term.C ⟨(at_ PTerm.z l i).kind,(at_ PTerm.z l i).name,(at_ PTerm.z l i).other,(at_ PTerm.z l i).form,n⟩))∧St A N w0 w L (ze n (at_ PTerm.z l i).sub :: Z):=by
 by_cases hi:0 ≤ i∧i < l.length
 ·obtain ⟨n,hc,S⟩ := h.viewTerm k hi e; exact ⟨n,fun _=>hc,S⟩
 by_cases hj:0 ≤ ((i.toNat:Nat):Int)∧((i.toNat:Nat):Int) < l.length
 ·obtain ⟨n,hc,S⟩ := h.viewTerm k (i:=(i.toNat:Int)) hj e
  exact ⟨n,fun q=>absurd q hi,S⟩
 ·refine ⟨SlV.nil,fun q=>absurd q hi,?_⟩
  have h0:at_ PTerm.z l i=PTerm.z:=by
   unfold at_
   rw [List.getD_eq_getElem?_getD,List.getElem?_eq_none zan]
   rfl
  rw [h0]
  exact h.nilTm
end
section
open Go.RowKit
namespace Gw
section
variable {P:Program} {rd:Option Nat} {n:Nat} {dm:List Nat} {ops:Array Oper} {rest:List Oper} {Q:Post} {f:Fr} {w:World} {ty:TypeId} {pos:String} {af:Array Edge}
end
end Gw
end
section
open Gw Go.RowKit
abbrev L_int.C:SlV→List Value:=LC
theorem L_int.one (s:SlV) : ∀ v ∈ L_int.C s,v.oneCell'=true:=fun v hv=>by rw [List.mem_singleton.1 hv]; exact SlV.one s _ rfl
def rL_int (s:SlV) (l:List Int):OA:=oS xy 1 IC s l
abbrev zE (s:SlV) (l:List (List Int)):OA:=oD xw 1 L_int.C rL_int s l
section
variable {A:Nat→Prop} {N:Oth} {w0 w w':World} {L Z:List OA} {s:SlV} {l:List (List Int)} {i:Int}
theorem Gw.St.viewL_int (h:St A N w0 w L Z) (k:Nat) (hi:0 ≤ i∧i < l.length) (e:Z[k]? = some (zE s l):=by rfl) :
  ∃ n:SlV,ub w s.blk (s.off + i.toNat * 1) (L_int.C n)∧St A N w0 w L (fS 1 IC n (at_ [] l i) :: Z):=by
 obtain ⟨ms,h1⟩ := h.unexZ k (f:=fun ms=>(oS xw 1 L_int.C s ms).star (big rL_int ms l)) e
 have h2:=h1.unstarZ 0
 have hlen:ms.length=l.length:=(h2.frz 1 rfl).elim fun _ hb=>big_len hb
 have h3:i.toNat < ms.length:=by omega
 have hr:Rd w 1 s (ms.map L_int.C):=(h2.frz 0 rfl).elim fun _ hb=>hb.1.1.toRd
 have h4:=h2.part 1 (a:=big rL_int ms l) (b:=rL_int ms[i.toNat] (at_ [] l i)) (fun F q=>big_at q (List.getElem?_eq_getElem h3) (vf _ hi))
 have h5:=h4.tell 0 (a:=rL_int ms[i.toNat] (at_ [] l i)) (b:=fS 1 IC ms[i.toNat] (at_ [] l i)) (fun F q=>⟨⟨q.1.1.toRd,q.1.2⟩,q.2⟩)
 refine ⟨ms[i.toNat],hr.at (List.getElem?_eq_getElem h3),h5.pickZ fun z hz=>?_⟩
 rcases List.mem_cons.1 hz with rfl | hz
 ·simp
 ·simp [hz]
end
end
section
open Gw
def zaj:List RRule:=[⟨.mk (.func vD) #[] #[],.mk (.func y7) #[] #[]⟩,⟨.mk (.func vE) #[] #[],.mk (.func y8) #[] #[]⟩,⟨.mk (.func vF) #[] #[],.mk (.func y9) #[] #[]⟩,⟨.mk (.func vG) #[] #[],.mk (.func va) #[] #[]⟩,⟨.mk (.func vH) #[] #[],.mk (.func yG) #[] #[]⟩,⟨.mk (.func vk) #[] #[],.mk (.func yH) #[] #[]⟩,⟨.mk (.func vl) #[] #[],.mk (.func yI) #[] #[]⟩,⟨.mk (.func vm) #[] #[],.mk (.func yJ) #[] #[]⟩]
def ux (i:Int):RRule:=at_ RRule.z zaj i
def oMa (a ta:Option Addr):Bool→OA
 | true=>OA.ex fun (q:Nat × SlV)=>(OA.pure (a=some ⟨q.1,0,none⟩)).star ((oB q.1 jx (Machine.C ⟨ta,q.2⟩)).star (oS uG 2 RRule.C q.2 zaj))
 | false=>OA.pure (a=none)
section
variable {A:Nat→Prop} {N:Oth} {w0 w:World} {L Z:List OA}
theorem Gw.St.nil_oMaZ (h:St A N w0 w L Z) {g:Option Addr}:St A N w0 w L (oMa none g false :: Z):=h.say ⟨rfl,fun _ x=>x⟩
theorem Gw.St.see_oMa (h:St A N w0 w L Z) (k:Nat) {a g:Option Addr} (e:Z[k]? = some (oMa a g true):=by rfl) : ∃ p s,a=some ⟨p,0,none⟩ ∧ St A N w0 w L (oB p jx (Machine.C ⟨g,s⟩) :: fS 2 RRule.C s zaj :: Z):=by
 obtain ⟨⟨p,s⟩,h1⟩ := h.unexZ k (f:=fun (q:Nat × SlV)=>(OA.pure (a=some ⟨q.1,0,none⟩)).star ((oB q.1 jx (Machine.C ⟨g,q.2⟩)).star (oS uG 2 RRule.C q.2 zaj))) e
 have h2:=h1.unstarZ 0
 have hp:=h2.getpZ 0
 have h3:=h2.unstarZ 1 (a:=oB p jx (Machine.C ⟨g,s⟩)) (b:=oS uG 2 RRule.C s zaj)
 have h4:=h3.tell 1 (a:=oS uG 2 RRule.C s zaj) (b:=fS 2 RRule.C s zaj) (fun F q=>⟨⟨q.1.1.toRd,q.1.2⟩,q.2⟩)
 refine ⟨p,s,hp,h4.pickZ fun z hz=>?_⟩
 rcases List.mem_cons.1 hz with rfl | hz
 ·simp
 rcases List.mem_cons.1 hz with rfl | hz
 ·simp
 ·simp [hz]
theorem Gw.St.shut_oMa {p:Nat} {s:SlV} {a g:Option Addr} (h:St A N w0 w (oB p jx (Machine.C ⟨g,s⟩) :: oS uG 2 RRule.C s zaj :: L) Z) (ha:a=some ⟨p,0,none⟩):St A N w0 w (oMa a g true :: L) Z :=
 St.toex (f:=fun (q:Nat × SlV)=>(OA.pure (a=some ⟨q.1,0,none⟩)).star ((oB q.1 jx (Machine.C ⟨g,q.2⟩)).star (oS uG 2 RRule.C q.2 zaj))) (p,s) ((h.star.putp ha).star)
end
end
section
open Go.RowKit Go.Extern.Stop Go.Stop Go.Extern
set_option maxHeartbeats 4000000 in
end
section
open Gw Go.RowKit
section
variable {P:Program} {f:Fr} {w w':World} {d:Option Tmp} {ty:TypeId} {pos:String} {af:Array Edge} {gd:Option (Nat × Bool)}
end
section
variable {A:Nat→Prop} {N:Oth} {w0 w w':World} {L Z:List OA}
end
end
section
open Go.RowKit
namespace Gw
section
variable {P:Program} {rd:Option Nat} {n m:Nat} {dm:List Nat} {ops:Array Oper} {Q:Post} {f:Fr} {w:World}
end
end Gw
end
section
open Gw Go.RowKit
section
variable {A:Nat→Prop} {N:Oth} {w:World}
mutual
def sizeT:PTerm→Nat
 | .mk _ _ _ _ s=>1 + sizeL s
def sizeL:List PTerm→Nat
 | []=>0
 | x :: l=>sizeT x + sizeL l
end
mutual
def nmT:PTerm→Prop
 | .mk _ n o _ s=>n.size < 9223372036854775808∧o.size < 9223372036854775808∧nmL s
def nmL:List PTerm→Prop
 | []=>True
 | x :: l=>nmT x∧nmL l
end
theorem j7 (x:PTerm):nmT x↔x.name.size < 9223372036854775808∧x.other.size < 9223372036854775808∧nmL x.sub:=by cases x; simp [nmT,PTerm.sub,PTerm.name,PTerm.other]
theorem x9 (x:PTerm):sizeT x=1 + sizeL x.sub:=by cases x; simp [sizeT,PTerm.sub]
theorem uU (x:PTerm):1 ≤ sizeT x:=by rw [x9]; omega
def zaB.f (x:PTerm):Option Int:=some (min (sizeT x) 65537:Nat)
theorem sizeL_take : ∀ {l:List PTerm} {i:Nat} {x:PTerm},l[i]? = some x→sizeL (l.take (i + 1))=sizeL (l.take i) + sizeT x
 | [],_,_,h=>by simp at h
 | y :: l,0,x,h=>by simp at h; subst h; simp [sizeL]
 | y :: l,i + 1,x,h=>by
  have:=sizeL_take (l:=l) (i:=i) (by simpa using h)
  simp only [List.take_succ_cons,sizeL]; omega
theorem sizeL_le : ∀ {l:List PTerm} (i:Nat),sizeL (l.take i) ≤ sizeL l
 | [],i=>by simp
 | y :: l,0=>by simp [sizeL]
 | y :: l,i + 1=>by have:=sizeL_le (l:=l) i; simp only [List.take_succ_cons,sizeL]; omega
theorem does_lenM {P:Program} {f:Fr} {w:World} {d:Option Tmp} {ty:TypeId} {pos:String} {af:Array Edge} {gd:Option (Nat × Bool)} {ms:List Term} {x:Operand} {t e k:Nat} {s:SlV} (ht:xV P t e k) (hx:evF f x=s.v) (h:(fT s ms).on w):Does P ⟨d,.call ⟨.builtin .len,#[x],#[t]⟩,ty,pos,af,gd⟩ f w (.int .i64 ms.length) w:=by
 have:=does_lenS (P:=P) (f:=f) (w:=w) (d:=d) (ty:=ty) (pos:=pos) (af:=af) (gd:=gd) ht hx
 rw [(fT.sl h).len,List.length_map] at this; exact this
def cntV (b3 b4:Nat):Value := .func (.func kQ) #[] #[.pointer (some ⟨b3,0,none⟩),.pointer (some ⟨b4,0,none⟩)]
theorem size_count : ∀ (d:Nat) {A:Nat→Prop} {N:Oth} {w:World} {b3 b4:Nat} {m:Term} {x:PTerm} {n:Nat},n ≤ 65536→St A N w w [oB b3 xy [.int .i64 (n:Int)]] [oB b4 yk [cntV b3 b4],fTm d m x] →
  Calls PP kQ #[.agg (Term.C m).toArray,.pointer (some ⟨b3,0,none⟩),.pointer (some ⟨b4,0,none⟩)] w fun e w' => ∃ v,e = .returned v∧(v = .tuple #[]∧St A N w w' [oB b3 xy [.int .i64 ((min (n + sizeT x) 65537:Nat):Int)]] [])
 | 0,_,_,_,_,_,_,_,_,_,S=>(S.frz 1 rfl).elim fun _ h=>h.1.elim
 | d + 1,A,N,w,b3,b4,m,x,n,hn,S=>by
  have S1:=S.unandZ 1 (a:=OA.pure (m.kind=x.kind∧m.name=x.name∧m.other=x.other∧m.form=x.form)) (b:=OA.ex fun (ms:List Term)=>(fT m.sub ms).and (bigA (fTm d) ms x.sub)) rfl
  obtain ⟨ms,S2⟩ := S1.unexZ 1 (f:=fun (ms:List Term)=>(fT m.sub ms).and (bigA (fTm d) ms x.sub)) rfl
  have S3:=S2.unandZ 0 (a:=fT m.sub ms) (b:=bigA (fTm d) ms x.sub) rfl
  replace S:St A N w w [oB b3 xy [.int .i64 (n:Int)]] [oB b4 yk [cntV b3 b4],fT m.sub ms,bigA (fTm d) ms x.sub]:=S3.zs [5,0,1]
  clear S1 S2 S3
  have hl:ms.length=x.sub.length:=(S.frz 2 rfl).elim fun _ h=>ky h
  have hb:=fT.len (S.onZ 1)
  refine zu (n:=25) Tryz.func135 rfl rfl zao ?_
  refine zb (za ?_)
  refine zH rfl zam fun bx w1 h1=>?_
  replace S:=S.new h1
  refine zd ?_
  refine zb (za ?_)
  refine wd (zl xQ rfl ((S.blk 1).cell rfl)) ?_
  refine wd (xi rfl rfl (c:=(n:Int) + 1) rfl zan zan) ?_
  refine yE xQ rfl rfl (S.blk 1) zao rfl rfl fun w2 B2 hw2 z2=>?_
  replace S:St A N w w2 [oB b3 xy [.int .i64 ((n:Int) + 1)],oB bx zm (Term.C m)] [oB b4 yk [cntV b3 b4],fT m.sub ms,bigA (fTm d) ms x.sub]:=S.store 1 B2 hw2
  clear B2
  refine zd ?_
  refine zb (za ?_)
  refine wd (zh rfl) ?_
  refine zd ?_
  refine xL [4,7,8,9,10,11,12,13,14,15,16,17,18,19,20,21,22,23,24] (fun fr W=>St A N w W [oB b3 xy [.int .i64 ((min (n + sizeT x) 65537:Nat):Int)]] []) ?_ ?_
  ·refine zL ?_
   refine xI (α:=Nat × Nat) [4,7,8,9,10,11,12,13,14,15,16,17,18,19,20,21,22,23,24] (fun q fr W=>fr 4 = .int .i64 (q.1:Int)∧q.1 ≤ x.sub.length∧q.2=min (n + 1 + sizeL (x.sub.take q.1)) 65537∧St A N w W [oB b3 xy [.int .i64 (q.2:Int)],oB bx zm (Term.C m)] [oB b4 yk [cntV b3 b4],fT m.sub ms,bigA (fTm d) ms x.sub]) (fun q=>x.sub.length - q.1) (0,n + 1) ⟨rfl,Nat.zero_le _,by simp [sizeL]; omega,S⟩ ?_
   rintro ⟨i,c⟩ g u ⟨q4,hi,hcq,S⟩
   try dsimp only at q4 hi hcq S
   refine zb (zb (za ?_))
   refine wd (zk q4) ?_
   refine wd (zg zD rfl (o':=4) rfl) ?_
   refine wd (zl zz rfl ((S.blk 1).cell (Term.get_sub _))) ?_
   refine wd (does_lenM zq rfl (S.onZ 1)) ?_
   refine wd (xp rfl rfl) ?_
   refine wd (zy rfl) ?_
   refine zJ (j:=5) (pol:=true) rfl rfl rfl zam (fun hg=>zl xQ rfl ((S.blk 0).cell rfl)) zam ?_
   refine zJ (j:=5) (pol:=true) rfl rfl rfl zam (fun hg=>does_le (zn hg) rfl) zam ?_
   refine wd (zV rfl (fun hp=>(zn (xl hp)))) ?_
   refine zd ?_
   refine zI rfl (fun hc=>?_) (fun hc=>?_)
   rotate_left
   ·refine xO ?_
    have he:c=min (n + sizeT x) 65537:=by
     have h2:=sizeL_le (l:=x.sub) i
     rw [x9]
     simp only [Bool.and_eq_false_iff,decide_eq_false_iff_not] at hc
     rcases hc with hc | hc
     ·rw [List.take_of_length_le zan] at hcq; omega
     ·omega
    rw [← he]
    exact ⟨rfl,(((((((((Dif.self _ _ _).upd rfl _).upd rfl _).upd rfl _).upd rfl _).upd rfl _).upd rfl _).upd rfl _).upd rfl _).upd rfl _,S.arr [0] []⟩
   refine zw ?_
   simp only [Bool.and_eq_true,decide_eq_true_eq] at hc
   have hi1:i < ms.length:=by omega
   have hi2:i < x.sub.length:=by omega
   have he1:ms[i]? = some ms[i]:=List.getElem?_eq_getElem hi1
   have he2:x.sub[i]? = some x.sub[i]:=List.getElem?_eq_getElem hi2
   refine zb ?_
   refine zL ?_
   refine x0 6 (Ext u) hmix zap zap (Ext.drawn _) ?_
   refine zC (fun v K=>zl jE rfl (((S.ext K).blkZ 0).cell rfl)) ?_
   refine zC (fun v K=>zg zD rfl (o':=4) rfl) ?_
   refine zC (fun v K=>zl zz rfl (((S.ext K).blk 1).cell (Term.get_sub _))) ?_
   refine zC (fun v K=>zk q4) ?_
   refine zC (fun v K=>does_indexS zq rfl rfl (fT.sl ((S.ext K).onZ 1)) zan (by rw [List.length_map]; omega) rfl) ?_
   refine zC (fun v K=>zt z1 rfl (fT.at ((S.ext K).onZ 1) (show ms[((i:Nat):Int).toNat]? = some ms[i] by rw [Int.toNat_natCast]; exact he1)) (Term.len _)) ?_
   refine vj fun w3 K=>?_
   replace S:=S.ext K
   clear K
   have S':=S.part 2 (a:=bigA (fTm d) ms x.sub) (b:=fTm d ms[i] x.sub[i]) (fun F h=>bigA_at h he1 he2)
   obtain ⟨B,M,SB,back⟩ := S'.calln 1 (.z 1 rfl (.z 0 rfl .nil))
   refine zA (yr ca_term_Size_1 rfl) zam (size_count d zan SB) ?_
   rintro _ w4 ⟨rfl,S2⟩
   replace S:St A N w w4 [oB b3 xy [.int .i64 ((min (c + sizeT x.sub[i]) 65537:Nat):Int)],oB bx zm (Term.C m)] [fTm d ms[i] x.sub[i],oB b4 yk [cntV b3 b4],fT m.sub ms,bigA (fTm d) ms x.sub]:=back _ _ _ _ S2 rfl
   clear back S2 SB S'
   refine zd ?_
   refine za ?_
   refine wd (zk q4) ?_
   refine wd (xi rfl rfl (c:=(i:Int) + 1) rfl zan zan) ?_
   refine wd (zh rfl) ?_
   refine zd ?_
   refine ⟨rfl,?_,(i + 1,min (c + sizeT x.sub[i]) 65537),⟨?_,by omega,?_,S.zs [1,2,3]⟩,by dsimp only; omega⟩
   ·exact (((((((((((((((((((Dif.self _ _ _).upd rfl _).upd rfl _).upd rfl _).upd rfl _).upd rfl _).upd rfl _).upd rfl _).upd rfl _).upd rfl _).upd rfl _).upd rfl _).upd rfl _).upd rfl _).upd rfl _).upd rfl _).upd rfl _).upd rfl _).upd rfl _).upd rfl _
   ·rfl
   ·dsimp only
    rw [sizeL_take he2]; omega
  rintro g u S
  exact ⟨_,rets0,rfl,S⟩
theorem term_Size_st {a0:PTerm} {s_0:SlV} (S:St A N w w [] [ze s_0 a0.sub]) {r:Int} (H:zaB.f a0=some r) :
  Calls PP F_term_Size #[.agg (Term.C (⟨a0.kind,a0.name,a0.other,a0.form,s_0⟩ : Term)).toArray] w fun e w' => ∃ v,e = .returned v∧(v = .int .i64 r∧St A N w w' [] []):=by
 cases H
 obtain ⟨d,S⟩ : ∃ d,St A N w w [] [fTm d (mT a0 s_0) a0]:=by
  have h1:=S.part 0 (a:=ze s_0 a0.sub) (b:=xk (mT a0 s_0) a0) (fun F q=>⟨F,zab q,fun _ q=>q⟩)
  obtain ⟨d,h2⟩ := h1.unexZ 0 (f:=fun (d:Nat)=>fTm d (mT a0 s_0) a0) rfl
  exact ⟨d,h2.zs [0]⟩
 refine zu (n:=10) Tryz.func75 rfl rfl zao ?_
 refine zb (za ?_)
 refine zH rfl zam fun b1 w1 h1=>?_
 replace S:=S.new h1
 refine wd (zh rfl) ?_
 refine zd ?_
 refine zb (za ?_)
 refine zQ ze_int zam fun b3 w2 h2=>?_
 replace S:=S.new h2
 refine yE xQ rfl rfl (S.blk 0) zao rfl rfl fun w3 B3 hw3 z3=>?_
 replace S:St A N w w3 [oB b3 xy [.int .i64 0],oB b1 zm (Term.C (mT a0 s_0))] [fTm d (mT a0 s_0) a0]:=S.store 0 B3 hw3
 clear B3
 refine zd ?_
 refine zb (za ?_)
 refine zQ ze_func_api_Term zam fun b4 w4 h4=>?_
 replace S:=S.new h4
 refine zd ?_
 refine zb (za ?_)
 refine wd does_funcl ?_
 refine yE jE rfl rfl (S.blk 0) zao rfl rfl fun w5 B5 hw5 z5=>?_
 replace S:St A N w w5 [oB b4 yk [cntV b3 b4],oB b3 xy [.int .i64 0],oB b1 zm (Term.C (mT a0 s_0))] [fTm d (mT a0 s_0) a0]:=S.store 0 B5 hw5
 clear B5
 replace S:=S.frzO 0
 replace S:St A N w w5 [oB b3 xy [.int .i64 ((0:Nat):Int)],oB b1 zm (Term.C (mT a0 s_0))] [oB b4 yk [cntV b3 b4],fTm d (mT a0 s_0) a0]:=S
 refine zd ?_
 refine zb (za ?_)
 refine wd (zl jE rfl ((S.blkZ 0).cell rfl)) ?_
 refine wd (zt z1 rfl ((S.blk 1).all _ (Term.len _)) (Term.len _)) ?_
 obtain ⟨B,M,SB,back⟩ := S.calln 1 (.z 0 rfl (.z 1 rfl .nil))
 refine zA (yr ca_term_Size_1 rfl) zam (size_count d zan SB) ?_
 rintro _ w6 ⟨rfl,S2⟩
 replace S:St A N w w6 [oB b3 xy [.int .i64 ((min (0 + sizeT a0) 65537:Nat):Int)],oB b1 zm (Term.C (mT a0 s_0))] [oB b4 yk [cntV b3 b4],fTm d (mT a0 s_0) a0]:=back _ _ _ _ S2 rfl
 clear back S2 SB
 refine zd ?_
 refine zb (za ?_)
 refine wd (zl xQ rfl ((S.blk 0).cell rfl)) ?_
 refine wd (zh rfl) ?_
 refine zd ?_
 refine zr ?_
 exact ⟨.int .i64 ((min (0 + sizeT a0) 65537:Nat):Int),zP (zf rfl),congrArg (Value.int .i64) (by rw [Nat.zero_add]),S.arr [] []⟩
end
end
section
open Gw Go.RowKit
structure PChecker where
 t:Tb
structure PC where
 t:Tb
 hyps:List Hyp
 way:List Int
 wrong:List Int
section
variable {A:Nat→Prop} {N:Oth} {w0 w w':World} {L Z:List OA}
end
section
variable {A:Nat→Prop} {N:Oth} {w:World}
-- scopes
end
end
section
open Gw
def zaC.f (a0:Int):Option (Int × Bool × Bool × Bool) :=
 if decide (a0=1) then some (0,true,false,true) else if decide (a0=2) then some (1,true,false,true) else if decide (a0=12) then some (2,true,false,true) else if decide (a0=9) then some (3,true,true,true) else (if decide (a0=5) then some (decide (a0=5)) else if decide (a0=6) then some (decide (a0=6)) else if decide (a0=7) then some (decide (a0=7)) else if decide (a0=8) then some (decide (a0=8)) else if decide (a0=10) then some (decide (a0=10)) else some (decide (a0=11))).bind fun (o5:Bool)=>if o5 then some (1,false,false,true) else if decide (a0=3) then if decide (a0=3) then some (2,false,false,true) else some (0,false,false,false) else if decide (a0=4) then some (2,false,false,true) else some (0,false,false,false)
def zaD.f (a0:ByteArray) (a1:Bool):Option Bool :=
 if !a1 then some (decide (a0=(⟨#[]⟩ : ByteArray))) else (zaw.f a0).bind fun r2=>some r2
def zaE.b0 (a0:PTerm) (a1:Int) (zcC:PTerm→Int→Option Int) (x4_0:Int) (x4_1:Int):Option (Stp (Int × Int) Int) :=
 if (decide (x4_1 < (a0.sub.length:Int))) && (decide (x4_0 < IntKind.i64.wrap (a1 - 1))) then chk (inb x4_1 a0.sub.length) ((zcC (at_ PTerm.z a0.sub x4_1) (IntKind.i64.wrap (a1 - 1))).bind fun r9=>some (.go ((if x4_0 < r9 then r9 else x4_0),IntKind.i64.wrap (x4_1 + 1)))) else some (.brk (x4_0,x4_1))
def zaE.g (zcC:PTerm→Int→Option Int) (k:Nat) (a0:PTerm) (a1:Int):Option Int :=
 if decide (a1 ≤ 1) then some a1 else (iter (fun s=>zaE.b0 a0 a1 zcC s.1 s.2) k (0,0)).bind (aft fun (s4:Int × Int)=>some (IntKind.i64.wrap (s4.1 + 1)))
def zaE.f:Nat→PTerm→Int→Option Int
 | 0=>fun _ _=>none
 | k + 1=>zaE.g (zaE.f k) k
def zaF.f (k:Nat) (a0:PTerm):Option Int :=
 (zaE.f k a0 1025).bind fun r3=>some r3
end
section
open Gw
def zaG.g (zcG:PTerm→Option Bool) (a0:PTerm):Option Bool :=
 (zcG a0).bind fun r3=>some (!r3)
def zaH.b0 (zcG:PTerm→Option Bool) (a0:List PTerm) (i1:Int):Option (Stp Unit Int) :=
 (zaG.g zcG (at_ PTerm.z a0 i1)).bind fun r6=>if r6 then some (.ret i1) else some (.go ())
def zaH.g (zcG:PTerm→Option Bool) (a0:List PTerm):Option Int :=
 (forN (fun i s=>zaH.b0 zcG a0 i) ((a0.length:Int) - 0).toNat 0 ()).bind (aft fun (s1:Unit)=>some (-1))
def zaI.g (zcG:PTerm→Option Bool) (a0:List PTerm):Option Bool :=
 (zaH.g zcG a0).bind fun r1=>some (decide (0 ≤ r1))
def zaJ.g (zcG:PTerm→Option Bool) (a0:PTerm):Option Bool :=
 (zaC.f a0.kind).bind fun r3=>(if (!((!r3.2.2.2) || (decide ((a0.sub.length:Int) ≠ r3.1)))) then zaD.f a0.name r3.2.1 else some false).bind fun r6=>(if (!(((!r3.2.2.2) || (decide ((a0.sub.length:Int) ≠ r3.1))) || (!r6))) then zaD.f a0.other r3.2.2.1 else some false).bind fun r8=>if (((!r3.2.2.2) || (decide ((a0.sub.length:Int) ≠ r3.1))) || (!r6)) || (!r8) then some false else if (((decide (a0.kind ≠ 11)) && (decide (a0.form ≠ 0))) || (decide (a0.form < 0))) || (decide (1024 ≤ a0.form)) then some false else (zaI.g zcG a0.sub).bind fun r12=>some (!r12)
def zaJ.f:Nat→PTerm→Option Bool
 | 0=>fun _=>none
 | k + 1=>zaJ.g (zaJ.f k)
def zaK.f (k:Nat) (a0:PTerm):Option Int :=
 (zaB.f a0).bind fun r3=>(if (!(decide (65536 < r3))) then zaF.f k a0 else some 0).bind fun r6=>if (decide (65536 < r3)) || (decide (1024 < r6)) then some 121 else (zaJ.f k a0).bind fun r9=>if !r9 then some 120 else some 0
end
section
open Gw Go.RowKit
set_option maxHeartbeats 4000000
set_option maxRecDepth 20000
theorem take_succ' {M:List Nd} {i:Nat} (h:i < M.length):M.take (i + 1)=M.take i ++ [M[i]]:=List.take_succ_eq_append_getElem h
theorem take_new {M:List Nd} (hn:M.Nodup) {i:Nat} (h:i < M.length):(M.take i).idxOf? M[i]=none:=by
 rw [List.idxOf?_eq_none_iff]
 intro hm
 obtain ⟨j,hj,e⟩ := List.getElem_of_mem hm
 rw [List.length_take] at hj
 rw [List.getElem_take] at e
 exact List.pairwise_iff_getElem.1 hn j i zan h zan e
section
variable {P:Program} {f:Fr} {w:World} {d:Option Tmp} {ty:TypeId} {pos:String} {af:Array Edge} {gd:Option (Nat × Bool)}
theorem ka (op:BinOp) (t:TypeId) (x y:Operand) (a b:Option Addr):(eqGuard op t x y (.pointer a) (.pointer b)).run P w = .ok () w:=by
 unfold eqGuard
 split <;> rfl
theorem does_isnilp {t u e:TypeId} {x y:Operand} {a:Option Addr} {b:Bool} (ht:P.underlying t=some (.pointer e)) (hx:evF f x = .pointer a) (hy:evF f y = .pointer none) (hb:a.isNone=b):Does P ⟨d,.binOp .eql t x y u,ty,pos,af,gd⟩ f w (.bool b) w:=by
 have ht':P.underlying t=some (.pointer (P.pointee t)):=by rw [ht]; unfold Program.pointee; rw [ht]
 simp only [Does,execOp,hx,hy,Sem.run_bind,ka,Result.andThen_ok,run_eql_pointer_nil (w:=w) (t:=t) (p:=a) ht',Sem.run_pure,hb]
end
section
variable {A:Nat→Prop} {N:Oth} {w0 w:World}
theorem formula_Table_Copy_raw {a:Option Addr} {t:Tb} (S:St A N w w [] [oT a t]) (hn : ∀ M,t=some M→M.Nodup):Calls PP ud #[.pointer a] w fun e w' => ∃ v,e = .returned v ∧ ∃ a':Option Addr,(v = .pointer a'∧(a'.isNone=t.isNone∧St A N w w' [oT a' t] [])):=by
 refine zu (n:=38) Tryz.func66 rfl rfl zao ?_
 refine zb (za ?_)
 refine wd (zZ rfl) ?_
 refine zd ?_
 refine zb (zb (za ?_))
 refine wd (zB rfl) ?_
 cases t with
 | none =>
  obtain ⟨F,hF⟩ := S.frz 0 rfl
  refine zA (zx yf) zam (kX _ (oT.dead hF)) ?_
  rintro _ w1 ⟨rfl,h1⟩
  replace S:=S.ext h1
  refine wd (xf rfl) ?_
  refine zd ?_
  refine jO rfl ?_
  refine zb (za ?_)
  refine wd (zZ rfl) ?_
  refine zd ?_
  refine zr ?_
  exact ⟨_,(zP (zf rfl)),none,rfl,rfl,(S.zs (Z':=[]) []).nil_oT⟩
 | some M =>
  have hnd:=hn M rfl
  obtain ⟨F,p,rfl,T,hN⟩ := S.frz 0 rfl
  refine zA (zx yf) zam (y4 _ T) ?_
  rintro _ w1 ⟨rfl,h1⟩
  replace S:=S.ext h1
  refine wd (xf rfl) ?_
  refine zd ?_
  refine wc_false rfl ?_
  refine zw ?_
  refine zb (za ?_)
  obtain ⟨B,MB,SB,back⟩ := S.call [] [] .nil
  refine zA (zx jh) zam (jm SB rfl) ?_
  rintro _ w2 ⟨a1,rfl,S2⟩
  replace S:St A N w w2 [oT a1 (some [])] [oT (some ⟨p,0,none⟩) (some M)]:=back _ _ _ _ S2 rfl
  clear back S2 SB
  refine wd (zZ rfl) ?_
  refine zd ?_
  obtain ⟨p1,s1,m1,rfl,_,S⟩ := S.openT
  obtain ⟨p',s,m,hp,_,S⟩ := S.seeT 0
  cases hp
  refine zb (zb (za ?_))
  refine wd (zB rfl) ?_
  refine wd (zS rfl) ?_
  refine wd (zg vr rfl (o':=0) rfl) ?_
  refine wd (zl xA rfl ((S.blkZ 0).cell (Tab.get_rows _))) ?_
  refine wd (xE xd rfl (S.rd 1)) ?_
  refine wd (zk rfl) ?_
  refine zd ?_
  refine xL [4,5,15,16,17,18,19,20,21,22,23,24,25,26,27,28,29,30,31,32,33,34,35,36] (fun fr W => ∃ sl,St A N w W [oB p1 ui (Tab.C ⟨sl,some m1⟩),oM m1 ndV (Value.int .i64) (zipT M),oS T_Nd 4 Nd.C sl M] []) ?_ ?_
  ·refine zL ?_
   refine xI (α:=Nat × SlV) [4,5,15,16,17,18,19,20,21,22,23,24,25,26,27,28,29,30,31,32,33,34,35,36] (fun q fr W=>fr 15 = .int .i64 (q.1:Int)∧q.1 ≤ M.length∧St A N w W [oB p1 ui (Tab.C ⟨q.2,some m1⟩),oM m1 ndV (Value.int .i64) (zipT (M.take q.1)),oS T_Nd 4 Nd.C q.2 (M.take q.1)] [oB p ui (Tab.C ⟨s,some m⟩),fS 4 Nd.C s M]) (fun q=>M.length - q.1) (0,s1) ⟨rfl,Nat.zero_le _,S.zs [0,1]⟩ ?_
   rintro ⟨i,sc⟩ g u ⟨q15,hi,S⟩
   try dsimp only at q15 hi S
   refine zb (za ?_)
   refine wd (xp q15 rfl) ?_
   refine zd ?_
   refine zb ?_
   refine zI rfl (fun hc=>?_) (fun hc=>?_)
   rotate_left
   ·refine xO ?_
    have hi':¬ (i:Int) < (M.length:Int):=of_decide_eq_false hc
    rw [List.take_of_length_le zan] at S
    exact ⟨rfl,(Dif.self _ _ _).upd rfl _,sc,S.zs []⟩
   have hlt:i < M.length:=by have:=of_decide_eq_true hc; omega
   refine zw ?_
   have hb:0 ≤ (i:Int)∧(i:Int) < (M.length:Int):=by omega
   have hat:at_ Nd.z M (i:Int)=M[i]:=by simp [at_,List.getD_eq_getElem?_getD,hlt]
   refine zb ?_
   refine zL ?_
   refine zb (za ?_)
   refine wd (zk q15) ?_
   refine wd (xg xd rfl q15 (S.rd 1) hb.1 hb.2) ?_
   refine wd (zt v7 rfl ((S.rd 1).at (vf Nd.z hb)) (Nd.len _)) ?_
   refine zQ ze_Nd zam fun b5 w3 hw3=>?_
   replace S:St A N w w3 [oB b5 T_Nd (Nd.C Nd.z),oB p1 ui (Tab.C ⟨sc,some m1⟩),oM m1 ndV (Value.int .i64) (zipT (M.take i)),oS T_Nd 4 Nd.C sc (M.take i)] [oB p ui (Tab.C ⟨s,some m⟩),fS 4 Nd.C s M]:=S.new hw3
   refine wd (zh rfl) ?_
   refine z7 v7 rfl rfl (S.blk 0) (Nd.len _) (by rw [Nd.len]; decide) (Nd.one _) (xx (Nd.len _)) fun w4 B4 hw4 _=>?_
   replace S:St A N w w4 [oB b5 T_Nd (Nd.C (at_ Nd.z M (i:Int))),oB p1 ui (Tab.C ⟨sc,some m1⟩),oM m1 ndV (Value.int .i64) (zipT (M.take i)),oS T_Nd 4 Nd.C sc (M.take i)] [oB p ui (Tab.C ⟨s,some m⟩),fS 4 Nd.C s M]:=S.store 0 B4 hw4
   clear B4
   rw [hat] at S
   refine zd ?_
   refine zb ?_
   have hSO:=S.sl 3
   have hSlt:=hSO.lt
   have hli:(M.take i).length=i:=by rw [List.length_take]; omega
   have SH : ∀ v,Chg sc.fp w4 v→St A (N.or sc.fp) w v [oB b5 T_Nd (Nd.C M[i]),oB p1 ui (Tab.C ⟨sc,some m1⟩),oM m1 ndV (Value.int .i64) (zipT (M.take i))] [oB p ui (Tab.C ⟨s,some m⟩),fS 4 Nd.C s M]:=fun v hc=>S.away 3 (hc:=hc)
   refine wc_draw 8 ⟨fun L v=>Chg sc.fp w4 v∧(L 7=false→Ext w4 v),fun L a b=>Chg sc.fp a b∧(L 7=true→Ext a b),fun k v u=>match k with
    | 0=>v=Value.pointer (some ⟨p1,0,none⟩)
    | 1=>v=Value.pointer (some ⟨p1,0,none⟩)
    | 2=>v=Value.pointer (some ⟨p1,0,none⟩)
    | 3=>v=Value.pointer (some ⟨p1,0,none⟩)
    | 4=>v=sc.v
    | 5=>v=Value.agg (Nd.C M[i]).toArray
    | 6 => ∃ b sl,v=SlV.v sl∧sl=⟨some ⟨b,0,none⟩,1,1⟩ ∧ Blk u b T_Nd (Nd.C M[i])∧¬ sc.fp b
    | 7 => ∃ s',v=SlV.v s'∧Own u 0 T_Nd 4 s' (((M.take i) ++ [M[i]]).map Nd.C) ∧ ∀ j,s'.fp j→sc.fp j∨w4.heap.size ≤ j
    | _=>True⟩ hmix zap ?_ ⟨(Ext.drawn _).mono (fun _ _ x=>x.elim),fun _=>Ext.drawn _⟩ ⟨?_,?_,?_,?_,?_,?_,?_,?_,trivial⟩ ?_
   ·intro L k v a b hLi hle hv
    match k,hLi,hv with
    | 0,_,hv=>exact hv
    | 1,_,hv=>exact hv
    | 2,_,hv=>exact hv
    | 3,_,hv=>exact hv
    | 4,_,hv=>exact hv
    | 5,_,hv=>exact hv
    | 6,_,⟨b,sl,e1,e2,hb,hn⟩ => exact ⟨b,sl,e1,e2,hb.chg hle.1 hn,hn⟩
    | 7,hLi,⟨s',e1,ho,hg⟩ => exact ⟨s',e1,ho.ext (hle.2 hLi),hg⟩
    | _ + 8,_,_=>exact trivial
   ·rintro L g v hL hT
    refine zj (zB rfl) zam (zd (ob ⟨hT.1,fun h=>hT.2 h⟩ ⟨Chg.refl _ _,fun _=>Ext.refl _⟩ rfl))
   ·rintro L g v hL hT
    refine zj (zB rfl) zam (zd (ob ⟨hT.1,fun h=>hT.2 h⟩ ⟨Chg.refl _ _,fun _=>Ext.refl _⟩ rfl))
   ·rintro L g v hL hT hv1
    refine zj (zS hv1) zam (zd (ob ⟨hT.1,fun h=>hT.2 h⟩ ⟨Chg.refl _ _,fun _=>Ext.refl _⟩ rfl))
   ·rintro L g v hL hT hv2
    refine zj (zg vr hv2 (o':=0) rfl) zam (zd (ob ⟨hT.1,fun h=>hT.2 h⟩ ⟨Chg.refl _ _,fun _=>Ext.refl _⟩ rfl))
   ·rintro L g v hL hT hv3
    refine zj (zl xA hv3 (((SH v hT.1).blk 1).cell (Tab.get_rows _))) zam (zd (ob ⟨hT.1,fun h=>hT.2 h⟩ ⟨Chg.refl _ _,fun _=>Ext.refl _⟩ rfl))
   ·rintro L g v hL hT
    refine zj (zt v7 rfl (((SH v hT.1).blk 0).all _ (Nd.len _)) (Nd.len _)) zam (zd (ob ⟨hT.1,fun h=>hT.2 h⟩ ⟨Chg.refl _ _,fun _=>Ext.refl _⟩ rfl))
   ·rintro L g v hL hT hv5
    refine wl_lit1 xd el_Nd.zero hv5 rfl (Nd.len _) zam zam fun b v' sl hn hq=>zd (ob ⟨hT.1.thenExt hn.ext,fun h=>(hT.2 h).trans hn.ext⟩ ⟨hn.ext.mono (fun _ _ x=>x.elim),fun _=>hn.ext⟩ ⟨b,sl,rfl,hq,hn.blk,fun e=>by have:=hSlt _ e; have:=hn.at_; have:=hT.1.size; omega⟩)
   ·rintro L g v hL hT hv4 ⟨b,sl,hv6,hq,hb,hnb⟩
    refine wl_push (C:=Nd.C) xd el_Nd hv4 hv6 (hSO.ext (hT.2 hL)) hb hq (Nd.len _) (Nd.one _) zan zan zam fun s' v' ho hc hg=>zd (ob ⟨hT.1.trans hc,fun h=>(by cases h)⟩ ⟨hc,fun h=>(by rw [hL] at h; cases h)⟩ ⟨s',rfl,ho,fun i e=>(hg i e).imp id (fun h=>Nat.le_trans hT.1.size h)⟩)
   rintro L g5 w5 hLm hT hv0 hv1 hv2 hv3 hv4 hv5 ⟨b,sl,hv6,hq,hbb,hnb⟩ ⟨s9,hv7,O,gO⟩
   replace S:St A N w w5 [oS T_Nd 4 Nd.C s9 (M.take i ++ [M[i]]),oB b5 T_Nd (Nd.C M[i]),oB p1 ui (Tab.C ⟨sc,some m1⟩),oM m1 ndV (Value.int .i64) (zipT (M.take i))] [oB p ui (Tab.C ⟨s,some m⟩),fS 4 Nd.C s M]:=S.push 3 O (by rw [List.length_append,List.length_singleton]; omega) hT.1 gO
   clear O gO SH hSO hSlt
   refine wd (zS hv0) ?_
   refine wd (zg vr rfl (o':=0) rfl) ?_
   refine yE xA rfl hv7 (S.blk 2) (by rw [Tab.len]; decide) (SlV.one _ _ rfl) (Tab.set_rows _ _) fun w6 B6 hw6 _=>?_
   replace S:St A N w w6 [oB p1 ui (Tab.C ⟨s9,some m1⟩),oS T_Nd 4 Nd.C s9 (M.take i ++ [M[i]]),oB b5 T_Nd (Nd.C M[i]),oM m1 ndV (Value.int .i64) (zipT (M.take i))] [oB p ui (Tab.C ⟨s,some m⟩),fS 4 Nd.C s M]:=S.store 2 B6 hw6
   clear B6
   refine zd ?_
   refine x0 6 (Ext w6) hmix zap zap (Ext.drawn _) ?_
   refine zC (fun v K=>zB rfl) ?_
   refine zC (fun v K=>zS rfl) ?_
   refine zC (fun v K=>zg kC rfl (o':=1) rfl) ?_
   refine zC (fun v K=>zl vv rfl (((S.ext K).blk 0).cell (Tab.get_at_ _))) ?_
   refine zC (fun v K=>zt v7 rfl (((S.ext K).blk 2).all _ (Nd.len _)) (Nd.len _)) ?_
   refine zC (fun v K=>zk rfl) ?_
   refine vj fun w7 K=>?_
   replace S:=S.ext K
   clear K
   refine js (C:=ndV) (D:=Value.int .i64) (key:=M[i]) (v:=(i:Int)) vx key_Nd rfl rfl rfl (S.map 3) fun w8 hm8 hc8 hs8=>?_
   replace S:=S.mapSet 3 ⟨hm8,hc8,hs8⟩
   refine zd ?_
   refine za ?_
   refine wd (xi q15 rfl (c:=(i:Int) + 1) rfl zan zan) ?_
   refine wd (zk rfl) ?_
   refine zd ?_
   have hz:Gw.ins M[i] (i:Int) (zipT (M.take i))=zipT (M.take (i + 1)):=by
    have:=ins_rows (take_new hnd hlt)
    rw [hli] at this
    rw [this,take_succ' hlt]
   refine ⟨rfl,?_,(i + 1,s9),⟨rfl,by omega,?_⟩,by dsimp only; omega⟩
   ·repeat (first | exact Dif.self _ _ _ | refine Dif.upd ?_ rfl _ | refine Dif.mask ?_ rfl _)
   ·dsimp only
    rw [← hz,take_succ' hlt]
    exact S.arr [1,0,2] [0,1]
  rintro g u ⟨sl,S⟩
  refine zb (za ?_)
  refine wd (zB rfl) ?_
  refine wd (zZ rfl) ?_
  refine zd ?_
  refine zr ?_
  exact ⟨_,(zP (zf rfl)),some ⟨p1,0,none⟩,rfl,rfl,S.shutT hN rfl⟩
def zaL.f (t:Tb):Option Tb:=chk (match t with | none=>true | some M=>decide M.Nodup) (some t)
theorem formula_Table_Copy_st {a:Option Addr} {t:Tb} (S:St A N w w [] [oT a t]) {r:Tb} (H:zaL.f t=some r):Calls PP ud #[.pointer a] w <| Rt fun v w' => ∃ a':Option Addr,(v = .pointer a'∧a'.isNone=r.isNone∧St A N w w' [oT a' r] []):=by
 obtain ⟨hn,H⟩ := zX H
 obtain rfl:=zaq H
 exact formula_Table_Copy_raw S fun M hM=>by subst hM; exact of_decide_eq_true hn
end
end
end Go.Proofs.YtmggdbbmmkkplaaGreatDoor
section
namespace Go.Proofs
open Go.Shelf Go.RowKit Go.Sort Go.Lib
def Tryz.laysM171_ren:Go.Shelf.Ren:=⟨fun | 171=>186 | 243=>188 | 246=>189 | 283=>190 | 284=>191 | 285=>192 | 286=>193 | 129=>153 | 317=>194 | 318=>195 | 319=>196 | 320=>197 | 337=>198 | 338=>199 | n=>n,fun | 3=>3 | 9=>9 | 2=>2 | 4=>4 | 171=>250 | 0=>0 | 53=>198 | 37=>248 | 5=>5 | 173=>252 | 212=>256 | 51=>196 | 20=>20 | 213=>257 | 46=>144 | 232=>258 | 233=>259 | n=>n,fun | 17=>1 | 18=>2 | 19=>3 | n=>n⟩
theorem Tryz.laysM171:Go.Proofs.LaysM.n171 Tryz.prog Tryz.laysM171_ren:={
 mixed:=by kernel_rfl
 f129:=Tryz.func153.trans (congrArg some (by kernel_rfl))
 f171:=Tryz.func186.trans (congrArg some (by kernel_rfl))
 f243:=Tryz.func188.trans (congrArg some (by kernel_rfl))
 f246:=Tryz.func189.trans (congrArg some (by kernel_rfl))
 f283:=Tryz.func190.trans (congrArg some (by kernel_rfl))
 f284:=Tryz.func191.trans (congrArg some (by kernel_rfl))
 f285:=Tryz.func192.trans (congrArg some (by kernel_rfl))
 f286:=Tryz.func193.trans (congrArg some (by kernel_rfl))
 f317:=Tryz.func194.trans (congrArg some (by kernel_rfl))
 f318:=Tryz.func195.trans (congrArg some (by kernel_rfl))
 f319:=Tryz.func196.trans (congrArg some (by kernel_rfl))
 f320:=Tryz.func197.trans (congrArg some (by kernel_rfl))
 f337:=Tryz.func198.trans (congrArg some (by kernel_rfl))
 f338:=Tryz.func199.trans (congrArg some (by kernel_rfl))
 t0:=Tryz.underlying0
 a0:=Tryz.isAgg0
 z0:=Tryz.sizeOf0
 v0:=Tryz.zeroValue0
 t2:=Tryz.underlying2
 a2:=Tryz.isAgg2
 z2:=Tryz.sizeOf2
 v2:=Tryz.zeroValue2
 t3:=Tryz.underlying3
 a3:=Tryz.isAgg3
 z3:=Tryz.sizeOf3
 v3:=Tryz.zeroValue3
 t4:=Tryz.underlying4
 a4:=Tryz.isAgg4
 z4:=Tryz.sizeOf4
 v4:=Tryz.zeroValue4
 t5:=Tryz.underlying5
 a5:=Tryz.isAgg5
 z5:=Tryz.sizeOf5
 v5:=Tryz.zeroValue5
 t9:=Tryz.underlying9
 a9:=Tryz.isAgg9
 z9:=Tryz.sizeOf9
 v9:=Tryz.zeroValue9
 t20:=Tryz.underlying20
 a20:=Tryz.isAgg20
 z20:=Tryz.sizeOf20
 v20:=Tryz.zeroValue20
 t37:=Tryz.underlying248
 a37:=Tryz.isAgg248
 z37:=Tryz.sizeOf248
 v37:=Tryz.zeroValue248
 t46:=Tryz.underlying144
 a46:=Tryz.isAgg144
 z46:=Tryz.sizeOf144
 v46:=Tryz.zeroValue144
 t51:=Tryz.underlying196
 a51:=Tryz.isAgg196
 z51:=Tryz.sizeOf196
 v51:=Tryz.zeroValue196
 t53:=Tryz.underlying198
 a53:=Tryz.isAgg198
 z53:=Tryz.sizeOf198
 v53:=Tryz.zeroValue198
 t171:=Tryz.underlying250
 a171:=Tryz.isAgg250
 z171:=Tryz.sizeOf250
 v171:=Tryz.zeroValue250
 t173:=Tryz.underlying252
 a173:=Tryz.isAgg252
 z173:=Tryz.sizeOf252
 v173:=Tryz.zeroValue252
 t212:=Tryz.underlying256
 a212:=Tryz.isAgg256
 z212:=Tryz.sizeOf256
 v212:=Tryz.zeroValue256
 t213:=Tryz.underlying257
 a213:=Tryz.isAgg257
 z213:=Tryz.sizeOf257
 t232:=Tryz.underlying258
 a232:=Tryz.isAgg258
 z232:=Tryz.sizeOf258
 v232:=Tryz.zeroValue258
 t233:=Tryz.underlying259
 a233:=Tryz.isAgg259
 z233:=Tryz.sizeOf259
 v233:=Tryz.zeroValue259
 g17:=by kernel_rfl
 g18:=by kernel_rfl
 g19:=by kernel_rfl
 i0:=by kernel_rfl
 i2:=by kernel_rfl
 i3:=by kernel_rfl
 i4:=by kernel_rfl
 i5:=by kernel_rfl
 i9:=by kernel_rfl
 i20:=by kernel_rfl
 i37:=by kernel_rfl
 i46:=by kernel_rfl
 i51:=by kernel_rfl
 i53:=by kernel_rfl
 i171:=by kernel_rfl
 i173:=by kernel_rfl
 i212:=by kernel_rfl
 i232:=by kernel_rfl
 i233:=by kernel_rfl
 m17:=by kernel_rfl
 m18:=by kernel_rfl
 m19:=by kernel_rfl }
theorem Tryz.strconv_Itoa (n:Int) (h0 : -9223372036854775808 ≤ n) (h1:n ≤ 9223372036854775807) (w:World) (htab:Lib.TabIs Tryz.prog w "internal/strconv.uint64pow10" .u64 Lib.pow10Tab) :
  Calls Tryz.prog 186 #[.int .i64 n] w fun e w'=>e = .returned (.string ⟨(Lib.itoa n).toArray⟩) ∧ ∃ k os,w'=grow (w.drewN k) os:=Any.strconv_Itoa Tryz.laysM171 n h0 h1 w htab
end Go.Proofs
end
namespace Go.Proofs.YtmggdbbmmkkplaaGreatDoor
section
open Gw Go.RowKit
theorem does_concat {P:Program} {f:Fr} {w:World} {d:Option Tmp} {ty:TypeId} {pos:String} {af:Array Edge} {gd:Option (Nat × Bool)} {t u:TypeId} {x y:Operand} {a b:ByteArray} (hx:evF f x = .string a) (hy:evF f y = .string b) (hl:a.size + b.size ≤ 1000000):Does P ⟨d,.binOp .add t x y u,ty,pos,af,gd⟩ f w (.string (a ++ b)) w:=by
 have h:(binOp .add t (.string a) (.string b)).run P w = .ok (.string (a ++ b)) w:=by
  simp only [binOp]
  exact run_string_add (w:=w) a b zan zan
 simp only [Does,execOp,hx,hy,Sem.run_bind,uP,Result.andThen_ok,h,Sem.run_pure]
abbrev F_strconv_Itoa:FuncId:=186
theorem ca_strconv_Itoa:zF PP F_strconv_Itoa:=⟨_,Tryz.func186,rfl,rfl⟩
def decK:Nat→Nat→List UInt8
 | 0,_=>[]
 | k + 1,u=>if u < 10 then [UInt8.ofNat (48 + u)] else decK k (u / 10) ++ [UInt8.ofNat (48 + u % 10)]
theorem decK_eq : ∀ (k u:Nat),u < 10 ^ (k + 1)→decK (k + 1) u=Lib.decDigits u
 | 0,u,h=>by
  have h1:u < 10:=by simpa using h
  rw [Lib.decDigits_one h1]; simp [decK,h1]
 | k + 1,u,h=>by
  rw [Lib.decDigits,decK]
  by_cases h1:u < 10
  ·rw [if_pos h1,dif_pos h1]
  ·rw [if_neg h1,dif_neg h1,decK_eq k (u / 10) (by rw [Nat.pow_succ] at h; omega)]
def decN (n:Int):ByteArray:=⟨(if n < 0 then 45 :: decK 20 n.natAbs else decK 20 n.toNat).toArray⟩
theorem decN_eq {n:Int} (h0 : -9223372036854775808 ≤ n) (h1:n ≤ 9223372036854775807):decN n=⟨(Lib.itoa n).toArray⟩ := by
 unfold decN Lib.itoa
 rw [decK_eq 19 _ zan,decK_eq 19 _ zan]
def Pw (w:World):Prop:=Lib.TabIs PP w "internal/strconv.uint64pow10" .u64 Lib.pow10Tab
theorem gPw:PP.globalNamed "internal/strconv.uint64pow10" = some 1:=by kernel_rfl
theorem Pw.lt {w:World} (h:Pw w):1 < w.heap.size:=by
 unfold Pw Lib.TabIs World.var? at h
 rw [gPw] at h
 rcases Nat.lt_or_ge 1 w.heap.size with q | q
 ·exact q
 ·rw [zar,Array.getElem?_eq_none q] at h; simp at h
theorem Pw.chg {S:Nat→Prop} {w w':World} (h:Pw w) (hc:Chg S w w') (hs:¬ S 1):Pw w':=by
 have hl:=h.lt
 unfold Pw Lib.TabIs World.var? at *
 rw [gPw] at h ⊢
 rw [zar] at h ⊢
 rw [hc.block _ hl hs]; exact h
def oPw:OA where
 holds:=fun w F=>Pw w ∧ ∀ i,F i↔i=1
 loc:=fun h hc hs=>⟨h.1.chg hc (hs _ ((h.2 _).2 rfl)),h.2⟩
 lt:=fun {w F} h i hi=>by rw [(h.2 i).1 hi]; exact h.1.lt
theorem Gw.St.pw {A:Nat→Prop} {N:Oth} {w0 w:World} {L Z:List OA} (h:St A N w0 w L Z) (k:Nat) (e:Z[k]? = some oPw:=by rfl):Pw w:=(h.frz k e).elim fun _ q=>q.1
theorem grow_ext (w:World) (k:Nat) (os:Array Obj):Ext w (Go.Sort.grow (w.drewN k) os) :=
 ⟨rfl,rfl,rfl,by show w.heap.size ≤ (w.heap ++ os).size; simp,fun i hi _=>Array.getElem?_append_left hi,fun a ha=>by
  unfold World.frozen?
  rw [show (Go.Sort.grow (w.drewN k) os).heap[a.block]? = w.heap[a.block]? from Array.getElem?_append_left ha]⟩
def strconv_Itoa.f (n:Int):Option ByteArray:=chk (decide (-9223372036854775808 ≤ n) && decide (n ≤ 9223372036854775807)) (some (decN n))
theorem strconv_Itoa_st {A:Nat→Prop} {N:Oth} {w:World} {n:Int} (S:St A N w w [] [oPw]) {r:ByteArray} (H:strconv_Itoa.f n=some r):Calls PP F_strconv_Itoa #[.int .i64 n] w fun e w' => ∃ v,e = .returned v∧(v = .string r∧St A N w w' [] []):=by
 obtain ⟨hc,H⟩ := zX H
 obtain rfl:=zaq H
 simp only [Bool.and_eq_true,decide_eq_true_eq] at hc
 refine (Go.Proofs.Tryz.strconv_Itoa n hc.1 hc.2 w (S.pw 0)).mono fun e w' q=>?_
 obtain ⟨rfl,k,os,rfl⟩ := q
 exact ⟨_,rfl,by rw [decN_eq hc.1 hc.2],(S.ext (grow_ext w k os)).zs []⟩
end
section
open Gw
def zaM.f (a0:PTerm) (a1:Int):Option PTerm :=
 some (⟨11,ByteArray.empty,ByteArray.empty,a1,[a0]⟩ : PTerm)
def zaN.f (a0:PTerm) (a1:Int):Option Bool :=
 chk (!(decide (0 < (a0.sub.length:Int))) || (inb 0 a0.sub.length)) (some ((decide (0 < (a0.sub.length:Int))) && (decide ((at_ PTerm.z a0.sub 0).kind=a1))))
def zaO.f (a0:Tb) (a1:PTerm) (a2:Int) (a3:Int):Option Bool :=
 (zaN.f a1 11).bind fun r3=>chk (!(!(!r3)) || (inb 0 a1.sub.length)) ((if (!(!r3)) then zaN.f (at_ PTerm.z a1.sub 0) a2 else some false).bind fun r9=>if (!r3) || (!r9) then some false else chk (inb 0 a1.sub.length) ((zas.f a0 ((at_ PTerm.z a1.sub 0).form)).bind fun r13=>some (decide (r13.1.kind=a3))))
def zaP.f (a0:Tb) (a1:PTerm) (a2:Bool):Option Int :=
 chk (inb 0 a1.sub.length) ((zas.f a0 ((at_ PTerm.z a1.sub 0).form)).bind fun r4=>if a2 then some r4.1.r else some r4.1.l)
def zaQ.f (a0:PTerm):Option Bool :=
 some ((decide (a0.kind=5)) || (decide (a0.kind=6)))
def zaR.f (a0:PTerm) (a1:PTerm):Option PTerm :=
 if decide (a0.kind=6) then chk (inb 1 a1.sub.length) (some (at_ PTerm.z a1.sub 1)) else chk (inb 0 a1.sub.length) (some (at_ PTerm.z a1.sub 0))
def zaS.f (a0:PTerm):Option (Bool × Bool) :=
 (zaN.f a0 8).bind fun r3=>(if (decide (a0.kind=9)) then zaN.f a0 7 else some false).bind fun r4=>(if (decide (a0.kind=9)) && (!r4) then zaN.f a0 8 else some false).bind fun r5=>some (r3,(decide (a0.kind=9)) && (r4 || r5))
def zaT.f (a0:Tb) (a1:PTerm):Option (Bool × Bool) :=
 (zaO.f a0 a1 8 4).bind fun r3=>(if (decide (a1.kind=9)) && (!r3) then zaO.f a0 a1 7 4 else some false).bind fun r6=>some (r3,(decide (a1.kind=9)) && (r3 || r6))
def zaU.f (a0:Tb) (a1:PTerm):Option Bool :=
 (if (decide (a1.kind=3)) then zaN.f a1 2 else some false).bind fun r3=>some ((decide (a1.kind=3)) && r3)
def zaV.f (a0:Tb) (a1:PTerm):Option Bool :=
 (if (decide (a1.kind=3)) then zaO.f a0 a1 2 5 else some false).bind fun r3=>some ((decide (a1.kind=3)) && r3)
def zaW.f (a0:Tb) (a1:PTerm):Option Bool :=
 (zaQ.f a1).bind fun r3=>(if r3 then zaN.f a1 4 else some false).bind fun r6=>some (r3 && r6)
def zaX.f (a0:Tb) (a1:PTerm):Option (PTerm × Int) :=
 chk (inb 0 a1.sub.length) ((zaR.f a1 (at_ PTerm.z a1.sub 0)).bind fun r9=>some (r9,0))
def zaY.f (a0:Tb) (a1:PTerm):Option Bool :=
 (zaQ.f a1).bind fun r3=>(if r3 then zaO.f a0 a1 4 3 else some false).bind fun r6=>some (r3 && r6)
def zaZ.f (a0:Tb) (a1:PTerm):Option (PTerm × Int) :=
 chk (inb 0 a1.sub.length) (chk (inb 0 ((at_ PTerm.z a1.sub 0).sub).length) ((zaR.f a1 (at_ PTerm.z ((at_ PTerm.z a1.sub 0).sub) 0)).bind fun r16=>(zaP.f a0 a1 (decide (a1.kind=6))).bind fun r30=>(zaM.f r16 r30).bind fun r33=>some (r33,0)))
def zba.f (a0:Tb) (a1:PTerm):Option Bool :=
 (zaS.f a1).bind fun r3=>some r3.2
def zbb.f (a0:Tb) (a1:PTerm):Option Bool :=
 (zaT.f a0 a1).bind fun r3=>some r3.2
def zbc.f (a0:Tb) (a1:PTerm):Option Bool :=
 some (decide (a1.kind=12))
def zbd.f (a0:Tb) (a1:PTerm):Option Bool :=
 if decide (a1.kind ≠ 11) then some false else chk (inb 0 a1.sub.length) (if decide ((at_ PTerm.z a1.sub 0).kind=1) then if decide ((at_ PTerm.z a1.sub 0).kind=1) then some true else some false else if decide ((at_ PTerm.z a1.sub 0).kind=3) then if decide ((at_ PTerm.z a1.sub 0).kind=3) then some true else some false else if decide ((at_ PTerm.z a1.sub 0).kind=5) then if decide ((at_ PTerm.z a1.sub 0).kind=5) then some true else some false else if decide ((at_ PTerm.z a1.sub 0).kind=6) then if decide ((at_ PTerm.z a1.sub 0).kind=6) then some true else some false else if decide ((at_ PTerm.z a1.sub 0).kind=11) then some true else some false)
def zbe.f (a0:Tb) (a1:PTerm):Option (PTerm × Int) :=
 chk (inb 0 a1.sub.length) (some ((at_ PTerm.z a1.sub 0),0))
def zbf.g (zcu:Tb→PTerm→Option Bool) (a0:PTerm) (a1:Tb):Option Bool :=
 (zcu a1 a0).bind fun r3=>some (!r3)
def zbg.b0 (zcu:Tb→PTerm→Option Bool) (a0:List PTerm) (a1_0:Tb) (i1:Int):Option (Stp Unit Int) :=
 (zbf.g zcu (at_ PTerm.z a0 i1) a1_0).bind fun r6=>if r6 then some (.ret i1) else some (.go ())
def zbg.g (zcu:Tb→PTerm→Option Bool) (a0:List PTerm) (a1_0:Tb):Option Int :=
 (forN (fun i s=>zbg.b0 zcu a0 a1_0 i) ((a0.length:Int) - 0).toNat 0 ()).bind (aft fun (s1:Unit)=>some (-1))
def zbh.g (zcu:Tb→PTerm→Option Bool) (a0:List PTerm) (a1_0:Tb):Option Bool :=
 (zbg.g zcu a0 a1_0).bind fun r1=>some (decide (0 ≤ r1))
def zbi.g (zcu:Tb→PTerm→Option Bool) (a0:Tb) (a1:PTerm):Option Bool :=
 (if (decide (a1.kind=11)) then zat.f a0 else some 0).bind fun r5=>if (decide (a1.kind=11)) && (decide (r5 ≤ a1.form)) then some false else (zbh.g zcu a1.sub a0).bind fun r8=>some (!r8)
def zbi.f:Nat→Tb→PTerm→Option Bool
 | 0=>fun _ _=>none
 | k + 1=>zbi.g (zbi.f k)
def zbj.f  : Option Unit :=
 some ()
def zbk.f (k:Nat) (a0:Tb) (a1:PTerm):Option (Bool × Int) :=
 (zaL.f a0).bind fun r3=>if r3.isNone then some (false,1) else (zaK.f k a1).bind fun r8=>if decide (r8 ≠ 0) then some (false,r8) else (zbi.f k a0 a1).bind fun r12=>if !r12 then some (false,31) else (zbj.f).bind fun r16=>some (true,0)
end
section
open Go.RowKit
namespace Gw
section
variable {P:Program} {f:Fr} {w w':World} {d:Option Tmp} {ty:TypeId} {pos:String} {af:Array Edge} {gd:Option (Nat × Bool)} {α β:Type} {C:α→Value} {D:β→Value} {l:List (α × β)} {m:Nat}
variable {rd:Option Nat} {n:Nat} {dm:List Nat} {ops:Array Oper} {Q:Post} {rest:List Oper}
theorem wl_mapInsert [DecidableEq α] {t kt et:Nat} {x y z:Operand} {key:α} {v:β} (ht:P.underlying t=some (.map kt et)) (K:KeyT P kt C) (hx:evF f x = .map (some m)) (hy:evF f y=C key) (hz:evF f z=D v) (hm:MapB w m C D l)
  (h : ∀ w',MapB w' m C D (ins key v l)→Chg (· = m) w w'→w'.heap.size=w.heap.size→wl P rd n dm ops rest Q f w'):wl P rd n dm ops (⟨none,.insert t x y z,ty,pos,af,none⟩ :: rest) Q f w:=by
 obtain ⟨es,c,hb,he,hF⟩ := hm
 have hf:=run_findKey K key es.toList l he w
 rw [ins_spot] at h
 cases hs:spot key l with
 | none =>
  rw [hs] at h hf
  obtain ⟨s1,s2,s3⟩ := map_step (w:=w) (m:=m) (C:=C) (D:=D) (es:=es.push { key:=C key,val:=D v,born:=c }) (c:=c + 1) (l:=l ++ [(key,v)]) hb (by simp [he]) (hF.push _ _)
  refine wl_acts ?_ (h _ s1 s2 s3)
  simp only [Acts,execOp,hx,hy,hz,Instr.mapUpdate,Sem.run_bind,run_underlying ht,Result.andThen_ok,MapKept.run_getObj_map hb,K.check,hf,Option.bind_none,uK _ hb,Sem.run_pure]
 | some i =>
  obtain ⟨v0,hv⟩ := spot_key key l i hs
  rw [hs] at h hf
  have hei:(es.toList[i]?).map (fun e=>(e.key,e.val))=some (C key,D v0):=by
   have:=congrArg (fun l=>l[i]?) he
   simp only [List.getElem?_map,hv,Option.map_some] at this
   exact this
  obtain ⟨e0,he0,hek⟩ : ∃ e0,es[i]? = some e0∧e0.key=C key:=by
   simp only [Array.getElem?_toList] at hei
   cases hq:es[i]? with
   | none=>rw [hq] at hei; cases hei
   | some e0=>rw [hq] at hei; simp only [Option.map_some,Option.some.injEq,Prod.mk.injEq] at hei; exact ⟨e0,rfl,hei.1⟩
  have hmod:(es.modify i fun e=>{ e with key:=C key,val:=D v }).toList.map (fun e=>(e.key,e.val))=(l.modify i fun q=>(q.1,v)).map fun q=>(C q.1,D q.2):=by
   apply List.ext_getElem?
   intro j
   have hj:=congrArg (fun l=>l[j]?) he
   simp only [List.getElem?_map] at hj
   simp only [List.getElem?_map,Array.toList_modify,List.getElem?_modify]
   by_cases hij:i=j
   ·subst hij
    simp only [if_true]
    rw [hv]
    simp only [Array.getElem?_toList,he0]
    rfl
   ·simp only [hij,if_false]
    simpa using hj
  obtain ⟨s1,s2,s3⟩ := map_step (w:=w) (m:=m) (C:=C) (D:=D) (c:=c) hb hmod (hF.modify _ _ _)
  refine wl_acts ?_ (h _ s1 s2 s3)
  have hst:(Instr.keyThatStays (C key) (C key)).run P w = .ok (C key) w:=by
   unfold Instr.keyThatStays
   rw [K.same,if_pos rfl]; simp
  simp only [Acts,execOp,hx,hy,hz,Instr.mapUpdate,Sem.run_bind,run_underlying ht,Result.andThen_ok,MapKept.run_getObj_map hb,K.check,hf,hv,zar,Option.map_some,he0,Option.getD_some,hek,hst,uK _ hb,Sem.run_pure]
end
end Gw
open Gw
section
variable {P:Program} {f:Fr} {w:World} {d:Option Tmp} {ty:TypeId} {pos:String} {af:Array Edge} {gd:Option (Nat × Bool)} {m:Nat} {α β:Type} {C:α→Value} {D:β→Value} {l:List (α × β)}
theorem vp [DecidableEq α] {t kt et:Nat} {x y:Operand} {key:α} {zv:β} (ht:P.underlying t=some (.map kt et)) (K:KeyT P kt C) (hz:(P.info? et).bind (·.zero)=some (D zv)) (hx:evF f x = .map (some m)) (hy:evF f y=C key) (hm:MapB w m C D l) :
  Does P ⟨d,.lookup t x y false,ty,pos,af,gd⟩ f w (D ((Gw.look key l).getD zv)) w:=by
 obtain ⟨es,c,hb,he,hF⟩ := hm
 have hz':(zeroValue et).run P w = .ok (D zv) w:=by
  cases hq:P.info? et with
  | none=>simp [hq] at hz
  | some i=>simp [hq] at hz; simp [zeroValue,typeInfo,hq,hz]
 simp only [Does,execOp,hx,hy,Instr.lookup,Sem.run_bind,run_underlying ht,Result.andThen_ok,MapKept.run_getObj_map hb,Sem.run_pure,K.check,run_findKey K key es.toList l he]
 cases hs:spot key l with
 | none=>simp [zah,hs,hz']
 | some i =>
  obtain ⟨v,hv⟩ := spot_key key l i hs
  simp [zah,hs,hv]
end
end
section
open Gw
theorem zT_Term:(PP.info? zm).bind (·.zero)=some (.agg (Term.C Term.z).toArray):=by kernel_rfl
abbrev oMS (m:Nat) (l:List (ByteArray × Int)):OA:=oM m Value.string (Value.int .i64) l
section
variable {A:Nat→Prop} {N:Oth} {w0 w:World} {L Z:List OA}
theorem Gw.St.nilZ_ (h:St A N w0 w L Z) (k:Nat) {s:SlV} {l:List PTerm} (hp:s.p.isNone=true) (e:Z[k]? = some (ze s l):=by rfl):l=[]:=by
 obtain ⟨ms,hs,hl,_⟩ := yB.rd (h.frz k e)
 cases l with
 | nil=>rfl
 | cons a l =>
  cases ms with
  | nil=>simp at hl
  | cons m ms =>
   have:=(hs.cells 0 (Term.C m) rfl).1
   rw [this] at hp; cases hp
end
end
section
open Gw
def zbl.f (a0:PTerm) (a1:Int):Option ByteArray :=
 if (decide (a0.kind=2)) || ((decide (a1=1)) && ((decide (a0.kind=12)) || (decide (a0.kind=9)))) then some a0.name else if (decide (a0.kind=9)) && (decide (a1=2)) then some a0.other else some (⟨#[]⟩ : ByteArray)
def zbm.b0 (a0:PTerm) (k:Nat) (a1:ByteArray) (zcD:PTerm→ByteArray→Int→Int→Option (Int × Int)) (a2:Int) (a3:Int) (i5:Int) (x5_0:Int) (x5_1:Int):Option (Int × Int) :=
 (zaB.f (at_ PTerm.z a0.sub i5)).bind fun r13=>(zaF.f k (at_ PTerm.z a0.sub i5)).bind fun r15=>(zbl.f a0 i5).bind fun r18=>if decide (r18 ≠ a1) then (zcD (at_ PTerm.z a0.sub i5) a1 a2 a3).bind fun r22=>some (IntKind.i64.wrap (x5_0 + r22.1),(if x5_1 < r22.2 then r22.2 else x5_1)) else some (IntKind.i64.wrap (x5_0 + r13),(if x5_1 < r15 then r15 else x5_1))
def zbm.g (zcD:PTerm→ByteArray→Int→Int→Option (Int × Int)) (k:Nat) (a0:PTerm) (a1:ByteArray) (a2:Int) (a3:Int):Option (Int × Int) :=
 if decide (a0.kind=1) then if decide (a0.name=a1) then some (a2,a3) else some (1,1) else (forS (fun i s=>zbm.b0 a0 k a1 zcD a2 a3 i s.1 s.2) ((a0.sub.length:Int) - 0).toNat 0 (1,0)).bind fun (o5:Int × Int)=>some (o5.1,IntKind.i64.wrap (o5.2 + 1))
def zbm.f:Nat→PTerm→ByteArray→Int→Int→Option (Int × Int)
 | 0=>fun _ _ _ _=>none
 | k + 1=>zbm.g (zbm.f k) k
def zbn.b0 (a0:PTerm) (zcE:PTerm→(List (ByteArray × Int))→(List (ByteArray × Int))→Option ((List (ByteArray × Int)) × (List (ByteArray × Int)))) (i9:Int) (x9_0:List (ByteArray × Int)) (x9_1:List (ByteArray × Int)):Option ((List (ByteArray × Int)) × (List (ByteArray × Int))) :=
 (zbl.f a0 i9).bind fun r17=>(zcE (at_ PTerm.z a0.sub i9) (Gw.ins r17 (IntKind.i64.wrap (((Gw.look r17 x9_0).getD 0) + 1)) x9_0) x9_1).bind fun r21=>some (Gw.ins r17 (IntKind.i64.wrap (((Gw.look r17 r21.1).getD 0) - 1)) r21.1,r21.2)
def zbn.g (zcE:PTerm→(List (ByteArray × Int))→(List (ByteArray × Int))→Option ((List (ByteArray × Int)) × (List (ByteArray × Int)))) (a0:PTerm) (a1:List (ByteArray × Int)) (a2:List (ByteArray × Int)):Option ((List (ByteArray × Int)) × (List (ByteArray × Int))) :=
 if decide (a0.kind=1) then (if decide ((Gw.look a0.name a1).getD 0=0) then some (Gw.ins a0.name (IntKind.i64.wrap (((Gw.look a0.name a2).getD 0) + 1)) a2) else some (a2)).bind fun (o4:(List (ByteArray × Int)))=>some (a1,o4) else (forS (fun i s=>zbn.b0 a0 zcE i s.1 s.2) ((a0.sub.length:Int) - 0).toNat 0 (a1,a2)).bind fun (o9:(List (ByteArray × Int)) × (List (ByteArray × Int)))=>some (o9.1,o9.2)
def zbn.f:Nat→PTerm→(List (ByteArray × Int))→(List (ByteArray × Int))→Option ((List (ByteArray × Int)) × (List (ByteArray × Int)))
 | 0=>fun _ _ _=>none
 | k + 1=>zbn.g (zbn.f k)
def zbo.f (k:Nat) (a0:PTerm):Option (List (ByteArray × Int)) :=
 (zbn.f k a0 ([]:List (ByteArray × Int)) ([]:List (ByteArray × Int))).bind fun r7=>some r7.2
def zbp.b0 (zcB:PTerm→Option PTerm) (a0:PTerm) (i11:Int) (x11_0:List PTerm):Option (List PTerm) :=
 (zcB (at_ PTerm.z a0.sub i11)).bind fun r22=>chk (inb i11 x11_0.length) (some (x11_0.set (Int.toNat i11) r22))
def zbp.g (zcB:PTerm→Option PTerm) (a0:PTerm):Option PTerm :=
 chk (decide (0 ≤ (a0.sub.length:Int)∧Int.toNat (a0.sub.length:Int) * 5 ≤ 16777216)) ((forS (fun i s=>zbp.b0 zcB a0 i s) ((a0.sub.length:Int) - 0).toNat 0 (List.replicate (Int.toNat (a0.sub.length:Int)) PTerm.z)).bind fun (o11:List PTerm)=>some (⟨a0.kind,a0.name,a0.other,a0.form,o11⟩ : PTerm))
def zbp.f:Nat→PTerm→Option PTerm
 | 0=>fun _=>none
 | k + 1=>zbp.g (zbp.f k)
def zbq.b0 (a0:List (ByteArray × Int)) (a1:List (ByteArray × Int)) (a2:ByteArray) (x1_0:Int):Option (Stp Int ByteArray) :=
 (strconv_Itoa.f x1_0).bind fun r2=>chk (decide ((⟨#[118]⟩ : ByteArray).size + r2.size ≤ 1000000)) (if ((decide ((Gw.look ((⟨#[118]⟩ : ByteArray) ++ r2) a0).getD 0=0)) && (decide ((Gw.look ((⟨#[118]⟩ : ByteArray) ++ r2) a1).getD 0=0))) && (decide ((⟨#[118]⟩ : ByteArray) ++ r2 ≠ a2)) then some (.ret ((⟨#[118]⟩ : ByteArray) ++ r2)) else some (.go (IntKind.i64.wrap (x1_0 + 1))))
def zbq.f (k:Nat) (a0:List (ByteArray × Int)) (a1:List (ByteArray × Int)) (a2:ByteArray):Option ByteArray :=
 (iter (fun s=>zbq.b0 a0 a1 a2 s) k 0).bind (aft fun (s1:Int)=>none)
def zbr.b0 (a0:PTerm) (k:Nat) (a1:ByteArray) (a3:List (ByteArray × Int)) (zcF:PTerm→ByteArray→PTerm→(List (ByteArray × Int))→Option PTerm) (a2:PTerm) (i23:Int) (x23_0:PTerm):Option PTerm :=
 (zbl.f a0 i23).bind fun r37=>(zbo.f k (at_ PTerm.z a0.sub i23)).bind fun r40=>if (decide (r37=a1)) || (decide ((Gw.look a1 r40).getD 0=0)) then (zbp.f k (at_ PTerm.z a0.sub i23)).bind fun r46=>chk (inb i23 x23_0.sub.length) (some (⟨x23_0.kind,x23_0.name,x23_0.other,x23_0.form,x23_0.sub.set (Int.toNat i23) r46⟩ : PTerm)) else (if (decide (r37 ≠ (⟨#[]⟩ : ByteArray))) && (decide (0 < (Gw.look r37 a3).getD 0)) then (zbq.f k r40 a3 a1).bind fun r65=>(zcF (at_ PTerm.z a0.sub i23) r37 (⟨1,r65,ByteArray.empty,0,[]⟩ : PTerm) (Gw.ins r65 1 ([]:List (ByteArray × Int)))).bind fun r71=>if decide (i23=2) then some ((r71,(⟨x23_0.kind,x23_0.name,r65,x23_0.form,x23_0.sub⟩ : PTerm))) else some ((r71,(⟨x23_0.kind,r65,x23_0.other,x23_0.form,x23_0.sub⟩ : PTerm))) else some (((at_ PTerm.z a0.sub i23),x23_0))).bind fun (o60:PTerm × PTerm)=>(zcF o60.1 a1 a2 a3).bind fun r82=>chk (inb i23 o60.2.sub.length) (some (⟨o60.2.kind,o60.2.name,o60.2.other,o60.2.form,o60.2.sub.set (Int.toNat i23) r82⟩ : PTerm))
def zbr.g (zcF:PTerm→ByteArray→PTerm→(List (ByteArray × Int))→Option PTerm) (k:Nat) (a0:PTerm) (a1:ByteArray) (a2:PTerm) (a3:List (ByteArray × Int)):Option PTerm :=
 if decide (a0.kind=1) then if decide (a0.name=a1) then (zbp.f k a2).bind fun r9=>some r9 else some a0 else chk (decide (0 ≤ (a0.sub.length:Int)∧Int.toNat (a0.sub.length:Int) * 5 ≤ 16777216)) ((forS (fun i s=>zbr.b0 a0 k a1 a3 zcF a2 i s) ((a0.sub.length:Int) - 0).toNat 0 (⟨a0.kind,a0.name,a0.other,a0.form,List.replicate (Int.toNat (a0.sub.length:Int)) PTerm.z⟩ : PTerm)).bind fun (o23:PTerm)=>some (⟨o23.kind,o23.name,o23.other,o23.form,o23.sub⟩ : PTerm))
def zbr.f:Nat→PTerm→ByteArray→PTerm→(List (ByteArray × Int))→Option PTerm
 | 0=>fun _ _ _ _=>none
 | k + 1=>zbr.g (zbr.f k) k
def zbs.f (k:Nat) (a0:PTerm) (a1:ByteArray) (a2:PTerm):Option (PTerm × Int) :=
 (zaK.f k a0).bind fun r7=>if decide (r7 ≠ 0) then some ((⟨0,ByteArray.empty,ByteArray.empty,0,[]⟩ : PTerm),r7) else (zaK.f k a2).bind fun r12=>if decide (r12 ≠ 0) then some ((⟨0,ByteArray.empty,ByteArray.empty,0,[]⟩ : PTerm),r12) else (zaw.f a1).bind fun r17=>if !r17 then some ((⟨0,ByteArray.empty,ByteArray.empty,0,[]⟩ : PTerm),32) else (zaB.f a2).bind fun r22=>(zaF.f k a2).bind fun r23=>(zbm.f k a0 a1 r22 r23).bind fun r24=>if (decide (65536 < r24.1)) || (decide (1024 < r24.2)) then some ((⟨0,ByteArray.empty,ByteArray.empty,0,[]⟩ : PTerm),121) else (zbo.f k a2).bind fun r29=>(zbr.f k a0 a1 a2 r29).bind fun r41=>some (r41,0)
def zbt.f (k:Nat) (a0:Tb) (a1:PTerm):Option (PTerm × Int) :=
 chk (inb 0 a1.sub.length) (chk (inb 0 ((at_ PTerm.z a1.sub 0).sub).length) (chk (inb 0 a1.sub.length) (chk (inb 1 a1.sub.length) ((zbs.f k (at_ PTerm.z ((at_ PTerm.z a1.sub 0).sub) 0) ((at_ PTerm.z a1.sub 0).name) (at_ PTerm.z a1.sub 1)).bind fun r29=>some (r29.1,r29.2)))))
def zbu.f (k:Nat) (a0:Tb) (a1:PTerm):Option (PTerm × Int) :=
 chk (inb 0 a1.sub.length) (chk (inb 0 ((at_ PTerm.z a1.sub 0).sub).length) (chk (inb 0 ((at_ PTerm.z ((at_ PTerm.z a1.sub 0).sub) 0).sub).length) (chk (inb 1 a1.sub.length) ((zaP.f a0 a1 false).bind fun r26=>(zaM.f (at_ PTerm.z a1.sub 1) r26).bind fun r29=>(zbs.f k (at_ PTerm.z ((at_ PTerm.z ((at_ PTerm.z a1.sub 0).sub) 0).sub) 0) ((at_ PTerm.z ((at_ PTerm.z a1.sub 0).sub) 0).name) r29).bind fun r33=>(zaP.f a0 a1 true).bind fun r68=>(zaM.f r33.1 r68).bind fun r71=>some (r71,r33.2)))))
def zbv.f (k:Nat) (a0:PTerm) (a1:PTerm) (a2:Bool):Option (PTerm × Int) :=
 if a2 then chk (inb 2 a0.sub.length) ((zbs.f k (at_ PTerm.z a0.sub 2) a0.other a1).bind fun r18=>some (r18.1,r18.2)) else chk (inb 1 a0.sub.length) ((zbs.f k (at_ PTerm.z a0.sub 1) a0.name a1).bind fun r35=>some (r35.1,r35.2))
def zbw.f (k:Nat) (a0:Tb) (a1:PTerm):Option (PTerm × Int) :=
 (zaS.f a1).bind fun r5=>chk (inb 0 a1.sub.length) (chk (inb 0 ((at_ PTerm.z a1.sub 0).sub).length) ((zbv.f k a1 (at_ PTerm.z ((at_ PTerm.z a1.sub 0).sub) 0) r5.1).bind fun r24=>some (r24.1,r24.2)))
def zbx.f (k:Nat) (a0:Tb) (a1:PTerm):Option (PTerm × Int) :=
 (zaT.f a0 a1).bind fun r5=>chk (inb 0 a1.sub.length) (chk (inb 0 ((at_ PTerm.z a1.sub 0).sub).length) (chk (inb 0 ((at_ PTerm.z ((at_ PTerm.z a1.sub 0).sub) 0).sub).length) ((zaP.f a0 a1 r5.1).bind fun r37=>(zaM.f (at_ PTerm.z ((at_ PTerm.z ((at_ PTerm.z a1.sub 0).sub) 0).sub) 0) r37).bind fun r40=>(zbv.f k a1 r40 r5.1).bind fun r44=>some (r44.1,r44.2))))
def zby.f (k:Nat) (a0:Tb) (a1:PTerm):Option (PTerm × Int) :=
 chk (inb 1 a1.sub.length) (chk (inb 0 a1.sub.length) ((zbs.f k (at_ PTerm.z a1.sub 1) a1.name (at_ PTerm.z a1.sub 0)).bind fun r21=>some (r21.1,r21.2)))
end
section
open Gw Go.RowKit
set_option maxHeartbeats 4000000
set_option maxRecDepth 20000
variable {A:Nat→Prop} {N:Oth} {w:World}
theorem term_shape_st {a0:Int} (S:St A N w w [] []) {r:Int × Bool × Bool × Bool} (H:zaC.f a0=some r) :
  Calls PP F_term_shape #[.int .i64 a0] w <| Rt fun v w'=>(v = .tuple #[.int .i64 r.1,.bool r.2.1,.bool r.2.2.1,.bool r.2.2.2]∧St A N w w' [] []):=by
 unfold zaC.f at H
 refine zu (n:=25) Tryz.func137 rfl rfl zao (zb (za (wd (zh rfl) (wd (zi rfl) (wd (zi rfl) (wd (zi rfl) (zd (zb (zb (za (wd (zk rfl) (zd ?_))))))))))))
 refine zL (zb (za (wd (zR rfl rfl) (wd (zi rfl) (zd ?_)))))
 refine zI rfl (fun hc1=>?_) (fun hc1=>?_)
 ·replace H:=if_t hc1 H
  refine zb (za (wd (zh rfl) (wd (zi rfl) (wd (zi rfl) (wd (zi rfl) (zd (zr ?_)))))))
  refine ⟨_,(kN (zf rfl) (zf rfl) (zf rfl) (zf rfl)),?_⟩
  obtain rfl:=zaq H
  exact ⟨rfl,S⟩
 replace H:=if_f hc1 H
 refine zb (za (wd (zR rfl rfl) (wd (zi rfl) (zd ?_))))
 refine zI rfl (fun hc2=>?_) (fun hc2=>?_)
 ·replace H:=if_t hc2 H
  refine zb (za (wd (zh rfl) (wd (zi rfl) (wd (zi rfl) (wd (zi rfl) (zd (zr ?_)))))))
  refine ⟨_,(kN (zf rfl) (zf rfl) (zf rfl) (zf rfl)),?_⟩
  obtain rfl:=zaq H
  exact ⟨rfl,S⟩
 replace H:=if_f hc2 H
 refine zb (za (wd (zR rfl rfl) (wd (zi rfl) (zd ?_))))
 refine zI rfl (fun hc3=>?_) (fun hc3=>?_)
 ·replace H:=if_t hc3 H
  refine zb (za (wd (zh rfl) (wd (zi rfl) (wd (zi rfl) (wd (zi rfl) (zd (zr ?_)))))))
  refine ⟨_,(kN (zf rfl) (zf rfl) (zf rfl) (zf rfl)),?_⟩
  obtain rfl:=zaq H
  exact ⟨rfl,S⟩
 replace H:=if_f hc3 H
 refine zb (za (wd (zR rfl rfl) (wd (zi rfl) (zd ?_))))
 refine zI rfl (fun hc4=>?_) (fun hc4=>?_)
 ·replace H:=if_t hc4 H
  refine zb (za (wd (zh rfl) (wd (zi rfl) (wd (zi rfl) (wd (zi rfl) (zd (zr ?_)))))))
  refine ⟨_,(kN (zf rfl) (zf rfl) (zf rfl) (zf rfl)),?_⟩
  obtain rfl:=zaq H
  exact ⟨rfl,S⟩
 replace H:=if_f hc4 H
 refine zb (zb (za (wd (zR rfl rfl) (wd (zi rfl) (zd ?_)))))
 obtain ⟨o5,e5,Ho5⟩ := zp H
 replace H:=e5; clear e5
 refine xL [15,17,18,19,20,21] (fun fr W=>fr 15 = .bool o5∧St A N w W [] []) ?_ ?_
 ·refine zI rfl (fun hc6=>?_) (fun hc6=>?_)
  ·replace H:=if_t hc6 H
   refine zw ?_
   obtain rfl:=zaq H
   exact ⟨rfl,df,rfl,S⟩
  ·replace H:=if_f hc6 H
   refine zb (za (wd (zR rfl rfl) (wd (zi rfl) (zd ?_))))
   refine zI rfl (fun hc7=>?_) (fun hc7=>?_)
   ·replace H:=if_t hc7 H
    refine zw ?_
    obtain rfl:=zaq H
    exact ⟨rfl,df,rfl,S⟩
   ·replace H:=if_f hc7 H
    refine zb (za (wd (zR rfl rfl) (wd (zi rfl) (zd ?_))))
    refine zI rfl (fun hc8=>?_) (fun hc8=>?_)
    ·replace H:=if_t hc8 H
     refine zw ?_
     obtain rfl:=zaq H
     exact ⟨rfl,df,rfl,S⟩
    ·replace H:=if_f hc8 H
     refine zb (za (wd (zR rfl rfl) (wd (zi rfl) (zd ?_))))
     refine zI rfl (fun hc9=>?_) (fun hc9=>?_)
     ·replace H:=if_t hc9 H
      refine zw ?_
      obtain rfl:=zaq H
      exact ⟨rfl,df,rfl,S⟩
     ·replace H:=if_f hc9 H
      refine zb (za (wd (zR rfl rfl) (wd (zi rfl) (zd ?_))))
      refine zI rfl (fun hc10=>?_) (fun hc10=>?_)
      ·replace H:=if_t hc10 H
       refine zw ?_
       obtain rfl:=zaq H
       exact ⟨rfl,df,rfl,S⟩
      ·replace H:=if_f hc10 H
       refine za (wd (zR rfl rfl) (wd (zi rfl) (zd ?_)))
       obtain rfl:=zaq H
       exact ⟨rfl,df,rfl,S⟩
 rintro g11 u12 ⟨p5_15,S⟩
 have H:=Ho5
 refine zI p5_15 (fun hc13=>?_) (fun hc13=>?_)
 ·replace H:=if_t hc13 H
  refine zb (za (wd (zh rfl) (wd (zi rfl) (wd (zi rfl) (wd (zi rfl) (zd (zr ?_)))))))
  refine ⟨_,(kN (zf rfl) (zf rfl) (zf rfl) (zf rfl)),?_⟩
  obtain rfl:=zaq H
  exact ⟨rfl,S⟩
 replace H:=if_f hc13 H
 refine zb (zb (za (wd (zR rfl rfl) (wd (zi rfl) (zd ?_)))))
 refine zI rfl (fun hc14=>?_) (fun hc14=>?_)
 ·replace H:=if_t hc14 H
  refine zw ?_
  refine zI rfl (fun hc15=>?_) (fun hc15=>?_)
  ·replace H:=if_t hc15 H
   refine zb (za (wd (zh rfl) (wd (zi rfl) (wd (zi rfl) (wd (zi rfl) (zd (zr ?_)))))))
   refine ⟨_,(kN (zf rfl) (zf rfl) (zf rfl) (zf rfl)),?_⟩
   obtain rfl:=zaq H
   exact ⟨rfl,S⟩
  replace H:=if_f hc15 H
  refine zw (zb (za (wd (zh rfl) (wd (zi rfl) (wd (zi rfl) (wd (zi rfl) (zd (zr ?_))))))))
  refine ⟨_,(kN (zf rfl) (zf rfl) (zf rfl) (zf rfl)),?_⟩
  obtain rfl:=zaq H
  exact ⟨rfl,S⟩
 ·replace H:=if_f hc14 H
  refine za (wd (zR rfl rfl) (wd (zi rfl) (zd ?_)))
  refine zI rfl (fun hc16=>?_) (fun hc16=>?_)
  ·replace H:=if_t hc16 H
   refine zb (za (wd (zh rfl) (wd (zi rfl) (wd (zi rfl) (wd (zi rfl) (zd (zr ?_)))))))
   refine ⟨_,(kN (zf rfl) (zf rfl) (zf rfl) (zf rfl)),?_⟩
   obtain rfl:=zaq H
   exact ⟨rfl,S⟩
  replace H:=if_f hc16 H
  refine zw (zb (za (wd (zh rfl) (wd (zi rfl) (wd (zi rfl) (wd (zi rfl) (zd (zr ?_))))))))
  refine ⟨_,(kN (zf rfl) (zf rfl) (zf rfl) (zf rfl)),?_⟩
  obtain rfl:=zaq H
  exact ⟨rfl,S⟩
theorem term_named_st {a0:ByteArray} {a1:Bool} (S:St A N w w [] []) {r:Bool} (H:zaD.f a0 a1=some r) :
  Calls PP F_term_named #[.string a0,.bool a1] w <| Rt fun v w'=>(v = .bool r∧St A N w w' [] []):=by
 unfold zaD.f at H
 refine zu (n:=11) Tryz.func138 rfl rfl zao (zb (za (wd (zi rfl) (zd (zb (zb (za (wd (zy rfl) (wd (xf rfl) (zd ?_))))))))))
 refine zI rfl (fun hc1=>?_) (fun hc1=>?_)
 ·replace H:=if_t hc1 H
  refine zb (za (wd (zW rfl) (wd (yo rfl rfl) (wd (zi rfl) (zd (zr ?_))))))
  refine ⟨_,(zP (zf rfl)),?_⟩
  obtain rfl:=zaq H
  exact ⟨rfl,S⟩
 replace H:=if_f hc1 H
 refine zw (zb (za (wd (zW rfl) ?_)))
 obtain ⟨r2,er2,H⟩ := zp H
 obtain ⟨_,_,T,bk⟩ := S.calln 0 ((.nil))
 refine zA (zx j3) zam (formula_Word_st T er2) ?_
 rintro _ w3 ⟨rfl,S2⟩
 replace S:=bk _ _ _ _ S2 rfl
 refine wd (zi rfl) (zd (zr ?_))
 refine ⟨_,(zP (zf rfl)),?_⟩
 obtain rfl:=zaq H
 exact ⟨rfl,S⟩
theorem term_deep_gst {zcC:PTerm→Int→Option Int} (zco : ∀ {A:Nat→Prop} {N:Oth} {w:World} {a0:PTerm} {s_0:SlV} {a1:Int} (S:St A N w w [] [ze s_0 a0.sub]) {r:Int} (H:zcC a0 a1=some r),Calls PP jS #[.agg (tmC a0 s_0).toArray,.int .i64 a1] w <| Rt fun v w'=>(v = .int .i64 r∧St A N w w' [] [])) {A:Nat→Prop} {N:Oth} {w:World} {a0:PTerm} {s_0:SlV} {a1:Int} (S:St A N w w [] [ze s_0 a0.sub]) {k:Nat} {r:Int} (H:zaE.g zcC k a0 a1=some r) :
  Calls PP jS #[.agg (tmC a0 s_0).toArray,.int .i64 a1] w <| Rt fun v w'=>(v = .int .i64 r∧St A N w w' [] []):=by
 unfold zaE.g at H
 refine zu (n:=35) Tryz.func136 rfl rfl zao (zb (za ?_))
 refine zH rfl zam fun b2 w1 hw1=>?_
 replace S:=S.new hw1
 refine wd (zh rfl) (zd (zb (zb (za (wd (zk rfl) (wd (does_le rfl rfl) (zd ?_)))))))
 refine zI rfl (fun hc3=>?_) (fun hc3=>?_)
 ·replace H:=if_t hc3 H
  refine zb (za (wd (zk rfl) (wd (zh rfl) (zd (zr ?_)))))
  refine ⟨_,(zP (zf rfl)),?_⟩
  replace S:=S.arr [] []
  obtain rfl:=zaq H
  exact ⟨rfl,S⟩
 replace H:=if_f hc3 H
 refine zw (zb (za (wd (zh rfl) (zd (zb (zb (za (wd (zh rfl) (zd ?_)))))))))
 obtain ⟨o4,e4,Ho4⟩ := zp H
 clear H
 refine xL ([5,6] ++ rg 10 23) (fun fr W => ∃ s4:Int × Int,o4 = .inl s4∧fr 5 = .int .i64 s4.1∧fr 6 = .int .i64 s4.2∧St A N w W [oB b2 zm (tmC a0 s_0)] [ze s_0 a0.sub]) ?_ ?_
 ·refine zL ?_
  refine xI (α:=Nat × (Int × Int)) ([5,6] ++ rg 10 23) (fun x fr W=>iter (fun s=>zaE.b0 a0 a1 zcC s.1 s.2) x.1 x.2=some o4∧fr 5 = .int .i64 (x.2.1)∧fr 6 = .int .i64 (x.2.2)∧St A N w W [oB b2 zm (tmC a0 s_0)] [ze s_0 a0.sub]) (fun x=>x.1) (k,(0,0)) ⟨(by dsimp only; exact e4),rfl,rfl,S⟩ ?_
  rintro ⟨m4,⟨x4_0,x4_1⟩⟩ g4 u4 ⟨e4,q4_5,q4_6,S⟩
  try dsimp only at e4
  try dsimp only at S
  try dsimp only at q4_5
  try dsimp only at q4_6
  obtain ⟨m4,rfl⟩ : ∃ m,m4=m + 1:=⟨m4 - 1,by cases m4 with | zero=>cases e4 | succ m=>rfl⟩
  obtain ⟨q4,H,e4⟩ := iter_s e4
  unfold zaE.b0 at H
  try dsimp only at H
  refine zb (zb (za (wd (zk q4_6) (wd (zg zD rfl (o':=4) rfl) (wd (zl zz rfl ((S.blk 0).cell (Term.get_sub _))) (wd (does_lenF zq rfl (S.onZ 0)) (wd (xp rfl rfl) (wd (zy rfl) ?_))))))))
  refine wg (fun hg=>zk q4_5) ?_
  refine wg (fun hg=>zk rfl) ?_
  refine wg (fun hg=>does_sub (zn hg) rfl) ?_
  refine wg (fun hg=>xp (zn hg) (zn hg)) (wd (zV rfl (fun hp=>(zn (xl hp)))) (zd ?_))
  refine zI rfl (fun hc5=>?_) (fun hc5=>?_)
  rotate_left
  ·replace H:=if_f hc5 H
   refine xO ?_
   obtain rfl:=zaq H
   exact ⟨rfl,df,(x4_0,x4_1),e4,q4_5,q4_6,S⟩
  replace H:=if_t hc5 H
  refine zw (zb ?_)
  refine zL (za (wd (zk q4_5) (wd (zg zD rfl (o':=4) rfl) (wd (zl zz rfl ((S.blk 0).cell (Term.get_sub _))) (wd (zk q4_6) ?_)))))
  obtain ⟨hi6,H⟩ := zX H
  refine wd (does_indexF zq rfl rfl (S.onZ 0) (zG hi6).1 (zG hi6).2) ?_
  obtain ⟨s7,hc8,S⟩ := S.viewTerm 0 (zG hi6)
  replace S:=S
  refine wd (ldC rfl hc8) (wd (zk rfl) (wd (does_sub rfl rfl) ?_))
  obtain ⟨r9,er9,H⟩ := zp H
  obtain ⟨_,_,T,bk⟩ := S.calln 0 ((.z 0 rfl .nil))
  refine zA (zx ca_term_deep) zam (zco (a0:=(kd a0 x4_1)) T er9) ?_
  rintro _ w10 ⟨rfl,S2⟩
  replace S:=bk _ _ _ _ S2 rfl
  refine wd (does_max rfl rfl) (wd (zh rfl) (zd (za (wd (zk q4_6) (wd (vT rfl rfl) (wd (zh rfl) (zd ?_)))))))
  replace S:=S.arr [0] [1]
  obtain rfl:=zaq H
  exact ⟨rfl,df,(m4,((if x4_0 < r9 then r9 else x4_0),IntKind.i64.wrap (x4_1 + 1))),⟨e4,rfl,rfl,S⟩,by dsimp only; omega⟩
 rintro g12 u13 ⟨s4,rfl,p4_5,p4_6,S⟩
 have H:=Ho4
 dsimp only [aft] at H
 refine zb (za (wd (zk p4_5) (wd (vT rfl rfl) (wd (zh rfl) (zd (zr ?_))))))
 refine ⟨_,(zP (zf rfl)),?_⟩
 replace S:=S.arr [] []
 obtain rfl:=zaq H
 exact ⟨rfl,S⟩
theorem term_deep_st {a0:PTerm} {s_0:SlV} {a1:Int} (S:St A N w w [] [ze s_0 a0.sub]) {k:Nat} {r:Int} (H:zaE.f k a0 a1=some r) :
  Calls PP jS #[.agg (tmC a0 s_0).toArray,.int .i64 a1] w <| Rt fun v w'=>(v = .int .i64 r∧St A N w w' [] []):=by
 have main : ∀ (k:Nat) {A:Nat→Prop} {N:Oth} {w:World} {a0:PTerm} {s_0:SlV} {a1:Int} (S:St A N w w [] [ze s_0 a0.sub]) {r:Int} (H:zaE.f k a0 a1=some r),Calls PP jS #[.agg (tmC a0 s_0).toArray,.int .i64 a1] w <| Rt fun v w'=>(v = .int .i64 r∧St A N w w' [] []):=by
  intro k
  induction k with
  | zero=>intro A N w a0 s_0 a1 S r H; cases H
  | succ k ih=>intro A N w a0 s_0 a1 S r H; exact term_deep_gst ih S H
 exact main k S H
theorem term_Deep_st {a0:PTerm} {s_0:SlV} (S:St A N w w [] [ze s_0 a0.sub]) {k:Nat} {r:Int} (H:zaF.f k a0=some r) :
  Calls PP F_term_Deep #[.agg (tmC a0 s_0).toArray] w <| Rt fun v w'=>(v = .int .i64 r∧St A N w w' [] []):=by
 unfold zaF.f at H
 refine zu (n:=5) Tryz.func76 rfl rfl zao (zb (za ?_))
 refine zH rfl zam fun b2 w1 hw1=>?_
 replace S:=S.new hw1
 refine wd (zh rfl) (zd (zb (za (wd (ldT rfl (S.blk 0)) ?_))))
 obtain ⟨r3,er3,H⟩ := zp H
 obtain ⟨_,_,T,bk⟩ := S.calln 0 ((.z 0 rfl .nil))
 refine zA (zx ca_term_deep) zam (term_deep_st (a0:=a0) T er3) ?_
 rintro _ w4 ⟨rfl,S2⟩
 replace S:=bk _ _ _ _ S2 rfl
 refine wd (zh rfl) (zd (zr ?_))
 refine ⟨_,(zP (zf rfl)),?_⟩
 replace S:=S.arr [] []
 obtain rfl:=zaq H
 exact ⟨rfl,S⟩
end
section
open Gw Go.RowKit
set_option maxHeartbeats 4000000
set_option maxRecDepth 20000
theorem term_right_1_gst {zcG:PTerm→Option Bool} (zcs : ∀ {A:Nat→Prop} {N:Oth} {w:World} {a0:PTerm} {s_0:SlV} (S:St A N w w [] [ze s_0 a0.sub]) {r:Bool} (H:zcG a0=some r),Calls PP vo #[.agg (tmC a0 s_0).toArray] w <| Rt fun v w'=>(v = .bool r∧St A N w w' [] [])) {A:Nat→Prop} {N:Oth} {w:World} {a0:PTerm} {s_0:SlV} (S:St A N w w [] [ze s_0 a0.sub]) {r:Bool} (H:zaG.g zcG a0=some r) :
  Calls PP jd #[.agg (tmC a0 s_0).toArray] w <| Rt fun v w'=>(v = .bool r∧St A N w w' [] []):=by
 unfold zaG.g at H
 refine zu (n:=6) Tryz.func139 rfl rfl zao (zb (za ?_))
 refine zH rfl zam fun b2 w1 hw1=>?_
 replace S:=S.new hw1
 refine wd (zi rfl) (zd (zb (za (wd (ldT rfl (S.blk 0)) ?_))))
 obtain ⟨r3,er3,H⟩ := zp H
 obtain ⟨_,_,T,bk⟩ := S.calln 0 ((.z 0 rfl .nil))
 refine zA (zx ca_term_right) zam (zcs (a0:=a0) T er3) ?_
 rintro _ w4 ⟨rfl,S2⟩
 replace S:=bk _ _ _ _ S2 rfl
 refine wd (xf rfl) (wd (zi rfl) (zd (zr ?_)))
 refine ⟨_,(zP (zf rfl)),?_⟩
 replace S:=S.arr [] []
 obtain rfl:=zaq H
 exact ⟨rfl,S⟩
theorem y5 {zcG:PTerm→Option Bool} (zcs : ∀ {A:Nat→Prop} {N:Oth} {w:World} {a0:PTerm} {s_0:SlV} (S:St A N w w [] [ze s_0 a0.sub]) {r:Bool} (H:zcG a0=some r),Calls PP vo #[.agg (tmC a0 s_0).toArray] w <| Rt fun v w'=>(v = .bool r∧St A N w w' [] [])) {A:Nat→Prop} {N:Oth} {w:World} {a0:List PTerm} {s_0:SlV} (S:St A N w w [] [ze s_0 a0]) {r:Int} (H:zaH.g zcG a0=some r) :
  Calls PP x5 #[s_0.v,.func (.func jd) #[] #[]] w <| Rt fun v w'=>(v = .int .i64 r∧St A N w w' [] []):=by
 unfold zaH.g at H
 refine zu (n:=19) Tryz.func162 rfl rfl zao (zb (za (wd (zh rfl) (zd (zb (zb (za (wd (zM rfl) ?_))))))))
 refine wd (does_lenF zq rfl (S.onZ 0)) (wd (zk rfl) (zd ?_))
 obtain ⟨o1,e1,Ho1⟩ := zp H
 clear H
 refine xL ([4,5] ++ rg 8 11) (fun fr W => ∃ s1:Unit,o1 = .inl s1∧St A N w W [] [ze s_0 a0]) ?_ ?_
 ·refine zL ?_
  refine xI (α:=Nat × Int × Unit) ([4,5] ++ rg 8 11) (fun x fr W=>(x.1:Int)=(a0.length:Int) - x.2.1∧0 ≤ x.2.1∧forN (fun i s=>zaH.b0 zcG a0 i) x.1 x.2.1 x.2.2=some o1∧fr 8 = .int .i64 x.2.1∧St A N w W [] [ze s_0 a0]) (fun x=>x.1) (((a0.length:Int) - 0).toNat,0,()) ⟨(by dsimp only; have hle:=Int.natCast_nonneg (a0.length); omega),(Int.le_refl _),(by dsimp only; exact e1),rfl,S⟩ ?_
  rintro ⟨m1,i1,_⟩ g1 u1 ⟨hm1,hl1,e1,q1_i,S⟩
  try dsimp only at hm1
  try dsimp only at hl1
  try dsimp only at e1
  try dsimp only at S
  try dsimp only at q1_i
  refine zb (za (wd (xp q1_i rfl) (zd (zb ?_))))
  refine zI rfl (fun hc2=>?_) (fun hc2=>?_)
  rotate_left
  ·refine xO ?_
   have hge:(a0.length:Int) ≤ i1:=Int.not_lt.1 (of_decide_eq_false hc2)
   obtain rfl:m1=0:=by omega
   replace e1:=kV e1
   exact ⟨rfl,df,(),e1,S⟩
  refine zw ?_
  have hlt1:i1 < (a0.length:Int):=of_decide_eq_true hc2
  obtain ⟨m1,rfl⟩ : ∃ m,m1=m + 1:=⟨m1 - 1,by omega⟩
  obtain ⟨q1,H,e1⟩ := kW e1
  unfold zaH.b0 at H
  try dsimp only at H
  have hb1:=(S.lenFZ 0)
  refine zb ?_
  refine zL (zb (za (wd (zk q1_i) (wd (zh rfl) (zd (zb (za ?_)))))))
  refine wd (uS rfl) (wd (zM rfl) (wd (zk rfl) (wd (does_indexF zq rfl rfl (S.onZ 0) (And.intro (show 0 ≤ i1 by omega) (show i1 < (a0.length:Int) from hlt1)).1 (And.intro (show 0 ≤ i1 by omega) (show i1 < (a0.length:Int) from hlt1)).2) ?_)))
  obtain ⟨s4,hc5,S⟩ := S.viewTerm 0 (And.intro (show 0 ≤ i1 by omega) (show i1 < (a0.length:Int) from hlt1))
  replace S:=S
  refine wd (ldC rfl hc5) ?_
  obtain ⟨r6,er6,H⟩ := zp H
  obtain ⟨_,_,T,bk⟩ := S.calln 0 ((.z 0 rfl .nil))
  refine zA (yr ca_term_right_1 rfl) zam (term_right_1_gst zcs (a0:=(at_ PTerm.z a0 i1)) T er6) ?_
  rintro _ w7 ⟨rfl,S2⟩
  replace S:=bk _ _ _ _ S2 rfl
  refine zd ?_
  refine zI rfl (fun hc9=>?_) (fun hc9=>?_)
  ·replace H:=if_t hc9 H
   refine zb (za (wd (zk rfl) (wd (zh rfl) (zd (zr ?_)))))
   refine ⟨_,(zP (zf rfl)),?_⟩
   replace S:=S.arr [] []
   obtain rfl:=zaq H
   obtain rfl:=e1
   obtain rfl:=uD Ho1
   exact ⟨rfl,S⟩
  replace H:=if_f hc9 H
  refine zw (za (wd (xi q1_i rfl (c:=i1 + 1) rfl zan zan) (wd (zk rfl) (zd ?_))))
  replace S:=S.arr [] [1]
  obtain rfl:=zaq H
  exact ⟨rfl,df,(m1,i1 + 1,()),⟨(by dsimp only; omega),(by dsimp only; omega),e1,rfl,S⟩,by dsimp only; omega⟩
 rintro g10 u11 ⟨s1,rfl,S⟩
 have H:=Ho1
 dsimp only [aft] at H
 refine zb (za (wd (zh rfl) (zd (zr ?_))))
 refine ⟨_,(zP (zf rfl)),?_⟩
 replace S:=S.arr [] []
 obtain rfl:=zaq H
 exact ⟨rfl,S⟩
theorem yF {zcG:PTerm→Option Bool} (zcs : ∀ {A:Nat→Prop} {N:Oth} {w:World} {a0:PTerm} {s_0:SlV} (S:St A N w w [] [ze s_0 a0.sub]) {r:Bool} (H:zcG a0=some r),Calls PP vo #[.agg (tmC a0 s_0).toArray] w <| Rt fun v w'=>(v = .bool r∧St A N w w' [] [])) {A:Nat→Prop} {N:Oth} {w:World} {a0:List PTerm} {s_0:SlV} (S:St A N w w [] [ze s_0 a0]) {r:Bool} (H:zaI.g zcG a0=some r) :
  Calls PP xP #[s_0.v,.func (.func jd) #[] #[]] w <| Rt fun v w'=>(v = .bool r∧St A N w w' [] []):=by
 unfold zaI.g at H
 refine zu (n:=9) Tryz.func101 rfl rfl zao (zb (za (wd (zi rfl) (zd (zb (za (wd (zM rfl) ?_)))))))
 refine wd (uS rfl) ?_
 obtain ⟨r1,er1,H⟩ := zp H
 obtain ⟨_,_,T,bk⟩ := S.calln 0 ((.z 0 rfl .nil))
 refine zA (zx yK) zam (y5 zcs T er1) ?_
 rintro _ w2 ⟨rfl,S2⟩
 replace S:=bk _ _ _ _ S2 rfl
 refine wd (ut rfl rfl) (wd (zi rfl) (zd (zr ?_)))
 refine ⟨_,(zP (zf rfl)),?_⟩
 replace S:=S.arr [] []
 obtain rfl:=zaq H
 exact ⟨rfl,S⟩
theorem term_right_gst {zcG:PTerm→Option Bool} (zcs : ∀ {A:Nat→Prop} {N:Oth} {w:World} {a0:PTerm} {s_0:SlV} (S:St A N w w [] [ze s_0 a0.sub]) {r:Bool} (H:zcG a0=some r),Calls PP vo #[.agg (tmC a0 s_0).toArray] w <| Rt fun v w'=>(v = .bool r∧St A N w w' [] [])) {A:Nat→Prop} {N:Oth} {w:World} {a0:PTerm} {s_0:SlV} (S:St A N w w [] [ze s_0 a0.sub]) {r:Bool} (H:zaJ.g zcG a0=some r) :
  Calls PP vo #[.agg (tmC a0 s_0).toArray] w <| Rt fun v w'=>(v = .bool r∧St A N w w' [] []):=by
 unfold zaJ.g at H
 refine zu (n:=60) Tryz.func77 rfl rfl zao (zb (za ?_))
 refine zH rfl zam fun b2 w1 hw1=>?_
 replace S:=S.new hw1
 refine wd (zi rfl) (zd (zb (za (wd (zg xh rfl (o':=0) rfl) (wd (zl zU rfl ((S.blk 0).cell (Term.get_kind _))) ?_)))))
 obtain ⟨r3,er3,H⟩ := zp H
 obtain ⟨_,_,T,bk⟩ := S.calln 0 ((.nil))
 refine zA (zx ca_term_shape) zam (term_shape_st T er3) ?_
 rintro _ w4 ⟨rfl,S2⟩
 replace S:=bk _ _ _ _ S2 rfl
 refine wd (xb rfl) (wd (zo rfl rfl) (wd (zo rfl rfl) (wd (zo rfl rfl) (wd (zo rfl rfl) (wd (zh rfl) ?_)))))
 refine wd (zi rfl) (wd (zi rfl) (wd (zi rfl) (zd (zb (zb (za (wd (zy rfl) ?_)))))))
 refine wd (xf rfl) (wd (zy rfl) ?_)
 refine wg (fun hg=>zg zD rfl (o':=4) rfl) ?_
 refine wg (fun hg=>zl zz (zn hg) ((S.blk 0).cell (Term.get_sub _))) ?_
 refine wg (fun hg=>does_lenF zq (zn hg) (S.onZ 0)) ?_
 refine wg (fun hg=>zk rfl) ?_
 refine wg (fun hg=>xq (zn hg) (zn hg)) (wd (xv rfl (fun hp=>(zn (xl hp)))) (wd (zy rfl) ?_))
 refine wg (fun hg=>zg xW rfl (o':=1) rfl) ?_
 refine wg (fun hg=>zl xt (zn hg) ((S.blk 0).cell (Term.get_name _))) ?_
 refine wg (fun hg=>zy rfl) ?_
 obtain ⟨r6,er6,H⟩ := zp H
 refine xJ (j:=9) (pol:=false) rfl rfl rfl zam (fun hg=>zK ca_term_named (zN (zn hg) (zN (zn hg) rfl))) zam (fun hg=>(have ⟨M,SS⟩ := S.lend ((.nil)); quiet (term_named_st SS (if_t (by simpa using hg) er6)) (fun v w' h=>⟨h.1,_,_,h.2⟩))) fun w7 hw7=>?_
 replace S:=S.ext hw7
 refine wg (fun hg=>xf (zn hg)) (wd (xv rfl (fun hp=>(zn (xl hp)))) (wd (zy rfl) ?_))
 refine wg (fun hg=>zg vX rfl (o':=2) rfl) ?_
 refine wg (fun hg=>zl xt (zn hg) ((S.blk 0).cell (Term.get_other _))) ?_
 refine wg (fun hg=>zy rfl) ?_
 obtain ⟨r8,er8,H⟩ := zp H
 refine xJ (j:=16) (pol:=false) rfl rfl rfl zam (fun hg=>zK ca_term_named (zN (zn hg) (zN (zn hg) rfl))) zam (fun hg=>(have ⟨M,SS⟩ := S.lend ((.nil)); quiet (term_named_st SS (if_t (by simpa using hg) er8)) (fun v w' h=>⟨h.1,_,_,h.2⟩))) fun w9 hw9=>?_
 replace S:=S.ext hw9
 refine wg (fun hg=>xf (zn hg)) (wd (xv rfl (fun hp=>(zn (xl hp)))) (zd ?_))
 refine zI rfl (fun hc10=>?_) (fun hc10=>?_)
 ·replace H:=if_t hc10 H
  refine zb (za (wd (zi rfl) (zd (zr ?_))))
  refine ⟨_,(zP (zf rfl)),?_⟩
  replace S:=S.arr [] []
  obtain rfl:=zaq H
  exact ⟨rfl,S⟩
 replace H:=if_f hc10 H
 refine zw (zb (zb (za (wd (zg xh rfl (o':=0) rfl) (wd (zl zU rfl ((S.blk 0).cell (Term.get_kind _))) (wd (xq rfl rfl) (wd (zy rfl) ?_)))))))
 refine wg (fun hg=>zg vt rfl (o':=3) rfl) ?_
 refine wg (fun hg=>zl xQ (zn hg) ((S.blk 0).cell (Term.get_form _))) ?_
 refine wg (fun hg=>xq (zn hg) rfl) (wd (zV rfl (fun hp=>(zn (xl hp)))) (wd (zy rfl) ?_))
 refine wg (fun hg=>zg vt rfl (o':=3) rfl) ?_
 refine wg (fun hg=>zl xQ (zn hg) ((S.blk 0).cell (Term.get_form _))) ?_
 refine wg (fun hg=>xp (zn hg) rfl) (wd (xv rfl (fun hp=>(zn (xl hp)))) (wd (zy rfl) ?_))
 refine wg (fun hg=>zg vt rfl (o':=3) rfl) ?_
 refine wg (fun hg=>zl xQ (zn hg) ((S.blk 0).cell (Term.get_form _))) ?_
 refine wg (fun hg=>ut (zn hg) rfl) (wd (xv rfl (fun hp=>(zn (xl hp)))) (zd ?_))
 refine zI rfl (fun hc11=>?_) (fun hc11=>?_)
 ·replace H:=if_t hc11 H
  refine zb (za (wd (zi rfl) (zd (zr ?_))))
  refine ⟨_,(zP (zf rfl)),?_⟩
  replace S:=S.arr [] []
  obtain rfl:=zaq H
  exact ⟨rfl,S⟩
 replace H:=if_f hc11 H
 refine zw (zb (za (wd (zg zD rfl (o':=4) rfl) (wd (zl zz rfl ((S.blk 0).cell (Term.get_sub _))) ?_))))
 obtain ⟨r12,er12,H⟩ := zp H
 obtain ⟨_,_,T,bk⟩ := S.calln 0 ((.z 0 rfl .nil))
 refine zA (zx yn) zam (yF zcs T er12) ?_
 rintro _ w13 ⟨rfl,S2⟩
 replace S:=bk _ _ _ _ S2 rfl
 refine wd (xf rfl) (wd (zi rfl) (zd (zr ?_)))
 refine ⟨_,(zP (zf rfl)),?_⟩
 replace S:=S.arr [] []
 obtain rfl:=zaq H
 exact ⟨rfl,S⟩
theorem term_right_st {A:Nat→Prop} {N:Oth} {w:World} {a0:PTerm} {s_0:SlV} (S:St A N w w [] [ze s_0 a0.sub]) {k:Nat} {r:Bool} (H:zaJ.f k a0=some r) :
  Calls PP vo #[.agg (tmC a0 s_0).toArray] w <| Rt fun v w'=>(v = .bool r∧St A N w w' [] []):=by
 have main : ∀ (k:Nat) {A:Nat→Prop} {N:Oth} {w:World} {a0:PTerm} {s_0:SlV} (S:St A N w w [] [ze s_0 a0.sub]) {r:Bool} (H:zaJ.f k a0=some r),Calls PP vo #[.agg (tmC a0 s_0).toArray] w <| Rt fun v w'=>(v = .bool r∧St A N w w' [] []):=by
  intro k
  induction k with
  | zero=>intro A N w a0 s_0 S r H; cases H
  | succ k ih=>intro A N w a0 s_0 S r H; exact term_right_gst ih S H
 exact main k S H
theorem vY {A:Nat→Prop} {N:Oth} {w:World} {a0:PTerm} {s_0:SlV} (S:St A N w w [] [ze s_0 a0.sub]) {k:Nat} {r:Int} (H:zaK.f k a0=some r) :
  Calls PP F_term_Check #[.agg (tmC a0 s_0).toArray] w <| Rt fun v w'=>(v = .int .i64 r∧St A N w w' [] []):=by
 unfold zaK.f at H
 refine zu (n:=16) Tryz.func45 rfl rfl zao (zb (za ?_))
 refine zH rfl zam fun b2 w1 hw1=>?_
 replace S:=S.new hw1
 refine wd (zh rfl) (zd (zb ?_))
 refine zL (zb (za (wd (ldT rfl (S.blk 0)) ?_)))
 obtain ⟨r3,er3,H⟩ := zp H
 obtain ⟨_,_,T,bk⟩ := S.calln 0 ((.z 0 rfl .nil))
 refine zA (zx ca_term_Size) zam (term_Size_st (a0:=a0) T er3) ?_
 rintro _ w4 ⟨rfl,S2⟩
 replace S:=bk _ _ _ _ S2 rfl
 refine wd (jL rfl rfl) (wd (zy rfl) ?_)
 refine wg (fun hg=>ldT rfl (S.blk 0)) ?_
 obtain ⟨r6,er6,H⟩ := zp H
 refine xJ (j:=3) (pol:=false) rfl rfl rfl zam (fun hg=>zK ca_term_Deep (zN (zn hg) rfl)) zam (fun hg=>(have ⟨M,SS⟩ := S.lend ((.z 0 rfl .nil)); quiet (term_Deep_st (a0:=a0) SS (if_t (by simpa using hg) er6)) (fun v w' h=>⟨h.1,_,_,h.2⟩))) fun w7 hw7=>?_
 replace S:=S.ext hw7
 refine wg (fun hg=>jL (zn hg) rfl) (wd (xv rfl (fun hp=>(zn (xl hp)))) (wd (zi rfl) (zd ?_)))
 refine zI rfl (fun hc8=>?_) (fun hc8=>?_)
 ·replace H:=if_t hc8 H
  refine zb (za (wd (zh rfl) (zd (zr ?_))))
  refine ⟨_,(zP (zf rfl)),?_⟩
  replace S:=S.arr [] []
  obtain rfl:=zaq H
  exact ⟨rfl,S⟩
 replace H:=if_f hc8 H
 refine zb (za (wd (ldT rfl (S.blk 0)) ?_))
 obtain ⟨r9,er9,H⟩ := zp H
 obtain ⟨_,_,T,bk⟩ := S.calln 0 ((.z 0 rfl .nil))
 refine zA (zx ca_term_right) zam (term_right_st (a0:=a0) T er9) ?_
 rintro _ w10 ⟨rfl,S2⟩
 replace S:=bk _ _ _ _ S2 rfl
 refine wd (xf rfl) (wd (zi rfl) (zd ?_))
 refine zI rfl (fun hc12=>?_) (fun hc12=>?_)
 ·replace H:=if_t hc12 H
  refine zb (za (wd (zh rfl) (zd (zr ?_))))
  refine ⟨_,(zP (zf rfl)),?_⟩
  replace S:=S.arr [] []
  obtain rfl:=zaq H
  exact ⟨rfl,S⟩
 replace H:=if_f hc12 H
 refine zw (zb (za (wd (zh rfl) (zd (zr ?_)))))
 refine ⟨_,(zP (zf rfl)),?_⟩
 replace S:=S.arr [] []
 obtain rfl:=zaq H
 exact ⟨rfl,S⟩
end
section
open Go.RowKit
namespace Gw
section
variable {P:Program} {F:Fence} {n:Nat} {a:Act} {w:World}
theorem wpIn_scope_straight {c:Code} {Q:Exit→Act→World→Prop} (h:c.wpIn F n P (fun e a w=>match e with | .goto _=>False | e=>Q e a w) a w):(Code.scope c).wpIn F n P Q a w:=by
 intro b k cs hro hb hr
 have h0:(lone (b.atR a (.code (.scope c) :: k)) cs w).fenced P F:=fenced_calm hb hr rfl
 have s0:step P (lone (b.atR a (.code (.scope c) :: k)) cs w) = .next (lone (b.atR a (.code c :: .inScope c :: k)) cs w):=step_lone_go (by simp [stepG,stepG.exec,Frame.atR])
 have s1 : ∀ a w,step P (lone (b.atR a (.inScope c :: k)) cs w) = .next (lone (b.atR a k) cs w):=fun a w=>step_lone_go (by simp [stepG,stepG.exec,Frame.atR])
 obtain ⟨e,a₁,w₁,hq,harr⟩ := h b (.inScope c :: k) cs hro hb hr
 cases e with
 | normal=>exact ⟨.normal,a₁,w₁,hq,.head h0 s0 (StepsIn.trans harr (.one (fenced_calm hb hr rfl) (s1 _ _)))⟩
 | exit id =>
  have hx:exitTo id (.inScope c :: k)=exitTo id k:=by simp [exitTo]
  exact ⟨_,a₁,w₁,hq,fun k' hk => .head h0 s0 (harr.1 k' (by rw [hx]; exact hk)),fun hr' hk=>let ⟨k₁,h1,h2⟩ := harr.2 hr' (by rw [hx]; exact hk); ⟨k₁,h1,.head h0 s0 h2⟩⟩
 | goto l=>exact hq.elim
 | ret=>exact ⟨_,a₁,w₁,hq,.of_steps (.one h0 s0) harr⟩
 | panic ch=>exact ⟨_,a₁,w₁,hq,.of_steps (.one h0 s0) harr⟩
 | outgrown=>exact ⟨_,a₁,w₁,hq,.of_steps (.one h0 s0) harr⟩
end
section
variable {P:Program} {rd:Option Nat} {n:Nat} {dm:List Nat} {Q:Post} {f:Fr} {w:World}
theorem wc_label {l:Nat} (h:Q dm .normal f w):wc P rd n dm (.label l) Q f w:=fun _ ha=>wpIn_label ⟨dm,f,ha,h⟩
theorem wc_scope {c:Code} (h:wc P rd n dm c (fun dm e f w=>match e with | .goto _=>False | e=>Q dm e f w) f w):wc P rd n dm (.scope c) Q f w:=fun a ha =>
 wpIn_scope_straight (wpIn_mono (h a ha) fun e a' w' ⟨dm',f',hf',q⟩ => by
  cases e with
  | goto l=>exact q.elim
  | _=>exact ⟨dm',f',hf',q⟩)
end
end Gw
end
section
open Go.RowKit
namespace Gw
def obPost4 (dm:List Nat) (D:Draw) (T:(Nat→Bool)→Fr→World→Prop) (L:Nat→Bool) (i:Nat) (d:Option Tmp) (g f:Fr) (w:World):Post:=fun dm' e f' w'=>e = .normal∧dm'=dm∧D.Le L w w'∧match d with
 | some d => ∃ v,f'=upd f d v∧D.V i v w'∧T (plus L i) (upd g d v) w'
 | none=>f'=f∧(∀ v,D.V i v w')∧T (plus L i) g w'
theorem ob4 {dm:List Nat} {D:Draw} {T:(Nat→Bool)→Fr→World→Prop} {L:Nat→Bool} {i:Nat} {d:Tmp} {g f:Fr} {w w':World} {v:Value} (hL:D.Le L w w') (hV:D.V i v w') (hT:T (plus L i) (upd g d v) w'):obPost4 dm D T L i (some d) g f w dm .normal (upd f d v) w':=⟨rfl,rfl,hL,v,rfl,hV,hT⟩
theorem w4 {P:Program} {rd:Option Nat} {n:Nat} {dm:List Nat} {ops:Array Oper} {D:Draw} {T:(Nat→Bool)→Fr→World→Prop} {L:Nat→Bool} {i:Nat} {d:Tmp} {g f:Fr} {w w':World} {v:Value} (hV:D.V i v w') (hT:T (plus L i) (upd g d v) w') (hL:D.Le L w w':=by exact trivial):wl P rd n dm ops [] (obPost4 dm D T L i (some d) g f w) (upd f d v) w':=zd (ob4 hL hV hT)
theorem ob40 {dm:List Nat} {D:Draw} {T:(Nat→Bool)→Fr→World→Prop} {L:Nat→Bool} {i:Nat} {g f:Fr} {w w':World} (hL:D.Le L w w') (hV : ∀ v,D.V i v w') (hT:T (plus L i) g w'):obPost4 dm D T L i none g f w dm .normal f w':=⟨rfl,rfl,hL,rfl,hV,hT⟩
section
variable {P:Program} {rd:Option Nat} {n m:Nat} {dm:List Nat} {ops:Array Oper} {Q:Post} {f:Fr} {w:World}
end
section
variable {w0:World} {ia ist da t d i:Nat} {zc fc:List Value} {L:Nat→Bool} {g:Fr} {v v':World} {x:Value}
theorem plus_ne {j:Nat} (h:Nat.beq j i=false):plus L i j=L j:=by simp only [plus,h,Bool.false_or]
end
end Gw
end
section
open Go.RowKit
namespace Gw
def Owe5 (P:Program) (rd:Option Nat) (n:Nat) (dm:List Nat) (ops:Array Oper) (ds:List Nat) (D:Draw) (T:(Nat→Bool)→Fr→World→Prop) (f:Fr) (i:Nat) (o:Oper):Prop :=
 ∀ (L:Nat→Bool) (g:Fr) (w:World),L i=false→(∀ j,((Region.before ops).getD i 0).testBit j=true→L j=true)→(∀ j q,L j=true→((Region.before ops).getD j 0).testBit q=true→L q=true)→T L g w→givens ops D g w (v8 o) (wl P rd n dm ops [o] (obPost4 dm D T L i o.dst g (mask ds g f) w) (mask ds g f) w)
def Owes5 (P:Program) (rd:Option Nat) (n:Nat) (dm:List Nat) (ops:Array Oper) (ds:List Nat) (D:Draw) (T:(Nat→Bool)→Fr→World→Prop) (f:Fr):List Oper→Nat→Prop
 | [],_=>True
 | o :: l,i=>Owe5 P rd n dm ops ds D T f i o∧Owes5 P rd n dm ops ds D T f l (i + 1)
section
variable {P:Program} {rd:Option Nat} {n m:Nat} {dm:List Nat} {ops:Array Oper} {Q:Post} {f:Fr} {w:World}
theorem clos_of {l:List Oper} {j q:Nat} {listed:Array Bool} (hc:Closed l.toArray listed) (hj:listed.getD j false=true) (hq:((Region.before l.toArray).getD j 0).testBit q=true):listed.getD q false=true:=by
 by_cases hl:j < l.length
 ·have ho:l.toArray[j]? = some l[j]:=by simp [hl]
  refine jf hc [] #[] rfl zao zao l.toArray.toList zao j (by simpa using hl) q ?_ ?_
  ·unfold Region.before at hq
   rw [← Array.foldl_toList] at hq
   exact hq
  ·rw [ho]
   intro e he hb
   exact hc j _ ho hj e (by simpa using he) hb
 ·have h0:(Region.before l.toArray).getD j 0=0:=by
   have hs:(Region.before l.toArray).size=l.length:=by
    unfold Region.before
    rw [← Array.foldl_toList]
    have:=before_foldl l #[]
    simpa using this
   rw [Array.getD_eq_getD_getElem?,Array.getElem?_eq_none zan]; rfl
  rw [h0] at hq; simp at hq
theorem owes5_at {ds:List Nat} {D:Draw} {T:(Nat→Bool)→Fr→World→Prop} : ∀ (l:List Oper) (i:Nat),Owes5 P rd n dm ops ds D T f l i → ∀ j o,l[j]? = some o→Owe5 P rd n dm ops ds D T f (i + j) o
 | [],_,_,j,o,hj=>by simp at hj
 | o :: l,i,h,0,o',hj=>by simp at hj; subst hj; exact h.1
 | o :: l,i,h,j + 1,o',hj=>by
  have:=owes5_at l (i + 1) h.2 j o' (by simpa using hj)
  rwa [show i + 1 + j=i + (j + 1) by omega] at this
theorem yX {id:Nat} {l:List Oper} (m:Nat) (D:Draw) (T:(Nat→Bool)→Fr→World→Prop) (hm:P.follows .mixedOrders=true) (hB:drawB2 l.toArray m=true)
  (hst : ∀ L i v w w',L i=true→D.Le L w w'→D.V i v w→D.V i v w') (hT : ∀ g,T (fun _=>false) g { w with drawn:=w.drawn + 1 })
  (ho:Owes5 P rd n dm l.toArray ((l.take m).filterMap (·.dst)) D T f (l.take m) 0)
  (hq : ∀ L g w,(∀ j,L j=decide (j < m))→T L g w→allV D g w (l.take m) 0 (wl P rd n dm l.toArray (l.drop m) Q (mask ((l.take m).filterMap (·.dst)) g f) w)):wc P rd n dm (.region id l.toArray true) Q f w:=by
 intro a ha
 refine wpIn_region_any hm ?_
 simp only [drawB2,Bool.and_eq_true,decide_eq_true_eq,List.all_eq_true] at hB
 obtain ⟨⟨⟨hnd,hback⟩,htail⟩,hml⟩ := hB
 simp only [List.size_toArray] at hml
 generalize hds:(l.take m).filterMap (·.dst)=ds at *
 have hb:Back l.toArray:=by
  intro i o hi e he hbd
  have:=hback (o,i) (by
   rw [List.mem_zipIdx_iff_getElem?]
   simpa using hi) e (by simpa using he)
  simp only [hbd,Bool.not_true,Bool.false_or,decide_eq_true_eq] at this
  exact this
 have hord : ∀ k,m ≤ k→k < l.toArray.size → ∀ listed:Array Bool,listed.size=l.toArray.size→k ∈ Region.ready .any l.toArray listed→Closed l.toArray listed → ∀ j,j < k→listed.getD j false=true:=by
  intro k hmk hk listed hs hr hc j hj
  have hkl:k < l.length:=by simpa using hk
  have h1:=htail (l[k],k) (by
   rw [List.mem_zipIdx_iff_getElem?]
   simp)
  simp only [Bool.or_eq_true,decide_eq_true_eq] at h1
  rcases h1 with h1 | h1
  ·omega
  ·rw [List.all_eq_true] at h1
   have h2:=h1 j (by simpa using hj)
   rw [mem_ready] at hr
   obtain ⟨_,o,ho',hall⟩ := hr
   refine jf hc [] #[] rfl zao zao l.toArray.toList zao k hk j ?_ ?_
   ·unfold Region.before at h2
    rw [← Array.foldl_toList] at h2
    exact h2
   ·rw [ho']
    simpa using hall
 have hmd : ∀ j o,(l.take m)[j]? = some o→j < m∧l.toArray[j]? = some o ∧ ∀ d,o.dst=some d→d ∈ ds:=by
  intro j o hj
  have hjm:j < m:=by
   have:=(List.getElem?_eq_some_iff.1 hj).1
   simp at this; omega
  have hjo:l[j]? = some o:=by rw [List.getElem?_take] at hj; simpa [hjm] using hj
  exact ⟨hjm,by simpa using hjo,fun d hd=>by rw [← hds]; exact List.mem_filterMap.2 ⟨o,List.mem_of_getElem? hj,hd⟩⟩
 have hinj : ∀ (i j:Nat) (oi oj:Oper) (d:Nat),(l.take m)[i]? = some oi→(l.take m)[j]? = some oj→oi.dst=some d→oj.dst=some d→i=j:=by
  have hgen : ∀ (L:List Oper),(L.filterMap (·.dst)).Nodup → ∀ (i j:Nat) (oi oj:Oper) (d:Nat),L[i]? = some oi→L[j]? = some oj→oi.dst=some d→oj.dst=some d→i=j:=by
   intro L
   induction L with
   | nil=>intro _ i j oi oj d h; simp at h
   | cons o L ih =>
    intro hn i j oi oj d hi hj hdi hdj
    have hn':(L.filterMap (·.dst)).Nodup:=by
     rw [List.filterMap_cons] at hn
     split at hn
     ·exact hn
     ·exact (List.nodup_cons.1 hn).2
    have hno : ∀ (k:Nat) (ok:Oper) (dd:Nat),L[k]? = some ok→o.dst=some dd→ok.dst ≠ some dd:=by
     intro k ok dd hk hod hkd
     rw [List.filterMap_cons,hod] at hn
     exact (List.nodup_cons.1 hn).1 (List.mem_filterMap.2 ⟨ok,List.mem_of_getElem? hk,hkd⟩)
    cases i with
    | zero =>
     cases j with
     | zero=>rfl
     | succ j=>simp at hi; subst hi; exact absurd hdj (hno j oj d (by simpa using hj) hdi)
    | succ i =>
     cases j with
     | zero=>simp at hj; subst hj; exact absurd hdi (hno i oi d (by simpa using hi) hdj)
     | succ j=>rw [ih hn' i j oi oj d (by simpa using hi) (by simpa using hj) hdi hdj]
  exact hgen _ (by rw [hds]; exact hnd)
 have main : ∀ (fuel:Nat) (listed:Array Bool) (g:Fr) (a:Act) (w:World),listed.size=l.length→fuel + cnt listed l.length=l.length→Closed l.toArray listed→(∀ j,m ≤ j→j < l.length→listed.getD j false=false) →
   Is n dm a (mask ds g f)→T (fun j=>listed.getD j false) g w→(∀ j o,(l.take m)[j]? = some o→listed.getD j false=true→overV D g w j o.dst)→wpAnyIn (fen rd) 0 P .any l.toArray (lift n Q) fuel listed a w:=by
  intro fuel
  induction fuel with
  | zero =>
   intro listed g a w hs hcnt hc hno ha hT hV
   have hall:=cnt_full listed l.length zan
   have hm':m=l.length:=by
    by_cases h:m < l.length
    ·have:=hno m (Nat.le_refl _) h
     rw [hall m h] at this
     cases this
    ·omega
   have hfin:=jy (l.take m) 0 (fun j o hj=>by rw [Nat.zero_add]; exact (hV j o hj (hall j (by have:=(hmd j o hj).1; omega))).get) (hq _ g w (fun j=>by
    by_cases hj:j < l.length
    ·rw [hall j hj,decide_eq_true zan]
    ·rw [jF listed j zan,decide_eq_false zan]) hT)
   rw [List.drop_eq_nil_of_le zan] at hfin
   refine ⟨?_,?_⟩
   ·refine List.eq_nil_iff_forall_not_mem.2 fun i hi=>?_
    obtain ⟨h1,h2⟩ := jo (ops:=l.toArray) (by simpa using hs) hi
    rw [hall i (by simpa using h1)] at h2
    cases h2
   ·exact hfin a ha
  | succ fuel ih =>
   intro listed g a w hs hcnt hc hno ha hT hV
   have hs':listed.size=l.toArray.size:=by simpa using hs
   refine ⟨fun hr=>?_,fun i hi=>?_⟩
   ·have hall:=ready_nil hb hs' hr
    have:=cnt_all listed l.length (fun j hj=>hall j (by simpa using hj))
    omega
   ·obtain ⟨h1,h2⟩ := jo hs' hi
    have h1':i < l.length:=by simpa using h1
    by_cases him:i < m
    ·have hio:(l.take m)[i]? = some l[i]:=by
      rw [List.getElem?_take,if_pos him]
      exact List.getElem?_eq_getElem h1'
     obtain ⟨_,hio',hdds⟩ := hmd i _ hio
     have howe:=owes5_at _ 0 ho i _ hio (fun j=>listed.getD j false) g w (by rw [Nat.zero_add]; exact h2) (fun j hj=>by rw [Nat.zero_add] at hj; exact ord_of h1' hj hi hc) (fun j q hj hq=>clos_of hc hj hq) hT
     rw [Nat.zero_add] at howe
     have hready:=hi
     rw [mem_ready] at hready
     obtain ⟨_,o,hoo,hall⟩ := hready
     rw [hio'] at hoo
     cases hoo
     have hwl:=kL (ops:=l.toArray) (v8 l[i]) (fun j hj=>by
      unfold v8 at hj
      obtain ⟨e,he,rfl⟩ := List.mem_map.1 hj
      obtain ⟨he1,he2⟩ := List.mem_filter.1 he
      have hbd:Region.binds .any e=true:=by
       unfold Region.binds
       cases hg:e.ground <;> rw [hg] at he2 <;> simp at he2 ⊢
      have hlt:=hb i _ hio' e (by simpa using he1) hbd
      have hlst:=hall e (by simpa using he1) hbd
      have hjm:e.on < m:=by omega
      have hjo:(l.take m)[e.on]? = some l[e.on]:=by
       rw [List.getElem?_take,if_pos hjm]
       exact List.getElem?_eq_getElem zan
      have:=(hV e.on _ hjo hlst).get
      unfold vq
      obtain ⟨_,hj2,_⟩ := hmd _ _ hjo
      rw [hj2]
      simp only [zar]
      exact this) howe
     refine wpOp_of_wl hio' hwl (fun dm e f' w' q=>q.1) ?_ ha
     rintro dm' a' f' w' ha' ⟨_,rfl,hL',hV'⟩
     cases hd:l[i].dst with
     | none =>
      rw [hd] at hV'
      obtain ⟨rfl,hV',hT'⟩ := hV'
      rw [plus_set listed i zan] at hT'
      refine ih _ g a' w' (by simpa using hs) ?_ (hc.set hs' hi) ?_ ha' hT' ?_
      ·rw [cnt_set listed i zan h2,if_pos h1']; omega
      ·intro j hmj hjl
       rw [vJ _ _ _ zan,if_neg zan]
       exact hno j hmj hjl
      ·intro j oj hj hlj
       rw [vJ _ _ _ zan] at hlj
       by_cases hij:i=j
       ·subst hij
        rw [hio] at hj
        cases hj
        rw [hd]
        exact hV'
       ·rw [if_neg hij] at hlj
        have hvj:=hV j oj hj hlj
        cases hdj:oj.dst with
        | none=>rw [hdj] at hvj; exact fun v=>hst _ j _ _ _ hlj hL' (hvj v)
        | some dj=>rw [hdj] at hvj; exact hst _ j _ _ _ hlj hL' hvj
     | some d =>
     rw [hd] at hV'
     obtain ⟨v,rfl,hV',hT'⟩ := hV'
     rw [plus_set listed i zan] at hT'
     have hdds:=hdds d hd
     have hmask:upd (mask ds g f) d v=mask ds (upd g d v) f:=by
      funext k
      by_cases hk:k=d
      ·subst hk
       rw [upd_same,yb hdds,upd_same]
      ·rw [ya _ _ _ _ hk]
       by_cases hkd:k ∈ ds
       ·rw [yb hkd,yb hkd,ya _ _ _ _ hk]
       ·rw [x7 hkd,x7 hkd]
     rw [hmask] at ha'
     refine ih _ (upd g d v) a' w' (by simpa using hs) ?_ (hc.set hs' hi) ?_ ha' hT' ?_
     ·rw [cnt_set listed i zan h2,if_pos h1']; omega
     ·intro j hmj hjl
      rw [vJ _ _ _ zan,if_neg zan]
      exact hno j hmj hjl
     ·intro j oj hj hlj
      rw [vJ _ _ _ zan] at hlj
      by_cases hij:i=j
      ·subst hij
       rw [hio] at hj
       cases hj
       rw [hd]
       show D.V i (upd g d v d) _
       rw [upd_same]
       exact hV'
      ·rw [if_neg hij] at hlj
       have hvj:=hV j oj hj hlj
       cases hdj:oj.dst with
       | none=>rw [hdj] at hvj; exact fun v=>hst _ j _ _ _ hlj hL' (hvj v)
       | some dj =>
        rw [hdj] at hvj
        have hne:dj ≠ d:=fun e=>hij (hinj i j _ oj d hio hj hd (by rw [hdj,e]))
        show D.V j (upd g d v dj) _
        rw [ya _ _ _ _ hne]
        exact hst _ j _ _ _ hlj hL' hvj
    ·have hallj:=hord i zan h1 listed hs' hi hc
     have him':i=m:=by
      by_cases h:m < i
      ·have:=hno m (Nat.le_refl _) zan
       rw [hallj m h] at this
       cases this
      ·omega
     subst him'
     have hfin:=jy (l.take i) 0 (fun j o hj=>by rw [Nat.zero_add]; exact (hV j o hj (hallj j (by have:=(hmd j o hj).1; omega))).get) (hq _ g w (fun j=>by
      by_cases hj:j < i
      ·rw [hallj j hj,decide_eq_true hj]
      ·rw [decide_eq_false hj]
       by_cases hjl:j < l.length
       ·exact hno j zan hjl
       ·exact jF listed j zan) hT)
     have hfa:=hfin a ha
     have hcn:cnt listed l.length=i:=by
      have hz : ∀ k,i ≤ k→k ≤ l.length→cnt listed k=i:=by
       intro k
       induction k with
       | zero=>intro h _; rw [show i=0 by omega]; rfl
       | succ k ihk =>
        intro h1 h2
        by_cases hk:i ≤ k
        ·rw [kB,ihk hk zan,hno k hk zan]; simp
        ·have:k + 1=i:=by omega
         rw [this]
         exact cnt_all listed i hallj
      exact hz _ zan (Nat.le_refl _)
     have htl:=any_tail (rd:=rd) (P:=P) (m:=i) (R:=lift n Q) hb hord (fuel + 1) i listed a w (Nat.le_refl _) hs' hc (fun j hj=>⟨(fun h=>by
      refine Nat.lt_of_not_le fun hij=>?_
      rw [hno j hij (by simpa using hj)] at h
      cases h),hallj j⟩) (by simp; omega) hfa
     exact htl.2 i hi
 have h0:Is n dm a (mask ds f f):=by
  have:mask ds f f=f:=by funext k; unfold mask; cases ds.elem k <;> rfl
  rw [this]; exact ha
 have hz:cnt (Array.replicate l.toArray.size false) l.length=0:=by
  unfold cnt
  rw [List.length_eq_zero_iff]
  refine List.filter_eq_nil_iff.2 fun j hj=>?_
  rw [yR]
  simp
 refine main _ _ f a _ zao (by rw [hz]; simp) ?_ (by intro j _ _; rw [yR]) h0 (by rw [show (fun j=>(Array.replicate l.toArray.size false).getD j false)=fun _=>false from funext fun j=>yR _ j]; exact hT _) ?_
 ·intro j o _ h; rw [yR] at h; cases h
 ·intro j o _ h; rw [yR] at h; cases h
theorem xR {L:Nat→Bool} {i:Nat}:plus L i i=true:=by simp [plus]
end
end Gw
end
section
open Go.RowKit
namespace Gw
def Made {γ:Type} (L:Nat→Bool) (g:Fr) (Z:List OA) (j:Nat) (d:Tmp) (val:γ→Value) (ps:γ→List OA):Prop:=L j=true → ∃ c:γ,g d=val c ∧ ∀ z ∈ ps c,z ∈ Z
section
variable {γ:Type} {L:Nat→Bool} {g:Fr} {Z Z':List OA} {i j:Nat} {d e:Tmp} {x:Value} {val:γ→Value} {ps:γ→List OA}
theorem Made.no:Made (fun _=>false) g Z j d val ps:=fun h=>by cases h
theorem Made.keep (h:Made L g Z j d val ps) (h1:Nat.beq j i=false) (h2:Nat.beq d e=false) (hs : ∀ z ∈ Z,z ∈ Z'):Made (plus L i) (upd g e x) Z' j d val ps:=fun hl=>by
 rw [plus_ne h1] at hl
 obtain ⟨c,hc,hp⟩ := h hl
 exact ⟨c,by rw [ya _ _ _ _ (by intro q; rw [q] at h2; simp at h2)]; exact hc,fun z hz=>hs z (hp z hz)⟩
theorem Made.one (c:γ) (hp : ∀ z ∈ ps c,z ∈ Z'):Made (plus L i) (upd g d (val c)) Z' i d val ps:=fun _=>⟨c,upd_same _ _ _,hp⟩
theorem clF {a b:Bool} (hb:b=false) (h:a=true→b=true):a=false:=by
 cases a with
 | false=>rfl
 | true=>rw [h rfl] at hb; exact hb
theorem pN (L:Nat→Bool) (i j:Nat) (h:Nat.beq j i=false:=by rfl):plus L i j=L j:=plus_ne h
theorem kpP {X:Prop} (hk:L j=true→X) (h1:Nat.beq j i=false:=by rfl):plus L i j=true→X:=fun h=>hk (by rw [plus_ne h1] at h; exact h)
theorem kpU {v:Value} (hk:L j=true→g d=v) (h1:Nat.beq j i=false:=by rfl) (h2:d ≠ e:=by decide):plus L i j=true→upd g e x d=v:=fun h=>by rw [ya _ _ _ _ h2]; exact hk (by rw [plus_ne h1] at h; exact h)
theorem kpZ {Y:List OA} (hs : ∀ z ∈ Z,z ∈ Z') (hq:L j=true → ∀ z ∈ Y,z ∈ Z) (h1:Nat.beq j i=false:=by rfl):plus L i j=true → ∀ z ∈ Y,z ∈ Z':=fun h z q=>hs z (hq (by rw [plus_ne h1] at h; exact h) z q)
theorem yw : ∀ z ∈ ([]:List OA),z ∈ Z:=fun _ h=>by cases h
theorem xX {a:OA} {l:List OA} (h:a ∈ Z) (hl : ∀ z ∈ l,z ∈ Z) : ∀ z ∈ a :: l,z ∈ Z:=fun z hz=>(List.mem_cons.1 hz).elim (fun e=>e ▸ h) (hl z)
theorem xD {l1 l2:List OA} (h : ∀ z ∈ l1,z ∈ Z) (hl : ∀ z ∈ l2,z ∈ Z) : ∀ z ∈ l1 ++ l2,z ∈ Z:=fun z hz=>(List.mem_append.1 hz).elim (h z) (hl z)
theorem tl0 : ∀ z ∈ Z,z ∈ Z:=fun _ h=>h
theorem tl3 {a b c:OA} : ∀ z ∈ Z,z ∈ a :: b :: c :: Z:=fun z q => .tail _ (.tail _ (.tail _ (q)))
theorem tl4 {a b c d:OA} : ∀ z ∈ Z,z ∈ a :: b :: c :: d :: Z:=fun z q => .tail _ (.tail _ (.tail _ (.tail _ (q))))
theorem tl5 {a b c d e:OA} : ∀ z ∈ Z,z ∈ a :: b :: c :: d :: e :: Z:=fun z q => .tail _ (.tail _ (.tail _ (.tail _ (.tail _ (q)))))
theorem tl6 {a b c d e f:OA} : ∀ z ∈ Z,z ∈ a :: b :: c :: d :: e :: f :: Z:=fun z q => .tail _ (.tail _ (.tail _ (.tail _ (.tail _ (.tail _ (q))))))
theorem tl7 {a b c d e f g:OA} : ∀ z ∈ Z,z ∈ a :: b :: c :: d :: e :: f :: g :: Z:=fun z q => .tail _ (.tail _ (.tail _ (.tail _ (.tail _ (.tail _ (.tail _ (q)))))))
theorem tl8 {a b c d e f g h:OA} : ∀ z ∈ Z,z ∈ a :: b :: c :: d :: e :: f :: g :: h :: Z:=fun z q => .tail _ (.tail _ (.tail _ (.tail _ (.tail _ (.tail _ (.tail _ (.tail _ (q))))))))
theorem tl9 {a b c d e f g h i:OA} : ∀ z ∈ Z,z ∈ a :: b :: c :: d :: e :: f :: g :: h :: i :: Z:=fun z q => .tail _ (.tail _ (.tail _ (.tail _ (.tail _ (.tail _ (.tail _ (.tail _ (.tail _ (q)))))))))
theorem St.zneed {A:Nat→Prop} {N:Oth} {w0 w:World} {L Z Z1:List OA} (h:St A N w0 w L Z) (hz : ∀ z ∈ Z1,z ∈ Z):St A N w0 w L (Z1 ++ Z):=h.pickZ fun z q=>(List.mem_append.1 q).elim (hz z) id
theorem Made.keep0 (h:Made L g Z j d val ps) (h1:Nat.beq j i=false) (hs : ∀ z ∈ Z,z ∈ Z'):Made (plus L i) g Z' j d val ps:=fun hl=>by
 rw [plus_ne h1] at hl
 obtain ⟨c,hc,hp⟩ := h hl
 exact ⟨c,hc,fun z hz=>hs z (hp z hz)⟩
theorem Sep.ins {w:World} : ∀ {P X Y:List OA} {U:Nat→Prop},Sep w U (P ++ (X ++ Y))→Sep w U (X ++ (P ++ Y)):=fun {P X Y U} h=>by
 obtain ⟨A1,h1,hP,h2⟩ := Sep.split h
 obtain ⟨A2,h3,hX,hY⟩ := Sep.split h2
 refine Sep.join (A:=A2) (B:=fun i=>U i∧¬ A2 i) hX ?_ (fun i hi=>(h3 i hi).1.1) (fun i hi=>hi.1) (fun i hi q=>q.2 hi)
 refine Sep.join (A:=A1) (B:=fun i=>(U i∧¬ A1 i)∧¬ A2 i) hP hY (fun i hi=>⟨(h1 i hi).1,fun q=>(h3 i q).1.2 hi⟩) (fun i hi=>⟨hi.1.1,hi.2⟩) (fun i hi q=>q.1.2 hi)
theorem St.ins {A:Nat→Prop} {N:Oth} {w0 w:World} {P X Y Z:List OA} (h:St A N w0 w (P ++ (X ++ Y)) Z):St A N w0 w (X ++ (P ++ Y)) Z:=by
 obtain ⟨U,hU,hN,hA,hL,hZ,hW⟩ := h
 exact ⟨U,hU,hN,hA,Sep.ins hL,hZ,hW⟩
theorem St.drops {A:Nat→Prop} {N:Oth} {w0 w:World} {X Y Z:List OA} (h:St A N w0 w (X ++ Y) Z):St A N w0 w Y Z:=by
 obtain ⟨U,hU,hN,hA,hL,hZ,hW⟩ := h
 obtain ⟨A1,h1,hX,hY⟩ := Sep.split hL
 exact ⟨U,hU,hN,hA,hY.mono fun i hi=>hi.1,hZ,hW⟩
theorem does_callvg {P:Program} {f:Fr} {w:World} {dd:Option Tmp} {ty:TypeId} {pos:String} {af:Array Edge} {gd:Option (Nat × Bool)} {c:Operand} {k:FuncId} {fi ca:Array Value} {xs:Array Operand} {ats:Array TypeId} {l:List Value} (hg:zF P k) (hv:evF f c = .func (.func k) fi ca) (hx:xs.toList.map (evF f)=l):Enters P ⟨dd,.call ⟨.value c,xs,ats⟩,ty,pos,af,gd⟩ f w k (fi.toList ++ l ++ ca.toList).toArray:=hx ▸ yr hg hv
end
end Gw
end
section
open Gw Go.RowKit
set_option maxHeartbeats 4000000
set_option maxRecDepth 20000
variable {A:Nat→Prop} {N:Oth} {w:World}
theorem jM {a0:PTerm} {s_0:SlV} {a1:Int} (S:St A N w w [] [ze s_0 a0.sub]) {r:PTerm} (H:zaM.f a0 a1=some r) :
  Calls PP F_reduce_the #[.agg (tmC a0 s_0).toArray,.int .i64 a1] w <| Rt fun v w'=>(∃ so0:SlV,v = .agg (tmC r so0).toArray∧St A N w w' [] [ze so0 r.sub]):=by
 unfold zaM.f at H
 refine zu (n:=9) Tryz.func110 rfl rfl zao (zb (za ?_))
 refine zH rfl zam fun b2 w1 hw1=>?_
 replace S:=S.new hw1
 refine zQ xn zam fun b4 w3 hw3=>?_
 replace S:=S.new hw3
 refine zd (zb (za (wd (zk rfl) (wd (ldT rfl (S.blk 1)) ?_))))
 refine vi (C:=Term.C) (l:=[(tmT a0 s_0)]) (vs:=[.agg (tmC a0 s_0).toArray]) zq uu.zero rfl rfl (fun a _=>Term.len a) zam rfl zam fun b6 w5 s7 hBw5 hw5=>?_
 replace S:=((S.lit hBw5 hw5 zao).bigTm).consTm (x:=a0) 0
 replace S:=(S.frzTm 0 0).zs [0,2]
 refine wd (Does.to (v' := .agg (Term.C (tmN 11 a1 s7)).toArray) (xa (vs:=[(0,.int .i64 11),(3,.int .i64 a1),(4,s7.v)]) yl (xK rfl (xK rfl (xK rfl rfl))) (Bld.one rfl rfl (by rw [Term.len]; decide) (Term.set_kind _ _) (Bld.one rfl rfl (by rw [Term.len]; decide) (Term.set_form _ _) (Bld.one rfl (SlV.one _ _ rfl) (by rw [Term.len]; decide) (Term.set_sub _ _) Bld.nil)))) rfl) ?_
 refine wsT rfl rfl (S.blk 0) fun w8 B hw8 zw8=>?_
 replace S:=S.store 0 B hw8
 refine zd (zr ?_)
 refine ⟨_,(zP (rtT rfl (S.blk 0))),?_⟩
 replace S:=S.arr [] [0]
 obtain rfl:=zaq H
 exact ⟨s7,rfl,S⟩
theorem yt {a0:PTerm} {s_0:SlV} {a1:Int} (S:St A N w w [] [ze s_0 a0.sub]) {r:Bool} (H:zaN.f a0 a1=some r) :
  Calls PP F_reduce_headed #[.agg (tmC a0 s_0).toArray,.int .i64 a1] w <| Rt fun v w'=>(v = .bool r∧St A N w w' [] []):=by
 unfold zaN.f at H
 refine zu (n:=18) Tryz.func104 rfl rfl zao (zb (za ?_))
 refine zH rfl zam fun b2 w1 hw1=>?_
 replace S:=S.new hw1
 refine wd (zi rfl) (zd (zb (za (wd (zg zD rfl (o':=4) rfl) (wd (zl zz rfl ((S.blk 0).cell (Term.get_sub _))) (wd (does_lenF zq rfl (S.onZ 0)) ?_))))))
 refine wd (jL rfl rfl) (wd (zy rfl) ?_)
 refine wg (fun hg=>zg zD rfl (o':=4) rfl) ?_
 refine wg (fun hg=>zl zz (zn hg) ((S.blk 0).cell (Term.get_sub _))) ?_
 obtain ⟨hi3,H⟩ := chk_g H
 refine wg (fun hg=>does_indexF zq (zn hg) rfl (S.onZ 0) (zG (hi3 (by simpa using hg))).1 (zG (hi3 (by simpa using hg))).2) ?_
 refine wg (fun hg=>zg xh (zn hg) (o':=_) rfl) ?_
 refine wg (fun hg=>zl zU (zn hg) (yB.get_kind (S.onZ 0) (zG (hi3 (by simpa using hg))))) ?_
 refine wg (fun hg=>zk rfl) ?_
 refine wg (fun hg=>zR (zn hg) (zn hg)) (wd (zV rfl (fun hp=>(zn (xl hp)))) (wd (zi rfl) (zd (zr ?_))))
 refine ⟨_,(zP (zf rfl)),?_⟩
 replace S:=S.arr [] []
 obtain rfl:=zaq H
 exact ⟨rfl,S⟩
theorem uv {a0:Tb} {a_0:Option Addr} {a1:PTerm} {s_1:SlV} {a2:Int} {a3:Int} (S:St A N w w [] [oT a_0 a0,ze s_1 a1.sub]) {r:Bool} (H:zaO.f a0 a1 a2 a3=some r) :
  Calls PP F_reduce_beside #[.pointer a_0,.agg (tmC a1 s_1).toArray,.int .i64 a2,.int .i64 a3] w <| Rt fun v w'=>(v = .bool r∧St A N w w' [] []):=by
 unfold zaO.f at H
 refine zu (n:=37) Tryz.func108 rfl rfl zao (zb (za ?_))
 refine zH rfl zam fun b2 w1 hw1=>?_
 replace S:=S.new hw1
 refine wd (zi rfl) (zd (zb (zb (za (wd (ldT rfl (S.blk 0)) ?_)))))
 obtain ⟨r3,er3,H⟩ := zp H
 obtain ⟨_,_,T,bk⟩ := S.calln 0 ((.z 1 rfl .nil))
 refine zA (zx yq) zam (yt (a0:=a1) T er3) ?_
 rintro _ w4 ⟨rfl,S2⟩
 replace S:=bk _ _ _ _ S2 rfl
 refine wd (xf rfl) (wd (zy rfl) ?_)
 refine wg (fun hg=>zg zD rfl (o':=4) rfl) ?_
 refine wg (fun hg=>zl zz (zn hg) ((S.blk 0).cell (Term.get_sub _))) ?_
 obtain ⟨hi6,H⟩ := chk_g H
 refine wg (fun hg=>does_indexF zq (zn hg) rfl (S.onZ 1) (zG (hi6 (by simpa using hg))).1 (zG (hi6 (by simpa using hg))).2) ?_
 obtain ⟨s7,hc8,S⟩ := S.viewTermG (i:=0) 1
 replace S:=S
 refine wg (fun hg=>zt z1 (zn hg) (hc8 (zG (hi6 (by simpa using hg)))) (Term.len _)) ?_
 refine wg (fun hg=>zk rfl) ?_
 obtain ⟨r9,er9,H⟩ := zp H
 refine xJ (j:=3) (pol:=false) rfl rfl rfl zam (fun hg=>zK yq (zN (zn hg) (zN (zn hg) rfl))) zam (fun hg=>(have ⟨M,SS⟩ := S.lend ((.z 0 rfl .nil)); quiet (yt (a0:=(kd a1 0)) SS (if_t (by simpa using hg) er9)) (fun v w' h=>⟨h.1,_,_,h.2⟩))) fun w10 hw10=>?_
 replace S:=S.ext hw10
 refine wg (fun hg=>xf (zn hg)) (wd (xv rfl (fun hp=>(zn (xl hp)))) (zd ?_))
 refine zI rfl (fun hc11=>?_) (fun hc11=>?_)
 ·replace H:=if_t hc11 H
  refine zb (za (wd (zi rfl) (zd (zr ?_))))
  refine ⟨_,(zP (zf rfl)),?_⟩
  replace S:=S.arr [] []
  obtain rfl:=zaq H
  exact ⟨rfl,S⟩
 replace H:=if_f hc11 H
 refine zw (zb (za (wd (zB rfl) (wd (zg zD rfl (o':=4) rfl) (wd (zl zz rfl ((S.blk 0).cell (Term.get_sub _))) ?_)))))
 obtain ⟨hi12,H⟩ := zX H
 refine wd (does_indexF zq rfl rfl (S.onZ 2) (zG hi12).1 (zG hi12).2) (wd (zg vt rfl (o':=_) rfl) (wd (zl xQ rfl (yB.get_form (S.onZ 2) (zG hi12))) ?_))
 obtain ⟨r13,er13,H⟩ := zp H
 obtain ⟨_,_,T,bk⟩ := S.calln 0 ((.z 1 rfl .nil))
 refine zA (zx jv) zam (jw T er13) ?_
 rintro _ w14 ⟨rfl,S2⟩
 replace S:=bk _ _ _ _ S2 rfl
 refine wd (xb rfl) (wd (zo rfl rfl) (wd (zo rfl rfl) ?_))
 refine zQ ze_Nd zam fun b17 w16 hw16=>?_
 replace S:=S.new hw16
 refine z7 v7 rfl rfl (S.blk 0) (Nd.len _) (by rw [Nd.len]; decide) (Nd.one _) (xx (Nd.len _)) fun w18 B hw18 zw18=>?_
 replace S:=S.store 0 B hw18
 refine wd (zi rfl) (zd (zb (za (wd (zg fl_Nd_kind rfl (o':=0) rfl) (wd (zl j0 rfl ((S.blk 0).cell (Nd.get_kind _))) (wd (zk rfl) ?_))))))
 refine wd (zR rfl rfl) (wd (zi rfl) (zd (zr ?_)))
 refine ⟨_,(zP (zf rfl)),?_⟩
 replace S:=S.arr [] []
 obtain rfl:=zaq H
 exact ⟨rfl,S⟩
theorem jp {a0:Tb} {a_0:Option Addr} {a1:PTerm} {s_1:SlV} {a2:Bool} (S:St A N w w [] [oT a_0 a0,ze s_1 a1.sub]) {r:Int} (H:zaP.f a0 a1 a2=some r) :
  Calls PP F_reduce_half #[.pointer a_0,.agg (tmC a1 s_1).toArray,.bool a2] w <| Rt fun v w'=>(v = .int .i64 r∧St A N w w' [] []):=by
 unfold zaP.f at H
 refine zu (n:=24) Tryz.func111 rfl rfl zao (zb (za ?_))
 refine zH rfl zam fun b2 w1 hw1=>?_
 replace S:=S.new hw1
 refine wd (zh rfl) (zd (zb (za (wd (zB rfl) (wd (zg zD rfl (o':=4) rfl) (wd (zl zz rfl ((S.blk 0).cell (Term.get_sub _))) ?_))))))
 obtain ⟨hi3,H⟩ := zX H
 refine wd (does_indexF zq rfl rfl (S.onZ 1) (zG hi3).1 (zG hi3).2) (wd (zg vt rfl (o':=_) rfl) (wd (zl xQ rfl (yB.get_form (S.onZ 1) (zG hi3))) ?_))
 obtain ⟨r4,er4,H⟩ := zp H
 obtain ⟨_,_,T,bk⟩ := S.calln 0 ((.z 0 rfl .nil))
 refine zA (zx jv) zam (jw T er4) ?_
 rintro _ w5 ⟨rfl,S2⟩
 replace S:=bk _ _ _ _ S2 rfl
 refine wd (xb rfl) (wd (zo rfl rfl) (wd (zo rfl rfl) ?_))
 refine zQ ze_Nd zam fun b8 w7 hw7=>?_
 replace S:=S.new hw7
 refine z7 v7 rfl rfl (S.blk 0) (Nd.len _) (by rw [Nd.len]; decide) (Nd.one _) (xx (Nd.len _)) fun w9 B hw9 zw9=>?_
 replace S:=S.store 0 B hw9
 refine wd (zi rfl) (zd (zb (zb (za (wd (zy rfl) (zd ?_))))))
 refine zI rfl (fun hc10=>?_) (fun hc10=>?_)
 ·replace H:=if_t hc10 H
  refine zb (za (wd (zg kK rfl (o':=3) rfl) (wd (zl xQ rfl ((S.blk 0).cell (Nd.get_r _))) (wd (zh rfl) (zd (zr ?_))))))
  refine ⟨_,(zP (zf rfl)),?_⟩
  replace S:=S.arr [] []
  obtain rfl:=zaq H
  exact ⟨rfl,S⟩
 replace H:=if_f hc10 H
 refine zw (zb (za (wd (zg kJ rfl (o':=2) rfl) (wd (zl xQ rfl ((S.blk 0).cell (Nd.get_l _))) (wd (zh rfl) (zd (zr ?_)))))))
 refine ⟨_,(zP (zf rfl)),?_⟩
 replace S:=S.arr [] []
 obtain rfl:=zaq H
 exact ⟨rfl,S⟩
theorem reduce_takes_st {a0:PTerm} {s_0:SlV} (S:St A N w w [] [ze s_0 a0.sub]) {r:Bool} (H:zaQ.f a0=some r) :
  Calls PP F_reduce_takes #[.agg (tmC a0 s_0).toArray] w <| Rt fun v w'=>(v = .bool r∧St A N w w' [] []):=by
 unfold zaQ.f at H
 refine zu (n:=11) Tryz.func113 rfl rfl zao (zb (za ?_))
 refine zH rfl zam fun b2 w1 hw1=>?_
 replace S:=S.new hw1
 refine wd (zi rfl) (zd (zb (za (wd (zg xh rfl (o':=0) rfl) (wd (zl zU rfl ((S.blk 0).cell (Term.get_kind _))) (wd (zR rfl rfl) ?_))))))
 refine wd (zy rfl) ?_
 refine wg (fun hg=>zg xh rfl (o':=0) rfl) ?_
 refine wg (fun hg=>zl zU (zn hg) ((S.blk 0).cell (Term.get_kind _))) ?_
 refine wg (fun hg=>zR (zn hg) rfl) (wd (xv rfl (fun hp=>(zn (xl hp)))) (wd (zi rfl) (zd (zr ?_))))
 refine ⟨_,(zP (zf rfl)),?_⟩
 replace S:=S.arr [] []
 obtain rfl:=zaq H
 exact ⟨rfl,S⟩
theorem reduce_side_st {a0:PTerm} {s_0:SlV} {a1:PTerm} {s_1:SlV} (S:St A N w w [] [ze s_0 a0.sub,ze s_1 a1.sub]) {r:PTerm} (H:zaR.f a0 a1=some r) :
  Calls PP F_reduce_side #[.agg (tmC a0 s_0).toArray,.agg (tmC a1 s_1).toArray] w <| Rt fun v w'=>(∃ so0:SlV,v = .agg (tmC r so0).toArray∧St A N w w' [] [ze so0 r.sub]):=by
 unfold zaR.f at H
 refine zu (n:=16) Tryz.func115 rfl rfl zao (zb (za ?_))
 refine zH rfl zam fun b2 w1 hw1=>?_
 replace S:=S.new hw1
 refine zH rfl zam fun b4 w3 hw3=>?_
 replace S:=S.new hw3
 refine zQ xn zam fun b6 w5 hw5=>?_
 replace S:=S.new hw5
 refine zd (zb (zb (za (wd (zg xh rfl (o':=0) rfl) (wd (zl zU rfl ((S.blk 2).cell (Term.get_kind _))) (wd (zR rfl rfl) (zd ?_)))))))
 refine zI rfl (fun hc7=>?_) (fun hc7=>?_)
 ·replace H:=if_t hc7 H
  refine zb (za (wd (zg zD rfl (o':=4) rfl) (wd (zl zz rfl ((S.blk 1).cell (Term.get_sub _))) ?_)))
  obtain ⟨hi8,H⟩ := zX H
  refine wd (does_indexF zq rfl rfl (S.onZ 1) (zG hi8).1 (zG hi8).2) ?_
  obtain ⟨s9,hc10,S⟩ := S.viewTerm 1 (zG hi8)
  replace S:=S
  refine wd (ldC rfl hc10) ?_
  refine wsT rfl rfl (S.blk 0) fun w11 B hw11 zw11=>?_
  replace S:=S.store 0 B hw11
  refine zd (zr ?_)
  refine ⟨_,(zP (rtT rfl (S.blk 0))),?_⟩
  replace S:=S.arr [] [0]
  obtain rfl:=zaq H
  exact ⟨s9,rfl,S⟩
 replace H:=if_f hc7 H
 refine zw (zb (za (wd (zg zD rfl (o':=4) rfl) (wd (zl zz rfl ((S.blk 1).cell (Term.get_sub _))) ?_))))
 obtain ⟨hi12,H⟩ := zX H
 refine wd (does_indexF zq rfl rfl (S.onZ 1) (zG hi12).1 (zG hi12).2) ?_
 obtain ⟨s13,hc14,S⟩ := S.viewTerm 1 (zG hi12)
 replace S:=S
 refine wd (ldC rfl hc14) ?_
 refine wsT rfl rfl (S.blk 0) fun w15 B hw15 zw15=>?_
 replace S:=S.store 0 B hw15
 refine zd (zr ?_)
 refine ⟨_,(zP (rtT rfl (S.blk 0))),?_⟩
 replace S:=S.arr [] [0]
 obtain rfl:=zaq H
 exact ⟨s13,rfl,S⟩
theorem kF {a0:PTerm} {s_0:SlV} (S:St A N w w [] [ze s_0 a0.sub]) {r:Bool × Bool} (H:zaS.f a0=some r) :
  Calls PP kH #[.agg (tmC a0 s_0).toArray] w <| Rt fun v w'=>(v = .tuple #[.bool r.1,.bool r.2]∧St A N w w' [] []):=by
 unfold zaS.f at H
 refine zu (n:=17) Tryz.func119 rfl rfl zao (zb (za ?_))
 refine zH rfl zam fun b2 w1 hw1=>?_
 replace S:=S.new hw1
 refine wd (zi rfl) (wd (zi rfl) (zd (zb ?_)))
 refine x0 14 (Ext w1) hmix zap zap (Ext.drawn _) (zC (fun v K=>zt z1 rfl (((S.ext K).blk 0).all _ (Term.len _)) (Term.len _)) ?_)
 obtain ⟨r3,er3,H⟩ := zp H
 refine wq_call (fun v=>zx yq) (fun v K=>(have ⟨M,SS⟩ := (S.ext K).lend ((.z 0 rfl .nil)); quiet (yt (a0:=a0) SS er3) (fun v w' h=>⟨h.1,_,_,h.2⟩))) (fun v v' K h=>K.thenExt h) (zC (fun v K=>zg xh rfl (o':=0) rfl) (zC (fun v K=>zl zU rfl (((S.ext K).blk 0).cell (Term.get_kind _))) (zC (fun v K=>zR rfl rfl) (zC (fun v K=>zy rfl) (vy (j:=5) (pol:=true) rfl rfl rfl (fun hg v K=>zt z1 rfl (((S.ext K).blk 0).all _ (Term.len _)) (Term.len _)) ?_)))))
 obtain ⟨r4,er4,H⟩ := zp H
 refine wq_gcall (j:=5) (pol:=true) rfl rfl rfl (fun hg v=>zK yq (zN (zn hg) (zN rfl rfl))) (fun hg v K=>(have ⟨M,SS⟩ := (S.ext K).lend ((.z 0 rfl .nil)); quiet (yt (a0:=a0) SS (if_t (by simpa using hg) er4)) (fun v w' h=>⟨h.1,_,_,h.2⟩))) (fun v v' K h=>K.thenExt h) (vy (j:=5) (pol:=true) rfl rfl rfl (fun hg v K=>zy (zn hg)) (wq_guard2 (j:=8) (pol:=false) rfl rfl rfl (fun hg v K=>zt z1 rfl (((S.ext K).blk 0).all _ (Term.len _)) (Term.len _)) ?_))
 obtain ⟨r5,er5,H⟩ := zp H
 refine wq_gcall2 (j:=8) (pol:=false) rfl rfl rfl (fun hg v=>zK yq (zN (zn hg) (zN rfl rfl))) (fun hg v K=>(have ⟨M,SS⟩ := (S.ext K).lend ((.z 0 rfl .nil)); quiet (yt (a0:=a0) SS (if_t (by simpa using hg) er5)) (fun v w' h=>⟨h.1,_,_,h.2⟩))) (fun v v' K h=>K.thenExt h) (vy (j:=5) (pol:=true) rfl rfl rfl (fun hg v K=>xv (zn hg) (fun hp=>(zn (and_b hg hp)))) (zC (fun v K=>zV rfl (fun hp=>(zn (xl hp)))) (zC (fun v K=>zi rfl) ?_)))
 refine vj fun w6 K=>?_
 replace S:=S.ext K
 clear K
 refine wd (zi rfl) (zd (zr ?_))
 refine ⟨_,(xm (zf rfl) (zf rfl)),?_⟩
 replace S:=S.arr [] []
 obtain rfl:=zaq H
 exact ⟨rfl,S⟩
theorem reduce_told_st {a0:Tb} {a_0:Option Addr} {a1:PTerm} {s_1:SlV} (S:St A N w w [] [oT a_0 a0,ze s_1 a1.sub]) {r:Bool × Bool} (H:zaT.f a0 a1=some r) :
  Calls PP F_reduce_told #[.pointer a_0,.agg (tmC a1 s_1).toArray] w <| Rt fun v w'=>(v = .tuple #[.bool r.1,.bool r.2]∧St A N w w' [] []):=by
 unfold zaT.f at H
 refine zu (n:=22) Tryz.func123 rfl rfl zao (zb (za ?_))
 refine zH rfl zam fun b2 w1 hw1=>?_
 replace S:=S.new hw1
 refine wd (zi rfl) (wd (zi rfl) (zd (zb (za (wd (zB rfl) (wd (ldT rfl (S.blk 0)) ?_))))))
 obtain ⟨r3,er3,H⟩ := zp H
 obtain ⟨_,_,T,bk⟩ := S.calln 0 ((.z 0 rfl (.z 1 rfl .nil)))
 refine zA (zx ur) zam (uv (a1:=a1) T er3) ?_
 rintro _ w4 ⟨rfl,S2⟩
 replace S:=bk _ _ _ _ S2 rfl
 refine wd (zi rfl) (zd (zb (za (wd (zy rfl) (wd (zg xh rfl (o':=0) rfl) (wd (zl zU rfl ((S.blk 0).cell (Term.get_kind _))) ?_))))))
 refine wd (zR rfl rfl) (wd (zy rfl) ?_)
 refine wg (fun hg=>zy rfl) ?_
 refine wg (fun hg=>zy (zn hg)) (xj (j:=6) (pol:=false) rfl rfl rfl zam (fun hg=>zB rfl) zam (xj (j:=6) (pol:=false) rfl rfl rfl zam (fun hg=>ldT rfl (S.blk 0)) zam ?_))
 obtain ⟨r6,er6,H⟩ := zp H
 refine wl_gcall2 (j:=6) (pol:=false) rfl rfl rfl zam (fun hg=>zK ur (zN (zn hg) (zN (zn hg) (zN rfl (zN rfl rfl))))) zam (fun hg=>(have ⟨M,SS⟩ := S.lend ((.z 0 rfl (.z 1 rfl .nil))); quiet (uv (a1:=a1) SS (if_t (by simpa using hg) er6)) (fun v w' h=>⟨h.1,_,_,h.2⟩))) fun w7 hw7=>?_
 replace S:=S.ext hw7
 refine wg (fun hg=>xv (zn hg) (fun hp=>(zn (and_b hg hp)))) (wd (zV rfl (fun hp=>(zn (xl hp)))) (wd (zi rfl) (wd (zi rfl) (zd (zr ?_)))))
 refine ⟨_,(xm (zf rfl) (zf rfl)),?_⟩
 replace S:=S.arr [] []
 obtain rfl:=zaq H
 exact ⟨rfl,S⟩
theorem reduce_rules_1_st {a0:Tb} {a_0:Option Addr} {a1:PTerm} {s_1:SlV} (S:St A N w w [] [oT a_0 a0,ze s_1 a1.sub]) {r:Bool} (H:zaU.f a0 a1=some r) :
  Calls PP vD #[.pointer a_0,.agg (tmC a1 s_1).toArray] w <| Rt fun v w'=>(v = .bool r∧St A N w w' [] []):=by
 unfold zaU.f at H
 refine zu (n:=12) Tryz.func103 rfl rfl zao (zb (za ?_))
 refine zH rfl zam fun b2 w1 hw1=>?_
 replace S:=S.new hw1
 refine wd (zi rfl) (zd (zb (za (wd (zg xh rfl (o':=0) rfl) (wd (zl zU rfl ((S.blk 0).cell (Term.get_kind _))) (wd (zR rfl rfl) ?_))))))
 refine wd (zy rfl) ?_
 refine wg (fun hg=>ldT rfl (S.blk 0)) ?_
 obtain ⟨r3,er3,H⟩ := zp H
 refine xJ (j:=3) (pol:=true) rfl rfl rfl zam (fun hg=>zK yq (zN (zn hg) (zN rfl rfl))) zam (fun hg=>(have ⟨M,SS⟩ := S.lend ((.z 1 rfl .nil)); quiet (yt (a0:=a1) SS (if_t (by simpa using hg) er3)) (fun v w' h=>⟨h.1,_,_,h.2⟩))) fun w4 hw4=>?_
 replace S:=S.ext hw4
 refine wd (zV rfl (fun hp=>(zn (xl hp)))) (wd (zi rfl) (zd (zr ?_)))
 refine ⟨_,(zP (zf rfl)),?_⟩
 replace S:=S.arr [] []
 obtain rfl:=zaq H
 exact ⟨rfl,S⟩
theorem reduce_rules_3_st {a0:Tb} {a_0:Option Addr} {a1:PTerm} {s_1:SlV} (S:St A N w w [] [oT a_0 a0,ze s_1 a1.sub]) {r:Bool} (H:zaV.f a0 a1=some r) :
  Calls PP vE #[.pointer a_0,.agg (tmC a1 s_1).toArray] w <| Rt fun v w'=>(v = .bool r∧St A N w w' [] []):=by
 unfold zaV.f at H
 refine zu (n:=13) Tryz.func107 rfl rfl zao (zb (za ?_))
 refine zH rfl zam fun b2 w1 hw1=>?_
 replace S:=S.new hw1
 refine wd (zi rfl) (zd (zb (za (wd (zg xh rfl (o':=0) rfl) (wd (zl zU rfl ((S.blk 0).cell (Term.get_kind _))) (wd (zR rfl rfl) ?_))))))
 refine wd (zy rfl) ?_
 refine wg (fun hg=>zB rfl) ?_
 refine wg (fun hg=>ldT rfl (S.blk 0)) ?_
 obtain ⟨r3,er3,H⟩ := zp H
 refine xJ (j:=3) (pol:=true) rfl rfl rfl zam (fun hg=>zK ur (zN (zn hg) (zN (zn hg) (zN rfl (zN rfl rfl))))) zam (fun hg=>(have ⟨M,SS⟩ := S.lend ((.z 0 rfl (.z 1 rfl .nil))); quiet (uv (a1:=a1) SS (if_t (by simpa using hg) er3)) (fun v w' h=>⟨h.1,_,_,h.2⟩))) fun w4 hw4=>?_
 replace S:=S.ext hw4
 refine wd (zV rfl (fun hp=>(zn (xl hp)))) (wd (zi rfl) (zd (zr ?_)))
 refine ⟨_,(zP (zf rfl)),?_⟩
 replace S:=S.arr [] []
 obtain rfl:=zaq H
 exact ⟨rfl,S⟩
theorem reduce_rules_5_st {a0:Tb} {a_0:Option Addr} {a1:PTerm} {s_1:SlV} (S:St A N w w [] [oT a_0 a0,ze s_1 a1.sub]) {r:Bool} (H:zaW.f a0 a1=some r) :
  Calls PP vF #[.pointer a_0,.agg (tmC a1 s_1).toArray] w <| Rt fun v w'=>(v = .bool r∧St A N w w' [] []):=by
 unfold zaW.f at H
 refine zu (n:=11) Tryz.func112 rfl rfl zao (zb (za ?_))
 refine zH rfl zam fun b2 w1 hw1=>?_
 replace S:=S.new hw1
 refine wd (zi rfl) (zd (zb (za (wd (ldT rfl (S.blk 0)) ?_))))
 obtain ⟨r3,er3,H⟩ := zp H
 obtain ⟨_,_,T,bk⟩ := S.calln 0 ((.z 1 rfl .nil))
 refine zA (zx ca_reduce_takes) zam (reduce_takes_st (a0:=a1) T er3) ?_
 rintro _ w4 ⟨rfl,S2⟩
 replace S:=bk _ _ _ _ S2 rfl
 refine wd (zy rfl) ?_
 refine wg (fun hg=>ldT rfl (S.blk 0)) ?_
 obtain ⟨r6,er6,H⟩ := zp H
 refine xJ (j:=2) (pol:=true) rfl rfl rfl zam (fun hg=>zK yq (zN (zn hg) (zN rfl rfl))) zam (fun hg=>(have ⟨M,SS⟩ := S.lend ((.z 1 rfl .nil)); quiet (yt (a0:=a1) SS (if_t (by simpa using hg) er6)) (fun v w' h=>⟨h.1,_,_,h.2⟩))) fun w7 hw7=>?_
 replace S:=S.ext hw7
 refine wd (zV rfl (fun hp=>(zn (xl hp)))) (wd (zi rfl) (zd (zr ?_)))
 refine ⟨_,(zP (zf rfl)),?_⟩
 replace S:=S.arr [] []
 obtain rfl:=zaq H
 exact ⟨rfl,S⟩
theorem reduce_rules_6_st {a0:Tb} {a_0:Option Addr} {a1:PTerm} {s_1:SlV} (S:St A N w w [] [oT a_0 a0,ze s_1 a1.sub]) {r:PTerm × Int} (H:zaX.f a0 a1=some r) :
  Calls PP y9 #[.pointer a_0,.agg (tmC a1 s_1).toArray] w <| Rt fun v w'=>(∃ so0:SlV,v = .tuple #[.agg (tmC r.1 so0).toArray,.int .i64 r.2]∧St A N w w' [] [ze so0 r.1.sub]):=by
 unfold zaX.f at H
 refine zu (n:=12) Tryz.func114 rfl rfl zao (zb (za ?_))
 refine zH rfl zam fun b2 w1 hw1=>?_
 replace S:=S.new hw1
 refine zQ xn zam fun b4 w3 hw3=>?_
 replace S:=S.new hw3
 refine wd (zh rfl) (zd (zb ?_))
 refine x0 5 (Ext w3) hmix zap zap (Ext.drawn _) (zC (fun v K=>zt z1 rfl (((S.ext K).blk 1).all _ (Term.len _)) (Term.len _)) (zC (fun v K=>zg zD rfl (o':=4) rfl) (zC (fun v K=>zl zz rfl (((S.ext K).blk 1).cell (Term.get_sub _))) ?_)))
 obtain ⟨hi5,H⟩ := zX H
 refine zC (fun v K=>does_indexF zq rfl rfl ((S.ext K).onZ 1) (zG hi5).1 (zG hi5).2) ?_
 obtain ⟨s6,hc7,S⟩ := S.viewTerm 1 (zG hi5)
 replace S:=S
 refine zC (fun v K=>zt z1 rfl (hc7.chg K (fun x=>x)) (Term.len _)) ?_
 refine vj fun w8 K=>?_
 replace S:=S.ext K
 clear K
 obtain ⟨r9,er9,H⟩ := zp H
 obtain ⟨_,_,T,bk⟩ := S.sub [2,0] [] [oB b4 zm (Term.C tmZ),oB b2 zm (tmC a1 s_1)]
 refine zA (zx ca_reduce_side) zam (reduce_side_st (a0:=a1) (a1:=(kd a1 0)) T er9) ?_
 rintro _ w10 ⟨s12,rfl,S2⟩
 replace S:=bk _ _ _ _ _ S2 rfl rfl
 refine wsT rfl rfl (S.blk 0) fun w13 B hw13 zw13=>?_
 replace S:=S.store 0 B hw13
 refine wd (zh rfl) (zd (zr ?_))
 refine ⟨_,(xm (rtT rfl (S.blk 0)) (zf rfl)),?_⟩
 replace S:=S.arr [] [0]
 obtain rfl:=zaq H
 exact ⟨s12,rfl,S⟩
theorem reduce_rules_7_st {a0:Tb} {a_0:Option Addr} {a1:PTerm} {s_1:SlV} (S:St A N w w [] [oT a_0 a0,ze s_1 a1.sub]) {r:Bool} (H:zaY.f a0 a1=some r) :
  Calls PP vG #[.pointer a_0,.agg (tmC a1 s_1).toArray] w <| Rt fun v w'=>(v = .bool r∧St A N w w' [] []):=by
 unfold zaY.f at H
 refine zu (n:=12) Tryz.func116 rfl rfl zao (zb (za ?_))
 refine zH rfl zam fun b2 w1 hw1=>?_
 replace S:=S.new hw1
 refine wd (zi rfl) (zd (zb (za (wd (ldT rfl (S.blk 0)) ?_))))
 obtain ⟨r3,er3,H⟩ := zp H
 obtain ⟨_,_,T,bk⟩ := S.calln 0 ((.z 1 rfl .nil))
 refine zA (zx ca_reduce_takes) zam (reduce_takes_st (a0:=a1) T er3) ?_
 rintro _ w4 ⟨rfl,S2⟩
 replace S:=bk _ _ _ _ S2 rfl
 refine wd (zy rfl) ?_
 refine wg (fun hg=>zB rfl) ?_
 refine wg (fun hg=>ldT rfl (S.blk 0)) ?_
 obtain ⟨r6,er6,H⟩ := zp H
 refine xJ (j:=2) (pol:=true) rfl rfl rfl zam (fun hg=>zK ur (zN (zn hg) (zN (zn hg) (zN rfl (zN rfl rfl))))) zam (fun hg=>(have ⟨M,SS⟩ := S.lend ((.z 0 rfl (.z 1 rfl .nil))); quiet (uv (a1:=a1) SS (if_t (by simpa using hg) er6)) (fun v w' h=>⟨h.1,_,_,h.2⟩))) fun w7 hw7=>?_
 replace S:=S.ext hw7
 refine wd (zV rfl (fun hp=>(zn (xl hp)))) (wd (zi rfl) (zd (zr ?_)))
 refine ⟨_,(zP (zf rfl)),?_⟩
 replace S:=S.arr [] []
 obtain rfl:=zaq H
 exact ⟨rfl,S⟩
theorem reduce_rules_8_st {a0:Tb} {a_0:Option Addr} {a1:PTerm} {s_1:SlV} (S:St A N w w [] [oT a_0 a0,ze s_1 a1.sub]) {r:PTerm × Int} (H:zaZ.f a0 a1=some r) :
  Calls PP va #[.pointer a_0,.agg (tmC a1 s_1).toArray] w <| Rt fun v w'=>(∃ so0:SlV,v = .tuple #[.agg (tmC r.1 so0).toArray,.int .i64 r.2]∧St A N w w' [] [ze so0 r.1.sub]):=by
 unfold zaZ.f at H
 refine zu (n:=22) Tryz.func117 rfl rfl zao (zb (za ?_))
 refine zH rfl zam fun b2 w1 hw1=>?_
 replace S:=S.new hw1
 refine zQ xn zam fun b4 w3 hw3=>?_
 replace S:=S.new hw3
 refine wd (zh rfl) (zd (zb ?_))
 obtain ⟨hi12,H⟩ := zX H
 obtain ⟨hi14,H⟩ := zX H
 obtain ⟨r16,er16,H⟩ := zp H
 obtain ⟨s13,S⟩ := S.viewTermC 1 (zG hi12)
 replace S:=S
 obtain ⟨s15,S⟩ := S.viewTermC 1 (zG hi14)
 replace S:=S.zs [4,5,2,3,0,1]
 refine yX 14 ⟨fun _ _=>True,fun _ _ _=>True,fun i v _=>match i with
  | 0=>v=Value.agg (tmC a1 s_1).toArray
  | 1=>v=Value.pointer (some ⟨b2,4,none⟩)
  | 2=>v=s_1.v
  | 3=>v=Value.pointer (some ⟨s_1.blk,s_1.off + Int.toNat 0 * 5,none⟩)
  | 4=>v=Value.pointer (some ⟨s_1.blk,s_1.off + Int.toNat 0 * 5 + 4,none⟩)
  | 5=>v=s13.v
  | 6=>v=Value.pointer (some ⟨s13.blk,s13.off + Int.toNat 0 * 5,none⟩)
  | 7=>v=Value.agg (tmC (kd (kd a1 0) 0) s15).toArray
  | 9=>v=Value.pointer a_0
  | 10=>v=Value.agg (tmC a1 s_1).toArray
  | 11=>v=Value.pointer (some ⟨b2,0,none⟩)
  | 12=>v=Value.int .i64 a1.kind
  | 13=>v=Value.bool (decide (a1.kind=6))
  | _=>True⟩ (fun L g v => ∃ Z20:List OA,(∀ z ∈ [oT a_0 a0,ze s_1 a1.sub,oCl s_1.blk (s_1.off + Int.toNat 0 * 5) (tmC (kd a1 0) s13),ze s13 ((kd a1 0).sub),oCl s13.blk (s13.off + Int.toNat 0 * 5) (tmC (kd (kd a1 0) 0) s15),ze s15 ((kd (kd a1 0) 0).sub)],z ∈ Z20)∧Made L g Z20 8 14 (fun (c:SlV)=>Value.agg (tmC r16 c).toArray) (fun (c:SlV)=>[ze c r16.sub])∧St A N w v [oB b4 zm (Term.C tmZ),oB b2 zm (tmC a1 s_1)] Z20) hmix zap (fun _ _ _ _ _ _ _ hv=>hv) (fun g=>⟨_,fun _ h=>h,Made.no,S.ext (Ext.drawn _)⟩) ⟨?_,?_,?_,?_,?_,?_,?_,?_,?_,?_,?_,?_,?_,?_,trivial⟩ ?_
 ·rintro L g v hL hcl hclo ⟨Z20,hZ,hm8,S⟩ 
  refine wd (ldT rfl (S.blk 1)) ?_
  exact w4 rfl ⟨_,hZ,hm8.keep rfl rfl tl0,S⟩
 ·rintro L g v hL hcl hclo ⟨Z20,hZ,hm8,S⟩ 
  refine wd (zg zD rfl (o':=4) rfl) ?_
  exact w4 rfl ⟨_,hZ,hm8.keep rfl rfl tl0,S⟩
 ·rintro L g v hL hcl hclo ⟨Z20,hZ,hm8,S⟩ hv1
  refine wd (zl zz hv1 ((S.blk 1).cell (Term.get_sub _))) ?_
  exact w4 rfl ⟨_,hZ,hm8.keep rfl rfl tl0,S⟩
 ·rintro L g v hL hcl hclo ⟨Z20,hZ,hm8,S⟩ hv2
  replace S:=(S.zneed hZ)
  refine wd (does_indexF zq hv2 rfl (S.onZ 1) (zG hi12).1 (zG hi12).2) ?_
  exact w4 rfl ⟨_,(fun z h=>tl6 z (hZ z h)),hm8.keep rfl rfl tl6,S⟩
 ·rintro L g v hL hcl hclo ⟨Z20,hZ,hm8,S⟩ hv3
  refine wd (zg zD hv3 (o':=_) rfl) ?_
  exact w4 rfl ⟨_,hZ,hm8.keep rfl rfl tl0,S⟩
 ·rintro L g v hL hcl hclo ⟨Z20,hZ,hm8,S⟩ hv4
  replace S:=(S.zneed hZ)
  refine wd (zl zz hv4 ((S.cl 2).get (Term.get_sub _))) ?_
  exact w4 rfl ⟨_,(fun z h=>tl6 z (hZ z h)),hm8.keep rfl rfl tl6,S⟩
 ·rintro L g v hL hcl hclo ⟨Z20,hZ,hm8,S⟩ hv5
  replace S:=(S.zneed hZ)
  refine wd (does_indexF zq hv5 rfl (S.onZ 3) (zG hi14).1 (zG hi14).2) ?_
  exact w4 rfl ⟨_,(fun z h=>tl6 z (hZ z h)),hm8.keep rfl rfl tl6,S⟩
 ·rintro L g v hL hcl hclo ⟨Z20,hZ,hm8,S⟩ hv6
  replace S:=(S.zneed hZ)
  refine wd (zt z1 hv6 (S.cl 4) (Term.len _)) ?_
  exact w4 rfl ⟨_,(fun z h=>tl6 z (hZ z h)),hm8.keep rfl rfl tl6,S⟩
 ·rintro L g v hL hcl hclo ⟨Z20,hZ,hm8,S⟩ hv0 hv7
  replace S:=(S.zneed hZ)
  obtain ⟨_,_,T,bk⟩ := S.sub [1,5] [] [oB b4 zm (Term.C tmZ),oB b2 zm (tmC a1 s_1)]
  refine zA (zK ca_reduce_side (zN hv0 (zN hv7 rfl))) zam (reduce_side_st (a0:=a1) (a1:=(kd (kd a1 0) 0)) T er16) ?_
  rintro _ w25 ⟨s27,rfl,S2⟩
  replace S:=bk _ _ _ _ _ S2 rfl rfl
  exact w4 trivial ⟨_,(fun z h=>tl7 z (hZ z h)),Made.one (val:=(fun (c:SlV)=>Value.agg (tmC r16 c).toArray)) (ps:=(fun (c:SlV)=>[ze c r16.sub])) s27 (xX List.mem_cons_self yw),S⟩
 ·rintro L g v hL hcl hclo ⟨Z20,hZ,hm8,S⟩ 
  refine wd (zB rfl) ?_
  exact w4 rfl ⟨_,hZ,hm8.keep rfl rfl tl0,S⟩
 ·rintro L g v hL hcl hclo ⟨Z20,hZ,hm8,S⟩ 
  refine wd (ldT rfl (S.blk 1)) ?_
  exact w4 rfl ⟨_,hZ,hm8.keep rfl rfl tl0,S⟩
 ·rintro L g v hL hcl hclo ⟨Z20,hZ,hm8,S⟩ 
  refine wd (zg xh rfl (o':=0) rfl) ?_
  exact w4 rfl ⟨_,hZ,hm8.keep rfl rfl tl0,S⟩
 ·rintro L g v hL hcl hclo ⟨Z20,hZ,hm8,S⟩ hv11
  refine wd (zl zU hv11 ((S.blk 1).cell (Term.get_kind _))) ?_
  exact w4 rfl ⟨_,hZ,hm8.keep rfl rfl tl0,S⟩
 ·rintro L g v hL hcl hclo ⟨Z20,hZ,hm8,S⟩ hv12
  refine wd (zR hv12 rfl) ?_
  exact w4 rfl ⟨_,hZ,hm8.keep rfl rfl tl0,S⟩
 rintro L g w28 hLm ⟨Z20,hZ,hm8,S⟩ hv29_0 hv29_1 hv29_2 hv29_3 hv29_4 hv29_5 hv29_6 hv29_7 _ hv29_9 hv29_10 hv29_11 hv29_12 hv29_13
 have hLt : ∀ j,j < 14→L j=true:=fun j hj=>by rw [hLm]; exact decide_eq_true hj
 obtain ⟨s19,hv29_8,hp8⟩ := hm8 (hLt 8 zam)
 replace S:=S.pickZ (xD (l1:=[ze s19 r16.sub]) hp8 hZ)
 clear hp8 hZ hm8
 obtain ⟨r30,er30,H⟩ := zp H
 obtain ⟨_,_,T,bk⟩ := S.calln 0 ((.z 1 rfl (.z 2 rfl .nil)))
 refine zA (zK ji (zN hv29_9 (zN hv29_10 (zN hv29_13 rfl)))) zam (jp (a1:=a1) T er30) ?_
 rintro _ w31 ⟨rfl,S2⟩
 replace S:=bk _ _ _ _ S2 rfl
 obtain ⟨r33,er33,H⟩ := zp H
 obtain ⟨_,_,T,bk⟩ := S.sub [0] [] [oB b4 zm (Term.C tmZ),oB b2 zm (tmC a1 s_1)]
 refine zA (zK jK (zN hv29_8 (zN rfl rfl))) zam (jM (a0:=r16) T er33) ?_
 rintro _ w34 ⟨s36,rfl,S2⟩
 replace S:=bk _ _ _ _ _ S2 rfl rfl
 refine wsT rfl rfl (S.blk 0) fun w37 B hw37 zw37=>?_
 replace S:=S.store 0 B hw37
 refine wd (zh rfl) (zd (zr ?_))
 refine ⟨_,(xm (rtT rfl (S.blk 0)) (zf rfl)),?_⟩
 replace S:=S.arr [] [0]
 obtain rfl:=zaq H
 exact ⟨s36,rfl,S⟩
theorem reduce_rules_9_st {a0:Tb} {a_0:Option Addr} {a1:PTerm} {s_1:SlV} (S:St A N w w [] [oT a_0 a0,ze s_1 a1.sub]) {r:Bool} (H:zba.f a0 a1=some r) :
  Calls PP vH #[.pointer a_0,.agg (tmC a1 s_1).toArray] w <| Rt fun v w'=>(v = .bool r∧St A N w w' [] []):=by
 unfold zba.f at H
 refine zu (n:=13) Tryz.func118 rfl rfl zao (zb (za ?_))
 refine zH rfl zam fun b2 w1 hw1=>?_
 replace S:=S.new hw1
 refine wd (zi rfl) (zd (zb (za (wd (ldT rfl (S.blk 0)) ?_))))
 obtain ⟨r3,er3,H⟩ := zp H
 obtain ⟨_,_,T,bk⟩ := S.calln 0 ((.z 1 rfl .nil))
 refine zA (zx kz) zam (kF (a0:=a1) T er3) ?_
 rintro _ w4 ⟨rfl,S2⟩
 replace S:=bk _ _ _ _ S2 rfl
 refine wd (xb rfl) (wd (zo rfl rfl) (wd (zo rfl rfl) (wd (zi rfl) (wd (zi rfl) (zd (zb (za ?_)))))))
 refine wd (zy rfl) (wd (zi rfl) (zd (zr ?_)))
 refine ⟨_,(zP (zf rfl)),?_⟩
 replace S:=S.arr [] []
 obtain rfl:=zaq H
 exact ⟨rfl,S⟩
theorem reduce_rules_11_st {a0:Tb} {a_0:Option Addr} {a1:PTerm} {s_1:SlV} (S:St A N w w [] [oT a_0 a0,ze s_1 a1.sub]) {r:Bool} (H:zbb.f a0 a1=some r) :
  Calls PP vk #[.pointer a_0,.agg (tmC a1 s_1).toArray] w <| Rt fun v w'=>(v = .bool r∧St A N w w' [] []):=by
 unfold zbb.f at H
 refine zu (n:=14) Tryz.func122 rfl rfl zao (zb (za ?_))
 refine zH rfl zam fun b2 w1 hw1=>?_
 replace S:=S.new hw1
 refine wd (zi rfl) (zd (zb (za (wd (zB rfl) (wd (ldT rfl (S.blk 0)) ?_)))))
 obtain ⟨r3,er3,H⟩ := zp H
 obtain ⟨_,_,T,bk⟩ := S.calln 0 ((.z 0 rfl (.z 1 rfl .nil)))
 refine zA (zx ca_reduce_told) zam (reduce_told_st (a1:=a1) T er3) ?_
 rintro _ w4 ⟨rfl,S2⟩
 replace S:=bk _ _ _ _ S2 rfl
 refine wd (xb rfl) (wd (zo rfl rfl) (wd (zo rfl rfl) (wd (zi rfl) (wd (zi rfl) (zd (zb (za ?_)))))))
 refine wd (zy rfl) (wd (zi rfl) (zd (zr ?_)))
 refine ⟨_,(zP (zf rfl)),?_⟩
 replace S:=S.arr [] []
 obtain rfl:=zaq H
 exact ⟨rfl,S⟩
theorem reduce_rules_13_st {a0:Tb} {a_0:Option Addr} {a1:PTerm} {s_1:SlV} (S:St A N w w [] [oT a_0 a0,ze s_1 a1.sub]) {r:Bool} (H:zbc.f a0 a1=some r) :
  Calls PP vl #[.pointer a_0,.agg (tmC a1 s_1).toArray] w <| Rt fun v w'=>(v = .bool r∧St A N w w' [] []):=by
 unfold zbc.f at H
 refine zu (n:=8) Tryz.func125 rfl rfl zao (zb (za ?_))
 refine zH rfl zam fun b2 w1 hw1=>?_
 replace S:=S.new hw1
 refine wd (zi rfl) (zd (zb (za (wd (zg xh rfl (o':=0) rfl) (wd (zl zU rfl ((S.blk 0).cell (Term.get_kind _))) (wd (zR rfl rfl) ?_))))))
 refine wd (zi rfl) (zd (zr ?_))
 refine ⟨_,(zP (zf rfl)),?_⟩
 replace S:=S.arr [] []
 obtain rfl:=zaq H
 exact ⟨rfl,S⟩
theorem reduce_rules_15_st {a0:Tb} {a_0:Option Addr} {a1:PTerm} {s_1:SlV} (S:St A N w w [] [oT a_0 a0,ze s_1 a1.sub]) {r:Bool} (H:zbd.f a0 a1=some r) :
  Calls PP vm #[.pointer a_0,.agg (tmC a1 s_1).toArray] w <| Rt fun v w'=>(v = .bool r∧St A N w w' [] []):=by
 unfold zbd.f at H
 refine zu (n:=19) Tryz.func127 rfl rfl zao (zb (za ?_))
 refine zH rfl zam fun b2 w1 hw1=>?_
 replace S:=S.new hw1
 refine wd (zi rfl) (zd (zb (zb (za (wd (zg xh rfl (o':=0) rfl) (wd (zl zU rfl ((S.blk 0).cell (Term.get_kind _))) (wd (xq rfl rfl) (zd ?_))))))))
 refine zI rfl (fun hc3=>?_) (fun hc3=>?_)
 ·replace H:=if_t hc3 H
  refine zb (za (wd (zi rfl) (zd (zr ?_))))
  refine ⟨_,(zP (zf rfl)),?_⟩
  replace S:=S.arr [] []
  obtain rfl:=zaq H
  exact ⟨rfl,S⟩
 replace H:=if_f hc3 H
 refine zw (zb (zb (za (wd (zg zD rfl (o':=4) rfl) (wd (zl zz rfl ((S.blk 0).cell (Term.get_sub _))) ?_)))))
 obtain ⟨hi4,H⟩ := zX H
 refine wd (does_indexF zq rfl rfl (S.onZ 1) (zG hi4).1 (zG hi4).2) (wd (zg xh rfl (o':=_) rfl) (wd (zl zU rfl (yB.get_kind (S.onZ 1) (zG hi4))) (zd ?_)))
 refine zL (zb (zb (za (wd (zR rfl rfl) (wd (zi rfl) (zd ?_))))))
 refine zI rfl (fun hc5=>?_) (fun hc5=>?_)
 ·replace H:=if_t hc5 H
  refine zw ?_
  refine zI rfl (fun hc6=>?_) (fun hc6=>?_)
  ·replace H:=if_t hc6 H
   refine zb (za (wd (zi rfl) (zd (zr ?_))))
   refine ⟨_,(zP (zf rfl)),?_⟩
   replace S:=S.arr [] []
   obtain rfl:=zaq H
   exact ⟨rfl,S⟩
  replace H:=if_f hc6 H
  refine zw (zb (za (wd (zi rfl) (zd (zr ?_)))))
  refine ⟨_,(zP (zf rfl)),?_⟩
  replace S:=S.arr [] []
  obtain rfl:=zaq H
  exact ⟨rfl,S⟩
 ·replace H:=if_f hc5 H
  refine zb (za (wd (zR rfl rfl) (wd (zi rfl) (zd ?_))))
  refine zI rfl (fun hc7=>?_) (fun hc7=>?_)
  ·replace H:=if_t hc7 H
   refine zw ?_
   refine zI rfl (fun hc8=>?_) (fun hc8=>?_)
   ·replace H:=if_t hc8 H
    refine zb (za (wd (zi rfl) (zd (zr ?_))))
    refine ⟨_,(zP (zf rfl)),?_⟩
    replace S:=S.arr [] []
    obtain rfl:=zaq H
    exact ⟨rfl,S⟩
   replace H:=if_f hc8 H
   refine zw (zb (za (wd (zi rfl) (zd (zr ?_)))))
   refine ⟨_,(zP (zf rfl)),?_⟩
   replace S:=S.arr [] []
   obtain rfl:=zaq H
   exact ⟨rfl,S⟩
  ·replace H:=if_f hc7 H
   refine zb (za (wd (zR rfl rfl) (wd (zi rfl) (zd ?_))))
   refine zI rfl (fun hc9=>?_) (fun hc9=>?_)
   ·replace H:=if_t hc9 H
    refine zw ?_
    refine zI rfl (fun hc10=>?_) (fun hc10=>?_)
    ·replace H:=if_t hc10 H
     refine zb (za (wd (zi rfl) (zd (zr ?_))))
     refine ⟨_,(zP (zf rfl)),?_⟩
     replace S:=S.arr [] []
     obtain rfl:=zaq H
     exact ⟨rfl,S⟩
    replace H:=if_f hc10 H
    refine zw (zb (za (wd (zi rfl) (zd (zr ?_)))))
    refine ⟨_,(zP (zf rfl)),?_⟩
    replace S:=S.arr [] []
    obtain rfl:=zaq H
    exact ⟨rfl,S⟩
   ·replace H:=if_f hc9 H
    refine zb (za (wd (zR rfl rfl) (wd (zi rfl) (zd ?_))))
    refine zI rfl (fun hc11=>?_) (fun hc11=>?_)
    ·replace H:=if_t hc11 H
     refine zw ?_
     refine zI rfl (fun hc12=>?_) (fun hc12=>?_)
     ·replace H:=if_t hc12 H
      refine zb (za (wd (zi rfl) (zd (zr ?_))))
      refine ⟨_,(zP (zf rfl)),?_⟩
      replace S:=S.arr [] []
      obtain rfl:=zaq H
      exact ⟨rfl,S⟩
     replace H:=if_f hc12 H
     refine zw (zb (za (wd (zi rfl) (zd (zr ?_)))))
     refine ⟨_,(zP (zf rfl)),?_⟩
     replace S:=S.arr [] []
     obtain rfl:=zaq H
     exact ⟨rfl,S⟩
    ·replace H:=if_f hc11 H
     refine za (wd (zR rfl rfl) (wd (zi rfl) (zd ?_)))
     refine zI rfl (fun hc13=>?_) (fun hc13=>?_)
     ·replace H:=if_t hc13 H
      refine zb (za (wd (zi rfl) (zd (zr ?_))))
      refine ⟨_,(zP (zf rfl)),?_⟩
      replace S:=S.arr [] []
      obtain rfl:=zaq H
      exact ⟨rfl,S⟩
     replace H:=if_f hc13 H
     refine zw (zb (za (wd (zi rfl) (zd (zr ?_)))))
     refine ⟨_,(zP (zf rfl)),?_⟩
     replace S:=S.arr [] []
     obtain rfl:=zaq H
     exact ⟨rfl,S⟩
theorem reduce_rules_16_st {a0:Tb} {a_0:Option Addr} {a1:PTerm} {s_1:SlV} (S:St A N w w [] [oT a_0 a0,ze s_1 a1.sub]) {r:PTerm × Int} (H:zbe.f a0 a1=some r) :
  Calls PP yJ #[.pointer a_0,.agg (tmC a1 s_1).toArray] w <| Rt fun v w'=>(∃ so0:SlV,v = .tuple #[.agg (tmC r.1 so0).toArray,.int .i64 r.2]∧St A N w w' [] [ze so0 r.1.sub]):=by
 unfold zbe.f at H
 refine zu (n:=10) Tryz.func128 rfl rfl zao (zb (za ?_))
 refine zH rfl zam fun b2 w1 hw1=>?_
 replace S:=S.new hw1
 refine zQ xn zam fun b4 w3 hw3=>?_
 replace S:=S.new hw3
 refine wd (zh rfl) (zd (zb (za (wd (zg zD rfl (o':=4) rfl) (wd (zl zz rfl ((S.blk 1).cell (Term.get_sub _))) ?_)))))
 obtain ⟨hi5,H⟩ := zX H
 refine wd (does_indexF zq rfl rfl (S.onZ 1) (zG hi5).1 (zG hi5).2) ?_
 obtain ⟨s6,hc7,S⟩ := S.viewTerm 1 (zG hi5)
 replace S:=S
 refine wd (ldC rfl hc7) ?_
 refine wsT rfl rfl (S.blk 0) fun w8 B hw8 zw8=>?_
 replace S:=S.store 0 B hw8
 refine wd (zh rfl) (zd (zr ?_))
 refine ⟨_,(xm (rtT rfl (S.blk 0)) (zf rfl)),?_⟩
 replace S:=S.arr [] [0]
 obtain rfl:=zaq H
 exact ⟨s6,rfl,S⟩
theorem reduce_known_1_gst {zcu:Tb→PTerm→Option Bool} (zcg : ∀ {A:Nat→Prop} {N:Oth} {w:World} {a0:Tb} {a_0:Option Addr} {a1:PTerm} {s_1:SlV} (S:St A N w w [] [oT a_0 a0,ze s_1 a1.sub]) {r:Bool} (H:zcu a0 a1=some r),Calls PP yz #[.pointer a_0,.agg (tmC a1 s_1).toArray] w <| Rt fun v w'=>(v = .bool r∧St A N w w' [] [])) {A:Nat→Prop} {N:Oth} {w:World} {a0:PTerm} {s_0:SlV} {a1:Tb} {b_1:Nat} {a_1_1:Option Addr} (S:St A N w w [] [ze s_0 a0.sub,oB b_1 yA [.pointer a_1_1],oT a_1_1 a1]) {r:Bool} (H:zbf.g zcu a0 a1=some r) :
  Calls PP uq #[.agg (tmC a0 s_0).toArray,.pointer (some ⟨b_1,0,none⟩)] w <| Rt fun v w'=>(v = .bool r∧St A N w w' [] []):=by
 unfold zbf.g at H
 refine zu (n:=8) Tryz.func102 rfl rfl zao (zb (za ?_))
 refine zH rfl zam fun b2 w1 hw1=>?_
 replace S:=S.new hw1
 refine wd (zi rfl) (zd (zb (za (wd (zl xo rfl ((S.blkZ 1).cell rfl)) (wd (ldT rfl (S.blk 0)) ?_)))))
 obtain ⟨r3,er3,H⟩ := zp H
 obtain ⟨_,_,T,bk⟩ := S.calln 0 ((.z 2 rfl (.z 0 rfl .nil)))
 refine zA (zx ca_reduce_known) zam (zcg (a1:=a0) T er3) ?_
 rintro _ w4 ⟨rfl,S2⟩
 replace S:=bk _ _ _ _ S2 rfl
 refine wd (xf rfl) (wd (zi rfl) (zd (zr ?_)))
 refine ⟨_,(zP (zf rfl)),?_⟩
 replace S:=S.arr [] []
 obtain rfl:=zaq H
 exact ⟨rfl,S⟩
theorem yT {zcu:Tb→PTerm→Option Bool} (zcg : ∀ {A:Nat→Prop} {N:Oth} {w:World} {a0:Tb} {a_0:Option Addr} {a1:PTerm} {s_1:SlV} (S:St A N w w [] [oT a_0 a0,ze s_1 a1.sub]) {r:Bool} (H:zcu a0 a1=some r),Calls PP yz #[.pointer a_0,.agg (tmC a1 s_1).toArray] w <| Rt fun v w'=>(v = .bool r∧St A N w w' [] [])) {A:Nat→Prop} {N:Oth} {w:World} {a0:List PTerm} {s_0:SlV} {a1_0:Tb} {b_1:Nat} {a_1_1:Option Addr} (S:St A N w w [] [ze s_0 a0,oB b_1 yA [.pointer a_1_1],oT a_1_1 a1_0]) {r:Int} (H:zbg.g zcu a0 a1_0=some r) :
  Calls PP x5 #[s_0.v,.func (.func uq) #[] #[.pointer (some ⟨b_1,0,none⟩)]] w <| Rt fun v w'=>(v = .int .i64 r∧St A N w w' [] []):=by
 unfold zbg.g at H
 refine zu (n:=19) Tryz.func162 rfl rfl zao (zb (za (wd (zh rfl) (zd (zb (zb (za (wd (zM rfl) ?_))))))))
 refine wd (does_lenF zq rfl (S.onZ 0)) (wd (zk rfl) (zd ?_))
 obtain ⟨o1,e1,Ho1⟩ := zp H
 clear H
 refine xL ([4,5] ++ rg 8 11) (fun fr W => ∃ s1:Unit,o1 = .inl s1∧St A N w W [] [ze s_0 a0,oB b_1 yA [.pointer a_1_1],oT a_1_1 a1_0]) ?_ ?_
 ·refine zL ?_
  refine xI (α:=Nat × Int × Unit) ([4,5] ++ rg 8 11) (fun x fr W=>(x.1:Int)=(a0.length:Int) - x.2.1∧0 ≤ x.2.1∧forN (fun i s=>zbg.b0 zcu a0 a1_0 i) x.1 x.2.1 x.2.2=some o1∧fr 8 = .int .i64 x.2.1∧St A N w W [] [ze s_0 a0,oB b_1 yA [.pointer a_1_1],oT a_1_1 a1_0]) (fun x=>x.1) (((a0.length:Int) - 0).toNat,0,()) ⟨(by dsimp only; have hle:=Int.natCast_nonneg (a0.length); omega),(Int.le_refl _),(by dsimp only; exact e1),rfl,S⟩ ?_
  rintro ⟨m1,i1,_⟩ g1 u1 ⟨hm1,hl1,e1,q1_i,S⟩
  try dsimp only at hm1
  try dsimp only at hl1
  try dsimp only at e1
  try dsimp only at S
  try dsimp only at q1_i
  refine zb (za (wd (xp q1_i rfl) (zd (zb ?_))))
  refine zI rfl (fun hc2=>?_) (fun hc2=>?_)
  rotate_left
  ·refine xO ?_
   have hge:(a0.length:Int) ≤ i1:=Int.not_lt.1 (of_decide_eq_false hc2)
   obtain rfl:m1=0:=by omega
   replace e1:=kV e1
   exact ⟨rfl,df,(),e1,S⟩
  refine zw ?_
  have hlt1:i1 < (a0.length:Int):=of_decide_eq_true hc2
  obtain ⟨m1,rfl⟩ : ∃ m,m1=m + 1:=⟨m1 - 1,by omega⟩
  obtain ⟨q1,H,e1⟩ := kW e1
  unfold zbg.b0 at H
  try dsimp only at H
  have hb1:=(S.lenFZ 0)
  refine zb ?_
  refine zL (zb (za (wd (zk q1_i) (wd (zh rfl) (zd (zb (za ?_)))))))
  refine wd (uS rfl) (wd (zM rfl) (wd (zk rfl) (wd (does_indexF zq rfl rfl (S.onZ 0) (And.intro (show 0 ≤ i1 by omega) (show i1 < (a0.length:Int) from hlt1)).1 (And.intro (show 0 ≤ i1 by omega) (show i1 < (a0.length:Int) from hlt1)).2) ?_)))
  obtain ⟨s4,hc5,S⟩ := S.viewTerm 0 (And.intro (show 0 ≤ i1 by omega) (show i1 < (a0.length:Int) from hlt1))
  replace S:=S
  refine wd (ldC rfl hc5) ?_
  obtain ⟨r6,er6,H⟩ := zp H
  obtain ⟨_,_,T,bk⟩ := S.calln 0 ((.z 0 rfl (.z 2 rfl (.z 3 rfl .nil))))
  refine zA (yr ca_reduce_known_1 rfl) zam (reduce_known_1_gst zcg (a0:=(at_ PTerm.z a0 i1)) T er6) ?_
  rintro _ w7 ⟨rfl,S2⟩
  replace S:=bk _ _ _ _ S2 rfl
  refine zd ?_
  refine zI rfl (fun hc9=>?_) (fun hc9=>?_)
  ·replace H:=if_t hc9 H
   refine zb (za (wd (zk rfl) (wd (zh rfl) (zd (zr ?_)))))
   refine ⟨_,(zP (zf rfl)),?_⟩
   replace S:=S.arr [] []
   obtain rfl:=zaq H
   obtain rfl:=e1
   obtain rfl:=uD Ho1
   exact ⟨rfl,S⟩
  replace H:=if_f hc9 H
  refine zw (za (wd (xi q1_i rfl (c:=i1 + 1) rfl zan zan) (wd (zk rfl) (zd ?_))))
  replace S:=S.arr [] [1,2,3]
  obtain rfl:=zaq H
  exact ⟨rfl,df,(m1,i1 + 1,()),⟨(by dsimp only; omega),(by dsimp only; omega),e1,rfl,S⟩,by dsimp only; omega⟩
 rintro g10 u11 ⟨s1,rfl,S⟩
 have H:=Ho1
 dsimp only [aft] at H
 refine zb (za (wd (zh rfl) (zd (zr ?_))))
 refine ⟨_,(zP (zf rfl)),?_⟩
 replace S:=S.arr [] []
 obtain rfl:=zaq H
 exact ⟨rfl,S⟩
theorem yy {zcu:Tb→PTerm→Option Bool} (zcg : ∀ {A:Nat→Prop} {N:Oth} {w:World} {a0:Tb} {a_0:Option Addr} {a1:PTerm} {s_1:SlV} (S:St A N w w [] [oT a_0 a0,ze s_1 a1.sub]) {r:Bool} (H:zcu a0 a1=some r),Calls PP yz #[.pointer a_0,.agg (tmC a1 s_1).toArray] w <| Rt fun v w'=>(v = .bool r∧St A N w w' [] [])) {A:Nat→Prop} {N:Oth} {w:World} {a0:List PTerm} {s_0:SlV} {a1_0:Tb} {b_1:Nat} {a_1_1:Option Addr} (S:St A N w w [] [ze s_0 a0,oB b_1 yA [.pointer a_1_1],oT a_1_1 a1_0]) {r:Bool} (H:zbh.g zcu a0 a1_0=some r) :
  Calls PP xP #[s_0.v,.func (.func uq) #[] #[.pointer (some ⟨b_1,0,none⟩)]] w <| Rt fun v w'=>(v = .bool r∧St A N w w' [] []):=by
 unfold zbh.g at H
 refine zu (n:=9) Tryz.func101 rfl rfl zao (zb (za (wd (zi rfl) (zd (zb (za (wd (zM rfl) ?_)))))))
 refine wd (uS rfl) ?_
 obtain ⟨r1,er1,H⟩ := zp H
 obtain ⟨_,_,T,bk⟩ := S.calln 0 ((.z 0 rfl (.z 1 rfl (.z 2 rfl .nil))))
 refine zA (zx yK) zam (yT zcg T er1) ?_
 rintro _ w2 ⟨rfl,S2⟩
 replace S:=bk _ _ _ _ S2 rfl
 refine wd (ut rfl rfl) (wd (zi rfl) (zd (zr ?_)))
 refine ⟨_,(zP (zf rfl)),?_⟩
 replace S:=S.arr [] []
 obtain rfl:=zaq H
 exact ⟨rfl,S⟩
theorem reduce_known_gst {zcu:Tb→PTerm→Option Bool} (zcg : ∀ {A:Nat→Prop} {N:Oth} {w:World} {a0:Tb} {a_0:Option Addr} {a1:PTerm} {s_1:SlV} (S:St A N w w [] [oT a_0 a0,ze s_1 a1.sub]) {r:Bool} (H:zcu a0 a1=some r),Calls PP yz #[.pointer a_0,.agg (tmC a1 s_1).toArray] w <| Rt fun v w'=>(v = .bool r∧St A N w w' [] [])) {A:Nat→Prop} {N:Oth} {w:World} {a0:Tb} {a_0:Option Addr} {a1:PTerm} {s_1:SlV} (S:St A N w w [] [oT a_0 a0,ze s_1 a1.sub]) {r:Bool} (H:zbi.g zcu a0 a1=some r) :
  Calls PP yz #[.pointer a_0,.agg (tmC a1 s_1).toArray] w <| Rt fun v w'=>(v = .bool r∧St A N w w' [] []):=by
 unfold zbi.g at H
 refine zu (n:=20) Tryz.func67 rfl rfl zao (zb (za ?_))
 refine wl_box_p rfl zam fun b2 w1 hw1=>?_
 replace S:=S.new hw1
 refine zH rfl zam fun b4 w3 hw3=>?_
 replace S:=S.new hw3
 refine wd (zi rfl) (zd (zb (zb ?_)))
 refine x0 8 (Ext w3) hmix zap zap (Ext.drawn _) (zC (fun v K=>zg xh rfl (o':=0) rfl) (zC (fun v K=>zl zU rfl (((S.ext K).blk 0).cell (Term.get_kind _))) (zC (fun v K=>zR rfl rfl) (zC (fun v K=>zy rfl) (vy (j:=3) (pol:=true) rfl rfl rfl (fun hg v K=>zg vt rfl (o':=3) rfl) ?_)))))
 refine vy (j:=3) (pol:=true) rfl rfl rfl (fun hg v K=>zl xQ (zn hg) (((S.ext K).blk 0).cell (Term.get_form _))) (vy (j:=3) (pol:=true) rfl rfl rfl (fun hg v K=>zl xo rfl (((S.ext K).blk 1).cell rfl)) ?_)
 obtain ⟨r5,er5,H⟩ := zp H
 refine wq_gcall (j:=3) (pol:=true) rfl rfl rfl (fun hg v=>zK ca_formula_Table_Len (zN (zn hg) rfl)) (fun hg v K=>(have ⟨M,SS⟩ := (S.ext K).lend ((.z 0 rfl .nil)); quiet (formula_Table_Len_st SS (if_t (by simpa using hg) er5)) (fun v w' h=>⟨h.1,_,_,h.2⟩))) (fun v v' K h=>K.thenExt h) ?_
 refine vj fun w6 K=>?_
 replace S:=S.ext K
 clear K
 refine wg (fun hg=>ut (zn hg) (zn hg)) (wd (zV rfl (fun hp=>(zn (xl hp)))) (zd ?_))
 refine zI rfl (fun hc7=>?_) (fun hc7=>?_)
 ·replace H:=if_t hc7 H
  refine zb (za (wd (zi rfl) (zd (zr ?_))))
  refine ⟨_,(zP (zf rfl)),?_⟩
  replace S:=S.arr [] []
  obtain rfl:=zaq H
  exact ⟨rfl,S⟩
 replace H:=if_f hc7 H
 refine zw (zb (za (wd (zg zD rfl (o':=4) rfl) (wd (zl zz rfl ((S.blk 0).cell (Term.get_sub _))) (wd (does_funcl) ?_)))))
 obtain ⟨r8,er8,H⟩ := zp H
 obtain ⟨_,_,T,bk⟩ := S.calln 0 ((.z 1 rfl (.o 1 rfl (.z 0 rfl .nil))))
 refine zA (zx yn) zam (yy zcg T er8) ?_
 rintro _ w9 ⟨rfl,S2⟩
 replace S:=bk _ _ _ _ S2 rfl
 refine wd (xf rfl) (wd (zi rfl) (zd (zr ?_)))
 refine ⟨_,(zP (zf rfl)),?_⟩
 replace S:=S.arr [] []
 obtain rfl:=zaq H
 exact ⟨rfl,S⟩
theorem reduce_known_st {a0:Tb} {a_0:Option Addr} {a1:PTerm} {s_1:SlV} (S:St A N w w [] [oT a_0 a0,ze s_1 a1.sub]) {k:Nat} {r:Bool} (H:zbi.f k a0 a1=some r) :
  Calls PP yz #[.pointer a_0,.agg (tmC a1 s_1).toArray] w <| Rt fun v w'=>(v = .bool r∧St A N w w' [] []):=by
 have main : ∀ (k:Nat) {A:Nat→Prop} {N:Oth} {w:World} {a0:Tb} {a_0:Option Addr} {a1:PTerm} {s_1:SlV} (S:St A N w w [] [oT a_0 a0,ze s_1 a1.sub]) {r:Bool} (H:zbi.f k a0 a1=some r),Calls PP yz #[.pointer a_0,.agg (tmC a1 s_1).toArray] w <| Rt fun v w'=>(v = .bool r∧St A N w w' [] []):=by
  intro k
  induction k with
  | zero=>intro A N w a0 a_0 a1 s_1 S r H; cases H
  | succ k ih=>intro A N w a0 a_0 a1 s_1 S r H; exact reduce_known_gst ih S H
 exact main k S H
theorem reduce_rules_st  (S:St A N w w [] [oPw]) {r:Unit} (H:zbj.f  = some r) :
  Calls PP F_reduce_rules #[] w <| Rt fun v w'=>(∃ so0:SlV,v=so0.v∧St A N w w' [oS uG 2 RRule.C so0 zaj] []):=by
 unfold zbj.f at H
 refine zu (n:=10) Tryz.func68 rfl rfl zao (zb (za (wd (xT) (zd (zb (za (wd (Does.to (v':=Value.agg (RRule.C (ux 0)).toArray) (xa (vs:=[(0,.func (.func vD) #[] #[]),(1,.func (.func y7) #[] #[])]) jg (xK rfl (xK rfl rfl)) (Bld.one rfl rfl (by rw [RRule.len]; decide) (RRule.set_fits _ (.mk (.func vD) #[] #[])) (Bld.one rfl rfl (by rw [RRule.len]; decide) (RRule.set_does _ (.mk (.func y7) #[] #[])) Bld.nil))) rfl) ?_)))))))
 refine wd (Does.to (v':=Value.agg (RRule.C (ux 1)).toArray) (xa (vs:=[(0,.func (.func vE) #[] #[]),(1,.func (.func y8) #[] #[])]) jg (xK rfl (xK rfl rfl)) (Bld.one rfl rfl (by rw [RRule.len]; decide) (RRule.set_fits _ (.mk (.func vE) #[] #[])) (Bld.one rfl rfl (by rw [RRule.len]; decide) (RRule.set_does _ (.mk (.func y8) #[] #[])) Bld.nil))) rfl) (wd (Does.to (v':=Value.agg (RRule.C (ux 2)).toArray) (xa (vs:=[(0,.func (.func vF) #[] #[]),(1,.func (.func y9) #[] #[])]) jg (xK rfl (xK rfl rfl)) (Bld.one rfl rfl (by rw [RRule.len]; decide) (RRule.set_fits _ (.mk (.func vF) #[] #[])) (Bld.one rfl rfl (by rw [RRule.len]; decide) (RRule.set_does _ (.mk (.func y9) #[] #[])) Bld.nil))) rfl) (wd (Does.to (v':=Value.agg (RRule.C (ux 3)).toArray) (xa (vs:=[(0,.func (.func vG) #[] #[]),(1,.func (.func va) #[] #[])]) jg (xK rfl (xK rfl rfl)) (Bld.one rfl rfl (by rw [RRule.len]; decide) (RRule.set_fits _ (.mk (.func vG) #[] #[])) (Bld.one rfl rfl (by rw [RRule.len]; decide) (RRule.set_does _ (.mk (.func va) #[] #[])) Bld.nil))) rfl) (wd (Does.to (v':=Value.agg (RRule.C (ux 4)).toArray) (xa (vs:=[(0,.func (.func vH) #[] #[]),(1,.func (.func yG) #[] #[])]) jg (xK rfl (xK rfl rfl)) (Bld.one rfl rfl (by rw [RRule.len]; decide) (RRule.set_fits _ (.mk (.func vH) #[] #[])) (Bld.one rfl rfl (by rw [RRule.len]; decide) (RRule.set_does _ (.mk (.func yG) #[] #[])) Bld.nil))) rfl) (wd (Does.to (v':=Value.agg (RRule.C (ux 5)).toArray) (xa (vs:=[(0,.func (.func vk) #[] #[]),(1,.func (.func yH) #[] #[])]) jg (xK rfl (xK rfl rfl)) (Bld.one rfl rfl (by rw [RRule.len]; decide) (RRule.set_fits _ (.mk (.func vk) #[] #[])) (Bld.one rfl rfl (by rw [RRule.len]; decide) (RRule.set_does _ (.mk (.func yH) #[] #[])) Bld.nil))) rfl) (wd (Does.to (v':=Value.agg (RRule.C (ux 6)).toArray) (xa (vs:=[(0,.func (.func vl) #[] #[]),(1,.func (.func yI) #[] #[])]) jg (xK rfl (xK rfl rfl)) (Bld.one rfl rfl (by rw [RRule.len]; decide) (RRule.set_fits _ (.mk (.func vl) #[] #[])) (Bld.one rfl rfl (by rw [RRule.len]; decide) (RRule.set_does _ (.mk (.func yI) #[] #[])) Bld.nil))) rfl) ?_)))))
 refine wd (Does.to (v':=Value.agg (RRule.C (ux 7)).toArray) (xa (vs:=[(0,.func (.func vm) #[] #[]),(1,.func (.func yJ) #[] #[])]) jg (xK rfl (xK rfl rfl)) (Bld.one rfl rfl (by rw [RRule.len]; decide) (RRule.set_fits _ (.mk (.func vm) #[] #[])) (Bld.one rfl rfl (by rw [RRule.len]; decide) (RRule.set_does _ (.mk (.func yJ) #[] #[])) Bld.nil))) rfl) ?_
 refine vi (C:=RRule.C) (l:=zaj) (vs:=[.agg (RRule.C (ux 0)).toArray,.agg (RRule.C (ux 1)).toArray,.agg (RRule.C (ux 2)).toArray,.agg (RRule.C (ux 3)).toArray,.agg (RRule.C (ux 4)).toArray,.agg (RRule.C (ux 5)).toArray,.agg (RRule.C (ux 6)).toArray,.agg (RRule.C (ux 7)).toArray]) xN el_RRule.zero rfl rfl (fun a _=>RRule.len a) zam rfl zam fun b2 w1 s3 hBw1 hw1=>?_
 replace S:=S.lit hBw1 hw1 zam
 refine wd (yM rfl) (zd (zr ?_))
 refine ⟨_,(zP (zf rfl)),?_⟩
 replace S:=S.arr [0] []
 obtain rfl:=zaq H
 exact ⟨s3,rfl,S⟩
theorem j8 {a0:Tb} {a_0:Option Addr} {a1:PTerm} {s_1:SlV} (S:St A N w w [] [oT a_0 a0,ze s_1 a1.sub,oPw]) {k:Nat} {r:Bool × Int} (H:zbk.f k a0 a1=some r) :
  Calls PP F_reduce_begun #[.pointer a_0,.agg (tmC a1 s_1).toArray] w <| Rt fun v w'=>(∃ ao0:Option Addr,v = .tuple #[.pointer ao0,.int .i64 r.2]∧St A N w w' [] [oMa ao0 a_0 r.1]):=by
 unfold zbk.f at H
 refine zu (n:=23) Tryz.func38 rfl rfl zao ?_
 refine zb (za ?_)
 refine zH rfl zam fun b2 w1 hw1=>?_
 replace S:St A N w w1 [oB b2 zm (tmC a1 s_1)] [oT a_0 a0,ze s_1 a1.sub,oPw]:=S.new hw1
 refine wd (zZ rfl) ?_
 replace S:St A N w w1 [oB b2 zm (tmC a1 s_1)] [oMa none a_0 false,oT a_0 a0,ze s_1 a1.sub,oPw]:=S.nil_oMaZ
 refine wd (zh rfl) ?_
 refine zd ?_
 refine zb (zb (za ?_))
 refine wd (zB rfl) ?_
 obtain ⟨r3,er3,H⟩ := zp H
 obtain ⟨_,_,T,bk⟩ := S.calln 0 ((.z 1 rfl .nil))
 refine zA (zx ca_formula_Table_Copy) zam (formula_Table_Copy_st T er3) ?_
 rintro _ w4 ⟨a6,rfl,hnilw4,S2⟩
 replace S:St A N w w4 [oT a6 r3,oB b2 zm (tmC a1 s_1)] [oMa none a_0 false,oT a_0 a0,ze s_1 a1.sub,oPw]:=bk _ _ _ _ S2 rfl
 refine wd (does_isnilp vh rfl rfl hnilw4) ?_
 refine zd ?_
 refine zI rfl (fun hc7=>?_) (fun hc7=>?_)
 ·replace H:=if_t hc7 H
  refine zb (za ?_)
  refine wd (zZ rfl) ?_
  replace S:St A N w w4 [oT a6 r3,oB b2 zm (tmC a1 s_1)] [oMa none a_0 false,oMa none a_0 false,oT a_0 a0,ze s_1 a1.sub,oPw]:=S.nil_oMaZ
  refine wd (zh rfl) ?_
  refine zd ?_
  refine zr ?_
  refine ⟨_,(xm (zf rfl) (zf rfl)),?_⟩
  replace S:St A N w w4 [] [oMa none a_0 false]:=S.arr [] [0]
  obtain rfl:=zaq H
  exact ⟨none,rfl,S⟩
 replace H:=if_f hc7 H
 refine zw ?_
 refine zb (zb (za ?_))
 refine wd (ldT rfl (S.blk 1)) ?_
 obtain ⟨r8,er8,H⟩ := zp H
 obtain ⟨_,_,T,bk⟩ := S.calln 0 ((.z 2 rfl .nil))
 refine zA (zx vW) zam (vY (a0:=a1) T er8) ?_
 rintro _ w9 ⟨rfl,S2⟩
 replace S:St A N w w9 [oT a6 r3,oB b2 zm (tmC a1 s_1)] [oMa none a_0 false,oT a_0 a0,ze s_1 a1.sub,oPw]:=bk _ _ _ _ S2 rfl
 refine wd (zh rfl) ?_
 refine zd ?_
 refine zb (za ?_)
 refine wd (zk rfl) ?_
 refine wd (xq rfl rfl) ?_
 refine zd ?_
 refine zI rfl (fun hc11=>?_) (fun hc11=>?_)
 ·replace H:=if_t hc11 H
  refine zb (za ?_)
  refine wd (zk rfl) ?_
  refine wd (zZ rfl) ?_
  replace S:St A N w w9 [oT a6 r3,oB b2 zm (tmC a1 s_1)] [oMa none a_0 false,oMa none a_0 false,oT a_0 a0,ze s_1 a1.sub,oPw]:=S.nil_oMaZ
  refine wd (zh rfl) ?_
  refine zd ?_
  refine zr ?_
  refine ⟨_,(xm (zf rfl) (zf rfl)),?_⟩
  replace S:St A N w w9 [] [oMa none a_0 false]:=S.arr [] [0]
  obtain rfl:=zaq H
  exact ⟨none,rfl,S⟩
 replace H:=if_f hc11 H
 refine zw ?_
 refine zb (zb (za ?_))
 refine wd (zB rfl) ?_
 refine wd (ldT rfl (S.blk 1)) ?_
 obtain ⟨r12,er12,H⟩ := zp H
 obtain ⟨_,_,T,bk⟩ := S.calln 0 ((.z 1 rfl (.z 2 rfl .nil)))
 refine zA (zx ca_reduce_known) zam (reduce_known_st (a1:=a1) T er12) ?_
 rintro _ w13 ⟨rfl,S2⟩
 replace S:St A N w w13 [oT a6 r3,oB b2 zm (tmC a1 s_1)] [oMa none a_0 false,oT a_0 a0,ze s_1 a1.sub,oPw]:=bk _ _ _ _ S2 rfl
 refine wd (xf rfl) ?_
 refine zd ?_
 refine zI rfl (fun hc15=>?_) (fun hc15=>?_)
 ·replace H:=if_t hc15 H
  refine zb (za ?_)
  refine wd (zZ rfl) ?_
  replace S:St A N w w13 [oT a6 r3,oB b2 zm (tmC a1 s_1)] [oMa none a_0 false,oMa none a_0 false,oT a_0 a0,ze s_1 a1.sub,oPw]:=S.nil_oMaZ
  refine wd (zh rfl) ?_
  refine zd ?_
  refine zr ?_
  refine ⟨_,(xm (zf rfl) (zf rfl)),?_⟩
  replace S:St A N w w13 [] [oMa none a_0 false]:=S.arr [] [0]
  obtain rfl:=zaq H
  exact ⟨none,rfl,S⟩
 replace H:=if_f hc15 H
 refine zw ?_
 refine zb (za ?_)
 refine wd (zB rfl) ?_
 obtain ⟨r16,er16,H⟩ := zp H
 obtain ⟨_,_,T,bk⟩ := S.calln 0 ((.z 3 rfl .nil))
 refine zA (zx ca_reduce_rules) zam (reduce_rules_st T er16) ?_
 rintro _ w17 ⟨s19,rfl,S2⟩
 replace S:St A N w w17 [oS uG 2 RRule.C s19 zaj,oT a6 r3,oB b2 zm (tmC a1 s_1)] [oMa none a_0 false,oT a_0 a0,ze s_1 a1.sub,oPw]:=bk _ _ _ _ S2 rfl
 refine wd (Does.to (v' := .agg (Machine.C (⟨a_0,s19⟩ : Machine)).toArray) (xa (vs:=[(0,.pointer a_0),(1,s19.v)]) bu_Machine (xK rfl (xK rfl rfl)) (Bld.one rfl rfl (by rw [Machine.len]; decide) (Machine.set_t _ _) (Bld.one rfl (SlV.one _ _ rfl) (by rw [Machine.len]; decide) (Machine.set_rules _ _) Bld.nil))) rfl) ?_
 refine zH rfl zam fun b21 w20 hw20=>?_
 replace S:St A N w w20 [oB b21 jx (Machine.C (⟨a_0,s19⟩ : Machine)),oS uG 2 RRule.C s19 zaj,oT a6 r3,oB b2 zm (tmC a1 s_1)] [oMa none a_0 false,oT a_0 a0,ze s_1 a1.sub,oPw]:=S.new hw20
 replace S:=S.front 1
 replace S:=S.front 1
 replace S:St A N w w20 [oMa (some ⟨b21,0,none⟩) a_0 true,oT a6 r3,oB b2 zm (tmC a1 s_1)] [oMa none a_0 false,oT a_0 a0,ze s_1 a1.sub,oPw]:=S.shut_oMa rfl
 replace S:St A N w w20 [oT a6 r3,oB b2 zm (tmC a1 s_1)] [oMa (some ⟨b21,0,none⟩) a_0 true,oMa none a_0 false,oT a_0 a0,ze s_1 a1.sub,oPw]:=S.frzO 0
 refine wd (zZ rfl) ?_
 refine wd (zh rfl) ?_
 refine zd ?_
 refine zr ?_
 refine ⟨_,(xm (zf rfl) (zf rfl)),?_⟩
 replace S:St A N w w20 [] [oMa (some ⟨b21,0,none⟩) a_0 true]:=S.arr [] [0]
 obtain rfl:=zaq H
 exact ⟨(some ⟨b21,0,none⟩),rfl,S⟩
end
section
open Go.RowKit
namespace Gw
variable {Z:List OA}
theorem tl10 {a0 a1 a2 a3 a4 a5 a6 a7 a8 a9:OA} : ∀ z ∈ Z,z ∈ a0 :: a1 :: a2 :: a3 :: a4 :: a5 :: a6 :: a7 :: a8 :: a9 :: Z:=fun z q => .tail _ (.tail _ (.tail _ (.tail _ (.tail _ (.tail _ (.tail _ (.tail _ (.tail _ (.tail _ (q))))))))))
theorem tl11 {a0 a1 a2 a3 a4 a5 a6 a7 a8 a9 a10:OA} : ∀ z ∈ Z,z ∈ a0 :: a1 :: a2 :: a3 :: a4 :: a5 :: a6 :: a7 :: a8 :: a9 :: a10 :: Z:=fun z q => .tail _ (.tail _ (.tail _ (.tail _ (.tail _ (.tail _ (.tail _ (.tail _ (.tail _ (.tail _ (.tail _ (q)))))))))))
end Gw
end
section
open Gw
theorem term_clone_nil {zcB:PTerm→Option PTerm} {a0 r:PTerm} (h:a0.sub=[]) (H:zbp.g zcB a0=some r):some a0=some r:=by
 unfold zbp.g at H
 rw [h] at H
 cases a0
 simp only [PTerm.sub] at h
 subst h
 exact H
end
end Go.Proofs.YtmggdbbmmkkplaaGreatDoor
