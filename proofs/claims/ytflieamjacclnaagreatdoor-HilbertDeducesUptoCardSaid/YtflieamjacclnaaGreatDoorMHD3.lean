/- Texts put together: A region that draws its order, with calls that turn what the caller owns; what is over is known to be closed. An element of a slice of terms, seen once, and read whenever. Chapter 16: makers of lines, patterns: what they are, and the pieces that hold them. Chapter 16: the axioms' schemes: a table of texts. Tables out of rows: Lean functions with the answers of the Go functions. Printed by pp.py, a program of mine. Chapter 16, axioms: Lean functions with the answers of the Go functions. Printed by pp.py, a program of mine. Chapter 16, lines: Lean functions with the answers of the Go functions. Printed by pp.py, a program of mine. Chapter 12, kinds of terms: Lean functions with the answers of the Go functions. Printed by pp.py, a program of mine. Chapter 12, what is right: Lean functions with the answers of the Go functions. Printed by pp.py, a program of mine. Errors on their way up: Lean functions with the answers of the Go functions. Printed by pp.py, a program of mine. Chapter 13, types: Lean functions with the answers of the Go functions. Printed by pp.py, a program of mine. Chapter 16, terms: Lean functions with the answers of the Go functions. Printed by pp.py, a program of mine. DERIVED: THE SHELF's CONTRACTS AT THIS DUMP, IN PLAIN WORDS (tools/lay-plain.mjs out of 'TryzShelf.lean', which tools/lay-shelf.mjs wrote): THE SAME DECLARATIONS UNDER THE SAME NAMES: 'import', 'namespace', 'open', 'def', 'theorem' AND NOTHING ELSE: no command of the shelf's: FOR A HAND-IN. Each laying: the table of numbers ('.._ren') and one theorem, a field a fact of the dump's own or the kernel's comparison; each contract: ONE APPLICATION. Numbers below a hundred as texts (strconv.Itoa, by the shelf's contract). Loops over functions that give two values a round; what stays may be other things round by round. slices.Backward: what its loop is given, the last one first. Printed by gen/backward.py, a program of mine. Chapter 16, parts of terms: Lean functions with the answers of the Go functions. Printed by pp.py, a program of mine. Chapter 16, the heads: Lean functions with the answers of the Go functions. Printed by pp.py, a program of mine. Chapter 16, tables of rows: Lean functions with the answers of the Go functions. Printed by pp.py, a program of mine. Chapter 16, HilbertIs: Lean functions with the answers of the Go functions. Printed by pp.py, a program of mine. Chapter 16, HilbertChecks: Lean functions with the answers of the Go functions. Printed by pp.py, a program of mine. Chapter 16, the document's deduction: Lean functions with the answers of the Go functions. Printed by pp.py, a program of mine. Tables out of rows: the walks. Printed by pp.py, a program of mine. Chapter 16, axioms: the walks. Printed by pp.py, a program of mine. Calls under a guard that turn what the caller owns. Chapter 16, lines: the walks. Printed by pp.py, a program of mine. Chapter 12, kinds of terms: the walks. Printed by pp.py, a program of mine. Chapter 12, what is right: the walks. Printed by pp.py, a program of mine. Errors on their way up: the walks. Printed by pp.py, a program of mine. -/
import Derived.Test.YtflieamjacclnaaGreatDoorMHD2
import Derived.Shelf.Strconv.Itoa0
import Derived.Shelf.Strconv.Itoa1
import Derived.Shelf.LaysM
import Derived.Shelf.Strconv.Itoa2
import Derived.Shelf.Strconv.Itoa3
import Derived.Test.YtflieamjacclnaaGreatDoorProg
set_option linter.unusedVariables false
set_option linter.unusedSimpArgs false
section
namespace Go.Proofs.YtflieamjacclnaaGreatDoor
open Go.RowKit
namespace Gw
def Owe5 (P:Program) (rd:Option Nat) (n:Nat) (dm:List Nat) (ops:Array Oper) (ds:List Nat) (D:Draw) (T:(Nat→Bool)→Fr→World→Prop) (f:Fr) (i:Nat) (o:Oper):Prop :=
 ∀ (L:Nat→Bool) (g:Fr) (w:World),L i=false→(∀ j,((Region.before ops).getD i 0).testBit j=true→L j=true)→(∀ j q,L j=true→((Region.before ops).getD j 0).testBit q=true→L q=true)→T L g w→givens ops D g w (y4 o) (wl P rd n dm ops [o] (obPost4 dm D T L i o.dst g (mask ds g f) w) (mask ds g f) w)
def Owes5 (P:Program) (rd:Option Nat) (n:Nat) (dm:List Nat) (ops:Array Oper) (ds:List Nat) (D:Draw) (T:(Nat→Bool)→Fr→World→Prop) (f:Fr):List Oper→Nat→Prop
 | [],_=>True
 | o :: l,i=>Owe5 P rd n dm ops ds D T f i o∧Owes5 P rd n dm ops ds D T f l (i + 1)
section
variable {P:Program} {rd:Option Nat} {n m:Nat} {dm:List Nat} {ops:Array Oper} {Q:Post} {f:Fr} {w:World}
theorem clos_of {l:List Oper} {j q:Nat} {listed:Array Bool} (hc:Closed l.toArray listed) (hj:listed.getD j false=true) (hq:((Region.before l.toArray).getD j 0).testBit q=true):listed.getD q false=true:=by
 by_cases hl:j < l.length
 ·have ho:l.toArray[j]? = some l[j]:=by simp [hl]
  refine uv hc [] #[] rfl (by simp) (by simp) l.toArray.toList (by simp) j (by simpa using hl) q ?_ ?_
  ·unfold Region.before at hq
   rw [← Array.foldl_toList] at hq
   exact hq
  ·rw [ho]
   intro e he hb
   exact hc j _ ho hj e (by simpa using he) hb
 ·have h0:(Region.before l.toArray).getD j 0=0:=by
   have hs:(Region.before l.toArray).size=l.length:=by
    unfold Region.before
    rw [← Array.foldl_toList]
    have:=before_foldl l #[]
    simpa using this
   rw [Array.getD_eq_getD_getElem?,Array.getElem?_eq_none (by omega)]; rfl
  rw [h0] at hq; simp at hq
theorem owes5_at {ds:List Nat} {D:Draw} {T:(Nat→Bool)→Fr→World→Prop} : ∀ (l:List Oper) (i:Nat),Owes5 P rd n dm ops ds D T f l i → ∀ j o,l[j]? = some o→Owe5 P rd n dm ops ds D T f (i + j) o
 | [],_,_,j,o,hj=>by simp at hj
 | o :: l,i,h,0,o',hj=>by simp at hj; subst hj; exact h.1
 | o :: l,i,h,j + 1,o',hj=>by
  have:=owes5_at l (i + 1) h.2 j o' (by simpa using hj)
  rwa [show i + 1 + j=i + (j + 1) by omega] at this
theorem uo {id:Nat} {l:List Oper} (m:Nat) (D:Draw) (T:(Nat→Bool)→Fr→World→Prop) (hm:P.follows .mixedOrders=true) (hB:drawB2 l.toArray m=true)
  (hst : ∀ L i v w w',L i=true→D.Le L w w'→D.V i v w→D.V i v w') (hT : ∀ g,T (fun _=>false) g { w with drawn:=w.drawn + 1 })
  (ho:Owes5 P rd n dm l.toArray ((l.take m).filterMap (·.dst)) D T f (l.take m) 0)
  (hq : ∀ L g w,(∀ j,L j=decide (j < m))→T L g w→allV D g w (l.take m) 0 (wl P rd n dm l.toArray (l.drop m) Q (mask ((l.take m).filterMap (·.dst)) g f) w)):wc P rd n dm (.region id l.toArray true) Q f w:=by
 intro a ha
 refine wpIn_region_any hm ?_
 simp only [drawB2,Bool.and_eq_true,decide_eq_true_eq,List.all_eq_true] at hB
 obtain ⟨⟨⟨hnd,hback⟩,htail⟩,hml⟩ := hB
 simp only [List.size_toArray] at hml
 generalize hds:(l.take m).filterMap (·.dst)=ds at *
 have hb:Back l.toArray:=by
  intro i o hi e he hbd
  have:=hback (o,i) (by
   rw [List.mem_zipIdx_iff_getElem?]
   simpa using hi) e (by simpa using he)
  simp only [hbd,Bool.not_true,Bool.false_or,decide_eq_true_eq] at this
  exact this
 have hord : ∀ k,m ≤ k→k < l.toArray.size → ∀ listed:Array Bool,listed.size=l.toArray.size→k ∈ Region.ready .any l.toArray listed→Closed l.toArray listed → ∀ j,j < k→listed.getD j false=true:=by
  intro k hmk hk listed hs hr hc j hj
  have hkl:k < l.length:=by simpa using hk
  have h1:=htail (l[k],k) (by
   rw [List.mem_zipIdx_iff_getElem?]
   simp)
  simp only [Bool.or_eq_true,decide_eq_true_eq] at h1
  rcases h1 with h1 | h1
  ·omega
  ·rw [List.all_eq_true] at h1
   have h2:=h1 j (by simpa using hj)
   rw [mem_ready] at hr
   obtain ⟨_,o,ho',hall⟩ := hr
   refine uv hc [] #[] rfl (by simp) (by simp) l.toArray.toList (by simp) k hk j ?_ ?_
   ·unfold Region.before at h2
    rw [← Array.foldl_toList] at h2
    exact h2
   ·rw [ho']
    simpa using hall
 have hmd : ∀ j o,(l.take m)[j]? = some o→j < m∧l.toArray[j]? = some o ∧ ∀ d,o.dst=some d→d ∈ ds:=by
  intro j o hj
  have hjm:j < m:=by
   have:=(List.getElem?_eq_some_iff.1 hj).1
   simp at this; omega
  have hjo:l[j]? = some o:=by rw [List.getElem?_take] at hj; simpa [hjm] using hj
  exact ⟨hjm,by simpa using hjo,fun d hd=>by rw [← hds]; exact List.mem_filterMap.2 ⟨o,List.mem_of_getElem? hj,hd⟩⟩
 have hinj : ∀ (i j:Nat) (oi oj:Oper) (d:Nat),(l.take m)[i]? = some oi→(l.take m)[j]? = some oj→oi.dst=some d→oj.dst=some d→i=j:=by
  have hgen : ∀ (L:List Oper),(L.filterMap (·.dst)).Nodup → ∀ (i j:Nat) (oi oj:Oper) (d:Nat),L[i]? = some oi→L[j]? = some oj→oi.dst=some d→oj.dst=some d→i=j:=by
   intro L
   induction L with
   | nil=>intro _ i j oi oj d h; simp at h
   | cons o L ih =>
    intro hn i j oi oj d hi hj hdi hdj
    have hn':(L.filterMap (·.dst)).Nodup:=by
     rw [List.filterMap_cons] at hn
     split at hn
     ·exact hn
     ·exact (List.nodup_cons.1 hn).2
    have hno : ∀ (k:Nat) (ok:Oper) (dd:Nat),L[k]? = some ok→o.dst=some dd→ok.dst ≠ some dd:=by
     intro k ok dd hk hod hkd
     rw [List.filterMap_cons,hod] at hn
     exact (List.nodup_cons.1 hn).1 (List.mem_filterMap.2 ⟨ok,List.mem_of_getElem? hk,hkd⟩)
    cases i with
    | zero =>
     cases j with
     | zero=>rfl
     | succ j=>simp at hi; subst hi; exact absurd hdj (hno j oj d (by simpa using hj) hdi)
    | succ i =>
     cases j with
     | zero=>simp at hj; subst hj; exact absurd hdi (hno i oi d (by simpa using hi) hdj)
     | succ j=>rw [ih hn' i j oi oj d (by simpa using hi) (by simpa using hj) hdi hdj]
  exact hgen _ (by rw [hds]; exact hnd)
 have main : ∀ (fuel:Nat) (listed:Array Bool) (g:Fr) (a:Act) (w:World),listed.size=l.length→fuel + cnt listed l.length=l.length→Closed l.toArray listed→(∀ j,m ≤ j→j < l.length→listed.getD j false=false) →
   Is n dm a (mask ds g f)→T (fun j=>listed.getD j false) g w→(∀ j o,(l.take m)[j]? = some o→listed.getD j false=true→overV D g w j o.dst)→wpAnyIn (fen rd) 0 P .any l.toArray (lift n Q) fuel listed a w:=by
  intro fuel
  induction fuel with
  | zero =>
   intro listed g a w hs hcnt hc hno ha hT hV
   have hall:=zbO listed l.length (by omega)
   have hm':m=l.length:=by
    by_cases h:m < l.length
    ·have:=hno m (Nat.le_refl _) h
     rw [hall m h] at this
     cases this
    ·omega
   have hfin:=un (l.take m) 0 (fun j o hj=>by rw [Nat.zero_add]; exact (hV j o hj (hall j (by have:=(hmd j o hj).1; omega))).get) (hq _ g w (fun j=>by
    by_cases hj:j < l.length
    ·rw [hall j hj,decide_eq_true (by omega)]
    ·rw [uq listed j (by omega),decide_eq_false (by omega)]) hT)
   rw [List.drop_eq_nil_of_le (by omega)] at hfin
   refine ⟨?_,?_⟩
   ·refine List.eq_nil_iff_forall_not_mem.2 fun i hi=>?_
    obtain ⟨h1,h2⟩ := uk (ops:=l.toArray) (by simpa using hs) hi
    rw [hall i (by simpa using h1)] at h2
    cases h2
   ·exact hfin a ha
  | succ fuel ih =>
   intro listed g a w hs hcnt hc hno ha hT hV
   have hs':listed.size=l.toArray.size:=by simpa using hs
   refine ⟨fun hr=>?_,fun i hi=>?_⟩
   ·have hall:=ready_nil hb hs' hr
    have:=kn listed l.length (fun j hj=>hall j (by simpa using hj))
    omega
   ·obtain ⟨h1,h2⟩ := uk hs' hi
    have h1':i < l.length:=by simpa using h1
    by_cases him:i < m
    ·have hio:(l.take m)[i]? = some l[i]:=by
      rw [List.getElem?_take,if_pos him]
      exact List.getElem?_eq_getElem h1'
     obtain ⟨_,hio',hdds⟩ := hmd i _ hio
     have howe:=owes5_at _ 0 ho i _ hio (fun j=>listed.getD j false) g w (by rw [Nat.zero_add]; exact h2) (fun j hj=>by rw [Nat.zero_add] at hj; exact ord_of h1' hj hi hc) (fun j q hj hq=>clos_of hc hj hq) hT
     rw [Nat.zero_add] at howe
     have hready:=hi
     rw [mem_ready] at hready
     obtain ⟨_,o,hoo,hall⟩ := hready
     rw [hio'] at hoo
     cases hoo
     have hwl:=jZ (ops:=l.toArray) (y4 l[i]) (fun j hj=>by
      unfold y4 at hj
      obtain ⟨e,he,rfl⟩ := List.mem_map.1 hj
      obtain ⟨he1,he2⟩ := List.mem_filter.1 he
      have hbd:Region.binds .any e=true:=by
       unfold Region.binds
       cases hg:e.ground <;> rw [hg] at he2 <;> simp at he2 ⊢
      have hlt:=hb i _ hio' e (by simpa using he1) hbd
      have hlst:=hall e (by simpa using he1) hbd
      have hjm:e.on < m:=by omega
      have hjo:(l.take m)[e.on]? = some l[e.on]:=by
       rw [List.getElem?_take,if_pos hjm]
       exact List.getElem?_eq_getElem (by omega)
      have:=(hV e.on _ hjo hlst).get
      unfold yM
      obtain ⟨_,hj2,_⟩ := hmd _ _ hjo
      rw [hj2]
      simp only [Option.bind_some]
      exact this) howe
     refine zbb hio' hwl (fun dm e f' w' q=>q.1) ?_ ha
     rintro dm' a' f' w' ha' ⟨_,rfl,hL',hV'⟩
     cases hd:l[i].dst with
     | none =>
      rw [hd] at hV'
      obtain ⟨rfl,hV',hT'⟩ := hV'
      rw [zaM listed i (by omega)] at hT'
      refine ih _ g a' w' (by simpa using hs) ?_ (hc.set hs' hi) ?_ ha' hT' ?_
      ·rw [zax listed i (by omega) h2,if_pos h1']; omega
      ·intro j hmj hjl
       rw [yT _ _ _ (by omega),if_neg (by omega)]
       exact hno j hmj hjl
      ·intro j oj hj hlj
       rw [yT _ _ _ (by omega)] at hlj
       by_cases hij:i=j
       ·subst hij
        rw [hio] at hj
        cases hj
        rw [hd]
        exact hV'
       ·rw [if_neg hij] at hlj
        have hvj:=hV j oj hj hlj
        cases hdj:oj.dst with
        | none=>rw [hdj] at hvj; exact fun v=>hst _ j _ _ _ hlj hL' (hvj v)
        | some dj=>rw [hdj] at hvj; exact hst _ j _ _ _ hlj hL' hvj
     | some d =>
     rw [hd] at hV'
     obtain ⟨v,rfl,hV',hT'⟩ := hV'
     rw [zaM listed i (by omega)] at hT'
     have hdds:=hdds d hd
     have hmask:upd (mask ds g f) d v=mask ds (upd g d v) f:=by
      funext k
      by_cases hk:k=d
      ·subst hk
       rw [upd_same,x8 hdds,upd_same]
      ·rw [zF _ _ _ _ hk]
       by_cases hkd:k ∈ ds
       ·rw [x8 hkd,x8 hkd,zF _ _ _ _ hk]
       ·rw [xR hkd,xR hkd]
     rw [hmask] at ha'
     refine ih _ (upd g d v) a' w' (by simpa using hs) ?_ (hc.set hs' hi) ?_ ha' hT' ?_
     ·rw [zax listed i (by omega) h2,if_pos h1']; omega
     ·intro j hmj hjl
      rw [yT _ _ _ (by omega),if_neg (by omega)]
      exact hno j hmj hjl
     ·intro j oj hj hlj
      rw [yT _ _ _ (by omega)] at hlj
      by_cases hij:i=j
      ·subst hij
       rw [hio] at hj
       cases hj
       rw [hd]
       show D.V i (upd g d v d) _
       rw [upd_same]
       exact hV'
      ·rw [if_neg hij] at hlj
       have hvj:=hV j oj hj hlj
       cases hdj:oj.dst with
       | none=>rw [hdj] at hvj; exact fun v=>hst _ j _ _ _ hlj hL' (hvj v)
       | some dj =>
        rw [hdj] at hvj
        have hne:dj ≠ d:=fun e=>hij (hinj i j _ oj d hio hj hd (by rw [hdj,e]))
        show D.V j (upd g d v dj) _
        rw [zF _ _ _ _ hne]
        exact hst _ j _ _ _ hlj hL' hvj
    ·have hallj:=hord i (by omega) h1 listed hs' hi hc
     have him':i=m:=by
      by_cases h:m < i
      ·have:=hno m (Nat.le_refl _) (by omega)
       rw [hallj m h] at this
       cases this
      ·omega
     subst him'
     have hfin:=un (l.take i) 0 (fun j o hj=>by rw [Nat.zero_add]; exact (hV j o hj (hallj j (by have:=(hmd j o hj).1; omega))).get) (hq _ g w (fun j=>by
      by_cases hj:j < i
      ·rw [hallj j hj,decide_eq_true hj]
      ·rw [decide_eq_false hj]
       by_cases hjl:j < l.length
       ·exact hno j (by omega) hjl
       ·exact uq listed j (by omega)) hT)
     have hfa:=hfin a ha
     have hcn:cnt listed l.length=i:=by
      have hz : ∀ k,i ≤ k→k ≤ l.length→cnt listed k=i:=by
       intro k
       induction k with
       | zero=>intro h _; rw [show i=0 by omega]; rfl
       | succ k ihk =>
        intro h1 h2
        by_cases hk:i ≤ k
        ·rw [ki,ihk hk (by omega),hno k hk (by omega)]; simp
        ·have:k + 1=i:=by omega
         rw [this]
         exact kn listed i hallj
      exact hz _ (by omega) (Nat.le_refl _)
     have htl:=any_tail (rd:=rd) (P:=P) (m:=i) (R:=lift n Q) hb hord (fuel + 1) i listed a w (Nat.le_refl _) hs' hc (fun j hj=>⟨(fun h=>by
      refine Nat.lt_of_not_le fun hij=>?_
      rw [hno j hij (by simpa using hj)] at h
      cases h),hallj j⟩) (by simp; omega) hfa
     exact htl.2 i hi
 have h0:Is n dm a (mask ds f f):=by
  have:mask ds f f=f:=by funext k; unfold mask; cases ds.elem k <;> rfl
  rw [this]; exact ha
 have hz:cnt (Array.replicate l.toArray.size false) l.length=0:=by
  unfold cnt
  rw [List.length_eq_zero_iff]
  refine List.filter_eq_nil_iff.2 fun j hj=>?_
  rw [xZ]
  simp
 refine main _ _ f a _ (by simp) (by rw [hz]; simp) ?_ (by intro j _ _; rw [xZ]) h0 (by rw [show (fun j=>(Array.replicate l.toArray.size false).getD j false)=fun _=>false from funext fun j=>xZ _ j]; exact hT _) ?_
 ·intro j o _ h; rw [xZ] at h; cases h
 ·intro j o _ h; rw [xZ] at h; cases h
theorem yW {L:Nat→Bool} {i:Nat}:plus L i i=true:=by simp [plus]
end
end Gw
end Go.Proofs.YtflieamjacclnaaGreatDoor
end
section
namespace Go.Proofs.YtflieamjacclnaaGreatDoor
open Gw Go.RowKit
def oCl (b o:Nat) (l:List Value):OA where
 holds:=fun w F=>ko w b o l∧b < w.heap.size ∧ ∀ i,F i↔i=b
 loc:=fun h hc hs=>⟨ko.chg h.1 hc (hs _ ((h.2.2 _).2 rfl)),Nat.lt_of_lt_of_le h.2.1 hc.size,h.2.2⟩
 lt:=fun h i hi=>by rw [(h.2.2 i).1 hi]; exact h.2.1
section
variable {A:Nat→Prop} {N:Oth} {w0 w:World} {L Z:List OA}
theorem Gw.St.cl (h:St A N w0 w L Z) (k:Nat) {b o:Nat} {l:List Value} (e:Z[k]? = some (oCl b o l):=by rfl):ko w b o l:=(h.frz k e).elim fun _ q=>q.1
theorem Gw.St.viewTermC (h:St A N w0 w L Z) (k:Nat) {s:SlV} {l:List PTerm} {i:Int} (hi:0 ≤ i∧i < l.length) (e:Z[k]? = some (zy s l):=by rfl) :
  ∃ n:SlV,St A N w0 w L (oCl s.blk (s.off + Int.toNat i * 5) (Term.C ⟨(at_ PTerm.z l i).kind,(at_ PTerm.z l i).name,(at_ PTerm.z l i).other,(at_ PTerm.z l i).form,n⟩) :: zy n (at_ PTerm.z l i).sub :: Z):=by
 obtain ⟨n,hc,S⟩ := h.viewTerm k hi e
 refine ⟨n,S.part (k + 1) (a:=zy s l) (b:=oCl s.blk (s.off + Int.toNat i * 5) (Term.C ⟨(at_ PTerm.z l i).kind,(at_ PTerm.z l i).name,(at_ PTerm.z l i).other,(at_ PTerm.z l i).form,n⟩)) (fun F hF=>⟨fun j=>j=s.blk,⟨hc,?_,fun _=>Iff.rfl⟩,fun j hj=>?_⟩) (by simpa using e)⟩
 ·exact World.block_lt_of_cell? (a:=⟨_,_,none⟩) w (hc 0 (.int .i64 (at_ PTerm.z l i).kind) rfl)
 ·obtain ⟨⟨d,ms⟩,G,H,g,hh,q⟩ := hF
  have hl:=bigA_len hh
  rw [hj]
  refine (q _).2 (.inl ((g.2 _).2 ⟨fun e0=>?_,rfl⟩))
  have e0':ms=[]:=e0
  rw [e0'] at hl
  simp at hl
  omega
end
end Go.Proofs.YtflieamjacclnaaGreatDoor
end
section
namespace Go.Proofs.YtflieamjacclnaaGreatDoor
open Gw Go.RowKit
structure PMaker where
 t:Tb
 l:List Ln
 bad:Int
structure PPattern where
 t:Tb
 seen:List (Int × Int)
structure PRMaker where
 t:Tb
 l:List Ln
 bad:Int
abbrev oMB (m:Nat) (l:List (Int × Int)):OA:=oM m (Value.int .u8) (Value.int .i64) l
abbrev oMI (m:Nat) (l:List (Int × Int)):OA:=oM m (Value.int .i64) (Value.int .i64) l
def oK (a ta:Option Addr) (x:PMaker):OA:=OA.ex fun (q:Nat × SlV)=>(OA.pure (a=some ⟨q.1,0,none⟩)).star ((oB q.1 xC (Maker.C ⟨ta,q.2,x.bad⟩)).star ((oT ta x.t).star (oS T_Ln 4 Ln.C q.2 x.l)))
def oPa (a ta:Option Addr) (x:PPattern):OA:=OA.ex fun (q:Nat × Nat)=>(OA.pure (a=some ⟨q.1,0,none⟩)).star ((oB q.1 zaF (Pattern.C ⟨ta,some q.2⟩)).star ((oT ta x.t).star (oMB q.2 x.seen)))
def oRK (a ta:Option Addr) (x:PRMaker):OA:=OA.ex fun (q:Nat × SlV)=>(OA.pure (a=some ⟨q.1,0,none⟩)).star ((oB q.1 zbV (RMaker.C ⟨ta,q.2,x.bad⟩)).star ((oR ta x.t).star (oS T_Ln 4 Ln.C q.2 x.l)))
section
variable {A:Nat→Prop} {N:Oth} {w0 w w':World} {L Z:List OA}
theorem Gw.St.open_oK (h:St A N w0 w L Z) (k:Nat) {a ta:Option Addr} {x:PMaker} {L':List OA} (e:L[k]? = some (oK a ta x):=by rfl) (e':L.eraseIdx k=L':=by rfl) :
  ∃ p ss,a=some ⟨p,0,none⟩ ∧ St A N w0 w (oB p xC (Maker.C ⟨ta,ss,x.bad⟩) :: oT ta x.t :: oS T_Ln 4 Ln.C ss x.l :: L') Z:=by
 subst e'
 obtain ⟨⟨p,ss⟩,h1⟩ := h.unex k e
 have h2:=h1.unstar 0
 have hp:=h2.getp 0
 have h3:=h2.drop 0
 have h4:=h3.unstar 0
 have h5:=h4.unstar 1
 exact ⟨p,ss,hp,(h5.front 2).front 1 |>.front 1⟩
theorem Gw.St.shut_oK {p:Nat} {ta a:Option Addr} {ss:SlV} {bad:Int} {t:Tb} {l:List Ln} (h:St A N w0 w (oB p xC (Maker.C ⟨ta,ss,bad⟩) :: oT ta t :: oS T_Ln 4 Ln.C ss l :: L) Z) (ha:a=some ⟨p,0,none⟩):St A N w0 w (oK a ta ⟨t,l,bad⟩ :: L) Z:=by
 have h1:St A N w0 w (oT ta t :: oS T_Ln 4 Ln.C ss l :: oB p xC (Maker.C ⟨ta,ss,bad⟩) :: L) Z:=(h.front 2).front 2
 have h2:St A N w0 w (oB p xC (Maker.C ⟨ta,ss,bad⟩) :: (oT ta t).star (oS T_Ln 4 Ln.C ss l) :: L) Z:=h1.star.front 1
 exact St.toex (f:=fun (q:Nat × SlV)=>(OA.pure (a=some ⟨q.1,0,none⟩)).star ((oB q.1 xC (Maker.C ⟨ta,q.2,bad⟩)).star ((oT ta t).star (oS T_Ln 4 Ln.C q.2 l)))) (p,ss) ((h2.star.putp ha).star)
theorem Gw.St.open_oPa (h:St A N w0 w L Z) (k:Nat) {a ta:Option Addr} {x:PPattern} {L':List OA} (e:L[k]? = some (oPa a ta x):=by rfl) (e':L.eraseIdx k=L':=by rfl) :
  ∃ p m,a=some ⟨p,0,none⟩ ∧ St A N w0 w (oB p zaF (Pattern.C ⟨ta,some m⟩) :: oT ta x.t :: oMB m x.seen :: L') Z:=by
 subst e'
 obtain ⟨⟨p,m⟩,h1⟩ := h.unex k e
 have h2:=h1.unstar 0
 have hp:=h2.getp 0
 have h3:=h2.drop 0
 have h4:=h3.unstar 0
 have h5:=h4.unstar 1
 exact ⟨p,m,hp,(h5.front 2).front 1 |>.front 1⟩
theorem Gw.St.shut_oPa {p m:Nat} {ta a:Option Addr} {t:Tb} {l:List (Int × Int)} (h:St A N w0 w (oB p zaF (Pattern.C ⟨ta,some m⟩) :: oT ta t :: oMB m l :: L) Z) (ha:a=some ⟨p,0,none⟩):St A N w0 w (oPa a ta ⟨t,l⟩ :: L) Z:=by
 have h1:St A N w0 w (oT ta t :: oMB m l :: oB p zaF (Pattern.C ⟨ta,some m⟩) :: L) Z:=(h.front 2).front 2
 have h2:St A N w0 w (oB p zaF (Pattern.C ⟨ta,some m⟩) :: (oT ta t).star (oMB m l) :: L) Z:=h1.star.front 1
 exact St.toex (f:=fun (q:Nat × Nat)=>(OA.pure (a=some ⟨q.1,0,none⟩)).star ((oB q.1 zaF (Pattern.C ⟨ta,some q.2⟩)).star ((oT ta t).star (oMB q.2 l)))) (p,m) ((h2.star.putp ha).star)
theorem Gw.St.open_oRK (h:St A N w0 w L Z) (k:Nat) {a ta:Option Addr} {x:PRMaker} {L':List OA} (e:L[k]? = some (oRK a ta x):=by rfl) (e':L.eraseIdx k=L':=by rfl) :
  ∃ p ss,a=some ⟨p,0,none⟩ ∧ St A N w0 w (oB p zbV (RMaker.C ⟨ta,ss,x.bad⟩) :: oR ta x.t :: oS T_Ln 4 Ln.C ss x.l :: L') Z:=by
 subst e'
 obtain ⟨⟨p,ss⟩,h1⟩ := h.unex k e
 have h2:=h1.unstar 0
 have hp:=h2.getp 0
 have h3:=h2.drop 0
 have h4:=h3.unstar 0
 have h5:=h4.unstar 1
 exact ⟨p,ss,hp,(h5.front 2).front 1 |>.front 1⟩
theorem Gw.St.shut_oRK {p:Nat} {ta a:Option Addr} {ss:SlV} {bad:Int} {t:Tb} {l:List Ln} (h:St A N w0 w (oB p zbV (RMaker.C ⟨ta,ss,bad⟩) :: oR ta t :: oS T_Ln 4 Ln.C ss l :: L) Z) (ha:a=some ⟨p,0,none⟩):St A N w0 w (oRK a ta ⟨t,l,bad⟩ :: L) Z:=by
 have h1:St A N w0 w (oR ta t :: oS T_Ln 4 Ln.C ss l :: oB p zbV (RMaker.C ⟨ta,ss,bad⟩) :: L) Z:=(h.front 2).front 2
 have h2:St A N w0 w (oB p zbV (RMaker.C ⟨ta,ss,bad⟩) :: (oR ta t).star (oS T_Ln 4 Ln.C ss l) :: L) Z:=h1.star.front 1
 exact St.toex (f:=fun (q:Nat × SlV)=>(OA.pure (a=some ⟨q.1,0,none⟩)).star ((oB q.1 zbV (RMaker.C ⟨ta,q.2,bad⟩)).star ((oR ta t).star (oS T_Ln 4 Ln.C q.2 l)))) (p,ss) ((h2.star.putp ha).star)
end
section
variable {P:Program} {f:Fr} {w:World} {d:Option Tmp} {ty:TypeId} {pos:String} {af:Array Edge} {gd:Option (Nat × Bool)} {m:Nat} {α β:Type} {C:α→Value} {D:β→Value} {l:List (α × β)}
theorem does_lookup1 [DecidableEq α] {t kt et:Nat} {x y:Operand} {key:α} {zv:β} (ht:P.underlying t=some (.map kt et)) (K:KeyT P kt C) (hz:(P.info? et).bind (·.zero)=some (D zv)) (hx:evF f x = .map (some m)) (hy:evF f y=C key) (hm:MapB w m C D l) :
  Does P ⟨d,.lookup t x y false,ty,pos,af,gd⟩ f w (D ((Gw.look key l).getD zv)) w:=by
 obtain ⟨es,c,hb,he⟩ := hm
 have hz':(zeroValue et).run P w = .ok (D zv) w:=by
  cases hq:P.info? et with
  | none=>simp [hq] at hz
  | some i=>simp [hq] at hz; simp [zeroValue,typeInfo,hq,hz]
 simp only [Does,execOp,hx,hy,Instr.lookup,Sem.run_bind,run_underlying ht,Result.andThen_ok,MapKept.run_getObj_map hb,Sem.run_pure,K.check,run_findKey K key es.toList l he]
 cases hs:spot key l with
 | none=>simp [zbY,hs,hz']
 | some i =>
  obtain ⟨v,hv⟩ := spot_key key l i hs
  simp [zbY,hs,hv]
def sfrom (s:ByteArray) (i:Int):ByteArray:=s.extract i.toNat s.size
theorem does_sliceStr {t:Nat} {x y:Operand} {kd:IntKind} {s:ByteArray} {i:Int} (ht:P.underlying t=some .string) (hx:evF f x = .string s) (hy:evF f y = .int kd i) (h0:0 ≤ i) (h1:i ≤ s.size):Does P ⟨d,.slice t x (some y) none none,ty,pos,af,gd⟩ f w (.string (sfrom s i)) w:=by
 have h2:(w:World)→(Instr.slice t (.string s) (some (.int kd i)) none none).run P w = .ok (.string (sfrom s i)) w:=fun w=>run_slice_string_l (w:=w) (t:=t) (s:=s) (ht:=ht) kd i h0 h1
 unfold Does execOp
 simp only [hx,Sem.run_bind,run_sliceAt_string (P:=P) w t _ _ _ _ ht,Option.map_some,Option.map_none,hy,h2,Result.andThen_ok,Sem.run_pure]
end
end Go.Proofs.YtflieamjacclnaaGreatDoor
end
section
namespace Go.Proofs.YtflieamjacclnaaGreatDoor
open Gw Go.RowKit
abbrev T_A10:TypeId:=163
def schL:List ByteArray:=[⟨#[]⟩,⟨#[62,65,62,66,65]⟩,⟨#[62,62,65,62,66,67,62,62,65,66,62,65,67]⟩,⟨#[62,38,65,66,65]⟩,⟨#[62,38,65,66,66]⟩,⟨#[62,65,62,66,38,65,66]⟩,⟨#[62,65,124,65,66]⟩,⟨#[62,66,124,65,66]⟩,⟨#[62,62,65,67,62,62,66,67,62,124,65,66,67]⟩,⟨#[62,48,65]⟩]
theorem ag_A10:AggT PP T_A10 10:=⟨⟨_,Tryz.underlying163,rfl⟩,by kernel_rfl⟩
theorem ar_A10:ArrT PP T_A10 10 T_string 1:=⟨Tryz.underlying163,by kernel_rfl⟩
theorem ze_A10:ZeroT PP T_A10 (List.replicate 10 (.string ByteArray.empty)):=⟨.agg (List.replicate 10 (.string ByteArray.empty)).toArray,by kernel_rfl,by simp [Value.cells]⟩
theorem Gw.St.addO' {A:Nat→Prop} {N:Oth} {w0 w w':World} {L Z:List OA} (h:St A N w0 w L Z) (hc:Ext w w') {e k:Nat} {α:Type} {C:α→List Value} {s:SlV} {l:List α} (ho:Own w' 0 e k s (l.map C)) (hl:l.length ≤ 140737488355328) (hf : ∀ i,s.fp i→w.heap.size ≤ i):St A N w0 w' (oS e k C s l :: L) Z :=
 h.add (b:=oS e k C s l) (G:=s.fp) hc ⟨⟨ho,hl⟩,fun _=>Iff.rfl⟩ hf
theorem does_builds {P:Program} {f:Fr} {w:World} {d:Option Tmp} {ty:TypeId} {pos:String} {af:Array Edge} {gd:Option (Nat × Bool)} {t:Nat} {out:List Value} {parts:Array (Nat × Operand)} {vs:List (Nat × Value)} (hv:parts.toList.map (fun q=>(q.1,evF f q.2))=vs) (hb:P.built t vs=some out.toArray):Does P ⟨d,.build t parts,ty,pos,af,gd⟩ f w (.agg out.toArray) w:=by
 subst hv
 have h:=run_build (P:=P) w t (parts.map fun q=>(q.1,evF f q.2)) out.toArray (by rw [Array.toList_map]; exact hb)
 unfold Does
 show (execOp (evF f) _).run P w=_
 unfold execOp
 simp only [Sem.run_bind,h,Result.andThen_ok,Sem.run_pure]
def hilbert_scheme.f (a0:Int):Option ByteArray:=if (decide (a0 < 0)) || (decide (10 ≤ a0)) then some ⟨#[]⟩ else chk (inb a0 schL.length) (some (at_ ByteArray.empty schL a0))
theorem hilbert_scheme_st {A:Nat→Prop} {N:Oth} {w:World} {a0:Int} (S:St A N w w [] []) {r:ByteArray} (H:hilbert_scheme.f a0=some r) :
  Calls PP zbU #[.int .i64 a0] w fun e w' => ∃ v,e = .returned v∧(v = .string r∧St A N w w' [] []):=by
 unfold hilbert_scheme.f at H
 refine zA (n:=14) fn_hilbert_scheme rfl rfl (by simp) ?_
 refine zd (za ?_)
 refine wd (yQ rfl) ?_
 refine zb ?_
 refine zd (za ?_)
 refine wd (does_builds (out:=schL.map Value.string) rfl (by kernel_rfl)) ?_
 refine xe ze_A10 (by decide) fun b2 w1 hw1=>?_
 replace S:St A N w w1 [oB b2 T_A10 (List.replicate 10 (.string ByteArray.empty))] []:=S.new hw1
 refine zM ag_A10 rfl rfl (S.blk 0) rfl (by decide) (by intro v hv; obtain ⟨x,_,rfl⟩ := List.mem_map.1 hv; rfl) (by rfl) fun w3 B hw3 zw3=>?_
 replace S:St A N w w3 [oB b2 T_A10 (schL.map Value.string)] []:=S.store 0 B hw3
 clear B
 refine zb ?_
 refine zd (zd (za ?_))
 refine wd (zf rfl) ?_
 refine wd (xM rfl rfl) ?_
 refine wd (zE rfl) ?_
 refine zT (j:=2) (pol:=false) rfl rfl rfl (by decide) (fun hg=>zf rfl) (by decide) ?_
 refine zT (j:=2) (pol:=false) rfl rfl rfl (by decide) (fun hg=>vq (zl hg) rfl) (by decide) ?_
 refine wd (xw rfl (fun hp=>(zl (xn hp)))) ?_
 refine zb ?_
 refine zH rfl (fun hc4=>?_) (fun hc4=>?_)
 ·replace H:=if_t hc4 H
  refine zd (za ?_)
  refine wd (yQ rfl) ?_
  refine zb ?_
  refine zx ?_
  refine ⟨_,(zV (zg rfl)),?_⟩
  replace S:St A N w w3 [] []:=S.arr [] []
  obtain rfl:=Option.some.inj H
  exact ⟨rfl,S⟩
 replace H:=if_f hc4 H
 refine zB ?_
 refine zd (za ?_)
 refine wd (zf rfl) ?_
 obtain ⟨hi5,H⟩ := xi H
 have hb:=zC hi5
 refine wd (does_indexArr ar_A10 rfl rfl hb.1 hb.2 (o':=(a0).toNat) (by simp)) ?_
 refine wd (zi xv rfl ((S.blk 0).cell (v := .string (at_ ByteArray.empty schL a0)) (by rw [List.getElem?_map,xj ByteArray.empty hb]; rfl))) ?_
 refine wd (yQ rfl) ?_
 refine zb ?_
 refine zx ?_
 refine ⟨_,(zV (zg rfl)),?_⟩
 replace S:St A N w w3 [] []:=S.arr [] []
 obtain rfl:=Option.some.inj H
 exact ⟨rfl,S⟩
section
variable {A:Nat→Prop} {N:Oth} {w:World}
def slices_Clone_api_Hyp_api_Hyp.f (l:List Hyp):Option (List Hyp):=chk (decide (l.length ≤ 1000000000)) (some l)
theorem kA {l:List Hyp} {s:SlV} (S:St A N w w [] [fS 2 Hyp.C s l]) {r:List Hyp} (H:slices_Clone_api_Hyp_api_Hyp.f l=some r):Calls PP um #[s.v] w fun e w' => ∃ v,e = .returned v ∧ ∃ s':SlV,(v=s'.v∧St A N w w' [oS ym 2 Hyp.C s' r] []):=by
 obtain ⟨hl,H⟩ := xi H
 obtain rfl:=Option.some.inj H
 replace hl:=of_decide_eq_true hl
 refine zA (n:=8) kz rfl rfl (by simp) ?_
 repeat (first | refine zd ?_ | refine za ?_ | refine zQ ?_)
 repeat (first | refine zk (zh rfl) (by decide) ?_ | refine zk (zf rfl) (by decide) ?_ | refine zk (zj rfl) (by decide) ?_ | refine zk (zz rfl) (by decide) ?_ | refine zk (zm rfl) (by decide) ?_ | refine zk (xm) (by decide) ?_)
 refine zb ?_
 repeat (first | refine zd ?_ | refine za ?_ | refine zQ ?_)
 repeat (first | refine zk (zh rfl) (by decide) ?_ | refine zk (zf rfl) (by decide) ?_ | refine zk (zj rfl) (by decide) ?_ | refine zk (zz rfl) (by decide) ?_ | refine zk (zm rfl) (by decide) ?_ | refine zk (xm) (by decide) ?_)
 refine zk (does_isnil ve rfl rfl) (by decide) ?_
 refine zb ?_
 refine zH rfl (fun hc=>?_) (fun hc=>?_)
 ·repeat (first | refine zd ?_ | refine za ?_ | refine zQ ?_)
  repeat (first | refine zk (zh rfl) (by decide) ?_ | refine zk (zf rfl) (by decide) ?_ | refine zk (zj rfl) (by decide) ?_ | refine zk (zz rfl) (by decide) ?_ | refine zk (zm rfl) (by decide) ?_ | refine zk (xm) (by decide) ?_)
  refine zb ?_
  refine zx ?_
  refine ⟨_,(zV (zg rfl)),SlV.nil,rfl,?_⟩
  have hr:=(S.rd 0).sl
  obtain rfl:l=[]:=by
   cases l with
   | nil=>rfl
   | cons a l =>
    have:=(hr.cells 0 (Hyp.C a) rfl).1
    rw [this] at hc; cases hc
  exact (S.zs (Z':=[]) []).nil ym 2 Hyp.C
 ·refine zB ?_
  repeat (first | refine zd ?_ | refine za ?_ | refine zQ ?_)
  refine xK (C:=Hyp.C) (l:=[]) (vs:=[]) ve el_Hyp.zero rfl rfl (by simp) (by decide) rfl (by decide) fun b w1 s1 hB h1=>?_
  replace S:St A N w w1 [oS ym 2 Hyp.C s1 []] [fS 2 Hyp.C s l]:=S.lit hB h1 (by simp)
  repeat (first | refine zk (zh rfl) (by decide) ?_ | refine zk (zf rfl) (by decide) ?_ | refine zk (zj rfl) (by decide) ?_ | refine zk (zz rfl) (by decide) ?_ | refine zk (zm rfl) (by decide) ?_ | refine zk (xm) (by decide) ?_)
  refine wl_appendm (C:=Hyp.C) ve el_Hyp rfl rfl (S.sl 0) (S.rd 0) Hyp.one (by simp; omega) (by simp; omega) (by decide) fun s2 w2 O h2 g2=>?_
  replace S:St A N w w2 [oS ym 2 Hyp.C s2 l] [fS 2 Hyp.C s l]:=S.push 0 (l':=[] ++ l) O (by simp; omega) h2 g2
  refine zk (xD rfl) (by decide) ?_
  refine zb ?_
  refine zx ?_
  exact ⟨_,(zV (zg rfl)),s2,rfl,S.zs (Z':=[]) []⟩
def SlV.clip (s:SlV):SlV:=⟨s.p,s.n,s.n⟩
theorem clip_rd {w:World} {k:Nat} {s:SlV} {rows:List (List Value)} (h:Rd w k s rows):Rd w k (SlV.clip s) rows:=⟨⟨h.sl.len,h.sl.row,h.sl.cells⟩,h.lt,Nat.le_refl _⟩
theorem kN {w:World} {s:SlV} {l:List Hyp} (hr:Rd w 2 s (l.map Hyp.C)):Calls PP ut #[s.v] w fun e w' => ∃ v,e = .returned v∧(v=(SlV.clip s).v∧Ext w w'):=by
 refine zA (n:=9) kT rfl rfl (by simp) ?_
 refine zd (za ?_)
 refine wd xm ?_
 refine zb ?_
 refine zd (za ?_)
 refine wd (zz rfl) ?_
 refine wd (zz rfl) ?_
 refine wd (xa ve rfl hr) ?_
 refine wd (zz rfl) ?_
 refine wd (xa ve rfl hr) ?_
 have hn:s.n=l.length:=by have:=hr.sl.len; simpa using this
 have hc:(l.length:Int) ≤ s.c:=by have:=hr.room; omega
 have e0:((l.length:Nat):Int).toNat=l.length:=by omega
 refine wd (zbl ve rfl (bounds_him (kd := .i64) (kd' := .i64) (i:=(l.length:Int)) (by omega) hc)) ?_
 have es:(⟨if ((l.length:Nat):Int).toNat=0 then s.p else s.p.map (·.add (0 * 2)),((l.length:Nat):Int).toNat - 0,((l.length:Nat):Int).toNat - 0⟩ : SlV)=SlV.clip s:=by
  have hp:s.p.map (·.add (0 * 2))=s.p:=by
   cases s.p with
   | none=>rfl
   | some a=>simp [Addr.add]
  rw [hp,e0,ite_self,Nat.sub_zero,SlV.clip,hn]
 rw [es]
 refine wd (xD rfl) ?_
 refine zb ?_
 refine zx ?_
 exact ⟨_,(zV (zg rfl)),rfl,Ext.refl w⟩
def hilbert_behind_api_Hyp.f (l m:List Hyp):Option (List Hyp):=chk (decide (m ≠ []) && decide ((l.length + m.length) * 24 ≤ 140737488355328)) (some (l ++ m))
theorem zbe {l m:List Hyp} {s s2:SlV} (S:St A N w w [] [fS 2 Hyp.C s l,fS 2 Hyp.C s2 m]) {r:List Hyp} (H:hilbert_behind_api_Hyp.f l m=some r):Calls PP jF #[s.v,s2.v] w fun e w' => ∃ v,e = .returned v ∧ ∃ s':SlV,(v=s'.v∧St A N w w' [oS ym 2 Hyp.C s' r] []):=by
 obtain ⟨hc,H⟩ := xi H
 obtain rfl:=Option.some.inj H
 simp only [Bool.and_eq_true,decide_eq_true_eq] at hc
 obtain ⟨hne,hb⟩ := hc
 refine zA (n:=9) zbf rfl rfl (by simp) ?_
 refine zd (za ?_)
 refine wd xm ?_
 refine zb ?_
 refine zd (za ?_)
 refine wd (zz rfl) ?_
 refine zu (zp kS) (by decide) (kN (S.rd 0)) ?_
 rintro _ w1 ⟨rfl,h1⟩
 replace S:=S.ext h1
 refine wd (zz rfl) ?_
 refine wl_appendC (C:=Hyp.C) (l:=l) (m:=m) ve el_Hyp rfl rfl (clip_rd (S.rd 0)) rfl (S.rd 1) hne hb (by omega) (by decide) fun s' w2 O hx hf=>?_
 replace S:St A N w w2 [oS ym 2 Hyp.C s' (l ++ m)] [fS 2 Hyp.C s l,fS 2 Hyp.C s2 m]:=S.addO' hx O (by rw [List.length_append]; omega) hf
 refine wd (xD rfl) ?_
 refine zb ?_
 refine zx ?_
 exact ⟨_,(zV (zg rfl)),s',rfl,S.zs (Z':=[]) []⟩
end
end Go.Proofs.YtflieamjacclnaaGreatDoor
end
section
namespace Go.Proofs.YtflieamjacclnaaGreatDoor
open Gw
def formula_From.b0 (a0:List Nd) (i5:Int) (x5_0:Tb):Option (Stp Tb (Tb × Int)) :=
 (formula_Table_Put.f x5_0 (at_ Nd.z a0 i5)).bind fun r11=>if (decide (r11.2.2=0)) && (decide (r11.2.1 ≠ i5)) then if decide (31 ≠ 0) then some (.ret (none,31)) else some (.go r11.1) else if decide (r11.2.2 ≠ 0) then some (.ret (none,r11.2.2)) else some (.go r11.1)
def formula_From.f (a0:List Nd):Option (Tb × Int) :=
 (formula_New.f).bind fun r1=>(forN (fun i s=>formula_From.b0 a0 i s) ((a0.length:Int) - 0).toNat 0 r1).bind (aft fun (s5:Tb)=>some (s5,0))
def ref03_Same.b0 (a1:List Nd) (a0:List Nd) (i2:Int):Option (Stp Unit Bool) :=
 chk (inb i2 a1.length) (if !decide (at_ Nd.z a0 i2=at_ Nd.z a1 i2) then some (.ret false) else some (.go ()))
def ref03_Same.f (a0:List Nd) (a1:List Nd):Option Bool :=
 if decide ((a0.length:Int) ≠ (a1.length:Int)) then some false else (forN (fun i s=>ref03_Same.b0 a1 a0 i) ((a0.length:Int) - 0).toNat 0 ()).bind (aft fun (s2:Unit)=>some true)
def ref03_T_Has.f (a0:Tb) (a1:Int):Option Bool :=
 chk a0.isSome (some ((decide (0 ≤ a1)) && (decide (a1 < ((a0.getD []).length:Int)))))
def ref03_T_Find.b0 (a0:Tb) (a1:Nd) (i4:Int):Option (Stp Unit (Int × Bool)) :=
 if decide (at_ Nd.z (a0.getD []) i4=a1) then some (.ret (i4,true)) else some (.go ())
def ref03_T_Find.f (a0:Tb) (a1:Nd):Option (Int × Bool) :=
 chk a0.isSome ((forN (fun i s=>ref03_T_Find.b0 a0 a1 i) (((a0.getD []).length:Int) - 0).toNat 0 ()).bind (aft fun (s4:Unit)=>some (0,false)))
def ref03_T_Put.f (a0:Tb) (a1:Nd):Option (Tb × Int × Int) :=
 (if decide (a1.kind=1) then if (decide (a1.l ≠ 0)) || (decide (a1.r ≠ 0)) then some (.inr (a0,0,31)) else (ref03_Word.f a1.name).bind fun r6=>if !r6 then some (.inr (a0,0,32)) else some (.inl a0) else if decide (a1.kind=2) then if ((decide (a1.name ≠ (⟨#[]⟩ : ByteArray))) || (decide (a1.l ≠ 0))) || (decide (a1.r ≠ 0)) then some (.inr (a0,0,31)) else some (.inl a0) else (if decide (a1.kind=3) then some (decide (a1.kind=3)) else if decide (a1.kind=4) then some (decide (a1.kind=4)) else some (decide (a1.kind=5))).bind fun (o12:Bool)=>if o12 then (if (!(decide (a1.name ≠ (⟨#[]⟩ : ByteArray)))) then ref03_T_Has.f a0 a1.l else some false).bind fun r18=>(if (!((decide (a1.name ≠ (⟨#[]⟩ : ByteArray))) || (!r18))) then ref03_T_Has.f a0 a1.r else some false).bind fun r20=>if ((decide (a1.name ≠ (⟨#[]⟩ : ByteArray))) || (!r18)) || (!r20) then some (.inr (a0,0,31)) else some (.inl a0) else some (.inr (a0,0,31))).bind (aft fun (s3:Tb)=>(ref03_T_Find.f s3 a1).bind fun r25=>if r25.2 then some (s3,r25.1,0) else chk s3.isSome (if decide (1024 ≤ ((s3.getD []).length:Int)) then some ((some (s3.getD [])),0,30) else chk (decide (((s3.getD []).length + 1) * 40 ≤ 140737488355328)) (some ((some ((s3.getD []) ++ [a1])),IntKind.i64.wrap ((((s3.getD []) ++ [a1]).length:Int) - 1),0))))
def ref03_From.b0 (a0:List Nd) (i3:Int) (x3_0:Tb):Option (Stp Tb (Tb × Int)) :=
 (ref03_T_Put.f x3_0 (at_ Nd.z a0 i3)).bind fun r6=>if decide (r6.2.2 ≠ 0) then some (.ret (none,r6.2.2)) else if decide (r6.2.1 ≠ i3) then some (.ret (none,31)) else some (.go r6.1)
def ref03_From.f (a0:List Nd):Option (Tb × Int) :=
 (forN (fun i s=>ref03_From.b0 a0 i s) ((a0.length:Int) - 0).toNat 0 (some [])).bind (aft fun (s3:Tb)=>some (s3,0))
def law03_Like.f (a0:Tb) (a1:Tb):Option Bool :=
 chk a1.isSome ((formula_Table_Rows.f a0).bind fun r13=>(ref03_Same.f r13 (a1.getD [])).bind fun r17=>(if r17 then formula_Table_Len.f a0 else some 0).bind fun r20=>some (r17 && (decide (r20=((a1.getD []).length:Int)))))
def law03_Both.f (a0:List Nd):Option (Tb × Tb × Bool) :=
 chk (decide ((([]:List Nd).length + a0.length) * 40 ≤ 140737488355328)) ((ref03_From.f a0).bind fun r7=>if decide (r7.2 ≠ 0) then some (none,none,false) else (formula_From.f (([]:List Nd) ++ a0)).bind fun r12=>some (r12.1,r7.1,true))
end Go.Proofs.YtflieamjacclnaaGreatDoor
end
section
namespace Go.Proofs.YtflieamjacclnaaGreatDoor
open Gw
def hilbert_pattern_is.g (rec_hilbert_pattern_is:PPattern→Int→ByteArray→Option (PPattern × ByteArray × Bool)) (a0:PPattern) (a1:Int) (a2:ByteArray):Option (PPattern × ByteArray × Bool) :=
 chk (inb 0 a2.size) (chk (decide (0 ≤ (1:Int)∧(1:Int) ≤ (a2.size:Int))) ((formula_Table_Node.f a0.t a1).bind fun r7=>(if decide (sb a2 0=62) then some (.inl (5,a0)) else if decide (sb a2 0=38) then some (.inl (3,a0)) else if decide (sb a2 0=124) then some (.inl (4,a0)) else if decide (sb a2 0=48) then some (.inr (a0,sfrom a2 1,decide (r7.1.kind=2))) else some (.inr ((⟨a0.t,Gw.ins (sb a2 0) a1 a0.seen⟩ : PPattern),sfrom a2 1,(!((Gw.look (sb a2 0) a0.seen).isSome)) || (decide ((Gw.look (sb a2 0) a0.seen).getD 0=a1))))).bind (aft fun (s13:Int × PPattern)=>if decide (r7.1.kind ≠ s13.1) then some (s13.2,(⟨#[]⟩ : ByteArray),false) else (rec_hilbert_pattern_is s13.2 r7.1.l (sfrom a2 1)).bind fun r29=>if !r29.2.2 then some (r29.1,(⟨#[]⟩ : ByteArray),false) else (rec_hilbert_pattern_is r29.1 r7.1.r r29.2.1).bind fun r33=>some (r33.1,r33.2.1,r33.2.2))))
def hilbert_pattern_is.f:Nat→PPattern→Int→ByteArray→Option (PPattern × ByteArray × Bool)
 | 0=>fun _ _ _=>none
 | k + 1=>hilbert_pattern_is.g (hilbert_pattern_is.f k)
def hilbert_fits.f (k:Nat) (a0:Tb) (a1:Int) (a2:Int):Option (Tb × Bool) :=
 (hilbert_scheme.f a1).bind fun r1=>if decide (r1=(⟨#[]⟩ : ByteArray)) then some (a0,false) else (hilbert_pattern_is.f k (⟨a0,([]:List (Int × Int))⟩ : PPattern) a2 r1).bind fun r9=>some (r9.1.t,r9.2.2)
def hilbert_has_1.f (a0:Int) (a1:Int):Option Bool :=
 some ((decide (a0 < 0)) || (decide (a1 ≤ a0)))
def slices_IndexFunc_int_int__hilbert_has_1.b0 (a0:List Int) (a1_0:Int) (i1:Int):Option (Stp Unit Int) :=
 (hilbert_has_1.f (at_ (0:Int) a0 i1) a1_0).bind fun r4=>if r4 then some (.ret i1) else some (.go ())
def slices_IndexFunc_int_int__hilbert_has_1.f (a0:List Int) (a1_0:Int):Option Int :=
 (forN (fun i s=>slices_IndexFunc_int_int__hilbert_has_1.b0 a0 a1_0 i) ((a0.length:Int) - 0).toNat 0 ()).bind (aft fun (s1:Unit)=>some (-1))
def slices_ContainsFunc_int_int__hilbert_has_1.f (a0:List Int) (a1_0:Int):Option Bool :=
 (slices_IndexFunc_int_int__hilbert_has_1.f a0 a1_0).bind fun r1=>some (decide (0 ≤ r1))
def hilbert_has.f (a0:Tb) (a1:List Int):Option Int :=
 (formula_Table_Copy.f a0).bind fun r1=>if r1.isNone then some 1 else (formula_Table_Len.f a0).bind fun r6=>(slices_ContainsFunc_int_int__hilbert_has_1.f a1 r6).bind fun r12=>if r12 then some 31 else some 0
def hilbert_Is.f (k:Nat) (a0:Tb) (a1:Int) (a2:Int):Option (Tb × Bool × Int) :=
 (hilbert_has.f a0 ([a2])).bind fun r4=>if decide (r4 ≠ 0) then some (a0,false,r4) else (hilbert_fits.f k a0 a1 a2).bind fun r8=>some (r8.1,r8.2,0)
end Go.Proofs.YtflieamjacclnaaGreatDoor
end
section
namespace Go.Proofs.YtflieamjacclnaaGreatDoor
open Gw
def hilbert_right.f (k:Nat) (a0:Tb) (a1:List (Int × Int)) (a2:List Ln) (a3:Int):Option (Tb × Bool) :=
 chk (inb a3 a2.length) (if decide ((at_ Ln.z a2 a3).kind ≠ 11) then (if (!((decide ((at_ Ln.z a2 a3).kind=10)) && (decide (0 < (Gw.look ((at_ Ln.z a2 a3).form) a1).getD 0)))) then hilbert_fits.f k a0 ((at_ Ln.z a2 a3).kind) ((at_ Ln.z a2 a3).form) else some (a0,false)).bind fun r6=>some (r6.1,((decide ((at_ Ln.z a2 a3).a=0)) && (decide ((at_ Ln.z a2 a3).b=0))) && (((decide ((at_ Ln.z a2 a3).kind=10)) && (decide (0 < (Gw.look ((at_ Ln.z a2 a3).form) a1).getD 0))) || r6.2)) else if (decide ((if (at_ Ln.z a2 a3).b < (at_ Ln.z a2 a3).a then (at_ Ln.z a2 a3).b else (at_ Ln.z a2 a3).a) < 0)) || (decide (a3 ≤ (if (at_ Ln.z a2 a3).a < (at_ Ln.z a2 a3).b then (at_ Ln.z a2 a3).b else (at_ Ln.z a2 a3).a))) then some (a0,false) else chk (inb ((at_ Ln.z a2 a3).a) a2.length) ((formula_Table_Node.f a0 ((at_ Ln.z a2 ((at_ Ln.z a2 a3).a)).form)).bind fun r11=>chk (inb ((at_ Ln.z a2 a3).b) a2.length) (some (a0,decide (r11.1={ Nd.z with kind:=5,l:=(at_ Ln.z a2 ((at_ Ln.z a2 a3).b)).form,r:=(at_ Ln.z a2 a3).form })))))
def hilbert_Check.b0 (a0:Tb) (a2:List Ln) (i5:Int):Option (Stp Unit (Tb × Int)) :=
 (hilbert_has.f a0 ([(at_ Ln.z a2 i5).form])).bind fun r14=>if decide (r14 ≠ 0) then some (.ret (a0,r14)) else some (.go ())
def hilbert_Check.b1 (a1:List Int) (i22:Int) (x22_0:List (Int × Int)):Option (List (Int × Int)) :=
 some (Gw.ins (at_ (0:Int) a1 i22) (IntKind.i64.wrap (((Gw.look (at_ (0:Int) a1 i22) x22_0).getD 0) + 1)) x22_0)
def hilbert_Check.b2 (k:Nat) (o22:(List (Int × Int))) (a2:List Ln) (i28:Int) (x28_0:Tb):Option (Stp Tb (Tb × Int)) :=
 (hilbert_right.f k x28_0 o22 a2 i28).bind fun r30=>if !r30.2 then some (.ret (r30.1,160)) else some (.go r30.1)
def hilbert_Check.f (k:Nat) (a0:Tb) (a1:List Int) (a2:List Ln):Option (Tb × Int) :=
 (hilbert_has.f a0 a1).bind fun r1=>if decide (r1 ≠ 0) then some (a0,r1) else (forN (fun i s=>hilbert_Check.b0 a0 a2 i) ((a2.length:Int) - 0).toNat 0 ()).bind (aft fun (s5:Unit)=>(forS (fun i s=>hilbert_Check.b1 a1 i s) ((a1.length:Int) - 0).toNat 0 ([]:List (Int × Int))).bind fun (o22:(List (Int × Int)))=>(forN (fun i s=>hilbert_Check.b2 k o22 a2 i s) ((a2.length:Int) - 0).toNat 0 a0).bind (aft fun (s28:Tb)=>if decide ((a2.length:Int)=0) then some (s28,160) else some (s28,0)))
def hilbert_Tells.f (k:Nat) (a0:Tb) (a1:List Int) (a2:List Ln):Option (Tb × Int × Int) :=
 (hilbert_Check.f k a0 a1 a2).bind fun r1=>if decide (r1.2 ≠ 0) then some (r1.1,0,r1.2) else chk (inb (IntKind.i64.wrap ((a2.length:Int) - 1)) a2.length) (some (r1.1,(at_ Ln.z a2 (IntKind.i64.wrap ((a2.length:Int) - 1))).form,0))
def hilbert_maker_form.f (a0:PMaker) (a1:Int) (a2:Int) (a3:Int):Option (PMaker × Int) :=
 if decide (a0.bad ≠ 0) then some (a0,0) else (formula_Table_Put.f a0.t ({ Nd.z with kind:=a1,l:=a2,r:=a3 })).bind fun r8=>some ((⟨r8.1,a0.l,r8.2.2⟩ : PMaker),r8.2.1)
def hilbert_maker_imp.f (a0:PMaker) (a1:Int) (a2:Int):Option (PMaker × Int) :=
 (hilbert_maker_form.f a0 5 a1 a2).bind fun r1=>some (r1.1,r1.2)
def hilbert_maker_line.f (a0:PMaker) (a1:Ln):Option (PMaker × Int) :=
 (if (decide (a0.bad=0)) && (decide ((a0.l.length:Int)=4096)) then some ((⟨a0.t,a0.l,150⟩ : PMaker)) else some (a0)).bind fun (o6:PMaker)=>if decide (o6.bad=0) then chk (decide ((o6.l.length + 1) * 32 ≤ 140737488355328)) (some ((⟨o6.t,o6.l ++ [a1],o6.bad⟩ : PMaker),IntKind.i64.wrap (((o6.l ++ [a1]).length:Int) - 1))) else some (o6,IntKind.i64.wrap ((o6.l.length:Int) - 1))
def hilbert_maker_mp.f (a0:PMaker) (a1:Int) (a2:Int):Option (PMaker × Int) :=
 if decide (a0.bad ≠ 0) then some (a0,0) else chk (inb a1 a0.l.length) ((formula_Table_Node.f a0.t ((at_ Ln.z a0.l a1).form)).bind fun r9=>(hilbert_maker_line.f a0 (⟨11,r9.1.r,a1,a2⟩ : Ln)).bind fun r13=>some (r13.1,r13.2))
def hilbert_maker_axiom.f (a0:PMaker) (a1:Int) (a2:Int):Option (PMaker × Int) :=
 (hilbert_maker_line.f a0 ({ Ln.z with kind:=a1,form:=a2 })).bind fun r1=>some (r1.1,r1.2)
def hilbert_maker_k.f (a0:PMaker) (a1:Int) (a2:Int):Option (PMaker × Int) :=
 (hilbert_maker_imp.f a0 a2 a1).bind fun r1=>(hilbert_maker_imp.f r1.1 a1 r1.2).bind fun r4=>(hilbert_maker_axiom.f r4.1 1 r4.2).bind fun r7=>some (r7.1,r7.2)
def hilbert_maker_s.f (a0:PMaker) (a1:Int) (a2:Int) (a3:Int):Option (PMaker × Int) :=
 (hilbert_maker_imp.f a0 a2 a3).bind fun r1=>(hilbert_maker_imp.f r1.1 a1 r1.2).bind fun r4=>(hilbert_maker_imp.f r4.1 a1 a2).bind fun r7=>(hilbert_maker_imp.f r7.1 a1 a3).bind fun r10=>(hilbert_maker_imp.f r10.1 r7.2 r10.2).bind fun r13=>(hilbert_maker_imp.f r13.1 r4.2 r13.2).bind fun r16=>(hilbert_maker_axiom.f r16.1 2 r16.2).bind fun r19=>some (r19.1,r19.2)
def hilbert_deduce.b0 (a1:List Ln) (a2:Int) (i7:Int) (x7_0:List Int) (x7_1:PMaker):Option (Stp (List Int × PMaker) (Tb × List Ln × Int)) :=
 if decide (x7_1.bad ≠ 0) then some (.ret (x7_1.t,([]:List Ln),x7_1.bad)) else if decide ((at_ Ln.z a1 i7).form=a2) then (hilbert_maker_imp.f x7_1 a2 a2).bind fun r25=>(hilbert_maker_s.f r25.1 a2 r25.2 a2).bind fun r28=>(hilbert_maker_k.f r28.1 a2 r25.2).bind fun r31=>(hilbert_maker_mp.f r31.1 r28.2 r31.2).bind fun r34=>(hilbert_maker_k.f r34.1 a2 a2).bind fun r37=>(hilbert_maker_mp.f r37.1 r34.2 r37.2).bind fun r40=>chk (inb i7 x7_0.length) (some (.go (x7_0.set (i7).toNat r40.2,r40.1))) else if decide ((at_ Ln.z a1 i7).kind=11) then chk (inb ((at_ Ln.z a1 i7).b) a1.length) ((hilbert_maker_s.f x7_1 a2 ((at_ Ln.z a1 ((at_ Ln.z a1 i7).b)).form) ((at_ Ln.z a1 i7).form)).bind fun r48=>chk (inb ((at_ Ln.z a1 i7).a) x7_0.length) ((hilbert_maker_mp.f r48.1 r48.2 (at_ (0:Int) x7_0 ((at_ Ln.z a1 i7).a))).bind fun r52=>chk (inb ((at_ Ln.z a1 i7).b) x7_0.length) ((hilbert_maker_mp.f r52.1 r52.2 (at_ (0:Int) x7_0 ((at_ Ln.z a1 i7).b))).bind fun r56=>chk (inb i7 x7_0.length) (some (.go (x7_0.set (i7).toNat r56.2,r56.1)))))) else (hilbert_maker_line.f x7_1 (at_ Ln.z a1 i7)).bind fun r72=>(hilbert_maker_k.f r72.1 ((at_ Ln.z a1 i7).form) a2).bind fun r75=>(hilbert_maker_mp.f r75.1 r75.2 r72.2).bind fun r78=>chk (inb i7 x7_0.length) (some (.go (x7_0.set (i7).toNat r78.2,r78.1)))
def hilbert_deduce.f (a0:Tb) (a1:List Ln) (a2:Int):Option (Tb × List Ln × Int) :=
 chk (decide (0 ≤ (a1.length:Int)∧((a1.length:Int)).toNat ≤ 16777216)) ((forN (fun i s=>hilbert_deduce.b0 a1 a2 i s.1 s.2) ((a1.length:Int) - 0).toNat 0 (List.replicate ((a1.length:Int)).toNat (0:Int),(⟨a0,([]:List Ln),0⟩ : PMaker))).bind (aft fun (s7:List Int × PMaker)=>some (s7.2.t,s7.2.l,s7.2.bad)))
def hilbert_kept.f (a0:Tb) (a1:Int) (a2:List Ln) (a3:Int):Option (Tb × List Ln × Int) :=
 if decide (a3 ≠ 0) then (formula_Table_Cut.f a0 a1).bind fun r2=>some (r2.1,([]:List Ln),a3) else some (a0,a2,0)
def hilbert_Deduce.f (k:Nat) (a0:Tb) (a1:List Int) (a2:List Ln) (a3:Int):Option (Tb × List Ln × Int) :=
 (hilbert_has.f a0 ([a3])).bind fun r4=>if decide (r4 ≠ 0) then some (a0,([]:List Ln),r4) else (hilbert_Check.f k a0 a1 a2).bind fun r8=>if decide (r8.2 ≠ 0) then some (r8.1,([]:List Ln),r8.2) else (formula_Table_Len.f r8.1).bind fun r12=>(hilbert_deduce.f r8.1 a2 a3).bind fun r15=>(hilbert_kept.f r15.1 r12 r15.2.1 r15.2.2).bind fun r19=>some (r19.1,r19.2.1,r19.2.2)
end Go.Proofs.YtflieamjacclnaaGreatDoor
end
section
namespace Go.Proofs.YtflieamjacclnaaGreatDoor
open Gw
def term_shape.f (a0:Int):Option (Int × Bool × Bool × Bool) :=
 if decide (a0=1) then some (0,true,false,true) else if decide (a0=2) then some (1,true,false,true) else if decide (a0=12) then some (2,true,false,true) else if decide (a0=9) then some (3,true,true,true) else (if decide (a0=5) then some (decide (a0=5)) else if decide (a0=6) then some (decide (a0=6)) else if decide (a0=7) then some (decide (a0=7)) else if decide (a0=8) then some (decide (a0=8)) else if decide (a0=10) then some (decide (a0=10)) else some (decide (a0=11))).bind fun (o5:Bool)=>if o5 then some (1,false,false,true) else if decide (a0=3) then if decide (a0=3) then some (2,false,false,true) else some (0,false,false,false) else if decide (a0=4) then some (2,false,false,true) else some (0,false,false,false)
def term_named.f (a0:ByteArray) (a1:Bool):Option Bool :=
 if !a1 then some (decide (a0=(⟨#[]⟩ : ByteArray))) else (formula_Word.f a0).bind fun r2=>some r2
def term_deep.b0 (a0:PTerm) (a1:Int) (rec_term_deep:PTerm→Int→Option Int) (x4_0:Int) (x4_1:Int):Option (Stp (Int × Int) Int) :=
 if (decide (x4_1 < (a0.sub.length:Int))) && (decide (x4_0 < IntKind.i64.wrap (a1 - 1))) then chk (inb x4_1 a0.sub.length) ((rec_term_deep (at_ PTerm.z a0.sub x4_1) (IntKind.i64.wrap (a1 - 1))).bind fun r9=>some (.go ((if x4_0 < r9 then r9 else x4_0),IntKind.i64.wrap (x4_1 + 1)))) else some (.brk (x4_0,x4_1))
def term_deep.g (rec_term_deep:PTerm→Int→Option Int) (k:Nat) (a0:PTerm) (a1:Int):Option Int :=
 if decide (a1 ≤ 1) then some a1 else (iter (fun s=>term_deep.b0 a0 a1 rec_term_deep s.1 s.2) k (0,0)).bind (aft fun (s4:Int × Int)=>some (IntKind.i64.wrap (s4.1 + 1)))
def term_deep.f:Nat→PTerm→Int→Option Int
 | 0=>fun _ _=>none
 | k + 1=>term_deep.g (term_deep.f k) k
def term_Deep.f (k:Nat) (a0:PTerm):Option Int :=
 (term_deep.f k a0 1025).bind fun r3=>some r3
end Go.Proofs.YtflieamjacclnaaGreatDoor
end
section
namespace Go.Proofs.YtflieamjacclnaaGreatDoor
open Gw
def term_right_1.g (rec_term_right:PTerm→Option Bool) (a0:PTerm):Option Bool :=
 (rec_term_right a0).bind fun r3=>some (!r3)
def slices_IndexFunc_api_Term_api_Term__term_right_1.b0 (rec_term_right:PTerm→Option Bool) (a0:List PTerm) (i1:Int):Option (Stp Unit Int) :=
 (term_right_1.g rec_term_right (at_ PTerm.z a0 i1)).bind fun r6=>if r6 then some (.ret i1) else some (.go ())
def slices_IndexFunc_api_Term_api_Term__term_right_1.g (rec_term_right:PTerm→Option Bool) (a0:List PTerm):Option Int :=
 (forN (fun i s=>slices_IndexFunc_api_Term_api_Term__term_right_1.b0 rec_term_right a0 i) ((a0.length:Int) - 0).toNat 0 ()).bind (aft fun (s1:Unit)=>some (-1))
def slices_ContainsFunc_api_Term_api_Term__term_right_1.g (rec_term_right:PTerm→Option Bool) (a0:List PTerm):Option Bool :=
 (slices_IndexFunc_api_Term_api_Term__term_right_1.g rec_term_right a0).bind fun r1=>some (decide (0 ≤ r1))
def term_right.g (rec_term_right:PTerm→Option Bool) (a0:PTerm):Option Bool :=
 (term_shape.f a0.kind).bind fun r3=>(if (!((!r3.2.2.2) || (decide ((a0.sub.length:Int) ≠ r3.1)))) then term_named.f a0.name r3.2.1 else some false).bind fun r6=>(if (!(((!r3.2.2.2) || (decide ((a0.sub.length:Int) ≠ r3.1))) || (!r6))) then term_named.f a0.other r3.2.2.1 else some false).bind fun r8=>if (((!r3.2.2.2) || (decide ((a0.sub.length:Int) ≠ r3.1))) || (!r6)) || (!r8) then some false else if (((decide (a0.kind ≠ 11)) && (decide (a0.form ≠ 0))) || (decide (a0.form < 0))) || (decide (1024 ≤ a0.form)) then some false else (slices_ContainsFunc_api_Term_api_Term__term_right_1.g rec_term_right a0.sub).bind fun r12=>some (!r12)
def term_right.f:Nat→PTerm→Option Bool
 | 0=>fun _=>none
 | k + 1=>term_right.g (term_right.f k)
def term_Check.f (k:Nat) (a0:PTerm):Option Int :=
 (term_Size.f a0).bind fun r3=>(if (!(decide (65536 < r3))) then term_Deep.f k a0 else some 0).bind fun r6=>if (decide (65536 < r3)) || (decide (1024 < r6)) then some 121 else (term_right.f k a0).bind fun r9=>if !r9 then some 120 else some 0
end Go.Proofs.YtflieamjacclnaaGreatDoor
end
section
namespace Go.Proofs.YtflieamjacclnaaGreatDoor
open Gw
def types_at.f (a0:Int) (a1:Option (Int × List Int)):Option (Option (Int × List Int)) :=
 match a1 with
 | none=>some none
 | some (c0,up0)=>chk (decide ((up0.length + 1) * 8 ≤ 140737488355328)) (some (some (c0,up0 ++ [a0])))
def types_code.f (a0:Option (Int × List Int)):Option (List Int × Int) :=
 match a0 with
 | none=>some (([]:List Int),0)
 | some (c0,up0)=>(slices_Reverse_int_int.f up0).bind fun r9=>some (r9,c0)
end Go.Proofs.YtflieamjacclnaaGreatDoor
end
section
namespace Go.Proofs.YtflieamjacclnaaGreatDoor
open Gw
def types_checker_node.f (a0:PChecker) (a1:Int) (a2:Int):Option (Nd × (Option (Int × List Int))) :=
 (formula_Table_Node.f a0.t a1).bind fun r5=>if decide (r5.1.kind ≠ a2) then some (r5.1,(some (130,([]:List Int)))) else some (r5.1,none)
def types_checker_part.g (rec_types_checker_told:PChecker→PTerm→(List (ByteArray × Int))→Option (Int × (Option (Int × List Int)))) (a0:PChecker) (a1:PTerm) (a2:Int) (a3:List (ByteArray × Int)):Option (Int × (Option (Int × List Int))) :=
 chk (inb a2 a1.sub.length) ((rec_types_checker_told a0 (at_ PTerm.z a1.sub a2) a3).bind fun r16=>(types_at.f a2 r16.2).bind fun r22=>some (r16.1,r22))
def types_checker_check.g (rec_types_checker_checked:PChecker→PTerm→(List (ByteArray × Int))→Int→Option (Option (Int × List Int))) (a0:PChecker) (a1:PTerm) (a2:Int) (a3:List (ByteArray × Int)) (a4:Int):Option (Option (Int × List Int)) :=
 chk (inb a2 a1.sub.length) ((rec_types_checker_checked a0 (at_ PTerm.z a1.sub a2) a3 a4).bind fun r8=>(types_at.f a2 r8).bind fun r12=>some r12)
def types_checker_head.g (rec_types_checker_told:PChecker→PTerm→(List (ByteArray × Int))→Option (Int × (Option (Int × List Int)))) (a0:PChecker) (a1:PTerm) (a2:List (ByteArray × Int)) (a3:Int):Option (Nd × (Option (Int × List Int))) :=
 (types_checker_part.g rec_types_checker_told a0 a1 0 a2).bind fun r7=>if r7.2.isSome then some (Nd.z,r7.2) else (types_checker_node.f a0 r7.1 a3).bind fun r13=>some (r13.1,r13.2)
def types_checker_told.g (rec_types_checker_told:PChecker→PTerm→(List (ByteArray × Int))→Option (Int × (Option (Int × List Int)))) (rec_types_checker_checked:PChecker→PTerm→(List (ByteArray × Int))→Int→Option (Option (Int × List Int))) (a0:PChecker) (a1:PTerm) (a2:List (ByteArray × Int)):Option (Int × (Option (Int × List Int))) :=
 if decide (a1.kind=1) then (types_scope_find.f a2 a1.name).bind fun r6=>some (r6.1,r6.2) else if decide (a1.kind=3) then (types_checker_head.g rec_types_checker_told a0 a1 a2 5).bind fun r11=>if r11.2.isSome then some (0,r11.2) else (types_checker_check.g rec_types_checker_checked a0 a1 1 a2 r11.1.l).bind fun r19=>some (r11.1.r,r19) else if decide (a1.kind=5) then (types_checker_head.g rec_types_checker_told a0 a1 a2 3).bind fun r24=>some (r24.1.l,r24.2) else if decide (a1.kind=6) then (types_checker_head.g rec_types_checker_told a0 a1 a2 3).bind fun r32=>some (r32.1.r,r32.2) else if decide (a1.kind=11) then (formula_Table_Node.f a0.t a1.form).bind fun r40=>if !r40.2 then some (0,(some (31,([]:List Int)))) else (types_checker_check.g rec_types_checker_checked a0 a1 0 a2 a1.form).bind fun r49=>some (a1.form,r49) else if decide (a1.kind=12) then (types_checker_part.g rec_types_checker_told a0 a1 0 a2).bind fun r54=>if r54.2.isSome then some (0,r54.2) else (types_checker_part.g rec_types_checker_told a0 a1 1 ((a1.name,r54.1) :: a2)).bind fun r66=>some (r66.1,r66.2) else if decide (a1.kind=9) then (types_checker_head.g rec_types_checker_told a0 a1 a2 4).bind fun r73=>if r73.2.isSome then some (0,r73.2) else (types_checker_part.g rec_types_checker_told a0 a1 1 ((a1.name,r73.1.l) :: a2)).bind fun r88=>if r88.2.isSome then some (0,r88.2) else (types_checker_part.g rec_types_checker_told a0 a1 2 ((a1.other,r73.1.r) :: a2)).bind fun r102=>if r102.2.isNone && (decide (r102.1 ≠ r88.1)) then some (r88.1,(some (130,([]:List Int)))) else some (r88.1,r102.2) else some (0,(some (132,([]:List Int))))
def types_checker_checked.g (rec_types_checker_told:PChecker→PTerm→(List (ByteArray × Int))→Option (Int × (Option (Int × List Int)))) (rec_types_checker_checked:PChecker→PTerm→(List (ByteArray × Int))→Int→Option (Option (Int × List Int))) (a0:PChecker) (a1:PTerm) (a2:List (ByteArray × Int)) (a3:Int):Option (Option (Int × List Int)) :=
 if decide (a1.kind=2) then (types_checker_node.f a0 a3 5).bind fun r6=>if r6.2.isSome then some r6.2 else (types_checker_check.g rec_types_checker_checked a0 a1 0 ((a1.name,r6.1.l) :: a2) r6.1.r).bind fun r17=>some r17 else if decide (a1.kind=4) then (types_checker_node.f a0 a3 3).bind fun r22=>if r22.2.isSome then some r22.2 else (types_checker_check.g rec_types_checker_checked a0 a1 0 a2 r22.1.l).bind fun r30=>if r30.isSome then some r30 else (types_checker_check.g rec_types_checker_checked a0 a1 1 a2 r22.1.r).bind fun r35=>some r35 else (if decide (a1.kind=7) then some (decide (a1.kind=7)) else some (decide (a1.kind=8))).bind fun (o39:Bool)=>if o39 then (types_checker_node.f a0 a3 4).bind fun r44=>if r44.2.isSome then some r44.2 else if decide (a1.kind=7) then (types_checker_check.g rec_types_checker_checked a0 a1 0 a2 r44.1.l).bind fun r53=>some r53 else (types_checker_check.g rec_types_checker_checked a0 a1 0 a2 r44.1.r).bind fun r57=>some r57 else if decide (a1.kind=9) then (types_checker_head.g rec_types_checker_told a0 a1 a2 4).bind fun r62=>if r62.2.isSome then some r62.2 else (types_checker_check.g rec_types_checker_checked a0 a1 1 ((a1.name,r62.1.l) :: a2) a3).bind fun r73=>if r73.isSome then some r73 else (types_checker_check.g rec_types_checker_checked a0 a1 2 ((a1.other,r62.1.r) :: a2) a3).bind fun r81=>some r81 else if decide (a1.kind=10) then (types_checker_head.g rec_types_checker_told a0 a1 a2 2).bind fun r86=>some r86.2 else if decide (a1.kind=12) then (types_checker_part.g rec_types_checker_told a0 a1 0 a2).bind fun r94=>if r94.2.isSome then some r94.2 else (types_checker_check.g rec_types_checker_checked a0 a1 1 ((a1.name,r94.1) :: a2) a3).bind fun r102=>some r102 else (rec_types_checker_told a0 a1 a2).bind fun r106=>if r106.2.isNone && (decide (r106.1 ≠ a3)) then some (some (130,([]:List Int))) else some r106.2
def types_tc.p:Nat→(PChecker→PTerm→(List (ByteArray × Int))→Option (Int × (Option (Int × List Int)))) × (PChecker→PTerm→(List (ByteArray × Int))→Int→Option (Option (Int × List Int)))
 | 0=>(fun _ _ _=>none,fun _ _ _ _=>none)
 | k + 1=>(types_checker_told.g (types_tc.p k).1 (types_tc.p k).2,types_checker_checked.g (types_tc.p k).1 (types_tc.p k).2)
def types_checker_told.f (k:Nat):PChecker→PTerm→(List (ByteArray × Int))→Option (Int × (Option (Int × List Int))):=(types_tc.p k).1
def types_checker_checked.f (k:Nat):PChecker→PTerm→(List (ByteArray × Int))→Int→Option (Option (Int × List Int)):=(types_tc.p k).2
def types_ahead.b0 (a1:List Hyp) (i7:Int) (x7_0:List Int) (x7_1:List (ByteArray × Int)):Option (List Int × (List (ByteArray × Int))) :=
 chk (decide ((x7_0.length + ([(at_ Hyp.z a1 i7).form]).length) * 8 ≤ 140737488355328)) ((types_scope_with.f x7_1 ((at_ Hyp.z a1 i7).name) ((at_ Hyp.z a1 i7).form)).bind fun r25=>some (x7_0 ++ [(at_ Hyp.z a1 i7).form],r25))
def types_ahead.b1 (a0:Tb) (o7:List Int × (List (ByteArray × Int))) (i31:Int):Option (Stp Unit ((List (ByteArray × Int)) × Int)) :=
 (formula_Table_Node.f a0 (at_ (0:Int) o7.1 i31)).bind fun r34=>if !r34.2 then some (.ret (([]:List (ByteArray × Int)),31)) else some (.go ())
def types_ahead.f (k:Nat) (a0:Tb) (a1:List Hyp) (a2:PTerm) (a3:List Int):Option ((List (ByteArray × Int)) × Int) :=
 (formula_Table_Not_neg.f a0 (-1)).bind fun r3=>if decide (r3.2=1) then some (([]:List (ByteArray × Int)),r3.2) else (forS (fun i s=>types_ahead.b0 a1 i s.1 s.2) ((a1.length:Int) - 0).toNat 0 (a3,([]:List (ByteArray × Int)))).bind fun (o7:List Int × (List (ByteArray × Int)))=>(forN (fun i s=>types_ahead.b1 a0 o7 i) ((o7.1.length:Int) - 0).toNat 0 ()).bind (aft fun (s31:Unit)=>(term_Check.f k a2).bind fun r43=>some (o7.2,r43))
def types_Where.f (k:Nat) (a0:Tb) (a1:List Hyp) (a2:PTerm) (a3:Int):Option (List Int × Int) :=
 (types_ahead.f k a0 a1 a2 ([a3])).bind fun r6=>if decide (r6.2 ≠ 0) then some (([]:List Int),r6.2) else (types_checker_checked.f k (⟨a0⟩ : PChecker) a2 r6.1 a3).bind fun r11=>(types_code.f r11).bind fun r15=>some (r15.1,r15.2)
def types_Check.f (k:Nat) (a0:Tb) (a1:List Hyp) (a2:PTerm) (a3:Int):Option Int :=
 (types_Where.f k a0 a1 a2 a3).bind fun r3=>some r3.2
def types_Infer.f (k:Nat) (a0:Tb) (a1:List Hyp) (a2:PTerm):Option (Int × Int) :=
 (types_ahead.f k a0 a1 a2 ([]:List Int)).bind fun r3=>if decide (r3.2 ≠ 0) then some (0,r3.2) else (types_checker_told.f k (⟨a0⟩ : PChecker) a2 r3.1).bind fun r8=>(types_code.f r8.2).bind fun r12=>if decide (r12.2 ≠ 0) then some (0,r12.2) else some (r8.1,0)
end Go.Proofs.YtflieamjacclnaaGreatDoor
end
section
namespace Go.Proofs.YtflieamjacclnaaGreatDoor
open Gw
def hilbert_scope_with.f (a0:List Hyp) (a1:ByteArray) (a2:Int):Option (List Hyp) :=
 (hilbert_behind_api_Hyp.f a0 ([(⟨a1,a2⟩ : Hyp)])).bind fun r4=>some r4
def hilbert_maker_add.b0 (a1:List Ln) (o4:PMaker) (i15:Int) (x15_0:PMaker):Option (Stp PMaker (PMaker × Int)) :=
 if decide (x15_0.bad ≠ 0) then some (.brk x15_0) else if decide ((at_ Ln.z a1 i15).kind=11) then (hilbert_maker_line.f x15_0 ({ { at_ Ln.z a1 i15 with a:=IntKind.i64.wrap (((at_ Ln.z a1 i15).a) + (o4.l.length:Int)) } with b:=IntKind.i64.wrap (((at_ Ln.z a1 i15).b) + (o4.l.length:Int)) })).bind fun r28=>some (.go r28.1) else (hilbert_maker_line.f x15_0 (at_ Ln.z a1 i15)).bind fun r31=>some (.go r31.1)
def hilbert_maker_add.f (a0:PMaker) (a1:List Ln) (a2:Int):Option (PMaker × Int) :=
 (if decide (a0.bad=0) then some ((⟨a0.t,a0.l,a2⟩ : PMaker)) else some (a0)).bind fun (o4:PMaker)=>(forN (fun i s=>hilbert_maker_add.b0 a1 o4 i s) ((a1.length:Int) - 0).toNat 0 o4).bind (aft fun (s15:PMaker)=>some (s15,IntKind.i64.wrap ((s15.l.length:Int) - 1)))
def hilbert_maker_part.g (rec_hilbert_compile:Tb→List Hyp→PTerm→Int→Option (Tb × List Ln × Int)) (a0:PMaker) (a1:List Hyp) (a2:PTerm) (a3:Int):Option (PMaker × Int) :=
 if decide (a0.bad ≠ 0) then some (a0,0) else (rec_hilbert_compile a0.t a1 a2 a3).bind fun r10=>(hilbert_maker_add.f (⟨r10.1,a0.l,a0.bad⟩ : PMaker) r10.2.1 r10.2.2).bind fun r19=>some (r19.1,r19.2)
def hilbert_maker_under.g (rec_hilbert_compile:Tb→List Hyp→PTerm→Int→Option (Tb × List Ln × Int)) (a0:PMaker) (a1:List Hyp) (a2:ByteArray) (a3:Int) (a4:PTerm) (a5:Int):Option (PMaker × Int) :=
 if decide (a0.bad ≠ 0) then some (a0,0) else (hilbert_scope_with.f a1 a2 a3).bind fun r10=>(rec_hilbert_compile a0.t r10 a4 a5).bind fun r14=>if decide (r14.2.2=0) then (hilbert_deduce.f r14.1 r14.2.1 a3).bind fun r30=>(hilbert_maker_add.f (⟨r30.1,a0.l,a0.bad⟩ : PMaker) r30.2.1 r30.2.2).bind fun r34=>some (r34.1,r34.2) else (hilbert_maker_add.f (⟨r14.1,a0.l,a0.bad⟩ : PMaker) r14.2.1 r14.2.2).bind fun r37=>some (r37.1,r37.2)
def hilbert_maker_told.g (rec_hilbert_compile:Tb→List Hyp→PTerm→Int→Option (Tb × List Ln × Int)) (k:Nat) (a0:PMaker) (a1:List Hyp) (a2:PTerm):Option (PMaker × Int × Int) :=
 if decide (a0.bad ≠ 0) then some (a0,0,0) else (types_Infer.f k a0.t a1 a2).bind fun r10=>(hilbert_maker_part.g rec_hilbert_compile a0 a1 a2 r10.1).bind fun r12=>some (r12.1,r10.1,r12.2)
def hilbert_maker_node.f (a0:PMaker) (a1:Int):Option (PMaker × Nd) :=
 (formula_Table_Node.f a0.t a1).bind fun r6=>some (a0,r6.1)
def hilbert_maker_unary.g (rec_hilbert_compile:Tb→List Hyp→PTerm→Int→Option (Tb × List Ln × Int)) (k:Nat) (a0:PMaker) (a1:List Hyp) (a2:PTerm) (a3:Int) (a4:Int):Option PMaker :=
 chk (inb 0 a2.sub.length) ((hilbert_maker_told.g rec_hilbert_compile k a0 a1 (at_ PTerm.z a2.sub 0)).bind fun r6=>(hilbert_maker_imp.f r6.1 r6.2.1 a3).bind fun r9=>(hilbert_maker_axiom.f r9.1 a4 r9.2).bind fun r12=>(hilbert_maker_mp.f r12.1 r12.2 r6.2.2).bind fun r15=>some r15.1)
def hilbert_compile.g (rec_hilbert_compile:Tb→List Hyp→PTerm→Int→Option (Tb × List Ln × Int)) (k:Nat) (a0:Tb) (a1:List Hyp) (a2:PTerm) (a3:Int):Option (Tb × List Ln × Int) :=
 (hilbert_maker_node.f (⟨a0,([]:List Ln),0⟩ : PMaker) a3).bind fun r5=>(if decide (a2.kind=1) then (hilbert_maker_axiom.f r5.1 10 a3).bind fun r13=>some (r13.1) else if decide (a2.kind=11) then chk (inb 0 a2.sub.length) ((hilbert_maker_part.g rec_hilbert_compile r5.1 a1 (at_ PTerm.z a2.sub 0) a3).bind fun r20=>some (r20.1)) else if decide (a2.kind=2) then chk (inb 0 a2.sub.length) ((hilbert_maker_under.g rec_hilbert_compile r5.1 a1 a2.name r5.2.l (at_ PTerm.z a2.sub 0) r5.2.r).bind fun r28=>some (r28.1)) else if decide (a2.kind=3) then chk (inb 0 a2.sub.length) ((hilbert_maker_told.g rec_hilbert_compile k r5.1 a1 (at_ PTerm.z a2.sub 0)).bind fun r35=>chk (inb 1 a2.sub.length) ((hilbert_maker_node.f r35.1 r35.2.1).bind fun r40=>(hilbert_maker_part.g rec_hilbert_compile r40.1 a1 (at_ PTerm.z a2.sub 1) r40.2.l).bind fun r50=>(hilbert_maker_mp.f r50.1 r35.2.2 r50.2).bind fun r53=>some (r53.1))) else if decide (a2.kind=4) then chk (inb 0 a2.sub.length) ((hilbert_maker_part.g rec_hilbert_compile r5.1 a1 (at_ PTerm.z a2.sub 0) r5.2.l).bind fun r61=>chk (inb 1 a2.sub.length) ((hilbert_maker_part.g rec_hilbert_compile r61.1 a1 (at_ PTerm.z a2.sub 1) r5.2.r).bind fun r68=>(hilbert_maker_imp.f r68.1 r5.2.r a3).bind fun r71=>(hilbert_maker_imp.f r71.1 r5.2.l r71.2).bind fun r74=>(hilbert_maker_axiom.f r74.1 5 r74.2).bind fun r85=>(hilbert_maker_mp.f r85.1 r85.2 r61.2).bind fun r88=>(hilbert_maker_mp.f r88.1 r88.2 r68.2).bind fun r91=>some (r91.1))) else if decide (a2.kind=5) then (hilbert_maker_unary.g rec_hilbert_compile k r5.1 a1 a2 a3 3).bind fun r95=>some (r95) else if decide (a2.kind=6) then (hilbert_maker_unary.g rec_hilbert_compile k r5.1 a1 a2 a3 4).bind fun r99=>some (r99) else if decide (a2.kind=10) then (hilbert_maker_unary.g rec_hilbert_compile k r5.1 a1 a2 a3 9).bind fun r103=>some (r103) else if decide (a2.kind=7) then chk (inb 0 a2.sub.length) ((hilbert_maker_part.g rec_hilbert_compile r5.1 a1 (at_ PTerm.z a2.sub 0) r5.2.l).bind fun r111=>(hilbert_maker_imp.f r111.1 r5.2.l a3).bind fun r114=>(hilbert_maker_axiom.f r114.1 6 r114.2).bind fun r117=>(hilbert_maker_mp.f r117.1 r117.2 r111.2).bind fun r120=>some (r120.1)) else if decide (a2.kind=8) then chk (inb 0 a2.sub.length) ((hilbert_maker_part.g rec_hilbert_compile r5.1 a1 (at_ PTerm.z a2.sub 0) r5.2.r).bind fun r128=>(hilbert_maker_imp.f r128.1 r5.2.r a3).bind fun r131=>(hilbert_maker_axiom.f r131.1 7 r131.2).bind fun r134=>(hilbert_maker_mp.f r134.1 r134.2 r128.2).bind fun r137=>some (r137.1)) else if decide (a2.kind=9) then chk (inb 0 a2.sub.length) ((hilbert_maker_told.g rec_hilbert_compile k r5.1 a1 (at_ PTerm.z a2.sub 0)).bind fun r144=>(hilbert_maker_node.f r144.1 r144.2.1).bind fun r147=>chk (inb 1 a2.sub.length) ((hilbert_maker_under.g rec_hilbert_compile r147.1 a1 a2.name r147.2.l (at_ PTerm.z a2.sub 1) a3).bind fun r157=>chk (inb 2 a2.sub.length) ((hilbert_maker_under.g rec_hilbert_compile r157.1 a1 a2.other r147.2.r (at_ PTerm.z a2.sub 2) a3).bind fun r164=>(hilbert_maker_imp.f r164.1 r147.2.l a3).bind fun r167=>(hilbert_maker_imp.f r167.1 r147.2.r a3).bind fun r175=>(hilbert_maker_imp.f r175.1 r144.2.1 a3).bind fun r178=>(hilbert_maker_imp.f r178.1 r175.2 r178.2).bind fun r181=>(hilbert_maker_imp.f r181.1 r167.2 r181.2).bind fun r184=>(hilbert_maker_axiom.f r184.1 8 r184.2).bind fun r187=>(hilbert_maker_mp.f r187.1 r187.2 r157.2).bind fun r190=>(hilbert_maker_mp.f r190.1 r190.2 r164.2).bind fun r193=>(hilbert_maker_mp.f r193.1 r193.2 r144.2.2).bind fun r196=>some (r196.1)))) else if decide (a2.kind=12) then chk (inb 0 a2.sub.length) ((hilbert_maker_told.g rec_hilbert_compile k r5.1 a1 (at_ PTerm.z a2.sub 0)).bind fun r203=>chk (inb 1 a2.sub.length) ((hilbert_maker_under.g rec_hilbert_compile r203.1 a1 a2.name r203.2.1 (at_ PTerm.z a2.sub 1) a3).bind fun r208=>(hilbert_maker_mp.f r208.1 r208.2 r203.2.2).bind fun r217=>some (r217.1))) else some (r5.1)).bind fun (o11:PMaker)=>some (o11.t,o11.l,o11.bad)
def hilbert_compile.f:Nat→Tb→List Hyp→PTerm→Int→Option (Tb × List Ln × Int)
 | 0=>fun _ _ _ _=>none
 | k + 1=>hilbert_compile.g (hilbert_compile.f k) k
def hilbert_Compile.f (k:Nat) (a0:Tb) (a1:List Hyp) (a2:PTerm) (a3:Int):Option (Tb × List Ln × Int) :=
 (types_Check.f k a0 a1 a2 a3).bind fun r3=>if decide (r3 ≠ 0) then some (a0,([]:List Ln),r3) else (formula_Table_Len.f a0).bind fun r7=>(slices_Clone_api_Hyp_api_Hyp.f a1).bind fun r10=>(hilbert_compile.f k a0 r10 a2 a3).bind fun r14=>(hilbert_kept.f r14.1 r7 r14.2.1 r14.2.2).bind fun r26=>some (r26.1,r26.2.1,r26.2.2)
end Go.Proofs.YtflieamjacclnaaGreatDoor
end
section
namespace Go.Proofs
open Go.Shelf Go.RowKit Go.Sort Go.Lib
def Tryz.laysM171_ren:Go.Shelf.Ren:=⟨fun | 171=>96 | 243=>118 | 246=>138 | 283=>152 | 284=>153 | 285=>154 | 286=>155 | 129=>164 | 317=>163 | 318=>165 | 319=>166 | 320=>167 | 337=>169 | 338=>170 | n=>n,fun | 3=>3 | 9=>9 | 2=>2 | 4=>4 | 171=>223 | 0=>0 | 53=>144 | 37=>145 | 5=>5 | 173=>226 | 212=>247 | 51=>248 | 20=>20 | 213=>249 | 46=>250 | 232=>254 | 233=>255 | n=>n,fun | 17=>1 | 18=>2 | 19=>3 | n=>n⟩
theorem Tryz.laysM171:Go.Proofs.LaysM.n171 Tryz.prog Tryz.laysM171_ren:={
 mixed:=by kernel_rfl
 f129:=Tryz.func164.trans (congrArg some (by kernel_rfl))
 f171:=Tryz.func96.trans (congrArg some (by kernel_rfl))
 f243:=Tryz.func118.trans (congrArg some (by kernel_rfl))
 f246:=Tryz.func138.trans (congrArg some (by kernel_rfl))
 f283:=Tryz.func152.trans (congrArg some (by kernel_rfl))
 f284:=Tryz.func153.trans (congrArg some (by kernel_rfl))
 f285:=Tryz.func154.trans (congrArg some (by kernel_rfl))
 f286:=Tryz.func155.trans (congrArg some (by kernel_rfl))
 f317:=Tryz.func163.trans (congrArg some (by kernel_rfl))
 f318:=Tryz.func165.trans (congrArg some (by kernel_rfl))
 f319:=Tryz.func166.trans (congrArg some (by kernel_rfl))
 f320:=Tryz.func167.trans (congrArg some (by kernel_rfl))
 f337:=Tryz.func169.trans (congrArg some (by kernel_rfl))
 f338:=Tryz.func170.trans (congrArg some (by kernel_rfl))
 t0:=Tryz.underlying0
 a0:=Tryz.isAgg0
 z0:=Tryz.sizeOf0
 v0:=Tryz.zeroValue0
 t2:=Tryz.underlying2
 a2:=Tryz.isAgg2
 z2:=Tryz.sizeOf2
 v2:=Tryz.zeroValue2
 t3:=Tryz.underlying3
 a3:=Tryz.isAgg3
 z3:=Tryz.sizeOf3
 v3:=Tryz.zeroValue3
 t4:=Tryz.underlying4
 a4:=Tryz.isAgg4
 z4:=Tryz.sizeOf4
 v4:=Tryz.zeroValue4
 t5:=Tryz.underlying5
 a5:=Tryz.isAgg5
 z5:=Tryz.sizeOf5
 v5:=Tryz.zeroValue5
 t9:=Tryz.underlying9
 a9:=Tryz.isAgg9
 z9:=Tryz.sizeOf9
 v9:=Tryz.zeroValue9
 t20:=Tryz.underlying20
 a20:=Tryz.isAgg20
 z20:=Tryz.sizeOf20
 v20:=Tryz.zeroValue20
 t37:=Tryz.underlying145
 a37:=Tryz.isAgg145
 z37:=Tryz.sizeOf145
 v37:=Tryz.zeroValue145
 t46:=Tryz.underlying250
 a46:=Tryz.isAgg250
 z46:=Tryz.sizeOf250
 v46:=Tryz.zeroValue250
 t51:=Tryz.underlying248
 a51:=Tryz.isAgg248
 z51:=Tryz.sizeOf248
 v51:=Tryz.zeroValue248
 t53:=Tryz.underlying144
 a53:=Tryz.isAgg144
 z53:=Tryz.sizeOf144
 v53:=Tryz.zeroValue144
 t171:=Tryz.underlying223
 a171:=Tryz.isAgg223
 z171:=Tryz.sizeOf223
 v171:=Tryz.zeroValue223
 t173:=Tryz.underlying226
 a173:=Tryz.isAgg226
 z173:=Tryz.sizeOf226
 v173:=Tryz.zeroValue226
 t212:=Tryz.underlying247
 a212:=Tryz.isAgg247
 z212:=Tryz.sizeOf247
 v212:=Tryz.zeroValue247
 t213:=Tryz.underlying249
 a213:=Tryz.isAgg249
 z213:=Tryz.sizeOf249
 t232:=Tryz.underlying254
 a232:=Tryz.isAgg254
 z232:=Tryz.sizeOf254
 v232:=Tryz.zeroValue254
 t233:=Tryz.underlying255
 a233:=Tryz.isAgg255
 z233:=Tryz.sizeOf255
 v233:=Tryz.zeroValue255
 g17:=by kernel_rfl
 g18:=by kernel_rfl
 g19:=by kernel_rfl
 i0:=by kernel_rfl
 i2:=by kernel_rfl
 i3:=by kernel_rfl
 i4:=by kernel_rfl
 i5:=by kernel_rfl
 i9:=by kernel_rfl
 i20:=by kernel_rfl
 i37:=by kernel_rfl
 i46:=by kernel_rfl
 i51:=by kernel_rfl
 i53:=by kernel_rfl
 i171:=by kernel_rfl
 i173:=by kernel_rfl
 i212:=by kernel_rfl
 i232:=by kernel_rfl
 i233:=by kernel_rfl
 m17:=by kernel_rfl
 m18:=by kernel_rfl
 m19:=by kernel_rfl }
theorem Tryz.strconv_Itoa (n:Int) (h0 : -9223372036854775808 ≤ n) (h1:n ≤ 9223372036854775807) (w:World) (htab:Lib.TabIs Tryz.prog w "internal/strconv.uint64pow10" .u64 Lib.pow10Tab) :
  Calls Tryz.prog 96 #[.int .i64 n] w fun e w'=>e = .returned (.string ⟨(Lib.itoa n).toArray⟩) ∧ ∃ k os,w'=grow (w.drewN k) os:=Any.strconv_Itoa Tryz.laysM171 n h0 h1 w htab
end Go.Proofs
end
section
namespace Go.Proofs.YtflieamjacclnaaGreatDoor
open Gw Go.RowKit
theorem does_concat {P:Program} {f:Fr} {w:World} {d:Option Tmp} {ty:TypeId} {pos:String} {af:Array Edge} {gd:Option (Nat × Bool)} {t u:TypeId} {x y:Operand} {a b:ByteArray} (hx:evF f x = .string a) (hy:evF f y = .string b) (hl:a.size + b.size ≤ 1000000):Does P ⟨d,.binOp .add t x y u,ty,pos,af,gd⟩ f w (.string (a ++ b)) w:=by
 have h:(binOp .add t (.string a) (.string b)).run P w = .ok (.string (a ++ b)) w:=by
  simp only [binOp]
  exact run_string_add (w:=w) a b (by omega) (by omega)
 simp only [Does,execOp,hx,hy,Sem.run_bind,jS,Result.andThen_ok,h,Sem.run_pure]
abbrev F_strconv_Itoa:FuncId:=96
theorem ca_strconv_Itoa:zI PP F_strconv_Itoa:=⟨_,Tryz.func96,rfl,rfl⟩
def decK:Nat→Nat→List UInt8
 | 0,_=>[]
 | k + 1,u=>if u < 10 then [UInt8.ofNat (48 + u)] else decK k (u / 10) ++ [UInt8.ofNat (48 + u % 10)]
theorem decK_eq : ∀ (k u:Nat),u < 10 ^ (k + 1)→decK (k + 1) u=Lib.decDigits u
 | 0,u,h=>by
  have h1:u < 10:=by simpa using h
  rw [Lib.decDigits_one h1]; simp [decK,h1]
 | k + 1,u,h=>by
  rw [Lib.decDigits,decK]
  by_cases h1:u < 10
  ·rw [if_pos h1,dif_pos h1]
  ·rw [if_neg h1,dif_neg h1,decK_eq k (u / 10) (by rw [Nat.pow_succ] at h; omega)]
def decN (n:Int):ByteArray:=⟨(if n < 0 then 45 :: decK 20 n.natAbs else decK 20 n.toNat).toArray⟩
theorem decN_eq {n:Int} (h0 : -9223372036854775808 ≤ n) (h1:n ≤ 9223372036854775807):decN n=⟨(Lib.itoa n).toArray⟩ := by
 unfold decN Lib.itoa
 rw [decK_eq 19 _ (by omega),decK_eq 19 _ (by omega)]
def Pw (w:World):Prop:=Lib.TabIs PP w "internal/strconv.uint64pow10" .u64 Lib.pow10Tab
theorem gPw:PP.globalNamed "internal/strconv.uint64pow10" = some 1:=by kernel_rfl
theorem Pw.lt {w:World} (h:Pw w):1 < w.heap.size:=by
 unfold Pw Lib.TabIs World.var? at h
 rw [gPw] at h
 rcases Nat.lt_or_ge 1 w.heap.size with q | q
 ·exact q
 ·rw [Option.bind_some,Array.getElem?_eq_none q] at h; simp at h
theorem Pw.chg {S:Nat→Prop} {w w':World} (h:Pw w) (hc:Chg S w w') (hs:¬ S 1):Pw w':=by
 have hl:=h.lt
 unfold Pw Lib.TabIs World.var? at *
 rw [gPw] at h ⊢
 rw [Option.bind_some] at h ⊢
 rw [hc.block _ hl hs]; exact h
def oPw:OA where
 holds:=fun w F=>Pw w ∧ ∀ i,F i↔i=1
 loc:=fun h hc hs=>⟨h.1.chg hc (hs _ ((h.2 _).2 rfl)),h.2⟩
 lt:=fun {w F} h i hi=>by rw [(h.2 i).1 hi]; exact h.1.lt
theorem Gw.St.pw {A:Nat→Prop} {N:Oth} {w0 w:World} {L Z:List OA} (h:St A N w0 w L Z) (k:Nat) (e:Z[k]? = some oPw:=by rfl):Pw w:=(h.frz k e).elim fun _ q=>q.1
theorem grow_ext (w:World) (k:Nat) (os:Array Obj):Ext w (Go.Sort.grow (w.drewN k) os) :=
 ⟨rfl,rfl,rfl,by show w.heap.size ≤ (w.heap ++ os).size; simp,fun i hi _=>Array.getElem?_append_left hi,fun a ha=>by
  unfold World.frozen?
  rw [show (Go.Sort.grow (w.drewN k) os).heap[a.block]? = w.heap[a.block]? from Array.getElem?_append_left ha]⟩
def strconv_Itoa.f (n:Int):Option ByteArray:=chk (decide (-9223372036854775808 ≤ n) && decide (n ≤ 9223372036854775807)) (some (decN n))
theorem strconv_Itoa_st {A:Nat→Prop} {N:Oth} {w:World} {n:Int} (S:St A N w w [] [oPw]) {r:ByteArray} (H:strconv_Itoa.f n=some r):Calls PP F_strconv_Itoa #[.int .i64 n] w fun e w' => ∃ v,e = .returned v∧(v = .string r∧St A N w w' [] []):=by
 obtain ⟨hc,H⟩ := xi H
 obtain rfl:=Option.some.inj H
 simp only [Bool.and_eq_true,decide_eq_true_eq] at hc
 refine (Go.Proofs.Tryz.strconv_Itoa n hc.1 hc.2 w (S.pw 0)).mono fun e w' q=>?_
 obtain ⟨rfl,k,os,rfl⟩ := q
 exact ⟨_,rfl,by rw [decN_eq hc.1 hc.2],(S.ext (grow_ext w k os)).zs []⟩
end Go.Proofs.YtflieamjacclnaaGreatDoor
end
section
namespace Go.Proofs.YtflieamjacclnaaGreatDoor
open Go.RowKit
namespace Gw
def bodyQ2 {σ ρ γ γ':Type} (A:Nat→Prop) (w0:World) (L:σ→γ→List OA) (Lr:ρ→γ'→List OA) (Zf:σ→γ→List OA) (Zr:ρ→γ'→List OA) (br:Bool) (bid:Nat) (N':Oth) (q:Stp σ ρ):Post:=fun _ e _ w=>match e with
 | .normal => ∃ s',q = .go s' ∧ ∃ c,St A N' w0 w (L s' c) (Zf s' c)
 | .ret => ∃ r,q = .ret r ∧ ∃ c,St A N' w0 w (Lr r c) (Zr r c)
 | .exit id=>br=true∧id=bid ∧ ∃ s',q = .brk s' ∧ ∃ c,St A N' w0 w (L s' c) (Zf s' c)
 | _=>False
section
variable {P:Program} {n:Nat} {dm:List Nat} {Q:Post} {f:Fr} {w:World}
theorem wc_rangeSt2 {g:Operand} {p p2:Tmp} {assign body:Code} {k:FuncId} {fi ca:Array Value} {Inv:World→Prop} {α σ ρ γ γ':Type} {enc enc2:α→Value} {xs:List α} {bd:α→σ→Option (Stp σ ρ)} {o:σ ⊕ ρ} {s0:σ} {A:Nat→Prop} {N:Oth} {w0:World} {L:σ→γ→List OA} {Lr:ρ→γ'→List OA} {Zf:σ→γ→List OA} {Zr:ρ→γ'→List OA} (c0:γ) (br:Bool) (bid:Nat)
  (hg:evF f g = .func (.func k) fi ca) (hk:zI P k) (hs:Gives P k (fun y=>fi.toList ++ [y] ++ ca.toList) Inv (xs.map fun x=>[enc x,enc2 x])) (hp:p < n) (hp2:p2 < n)
  (hInv : ∀ N' s c W,St A N' w0 W (L s c) (Zf s c)→Inv W) (S:St A N w0 w (L s0 c0) (Zf s0 c0)) (e:forE bd xs s0=some o)
  (hr : ∀ x s c q N' rd u,bd x s=some q→St A N' w0 u (L s c) (Zf s c)→wc P rd n [] assign (thenP (fun dm' f1 w1=>dm'=[] ∧ ∃ La Za,St A N' w0 w1 La Za ∧ ∀ N' w2,St A N' w0 w2 La Za→wc P rd n [] body (bodyQ2 A w0 L Lr Zf Zr br bid N' q) f1 w2) (fun _ _ _ _=>False)) (upd (upd f p (enc x)) p2 (enc2 x)) u)
  (hdone : ∀ s c B W,o = .inl s→St A (N.done B) w0 W (L s c) (Zf s c)→(w0.heap.size ≤ B∧¬ N B∧¬ N (B + 1))→Q (B :: dm) .normal f W)
  (hret : ∀ r c B W,o = .inr r→St A (N.done B) w0 W (Lr r c) (Zr r c)→(w0.heap.size ≤ B∧¬ N B∧¬ N (B + 1))→Q (B :: dm) .ret f W)
  (hbrk:br=true → ∀ s c B W,o = .inl s→St A (N.done B) w0 W (L s c) (Zf s c)→(w0.heap.size ≤ B∧¬ N B∧¬ N (B + 1))→Q (B :: dm) (.exit bid) f W) :
  wc P none n dm (.rangeFunc g #[p,p2] assign body) Q f w:=by
 have hB0 : ∀ B,w.heap.size=B→w0.heap.size ≤ B∧¬ N B∧¬ N (B + 1):=fun B hB=>⟨hB ▸ S.size,fun q=>absurd (S.othlt _ q) (by omega),fun q=>absurd (S.othlt _ q) (by omega)⟩
 generalize hB:w.heap.size=B at *
 have hBB:=hB0 B rfl
 -- what holds between rounds
 let NB:Oth:=N.or (fun i=>i=B∨i=B + 1)
 have drop2 : ∀ {o1 o2:Obj} {W:World} {LL Z:List OA},St A (N.loop B o1 o2) w0 W LL Z→St A NB w0 W LL Z:=fun h=>h.less (fun i hi=>hi) (fun d hd=>h.wats d (List.mem_cons_of_mem _ (List.mem_cons_of_mem _ hd)))
 have watch : ∀ {W W':World} {LL Z:List OA} {o1 o2:Obj},St A NB w0 W LL Z→Chg (· = B + 1) W W'→Ob W' B o1→Ob W' (B + 1) o2→St A (N.loop B o1 o2) w0 W' LL Z:=by
  intro W W' LL Z o1 o2 h hc h1 h2
  refine h.others hc (fun i hi=>⟨by rw [hi]; exact .inr (.inr rfl),by rw [hi]; omega⟩) (fun i hi=>hi) fun d hd=>?_
  rcases List.mem_cons.1 hd with rfl | hd
  ·exact h1
  rcases List.mem_cons.1 hd with rfl | hd
  ·exact h2
  ·exact (h.wats d hd).chg hc (fun (q:d.1=B + 1)=>hBB.2.2 (q ▸ N.ok d hd))
 have turn : ∀ {W W':World} {LL Z:List OA},St A NB w0 W LL Z→Chg (· = B + 1) W W'→St A NB w0 W' LL Z:=by
  intro W W' LL Z h hc
  refine h.others hc (fun i hi=>⟨by rw [hi]; exact .inr (.inr rfl),by rw [hi]; omega⟩) (fun i hi=>hi) fun d hd=>?_
  exact (h.wats d hd).chg hc (fun (q:d.1=B + 1)=>hBB.2.2 (q ▸ N.ok d hd))
 have over : ∀ {W:World} {LL Z:List OA},St A NB w0 W LL Z→Ob W B (.deferred (some []))→St A (N.done B) w0 W LL Z:=by
  intro W LL Z h h1
  refine h.less (fun i hi=>hi) fun d hd=>?_
  rcases List.mem_cons.1 hd with rfl | hd
  ·exact h1
  ·exact h.wats d hd
 refine wc_range (ps:=[p,p2]) B hB hg hk hs (by intro q hq; simp only [List.mem_cons,List.not_mem_nil,or_false] at hq; rcases hq with rfl | rfl <;> assumption) (by simp)
  (fun i W => ∃ s,forE bd (xs.drop i) s=some o ∧ ∃ c,St A NB w0 W (L s c) (Zf s c))
  (fun c W=>match c with | .ret => ∃ r,o = .inr r ∧ ∃ c,St A NB w0 W (Lr r c) (Zr r c) | .exit id=>br=true∧id=bid ∧ ∃ s,o = .inl s ∧ ∃ c,St A NB w0 W (L s c) (Zf s c) | _=>False)
  (fun i W ⟨s,_,c,h⟩ => hInv _ _ _ _ h) (fun i W W' ⟨s,h1,c,h2⟩ hc=>⟨s,h1,c,turn h2 hc⟩) ?_ ?_ ?_ ?_ ?_
 ·intro c W W' h hc
  cases c with
  | ret=>obtain ⟨r,h1,c,h2⟩ := h; exact ⟨r,h1,c,turn h2 hc⟩
  | exit id=>obtain ⟨hb,h0,s,h1,c,h2⟩ := h; exact ⟨hb,h0,s,h1,c,turn h2 hc⟩
  | _=>exact h
 ·intro w' hx hlt
  refine ⟨s0,by simpa using e,c0,?_⟩
  exact S.more hx (fun i hi=>by rcases hi with rfl | rfl <;> constructor <;> omega)
 ·rintro i x W o1 o2 hxi ⟨s,he,c,h⟩ h1 h2
  rw [List.getElem?_map] at hxi
  cases hq:xs[i]? with
  | none=>rw [hq] at hxi; cases hxi
  | some x0 =>
   rw [hq] at hxi
   obtain rfl:=Option.some.inj hxi
   have hlt:i < xs.length:=(List.getElem?_eq_some_iff.1 hq).1
   have hdr:xs.drop i=x0 :: xs.drop (i + 1):=by rw [List.drop_eq_getElem_cons hlt]; congr 1; exact (List.getElem?_eq_some_iff.1 hq).2
   rw [hdr] at he
   obtain ⟨q,hbd,hn⟩ := forE_s he
   refine wc_mono (hr x0 s c q _ _ W hbd (watch h (Chg.refl _ _) h1 h2)) ?_
   rintro dm' ex f1 w1 hp1
   cases ex with
   | normal =>
    obtain ⟨rfl,La,Za,h3,h4⟩ := hp1
    refine ⟨rfl,h3.wats (B,o1) (by simp [Oth.loop]),h3.wats (B + 1,o2) (by simp [Oth.loop]),fun w2 o2' hc h5 h6=>?_⟩
    refine wc_mono (h4 _ w2 (watch (drop2 h3) hc h5 h6)) ?_
    rintro dm2 ex f2 w3 hp2
    cases ex with
    | normal =>
     obtain ⟨s',rfl,c',h7⟩ := hp2
     exact ⟨h7.wats (B,o1) (by simp [Oth.loop]),h7.wats (B + 1,o2') (by simp [Oth.loop]),s',hn,c',drop2 h7⟩
    | ret =>
     obtain ⟨r,rfl,c',h7⟩ := hp2
     exact ⟨h7.wats (B,o1) (by simp [Oth.loop]),h7.wats (B + 1,o2') (by simp [Oth.loop]),r,hn,c',drop2 h7⟩
    | exit id =>
     obtain ⟨hbr,h0,s',rfl,c',h7⟩ := hp2
     exact ⟨h7.wats (B,o1) (by simp [Oth.loop]),h7.wats (B + 1,o2') (by simp [Oth.loop]),hbr,h0,s',hn,c',drop2 h7⟩
    | _=>exact hp2.elim
   | _=>exact hp1.elim
 ·rintro W ⟨s,he,c,h⟩ h1
  rw [List.length_map,List.drop_length] at he
  exact hdone s c B W (forE_0 he) (over h h1) hBB
 ·intro c W h h1
  cases c with
  | ret=>obtain ⟨r,h2,c,h3⟩ := h; exact hret r c B W h2 (over h3 h1) hBB
  | exit id=>obtain ⟨hb,rfl,s,h2,c,h3⟩ := h; exact hbrk hb s c B W h2 (over h3 h1) hBB
  | _=>trivial
end
end Gw
end Go.Proofs.YtflieamjacclnaaGreatDoor
end
section
namespace Go.Proofs.YtflieamjacclnaaGreatDoor
open Gw Go.RowKit
def bwd {α:Type} (l:List α):List (Int × α):=(l.zipIdx.map fun q=>((q.2:Int),q.1)).reverse
theorem bwd_len {α:Type} (l:List α):(bwd l).length=l.length:=by simp [bwd]
theorem bwd_at {α:Type} {l:List α} {x:Nat} (h:x < l.length):(bwd l)[x]? = some (((l.length - 1 - x:Nat):Int),l[l.length - 1 - x]):=by
 unfold bwd
 rw [List.getElem?_reverse (by simpa using h)]
 simp [List.getElem?_zipIdx,show l.length - 1 - x < l.length by omega]
theorem kb (w:World) (s:SlV):Calls PP uf #[s.v] w fun e w' => ∃ v,e = .returned v∧(∃ c,v = .func (.func yX) #[] #[.pointer (some ⟨c,0,none⟩)]∧Blk w' c T_L_string [s.v]∧w.heap.size ≤ c∧Ext w w'):=by
 refine zA (n:=4) kw rfl rfl (by simp) ?_
 have E:=Ext.refl w
 refine zd (za ?_)
 refine wl_box (v:=s.v) rfl (by rw [SlV.cells]) (by decide) fun b1 w1 h1=>?_
 have l_b1:w.heap.size ≤ b1:=by have:=h1.at_; have:=E.size; omega
 have B1:=h1.blk
 replace E:=E.thenExt h1.ext
 refine zk (zL (v := .nilFunc) rfl) (by decide) (zb (zd (za (zk (does_funcl) (by decide) (zk (does_as_f rfl) (by decide) (zb (zx ?_)))))))
 exact ⟨_,(zV (zg rfl)),b1,rfl,B1,l_b1,E⟩
theorem jk {l:List ByteArray} {s:SlV} (hlen:l.length ≤ 140737488355328) (c:Nat):Gives PP yX (fun y=>[y,.pointer (some ⟨c,0,none⟩)]) (fun W=>Blk W c T_L_string [s.v]∧Rd W 1 s (l.map SC)) ((bwd l).map fun q=>[Value.int .i64 q.1,.string q.2]):=by
 intro y J Jx W hInv hJ hJx hY h0
 have hat : ∀ i:Nat,((bwd l).map fun q=>[Value.int .i64 q.1,.string q.2])[i]? = ((bwd l)[i]?).map fun q=>[Value.int .i64 q.1,.string q.2]:=by simp
 have hln:((bwd l).map fun q=>[Value.int .i64 q.1,.string q.2]).length=l.length:=by rw [List.length_map,bwd_len]
 rw [hln]
 refine zA (n:=19) jT rfl rfl (by simp) (zd (za (zk (zi on_L_string rfl ((hInv _ _ h0).1.cell rfl)) (by decide) ?_)))
 refine zk (xa yO rfl (hInv _ _ h0).2) (by decide) (zk (zaJ rfl rfl (c:=(l.length:Int) - 1) rfl (by omega) (by omega)) (by decide) (zk (zh rfl) (by decide) (zb ?_)))
 refine zQ ?_
 refine xW (α:=Nat) [3,7,8,9,10,11,12,13,14,15,16,17,18] (fun x fr W=>fr 3 = .int .i64 ((l.length:Int) - 1 - x)∧J x W∧x ≤ l.length) (fun x=>l.length - x) 0 ⟨by simp [upd_same],h0,by omega⟩ ?_
 rintro x g u ⟨s3,hj,hx⟩
 refine zd (zd (za (zk (zf s3) (by decide) (zk (vq rfl rfl) (by decide) (zb ?_)))))
 refine zH rfl (fun hc=>?_) (fun hc=>?_)
 rotate_left
 ·refine yn ?_
  have h2:=of_decide_eq_false hc
  have e:x=l.length:=by omega
  rw [e] at hj
  exact ⟨_,rets0,.inl hj⟩
 have h2:=of_decide_eq_true hc
 have hxl:x < l.length:=by omega
 have hR:=(hInv _ _ hj).2
 rw [show (l.length:Int) - 1 - x=((l.length - 1 - x:Nat):Int) by omega] at s3
 have hl:l[(((l.length - 1 - x:Nat):Int)).toNat]? = some l[l.length - 1 - x]:=List.getElem?_eq_getElem (by omega)
 refine zB (zd ?_)
 refine zQ (zd (za (zk (zaH rfl) (by decide) (zk (zf s3) (by decide) (zk (zi on_L_string rfl ((hInv _ _ hj).1.cell rfl)) (by decide) (zk (zf s3) (by decide) ?_))))))
 refine zk (zN yO rfl rfl hR (by omega) (by omega)) (by decide) ?_
 refine zk (zi xv rfl (hR.one hl rfl)) (by decide) ?_
 refine wl_yield rfl rfl (by decide) (hY x _ u hj (by rw [hat,bwd_at hxl]; rfl)) ?_ 
 intro yb u2 hyb
 refine zk (xk rfl) (by decide) (zb ?_)
 refine zH rfl (fun hc2=>?_) (fun hc2=>?_)
 ·refine zx ?_
  rcases hyb with ⟨rfl,_⟩ | ⟨rfl,hjx⟩
  ·cases hc2
  ·exact ⟨_,rets0,.inr hjx⟩
 rcases hyb with ⟨rfl,hj2⟩ | ⟨rfl,_⟩
 rotate_left
 ·cases hc2
 refine zB (za (zk (zf s3) (by decide) (zk (zaJ rfl rfl (c:=(l.length:Int) - 1 - (x + 1:Nat)) (by omega) (by omega) (by omega)) (by decide) (zk (zh rfl) (by decide) (zb ?_)))))
 exact ⟨rfl,((((((((((((((Dif.self _ _ _).upd rfl _).upd rfl _).upd rfl _).upd rfl _).upd rfl _).upd rfl _).upd rfl _).upd rfl _).upd rfl _).upd rfl _).upd rfl _).upd rfl _).upd rfl _),x + 1,⟨by simp [upd_same],hj2,by omega⟩,by omega⟩
theorem jA (w:World) (s:SlV):Calls PP vF #[s.v] w fun e w' => ∃ v,e = .returned v∧(∃ c,v = .func (.func yG) #[] #[.pointer (some ⟨c,0,none⟩)]∧Blk w' c yF [s.v]∧w.heap.size ≤ c∧Ext w w'):=by
 refine zA (n:=4) jx rfl rfl (by simp) ?_
 have E:=Ext.refl w
 refine zd (za ?_)
 refine wl_box (v:=s.v) rfl (by rw [SlV.cells]) (by decide) fun b1 w1 h1=>?_
 have l_b1:w.heap.size ≤ b1:=by have:=h1.at_; have:=E.size; omega
 have B1:=h1.blk
 replace E:=E.thenExt h1.ext
 refine zk (zL (v := .nilFunc) rfl) (by decide) (zb (zd (za (zk (does_funcl) (by decide) (zk (does_as_f rfl) (by decide) (zb (zx ?_)))))))
 exact ⟨_,(zV (zg rfl)),b1,rfl,B1,l_b1,E⟩
theorem uH {l:List Ln} {s:SlV} (hlen:l.length ≤ 140737488355328) (c:Nat):Gives PP yG (fun y=>[y,.pointer (some ⟨c,0,none⟩)]) (fun W=>Blk W c yF [s.v]∧Rd W 4 s (l.map Ln.C)) ((bwd l).map fun q=>[Value.int .i64 q.1,.agg (Ln.C q.2).toArray]):=by
 intro y J Jx W hInv hJ hJx hY h0
 have hat : ∀ i:Nat,((bwd l).map fun q=>[Value.int .i64 q.1,.agg (Ln.C q.2).toArray])[i]? = ((bwd l)[i]?).map fun q=>[Value.int .i64 q.1,.agg (Ln.C q.2).toArray]:=by simp
 have hln:((bwd l).map fun q=>[Value.int .i64 q.1,.agg (Ln.C q.2).toArray]).length=l.length:=by rw [List.length_map,bwd_len]
 rw [hln]
 refine zA (n:=19) uZ rfl rfl (by simp) (zd (za (zk (zi xN rfl ((hInv _ _ h0).1.cell rfl)) (by decide) ?_)))
 refine zk (xa zU rfl (hInv _ _ h0).2) (by decide) (zk (zaJ rfl rfl (c:=(l.length:Int) - 1) rfl (by omega) (by omega)) (by decide) (zk (zh rfl) (by decide) (zb ?_)))
 refine zQ ?_
 refine xW (α:=Nat) [3,7,8,9,10,11,12,13,14,15,16,17,18] (fun x fr W=>fr 3 = .int .i64 ((l.length:Int) - 1 - x)∧J x W∧x ≤ l.length) (fun x=>l.length - x) 0 ⟨by simp [upd_same],h0,by omega⟩ ?_
 rintro x g u ⟨s3,hj,hx⟩
 refine zd (zd (za (zk (zf s3) (by decide) (zk (vq rfl rfl) (by decide) (zb ?_)))))
 refine zH rfl (fun hc=>?_) (fun hc=>?_)
 rotate_left
 ·refine yn ?_
  have h2:=of_decide_eq_false hc
  have e:x=l.length:=by omega
  rw [e] at hj
  exact ⟨_,rets0,.inl hj⟩
 have h2:=of_decide_eq_true hc
 have hxl:x < l.length:=by omega
 have hR:=(hInv _ _ hj).2
 rw [show (l.length:Int) - 1 - x=((l.length - 1 - x:Nat):Int) by omega] at s3
 have hl:l[(((l.length - 1 - x:Nat):Int)).toNat]? = some l[l.length - 1 - x]:=List.getElem?_eq_getElem (by omega)
 refine zB (zd ?_)
 refine zQ (zd (za (zk (zaH rfl) (by decide) (zk (zf s3) (by decide) (zk (zi xN rfl ((hInv _ _ hj).1.cell rfl)) (by decide) (zk (zf s3) (by decide) ?_))))))
 refine zk (zN zU rfl rfl hR (by omega) (by omega)) (by decide) ?_
 refine zk (zo j0 rfl (hR.at hl) (Ln.len _)) (by decide) ?_
 refine wl_yield rfl rfl (by decide) (hY x _ u hj (by rw [hat,bwd_at hxl]; rfl)) ?_ 
 intro yb u2 hyb
 refine zk (xk rfl) (by decide) (zb ?_)
 refine zH rfl (fun hc2=>?_) (fun hc2=>?_)
 ·refine zx ?_
  rcases hyb with ⟨rfl,_⟩ | ⟨rfl,hjx⟩
  ·cases hc2
  ·exact ⟨_,rets0,.inr hjx⟩
 rcases hyb with ⟨rfl,hj2⟩ | ⟨rfl,_⟩
 rotate_left
 ·cases hc2
 refine zB (za (zk (zf s3) (by decide) (zk (zaJ rfl rfl (c:=(l.length:Int) - 1 - (x + 1:Nat)) (by omega) (by omega) (by omega)) (by decide) (zk (zh rfl) (by decide) (zb ?_)))))
 exact ⟨rfl,((((((((((((((Dif.self _ _ _).upd rfl _).upd rfl _).upd rfl _).upd rfl _).upd rfl _).upd rfl _).upd rfl _).upd rfl _).upd rfl _).upd rfl _).upd rfl _).upd rfl _).upd rfl _),x + 1,⟨by simp [upd_same],hj2,by omega⟩,by omega⟩
end Go.Proofs.YtflieamjacclnaaGreatDoor
end
section
namespace Go.Proofs.YtflieamjacclnaaGreatDoor
open Gw
def octet_Dec.f (a0:Int):Option ByteArray :=
 (strconv_Itoa.f a0).bind fun r1=>some r1
def hilbert_Term_1.f (a0:Int):Option ByteArray :=
 (octet_Dec.f a0).bind fun r1=>chk (decide ((⟨#[108]⟩ : ByteArray).size + r1.size ≤ 1000000)) (some ((⟨#[108]⟩ : ByteArray) ++ r1))
def hilbert_v.f (a0:ByteArray):Option PTerm :=
 some (⟨1,a0,ByteArray.empty,0,[]⟩ : PTerm)
def hilbert_node.f (a0:Int) (a1:List PTerm):Option PTerm :=
 some (⟨a0,ByteArray.empty,ByteArray.empty,0,a1⟩ : PTerm)
def hilbert_fun.b0  (i7:Int) (y7:ByteArray) (x7_0:PTerm):Option (Stp PTerm Empty) :=
 some (.go (⟨2,y7,ByteArray.empty,0,[x7_0]⟩ : PTerm))
def hilbert_fun.f (a0:PTerm) (a1:List ByteArray):Option PTerm :=
 (forE (fun (x:Int × ByteArray) (s:PTerm)=>hilbert_fun.b0 x.1 x.2 s) (bwd a1) a0).bind (fin (fun (s7:PTerm)=>some s7) (fun (z:Empty)=>z.elim))
def hilbert_axiom.f (a0:Int):Option PTerm :=
 (hilbert_v.f (⟨#[97]⟩ : ByteArray)).bind fun r3=>(hilbert_v.f (⟨#[98]⟩ : ByteArray)).bind fun r7=>(hilbert_v.f (⟨#[99]⟩ : ByteArray)).bind fun r11=>if decide (a0=1) then (hilbert_fun.f r3 ([(⟨#[97]⟩ : ByteArray),(⟨#[98]⟩ : ByteArray)])).bind fun r28=>some r28 else if decide (a0=2) then (hilbert_node.f 3 ([r3,r11])).bind fun r37=>(hilbert_node.f 3 ([r7,r11])).bind fun r44=>(hilbert_node.f 3 ([r37,r44])).bind fun r51=>(hilbert_fun.f r51 ([(⟨#[97]⟩ : ByteArray),(⟨#[98]⟩ : ByteArray),(⟨#[99]⟩ : ByteArray)])).bind fun r86=>some r86 else if decide (a0=3) then (hilbert_node.f 5 ([r3])).bind fun r95=>(hilbert_fun.f r95 ([(⟨#[97]⟩ : ByteArray)])).bind fun r102=>some r102 else if decide (a0=4) then (hilbert_node.f 6 ([r3])).bind fun r111=>(hilbert_fun.f r111 ([(⟨#[97]⟩ : ByteArray)])).bind fun r118=>some r118 else if decide (a0=5) then (hilbert_node.f 4 ([r3,r7])).bind fun r127=>(hilbert_fun.f r127 ([(⟨#[97]⟩ : ByteArray),(⟨#[98]⟩ : ByteArray)])).bind fun r134=>some r134 else if decide (a0=6) then (hilbert_node.f 7 ([r3])).bind fun r143=>(hilbert_fun.f r143 ([(⟨#[97]⟩ : ByteArray)])).bind fun r150=>some r150 else if decide (a0=7) then (hilbert_node.f 8 ([r3])).bind fun r159=>(hilbert_fun.f r159 ([(⟨#[97]⟩ : ByteArray)])).bind fun r166=>some r166 else if decide (a0=8) then (hilbert_v.f (⟨#[100]⟩ : ByteArray)).bind fun r172=>(hilbert_node.f 3 ([r3,r172])).bind fun r179=>(hilbert_v.f (⟨#[101]⟩ : ByteArray)).bind fun r183=>(hilbert_node.f 3 ([r7,r183])).bind fun r190=>(hilbert_node.f 9 ([r11,r179,r190])).bind fun r197=>(hilbert_fun.f (⟨r197.kind,(⟨#[100]⟩ : ByteArray),(⟨#[101]⟩ : ByteArray),r197.form,r197.sub⟩ : PTerm) ([(⟨#[97]⟩ : ByteArray),(⟨#[98]⟩ : ByteArray),(⟨#[99]⟩ : ByteArray)])).bind fun r244=>some r244 else (hilbert_node.f 10 ([r3])).bind fun r252=>(hilbert_fun.f r252 ([(⟨#[97]⟩ : ByteArray)])).bind fun r259=>some r259
def hilbert_Term.b0  (i25:Int) (y25:Ln) (x25_0:PTerm):Option (Stp PTerm Empty) :=
 (if decide (y25.kind=10) then (octet_Dec.f y25.form).bind fun r35=>chk (decide ((⟨#[104]⟩ : ByteArray).size + r35.size ≤ 1000000)) ((hilbert_v.f ((⟨#[104]⟩ : ByteArray) ++ r35)).bind fun r39=>some (r39)) else if decide (y25.kind=11) then (hilbert_Term_1.f y25.a).bind fun r47=>(hilbert_v.f r47).bind fun r50=>(hilbert_Term_1.f y25.b).bind fun r65=>(hilbert_v.f r65).bind fun r68=>(hilbert_node.f 3 ([r50,r68])).bind fun r75=>some (r75) else (hilbert_axiom.f y25.kind).bind fun r80=>(hilbert_node.f 11 ([r80])).bind fun r87=>some ((⟨r87.kind,r87.name,r87.other,y25.form,r87.sub⟩ : PTerm))).bind fun (o32:PTerm)=>(hilbert_Term_1.f i25).bind fun r96=>some (.go (⟨12,r96,ByteArray.empty,0,[o32,x25_0]⟩ : PTerm))
def hilbert_Term.f (k:Nat) (a0:Tb) (a1:List Int) (a2:List Ln):Option (Tb × PTerm × Int) :=
 (hilbert_Check.f k a0 a1 a2).bind fun r3=>if decide (r3.2 ≠ 0) then some (r3.1,(⟨0,ByteArray.empty,ByteArray.empty,0,[]⟩ : PTerm),r3.2) else if decide (1024 < (a2.length:Int)) then some (r3.1,(⟨0,ByteArray.empty,ByteArray.empty,0,[]⟩ : PTerm),150) else (hilbert_Term_1.f (IntKind.i64.wrap ((a2.length:Int) - 1))).bind fun r13=>(hilbert_v.f r13).bind fun r16=>(forE (fun (x:Int × Ln) (s:PTerm)=>hilbert_Term.b0 x.1 x.2 s) (bwd a2) r16).bind (fin (fun (s25:PTerm)=>(term_Size.f s25).bind fun r115=>(if (!(decide (65536 < r115))) then term_Deep.f k s25 else some 0).bind fun r118=>if (decide (65536 < r115)) || (decide (1024 < r118)) then some (r3.1,(⟨0,ByteArray.empty,ByteArray.empty,0,[]⟩ : PTerm),150) else some (r3.1,s25,0)) (fun (z:Empty)=>z.elim))
end Go.Proofs.YtflieamjacclnaaGreatDoor
end
section
namespace Go.Proofs.YtflieamjacclnaaGreatDoor
open Gw
def formula_Table_Atom.f (a0:Tb) (a1:ByteArray):Option (Tb × Int × Int) :=
 (formula_Table_Put.f a0 ({ Nd.z with kind:=1,name:=a1 })).bind fun r1=>some (r1.1,r1.2.1,r1.2.2)
def law16_num.f (a0:Int):Option Int :=
 some a0
def ref12_Same.b0 (a0:PTerm) (a1:PTerm) (rec_ref12_Same:PTerm→PTerm→Option Bool) (x6_0:Int):Option (Stp Int Bool) :=
 if decide (x6_0 < (a0.sub.length:Int)) then chk (inb x6_0 a0.sub.length) (chk (inb x6_0 a1.sub.length) ((rec_ref12_Same (at_ PTerm.z a0.sub x6_0) (at_ PTerm.z a1.sub x6_0)).bind fun r15=>if !r15 then some (.ret false) else some (.go (IntKind.i64.wrap (x6_0 + 1))))) else some (.brk x6_0)
def ref12_Same.g (rec_ref12_Same:PTerm→PTerm→Option Bool) (k:Nat) (a0:PTerm) (a1:PTerm):Option Bool :=
 if ((((decide (a0.kind ≠ a1.kind)) || (decide (a0.name ≠ a1.name))) || (decide (a0.other ≠ a1.other))) || (decide (a0.form ≠ a1.form))) || (decide ((a0.sub.length:Int) ≠ (a1.sub.length:Int))) then some false else (iter (fun s=>ref12_Same.b0 a0 a1 rec_ref12_Same s) k 0).bind (aft fun (s6:Int)=>some true)
def ref12_Same.f:Nat→PTerm→PTerm→Option Bool
 | 0=>fun _ _=>none
 | k + 1=>ref12_Same.g (ref12_Same.f k) k
def ref16_Lines.b0 (a1:List Ln) (a0:List Ln) (i2:Int):Option (Stp Unit Bool) :=
 chk (inb i2 a1.length) (if !decide (at_ Ln.z a0 i2=at_ Ln.z a1 i2) then some (.ret false) else some (.go ()))
def ref16_Lines.f (a0:List Ln) (a1:List Ln):Option Bool :=
 if decide ((a0.length:Int) ≠ (a1.length:Int)) then some false else (forN (fun i s=>ref16_Lines.b0 a1 a0 i) ((a0.length:Int) - 0).toNat 0 ()).bind (aft fun (s2:Unit)=>some true)
def law16_heads.f (k:Nat)  : Option Bool :=
 (formula_New.f).bind fun r1=>(formula_Table_Atom.f r1 (⟨#[112]⟩ : ByteArray)).bind fun r5=>(formula_Table_Imp.f r5.1 r5.2.1 r5.2.1).bind fun r8=>(hilbert_Deduce.f k r8.1 ([r5.2.1]) ([{ Ln.z with kind:=10,form:=r5.2.1 }]) r5.2.1).bind fun r17=>(hilbert_Compile.f k r17.1 ([]) (⟨2,(⟨#[120]⟩ : ByteArray),ByteArray.empty,0,[(⟨1,(⟨#[120]⟩ : ByteArray),ByteArray.empty,0,[]⟩ : PTerm)]⟩ : PTerm) r8.2.1).bind fun r24=>(hilbert_Tells.f k r24.1 ([]) r17.2.1).bind fun r28=>(hilbert_Term.f k r28.1 ([r5.2.1]) ([{ Ln.z with kind:=10,form:=r5.2.1 }])).bind fun r37=>if decide ((r17.2.1.length:Int) ≠ 5) then some false else chk (inb 3 r17.2.1.length) ((hilbert_Is.f k r37.1 1 ((at_ Ln.z r17.2.1 3).form)).bind fun r46=>(law16_num.f r17.2.2).bind fun r55=>(if (decide (r55=0)) then law16_num.f r24.2.2 else some 0).bind fun r58=>(if ((decide (r55=0)) && (decide (r58=0))) then ref16_Lines.f r17.2.1 r24.2.1 else some false).bind fun r60=>(if (((decide (r55=0)) && (decide (r58=0))) && r60) then law16_num.f r28.2.2 else some 0).bind fun r62=>(if (((((decide (r55=0)) && (decide (r58=0))) && r60) && (decide (r62=0))) && (decide (r28.2.1=r8.2.1))) then law16_num.f r37.2.2 else some 0).bind fun r64=>(if ((((((decide (r55=0)) && (decide (r58=0))) && r60) && (decide (r62=0))) && (decide (r28.2.1=r8.2.1))) && (decide (r64=0))) then ref12_Same.f k r37.2.1 (⟨12,(⟨#[108,48]⟩ : ByteArray),ByteArray.empty,0,[(⟨1,(⟨#[104,48]⟩ : ByteArray),ByteArray.empty,0,[]⟩ : PTerm),(⟨1,(⟨#[108,48]⟩ : ByteArray),ByteArray.empty,0,[]⟩ : PTerm)]⟩ : PTerm) else some false).bind fun r66=>(if (((((((decide (r55=0)) && (decide (r58=0))) && r60) && (decide (r62=0))) && (decide (r28.2.1=r8.2.1))) && (decide (r64=0))) && r66) then law16_num.f r46.2.2 else some 0).bind fun r68=>(if (((((((((decide (r55=0)) && (decide (r58=0))) && r60) && (decide (r62=0))) && (decide (r28.2.1=r8.2.1))) && (decide (r64=0))) && r66) && (decide (r68=0))) && r46.2.1) then hilbert_Check.f k r46.1 ([]) ([]) else some (r46.1,0)).bind fun r70=>(if (((((((((decide (r55=0)) && (decide (r58=0))) && r60) && (decide (r62=0))) && (decide (r28.2.1=r8.2.1))) && (decide (r64=0))) && r66) && (decide (r68=0))) && r46.2.1) then law16_num.f r70.2 else some 0).bind fun r73=>some ((((((((((decide (r55=0)) && (decide (r58=0))) && r60) && (decide (r62=0))) && (decide (r28.2.1=r8.2.1))) && (decide (r64=0))) && r66) && (decide (r68=0))) && r46.2.1) && (decide (r73=160))))
end Go.Proofs.YtflieamjacclnaaGreatDoor
end
section
namespace Go.Proofs.YtflieamjacclnaaGreatDoor
open Gw
def law04_Tables.f (a0:List Nd):Option (Tb × Tb) :=
 (law03_Both.f a0).bind fun r1=>if !r1.2.2 then (formula_New.f).bind fun r7=>some (r7,(some [])) else some (r1.1,r1.2.1)
def law04_Same.f (a0:Tb) (a1:Tb):Option Bool :=
 (law03_Like.f a0 a1).bind fun r1=>some r1
end Go.Proofs.YtflieamjacclnaaGreatDoor
end
section
namespace Go.Proofs.YtflieamjacclnaaGreatDoor
open Gw
def ref16_imp.f (a0:Tb) (a1:Int):Option (Int × Int × Bool) :=
 chk a0.isSome (chk (inb a1 (a0.getD []).length) (some ((at_ Nd.z (a0.getD []) a1).l,(at_ Nd.z (a0.getD []) a1).r,decide ((at_ Nd.z (a0.getD []) a1).kind=5))))
def ref16_Is.f (a0:Tb) (a1:Int) (a2:Int):Option Bool :=
 (ref16_imp.f a0 a2).bind fun r1=>if !r1.2.2 then some false else (ref16_imp.f a0 r1.2.1).bind fun r5=>chk a0.isSome (chk (inb r1.1 (a0.getD []).length) (chk (inb r1.2.1 (a0.getD []).length) (if decide (a1=1) then some (r5.2.2 && (decide (r5.2.1=r1.1))) else if decide (a1=2) then chk (!(!((!r5.2.2) || (decide ((at_ Nd.z (a0.getD []) r1.1).kind ≠ 5)))) || (inb ((at_ Nd.z (a0.getD []) r1.1).r) (a0.getD []).length)) (chk (!(!(((!r5.2.2) || (decide ((at_ Nd.z (a0.getD []) r1.1).kind ≠ 5))) || (decide ((at_ Nd.z (a0.getD []) ((at_ Nd.z (a0.getD []) r1.1).r)).kind ≠ 5)))) || (inb r5.1 (a0.getD []).length)) (chk (!(!((((!r5.2.2) || (decide ((at_ Nd.z (a0.getD []) r1.1).kind ≠ 5))) || (decide ((at_ Nd.z (a0.getD []) ((at_ Nd.z (a0.getD []) r1.1).r)).kind ≠ 5))) || (decide ((at_ Nd.z (a0.getD []) r5.1).kind ≠ 5)))) || (inb r5.2.1 (a0.getD []).length)) (if ((((!r5.2.2) || (decide ((at_ Nd.z (a0.getD []) r1.1).kind ≠ 5))) || (decide ((at_ Nd.z (a0.getD []) ((at_ Nd.z (a0.getD []) r1.1).r)).kind ≠ 5))) || (decide ((at_ Nd.z (a0.getD []) r5.1).kind ≠ 5))) || (decide ((at_ Nd.z (a0.getD []) r5.2.1).kind ≠ 5)) then some false else chk (inb r5.1 (a0.getD []).length) (chk (!(decide ((at_ Nd.z (a0.getD []) r5.1).l=(at_ Nd.z (a0.getD []) r1.1).l)) || (inb r5.2.1 (a0.getD []).length)) (chk (!((decide ((at_ Nd.z (a0.getD []) r5.1).l=(at_ Nd.z (a0.getD []) r1.1).l)) && (decide ((at_ Nd.z (a0.getD []) r5.2.1).l=(at_ Nd.z (a0.getD []) r1.1).l))) || (inb r5.1 (a0.getD []).length)) (chk (!((decide ((at_ Nd.z (a0.getD []) r5.1).l=(at_ Nd.z (a0.getD []) r1.1).l)) && (decide ((at_ Nd.z (a0.getD []) r5.2.1).l=(at_ Nd.z (a0.getD []) r1.1).l))) || (inb ((at_ Nd.z (a0.getD []) r1.1).r) (a0.getD []).length)) (chk (!(((decide ((at_ Nd.z (a0.getD []) r5.1).l=(at_ Nd.z (a0.getD []) r1.1).l)) && (decide ((at_ Nd.z (a0.getD []) r5.2.1).l=(at_ Nd.z (a0.getD []) r1.1).l))) && (decide ((at_ Nd.z (a0.getD []) r5.1).r=(at_ Nd.z (a0.getD []) ((at_ Nd.z (a0.getD []) r1.1).r)).l))) || (inb r5.2.1 (a0.getD []).length)) (chk (!(((decide ((at_ Nd.z (a0.getD []) r5.1).l=(at_ Nd.z (a0.getD []) r1.1).l)) && (decide ((at_ Nd.z (a0.getD []) r5.2.1).l=(at_ Nd.z (a0.getD []) r1.1).l))) && (decide ((at_ Nd.z (a0.getD []) r5.1).r=(at_ Nd.z (a0.getD []) ((at_ Nd.z (a0.getD []) r1.1).r)).l))) || (inb ((at_ Nd.z (a0.getD []) r1.1).r) (a0.getD []).length)) (some ((((decide ((at_ Nd.z (a0.getD []) r5.1).l=(at_ Nd.z (a0.getD []) r1.1).l)) && (decide ((at_ Nd.z (a0.getD []) r5.2.1).l=(at_ Nd.z (a0.getD []) r1.1).l))) && (decide ((at_ Nd.z (a0.getD []) r5.1).r=(at_ Nd.z (a0.getD []) ((at_ Nd.z (a0.getD []) r1.1).r)).l))) && (decide ((at_ Nd.z (a0.getD []) r5.2.1).r=(at_ Nd.z (a0.getD []) ((at_ Nd.z (a0.getD []) r1.1).r)).r)))))))))))) else if decide (a1=3) then some ((decide ((at_ Nd.z (a0.getD []) r1.1).kind=3)) && (decide ((at_ Nd.z (a0.getD []) r1.1).l=r1.2.1))) else if decide (a1=4) then some ((decide ((at_ Nd.z (a0.getD []) r1.1).kind=3)) && (decide ((at_ Nd.z (a0.getD []) r1.1).r=r1.2.1))) else if decide (a1=5) then chk (!r5.2.2 || (inb r5.2.1 (a0.getD []).length)) (chk (!(r5.2.2 && (decide ((at_ Nd.z (a0.getD []) r5.2.1).kind=3))) || (inb r5.2.1 (a0.getD []).length)) (chk (!((r5.2.2 && (decide ((at_ Nd.z (a0.getD []) r5.2.1).kind=3))) && (decide ((at_ Nd.z (a0.getD []) r5.2.1).l=r1.1))) || (inb r5.2.1 (a0.getD []).length)) (some (((r5.2.2 && (decide ((at_ Nd.z (a0.getD []) r5.2.1).kind=3))) && (decide ((at_ Nd.z (a0.getD []) r5.2.1).l=r1.1))) && (decide ((at_ Nd.z (a0.getD []) r5.2.1).r=r5.1)))))) else if decide (a1=6) then some ((decide ((at_ Nd.z (a0.getD []) r1.2.1).kind=4)) && (decide ((at_ Nd.z (a0.getD []) r1.2.1).l=r1.1))) else if decide (a1=7) then some ((decide ((at_ Nd.z (a0.getD []) r1.2.1).kind=4)) && (decide ((at_ Nd.z (a0.getD []) r1.2.1).r=r1.1))) else if decide (a1=8) then chk (!(!((!r5.2.2) || (decide ((at_ Nd.z (a0.getD []) r1.1).kind ≠ 5)))) || (inb r5.1 (a0.getD []).length)) (chk (!(!(((!r5.2.2) || (decide ((at_ Nd.z (a0.getD []) r1.1).kind ≠ 5))) || (decide ((at_ Nd.z (a0.getD []) r5.1).kind ≠ 5)))) || (inb r5.2.1 (a0.getD []).length)) (chk (!(!((((!r5.2.2) || (decide ((at_ Nd.z (a0.getD []) r1.1).kind ≠ 5))) || (decide ((at_ Nd.z (a0.getD []) r5.1).kind ≠ 5))) || (decide ((at_ Nd.z (a0.getD []) r5.2.1).kind ≠ 5)))) || (inb r5.2.1 (a0.getD []).length)) (chk (!(!((((!r5.2.2) || (decide ((at_ Nd.z (a0.getD []) r1.1).kind ≠ 5))) || (decide ((at_ Nd.z (a0.getD []) r5.1).kind ≠ 5))) || (decide ((at_ Nd.z (a0.getD []) r5.2.1).kind ≠ 5)))) || (inb ((at_ Nd.z (a0.getD []) r5.2.1).l) (a0.getD []).length)) (if ((((!r5.2.2) || (decide ((at_ Nd.z (a0.getD []) r1.1).kind ≠ 5))) || (decide ((at_ Nd.z (a0.getD []) r5.1).kind ≠ 5))) || (decide ((at_ Nd.z (a0.getD []) r5.2.1).kind ≠ 5))) || (decide ((at_ Nd.z (a0.getD []) ((at_ Nd.z (a0.getD []) r5.2.1).l)).kind ≠ 4)) then some false else chk (inb r5.2.1 (a0.getD []).length) (chk (inb ((at_ Nd.z (a0.getD []) r5.2.1).l) (a0.getD []).length) (chk (!(decide ((at_ Nd.z (a0.getD []) ((at_ Nd.z (a0.getD []) r5.2.1).l)).l=(at_ Nd.z (a0.getD []) r1.1).l)) || (inb r5.1 (a0.getD []).length)) (chk (!((decide ((at_ Nd.z (a0.getD []) ((at_ Nd.z (a0.getD []) r5.2.1).l)).l=(at_ Nd.z (a0.getD []) r1.1).l)) && (decide ((at_ Nd.z (a0.getD []) ((at_ Nd.z (a0.getD []) r5.2.1).l)).r=(at_ Nd.z (a0.getD []) r5.1).l))) || (inb r5.1 (a0.getD []).length)) (chk (!(((decide ((at_ Nd.z (a0.getD []) ((at_ Nd.z (a0.getD []) r5.2.1).l)).l=(at_ Nd.z (a0.getD []) r1.1).l)) && (decide ((at_ Nd.z (a0.getD []) ((at_ Nd.z (a0.getD []) r5.2.1).l)).r=(at_ Nd.z (a0.getD []) r5.1).l))) && (decide ((at_ Nd.z (a0.getD []) r5.1).r=(at_ Nd.z (a0.getD []) r1.1).r))) || (inb r5.2.1 (a0.getD []).length)) (some ((((decide ((at_ Nd.z (a0.getD []) ((at_ Nd.z (a0.getD []) r5.2.1).l)).l=(at_ Nd.z (a0.getD []) r1.1).l)) && (decide ((at_ Nd.z (a0.getD []) ((at_ Nd.z (a0.getD []) r5.2.1).l)).r=(at_ Nd.z (a0.getD []) r5.1).l))) && (decide ((at_ Nd.z (a0.getD []) r5.1).r=(at_ Nd.z (a0.getD []) r1.1).r))) && (decide ((at_ Nd.z (a0.getD []) r5.2.1).r=(at_ Nd.z (a0.getD []) r1.1).r)))))))))))) else if decide (a1=9) then some (decide ((at_ Nd.z (a0.getD []) r1.1).kind=2)) else some false)))
end Go.Proofs.YtflieamjacclnaaGreatDoor
end
section
namespace Go.Proofs.YtflieamjacclnaaGreatDoor
open Gw
def ref16_right.b0 (a1:List Int) (a2:List Ln) (a3:Int) (i17:Int):Option (Stp Unit Bool) :=
 if decide (at_ (0:Int) a1 i17=(at_ Ln.z a2 a3).form) then some (.ret true) else some (.go ())
def ref16_right.f (a0:Tb) (a1:List Int) (a2:List Ln) (a3:Int):Option Bool :=
 chk (inb a3 a2.length) (if decide ((at_ Ln.z a2 a3).kind=11) then if (((decide ((at_ Ln.z a2 a3).a < 0)) || (decide (a3 ≤ (at_ Ln.z a2 a3).a))) || (decide ((at_ Ln.z a2 a3).b < 0))) || (decide (a3 ≤ (at_ Ln.z a2 a3).b)) then some false else chk (inb ((at_ Ln.z a2 a3).a) a2.length) ((ref16_imp.f a0 ((at_ Ln.z a2 ((at_ Ln.z a2 a3).a)).form)).bind fun r8=>chk (!r8.2.2 || (inb ((at_ Ln.z a2 a3).b) a2.length)) (some ((r8.2.2 && (decide (r8.1=(at_ Ln.z a2 ((at_ Ln.z a2 a3).b)).form))) && (decide (r8.2.1=(at_ Ln.z a2 a3).form))))) else if (decide ((at_ Ln.z a2 a3).a ≠ 0)) || (decide ((at_ Ln.z a2 a3).b ≠ 0)) then some false else if decide ((at_ Ln.z a2 a3).kind ≠ 10) then (ref16_Is.f a0 ((at_ Ln.z a2 a3).kind) ((at_ Ln.z a2 a3).form)).bind fun r14=>some r14 else (forN (fun i s=>ref16_right.b0 a1 a2 a3 i) ((a1.length:Int) - 0).toNat 0 ()).bind (aft fun (s17:Unit)=>some false))
def ref16_Check.b0 (a0:Tb) (a1:List Int) (i1:Int):Option (Stp Unit Int) :=
 (ref03_T_Has.f a0 (at_ (0:Int) a1 i1)).bind fun r4=>if !r4 then some (.ret 31) else some (.go ())
def ref16_Check.b1 (a0:Tb) (a2:List Ln) (i10:Int):Option (Stp Unit Int) :=
 (ref03_T_Has.f a0 ((at_ Ln.z a2 i10).form)).bind fun r13=>if !r13 then some (.ret 31) else some (.go ())
def ref16_Check.b2 (a0:Tb) (a1:List Int) (a2:List Ln) (i19:Int):Option (Stp Unit Int) :=
 (ref16_right.f a0 a1 a2 i19).bind fun r21=>if !r21 then some (.ret 160) else some (.go ())
def ref16_Check.f (a0:Tb) (a1:List Int) (a2:List Ln):Option Int :=
 (forN (fun i s=>ref16_Check.b0 a0 a1 i) ((a1.length:Int) - 0).toNat 0 ()).bind (aft fun (s1:Unit)=>(forN (fun i s=>ref16_Check.b1 a0 a2 i) ((a2.length:Int) - 0).toNat 0 ()).bind (aft fun (s10:Unit)=>(forN (fun i s=>ref16_Check.b2 a0 a1 a2 i) ((a2.length:Int) - 0).toNat 0 ()).bind (aft fun (s19:Unit)=>if decide ((a2.length:Int)=0) then some 160 else some 0)))
end Go.Proofs.YtflieamjacclnaaGreatDoor
end
section
namespace Go.Proofs.YtflieamjacclnaaGreatDoor
open Gw
def ref03_T_Two.f (a0:Tb) (a1:Int) (a2:Int) (a3:Int):Option (Tb × Int × Int) :=
 (ref03_T_Put.f a0 ({ Nd.z with kind:=a1,l:=a2,r:=a3 })).bind fun r1=>some (r1.1,r1.2.1,r1.2.2)
def ref16_maker_two.f (a0:PRMaker) (a1:Int) (a2:Int) (a3:Int):Option (PRMaker × Int) :=
 if decide (a0.bad ≠ 0) then some (a0,0) else (ref03_T_Two.f a0.t a1 a2 a3).bind fun r8=>some ((⟨r8.1,a0.l,r8.2.2⟩ : PRMaker),r8.2.1)
def ref16_maker_imp.f (a0:PRMaker) (a1:Int) (a2:Int):Option (PRMaker × Int) :=
 (ref16_maker_two.f a0 5 a1 a2).bind fun r1=>some (r1.1,r1.2)
def ref16_maker_put.f (a0:PRMaker) (a1:Int) (a2:Int) (a3:Int) (a4:Int):Option (PRMaker × Int) :=
 (if (decide (a0.bad=0)) && (decide (4096 ≤ (a0.l.length:Int))) then some ((⟨a0.t,a0.l,150⟩ : PRMaker)) else some (a0)).bind fun (o4:PRMaker)=>if decide (o4.bad ≠ 0) then some (o4,0) else chk (decide ((o4.l.length + ([(⟨a1,a2,a3,a4⟩ : Ln)]).length) * 32 ≤ 140737488355328)) (some ((⟨o4.t,o4.l ++ [(⟨a1,a2,a3,a4⟩ : Ln)],o4.bad⟩ : PRMaker),IntKind.i64.wrap (((o4.l ++ [(⟨a1,a2,a3,a4⟩ : Ln)]).length:Int) - 1)))
def ref16_maker_mp.f (a0:PRMaker) (a1:Int) (a2:Int):Option (PRMaker × Int) :=
 if decide (a0.bad ≠ 0) then some (a0,0) else chk a0.t.isSome (chk (inb a1 a0.l.length) (chk (inb ((at_ Ln.z a0.l a1).form) (a0.t.getD []).length) ((ref16_maker_put.f (⟨(some (a0.t.getD [])),a0.l,a0.bad⟩ : PRMaker) 11 ((at_ Nd.z (a0.t.getD []) ((at_ Ln.z a0.l a1).form)).r) a1 a2).bind fun r15=>some (r15.1,r15.2))))
def ref16_maker_s.f (a0:PRMaker) (a1:Int) (a2:Int) (a3:Int):Option (PRMaker × Int) :=
 (ref16_maker_imp.f a0 a2 a3).bind fun r1=>(ref16_maker_imp.f r1.1 a1 r1.2).bind fun r4=>(ref16_maker_imp.f r4.1 a1 a2).bind fun r7=>(ref16_maker_imp.f r7.1 a1 a3).bind fun r10=>(ref16_maker_imp.f r10.1 r7.2 r10.2).bind fun r13=>(ref16_maker_imp.f r13.1 r4.2 r13.2).bind fun r16=>(ref16_maker_put.f r16.1 2 r16.2 0 0).bind fun r19=>some (r19.1,r19.2)
def ref16_maker_k.f (a0:PRMaker) (a1:Int) (a2:Int):Option (PRMaker × Int) :=
 (ref16_maker_imp.f a0 a2 a1).bind fun r1=>(ref16_maker_imp.f r1.1 a1 r1.2).bind fun r4=>(ref16_maker_put.f r4.1 1 r4.2 0 0).bind fun r7=>some (r7.1,r7.2)
def ref16_deduce.b0 (a1:List Ln) (a2:Int) (x7_0:Int) (x7_1:List Int) (x7_2:PRMaker):Option (Stp (Int × List Int × PRMaker) (Tb × List Ln × Int)) :=
 if (decide (x7_0 < (a1.length:Int))) && (decide (x7_2.bad=0)) then chk (inb x7_0 a1.length) (if decide ((at_ Ln.z a1 x7_0).form=a2) then (ref16_maker_imp.f x7_2 a2 a2).bind fun r17=>(ref16_maker_s.f r17.1 a2 r17.2 a2).bind fun r20=>(ref16_maker_imp.f r20.1 a2 a2).bind fun r23=>(ref16_maker_k.f r23.1 a2 r23.2).bind fun r26=>(ref16_maker_mp.f r26.1 r20.2 r26.2).bind fun r29=>(ref16_maker_k.f r29.1 a2 a2).bind fun r32=>(ref16_maker_mp.f r32.1 r29.2 r32.2).bind fun r35=>chk (inb x7_0 x7_1.length) (some (.go (IntKind.i64.wrap (x7_0 + 1),x7_1.set (x7_0).toNat r35.2,r35.1))) else if decide ((at_ Ln.z a1 x7_0).kind ≠ 11) then (ref16_maker_put.f x7_2 ((at_ Ln.z a1 x7_0).kind) ((at_ Ln.z a1 x7_0).form) 0 0).bind fun r41=>(ref16_maker_k.f r41.1 ((at_ Ln.z a1 x7_0).form) a2).bind fun r44=>(ref16_maker_mp.f r44.1 r44.2 r41.2).bind fun r47=>chk (inb x7_0 x7_1.length) (some (.go (IntKind.i64.wrap (x7_0 + 1),x7_1.set (x7_0).toNat r47.2,r47.1))) else chk (inb ((at_ Ln.z a1 x7_0).b) a1.length) ((ref16_maker_s.f x7_2 a2 ((at_ Ln.z a1 ((at_ Ln.z a1 x7_0).b)).form) ((at_ Ln.z a1 x7_0).form)).bind fun r54=>chk (inb ((at_ Ln.z a1 x7_0).a) x7_1.length) ((ref16_maker_mp.f r54.1 r54.2 (at_ (0:Int) x7_1 ((at_ Ln.z a1 x7_0).a))).bind fun r58=>chk (inb ((at_ Ln.z a1 x7_0).b) x7_1.length) ((ref16_maker_mp.f r58.1 r58.2 (at_ (0:Int) x7_1 ((at_ Ln.z a1 x7_0).b))).bind fun r62=>chk (inb x7_0 x7_1.length) (some (.go (IntKind.i64.wrap (x7_0 + 1),x7_1.set (x7_0).toNat r62.2,r62.1))))))) else some (.brk (x7_0,x7_1,x7_2))
def ref16_deduce.f (k:Nat) (a0:Tb) (a1:List Ln) (a2:Int):Option (Tb × List Ln × Int) :=
 chk (decide (0 ≤ (a1.length:Int)∧((a1.length:Int)).toNat ≤ 16777216)) ((iter (fun s=>ref16_deduce.b0 a1 a2 s.1 s.2.1 s.2.2) k (0,List.replicate ((a1.length:Int)).toNat (0:Int),(⟨a0,([]:List Ln),0⟩ : PRMaker))).bind (aft fun (s7:Int × List Int × PRMaker)=>some (s7.2.2.t,s7.2.2.l,s7.2.2.bad)))
def ref03_T_Cut.f (a0:Tb) (a1:Int):Option (Tb × Int) :=
 chk a0.isSome (if (decide (a1 < 0)) || (decide (((a0.getD []).length:Int) < a1)) then some ((some (a0.getD [])),2) else chk (decide (0 ≤ a1∧a1 ≤ ((a0.getD []).length:Int))) (some ((some ((a0.getD []).take (a1).toNat)),0)))
def ref16_Deduce.f (k:Nat) (a0:Tb) (a1:List Int) (a2:List Ln) (a3:Int):Option (Tb × List Ln × Int) :=
 (ref03_T_Has.f a0 a3).bind fun r1=>if !r1 then some (a0,([]:List Ln),31) else (ref16_Check.f a0 a1 a2).bind fun r5=>if decide (r5 ≠ 0) then some (a0,([]:List Ln),r5) else chk a0.isSome ((ref16_deduce.f k (some (a0.getD [])) a2 a3).bind fun r13=>if decide (r13.2.2 ≠ 0) then (ref03_T_Cut.f r13.1 ((a0.getD []).length:Int)).bind fun r18=>some (r18.1,([]:List Ln),r13.2.2) else some (r13.1,r13.2.1,0))
def law16_HilbertDeduces.f (k:Nat) (a0:List Nd) (a1:List Int) (a2:List Ln) (a3:Int):Option Bool :=
 (law04_Tables.f a0).bind fun r1=>chk (decide ((([]:List Ln).length + a2.length) * 32 ≤ 140737488355328)) ((hilbert_Deduce.f k r1.1 a1 (([]:List Ln) ++ a2) a3).bind fun r12=>(ref16_Deduce.f k r1.2 a1 a2 a3).bind fun r16=>(ref16_Lines.f r12.2.1 r16.2.1).bind fun r20=>(if r20 then law16_num.f r12.2.2 else some 0).bind fun r23=>(if (r20 && (decide (r23=r16.2.2))) then ref16_Lines.f (([]:List Ln) ++ a2) a2 else some false).bind fun r25=>(if ((r20 && (decide (r23=r16.2.2))) && r25) then law04_Same.f r12.1 r16.1 else some false).bind fun r27=>(if (((r20 && (decide (r23=r16.2.2))) && r25) && r27) then law16_heads.f k else some false).bind fun r29=>some ((((r20 && (decide (r23=r16.2.2))) && r25) && r27) && r29))
end Go.Proofs.YtflieamjacclnaaGreatDoor
end
section
namespace Go.Proofs.YtflieamjacclnaaGreatDoor
open Gw Go.RowKit
set_option maxHeartbeats 4000000
set_option maxRecDepth 20000
theorem formula_From_st {A:Nat→Prop} {N:Oth} {w:World} {a0:List Nd} {s_0:SlV} (S:St A N w w [] [fS 4 Nd.C s_0 a0]) {r:Tb × Int} (H:formula_From.f a0=some r) :
  Calls PP F_formula_From #[s_0.v] w fun e w' => ∃ v,e = .returned v∧(∃ ao0:Option Addr,v = .tuple #[.pointer ao0,.int .i64 r.2]∧St A N w w' [oT ao0 r.1] []):=by
 unfold formula_From.f at H
 refine zA (n:=35) fn_formula_From rfl rfl (by simp) (zd (za ?_))
 replace S:=S.add (Ext.refl _) (oT.nil _) (fun _ x=>x.elim)
 refine wd (xg rfl) (wd (zh rfl) (zb (zd (za ?_))))
 obtain ⟨r1,er1,H⟩ := zq H
 obtain ⟨B3,MB3,SB3,back⟩ := S.calln 0 ((.nil))
 refine zu (zp ky) (by decide) (kk SB3 er1) ?_
 rintro _ w2 ⟨a4,rfl,S2⟩
 replace S:=back _ _ _ _ S2 rfl
 clear back S2 SB3
 refine wd (xg rfl) (zb (zd (zd (za (wd (zz rfl) (wd (xa zK rfl (S.rd 0)) (wd (zf rfl) (zb ?_))))))))
 obtain ⟨o5,e5,Ho5⟩ := zq H
 clear H
 refine xY [2,3,5,6,7,8,12,13,14,15,16,17,18,19,20,21,22,23,24,25,26,27,28,29,30,31,32,33] (fun fr W => ∃ s5:Tb,o5 = .inl s5∧St A N w W [oT a4 s5,oT none none] [fS 4 Nd.C s_0 a0]) ?_ ?_
 ·refine zQ ?_
  refine xW (α:=Nat × Int × Tb) [2,3,5,6,7,8,12,13,14,15,16,17,18,19,20,21,22,23,24,25,26,27,28,29,30,31,32,33] (fun x fr W=>(x.1:Int)=(a0.length:Int) - x.2.1∧0 ≤ x.2.1∧forN (fun i s=>formula_From.b0 a0 i s) x.1 x.2.1 x.2.2=some o5∧fr 12 = .int .i64 x.2.1∧St A N w W [oT a4 (x.2.2),oT none none] [fS 4 Nd.C s_0 a0]) (fun x=>x.1) (((a0.length:Int) - 0).toNat,0,r1) ⟨(by dsimp only; have hle:=Int.natCast_nonneg (a0.length); omega),(Int.le_refl _),(by dsimp only; exact e5),rfl,S⟩ ?_
  rintro ⟨m5,i5,x5_0⟩ g5 u5 ⟨hm5,hl5,e5,q5_i,S⟩
  try dsimp only at hm5
  try dsimp only at hl5
  try dsimp only at e5
  try dsimp only at S
  try dsimp only at q5_i
  refine zd (za (wd (xM q5_i rfl) (zb (zd ?_))))
  refine zH rfl (fun hc6=>?_) (fun hc6=>?_)
  rotate_left
  ·refine yn ?_
   have hge:(a0.length:Int) ≤ i5:=Int.not_lt.1 (of_decide_eq_false hc6)
   obtain rfl:m5=0:=by omega
   replace e5:=jy e5
   exact ⟨rfl,((Dif.self _ _ _).upd rfl _),x5_0,e5,S⟩
  refine zB ?_
  have hlt5:i5 < (a0.length:Int):=of_decide_eq_true hc6
  obtain ⟨m5,rfl⟩ : ∃ m,m5=m + 1:=⟨m5 - 1,by omega⟩
  obtain ⟨q5,H,e5⟩ := jC e5
  unfold formula_From.b0 at H
  try dsimp only at H
  have hb5:=(S.len 0)
  refine zd ?_
  refine zQ (zd (za (wd (zf q5_i) (wd (zN zK rfl q5_i (S.rd 0) (And.intro (show 0 ≤ i5 by omega) (show i5 < (a0.length:Int) from hlt5)).1 (And.intro (show 0 ≤ i5 by omega) (show i5 < (a0.length:Int) from hlt5)).2) (wd (zo xQ rfl ((S.rd 0).at (xj Nd.z (And.intro (show 0 ≤ i5 by omega) (show i5 < (a0.length:Int) from hlt5)))) (Nd.len _)) ?_)))))
  refine xe ua (by decide) fun b9 w8 hw8=>?_
  replace S:=S.new hw8
  refine wd (zh rfl) ?_
  refine zM xQ rfl rfl (S.blk 0) (Nd.len _) (by rw [Nd.len]; decide) (Nd.one _) (zZ (Nd.len _)) fun w10 B hw10 zw10=>?_
  replace S:=S.store 0 B hw10
  clear B
  refine zb (zd (za (wd (zj rfl) (wd (zo xQ rfl ((S.blk 0).all _ (Nd.len _)) (Nd.len _)) ?_))))
  obtain ⟨r11,er11,H⟩ := zq H
  replace S:=S.front 1
  obtain ⟨B13,MB13,SB13,back⟩ := S.calln 1 ((.nil))
  refine zu (zp vS) (by decide) (ja SB13 er11) ?_
  rintro _ w12 ⟨rfl,S2⟩
  replace S:=back _ _ _ _ S2 rfl
  clear back S2 SB13
  refine wd (z1 rfl) (wd (zr rfl rfl) (wd (zr rfl rfl) (wd (zh rfl) (wd (zh rfl) (zb (zd (zd (za ?_))))))))
  refine wd (zf rfl) (wd (zR rfl rfl) (wd (zE rfl) ?_))
  refine wg (fun hg=>zf rfl) ?_
  refine wg (fun hg=>zf rfl) ?_
  refine wg (fun hg=>xh (zl hg) (zl hg)) (wd (xc rfl (fun hp=>(zl (xn hp)))) (zb ?_))
  refine zH rfl (fun hc14=>?_) (fun hc14=>?_)
  ·replace H:=if_t hc14 H
   refine za (wd (zh rfl) (zb (zd (za (wd (zf rfl) (wd (xh rfl rfl) (zb ?_)))))))
   refine zH rfl (fun hc15=>?_) (fun hc15=>?_)
   ·replace H:=if_t hc15 H
    refine zd (za (wd (zf rfl) ?_))
    replace S:=S.add (Ext.refl _) (oT.nil _) (fun _ x=>x.elim)
    refine wd (xg rfl) (wd (zh rfl) (zb (zx ?_)))
    refine ⟨_,(xp (zg rfl) (zg rfl)),?_⟩
    replace S:=S.arr [0] []
    obtain rfl:=Option.some.inj H
    obtain rfl:=e5
    obtain rfl:=uG Ho5
    exact ⟨none,rfl,S⟩
   replace H:=if_f hc15 H
   refine zB (za (wd (xI q5_i rfl (c:=i5 + 1) rfl (by omega) (by omega)) (wd (zf rfl) (zb ?_))))
   replace S:=S.arr [0,2] [0]
   obtain rfl:=Option.some.inj H
   exact ⟨rfl,(by repeat first | exact Dif.refl _ _ | exact Dif.self _ _ _ | refine Dif.upd ?_ rfl _ | refine Dif.mask ?_ rfl _),(m5,i5 + 1,r11.1),⟨(by dsimp only; omega),(by dsimp only; omega),e5,rfl,S⟩,by dsimp only; omega⟩
  ·replace H:=if_f hc14 H
   refine zB (zd (za (wd (zf rfl) (wd (xh rfl rfl) (zb ?_)))))
   refine zH rfl (fun hc16=>?_) (fun hc16=>?_)
   ·replace H:=if_t hc16 H
    refine zd (za (wd (zf rfl) ?_))
    replace S:=S.add (Ext.refl _) (oT.nil _) (fun _ x=>x.elim)
    refine wd (xg rfl) (wd (zh rfl) (zb (zx ?_)))
    refine ⟨_,(xp (zg rfl) (zg rfl)),?_⟩
    replace S:=S.arr [0] []
    obtain rfl:=Option.some.inj H
    obtain rfl:=e5
    obtain rfl:=uG Ho5
    exact ⟨none,rfl,S⟩
   replace H:=if_f hc16 H
   refine zB (za (wd (xI q5_i rfl (c:=i5 + 1) rfl (by omega) (by omega)) (wd (zf rfl) (zb ?_))))
   replace S:=S.arr [0,2] [0]
   obtain rfl:=Option.some.inj H
   exact ⟨rfl,(by repeat first | exact Dif.refl _ _ | exact Dif.self _ _ _ | refine Dif.upd ?_ rfl _ | refine Dif.mask ?_ rfl _),(m5,i5 + 1,r11.1),⟨(by dsimp only; omega),(by dsimp only; omega),e5,rfl,S⟩,by dsimp only; omega⟩
 rintro g17 u18 ⟨s5,rfl,S⟩
 have H:=Ho5
 dsimp only [aft] at H
 refine zd (za (wd (zj rfl) (wd (xg rfl) (wd (zh rfl) (zb (zx ?_))))))
 refine ⟨_,(xp (zg rfl) (zg rfl)),?_⟩
 replace S:=S.arr [0] []
 obtain rfl:=Option.some.inj H
 exact ⟨a4,rfl,S⟩
theorem ref03_Same_st {A:Nat→Prop} {N:Oth} {w:World} {a0:List Nd} {s_0:SlV} {a1:List Nd} {s_1:SlV} (S:St A N w w [] [fS 4 Nd.C s_0 a0,fS 4 Nd.C s_1 a1]) {r:Bool} (H:ref03_Same.f a0 a1=some r) :
  Calls PP F_ref03_Same #[s_0.v,s_1.v] w fun e w' => ∃ v,e = .returned v∧(v = .bool r∧St A N w w' [] []):=by
 unfold ref03_Same.f at H
 refine zA (n:=26) fn_ref03_Same rfl rfl (by simp) (zd (za (wd (zm rfl) (zb (zd (zd (za (wd (zz rfl) ?_))))))))
 refine wd (xa zK rfl (S.rd 0)) (wd (zz rfl) (wd (xa zK rfl (S.rd 1)) (wd (xh rfl rfl) (zb ?_))))
 refine zH rfl (fun hc1=>?_) (fun hc1=>?_)
 ·replace H:=if_t hc1 H
  refine zd (za (wd (zm rfl) (zb (zx ?_))))
  refine ⟨_,(zV (zg rfl)),?_⟩
  replace S:=S.arr [] []
  obtain rfl:=Option.some.inj H
  exact ⟨rfl,S⟩
 replace H:=if_f hc1 H
 refine zB (zd (zd (za (wd (zh rfl) (zb ?_)))))
 obtain ⟨o2,e2,Ho2⟩ := zq H
 clear H
 refine xY [4,5,11,12,13,14,15,16,17,18,19,20,21,22,23,24,25] (fun fr W => ∃ s2:Unit,o2 = .inl s2∧St A N w W [] [fS 4 Nd.C s_0 a0,fS 4 Nd.C s_1 a1]) ?_ ?_
 ·refine zQ ?_
  refine xW (α:=Nat × Int × Unit) [4,5,11,12,13,14,15,16,17,18,19,20,21,22,23,24,25] (fun x fr W=>(x.1:Int)=(a0.length:Int) - x.2.1∧0 ≤ x.2.1∧forN (fun i s=>ref03_Same.b0 a1 a0 i) x.1 x.2.1 x.2.2=some o2∧fr 5 = .int .i64 x.2.1∧St A N w W [] [fS 4 Nd.C s_0 a0,fS 4 Nd.C s_1 a1]) (fun x=>x.1) (((a0.length:Int) - 0).toNat,0,()) ⟨(by dsimp only; have hle:=Int.natCast_nonneg (a0.length); omega),(Int.le_refl _),(by dsimp only; exact e2),rfl,S⟩ ?_
  rintro ⟨m2,i2,_⟩ g2 u2 ⟨hm2,hl2,e2,q2_i,S⟩
  try dsimp only at hm2
  try dsimp only at hl2
  try dsimp only at e2
  try dsimp only at S
  try dsimp only at q2_i
  refine zd (zd (za (wd (zf q2_i) (wd (zz rfl) (wd (xa zK rfl (S.rd 0)) (wd (xM rfl rfl) (zb ?_)))))))
  refine zH rfl (fun hc3=>?_) (fun hc3=>?_)
  rotate_left
  ·refine yn ?_
   have hge:(a0.length:Int) ≤ i2:=Int.not_lt.1 (of_decide_eq_false hc3)
   obtain rfl:m2=0:=by omega
   replace e2:=jy e2
   exact ⟨rfl,(((((Dif.self _ _ _).upd rfl _).upd rfl _).upd rfl _).upd rfl _),(),e2,S⟩
  refine zB ?_
  have hlt2:i2 < (a0.length:Int):=of_decide_eq_true hc3
  obtain ⟨m2,rfl⟩ : ∃ m,m2=m + 1:=⟨m2 - 1,by omega⟩
  obtain ⟨q2,H,e2⟩ := jC e2
  unfold ref03_Same.b0 at H
  try dsimp only at H
  have hb2:=(S.len 0)
  refine zd ?_
  refine zQ (zd ?_)
  refine xL 8 (Ext u2) hmix (by kernel_rfl) (by kernel_rfl) (Ext.drawn _) (zt (fun v K=>zz rfl) (zt (fun v K=>zf q2_i) (zt (fun v K=>zN zK rfl rfl ((S.ext K).rd 0) (And.intro (show 0 ≤ i2 by omega) (show i2 < (a0.length:Int) from hlt2)).1 (And.intro (show 0 ≤ i2 by omega) (show i2 < (a0.length:Int) from hlt2)).2) (zt (fun v K=>zo xQ rfl (((S.ext K).rd 0).at (xj Nd.z (And.intro (show 0 ≤ i2 by omega) (show i2 < (a0.length:Int) from hlt2)))) (Nd.len _)) (zt (fun v K=>zz rfl) ?_)))))
  refine zt (fun v K=>zf q2_i) ?_
  obtain ⟨hi5,H⟩ := xi H
  refine zt (fun v K=>zN zK rfl rfl ((S.ext K).rd 1) (zC hi5).1 (zC hi5).2) (zt (fun v K=>zo xQ rfl (((S.ext K).rd 1).at (xj Nd.z (zC hi5))) (Nd.len _)) ?_)
  refine yL fun w6 K=>?_
  replace S:=S.ext K
  clear K
  refine wd (does_nev eg_Nd (eq_Nd _ _) (by decide) rfl rfl) (zb ?_)
  refine zH rfl (fun hc7=>?_) (fun hc7=>?_)
  ·replace H:=if_t hc7 H
   refine zd (za (wd (zm rfl) (zb (zx ?_))))
   refine ⟨_,(zV (zg rfl)),?_⟩
   replace S:=S.arr [] []
   obtain rfl:=Option.some.inj H
   obtain rfl:=e2
   obtain rfl:=uG Ho2
   exact ⟨rfl,S⟩
  replace H:=if_f hc7 H
  refine zB (za (wd (zf q2_i) (wd (xI rfl rfl (c:=i2 + 1) rfl (by omega) (by omega)) (wd (zh rfl) (zb ?_)))))
  obtain rfl:=Option.some.inj H
  exact ⟨rfl,(by repeat first | exact Dif.refl _ _ | exact Dif.self _ _ _ | refine Dif.upd ?_ rfl _ | refine Dif.mask ?_ rfl _),(m2,i2 + 1,()),⟨(by dsimp only; omega),(by dsimp only; omega),e2,rfl,S⟩,by dsimp only; omega⟩
 rintro g8 u9 ⟨s2,rfl,S⟩
 have H:=Ho2
 dsimp only [aft] at H
 refine zd (za (wd (zm rfl) (zb (zx ?_))))
 refine ⟨_,(zV (zg rfl)),?_⟩
 replace S:=S.arr [] []
 obtain rfl:=Option.some.inj H
 exact ⟨rfl,S⟩
theorem jg {A:Nat→Prop} {N:Oth} {w:World} {a0:Tb} {a_0:Option Addr} {a1:Int} (S:St A N w w [] [oR a_0 a0]) {r:Bool} (H:ref03_T_Has.f a0 a1=some r) :
  Calls PP F_ref03_T_Has #[.pointer a_0,.int .i64 a1] w fun e w' => ∃ v,e = .returned v∧(v = .bool r∧St A N w w' [] []):=by
 unfold ref03_T_Has.f at H
 refine zA (n:=16) fn_ref03_T_Has rfl rfl (by simp) (zd (za (wd (zm rfl) (zb (zd (za (wd (zf rfl) ?_)))))))
 refine wd (vq rfl rfl) (wd (zE rfl) ?_)
 refine wg (fun hg=>zf rfl) ?_
 refine wg (fun hg=>zj rfl) ?_
 obtain ⟨ht1,H⟩ := xi H
 obtain ⟨p2,s3,hp4,S⟩ := S.seeR 0 ht1
 replace S:=S
 refine wg (fun hg=>zw (((zl hg):_=Value.pointer a_0).trans (congrArg Value.pointer hp4))) ?_
 refine wg (fun hg=>ze xo (zl hg) (o':=0) rfl) ?_
 refine wg (fun hg=>zi zW (zl hg) ((S.blkZ 0).cell (RTab.get_n _))) ?_
 refine wg (fun hg=>xa zK (zl hg) (S.rd 1)) ?_
 refine wg (fun hg=>xM (zl hg) (zl hg)) (wd (xc rfl (fun hp=>(zl (xn hp)))) (wd (zm rfl) ?_))
 replace S:=S.zs [2]
 refine zb (zx ?_)
 refine ⟨_,(zV (zg rfl)),?_⟩
 replace S:=S.arr [] []
 obtain rfl:=Option.some.inj H
 exact ⟨rfl,S⟩
theorem ref03_T_Find_st {A:Nat→Prop} {N:Oth} {w:World} {a0:Tb} {a_0:Option Addr} {a1:Nd} (S:St A N w w [] [oR a_0 a0]) {r:Int × Bool} (H:ref03_T_Find.f a0 a1=some r) :
  Calls PP F_ref03_T_Find #[.pointer a_0,.agg (Nd.C a1).toArray] w fun e w' => ∃ v,e = .returned v∧(v = .tuple #[.int .i64 r.1,.bool r.2]∧St A N w w' [] []):=by
 unfold ref03_T_Find.f at H
 refine zA (n:=26) fn_ref03_T_Find rfl rfl (by simp) (zd (za ?_))
 refine z7 rfl (by decide) fun b2 w1 hw1=>?_
 replace S:=S.new hw1
 refine wd (zh rfl) (wd (zm rfl) (zb (zd (zd (za (wd (zh rfl) (zb ?_)))))))
 obtain ⟨ht3,H⟩ := xi H
 obtain ⟨o4,e4,Ho4⟩ := zq H
 clear H
 refine xY [4,5,6,7,8,9,10,11,12,13,14,15,16,17,18,19,20,21,22,23,24,25] (fun fr W => ∃ s4:Unit,o4 = .inl s4∧St A N w W [oB b2 T_Nd (Nd.C a1)] [oR a_0 a0]) ?_ ?_
 ·refine zQ ?_
  refine xW (α:=Nat × Int × Unit) [4,5,6,7,8,9,10,11,12,13,14,15,16,17,18,19,20,21,22,23,24,25] (fun x fr W=>(x.1:Int)=((a0.getD []).length:Int) - x.2.1∧0 ≤ x.2.1∧forN (fun i s=>ref03_T_Find.b0 a0 a1 i) x.1 x.2.1 x.2.2=some o4∧fr 6 = .int .i64 x.2.1∧St A N w W [oB b2 T_Nd (Nd.C a1)] [oR a_0 a0]) (fun x=>x.1) ((((a0.getD []).length:Int) - 0).toNat,0,()) ⟨(by dsimp only; have hle:=Int.natCast_nonneg ((a0.getD []).length); omega),(Int.le_refl _),(by dsimp only; exact e4),rfl,S⟩ ?_
  rintro ⟨m4,i4,_⟩ g4 u4 ⟨hm4,hl4,e4,q4_i,S⟩
  try dsimp only at hm4
  try dsimp only at hl4
  try dsimp only at e4
  try dsimp only at S
  try dsimp only at q4_i
  refine zd (zd (za (wd (zf q4_i) (wd (zj rfl) ?_))))
  obtain ⟨p5,s6,hp7,S⟩ := S.seeR 0 ht3
  replace S:=S
  refine wd (zw (congrArg Value.pointer hp7)) (wd (ze xo rfl (o':=0) rfl) (wd (zi zW rfl ((S.blkZ 0).cell (RTab.get_n _))) (wd (xa zK rfl (S.rd 1)) (wd (xM rfl rfl) ?_))))
  replace S:=S.zs [2]
  refine zb ?_
  refine zH rfl (fun hc8=>?_) (fun hc8=>?_)
  rotate_left
  ·refine yn ?_
   have hge:((a0.getD []).length:Int) ≤ i4:=Int.not_lt.1 (of_decide_eq_false hc8)
   obtain rfl:m4=0:=by omega
   replace e4:=jy e4
   exact ⟨rfl,((((((((Dif.self _ _ _).upd rfl _).upd rfl _).upd rfl _).upd rfl _).upd rfl _).upd rfl _).upd rfl _),(),e4,S⟩
  refine zB ?_
  have hlt4:i4 < ((a0.getD []).length:Int):=of_decide_eq_true hc8
  obtain ⟨m4,rfl⟩ : ∃ m,m4=m + 1:=⟨m4 - 1,by omega⟩
  obtain ⟨q4,H,e4⟩ := jC e4
  unfold ref03_T_Find.b0 at H
  try dsimp only at H
  have hb4:=(S.lenRZ 0)
  refine zd ?_
  refine zQ (zd ?_)
  refine xL 8 (Ext u4) hmix (by kernel_rfl) (by kernel_rfl) (Ext.drawn _) (zt (fun v K=>zj rfl) ?_)
  obtain ⟨p9,s10,hp11,S⟩ := S.seeR 0 ht3
  replace S:=S
  refine zt (fun v K=>zw (congrArg Value.pointer hp11)) (zt (fun v K=>ze xo rfl (o':=0) rfl) (zt (fun v K=>zi zW rfl (((S.ext K).blkZ 0).cell (RTab.get_n _))) (zt (fun v K=>zf q4_i) (zt (fun v K=>zN zK rfl rfl ((S.ext K).rd 1) (And.intro (show 0 ≤ i4 by omega) (show i4 < ((a0.getD []).length:Int) from hlt4)).1 (And.intro (show 0 ≤ i4 by omega) (show i4 < ((a0.getD []).length:Int) from hlt4)).2) (zt (fun v K=>zo xQ rfl (((S.ext K).rd 1).at (xj Nd.z (And.intro (show 0 ≤ i4 by omega) (show i4 < ((a0.getD []).length:Int) from hlt4)))) (Nd.len _)) ?_)))))
  refine zt (fun v K=>zo xQ rfl (((S.ext K).blk 0).all _ (Nd.len _)) (Nd.len _)) ?_
  refine yL fun w13 K=>?_
  replace S:=S.ext K
  clear K
  refine wd (does_eqv eg_Nd (eq_Nd _ _) (by decide) rfl rfl) ?_
  replace S:=S.zs [2]
  refine zb ?_
  refine zH rfl (fun hc14=>?_) (fun hc14=>?_)
  ·replace H:=if_t hc14 H
   refine zd (za (wd (zf q4_i) (wd (zh rfl) (wd (zm rfl) (zb (zx ?_))))))
   refine ⟨_,(xp (zg rfl) (zg rfl)),?_⟩
   replace S:=S.arr [] []
   obtain rfl:=Option.some.inj H
   obtain rfl:=e4
   obtain rfl:=uG Ho4
   exact ⟨rfl,S⟩
  replace H:=if_f hc14 H
  refine zB (za (wd (zf q4_i) (wd (xI rfl rfl (c:=i4 + 1) rfl (by omega) (by omega)) (wd (zh rfl) (zb ?_)))))
  obtain rfl:=Option.some.inj H
  exact ⟨rfl,(by repeat first | exact Dif.refl _ _ | exact Dif.self _ _ _ | refine Dif.upd ?_ rfl _ | refine Dif.mask ?_ rfl _),(m4,i4 + 1,()),⟨(by dsimp only; omega),(by dsimp only; omega),e4,rfl,S⟩,by dsimp only; omega⟩
 rintro g15 u16 ⟨s4,rfl,S⟩
 have H:=Ho4
 dsimp only [aft] at H
 refine zd (za (wd (zh rfl) (wd (zm rfl) (zb (zx ?_)))))
 refine ⟨_,(xp (zg rfl) (zg rfl)),?_⟩
 replace S:=S.arr [] []
 obtain rfl:=Option.some.inj H
 exact ⟨rfl,S⟩
theorem ref03_T_Put_st {A:Nat→Prop} {N:Oth} {w:World} {a0:Tb} {a_0:Option Addr} {a1:Nd} (S:St A N w w [oR a_0 a0] []) {r:Tb × Int × Int} (H:ref03_T_Put.f a0 a1=some r) :
  Calls PP F_ref03_T_Put #[.pointer a_0,.agg (Nd.C a1).toArray] w fun e w' => ∃ v,e = .returned v∧(v = .tuple #[.int .i64 r.2.1,.int .i64 r.2.2]∧St A N w w' [oR a_0 r.1] []):=by
 unfold ref03_T_Put.f at H
 refine zA (n:=90) fn_ref03_T_Put rfl rfl (by simp) (zd (za ?_))
 refine z7 rfl (by decide) fun b2 w1 hw1=>?_
 replace S:=S.new hw1
 refine wd (zh rfl) (wd (zh rfl) (zb (zd (zd (za (wd (ze yl rfl (o':=0) rfl) (wd (zi xO rfl ((S.blk 0).cell (Nd.get_kind _))) (zb ?_))))))))
 obtain ⟨o3,e3,Ho3⟩ := zq H
 replace H:=e3; clear e3
 refine xY [4,5,10,11,12,13,14,15,16,17,18,19,20,21,22,23,24,25,26,27,28,29,30,31,32,33,34,35,36,37,38,39,40,41,42,43,44,45,46,47,48,49,50,51,52,53,54,55,56,57,58,59] (fun fr W => ∃ s3:Tb,o3 = .inl s3∧St A N w W [oB b2 T_Nd (Nd.C a1),oR a_0 s3] []) ?_ ?_
 ·refine zQ (zd (za (wd (zR rfl rfl) (wd (zm rfl) (zb ?_)))))
  refine zH rfl (fun hc4=>?_) (fun hc4=>?_)
  ·replace H:=if_t hc4 H
   refine zd (zd (za (wd (ze xX rfl (o':=2) rfl) (wd (zi zJ rfl ((S.blk 0).cell (Nd.get_l _))) (wd (xh rfl rfl) (wd (zE rfl) ?_))))))
   refine wg (fun hg=>ze xP rfl (o':=3) rfl) ?_
   refine wg (fun hg=>zi zJ (zl hg) ((S.blk 0).cell (Nd.get_r _))) ?_
   refine wg (fun hg=>xh (zl hg) rfl) (wd (xw rfl (fun hp=>(zl (xn hp)))) (zb ?_))
   refine zH rfl (fun hc5=>?_) (fun hc5=>?_)
   ·replace H:=if_t hc5 H
    refine zd (za (wd (zh rfl) (wd (zh rfl) (zb (zx ?_)))))
    refine ⟨_,(xp (zg rfl) (zg rfl)),?_⟩
    replace S:=S.arr [1] []
    obtain rfl:=Option.some.inj H
    obtain rfl:=uG Ho3
    exact ⟨rfl,S⟩
   replace H:=if_f hc5 H
   refine zB (zd (za (wd (ze jR rfl (o':=1) rfl) (wd (zi xv rfl ((S.blk 0).cell (Nd.get_name _))) ?_))))
   obtain ⟨r6,er6,H⟩ := zq H
   obtain ⟨B8,MB8,SB8,back⟩ := S.calln 0 ((.nil))
   refine zu (zp ca_ref03_Word) (by decide) (ref03_Word_st SB8 er6) ?_
   rintro _ w7 ⟨rfl,S2⟩
   replace S:=back _ _ _ _ S2 rfl
   clear back S2 SB8
   refine wd (xk rfl) (zb ?_)
   refine zH rfl (fun hc9=>?_) (fun hc9=>?_)
   ·replace H:=if_t hc9 H
    refine zd (za (wd (zh rfl) (wd (zh rfl) (zb (zx ?_)))))
    refine ⟨_,(xp (zg rfl) (zg rfl)),?_⟩
    replace S:=S.arr [1] []
    obtain rfl:=Option.some.inj H
    obtain rfl:=uG Ho3
    exact ⟨rfl,S⟩
   replace H:=if_f hc9 H
   refine zB ?_
   obtain rfl:=Option.some.inj H
   exact ⟨rfl,(by repeat first | exact Dif.refl _ _ | exact Dif.self _ _ _ | refine Dif.upd ?_ rfl _ | refine Dif.mask ?_ rfl _),a0,rfl,S⟩
  ·replace H:=if_f hc4 H
   refine zd (za (wd (zR rfl rfl) (wd (zm rfl) (zb ?_))))
   refine zH rfl (fun hc10=>?_) (fun hc10=>?_)
   ·replace H:=if_t hc10 H
    refine zd (za (wd (ze jR rfl (o':=1) rfl) (wd (zi xv rfl ((S.blk 0).cell (Nd.get_name _))) (wd (zaq rfl rfl) (wd (zE rfl) ?_)))))
    refine wg (fun hg=>ze xX rfl (o':=2) rfl) ?_
    refine wg (fun hg=>zi zJ (zl hg) ((S.blk 0).cell (Nd.get_l _))) ?_
    refine wg (fun hg=>xh (zl hg) rfl) (wd (xw rfl (fun hp=>(zl (xn hp)))) (wd (zE rfl) ?_))
    refine wg (fun hg=>ze xP rfl (o':=3) rfl) ?_
    refine wg (fun hg=>zi zJ (zl hg) ((S.blk 0).cell (Nd.get_r _))) ?_
    refine wg (fun hg=>xh (zl hg) rfl) (wd (xw rfl (fun hp=>(zl (xn hp)))) (zb ?_))
    refine zH rfl (fun hc11=>?_) (fun hc11=>?_)
    ·replace H:=if_t hc11 H
     refine zd (za (wd (zh rfl) (wd (zh rfl) (zb (zx ?_)))))
     refine ⟨_,(xp (zg rfl) (zg rfl)),?_⟩
     replace S:=S.arr [1] []
     obtain rfl:=Option.some.inj H
     obtain rfl:=uG Ho3
     exact ⟨rfl,S⟩
    replace H:=if_f hc11 H
    refine zB ?_
    obtain rfl:=Option.some.inj H
    exact ⟨rfl,(by repeat first | exact Dif.refl _ _ | exact Dif.self _ _ _ | refine Dif.upd ?_ rfl _ | refine Dif.mask ?_ rfl _),a0,rfl,S⟩
   ·replace H:=if_f hc10 H
    refine zd (zd (za (wd (zR rfl rfl) (wd (zm rfl) (zb ?_)))))
    obtain ⟨o12,e12,Ho12⟩ := zq H
    replace H:=e12; clear e12
    refine xY [39,41,42] (fun fr W=>fr 39 = .bool o12∧St A N w W [oB b2 T_Nd (Nd.C a1),oR a_0 a0] []) ?_ ?_
    ·refine zH rfl (fun hc13=>?_) (fun hc13=>?_)
     ·replace H:=if_t hc13 H
      refine zB ?_
      obtain rfl:=Option.some.inj H
      exact ⟨rfl,(Dif.refl _ _),rfl,S⟩
     ·replace H:=if_f hc13 H
      refine zd (za (wd (zR rfl rfl) (wd (zm rfl) (zb ?_))))
      refine zH rfl (fun hc14=>?_) (fun hc14=>?_)
      ·replace H:=if_t hc14 H
       refine zB ?_
       obtain rfl:=Option.some.inj H
       exact ⟨rfl,(((Dif.refl _ _).upd rfl _).upd rfl _),rfl,S⟩
      ·replace H:=if_f hc14 H
       refine za (wd (zR rfl rfl) (wd (zm rfl) (zb ?_)))
       obtain rfl:=Option.some.inj H
       exact ⟨rfl,(((((Dif.refl _ _).upd rfl _).upd rfl _).upd rfl _).upd rfl _),rfl,S⟩
    rintro g15 u16 ⟨p12_39,S⟩
    have H:=Ho12
    refine zH p12_39 (fun hc17=>?_) (fun hc17=>?_)
    rotate_left
    ·replace H:=if_f hc17 H
     refine zd (za (wd (zh rfl) (wd (zh rfl) (zb (zx ?_)))))
     refine ⟨_,(xp (zg rfl) (zg rfl)),?_⟩
     replace S:=S.arr [1] []
     obtain rfl:=Option.some.inj H
     obtain rfl:=uG Ho3
     exact ⟨rfl,S⟩
    replace H:=if_t hc17 H
    refine zd (za (wd (ze jR rfl (o':=1) rfl) (wd (zi xv rfl ((S.blk 0).cell (Nd.get_name _))) (wd (zaq rfl rfl) (wd (zE rfl) ?_)))))
    refine wg (fun hg=>zj rfl) ?_
    refine wg (fun hg=>ze xX rfl (o':=2) rfl) ?_
    refine wg (fun hg=>zi zJ (zl hg) ((S.blk 0).cell (Nd.get_l _))) ?_
    obtain ⟨r18,er18,H⟩ := zq H
    refine yp (j:=3) (pol:=false) rfl rfl rfl (by decide) (fun hg=>zP jd (zS (zl hg) (zS (zl hg) rfl))) (by decide) (fun hg=>(have ⟨M,SS⟩ := S.lend ((.o 1 rfl .nil)); quiet (jg SS (if_t (by simpa using hg) er18)) (fun v w' h=>⟨h.1,_,_,h.2⟩))) fun w19 hw19=>?_
    replace S:=S.ext hw19
    refine wg (fun hg=>xk (zl hg)) (wd (xw rfl (fun hp=>(zl (xn hp)))) (wd (zE rfl) ?_))
    refine wg (fun hg=>zj rfl) ?_
    refine wg (fun hg=>ze xP rfl (o':=3) rfl) ?_
    refine wg (fun hg=>zi zJ (zl hg) ((S.blk 0).cell (Nd.get_r _))) ?_
    obtain ⟨r20,er20,H⟩ := zq H
    refine yp (j:=10) (pol:=false) rfl rfl rfl (by decide) (fun hg=>zP jd (zS (zl hg) (zS (zl hg) rfl))) (by decide) (fun hg=>(have ⟨M,SS⟩ := S.lend ((.o 1 rfl .nil)); quiet (jg SS (if_t (by simpa using hg) er20)) (fun v w' h=>⟨h.1,_,_,h.2⟩))) fun w21 hw21=>?_
    replace S:=S.ext hw21
    refine wg (fun hg=>xk (zl hg)) (wd (xw rfl (fun hp=>(zl (xn hp)))) (zb ?_))
    refine zH rfl (fun hc22=>?_) (fun hc22=>?_)
    ·replace H:=if_t hc22 H
     refine zd (za (wd (zh rfl) (wd (zh rfl) (zb (zx ?_)))))
     refine ⟨_,(xp (zg rfl) (zg rfl)),?_⟩
     replace S:=S.arr [1] []
     obtain rfl:=Option.some.inj H
     obtain rfl:=uG Ho3
     exact ⟨rfl,S⟩
    replace H:=if_f hc22 H
    refine zB ?_
    obtain rfl:=Option.some.inj H
    exact ⟨rfl,(by repeat first | exact Dif.refl _ _ | exact Dif.self _ _ _ | refine Dif.upd ?_ rfl _ | refine Dif.mask ?_ rfl _),a0,rfl,S⟩
 rintro g23 u24 ⟨s3,rfl,S⟩
 have H:=Ho3
 dsimp only [aft] at H
 refine zd (za (wd (zj rfl) (wd (zo xQ rfl ((S.blk 0).all _ (Nd.len _)) (Nd.len _)) ?_)))
 obtain ⟨r25,er25,H⟩ := zq H
 obtain ⟨B27,MB27,SB27,back⟩ := S.calln 0 ((.o 1 rfl .nil))
 refine zu (zp ca_ref03_T_Find) (by decide) (ref03_T_Find_st SB27 er25) ?_
 rintro _ w26 ⟨rfl,S2⟩
 replace S:=back _ _ _ _ S2 rfl
 clear back S2 SB27
 refine wd (z1 rfl) (wd (zr rfl rfl) (wd (zr rfl rfl) (wd (zh rfl) (wd (zm rfl) (zb (zd (zd (za ?_))))))))
 refine wd (zE rfl) (zb ?_)
 refine zH rfl (fun hc28=>?_) (fun hc28=>?_)
 ·replace H:=if_t hc28 H
  refine zd (za (wd (zf rfl) (wd (zh rfl) (wd (zh rfl) (zb (zx ?_))))))
  refine ⟨_,(xp (zg rfl) (zg rfl)),?_⟩
  replace S:=S.arr [1] []
  obtain rfl:=Option.some.inj H
  exact ⟨rfl,S⟩
 replace H:=if_f hc28 H
 refine zB (zd (zd (za (wd (zj rfl) ?_))))
 obtain ⟨ht29,H⟩ := xi H
 obtain ⟨p30,s31,hp32,S⟩ := S.openR 1 ht29
 replace S:=S
 refine wd (zw (congrArg Value.pointer hp32)) (wd (ze xo rfl (o':=0) rfl) (wd (zi zW rfl ((S.blk 0).cell (RTab.get_n _))) (wd (xa zK rfl (S.rdO 1)) (wd (vq rfl rfl) ?_))))
 replace S:=((S.front 1).front 1).shutR hp32
 refine zb ?_
 refine zH rfl (fun hc33=>?_) (fun hc33=>?_)
 ·replace H:=if_t hc33 H
  refine zd (za (wd (zh rfl) (wd (zh rfl) (zb (zx ?_)))))
  refine ⟨_,(xp (zg rfl) (zg rfl)),?_⟩
  replace S:St A N w w26 [oR a_0 (some (s3.getD []))] []:=S.arr [0] []
  obtain rfl:=Option.some.inj H
  exact ⟨rfl,S⟩
 replace H:=if_f hc33 H
 refine zB (zd ?_)
 obtain ⟨p34,s35,hp36,S⟩ := S.openR 0 rfl
 replace S:St A N w w26 [oB p34 vy (RTab.C ⟨s35⟩),oS T_Nd 4 Nd.C s35 (s3.getD []),oB b2 T_Nd (Nd.C a1)] []:=S
 obtain ⟨ha37,H⟩ := xi H
 have ha37:=of_decide_eq_true ha37
 have hSO:=S.sl 1
 have hSlt:=hSO.lt
 have SH : ∀ v,Chg s35.fp w26 v→St A (N.or s35.fp) w v [oB p34 vy (RTab.C ⟨s35⟩),oB b2 T_Nd (Nd.C a1)] []:=fun v hc=>S.away 1 (hc:=hc)
 refine wc_draw 8 ⟨fun L v=>Chg s35.fp w26 v∧(L 7=false→Ext w26 v),fun L a b=>Chg s35.fp a b∧(L 7=true→Ext a b),fun i v u=>match i with
  | 0=>v=Value.pointer a_0
  | 1=>v=Value.pointer a_0
  | 2=>v=Value.pointer (some ⟨p34,0,none⟩)
  | 3=>v=Value.pointer (some ⟨p34,0,none⟩)
  | 4=>v=s35.v
  | 5=>v=Value.agg (Nd.C a1).toArray
  | 6 => ∃ b sl,v=SlV.v sl∧sl=⟨some ⟨b,0,none⟩,1,1⟩ ∧ Blk u b T_Nd (Nd.C a1)∧¬ s35.fp b
  | 7 => ∃ s',v=SlV.v s'∧Own u 0 T_Nd 4 s' (((s3.getD []) ++ [a1]).map Nd.C) ∧ ∀ i,s'.fp i→s35.fp i∨w26.heap.size ≤ i
  | _=>True⟩ hmix (by kernel_rfl) ?_ ⟨(Ext.drawn _).mono (fun _ _ x=>x.elim),fun _=>Ext.drawn _⟩ ⟨?_,?_,?_,?_,?_,?_,?_,?_,trivial⟩ ?_
 ·intro L i v a b hLi hle hv
  match i,hLi,hv with
  | 0,_,hv=>exact hv
  | 1,_,hv=>exact hv
  | 2,_,hv=>exact hv
  | 3,_,hv=>exact hv
  | 4,_,hv=>exact hv
  | 5,_,hv=>exact hv
  | 6,_,⟨b,sl,e1,e2,hb,hn⟩ => exact ⟨b,sl,e1,e2,hb.chg hle.1 hn,hn⟩
  | 7,hLi,⟨s',e1,ho,hg⟩ => exact ⟨s',e1,ho.ext (hle.2 hLi),hg⟩
  | _ + 8,_,_=>exact trivial
 ·rintro L g v hL hT 
  refine wd (zj rfl) (zb (ob ⟨hT.1,fun h=>hT.2 h⟩ ⟨Chg.refl _ _,fun _=>Ext.refl _⟩ rfl))
 ·rintro L g v hL hT 
  refine wd (zj rfl) (zb (ob ⟨hT.1,fun h=>hT.2 h⟩ ⟨Chg.refl _ _,fun _=>Ext.refl _⟩ rfl))
 ·rintro L g v hL hT hv1
  refine wd (zw ((hv1:_=Value.pointer a_0).trans (congrArg Value.pointer hp36))) (zb (ob ⟨hT.1,fun h=>hT.2 h⟩ ⟨Chg.refl _ _,fun _=>Ext.refl _⟩ rfl))
 ·rintro L g v hL hT hv2
  refine wd (ze xo hv2 (o':=0) rfl) (zb (ob ⟨hT.1,fun h=>hT.2 h⟩ ⟨Chg.refl _ _,fun _=>Ext.refl _⟩ rfl))
 ·rintro L g v hL hT hv3
  refine wd (zi zW hv3 (((SH v hT.1).blk 0).cell (RTab.get_n _))) (zb (ob ⟨hT.1,fun h=>hT.2 h⟩ ⟨Chg.refl _ _,fun _=>Ext.refl _⟩ rfl))
 ·rintro L g v hL hT 
  refine wd (zo xQ rfl (((SH v hT.1).blk 1).all _ (Nd.len _)) (Nd.len _)) (zb (ob ⟨hT.1,fun h=>hT.2 h⟩ ⟨Chg.refl _ _,fun _=>Ext.refl _⟩ rfl))
 ·rintro L g v hL hT hv5
  refine wl_lit1 zK el_Nd.zero hv5 rfl (Nd.len _) (by decide) (by decide) fun b v' sl hn hq=>zb (ob ⟨hT.1.thenExt hn.ext,fun h=>(hT.2 h).trans hn.ext⟩ ⟨hn.ext.mono (fun _ _ x=>x.elim),fun _=>hn.ext⟩ ⟨b,sl,rfl,hq,hn.blk,fun e=>by have:=hSlt _ e; have:=hn.at_; have:=hT.1.size; omega⟩)
 ·rintro L g v hL hT hv4 ⟨b,sl,hv6,hq,hb,hnb⟩
  refine wl_push (C:=Nd.C) zK el_Nd hv4 hv6 (hSO.ext (hT.2 hL)) hb hq (Nd.len _) (Nd.one _) ha37 (by omega) (by decide) fun s' v' ho hc hg=>zb (ob ⟨hT.1.trans hc,fun h=>(by cases h)⟩ ⟨hc,fun h=>(by rw [hL] at h; cases h)⟩ ⟨s',rfl,ho,fun i e=>(hg i e).imp id (fun h=>Nat.le_trans hT.1.size h)⟩)
 rintro L g w38 hLm hT hv40_0 hv40_1 hv40_2 hv40_3 hv40_4 hv40_5 ⟨b,sl,hv40_6,hq,hb,hnb⟩ ⟨s39,hv40_7,O,gO⟩
 replace S:=S.push 1 O (by rw [List.length_append,List.length_singleton]; omega) hT.1 gO
 clear O gO SH hSO hSlt
 refine wd (zw ((hv40_0:_=Value.pointer a_0).trans (congrArg Value.pointer hp36))) (wd (ze xo rfl (o':=0) rfl) ?_)
 refine yD zW rfl hv40_7 (S.blk 1) (by rw [RTab.len]; decide) (SlV.one _ _ rfl) (RTab.set_n _ _) fun w41 B hw41 zw41=>?_
 replace S:=S.store 1 B hw41
 clear B
 replace S:=((S.front 1).front 1).shutR hp36
 refine zb (zd (za (wd (zj rfl) ?_)))
 obtain ⟨p42,s43,hp44,S⟩ := S.openR 0 rfl
 replace S:=S
 refine wd (zw (congrArg Value.pointer hp44)) (wd (ze xo rfl (o':=0) rfl) (wd (zi zW rfl ((S.blk 0).cell (RTab.get_n _))) (wd (xa zK rfl (S.rdO 1)) (wd (jH rfl rfl) (wd (zh rfl) ?_)))))
 refine wd (zh rfl) ?_
 replace S:=((S.front 1).front 1).shutR hp44
 refine zb (zx ?_)
 refine ⟨_,(xp (zg rfl) (zg rfl)),?_⟩
 replace S:=S.arr [0] []
 obtain rfl:=Option.some.inj H
 exact ⟨rfl,S⟩
theorem ref03_From_st {A:Nat→Prop} {N:Oth} {w:World} {a0:List Nd} {s_0:SlV} (S:St A N w w [] [fS 4 Nd.C s_0 a0]) {r:Tb × Int} (H:ref03_From.f a0=some r) :
  Calls PP F_ref03_From #[s_0.v] w fun e w' => ∃ v,e = .returned v∧(∃ ao0:Option Addr,v = .tuple #[.pointer ao0,.int .i64 r.2]∧St A N w w' [oR ao0 r.1] []):=by
 unfold ref03_From.f at H
 refine zA (n:=32) fn_ref03_From rfl rfl (by simp) (zd (za ?_))
 replace S:=S.add (Ext.refl _) (oR.nil _) (fun _ x=>x.elim)
 refine wd (xg rfl) (wd (zh rfl) (zb (zd (za (wd (yj bu_RTab Bld.nil) ?_)))))
 refine z7 rfl (by decide) fun b2 w1 hw1=>?_
 replace S:St A N w w1 [oR (some ⟨b2,0,none⟩) (some []),oR none none] [fS 4 Nd.C s_0 a0]:=((S.nil T_Nd 4 Nd.C).new hw1).shutR rfl
 refine wd (xg rfl) (zb (zd (zd (za (wd (zh rfl) (zb ?_))))))
 obtain ⟨o3,e3,Ho3⟩ := zq H
 clear H
 refine xY [2,3,5,6,7,10,11,12,13,14,15,16,17,18,19,20,21,22,23,24,25,26,27,28,29,30] (fun fr W => ∃ s3:Tb,o3 = .inl s3∧St A N w W [oR (some ⟨b2,0,none⟩) s3,oR none none] [fS 4 Nd.C s_0 a0]) ?_ ?_
 ·refine zQ ?_
  refine xW (α:=Nat × Int × Tb) [2,3,5,6,7,10,11,12,13,14,15,16,17,18,19,20,21,22,23,24,25,26,27,28,29,30] (fun x fr W=>(x.1:Int)=(a0.length:Int) - x.2.1∧0 ≤ x.2.1∧forN (fun i s=>ref03_From.b0 a0 i s) x.1 x.2.1 x.2.2=some o3∧fr 5 = .int .i64 x.2.1∧St A N w W [oR (some ⟨b2,0,none⟩) (x.2.2),oR none none] [fS 4 Nd.C s_0 a0]) (fun x=>x.1) (((a0.length:Int) - 0).toNat,0,(some [])) ⟨(by dsimp only; have hle:=Int.natCast_nonneg (a0.length); omega),(Int.le_refl _),(by dsimp only; exact e3),rfl,S⟩ ?_
  rintro ⟨m3,i3,x3_0⟩ g3 u3 ⟨hm3,hl3,e3,q3_i,S⟩
  try dsimp only at hm3
  try dsimp only at hl3
  try dsimp only at e3
  try dsimp only at S
  try dsimp only at q3_i
  refine zd (zd (za (wd (zf q3_i) (wd (zz rfl) (wd (xa zK rfl (S.rd 0)) (wd (xM rfl rfl) (zb ?_)))))))
  refine zH rfl (fun hc4=>?_) (fun hc4=>?_)
  rotate_left
  ·refine yn ?_
   have hge:(a0.length:Int) ≤ i3:=Int.not_lt.1 (of_decide_eq_false hc4)
   obtain rfl:m3=0:=by omega
   replace e3:=jy e3
   exact ⟨rfl,(((((Dif.self _ _ _).upd rfl _).upd rfl _).upd rfl _).upd rfl _),x3_0,e3,S⟩
  refine zB ?_
  have hlt3:i3 < (a0.length:Int):=of_decide_eq_true hc4
  obtain ⟨m3,rfl⟩ : ∃ m,m3=m + 1:=⟨m3 - 1,by omega⟩
  obtain ⟨q3,H,e3⟩ := jC e3
  unfold ref03_From.b0 at H
  try dsimp only at H
  have hb3:=(S.len 0)
  refine zd ?_
  refine zQ (zd (za (wd (zj rfl) (wd (zz rfl) (wd (zf q3_i) (wd (zN zK rfl rfl (S.rd 0) (And.intro (show 0 ≤ i3 by omega) (show i3 < (a0.length:Int) from hlt3)).1 (And.intro (show 0 ≤ i3 by omega) (show i3 < (a0.length:Int) from hlt3)).2) ?_))))))
  refine wd (zo xQ rfl ((S.rd 0).at (xj Nd.z (And.intro (show 0 ≤ i3 by omega) (show i3 < (a0.length:Int) from hlt3)))) (Nd.len _)) ?_
  obtain ⟨r6,er6,H⟩ := zq H
  obtain ⟨B8,MB8,SB8,back⟩ := S.calln 1 ((.nil))
  refine zu (zp ca_ref03_T_Put) (by decide) (ref03_T_Put_st SB8 er6) ?_
  rintro _ w7 ⟨rfl,S2⟩
  replace S:=back _ _ _ _ S2 rfl
  clear back S2 SB8
  refine wd (z1 rfl) (wd (zr rfl rfl) (wd (zr rfl rfl) (wd (zh rfl) (wd (zh rfl) (zb (zd (zd (za ?_))))))))
  refine wd (zf rfl) (wd (xh rfl rfl) (zb ?_))
  refine zH rfl (fun hc9=>?_) (fun hc9=>?_)
  ·replace H:=if_t hc9 H
   refine zd (za (wd (zf rfl) ?_))
   replace S:=S.add (Ext.refl _) (oR.nil _) (fun _ x=>x.elim)
   refine wd (xg rfl) (wd (zh rfl) (zb (zx ?_)))
   refine ⟨_,(xp (zg rfl) (zg rfl)),?_⟩
   replace S:=S.arr [0] []
   obtain rfl:=Option.some.inj H
   obtain rfl:=e3
   obtain rfl:=uG Ho3
   exact ⟨none,rfl,S⟩
  replace H:=if_f hc9 H
  refine zB (zd (za (wd (zf rfl) (wd (zf q3_i) (wd (xh rfl rfl) (zb ?_))))))
  refine zH rfl (fun hc10=>?_) (fun hc10=>?_)
  ·replace H:=if_t hc10 H
   refine zd (za ?_)
   replace S:=S.add (Ext.refl _) (oR.nil _) (fun _ x=>x.elim)
   refine wd (xg rfl) (wd (zh rfl) (zb (zx ?_)))
   refine ⟨_,(xp (zg rfl) (zg rfl)),?_⟩
   replace S:=S.arr [0] []
   obtain rfl:=Option.some.inj H
   obtain rfl:=e3
   obtain rfl:=uG Ho3
   exact ⟨none,rfl,S⟩
  replace H:=if_f hc10 H
  refine zB (za (wd (zf q3_i) (wd (xI rfl rfl (c:=i3 + 1) rfl (by omega) (by omega)) (wd (zh rfl) (zb ?_)))))
  obtain rfl:=Option.some.inj H
  exact ⟨rfl,(by repeat first | exact Dif.refl _ _ | exact Dif.self _ _ _ | refine Dif.upd ?_ rfl _ | refine Dif.mask ?_ rfl _),(m3,i3 + 1,r6.1),⟨(by dsimp only; omega),(by dsimp only; omega),e3,rfl,S⟩,by dsimp only; omega⟩
 rintro g11 u12 ⟨s3,rfl,S⟩
 have H:=Ho3
 dsimp only [aft] at H
 refine zd (za (wd (zj rfl) (wd (xg rfl) (wd (zh rfl) (zb (zx ?_))))))
 refine ⟨_,(xp (zg rfl) (zg rfl)),?_⟩
 replace S:=S.arr [0] []
 obtain rfl:=Option.some.inj H
 exact ⟨(some ⟨b2,0,none⟩),rfl,S⟩
theorem law03_Like_st {A:Nat→Prop} {N:Oth} {w:World} {a0:Tb} {a_0:Option Addr} {a1:Tb} {a_1:Option Addr} (S:St A N w w [] [oT a_0 a0,oR a_1 a1]) {r:Bool} (H:law03_Like.f a0 a1=some r) :
  Calls PP F_law03_Like #[.pointer a_0,.pointer a_1] w fun e w' => ∃ v,e = .returned v∧(v = .bool r∧St A N w w' [] []):=by
 unfold law03_Like.f at H
 refine zA (n:=22) fn_law03_Like rfl rfl (by simp) (zd (za (wd (zm rfl) (zb (zd ?_)))))
 obtain ⟨ht8,H⟩ := xi H
 obtain ⟨p9,s10,hp11,S⟩ := S.seeR 1 ht8
 replace S:=S
 refine wc_ws hmix fun w12 K=>?_
 replace S:=S.ext K
 clear K
 obtain ⟨r13,er13,H⟩ := zq H
 refine kY 0 6 [1] (by kernel_rfl) (by decide) (by kernel_rfl)
  (V:=fun i v u=>match i with
  | 1 => ∃ sl,v=SlV.v sl∧(Rd u 4 sl (r13.map Nd.C)∧r13.length ≤ 140737488355328)∧(∀ j,sl.fp j→w12.heap.size ≤ j)
  | _=>True) ?_ ?_
 ·intro i v u u' hi hx hv
  match i,hv with
  | 1,⟨b,e1,hr,hl⟩ => exact ⟨b,e1,⟨hr.1.ext hx,hr.2⟩,hl⟩
  | 0,_=>exact trivial
  | _ + 2,_=>exact trivial
 refine zX (fun v K=>zj rfl) rfl ?_
 refine vK (fun g v K G=>(have ⟨M,SS⟩ := (S.ext K).lend ((.z 2 rfl .nil)); ⟨_,_,zP ca_formula_Table_Rows (zS rfl rfl),newc (formula_Table_Rows_st SS er13) fun _ _ ⟨s',hv,h⟩ => ⟨h.frame,s',hv,h.newS.1,fun i hi=>by have:=h.newS.2 i hi; have:=K.size; omega⟩⟩)) rfl (zX (fun v K=>zj rfl) rfl (zX (fun v K=>zw (congrArg Value.pointer hp11)) rfl (zX (fun v K=>ze xo rfl (o':=0) rfl) rfl (zX (fun v K=>zi zW rfl (((S.ext K).blkZ 0).cell (RTab.get_n _))) rfl ?_))))
 refine uO fun g w15 K hV=>?_
 obtain ⟨s14,hv161,hr1,hf1⟩ := hV 1 rfl (by decide)
 replace S:=S.addZs K (.s hr1.1 hr1.2 hf1 .nil)
 clear K hV
 refine ws_chain 6 8 (by kernel_rfl) (by decide) ?_
 obtain ⟨r17,er17,H⟩ := zq H
 obtain ⟨B19,MB19,SB19,back⟩ := S.calln 0 ((.z 0 rfl (.z 2 rfl .nil)))
 refine zu (zP ca_ref03_Same (zS hv161 (zS rfl rfl))) (by decide) (ref03_Same_st SB19 er17) ?_
 rintro _ w18 ⟨rfl,S2⟩
 replace S:=back _ _ _ _ S2 rfl
 clear back S2 SB19
 refine wd (zE rfl) (zb ⟨rfl,?_⟩)
 obtain ⟨r20,er20,H⟩ := zq H
 refine kY 8 15 [] (by kernel_rfl) (by decide) (by kernel_rfl)
  (V:=fun i v u=>match i with
  | _=>True) ?_ ?_
 ·intro i v u u' hi hx hv
  match i,hv with
  | _,_=>exact trivial
 refine zbP (j:=7) (pol:=true) rfl rfl rfl (fun hg v K=>zj rfl) rfl ?_
 refine wm_gcall (j:=7) (pol:=true) rfl rfl rfl (fun hg v=>zP vV (zS (zl hg) rfl)) (fun hg v K=>(have ⟨M,SS⟩ := (S.ext K).lend ((.z 3 rfl .nil)); quiet (v8 SS (if_t (by simpa using hg) er20)) (fun v w' h=>⟨h.1,_,_,h.2⟩))) rfl ?_
 refine zbP (j:=7) (pol:=true) rfl rfl rfl (fun hg v K=>zj rfl) rfl ?_
 refine zbP (j:=7) (pol:=true) rfl rfl rfl (fun hg v K=>zw (((zl hg):_=Value.pointer a_1).trans (congrArg Value.pointer hp11))) rfl ?_
 refine zbP (j:=7) (pol:=true) rfl rfl rfl (fun hg v K=>ze xo (zl hg) (o':=0) rfl) rfl ?_
 refine zbP (j:=7) (pol:=true) rfl rfl rfl (fun hg v K=>zi zW (zl hg) (((S.ext K).blkZ 1).cell (RTab.get_n _))) rfl ?_
 refine zbP (j:=7) (pol:=true) rfl rfl rfl (fun hg v K=>xa zK (zl hg) ((S.ext K).rd 2)) rfl ?_
 refine uO fun g w21 K hV=>?_
 replace S:=S.ext K
 clear K hV
 refine ws_tail 15 (by kernel_rfl) (by decide) ?_
 refine wg (fun hg=>zR (zl hg) (zl hg)) (wd (xc rfl (fun hp=>(zl (xn hp)))) (wd (zm rfl) ?_))
 replace S:=S.zs [0,3,4]
 refine zb (zx ?_)
 refine ⟨_,(zV (zg rfl)),?_⟩
 replace S:=S.arr [] []
 obtain rfl:=Option.some.inj H
 exact ⟨rfl,S⟩
theorem law03_Both_st {A:Nat→Prop} {N:Oth} {w:World} {a0:List Nd} {s_0:SlV} (S:St A N w w [] [fS 4 Nd.C s_0 a0]) {r:Tb × Tb × Bool} (H:law03_Both.f a0=some r) :
  Calls PP F_law03_Both #[s_0.v] w fun e w' => ∃ v,e = .returned v∧(∃ ao0:Option Addr,∃ ao1:Option Addr,v = .tuple #[.pointer ao0,.pointer ao1,.bool r.2.2]∧St A N w w' [oT ao0 r.1,oR ao1 r.2.1] []):=by
 unfold law03_Both.f at H
 refine zA (n:=27) fn_law03_Both rfl rfl (by simp) (zd (za ?_))
 replace S:=S.add (Ext.refl _) (oT.nil _) (fun _ x=>x.elim)
 refine wd (xg rfl) ?_
 replace S:=S.add (Ext.refl _) (oR.nil _) (fun _ x=>x.elim)
 refine wd (xg rfl) (wd (zm rfl) (zb (zd (za ?_))))
 refine xK (C:=Nd.C) (l:=([]:List Nd)) (vs:=[]) zK el_Nd.zero rfl rfl (fun a _=>Nd.len a) (by decide) rfl (by decide) fun b2 w1 s3 hBw1 hw1=>?_
 replace S:=S.lit hBw1 hw1 (by simp)
 refine wd (zz rfl) ?_
 obtain ⟨ha6,H⟩ := xi H
 have ha6:=of_decide_eq_true ha6
 refine wl_appendm (C:=Nd.C) zK el_Nd rfl rfl (S.sl 0) (S.rd 0) Nd.one ha6 (by omega) (by decide) fun s5 w4 O hw4 gw4=>?_
 replace S:=S.push 0 O (by first | (simp; done) | (simp; omega)) hw4 gw4
 clear O
 refine wd (xD rfl) (zb (zd (za (wd (zz rfl) ?_))))
 obtain ⟨r7,er7,H⟩ := zq H
 obtain ⟨B9,MB9,SB9,back⟩ := S.calln 0 ((.z 0 rfl .nil))
 refine zu (zp ca_ref03_From) (by decide) (ref03_From_st SB9 er7) ?_
 rintro _ w8 ⟨a10,rfl,S2⟩
 replace S:=back _ _ _ _ S2 rfl
 clear back S2 SB9
 refine wd (z1 rfl) (wd (zr rfl rfl) (wd (zr rfl rfl) (wd (xg rfl) (wd (zh rfl) (zb (zd (zd (za ?_))))))))
 refine wd (zf rfl) (wd (xh rfl rfl) (zb ?_))
 refine zH rfl (fun hc11=>?_) (fun hc11=>?_)
 ·replace H:=if_t hc11 H
  refine zd (za ?_)
  replace S:=S.add (Ext.refl _) (oT.nil _) (fun _ x=>x.elim)
  refine wd (xg rfl) ?_
  replace S:=S.add (Ext.refl _) (oR.nil _) (fun _ x=>x.elim)
  refine wd (xg rfl) (wd (zm rfl) (zb (zx ?_)))
  refine ⟨_,(rets3 (zg rfl) (zg rfl) (zg rfl)),?_⟩
  replace S:=S.arr [1,0] []
  obtain rfl:=Option.some.inj H
  exact ⟨none,none,rfl,S⟩
 replace H:=if_f hc11 H
 refine zB (zd (za (wd (zz rfl) ?_)))
 obtain ⟨r12,er12,H⟩ := zq H
 obtain ⟨B14,MB14,SB14,back⟩ := S.calln 0 ((.s 1 rfl .nil))
 refine zu (zp ca_formula_From) (by decide) (formula_From_st SB14 er12) ?_
 rintro _ w13 ⟨a15,rfl,S2⟩
 replace S:=back _ _ _ _ S2 rfl
 clear back S2 SB14
 refine wd (z1 rfl) (wd (zr rfl rfl) (wd (zr rfl rfl) (wd (xg rfl) (wd (zh rfl) (zb (zd (za ?_)))))))
 refine wd (zj rfl) (wd (zj rfl) (wd (xg rfl) (wd (xg rfl) (wd (zm rfl) (zb (zx ?_))))))
 refine ⟨_,(rets3 (zg rfl) (zg rfl) (zg rfl)),?_⟩
 replace S:=S.arr [0,1] []
 obtain rfl:=Option.some.inj H
 exact ⟨a15,a10,rfl,S⟩
end Go.Proofs.YtflieamjacclnaaGreatDoor
end
section
namespace Go.Proofs.YtflieamjacclnaaGreatDoor
open Gw Go.RowKit
set_option maxHeartbeats 4000000
set_option maxRecDepth 20000
theorem hilbert_pattern_is_gst {rec_hilbert_pattern_is:PPattern→Int→ByteArray→Option (PPattern × ByteArray × Bool)} (hrec_hilbert_pattern_is : ∀ {A:Nat→Prop} {N:Oth} {w:World} {a0:PPattern} {a_0:Option Addr} {g_0_1:Option Addr} {a1:Int} {a2:ByteArray} (S:St A N w w [oPa a_0 g_0_1 a0] []) {r:PPattern × ByteArray × Bool} (H:rec_hilbert_pattern_is a0 a1 a2=some r),Calls PP vg #[.pointer a_0,.int .i64 a1,.string a2] w fun e w' => ∃ v,e = .returned v∧(v = .tuple #[.string r.2.1,.bool r.2.2]∧St A N w w' [oPa a_0 g_0_1 r.1] [])) {A:Nat→Prop} {N:Oth} {w:World} {a0:PPattern} {a_0:Option Addr} {g_0_1:Option Addr} {a1:Int} {a2:ByteArray} (S:St A N w w [oPa a_0 g_0_1 a0] []) {r:PPattern × ByteArray × Bool} (H:hilbert_pattern_is.g rec_hilbert_pattern_is a0 a1 a2=some r) :
  Calls PP vg #[.pointer a_0,.int .i64 a1,.string a2] w fun e w' => ∃ v,e = .returned v∧(v = .tuple #[.string r.2.1,.bool r.2.2]∧St A N w w' [oPa a_0 g_0_1 r.1] []):=by
 unfold hilbert_pattern_is.g at H
 refine zA (n:=86) fn_hilbert_pattern_is rfl rfl (by simp) (zd (za (wd (yQ rfl) (wd (zm rfl) (zb (zd ?_))))))
 refine xL 5 (Ext w) hmix (by kernel_rfl) (by kernel_rfl) (Ext.drawn _) (zt (fun v K=>xB rfl) ?_)
 obtain ⟨hi1,H⟩ := xi H
 refine zt (fun v K=>vD vc rfl rfl (zC hi1).1 (zC hi1).2) (zt (fun v K=>xB rfl) ?_)
 obtain ⟨hi2,H⟩ := xi H
 refine zt (fun v K=>does_sliceStr vc rfl rfl (of_decide_eq_true hi2).1 (of_decide_eq_true hi2).2) (zt (fun v K=>zh rfl) ?_)
 refine yL fun w3 K=>?_
 replace S:=S.ext K
 clear K
 refine wd (yQ rfl) (zb (zd (za (wd (zj rfl) ?_))))
 obtain ⟨p4,m6,hp5,S⟩ := S.open_oPa 0
 replace S:=S
 refine wd (zw (congrArg Value.pointer hp5)) (wd (ze fl_Pattern_t rfl (o':=0) rfl) (wd (zi xF rfl ((S.blk 0).cell (Pattern.get_t _))) (wd (zf rfl) ?_)))
 obtain ⟨r7,er7,H⟩ := zq H
 obtain ⟨B9,MB9,SB9,back⟩ := S.calln 0 ((.o 1 rfl .nil))
 refine zu (zp yB) (by decide) (yC SB9 er7) ?_
 rintro _ w8 ⟨rfl,S2⟩
 replace S:=back _ _ _ _ S2 rfl
 clear back S2 SB9
 refine wd (z1 rfl) (wd (zr rfl rfl) (wd (zr rfl rfl) ?_))
 refine xe ua (by decide) fun b11 w10 hw10=>?_
 replace S:=S.new hw10
 refine zM xQ rfl rfl (S.blk 0) (Nd.len _) (by rw [Nd.len]; decide) (Nd.one _) (zZ (Nd.len _)) fun w12 B hw12 zw12=>?_
 replace S:=S.store 0 B hw12
 clear B
 refine wd (zm rfl) ?_
 replace S:=((S.front 3).front 3).front 3
 replace S:=S.shut_oPa hp5
 refine zb (zd (za (wd (zh rfl) (zb (zd (zd (za (wd (zf rfl) (zb ?_)))))))))
 obtain ⟨o13,e13,Ho13⟩ := zq H
 replace H:=e13; clear e13
 refine xY [6,7,12,13,14,30,31,32,33,34,35,36,37,38,39,40,41,42,43,44,45,46,47,48,49,50,51,52,53,54,55,56,57,58,59,60,61,62,63,64] (fun fr W => ∃ s13:Int × PPattern,o13 = .inl s13∧fr 12 = .int .i64 s13.1∧St A N w W [oPa a_0 g_0_1 s13.2,oB b11 T_Nd (Nd.C r7.1)] []) ?_ ?_
 ·refine zQ (zd (za (wd (zR rfl rfl) (wd (zm rfl) (zb ?_)))))
  refine zH rfl (fun hc14=>?_) (fun hc14=>?_)
  ·replace H:=if_t hc14 H
   refine za (wd (zh rfl) (zb ?_))
   obtain rfl:=Option.some.inj H
   exact ⟨rfl,((((Dif.refl _ _).upd rfl _).upd rfl _).upd rfl _),(5,a0),rfl,rfl,S⟩
  ·replace H:=if_f hc14 H
   refine zd (za (wd (zR rfl rfl) (wd (zm rfl) (zb ?_))))
   refine zH rfl (fun hc15=>?_) (fun hc15=>?_)
   ·replace H:=if_t hc15 H
    refine za (wd (zh rfl) (zb ?_))
    obtain rfl:=Option.some.inj H
    exact ⟨rfl,((((((Dif.refl _ _).upd rfl _).upd rfl _).upd rfl _).upd rfl _).upd rfl _),(3,a0),rfl,rfl,S⟩
   ·replace H:=if_f hc15 H
    refine zd (za (wd (zR rfl rfl) (wd (zm rfl) (zb ?_))))
    refine zH rfl (fun hc16=>?_) (fun hc16=>?_)
    rotate_left
    ·replace H:=if_f hc16 H
     refine zd (za (wd (zR rfl rfl) (wd (zm rfl) (zb ?_))))
     refine zH rfl (fun hc17=>?_) (fun hc17=>?_)
     ·replace H:=if_t hc17 H
      refine zd ?_
      refine xL 5 (Ext w12) hmix (by kernel_rfl) (by kernel_rfl) (Ext.drawn _) (zt (fun v K=>xB rfl) (zt (fun v K=>ze yl rfl (o':=0) rfl) (zt (fun v K=>zi xO rfl (((S.ext K).blk 1).cell (Nd.get_kind _))) (zt (fun v K=>zR rfl rfl) (zt (fun v K=>yQ rfl) ?_)))))
      refine yL fun w18 K=>?_
      replace S:=S.ext K
      clear K
      refine wd (zm rfl) (zb (zx ?_))
      refine ⟨_,(xp (zg rfl) (zg rfl)),?_⟩
      replace S:=S.arr [0] []
      obtain rfl:=Option.some.inj H
      obtain rfl:=uG Ho13
      exact ⟨rfl,S⟩
     ·replace H:=if_f hc17 H
      refine zd (za (wd (zj rfl) ?_))
      obtain ⟨p19,m21,hp20,S⟩ := S.open_oPa 0
      replace S:=S
      refine wd (zw (congrArg Value.pointer hp20)) (wd (ze fl_Pattern_seen rfl (o':=1) rfl) (wd (zi on_M_uint8_int rfl ((S.blk 0).cell (Pattern.get_seen _))) (wd (zf rfl) (wd (does_lookup_ok (C:=(Value.int .u8)) (D:=(Value.int .i64)) (key:=sb a2 0) (zv:=0) un_M_uint8_int key_uint8 zv_int rfl rfl (S.map 2)) (wd (z1 rfl) (wd (zr rfl rfl) (wd (zr rfl rfl) (wd (zh rfl) (wd (zm rfl) ?_)))))))))
      replace S:=((S.front 2).front 2).front 2
      replace S:=S.shut_oPa hp20
      refine zb (zd (za (wd (zj rfl) ?_)))
      obtain ⟨p22,m24,hp23,S⟩ := S.open_oPa 0
      replace S:=S
      refine wd (zw (congrArg Value.pointer hp23)) (wd (ze fl_Pattern_seen rfl (o':=1) rfl) (wd (zi on_M_uint8_int rfl ((S.blk 0).cell (Pattern.get_seen _))) (wd (zf rfl) (wd (zf rfl) ?_))))
      refine zaD (C:=(Value.int .u8)) (D:=(Value.int .i64)) (key:=sb a2 0) (v:=a1) un_M_uint8_int key_uint8 rfl rfl rfl (S.map 2) fun w25 hmw25 hcw25 hsw25=>?_
      replace S:=((S.mapSet 2 ⟨hmw25,hcw25,hsw25⟩).front 2).front 2
      replace S:=S.shut_oPa hp23
      refine zb (zd (za (wd (xB rfl) (wd (zE rfl) (wd (xk rfl) (wd (zE rfl) ?_))))))
      refine wg (fun hg=>zf rfl) ?_
      refine wg (fun hg=>zf rfl) ?_
      refine wg (fun hg=>zR (zl hg) (zl hg)) (wd (xw rfl (fun hp=>(zl (xn hp)))) (wd (yQ rfl) (wd (zm rfl) (zb (zx ?_)))))
      refine ⟨_,(xp (zg rfl) (zg rfl)),?_⟩
      replace S:=S.arr [0] []
      obtain rfl:=Option.some.inj H
      obtain rfl:=uG Ho13
      exact ⟨rfl,S⟩
    replace H:=if_t hc16 H
    refine za (wd (zh rfl) (zb ?_))
    obtain rfl:=Option.some.inj H
    exact ⟨rfl,((((((((Dif.refl _ _).upd rfl _).upd rfl _).upd rfl _).upd rfl _).upd rfl _).upd rfl _).upd rfl _),(4,a0),rfl,rfl,S⟩
 rintro g26 u27 ⟨s13,rfl,p13_12,S⟩
 have H:=Ho13
 dsimp only [aft] at H
 refine zd (zd (za (wd (ze yl rfl (o':=0) rfl) (wd (zi xO rfl ((S.blk 1).cell (Nd.get_kind _))) (wd (zf p13_12) (wd (xh rfl rfl) (zb ?_)))))))
 refine zH rfl (fun hc28=>?_) (fun hc28=>?_)
 ·replace H:=if_t hc28 H
  refine zd (za (wd (yQ rfl) (wd (zm rfl) (zb (zx ?_)))))
  refine ⟨_,(xp (zg rfl) (zg rfl)),?_⟩
  replace S:=S.arr [0] []
  obtain rfl:=Option.some.inj H
  exact ⟨rfl,S⟩
 replace H:=if_f hc28 H
 refine zB (zd (za (wd (zj rfl) (wd (ze xX rfl (o':=2) rfl) (wd (zi zJ rfl ((S.blk 1).cell (Nd.get_l _))) (wd (xB rfl) ?_))))))
 obtain ⟨r29,er29,H⟩ := zq H
 obtain ⟨B31,MB31,SB31,back⟩ := S.calln 1 ((.nil))
 refine zu (zp uN) (by decide) (hrec_hilbert_pattern_is SB31 er29) ?_
 rintro _ w30 ⟨rfl,S2⟩
 replace S:=back _ _ _ _ S2 rfl
 clear back S2 SB31
 refine wd (z1 rfl) (wd (zr rfl rfl) (wd (zr rfl rfl) (wd (yQ rfl) (wd (zm rfl) (zb (zd (zd (za (wd (zE rfl) (wd (xk rfl) (zb ?_)))))))))))
 refine zH rfl (fun hc32=>?_) (fun hc32=>?_)
 ·replace H:=if_t hc32 H
  refine zd (za (wd (yQ rfl) (wd (zm rfl) (zb (zx ?_)))))
  refine ⟨_,(xp (zg rfl) (zg rfl)),?_⟩
  replace S:=S.arr [0] []
  obtain rfl:=Option.some.inj H
  exact ⟨rfl,S⟩
 replace H:=if_f hc32 H
 refine zB (zd (za (wd (zj rfl) (wd (ze xP rfl (o':=3) rfl) (wd (zi zJ rfl ((S.blk 1).cell (Nd.get_r _))) (wd (xB rfl) ?_))))))
 obtain ⟨r33,er33,H⟩ := zq H
 obtain ⟨B35,MB35,SB35,back⟩ := S.calln 1 ((.nil))
 refine zu (zp uN) (by decide) (hrec_hilbert_pattern_is SB35 er33) ?_
 rintro _ w34 ⟨rfl,S2⟩
 replace S:=back _ _ _ _ S2 rfl
 clear back S2 SB35
 refine wd (zr rfl rfl) (wd (zr rfl rfl) (wd (yQ rfl) (wd (zm rfl) (zb (zx ?_)))))
 refine ⟨_,(xp (zg rfl) (zg rfl)),?_⟩
 replace S:=S.arr [0] []
 obtain rfl:=Option.some.inj H
 exact ⟨rfl,S⟩
theorem hilbert_pattern_is_st {A:Nat→Prop} {N:Oth} {w:World} {a0:PPattern} {a_0:Option Addr} {g_0_1:Option Addr} {a1:Int} {a2:ByteArray} (S:St A N w w [oPa a_0 g_0_1 a0] []) {k:Nat} {r:PPattern × ByteArray × Bool} (H:hilbert_pattern_is.f k a0 a1 a2=some r) :
  Calls PP vg #[.pointer a_0,.int .i64 a1,.string a2] w fun e w' => ∃ v,e = .returned v∧(v = .tuple #[.string r.2.1,.bool r.2.2]∧St A N w w' [oPa a_0 g_0_1 r.1] []):=by
 have main : ∀ (k:Nat) {A:Nat→Prop} {N:Oth} {w:World} {a0:PPattern} {a_0:Option Addr} {g_0_1:Option Addr} {a1:Int} {a2:ByteArray} (S:St A N w w [oPa a_0 g_0_1 a0] []) {r:PPattern × ByteArray × Bool} (H:hilbert_pattern_is.f k a0 a1 a2=some r),Calls PP vg #[.pointer a_0,.int .i64 a1,.string a2] w fun e w' => ∃ v,e = .returned v∧(v = .tuple #[.string r.2.1,.bool r.2.2]∧St A N w w' [oPa a_0 g_0_1 r.1] []):=by
  intro k
  induction k with
  | zero=>intro A N w a0 a_0 g_0_1 a1 a2 S r H; cases H
  | succ k ih=>intro A N w a0 a_0 g_0_1 a1 a2 S r H; exact hilbert_pattern_is_gst ih S H
 exact main k S H
theorem hilbert_fits_st {A:Nat→Prop} {N:Oth} {w:World} {a0:Tb} {a_0:Option Addr} {a1:Int} {a2:Int} (S:St A N w w [oT a_0 a0] []) {k:Nat} {r:Tb × Bool} (H:hilbert_fits.f k a0 a1 a2=some r) :
  Calls PP F_hilbert_fits #[.pointer a_0,.int .i64 a1,.int .i64 a2] w fun e w' => ∃ v,e = .returned v∧(v = .bool r.2∧St A N w w' [oT a_0 r.1] []):=by
 unfold hilbert_fits.f at H
 refine zA (n:=25) fn_hilbert_fits rfl rfl (by simp) (zd (za (wd (zm rfl) (zb (zd (za (wd (zf rfl) ?_)))))))
 obtain ⟨r1,er1,H⟩ := zq H
 obtain ⟨B3,MB3,SB3,back⟩ := S.calln 0 ((.nil))
 refine zu (zp ca_hilbert_scheme) (by decide) (hilbert_scheme_st SB3 er1) ?_
 rintro _ w2 ⟨rfl,S2⟩
 replace S:=back _ _ _ _ S2 rfl
 clear back S2 SB3
 refine wd (yQ rfl) (zb (zd (zd (za (wd (xB rfl) (wd (vp rfl rfl) (zb ?_)))))))
 refine zH rfl (fun hc4=>?_) (fun hc4=>?_)
 ·replace H:=if_t hc4 H
  refine zd (za (wd (zm rfl) (zb (zx ?_))))
  refine ⟨_,(zV (zg rfl)),?_⟩
  obtain rfl:=Option.some.inj H
  exact ⟨rfl,S⟩
 replace H:=if_f hc4 H
 refine zB (zd (za (wd (zj rfl) ?_)))
 refine wl_makeMap (C:=(Value.int .u8)) (D:=(Value.int .i64)) (by decide) fun m5 w6 hmw6 hxw6 hlw6=>?_
 replace S:=S.newM hmw6 hxw6 hlw6
 refine wd (Does.to (v' := .agg (Pattern.C (⟨a_0,(some m5)⟩ : Pattern)).toArray) (xJ (vs:=[(0,.pointer a_0),(1,.map (some m5))]) bu_Pattern (yw rfl (yw rfl rfl)) (Bld.one rfl rfl (by rw [Pattern.len]; decide) (Pattern.set_t _ _) (Bld.one rfl rfl (by rw [Pattern.len]; decide) (Pattern.set_seen _ _) Bld.nil))) rfl) ?_
 refine z7 rfl (by decide) fun b8 w7 hw7=>?_
 replace S:=((S.new hw7).front 1).front 2
 replace S:=(S.front 2).shut_oPa rfl
 refine wd (zf rfl) (wd (xB rfl) ?_)
 obtain ⟨r9,er9,H⟩ := zq H
 obtain ⟨B11,MB11,SB11,back⟩ := S.calln 1 ((.nil))
 refine zu (zp uN) (by decide) (hilbert_pattern_is_st SB11 er9) ?_
 rintro _ w10 ⟨rfl,S2⟩
 replace S:=back _ _ _ _ S2 rfl
 clear back S2 SB11
 refine wd (z1 rfl) (wd (zr rfl rfl) (wd (zr rfl rfl) (wd (yQ rfl) (wd (zm rfl) (zb (zd (za (wd (zE rfl) (wd (zm rfl) (zb (zx ?_)))))))))))
 obtain ⟨p12,m14,hp13,S⟩ := S.open_oPa 0
 replace S:=S
 refine ⟨_,(zV (zg rfl)),?_⟩
 replace S:=S.arr [1] []
 obtain rfl:=Option.some.inj H
 exact ⟨rfl,S⟩
theorem hilbert_has_1_st {A:Nat→Prop} {N:Oth} {w:World} {a0:Int} {a1:Int} {b_1:Nat} (S:St A N w w [] [oB b_1 xS [.int .i64 a1]]) {r:Bool} (H:hilbert_has_1.f a0 a1=some r) :
  Calls PP jO #[.int .i64 a0,.pointer (some ⟨b_1,0,none⟩)] w fun e w' => ∃ v,e = .returned v∧(v = .bool r∧St A N w w' [] []):=by
 unfold hilbert_has_1.f at H
 refine zA (n:=11) fn_hilbert_has_1 rfl rfl (by simp) (zd (za (wd (zm rfl) (zb (zd (za (wd (zf rfl) (wd (xM rfl rfl) (wd (zE rfl) ?_)))))))))
 refine wg (fun hg=>zf rfl) ?_
 refine wg (fun hg=>zi zJ rfl ((S.blkZ 0).cell rfl)) ?_
 refine wg (fun hg=>vq (zl hg) (zl hg)) (wd (xw rfl (fun hp=>(zl (xn hp)))) (wd (zm rfl) (zb (zx ?_))))
 refine ⟨_,(zV (zg rfl)),?_⟩
 replace S:=S.arr [] []
 obtain rfl:=Option.some.inj H
 exact ⟨rfl,S⟩
theorem ux {A:Nat→Prop} {N:Oth} {w:World} {a0:List Int} {s_0:SlV} {a1_0:Int} {b_1:Nat} (S:St A N w w [] [fS 1 IC s_0 a0,oB b_1 xS [.int .i64 a1_0]]) {r:Int} (H:slices_IndexFunc_int_int__hilbert_has_1.f a0 a1_0=some r) :
  Calls PP uW #[s_0.v,.func (.func jO) #[] #[.pointer (some ⟨b_1,0,none⟩)]] w fun e w' => ∃ v,e = .returned v∧(v = .int .i64 r∧St A N w w' [] []):=by
 unfold slices_IndexFunc_int_int__hilbert_has_1.f at H
 refine zA (n:=19) zaz rfl rfl (by simp) (zd (za (wd (zh rfl) (zb (zd (zd (za (wd (zz rfl) (wd (xa xx rfl (S.rd 0)) (wd (zf rfl) (zb ?_)))))))))))
 obtain ⟨o1,e1,Ho1⟩ := zq H
 clear H
 refine xY [4,5,8,9,10,11,12,13,14,15,16,17,18] (fun fr W => ∃ s1:Unit,o1 = .inl s1∧St A N w W [] [fS 1 IC s_0 a0,oB b_1 xS [.int .i64 a1_0]]) ?_ ?_
 ·refine zQ ?_
  refine xW (α:=Nat × Int × Unit) [4,5,8,9,10,11,12,13,14,15,16,17,18] (fun x fr W=>(x.1:Int)=(a0.length:Int) - x.2.1∧0 ≤ x.2.1∧forN (fun i s=>slices_IndexFunc_int_int__hilbert_has_1.b0 a0 a1_0 i) x.1 x.2.1 x.2.2=some o1∧fr 8 = .int .i64 x.2.1∧St A N w W [] [fS 1 IC s_0 a0,oB b_1 xS [.int .i64 a1_0]]) (fun x=>x.1) (((a0.length:Int) - 0).toNat,0,()) ⟨(by dsimp only; have hle:=Int.natCast_nonneg (a0.length); omega),(Int.le_refl _),(by dsimp only; exact e1),rfl,S⟩ ?_
  rintro ⟨m1,i1,_⟩ g1 u1 ⟨hm1,hl1,e1,q1_i,S⟩
  try dsimp only at hm1
  try dsimp only at hl1
  try dsimp only at e1
  try dsimp only at S
  try dsimp only at q1_i
  refine zd (za (wd (xM q1_i rfl) (zb (zd ?_))))
  refine zH rfl (fun hc2=>?_) (fun hc2=>?_)
  rotate_left
  ·refine yn ?_
   have hge:(a0.length:Int) ≤ i1:=Int.not_lt.1 (of_decide_eq_false hc2)
   obtain rfl:m1=0:=by omega
   replace e1:=jy e1
   exact ⟨rfl,((Dif.self _ _ _).upd rfl _),(),e1,S⟩
  refine zB ?_
  have hlt1:i1 < (a0.length:Int):=of_decide_eq_true hc2
  obtain ⟨m1,rfl⟩ : ∃ m,m1=m + 1:=⟨m1 - 1,by omega⟩
  obtain ⟨q1,H,e1⟩ := jC e1
  unfold slices_IndexFunc_int_int__hilbert_has_1.b0 at H
  try dsimp only at H
  have hb1:=(S.len 0)
  refine zd ?_
  refine zQ (zd (za (wd (zf q1_i) (wd (zh rfl) (zb (zd (za (wd (zaH rfl) (wd (zz rfl) (wd (zf rfl) (wd (zN xx rfl rfl (S.rd 0) (And.intro (show 0 ≤ i1 by omega) (show i1 < (a0.length:Int) from hlt1)).1 (And.intro (show 0 ≤ i1 by omega) (show i1 < (a0.length:Int) from hlt1)).2) (wd (zi zJ rfl ((S.rd 0).one (xj (0:Int) (And.intro (show 0 ≤ i1 by omega) (show i1 < (a0.length:Int) from hlt1))) rfl)) ?_))))))))))))
  obtain ⟨r4,er4,H⟩ := zq H
  obtain ⟨B6,MB6,SB6,back⟩ := S.calln 0 ((.z 1 rfl .nil))
  refine zu (kK ca_hilbert_has_1 rfl) (by decide) (hilbert_has_1_st SB6 er4) ?_
  rintro _ w5 ⟨rfl,S2⟩
  replace S:=back _ _ _ _ S2 rfl
  clear back S2 SB6
  refine zb ?_
  refine zH rfl (fun hc7=>?_) (fun hc7=>?_)
  ·replace H:=if_t hc7 H
   refine zd (za (wd (zf rfl) (wd (zh rfl) (zb (zx ?_)))))
   refine ⟨_,(zV (zg rfl)),?_⟩
   replace S:=S.arr [] []
   obtain rfl:=Option.some.inj H
   obtain rfl:=e1
   obtain rfl:=uG Ho1
   exact ⟨rfl,S⟩
  replace H:=if_f hc7 H
  refine zB (za (wd (xI q1_i rfl (c:=i1 + 1) rfl (by omega) (by omega)) (wd (zf rfl) (zb ?_))))
  obtain rfl:=Option.some.inj H
  exact ⟨rfl,((((((((((((Dif.self _ _ _).upd rfl _).upd rfl _).upd rfl _).upd rfl _).upd rfl _).upd rfl _).upd rfl _).upd rfl _).upd rfl _).upd rfl _).upd rfl _),(m1,i1 + 1,()),⟨(by dsimp only; omega),(by dsimp only; omega),e1,rfl,S⟩,by dsimp only; omega⟩
 rintro g8 u9 ⟨s1,rfl,S⟩
 have H:=Ho1
 dsimp only [aft] at H
 refine zd (za (wd (zh rfl) (zb (zx ?_))))
 refine ⟨_,(zV (zg rfl)),?_⟩
 replace S:=S.arr [] []
 obtain rfl:=Option.some.inj H
 exact ⟨rfl,S⟩
theorem ug {A:Nat→Prop} {N:Oth} {w:World} {a0:List Int} {s_0:SlV} {a1_0:Int} {b_1:Nat} (S:St A N w w [] [fS 1 IC s_0 a0,oB b_1 xS [.int .i64 a1_0]]) {r:Bool} (H:slices_ContainsFunc_int_int__hilbert_has_1.f a0 a1_0=some r) :
  Calls PP ur #[s_0.v,.func (.func jO) #[] #[.pointer (some ⟨b_1,0,none⟩)]] w fun e w' => ∃ v,e = .returned v∧(v = .bool r∧St A N w w' [] []):=by
 unfold slices_ContainsFunc_int_int__hilbert_has_1.f at H
 refine zA (n:=9) kI rfl rfl (by simp) (zd (za (wd (zm rfl) (zb (zd (za (wd (zz rfl) (wd (zaH rfl) ?_))))))))
 obtain ⟨r1,er1,H⟩ := zq H
 obtain ⟨B3,MB3,SB3,back⟩ := S.calln 0 ((.z 0 rfl (.z 1 rfl .nil)))
 refine zu (zp zaA) (by decide) (ux SB3 er1) ?_
 rintro _ w2 ⟨rfl,S2⟩
 replace S:=back _ _ _ _ S2 rfl
 clear back S2 SB3
 refine wd (vq rfl rfl) (wd (zm rfl) (zb (zx ?_)))
 refine ⟨_,(zV (zg rfl)),?_⟩
 replace S:=S.arr [] []
 obtain rfl:=Option.some.inj H
 exact ⟨rfl,S⟩
theorem km {A:Nat→Prop} {N:Oth} {w:World} {a0:Tb} {a_0:Option Addr} {a1:List Int} {s_1:SlV} (S:St A N w w [] [oT a_0 a0,fS 1 IC s_1 a1]) {r:Int} (H:hilbert_has.f a0 a1=some r) :
  Calls PP F_hilbert_has #[.pointer a_0,s_1.v] w fun e w' => ∃ v,e = .returned v∧(v = .int .i64 r∧St A N w w' [] []):=by
 unfold hilbert_has.f at H
 refine zA (n:=14) fn_hilbert_has rfl rfl (by simp) (zd (za (wd (zh rfl) (zb (zd (zd (za (wd (zj rfl) ?_))))))))
 obtain ⟨r1,er1,H⟩ := zq H
 obtain ⟨B3,MB3,SB3,back⟩ := S.calln 0 ((.z 0 rfl .nil))
 refine zu (zp ca_formula_Table_Copy) (by decide) (formula_Table_Copy_st SB3 er1) ?_
 rintro _ w2 ⟨a4,rfl,hnilw2,S2⟩
 replace S:=back _ _ _ _ S2 rfl
 clear back S2 SB3
 refine wd (does_isnilp vP rfl rfl hnilw2) (zb ?_)
 refine zH rfl (fun hc5=>?_) (fun hc5=>?_)
 ·replace H:=if_t hc5 H
  refine zd (za (wd (zh rfl) (zb (zx ?_))))
  refine ⟨_,(zV (zg rfl)),?_⟩
  replace S:=S.arr [] []
  obtain rfl:=Option.some.inj H
  exact ⟨rfl,S⟩
 replace H:=if_f hc5 H
 refine zB (zd (za (wd (zj rfl) ?_)))
 obtain ⟨r6,er6,H⟩ := zq H
 obtain ⟨B8,MB8,SB8,back⟩ := S.calln 0 ((.z 0 rfl .nil))
 refine zu (zp vV) (by decide) (v8 SB8 er6) ?_
 rintro _ w7 ⟨rfl,S2⟩
 replace S:=back _ _ _ _ S2 rfl
 clear back S2 SB8
 refine xe ze_int (by decide) fun b10 w9 hw9=>?_
 replace S:=S.new hw9
 refine yD zJ rfl rfl (S.blk 0) (by simp) rfl rfl fun w11 B hw11 zw11=>?_
 replace S:=S.store 0 B hw11
 clear B
 refine zb (zd (zd (za (wd (zz rfl) (wd (does_funcl) ?_)))))
 obtain ⟨r12,er12,H⟩ := zq H
 obtain ⟨B14,MB14,SB14,back⟩ := S.calln 0 ((.z 1 rfl (.o 0 rfl .nil)))
 refine zu (zp kJ) (by decide) (ug SB14 er12) ?_
 rintro _ w13 ⟨rfl,S2⟩
 replace S:=back _ _ _ _ S2 rfl
 clear back S2 SB14
 refine zb ?_
 refine zH rfl (fun hc15=>?_) (fun hc15=>?_)
 ·replace H:=if_t hc15 H
  refine zd (za (wd (zh rfl) (zb (zx ?_))))
  refine ⟨_,(zV (zg rfl)),?_⟩
  replace S:=S.arr [] []
  obtain rfl:=Option.some.inj H
  exact ⟨rfl,S⟩
 replace H:=if_f hc15 H
 refine zB (zd (za (wd (zh rfl) (zb (zx ?_)))))
 refine ⟨_,(zV (zg rfl)),?_⟩
 replace S:=S.arr [] []
 obtain rfl:=Option.some.inj H
 exact ⟨rfl,S⟩
theorem hilbert_Is_st {A:Nat→Prop} {N:Oth} {w:World} {a0:Tb} {a_0:Option Addr} {a1:Int} {a2:Int} (S:St A N w w [oT a_0 a0] []) {k:Nat} {r:Tb × Bool × Int} (H:hilbert_Is.f k a0 a1 a2=some r) :
  Calls PP F_hilbert_Is #[.pointer a_0,.int .i64 a1,.int .i64 a2] w fun e w' => ∃ v,e = .returned v∧(v = .tuple #[.bool r.2.1,.int .i64 r.2.2]∧St A N w w' [oT a_0 r.1] []):=by
 unfold hilbert_Is.f at H
 refine zA (n:=20) fn_hilbert_Is rfl rfl (by simp) (zd (za (wd (zm rfl) (wd (zh rfl) (zb (zd (zd (za (wd (zj rfl) (wd (zf rfl) ?_))))))))))
 refine xK (C:=IC) (l:=[a2]) (vs:=[.int .i64 a2]) xx zar.zero rfl rfl (fun _ _=>rfl) (by decide) rfl (by decide) fun b2 w1 s3 hBw1 hw1=>?_
 replace S:=S.lit hBw1 hw1 (by simp)
 obtain ⟨r4,er4,H⟩ := zq H
 obtain ⟨B6,MB6,SB6,back⟩ := S.calln 0 ((.o 1 rfl (.s 0 rfl .nil)))
 refine zu (zp kq) (by decide) (km SB6 er4) ?_
 rintro _ w5 ⟨rfl,S2⟩
 replace S:=back _ _ _ _ S2 rfl
 clear back S2 SB6
 refine wd (zh rfl) (zb (zd (za (wd (zf rfl) (wd (xh rfl rfl) (zb ?_))))))
 refine zH rfl (fun hc7=>?_) (fun hc7=>?_)
 ·replace H:=if_t hc7 H
  refine zd (za (wd (zf rfl) (wd (zm rfl) (wd (zh rfl) (zb (zx ?_))))))
  refine ⟨_,(xp (zg rfl) (zg rfl)),?_⟩
  replace S:=S.arr [1] []
  obtain rfl:=Option.some.inj H
  exact ⟨rfl,S⟩
 replace H:=if_f hc7 H
 refine zB (zd (za (wd (zj rfl) (wd (zf rfl) (wd (zf rfl) ?_)))))
 obtain ⟨r8,er8,H⟩ := zq H
 replace S:=S.front 1
 obtain ⟨B10,MB10,SB10,back⟩ := S.calln 1 ((.nil))
 refine zu (zp ca_hilbert_fits) (by decide) (hilbert_fits_st SB10 er8) ?_
 rintro _ w9 ⟨rfl,S2⟩
 replace S:=back _ _ _ _ S2 rfl
 clear back S2 SB10
 refine wd (zm rfl) (wd (zh rfl) (zb (zx ?_)))
 refine ⟨_,(xp (zg rfl) (zg rfl)),?_⟩
 replace S:=S.arr [0] []
 obtain rfl:=Option.some.inj H
 exact ⟨rfl,S⟩
end Go.Proofs.YtflieamjacclnaaGreatDoor
end
section
namespace Go.Proofs.YtflieamjacclnaaGreatDoor
open Go.RowKit
namespace Gw
section
variable {P:Program} {rd:Option Nat} {n:Nat} {dm:List Nat} {ops:Array Oper} {Q:Post} {f:Fr} {w:World} {rest:List Oper} {ty:TypeId} {pos:String} {af:Array Edge}
theorem wl_gturn2 {dd:Tmp} {op:Op} {j:Nat} {pol c t:Bool} {v:Value} {oj:Oper} {dj:Tmp} {g:FuncId} {args:Array Value} {R:World→Prop} (hj:ops[j]? = some oj) (hdj:oj.dst=some dj) (ht:f dj=gv c (.bool t)) (hdn:dj < n)
  (he:(c && (t == pol))=true→Enters P ⟨some dd,op,ty,pos,af,some (j,pol)⟩ f w g args) (hd:dd < n)
  (hc:(c && (t == pol))=true→Calls P g args w fun e w' => ∃ v',e = .returned v'∧(v'=v∧R w')) (h0:(c && (t == pol))=false→R w)
  (h : ∀ w',R w'→wl P rd n dm ops rest Q (upd f dd (gv (c && (t == pol)) v)) w'):wl P rd n dm ops (⟨some dd,op,ty,pos,af,some (j,pol)⟩ :: rest) Q f w:=fun a ha=>by
 refine wpListIn_step fun K hK=>?_
 rw [zaG ha rfl hj hdj ht hdn]
 cases hcc:(c && (t == pol)) with
 | true =>
  rw [if_pos rfl]
  refine op_wp ha (he hcc) (by simp) (show _∧_ from ⟨fun h=>(by cases h),?_⟩)
  refine CallsIn.mono (show CallsIn (fen rd) _ P g args w _ from callsIn_wide.2 (hc hcc)) ?_
  rintro e w' ⟨v',rfl,rfl,hx⟩
  have h2:=h w' hx
  rw [hcc,zl rfl] at h2
  exact hK _ _ (h2 _ (ha.put hd _))
 | false =>
  rw [if_neg (by simp)]
  have h2:=h w (h0 hcc)
  rw [hcc,gv_f] at h2
  exact ⟨fun _ _=>trivial,hK _ _ (h2 _ (ha.put hd _))⟩
theorem wl_gturn {dd:Tmp} {op:Op} {j:Nat} {pol t:Bool} {v:Value} {oj:Oper} {dj:Tmp} {g:FuncId} {args:Array Value} {R:World→Prop} (hj:ops[j]? = some oj) (hdj:oj.dst=some dj) (ht:f dj = .bool t) (hdn:dj < n)
  (he:(t == pol)=true→Enters P ⟨some dd,op,ty,pos,af,some (j,pol)⟩ f w g args) (hd:dd < n)
  (hc:(t == pol)=true→Calls P g args w fun e w' => ∃ v',e = .returned v'∧(v'=v∧R w')) (h0:(t == pol)=false→R w)
  (h : ∀ w',R w'→wl P rd n dm ops rest Q (upd f dd (gv (t == pol) v)) w'):wl P rd n dm ops (⟨some dd,op,ty,pos,af,some (j,pol)⟩ :: rest) Q f w :=
 wl_gturn2 (c:=true) hj hdj (by rw [ht]; exact gv_t _) hdn he hd hc h0 h
end
end Gw
end Go.Proofs.YtflieamjacclnaaGreatDoor
end
section
namespace Go.Proofs.YtflieamjacclnaaGreatDoor
open Gw Go.RowKit
set_option maxHeartbeats 4000000
set_option maxRecDepth 20000
theorem hilbert_right_st {A:Nat→Prop} {N:Oth} {w:World} {a0:Tb} {a_0:Option Addr} {a1:List (Int × Int)} {m_1:Nat} {a2:List Ln} {s_2:SlV} {a3:Int} (S:St A N w w [oT a_0 a0] [oMI m_1 a1,fS 4 Ln.C s_2 a2]) {k:Nat} {r:Tb × Bool} (H:hilbert_right.f k a0 a1 a2 a3=some r) :
  Calls PP F_hilbert_right #[.pointer a_0,.map (some m_1),s_2.v,.int .i64 a3] w fun e w' => ∃ v,e = .returned v∧(v = .bool r.2∧St A N w w' [oT a_0 r.1] []):=by
 unfold hilbert_right.f at H
 refine zA (n:=86) fn_hilbert_right rfl rfl (by simp) (zd (za (wd (zm rfl) (zb (zd (za (wd (zz rfl) (wd (zf rfl) ?_))))))))
 obtain ⟨hi1,H⟩ := xi H
 refine wd (zN zU rfl rfl (S.rd 1) (zC hi1).1 (zC hi1).2) (wd (zo j0 rfl ((S.rd 1).at (xj Ln.z (zC hi1))) (Ln.len _)) ?_)
 refine xe ze_Ln (by decide) fun b3 w2 hw2=>?_
 replace S:=S.new hw2
 refine zM j0 rfl rfl (S.blk 0) (Ln.len _) (by rw [Ln.len]; decide) (Ln.one _) (zZ (Ln.len _)) fun w4 B hw4 zw4=>?_
 replace S:=S.store 0 B hw4
 clear B
 refine zb (zd (zd (za (wd (ze vn rfl (o':=0) rfl) (wd (zi x6 rfl ((S.blk 0).cell (Ln.get_kind _))) (wd (xh rfl rfl) (zb ?_)))))))
 refine zH rfl (fun hc5=>?_) (fun hc5=>?_)
 ·replace H:=if_t hc5 H
  refine zd (za (wd (ze vn rfl (o':=0) rfl) (wd (zi x6 rfl ((S.blk 0).cell (Ln.get_kind _))) (wd (zR rfl rfl) (wd (zE rfl) ?_)))))
  refine wg (fun hg=>does_mv_m rfl) ?_
  refine wg (fun hg=>ze xG rfl (o':=1) rfl) ?_
  refine wg (fun hg=>zi zJ (zl hg) ((S.blk 0).cell (Ln.get_form _))) ?_
  refine wg (fun hg=>does_lookup1 (C:=(Value.int .i64)) (D:=(Value.int .i64)) (key:=(at_ Ln.z a2 a3).form) (zv:=0) un_M_int_int key_int zv_int (zl hg) (zl hg) (S.mapZ 0)) ?_
  refine wg (fun hg=>kX (zl hg) rfl) (wd (xc rfl (fun hp=>(zl (xn hp)))) (wd (zE rfl) ?_))
  refine wg (fun hg=>zj rfl) ?_
  refine wg (fun hg=>ze vn rfl (o':=0) rfl) ?_
  refine wg (fun hg=>zi x6 (zl hg) ((S.blk 0).cell (Ln.get_kind _))) ?_
  refine wg (fun hg=>ze xG rfl (o':=1) rfl) ?_
  refine wg (fun hg=>zi zJ (zl hg) ((S.blk 0).cell (Ln.get_form _))) ?_
  obtain ⟨r6,er6,H⟩ := zq H
  replace S:=S.front 1
  obtain ⟨B8,MB8,SB8,back⟩ := S.calln 1 ((.nil))
  refine wl_gturn (R:=fun W=>St A N w W [oT a_0 r6.1,oB b3 T_Ln (Ln.C (at_ Ln.z a2 a3))] [oMI m_1 a1,fS 4 Ln.C s_2 a2]) (j:=10) (pol:=false) rfl rfl rfl (by decide) (fun hg=>zP ca_hilbert_fits (zS (zl hg) (zS (zl hg) (zS (zl hg) rfl)))) (by decide) (fun hg=>zaX (hilbert_fits_st SB8 (if_t (by simpa using hg) er6)) fun _ _ ⟨hv,S2⟩ => ⟨hv,back _ _ _ _ S2 rfl⟩) (fun hg=>by obtain rfl:=Option.some.inj (if_f (by simpa using hg) er6); exact S) fun w7 S2=>?_
  replace S:St A N w w7 [oT a_0 r6.1,oB b3 T_Ln (Ln.C (at_ Ln.z a2 a3))] [oMI m_1 a1,fS 4 Ln.C s_2 a2]:=S2
  clear back S2 SB8
  refine wd (xw rfl (fun hp=>(zl (xn hp)))) (wd (zm rfl) (zb (zd (za (wd (ze jn rfl (o':=2) rfl) (wd (zi zJ rfl ((S.blk 1).cell (Ln.get_a _))) (wd (zR rfl rfl) (wd (zE rfl) ?_))))))))
  refine wg (fun hg=>ze uj rfl (o':=3) rfl) ?_
  refine wg (fun hg=>zi zJ (zl hg) ((S.blk 1).cell (Ln.get_b _))) ?_
  refine wg (fun hg=>zR (zl hg) rfl) (wd (xc rfl (fun hp=>(zl (xn hp)))) (wd (zE rfl) ?_))
  refine wg (fun hg=>zE rfl) (wd (xc rfl (fun hp=>(zl (xn hp)))) (wd (zm rfl) (zb (zx ?_))))
  refine ⟨_,(zV (zg rfl)),?_⟩
  replace S:=S.arr [0] []
  obtain rfl:=Option.some.inj H
  exact ⟨rfl,S⟩
 replace H:=if_f hc5 H
 refine zB (zd (zd (za (wd (ze jn rfl (o':=2) rfl) (wd (zi zJ rfl ((S.blk 0).cell (Ln.get_a _))) (wd (ze uj rfl (o':=3) rfl) (wd (zi zJ rfl ((S.blk 0).cell (Ln.get_b _))) (wd (does_min rfl rfl) (wd (xM rfl rfl) (wd (zE rfl) ?_))))))))))
 refine wg (fun hg=>ze jn rfl (o':=2) rfl) ?_
 refine wg (fun hg=>zi zJ (zl hg) ((S.blk 0).cell (Ln.get_a _))) ?_
 refine wg (fun hg=>ze uj rfl (o':=3) rfl) ?_
 refine wg (fun hg=>zi zJ (zl hg) ((S.blk 0).cell (Ln.get_b _))) ?_
 refine wg (fun hg=>does_max (zl hg) (zl hg)) ?_
 refine wg (fun hg=>zf rfl) ?_
 refine wg (fun hg=>vq (zl hg) (zl hg)) (wd (xw rfl (fun hp=>(zl (xn hp)))) (zb ?_))
 refine zH rfl (fun hc9=>?_) (fun hc9=>?_)
 ·replace H:=if_t hc9 H
  refine zd (za (wd (zm rfl) (zb (zx ?_))))
  refine ⟨_,(zV (zg rfl)),?_⟩
  replace S:=S.arr [1] []
  obtain rfl:=Option.some.inj H
  exact ⟨rfl,S⟩
 replace H:=if_f hc9 H
 refine zB (zd (za (wd (zj rfl) (wd (zz rfl) (wd (ze jn rfl (o':=2) rfl) (wd (zi zJ rfl ((S.blk 0).cell (Ln.get_a _))) ?_))))))
 obtain ⟨hi10,H⟩ := xi H
 refine wd (zN zU rfl rfl (S.rd 1) (zC hi10).1 (zC hi10).2) (wd (ze xG rfl (o':=_) rfl) (wd (zi zJ rfl (((S.rd 1).at (xj Ln.z (zC hi10))).get (Ln.get_form _))) ?_))
 obtain ⟨r11,er11,H⟩ := zq H
 obtain ⟨B13,MB13,SB13,back⟩ := S.calln 0 ((.o 1 rfl .nil))
 refine zu (zp yB) (by decide) (yC SB13 er11) ?_
 rintro _ w12 ⟨rfl,S2⟩
 replace S:=back _ _ _ _ S2 rfl
 clear back S2 SB13
 refine wd (z1 rfl) (wd (zr rfl rfl) (wd (zr rfl rfl) ?_))
 refine xe ua (by decide) fun b15 w14 hw14=>?_
 replace S:=S.new hw14
 refine zM xQ rfl rfl (S.blk 0) (Nd.len _) (by rw [Nd.len]; decide) (Nd.one _) (zZ (Nd.len _)) fun w16 B hw16 zw16=>?_
 replace S:=S.store 0 B hw16
 clear B
 refine wd (zm rfl) (zb (zd ?_))
 refine xL 10 (Ext w16) hmix (by kernel_rfl) (by kernel_rfl) (Ext.drawn _) (zt (fun v K=>zo xQ rfl (((S.ext K).blk 0).all _ (Nd.len _)) (Nd.len _)) (zt (fun v K=>zz rfl) (zt (fun v K=>ze uj rfl (o':=3) rfl) (zt (fun v K=>zi zJ rfl (((S.ext K).blk 1).cell (Ln.get_b _))) ?_))))
 obtain ⟨hi17,H⟩ := xi H
 refine zt (fun v K=>zN zU rfl rfl ((S.ext K).rd 1) (zC hi17).1 (zC hi17).2) (zt (fun v K=>ze xG rfl (o':=_) rfl) (zt (fun v K=>zi zJ rfl ((((S.ext K).rd 1).at (xj Ln.z (zC hi17))).get (Ln.get_form _))) (zt (fun v K=>ze xG rfl (o':=1) rfl) (zt (fun v K=>zi zJ rfl (((S.ext K).blk 1).cell (Ln.get_form _))) (zt (fun v K=>yj bu_Nd (Bld.one rfl rfl (by rw [Nd.len]; decide) (Nd.set_kind _ _) (Bld.one rfl rfl (by rw [Nd.len]; decide) (Nd.set_l _ _) (Bld.one rfl rfl (by rw [Nd.len]; decide) (Nd.set_r _ _) Bld.nil)))) ?_)))))
 refine yL fun w18 K=>?_
 replace S:=S.ext K
 clear K
 refine wd (does_eqv eg_Nd (eq_Nd _ _) (by decide) rfl rfl) (wd (zm rfl) (zb (zx ?_)))
 refine ⟨_,(zV (zg rfl)),?_⟩
 replace S:=S.arr [2] []
 obtain rfl:=Option.some.inj H
 exact ⟨rfl,S⟩
theorem jo {A:Nat→Prop} {N:Oth} {w:World} {a0:Tb} {a_0:Option Addr} {a1:List Int} {s_1:SlV} {a2:List Ln} {s_2:SlV} (S:St A N w w [oT a_0 a0] [fS 1 IC s_1 a1,fS 4 Ln.C s_2 a2]) {k:Nat} {r:Tb × Int} (H:hilbert_Check.f k a0 a1 a2=some r) :
  Calls PP F_hilbert_Check #[.pointer a_0,s_1.v,s_2.v] w fun e w' => ∃ v,e = .returned v∧(v = .int .i64 r.2∧St A N w w' [oT a_0 r.1] []):=by
 unfold hilbert_Check.f at H
 refine zA (n:=63) fn_hilbert_Check rfl rfl (by simp) (zd (za (wd (zh rfl) (zb (zd (zd (za (wd (zj rfl) (wd (zz rfl) ?_)))))))))
 obtain ⟨r1,er1,H⟩ := zq H
 obtain ⟨B3,MB3,SB3,back⟩ := S.calln 0 ((.o 0 rfl (.z 0 rfl .nil)))
 refine zu (zp kq) (by decide) (km SB3 er1) ?_
 rintro _ w2 ⟨rfl,S2⟩
 replace S:=back _ _ _ _ S2 rfl
 clear back S2 SB3
 refine wd (zh rfl) (zb (zd (za (wd (zf rfl) (wd (xh rfl rfl) (zb ?_))))))
 refine zH rfl (fun hc4=>?_) (fun hc4=>?_)
 ·replace H:=if_t hc4 H
  refine zd (za (wd (zf rfl) (wd (zh rfl) (zb (zx ?_)))))
  refine ⟨_,(zV (zg rfl)),?_⟩
  replace S:=S.arr [0] []
  obtain rfl:=Option.some.inj H
  exact ⟨rfl,S⟩
 replace H:=if_f hc4 H
 refine zB (zd (zd (za (wd (zz rfl) (wd (xa zU rfl (S.rd 1)) (wd (zf rfl) (zb ?_)))))))
 obtain ⟨o5,e5,Ho5⟩ := zq H
 clear H
 refine xY [6,9,10,23,24,25,26,27,28,29,30,31,32,33,34,35] (fun fr W => ∃ s5:Unit,o5 = .inl s5∧St A N w W [oT a_0 a0] [fS 1 IC s_1 a1,fS 4 Ln.C s_2 a2]) ?_ ?_
 ·refine zQ ?_
  refine xW (α:=Nat × Int × Unit) [6,9,10,23,24,25,26,27,28,29,30,31,32,33,34,35] (fun x fr W=>(x.1:Int)=(a2.length:Int) - x.2.1∧0 ≤ x.2.1∧forN (fun i s=>hilbert_Check.b0 a0 a2 i) x.1 x.2.1 x.2.2=some o5∧fr 23 = .int .i64 x.2.1∧St A N w W [oT a_0 a0] [fS 1 IC s_1 a1,fS 4 Ln.C s_2 a2]) (fun x=>x.1) (((a2.length:Int) - 0).toNat,0,()) ⟨(by dsimp only; have hle:=Int.natCast_nonneg (a2.length); omega),(Int.le_refl _),(by dsimp only; exact e5),rfl,S⟩ ?_
  rintro ⟨m5,i5,_⟩ g5 u5 ⟨hm5,hl5,e5,q5_i,S⟩
  try dsimp only at hm5
  try dsimp only at hl5
  try dsimp only at e5
  try dsimp only at S
  try dsimp only at q5_i
  refine zd (za (wd (xM q5_i rfl) (zb (zd ?_))))
  refine zH rfl (fun hc6=>?_) (fun hc6=>?_)
  rotate_left
  ·refine yn ?_
   have hge:(a2.length:Int) ≤ i5:=Int.not_lt.1 (of_decide_eq_false hc6)
   obtain rfl:m5=0:=by omega
   replace e5:=jy e5
   exact ⟨rfl,((Dif.self _ _ _).upd rfl _),(),e5,S⟩
  refine zB ?_
  have hlt5:i5 < (a2.length:Int):=of_decide_eq_true hc6
  obtain ⟨m5,rfl⟩ : ∃ m,m5=m + 1:=⟨m5 - 1,by omega⟩
  obtain ⟨q5,H,e5⟩ := jC e5
  unfold hilbert_Check.b0 at H
  try dsimp only at H
  have hb5:=(S.len 1)
  refine zd ?_
  refine zQ (zd (za (wd (zN zU rfl q5_i (S.rd 1) (And.intro (show 0 ≤ i5 by omega) (show i5 < (a2.length:Int) from hlt5)).1 (And.intro (show 0 ≤ i5 by omega) (show i5 < (a2.length:Int) from hlt5)).2) (wd (zo j0 rfl ((S.rd 1).at (xj Ln.z (And.intro (show 0 ≤ i5 by omega) (show i5 < (a2.length:Int) from hlt5)))) (Ln.len _)) ?_))))
  refine xe ze_Ln (by decide) fun b9 w8 hw8=>?_
  replace S:=S.new hw8
  refine zM j0 rfl rfl (S.blk 0) (Ln.len _) (by rw [Ln.len]; decide) (Ln.one _) (zZ (Ln.len _)) fun w10 B hw10 zw10=>?_
  replace S:=S.store 0 B hw10
  clear B
  refine zb (zd (za (wd (zj rfl) (wd (ze xG rfl (o':=1) rfl) (wd (zi zJ rfl ((S.blk 0).cell (Ln.get_form _))) ?_)))))
  refine xK (C:=IC) (l:=[(at_ Ln.z a2 i5).form]) (vs:=[.int .i64 ((at_ Ln.z a2 i5).form)]) xx zar.zero rfl rfl (fun _ _=>rfl) (by decide) rfl (by decide) fun b12 w11 s13 hBw11 hw11=>?_
  replace S:=S.lit hBw11 hw11 (by simp)
  obtain ⟨r14,er14,H⟩ := zq H
  obtain ⟨B16,MB16,SB16,back⟩ := S.calln 0 ((.o 2 rfl (.s 0 rfl .nil)))
  refine zu (zp kq) (by decide) (km SB16 er14) ?_
  rintro _ w15 ⟨rfl,S2⟩
  replace S:=back _ _ _ _ S2 rfl
  clear back S2 SB16
  refine wd (zh rfl) (zb (zd (za (wd (zf rfl) (wd (xh rfl rfl) (zb ?_))))))
  refine zH rfl (fun hc17=>?_) (fun hc17=>?_)
  ·replace H:=if_t hc17 H
   refine zd (za (wd (zf rfl) (wd (zh rfl) (zb (zx ?_)))))
   refine ⟨_,(zV (zg rfl)),?_⟩
   replace S:=S.arr [2] []
   obtain rfl:=Option.some.inj H
   obtain rfl:=e5
   obtain rfl:=uG Ho5
   exact ⟨rfl,S⟩
  replace H:=if_f hc17 H
  refine zB (za (wd (xI q5_i rfl (c:=i5 + 1) rfl (by omega) (by omega)) (wd (zf rfl) (zb ?_))))
  replace S:=S.arr [2] [0,1]
  obtain rfl:=Option.some.inj H
  exact ⟨rfl,(by repeat first | exact Dif.refl _ _ | exact Dif.self _ _ _ | refine Dif.upd ?_ rfl _ | refine Dif.mask ?_ rfl _),(m5,i5 + 1,()),⟨(by dsimp only; omega),(by dsimp only; omega),e5,rfl,S⟩,by dsimp only; omega⟩
 rintro g18 u19 ⟨s5,rfl,S⟩
 have H:=Ho5
 dsimp only [aft] at H
 refine zd (za ?_)
 refine wl_makeMap (C:=(Value.int .i64)) (D:=(Value.int .i64)) (by decide) fun m20 w21 hmw21 hxw21 hlw21=>?_
 replace S:=S.newM hmw21 hxw21 hlw21
 refine wd (does_as_m rfl) (zb (zd (zd (za (wd (zz rfl) (wd (xa xx rfl (S.rd 0)) (wd (zf rfl) (zb ?_))))))))
 obtain ⟨o22,e22,Ho22⟩ := zq H
 clear H
 refine xY [13,39,40,41,42,43,44,45,46,47] (fun fr W=>St A N w W [oMI m20 o22,oT a_0 a0] [fS 1 IC s_1 a1,fS 4 Ln.C s_2 a2]) ?_ ?_
 ·refine zQ ?_
  refine xW (α:=Nat × Int × (List (Int × Int))) [13,39,40,41,42,43,44,45,46,47] (fun x fr W=>(x.1:Int)=(a1.length:Int) - x.2.1∧0 ≤ x.2.1∧forS (fun i s=>hilbert_Check.b1 a1 i s) x.1 x.2.1 x.2.2=some o22∧fr 39 = .int .i64 x.2.1∧St A N w W [oMI m20 (x.2.2),oT a_0 a0] [fS 1 IC s_1 a1,fS 4 Ln.C s_2 a2]) (fun x=>x.1) (((a1.length:Int) - 0).toNat,0,([]:List (Int × Int))) ⟨(by dsimp only; have hle:=Int.natCast_nonneg (a1.length); omega),(Int.le_refl _),(by dsimp only; exact e22),rfl,S⟩ ?_
  rintro ⟨m22,i22,x22_0⟩ g22 u22 ⟨hm22,hl22,e22,q22_i,S⟩
  try dsimp only at hm22
  try dsimp only at hl22
  try dsimp only at e22
  try dsimp only at S
  try dsimp only at q22_i
  refine zd (za (wd (xM q22_i rfl) (zb (zd ?_))))
  refine zH rfl (fun hc23=>?_) (fun hc23=>?_)
  rotate_left
  ·refine yn ?_
   have hge:(a1.length:Int) ≤ i22:=Int.not_lt.1 (of_decide_eq_false hc23)
   obtain rfl:m22=0:=by omega
   replace e22:=forS_0 e22
   obtain rfl:=e22
   exact ⟨rfl,((Dif.self _ _ _).upd rfl _),S⟩
  refine zB ?_
  have hlt22:i22 < (a1.length:Int):=of_decide_eq_true hc23
  obtain ⟨m22,rfl⟩ : ∃ m,m22=m + 1:=⟨m22 - 1,by omega⟩
  obtain ⟨q22,H,e22⟩ := forS_s e22
  unfold hilbert_Check.b1 at H
  try dsimp only at H
  have hb22:=(S.len 0)
  refine zd ?_
  refine zQ (zd (za (wd (zN xx rfl q22_i (S.rd 0) (And.intro (show 0 ≤ i22 by omega) (show i22 < (a1.length:Int) from hlt22)).1 (And.intro (show 0 ≤ i22 by omega) (show i22 < (a1.length:Int) from hlt22)).2) (wd (zi zJ rfl ((S.rd 0).one (xj (0:Int) (And.intro (show 0 ≤ i22 by omega) (show i22 < (a1.length:Int) from hlt22))) rfl)) (wd (zh rfl) (zb (za (wd (does_mv_m rfl) (wd (zf rfl) (wd (does_lookup1 (C:=(Value.int .i64)) (D:=(Value.int .i64)) (key:=at_ (0:Int) a1 i22) (zv:=0) un_M_int_int key_int zv_int rfl rfl (S.map 0)) (wd (jI rfl rfl) ?_)))))))))))
  refine zaD (C:=(Value.int .i64)) (D:=(Value.int .i64)) (key:=at_ (0:Int) a1 i22) (v:=IntKind.i64.wrap (((Gw.look (at_ (0:Int) a1 i22) x22_0).getD 0) + 1)) un_M_int_int key_int rfl rfl rfl (S.map 0) fun w25 hmw25 hcw25 hsw25=>?_
  replace S:=S.mapSet 0 ⟨hmw25,hcw25,hsw25⟩
  refine zb (za (wd (xI q22_i rfl (c:=i22 + 1) rfl (by omega) (by omega)) (wd (zf rfl) (zb ?_))))
  obtain rfl:=Option.some.inj H
  exact ⟨rfl,(((((((((((Dif.self _ _ _).upd rfl _).upd rfl _).upd rfl _).upd rfl _).upd rfl _).upd rfl _).upd rfl _).upd rfl _).upd rfl _).upd rfl _),(m22,i22 + 1,Gw.ins (at_ (0:Int) a1 i22) (IntKind.i64.wrap (((Gw.look (at_ (0:Int) a1 i22) x22_0).getD 0) + 1)) x22_0),⟨(by dsimp only; omega),(by dsimp only; omega),e22,rfl,S⟩,by dsimp only; omega⟩
 rintro g26 u27 S
 have H:=Ho22
 refine zd (zd (za (wd (zz rfl) (wd (xa zU rfl (S.rd 1)) (wd (zf rfl) (zb ?_))))))
 obtain ⟨o28,e28,Ho28⟩ := zq H
 clear H
 refine xY [6,14,50,51,52,53,54,55,56,57,58,59] (fun fr W => ∃ s28:Tb,o28 = .inl s28∧St A N w W [oMI m20 o22,oT a_0 s28] [fS 1 IC s_1 a1,fS 4 Ln.C s_2 a2]) ?_ ?_
 ·refine zQ ?_
  refine xW (α:=Nat × Int × Tb) [6,14,50,51,52,53,54,55,56,57,58,59] (fun x fr W=>(x.1:Int)=(a2.length:Int) - x.2.1∧0 ≤ x.2.1∧forN (fun i s=>hilbert_Check.b2 k o22 a2 i s) x.1 x.2.1 x.2.2=some o28∧fr 50 = .int .i64 x.2.1∧St A N w W [oMI m20 o22,oT a_0 (x.2.2)] [fS 1 IC s_1 a1,fS 4 Ln.C s_2 a2]) (fun x=>x.1) (((a2.length:Int) - 0).toNat,0,a0) ⟨(by dsimp only; have hle:=Int.natCast_nonneg (a2.length); omega),(Int.le_refl _),(by dsimp only; exact e28),rfl,S⟩ ?_
  rintro ⟨m28,i28,x28_0⟩ g28 u28 ⟨hm28,hl28,e28,q28_i,S⟩
  try dsimp only at hm28
  try dsimp only at hl28
  try dsimp only at e28
  try dsimp only at S
  try dsimp only at q28_i
  refine zd (za (wd (xM q28_i rfl) (zb (zd ?_))))
  refine zH rfl (fun hc29=>?_) (fun hc29=>?_)
  rotate_left
  ·refine yn ?_
   have hge:(a2.length:Int) ≤ i28:=Int.not_lt.1 (of_decide_eq_false hc29)
   obtain rfl:m28=0:=by omega
   replace e28:=jy e28
   exact ⟨rfl,((Dif.self _ _ _).upd rfl _),x28_0,e28,S⟩
  refine zB ?_
  have hlt28:i28 < (a2.length:Int):=of_decide_eq_true hc29
  obtain ⟨m28,rfl⟩ : ∃ m,m28=m + 1:=⟨m28 - 1,by omega⟩
  obtain ⟨q28,H,e28⟩ := jC e28
  unfold hilbert_Check.b2 at H
  try dsimp only at H
  have hb28:=(S.len 1)
  refine zd ?_
  refine zQ (zd (za (wd (zf q28_i) (wd (zh rfl) (zb (zd (za (wd (zj rfl) (wd (does_mv_m rfl) (wd (zz rfl) (wd (zf rfl) ?_)))))))))))
  obtain ⟨r30,er30,H⟩ := zq H
  replace S:=S.front 1
  obtain ⟨B32,MB32,SB32,back⟩ := S.calln 1 ((.o 0 rfl (.z 1 rfl .nil)))
  refine zu (zp ca_hilbert_right) (by decide) (hilbert_right_st SB32 er30) ?_
  rintro _ w31 ⟨rfl,S2⟩
  replace S:=back _ _ _ _ S2 rfl
  clear back S2 SB32
  refine wd (xk rfl) (zb ?_)
  refine zH rfl (fun hc33=>?_) (fun hc33=>?_)
  ·replace H:=if_t hc33 H
   refine zd (za (wd (zh rfl) (zb (zx ?_))))
   refine ⟨_,(zV (zg rfl)),?_⟩
   replace S:=S.arr [0] []
   obtain rfl:=Option.some.inj H
   obtain rfl:=e28
   obtain rfl:=uG Ho28
   exact ⟨rfl,S⟩
  replace H:=if_f hc33 H
  refine zB (za (wd (xI q28_i rfl (c:=i28 + 1) rfl (by omega) (by omega)) (wd (zf rfl) (zb ?_))))
  replace S:=S.arr [1,0] [0,1]
  obtain rfl:=Option.some.inj H
  exact ⟨rfl,((((((((((((Dif.self _ _ _).upd rfl _).upd rfl _).upd rfl _).upd rfl _).upd rfl _).upd rfl _).upd rfl _).upd rfl _).upd rfl _).upd rfl _).upd rfl _),(m28,i28 + 1,r30.1),⟨(by dsimp only; omega),(by dsimp only; omega),e28,rfl,S⟩,by dsimp only; omega⟩
 rintro g34 u35 ⟨s28,rfl,S⟩
 have H:=Ho28
 dsimp only [aft] at H
 refine zd (zd (za (wd (zz rfl) (wd (xa zU rfl (S.rd 1)) (wd (zR rfl rfl) (zb ?_))))))
 refine zH rfl (fun hc36=>?_) (fun hc36=>?_)
 ·replace H:=if_t hc36 H
  refine zd (za (wd (zh rfl) (zb (zx ?_))))
  refine ⟨_,(zV (zg rfl)),?_⟩
  replace S:=S.arr [1] []
  obtain rfl:=Option.some.inj H
  exact ⟨rfl,S⟩
 replace H:=if_f hc36 H
 refine zB (zd (za (wd (zh rfl) (zb (zx ?_)))))
 refine ⟨_,(zV (zg rfl)),?_⟩
 replace S:=S.arr [1] []
 obtain rfl:=Option.some.inj H
 exact ⟨rfl,S⟩
theorem hilbert_Tells_st {A:Nat→Prop} {N:Oth} {w:World} {a0:Tb} {a_0:Option Addr} {a1:List Int} {s_1:SlV} {a2:List Ln} {s_2:SlV} (S:St A N w w [oT a_0 a0] [fS 1 IC s_1 a1,fS 4 Ln.C s_2 a2]) {k:Nat} {r:Tb × Int × Int} (H:hilbert_Tells.f k a0 a1 a2=some r) :
  Calls PP F_hilbert_Tells #[.pointer a_0,s_1.v,s_2.v] w fun e w' => ∃ v,e = .returned v∧(v = .tuple #[.int .i64 r.2.1,.int .i64 r.2.2]∧St A N w w' [oT a_0 r.1] []):=by
 unfold hilbert_Tells.f at H
 refine zA (n:=23) fn_hilbert_Tells rfl rfl (by simp) (zd (za (wd (zh rfl) (wd (zh rfl) (zb (zd (zd (za (wd (zj rfl) (wd (zz rfl) (wd (zz rfl) ?_)))))))))))
 obtain ⟨r1,er1,H⟩ := zq H
 obtain ⟨B3,MB3,SB3,back⟩ := S.calln 1 ((.z 0 rfl (.z 1 rfl .nil)))
 refine zu (zp jj) (by decide) (jo SB3 er1) ?_
 rintro _ w2 ⟨rfl,S2⟩
 replace S:=back _ _ _ _ S2 rfl
 clear back S2 SB3
 refine wd (zh rfl) (zb (zd (za (wd (zf rfl) (wd (xh rfl rfl) (zb ?_))))))
 refine zH rfl (fun hc4=>?_) (fun hc4=>?_)
 ·replace H:=if_t hc4 H
  refine zd (za (wd (zf rfl) (wd (zh rfl) (wd (zh rfl) (zb (zx ?_))))))
  refine ⟨_,(xp (zg rfl) (zg rfl)),?_⟩
  replace S:=S.arr [0] []
  obtain rfl:=Option.some.inj H
  exact ⟨rfl,S⟩
 replace H:=if_f hc4 H
 refine zB (zd (za (wd (zz rfl) (wd (zz rfl) (wd (xa zU rfl (S.rd 1)) (wd (jH rfl rfl) ?_))))))
 obtain ⟨hi5,H⟩ := xi H
 refine wd (zN zU rfl rfl (S.rd 1) (zC hi5).1 (zC hi5).2) (wd (ze xG rfl (o':=_) rfl) (wd (zi zJ rfl (((S.rd 1).at (xj Ln.z (zC hi5))).get (Ln.get_form _))) (wd (zh rfl) (wd (zh rfl) (zb (zx ?_))))))
 refine ⟨_,(xp (zg rfl) (zg rfl)),?_⟩
 replace S:=S.arr [0] []
 obtain rfl:=Option.some.inj H
 exact ⟨rfl,S⟩
theorem hilbert_maker_form_st {A:Nat→Prop} {N:Oth} {w:World} {a0:PMaker} {a_0:Option Addr} {g_0_1:Option Addr} {a1:Int} {a2:Int} {a3:Int} (S:St A N w w [oK a_0 g_0_1 a0] []) {r:PMaker × Int} (H:hilbert_maker_form.f a0 a1 a2 a3=some r) :
  Calls PP zad #[.pointer a_0,.int .i64 a1,.int .i64 a2,.int .i64 a3] w fun e w' => ∃ v,e = .returned v∧(v = .int .i64 r.2∧St A N w w' [oK a_0 g_0_1 r.1] []):=by
 unfold hilbert_maker_form.f at H
 refine zA (n:=33) fn_hilbert_maker_form rfl rfl (by simp) (zd (za (wd (zh rfl) (zb (zd (zd (za (wd (zj rfl) ?_))))))))
 obtain ⟨p1,s3,hp2,S⟩ := S.open_oK 0
 replace S:=S
 refine wd (zw (congrArg Value.pointer hp2)) (wd (ze yh rfl (o':=2) rfl) (wd (zi ya rfl ((S.blk 0).cell (Maker.get_bad _))) (wd (xh rfl rfl) ?_)))
 replace S:=((S.front 2).front 2).front 2
 replace S:=S.shut_oK hp2
 refine zb ?_
 refine zH rfl (fun hc4=>?_) (fun hc4=>?_)
 ·replace H:=if_t hc4 H
  refine zd (za (wd (zh rfl) (zb (zx ?_))))
  refine ⟨_,(zV (zg rfl)),?_⟩
  obtain rfl:=Option.some.inj H
  exact ⟨rfl,S⟩
 replace H:=if_f hc4 H
 refine zB (zd (za (wd (zj rfl) ?_)))
 obtain ⟨p5,s7,hp6,S⟩ := S.open_oK 0
 replace S:=S
 refine wd (zw (congrArg Value.pointer hp6)) (wd (ze jf rfl (o':=0) rfl) (wd (zi xF rfl ((S.blk 0).cell (Maker.get_t _))) (wd (zf rfl) (wd (zf rfl) (wd (zf rfl) (wd (yj bu_Nd (Bld.one rfl rfl (by rw [Nd.len]; decide) (Nd.set_kind _ _) (Bld.one rfl rfl (by rw [Nd.len]; decide) (Nd.set_l _ _) (Bld.one rfl rfl (by rw [Nd.len]; decide) (Nd.set_r _ _) Bld.nil)))) ?_))))))
 obtain ⟨r8,er8,H⟩ := zq H
 replace S:=S.front 1
 obtain ⟨B10,MB10,SB10,back⟩ := S.calln 1 ((.nil))
 refine zu (zp vS) (by decide) (ja SB10 er8) ?_
 rintro _ w9 ⟨rfl,S2⟩
 replace S:=back _ _ _ _ S2 rfl
 clear back S2 SB10
 refine wd (z1 rfl) (wd (zr rfl rfl) (wd (zr rfl rfl) (wd (zh rfl) (wd (zh rfl) ?_))))
 replace S:=((S.front 2).front 1).front 2
 replace S:=S.shut_oK hp6
 refine zb (zd (za (wd (zj rfl) (wd (zf rfl) ?_))))
 obtain ⟨p11,s13,hp12,S⟩ := S.open_oK 0
 replace S:=S
 refine wd (zw (congrArg Value.pointer hp12)) (wd (ze yh rfl (o':=2) rfl) ?_)
 refine yD ya rfl rfl (S.blk 0) (by rw [Maker.len]; decide) rfl (Maker.set_bad _ _) fun w14 B hw14 zw14=>?_
 replace S:=S.store 0 B hw14
 clear B
 replace S:=((S.front 2).front 2).front 2
 replace S:=S.shut_oK hp12
 refine zb (zd (za (wd (zf rfl) (wd (zh rfl) (zb (zx ?_))))))
 refine ⟨_,(zV (zg rfl)),?_⟩
 obtain rfl:=Option.some.inj H
 exact ⟨rfl,S⟩
theorem xd {A:Nat→Prop} {N:Oth} {w:World} {a0:PMaker} {a_0:Option Addr} {g_0_1:Option Addr} {a1:Int} {a2:Int} (S:St A N w w [oK a_0 g_0_1 a0] []) {r:PMaker × Int} (H:hilbert_maker_imp.f a0 a1 a2=some r) :
  Calls PP zav #[.pointer a_0,.int .i64 a1,.int .i64 a2] w fun e w' => ∃ v,e = .returned v∧(v = .int .i64 r.2∧St A N w w' [oK a_0 g_0_1 r.1] []):=by
 unfold hilbert_maker_imp.f at H
 refine zA (n:=11) fn_hilbert_maker_imp rfl rfl (by simp) (zd (za (wd (zh rfl) (zb (zd (za (wd (zj rfl) (wd (zf rfl) (wd (zf rfl) ?_)))))))))
 obtain ⟨r1,er1,H⟩ := zq H
 obtain ⟨B3,MB3,SB3,back⟩ := S.calln 1 ((.nil))
 refine zu (zp ca_hilbert_maker_form) (by decide) (hilbert_maker_form_st SB3 er1) ?_
 rintro _ w2 ⟨rfl,S2⟩
 replace S:=back _ _ _ _ S2 rfl
 clear back S2 SB3
 refine wd (zh rfl) (zb (zx ?_))
 refine ⟨_,(zV (zg rfl)),?_⟩
 obtain rfl:=Option.some.inj H
 exact ⟨rfl,S⟩
theorem y8 {A:Nat→Prop} {N:Oth} {w:World} {a0:PMaker} {a_0:Option Addr} {g_0_1:Option Addr} {a1:Ln} (S:St A N w w [oK a_0 g_0_1 a0] []) {r:PMaker × Int} (H:hilbert_maker_line.f a0 a1=some r) :
  Calls PP zan #[.pointer a_0,.agg (Ln.C a1).toArray] w fun e w' => ∃ v,e = .returned v∧(v = .int .i64 r.2∧St A N w w' [oK a_0 g_0_1 r.1] []):=by
 unfold hilbert_maker_line.f at H
 refine zA (n:=42) fn_hilbert_maker_line rfl rfl (by simp) (zd (za ?_))
 refine z7 rfl (by decide) fun b2 w1 hw1=>?_
 replace S:=S.new hw1
 refine wd (zh rfl) (zb (zd (zd (za (wd (zj rfl) ?_)))))
 obtain ⟨p3,s5,hp4,S⟩ := S.open_oK 1
 replace S:=S
 refine wd (zw (congrArg Value.pointer hp4)) (wd (ze yh rfl (o':=2) rfl) (wd (zi ya rfl ((S.blk 0).cell (Maker.get_bad _))) (wd (zR rfl rfl) (wd (zE rfl) ?_))))
 refine wg (fun hg=>zj rfl) ?_
 refine wg (fun hg=>zw (((zl hg):_=Value.pointer a_0).trans (congrArg Value.pointer hp4))) ?_
 refine wg (fun hg=>ze ud (zl hg) (o':=1) rfl) ?_
 refine wg (fun hg=>zi xN (zl hg) ((S.blk 0).cell (Maker.get_l _))) ?_
 refine wg (fun hg=>xa zU (zl hg) (S.rdO 2)) ?_
 refine wg (fun hg=>zR (zl hg) rfl) (wd (xc rfl (fun hp=>(zl (xn hp)))) ?_)
 replace S:=((S.front 2).front 2).front 2
 replace S:=S.shut_oK hp4
 refine zb ?_
 obtain ⟨o6,e6,Ho6⟩ := zq H
 replace H:=e6; clear e6
 refine xY [18,19,20] (fun fr W=>St A N w W [oK a_0 g_0_1 o6,oB b2 T_Ln (Ln.C a1)] []) ?_ ?_
 ·refine zH rfl (fun hc7=>?_) (fun hc7=>?_)
  ·replace H:=if_t hc7 H
   refine za (wd (zj rfl) ?_)
   obtain ⟨p8,s10,hp9,S⟩ := S.open_oK 0
   replace S:=S
   refine wd (zw (congrArg Value.pointer hp9)) (wd (ze yh rfl (o':=2) rfl) ?_)
   refine yD ya rfl rfl (S.blk 0) (by rw [Maker.len]; decide) rfl (Maker.set_bad _ _) fun w11 B hw11 zw11=>?_
   replace S:=S.store 0 B hw11
   clear B
   replace S:=((S.front 2).front 2).front 2
   replace S:=S.shut_oK hp9
   refine zb ?_
   obtain rfl:=Option.some.inj H
   exact ⟨rfl,((((Dif.refl _ _).upd rfl _).upd rfl _).upd rfl _),S⟩
  ·replace H:=if_f hc7 H
   refine zB ?_
   obtain rfl:=Option.some.inj H
   exact ⟨rfl,(Dif.refl _ _),S⟩
 rintro g12 u13 S
 have H:=Ho6
 refine zd (zd (za (wd (zj rfl) ?_)))
 obtain ⟨p14,s16,hp15,S⟩ := S.open_oK 0
 replace S:=S
 refine wd (zw (congrArg Value.pointer hp15)) (wd (ze yh rfl (o':=2) rfl) (wd (zi ya rfl ((S.blk 0).cell (Maker.get_bad _))) (wd (zR rfl rfl) ?_)))
 replace S:=((S.front 2).front 2).front 2
 replace S:St A N w u13 [oK a_0 g_0_1 o6,oB b2 T_Ln (Ln.C a1)] []:=S.shut_oK hp15
 refine zb ?_
 refine zH rfl (fun hc17=>?_) (fun hc17=>?_)
 ·replace H:=if_t hc17 H
  obtain ⟨p18,s20,hp19,S⟩ := S.open_oK 0
  replace S:St A N w u13 [oB p18 xC (Maker.C (⟨g_0_1,s20,o6.bad⟩ : Maker)),oT g_0_1 o6.t,oS T_Ln 4 Ln.C s20 o6.l,oB b2 T_Ln (Ln.C a1)] []:=S
  obtain ⟨ha21,H⟩ := xi H
  have ha21:=of_decide_eq_true ha21
  have hSO:=S.sl 2
  have hSlt:=hSO.lt
  have SH : ∀ v,Chg s20.fp u13 v→St A (N.or s20.fp) w v [oB p18 xC (Maker.C (⟨g_0_1,s20,o6.bad⟩ : Maker)),oT g_0_1 o6.t,oB b2 T_Ln (Ln.C a1)] []:=fun v hc=>S.away 2 (hc:=hc)
  refine wc_draw 8 ⟨fun L v=>Chg s20.fp u13 v∧(L 7=false→Ext u13 v),fun L a b=>Chg s20.fp a b∧(L 7=true→Ext a b),fun i v u=>match i with
   | 0=>v=Value.pointer a_0
   | 1=>v=Value.pointer a_0
   | 2=>v=Value.pointer (some ⟨p18,0,none⟩)
   | 3=>v=Value.pointer (some ⟨p18,1,none⟩)
   | 4=>v=s20.v
   | 5=>v=Value.agg (Ln.C a1).toArray
   | 6 => ∃ b sl,v=SlV.v sl∧sl=⟨some ⟨b,0,none⟩,1,1⟩ ∧ Blk u b T_Ln (Ln.C a1)∧¬ s20.fp b
   | 7 => ∃ s',v=SlV.v s'∧Own u 0 T_Ln 4 s' ((o6.l ++ [a1]).map Ln.C) ∧ ∀ i,s'.fp i→s20.fp i∨u13.heap.size ≤ i
   | _=>True⟩ hmix (by kernel_rfl) ?_ ⟨(Ext.drawn _).mono (fun _ _ x=>x.elim),fun _=>Ext.drawn _⟩ ⟨?_,?_,?_,?_,?_,?_,?_,?_,trivial⟩ ?_
  ·intro L i v a b hLi hle hv
   match i,hLi,hv with
   | 0,_,hv=>exact hv
   | 1,_,hv=>exact hv
   | 2,_,hv=>exact hv
   | 3,_,hv=>exact hv
   | 4,_,hv=>exact hv
   | 5,_,hv=>exact hv
   | 6,_,⟨b,sl,e1,e2,hb,hn⟩ => exact ⟨b,sl,e1,e2,hb.chg hle.1 hn,hn⟩
   | 7,hLi,⟨s',e1,ho,hg⟩ => exact ⟨s',e1,ho.ext (hle.2 hLi),hg⟩
   | _ + 8,_,_=>exact trivial
  ·rintro L g v hL hT 
   refine wd (zj rfl) (zb (ob ⟨hT.1,fun h=>hT.2 h⟩ ⟨Chg.refl _ _,fun _=>Ext.refl _⟩ rfl))
  ·rintro L g v hL hT 
   refine wd (zj rfl) (zb (ob ⟨hT.1,fun h=>hT.2 h⟩ ⟨Chg.refl _ _,fun _=>Ext.refl _⟩ rfl))
  ·rintro L g v hL hT hv1
   refine wd (zw ((hv1:_=Value.pointer a_0).trans (congrArg Value.pointer hp19))) (zb (ob ⟨hT.1,fun h=>hT.2 h⟩ ⟨Chg.refl _ _,fun _=>Ext.refl _⟩ rfl))
  ·rintro L g v hL hT hv2
   refine wd (ze ud hv2 (o':=1) rfl) (zb (ob ⟨hT.1,fun h=>hT.2 h⟩ ⟨Chg.refl _ _,fun _=>Ext.refl _⟩ rfl))
  ·rintro L g v hL hT hv3
   refine wd (zi xN hv3 (((SH v hT.1).blk 0).cell (Maker.get_l _))) (zb (ob ⟨hT.1,fun h=>hT.2 h⟩ ⟨Chg.refl _ _,fun _=>Ext.refl _⟩ rfl))
  ·rintro L g v hL hT 
   refine wd (zo j0 rfl (((SH v hT.1).blk 2).all _ (Ln.len _)) (Ln.len _)) (zb (ob ⟨hT.1,fun h=>hT.2 h⟩ ⟨Chg.refl _ _,fun _=>Ext.refl _⟩ rfl))
  ·rintro L g v hL hT hv5
   refine wl_lit1 zU el_Ln.zero hv5 rfl (Ln.len _) (by decide) (by decide) fun b v' sl hn hq=>zb (ob ⟨hT.1.thenExt hn.ext,fun h=>(hT.2 h).trans hn.ext⟩ ⟨hn.ext.mono (fun _ _ x=>x.elim),fun _=>hn.ext⟩ ⟨b,sl,rfl,hq,hn.blk,fun e=>by have:=hSlt _ e; have:=hn.at_; have:=hT.1.size; omega⟩)
  ·rintro L g v hL hT hv4 ⟨b,sl,hv6,hq,hb,hnb⟩
   refine wl_push (C:=Ln.C) zU el_Ln hv4 hv6 (hSO.ext (hT.2 hL)) hb hq (Ln.len _) (Ln.one _) ha21 (by omega) (by decide) fun s' v' ho hc hg=>zb (ob ⟨hT.1.trans hc,fun h=>(by cases h)⟩ ⟨hc,fun h=>(by rw [hL] at h; cases h)⟩ ⟨s',rfl,ho,fun i e=>(hg i e).imp id (fun h=>Nat.le_trans hT.1.size h)⟩)
  rintro L g w22 hLm hT hv24_0 hv24_1 hv24_2 hv24_3 hv24_4 hv24_5 ⟨b,sl,hv24_6,hq,hb,hnb⟩ ⟨s23,hv24_7,O,gO⟩
  replace S:=S.push 2 O (by rw [List.length_append,List.length_singleton]; omega) hT.1 gO
  clear O gO SH hSO hSlt
  refine wd (zw ((hv24_0:_=Value.pointer a_0).trans (congrArg Value.pointer hp19))) (wd (ze ud rfl (o':=1) rfl) ?_)
  refine yD xN rfl hv24_7 (S.blk 1) (by rw [Maker.len]; decide) (SlV.one _ _ rfl) (Maker.set_l _ _) fun w25 B hw25 zw25=>?_
  replace S:=S.store 1 B hw25
  clear B
  replace S:=((S.front 1).front 2).front 2
  replace S:=S.shut_oK hp19
  refine zb (zd (za (wd (zj rfl) ?_)))
  obtain ⟨p26,s28,hp27,S⟩ := S.open_oK 0
  replace S:=S
  refine wd (zw (congrArg Value.pointer hp27)) (wd (ze ud rfl (o':=1) rfl) (wd (zi xN rfl ((S.blk 0).cell (Maker.get_l _))) (wd (xa zU rfl (S.rdO 2)) (wd (jH rfl rfl) (wd (zh rfl) ?_)))))
  replace S:=((S.front 2).front 2).front 2
  replace S:=S.shut_oK hp27
  refine zb (zx ?_)
  refine ⟨_,(zV (zg rfl)),?_⟩
  replace S:=S.arr [0] []
  obtain rfl:=Option.some.inj H
  exact ⟨rfl,S⟩
 ·replace H:=if_f hc17 H
  refine zB (zd (za (wd (zj rfl) ?_)))
  obtain ⟨p29,s31,hp30,S⟩ := S.open_oK 0
  replace S:=S
  refine wd (zw (congrArg Value.pointer hp30)) (wd (ze ud rfl (o':=1) rfl) (wd (zi xN rfl ((S.blk 0).cell (Maker.get_l _))) (wd (xa zU rfl (S.rdO 2)) (wd (jH rfl rfl) (wd (zh rfl) ?_)))))
  replace S:=((S.front 2).front 2).front 2
  replace S:=S.shut_oK hp30
  refine zb (zx ?_)
  refine ⟨_,(zV (zg rfl)),?_⟩
  replace S:=S.arr [0] []
  obtain rfl:=Option.some.inj H
  exact ⟨rfl,S⟩
theorem xq {A:Nat→Prop} {N:Oth} {w:World} {a0:PMaker} {a_0:Option Addr} {g_0_1:Option Addr} {a1:Int} {a2:Int} (S:St A N w w [oK a_0 g_0_1 a0] []) {r:PMaker × Int} (H:hilbert_maker_mp.f a0 a1 a2=some r) :
  Calls PP zaS #[.pointer a_0,.int .i64 a1,.int .i64 a2] w fun e w' => ∃ v,e = .returned v∧(v = .int .i64 r.2∧St A N w w' [oK a_0 g_0_1 r.1] []):=by
 unfold hilbert_maker_mp.f at H
 refine zA (n:=37) fn_hilbert_maker_mp rfl rfl (by simp) (zd (za (wd (zh rfl) (zb (zd (zd (za (wd (zj rfl) ?_))))))))
 obtain ⟨p1,s3,hp2,S⟩ := S.open_oK 0
 replace S:=S
 refine wd (zw (congrArg Value.pointer hp2)) (wd (ze yh rfl (o':=2) rfl) (wd (zi ya rfl ((S.blk 0).cell (Maker.get_bad _))) (wd (xh rfl rfl) ?_)))
 replace S:=((S.front 2).front 2).front 2
 replace S:=S.shut_oK hp2
 refine zb ?_
 refine zH rfl (fun hc4=>?_) (fun hc4=>?_)
 ·replace H:=if_t hc4 H
  refine zd (za (wd (zh rfl) (zb (zx ?_))))
  refine ⟨_,(zV (zg rfl)),?_⟩
  obtain rfl:=Option.some.inj H
  exact ⟨rfl,S⟩
 replace H:=if_f hc4 H
 refine zB (zd ?_)
 obtain ⟨p5,s7,hp6,S⟩ := S.open_oK 0
 replace S:=S
 obtain ⟨hi8,H⟩ := xi H
 obtain ⟨r9,er9,H⟩ := zq H
 have SH : ∀ v,Ext w v→St A N w v [oB p5 xC (Maker.C (⟨g_0_1,s7,a0.bad⟩ : Maker)),oT g_0_1 a0.t,oS T_Ln 4 Ln.C s7 a0.l] []:=fun v hc=>S.ext hc
 refine wc_draw4 18 ⟨fun _ _=>True,fun _ _ _=>True,fun i v _=>match i with
  | 0=>v=Value.pointer a_0
  | 1=>v=Value.pointer (some ⟨p5,0,none⟩)
  | 2=>v=Value.pointer (some ⟨p5,0,none⟩)
  | 3=>v=Value.pointer g_0_1
  | 4=>v=Value.pointer a_0
  | 5=>v=Value.pointer (some ⟨p5,0,none⟩)
  | 6=>v=Value.pointer (some ⟨p5,1,none⟩)
  | 7=>v=s7.v
  | 8=>v=Value.int .i64 a1
  | 9=>v=Value.pointer (some ⟨s7.blk,s7.off + Int.toNat a1 * 4,none⟩)
  | 10=>v=Value.pointer (some ⟨s7.blk,s7.off + Int.toNat a1 * 4 + 1,none⟩)
  | 11=>v=Value.int .i64 ((at_ Ln.z a0.l a1).form)
  | 12=>v=Value.tuple #[.agg (Nd.C r9.1).toArray,.bool r9.2]
  | 13=>v=Value.tuple #[.agg (Nd.C r9.1).toArray,.bool r9.2]
  | 14=>v=Value.agg (Nd.C r9.1).toArray
  | 15=>v=Value.bool r9.2
  | _=>True⟩ (TT w 16 17 7 T_Nd (Nd.C Nd.z) (Nd.C r9.1)) hmix (by kernel_rfl) (fun _ _ _ _ _ _ _ hv=>hv) (fun g=>TT.init g (Ext.drawn _)) ⟨?_,?_,?_,?_,?_,?_,?_,?_,?_,?_,?_,?_,?_,?_,?_,?_,?_,?_,trivial⟩ ?_
 ·rintro L g v hL hcl hT 
  refine wd (zj rfl) (zb (ob4 trivial rfl (hT.keep (Ext.refl _) rfl rfl (by decide))))
 ·rintro L g v hL hcl hT hv0
  refine wd (zw ((hv0:_=Value.pointer a_0).trans (congrArg Value.pointer hp6))) (zb (ob4 trivial rfl (hT.keep (Ext.refl _) rfl rfl (by decide))))
 ·rintro L g v hL hcl hT hv1
  refine wd (ze jf hv1 (o':=0) rfl) (zb (ob4 trivial rfl (hT.keep (Ext.refl _) rfl rfl (by decide))))
 ·rintro L g v hL hcl hT hv2
  refine wd (zi xF hv2 (((SH v hT.1).blk 0).cell (Maker.get_t _))) (zb (ob4 trivial rfl (hT.keep (Ext.refl _) rfl rfl (by decide))))
 ·rintro L g v hL hcl hT 
  refine wd (zj rfl) (zb (ob4 trivial rfl (hT.keep (Ext.refl _) rfl rfl (by decide))))
 ·rintro L g v hL hcl hT hv4
  refine wd (zw ((hv4:_=Value.pointer a_0).trans (congrArg Value.pointer hp6))) (zb (ob4 trivial rfl (hT.keep (Ext.refl _) rfl rfl (by decide))))
 ·rintro L g v hL hcl hT hv5
  refine wd (ze ud hv5 (o':=1) rfl) (zb (ob4 trivial rfl (hT.keep (Ext.refl _) rfl rfl (by decide))))
 ·rintro L g v hL hcl hT hv6
  refine wd (zi xN hv6 (((SH v hT.1).blk 0).cell (Maker.get_l _))) (zb (ob4 trivial rfl (hT.keep (Ext.refl _) rfl rfl (by decide))))
 ·rintro L g v hL hcl hT 
  refine wd (zf rfl) (zb (ob4 trivial rfl (hT.keep (Ext.refl _) rfl rfl (by decide))))
 ·rintro L g v hL hcl hT hv7 hv8
  refine wd (zN zU hv7 hv8 ((SH v hT.1).rdO 2) (zC hi8).1 (zC hi8).2) (zb (ob4 trivial rfl (hT.keep (Ext.refl _) rfl rfl (by decide))))
 ·rintro L g v hL hcl hT hv9
  refine wd (ze xG hv9 (o':=_) rfl) (zb (ob4 trivial rfl (hT.keep (Ext.refl _) rfl rfl (by decide))))
 ·rintro L g v hL hcl hT hv10
  refine wd (zi zJ hv10 ((((SH v hT.1).rdO 2).at (xj Ln.z (zC hi8))).get (Ln.get_form _))) (zb (ob4 trivial rfl (hT.keep (Ext.refl _) rfl rfl (by decide))))
 ·rintro L g v hL hcl hT hv3 hv11
  refine (have ⟨M,SS⟩ := (SH v hT.1).lend ((.o 1 rfl .nil)); zu (zP yB (zS hv3 (zS hv11 rfl))) (by decide) (quiet (yC SS er9) (fun v w' h=>⟨h.1,_,_,h.2⟩)) (by rintro _ v' ⟨rfl,hx⟩; exact zb (ob4 trivial rfl (hT.keep hx rfl rfl (by decide)))))
 ·rintro L g v hL hcl hT hv12
  refine wd (z1 hv12) (zb (ob4 trivial rfl (hT.keep (Ext.refl _) rfl rfl (by decide))))
 ·rintro L g v hL hcl hT hv13
  refine wd (zr hv13 rfl) (zb (ob4 trivial rfl (hT.keep (Ext.refl _) rfl rfl (by decide))))
 ·rintro L g v hL hcl hT hv13
  refine wd (zr hv13 rfl) (zb (ob4 trivial rfl (hT.keep (Ext.refl _) rfl rfl (by decide))))
 ·rintro L g v hL hcl hT 
  exact xe ua (by decide) fun b v' hn=>zb (ob4 trivial trivial (hT.made hL rfl hn))
 ·rintro L g v hL hcl hT _ hv14
  have hLa:L 16=true:=hcl 16 (by kernel_rfl)
  obtain ⟨b,hgb,hbl,hb⟩ := hT.2.1 hLa
  rw [hL] at hb
  replace hb:Blk v b T_Nd (Nd.C Nd.z):=hb
  exact zM xQ hgb hv14 hb (Nd.len _) (by rw [Nd.len]; decide) (Nd.one _) (zZ (Nd.len _)) fun v' hb' hc _=>zb (ob40 trivial (fun _=>trivial) (hT.put hbl hgb hLa hb' hc))
 rintro L g w11 hLm ⟨K,hbx,_⟩ hv12_0 hv12_1 hv12_2 hv12_3 hv12_4 hv12_5 hv12_6 hv12_7 hv12_8 hv12_9 hv12_10 hv12_11 hv12_12 hv12_13 hv12_14 hv12_15 _ _
 obtain ⟨b10,hv12_16,hbl,hbx⟩ := hbx (by rw [hLm]; rfl)
 replace hbx:Blk w11 b10 T_Nd (Nd.C r9.1):=by rw [hLm] at hbx; exact hbx
 replace S:=S.newAt K hbx hbl
 clear SH hbx K
 refine wd (zm hv12_15) ?_
 replace S:=((S.front 3).front 3).front 3
 replace S:=S.shut_oK hp6
 refine zb (zd (za (wd (zj rfl) (wd (ze xP hv12_16 (o':=3) rfl) (wd (zi zJ rfl ((S.blk 1).cell (Nd.get_r _))) (wd (zf rfl) (wd (zf rfl) (wd (yj bu_Ln (Bld.one rfl rfl (by rw [Ln.len]; decide) (Ln.set_kind _ _) (Bld.one rfl rfl (by rw [Ln.len]; decide) (Ln.set_form _ _) (Bld.one rfl rfl (by rw [Ln.len]; decide) (Ln.set_a _ _) (Bld.one rfl rfl (by rw [Ln.len]; decide) (Ln.set_b _ _) Bld.nil))))) ?_))))))))
 obtain ⟨r13,er13,H⟩ := zq H
 obtain ⟨B15,MB15,SB15,back⟩ := S.calln 1 ((.nil))
 refine zu (zp va) (by decide) (y8 SB15 er13) ?_
 rintro _ w14 ⟨rfl,S2⟩
 replace S:=back _ _ _ _ S2 rfl
 clear back S2 SB15
 refine wd (zh rfl) (zb (zx ?_))
 refine ⟨_,(zV (zg rfl)),?_⟩
 replace S:=S.arr [0] []
 obtain rfl:=Option.some.inj H
 exact ⟨rfl,S⟩
theorem x9 {A:Nat→Prop} {N:Oth} {w:World} {a0:PMaker} {a_0:Option Addr} {g_0_1:Option Addr} {a1:Int} {a2:Int} (S:St A N w w [oK a_0 g_0_1 a0] []) {r:PMaker × Int} (H:hilbert_maker_axiom.f a0 a1 a2=some r) :
  Calls PP kD #[.pointer a_0,.int .i64 a1,.int .i64 a2] w fun e w' => ∃ v,e = .returned v∧(v = .int .i64 r.2∧St A N w w' [oK a_0 g_0_1 r.1] []):=by
 unfold hilbert_maker_axiom.f at H
 refine zA (n:=12) fn_hilbert_maker_axiom rfl rfl (by simp) (zd (za (wd (zh rfl) (zb (zd (za (wd (zj rfl) (wd (zf rfl) (wd (zf rfl) (wd (yj bu_Ln (Bld.one rfl rfl (by rw [Ln.len]; decide) (Ln.set_kind _ _) (Bld.one rfl rfl (by rw [Ln.len]; decide) (Ln.set_form _ _) Bld.nil))) ?_))))))))))
 obtain ⟨r1,er1,H⟩ := zq H
 obtain ⟨B3,MB3,SB3,back⟩ := S.calln 1 ((.nil))
 refine zu (zp va) (by decide) (y8 SB3 er1) ?_
 rintro _ w2 ⟨rfl,S2⟩
 replace S:=back _ _ _ _ S2 rfl
 clear back S2 SB3
 refine wd (zh rfl) (zb (zx ?_))
 refine ⟨_,(zV (zg rfl)),?_⟩
 obtain rfl:=Option.some.inj H
 exact ⟨rfl,S⟩
theorem jW {A:Nat→Prop} {N:Oth} {w:World} {a0:PMaker} {a_0:Option Addr} {g_0_1:Option Addr} {a1:Int} {a2:Int} (S:St A N w w [oK a_0 g_0_1 a0] []) {r:PMaker × Int} (H:hilbert_maker_k.f a0 a1 a2=some r) :
  Calls PP zbr #[.pointer a_0,.int .i64 a1,.int .i64 a2] w fun e w' => ∃ v,e = .returned v∧(v = .int .i64 r.2∧St A N w w' [oK a_0 g_0_1 r.1] []):=by
 unfold hilbert_maker_k.f at H
 refine zA (n:=16) fn_hilbert_maker_k rfl rfl (by simp) (zd (za (wd (zh rfl) (zb (zd (za (wd (zj rfl) (wd (zj rfl) (wd (zf rfl) (wd (zj rfl) (wd (zf rfl) (wd (zf rfl) ?_))))))))))))
 obtain ⟨r1,er1,H⟩ := zq H
 obtain ⟨B3,MB3,SB3,back⟩ := S.calln 1 ((.nil))
 refine zu (zp xb) (by decide) (xd SB3 er1) ?_
 rintro _ w2 ⟨rfl,S2⟩
 replace S:=back _ _ _ _ S2 rfl
 clear back S2 SB3
 obtain ⟨r4,er4,H⟩ := zq H
 obtain ⟨B6,MB6,SB6,back⟩ := S.calln 1 ((.nil))
 refine zu (zp xb) (by decide) (xd SB6 er4) ?_
 rintro _ w5 ⟨rfl,S2⟩
 replace S:=back _ _ _ _ S2 rfl
 clear back S2 SB6
 obtain ⟨r7,er7,H⟩ := zq H
 obtain ⟨B9,MB9,SB9,back⟩ := S.calln 1 ((.nil))
 refine zu (zp x7) (by decide) (x9 SB9 er7) ?_
 rintro _ w8 ⟨rfl,S2⟩
 replace S:=back _ _ _ _ S2 rfl
 clear back S2 SB9
 refine wd (zh rfl) (zb (zx ?_))
 refine ⟨_,(zV (zg rfl)),?_⟩
 obtain rfl:=Option.some.inj H
 exact ⟨rfl,S⟩
theorem zaL {A:Nat→Prop} {N:Oth} {w:World} {a0:PMaker} {a_0:Option Addr} {g_0_1:Option Addr} {a1:Int} {a2:Int} {a3:Int} (S:St A N w w [oK a_0 g_0_1 a0] []) {r:PMaker × Int} (H:hilbert_maker_s.f a0 a1 a2 a3=some r) :
  Calls PP zbo #[.pointer a_0,.int .i64 a1,.int .i64 a2,.int .i64 a3] w fun e w' => ∃ v,e = .returned v∧(v = .int .i64 r.2∧St A N w w' [oK a_0 g_0_1 r.1] []):=by
 unfold hilbert_maker_s.f at H
 refine zA (n:=36) fn_hilbert_maker_s rfl rfl (by simp) (zd (za (wd (zh rfl) (zb (zd (za (wd (zj rfl) (wd (zf rfl) (wd (zj rfl) (wd (zf rfl) (wd (zf rfl) ?_)))))))))))
 obtain ⟨r1,er1,H⟩ := zq H
 obtain ⟨B3,MB3,SB3,back⟩ := S.calln 1 ((.nil))
 refine zu (zp xb) (by decide) (xd SB3 er1) ?_
 rintro _ w2 ⟨rfl,S2⟩
 replace S:=back _ _ _ _ S2 rfl
 clear back S2 SB3
 obtain ⟨r4,er4,H⟩ := zq H
 obtain ⟨B6,MB6,SB6,back⟩ := S.calln 1 ((.nil))
 refine zu (zp xb) (by decide) (xd SB6 er4) ?_
 rintro _ w5 ⟨rfl,S2⟩
 replace S:=back _ _ _ _ S2 rfl
 clear back S2 SB6
 refine wd (zh rfl) (zb (zd (za (wd (zj rfl) (wd (zf rfl) (wd (zf rfl) ?_))))))
 obtain ⟨r7,er7,H⟩ := zq H
 obtain ⟨B9,MB9,SB9,back⟩ := S.calln 1 ((.nil))
 refine zu (zp xb) (by decide) (xd SB9 er7) ?_
 rintro _ w8 ⟨rfl,S2⟩
 replace S:=back _ _ _ _ S2 rfl
 clear back S2 SB9
 refine wd (zh rfl) (zb (zd (za (wd (zj rfl) (wd (zf rfl) (wd (zf rfl) ?_))))))
 obtain ⟨r10,er10,H⟩ := zq H
 obtain ⟨B12,MB12,SB12,back⟩ := S.calln 1 ((.nil))
 refine zu (zp xb) (by decide) (xd SB12 er10) ?_
 rintro _ w11 ⟨rfl,S2⟩
 replace S:=back _ _ _ _ S2 rfl
 clear back S2 SB12
 refine wd (zh rfl) (zb (zd (za (wd (zj rfl) (wd (zj rfl) (wd (zf rfl) (wd (zj rfl) (wd (zf rfl) (wd (zf rfl) ?_)))))))))
 obtain ⟨r13,er13,H⟩ := zq H
 obtain ⟨B15,MB15,SB15,back⟩ := S.calln 1 ((.nil))
 refine zu (zp xb) (by decide) (xd SB15 er13) ?_
 rintro _ w14 ⟨rfl,S2⟩
 replace S:=back _ _ _ _ S2 rfl
 clear back S2 SB15
 obtain ⟨r16,er16,H⟩ := zq H
 obtain ⟨B18,MB18,SB18,back⟩ := S.calln 1 ((.nil))
 refine zu (zp xb) (by decide) (xd SB18 er16) ?_
 rintro _ w17 ⟨rfl,S2⟩
 replace S:=back _ _ _ _ S2 rfl
 clear back S2 SB18
 obtain ⟨r19,er19,H⟩ := zq H
 obtain ⟨B21,MB21,SB21,back⟩ := S.calln 1 ((.nil))
 refine zu (zp x7) (by decide) (x9 SB21 er19) ?_
 rintro _ w20 ⟨rfl,S2⟩
 replace S:=back _ _ _ _ S2 rfl
 clear back S2 SB21
 refine wd (zh rfl) (zb (zx ?_))
 refine ⟨_,(zV (zg rfl)),?_⟩
 obtain rfl:=Option.some.inj H
 exact ⟨rfl,S⟩
theorem zbu {A:Nat→Prop} {N:Oth} {w:World} {a0:Tb} {a_0:Option Addr} {a1:List Ln} {s_1:SlV} {a2:Int} (S:St A N w w [oT a_0 a0] [fS 4 Ln.C s_1 a1]) {r:Tb × List Ln × Int} (H:hilbert_deduce.f a0 a1 a2=some r) :
  Calls PP zbK #[.pointer a_0,s_1.v,.int .i64 a2] w fun e w' => ∃ v,e = .returned v∧(∃ so0:SlV,v = .tuple #[so0.v,.int .i64 r.2.2]∧St A N w w' [oT a_0 r.1,oS T_Ln 4 Ln.C so0 r.2.1] []):=by
 unfold hilbert_deduce.f at H
 refine zA (n:=127) fn_hilbert_deduce rfl rfl (by simp) (zd (za (wd (xm) (wd (zh rfl) (zb (zd (za (wd (zj rfl) (wd (Does.to (v' := .agg (Maker.C (⟨a_0,SlV.nil,0⟩ : Maker)).toArray) (xJ (vs:=[(0,.pointer a_0)]) bu_Maker (yw rfl rfl) (Bld.one rfl rfl (by rw [Maker.len]; decide) (Maker.set_t _ _) Bld.nil)) rfl) ?_)))))))))
 refine z7 rfl (by decide) fun b2 w1 hw1=>?_
 replace S:=((S.new hw1).nil T_Ln 4 Ln.C).front 2
 replace S:=(S.front 2).shut_oK rfl
 refine wd (xg rfl) (zb (zd (za (wd (zz rfl) (wd (xa zU rfl (S.rd 0)) ?_)))))
 obtain ⟨hm6,H⟩ := xi H
 have hm6:=of_decide_eq_true hm6
 refine wl_make1 (C:=IC) (z:=(0:Int)) xx zar zv_int rfl rfl rfl rfl hm6.1 (by omega) hm6.2 (by decide) fun b4 w3 s5 hBw3 hw3=>?_
 replace S:=S.lit hBw3 hw3 (by rw [List.length_replicate]; omega)
 refine wd (xD rfl) (zb (zd (zd (za (wd (zz rfl) (wd (xa zU rfl (S.rd 0)) (wd (zf rfl) (zb ?_))))))))
 obtain ⟨o7,e7,Ho7⟩ := zq H
 clear H
 refine xY [6,7,10,11,12,13,14,15,16,25,26,27,28,29,30,31,32,33,34,35,36,37,38,39,40,41,42,43,44,45,46,47,48,49,50,51,52,53,54,55,56,57,58,59,60,61,62,63,64,65,66,67,68,69,70,71,72,73,74,75,76,77,78,79,80,81,82,83,84,85,86,87,88,89,90,91,92,93,94,95,96,97,98,99,100,101,102,103,104,105,106,107,108,109,110,111,112,113,114,115,116,117,118] (fun fr W => ∃ s7:List Int × PMaker,o7 = .inl s7∧St A N w W [oS xS 1 IC s5 s7.1,oK (some ⟨b2,0,none⟩) a_0 s7.2] [fS 4 Ln.C s_1 a1]) ?_ ?_
 ·refine zQ ?_
  refine xW (α:=Nat × Int × (List Int × PMaker)) [6,7,10,11,12,13,14,15,16,25,26,27,28,29,30,31,32,33,34,35,36,37,38,39,40,41,42,43,44,45,46,47,48,49,50,51,52,53,54,55,56,57,58,59,60,61,62,63,64,65,66,67,68,69,70,71,72,73,74,75,76,77,78,79,80,81,82,83,84,85,86,87,88,89,90,91,92,93,94,95,96,97,98,99,100,101,102,103,104,105,106,107,108,109,110,111,112,113,114,115,116,117,118] (fun x fr W=>(x.1:Int)=(a1.length:Int) - x.2.1∧0 ≤ x.2.1∧forN (fun i s=>hilbert_deduce.b0 a1 a2 i s.1 s.2) x.1 x.2.1 x.2.2=some o7∧fr 25 = .int .i64 x.2.1∧St A N w W [oS xS 1 IC s5 (x.2.2.1),oK (some ⟨b2,0,none⟩) a_0 (x.2.2.2)] [fS 4 Ln.C s_1 a1]) (fun x=>x.1) (((a1.length:Int) - 0).toNat,0,(List.replicate ((a1.length:Int)).toNat (0:Int),(⟨a0,([]:List Ln),0⟩ : PMaker))) ⟨(by dsimp only; have hle:=Int.natCast_nonneg (a1.length); omega),(Int.le_refl _),(by dsimp only; exact e7),rfl,S⟩ ?_
  rintro ⟨m7,i7,⟨x7_0,x7_1⟩⟩ g7 u7 ⟨hm7,hl7,e7,q7_i,S⟩
  try dsimp only at hm7
  try dsimp only at hl7
  try dsimp only at e7
  try dsimp only at S
  try dsimp only at q7_i
  refine zd (za (wd (xM q7_i rfl) (zb (zd ?_))))
  refine zH rfl (fun hc8=>?_) (fun hc8=>?_)
  rotate_left
  ·refine yn ?_
   have hge:(a1.length:Int) ≤ i7:=Int.not_lt.1 (of_decide_eq_false hc8)
   obtain rfl:m7=0:=by omega
   replace e7:=jy e7
   exact ⟨rfl,((Dif.self _ _ _).upd rfl _),(x7_0,x7_1),e7,S⟩
  refine zB ?_
  have hlt7:i7 < (a1.length:Int):=of_decide_eq_true hc8
  obtain ⟨m7,rfl⟩ : ∃ m,m7=m + 1:=⟨m7 - 1,by omega⟩
  obtain ⟨q7,H,e7⟩ := jC e7
  unfold hilbert_deduce.b0 at H
  try dsimp only at H
  have hb7:=(S.len 0)
  refine zd ?_
  refine zQ (zd (za (wd (zf q7_i) (wd (zN zU rfl q7_i (S.rd 0) (And.intro (show 0 ≤ i7 by omega) (show i7 < (a1.length:Int) from hlt7)).1 (And.intro (show 0 ≤ i7 by omega) (show i7 < (a1.length:Int) from hlt7)).2) (wd (zo j0 rfl ((S.rd 0).at (xj Ln.z (And.intro (show 0 ≤ i7 by omega) (show i7 < (a1.length:Int) from hlt7)))) (Ln.len _)) ?_)))))
  refine xe ze_Ln (by decide) fun b11 w10 hw10=>?_
  replace S:=S.new hw10
  refine wd (zh rfl) ?_
  refine zM j0 rfl rfl (S.blk 0) (Ln.len _) (by rw [Ln.len]; decide) (Ln.one _) (zZ (Ln.len _)) fun w12 B hw12 zw12=>?_
  replace S:=S.store 0 B hw12
  clear B
  refine zb ?_
  refine zQ (zd (za (wd (zj rfl) ?_)))
  obtain ⟨p13,s15,hp14,S⟩ := S.open_oK 2
  replace S:=S
  refine wd (zw (congrArg Value.pointer hp14)) (wd (ze yh rfl (o':=2) rfl) (wd (zi ya rfl ((S.blk 0).cell (Maker.get_bad _))) (wd (xh rfl rfl) (wd (zm rfl) ?_))))
  replace S:=((S.front 2).front 2).front 2
  replace S:=S.shut_oK hp14
  refine zb ?_
  refine zH rfl (fun hc16=>?_) (fun hc16=>?_)
  ·replace H:=if_t hc16 H
   refine zd ?_
   obtain ⟨p17,s19,hp18,S⟩ := S.open_oK 0
   replace S:=S
   refine xL 5 (Ext w12) hmix (by kernel_rfl) (by kernel_rfl) (Ext.drawn _) (zt (fun v K=>zj rfl) (zt (fun v K=>zw (congrArg Value.pointer hp18)) (zt (fun v K=>ze yh rfl (o':=2) rfl) (zt (fun v K=>zi ya rfl (((S.ext K).blk 0).cell (Maker.get_bad _))) (zt (fun v K=>xm) ?_)))))
   refine yL fun w20 K=>?_
   replace S:=S.ext K
   clear K
   refine wd (zh rfl) ?_
   replace S:=((S.front 2).front 2).front 2
   replace S:=S.shut_oK hp18
   refine zb (zx ?_)
   obtain ⟨p21,s23,hp22,S⟩ := S.open_oK 0
   replace S:=S.nil T_Ln 4 Ln.C
   refine ⟨_,(xp (zg rfl) (zg rfl)),?_⟩
   replace S:=S.arr [2,0] []
   obtain rfl:=Option.some.inj H
   obtain rfl:=e7
   obtain rfl:=uG Ho7
   exact ⟨SlV.nil,rfl,S⟩
  replace H:=if_f hc16 H
  refine zd (za (wd (ze xG rfl (o':=1) rfl) (wd (zi zJ rfl ((S.blk 1).cell (Ln.get_form _))) (wd (zf rfl) (wd (zR rfl rfl) (wd (zm rfl) (zb ?_)))))))
  refine zH rfl (fun hc24=>?_) (fun hc24=>?_)
  ·replace H:=if_t hc24 H
   refine zd (za (wd (zj rfl) (wd (zf rfl) (wd (zf rfl) ?_))))
   obtain ⟨r25,er25,H⟩ := zq H
   obtain ⟨B27,MB27,SB27,back⟩ := S.calln 1 ((.nil))
   refine zu (zp xb) (by decide) (xd SB27 er25) ?_
   rintro _ w26 ⟨rfl,S2⟩
   replace S:=back _ _ _ _ S2 rfl
   clear back S2 SB27
   refine wd (zh rfl) (zb (zd (za (wd (zj rfl) (wd (zf rfl) (wd (zf rfl) (wd (zf rfl) ?_)))))))
   obtain ⟨r28,er28,H⟩ := zq H
   obtain ⟨B30,MB30,SB30,back⟩ := S.calln 1 ((.nil))
   refine zu (zp zaZ) (by decide) (zaL SB30 er28) ?_
   rintro _ w29 ⟨rfl,S2⟩
   replace S:=back _ _ _ _ S2 rfl
   clear back S2 SB30
   refine wd (zh rfl) (zb (zd (za (wd (zj rfl) (wd (zf rfl) (wd (zj rfl) (wd (zf rfl) (wd (zf rfl) ?_))))))))
   obtain ⟨r31,er31,H⟩ := zq H
   obtain ⟨B33,MB33,SB33,back⟩ := S.calln 1 ((.nil))
   refine zu (zp jU) (by decide) (jW SB33 er31) ?_
   rintro _ w32 ⟨rfl,S2⟩
   replace S:=back _ _ _ _ S2 rfl
   clear back S2 SB33
   obtain ⟨r34,er34,H⟩ := zq H
   obtain ⟨B36,MB36,SB36,back⟩ := S.calln 1 ((.nil))
   refine zu (zp xr) (by decide) (xq SB36 er34) ?_
   rintro _ w35 ⟨rfl,S2⟩
   replace S:=back _ _ _ _ S2 rfl
   clear back S2 SB36
   refine wd (zh rfl) (zb (za (wd (zz rfl) (wd (zf rfl) (wd (zj rfl) (wd (zf rfl) (wd (zj rfl) (wd (zf rfl) (wd (zf rfl) ?_)))))))))
   obtain ⟨r37,er37,H⟩ := zq H
   obtain ⟨B39,MB39,SB39,back⟩ := S.calln 1 ((.nil))
   refine zu (zp jU) (by decide) (jW SB39 er37) ?_
   rintro _ w38 ⟨rfl,S2⟩
   replace S:=back _ _ _ _ S2 rfl
   clear back S2 SB39
   obtain ⟨r40,er40,H⟩ := zq H
   obtain ⟨B42,MB42,SB42,back⟩ := S.calln 1 ((.nil))
   refine zu (zp xr) (by decide) (xq SB42 er40) ?_
   rintro _ w41 ⟨rfl,S2⟩
   replace S:=back _ _ _ _ S2 rfl
   clear back S2 SB42
   obtain ⟨hi43,H⟩ := xi H
   refine wd (zN xx rfl rfl (S.rdO 2) (zC hi43).1 (zC hi43).2) ?_
   refine jY (C:=IC) (a:=r40.2) zJ rfl rfl (S.sl 2) (zC hi43) rfl rfl fun w44 O hw44=>?_
   have hlw44:=S.lenO 2
   replace S:=S.push 2 O (by rw [List.length_set]; exact hlw44) hw44 (fun i hi => .inl hi)
   clear O
   refine zb (za (wd (xI q7_i rfl (c:=i7 + 1) rfl (by omega) (by omega)) (wd (zf rfl) (zb ?_))))
   replace S:=S.arr [0,1] [0]
   obtain rfl:=Option.some.inj H
   exact ⟨rfl,(by repeat first | exact Dif.refl _ _ | exact Dif.self _ _ _ | refine Dif.upd ?_ rfl _ | refine Dif.mask ?_ rfl _),(m7,i7 + 1,(x7_0.set (i7).toNat r40.2,r40.1)),⟨(by dsimp only; omega),(by dsimp only; omega),e7,rfl,S⟩,by dsimp only; omega⟩
  ·replace H:=if_f hc24 H
   refine zd (za (wd (ze vn rfl (o':=0) rfl) (wd (zi x6 rfl ((S.blk 1).cell (Ln.get_kind _))) (wd (zR rfl rfl) (wd (zm rfl) (zb ?_))))))
   refine zH rfl (fun hc45=>?_) (fun hc45=>?_)
   ·replace H:=if_t hc45 H
    refine zd ?_
    refine xL 10 (Ext w12) hmix (by kernel_rfl) (by kernel_rfl) (Ext.drawn _) (zt (fun v K=>zj rfl) (zt (fun v K=>zf rfl) (zt (fun v K=>zz rfl) (zt (fun v K=>ze uj rfl (o':=3) rfl) (zt (fun v K=>zi zJ rfl (((S.ext K).blk 1).cell (Ln.get_b _))) ?_)))))
    obtain ⟨hi46,H⟩ := xi H
    refine zt (fun v K=>zN zU rfl rfl ((S.ext K).rd 0) (zC hi46).1 (zC hi46).2) (zt (fun v K=>ze xG rfl (o':=_) rfl) (zt (fun v K=>zi zJ rfl ((((S.ext K).rd 0).at (xj Ln.z (zC hi46))).get (Ln.get_form _))) (zt (fun v K=>ze xG rfl (o':=1) rfl) (zt (fun v K=>zi zJ rfl (((S.ext K).blk 1).cell (Ln.get_form _))) ?_))))
    refine yL fun w47 K=>?_
    replace S:=S.ext K
    clear K
    obtain ⟨r48,er48,H⟩ := zq H
    obtain ⟨B50,MB50,SB50,back⟩ := S.calln 1 ((.nil))
    refine zu (zp zaZ) (by decide) (zaL SB50 er48) ?_
    rintro _ w49 ⟨rfl,S2⟩
    replace S:=back _ _ _ _ S2 rfl
    clear back S2 SB50
    refine wd (zh rfl) (zb ?_)
    obtain ⟨hi51,H⟩ := xi H
    obtain ⟨r52,er52,H⟩ := zq H
    obtain ⟨hi55,H⟩ := xi H
    obtain ⟨r56,er56,H⟩ := zq H
    refine uo 17 ⟨fun _ _=>True,fun _ _ _=>True,fun i v _=>match i with
     | 0=>v=s5.v
     | 1=>v=Value.int .i64 i7
     | 2=>v=Value.pointer (some ⟨b2,0,none⟩)
     | 3=>v=Value.pointer (some ⟨b2,0,none⟩)
     | 4=>v=Value.int .i64 r48.2
     | 5=>v=s5.v
     | 6=>v=Value.pointer (some ⟨b11,2,none⟩)
     | 7=>v=Value.int .i64 ((at_ Ln.z a1 i7).a)
     | 8=>v=Value.pointer (some ⟨s5.blk,s5.off + Int.toNat ((at_ Ln.z a1 i7).a) * 1,none⟩)
     | 9=>v=Value.int .i64 (at_ (0:Int) x7_0 ((at_ Ln.z a1 i7).a))
     | 10=>v=Value.int .i64 r52.2
     | 11=>v=s5.v
     | 12=>v=Value.pointer (some ⟨b11,3,none⟩)
     | 13=>v=Value.int .i64 ((at_ Ln.z a1 i7).b)
     | 14=>v=Value.pointer (some ⟨s5.blk,s5.off + Int.toNat ((at_ Ln.z a1 i7).b) * 1,none⟩)
     | 15=>v=Value.int .i64 (at_ (0:Int) x7_0 ((at_ Ln.z a1 i7).b))
     | 16=>v=Value.int .i64 r56.2
     | _=>True⟩ (fun L g v=>bif L 16 then (St A N w v [oK (some ⟨b2,0,none⟩) a_0 r56.1,oB b11 T_Ln (Ln.C (at_ Ln.z a1 i7)),oS xS 1 IC s5 x7_0] [fS 4 Ln.C s_1 a1]) else bif L 10 then (St A N w v [oK (some ⟨b2,0,none⟩) a_0 r52.1,oB b11 T_Ln (Ln.C (at_ Ln.z a1 i7)),oS xS 1 IC s5 x7_0] [fS 4 Ln.C s_1 a1]) else (St A N w v [oK (some ⟨b2,0,none⟩) a_0 r48.1,oB b11 T_Ln (Ln.C (at_ Ln.z a1 i7)),oS xS 1 IC s5 x7_0] [fS 4 Ln.C s_1 a1])) hmix (by kernel_rfl) (fun _ _ _ _ _ _ _ hv=>hv) (fun g=>S.ext (Ext.drawn _)) ⟨?_,?_,?_,?_,?_,?_,?_,?_,?_,?_,?_,?_,?_,?_,?_,?_,?_,trivial⟩ ?_
    ·rintro L g v hL hcl hclo hT 
     cases hl16:L 16 with
     | true =>
      simp only [hl16,cond_true,cond_false] at hT
      replace S:=hT
      refine wd (zz rfl) ?_
      exact zb (ob4 trivial rfl (by simp only [zn (L:=L) (i:=0) (j:=10) rfl,zn (L:=L) (i:=0) (j:=16) rfl,hl16,cond_true,cond_false]; exact S))
     | false =>
      cases hl10:L 10 with
      | true =>
       simp only [hl10,hl16,cond_true,cond_false] at hT
       replace S:=hT
       refine wd (zz rfl) ?_
       exact zb (ob4 trivial rfl (by simp only [zn (L:=L) (i:=0) (j:=10) rfl,zn (L:=L) (i:=0) (j:=16) rfl,hl10,hl16,cond_true,cond_false]; exact S))
      | false =>
       simp only [hl10,hl16,cond_true,cond_false] at hT
       replace S:=hT
       refine wd (zz rfl) ?_
       exact zb (ob4 trivial rfl (by simp only [zn (L:=L) (i:=0) (j:=10) rfl,zn (L:=L) (i:=0) (j:=16) rfl,hl10,hl16,cond_true,cond_false]; exact S))
    ·rintro L g v hL hcl hclo hT 
     cases hl16:L 16 with
     | true =>
      simp only [hl16,cond_true,cond_false] at hT
      replace S:=hT
      refine wd (zf rfl) ?_
      exact zb (ob4 trivial rfl (by simp only [zn (L:=L) (i:=1) (j:=10) rfl,zn (L:=L) (i:=1) (j:=16) rfl,hl16,cond_true,cond_false]; exact S))
     | false =>
      cases hl10:L 10 with
      | true =>
       simp only [hl10,hl16,cond_true,cond_false] at hT
       replace S:=hT
       refine wd (zf rfl) ?_
       exact zb (ob4 trivial rfl (by simp only [zn (L:=L) (i:=1) (j:=10) rfl,zn (L:=L) (i:=1) (j:=16) rfl,hl10,hl16,cond_true,cond_false]; exact S))
      | false =>
       simp only [hl10,hl16,cond_true,cond_false] at hT
       replace S:=hT
       refine wd (zf rfl) ?_
       exact zb (ob4 trivial rfl (by simp only [zn (L:=L) (i:=1) (j:=10) rfl,zn (L:=L) (i:=1) (j:=16) rfl,hl10,hl16,cond_true,cond_false]; exact S))
    ·rintro L g v hL hcl hclo hT 
     have hl16:L 16=false:=by cases h:L 16 with | false=>rfl | true=>exact absurd (hclo 16 2 h (by kernel_rfl)) (by rw [hL]; decide)
     cases hl10:L 10 with
     | true =>
      simp only [hl10,hl16,cond_true,cond_false] at hT
      replace S:=hT
      refine wd (zj rfl) ?_
      exact zb (ob4 trivial rfl (by simp only [zn (L:=L) (i:=2) (j:=10) rfl,zn (L:=L) (i:=2) (j:=16) rfl,hl10,hl16,cond_true,cond_false]; exact S))
     | false =>
      simp only [hl10,hl16,cond_true,cond_false] at hT
      replace S:=hT
      refine wd (zj rfl) ?_
      exact zb (ob4 trivial rfl (by simp only [zn (L:=L) (i:=2) (j:=10) rfl,zn (L:=L) (i:=2) (j:=16) rfl,hl10,hl16,cond_true,cond_false]; exact S))
    ·rintro L g v hL hcl hclo hT 
     have hl10:L 10=false:=by cases h:L 10 with | false=>rfl | true=>exact absurd (hclo 10 3 h (by kernel_rfl)) (by rw [hL]; decide)
     have hl16:L 16=false:=by cases h:L 16 with | false=>rfl | true=>exact absurd (hclo 16 3 h (by kernel_rfl)) (by rw [hL]; decide)
     simp only [hl10,hl16,cond_true,cond_false] at hT
     replace S:=hT
     refine wd (zj rfl) ?_
     exact zb (ob4 trivial rfl (by simp only [zn (L:=L) (i:=3) (j:=10) rfl,zn (L:=L) (i:=3) (j:=16) rfl,hl10,hl16,cond_true,cond_false]; exact S))
    ·rintro L g v hL hcl hclo hT 
     have hl10:L 10=false:=by cases h:L 10 with | false=>rfl | true=>exact absurd (hclo 10 4 h (by kernel_rfl)) (by rw [hL]; decide)
     have hl16:L 16=false:=by cases h:L 16 with | false=>rfl | true=>exact absurd (hclo 16 4 h (by kernel_rfl)) (by rw [hL]; decide)
     simp only [hl10,hl16,cond_true,cond_false] at hT
     replace S:=hT
     refine wd (zf rfl) ?_
     exact zb (ob4 trivial rfl (by simp only [zn (L:=L) (i:=4) (j:=10) rfl,zn (L:=L) (i:=4) (j:=16) rfl,hl10,hl16,cond_true,cond_false]; exact S))
    ·rintro L g v hL hcl hclo hT 
     have hl10:L 10=false:=by cases h:L 10 with | false=>rfl | true=>exact absurd (hclo 10 5 h (by kernel_rfl)) (by rw [hL]; decide)
     have hl16:L 16=false:=by cases h:L 16 with | false=>rfl | true=>exact absurd (hclo 16 5 h (by kernel_rfl)) (by rw [hL]; decide)
     simp only [hl10,hl16,cond_true,cond_false] at hT
     replace S:=hT
     refine wd (zz rfl) ?_
     exact zb (ob4 trivial rfl (by simp only [zn (L:=L) (i:=5) (j:=10) rfl,zn (L:=L) (i:=5) (j:=16) rfl,hl10,hl16,cond_true,cond_false]; exact S))
    ·rintro L g v hL hcl hclo hT 
     have hl10:L 10=false:=by cases h:L 10 with | false=>rfl | true=>exact absurd (hclo 10 6 h (by kernel_rfl)) (by rw [hL]; decide)
     have hl16:L 16=false:=by cases h:L 16 with | false=>rfl | true=>exact absurd (hclo 16 6 h (by kernel_rfl)) (by rw [hL]; decide)
     simp only [hl10,hl16,cond_true,cond_false] at hT
     replace S:=hT
     refine wd (ze jn rfl (o':=2) rfl) ?_
     exact zb (ob4 trivial rfl (by simp only [zn (L:=L) (i:=6) (j:=10) rfl,zn (L:=L) (i:=6) (j:=16) rfl,hl10,hl16,cond_true,cond_false]; exact S))
    ·rintro L g v hL hcl hclo hT hv6
     have hl10:L 10=false:=by cases h:L 10 with | false=>rfl | true=>exact absurd (hclo 10 7 h (by kernel_rfl)) (by rw [hL]; decide)
     have hl16:L 16=false:=by cases h:L 16 with | false=>rfl | true=>exact absurd (hclo 16 7 h (by kernel_rfl)) (by rw [hL]; decide)
     simp only [hl10,hl16,cond_true,cond_false] at hT
     replace S:=hT
     refine wd (zi zJ hv6 ((S.blk 1).cell (Ln.get_a _))) ?_
     exact zb (ob4 trivial rfl (by simp only [zn (L:=L) (i:=7) (j:=10) rfl,zn (L:=L) (i:=7) (j:=16) rfl,hl10,hl16,cond_true,cond_false]; exact S))
    ·rintro L g v hL hcl hclo hT hv5 hv7
     have hl10:L 10=false:=by cases h:L 10 with | false=>rfl | true=>exact absurd (hclo 10 8 h (by kernel_rfl)) (by rw [hL]; decide)
     have hl16:L 16=false:=by cases h:L 16 with | false=>rfl | true=>exact absurd (hclo 16 8 h (by kernel_rfl)) (by rw [hL]; decide)
     simp only [hl10,hl16,cond_true,cond_false] at hT
     replace S:=hT
     refine wd (zN xx hv5 hv7 (S.rdO 2) (zC hi51).1 (zC hi51).2) ?_
     exact zb (ob4 trivial rfl (by simp only [zn (L:=L) (i:=8) (j:=10) rfl,zn (L:=L) (i:=8) (j:=16) rfl,hl10,hl16,cond_true,cond_false]; exact S))
    ·rintro L g v hL hcl hclo hT hv8
     have hl10:L 10=false:=by cases h:L 10 with | false=>rfl | true=>exact absurd (hclo 10 9 h (by kernel_rfl)) (by rw [hL]; decide)
     have hl16:L 16=false:=by cases h:L 16 with | false=>rfl | true=>exact absurd (hclo 16 9 h (by kernel_rfl)) (by rw [hL]; decide)
     simp only [hl10,hl16,cond_true,cond_false] at hT
     replace S:=hT
     refine wd (zi zJ hv8 ((S.rdO 2).one (xj (0:Int) (zC hi51)) rfl)) ?_
     exact zb (ob4 trivial rfl (by simp only [zn (L:=L) (i:=9) (j:=10) rfl,zn (L:=L) (i:=9) (j:=16) rfl,hl10,hl16,cond_true,cond_false]; exact S))
    ·rintro L g v hL hcl hclo hT hv3 hv4 hv9
     have hl10:L 10=false:=hL
     have hl16:L 16=false:=by cases h:L 16 with | false=>rfl | true=>exact absurd (hclo 16 10 h (by kernel_rfl)) (by rw [hL]; decide)
     simp only [hl10,hl16,cond_true,cond_false] at hT
     replace S:=hT
     obtain ⟨B62,MB62,SB62,back⟩ := S.calln 1 ((.nil))
     refine zu (zP xr (zS hv3 (zS hv4 (zS hv9 rfl)))) (by decide) (xq SB62 er52) ?_
     rintro _ w61 ⟨rfl,S2⟩
     replace S:=back _ _ _ _ S2 rfl
     clear back S2 SB62
     exact zb (ob4 trivial rfl (by simp only [zn (L:=L) (i:=10) (j:=16) rfl,yW (L:=L) (i:=10),hl16,cond_true,cond_false]; exact S))
    ·rintro L g v hL hcl hclo hT 
     have hl16:L 16=false:=by cases h:L 16 with | false=>rfl | true=>exact absurd (hclo 16 11 h (by kernel_rfl)) (by rw [hL]; decide)
     cases hl10:L 10 with
     | true =>
      simp only [hl10,hl16,cond_true,cond_false] at hT
      replace S:=hT
      refine wd (zz rfl) ?_
      exact zb (ob4 trivial rfl (by simp only [zn (L:=L) (i:=11) (j:=10) rfl,zn (L:=L) (i:=11) (j:=16) rfl,hl10,hl16,cond_true,cond_false]; exact S))
     | false =>
      simp only [hl10,hl16,cond_true,cond_false] at hT
      replace S:=hT
      refine wd (zz rfl) ?_
      exact zb (ob4 trivial rfl (by simp only [zn (L:=L) (i:=11) (j:=10) rfl,zn (L:=L) (i:=11) (j:=16) rfl,hl10,hl16,cond_true,cond_false]; exact S))
    ·rintro L g v hL hcl hclo hT 
     have hl16:L 16=false:=by cases h:L 16 with | false=>rfl | true=>exact absurd (hclo 16 12 h (by kernel_rfl)) (by rw [hL]; decide)
     cases hl10:L 10 with
     | true =>
      simp only [hl10,hl16,cond_true,cond_false] at hT
      replace S:=hT
      refine wd (ze uj rfl (o':=3) rfl) ?_
      exact zb (ob4 trivial rfl (by simp only [zn (L:=L) (i:=12) (j:=10) rfl,zn (L:=L) (i:=12) (j:=16) rfl,hl10,hl16,cond_true,cond_false]; exact S))
     | false =>
      simp only [hl10,hl16,cond_true,cond_false] at hT
      replace S:=hT
      refine wd (ze uj rfl (o':=3) rfl) ?_
      exact zb (ob4 trivial rfl (by simp only [zn (L:=L) (i:=12) (j:=10) rfl,zn (L:=L) (i:=12) (j:=16) rfl,hl10,hl16,cond_true,cond_false]; exact S))
    ·rintro L g v hL hcl hclo hT hv12
     have hl16:L 16=false:=by cases h:L 16 with | false=>rfl | true=>exact absurd (hclo 16 13 h (by kernel_rfl)) (by rw [hL]; decide)
     cases hl10:L 10 with
     | true =>
      simp only [hl10,hl16,cond_true,cond_false] at hT
      replace S:=hT
      refine wd (zi zJ hv12 ((S.blk 1).cell (Ln.get_b _))) ?_
      exact zb (ob4 trivial rfl (by simp only [zn (L:=L) (i:=13) (j:=10) rfl,zn (L:=L) (i:=13) (j:=16) rfl,hl10,hl16,cond_true,cond_false]; exact S))
     | false =>
      simp only [hl10,hl16,cond_true,cond_false] at hT
      replace S:=hT
      refine wd (zi zJ hv12 ((S.blk 1).cell (Ln.get_b _))) ?_
      exact zb (ob4 trivial rfl (by simp only [zn (L:=L) (i:=13) (j:=10) rfl,zn (L:=L) (i:=13) (j:=16) rfl,hl10,hl16,cond_true,cond_false]; exact S))
    ·rintro L g v hL hcl hclo hT hv11 hv13
     have hl16:L 16=false:=by cases h:L 16 with | false=>rfl | true=>exact absurd (hclo 16 14 h (by kernel_rfl)) (by rw [hL]; decide)
     cases hl10:L 10 with
     | true =>
      simp only [hl10,hl16,cond_true,cond_false] at hT
      replace S:=hT
      refine wd (zN xx hv11 hv13 (S.rdO 2) (zC hi55).1 (zC hi55).2) ?_
      exact zb (ob4 trivial rfl (by simp only [zn (L:=L) (i:=14) (j:=10) rfl,zn (L:=L) (i:=14) (j:=16) rfl,hl10,hl16,cond_true,cond_false]; exact S))
     | false =>
      simp only [hl10,hl16,cond_true,cond_false] at hT
      replace S:=hT
      refine wd (zN xx hv11 hv13 (S.rdO 2) (zC hi55).1 (zC hi55).2) ?_
      exact zb (ob4 trivial rfl (by simp only [zn (L:=L) (i:=14) (j:=10) rfl,zn (L:=L) (i:=14) (j:=16) rfl,hl10,hl16,cond_true,cond_false]; exact S))
    ·rintro L g v hL hcl hclo hT hv14
     have hl16:L 16=false:=by cases h:L 16 with | false=>rfl | true=>exact absurd (hclo 16 15 h (by kernel_rfl)) (by rw [hL]; decide)
     cases hl10:L 10 with
     | true =>
      simp only [hl10,hl16,cond_true,cond_false] at hT
      replace S:=hT
      refine wd (zi zJ hv14 ((S.rdO 2).one (xj (0:Int) (zC hi55)) rfl)) ?_
      exact zb (ob4 trivial rfl (by simp only [zn (L:=L) (i:=15) (j:=10) rfl,zn (L:=L) (i:=15) (j:=16) rfl,hl10,hl16,cond_true,cond_false]; exact S))
     | false =>
      simp only [hl10,hl16,cond_true,cond_false] at hT
      replace S:=hT
      refine wd (zi zJ hv14 ((S.rdO 2).one (xj (0:Int) (zC hi55)) rfl)) ?_
      exact zb (ob4 trivial rfl (by simp only [zn (L:=L) (i:=15) (j:=10) rfl,zn (L:=L) (i:=15) (j:=16) rfl,hl10,hl16,cond_true,cond_false]; exact S))
    ·rintro L g v hL hcl hclo hT hv2 hv10 hv15
     have hl10:L 10=true:=hcl 10 (by kernel_rfl)
     have hl16:L 16=false:=hL
     simp only [hl10,hl16,cond_true,cond_false] at hT
     replace S:=hT
     obtain ⟨B67,MB67,SB67,back⟩ := S.calln 1 ((.nil))
     refine zu (zP xr (zS hv2 (zS hv10 (zS hv15 rfl)))) (by decide) (xq SB67 er56) ?_
     rintro _ w66 ⟨rfl,S2⟩
     replace S:=back _ _ _ _ S2 rfl
     clear back S2 SB67
     exact zb (ob4 trivial rfl (by simp only [zn (L:=L) (i:=16) (j:=10) rfl,yW (L:=L) (i:=16),cond_true,cond_false]; exact S))
    rintro L g w68 hLm hT hv69_0 hv69_1 hv69_2 hv69_3 hv69_4 hv69_5 hv69_6 hv69_7 hv69_8 hv69_9 hv69_10 hv69_11 hv69_12 hv69_13 hv69_14 hv69_15 hv69_16
    have hLt : ∀ j,j < 17→L j=true:=fun j hj=>by rw [hLm]; exact decide_eq_true hj
    simp only [hLt 16 (by decide),cond_true] at hT
    replace S:=hT
    replace S:=S
    obtain ⟨hi70,H⟩ := xi H
    refine wd (zN xx hv69_0 hv69_1 (S.rdO 2) (zC hi70).1 (zC hi70).2) ?_
    refine jY (C:=IC) (a:=r56.2) zJ rfl hv69_16 (S.sl 2) (zC hi70) rfl rfl fun w71 O hw71=>?_
    have hlw71:=S.lenO 2
    replace S:=S.push 2 O (by rw [List.length_set]; exact hlw71) hw71 (fun i hi => .inl hi)
    clear O
    refine zb (za (wd (xI q7_i rfl (c:=i7 + 1) rfl (by omega) (by omega)) (wd (zf rfl) (zb ?_))))
    replace S:=S.arr [0,1] [0]
    obtain rfl:=Option.some.inj H
    exact ⟨rfl,(by repeat first | exact Dif.refl _ _ | exact Dif.self _ _ _ | refine Dif.upd ?_ rfl _ | refine Dif.mask ?_ rfl _),(m7,i7 + 1,(x7_0.set (i7).toNat r56.2,r56.1)),⟨(by dsimp only; omega),(by dsimp only; omega),e7,rfl,S⟩,by dsimp only; omega⟩
   ·replace H:=if_f hc45 H
    refine zd (za (wd (zj rfl) (wd (zo j0 rfl ((S.blk 1).all _ (Ln.len _)) (Ln.len _)) ?_)))
    obtain ⟨r72,er72,H⟩ := zq H
    obtain ⟨B74,MB74,SB74,back⟩ := S.calln 1 ((.nil))
    refine zu (zp va) (by decide) (y8 SB74 er72) ?_
    rintro _ w73 ⟨rfl,S2⟩
    replace S:=back _ _ _ _ S2 rfl
    clear back S2 SB74
    refine wd (zh rfl) (zb (za (wd (zz rfl) (wd (zf rfl) (wd (zj rfl) (wd (zj rfl) (wd (ze xG rfl (o':=1) rfl) (wd (zi zJ rfl ((S.blk 1).cell (Ln.get_form _))) (wd (zf rfl) ?_)))))))))
    obtain ⟨r75,er75,H⟩ := zq H
    obtain ⟨B77,MB77,SB77,back⟩ := S.calln 1 ((.nil))
    refine zu (zp jU) (by decide) (jW SB77 er75) ?_
    rintro _ w76 ⟨rfl,S2⟩
    replace S:=back _ _ _ _ S2 rfl
    clear back S2 SB77
    refine wd (zf rfl) ?_
    obtain ⟨r78,er78,H⟩ := zq H
    obtain ⟨B80,MB80,SB80,back⟩ := S.calln 1 ((.nil))
    refine zu (zp xr) (by decide) (xq SB80 er78) ?_
    rintro _ w79 ⟨rfl,S2⟩
    replace S:=back _ _ _ _ S2 rfl
    clear back S2 SB80
    obtain ⟨hi81,H⟩ := xi H
    refine wd (zN xx rfl rfl (S.rdO 2) (zC hi81).1 (zC hi81).2) ?_
    refine jY (C:=IC) (a:=r78.2) zJ rfl rfl (S.sl 2) (zC hi81) rfl rfl fun w82 O hw82=>?_
    have hlw82:=S.lenO 2
    replace S:=S.push 2 O (by rw [List.length_set]; exact hlw82) hw82 (fun i hi => .inl hi)
    clear O
    refine zb (za (wd (xI q7_i rfl (c:=i7 + 1) rfl (by omega) (by omega)) (wd (zf rfl) (zb ?_))))
    replace S:=S.arr [0,1] [0]
    obtain rfl:=Option.some.inj H
    exact ⟨rfl,(by repeat first | exact Dif.refl _ _ | exact Dif.self _ _ _ | refine Dif.upd ?_ rfl _ | refine Dif.mask ?_ rfl _),(m7,i7 + 1,(x7_0.set (i7).toNat r78.2,r78.1)),⟨(by dsimp only; omega),(by dsimp only; omega),e7,rfl,S⟩,by dsimp only; omega⟩
 rintro g83 u84 ⟨s7,rfl,S⟩
 have H:=Ho7
 dsimp only [aft] at H
 refine zd ?_
 obtain ⟨p85,s87,hp86,S⟩ := S.open_oK 1
 replace S:=S
 refine xL 9 (Ext u84) hmix (by kernel_rfl) (by kernel_rfl) (Ext.drawn _) (zt (fun v K=>zj rfl) (zt (fun v K=>zw (congrArg Value.pointer hp86)) (zt (fun v K=>ze ud rfl (o':=1) rfl) (zt (fun v K=>zi xN rfl (((S.ext K).blk 0).cell (Maker.get_l _))) (zt (fun v K=>zj rfl) (zt (fun v K=>zw (congrArg Value.pointer hp86)) (zt (fun v K=>ze yh rfl (o':=2) rfl) (zt (fun v K=>zi ya rfl (((S.ext K).blk 0).cell (Maker.get_bad _))) (zt (fun v K=>xD rfl) ?_)))))))))
 refine yL fun w88 K=>?_
 replace S:=S.ext K
 clear K
 refine wd (zh rfl) (zb (zx ?_))
 refine ⟨_,(xp (zg rfl) (zg rfl)),?_⟩
 replace S:=S.arr [1,2] []
 obtain rfl:=Option.some.inj H
 exact ⟨s87,rfl,S⟩
theorem hilbert_kept_st {A:Nat→Prop} {N:Oth} {w:World} {a0:Tb} {a_0:Option Addr} {a1:Int} {a2:List Ln} {s_2:SlV} {a3:Int} (S:St A N w w [oT a_0 a0,oS T_Ln 4 Ln.C s_2 a2] []) {r:Tb × List Ln × Int} (H:hilbert_kept.f a0 a1 a2 a3=some r) :
  Calls PP F_hilbert_kept #[.pointer a_0,.int .i64 a1,s_2.v,.int .i64 a3] w fun e w' => ∃ v,e = .returned v∧(∃ so0:SlV,v = .tuple #[so0.v,.int .i64 r.2.2]∧St A N w w' [oT a_0 r.1,oS T_Ln 4 Ln.C so0 r.2.1] []):=by
 unfold hilbert_kept.f at H
 refine zA (n:=17) fn_hilbert_kept rfl rfl (by simp) (zd (za (wd (xm) (wd (zh rfl) (zb (zd (zd (za (wd (zf rfl) (wd (xh rfl rfl) (zb ?_)))))))))))
 refine zH rfl (fun hc1=>?_) (fun hc1=>?_)
 ·replace H:=if_t hc1 H
  refine zd (za (wd (zj rfl) (wd (zf rfl) ?_)))
  obtain ⟨r2,er2,H⟩ := zq H
  obtain ⟨B4,MB4,SB4,back⟩ := S.calln 1 ((.nil))
  refine zu (zp ca_formula_Table_Cut) (by decide) (formula_Table_Cut_st SB4 er2) ?_
  rintro _ w3 ⟨rfl,S2⟩
  replace S:=back _ _ _ _ S2 rfl
  clear back S2 SB4
  refine zb (zd (za (wd (zf rfl) (wd (xm) (wd (zh rfl) (zb (zx ?_)))))))
  replace S:=S.nil T_Ln 4 Ln.C
  refine ⟨_,(xp (zg rfl) (zg rfl)),?_⟩
  replace S:=S.arr [1,0] []
  obtain rfl:=Option.some.inj H
  exact ⟨SlV.nil,rfl,S⟩
 replace H:=if_f hc1 H
 refine zB (zd (za (wd (zz rfl) (wd (xD rfl) (wd (zh rfl) (zb (zx ?_)))))))
 refine ⟨_,(xp (zg rfl) (zg rfl)),?_⟩
 obtain rfl:=Option.some.inj H
 exact ⟨s_2,rfl,S⟩
theorem zbs {A:Nat→Prop} {N:Oth} {w:World} {a0:Tb} {a_0:Option Addr} {a1:List Int} {s_1:SlV} {a2:List Ln} {s_2:SlV} {a3:Int} (S:St A N w w [oT a_0 a0] [fS 1 IC s_1 a1,fS 4 Ln.C s_2 a2]) {k:Nat} {r:Tb × List Ln × Int} (H:hilbert_Deduce.f k a0 a1 a2 a3=some r) :
  Calls PP zbN #[.pointer a_0,s_1.v,s_2.v,.int .i64 a3] w fun e w' => ∃ v,e = .returned v∧(∃ so0:SlV,v = .tuple #[so0.v,.int .i64 r.2.2]∧St A N w w' [oT a_0 r.1,oS T_Ln 4 Ln.C so0 r.2.1] []):=by
 unfold hilbert_Deduce.f at H
 refine zA (n:=45) fn_hilbert_Deduce rfl rfl (by simp) (zd (za (wd (xm) (wd (zh rfl) (zb (zd (zd (za (wd (zj rfl) (wd (zf rfl) ?_))))))))))
 refine xK (C:=IC) (l:=[a3]) (vs:=[.int .i64 a3]) xx zar.zero rfl rfl (fun _ _=>rfl) (by decide) rfl (by decide) fun b2 w1 s3 hBw1 hw1=>?_
 replace S:=S.lit hBw1 hw1 (by simp)
 obtain ⟨r4,er4,H⟩ := zq H
 obtain ⟨B6,MB6,SB6,back⟩ := S.calln 0 ((.o 1 rfl (.s 0 rfl .nil)))
 refine zu (zp kq) (by decide) (km SB6 er4) ?_
 rintro _ w5 ⟨rfl,S2⟩
 replace S:=back _ _ _ _ S2 rfl
 clear back S2 SB6
 refine wd (zh rfl) (zb (zd (za (wd (zf rfl) (wd (xh rfl rfl) (zb ?_))))))
 refine zH rfl (fun hc7=>?_) (fun hc7=>?_)
 ·replace H:=if_t hc7 H
  refine zd (za (wd (zf rfl) (wd (xm) (wd (zh rfl) (zb (zx ?_))))))
  replace S:=S.nil T_Ln 4 Ln.C
  refine ⟨_,(xp (zg rfl) (zg rfl)),?_⟩
  replace S:=S.arr [2,0] []
  obtain rfl:=Option.some.inj H
  exact ⟨SlV.nil,rfl,S⟩
 replace H:=if_f hc7 H
 refine zB (zd (zd (za (wd (zj rfl) (wd (zz rfl) (wd (zz rfl) ?_))))))
 obtain ⟨r8,er8,H⟩ := zq H
 replace S:=S.front 1
 obtain ⟨B10,MB10,SB10,back⟩ := S.calln 1 ((.z 0 rfl (.z 1 rfl .nil)))
 refine zu (zp jj) (by decide) (jo SB10 er8) ?_
 rintro _ w9 ⟨rfl,S2⟩
 replace S:=back _ _ _ _ S2 rfl
 clear back S2 SB10
 refine wd (zh rfl) (zb (zd (za (wd (zf rfl) (wd (xh rfl rfl) (zb ?_))))))
 refine zH rfl (fun hc11=>?_) (fun hc11=>?_)
 ·replace H:=if_t hc11 H
  refine zd (za (wd (zf rfl) (wd (xm) (wd (zh rfl) (zb (zx ?_))))))
  replace S:=S.nil T_Ln 4 Ln.C
  refine ⟨_,(xp (zg rfl) (zg rfl)),?_⟩
  replace S:=S.arr [1,0] []
  obtain rfl:=Option.some.inj H
  exact ⟨SlV.nil,rfl,S⟩
 replace H:=if_f hc11 H
 refine zB (zd (za (wd (zj rfl) ?_)))
 obtain ⟨r12,er12,H⟩ := zq H
 obtain ⟨B14,MB14,SB14,back⟩ := S.calln 0 ((.o 0 rfl .nil))
 refine zu (zp vV) (by decide) (v8 SB14 er12) ?_
 rintro _ w13 ⟨rfl,S2⟩
 replace S:=back _ _ _ _ S2 rfl
 clear back S2 SB14
 refine wd (zh rfl) (zb (zd (za (wd (zj rfl) (wd (zz rfl) (wd (zf rfl) ?_))))))
 obtain ⟨r15,er15,H⟩ := zq H
 obtain ⟨B17,MB17,SB17,back⟩ := S.calln 1 ((.z 1 rfl .nil))
 refine zu (zp zbm) (by decide) (zbu SB17 er15) ?_
 rintro _ w16 ⟨s18,rfl,S2⟩
 replace S:=back _ _ _ _ S2 rfl
 clear back S2 SB17
 refine wd (z1 rfl) (wd (zr rfl rfl) (wd (zr rfl rfl) (wd (xD rfl) (wd (zh rfl) (zb (zd (za (wd (zj rfl) (wd (zf rfl) (wd (zz rfl) (wd (zf rfl) ?_)))))))))))
 obtain ⟨r19,er19,H⟩ := zq H
 replace S:=(S.front 1).front 1
 obtain ⟨B21,MB21,SB21,back⟩ := S.calln 2 ((.nil))
 refine zu (zp ca_hilbert_kept) (by decide) (hilbert_kept_st SB21 er19) ?_
 rintro _ w20 ⟨s22,rfl,S2⟩
 replace S:=back _ _ _ _ S2 rfl
 clear back S2 SB21
 refine wd (zr rfl rfl) (wd (zr rfl rfl) (wd (xD rfl) (wd (zh rfl) (zb (zx ?_)))))
 refine ⟨_,(xp (zg rfl) (zg rfl)),?_⟩
 replace S:=S.arr [0,1] []
 obtain rfl:=Option.some.inj H
 exact ⟨s22,rfl,S⟩
end Go.Proofs.YtflieamjacclnaaGreatDoor
end
section
namespace Go.Proofs.YtflieamjacclnaaGreatDoor
open Gw Go.RowKit
set_option maxHeartbeats 4000000
set_option maxRecDepth 20000
theorem term_shape_st {A:Nat→Prop} {N:Oth} {w:World} {a0:Int} (S:St A N w w [] []) {r:Int × Bool × Bool × Bool} (H:term_shape.f a0=some r) :
  Calls PP F_term_shape #[.int .i64 a0] w fun e w' => ∃ v,e = .returned v∧(v = .tuple #[.int .i64 r.1,.bool r.2.1,.bool r.2.2.1,.bool r.2.2.2]∧St A N w w' [] []):=by
 unfold term_shape.f at H
 refine zA (n:=25) fn_term_shape rfl rfl (by simp) (zd (za (wd (zh rfl) (wd (zm rfl) (wd (zm rfl) (wd (zm rfl) (zb (zd (zd (za ?_))))))))))
 refine wd (zf rfl) (zb ?_)
 refine zQ (zd (za (wd (zR rfl rfl) (wd (zm rfl) (zb ?_)))))
 refine zH rfl (fun hc1=>?_) (fun hc1=>?_)
 ·replace H:=if_t hc1 H
  refine zd (za (wd (zh rfl) (wd (zm rfl) (wd (zm rfl) (wd (zm rfl) (zb (zx ?_)))))))
  refine ⟨_,(rets4 (zg rfl) (zg rfl) (zg rfl) (zg rfl)),?_⟩
  obtain rfl:=Option.some.inj H
  exact ⟨rfl,S⟩
 replace H:=if_f hc1 H
 refine zd (za (wd (zR rfl rfl) (wd (zm rfl) (zb ?_))))
 refine zH rfl (fun hc2=>?_) (fun hc2=>?_)
 ·replace H:=if_t hc2 H
  refine zd (za (wd (zh rfl) (wd (zm rfl) (wd (zm rfl) (wd (zm rfl) (zb (zx ?_)))))))
  refine ⟨_,(rets4 (zg rfl) (zg rfl) (zg rfl) (zg rfl)),?_⟩
  obtain rfl:=Option.some.inj H
  exact ⟨rfl,S⟩
 replace H:=if_f hc2 H
 refine zd (za (wd (zR rfl rfl) (wd (zm rfl) (zb ?_))))
 refine zH rfl (fun hc3=>?_) (fun hc3=>?_)
 ·replace H:=if_t hc3 H
  refine zd (za (wd (zh rfl) (wd (zm rfl) (wd (zm rfl) (wd (zm rfl) (zb (zx ?_)))))))
  refine ⟨_,(rets4 (zg rfl) (zg rfl) (zg rfl) (zg rfl)),?_⟩
  obtain rfl:=Option.some.inj H
  exact ⟨rfl,S⟩
 replace H:=if_f hc3 H
 refine zd (za (wd (zR rfl rfl) (wd (zm rfl) (zb ?_))))
 refine zH rfl (fun hc4=>?_) (fun hc4=>?_)
 ·replace H:=if_t hc4 H
  refine zd (za (wd (zh rfl) (wd (zm rfl) (wd (zm rfl) (wd (zm rfl) (zb (zx ?_)))))))
  refine ⟨_,(rets4 (zg rfl) (zg rfl) (zg rfl) (zg rfl)),?_⟩
  obtain rfl:=Option.some.inj H
  exact ⟨rfl,S⟩
 replace H:=if_f hc4 H
 refine zd (zd (za (wd (zR rfl rfl) (wd (zm rfl) (zb ?_)))))
 obtain ⟨o5,e5,Ho5⟩ := zq H
 replace H:=e5; clear e5
 refine xY [15,17,18,19,20,21] (fun fr W=>fr 15 = .bool o5∧St A N w W [] []) ?_ ?_
 ·refine zH rfl (fun hc6=>?_) (fun hc6=>?_)
  ·replace H:=if_t hc6 H
   refine zB ?_
   obtain rfl:=Option.some.inj H
   exact ⟨rfl,(Dif.refl _ _),rfl,S⟩
  ·replace H:=if_f hc6 H
   refine zd (za (wd (zR rfl rfl) (wd (zm rfl) (zb ?_))))
   refine zH rfl (fun hc7=>?_) (fun hc7=>?_)
   ·replace H:=if_t hc7 H
    refine zB ?_
    obtain rfl:=Option.some.inj H
    exact ⟨rfl,(((Dif.refl _ _).upd rfl _).upd rfl _),rfl,S⟩
   ·replace H:=if_f hc7 H
    refine zd (za (wd (zR rfl rfl) (wd (zm rfl) (zb ?_))))
    refine zH rfl (fun hc8=>?_) (fun hc8=>?_)
    ·replace H:=if_t hc8 H
     refine zB ?_
     obtain rfl:=Option.some.inj H
     exact ⟨rfl,(((((Dif.refl _ _).upd rfl _).upd rfl _).upd rfl _).upd rfl _),rfl,S⟩
    ·replace H:=if_f hc8 H
     refine zd (za (wd (zR rfl rfl) (wd (zm rfl) (zb ?_))))
     refine zH rfl (fun hc9=>?_) (fun hc9=>?_)
     ·replace H:=if_t hc9 H
      refine zB ?_
      obtain rfl:=Option.some.inj H
      exact ⟨rfl,(((((((Dif.refl _ _).upd rfl _).upd rfl _).upd rfl _).upd rfl _).upd rfl _).upd rfl _),rfl,S⟩
     ·replace H:=if_f hc9 H
      refine zd (za (wd (zR rfl rfl) (wd (zm rfl) (zb ?_))))
      refine zH rfl (fun hc10=>?_) (fun hc10=>?_)
      ·replace H:=if_t hc10 H
       refine zB ?_
       obtain rfl:=Option.some.inj H
       exact ⟨rfl,(((((((((Dif.refl _ _).upd rfl _).upd rfl _).upd rfl _).upd rfl _).upd rfl _).upd rfl _).upd rfl _).upd rfl _),rfl,S⟩
      ·replace H:=if_f hc10 H
       refine za (wd (zR rfl rfl) (wd (zm rfl) (zb ?_)))
       obtain rfl:=Option.some.inj H
       exact ⟨rfl,(((((((((((Dif.refl _ _).upd rfl _).upd rfl _).upd rfl _).upd rfl _).upd rfl _).upd rfl _).upd rfl _).upd rfl _).upd rfl _).upd rfl _),rfl,S⟩
 rintro g11 u12 ⟨p5_15,S⟩
 have H:=Ho5
 refine zH p5_15 (fun hc13=>?_) (fun hc13=>?_)
 ·replace H:=if_t hc13 H
  refine zd (za (wd (zh rfl) (wd (zm rfl) (wd (zm rfl) (wd (zm rfl) (zb (zx ?_)))))))
  refine ⟨_,(rets4 (zg rfl) (zg rfl) (zg rfl) (zg rfl)),?_⟩
  obtain rfl:=Option.some.inj H
  exact ⟨rfl,S⟩
 replace H:=if_f hc13 H
 refine zd (zd (za (wd (zR rfl rfl) (wd (zm rfl) (zb ?_)))))
 refine zH rfl (fun hc14=>?_) (fun hc14=>?_)
 ·replace H:=if_t hc14 H
  refine zB ?_
  refine zH rfl (fun hc15=>?_) (fun hc15=>?_)
  ·replace H:=if_t hc15 H
   refine zd (za (wd (zh rfl) (wd (zm rfl) (wd (zm rfl) (wd (zm rfl) (zb (zx ?_)))))))
   refine ⟨_,(rets4 (zg rfl) (zg rfl) (zg rfl) (zg rfl)),?_⟩
   obtain rfl:=Option.some.inj H
   exact ⟨rfl,S⟩
  replace H:=if_f hc15 H
  refine zB (zd (za (wd (zh rfl) (wd (zm rfl) (wd (zm rfl) (wd (zm rfl) (zb (zx ?_))))))))
  refine ⟨_,(rets4 (zg rfl) (zg rfl) (zg rfl) (zg rfl)),?_⟩
  obtain rfl:=Option.some.inj H
  exact ⟨rfl,S⟩
 ·replace H:=if_f hc14 H
  refine za (wd (zR rfl rfl) (wd (zm rfl) (zb ?_)))
  refine zH rfl (fun hc16=>?_) (fun hc16=>?_)
  ·replace H:=if_t hc16 H
   refine zd (za (wd (zh rfl) (wd (zm rfl) (wd (zm rfl) (wd (zm rfl) (zb (zx ?_)))))))
   refine ⟨_,(rets4 (zg rfl) (zg rfl) (zg rfl) (zg rfl)),?_⟩
   obtain rfl:=Option.some.inj H
   exact ⟨rfl,S⟩
  replace H:=if_f hc16 H
  refine zB (zd (za (wd (zh rfl) (wd (zm rfl) (wd (zm rfl) (wd (zm rfl) (zb (zx ?_))))))))
  refine ⟨_,(rets4 (zg rfl) (zg rfl) (zg rfl) (zg rfl)),?_⟩
  obtain rfl:=Option.some.inj H
  exact ⟨rfl,S⟩
theorem term_named_st {A:Nat→Prop} {N:Oth} {w:World} {a0:ByteArray} {a1:Bool} (S:St A N w w [] []) {r:Bool} (H:term_named.f a0 a1=some r) :
  Calls PP F_term_named #[.string a0,.bool a1] w fun e w' => ∃ v,e = .returned v∧(v = .bool r∧St A N w w' [] []):=by
 unfold term_named.f at H
 refine zA (n:=11) fn_term_named rfl rfl (by simp) (zd (za (wd (zm rfl) (zb (zd (zd (za (wd (zE rfl) ?_))))))))
 refine wd (xk rfl) (zb ?_)
 refine zH rfl (fun hc1=>?_) (fun hc1=>?_)
 ·replace H:=if_t hc1 H
  refine zd (za (wd (xB rfl) (wd (vp rfl rfl) (wd (zm rfl) (zb (zx ?_))))))
  refine ⟨_,(zV (zg rfl)),?_⟩
  obtain rfl:=Option.some.inj H
  exact ⟨rfl,S⟩
 replace H:=if_f hc1 H
 refine zB (zd (za (wd (xB rfl) ?_)))
 obtain ⟨r2,er2,H⟩ := zq H
 obtain ⟨B4,MB4,SB4,back⟩ := S.calln 0 ((.nil))
 refine zu (zp ca_formula_Word) (by decide) (formula_Word_st SB4 er2) ?_
 rintro _ w3 ⟨rfl,S2⟩
 replace S:=back _ _ _ _ S2 rfl
 clear back S2 SB4
 refine wd (zm rfl) (zb (zx ?_))
 refine ⟨_,(zV (zg rfl)),?_⟩
 obtain rfl:=Option.some.inj H
 exact ⟨rfl,S⟩
theorem term_deep_gst {rec_term_deep:PTerm→Int→Option Int} (hrec_term_deep : ∀ {A:Nat→Prop} {N:Oth} {w:World} {a0:PTerm} {s_0:SlV} {a1:Int} (S:St A N w w [] [zy s_0 a0.sub]) {r:Int} (H:rec_term_deep a0 a1=some r),Calls PP zaj #[.agg (Term.C (⟨a0.kind,a0.name,a0.other,a0.form,s_0⟩ : Term)).toArray,.int .i64 a1] w fun e w' => ∃ v,e = .returned v∧(v = .int .i64 r∧St A N w w' [] [])) {A:Nat→Prop} {N:Oth} {w:World} {a0:PTerm} {s_0:SlV} {a1:Int} (S:St A N w w [] [zy s_0 a0.sub]) {k:Nat} {r:Int} (H:term_deep.g rec_term_deep k a0 a1=some r) :
  Calls PP zaj #[.agg (Term.C (⟨a0.kind,a0.name,a0.other,a0.form,s_0⟩ : Term)).toArray,.int .i64 a1] w fun e w' => ∃ v,e = .returned v∧(v = .int .i64 r∧St A N w w' [] []):=by
 unfold term_deep.g at H
 refine zA (n:=35) fn_term_deep rfl rfl (by simp) (zd (za ?_))
 refine z7 rfl (by decide) fun b2 w1 hw1=>?_
 replace S:=S.new hw1
 refine wd (zh rfl) (zb (zd (zd (za (wd (zf rfl) (wd (does_le rfl rfl) (zb ?_)))))))
 refine zH rfl (fun hc3=>?_) (fun hc3=>?_)
 ·replace H:=if_t hc3 H
  refine zd (za (wd (zf rfl) (wd (zh rfl) (zb (zx ?_)))))
  refine ⟨_,(zV (zg rfl)),?_⟩
  replace S:=S.arr [] []
  obtain rfl:=Option.some.inj H
  exact ⟨rfl,S⟩
 replace H:=if_f hc3 H
 refine zB (zd (za (wd (zh rfl) (zb (zd (zd (za (wd (zh rfl) (zb ?_)))))))))
 obtain ⟨o4,e4,Ho4⟩ := zq H
 clear H
 refine xY [5,6,10,11,12,13,14,15,16,17,18,19,20,21,22,23,24,25,26,27,28,29,30,31,32] (fun fr W => ∃ s4:Int × Int,o4 = .inl s4∧fr 5 = .int .i64 s4.1∧fr 6 = .int .i64 s4.2∧St A N w W [oB b2 zD (Term.C (⟨a0.kind,a0.name,a0.other,a0.form,s_0⟩ : Term))] [zy s_0 a0.sub]) ?_ ?_
 ·refine zQ ?_
  refine xW (α:=Nat × (Int × Int)) [5,6,10,11,12,13,14,15,16,17,18,19,20,21,22,23,24,25,26,27,28,29,30,31,32] (fun x fr W=>iter (fun s=>term_deep.b0 a0 a1 rec_term_deep s.1 s.2) x.1 x.2=some o4∧fr 5 = .int .i64 (x.2.1)∧fr 6 = .int .i64 (x.2.2)∧St A N w W [oB b2 zD (Term.C (⟨a0.kind,a0.name,a0.other,a0.form,s_0⟩ : Term))] [zy s_0 a0.sub]) (fun x=>x.1) (k,(0,0)) ⟨(by dsimp only; exact e4),rfl,rfl,S⟩ ?_
  rintro ⟨m4,⟨x4_0,x4_1⟩⟩ g4 u4 ⟨e4,q4_5,q4_6,S⟩
  try dsimp only at e4
  try dsimp only at S
  try dsimp only at q4_5
  try dsimp only at q4_6
  obtain ⟨m4,rfl⟩ : ∃ m,m4=m + 1:=⟨m4 - 1,by cases m4 with | zero=>cases e4 | succ m=>rfl⟩
  obtain ⟨q4,H,e4⟩ := iter_s e4
  unfold term_deep.b0 at H
  try dsimp only at H
  refine zd (zd (za (wd (zf q4_6) (wd (ze xt rfl (o':=4) rfl) (wd (zi xl rfl ((S.blk 0).cell (Term.get_sub _))) (wd (does_lenF zY rfl (S.onZ 0)) (wd (xM rfl rfl) ?_)))))))
  refine wd (zE rfl) ?_
  refine wg (fun hg=>zf q4_5) ?_
  refine wg (fun hg=>zf rfl) ?_
  refine wg (fun hg=>jH (zl hg) rfl) ?_
  refine wg (fun hg=>xM (zl hg) (zl hg)) (wd (xc rfl (fun hp=>(zl (xn hp)))) (zb ?_))
  refine zH rfl (fun hc5=>?_) (fun hc5=>?_)
  rotate_left
  ·replace H:=if_f hc5 H
   refine yn ?_
   obtain rfl:=Option.some.inj H
   exact ⟨rfl,((((((((((((Dif.self _ _ _).upd rfl _).upd rfl _).upd rfl _).upd rfl _).upd rfl _).upd rfl _).upd rfl _).upd rfl _).upd rfl _).upd rfl _).upd rfl _),(x4_0,x4_1),e4,q4_5,q4_6,S⟩
  replace H:=if_t hc5 H
  refine zB (zd ?_)
  refine zQ (za (wd (zf q4_5) (wd (ze xt rfl (o':=4) rfl) (wd (zi xl rfl ((S.blk 0).cell (Term.get_sub _))) (wd (zf q4_6) ?_)))))
  obtain ⟨hi6,H⟩ := xi H
  refine wd (does_indexF zY rfl rfl (S.onZ 0) (zC hi6).1 (zC hi6).2) ?_
  obtain ⟨s7,hc8,S⟩ := S.viewTerm 0 (zC hi6)
  replace S:=S
  refine wd (zo zO rfl hc8 (Term.len _)) (wd (zf rfl) (wd (jH rfl rfl) ?_))
  obtain ⟨r9,er9,H⟩ := zq H
  obtain ⟨B11,MB11,SB11,back⟩ := S.calln 0 ((.z 0 rfl .nil))
  refine zu (zp ca_term_deep) (by decide) (hrec_term_deep (a0:=(at_ PTerm.z a0.sub x4_1)) SB11 er9) ?_
  rintro _ w10 ⟨rfl,S2⟩
  replace S:=back _ _ _ _ S2 rfl
  clear back S2 SB11
  refine wd (does_max rfl rfl) (wd (zh rfl) (zb (za (wd (zf q4_6) (wd (jI rfl rfl) ?_)))))
  refine wd (zh rfl) (zb ?_)
  replace S:=S.arr [0] [1]
  obtain rfl:=Option.some.inj H
  exact ⟨rfl,((((((((((((((((((((((((((Dif.self _ _ _).upd rfl _).upd rfl _).upd rfl _).upd rfl _).upd rfl _).upd rfl _).upd rfl _).upd rfl _).upd rfl _).upd rfl _).upd rfl _).upd rfl _).upd rfl _).upd rfl _).upd rfl _).upd rfl _).upd rfl _).upd rfl _).upd rfl _).upd rfl _).upd rfl _).upd rfl _).upd rfl _).upd rfl _).upd rfl _),(m4,((if x4_0 < r9 then r9 else x4_0),IntKind.i64.wrap (x4_1 + 1))),⟨e4,rfl,rfl,S⟩,by dsimp only; omega⟩
 rintro g12 u13 ⟨s4,rfl,p4_5,p4_6,S⟩
 have H:=Ho4
 dsimp only [aft] at H
 refine zd (za (wd (zf p4_5) (wd (jI rfl rfl) (wd (zh rfl) (zb (zx ?_))))))
 refine ⟨_,(zV (zg rfl)),?_⟩
 replace S:=S.arr [] []
 obtain rfl:=Option.some.inj H
 exact ⟨rfl,S⟩
theorem term_deep_st {A:Nat→Prop} {N:Oth} {w:World} {a0:PTerm} {s_0:SlV} {a1:Int} (S:St A N w w [] [zy s_0 a0.sub]) {k:Nat} {r:Int} (H:term_deep.f k a0 a1=some r) :
  Calls PP zaj #[.agg (Term.C (⟨a0.kind,a0.name,a0.other,a0.form,s_0⟩ : Term)).toArray,.int .i64 a1] w fun e w' => ∃ v,e = .returned v∧(v = .int .i64 r∧St A N w w' [] []):=by
 have main : ∀ (k:Nat) {A:Nat→Prop} {N:Oth} {w:World} {a0:PTerm} {s_0:SlV} {a1:Int} (S:St A N w w [] [zy s_0 a0.sub]) {r:Int} (H:term_deep.f k a0 a1=some r),Calls PP zaj #[.agg (Term.C (⟨a0.kind,a0.name,a0.other,a0.form,s_0⟩ : Term)).toArray,.int .i64 a1] w fun e w' => ∃ v,e = .returned v∧(v = .int .i64 r∧St A N w w' [] []):=by
  intro k
  induction k with
  | zero=>intro A N w a0 s_0 a1 S r H; cases H
  | succ k ih=>intro A N w a0 s_0 a1 S r H; exact term_deep_gst ih S H
 exact main k S H
theorem term_Deep_st {A:Nat→Prop} {N:Oth} {w:World} {a0:PTerm} {s_0:SlV} (S:St A N w w [] [zy s_0 a0.sub]) {k:Nat} {r:Int} (H:term_Deep.f k a0=some r) :
  Calls PP F_term_Deep #[.agg (Term.C (⟨a0.kind,a0.name,a0.other,a0.form,s_0⟩ : Term)).toArray] w fun e w' => ∃ v,e = .returned v∧(v = .int .i64 r∧St A N w w' [] []):=by
 unfold term_Deep.f at H
 refine zA (n:=5) fn_term_Deep rfl rfl (by simp) (zd (za ?_))
 refine z7 rfl (by decide) fun b2 w1 hw1=>?_
 replace S:=S.new hw1
 refine wd (zh rfl) (zb (zd (za (wd (zo zO rfl ((S.blk 0).all _ (Term.len _)) (Term.len _)) ?_))))
 obtain ⟨r3,er3,H⟩ := zq H
 obtain ⟨B5,MB5,SB5,back⟩ := S.calln 0 ((.z 0 rfl .nil))
 refine zu (zp ca_term_deep) (by decide) (term_deep_st (a0:=a0) SB5 er3) ?_
 rintro _ w4 ⟨rfl,S2⟩
 replace S:=back _ _ _ _ S2 rfl
 clear back S2 SB5
 refine wd (zh rfl) (zb (zx ?_))
 refine ⟨_,(zV (zg rfl)),?_⟩
 replace S:=S.arr [] []
 obtain rfl:=Option.some.inj H
 exact ⟨rfl,S⟩
end Go.Proofs.YtflieamjacclnaaGreatDoor
end
section
namespace Go.Proofs.YtflieamjacclnaaGreatDoor
open Gw Go.RowKit
set_option maxHeartbeats 4000000
set_option maxRecDepth 20000
theorem term_right_1_gst {rec_term_right:PTerm→Option Bool} (hrec_term_right : ∀ {A:Nat→Prop} {N:Oth} {w:World} {a0:PTerm} {s_0:SlV} (S:St A N w w [] [zy s_0 a0.sub]) {r:Bool} (H:rec_term_right a0=some r),Calls PP vT #[.agg (Term.C (⟨a0.kind,a0.name,a0.other,a0.form,s_0⟩ : Term)).toArray] w fun e w' => ∃ v,e = .returned v∧(v = .bool r∧St A N w w' [] [])) {A:Nat→Prop} {N:Oth} {w:World} {a0:PTerm} {s_0:SlV} (S:St A N w w [] [zy s_0 a0.sub]) {r:Bool} (H:term_right_1.g rec_term_right a0=some r) :
  Calls PP kx #[.agg (Term.C (⟨a0.kind,a0.name,a0.other,a0.form,s_0⟩ : Term)).toArray] w fun e w' => ∃ v,e = .returned v∧(v = .bool r∧St A N w w' [] []):=by
 unfold term_right_1.g at H
 refine zA (n:=6) fn_term_right_1 rfl rfl (by simp) (zd (za ?_))
 refine z7 rfl (by decide) fun b2 w1 hw1=>?_
 replace S:=S.new hw1
 refine wd (zm rfl) (zb (zd (za (wd (zo zO rfl ((S.blk 0).all _ (Term.len _)) (Term.len _)) ?_))))
 obtain ⟨r3,er3,H⟩ := zq H
 obtain ⟨B5,MB5,SB5,back⟩ := S.calln 0 ((.z 0 rfl .nil))
 refine zu (zp ca_term_right) (by decide) (hrec_term_right (a0:=a0) SB5 er3) ?_
 rintro _ w4 ⟨rfl,S2⟩
 replace S:=back _ _ _ _ S2 rfl
 clear back S2 SB5
 refine wd (xk rfl) (wd (zm rfl) (zb (zx ?_)))
 refine ⟨_,(zV (zg rfl)),?_⟩
 replace S:=S.arr [] []
 obtain rfl:=Option.some.inj H
 exact ⟨rfl,S⟩
theorem vr {rec_term_right:PTerm→Option Bool} (hrec_term_right : ∀ {A:Nat→Prop} {N:Oth} {w:World} {a0:PTerm} {s_0:SlV} (S:St A N w w [] [zy s_0 a0.sub]) {r:Bool} (H:rec_term_right a0=some r),Calls PP vT #[.agg (Term.C (⟨a0.kind,a0.name,a0.other,a0.form,s_0⟩ : Term)).toArray] w fun e w' => ∃ v,e = .returned v∧(v = .bool r∧St A N w w' [] [])) {A:Nat→Prop} {N:Oth} {w:World} {a0:List PTerm} {s_0:SlV} (S:St A N w w [] [zy s_0 a0]) {r:Int} (H:slices_IndexFunc_api_Term_api_Term__term_right_1.g rec_term_right a0=some r) :
  Calls PP vo #[s_0.v,.func (.func kx) #[] #[]] w fun e w' => ∃ v,e = .returned v∧(v = .int .i64 r∧St A N w w' [] []):=by
 unfold slices_IndexFunc_api_Term_api_Term__term_right_1.g at H
 refine zA (n:=19) jr rfl rfl (by simp) (zd (za (wd (zh rfl) (zb (zd (zd (za (wd (zz rfl) ?_))))))))
 refine wd (does_lenF zY rfl (S.onZ 0)) (wd (zf rfl) (zb ?_))
 obtain ⟨o1,e1,Ho1⟩ := zq H
 clear H
 refine xY [4,5,8,9,10,11,12,13,14,15,16,17,18] (fun fr W => ∃ s1:Unit,o1 = .inl s1∧St A N w W [] [zy s_0 a0]) ?_ ?_
 ·refine zQ ?_
  refine xW (α:=Nat × Int × Unit) [4,5,8,9,10,11,12,13,14,15,16,17,18] (fun x fr W=>(x.1:Int)=(a0.length:Int) - x.2.1∧0 ≤ x.2.1∧forN (fun i s=>slices_IndexFunc_api_Term_api_Term__term_right_1.b0 rec_term_right a0 i) x.1 x.2.1 x.2.2=some o1∧fr 8 = .int .i64 x.2.1∧St A N w W [] [zy s_0 a0]) (fun x=>x.1) (((a0.length:Int) - 0).toNat,0,()) ⟨(by dsimp only; have hle:=Int.natCast_nonneg (a0.length); omega),(Int.le_refl _),(by dsimp only; exact e1),rfl,S⟩ ?_
  rintro ⟨m1,i1,_⟩ g1 u1 ⟨hm1,hl1,e1,q1_i,S⟩
  try dsimp only at hm1
  try dsimp only at hl1
  try dsimp only at e1
  try dsimp only at S
  try dsimp only at q1_i
  refine zd (za (wd (xM q1_i rfl) (zb (zd ?_))))
  refine zH rfl (fun hc2=>?_) (fun hc2=>?_)
  rotate_left
  ·refine yn ?_
   have hge:(a0.length:Int) ≤ i1:=Int.not_lt.1 (of_decide_eq_false hc2)
   obtain rfl:m1=0:=by omega
   replace e1:=jy e1
   exact ⟨rfl,((Dif.self _ _ _).upd rfl _),(),e1,S⟩
  refine zB ?_
  have hlt1:i1 < (a0.length:Int):=of_decide_eq_true hc2
  obtain ⟨m1,rfl⟩ : ∃ m,m1=m + 1:=⟨m1 - 1,by omega⟩
  obtain ⟨q1,H,e1⟩ := jC e1
  unfold slices_IndexFunc_api_Term_api_Term__term_right_1.b0 at H
  try dsimp only at H
  have hb1:=(S.lenFZ 0)
  refine zd ?_
  refine zQ (zd (za (wd (zf q1_i) (wd (zh rfl) (zb (zd (za ?_)))))))
  refine wd (zaH rfl) (wd (zz rfl) (wd (zf rfl) (wd (does_indexF zY rfl rfl (S.onZ 0) (And.intro (show 0 ≤ i1 by omega) (show i1 < (a0.length:Int) from hlt1)).1 (And.intro (show 0 ≤ i1 by omega) (show i1 < (a0.length:Int) from hlt1)).2) ?_)))
  obtain ⟨s4,hc5,S⟩ := S.viewTerm 0 (And.intro (show 0 ≤ i1 by omega) (show i1 < (a0.length:Int) from hlt1))
  replace S:=S
  refine wd (zo zO rfl hc5 (Term.len _)) ?_
  obtain ⟨r6,er6,H⟩ := zq H
  obtain ⟨B8,MB8,SB8,back⟩ := S.calln 0 ((.z 0 rfl .nil))
  refine zu (kK ca_term_right_1 rfl) (by decide) (term_right_1_gst hrec_term_right (a0:=(at_ PTerm.z a0 i1)) SB8 er6) ?_
  rintro _ w7 ⟨rfl,S2⟩
  replace S:=back _ _ _ _ S2 rfl
  clear back S2 SB8
  refine zb ?_
  refine zH rfl (fun hc9=>?_) (fun hc9=>?_)
  ·replace H:=if_t hc9 H
   refine zd (za (wd (zf rfl) (wd (zh rfl) (zb (zx ?_)))))
   refine ⟨_,(zV (zg rfl)),?_⟩
   replace S:=S.arr [] []
   obtain rfl:=Option.some.inj H
   obtain rfl:=e1
   obtain rfl:=uG Ho1
   exact ⟨rfl,S⟩
  replace H:=if_f hc9 H
  refine zB (za (wd (xI q1_i rfl (c:=i1 + 1) rfl (by omega) (by omega)) (wd (zf rfl) (zb ?_))))
  replace S:=S.arr [] [1]
  obtain rfl:=Option.some.inj H
  exact ⟨rfl,((((((((((((Dif.self _ _ _).upd rfl _).upd rfl _).upd rfl _).upd rfl _).upd rfl _).upd rfl _).upd rfl _).upd rfl _).upd rfl _).upd rfl _).upd rfl _),(m1,i1 + 1,()),⟨(by dsimp only; omega),(by dsimp only; omega),e1,rfl,S⟩,by dsimp only; omega⟩
 rintro g10 u11 ⟨s1,rfl,S⟩
 have H:=Ho1
 dsimp only [aft] at H
 refine zd (za (wd (zh rfl) (zb (zx ?_))))
 refine ⟨_,(zV (zg rfl)),?_⟩
 replace S:=S.arr [] []
 obtain rfl:=Option.some.inj H
 exact ⟨rfl,S⟩
theorem vh {rec_term_right:PTerm→Option Bool} (hrec_term_right : ∀ {A:Nat→Prop} {N:Oth} {w:World} {a0:PTerm} {s_0:SlV} (S:St A N w w [] [zy s_0 a0.sub]) {r:Bool} (H:rec_term_right a0=some r),Calls PP vT #[.agg (Term.C (⟨a0.kind,a0.name,a0.other,a0.form,s_0⟩ : Term)).toArray] w fun e w' => ∃ v,e = .returned v∧(v = .bool r∧St A N w w' [] [])) {A:Nat→Prop} {N:Oth} {w:World} {a0:List PTerm} {s_0:SlV} (S:St A N w w [] [zy s_0 a0]) {r:Bool} (H:slices_ContainsFunc_api_Term_api_Term__term_right_1.g rec_term_right a0=some r) :
  Calls PP vd #[s_0.v,.func (.func kx) #[] #[]] w fun e w' => ∃ v,e = .returned v∧(v = .bool r∧St A N w w' [] []):=by
 unfold slices_ContainsFunc_api_Term_api_Term__term_right_1.g at H
 refine zA (n:=9) uQ rfl rfl (by simp) (zd (za (wd (zm rfl) (zb (zd (za (wd (zz rfl) ?_)))))))
 refine wd (zaH rfl) ?_
 obtain ⟨r1,er1,H⟩ := zq H
 obtain ⟨B3,MB3,SB3,back⟩ := S.calln 0 ((.z 0 rfl .nil))
 refine zu (zp jq) (by decide) (vr hrec_term_right SB3 er1) ?_
 rintro _ w2 ⟨rfl,S2⟩
 replace S:=back _ _ _ _ S2 rfl
 clear back S2 SB3
 refine wd (vq rfl rfl) (wd (zm rfl) (zb (zx ?_)))
 refine ⟨_,(zV (zg rfl)),?_⟩
 replace S:=S.arr [] []
 obtain rfl:=Option.some.inj H
 exact ⟨rfl,S⟩
theorem term_right_gst {rec_term_right:PTerm→Option Bool} (hrec_term_right : ∀ {A:Nat→Prop} {N:Oth} {w:World} {a0:PTerm} {s_0:SlV} (S:St A N w w [] [zy s_0 a0.sub]) {r:Bool} (H:rec_term_right a0=some r),Calls PP vT #[.agg (Term.C (⟨a0.kind,a0.name,a0.other,a0.form,s_0⟩ : Term)).toArray] w fun e w' => ∃ v,e = .returned v∧(v = .bool r∧St A N w w' [] [])) {A:Nat→Prop} {N:Oth} {w:World} {a0:PTerm} {s_0:SlV} (S:St A N w w [] [zy s_0 a0.sub]) {r:Bool} (H:term_right.g rec_term_right a0=some r) :
  Calls PP vT #[.agg (Term.C (⟨a0.kind,a0.name,a0.other,a0.form,s_0⟩ : Term)).toArray] w fun e w' => ∃ v,e = .returned v∧(v = .bool r∧St A N w w' [] []):=by
 unfold term_right.g at H
 refine zA (n:=60) fn_term_right rfl rfl (by simp) (zd (za ?_))
 refine z7 rfl (by decide) fun b2 w1 hw1=>?_
 replace S:=S.new hw1
 refine wd (zm rfl) (zb (zd (za (wd (ze vZ rfl (o':=0) rfl) (wd (zi y3 rfl ((S.blk 0).cell (Term.get_kind _))) ?_)))))
 obtain ⟨r3,er3,H⟩ := zq H
 obtain ⟨B5,MB5,SB5,back⟩ := S.calln 0 ((.nil))
 refine zu (zp ca_term_shape) (by decide) (term_shape_st SB5 er3) ?_
 rintro _ w4 ⟨rfl,S2⟩
 replace S:=back _ _ _ _ S2 rfl
 clear back S2 SB5
 refine wd (z1 rfl) (wd (zr rfl rfl) (wd (zr rfl rfl) (wd (zr rfl rfl) (wd (zr rfl rfl) (wd (zh rfl) ?_)))))
 refine wd (zm rfl) (wd (zm rfl) (wd (zm rfl) (zb (zd (zd (za (wd (zE rfl) ?_)))))))
 refine wd (xk rfl) (wd (zE rfl) ?_)
 refine wg (fun hg=>ze xt rfl (o':=4) rfl) ?_
 refine wg (fun hg=>zi xl (zl hg) ((S.blk 0).cell (Term.get_sub _))) ?_
 refine wg (fun hg=>does_lenF zY (zl hg) (S.onZ 0)) ?_
 refine wg (fun hg=>zf rfl) ?_
 refine wg (fun hg=>xh (zl hg) (zl hg)) (wd (xw rfl (fun hp=>(zl (xn hp)))) (wd (zE rfl) ?_))
 refine wg (fun hg=>ze yI rfl (o':=1) rfl) ?_
 refine wg (fun hg=>zi xv (zl hg) ((S.blk 0).cell (Term.get_name _))) ?_
 refine wg (fun hg=>zE rfl) ?_
 obtain ⟨r6,er6,H⟩ := zq H
 refine yp (j:=9) (pol:=false) rfl rfl rfl (by decide) (fun hg=>zP ca_term_named (zS (zl hg) (zS (zl hg) rfl))) (by decide) (fun hg=>(have ⟨M,SS⟩ := S.lend ((.nil)); quiet (term_named_st SS (if_t (by simpa using hg) er6)) (fun v w' h=>⟨h.1,_,_,h.2⟩))) fun w7 hw7=>?_
 replace S:=S.ext hw7
 refine wg (fun hg=>xk (zl hg)) (wd (xw rfl (fun hp=>(zl (xn hp)))) (wd (zE rfl) ?_))
 refine wg (fun hg=>ze ue rfl (o':=2) rfl) ?_
 refine wg (fun hg=>zi xv (zl hg) ((S.blk 0).cell (Term.get_other _))) ?_
 refine wg (fun hg=>zE rfl) ?_
 obtain ⟨r8,er8,H⟩ := zq H
 refine yp (j:=16) (pol:=false) rfl rfl rfl (by decide) (fun hg=>zP ca_term_named (zS (zl hg) (zS (zl hg) rfl))) (by decide) (fun hg=>(have ⟨M,SS⟩ := S.lend ((.nil)); quiet (term_named_st SS (if_t (by simpa using hg) er8)) (fun v w' h=>⟨h.1,_,_,h.2⟩))) fun w9 hw9=>?_
 replace S:=S.ext hw9
 refine wg (fun hg=>xk (zl hg)) (wd (xw rfl (fun hp=>(zl (xn hp)))) (zb ?_))
 refine zH rfl (fun hc10=>?_) (fun hc10=>?_)
 ·replace H:=if_t hc10 H
  refine zd (za (wd (zm rfl) (zb (zx ?_))))
  refine ⟨_,(zV (zg rfl)),?_⟩
  replace S:=S.arr [] []
  obtain rfl:=Option.some.inj H
  exact ⟨rfl,S⟩
 replace H:=if_f hc10 H
 refine zB (zd (zd (za (wd (ze vZ rfl (o':=0) rfl) (wd (zi y3 rfl ((S.blk 0).cell (Term.get_kind _))) (wd (xh rfl rfl) (wd (zE rfl) ?_)))))))
 refine wg (fun hg=>ze vw rfl (o':=3) rfl) ?_
 refine wg (fun hg=>zi zJ (zl hg) ((S.blk 0).cell (Term.get_form _))) ?_
 refine wg (fun hg=>xh (zl hg) rfl) (wd (xc rfl (fun hp=>(zl (xn hp)))) (wd (zE rfl) ?_))
 refine wg (fun hg=>ze vw rfl (o':=3) rfl) ?_
 refine wg (fun hg=>zi zJ (zl hg) ((S.blk 0).cell (Term.get_form _))) ?_
 refine wg (fun hg=>xM (zl hg) rfl) (wd (xw rfl (fun hp=>(zl (xn hp)))) (wd (zE rfl) ?_))
 refine wg (fun hg=>ze vw rfl (o':=3) rfl) ?_
 refine wg (fun hg=>zi zJ (zl hg) ((S.blk 0).cell (Term.get_form _))) ?_
 refine wg (fun hg=>vq (zl hg) rfl) (wd (xw rfl (fun hp=>(zl (xn hp)))) (zb ?_))
 refine zH rfl (fun hc11=>?_) (fun hc11=>?_)
 ·replace H:=if_t hc11 H
  refine zd (za (wd (zm rfl) (zb (zx ?_))))
  refine ⟨_,(zV (zg rfl)),?_⟩
  replace S:=S.arr [] []
  obtain rfl:=Option.some.inj H
  exact ⟨rfl,S⟩
 replace H:=if_f hc11 H
 refine zB (zd (za (wd (ze xt rfl (o':=4) rfl) (wd (zi xl rfl ((S.blk 0).cell (Term.get_sub _))) ?_))))
 obtain ⟨r12,er12,H⟩ := zq H
 obtain ⟨B14,MB14,SB14,back⟩ := S.calln 0 ((.z 0 rfl .nil))
 refine zu (zp uP) (by decide) (vh hrec_term_right SB14 er12) ?_
 rintro _ w13 ⟨rfl,S2⟩
 replace S:=back _ _ _ _ S2 rfl
 clear back S2 SB14
 refine wd (xk rfl) (wd (zm rfl) (zb (zx ?_)))
 refine ⟨_,(zV (zg rfl)),?_⟩
 replace S:=S.arr [] []
 obtain rfl:=Option.some.inj H
 exact ⟨rfl,S⟩
theorem term_right_st {A:Nat→Prop} {N:Oth} {w:World} {a0:PTerm} {s_0:SlV} (S:St A N w w [] [zy s_0 a0.sub]) {k:Nat} {r:Bool} (H:term_right.f k a0=some r) :
  Calls PP vT #[.agg (Term.C (⟨a0.kind,a0.name,a0.other,a0.form,s_0⟩ : Term)).toArray] w fun e w' => ∃ v,e = .returned v∧(v = .bool r∧St A N w w' [] []):=by
 have main : ∀ (k:Nat) {A:Nat→Prop} {N:Oth} {w:World} {a0:PTerm} {s_0:SlV} (S:St A N w w [] [zy s_0 a0.sub]) {r:Bool} (H:term_right.f k a0=some r),Calls PP vT #[.agg (Term.C (⟨a0.kind,a0.name,a0.other,a0.form,s_0⟩ : Term)).toArray] w fun e w' => ∃ v,e = .returned v∧(v = .bool r∧St A N w w' [] []):=by
  intro k
  induction k with
  | zero=>intro A N w a0 s_0 S r H; cases H
  | succ k ih=>intro A N w a0 s_0 S r H; exact term_right_gst ih S H
 exact main k S H
theorem term_Check_st {A:Nat→Prop} {N:Oth} {w:World} {a0:PTerm} {s_0:SlV} (S:St A N w w [] [zy s_0 a0.sub]) {k:Nat} {r:Int} (H:term_Check.f k a0=some r) :
  Calls PP F_term_Check #[.agg (Term.C (⟨a0.kind,a0.name,a0.other,a0.form,s_0⟩ : Term)).toArray] w fun e w' => ∃ v,e = .returned v∧(v = .int .i64 r∧St A N w w' [] []):=by
 unfold term_Check.f at H
 refine zA (n:=16) fn_term_Check rfl rfl (by simp) (zd (za ?_))
 refine z7 rfl (by decide) fun b2 w1 hw1=>?_
 replace S:=S.new hw1
 refine wd (zh rfl) (zb (zd ?_))
 refine zQ (zd (za (wd (zo zO rfl ((S.blk 0).all _ (Term.len _)) (Term.len _)) ?_)))
 obtain ⟨r3,er3,H⟩ := zq H
 obtain ⟨B5,MB5,SB5,back⟩ := S.calln 0 ((.z 0 rfl .nil))
 refine zu (zp ca_term_Size) (by decide) (term_Size_st (a0:=a0) SB5 er3) ?_
 rintro _ w4 ⟨rfl,S2⟩
 replace S:=back _ _ _ _ S2 rfl
 clear back S2 SB5
 refine wd (kX rfl rfl) (wd (zE rfl) ?_)
 refine wg (fun hg=>zo zO rfl ((S.blk 0).all _ (Term.len _)) (Term.len _)) ?_
 obtain ⟨r6,er6,H⟩ := zq H
 refine yp (j:=3) (pol:=false) rfl rfl rfl (by decide) (fun hg=>zP ca_term_Deep (zS (zl hg) rfl)) (by decide) (fun hg=>(have ⟨M,SS⟩ := S.lend ((.z 0 rfl .nil)); quiet (term_Deep_st (a0:=a0) SS (if_t (by simpa using hg) er6)) (fun v w' h=>⟨h.1,_,_,h.2⟩))) fun w7 hw7=>?_
 replace S:=S.ext hw7
 refine wg (fun hg=>kX (zl hg) rfl) (wd (xw rfl (fun hp=>(zl (xn hp)))) (wd (zm rfl) (zb ?_)))
 refine zH rfl (fun hc8=>?_) (fun hc8=>?_)
 ·replace H:=if_t hc8 H
  refine zd (za (wd (zh rfl) (zb (zx ?_))))
  refine ⟨_,(zV (zg rfl)),?_⟩
  replace S:=S.arr [] []
  obtain rfl:=Option.some.inj H
  exact ⟨rfl,S⟩
 replace H:=if_f hc8 H
 refine zd (za (wd (zo zO rfl ((S.blk 0).all _ (Term.len _)) (Term.len _)) ?_))
 obtain ⟨r9,er9,H⟩ := zq H
 obtain ⟨B11,MB11,SB11,back⟩ := S.calln 0 ((.z 0 rfl .nil))
 refine zu (zp ca_term_right) (by decide) (term_right_st (a0:=a0) SB11 er9) ?_
 rintro _ w10 ⟨rfl,S2⟩
 replace S:=back _ _ _ _ S2 rfl
 clear back S2 SB11
 refine wd (xk rfl) (wd (zm rfl) (zb ?_))
 refine zH rfl (fun hc12=>?_) (fun hc12=>?_)
 ·replace H:=if_t hc12 H
  refine zd (za (wd (zh rfl) (zb (zx ?_))))
  refine ⟨_,(zV (zg rfl)),?_⟩
  replace S:=S.arr [] []
  obtain rfl:=Option.some.inj H
  exact ⟨rfl,S⟩
 replace H:=if_f hc12 H
 refine zB (zd (za (wd (zh rfl) (zb (zx ?_)))))
 refine ⟨_,(zV (zg rfl)),?_⟩
 replace S:=S.arr [] []
 obtain rfl:=Option.some.inj H
 exact ⟨rfl,S⟩
end Go.Proofs.YtflieamjacclnaaGreatDoor
end
section
namespace Go.Proofs.YtflieamjacclnaaGreatDoor
open Gw Go.RowKit
set_option maxHeartbeats 4000000
set_option maxRecDepth 20000
theorem types_at_st {A:Nat→Prop} {N:Oth} {w:World} {a0:Int} {a1:Option (Int × List Int)} {v_1:Value} (S:St A N w w [oE v_1 a1] [oEt]) {r:(Option (Int × List Int))} (H:types_at.f a0 a1=some r) :
  Calls PP F_types_at #[.int .i64 a0,v_1] w fun e w' => ∃ v,e = .returned v∧(∃ vo0:Value,v=vo0∧St A N w w' [oE vo0 r] []):=by
 unfold types_at.f at H
 refine zA (n:=20) fn_types_at rfl rfl (by simp) ?_
 rcases a1 with _ | ⟨c0,up0⟩
 ·obtain rfl:=S.seeE 0
  replace S:=S
  refine zd (za (wd (zL rfl) (zb (zd (za ?_)))))
  refine xe uA (by decide) fun b2 w1 hw1=>?_
  replace S:=S.new hw1
  refine zb (zd (zd (za (wd (xf rfl) (wd (does_mkIface (by kernel_rfl) rfl) ?_)))))
  refine zu (zP zaC (zS rfl (zS rfl rfl))) (by decide) (errors_As_no _ _) ?_
  rintro _ w3 ⟨rfl,hx⟩
  replace S:=S.ext hx
  clear hx
  refine zb ?_
  refine kj rfl (zB (zd (za (wd (xf rfl) (wd (zL rfl) (zb (zx ?_)))))))
  refine ⟨_,(zV (zg rfl)),?_⟩
  replace S:=S.arr [1] []
  obtain rfl:=Option.some.inj H
  exact ⟨.nilIface,rfl,S⟩
 ·obtain ⟨b0,s0,rfl,S⟩ := S.openE 0
  replace S:=S
  refine zd (za (wd (zL rfl) (zb (zd (za ?_)))))
  refine xe uA (by decide) fun b6 w5 hw5=>?_
  replace S:=S.new hw5
  refine zb (zd (zd (za (wd (xf rfl) (wd (does_mkIface (by kernel_rfl) rfl) ?_)))))
  refine zu (zP zaC (zS rfl (zS rfl rfl))) (by decide) (errors_As_yes _ (S.et 0) (S.blk 0)) ?_
  rintro _ w7 ⟨rfl,hc,hb⟩
  replace S:=S.store 0 hb hc
  clear hc hb
  refine zb ?_
  refine zby rfl ?_
  obtain ⟨ha9,H⟩ := xi H
  have ha9:=of_decide_eq_true ha9
  have hSO:=S.sl 2
  have hSlt:=hSO.lt
  have SH : ∀ v,Chg s0.fp w7 v→St A (N.or s0.fp) w v [oB b6 T_P_types_refusal [.pointer (some ⟨b0,0,none⟩)],oB b0 zaE (Refusal.C (⟨c0,s0⟩ : Refusal))] [oEt]:=fun v hc=>S.away 2 (hc:=hc)
  refine wc_draw 8 ⟨fun L v=>Chg s0.fp w7 v∧(L 7=false→Ext w7 v),fun L a b=>Chg s0.fp a b∧(L 7=true→Ext a b),fun i v u=>match i with
   | 0=>v=Value.pointer (some ⟨b0,0,none⟩)
   | 1=>v=Value.pointer (some ⟨b0,0,none⟩)
   | 2=>v=Value.pointer (some ⟨b0,0,none⟩)
   | 3=>v=Value.pointer (some ⟨b0,1,none⟩)
   | 4=>v=s0.v
   | 5=>v=Value.int .i64 a0
   | 6 => ∃ b sl,v=SlV.v sl∧sl=⟨some ⟨b,0,none⟩,1,1⟩ ∧ Blk u b xS (IC a0)∧¬ s0.fp b
   | 7 => ∃ s',v=SlV.v s'∧Own u 0 xS 1 s' ((up0 ++ [a0]).map IC) ∧ ∀ i,s'.fp i→s0.fp i∨w7.heap.size ≤ i
   | _=>True⟩ hmix (by kernel_rfl) ?_ ⟨(Ext.drawn _).mono (fun _ _ x=>x.elim),fun _=>Ext.drawn _⟩ ⟨?_,?_,?_,?_,?_,?_,?_,?_,trivial⟩ ?_
  ·intro L i v a b hLi hle hv
   match i,hLi,hv with
   | 0,_,hv=>exact hv
   | 1,_,hv=>exact hv
   | 2,_,hv=>exact hv
   | 3,_,hv=>exact hv
   | 4,_,hv=>exact hv
   | 5,_,hv=>exact hv
   | 6,_,⟨b,sl,e1,e2,hb,hn⟩ => exact ⟨b,sl,e1,e2,hb.chg hle.1 hn,hn⟩
   | 7,hLi,⟨s',e1,ho,hg⟩ => exact ⟨s',e1,ho.ext (hle.2 hLi),hg⟩
   | _ + 8,_,_=>exact trivial
  ·rintro L g v hL hT 
   refine wd (zi vL rfl (((SH v hT.1).blk 0).cell rfl)) (zb (ob ⟨hT.1,fun h=>hT.2 h⟩ ⟨Chg.refl _ _,fun _=>Ext.refl _⟩ rfl))
  ·rintro L g v hL hT 
   refine wd (zi vL rfl (((SH v hT.1).blk 0).cell rfl)) (zb (ob ⟨hT.1,fun h=>hT.2 h⟩ ⟨Chg.refl _ _,fun _=>Ext.refl _⟩ rfl))
  ·rintro L g v hL hT hv1
   refine wd (zw hv1) (zb (ob ⟨hT.1,fun h=>hT.2 h⟩ ⟨Chg.refl _ _,fun _=>Ext.refl _⟩ rfl))
  ·rintro L g v hL hT hv2
   refine wd (ze kg hv2 (o':=1) rfl) (zb (ob ⟨hT.1,fun h=>hT.2 h⟩ ⟨Chg.refl _ _,fun _=>Ext.refl _⟩ rfl))
  ·rintro L g v hL hT hv3
   refine wd (zi on_L_int hv3 (((SH v hT.1).blk 1).cell (Refusal.get_up_ _))) (zb (ob ⟨hT.1,fun h=>hT.2 h⟩ ⟨Chg.refl _ _,fun _=>Ext.refl _⟩ rfl))
  ·rintro L g v hL hT 
   refine wd (zf rfl) (zb (ob ⟨hT.1,fun h=>hT.2 h⟩ ⟨Chg.refl _ _,fun _=>Ext.refl _⟩ rfl))
  ·rintro L g v hL hT hv5
   refine wl_lit1 xx zar.zero hv5 rfl rfl (by decide) (by decide) fun b v' sl hn hq=>zb (ob ⟨hT.1.thenExt hn.ext,fun h=>(hT.2 h).trans hn.ext⟩ ⟨hn.ext.mono (fun _ _ x=>x.elim),fun _=>hn.ext⟩ ⟨b,sl,rfl,hq,hn.blk,fun e=>by have:=hSlt _ e; have:=hn.at_; have:=hT.1.size; omega⟩)
  ·rintro L g v hL hT hv4 ⟨b,sl,hv6,hq,hb,hnb⟩
   refine wl_push (C:=IC) xx zar hv4 hv6 (hSO.ext (hT.2 hL)) hb hq rfl (fun v hv=>by rw [List.mem_singleton.1 hv]; rfl) ha9 (by omega) (by decide) fun s' v' ho hc hg=>zb (ob ⟨hT.1.trans hc,fun h=>(by cases h)⟩ ⟨hc,fun h=>(by rw [hL] at h; cases h)⟩ ⟨s',rfl,ho,fun i e=>(hg i e).imp id (fun h=>Nat.le_trans hT.1.size h)⟩)
  rintro L g w10 hLm hT hv12_0 hv12_1 hv12_2 hv12_3 hv12_4 hv12_5 ⟨b,sl,hv12_6,hq,hb,hnb⟩ ⟨s11,hv12_7,O,gO⟩
  replace S:=S.push 2 O (by rw [List.length_append,List.length_singleton]; omega) hT.1 gO
  clear O gO SH hSO hSlt
  refine wd (zw hv12_0) (wd (ze kg rfl (o':=1) rfl) ?_)
  refine yD on_L_int rfl hv12_7 (S.blk 2) (by rw [Refusal.len]; decide) (SlV.one _ _ rfl) (Refusal.set_up_ _ _) fun w13 B hw13 zw13=>?_
  replace S:=S.store 2 B hw13
  clear B
  refine zb (zd (za (wd (xf rfl) (wd (zL rfl) (zb (zx ?_))))))
  replace S:=((S.front 1).front 1).mkE
  refine ⟨_,(zV (zg rfl)),?_⟩
  replace S:=S.arr [0] []
  obtain rfl:=Option.some.inj H
  exact ⟨(.iface yd (.pointer (some ⟨b0,0,none⟩))),rfl,S⟩
theorem types_code_st {A:Nat→Prop} {N:Oth} {w:World} {a0:Option (Int × List Int)} {v_0:Value} (S:St A N w w [oE v_0 a0] [oEt]) {r:List Int × Int} (H:types_code.f a0=some r) :
  Calls PP F_types_code #[v_0] w fun e w' => ∃ v,e = .returned v∧(∃ so0:SlV,v = .tuple #[so0.v,.int .i64 r.2]∧St A N w w' [oS xS 1 IC so0 r.1] []):=by
 unfold types_code.f at H
 refine zA (n:=22) fn_types_code rfl rfl (by simp) ?_
 rcases a0 with _ | ⟨c0,up0⟩
 ·obtain rfl:=S.seeE 0
  replace S:=S
  refine zd (za (wd (xm) (wd (zh rfl) (zb (zd (za ?_))))))
  refine xe uA (by decide) fun b2 w1 hw1=>?_
  replace S:=S.new hw1
  refine zb (zd (zd (za (wd (xf rfl) (wd (does_mkIface (by kernel_rfl) rfl) ?_)))))
  refine zu (zP zaC (zS rfl (zS rfl rfl))) (by decide) (errors_As_no _ _) ?_
  rintro _ w3 ⟨rfl,hx⟩
  replace S:=S.ext hx
  clear hx
  refine wd (xk rfl) (zb ?_)
  refine zby rfl (zd (za (wd (xm) (wd (zh rfl) (zb (zx ?_))))))
  replace S:=S.nil xS 1 IC
  refine ⟨_,(xp (zg rfl) (zg rfl)),?_⟩
  replace S:=S.arr [0] []
  obtain rfl:=Option.some.inj H
  exact ⟨SlV.nil,rfl,S⟩
 ·obtain ⟨b0,s0,rfl,S⟩ := S.openE 0
  replace S:=S
  refine zd (za (wd (xm) (wd (zh rfl) (zb (zd (za ?_))))))
  refine xe uA (by decide) fun b6 w5 hw5=>?_
  replace S:=S.new hw5
  refine zb (zd (zd (za (wd (xf rfl) (wd (does_mkIface (by kernel_rfl) rfl) ?_)))))
  refine zu (zP zaC (zS rfl (zS rfl rfl))) (by decide) (errors_As_yes _ (S.et 0) (S.blk 0)) ?_
  rintro _ w7 ⟨rfl,hc,hb⟩
  replace S:=S.store 0 hb hc
  clear hc hb
  refine wd (xk rfl) (zb ?_)
  refine kj rfl (zB (zd (za (wd (zi vL rfl ((S.blk 0).cell rfl)) (wd (zw rfl) (wd (ze kg rfl (o':=1) rfl) ?_))))))
  refine wd (zi on_L_int rfl ((S.blk 1).cell (Refusal.get_up_ _))) ?_
  obtain ⟨r9,er9,H⟩ := zq H
  replace S:=S.front 2
  obtain ⟨B11,MB11,SB11,back⟩ := S.calln 1 ((.nil))
  refine zu (zp zbg) (by decide) (zbi SB11 er9) ?_
  rintro _ w10 ⟨rfl,S2⟩
  replace S:=back _ _ _ _ S2 rfl
  clear back S2 SB11
  refine zb (zd ?_)
  refine xL 9 (Ext w10) hmix (by kernel_rfl) (by kernel_rfl) (Ext.drawn _) (zt (fun v K=>zi vL rfl (((S.ext K).blk 1).cell rfl)) (zt (fun v K=>zw rfl) (zt (fun v K=>ze kg rfl (o':=1) rfl) (zt (fun v K=>zi on_L_int rfl (((S.ext K).blk 2).cell (Refusal.get_up_ _))) (zt (fun v K=>zi vL rfl (((S.ext K).blk 1).cell rfl)) ?_)))))
  refine zt (fun v K=>zw rfl) (zt (fun v K=>ze fl_Refusal_code rfl (o':=0) rfl) (zt (fun v K=>zi ya rfl (((S.ext K).blk 2).cell (Refusal.get_code _))) (zt (fun v K=>xD rfl) ?_)))
  refine yL fun w12 K=>?_
  replace S:=S.ext K
  clear K
  refine wd (zh rfl) (zb (zx ?_))
  refine ⟨_,(xp (zg rfl) (zg rfl)),?_⟩
  replace S:=S.arr [0] []
  obtain rfl:=Option.some.inj H
  exact ⟨s0,rfl,S⟩
end Go.Proofs.YtflieamjacclnaaGreatDoor
end
