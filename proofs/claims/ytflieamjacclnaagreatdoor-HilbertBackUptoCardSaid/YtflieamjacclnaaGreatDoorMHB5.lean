/- HilbertBack, where what it reads is of the bulk that the row names: the row's statement and its card. The package variables that the row lists read as the program lays them. Printed by card16.py, a program of mine. -/
import Derived.Test.YtflieamjacclnaaGreatDoorMHB4
import Derived.Test.YtflieamjacclnaaGreatDoorCards
import Derived.Test.YtflieamjacclnaaGreatDoorTie
import Derived.WalkKit
import Derived.ProofKit
import Derived.OpenShut
import Derived.Deep.DeepHandedRow
import Derived.Deep.Slices
import Derived.LaidHandle
import Derived.Lib.LaidTab
import Derived.Lib.TrailingZeros
import Derived.ChangeSame
set_option linter.unusedVariables false
set_option linter.unusedSimpArgs false
namespace Go.Proofs.YtflieamjacclnaaGreatDoor
section
open Gw
theorem zaa {σ ρ:Type} {b:Int→σ→Option (Stp σ ρ)} {p:Nat→Bool} {r:Nat→ρ} : ∀ (n i:Nat) (s:σ),(∀ j:Nat,i ≤ j→j < i + n→b j s=some (if p j then .ret (r j) else .go s))→forN b n i s=some (match (List.range' i n).find? p with | some j => .inr (r j) | none => .inl s)
 | 0,i,s,_=>rfl
 | n + 1,i,s,h=>by
  rw [forN,h i (Nat.le_refl _) zbd,List.range'_succ]
  cases hp:p i with
  | true=>simp [hp,List.find?_cons]
  | false =>
   have:=zaa n (i + 1) s fun j h1 h2=>h j zbd zbd
   simpa [hp,List.find?_cons] using this
abbrev nd (M:List Nd) (i:Int):Nd:=(jN M i).1
structure Wf (M:List Nd):Prop where
 len:M.length ≤ 1024
 nodup:M.Nodup
 kind : ∀ i:Int,inb i M.length=true→(nd M i).kind=1∨(nd M i).kind=2∨(nd M i).kind=3∨(nd M i).kind=4∨(nd M i).kind=5
 kids : ∀ i:Int,inb i M.length=true→(nd M i).kind=3∨(nd M i).kind=4∨(nd M i).kind=5→(0 ≤ (nd M i).l∧(nd M i).l < i)∧0 ≤ (nd M i).r∧(nd M i).r < i
 fits : ∀ (j:Nat) (n:Nd),M[j]? = some n→y6 (M.take j) n=0
theorem Wf.left {M:List Nd} (h:Wf M) {i:Int} (hi:inb i M.length=true) (hk:(nd M i).kind=3∨(nd M i).kind=4∨(nd M i).kind=5):inb (nd M i).l M.length=true:=by
 have h1:=h.kids i hi hk
 have h2:=zR hi
 simp only [inb,Bool.and_eq_true,decide_eq_true_eq]; omega
theorem Wf.right {M:List Nd} (h:Wf M) {i:Int} (hi:inb i M.length=true) (hk:(nd M i).kind=3∨(nd M i).kind=4∨(nd M i).kind=5):inb (nd M i).r M.length=true:=by
 have h1:=h.kids i hi hk
 have h2:=zR hi
 simp only [inb,Bool.and_eq_true,decide_eq_true_eq]; omega
theorem Wf.bare {M:List Nd} (h:Wf M) {i:Int} (hi:inb i M.length=true) (hk:(nd M i).kind=3∨(nd M i).kind=4∨(nd M i).kind=5):(nd M i).name=⟨#[]⟩ := by
 have h1:=zR hi
 have h2:i.toNat < M.length:=by omega
 have e:nd M i=M[i.toNat]:=by
  unfold nd jN vz
  rw [if_pos (by simp; omega)]
  simp [List.getD_eq_getElem?_getD,h2]
 have h3:=h.fits i.toNat _ (List.getElem?_eq_getElem h2)
 rw [← e] at h3
 unfold y6 at h3
 rw [if_neg zbd,if_neg zbd,if_pos hk] at h3
 split at h3
 ·simp at h3
 ·rename_i hh
  simp only [not_or,Decidable.not_not] at hh
  exact hh.1.1
theorem find_congr {α:Type} {p q:α→Bool} : ∀ {l:List α},(∀ x ∈ l,p x=q x)→l.find? p=l.find? q
 | [],_=>rfl
 | x :: l,h=>by
  rw [List.find?_cons,List.find?_cons,h x zbe,find_congr fun y hy=>h y (by simp [hy])]
theorem any_find {α:Type} {p:α→Bool} : ∀ (l:List α),l.any p=(l.find? p).isSome
 | []=>rfl
 | x :: l=>by
  rw [List.any_cons,List.find?_cons,any_find l]
  cases p x <;> rfl
theorem inb_nat (j n:Nat):inb (j:Int) n=decide (j < n):=by
 unfold inb
 rw [decide_eq_true (show 0 ≤ (j:Int) by omega),Bool.true_and,decide_eq_decide]
 omega
theorem wrap_small {n:Int} (h:0 ≤ n∧n < 9223372036854775808):IntKind.i64.wrap n=n:=by
 exact IntWalk.i64_in _ ⟨by omega,by omega⟩
theorem idx_find (n:Nd) : ∀ (N:List Nd) (s:Nat),(List.range' s N.length).find? (fun k=>decide (N.getD (k - s) Nd.z=n))=(N.idxOf? n).map (· + s)
 | [],s=>rfl
 | a :: N,s=>by
  rw [List.length_cons,List.range'_succ,List.find?_cons,List.idxOf?_cons]
  by_cases h:a=n
  ·simp [h]
  ·have h1:(a == n)=false:=by simpa using h
   have h2:(List.range' (s + 1) N.length).find? (fun k=>decide ((a :: N).getD (k - s) Nd.z=n))=(List.range' (s + 1) N.length).find? (fun k=>decide (N.getD (k - (s + 1)) Nd.z=n)):=find_congr fun k hk=>by
    have hk:=(List.mem_range'_1.1 hk).1
    rw [show k - s=(k - (s + 1)) + 1 by omega]; simp
   simp only [Nat.sub_self,List.getD_cons_zero,h,decide_false,h1,h2,idx_find n N (s + 1)]
   cases N.idxOf? n with
   | none=>rfl
   | some k=>simp; omega
theorem docFind (N:List Nd) (n:Nd):zbA.f (some N) n=some (match N.idxOf? n with | some k=>((k:Int),true) | none=>(0,false)):=by
 unfold zbA.f
 have h1:=zaa (b:=fun i s=>zbA.b0 (some N) n i) (p:=fun k=>decide (N.getD k Nd.z=n)) (r:=fun k=>((k:Int),true)) N.length 0 () (by
  intro k _ hk
  unfold zbA.b0 at_
  rw [Int.toNat_natCast,Option.getD_some]
  split <;> rfl)
 have e0:(((N.length:Nat):Int) - 0).toNat=N.length:=by omega
 simp only [Option.isSome_some,Option.getD_some,chk,if_true,e0]
 rw [show (0:Int)=((0:Nat):Int) from rfl,h1]
 have h2:=idx_find n N 0
 simp only [Nat.sub_zero,Nat.add_zero] at h2
 rw [h2]
 cases N.idxOf? n <;> rfl
theorem bind_eq {α β:Type} {x:Option α} {y:α} {f:α→Option β} {r:Option β} (hx:x=some y) (h:f y=r):x.bind f=r:=by rw [hx]; exact h
theorem docPut {N:List Nd} {n:Nd} (hN:N.length ≤ 1024) (hn:n.name.size < 9223372036854775808):zbB.f (some N) n=some (some (putS N n).1,(putS N n).2.1,(putS N n).2.2):=by
 have hrow : ∀ i:Int,zbz.f (some N) i=some (vz N i):=fun i=>by simp [zbz.f,chk,vz]
 have hend:((zbA.f (some N) n).bind fun r25=>if r25.2 then some (some N,r25.1,0) else chk (some N).isSome (if decide (1024 ≤ ((((some N).getD []).length:Nat):Int)) then some ((some ((some N).getD [])),0,30) else chk (decide ((((some N).getD []).length + 1) * 40 ≤ 140737488355328)) (some ((some (((some N).getD []) ++ [n])),IntKind.i64.wrap (((((some N).getD []) ++ [n]).length:Int) - 1),0)))) =
   (match N.idxOf? n with | some k=>some (some N,(k:Int),(0:Int)) | none=>if 1024 ≤ N.length then some (some N,0,30) else some (some (N ++ [n]),(N.length:Int),0)):=by
  rw [docFind]
  cases N.idxOf? n with
  | some k=>rfl
  | none =>
   simp only [Option.bind_some,Bool.false_eq_true,if_false,Option.isSome_some,Option.getD_some,chk,if_true,decide_eq_true_eq]
   by_cases h:1024 ≤ N.length
   ·have h1:(1024:Int) ≤ (N.length:Int):=by omega
    simp only [h,h1,if_true]
   ·have h1:¬ (1024:Int) ≤ (N.length:Int):=by omega
    have h2:(N.length + 1) * 40 ≤ 140737488355328:=by omega
    have h3:IntKind.i64.wrap (((N ++ [n]).length:Int) - 1)=(N.length:Int):=by
     rw [wrap_small (by simp; omega)]; simp
    simp only [h,h1,h2,h3,if_true,if_false]
 unfold zbB.f
 refine bind_eq (y:=if y6 N n=0 then .inl (some N) else .inr (some N,0,y6 N n)) ?_ ?_
 ·unfold y6
  simp only [hrow,zbn.f,hn,chk,decide_true,if_true,Option.bind_some]
  by_cases k1:n.kind=1
  ·simp only [k1,decide_true,if_true]
   by_cases hl:n.l=0
   ·by_cases hr:n.r=0
    ·by_cases hw:isWord n.name <;> simp [hl,hr,hw]
    ·simp [hl,hr]
   ·simp [hl]
  by_cases k2:n.kind=2
  ·have e:(n={ Nd.z with kind:=2 })↔(n.name=⟨#[]⟩ ∧ n.l=0∧n.r=0):=by
    constructor
    ·intro h; rw [h]; exact ⟨rfl,rfl,rfl⟩
    ·rintro ⟨h1,h2,h3⟩
     obtain ⟨a,b,c,d⟩ := n
     simp only at k2 h1 h2 h3
     subst k2 h1 h2 h3; rfl
   simp only [k2,decide_true,if_true,show ¬ ((2:Int)=1) by decide,decide_false,Bool.false_eq_true,if_false,e]
   by_cases hm:n.name=⟨#[]⟩
   ·by_cases hl:n.l=0
    ·by_cases hr:n.r=0 <;> simp [hm,hl,hr]
    ·simp [hm,hl]
   ·simp [hm]
  by_cases k3:n.kind=3∨n.kind=4∨n.kind=5
  ·have ho:((if decide (n.kind=3)=true then some (decide (n.kind=3)) else if decide (n.kind=4)=true then some (decide (n.kind=4)) else some (decide (n.kind=5))):Option Bool)=some true:=by
    rcases k3 with k | k | k <;> simp [k]
   simp only [k1,k2,k3,decide_false,Bool.false_eq_true,if_false,if_true]
   simp only [decide_eq_true_eq] at ho ⊢
   rw [ho]
   simp only [Option.bind_some,if_true]
   by_cases hm:n.name=⟨#[]⟩
   ·cases hl:vz N n.l with
    | false=>simp [hm,hl]
    | true=>cases hr:vz N n.r <;> simp [hm,hl,hr]
   ·simp [hm]
  ·have ho:((if decide (n.kind=3)=true then some (decide (n.kind=3)) else if decide (n.kind=4)=true then some (decide (n.kind=4)) else some (decide (n.kind=5))):Option Bool)=some false:=by
    simp only [not_or] at k3; simp [k3.1,k3.2.1,k3.2.2]
   simp only [k1,k2,k3,decide_false,Bool.false_eq_true,if_false,if_true]
   simp only [decide_eq_true_eq] at ho ⊢
   rw [ho]
   simp
 ·by_cases hf:y6 N n=0
  ·rw [if_pos hf]
   refine Eq.trans (show _=_ from hend) ?_
   unfold putS
   rw [if_pos hf]
   cases N.idxOf? n with
   | some k=>rfl
   | none =>
    by_cases h:1024 ≤ N.length
    ·simp only [if_pos h]
    ·simp only [if_neg h]
  ·rw [if_neg hf,put_bad hf]; rfl
theorem progPut {N:List Nd} {n:Nd} (hn:n.name.size < 9223372036854775808):zbl.f (some N) n=some (some (putS N n).1,(putS N n).2.1,(putS N n).2.2):=by
 simp [zbl.f,chk,hn]
theorem rows_take {M:List Nd} {i:Nat} (hi:i < M.length):at_ Nd.z M i=M[i]:=by
 unfold at_; rw [Int.toNat_natCast,List.getD_eq_getElem?_getD,List.getElem?_eq_getElem hi]; rfl
theorem wf_push {N:List Nd} {n:Nd} (h:Wf N) (hf:y6 N n=0) (hl:N.length < 1024) (hnew:n ∉ N):Wf (N ++ [n]):=by
 have hnd : ∀ i:Int,inb i N.length=true→nd (N ++ [n]) i=nd N i:=by
  intro i hi
  have h1:=zR hi
  unfold nd jN vz
  have h2:i.toNat < N.length:=by omega
  rw [if_pos (by simp; omega),if_pos (by simp; omega)]
  simp only
  rw [List.getD_eq_getElem?_getD,List.getElem?_append_left h2,← List.getD_eq_getElem?_getD]
 have hlast:nd (N ++ [n]) N.length=n:=by
  unfold nd jN vz
  rw [if_pos (by simp; omega)]
  simp
 have hsplit : ∀ i:Int,inb i (N ++ [n]).length=true→inb i N.length=true∨i=N.length:=by
  intro i hi
  have:=zR hi
  simp at this
  simp only [inb,Bool.and_eq_true,decide_eq_true_eq]; omega
 have hkind:n.kind=1∨n.kind=2∨n.kind=3∨n.kind=4∨n.kind=5:=by
  unfold y6 at hf
  by_cases k1:n.kind=1
  ·exact .inl k1
  by_cases k2:n.kind=2
  ·exact .inr (.inl k2)
  by_cases k3:n.kind=3∨n.kind=4∨n.kind=5
  ·exact .inr (.inr k3)
  ·simp [k1,k2,k3] at hf
 refine ⟨by simp; omega,by rw [List.nodup_append]; exact ⟨h.nodup,by simp,fun a ha b hb e=>hnew (by rw [← List.mem_singleton.1 hb,← e]; exact ha)⟩,fun i hi=>?_,fun i hi hk=>?_,fun j m hm=>?_⟩
 ·rcases hsplit i hi with h1 | rfl
  ·rw [hnd i h1]; exact h.kind i h1
  ·rw [hlast]; exact hkind
 ·rcases hsplit i hi with h1 | rfl
  ·rw [hnd i h1] at hk ⊢; exact h.kids i h1 hk
  ·rw [hlast] at hk ⊢
   unfold y6 at hf
   have k1:¬ n.kind=1:=by omega
   have k2:¬ n.kind=2:=by omega
   rw [if_neg k1,if_neg k2,if_pos hk] at hf
   split at hf
   ·simp at hf
   ·rename_i hh
    simp only [not_or,Bool.not_eq_false] at hh
    obtain ⟨⟨_,h1⟩,h2⟩ := hh
    simp only [vz,Bool.and_eq_true,decide_eq_true_eq] at h1 h2
    exact ⟨h1,h2⟩
 ·by_cases hj:j < N.length
  ·rw [List.getElem?_append_left hj] at hm
   rw [List.take_append_of_le_length zbd]; exact h.fits j m hm
  ·have hj2:j < (N ++ [n]).length:=(List.getElem?_eq_some_iff.1 hm).1
   have e:j=N.length:=by simp at hj2; omega
   subst e
   simp at hm
   subst hm
   simpa using hf
theorem from_some {rows:List Nd} (hn : ∀ n ∈ rows,n.name.size < 9223372036854775808) : ∃ r:Tb × Int,zbC.f rows=some r∧zby.f rows=some r∧(r.2=0→r.1=some rows∧Wf rows):=by
 have hstep : ∀ (N:List Nd) (i:Nat),i < rows.length→N.length ≤ 1024→zbC.b0 rows i (some N)=some (if (putS N (at_ Nd.z rows i)).2.2 ≠ 0 then .ret (none,(putS N (at_ Nd.z rows i)).2.2) else if (putS N (at_ Nd.z rows i)).2.1 ≠ i then .ret (none,31) else .go (some (putS N (at_ Nd.z rows i)).1)) ∧
   zby.b0 rows i (some N)=zbC.b0 rows i (some N):=by
  intro N i hi hN
  have hm:(at_ Nd.z rows i).name.size < 9223372036854775808:=by rw [rows_take hi]; exact hn _ (List.getElem_mem hi)
  have h1:zbC.b0 rows i (some N)=some (if (putS N (at_ Nd.z rows i)).2.2 ≠ 0 then .ret (none,(putS N (at_ Nd.z rows i)).2.2) else if (putS N (at_ Nd.z rows i)).2.1 ≠ i then .ret (none,31) else .go (some (putS N (at_ Nd.z rows i)).1)):=by
   unfold zbC.b0
   rw [docPut hN hm]
   simp only [Option.bind_some,decide_eq_true_eq]
   split
   ·rfl
   ·split <;> rfl
  refine ⟨h1,?_⟩
  rw [h1]
  unfold zby.b0
  rw [progPut hm]
  simp only [Option.bind_some]
  by_cases e:(putS N (at_ Nd.z rows i)).2.2=0
  ·by_cases e2:(putS N (at_ Nd.z rows i)).2.1=i
   ·simp [e,e2]
   ·simp [e,e2]
  ·simp [e]
 have main : ∀ (n i:Nat),i + n=rows.length→i ≤ 1024→Wf (rows.take i) → ∃ o,forN (fun j s=>zbC.b0 rows j s) n i (some (rows.take i))=some o∧forN (fun j s=>zby.b0 rows j s) n i (some (rows.take i))=some o ∧
   ((∃ e,e ≠ 0∧o = .inr (none,e))∨(o = .inl (some rows)∧Wf rows)):=by
  intro n
  induction n with
  | zero =>
   intro i hi _ hw
   rw [List.take_of_length_le zbd] at hw ⊢
   exact ⟨_,rfl,rfl,.inr ⟨rfl,hw⟩⟩
  | succ n ih =>
   intro i hi hle hw
   have hil:i < rows.length:=by omega
   have hlen:(rows.take i).length=i:=by simp; omega
   obtain ⟨h1,h2⟩ := hstep (rows.take i) i hil zbd
   simp only [forN]
   rw [h2,h1]
   by_cases e:(putS (rows.take i) (at_ Nd.z rows i)).2.2=0
   ·by_cases e2:(putS (rows.take i) (at_ Nd.z rows i)).2.1=i
    ·simp only [e,e2,ne_eq,not_true_eq_false,if_false,Option.bind_some]
     have hput:y6 (rows.take i) (at_ Nd.z rows i)=0∧i < 1024∧at_ Nd.z rows i ∉ rows.take i∧(putS (rows.take i) (at_ Nd.z rows i)).1=rows.take i ++ [at_ Nd.z rows i]:=by
      by_cases hf:y6 (rows.take i) (at_ Nd.z rows i)=0
      ·cases hk:(rows.take i).idxOf? (at_ Nd.z rows i) with
       | some k =>
        rw [put_old hf hk] at e2
        have:k < (rows.take i).length:=by
         have:=List.idxOf?_eq_some_iff.1 hk
         exact this.1
        simp only at e2; omega
       | none =>
        by_cases hl:1024 ≤ (rows.take i).length
        ·rw [put_full hf hk hl] at e; simp at e
        ·rw [put_new hf hk hl]
         exact ⟨hf,by omega,List.idxOf?_eq_none_iff.1 hk,rfl⟩
      ·rw [put_bad hf] at e; exact absurd e hf
     obtain ⟨hf,hlt,hnew,hp⟩ := hput
     have ht:rows.take i ++ [at_ Nd.z rows i]=rows.take (i + 1):=by
      rw [rows_take hil,List.take_succ_eq_append_getElem hil]
     rw [hp,ht]
     have:=ih (i + 1) zbd zbd (by rw [← ht]; exact wf_push hw hf zbd hnew)
     simpa using this
    ·simp only [e,e2,ne_eq,not_true_eq_false,not_false_eq_true,if_false,if_true,Option.bind_some]
     exact ⟨_,rfl,rfl,.inl ⟨31,by decide,rfl⟩⟩
   ·simp only [e,ne_eq,not_false_eq_true,if_true,Option.bind_some]
    exact ⟨_,rfl,rfl,.inl ⟨_,e,rfl⟩⟩
 have e0:(((rows.length:Nat):Int) - 0).toNat=rows.length:=by omega
 obtain ⟨o,h1,h2,h3⟩ := main rows.length 0 zbd zbd ⟨by simp,by simp,fun i hi=>absurd (zR hi) zbe,fun i hi=>absurd (zR hi) zbe,fun j n h=>by simp at h⟩
 unfold zbC.f zby.f zbo.f
 rw [e0]
 simp only [Option.bind_some]
 rw [show (0:Int)=((0:Nat):Int) from rfl]
 rw [List.take_zero] at h1 h2
 rw [h1,h2]
 rcases h3 with ⟨e,he,rfl⟩ | ⟨rfl,hw⟩
 ·exact ⟨_,rfl,rfl,fun q=>absurd q he⟩
 ·exact ⟨_,rfl,rfl,fun _=>⟨rfl,hw⟩⟩
theorem both_some {rows:List Nd} (hn : ∀ n ∈ rows,n.name.size < 9223372036854775808) (hl:rows.length * 40 ≤ 140737488355328):zbD.f rows=some (none,none,false)∨(zbD.f rows=some (some rows,some rows,true)∧Wf rows):=by
 obtain ⟨r,h1,h2,h3⟩ := from_some hn
 have hc:(([]:List Nd).length + rows.length) * 40 ≤ 140737488355328:=by rw [List.length_nil,Nat.zero_add]; exact hl
 unfold zbD.f
 rw [chk,if_pos (decide_eq_true hc),h1]
 simp only [Option.bind_some,List.nil_append,h2]
 by_cases e:r.2=0
 ·obtain ⟨h4,hw⟩ := h3 e
  exact .inr ⟨by rw [h4]; simp [e],hw⟩
 ·exact .inl (by simp [e])
end
section

end
section
open Gw
-- terms: nodes,levels,what is right
mutual
def depT:PTerm→Nat
 | .mk _ _ _ _ s=>1 + depL s
def depL:List PTerm→Nat
 | []=>0
 | x :: l=>max (depT x) (depL l)
end
def vj (k:Int):Int:=if k=1 then 0 else if k=9 then 3 else if k=3∨k=4∨k=12 then 2 else if k=2∨k=5∨k=6∨k=7∨k=8∨k=10∨k=11 then 1 else -1
def nodeR (x:PTerm):Bool :=
 decide (vj x.kind=x.sub.length) && (if x.kind=1∨x.kind=2∨x.kind=9∨x.kind=12 then decide (isWord x.name) else decide (x.name=⟨#[]⟩)) &&
  (if x.kind=9 then decide (isWord x.other) else decide (x.other=⟨#[]⟩)) && (if x.kind=11 then decide (0 ≤ x.form) && decide (x.form < 1024) else decide (x.form=0))
mutual
def rightT:PTerm→Bool
 | .mk k n o f s=>nodeR (.mk k n o f s) && rightL s
def rightL:List PTerm→Bool
 | []=>true
 | x :: l=>rightT x && rightL l
end
mutual
def nmT:PTerm→Prop
 | .mk _ n o _ s=>n.size < 9223372036854775808∧o.size < 9223372036854775808∧nmL s
def nmL:List PTerm→Prop
 | []=>True
 | x :: l=>nmT x∧nmL l
end
theorem depT_eq (x:PTerm):depT x=1 + depL x.sub:=by cases x; simp [depT,PTerm.sub]
theorem rightT_eq (x:PTerm):rightT x=(nodeR x && rightL x.sub):=by cases x; simp [rightT,PTerm.sub]
theorem nmT_eq (x:PTerm):nmT x↔x.name.size < 9223372036854775808∧x.other.size < 9223372036854775808∧nmL x.sub:=by cases x; simp [nmT,PTerm.sub,PTerm.name,PTerm.other]
theorem rightL_mem : ∀ {l:List PTerm},rightL l=true → ∀ x ∈ l,rightT x=true
 | [],_,_,h=>by simp at h
 | y :: l,h,x,hx=>by
  simp only [rightL,Bool.and_eq_true] at h
  rcases List.mem_cons.1 hx with rfl | hx
  ·exact h.1
  ·exact rightL_mem h.2 x hx
theorem nmL_mem : ∀ {l:List PTerm},nmL l → ∀ x ∈ l,nmT x
 | [],_,_,h=>by simp at h
 | y :: l,h,x,hx=>by
  simp only [nmL] at h
  rcases List.mem_cons.1 hx with rfl | hx
  ·exact h.1
  ·exact nmL_mem h.2 x hx
theorem depL_mem : ∀ {l:List PTerm},∀ x ∈ l,depT x ≤ depL l
 | [],_,h=>by simp at h
 | y :: l,x,hx=>by
  simp only [depL]
  rcases List.mem_cons.1 hx with rfl | hx
  ·omega
  ·have:=depL_mem x hx; omega
theorem at_mem {l:List PTerm} {i:Int} (h:0 ≤ i∧i < l.length):at_ PTerm.z l i ∈ l:=List.mem_of_getElem? (yo PTerm.z h)
inductive TR where
 | ok (f:Int)
 | no (c:Int) (way:List Int)
 deriving DecidableEq
namespace TR
def at_ (i:Int):TR→TR
 | ok f=>ok f
 | no c w=>no c (i :: w)
def bind (r:TR) (k:Int→TR):TR:=match r with
 | ok f=>k f
 | no c w=>no c w
def code:TR→Int
 | ok _=>0
 | no c _=>c
def way:TR→List Int
 | ok _=>[]
 | no _ w=>w
def form:TR→Int
 | ok f=>f
 | no _ _=>0
end TR
abbrev Sc:=List (ByteArray × Int)
def ofK (M:List Nd) (f k:Int) (g:Nd→TR):TR:=if (nd M f).kind=k then g (nd M f) else .no 130 []
def vd (M:List Nd) (P:Int→Sc→Option Int→TR) (s:Sc) (x:PTerm):TR :=
 if x.kind=1 then (match s.find? (fun q=>decide (q.1=x.name)) with | some q => .ok q.2 | none => .no 131 [])
 else if x.kind=3 then (P 0 s none).bind fun f=>ofK M f 5 fun n=>(P 1 s (some n.l)).bind fun _ => .ok n.r
 else if x.kind=5 then (P 0 s none).bind fun f=>ofK M f 3 fun n => .ok n.l
 else if x.kind=6 then (P 0 s none).bind fun f=>ofK M f 3 fun n => .ok n.r
 else if x.kind=11 then (if inb x.form M.length then (P 0 s (some x.form)).bind fun _ => .ok x.form else .no 31 [])
 else if x.kind=12 then (P 0 s none).bind fun f=>P 1 ((x.name,f) :: s) none
 else if x.kind=9 then (P 0 s none).bind fun f=>ofK M f 4 fun n=>(P 1 ((x.name,n.l) :: s) none).bind fun a=>(P 2 ((x.other,n.r) :: s) none).bind fun b=>if a=b then .ok a else .no 130 []
 else .no 132 []
def v6 (M:List Nd) (P:Int→Sc→Option Int→TR) (s:Sc) (x:PTerm) (id:Int):TR :=
 if x.kind=2 then ofK M id 5 fun n=>P 0 ((x.name,n.l) :: s) (some n.r)
 else if x.kind=4 then ofK M id 3 fun n=>(P 0 s (some n.l)).bind fun _=>P 1 s (some n.r)
 else if x.kind=7 then ofK M id 4 fun n=>P 0 s (some n.l)
 else if x.kind=8 then ofK M id 4 fun n=>P 0 s (some n.r)
 else if x.kind=9 then (P 0 s none).bind fun f=>ofK M f 4 fun n=>(P 1 ((x.name,n.l) :: s) (some id)).bind fun _=>P 2 ((x.other,n.r) :: s) (some id)
 else if x.kind=10 then (P 0 s none).bind fun f=>ofK M f 2 fun _ => .ok id
 else if x.kind=12 then (P 0 s none).bind fun f=>P 1 ((x.name,f) :: s) (some id)
 else (vd M P s x).bind fun f=>if f=id then .ok id else .no 130 []
def tyS (M:List Nd):Nat→PTerm→Sc→Option Int→TR
 | 0,_,_,_ => .no 132 []
 | k + 1,x,s,want =>
  let P:Int→Sc→Option Int→TR:=fun i s' w=>(tyS M k (at_ PTerm.z x.sub i) s' w).at_ i
  match want with
  | none=>vd M P s x
  | some id=>v6 M P s x id
theorem tyS_told (M:List Nd) (k:Nat) (x:PTerm) (s:Sc):tyS M (k + 1) x s none=vd M (fun i s' w=>(tyS M k (at_ PTerm.z x.sub i) s' w).at_ i) s x:=rfl
theorem tyS_chkd (M:List Nd) (k:Nat) (x:PTerm) (s:Sc) (id:Int):tyS M (k + 1) x s (some id)=v6 M (fun i s' w=>(tyS M k (at_ PTerm.z x.sub i) s' w).at_ i) s x id:=rfl
-- the way is no longer than the term is deep
theorem TR.way_at (i:Int) (r:TR):(r.at_ i).way.length ≤ r.way.length + 1:=by cases r <;> simp [TR.at_,TR.way]
theorem TR.way_bind {r:TR} {g:Int→TR} {n:Nat} (h:r.way.length ≤ n) (hg : ∀ f,(g f).way.length ≤ n):(r.bind g).way.length ≤ n:=by
 cases r with
 | ok f=>exact hg f
 | no c w=>exact h
theorem ofK_way {M:List Nd} {f k:Int} {g:Nd→TR} {n:Nat} (hg : ∀ m,(g m).way.length ≤ n):(ofK M f k g).way.length ≤ n:=by
 unfold ofK
 split
 ·exact hg _
 ·exact Nat.zero_le _
theorem toldS_way {M:List Nd} {P:Int→Sc→Option Int→TR} {n:Nat} (hP : ∀ i s w,(P i s w).way.length ≤ n) (s:Sc) (x:PTerm):(vd M P s x).way.length ≤ n:=by
 have h0 : ∀ f,(TR.ok f).way.length ≤ n:=fun f=>Nat.zero_le _
 have h1 : ∀ c,(TR.no c []).way.length ≤ n:=fun f=>Nat.zero_le _
 unfold vd
 repeat' split
 all_goals first
  | exact h0 _
  | exact h1 _
  | skip
 all_goals refine TR.way_bind (hP ..) fun f=>?_
 all_goals first
  | exact h0 _
  | exact hP ..
  | refine ofK_way fun m=>?_
 all_goals first
  | exact h0 _
  | refine TR.way_bind (hP ..) fun a=>?_
 all_goals first
  | exact h0 _
  | refine TR.way_bind (hP ..) fun b=>?_
 all_goals split
 all_goals first
  | exact h0 _
  | exact h1 _
theorem chkdS_way {M:List Nd} {P:Int→Sc→Option Int→TR} {n:Nat} (hP : ∀ i s w,(P i s w).way.length ≤ n) (s:Sc) (x:PTerm) (id:Int):(v6 M P s x id).way.length ≤ n:=by
 have h0 : ∀ f,(TR.ok f).way.length ≤ n:=fun f=>Nat.zero_le _
 have h1 : ∀ c,(TR.no c []).way.length ≤ n:=fun f=>Nat.zero_le _
 unfold v6
 split
 ·exact ofK_way fun m=>hP ..
 split
 ·exact ofK_way fun m=>TR.way_bind (hP ..) fun _=>hP ..
 split
 ·exact ofK_way fun m=>hP ..
 split
 ·exact ofK_way fun m=>hP ..
 split
 ·exact TR.way_bind (hP ..) fun f=>ofK_way fun m=>TR.way_bind (hP ..) fun _=>hP ..
 split
 ·exact TR.way_bind (hP ..) fun f=>ofK_way fun m=>h0 _
 split
 ·exact TR.way_bind (hP ..) fun f=>hP ..
 ·refine TR.way_bind (toldS_way hP s x) fun f=>?_
  split
  ·exact h0 _
  ·exact h1 _
theorem tyS_way {M:List Nd} : ∀ (k:Nat) (x:PTerm) (s:Sc) (w:Option Int),(tyS M k x s w).way.length ≤ k
 | 0,_,_,_=>by simp [tyS,TR.way]
 | k + 1,x,s,w=>by
  have hP : ∀ i s' w',((tyS M k (at_ PTerm.z x.sub i) s' w').at_ i).way.length ≤ k + 1:=fun i s' w'=>Nat.le_trans (TR.way_at _ _) (Nat.add_le_add_right (tyS_way k _ _ _) 1)
  cases w with
  | none=>exact toldS_way hP s x
  | some id=>exact chkdS_way hP s x id
-- what is refused has a number
theorem TR.at_ok {i:Int} {r:TR} {f:Int}:r.at_ i = .ok f↔r = .ok f:=by cases r <;> simp [TR.at_]
end
section
open Gw
theorem chk_t {α:Type} {b:Bool} {x:Option α} (h:b=true):chk b x=x:=by rw [chk,if_pos h]
theorem wrap_nat {n:Nat} (h:n < 9223372036854775808):IntKind.i64.wrap (n:Int)=n:=wrap_small ⟨by omega,by omega⟩
theorem iter_count {τ ρ:Type} {b:τ × Int→Option (Stp (τ × Int) ρ)} (g:Nat→τ) (n:Nat)
  (h : ∀ i,i < n→b (g i,(i:Int))=some (.go (g (i + 1),((i + 1:Nat):Int)))∨(b (g i,(i:Int))=some (.brk (g i,(i:Int)))∧g i=g n)) (he:b (g n,(n:Int))=some (.brk (g n,(n:Int)))) :
  ∀ (k i:Nat),i ≤ n→n - i < k → ∃ j:Int,iter b k (g i,(i:Int))=some (.inl (g n,j))
 | 0,i,_,hk=>by omega
 | k + 1,i,hi,hk=>by
  by_cases hin:i=n
  ·subst hin; exact ⟨(i:Int),by simp only [iter,he,Option.bind_some]⟩
  ·rcases h i zbd with h1 | ⟨h1,h2⟩
   ·obtain ⟨j,hj⟩ := iter_count g n h he k (i + 1) zbd zbd
    exact ⟨j,by simp only [iter,h1,Option.bind_some]; exact hj⟩
   ·exact ⟨(i:Int),by rw [iter,h1]; simp only [Option.bind_some,h2]⟩
theorem depL_take : ∀ {l:List PTerm} {i:Nat} {x:PTerm},l[i]? = some x→depL (l.take (i + 1))=max (depL (l.take i)) (depT x)
 | [],_,_,h=>by simp at h
 | y :: l,0,x,h=>by simp at h; subst h; simp [depL]
 | y :: l,i + 1,x,h=>by
  have:=depL_take (l:=l) (i:=i) (by simpa using h)
  simp only [List.take_succ_cons,depL]; omega
theorem depL_le : ∀ {l:List PTerm} (i:Nat),depL (l.take i) ≤ depL l
 | [],i=>by simp
 | y :: l,0=>by simp [depL]
 | y :: l,i + 1=>by have:=depL_le (l:=l) i; simp only [List.take_succ_cons,depL]; omega
theorem len_sizeL : ∀ (l:List PTerm),l.length ≤ sizeL l
 | []=>by simp
 | y :: l=>by have:=len_sizeL l; have:=sizeT_pos y; simp only [List.length_cons,sizeL]; omega
theorem sizeL_mem : ∀ {l:List PTerm} {x:PTerm},x ∈ l→sizeT x ≤ sizeL l
 | [],_,h=>by simp at h
 | y :: l,x,h=>by
  simp only [sizeL]
  rcases List.mem_cons.1 h with rfl | h
  ·omega
  ·have:=sizeL_mem h; omega
theorem at_nat {l:List PTerm} {i:Nat} (h:i < l.length):at_ PTerm.z l (i:Int)=l[i]:=by
 unfold at_; rw [Int.toNat_natCast,List.getD_eq_getElem?_getD,List.getElem?_eq_getElem h]; rfl
theorem depT_pos (x:PTerm):1 ≤ depT x:=by rw [depT_eq]; omega
-- levels,as the program counts them
theorem deep_some : ∀ (K:Nat) (x:PTerm) (most:Nat),1 ≤ most→most ≤ 1025→sizeT x ≤ 65536→sizeT x + most < K→zca.f K x (most:Int)=some ((min (depT x) most:Nat):Int)
 | 0,_,_,_,_,_,h=>by omega
 | K + 1,x,most,h1,h2,h3,hK=>by
  show zca.g (zca.f K) K x most=_
  unfold zca.g
  by_cases hm:most=1
  ·subst hm
   rw [if_pos zbc]
   have:=depT_pos x
   rw [show min (depT x) 1=1 by omega]
  rw [if_neg (by simp; omega)]
  have hw:IntKind.i64.wrap ((most:Int) - 1)=((most - 1:Nat):Int):=by
   rw [show ((most:Int) - 1)=((most - 1:Nat):Int) by omega]; exact wrap_nat zbd
  have hs:=sizeT_eq x
  have hls:=len_sizeL x.sub
  obtain ⟨j,hj⟩ := iter_count (b:=fun s=>zca.b0 x most (zca.f K) s.1 s.2) (g:=fun i=>((min (depL (x.sub.take i)) (most - 1):Nat):Int)) x.sub.length (fun i hi=>by
   have he:=List.getElem?_eq_getElem hi
   have hd:=depL_take he
   have hle:=depL_le (l:=x.sub) i
   simp only [zca.b0,hw]
   by_cases hc:min (depL (x.sub.take i)) (most - 1) < most - 1
   ·left
    rw [if_pos (by simp; omega),chk_t (by rw [inb_nat]; exact decide_eq_true hi),at_nat hi,deep_some K _ (most - 1) zbd zbd (by have:=sizeL_mem (List.getElem_mem hi); omega) (by have:=sizeL_mem (List.getElem_mem hi); omega)]
    simp only [Option.bind_some]
    rw [show (i:Int) + 1=((i + 1:Nat):Int) by omega,wrap_nat zbd]
    congr 3
    rw [hd]
    split <;> omega
   ·right
    rw [if_neg (by simp; omega)]
    refine ⟨rfl,?_⟩
    rw [List.take_length]
    congr 1
    omega) (by
   simp only [zca.b0,hw]
   rw [if_neg zbe]) K 0 zbd zbd
  simp only [List.take_zero,depL,Nat.zero_min,List.take_length] at hj
  rw [show ((0:Nat):Int)=0 from rfl] at hj
  rw [hj]
  simp only [Option.bind_some,aft]
  rw [show ((min (depL x.sub) (most - 1):Nat):Int) + 1=((min (depL x.sub) (most - 1) + 1:Nat):Int) by omega,wrap_nat zbd,depT_eq]
  congr 2
  omega
-- what is right,as the program tells it
theorem shape_some (k:Int):zbY.f k=some (if vj k = -1 then (0,false,false,false) else (vj k,decide (k=1∨k=2∨k=9∨k=12),decide (k=9),true)):=by
 by_cases h:k=1∨k=2∨k=3∨k=4∨k=5∨k=6∨k=7∨k=8∨k=9∨k=10∨k=11∨k=12
 ·rcases h with rfl | rfl | rfl | rfl | rfl | rfl | rfl | rfl | rfl | rfl | rfl | rfl <;> decide
 ·simp only [not_or] at h
  obtain ⟨h1,h2,h3,h4,h5,h6,h7,h8,h9,h10,h11,h12⟩ := h
  simp [zbY.f,vj,h1,h2,h3,h4,h5,h6,h7,h8,h9,h10,h11,h12]
theorem named_some {s:ByteArray} (hs:s.size < 9223372036854775808) (b:Bool):zbZ.f s b=some (if b then decide (isWord s) else decide (s=⟨#[]⟩)):=by
 unfold zbZ.f zbm.f
 rw [chk_t (decide_eq_true hs)]
 cases b <;> simp
theorem rightL_all : ∀ (l:List PTerm),rightL l=l.all rightT
 | []=>rfl
 | x :: l=>by simp [rightL,rightL_all l]
theorem contains_some {rec:PTerm→Option Bool} {l:List PTerm} (h : ∀ x ∈ l,rec x=some (rightT x)):zce.g rec l=some (!rightL l):=by
 unfold zce.g zcd.g
 have h1:=zaa (b:=fun i s=>zcd.b0 rec l i) (p:=fun k => !rightT (l.getD k PTerm.z)) (r:=fun k=>(k:Int)) l.length 0 () (by
  intro k _ hk
  unfold zcd.b0 zcc.g
  have hk':k < l.length:=by omega
  rw [at_nat hk',h _ (List.getElem_mem hk')]
  simp only [Option.bind_some,List.getD_eq_getElem?_getD,List.getElem?_eq_getElem hk',Option.getD_some]
  cases rightT l[k] <;> rfl)
 have e0:(((l.length:Nat):Int) - 0).toNat=l.length:=by omega
 rw [e0,show (0:Int)=((0:Nat):Int) from rfl,h1]
 have h2:rightL l = !((List.range' 0 l.length).find? fun k => !rightT (l.getD k PTerm.z)).isSome:=by
  rw [rightL_all,← any_find]
  rw [Bool.eq_iff_iff]
  simp only [List.all_eq_true,Bool.not_eq_true',List.any_eq_false,Bool.not_eq_true,Bool.not_eq_false',List.mem_range'_1]
  constructor
  ·intro hh k hk
   have hk':k < l.length:=by omega
   simp only [List.getD_eq_getElem?_getD,List.getElem?_eq_getElem hk',Option.getD_some]
   simpa using hh _ (List.getElem_mem hk')
  ·intro hh x hx
   obtain ⟨k,hk,rfl⟩ := List.getElem_of_mem hx
   have:=hh k ⟨by omega,by omega⟩
   simp only [List.getD_eq_getElem?_getD,List.getElem?_eq_getElem hk,Option.getD_some] at this
   simpa using this
 rw [h2]
 cases (List.range' 0 l.length).find? fun k => !rightT (l.getD k PTerm.z) with
 | none=>simp [aft]
 | some k=>simp [aft]
theorem right_some : ∀ (K:Nat) (x:PTerm),nmT x→depT x ≤ K→zcf.f K x=some (rightT x)
 | 0,x,_,h=>by have:=depT_pos x; omega
 | K + 1,x,hn,hK=>by
  have hd:=depT_eq x
  obtain ⟨n1,n2,n3⟩ := (nmT_eq x).1 hn
  show zcf.g (zcf.f K) x=_
  unfold zcf.g
  rw [shape_some,contains_some (l:=x.sub) fun y hy=>right_some K y (nmL_mem n3 y hy) (by have:=depL_mem y hy; omega)]
  rw [rightT_eq]
  unfold nodeR
  by_cases hp:vj x.kind = -1
  ·have:¬ (-1:Int)=(x.sub.length:Int):=by omega
   simp [hp,this]
  ·simp only [hp,if_false,Option.bind_some,named_some n1,named_some n2]
   generalize vj x.kind=p at hp
   by_cases hl:p=(x.sub.length:Int)
   ·by_cases hk:x.kind=1∨x.kind=2∨x.kind=9∨x.kind=12
    ·simp only [if_pos hk,decide_eq_true hk]
     by_cases hw:isWord x.name
     ·by_cases h9:x.kind=9
      ·simp only [if_pos h9,decide_eq_true h9]
       by_cases ho:isWord x.other
       ·by_cases hf:x.form=0
        ·simp [hl,h9,hw,ho,hf]
        ·simp [hl,h9,hw,ho,hf]
       ·simp [hl,h9,hw,ho]
      ·simp only [if_neg h9,decide_eq_false h9]
       by_cases ho:x.other=⟨#[]⟩
       ·by_cases h11:x.kind=11
        ·omega
        ·by_cases hf:x.form=0
         ·simp [hl,h11,hw,ho,hf]
         ·simp [hl,h11,hw,ho,hf]
       ·simp [hl,hw,ho]
     ·simp [hl,hw]
    ·have h9:¬ x.kind=9:=fun e=>hk (.inr (.inr (.inl e)))
     simp only [if_neg hk,decide_eq_false hk,if_neg h9,decide_eq_false h9]
     by_cases hw:x.name=⟨#[]⟩
     ·by_cases ho:x.other=⟨#[]⟩
      ·by_cases h11:x.kind=11
       ·by_cases hf:0 ≤ x.form
        ·by_cases hg:x.form < 1024
         ·have q1:¬ x.form < 0:=by omega
          have q2:¬ 1024 ≤ x.form:=by omega
          simp [hl,h11,hw,ho,hf,hg,q1,q2]
         ·have q2:1024 ≤ x.form:=by omega
          simp [hl,h11,hw,ho,hf,hg,q2]
        ·have q1:x.form < 0:=by omega
         simp [hl,h11,hw,ho,hf,q1]
       ·by_cases hf:x.form=0
        ·simp [hl,h11,hw,ho,hf]
        ·simp [hl,h11,hw,ho,hf]
      ·simp [hl,hw,ho]
     ·simp [hl,hw]
   ·have hl':¬ (x.sub.length:Int)=p:=fun e=>hl e.symm
    simp [hl,hl']
def zaM (x:PTerm):Int:=if 65536 < sizeT x∨1024 < depT x then 121 else if rightT x then 0 else 120
theorem Check_some {K:Nat} {x:PTerm} (hK:66562 ≤ K) (hn:nmT x):zcg.f K x=some (zaM x):=by
 unfold zcg.f zbs.f zcb.f zaM
 simp only [Option.bind_some]
 by_cases hs:65536 < sizeT x
 ·have h1:min (sizeT x) 65537=65537:=by omega
  simp [h1,hs]
 ·have h1:min (sizeT x) 65537=sizeT x:=by omega
  have h2:¬ (65536:Int) < (sizeT x:Int):=by omega
  rw [h1,show (1025:Int)=((1025:Nat):Int) from rfl]
  simp only [h2,decide_false,Bool.not_false,if_true,deep_some K x 1025 zbd zbd zbd zbd,Option.bind_some,Bool.false_or,decide_eq_true_eq,hs,false_or]
  by_cases hd:1024 < depT x
  ·have h3:(1024:Int) < ((min (depT x) 1025:Nat):Int):=by omega
   simp [h3,hd]
  ·have h3:¬ (1024:Int) < ((min (depT x) 1025:Nat):Int):=by omega
   rw [if_neg h3,if_neg hd,right_some K x hn zbd]
   cases rightT x <;> rfl
end
section
open Gw
theorem ba_app (a b:List UInt8):(⟨a.toArray⟩ : ByteArray) ++ ⟨b.toArray⟩ = ⟨(a ++ b).toArray⟩ := by
 apply ByteArray.ext
 simp [ByteArray.data_append]
theorem ba_size (l:List UInt8):(⟨l.toArray⟩ : ByteArray).size=l.length:=by simp [ByteArray.size]
theorem ba_inj {a b:List UInt8} (h:(⟨a.toArray⟩ : ByteArray)=⟨b.toArray⟩):a=b:=by
 have:=congrArg (fun s:ByteArray=>s.data.toList) h
 simpa using this
theorem u8_of {n:Nat} (h:n < 256):(UInt8.ofNat n).toNat=n:=by
 rw [UInt8.toNat_ofNat']; exact Nat.mod_eq_of_lt h
theorem decK_len : ∀ (k u:Nat),(decK k u).length ≤ k
 | 0,u=>by simp [decK]
 | k + 1,u=>by
  unfold decK
  split
  ·simp
  ·have:=decK_len k (u / 10); simp; omega
theorem decK_ne (k u:Nat):decK (k + 1) u ≠ []:=by
 unfold decK
 split <;> simp
theorem decK_dig : ∀ (k u:Nat),∀ c ∈ decK k u,48 ≤ c.toNat∧c.toNat ≤ 57
 | 0,u,c,h=>by simp [decK] at h
 | k + 1,u,c,h=>by
  unfold decK at h
  split at h
  ·rename_i hu
   rw [List.mem_singleton] at h; subst h; rw [u8_of zbd]; omega
  ·rcases List.mem_append.1 h with h | h
   ·exact decK_dig k _ c h
   ·have:u % 10 < 10:=Nat.mod_lt _ zbc
    rw [List.mem_singleton] at h; subst h; rw [u8_of zbd]; omega
def valD (l:List UInt8):Nat:=l.foldl (fun a c=>a * 10 + (c.toNat - 48)) 0
theorem decK_val : ∀ (k u:Nat),u < 10 ^ k→valD (decK k u)=u
 | 0,u,h=>by simp at h; subst h; rfl
 | k + 1,u,h=>by
  unfold decK
  split
  ·rename_i hu
   unfold valD
   simp only [List.foldl_cons,List.foldl_nil]
   rw [u8_of zbd]; omega
  ·have h1:=decK_val k (u / 10) (by rw [Nat.pow_succ] at h; omega)
   have:u % 10 < 10:=Nat.mod_lt _ zbc
   unfold valD at h1 ⊢
   rw [List.foldl_append,h1]
   simp only [List.foldl_cons,List.foldl_nil]
   rw [u8_of zbd]; omega
theorem kj {n:Int} (h:0 ≤ n):decN n=⟨(decK 20 n.toNat).toArray⟩ := by
 unfold decN; rw [if_neg zbd]
theorem decN_inj {a b:Int} (ha:0 ≤ a∧a < 9223372036854775808) (hb:0 ≤ b∧b < 9223372036854775808) (h:decN a=decN b):a=b:=by
 rw [kj ha.1,kj hb.1] at h
 have h1:=congrArg valD (ba_inj h)
 rw [decK_val 20 _ zbd,decK_val 20 _ zbd] at h1
 omega
-- the document's way
theorem dec_step {u:Nat} {s:List UInt8} (hu:u < 18446744073709551616) (hs:s.length ≤ 1000) (h:0 < u∨s=[]):zcP.b0 (u:Int) ⟨s.toArray⟩ = some (.go (((u / 10:Nat):Int),⟨(UInt8.ofNat (48 + u % 10) :: s).toArray⟩)):=by
 have hm:u % 10 < 10:=Nat.mod_lt _ zbc
 have ht:Int.tmod (u:Int) 10=((u % 10:Nat):Int):=by rw [Int.tmod_eq_emod_of_nonneg zbd]; omega
 have hd:Int.tdiv (u:Int) 10=((u / 10:Nat):Int):=by rw [Int.tdiv_eq_ediv_of_nonneg zbd]; omega
 have hw:IntKind.u64.wrap (48 + ((u % 10:Nat):Int))=48 + ((u % 10:Nat):Int):=by
  unfold IntKind.wrap; simp [IntKind.signed,IntKind.bits]; omega
 have hw2:IntKind.u8.wrap (48 + ((u % 10:Nat):Int))=48 + ((u % 10:Nat):Int):=by
  unfold IntKind.wrap; simp [IntKind.signed,IntKind.bits]; omega
 have hw3:IntKind.u64.wrap ((u / 10:Nat):Int)=((u / 10:Nat):Int):=by
  unfold IntKind.wrap; simp [IntKind.signed,IntKind.bits]; omega
 have hs1:strOfNums [48 + ((u % 10:Nat):Int)]=⟨[UInt8.ofNat (48 + u % 10)].toArray⟩ := by
  unfold strOfNums
  rw [List.map_cons,List.map_nil,show (48 + ((u % 10:Nat):Int)).toNat=48 + u % 10 by omega]
 have hc:((decide (0 < (u:Int))) || (decide ((⟨s.toArray⟩ : ByteArray)=(⟨#[]⟩ : ByteArray))))=true:=by
  rcases h with h | h
  ·simp; left; omega
  ·subst h; simp
 unfold zcP.b0
 rw [hc,if_pos rfl,ht,hd,hw,hw2,hw3,hs1,ba_size,ba_size,chk,if_pos (by simp; omega),ba_app]
 rfl
theorem dec_loop : ∀ (m u:Nat) (s:List UInt8) (k:Nat),u < 10 ^ m→m ≤ 19→m < k→s.length + m ≤ 1000→s ≠ []→iter (fun s=>zcP.b0 s.1 s.2) k ((u:Int),⟨s.toArray⟩)=some (.inl (0,⟨((if u=0 then [] else decK m u) ++ s).toArray⟩))
 | m,u,s,0,_,_,h,_,_=>by omega
 | m,u,s,k + 1,hu,hm,hk,hl,hs=>by
  by_cases h0:u=0
  ·subst h0
   simp only [iter]
   rw [show zcP.b0 ((0:Nat):Int) ⟨s.toArray⟩ = some (.brk (0,⟨s.toArray⟩)) by
    unfold zcP.b0
    rw [if_neg]
    ·rfl
    ·simp [hs]]
   simp
  ·match m,hu with
   | 0,hu=>simp at hu; omega
   | m + 1,hu =>
    have hb:u < 18446744073709551616:=by
     have:=Nat.pow_le_pow_right (show 0 < 10 by decide) hm
     omega
    simp only [iter]
    rw [dec_step hb zbd (.inl zbd)]
    simp only [Option.bind_some]
    have h1:u / 10 < 10 ^ m:=by rw [Nat.pow_succ] at hu; omega
    refine (dec_loop m (u / 10) _ k h1 zbd zbd (by simp; omega) zbe).trans ?_
    have hm10:u % 10 < 10:=Nat.mod_lt _ zbc
    rw [if_neg h0]
    congr 5
    by_cases hu9:u < 10
    ·have e1:u / 10=0:=by omega
     have e2:u % 10=u:=by omega
     rw [if_pos e1,e2]; simp [decK,hu9]
    ·have e1:¬ u / 10=0:=by omega
     rw [if_neg e1]; simp [decK,hu9]
theorem Dec_doc {K:Nat} {n:Int} (hK:30 ≤ K) (h0:0 ≤ n) (h1:n < 9223372036854775808):zcP.f K n=some (decN n):=by
 obtain ⟨u,rfl⟩ : ∃ u:Nat,n=u:=⟨n.toNat,by omega⟩
 obtain ⟨K,rfl⟩ : ∃ k',K=k' + 1:=⟨K - 1,by omega⟩
 have hw:IntKind.u64.wrap (u:Int)=u:=by
  unfold IntKind.wrap; simp [IntKind.signed,IntKind.bits]; omega
 unfold zcP.f
 rw [if_neg zbe,hw]
 simp only [Option.bind_some]
 have hstep:=dec_step (u:=u) (s:=[]) zbd zbe (.inr rfl)
 have e:(⟨#[]⟩ : ByteArray)=⟨([]:List UInt8).toArray⟩ := rfl
 simp only [iter]
 rw [e,hstep]
 simp only [Option.bind_some]
 rw [dec_loop 19 (u / 10) [UInt8.ofNat (48 + u % 10)] K zbd zbd zbd zbe zbe]
 simp only [Option.bind_some,aft]
 have hm10:u % 10 < 10:=Nat.mod_lt _ zbc
 have hx:(if u / 10=0 then [] else decK 19 (u / 10)) ++ [UInt8.ofNat (48 + u % 10)]=decK 20 u:=by
  by_cases hu9:u < 10
  ·have e1:u / 10=0:=by omega
   have e2:u % 10=u:=by omega
   rw [if_pos e1,e2]; simp [decK,hu9]
  ·have e1:¬ u / 10=0:=by omega
   rw [if_neg e1]; simp [decK,hu9]
 rw [hx,ba_size,ba_size,chk,if_pos (by have:=decK_len 20 u; simp; omega),ba_app,List.nil_append,kj zbd,Int.toNat_natCast]
theorem Dec_prog {n:Int} (h0:0 ≤ n) (h1:n < 9223372036854775808):zcC.f n=some (decN n):=by
 unfold zcC.f strconv_Itoa.f
 rw [chk,if_pos (by simp; omega)]; rfl
def hNm (f:Int):ByteArray:=(⟨#[104]⟩ : ByteArray) ++ decN f
def lNm (i:Int):ByteArray:=(⟨#[108]⟩ : ByteArray) ++ decN i
theorem hNm_eq {f:Int} (h:0 ≤ f):hNm f=⟨((104:UInt8) :: decK 20 f.toNat).toArray⟩ := by
 unfold hNm; rw [kj h]; exact ba_app [104] _
theorem lNm_eq {f:Int} (h:0 ≤ f):lNm f=⟨((108:UInt8) :: decK 20 f.toNat).toArray⟩ := by
 unfold lNm; rw [kj h]; exact ba_app [108] _
theorem hNm_inj {a b:Int} (ha:0 ≤ a∧a < 9223372036854775808) (hb:0 ≤ b∧b < 9223372036854775808) (h:hNm a=hNm b):a=b:=by
 rw [hNm_eq ha.1,hNm_eq hb.1] at h
 have h1:=List.cons.inj (ba_inj h)
 exact decN_inj ha hb (by rw [kj ha.1,kj hb.1,h1.2])
theorem lNm_inj {a b:Int} (ha:0 ≤ a∧a < 9223372036854775808) (hb:0 ≤ b∧b < 9223372036854775808) (h:lNm a=lNm b):a=b:=by
 rw [lNm_eq ha.1,lNm_eq hb.1] at h
 have h1:=List.cons.inj (ba_inj h)
 exact decN_inj ha hb (by rw [kj ha.1,kj hb.1,h1.2])
theorem hl_ne {a b:Int} (ha:0 ≤ a) (hb:0 ≤ b):hNm a ≠ lNm b:=by
 rw [hNm_eq ha,lNm_eq hb]
 intro h
 have h1:=(List.cons.inj (ba_inj h)).1
 exact absurd h1 zbc
theorem sb_list (l:List UInt8) (i:Nat) (h:i < l.length):sb ⟨l.toArray⟩ i=(l[i].toNat:Int):=by
 unfold sb
 rw [show (⟨l.toArray⟩ : ByteArray)[i]? = some l[i] from by
  rw [getElem?_pos _ i (by simpa [ByteArray.size] using h)]; rfl]
 rfl
theorem word_of {c:UInt8} (hc:isL (c.toNat:Int)=true) {l:List UInt8} (h0:l ≠ []) (h1:l.length ≤ 30) (h2 : ∀ x ∈ l,48 ≤ x.toNat∧x.toNat ≤ 57):isWord ⟨(c :: l).toArray⟩ := by
 have hz:(⟨(c :: l).toArray⟩ : ByteArray).size=l.length + 1:=by rw [ba_size]; rfl
 refine ⟨by omega,by omega,fun i hi=>?_,?_⟩
 ·have hil:i < (c :: l).length:=by rw [hz] at hi; exact hi
  unfold okAt
  rw [sb_list _ _ hil]
  cases i with
  | zero=>exact hc
  | succ i =>
   rw [if_neg zbd,List.getElem_cons_succ]
   have:=h2 _ (List.getElem_mem (show i < l.length by simpa using hil))
   unfold isC
   simp only [Bool.or_eq_true,Bool.and_eq_true,decide_eq_true_eq]
   left; left; right; omega
 ·unfold jM
  rw [List.any_eq_false]
  intro t ht
  simp only [decide_eq_true_eq]
  intro e
  have h3 : ∀ t ∈ resv,97 ≤ (t.data.toList.getD 1 0).toNat:=by decide
  have h4:=h3 t ht
  rw [← e] at h4
  cases l with
  | nil=>exact h0 rfl
  | cons d l =>
   have h5:=h2 d (List.mem_cons_self ..)
   have:((⟨(c :: d :: l).toArray⟩ : ByteArray).data.toList.getD 1 0)=d:=rfl
   rw [this] at h4
   omega
theorem hNm_word {f:Int} (h:0 ≤ f):isWord (hNm f):=by
 rw [hNm_eq h]; exact word_of zbc (decK_ne 19 _) (by have:=decK_len 20 f.toNat; omega) (decK_dig 20 _)
theorem lNm_word {f:Int} (h:0 ≤ f):isWord (lNm f):=by
 rw [lNm_eq h]; exact word_of zbc (decK_ne 19 _) (by have:=decK_len 20 f.toNat; omega) (decK_dig 20 _)
theorem decN_size {f:Int} (h:0 ≤ f):(decN f).size ≤ 20:=by rw [kj h,ba_size]; exact decK_len 20 _
theorem dec_ok (c:UInt8) {f:Int} (h:0 ≤ f):decide ((⟨#[c]⟩ : ByteArray).size + (decN f).size ≤ 1000000)=true:=by
 have h1:(⟨#[c]⟩ : ByteArray).size=1:=rfl
 have:=decN_size h
 rw [h1]; simp; omega
theorem jY {n:Int} (h0:0 ≤ n) (h1:n < 9223372036854775808):zcD.f n=some (lNm n):=by
 unfold zcD.f
 rw [Dec_prog h0 h1]
 simp only [Option.bind_some]
 rw [dec_ok 108 h0,chk,if_pos rfl]; rfl
end
section
open Gw
inductive Pt where
 | v (c:UInt8)
 | bot
 | bin (k:Int) (a b:Pt)
namespace Pt
def enc:Pt→List UInt8
 | v c=>[c]
 | bot=>[48]
 | bin k a b=>(if k=5 then 62 else if k=3 then 38 else 124) :: (a.enc ++ b.enc)
def ok:Pt→Prop
 | v c=>c.toNat ≠ 62∧c.toNat ≠ 38∧c.toNat ≠ 124∧c.toNat ≠ 48
 | bot=>True
 | bin k a b=>(k=5∨k=3∨k=4)∧a.ok∧b.ok
def dep:Pt→Nat
 | v _=>1
 | bot=>1
 | bin _ a b=>1 + max a.dep b.dep
end Pt
def x5 (M:List Nd):Pt→Int→List (Int × Int)→List (Int × Int) × Bool
 | .v c,id,s=>(Gw.ins (c.toNat:Int) id s,!(Gw.look (c.toNat:Int) s).isSome || decide ((Gw.look (c.toNat:Int) s).getD 0=id))
 | .bot,id,s=>(s,decide ((nd M id).kind=2))
 | .bin k a b,id,s=>if (nd M id).kind ≠ k then (s,false) else if (x5 M a (nd M id).l s).2 then x5 M b (nd M id).r (x5 M a (nd M id).l s).1 else ((x5 M a (nd M id).l s).1,false)
theorem sb_cons (c:UInt8) (l:List UInt8):sb ⟨(c :: l).toArray⟩ 0=(c.toNat:Int):=by
 unfold sb
 rw [show (⟨(c :: l).toArray⟩ : ByteArray)[0]? = some c from rfl]
 rfl
theorem sfrom_cons (c:UInt8) (l:List UInt8):sfrom ⟨(c :: l).toArray⟩ 1=⟨l.toArray⟩ := by
 unfold sfrom
 apply ByteArray.ext
 rw [ByteArray.data_extract]
 apply Array.toList_inj.1
 simp [ByteArray.size]
theorem size_cons (c:UInt8) (l:List UInt8):(⟨(c :: l).toArray⟩ : ByteArray).size=l.length + 1:=by simp [ByteArray.size]
theorem node_of (M:List Nd) (i:Int):(zbh.f (some M) i)=some (jN M i):=rfl
theorem pat_some (M:List Nd) : ∀ (p:Pt),p.ok → ∀ (k:Nat),p.dep ≤ k → ∀ (id:Int) (s:List (Int × Int)) (rest:List UInt8),∃ q,zbE.f k ⟨some M,s⟩ id ⟨(p.enc ++ rest).toArray⟩ = some q∧q.1.t=some M∧q.2.2=(x5 M p id s).2∧((x5 M p id s).2=true→q.1.seen=(x5 M p id s).1∧q.2.1=⟨rest.toArray⟩)
 | .v c,hp,k,hk,id,s,rest=>by
  obtain ⟨k,rfl⟩ : ∃ k',k=k' + 1:=⟨k - 1,by simp only [Pt.dep] at hk; omega⟩
  obtain ⟨h1,h2,h3,h4⟩ := hp
  have e:(Pt.v c).enc ++ rest=c :: rest:=rfl
  rw [e]
  refine ⟨(⟨some M,(x5 M (.v c) id s).1⟩,⟨rest.toArray⟩,(x5 M (.v c) id s).2),?_,rfl,rfl,fun _=>⟨rfl,rfl⟩⟩
  show zbE.g _ _ _ _=_
  unfold zbE.g
  simp only [sb_cons,sfrom_cons,size_cons,node_of,chk,inb,Option.bind_some]
  have n1:¬ ((c.toNat:Int)=62):=by omega
  have n2:¬ ((c.toNat:Int)=38):=by omega
  have n3:¬ ((c.toNat:Int)=124):=by omega
  have n4:¬ ((c.toNat:Int)=48):=by omega
  simp [n1,n2,n3,n4,aft,x5]
  omega
 | .bot,hp,k,hk,id,s,rest=>by
  obtain ⟨k,rfl⟩ : ∃ k',k=k' + 1:=⟨k - 1,by simp only [Pt.dep] at hk; omega⟩
  have e:Pt.bot.enc ++ rest=48 :: rest:=rfl
  rw [e]
  refine ⟨(⟨some M,s⟩,⟨rest.toArray⟩,(x5 M .bot id s).2),?_,rfl,rfl,fun _=>⟨rfl,rfl⟩⟩
  show zbE.g _ _ _ _=_
  unfold zbE.g
  simp only [sb_cons,sfrom_cons,size_cons,node_of,chk,inb,Option.bind_some]
  simp [aft,x5]
  omega
 | .bin kd a b,hp,k,hk,id,s,rest=>by
  obtain ⟨k,rfl⟩ : ∃ k',k=k' + 1:=⟨k - 1,by simp only [Pt.dep] at hk; omega⟩
  obtain ⟨h1,ha,hb⟩ := hp
  have hk1:a.dep ≤ k:=by simp only [Pt.dep] at hk; omega
  have hk2:b.dep ≤ k:=by simp only [Pt.dep] at hk; omega
  have e:(Pt.bin kd a b).enc ++ rest=(if kd=5 then 62 else if kd=3 then 38 else 124) :: (a.enc ++ (b.enc ++ rest)):=by simp [Pt.enc,List.append_assoc]
  rw [e]
  have hq : ∃ q,zbE.g (zbE.f k) ⟨some M,s⟩ id ⟨((if kd=5 then 62 else if kd=3 then 38 else 124:UInt8) :: (a.enc ++ (b.enc ++ rest))).toArray⟩ = (if decide ((nd M id).kind ≠ kd) then some (⟨some M,s⟩,⟨#[]⟩,false) else (zbE.f k ⟨some M,s⟩ (nd M id).l ⟨(a.enc ++ (b.enc ++ rest)).toArray⟩).bind fun r29=>if !r29.2.2 then some (r29.1,(⟨#[]⟩ : ByteArray),false) else (zbE.f k r29.1 (nd M id).r r29.2.1).bind fun r33=>some (r33.1,r33.2.1,r33.2.2))∧q=():=by
   refine ⟨(),?_,rfl⟩
   unfold zbE.g
   simp only [sb_cons,sfrom_cons,size_cons,node_of,chk,inb,Option.bind_some]
   rcases h1 with rfl | rfl | rfl <;> simp [aft,nd] <;> rw [if_pos zbd,if_pos zbd]
  obtain ⟨_,hq,_⟩ := hq
  show ∃ q,zbE.g _ _ _ _=_∧_
  rw [hq]
  by_cases hkd:(nd M id).kind=kd
  ·simp only [hkd,ne_eq,not_true_eq_false,decide_false,Bool.false_eq_true,if_false]
   obtain ⟨q1,e1,t1,o1,m1⟩ := pat_some M a ha k hk1 (nd M id).l s (b.enc ++ rest)
   rw [e1]
   simp only [Option.bind_some]
   cases hm:(x5 M a (nd M id).l s).2 with
   | false =>
    rw [hm] at o1
    refine ⟨(q1.1,⟨#[]⟩,false),by simp [o1],t1,by simp [x5,hkd,hm],fun h=>?_⟩
    simp [x5,hkd,hm] at h
   | true =>
    rw [hm] at o1
    obtain ⟨m2,m3⟩ := m1 hm
    obtain ⟨q2,e2,t2,o2,m4⟩ := pat_some M b hb k hk2 (nd M id).r (x5 M a (nd M id).l s).1 rest
    have e3:q1.1=⟨some M,(x5 M a (nd M id).l s).1⟩ := by cases h:q1.1; simp_all
    refine ⟨q2,by rw [o1,e3,m3,e2]; rfl,t2,?_,fun h=>?_⟩
    ·rw [o2]; simp [x5,hkd,hm]
    ·have:=m4 (by simpa [x5,hkd,hm] using h)
     simpa [x5,hkd,hm] using this
  ·refine ⟨(⟨some M,s⟩,⟨#[]⟩,false),by simp [hkd],rfl,by simp [x5,hkd],fun h=>?_⟩
   simp [x5,hkd] at h
abbrev vA:Pt := .v 65
abbrev vB:Pt := .v 66
abbrev vC:Pt := .v 67
def schT (k:Int):Pt :=
 if k=1 then .bin 5 vA (.bin 5 vB vA) else if k=2 then .bin 5 (.bin 5 vA (.bin 5 vB vC)) (.bin 5 (.bin 5 vA vB) (.bin 5 vA vC))
 else if k=3 then .bin 5 (.bin 3 vA vB) vA else if k=4 then .bin 5 (.bin 3 vA vB) vB else if k=5 then .bin 5 vA (.bin 5 vB (.bin 3 vA vB))
 else if k=6 then .bin 5 vA (.bin 4 vA vB) else if k=7 then .bin 5 vB (.bin 4 vA vB) else if k=8 then .bin 5 (.bin 5 vA vC) (.bin 5 (.bin 5 vB vC) (.bin 5 (.bin 4 vA vB) vC))
 else .bin 5 .bot vA
def axS (M:List Nd) (k i:Int):Bool :=
 let n:=nd M i; let x:=nd M n.l; let y:=nd M n.r; let b:=nd M y.l; let c:=nd M y.r
 decide (n.kind=5) &&
 (if k=1 then decide (y.kind=5) && decide (y.r=n.l)
  else if k=2 then decide (y.kind=5) && decide (x.kind=5) && decide ((nd M x.r).kind=5) && decide (b.kind=5) && decide (c.kind=5) && decide (b.l=x.l) && decide (c.l=x.l) && decide (b.r=(nd M x.r).l) && decide (c.r=(nd M x.r).r)
  else if k=3 then decide (x.kind=3) && decide (x.l=n.r)
  else if k=4 then decide (x.kind=3) && decide (x.r=n.r)
  else if k=5 then decide (y.kind=5) && decide (c.kind=3) && decide (c.l=n.l) && decide (c.r=y.l)
  else if k=6 then decide (y.kind=4) && decide (y.l=n.l)
  else if k=7 then decide (y.kind=4) && decide (y.r=n.l)
  else if k=8 then decide (y.kind=5) && decide (x.kind=5) && decide (b.kind=5) && decide (c.kind=5) && decide ((nd M c.l).kind=4) && decide ((nd M c.l).l=x.l) && decide ((nd M c.l).r=b.l) && decide (b.r=x.r) && decide (c.r=x.r)
  else if k=9 then decide (x.kind=2)
  else false)
theorem match_1 (M:List Nd) (i:Int):(x5 M (schT 1) i []).2=axS M 1 i:=by
 simp only [schT,axS,x5,if_true,  if_false]
 by_cases h0:(nd M i).kind=5
 rotate_left
 ·simp [h0]
 by_cases c0:(nd M (nd M i).r).kind=5
 rotate_left
 ·simp [Gw.ins,Gw.look,h0,c0] <;> grind
 simp [Gw.ins,Gw.look,h0,c0]
 try grind
theorem match_2 (M:List Nd) (i:Int):(x5 M (schT 2) i []).2=axS M 2 i:=by
 simp only [schT,axS,x5,if_true,show ¬ ((2:Int)=1) by decide,if_false]
 by_cases h0:(nd M i).kind=5
 rotate_left
 ·simp [h0]
 by_cases c0:(nd M (nd M i).l).kind=5
 rotate_left
 ·simp [Gw.ins,Gw.look,h0,c0] <;> grind
 by_cases c1:(nd M (nd M (nd M i).l).r).kind=5
 rotate_left
 ·simp [Gw.ins,Gw.look,h0,c0,c1] <;> grind
 by_cases c2:(nd M (nd M i).r).kind=5
 rotate_left
 ·simp [Gw.ins,Gw.look,h0,c0,c1,c2] <;> grind
 by_cases c3:(nd M (nd M (nd M i).r).l).kind=5
 rotate_left
 ·simp [Gw.ins,Gw.look,h0,c0,c1,c2,c3] <;> grind
 by_cases c4:(nd M (nd M i).l).l=(nd M (nd M (nd M i).r).l).l
 rotate_left
 ·have d4:¬ ((nd M (nd M (nd M i).r).l).l=(nd M (nd M i).l).l):=fun h=>c4 (Eq.symm h); simp [Gw.ins,Gw.look,h0,c0,c1,c2,c3,c4,d4] <;> grind
 by_cases c5:(nd M (nd M (nd M i).l).r).l=(nd M (nd M (nd M i).r).l).r
 rotate_left
 ·have d5:¬ ((nd M (nd M (nd M i).r).l).r=(nd M (nd M (nd M i).l).r).l):=fun h=>c5 (Eq.symm h); simp [Gw.ins,Gw.look,h0,c0,c1,c2,c3,c4,c5,d5] <;> grind
 by_cases c6:(nd M (nd M (nd M i).r).r).kind=5
 rotate_left
 ·simp [Gw.ins,Gw.look,h0,c0,c1,c2,c3,c4,c5,c6] <;> grind
 by_cases c7:(nd M (nd M i).l).l=(nd M (nd M (nd M i).r).r).l
 rotate_left
 ·have d7:¬ ((nd M (nd M (nd M i).r).r).l=(nd M (nd M i).l).l):=fun h=>c7 (Eq.symm h); simp [Gw.ins,Gw.look,h0,c0,c1,c2,c3,c4,c5,c6,c7,d7] <;> grind
 simp [Gw.ins,Gw.look,h0,c0,c1,c2,c3,c4,c5,c6,c7]
 try grind
theorem match_3 (M:List Nd) (i:Int):(x5 M (schT 3) i []).2=axS M 3 i:=by
 simp only [schT,axS,x5,if_true,show ¬ ((3:Int)=1) by decide,show ¬ ((3:Int)=2) by decide,if_false]
 by_cases h0:(nd M i).kind=5
 rotate_left
 ·simp [h0]
 by_cases c0:(nd M (nd M i).l).kind=3
 rotate_left
 ·simp [Gw.ins,Gw.look,h0,c0] <;> grind
 simp [Gw.ins,Gw.look,h0,c0]
 try grind
theorem match_4 (M:List Nd) (i:Int):(x5 M (schT 4) i []).2=axS M 4 i:=by
 simp only [schT,axS,x5,if_true,show ¬ ((4:Int)=1) by decide,show ¬ ((4:Int)=2) by decide,show ¬ ((4:Int)=3) by decide,if_false]
 by_cases h0:(nd M i).kind=5
 rotate_left
 ·simp [h0]
 by_cases c0:(nd M (nd M i).l).kind=3
 rotate_left
 ·simp [Gw.ins,Gw.look,h0,c0] <;> grind
 simp [Gw.ins,Gw.look,h0,c0]
 try grind
theorem match_5 (M:List Nd) (i:Int):(x5 M (schT 5) i []).2=axS M 5 i:=by
 simp only [schT,axS,x5,if_true,show ¬ ((5:Int)=1) by decide,show ¬ ((5:Int)=2) by decide,show ¬ ((5:Int)=3) by decide,show ¬ ((5:Int)=4) by decide,if_false]
 by_cases h0:(nd M i).kind=5
 rotate_left
 ·simp [h0]
 by_cases c0:(nd M (nd M i).r).kind=5
 rotate_left
 ·simp [Gw.ins,Gw.look,h0,c0] <;> grind
 by_cases c1:(nd M (nd M (nd M i).r).r).kind=3
 rotate_left
 ·simp [Gw.ins,Gw.look,h0,c0,c1] <;> grind
 simp [Gw.ins,Gw.look,h0,c0,c1]
 try grind
theorem match_6 (M:List Nd) (i:Int):(x5 M (schT 6) i []).2=axS M 6 i:=by
 simp only [schT,axS,x5,if_true,show ¬ ((6:Int)=1) by decide,show ¬ ((6:Int)=2) by decide,show ¬ ((6:Int)=3) by decide,show ¬ ((6:Int)=4) by decide,show ¬ ((6:Int)=5) by decide,if_false]
 by_cases h0:(nd M i).kind=5
 rotate_left
 ·simp [h0]
 by_cases c0:(nd M (nd M i).r).kind=4
 rotate_left
 ·simp [Gw.ins,Gw.look,h0,c0] <;> grind
 simp [Gw.ins,Gw.look,h0,c0]
 try grind
theorem match_7 (M:List Nd) (i:Int):(x5 M (schT 7) i []).2=axS M 7 i:=by
 simp only [schT,axS,x5,if_true,show ¬ ((7:Int)=1) by decide,show ¬ ((7:Int)=2) by decide,show ¬ ((7:Int)=3) by decide,show ¬ ((7:Int)=4) by decide,show ¬ ((7:Int)=5) by decide,show ¬ ((7:Int)=6) by decide,if_false]
 by_cases h0:(nd M i).kind=5
 rotate_left
 ·simp [h0]
 by_cases c0:(nd M (nd M i).r).kind=4
 rotate_left
 ·simp [Gw.ins,Gw.look,h0,c0] <;> grind
 simp [Gw.ins,Gw.look,h0,c0]
 try grind
theorem match_8 (M:List Nd) (i:Int):(x5 M (schT 8) i []).2=axS M 8 i:=by
 simp only [schT,axS,x5,if_true,show ¬ ((8:Int)=1) by decide,show ¬ ((8:Int)=2) by decide,show ¬ ((8:Int)=3) by decide,show ¬ ((8:Int)=4) by decide,show ¬ ((8:Int)=5) by decide,show ¬ ((8:Int)=6) by decide,show ¬ ((8:Int)=7) by decide,if_false]
 by_cases h0:(nd M i).kind=5
 rotate_left
 ·simp [h0]
 by_cases c0:(nd M (nd M i).l).kind=5
 rotate_left
 ·simp [Gw.ins,Gw.look,h0,c0] <;> grind
 by_cases c1:(nd M (nd M i).r).kind=5
 rotate_left
 ·simp [Gw.ins,Gw.look,h0,c0,c1] <;> grind
 by_cases c2:(nd M (nd M (nd M i).r).l).kind=5
 rotate_left
 ·simp [Gw.ins,Gw.look,h0,c0,c1,c2] <;> grind
 by_cases c3:(nd M (nd M i).l).r=(nd M (nd M (nd M i).r).l).r
 rotate_left
 ·have d3:¬ ((nd M (nd M (nd M i).r).l).r=(nd M (nd M i).l).r):=fun h=>c3 (Eq.symm h); simp [Gw.ins,Gw.look,h0,c0,c1,c2,c3,d3] <;> grind
 by_cases c4:(nd M (nd M (nd M i).r).r).kind=5
 rotate_left
 ·simp [Gw.ins,Gw.look,h0,c0,c1,c2,c3,c4] <;> grind
 by_cases c5:(nd M (nd M (nd M (nd M i).r).r).l).kind=4
 rotate_left
 ·simp [Gw.ins,Gw.look,h0,c0,c1,c2,c3,c4,c5] <;> grind
 by_cases c6:(nd M (nd M i).l).l=(nd M (nd M (nd M (nd M i).r).r).l).l
 rotate_left
 ·have d6:¬ ((nd M (nd M (nd M (nd M i).r).r).l).l=(nd M (nd M i).l).l):=fun h=>c6 (Eq.symm h); simp [Gw.ins,Gw.look,h0,c0,c1,c2,c3,c4,c5,c6,d6] <;> grind
 by_cases c7:(nd M (nd M (nd M i).r).l).l=(nd M (nd M (nd M (nd M i).r).r).l).r
 rotate_left
 ·have d7:¬ ((nd M (nd M (nd M (nd M i).r).r).l).r=(nd M (nd M (nd M i).r).l).l):=fun h=>c7 (Eq.symm h); simp [Gw.ins,Gw.look,h0,c0,c1,c2,c3,c4,c5,c6,c7,d7] <;> grind
 simp [Gw.ins,Gw.look,h0,c0,c1,c2,c3,c4,c5,c6,c7]
 try grind
theorem match_9 (M:List Nd) (i:Int):(x5 M (schT 9) i []).2=axS M 9 i:=by
 simp only [schT,axS,x5,if_true,show ¬ ((9:Int)=1) by decide,show ¬ ((9:Int)=2) by decide,show ¬ ((9:Int)=3) by decide,show ¬ ((9:Int)=4) by decide,show ¬ ((9:Int)=5) by decide,show ¬ ((9:Int)=6) by decide,show ¬ ((9:Int)=7) by decide,show ¬ ((9:Int)=8) by decide,if_false]
 by_cases h0:(nd M i).kind=5
 rotate_left
 ·simp [h0]
 by_cases c0:(nd M (nd M i).l).kind=2
 rotate_left
 ·simp [Gw.ins,Gw.look,h0,c0] <;> grind
 simp [Gw.ins,Gw.look,h0,c0]
 try grind
theorem match_ax (M:List Nd) (k i:Int) (hk:1 ≤ k∧k ≤ 9):(x5 M (schT k) i []).2=axS M k i:=by
 have h:k=1∨k=2∨k=3∨k=4∨k=5∨k=6∨k=7∨k=8∨k=9:=by omega
 rcases h with rfl | rfl | rfl | rfl | rfl | rfl | rfl | rfl | rfl
 ·exact match_1 M i
 ·exact match_2 M i
 ·exact match_3 M i
 ·exact match_4 M i
 ·exact match_5 M i
 ·exact match_6 M i
 ·exact match_7 M i
 ·exact match_8 M i
 ·exact match_9 M i
theorem sch_enc (k:Int) (hk:1 ≤ k∧k ≤ 9):zbv.f k=some ⟨((schT k).enc ++ []).toArray⟩ ∧ (schT k).ok∧(schT k).dep ≤ 10∧(⟨((schT k).enc ++ []).toArray⟩ : ByteArray) ≠ ⟨#[]⟩ := by
 have h:k=1∨k=2∨k=3∨k=4∨k=5∨k=6∨k=7∨k=8∨k=9:=by omega
 rcases h with rfl | rfl | rfl | rfl | rfl | rfl | rfl | rfl | rfl <;> refine ⟨rfl,?_,by decide,by decide⟩ <;> simp [schT,Pt.ok]
theorem fits_ax {M:List Nd} {K:Nat} (hK:10 ≤ K) (k i:Int):zbF.f K (some M) k i=some (some M,axS M k i):=by
 unfold zbF.f
 by_cases hk:1 ≤ k∧k ≤ 9
 ·obtain ⟨h1,h2,h3,h4⟩ := sch_enc k hk
  rw [h1,Option.bind_some,if_neg (by simpa using h4)]
  obtain ⟨q,e1,e2,e3,_⟩ := pat_some M (schT k) h2 K zbd i [] []
  rw [e1,Option.bind_some,e2,e3,match_ax M k i hk]
 ·have h1:zbv.f k=some ⟨#[]⟩ := by
   unfold zbv.f
   by_cases h0:k=0
   ·subst h0; rfl
   ·rw [if_pos (by simp; omega)]
  have h2:axS M k i=false:=by
   unfold axS
   simp [show ¬ k=1 by omega,show ¬ k=2 by omega,show ¬ k=3 by omega,show ¬ k=4 by omega,show ¬ k=5 by omega,show ¬ k=6 by omega,show ¬ k=7 by omega,show ¬ k=8 by omega,show ¬ k=9 by omega]
  rw [h1,h2]; rfl
theorem has1_loop (n:Int) : ∀ (l:List Int),zbI.f l n=some (l.any fun i=>decide (i < 0) || decide (n ≤ i)):=by
 intro l
 unfold zbI.f zbH.f
 have h1:=zaa (b:=fun i s=>zbH.b0 l n i) (p:=fun j=>decide (l.getD j 0 < 0) || decide (n ≤ l.getD j 0)) (r:=fun j=>(j:Int)) l.length 0 () (by
  intro j _ hj
  unfold zbH.b0 zbG.f at_
  rw [Int.toNat_natCast]
  simp only [Option.bind_some]
  split <;> rfl)
 have e0:(((l.length:Nat):Int) - 0).toNat=l.length:=by omega
 rw [e0,show forN (fun i s=>zbH.b0 l n i) l.length 0 ()=_ from h1,any_find]
 cases hq:(List.range' 0 l.length).find? (fun j=>decide (l.getD j 0 < 0) || decide (n ≤ l.getD j 0)) with
 | none =>
  have:l.find? (fun i=>decide (i < 0) || decide (n ≤ i))=none:=by
   rw [List.find?_eq_none] at hq ⊢
   intro x hx
   obtain ⟨j,hj,rfl⟩ := List.mem_iff_getElem.1 hx
   have:=hq j (by simp; omega)
   simpa [List.getD_eq_getElem?_getD,hj] using this
  rw [this]; rfl
 | some j =>
  have h2:=List.find?_some hq
  have h3:=List.mem_of_find?_eq_some hq
  have hj:j < l.length:=by simpa using h3
  have:(l.find? (fun i=>decide (i < 0) || decide (n ≤ i))).isSome=true:=by
   rw [List.find?_isSome]
   exact ⟨l[j],List.getElem_mem hj,by simpa [List.getD_eq_getElem?_getD,hj] using h2⟩
  rw [this]
  simp [aft]
theorem has_some16 {M:List Nd} (hM:M.Nodup) (l:List Int):zbJ.f (some M) l=some (if l.all (fun i=>inb i M.length) then 0 else 31):=by
 have h1:zbt.f (some M)=some (some M):=by simp [zbt.f,chk,hM]
 unfold zbJ.f
 rw [h1]
 simp only [Option.bind_some,Option.isNone_some,Bool.false_eq_true,if_false,zbi.f,Option.map_some,has1_loop]
 have h2:(l.any fun i=>decide (i < 0) || decide ((M.length:Int) ≤ i)) = !l.all fun i=>inb i M.length:=by
  rw [List.not_all_eq_any_not]
  congr 1; funext i
  unfold inb
  by_cases a:0 ≤ i <;> by_cases b:i < (M.length:Int) <;> simp [a,b] <;> omega
 rw [h2]
 cases l.all fun i=>inb i M.length <;> rfl
end
section
open Gw
end
section
open Gw
theorem wf_nil:Wf []:=⟨by simp,by simp,fun i hi=>absurd (zR hi) zbe,fun i hi=>absurd (zR hi) zbe,fun j n h=>by simp at h⟩
theorem tables16 {rows:List Nd} (hn : ∀ n ∈ rows,n.name.size < 9223372036854775808) (hl:rows.length * 40 ≤ 140737488355328) : ∃ M,zcO.f rows=some (some M,some M)∧Wf M∧(M=rows∨M=[]):=by
 unfold zcO.f
 rcases both_some hn hl with h | ⟨h,hw⟩
 ·exact ⟨[],by rw [h]; rfl,wf_nil,.inr rfl⟩
 ·exact ⟨rows,by rw [h]; rfl,hw,.inl rfl⟩
end
section
open Gw
end
section
open Gw
def kK (M:List Nd) (hyps:List Int) (ls:List Ln) (i:Int):Bool :=
 let x:=at_ Ln.z ls i
 if x.kind=11 then decide (0 ≤ x.a) && decide (x.a < i) && decide (0 ≤ x.b) && decide (x.b < i) && decide ((nd M (at_ Ln.z ls x.a).form).kind=5) && decide ((nd M (at_ Ln.z ls x.a).form).l=(at_ Ln.z ls x.b).form) && decide ((nd M (at_ Ln.z ls x.a).form).r=x.form)
 else decide (x.a=0) && decide (x.b=0) && (if x.kind=10 then hyps.any (fun h=>decide (h=x.form)) else axS M x.kind x.form)
def formsS (M:List Nd) (ls:List Ln):Bool:=ls.all fun x=>inb x.form M.length
def uo (M:List Nd) (hyps:List Int) (ls:List Ln):Int :=
 if hyps.all (fun h=>inb h M.length) && formsS M ls then (if (List.range' 0 ls.length).all (fun j=>kK M hyps ls j) && !ls.isEmpty then 0 else 160) else 31
theorem form_in {M:List Nd} {ls:List Ln} (h:formsS M ls=true) {j:Int} (hj:inb j ls.length=true):inb (at_ Ln.z ls j).form M.length=true:=by
 have h1:=zR hj
 have h2:at_ Ln.z ls j=ls[j.toNat]'(by omega):=by
  unfold at_; rw [List.getD_eq_getElem?_getD,List.getElem?_eq_getElem zbd]; rfl
 rw [h2]
 exact List.all_eq_true.1 h _ (List.getElem_mem _)
theorem inb_mk {i:Int} {n:Nat} (h0:0 ≤ i) (h1:i < n):inb i n=true:=by simp [inb,h0,h1]
theorem right_prog {M:List Nd} (hw:Wf M) {K:Nat} (hK:10 ≤ K) {hyps:List Int} {m:List (Int × Int)} (hm : ∀ h,(0 < (Gw.look h m).getD 0)↔h ∈ hyps) {ls:List Ln} (hf:formsS M ls=true) {i:Int} (hi:inb i ls.length=true) :
  zbL.f K (some M) m ls i=some (some M,kK M hyps ls i):=by
 have h1:=zR hi
 unfold zbL.f kK
 generalize hx:at_ Ln.z ls i=x
 simp only [chk,hi,if_true]
 by_cases k:x.kind=11
 ·simp only [k,ne_eq,not_true_eq_false,decide_false,Bool.false_eq_true,if_false,if_true]
  have hmin:(if x.b < x.a then x.b else x.a) < 0↔(x.a < 0∨x.b < 0):=by split <;> omega
  have hmax:i ≤ (if x.a < x.b then x.b else x.a)↔(i ≤ x.a∨i ≤ x.b):=by split <;> omega
  by_cases hc:0 ≤ x.a∧x.a < i∧0 ≤ x.b∧x.b < i
  ·have e1:(decide ((if x.b < x.a then x.b else x.a) < 0) || decide (i ≤ if x.a < x.b then x.b else x.a))=false:=by
    rw [decide_eq_false (by rw [hmin]; omega),decide_eq_false (by rw [hmax]; omega)]; rfl
   have e2:inb x.a ls.length=true:=inb_mk hc.1 zbd
   have e3:inb x.b ls.length=true:=inb_mk hc.2.2.1 zbd
   rw [e1]
   simp only [Bool.false_eq_true,if_false,e2,e3,if_true,node_of,Option.bind_some]
   have e4:=form_in hf e2
   have e5:decide ((jN M (at_ Ln.z ls x.a).form).1={ Nd.z with kind:=5,l:=(at_ Ln.z ls x.b).form,r:=x.form })=(decide ((nd M (at_ Ln.z ls x.a).form).kind=5) && decide ((nd M (at_ Ln.z ls x.a).form).l=(at_ Ln.z ls x.b).form) && decide ((nd M (at_ Ln.z ls x.a).form).r=x.form)):=by
    show decide (nd M (at_ Ln.z ls x.a).form=_)=_
    by_cases k5:(nd M (at_ Ln.z ls x.a).form).kind=5
    ·have hb:=hw.bare e4 (.inr (.inr k5))
     cases hn:nd M (at_ Ln.z ls x.a).form with
     | mk kd nm l r =>
      rw [hn] at hb k5
      simp only at hb k5
      subst hb k5
      have:({ Nd.z with kind:=5,l:=(at_ Ln.z ls x.b).form,r:=x.form }:Nd)=⟨5,⟨#[]⟩,(at_ Ln.z ls x.b).form,x.form⟩ := rfl
      rw [this]
      simp [Nd.mk.injEq]
    ·have:¬ nd M (at_ Ln.z ls x.a).form={ Nd.z with kind:=5,l:=(at_ Ln.z ls x.b).form,r:=x.form }:=fun e=>k5 (by rw [e])
     simp [this,k5]
   rw [e5]
   simp [hc]
  ·have e1:(decide ((if x.b < x.a then x.b else x.a) < 0) || decide (i ≤ if x.a < x.b then x.b else x.a))=true:=by
    rw [Bool.or_eq_true,decide_eq_true_eq,decide_eq_true_eq,hmin,hmax]; omega
   rw [e1]
   have e2:(decide (0 ≤ x.a) && decide (x.a < i) && decide (0 ≤ x.b) && decide (x.b < i))=false:=by
    rw [Bool.eq_false_iff]
    simp only [ne_eq,Bool.and_eq_true,decide_eq_true_eq,not_and]; omega
   simp [e2]
 ·simp only [k,ne_eq,not_false_eq_true,decide_true,if_true,if_false]
  by_cases k10:x.kind=10
  ·have e9:axS M 10 x.form=false:=by simp [axS]
   have e8:hyps.any (fun h=>decide (h=x.form))=decide (x.form ∈ hyps):=by
    rw [Bool.eq_iff_iff,List.any_eq_true]
    simp only [decide_eq_true_eq]
    exact ⟨fun ⟨y,h,e⟩ => e ▸ h,fun h=>⟨_,h,rfl⟩⟩
   simp only [k10,decide_true,Bool.true_and,if_true,e8]
   by_cases hp:x.form ∈ hyps
   ·have:=(hm x.form).2 hp
    simp [this,hp]
   ·have:¬ 0 < (Gw.look x.form m).getD 0:=fun q=>hp ((hm _).1 q)
    simp [this,hp,fits_ax hK,e9]
  ·simp [k10,fits_ax hK]
theorem all_range {α:Type} {d:α} {p:α→Bool} (l:List α):l.all p=(List.range' 0 l.length).all fun j=>p (l.getD j d):=by
 rw [Bool.eq_iff_iff,List.all_eq_true,List.all_eq_true]
 constructor
 ·intro h j hj
  have hj:j < l.length:=by simpa using hj
  rw [List.getD_eq_getElem?_getD,List.getElem?_eq_getElem hj]
  exact h _ (List.getElem_mem hj)
 ·intro h x hx
  obtain ⟨j,hj,rfl⟩ := List.mem_iff_getElem.1 hx
  have:=h j (by simp; omega)
  rwa [List.getD_eq_getElem?_getD,List.getElem?_eq_getElem hj] at this
theorem find_all {α:Type} {p:α→Bool} (l:List α):(l.find? fun x => !p x).isSome = !l.all p:=by
 rw [List.not_all_eq_any_not,any_find]
theorem forN_all {σ ρ:Type} {b:Int→σ→Option (Stp σ ρ)} {p:Nat→Bool} {r:ρ} (n:Nat) (s:σ) (h : ∀ j:Nat,j < n→b j s=some (if p j then .go s else .ret r)):forN b n 0 s=some (if (List.range' 0 n).all p then .inl s else .inr r):=by
 have h1:=zaa (b:=b) (p:=fun j => !p j) (r:=fun _=>r) n 0 s (by
  intro j _ hj
  rw [h j zbd]
  cases p j <;> rfl)
 rw [show forN b n 0 s=_ from h1]
 have h2:=find_all (p:=p) (List.range' 0 n)
 cases hq:(List.range' 0 n).find? (fun x => !p x) with
 | none=>rw [hq] at h2; rw [show (List.range' 0 n).all p=true by simpa using h2]; rfl
 | some j=>rw [hq] at h2; rw [show (List.range' 0 n).all p=false by simpa using h2]; rfl
theorem count_map {m:List (Int × Int)} (h v x:Int):(Gw.look x (Gw.ins h v m)).getD 0=if x=h then v else (Gw.look x m).getD 0:=by
 induction m with
 | nil=>by_cases e:x=h <;> simp [Gw.ins,Gw.look,e]
 | cons q m ih =>
  obtain ⟨k,w⟩ := q
  unfold Gw.ins
  by_cases e:h=k
  ·subst e
   by_cases e2:x=h
   ·simp [Gw.look,e2]
   ·simp [Gw.look,e2]
  ·rw [if_neg e]
   unfold Gw.look
   by_cases e2:x=k
   ·subst e2; simp [Ne.symm (a:=h) e]
   ·simp [e2,ih]
theorem hyps_map (hyps:List Int) : ∀ (n i:Nat) (m:List (Int × Int)),i + n=hyps.length→hyps.length < 4611686018427387904→(∀ x,(Gw.look x m).getD 0=((hyps.take i).count x:Int)) →
  ∃ m',forS (fun i s=>zbM.b1 hyps i s) n i m=some m' ∧ ∀ x,(Gw.look x m').getD 0=(hyps.count x:Int)
 | 0,i,m,hi,hb,h=>⟨m,rfl,fun x=>by rw [h,List.take_of_length_le zbd]⟩
 | n + 1,i,m,hi,hb,h=>by
  have hil:i < hyps.length:=by omega
  have he:at_ (0:Int) hyps (i:Int)=hyps[i]:=by
   unfold at_; rw [Int.toNat_natCast,List.getD_eq_getElem?_getD,List.getElem?_eq_getElem hil]; rfl
  simp only [forS,zbM.b1,Option.bind_some]
  refine hyps_map hyps n (i + 1) _ zbd hb fun x=>?_
  rw [he,count_map,h,List.take_succ_eq_append_getElem hil,List.count_append]
  have hc:(hyps.take i).count hyps[i] ≤ hyps.length:=Nat.le_trans List.count_le_length (by simp; omega)
  by_cases e:x=hyps[i]
  ·subst e
   rw [if_pos rfl,wrap_small ⟨by omega,by omega⟩]
   simp
  ·rw [if_neg e,h]
   simp [List.count_singleton,Ne.symm (a:=x) e]
theorem CheckH_some {M:List Nd} (hw:Wf M) {K:Nat} (hK:10 ≤ K) {hyps:List Int} (hb:hyps.length < 4611686018427387904) (ls:List Ln):zbM.f K (some M) hyps ls=some (some M,uo M hyps ls):=by
 unfold zbM.f uo
 rw [has_some16 hw.nodup]
 cases ha:hyps.all (fun h=>inb h M.length) with
 | false=>simp
 | true =>
  simp only [if_true,Option.bind_some,ne_eq,not_true_eq_false,decide_false,Bool.false_eq_true,if_false,Bool.true_and]
  have e0:(((ls.length:Nat):Int) - 0).toNat=ls.length:=by omega
  have e1:(((hyps.length:Nat):Int) - 0).toNat=hyps.length:=by omega
  rw [e0,e1]
  have h1:=forN_all (b:=fun i s=>zbM.b0 (some M) ls i) (p:=fun j=>inb (ls.getD j Ln.z).form M.length) (r:=((some M:Tb),(31:Int))) ls.length () (by
   intro j hj
   unfold zbM.b0 at_
   rw [Int.toNat_natCast,has_some16 hw.nodup]
   simp only [List.all_cons,List.all_nil,Bool.and_true,Option.bind_some]
   cases inb (ls.getD j Ln.z).form M.length <;> rfl)
  rw [h1]
  have hfe:formsS M ls=(List.range' 0 ls.length).all fun j=>inb (ls.getD j Ln.z).form M.length:=all_range (d:=Ln.z) ls
  rw [← hfe]
  cases hf:formsS M ls with
  | false=>simp [aft]
  | true =>
   simp only [if_true,Option.bind_some,aft]
   obtain ⟨m,h2,h3⟩ := hyps_map hyps hyps.length 0 [] zbd hb (fun x=>by simp [Gw.look])
   rw [show forS (fun i s=>zbM.b1 hyps i s) hyps.length 0 ([]:List (Int × Int))=some m from h2]
   simp only [Option.bind_some]
   have hm : ∀ h,(0 < (Gw.look h m).getD 0)↔h ∈ hyps:=fun h=>by
    rw [h3]
    rw [← List.count_pos_iff]; omega
   have h4:=forN_all (b:=fun i s=>zbM.b2 K m ls i s) (p:=fun j=>kK M hyps ls j) (r:=((some M:Tb),(160:Int))) ls.length (some M) (by
    intro j hj
    unfold zbM.b2
    rw [right_prog hw hK hm hf (inb_mk zbd zbd)]
    simp only [Option.bind_some]
    cases kK M hyps ls j <;> rfl)
   rw [h4]
   cases hr:(List.range' 0 ls.length).all (fun j=>kK M hyps ls j) with
   | false=>simp [aft]
   | true =>
    simp only [if_true,Option.bind_some,aft]
    cases ls with
    | nil=>simp
    | cons x l=>simp; omega
def lastS (ls:List Ln):Int:=(at_ Ln.z ls ((ls.length:Int) - 1)).form
theorem TellsH_some {M:List Nd} (hw:Wf M) {K:Nat} (hK:10 ≤ K) {hyps:List Int} (hb:hyps.length < 4611686018427387904) {ls:List Ln} (hl:ls.length < 4611686018427387904) :
  zbN.f K (some M) hyps ls=some (some M,if uo M hyps ls=0 then lastS ls else 0,uo M hyps ls):=by
 unfold zbN.f
 rw [CheckH_some hw hK hb]
 simp only [Option.bind_some]
 by_cases h:uo M hyps ls=0
 ·have hne:ls ≠ []:=by
   rintro rfl
   unfold uo at h
   split at h <;> simp at h
  have hp:0 < ls.length:=List.length_pos_iff.2 hne
  rw [wrap_small ⟨by omega,by omega⟩]
  have:inb ((ls.length:Int) - 1) ls.length=true:=inb_mk zbd zbd
  simp [h,chk,this,lastS]
 ·simp [h]
end
section
open Gw
def err:TR→Option (Int × List Int)
 | .ok _=>none
 | .no c w=>some (c,w.reverse)
abbrev Tc:Type:=PChecker→PTerm→List (ByteArray × Int)→Option (Int × Option (Int × List Int))
abbrev Cc:Type:=PChecker→PTerm→List (ByteArray × Int)→Int→Option (Option (Int × List Int))
def Sok (M:List Nd) (s:Sc):Prop := ∀ q ∈ s,inb q.2 M.length=true
theorem Sok.cons {M:List Nd} {s:Sc} {n:ByteArray} {f:Int} (h:Sok M s) (hf:inb f M.length=true):Sok M ((n,f) :: s):=fun q hq=>by
 rcases List.mem_cons.1 hq with rfl | hq
 ·exact hf
 ·exact h q hq
abbrev PS (M:List Nd) (k:Nat) (x:PTerm):Int→Sc→Option Int→TR:=fun i s' w=>(tyS M k (at_ PTerm.z x.sub i) s' w).at_ i
def Tells (M:List Nd) (r:Option (Int × Option (Int × List Int))) (t:TR):Prop := ∃ i,r=some (i,err t) ∧ ∀ f,t = .ok f→i=f∧inb f M.length=true
theorem at_err {r:TR} {i:Int} (h:r.way.length ≤ 2000):zch.f i (err r)=some (err (r.at_ i)):=by
 cases r with
 | ok f=>rfl
 | no c w =>
  simp only [TR.way] at h
  simp only [err,zch.f,TR.at_,List.reverse_cons,List.length_reverse]
  rw [chk_t (decide_eq_true zbd)]
theorem TR.ok_at {r:TR} {i f:Int} (h:r.at_ i = .ok f):r = .ok f:=TR.at_ok.1 h
theorem node_tab {M:List Nd} {i k:Int} (hi:inb i M.length=true):zcj.f ⟨some M⟩ i k=some (nd M i,if (nd M i).kind=k then none else some (130,[])):=by
 simp only [zcj.f,zbh.f,Option.map_some,Option.bind_some]
 by_cases h:(nd M i).kind=k
 ·simp [nd,h] at h ⊢ <;> simp [h]
 ·simp [nd] at h ⊢ <;> simp [h]
section
variable {M:List Nd} {x:PTerm} {k:Nat} {T:Tc} {C:Cc}
theorem kh (hk:k ≤ 1999) {i:Int} (hi:inb i x.sub.length=true) {s:Sc} (h:Tells M (T ⟨some M⟩ (at_ PTerm.z x.sub i) s) (tyS M k (at_ PTerm.z x.sub i) s none)):Tells M (zck.g T ⟨some M⟩ x i s) (PS M k x i s none):=by
 obtain ⟨j,h1,h2⟩ := h
 refine ⟨j,?_,fun f hf=>h2 f (TR.ok_at hf)⟩
 unfold zck.g
 rw [chk_t hi,h1]
 simp only [Option.bind_some]
 rw [at_err (Nat.le_trans (tyS_way k _ _ _) zbd)]
 rfl
theorem vo (hk:k ≤ 1999) {i id:Int} (hi:inb i x.sub.length=true) {s:Sc} (h:C ⟨some M⟩ (at_ PTerm.z x.sub i) s id=some (err (tyS M k (at_ PTerm.z x.sub i) s (some id)))):zcl.g C ⟨some M⟩ x i s id=some (err (PS M k x i s (some id))):=by
 unfold zcl.g
 rw [chk_t hi,h]
 simp only [Option.bind_some]
 rw [at_err (Nat.le_trans (tyS_way k _ _ _) zbd)]
 rfl
def hdS (M:List Nd) (P:Int→Sc→Option Int→TR) (s:Sc) (kd:Int):TR:=(P 0 s none).bind fun f=>if (nd M f).kind=kd then .ok f else .no 130 []
theorem hdS_eq (P:Int→Sc→Option Int→TR) (s:Sc) (kd:Int) (g:Nd→TR):((P 0 s none).bind fun f=>ofK M f kd g)=(hdS M P s kd).bind fun f=>g (nd M f):=by
 unfold hdS
 cases P 0 s none with
 | ok f =>
  simp only [TR.bind,ofK]
  split <;> rfl
 | no c w=>rfl
theorem ke (hk:k ≤ 1999) (hi:inb 0 x.sub.length=true) {s:Sc} {kd:Int} (h:Tells M (T ⟨some M⟩ (at_ PTerm.z x.sub 0) s) (tyS M k (at_ PTerm.z x.sub 0) s none)) :
  ∃ n,zcm.g T ⟨some M⟩ x s kd=some (n,err (hdS M (PS M k x) s kd)) ∧ ∀ f,hdS M (PS M k x) s kd = .ok f→n=nd M f∧inb f M.length=true∧(nd M f).kind=kd:=by
 obtain ⟨j,h1,h2⟩ := kh hk hi h
 unfold zcm.g hdS
 rw [h1]
 simp only [Option.bind_some]
 cases hp:PS M k x 0 s none with
 | no c w=>exact ⟨Nd.z,rfl,fun f hf=>by cases hf⟩
 | ok f =>
  obtain ⟨rfl,hb⟩ := h2 f hp
  simp only [err,Option.isSome_none,Bool.false_eq_true,if_false,node_tab hb,Option.bind_some,TR.bind]
  by_cases hkd:(nd M j).kind=kd
  ·simp only [hkd,if_true]
   exact ⟨_,rfl,fun f hf=>by cases hf; exact ⟨rfl,hb,hkd⟩⟩
  ·simp only [hkd,if_false]
   exact ⟨_,rfl,fun f hf=>by cases hf⟩
structure Parts (M:List Nd) (k:Nat) (x:PTerm) (T:Tc) (C:Cc):Prop where
 told : ∀ i,inb i x.sub.length=true → ∀ s,Sok M s→Tells M (T ⟨some M⟩ (at_ PTerm.z x.sub i) s) (tyS M k (at_ PTerm.z x.sub i) s none)
 chkd : ∀ i,inb i x.sub.length=true → ∀ s,Sok M s → ∀ id,inb id M.length=true→C ⟨some M⟩ (at_ PTerm.z x.sub i) s id=some (err (tyS M k (at_ PTerm.z x.sub i) s (some id)))
theorem yX {i:Int} {n:Nat} (h:(0 ≤ i∧i < n) ):inb i n=true:=by simp [inb,h.1,h.2]
theorem rt_len (hr:rightT x=true):vj x.kind=(x.sub.length:Int):=by
 rw [rightT_eq] at hr
 simp only [nodeR,Bool.and_eq_true,decide_eq_true_eq] at hr
 exact hr.1.1.1.1
theorem find_tab {s:Sc} (hs:Sok M s) (n:ByteArray) {q:ByteArray × Int} (h:s.find? (fun q=>decide (q.1=n))=some q):inb q.2 M.length=true:=hs q (List.mem_of_find?_eq_some h)
theorem told_tells (hM:Wf M) (hk:k ≤ 1999) (hr:rightT x=true) (hP:Parts M k x T C) {s:Sc} (hs:Sok M s):Tells M (zcn.g T C ⟨some M⟩ x s) (vd M (PS M k x) s x):=by
 have hl:=rt_len hr
 have hno : ∀ c,Tells M (some (0,some (c,[]))) (.no c []):=fun c=>⟨0,rfl,fun f hf=>by cases hf⟩
 by_cases k1:x.kind=1
 ·simp only [zcn.g,vd,k1,decide_true,if_true,zbq.f,Option.bind_some]
  cases hf:s.find? (fun q=>decide (q.1=x.name)) with
  | none=>exact hno 131
  | some q=>exact ⟨q.2,rfl,fun f hf'=>by cases hf'; exact ⟨rfl,find_tab hs _ hf⟩⟩
 by_cases k3:x.kind=3
 ·simp only [k3,vj] at hl
  have h0:=yX (i:=0) (n:=x.sub.length) zbd
  have h1:=yX (i:=1) (n:=x.sub.length) zbd
  have e:vd M (PS M k x) s x=(hdS M (PS M k x) s 5).bind fun f=>(PS M k x 1 s (some (nd M f).l)).bind fun _ => .ok (nd M f).r:=by
   rw [← hdS_eq (g:=fun n=>(PS M k x 1 s (some n.l)).bind fun _ => .ok n.r)]
   simp [vd,k3]
  obtain ⟨n,e1,e2⟩ := ke (kd:=5) hk h0 (hP.told 0 h0 s hs)
  rw [e]
  simp only [zcn.g,k3,Int.reduceEq,decide_false,decide_true,Bool.false_eq_true,if_false,if_true,e1,Option.bind_some]
  cases hh:hdS M (PS M k x) s 5 with
  | no c w=>exact ⟨0,rfl,fun f hf=>by cases hf⟩
  | ok f =>
   obtain ⟨rfl,hb,hkd⟩ := e2 f hh
   have hl:=hM.left hb (.inr (.inr hkd))
   have hrr:=hM.right hb (.inr (.inr hkd))
   simp only [err,Option.isSome_none,Bool.false_eq_true,if_false,vo hk h1 (hP.chkd 1 h1 s hs _ hl),Option.bind_some,TR.bind]
   cases PS M k x 1 s (some (nd M f).l) with
   | ok g=>exact ⟨_,rfl,fun f' hf=>by cases hf; exact ⟨rfl,hrr⟩⟩
   | no c w=>exact ⟨_,rfl,fun f' hf=>by cases hf⟩
 by_cases k5:x.kind=5
 ·simp only [k5,vj] at hl
  have h0:=yX (i:=0) (n:=x.sub.length) zbd
  have e:vd M (PS M k x) s x=(hdS M (PS M k x) s 3).bind fun f => .ok (nd M f).l:=by
   rw [← hdS_eq (g:=fun n => .ok n.l)]
   simp [vd,k5]
  obtain ⟨n,e1,e2⟩ := ke (kd:=3) hk h0 (hP.told 0 h0 s hs)
  rw [e]
  simp only [zcn.g,k5,Int.reduceEq,decide_false,decide_true,Bool.false_eq_true,if_false,if_true,e1,Option.bind_some]
  cases hh:hdS M (PS M k x) s 3 with
  | no c w=>exact ⟨_,rfl,fun f hf=>by cases hf⟩
  | ok f =>
   obtain ⟨rfl,hb,hkd⟩ := e2 f hh
   exact ⟨_,rfl,fun f' hf=>by cases hf; exact ⟨rfl,hM.left hb (.inl hkd)⟩⟩
 by_cases k6:x.kind=6
 ·simp only [k6,vj] at hl
  have h0:=yX (i:=0) (n:=x.sub.length) zbd
  have e:vd M (PS M k x) s x=(hdS M (PS M k x) s 3).bind fun f => .ok (nd M f).r:=by
   rw [← hdS_eq (g:=fun n => .ok n.r)]
   simp [vd,k6]
  obtain ⟨n,e1,e2⟩ := ke (kd:=3) hk h0 (hP.told 0 h0 s hs)
  rw [e]
  simp only [zcn.g,k6,Int.reduceEq,decide_false,decide_true,Bool.false_eq_true,if_false,if_true,e1,Option.bind_some]
  cases hh:hdS M (PS M k x) s 3 with
  | no c w=>exact ⟨_,rfl,fun f hf=>by cases hf⟩
  | ok f =>
   obtain ⟨rfl,hb,hkd⟩ := e2 f hh
   exact ⟨_,rfl,fun f' hf=>by cases hf; exact ⟨rfl,hM.right hb (.inl hkd)⟩⟩
 by_cases k11:x.kind=11
 ·simp only [k11,vj] at hl
  have h0:=yX (i:=0) (n:=x.sub.length) zbd
  simp only [zcn.g,vd,k11,Int.reduceEq,decide_false,decide_true,Bool.false_eq_true,if_false,if_true,zbh.f,Option.map_some,Option.bind_some]
  by_cases hf:inb x.form M.length=true
  ·have hf':(jN M x.form).2=true:=by
    have:=zR hf
    simp [jN,vz,this.1,this.2]
   simp only [hf,hf',if_true,Bool.not_true,Bool.false_eq_true,if_false,vo hk h0 (hP.chkd 0 h0 s hs _ hf),Option.bind_some]
   cases PS M k x 0 s (some x.form) with
   | ok g=>exact ⟨_,rfl,fun f' hf2=>by cases hf2; exact ⟨rfl,hf⟩⟩
   | no c w=>exact ⟨_,rfl,fun f' hf2=>by cases hf2⟩
  ·have hf':(jN M x.form).2=false:=by
    have h2:¬ vz M x.form=true:=fun e=>hf (by
     simp only [vz,Bool.and_eq_true,decide_eq_true_eq] at e
     exact yX e)
    simp [jN,h2]
   simp only [hf,hf',Bool.not_false,if_true,Bool.false_eq_true,if_false]
   exact hno 31
 by_cases k12:x.kind=12
 ·simp only [k12,vj] at hl
  have h0:=yX (i:=0) (n:=x.sub.length) zbd
  have h1:=yX (i:=1) (n:=x.sub.length) zbd
  obtain ⟨j,e1,e2⟩ := kh hk h0 (hP.told 0 h0 s hs)
  simp only [zcn.g,vd,k12,Int.reduceEq,decide_false,decide_true,Bool.false_eq_true,if_false,if_true,e1,Option.bind_some]
  cases hh:PS M k x 0 s none with
  | no c w=>exact ⟨0,rfl,fun f hf=>by cases hf⟩
  | ok f =>
   obtain ⟨rfl,hb⟩ := e2 f hh
   simp only [err,Option.isSome_none,Bool.false_eq_true,if_false,TR.bind]
   obtain ⟨j2,e3,e4⟩ := kh hk h1 (hP.told 1 h1 ((x.name,j) :: s) (hs.cons hb))
   rw [e3]
   exact ⟨j2,rfl,e4⟩
 by_cases k9:x.kind=9
 ·simp only [k9,vj] at hl
  have h0:=yX (i:=0) (n:=x.sub.length) zbd
  have h1:=yX (i:=1) (n:=x.sub.length) zbd
  have h2:=yX (i:=2) (n:=x.sub.length) zbd
  have e:vd M (PS M k x) s x=(hdS M (PS M k x) s 4).bind fun f=>(PS M k x 1 ((x.name,(nd M f).l) :: s) none).bind fun a=>(PS M k x 2 ((x.other,(nd M f).r) :: s) none).bind fun b=>if a=b then .ok a else .no 130 []:=by
   rw [← hdS_eq (g:=fun n=>(PS M k x 1 ((x.name,n.l) :: s) none).bind fun a=>(PS M k x 2 ((x.other,n.r) :: s) none).bind fun b=>if a=b then .ok a else .no 130 [])]
   simp [vd,k9]
  obtain ⟨n,e1,e2⟩ := ke (kd:=4) hk h0 (hP.told 0 h0 s hs)
  rw [e]
  simp only [zcn.g,k9,Int.reduceEq,decide_false,decide_true,Bool.false_eq_true,if_false,if_true,e1,Option.bind_some]
  cases hh:hdS M (PS M k x) s 4 with
  | no c w=>exact ⟨0,rfl,fun f hf=>by cases hf⟩
  | ok f =>
   obtain ⟨rfl,hb,hkd⟩ := e2 f hh
   have hl:=hM.left hb (.inr (.inl hkd))
   have hrr:=hM.right hb (.inr (.inl hkd))
   obtain ⟨j2,e3,e4⟩ := kh hk h1 (hP.told 1 h1 ((x.name,(nd M f).l) :: s) (hs.cons hl))
   simp only [err,Option.isSome_none,Bool.false_eq_true,if_false,TR.bind,e3,Option.bind_some]
   cases hh2:PS M k x 1 ((x.name,(nd M f).l) :: s) none with
   | no c w=>exact ⟨0,rfl,fun f hf=>by cases hf⟩
   | ok a =>
    obtain ⟨rfl,hb2⟩ := e4 a hh2
    obtain ⟨j3,e5,e6⟩ := kh hk h2 (hP.told 2 h2 ((x.other,(nd M f).r) :: s) (hs.cons hrr))
    simp only [err,Option.isSome_none,Bool.false_eq_true,if_false,TR.bind,e5,Option.bind_some]
    cases hh3:PS M k x 2 ((x.other,(nd M f).r) :: s) none with
    | no c w=>exact ⟨_,rfl,fun f hf=>by cases hf⟩
    | ok b =>
     obtain ⟨rfl,hb3⟩ := e6 b hh3
     by_cases hab:j2=j3
     ·subst hab
      simp only [err,TR.bind,if_true]
      exact ⟨j2,by simp [err],fun f' hf=>by cases hf; exact ⟨rfl,hb2⟩⟩
     ·have hba:¬ j3=j2:=fun e=>hab e.symm
      simp only [err,TR.bind,hab,if_false]
      exact ⟨j2,by simp [err,hba],fun f' hf=>by cases hf⟩
 simp only [zcn.g,vd,k1,k3,k5,k6,k9,k11,k12,decide_false,Bool.false_eq_true,if_false]
 exact hno 132
theorem err_bind_none {t:TR} {y:Option (Option (Int × List Int))} {z:TR} (h : ∀ f,t = .ok f→y=some (err z)):(if (err t).isSome=true then some (err t) else y)=some (err (t.bind fun _=>z)):=by
 cases t with
 | ok f=>simpa [err,TR.bind] using h f rfl
 | no c w=>simp [err,TR.bind]
theorem chkd_tells (hM:Wf M) (hk:k ≤ 1999) (hr:rightT x=true) (hP:Parts M k x T C) {s:Sc} (hs:Sok M s) {id:Int} (hid:inb id M.length=true) (hT:Tells M (T ⟨some M⟩ x s) (vd M (PS M k x) s x)):zco.g T C ⟨some M⟩ x s id=some (err (v6 M (PS M k x) s x id)):=by
 have hl:=rt_len hr
 have hnode : ∀ (kd:Int) (g:Nd→TR) (y:Nd→Option (Option (Int × List Int))),((nd M id).kind=kd→y (nd M id)=some (err (g (nd M id))))→((zcj.f ⟨some M⟩ id kd).bind fun r=>if r.2.isSome=true then some r.2 else y r.1)=some (err (ofK M id kd g)):=by
  intro kd g y hy
  rw [node_tab hid]
  simp only [Option.bind_some,ofK]
  by_cases h:(nd M id).kind=kd
  ·simp only [h,if_true,Option.isSome_none,Bool.false_eq_true,if_false]; exact hy h
  ·simp only [h,if_false,Option.isSome_some,if_true]; rfl
 have hsome : ∀ {y:Option (Option (Int × List Int))},(y.bind fun r=>some r)=y:=fun {y}=>by cases y <;> rfl
 by_cases k2:x.kind=2
 ·simp only [k2,vj] at hl
  have h0:=yX (i:=0) (n:=x.sub.length) zbd
  simp only [zco.g,v6,k2,decide_true,if_true,hsome]
  exact hnode 5 (fun n=>PS M k x 0 ((x.name,n.l) :: s) (some n.r)) (fun n=>zcl.g C ⟨some M⟩ x 0 ((x.name,n.l) :: s) n.r) fun hkd=>vo hk h0 (hP.chkd 0 h0 _ (hs.cons (hM.left hid (.inr (.inr hkd)))) _ (hM.right hid (.inr (.inr hkd))))
 by_cases k4:x.kind=4
 ·simp only [k4,vj] at hl
  have h0:=yX (i:=0) (n:=x.sub.length) zbd
  have h1:=yX (i:=1) (n:=x.sub.length) zbd
  simp only [zco.g,v6,k4,Int.reduceEq,decide_false,decide_true,Bool.false_eq_true,if_false,if_true,hsome]
  refine hnode 3 (fun n=>(PS M k x 0 s (some n.l)).bind fun _=>PS M k x 1 s (some n.r)) (fun n=>(zcl.g C ⟨some M⟩ x 0 s n.l).bind fun r30=>if r30.isSome=true then some r30 else zcl.g C ⟨some M⟩ x 1 s n.r) fun hkd=>?_
  rw [vo hk h0 (hP.chkd 0 h0 s hs _ (hM.left hid (.inl hkd)))]
  simp only [Option.bind_some]
  exact err_bind_none fun f _=>vo hk h1 (hP.chkd 1 h1 s hs _ (hM.right hid (.inl hkd)))
 by_cases k7:x.kind=7
 ·simp only [k7,vj] at hl
  have h0:=yX (i:=0) (n:=x.sub.length) zbd
  simp only [zco.g,v6,k7,Int.reduceEq,decide_false,decide_true,Bool.false_eq_true,if_false,if_true,hsome,Option.bind_some]
  exact hnode 4 (fun n=>PS M k x 0 s (some n.l)) (fun n=>zcl.g C ⟨some M⟩ x 0 s n.l) fun hkd=>vo hk h0 (hP.chkd 0 h0 s hs _ (hM.left hid (.inr (.inl hkd))))
 by_cases k8:x.kind=8
 ·simp only [k8,vj] at hl
  have h0:=yX (i:=0) (n:=x.sub.length) zbd
  simp only [zco.g,v6,k8,Int.reduceEq,decide_false,decide_true,Bool.false_eq_true,if_false,if_true,hsome,Option.bind_some]
  exact hnode 4 (fun n=>PS M k x 0 s (some n.r)) (fun n=>zcl.g C ⟨some M⟩ x 0 s n.r) fun hkd=>vo hk h0 (hP.chkd 0 h0 s hs _ (hM.right hid (.inr (.inl hkd))))
 by_cases k9:x.kind=9
 ·simp only [k9,vj] at hl
  have h0:=yX (i:=0) (n:=x.sub.length) zbd
  have h1:=yX (i:=1) (n:=x.sub.length) zbd
  have h2:=yX (i:=2) (n:=x.sub.length) zbd
  have e:v6 M (PS M k x) s x id=(hdS M (PS M k x) s 4).bind fun f=>(PS M k x 1 ((x.name,(nd M f).l) :: s) (some id)).bind fun _=>PS M k x 2 ((x.other,(nd M f).r) :: s) (some id):=by
   rw [← hdS_eq (g:=fun n=>(PS M k x 1 ((x.name,n.l) :: s) (some id)).bind fun _=>PS M k x 2 ((x.other,n.r) :: s) (some id))]
   simp [v6,k9]
  obtain ⟨n,e1,e2⟩ := ke (kd:=4) hk h0 (hP.told 0 h0 s hs)
  rw [e]
  simp only [zco.g,k9,Int.reduceEq,decide_false,decide_true,Bool.false_eq_true,if_false,if_true,hsome,Option.bind_some,e1]
  cases hh:hdS M (PS M k x) s 4 with
  | no c w=>rfl
  | ok f =>
   obtain ⟨rfl,hb,hkd⟩ := e2 f hh
   simp only [err,Option.isSome_none,Bool.false_eq_true,if_false,TR.bind]
   rw [vo hk h1 (hP.chkd 1 h1 _ (hs.cons (hM.left hb (.inr (.inl hkd)))) _ hid)]
   simp only [Option.bind_some]
   exact err_bind_none fun f' _=>vo hk h2 (hP.chkd 2 h2 _ (hs.cons (hM.right hb (.inr (.inl hkd)))) _ hid)
 by_cases k10:x.kind=10
 ·simp only [k10,vj] at hl
  have h0:=yX (i:=0) (n:=x.sub.length) zbd
  have e:v6 M (PS M k x) s x id=(hdS M (PS M k x) s 2).bind fun f => .ok id:=by
   rw [← hdS_eq (g:=fun n => .ok id)]
   simp [v6,k10]
  obtain ⟨n,e1,e2⟩ := ke (kd:=2) hk h0 (hP.told 0 h0 s hs)
  rw [e]
  simp only [zco.g,k10,Int.reduceEq,decide_false,decide_true,Bool.false_eq_true,if_false,if_true,hsome,Option.bind_some,e1]
  cases hh:hdS M (PS M k x) s 2 with
  | no c w=>rfl
  | ok f=>rfl
 by_cases k12:x.kind=12
 ·simp only [k12,vj] at hl
  have h0:=yX (i:=0) (n:=x.sub.length) zbd
  have h1:=yX (i:=1) (n:=x.sub.length) zbd
  obtain ⟨j,e1,e2⟩ := kh hk h0 (hP.told 0 h0 s hs)
  simp only [zco.g,v6,k12,Int.reduceEq,decide_false,decide_true,Bool.false_eq_true,if_false,if_true,hsome,Option.bind_some,e1]
  cases hh:PS M k x 0 s none with
  | no c w=>rfl
  | ok f =>
   obtain ⟨rfl,hb⟩ := e2 f hh
   simp only [err,Option.isSome_none,Bool.false_eq_true,if_false,TR.bind]
   exact vo hk h1 (hP.chkd 1 h1 _ (hs.cons hb) _ hid)
 obtain ⟨j,e1,e2⟩ := hT
 simp only [zco.g,v6,k2,k4,k7,k8,k9,k10,k12,decide_false,Bool.false_eq_true,if_false,Option.bind_some,e1]
 cases hh:vd M (PS M k x) s x with
 | no c w=>simp [err,TR.bind]
 | ok f =>
  obtain ⟨rfl,hb⟩ := e2 f hh
  by_cases hj:j=id
  ·subst hj; simp [err,TR.bind]
  ·simp [err,TR.bind,hj]
end
theorem tc_prog {M:List Nd} (hM:Wf M) : ∀ (k:Nat),k ≤ 1999 → ∀ (x:PTerm),rightT x=true→depT x ≤ k →
  (∀ (s:Sc),Sok M s → ∀ K,2 * k ≤ K→Tells M (zcn.f K ⟨some M⟩ x s) (tyS M k x s none)) ∧
  (∀ (s:Sc),Sok M s → ∀ id,inb id M.length=true → ∀ K,2 * k + 1 ≤ K→zco.f K ⟨some M⟩ x s id=some (err (tyS M k x s (some id))))
 | 0,_,x,_,h=>by have:=depT_pos x; omega
 | k + 1,hk,x,hr,hd=>by
  have hde:=depT_eq x
  have hsub : ∀ i,inb i x.sub.length=true→rightT (at_ PTerm.z x.sub i)=true∧depT (at_ PTerm.z x.sub i) ≤ k:=fun i hi=>by
   have hm:=at_mem (zR hi)
   rw [rightT_eq,Bool.and_eq_true] at hr
   exact ⟨rightL_mem hr.2 _ hm,by have:=depL_mem _ hm; omega⟩
  have hP : ∀ K,2 * k + 1 ≤ K→Parts M k x (zcn.f K) (zco.f K):=fun K hK =>
   ⟨fun i hi s hs=>(tc_prog hM k zbd _ (hsub i hi).1 (hsub i hi).2).1 s hs K zbd,fun i hi s hs id hid=>(tc_prog hM k zbd _ (hsub i hi).1 (hsub i hi).2).2 s hs id hid K zbd⟩
  have h1 : ∀ (s:Sc),Sok M s → ∀ K,2 * (k + 1) ≤ K→Tells M (zcn.f K ⟨some M⟩ x s) (tyS M (k + 1) x s none):=fun s hs K hK=>by
   obtain ⟨K',rfl⟩ : ∃ K',K=K' + 1:=⟨K - 1,by omega⟩
   exact told_tells hM zbd hr (hP K' zbd) hs
  refine ⟨h1,fun s hs id hid K hK=>?_⟩
  obtain ⟨K',rfl⟩ : ∃ K',K=K' + 1:=⟨K - 1,by omega⟩
  exact chkd_tells hM zbd hr (hP K' zbd) hs hid (h1 s hs K' zbd)
end
section
open Gw
def scS (l:List Hyp):Sc:=(l.map fun h=>(h.name,h.form)).reverse
def hypsOk (M:List Nd) (l:List Hyp):Bool:=l.all fun h=>inb h.form M.length
theorem scS_ok {M:List Nd} {l:List Hyp} (h:hypsOk M l=true):Sok M (scS l):=fun q hq=>by
 obtain ⟨a,ha,rfl⟩ := List.mem_map.1 (List.mem_reverse.1 hq)
 exact List.all_eq_true.1 h a ha
theorem ahead_loop (l:List Hyp) : ∀ (n i:Nat) (ids:List Int) (s:Sc),i + n=l.length→(ids.length + n) * 8 ≤ 140737488355328 →
  forS (fun i s=>zcp.b0 l i s.1 s.2) n (i:Int) (ids,s)=some (ids ++ (l.drop i).map (·.form),((l.drop i).map fun h=>(h.name,h.form)).reverse ++ s)
 | 0,i,ids,s,hi,_=>by
  rw [List.drop_eq_nil_of_le zbd]; simp [forS]
 | n + 1,i,ids,s,hi,hb=>by
  have hil:i < l.length:=by omega
  have he:at_ Hyp.z l (i:Int)=l[i]:=by
   unfold at_; rw [Int.toNat_natCast,List.getD_eq_getElem?_getD,List.getElem?_eq_getElem hil]; rfl
  have hb0:zcp.b0 l (i:Int) ids s=some (ids ++ [l[i].form],(l[i].name,l[i].form) :: s):=by
   simp only [zcp.b0,zbp.f,Option.bind_some,he]
   rw [chk_t (decide_eq_true (by simp only [List.length_singleton]; omega))]
  rw [forS]
  show (zcp.b0 l (i:Int) ids s).bind _=_
  rw [hb0]
  simp only [Option.bind_some]
  have:=ahead_loop l n (i + 1) (ids ++ [l[i].form]) ((l[i].name,l[i].form) :: s) zbd (by simp only [List.length_append,List.length_singleton]; omega)
  rw [show ((i:Int) + 1)=((i + 1:Nat):Int) by omega,this,List.drop_eq_getElem_cons hil]
  simp only [List.map_cons,List.reverse_cons,List.append_assoc,List.cons_append,List.nil_append,List.singleton_append]
theorem has_inb {M:List Nd} (i:Int):(jN M i).2=inb i M.length:=by
 unfold jN vz inb
 split <;> simp_all
theorem ahead_some {K:Nat} {M:List Nd} {l:List Hyp} {x:PTerm} {ids:List Int} (hK:66562 ≤ K) (hn:nmT x) (hb:(ids.length + l.length) * 8 ≤ 140737488355328) :
  zcp.f K (some M) l x ids=some (if (ids.all fun i=>inb i M.length) && hypsOk M l then (scS l,zaM x) else ([],31)):=by
 unfold zcp.f
 have h1:=ahead_loop l l.length 0 ids [] zbd zbd
 have e0:(((l.length:Nat):Int) - 0).toNat=l.length:=by omega
 simp only [zbj.f,Option.bind_some,show decide ((31:Int)=1)=false from rfl,Bool.false_eq_true,if_false,e0]
 rw [show (0:Int)=((0:Nat):Int) from rfl,h1]
 simp only [Option.bind_some,List.drop_zero,List.append_nil]
 generalize hids:ids ++ l.map (·.form)=js
 have h2:=zaa (b:=fun i s=>zcp.b1 (some M) (js,(l.map fun h=>(h.name,h.form)).reverse) i) (p:=fun k => !inb (js.getD k 0) M.length) (r:=fun _=>(([]:List (ByteArray × Int)),(31:Int))) js.length 0 () (by
  intro k _ hk
  unfold zcp.b1 at_
  simp only [zbh.f,Option.map_some,Option.bind_some,Int.toNat_natCast,has_inb]
  cases inb (js.getD k 0) M.length <;> rfl)
 have e1:(((js.length:Nat):Int) - ((0:Nat):Int)).toNat=js.length:=by omega
 rw [e1,h2]
 have h3:((ids.all fun i=>inb i M.length) && hypsOk M l) = !((List.range' 0 js.length).find? fun k => !inb (js.getD k 0) M.length).isSome:=by
  have h4:((ids.all fun i=>inb i M.length) && hypsOk M l)=js.all fun i=>inb i M.length:=by
   rw [← hids,List.all_append,hypsOk,List.all_map]; rfl
  rw [h4,← any_find,Bool.eq_iff_iff]
  simp only [List.all_eq_true,Bool.not_eq_true',List.any_eq_false,Bool.not_eq_true,Bool.not_eq_false',List.mem_range'_1]
  constructor
  ·intro hh k hk
   have hk':k < js.length:=by omega
   simp only [List.getD_eq_getElem?_getD,List.getElem?_eq_getElem hk',Option.getD_some]
   simpa using hh _ (List.getElem_mem hk')
  ·intro hh x hx
   obtain ⟨k,hk,rfl⟩ := List.getElem_of_mem hx
   have:=hh k ⟨by omega,by omega⟩
   simp only [List.getD_eq_getElem?_getD,List.getElem?_eq_getElem hk,Option.getD_some] at this
   simpa using this
 rw [h3]
 cases (List.range' 0 js.length).find? fun k => !inb (js.getD k 0) M.length with
 | none=>simp [aft,Check_some hK hn,scS]
 | some k=>simp [aft]
def whereS (M:List Nd) (l:List Hyp) (x:PTerm) (id:Int):List Int × Int:=if inb id M.length && hypsOk M l then (if zaM x ≠ 0 then ([],zaM x) else ((tyS M (depT x) x (scS l) (some id)).way,(tyS M (depT x) x (scS l) (some id)).code)) else ([],31)
theorem checkT_ok {x:PTerm} (h:¬ zaM x ≠ 0):sizeT x ≤ 65536∧depT x ≤ 1024∧rightT x=true:=by
 unfold zaM at h
 split at h
 ·simp at h
 ·split at h
  ·rename_i h1 h2; exact ⟨by omega,by omega,h2⟩
  ·simp at h
theorem code_err (t:TR):zci.f (err t)=some (t.way,t.code):=by
 cases t <;> simp [zci.f,err,TR.way,TR.code,zbr.f]
theorem Where_some {K:Nat} {M:List Nd} {l:List Hyp} {x:PTerm} {id:Int} (hM:Wf M) (hK:66562 ≤ K) (hn:nmT x) (hb:(1 + l.length) * 8 ≤ 140737488355328):zcq.f K (some M) l x id=some (whereS M l x id):=by
 unfold zcq.f whereS
 rw [ahead_some hK hn (by simpa using hb)]
 simp only [List.all_cons,List.all_nil,Bool.and_true,Option.bind_some]
 by_cases hl:(inb id M.length && hypsOk M l)=true
 ·simp only [hl,if_true]
  rw [Bool.and_eq_true] at hl
  by_cases hc:zaM x ≠ 0
  ·simp [hc]
  ·obtain ⟨h1,h2,h3⟩ := checkT_ok hc
   have e1:=(tc_prog hM (depT x) zbd x h3 (Nat.le_refl _)).2 (scS l) (scS_ok hl.2) id hl.1 K zbd
   simp only [hc,decide_false,Bool.false_eq_true,if_false,e1,Option.bind_some,code_err]
 ·simp [hl]
theorem CheckF_some {K:Nat} {M:List Nd} {l:List Hyp} {x:PTerm} {id:Int} (hM:Wf M) (hK:66562 ≤ K) (hn:nmT x) (hb:(1 + l.length) * 8 ≤ 140737488355328):zcr.f K (some M) l x id=some (whereS M l x id).2:=by
 unfold zcr.f
 rw [Where_some hM hK hn hb]; rfl
end
section
open Gw
def z0T:PTerm:=⟨0,ByteArray.empty,ByteArray.empty,0,[]⟩
def vT (s:ByteArray):PTerm:=⟨1,s,ByteArray.empty,0,[]⟩
def funT (s:ByteArray) (x:PTerm):PTerm:=⟨2,s,ByteArray.empty,0,[x]⟩
def nT (k:Int) (l:List PTerm):PTerm:=⟨k,ByteArray.empty,ByteArray.empty,0,l⟩
def axT (k:Int):PTerm :=
 if k=1 then funT ⟨#[97]⟩ (funT ⟨#[98]⟩ (vT ⟨#[97]⟩))
 else if k=2 then funT ⟨#[97]⟩ (funT ⟨#[98]⟩ (funT ⟨#[99]⟩ (nT 3 [nT 3 [vT ⟨#[97]⟩,vT ⟨#[99]⟩],nT 3 [vT ⟨#[98]⟩,vT ⟨#[99]⟩]])))
 else if k=3 then funT ⟨#[97]⟩ (nT 5 [vT ⟨#[97]⟩])
 else if k=4 then funT ⟨#[97]⟩ (nT 6 [vT ⟨#[97]⟩])
 else if k=5 then funT ⟨#[97]⟩ (funT ⟨#[98]⟩ (nT 4 [vT ⟨#[97]⟩,vT ⟨#[98]⟩]))
 else if k=6 then funT ⟨#[97]⟩ (nT 7 [vT ⟨#[97]⟩])
 else if k=7 then funT ⟨#[97]⟩ (nT 8 [vT ⟨#[97]⟩])
 else if k=8 then funT ⟨#[97]⟩ (funT ⟨#[98]⟩ (funT ⟨#[99]⟩ ⟨9,⟨#[100]⟩,⟨#[101]⟩,0,[vT ⟨#[99]⟩,nT 3 [vT ⟨#[97]⟩,vT ⟨#[100]⟩],nT 3 [vT ⟨#[98]⟩,vT ⟨#[101]⟩]]⟩))
 else funT ⟨#[97]⟩ (nT 10 [vT ⟨#[97]⟩])
def jh (x:Ln):PTerm:=if x.kind=10 then vT (hNm x.form) else if x.kind=11 then nT 3 [vT (lNm x.a),vT (lNm x.b)] else ⟨11,ByteArray.empty,ByteArray.empty,x.form,[axT x.kind]⟩
def letsT (ls:List Ln):Nat→PTerm→PTerm
 | 0,x=>x
 | n + 1,x=>letsT ls n ⟨12,lNm n,ByteArray.empty,0,[jh (at_ Ln.z ls n),x]⟩
def vX (ls:List Ln):PTerm:=letsT ls ls.length (vT (lNm ((ls.length:Int) - 1)))
theorem ax_prog (k:Int):zcH.f k=some (axT k):=by
 by_cases h1:k=1; · subst h1; rfl
 by_cases h2:k=2; · subst h2; rfl
 by_cases h3:k=3; · subst h3; rfl
 by_cases h4:k=4; · subst h4; rfl
 by_cases h5:k=5; · subst h5; rfl
 by_cases h6:k=6; · subst h6; rfl
 by_cases h7:k=7; · subst h7; rfl
 by_cases h8:k=8; · subst h8; rfl
 unfold zcH.f axT
 simp only [h1,h2,h3,h4,h5,h6,h7,h8,decide_false,Bool.false_eq_true,if_false]
 rfl
structure FineL (x:Ln):Prop where
 form:0 ≤ x.form∧x.form < 1024
 a:x.kind=11→0 ≤ x.a∧x.a < 9223372036854775808
 b:x.kind=11→0 ≤ x.b∧x.b < 9223372036854775808
theorem b0_prog {x:Ln} (h:FineL x) {i:Int} (h0:0 ≤ i) (h1:i < 9223372036854775808) (y:PTerm):zcI.b0 i x y=some (.go ⟨12,lNm i,ByteArray.empty,0,[jh x,y]⟩):=by
 have hf:=h.form
 unfold zcI.b0
 by_cases k10:x.kind=10
 ·simp only [k10,decide_true,if_true,Dec_prog hf.1 (show x.form < 9223372036854775808 by omega),Option.bind_some,jY h0 h1]
  rw [dec_ok 104 hf.1,chk,if_pos rfl]
  simp only [zcE.f,Option.bind_some]
  rw [show jh x=vT (hNm x.form) by unfold jh; rw [if_pos k10]]
  rfl
 ·by_cases k11:x.kind=11
  ·simp only [k11,show ¬ ((11:Int)=10) by decide,decide_false,Bool.false_eq_true,if_false,decide_true,if_true,jY (h.a k11).1 (h.a k11).2,jY (h.b k11).1 (h.b k11).2,Option.bind_some,zcE.f,zcF.f,jY h0 h1]
   rw [show jh x=nT 3 [vT (lNm x.a),vT (lNm x.b)] by unfold jh; rw [if_neg k10,if_pos k11]]
   rfl
  ·simp only [k10,k11,decide_false,Bool.false_eq_true,if_false,ax_prog,Option.bind_some,zcF.f,jY h0 h1]
   rw [show jh x=⟨11,ByteArray.empty,ByteArray.empty,x.form,[axT x.kind]⟩ by unfold jh; rw [if_neg k10,if_neg k11]]
   rfl
theorem bwd_snoc {α:Type} (l:List α) (y:α):bwd (l ++ [y])=((l.length:Int),y) :: bwd l:=by
 unfold bwd
 rw [List.zipIdx_append,List.map_append,List.reverse_append]
 simp
theorem loop_prog {ls:List Ln} (hb:ls.length < 9223372036854775808) (h : ∀ x ∈ ls,FineL x) : ∀ (n:Nat) (y:PTerm),n ≤ ls.length→forE (fun (x:Int × Ln) (s:PTerm)=>zcI.b0 x.1 x.2 s) (bwd (ls.take n)) y=some (.inl (letsT ls n y))
 | 0,y,_=>by simp [bwd,forE,letsT]
 | n + 1,y,hn=>by
  have hl:n < ls.length:=by omega
  have e:at_ Ln.z ls n=ls[n]:=by
   unfold at_; rw [Int.toNat_natCast,List.getD_eq_getElem?_getD,List.getElem?_eq_getElem hl]; rfl
  rw [List.take_succ_eq_append_getElem hl,bwd_snoc,forE]
  simp only [List.length_take,Nat.min_eq_left (show n ≤ ls.length by omega)]
  rw [b0_prog (h _ (List.getElem_mem hl)) zbd zbd]
  simp only [Option.bind_some]
  rw [loop_prog hb h n _ zbd,letsT,e]
-- nodes,levels,what is right
theorem right_ax1 (k:Int):rightT (axT k)=true:=by
 unfold axT
 repeat' split
 all_goals decide +kernel
theorem ba_em:ByteArray.empty=(⟨#[]⟩ : ByteArray):=rfl
theorem right_v {s:ByteArray} (h:isWord s):rightT (vT s)=true:=by
 simp [vT,rightT,rightL,nodeR,vj,h,PTerm.kind,PTerm.name,PTerm.other,PTerm.form,PTerm.sub,ba_em]
theorem right_part {x:Ln} (h:FineL x):rightT (jh x)=true:=by
 unfold jh
 split
 ·exact right_v (hNm_word h.form.1)
 split
 ·rename_i k
  have h1:=right_v (lNm_word (h.a k).1)
  have h2:=right_v (lNm_word (h.b k).1)
  simp [nT,rightT,rightL,nodeR,vj,h1,h2,PTerm.kind,PTerm.name,PTerm.other,PTerm.form,PTerm.sub,ba_em]
 ·have h1:=right_ax1 x.kind
  have hf:=h.form
  simp [rightT,rightL,nodeR,vj,h1,hf,PTerm.kind,PTerm.name,PTerm.other,PTerm.form,PTerm.sub,ba_em]
theorem right_lets {ls:List Ln} (h : ∀ x ∈ ls,FineL x) : ∀ (n:Nat) (y:PTerm),n ≤ ls.length→rightT y=true→rightT (letsT ls n y)=true
 | 0,y,_,hy=>hy
 | n + 1,y,hn,hy=>by
  have hl:n < ls.length:=by omega
  have e:at_ Ln.z ls n=ls[n]:=by
   unfold at_; rw [Int.toNat_natCast,List.getD_eq_getElem?_getD,List.getElem?_eq_getElem hl]; rfl
  rw [letsT]
  refine right_lets h n _ zbd ?_
  have h1:=right_part (h _ (List.getElem_mem hl))
  have h2:=lNm_word (show (0:Int) ≤ n by omega)
  rw [e]
  simp [rightT,rightL,nodeR,vj,h1,h2,hy,PTerm.kind,PTerm.name,PTerm.other,PTerm.form,PTerm.sub,ba_em]
theorem right_term {ls:List Ln} (h : ∀ x ∈ ls,FineL x) (h0:0 < ls.length):rightT (vX ls)=true :=
 right_lets h _ _ (Nat.le_refl _) (right_v (lNm_word zbd))
mutual
theorem nm_right : ∀ (x:PTerm),rightT x=true→nmT x
 | .mk k n o f s,h=>by
  simp only [rightT,Bool.and_eq_true] at h
  have h1:=h.1
  unfold nodeR at h1
  simp only [Bool.and_eq_true] at h1
  obtain ⟨⟨⟨_,hn⟩,ho⟩,_⟩ := h1
  have hw : ∀ s:ByteArray,isWord s→s.size < 9223372036854775808:=fun s hs=>by have:=hs.2.1; omega
  have hz : ∀ s:ByteArray,s=⟨#[]⟩ → s.size < 9223372036854775808:=fun s hs=>by subst hs; decide
  refine ⟨?_,?_,nm_rightL s h.2⟩
  ·split at hn
   ·exact hw _ (of_decide_eq_true hn)
   ·exact hz _ (of_decide_eq_true hn)
  ·split at ho
   ·exact hw _ (of_decide_eq_true ho)
   ·exact hz _ (of_decide_eq_true ho)
theorem nm_rightL : ∀ (l:List PTerm),rightL l=true→nmL l
 | [],_=>trivial
 | x :: l,h=>by
  simp only [rightL,Bool.and_eq_true] at h
  exact ⟨nm_right x h.1,nm_rightL l h.2⟩
end
theorem fine_of {M:List Nd} (hw:Wf M) {hyps:List Int} {ls:List Ln} (h:uo M hyps ls=0) (hb:ls.length < 9223372036854775808):(∀ x ∈ ls,FineL x)∧0 < ls.length:=by
 have hlen:=hw.len
 unfold uo at h
 split at h
 ·rename_i h1
  split at h
  ·rename_i h2
   simp only [Bool.and_eq_true] at h1 h2
   refine ⟨fun x hx=>?_,?_⟩
   ·obtain ⟨j,hj,e⟩ := List.getElem_of_mem hx
    have hr:=List.all_eq_true.1 h2.1 j (by simp; omega)
    have e2:at_ Ln.z ls (j:Int)=x:=by
     unfold at_; rw [Int.toNat_natCast,List.getD_eq_getElem?_getD,List.getElem?_eq_getElem hj]; exact e
    have h3:=zR (List.all_eq_true.1 h1.2 x hx)
    unfold kK at hr
    rw [e2] at hr
    refine ⟨⟨h3.1,by omega⟩,fun k=>?_,fun k=>?_⟩ <;>
    ·simp only [k,if_true,Bool.and_eq_true,decide_eq_true_eq] at hr
     omega
   ·cases ls with
    | nil=>simp at h2
    | cons x l=>simp
  ·simp at h
 ·simp at h
def termH (M:List Nd) (hyps:List Int) (ls:List Ln):PTerm × Int :=
 if uo M hyps ls ≠ 0 then (z0T,uo M hyps ls) else if 1024 < ls.length∨65536 < sizeT (vX ls)∨1024 < depT (vX ls) then (z0T,150) else (vX ls,0)
theorem TermH_some {M:List Nd} (hw:Wf M) {K:Nat} (hK:67000 ≤ K) {hyps:List Int} (hb:hyps.length < 4611686018427387904) {ls:List Ln} (hl:ls.length < 4611686018427387904) :
  zcI.f K (some M) hyps ls=some (some M,termH M hyps ls):=by
 have t1:uo M hyps ls=0→(1024 < ls.length∨65536 < sizeT (vX ls)∨1024 < depT (vX ls))→termH M hyps ls=(z0T,150):=fun hc h=>by unfold termH; rw [if_neg (by simpa using hc),if_pos h]
 have t2:uo M hyps ls=0→¬ (1024 < ls.length∨65536 < sizeT (vX ls)∨1024 < depT (vX ls))→termH M hyps ls=(vX ls,0):=fun hc h=>by unfold termH; rw [if_neg (by simpa using hc),if_neg h]
 unfold zcI.f
 rw [CheckH_some hw (show 10 ≤ K by omega) hb]
 simp only [Option.bind_some]
 by_cases hc:uo M hyps ls=0
 ·obtain ⟨hF,h0⟩ := fine_of hw hc zbd
  simp only [hc,ne_eq,not_true_eq_false,decide_false,Bool.false_eq_true,if_false]
  by_cases h1:1024 < ls.length
  ·rw [t1 hc (.inl h1),if_pos (by simp; omega)]; rfl
  ·rw [if_neg (by simp; omega),wrap_small ⟨by omega,by omega⟩,jY zbd zbd]
   simp only [Option.bind_some,zcE.f]
   have hlp:=loop_prog (show ls.length < 9223372036854775808 by omega) hF ls.length (vT (lNm ((ls.length:Int) - 1))) (Nat.le_refl _)
   rw [List.take_length] at hlp
   rw [show (⟨1,lNm ((ls.length:Int) - 1),ByteArray.empty,0,[]⟩ : PTerm)=vT (lNm ((ls.length:Int) - 1)) from rfl,hlp]
   simp only [Option.bind_some,fin]
   rw [show letsT ls ls.length (vT (lNm ((ls.length:Int) - 1)))=vX ls from rfl]
   unfold zbs.f zcb.f
   simp only [Option.bind_some]
   by_cases hs:65536 < sizeT (vX ls)
   ·have e1:min (sizeT (vX ls)) 65537=65537:=by omega
    rw [t1 hc (.inr (.inl hs)),e1]
    simp; rfl
   ·have e1:min (sizeT (vX ls)) 65537=sizeT (vX ls):=by omega
    have e2:¬ (65536:Int) < (sizeT (vX ls):Int):=by omega
    rw [e1,show (1025:Int)=((1025:Nat):Int) from rfl]
    simp only [e2,decide_false,Bool.not_false,if_true,deep_some K (vX ls) 1025 zbd zbd zbd zbd,Option.bind_some,Bool.false_or]
    by_cases hd:1024 < depT (vX ls)
    ·have e3:(1024:Int) < ((min (depT (vX ls)) 1025:Nat):Int):=by omega
     rw [t1 hc (.inr (.inr hd))]; simp only [e3,decide_true,if_true]; rfl
    ·have e3:¬ (1024:Int) < ((min (depT (vX ls)) 1025:Nat):Int):=by omega
     rw [t2 hc zbd]; simp only [e3,decide_false,Bool.false_eq_true,if_false]
 ·have t3:termH M hyps ls=(z0T,uo M hyps ls):=by unfold termH; rw [if_pos hc]
  rw [t3]; simp only [hc,ne_eq,not_false_eq_true,decide_true,if_true]; rfl
end
section
open Gw
end
section
open Gw
inductive Res where
 | ok (t:List Nd) (l:List Ln) (v:Int)
 | no (t:List Nd) (l:List Ln) (e:Int)
abbrev Act:=List Nd→List Ln→Res
def Grown (t t':List Nd):Prop:=t <+: t'∧Wf t'
def Imp (t:List Nd) (v a b:Int):Prop:=inb v t.length=true∧nd t v=impN a b
section
variable {μ:Type} (mk:Tb→List Ln→Int→μ)
variable {mk}
end
end
section
open Gw
def HasF (l:List Ln) (v f:Int):Prop:=inb v l.length=true∧(at_ Ln.z l v).form=f
def All (t:List Nd) (hy:List Int) (l:List Ln):Prop:=formsS t l=true ∧ ∀ j:Int,inb j l.length=true→kK t hy l j=true
structure Goes (t:List Nd) (hy:List Int) (l:List Ln) (t':List Nd) (l':List Ln):Prop where
 grown:Grown t t'
 pre:l <+: l'
 all:All t' hy l'
def Imgs (ls:List Ln) (h:Int) (t:List Nd) (l:List Ln) (img:List Int) (i:Nat):Prop := ∀ j:Nat,j < i → ∃ f,HasF l (at_ 0 img j) f∧Imp t f h (at_ Ln.z ls j).form
end
section
open Gw
structure Ready (M:List Nd) (hyps:List Int) (ls:List Ln) (h:Int) (t:List Nd) (l:List Ln) (img:List Int) (i:Nat):Prop where
 wf:Wf M
 forms:formsS M ls=true
 i_lt:i < ls.length
 right:kK M hyps ls i=true
 grown:Grown M t
 h_in:inb h M.length=true
 all:All t (hyps.filter fun x=>x ≠ h) l
 imgs:Imgs ls h t l img i
 len:l.length ≤ 4096
 imgl:img.length=ls.length
structure Loop16 (M:List Nd) (hyps:List Int) (ls:List Ln) (h:Int):Prop where
 wf:Wf M
 forms:formsS M ls=true
 right : ∀ j:Nat,j < ls.length→kK M hyps ls j=true
 h_in:inb h M.length=true
end
section
open Gw
end
section
open Gw
theorem check_iff {M:List Nd} {hyps:List Int} {ls:List Ln}:uo M hyps ls=0↔(hyps.all (fun h=>inb h M.length)=true∧All M hyps ls∧ls ≠ []):=by
 unfold uo All
 constructor
 ·intro hc
  split at hc
  ·rename_i h1
   split at hc
   ·rename_i h2
    simp only [Bool.and_eq_true] at h1 h2
    refine ⟨h1.1,⟨h1.2,fun j hj=>?_⟩,fun e=>?_⟩
    ·have h3:=zR hj
     have:=List.all_eq_true.1 h2.1 j.toNat (by simp; omega)
     rwa [show ((j.toNat:Nat):Int)=j by omega] at this
    ·rw [e] at h2; simp at h2
   ·simp at hc
  ·simp at hc
 ·rintro ⟨h1,⟨h2,h3⟩,h4⟩
  rw [if_pos (by simp [h1,h2]),if_pos]
  rw [Bool.and_eq_true]
  refine ⟨List.all_eq_true.2 fun j hj=>h3 j (inb_mk zbd (by have:=List.mem_range'_1.1 hj; omega)),?_⟩
  cases ls with
  | nil=>exact absurd rfl h4
  | cons x l=>rfl
end
section
open Gw
theorem told_v {M:List Nd} {P:Int→Sc→Option Int→TR} {s:Sc} {n:ByteArray} {f:Int} (h:s.find? (fun q=>decide (q.1=n))=some (n,f)):vd M P s (vT n) = .ok f:=by
 unfold vd
 rw [if_pos (show (vT n).kind=1 from rfl)]
 show (match s.find? (fun q=>decide (q.1=n)) with | some q=>TR.ok q.2 | none => .no 131 [])=_
 rw [h]
theorem ty_v {M:List Nd} {k:Nat} {s:Sc} {n:ByteArray} {f:Int} (hk:1 ≤ k) (h:s.find? (fun q=>decide (q.1=n))=some (n,f)):tyS M k (vT n) s none = .ok f:=by
 obtain ⟨k,rfl⟩ : ∃ k',k=k' + 1:=⟨k - 1,by omega⟩
 rw [tyS_told,told_v h]
theorem ty_vc {M:List Nd} {k:Nat} {s:Sc} {n:ByteArray} {f:Int} (hk:1 ≤ k) (h:s.find? (fun q=>decide (q.1=n))=some (n,f)):tyS M k (vT n) s (some f) = .ok f:=by
 obtain ⟨k,rfl⟩ : ∃ k',k=k' + 1:=⟨k - 1,by omega⟩
 rw [tyS_chkd]
 unfold v6
 rw [told_v h]
 simp [vT,PTerm.kind,TR.bind]
-- an axiom's term
theorem ty_ax {M:List Nd} {kd f:Int} (h:axS M kd f=true) (s:Sc) : ∀ k,depT (axT kd) ≤ k → ∃ g,tyS M k (axT kd) s (some f) = .ok g:=by
 intro k hk
 unfold axS at h
 by_cases h1:kd=1
 ·subst h1
  simp only [axT,if_true] at hk ⊢
  obtain ⟨k,rfl⟩ : ∃ k',k=k' + 3:=⟨k - 3,by simp [funT,nT,vT,depT,depL] at hk; omega⟩
  simp at h
  simp [tyS,v6,vd,ofK,funT,nT,vT,at_,TR.at_,TR.bind,h,PTerm.kind,PTerm.name,PTerm.sub,PTerm.other]
 by_cases h2:kd=2
 ·subst h2
  simp only [axT,show ¬ ((2:Int)=1) by decide,if_false,if_true] at hk ⊢
  obtain ⟨k,rfl⟩ : ∃ k',k=k' + 6:=⟨k - 6,by simp [funT,nT,vT,depT,depL] at hk; omega⟩
  simp at h
  simp [tyS,v6,vd,ofK,funT,nT,vT,at_,TR.at_,TR.bind,h,PTerm.kind,PTerm.name,PTerm.sub,PTerm.other]
 by_cases h3:kd=3
 ·subst h3
  simp only [axT,show ¬ ((3:Int)=1) by decide,show ¬ ((3:Int)=2) by decide,if_false,if_true] at hk ⊢
  obtain ⟨k,rfl⟩ : ∃ k',k=k' + 3:=⟨k - 3,by simp [funT,nT,vT,depT,depL] at hk; omega⟩
  simp at h
  simp [tyS,v6,vd,ofK,funT,nT,vT,at_,TR.at_,TR.bind,h,PTerm.kind,PTerm.name,PTerm.sub,PTerm.other]
 by_cases h4:kd=4
 ·subst h4
  simp only [axT,show ¬ ((4:Int)=1) by decide,show ¬ ((4:Int)=2) by decide,show ¬ ((4:Int)=3) by decide,if_false,if_true] at hk ⊢
  obtain ⟨k,rfl⟩ : ∃ k',k=k' + 3:=⟨k - 3,by simp [funT,nT,vT,depT,depL] at hk; omega⟩
  simp at h
  simp [tyS,v6,vd,ofK,funT,nT,vT,at_,TR.at_,TR.bind,h,PTerm.kind,PTerm.name,PTerm.sub,PTerm.other]
 by_cases h5:kd=5
 ·subst h5
  simp only [axT,show ¬ ((5:Int)=1) by decide,show ¬ ((5:Int)=2) by decide,show ¬ ((5:Int)=3) by decide,show ¬ ((5:Int)=4) by decide,if_false,if_true] at hk ⊢
  obtain ⟨k,rfl⟩ : ∃ k',k=k' + 4:=⟨k - 4,by simp [funT,nT,vT,depT,depL] at hk; omega⟩
  simp at h
  simp [tyS,v6,vd,ofK,funT,nT,vT,at_,TR.at_,TR.bind,h,PTerm.kind,PTerm.name,PTerm.sub,PTerm.other]
 by_cases h6:kd=6
 ·subst h6
  simp only [axT,show ¬ ((6:Int)=1) by decide,show ¬ ((6:Int)=2) by decide,show ¬ ((6:Int)=3) by decide,show ¬ ((6:Int)=4) by decide,show ¬ ((6:Int)=5) by decide,if_false,if_true] at hk ⊢
  obtain ⟨k,rfl⟩ : ∃ k',k=k' + 3:=⟨k - 3,by simp [funT,nT,vT,depT,depL] at hk; omega⟩
  simp at h
  simp [tyS,v6,vd,ofK,funT,nT,vT,at_,TR.at_,TR.bind,h,PTerm.kind,PTerm.name,PTerm.sub,PTerm.other]
 by_cases h7:kd=7
 ·subst h7
  simp only [axT,show ¬ ((7:Int)=1) by decide,show ¬ ((7:Int)=2) by decide,show ¬ ((7:Int)=3) by decide,show ¬ ((7:Int)=4) by decide,show ¬ ((7:Int)=5) by decide,show ¬ ((7:Int)=6) by decide,if_false,if_true] at hk ⊢
  obtain ⟨k,rfl⟩ : ∃ k',k=k' + 3:=⟨k - 3,by simp [funT,nT,vT,depT,depL] at hk; omega⟩
  simp at h
  simp [tyS,v6,vd,ofK,funT,nT,vT,at_,TR.at_,TR.bind,h,PTerm.kind,PTerm.name,PTerm.sub,PTerm.other]
 by_cases h8:kd=8
 ·subst h8
  simp only [axT,show ¬ ((8:Int)=1) by decide,show ¬ ((8:Int)=2) by decide,show ¬ ((8:Int)=3) by decide,show ¬ ((8:Int)=4) by decide,show ¬ ((8:Int)=5) by decide,show ¬ ((8:Int)=6) by decide,show ¬ ((8:Int)=7) by decide,if_false,if_true] at hk ⊢
  obtain ⟨k,rfl⟩ : ∃ k',k=k' + 6:=⟨k - 6,by simp [funT,nT,vT,depT,depL] at hk; omega⟩
  simp at h
  simp [tyS,v6,vd,ofK,funT,nT,vT,at_,TR.at_,TR.bind,h,PTerm.kind,PTerm.name,PTerm.sub,PTerm.other]
 by_cases h9:kd=9
 ·subst h9
  simp only [axT,show ¬ ((9:Int)=1) by decide,show ¬ ((9:Int)=2) by decide,show ¬ ((9:Int)=3) by decide,show ¬ ((9:Int)=4) by decide,show ¬ ((9:Int)=5) by decide,show ¬ ((9:Int)=6) by decide,show ¬ ((9:Int)=7) by decide,show ¬ ((9:Int)=8) by decide,if_false] at hk ⊢
  obtain ⟨k,rfl⟩ : ∃ k',k=k' + 3:=⟨k - 3,by simp [funT,nT,vT,depT,depL] at hk; omega⟩
  simp at h
  simp [tyS,v6,vd,ofK,funT,nT,vT,at_,TR.at_,TR.bind,h,PTerm.kind,PTerm.name,PTerm.sub,PTerm.other]
 simp [h1,h2,h3,h4,h5,h6,h7,h8,h9] at h
-- a line's part
def lsc (ls:List Ln):Nat→Sc
 | 0=>[]
 | n + 1=>(lNm n,(at_ Ln.z ls n).form) :: lsc ls n
theorem find_h {ls:List Ln} {base:Sc} {f:Int} (hf:0 ≤ f) : ∀ n:Nat,(lsc ls n ++ base).find? (fun q=>decide (q.1=hNm f))=base.find? (fun q=>decide (q.1=hNm f))
 | 0=>rfl
 | n + 1=>by
  have:¬ lNm n=hNm f:=fun e=>hl_ne hf (show (0:Int) ≤ n by omega) e.symm
  rw [lsc,List.cons_append,List.find?_cons]
  simp only [this,decide_false]
  exact find_h hf n
theorem find_l {ls:List Ln} {base:Sc} {a:Int} (h0:0 ≤ a) : ∀ n:Nat,a < n→n < 9223372036854775808→(lsc ls n ++ base).find? (fun q=>decide (q.1=lNm a))=some (lNm a,(at_ Ln.z ls a).form)
 | 0,h,_=>by omega
 | n + 1,h,hb=>by
  rw [lsc,List.cons_append,List.find?_cons]
  by_cases e:a=n
  ·subst e; simp
  ·have:¬ lNm n=lNm a:=fun q=>e (lNm_inj ⟨by omega,by omega⟩ ⟨by omega,by omega⟩ q).symm
   simp only [this,decide_false]
   exact find_l h0 n zbd zbd
def byH (hyps:List Int):List Hyp:=hyps.map fun h=>⟨hNm h,h⟩
theorem find_by {hyps:List Int} {f:Int} (hr : ∀ h ∈ hyps,0 ≤ h∧h < 9223372036854775808) (hf:f ∈ hyps):(scS (byH hyps)).find? (fun q=>decide (q.1=hNm f))=some (hNm f,f):=by
 have hm : ∀ q ∈ scS (byH hyps),∃ h ∈ hyps,q=(hNm h,h):=fun q hq=>by
  obtain ⟨a,ha,rfl⟩ := List.mem_map.1 (List.mem_reverse.1 hq)
  obtain ⟨h,hh,rfl⟩ := List.mem_map.1 ha
  exact ⟨h,hh,rfl⟩
 cases hc:(scS (byH hyps)).find? (fun q=>decide (q.1=hNm f)) with
 | none =>
  rw [List.find?_eq_none] at hc
  exact absurd (decide_eq_true (rfl:hNm f=hNm f)) (hc (hNm f,f) (List.mem_reverse.2 (List.mem_map.2 ⟨⟨hNm f,f⟩,List.mem_map.2 ⟨f,hf,rfl⟩,rfl⟩)))
 | some q =>
  obtain ⟨h,hh,rfl⟩ := hm q (List.mem_of_find?_eq_some hc)
  have e:hNm h=hNm f:=of_decide_eq_true (List.find?_some (p:=fun q:ByteArray × Int=>decide (q.1=hNm f)) hc)
  rw [hNm_inj (hr h hh) (hr f hf) e]
theorem ty_part {M:List Nd} {hyps:List Int} {ls:List Ln} (hr : ∀ h ∈ hyps,0 ≤ h∧h < 9223372036854775808) (hf:formsS M ls=true) {n:Nat} (hn:n < ls.length) (hb:ls.length < 9223372036854775808) (h:kK M hyps ls n=true) (hx:FineL (at_ Ln.z ls n)) :
  ∀ k,depT (jh (at_ Ln.z ls n)) ≤ k→tyS M k (jh (at_ Ln.z ls n)) (lsc ls n ++ scS (byH hyps)) none = .ok (at_ Ln.z ls n).form:=by
 intro k hk
 have hin:=form_in hf (inb_mk (show (0:Int) ≤ n by omega) zbd)
 unfold kK at h
 generalize hX:at_ Ln.z ls (n:Int)=x at *
 by_cases k10:x.kind=10
 ·have e:jh x=vT (hNm x.form):=by unfold jh; rw [if_pos k10]
  rw [e] at hk ⊢
  simp only [k10,show ¬ ((10:Int)=11) by decide,if_false,if_true,Bool.and_eq_true,List.any_eq_true,decide_eq_true_eq] at h
  obtain ⟨_,y,hy,rfl⟩ := h
  refine ty_v (by have:=depT_pos (vT (hNm x.form)); omega) ?_
  rw [find_h hx.form.1]
  exact find_by hr hy
 ·by_cases k11:x.kind=11
  ·have e:jh x=nT 3 [vT (lNm x.a),vT (lNm x.b)]:=by unfold jh; rw [if_neg k10,if_pos k11]
   rw [e] at hk ⊢
   simp only [k11,if_true,Bool.and_eq_true,decide_eq_true_eq] at h
   obtain ⟨⟨⟨⟨⟨⟨a0,a1⟩,b0⟩,b1⟩,c⟩,d⟩,e⟩ := h
   obtain ⟨k,rfl⟩ : ∃ k',k=k' + 2:=⟨k - 2,by simp [nT,vT,depT,depL] at hk; omega⟩
   have h1:=ty_v (M:=M) (k:=k + 1) zbd (find_l (ls:=ls) (base:=scS (byH hyps)) a0 n a1 zbd)
   have h2:=ty_vc (M:=M) (k:=k + 1) zbd (find_l (ls:=ls) (base:=scS (byH hyps)) b0 n b1 zbd)
   rw [tyS_told]
   unfold vd
   rw [if_neg (by simp [nT,PTerm.kind]),if_pos (show (nT 3 [vT (lNm x.a),vT (lNm x.b)]).kind=3 from rfl)]
   have g0:at_ PTerm.z (nT 3 [vT (lNm x.a),vT (lNm x.b)]).sub 0=vT (lNm x.a):=rfl
   have g1:at_ PTerm.z (nT 3 [vT (lNm x.a),vT (lNm x.b)]).sub 1=vT (lNm x.b):=rfl
   simp only [g0,g1,h1,TR.at_,TR.bind,ofK,c,if_true,d,h2,e]
  ·have e:jh x=⟨11,ByteArray.empty,ByteArray.empty,x.form,[axT x.kind]⟩ := by unfold jh; rw [if_neg k10,if_neg k11]
   rw [e] at hk ⊢
   simp only [k10,k11,if_false,Bool.and_eq_true] at h
   obtain ⟨k,rfl⟩ : ∃ k',k=k' + 1:=⟨k - 1,by simp [depT] at hk; omega⟩
   obtain ⟨g,hg⟩ := ty_ax h.2 (lsc ls n ++ scS (byH hyps)) k (by simp [depT,depL] at hk; omega)
   rw [tyS_told]
   unfold vd
   have g0:at_ PTerm.z (PTerm.mk 11 ByteArray.empty ByteArray.empty x.form [axT x.kind]).sub 0=axT x.kind:=rfl
   simp only [g0,PTerm.kind,PTerm.form,show ¬ ((11:Int)=1) by decide,show ¬ ((11:Int)=3) by decide,show ¬ ((11:Int)=5) by decide,show ¬ ((11:Int)=6) by decide,if_false,if_true,hin,hg,TR.at_,TR.bind]
theorem ty_lets {M:List Nd} {hyps:List Int} {ls:List Ln} (hr : ∀ h ∈ hyps,0 ≤ h∧h < 9223372036854775808) (hA:All M hyps ls) (hF : ∀ x ∈ ls,FineL x) (hb:ls.length < 9223372036854775808) {id:Int} : ∀ (n:Nat) (y:PTerm),n ≤ ls.length →
  (∀ k,depT y ≤ k → ∃ g,tyS M k y (lsc ls n ++ scS (byH hyps)) (some id) = .ok g) → ∀ k,depT (letsT ls n y) ≤ k → ∃ g,tyS M k (letsT ls n y) (scS (byH hyps)) (some id) = .ok g
 | 0,y,_,h=>h
 | n + 1,y,hn,h=>by
  have hl:n < ls.length:=by omega
  have e:at_ Ln.z ls n=ls[n]:=by
   unfold at_; rw [Int.toNat_natCast,List.getD_eq_getElem?_getD,List.getElem?_eq_getElem hl]; rfl
  have hx:=hF _ (List.getElem_mem hl)
  rw [← e] at hx
  rw [letsT]
  refine ty_lets hr hA hF hb n _ zbd fun k hk=>?_
  obtain ⟨k,rfl⟩ : ∃ k',k=k' + 1:=⟨k - 1,by simp [depT] at hk; omega⟩
  simp [depT,depL] at hk
  have h1:=ty_part hr hA.1 hl hb (hA.2 n (inb_mk zbd zbd)) hx k zbd
  obtain ⟨g,h2⟩ := h k zbd
  rw [lsc,List.cons_append] at h2
  rw [tyS_chkd]
  unfold v6
  have g0:at_ PTerm.z (PTerm.mk 12 (lNm n) ByteArray.empty 0 [jh (at_ Ln.z ls n),y]).sub 0=jh (at_ Ln.z ls n):=rfl
  have g1:at_ PTerm.z (PTerm.mk 12 (lNm n) ByteArray.empty 0 [jh (at_ Ln.z ls n),y]).sub 1=y:=rfl
  exact ⟨g,by simp only [g0,g1,PTerm.kind,PTerm.name,show ¬ ((12:Int)=2) by decide,show ¬ ((12:Int)=4) by decide,show ¬ ((12:Int)=7) by decide,show ¬ ((12:Int)=8) by decide,show ¬ ((12:Int)=9) by decide,show ¬ ((12:Int)=10) by decide,if_false,if_true,h1,h2,TR.at_,TR.bind]⟩
theorem ty_term {M:List Nd} {hyps:List Int} {ls:List Ln} (hr : ∀ h ∈ hyps,0 ≤ h∧h < 9223372036854775808) (hA:All M hyps ls) (hF : ∀ x ∈ ls,FineL x) (hb:ls.length < 9223372036854775808) (h0:0 < ls.length) : ∀ k,depT (vX ls) ≤ k → ∃ g,tyS M k (vX ls) (scS (byH hyps)) (some (lastS ls)) = .ok g :=
 ty_lets hr hA hF hb ls.length _ (Nat.le_refl _) fun k hk=>⟨_,ty_vc (by have:=depT_pos (vT (lNm ((ls.length:Int) - 1))); omega) (find_l zbd ls.length zbd hb)⟩
end
section
open Gw
theorem by_loop {K:Nat} (hK:30 ≤ K) {hyps:List Int} (hr : ∀ h ∈ hyps,0 ≤ h∧h < 9223372036854775808) (hb:hyps.length ≤ 16777216) : ∀ (n i:Nat) (acc:List Hyp),i + n=hyps.length→acc.length ≤ i→forS (fun i s=>zcQ.b0 K hyps i s) n i acc=some (acc ++ byH (hyps.drop i))
 | 0,i,acc,hi,_=>by rw [List.drop_eq_nil_of_le zbd]; simp [forS,byH]
 | n + 1,i,acc,hi,ha=>by
  have hil:i < hyps.length:=by omega
  have he:at_ (0:Int) hyps (i:Int)=hyps[i]:=by
   unfold at_; rw [Int.toNat_natCast,List.getD_eq_getElem?_getD,List.getElem?_eq_getElem hil]; rfl
  have h1:=hr _ (List.getElem_mem hil)
  simp only [forS]
  unfold zcQ.b0
  rw [he,Dec_doc hK h1.1 h1.2]
  simp only [Option.bind_some]
  rw [dec_ok 104 h1.1,chk,if_pos rfl,chk,if_pos (by simp; omega)]
  simp only [Option.bind_some]
  have:=by_loop hK hr hb n (i + 1) (acc ++ [⟨hNm hyps[i],hyps[i]⟩]) zbd (by simp; omega)
  unfold zcQ.b0 at this
  refine Eq.trans this ?_
  rw [List.drop_eq_getElem_cons hil,List.append_assoc]
  rfl
theorem told_some {M:List Nd} (hw:Wf M) {K:Nat} (hK:67000 ≤ K) {hyps:List Int} {ls:List Ln} (hc:uo M hyps ls=0) (h1:hyps.length ≤ 16777216) (h2:ls.length < 4611686018427387904):zcQ.f K (some M) hyps ls (lastS ls)=some (some M,true):=by
 have hlen:=hw.len
 obtain ⟨c1,c2,c3⟩ := check_iff.1 hc
 obtain ⟨hF,h0⟩ := fine_of hw hc zbd
 have hr : ∀ h ∈ hyps,0 ≤ h∧h < 9223372036854775808:=fun h hh=>by
  have:=zR (List.all_eq_true.1 c1 h hh); omega
 unfold zcQ.f
 rw [TellsH_some hw (show 10 ≤ K by omega) (show hyps.length < 4611686018427387904 by omega) h2]
 simp only [hc,if_true,Option.bind_some,zcK.f,ne_eq,not_true_eq_false,decide_false,Bool.or_false,Bool.false_eq_true,if_false]
 rw [TermH_some hw hK (show hyps.length < 4611686018427387904 by omega) h2]
 simp only [Option.bind_some]
 by_cases hf:1024 < ls.length∨65536 < sizeT (vX ls)∨1024 < depT (vX ls)
 ·have t:termH M hyps ls=(z0T,150):=by unfold termH; rw [if_neg (by simpa using hc),if_pos hf]
  rw [t]; simp
 ·have t:termH M hyps ls=(vX ls,0):=by unfold termH; rw [if_neg (by simpa using hc),if_neg hf]
  rw [t]
  have e0:(((hyps.length:Nat):Int) - 0).toNat=hyps.length:=by omega
  have hl:=by_loop (show 30 ≤ K by omega) hr h1 hyps.length 0 [] zbd zbe
  simp only [show ¬ ((0:Int)=150) by decide,decide_false,Bool.false_eq_true,if_false,decide_true,if_true]
  rw [e0,show forS (fun i s=>zcQ.b0 K hyps i s) hyps.length 0 ([]:List Hyp)=_ from hl]
  simp only [Option.bind_some,List.nil_append,List.drop_zero]
  have hrt:=right_term hF h0
  have hbl:(byH hyps).length=hyps.length:=by simp [byH]
  rw [CheckF_some hw zbd (nm_right _ hrt) (by rw [hbl]; omega)]
  have hck:zaM (vX ls)=0:=by unfold zaM; rw [if_neg zbd,if_pos hrt]
  have hid:inb (lastS ls) M.length=true:=form_in c2.1 (inb_mk zbd zbd)
  have hho:hypsOk M (byH hyps)=true:=List.all_eq_true.2 fun x hx=>by
   obtain ⟨h,hh,rfl⟩ := List.mem_map.1 hx
   exact List.all_eq_true.1 c1 h hh
  obtain ⟨g,hg⟩ := ty_term hr c2 hF (show ls.length < 9223372036854775808 by omega) h0 (depT (vX ls)) (Nat.le_refl _)
  have hwh:(whereS M (byH hyps) (vX ls) (lastS ls)).2=0:=by
   unfold whereS
   rw [if_pos (by rw [hid,hho]; rfl),if_neg (by simpa using hck),hg]; rfl
  rw [hwh]
  simp
theorem HilbertBack_true {K:Nat} (hK:67000 ≤ K) (hh:zcN.f K=some true) {rows:List Nd} (hn : ∀ n ∈ rows,n.name.size < 9223372036854775808) (hl:rows.length * 40 ≤ 140737488355328) {hyps:List Int} {ls:List Ln} (h1:hyps.length ≤ 16777216) (h2:ls.length * 32 ≤ 140737488355328):zcR.f K rows hyps ls=some true:=by
 obtain ⟨M,ht,hw,_⟩ := tables16 hn hl
 unfold zcR.f
 rw [ht]
 simp only [Option.bind_some,List.nil_append]
 rw [chk,if_pos (by simp; omega),TellsH_some hw (show 10 ≤ K by omega) (show hyps.length < 4611686018427387904 by omega) (show ls.length < 4611686018427387904 by omega)]
 simp only [Option.bind_some,zcK.f]
 by_cases hc:uo M hyps ls=0
 ·simp only [hc,if_true]
  have:=told_some hw hK hc h1 (show ls.length < 4611686018427387904 by omega)
  simp [this,hh]
 ·simp [hc,hh]
end
section
open Gw
end
section
open Gw
set_option maxRecDepth 100000
theorem heads16:zcN.f 70000=some true:=by decide +kernel
end
section
open Gw Go.ChangeShapes Go.WideShapes Go.ChangeAt Go.RowKit
set_option maxRecDepth 100000
theorem ownKnob_none:ownKnob PP.godebug=none:=by kernel_rfl
theorem laidOut_PP:laidOutB PP=true:=by kernel_rfl
theorem trodAll_stays {H:Type} {enc:TypeId × Value→H} {W W':World} {sp:Nat→Bool} : ∀ {ts:List TypeId} {vs:List Value} {ds:List (DataW H)} {ps:List MemPlace},(∀ t ∈ ts,PP.readableRec t=true∧t < PP.types.size) →
  DataW.TrodAll enc PP W 0 (fun _=>true) true ts vs ds ps→(∀ p ∈ ps,W.sameAt W' p)→(∀ p ∈ ps,sp p.block=true)→DataW.TrodAll enc PP W' 0 sp true ts vs ds ps
 | [],vs,ds,ps,_,h,_,_=>by
  obtain ⟨rfl,rfl,rfl⟩ := trodAll_nil h
  exact trodAll_mk0
 | t :: ts,vs,ds,ps,hr,h,h1,h2=>by
  obtain ⟨v,vs,d,ds,p,q,rfl,rfl,rfl,h0,h3⟩ := trodAll_cons h
  have ht:=hr t zbe
  exact trodAll_cons_mk (WideElems.Trod_stays laidOut_PP ht.1 ht.2 h0 (fun x hx=>h1 x (by simp [hx])) (fun x hx=>h2 x (by simp [hx])))
   (trodAll_stays (fun t ht=>hr t (by simp [ht])) h3 (fun x hx=>h1 x (by simp [hx])) (fun x hx=>h2 x (by simp [hx])))
def oth0:Oth:=⟨fun _=>False,[],fun _ h=>by cases h⟩
section
variable {P:Program} {W:World} {b t:Nat} {k:IntKind} {v:Value}
end
section
variable {H:Type} {enc:TypeId × Value→H} {P:Program} {W:World} {t:TypeId} {fuel:Nat} {cs:List Value} {x:DataW H × List MemPlace} {sp:Nat→Bool} {hd:Bool} {b0:Nat}
theorem take_one {l:List Value} {o:Nat} {v:Value} (h:(l.drop o).take 1=[v]):l[o]? = some v:=by
 have:((l.drop o).take 1)[0]? = some v:=by rw [h]; rfl
 rw [List.getElem?_take] at this
 simpa using this
theorem fld_int {i off ft:Nat} {k:IntKind} (hf:zah P t i off ft) (hk:P.underlying ft=some (.int k)) (hc:P.cellsOf ft=1) (h:DataW.trod enc P W b0 sp hd fuel t cs=some x) : ∃ n,cs[off]? = some (.int k n):=by
 obtain ⟨fs,fd,hu,hi,rfl,rfl⟩ := hf
 obtain ⟨xs,n,_,_,hl,hx,hall⟩ := DataW.trod_struct hu h
 have h1:=hall i fd hi
 have h2:i < xs.length:=by rw [hx]; exact (Array.getElem?_eq_some_iff.1 hi).1
 rw [List.getElem?_eq_getElem h2,hc] at h1
 obtain ⟨n,e,_⟩ := DataW.trod_int hk h1
 exact ⟨n,take_one e⟩
theorem fld_str {i off ft:Nat} (hf:zah P t i off ft) (hk:P.underlying ft=some .string) (hc:P.cellsOf ft=1) (h:DataW.trod enc P W b0 sp hd fuel t cs=some x) : ∃ s:ByteArray,cs[off]? = some (.string s)∧s.size ≤ maxLen:=by
 obtain ⟨fs,fd,hu,hi,rfl,rfl⟩ := hf
 obtain ⟨xs,n,_,_,hl,hx,hall⟩ := DataW.trod_struct hu h
 have h1:=hall i fd hi
 have h2:i < xs.length:=by rw [hx]; exact (Array.getElem?_eq_some_iff.1 hi).1
 rw [List.getElem?_eq_getElem h2,hc] at h1
 obtain ⟨s,e,_,hs⟩ := DataW.trod_string hk h1
 exact ⟨s,take_one e,hs⟩
theorem slice_of {α:Type} [Inhabited α] {e k:Nat} {C:α→List Value} {Q:α→Prop} {base:Nat} {v:Value} {d:DataW H} {ps:List MemPlace} (ht:P.underlying t=some (.slice e)) (hk:P.cellsOf e=k) (hC : ∀ a,(C a).length=k) (hk0:0 < k)
  (hel : ∀ (n:Nat) (cs:List Value) (x:DataW H × List MemPlace),DataW.trod enc P W 0 (fun _=>true) true n e cs=some x → ∃ a,cs=C a∧Q a)
  (hval:Value.okWide P W .any base t v) (h:DataW.Trod enc P W 0 (fun _=>true) true t v d ps) :
  ∃ (l:List α) (s:SlV),v=s.v∧Rd W k s (l.map C)∧(∀ a ∈ l,Q a)∧(l=[] ∨ ∃ elems spare,d = .slice elems spare∧elems.length=l.length):=by
 obtain ⟨a0,len0,cap0,rfl⟩ := okWide_slice ht hval
 obtain ⟨fuel,hf⟩ := h
 rcases Deep.open_slice ht hf with ⟨h1,h2⟩ | ⟨a,len,cap,m,n,D,Pl,h1,_,hlc,hcm,hm,h2,hx⟩
 ·simp [Value.cells] at h1
  obtain ⟨rfl,rfl,rfl⟩ := h1
  exact ⟨[],SlV.nil,SlV.nil_eq,Rd.nil W k,by simp,.inl rfl⟩
 ·simp [Value.cells] at h1
  obtain ⟨rfl,rfl,rfl⟩ := h1
  have hval2:=hval
  simp only [Value.okWide,ht,Cell.okWide,Cell.ok] at hval2
  obtain ⟨_,_,_,hspot,row,cells,hshape,_⟩ := hval2
  obtain ⟨ab,ao,asp⟩ := a
  obtain rfl:asp=none:=hspot
  simp only at hshape
  have hlt:ab < W.heap.size:=by
   unfold World.shape? at hshape
   cases hh:W.heap[ab]? with
   | none=>rw [hh] at hshape; cases hshape
   | some o=>exact (Array.getElem?_eq_some_iff.1 hh).1
  have hmc:m=cap0:=by rw [hm]; rfl
  obtain ⟨f,hfx⟩ := Deep.choose_lt (α:=α) (n:=len0) (p:=fun i y=>W.cells? 0 ((⟨ab,ao,none⟩ : Addr).add (i * P.cellsOf e)) (P.cellsOf e)=some (C y)∧Q y) (fun i hi=>by
   obtain ⟨cs',hc,ht'⟩ := hx i zbd
   obtain ⟨y,rfl,hq⟩ := hel _ _ _ ht'
   exact ⟨y,hc,hq⟩)
  refine ⟨(List.range len0).map f,⟨some ⟨ab,ao,none⟩,len0,cap0⟩,by rw [SlV.eq],⟨⟨by simp,?_,?_⟩,?_,hlc⟩,?_,.inr ⟨_,_,by simpa using congrArg Prod.fst h2,by simp⟩⟩
  ·intro r hr
   obtain ⟨y,_,rfl⟩ := List.mem_map.1 hr
   exact hC y
  ·intro i r hr
   rw [List.getElem?_map,List.getElem?_map] at hr
   have hi:i < len0:=by
    refine Nat.lt_of_not_le fun q=>?_
    rw [List.getElem?_eq_none (by simpa using q)] at hr; cases hr
   rw [List.getElem?_eq_getElem (by simpa using hi)] at hr
   simp only [List.getElem_range,Option.map_some,Option.some.injEq] at hr
   subst hr
   obtain ⟨h3,_⟩ := hfx i hi
   obtain ⟨_,hl,hc⟩ := World.cells?_some h3
   refine ⟨rfl,fun j v hv=>?_⟩
   have hj:j < k:=by have:=(List.getElem?_eq_some_iff.1 hv).1; rw [hC] at this; exact this
   have h4:=hc j (by rw [hk]; exact hj)
   rw [hv] at h4
   have hadd:((⟨ab,ao,none⟩ : Addr).add (i * P.cellsOf e)).add j=⟨ab,ao + i * k + j,none⟩ := by
    rw [hk]
    unfold Addr.add
    by_cases h5:i * k=0
    ·by_cases h6:j=0
     ·simp [h5,h6]
     ·simp [h5,h6]
    ·by_cases h6:j=0
     ·simp [h5,h6]
     ·simp [h5,h6]
   rw [hadd] at h4
   exact h4
  ·rintro i ⟨_,rfl⟩
   exact hlt
  ·intro y hy
   obtain ⟨i,hi,rfl⟩ := List.mem_map.1 hy
   exact (hfx i (List.mem_range.1 hi)).2
end
instance:Inhabited Nd:=⟨Nd.z⟩
theorem nds_of {H:Type} {enc:TypeId × Value→H} {W:World} {base:Nat} {v:Value} {d:DataW H} {ps:List MemPlace} (hval:Value.okWide PP W .any base v8 v) (h:DataW.Trod enc PP W 0 (fun _=>true) true v8 v d ps) :
  ∃ (l:List Nd) (s:SlV),v=s.v∧Rd W 4 s (l.map Nd.C)∧(∀ a ∈ l,a.name.size < 9223372036854775808)∧(l=[] ∨ ∃ elems spare,d = .slice elems spare∧elems.length=l.length):=by
 refine slice_of xb.1 zbf Nd.len zbc (fun n cs x hx=>?_) hval h
 obtain ⟨a,ha⟩ := fld_int fv_Nd_kind un_api_Kind zbf hx
 obtain ⟨b,hb,hbs⟩ := fld_str fv_Nd_name yR zbf hx
 obtain ⟨c,hc⟩ := fld_int fv_Nd_l un_int zbf hx
 obtain ⟨d,hd⟩ := fld_int fv_Nd_r un_int zbf hx
 obtain ⟨fs,fd,hu,_⟩ := fv_Nd_kind
 obtain ⟨xs,n',_,_,hl,_⟩ := DataW.trod_struct hu hx
 have hl:cs.length=4:=hl.trans zbf
 refine ⟨⟨a,b,c,d⟩,?_,by have:maxLen=9223372036854775807:=rfl; show b.size < _; omega⟩
 match cs,hl with
 | [v0,v1,v2,v3],_ =>
  simp at ha hb hc hd
  subst ha hb hc hd
  rfl
theorem bulk_one {H:Type} (d:DataW H):1 ≤ Rows.uptoBulk d:=by
 cases d with
 | lit l=>cases l <;> simp [Rows.uptoBulk]
 | nil=>simp [Rows.uptoBulk]
 | ptr d=>simp [Rows.uptoBulk]
 | slice elems spare=>simp [Rows.uptoBulk]
 | agg parts=>simp [Rows.uptoBulk]
 | iface t d=>simp [Rows.uptoBulk]
 | map entries=>simp [Rows.uptoBulk]
 | held h=>simp [Rows.uptoBulk]
theorem bulk_part {H:Type} {d:DataW H} {l:List (DataW H)} (h:d ∈ l):Rows.uptoBulk d ≤ Rows.uptoBulkAll l:=by
 induction l with
 | nil=>cases h
 | cons x r ih =>
  simp only [Rows.uptoBulkAll]
  cases List.mem_cons.1 h with
  | inl e=>subst e; omega
  | inr e=>have:=ih e; omega
theorem bulk_len {H:Type} (l:List (DataW H)):l.length ≤ Rows.uptoBulkAll l:=by
 induction l with
 | nil=>simp [Rows.uptoBulkAll]
 | cons x r ih=>have:=bulk_one x; simp only [Rows.uptoBulkAll,List.length_cons]; omega
theorem small_len {H:Type} {α:Type} {l:List α} {d:DataW H} {ds:List (DataW H)} (hk:Rows.uptoSmall H ds=true) (hd:d ∈ ds) (h:l=[] ∨ ∃ elems spare,d = .slice elems spare∧elems.length=l.length):l.length ≤ 1048576:=by
 rcases h with rfl | ⟨elems,spare,rfl,he⟩
 ·simp
 ·have h1:=bulk_part hd
  have h2:=bulk_len elems
  have h3:Rows.uptoBulkAll ds ≤ 1048576:=by simpa [Rows.uptoSmall] using hk
  simp only [Rows.uptoBulk] at h1
  omega
def Held (W:World) (Z:List OA):Prop := ∀ z ∈ Z,∃ F,z.holds W F
theorem Held.nil {W:World}:Held W []:=fun _ h=>by cases h
theorem Held.cons {W:World} {z:OA} {Z:List OA} (h : ∃ F,z.holds W F) (hz:Held W Z):Held W (z :: Z):=fun x hx=>by
 rcases List.mem_cons.1 hx with rfl | hx
 ·exact h
 ·exact hz x hx
theorem Held.s {W:World} {Z:List OA} {k:Nat} {α:Type} {C:α→List Value} {s:SlV} {l:List α} (hr:Rd W k s (l.map C)) (hl:l.length ≤ 140737488355328) (hz:Held W Z):Held W (fS k C s l :: Z) :=
 .cons ⟨s.fp,⟨hr,hl⟩,fun _=>Iff.rfl⟩ hz
theorem stheld {W:World} {Z:List OA} (h:Held W Z):St (fun _=>False) oth0 W W [] Z :=
 ⟨fun _=>False,fun _ h=>h.elim,fun _ h=>h.elim,Chg.refl _ _,trivial,fun z hz=>by
  obtain ⟨F,hF⟩ := h z hz
  exact ⟨F,hF,fun i _ q=>q.elim (fun x=>x) (fun x=>x)⟩,fun d hd=>absurd hd (by simp [oth0])⟩
theorem gEt:PP.globalNamed "errors.errorType" = some 0:=by kernel_rfl
theorem gRt:(PP.cutTypes.find? (·.1 == "internal/reflectlite.rtype")).map (·.2)=some 233:=by kernel_rfl
theorem gSize:PP.types.size=285:=by kernel_rfl
theorem gRow:((List.range 285).filter fun t=>PP.rowNamed t [101,114,114,111,114])=[170]:=by kernel_rfl
theorem gHandle:typeHandle PP 170 = .pointer (some ⟨4,170,none⟩):=by kernel_rfl
theorem et_core {W:World} (h:handlesMet PP [("errors.errorType",Rows.laid_errors_errorType)] W):Et W:=by
 obtain ⟨name,u,ty,e1,e2,e3,e4,e5⟩ := h _ (List.mem_singleton.2 rfl)
 have en:name=[101,114,114,111,114]:=(zbg e1).symm
 subst en
 obtain rfl:=zbg (gRt.symm.trans e2)
 have hm:ty ∈ (List.range 285).filter fun t=>PP.rowNamed t [101,114,114,111,114]:=List.mem_filter.2 ⟨List.mem_range.2 (by rw [← gSize]; exact e3),e4⟩
 rw [gRow] at hm
 obtain rfl:=List.mem_singleton.1 hm
 rw [gHandle] at e5
 intro j v hj
 cases j with
 | zero=>simp at hj; subst hj; simpa [etV] using World.var?_cell gEt e5 0
 | succ j=>simp at hj
theorem Held.et {W:World} {Z:List OA} (h:Et W) (hz:Held W Z):Held W (oEt :: Z) := .cons ⟨fun i=>i=0,h,fun _=>Iff.rfl⟩ hz
-- terms
instance:Inhabited Term:=⟨Term.z⟩
instance:Inhabited PTerm:=⟨PTerm.z⟩
instance:Inhabited Hyp:=⟨Hyp.z⟩
end
section
open Gw Go.ChangeShapes Go.WideShapes Go.ChangeAt Go.RowKit
set_option maxRecDepth 100000
def tz64:List Int:=Lib.deBruijn64tab.map fun (z:Nat)=>(z:Int)
def tz32:List Int:=Lib.deBruijn32tab.map fun (z:Nat)=>(z:Int)
theorem laidMet_tail {P:Program} {w:World} {x:String × DataW Unit} {l:List (String × DataW Unit)} (h:laidMet P (x :: l) w):laidMet P l w:=by
 obtain ⟨ps,⟨g,t,cs,fuel,p,q,_,_,_,_,hv,rfl⟩,hn,hr⟩ := h
 exact ⟨q,hv,(List.nodup_append.1 hn).2.1,fun b off hp=>hr b off (List.mem_append_right _ hp)⟩
theorem post_old {H:Type} {enc:TypeId × Value→H} {P:Program} {f:Func} {s:ChangeSpec} {apart fresh handsOn again:Bool} {W W':World} {args:Array Value} {v:Value} {ds gs:List (DataW H)} {before pa pv:List MemPlace}
  (hW:DataW.Whole enc P f.params.toList s.vars apart W args.toList ds gs before)
  (hres : ∀ (b:Nat) (sp:Nat→Bool) (hd:Bool),DataW.TrodAll enc P W' b sp hd f.resultTypes.toList (v.resultList f.resultTypes.size) (s.fn H (ds ++ gs)).results [])
  (hargs : ∀ sp:Nat→Bool,(∀ p ∈ before,sp p.block=true)→DataW.TrodAll enc P W' 0 sp true f.params.toList args.toList (s.fn H (ds ++ gs)).args pa)
  (hvars : ∀ sp:Nat→Bool,(∀ p ∈ before,sp p.block=true)→DataW.TrodVars enc P W' sp s.vars (s.fn H (ds ++ gs)).vars pv)
  (hps:before=pa ++ pv) (hk:W.keptBut W' (· ∈ before)) (hfz : ∀ a,a.block < W.heap.size→W'.frozen? a=W.frozen? a)
  (hok : ∀ (j:Nat) (t:TypeId) (r:Value),f.resultTypes[j]? = some t→(v.resultList f.resultTypes.size)[j]? = some r→Value.okWide P W' .any 0 t r) :
  s.post enc P f apart fresh handsOn again W args v W':=by
 have hlt : ∀ p ∈ before,p.block < W.heap.size:=fun p hp=>hW.lt p hp
 have h0 : ∀ p ∈ before,(fun b=>decide (b < W.heap.size)) p.block=true:=fun p hp=>decide_eq_true (hlt p hp)
 have hin : ∀ p ∈ before,p ∈ pa∨p ∈ pv:=fun p hp=>List.mem_append.1 (hps ▸ hp)
 have hin' : ∀ p,p ∈ ([] ++ pa) ++ pv→p ∈ before:=fun p hp=>by rw [hps]; simpa using hp
 refine ⟨ds,gs,before,[],pa,pv,hW,hres _ _ _,hargs _ h0,hvars _ h0,World.keptBut_mono (fun p hp=>⟨hp,.inr (hin p hp)⟩) hk,fun _=>?_⟩
 obtain ⟨_,_,_,_,_,hz,hn⟩ := hW
 refine ⟨hok,_,_,([] ++ pa) ++ pv,⟨[] ++ pa,pv,trodAll_append (hargs _ fun _ _=>rfl) (hres _ _ _),hvars _ (fun _ _=>rfl),rfl,fun b off hp=>?_,fun ha=>?_⟩,fun p hp _=>hin' p hp⟩
 ·have hb:=hin' _ hp
  rw [hfz _ (hlt _ hb)]; exact hz b off hb
 ·have:=hn ha
  rw [hps] at this
  simpa using this
theorem pw_core {W:World} {rest:List (String × DataW Unit)} (h:laidMet PP (("internal/strconv.uint64pow10",Rows.laid_internal_strconv_uint64pow10) :: rest) W):Pw W :=
 Lib.tabIs_of_head (rest:=rest) gPw (t:=T_20_uint64) (e:=T_uint64) (n:=20) zbf ar_20_uint64.1 zbf zbf zbf h
theorem laid_four {W:World} (h:laidMetH PP [("math/bits.deBruijn32tab",Rows.laid_math_bits_deBruijn32tab),("math/bits.deBruijn64tab",Rows.laid_math_bits_deBruijn64tab),("internal/strconv.uint64pow10",Rows.laid_internal_strconv_uint64pow10),("errors.errorType",Rows.laid_errors_errorType)] W):Pw W∧Et W:=by
 have h':laidMet PP [("math/bits.deBruijn32tab",Rows.laid_math_bits_deBruijn32tab),("math/bits.deBruijn64tab",Rows.laid_math_bits_deBruijn64tab),("internal/strconv.uint64pow10",Rows.laid_internal_strconv_uint64pow10)] W∧handlesMet PP [("errors.errorType",Rows.laid_errors_errorType)] W:=h
 exact ⟨pw_core (laidMet_tail (laidMet_tail h'.1)),et_core h'.2⟩
theorem Held.pw {W:World} {Z:List OA} (h:Pw W) (hz:Held W Z):Held W (oPw :: Z) := .cons ⟨fun i=>i=1,⟨h,fun _=>Iff.rfl⟩⟩ hz
instance:Inhabited Ln:=⟨Ln.z⟩
theorem lns_of {H:Type} {enc:TypeId × Value→H} {W:World} {base:Nat} {v:Value} {d:DataW H} {ps:List MemPlace} (hval:Value.okWide PP W .any base yn v) (h:DataW.Trod enc PP W 0 (fun _=>true) true yn v d ps) :
  ∃ (l:List Ln) (s:SlV),v=s.v∧Rd W 4 s (l.map Ln.C)∧(∀ a ∈ l,True)∧(l=[] ∨ ∃ elems spare,d = .slice elems spare∧elems.length=l.length):=by
 refine slice_of zV.1 zbf Ln.len zbc (fun n cs x hx=>?_) hval h
 obtain ⟨a,ha⟩ := fld_int fv_Ln_kind un_api_LineKind zbf hx
 obtain ⟨b,hb⟩ := fld_int fv_Ln_form un_int zbf hx
 obtain ⟨c,hc⟩ := fld_int fv_Ln_a un_int zbf hx
 obtain ⟨d,hd⟩ := fld_int fv_Ln_b un_int zbf hx
 obtain ⟨fs,fd,hu,_⟩ := fv_Ln_kind
 obtain ⟨xs,n',_,_,hl,_⟩ := DataW.trod_struct hu hx
 have hl:cs.length=4:=hl.trans zbf
 refine ⟨⟨a,b,c,d⟩,?_,trivial⟩
 match cs,hl with
 | [v0,v1,v2,v3],_ =>
  simp at ha hb hc hd
  subst ha hb hc hd
  rfl
theorem ints_of {H:Type} {enc:TypeId × Value→H} {W:World} {base:Nat} {v:Value} {d:DataW H} {ps:List MemPlace} (hval:Value.okWide PP W .any base T_L_int v) (h:DataW.Trod enc PP W 0 (fun _=>true) true T_L_int v d ps) :
  ∃ (l:List Int) (s:SlV),v=s.v∧Rd W 1 s (l.map IC)∧(∀ a ∈ l,True)∧(l=[] ∨ ∃ elems spare,d = .slice elems spare∧elems.length=l.length):=by
 refine slice_of xE.1 zbf (fun _=>rfl) zbc (fun n cs x hx=>?_) hval h
 obtain ⟨n,rfl,_⟩ := DataW.trod_int un_int hx
 exact ⟨n,rfl,trivial⟩
instance:Inhabited ByteArray:=⟨ByteArray.empty⟩
end
section
open Gw Go.ChangeShapes Go.WideShapes Go.ChangeAt Go.RowKit
set_option maxRecDepth 100000
namespace LawHilbertBack
theorem contract (H:Type) (enc:TypeId × Value→H) (W:World) (base:Nat) (args:Array Value) (ds gs:List (DataW H)) (before:List MemPlace)
  (hval : ∀ (j:Nat) t v,xx.params[j]? = some t→args[j]? = some v→Value.okWide PP W .any base t v)
  (hW:DataW.Whole enc PP xx.params.toList Rows.hilbertBackSpec.vars false W args.toList ds gs before) (hL:laidMetH PP Rows.hilbertBackUptoRow.laid W) (hsm:Rows.uptoSmall H (ds ++ gs)=true) :
  Calls PP yy args W fun e W' => ∃ v,e = .returned v∧Rows.hilbertBackSpec.post enc PP xx false true false false W args v W':=by
 have hW':=hW
 have hlt:=hW.lt
 obtain ⟨p,q,hA0,hV,rfl,hfz,hnd⟩ := hW
 have hA:DataW.TrodAll enc PP W 0 (fun _=>true) true xx.params.toList args.toList ds p:=hA0
 have hpar:xx.params = #[v8,T_L_int,yn]:=by kernel_rfl
 rw [hpar] at hA hval
 obtain ⟨v0,v1,v2,d0,d1,d2,p0,p1,p2,rfl,rfl,rfl,h0,h1,h2⟩ := trodAll_three hA
 obtain ⟨rfl,rfl⟩ := trodVars_none hV
 obtain ⟨a0,s0,rfl,hrd0,hnm0,hsl0⟩ := nds_of (hval 0 _ _ rfl rfl) h0
 have hln0:=small_len hsm zbe hsl0
 obtain ⟨a1,s1,rfl,hrd1,hnm1,hsl1⟩ := ints_of (hval 1 _ _ rfl rfl) h1
 have hln1:=small_len hsm zbe hsl1
 obtain ⟨a2,s2,rfl,hrd2,hnm2,hsl2⟩ := lns_of (hval 2 _ _ rfl rfl) h2
 have hln2:=small_len hsm zbe hsl2
 have S:=stheld (W:=W) (.s hrd0 zbd (.s hrd1 zbd (.s hrd2 zbd (.et (laid_four hL).2 (.pw (laid_four hL).1 .nil)))))
 refine (law16_HilbertBack_st S (HilbertBack_true (K:=70000) zbd heads16 hnm0 zbd zbd zbd)).mono fun e W' ⟨v,he,hv,hS⟩ => ?_
 subst hv
 have hx:=hS.frame
 refine ⟨_,he,post_old (pa:=p0 ++ p1 ++ p2) (pv:=[]) hW' (fun _ _ _=>trodAll_cons_mk (shut_bool un_bool _) trodAll_mk0) (fun sp hsp=>?_) (fun _ _=>rfl) zbe ((Ext.below hx).frame _) hx.froz (ok_one zbf rfl (okWide_bool_mk un_bool _))⟩
 rw [hpar]
 refine trodAll_stays (ts:=[v8,T_L_int,yn]) (fun t ht=>?_) hA (fun p hp=>(Ext.below hx).same (hlt p (by simpa using hp))) (fun p hp=>hsp p (by simpa using hp))
 simp only [List.mem_cons,List.not_mem_nil,or_false] at ht
 rcases ht with rfl | rfl | rfl <;> exact ⟨by kernel_rfl,of_decide_eq_true zbf⟩
noncomputable def laidWorld0 (os:Os):World :=
 { World.holding PP os ⟨#[],#[],[]⟩ with heap:=(World.holding PP os ⟨#[],#[],[]⟩).heap.modify 0 fun
   | .cells _ t frozen => .cells #[etV] t frozen
   | o=>o }
noncomputable def laidWorld1 (os:Os):World :=
 { laidWorld0 os with heap:=(laidWorld0 os).heap.modify 3 fun
   | .cells _ t frozen => .cells (tz64.map (Value.int .u8)).toArray t frozen
   | o=>o }
noncomputable def laidWorld2 (os:Os):World :=
 { laidWorld1 os with heap:=(laidWorld1 os).heap.modify 2 fun
   | .cells _ t frozen => .cells (tz32.map (Value.int .u8)).toArray t frozen
   | o=>o }
noncomputable def laidWorld (os:Os):World :=
 { laidWorld2 os with heap:=(laidWorld2 os).heap.modify 1 fun
   | .cells _ t frozen => .cells (Lib.pow10Tab.map (Value.int .u64)).toArray t frozen
   | o=>o }
def argsN:Array Value := #[.slice none 0 0,.slice none 0 0,.slice none 0 0]
theorem laid_met (os:Os):laidMetH PP Rows.hilbertBackUptoRow.laid ((laidWorld os).forCall (fun _ _=>0) ⟨#[],argsN,[]⟩).memory :=
 laidMetH_of_parts (laidMet_of_run' 8 zbf zbf) zbf
def ddN (H:Type):List (DataW H):=[.nil,.nil,.nil]
theorem reads (os:Os) {H:Type} (enc:TypeId × Value→H) : ∃ places,DataW.whole enc PP ((laidWorld os).forCall (fun _ _=>0) ⟨#[],argsN,[]⟩).memory xx.params.toList Rows.hilbertBackSpec.vars false argsN.toList 8=some (ddN H,[],places) :=
 ⟨[],by kernel_rfl⟩
theorem lifted (os:Os) (started:os.Started) (H:Type) (enc:TypeId × Value→H) (F:Stop.Interp) :
  ReturnsInHanded {} Tryz.checked os yy .any ((Rows.OpenSpec.upto Rows.hilbertBackSpec).preRow enc PP xx Rows.hilbertBackUptoRow.domain false Rows.hilbertBackUptoRow.laid) (((Rows.OpenSpec.upto Rows.hilbertBackSpec).at F).post enc PP xx false true false false):=by
 obtain ⟨places,hx⟩ := reads os enc
 refine returnsInHanded_of_row (C:=Tryz.checked) (s:=Rows.OpenSpec.upto Rows.hilbertBackSpec) ownKnob_none started zbf vG
  (witness_row_at (enc:=enc) (C:=Tryz.checked) false (laidWorld os) argsN rfl zbf zbf zbf
   (OpenSpec.preRow_of_cond 8 hx zbf (fun k hk=>by cases hk; kernel_rfl) zbf (laid_met os))) ?_
 intro W base args ds gs before hval hW _ hcond _ hL _ _
 exact contract H enc W base args ds gs before hval hW hL (hcond _ rfl)
theorem said:Rows.HilbertBackUptoSaid :=
 OpenClaim.holds_of_cond yy xx rfl rfl rfl rfl rfl rfl rfl ⟨rfl,rfl,rfl,rfl,rfl⟩ rfl rfl rfl rfl rfl zbf vG zbf
  (of_decide_eq_true zbf) (by unfold Func.isWrapper; first | (rw [if_pos (by decide +kernel)]; kernel_rfl) | (rw [if_neg (by decide +kernel)]; exact ⟨rfl,rfl⟩))
  (fun os started H enc _ F=>by rw [OpenClaim.pre_eq_preRow]; exact lifted os started H enc F)
theorem plain (f:FuncId) (fn:Func) (hf:Tryz.pinned.checked.prog.funcNamed "dictum/dictumlaw16.HilbertBack" = some f) (hfn:Tryz.pinned.checked.prog.funcs[f]? = some fn) :
  true=Tryz.pinned.checked.prog.looks [] ∧ ∀ (j:Nat) t,fn.params[j]? = some t→Tryz.pinned.checked.prog.wantsStandIn t=false:=by
 obtain rfl:f=yy:=zbg ((show PP.funcNamed "dictum/dictumlaw16.HilbertBack" = some yy by kernel_rfl).symm.trans hf) |>.symm
 obtain rfl:fn=xx:=(zbg (vG.symm.trans hfn)).symm
 refine ⟨by kernel_rfl,fun j t ht=>?_⟩
 rw [show xx.params = #[v8,T_L_int,yn] by kernel_rfl] at ht
 have hm:t ∈ [v8,T_L_int,yn]:=by simpa using Array.mem_of_getElem? ht
 simp only [List.mem_cons,List.not_mem_nil,or_false] at hm
 rcases hm with rfl | rfl | rfl
 ·exact (show PP.wantsStandIn v8=false by kernel_rfl)
 ·exact (show PP.wantsStandIn T_L_int=false by kernel_rfl)
 ·exact (show PP.wantsStandIn yn=false by kernel_rfl)
theorem card:Rows.HilbertBackUptoCardSaid :=
 Claim7.holds_tied_plain_at .later [] _ _ _ _ said (fun _ h=>by cases h) zbf (fun _ h=>by cases h) hilbertBackUpto_row_tie rfl ⟨rfl,rfl⟩ zbf rfl plain zbf
end LawHilbertBack
end
end Go.Proofs.YtflieamjacclnaaGreatDoor
