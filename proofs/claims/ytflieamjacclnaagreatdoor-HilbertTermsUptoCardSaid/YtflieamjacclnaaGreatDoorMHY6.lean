/- HilbertTerms, where what it reads is of the bulk that the row names: the row's statement and its card. The package variables that the row lists read as the program lays them. Printed by card16.py, a program of mine. -/
import Derived.Test.YtflieamjacclnaaGreatDoorMHY5
import Derived.Test.YtflieamjacclnaaGreatDoorCards
import Derived.Test.YtflieamjacclnaaGreatDoorTie
import Derived.WalkKit
import Derived.ProofKit
import Derived.OpenShut
import Derived.Deep.DeepHandedRow
import Derived.Deep.Slices
import Derived.LaidHandle
import Derived.Lib.LaidTab
import Derived.Lib.TrailingZeros
import Derived.ChangeSame
set_option linter.unusedVariables false
set_option linter.unusedSimpArgs false
namespace Go.Proofs.YtflieamjacclnaaGreatDoor
section
open Gw
theorem zar {σ ρ:Type} {b:Int→σ→Option (Stp σ ρ)} {p:Nat→Bool} {r:Nat→ρ} : ∀ (n i:Nat) (s:σ),(∀ j:Nat,i ≤ j→j < i + n→b j s=some (if p j then .ret (r j) else .go s))→forN b n i s=some (match (List.range' i n).find? p with | some j => .inr (r j) | none => .inl s)
 | 0,i,s,_=>rfl
 | n + 1,i,s,h=>by
  rw [forN,h i (Nat.le_refl _) zbw,List.range'_succ]
  cases hp:p i with
  | true=>simp [hp,List.find?_cons]
  | false =>
   have:=zar n (i + 1) s fun j h1 h2=>h j zbw zbw
   simpa [hp,List.find?_cons] using this
abbrev nd (M:List Nd) (i:Int):Nd:=(zaU M i).1
structure Wf (M:List Nd):Prop where
 len:M.length ≤ 1024
 nodup:M.Nodup
 kind : ∀ i:Int,inb i M.length=true→(nd M i).kind=1∨(nd M i).kind=2∨(nd M i).kind=3∨(nd M i).kind=4∨(nd M i).kind=5
 kids : ∀ i:Int,inb i M.length=true→(nd M i).kind=3∨(nd M i).kind=4∨(nd M i).kind=5→(0 ≤ (nd M i).l∧(nd M i).l < i)∧0 ≤ (nd M i).r∧(nd M i).r < i
 fits : ∀ (j:Nat) (n:Nd),M[j]? = some n→vn (M.take j) n=0
theorem Wf.left {M:List Nd} (h:Wf M) {i:Int} (hi:inb i M.length=true) (hk:(nd M i).kind=3∨(nd M i).kind=4∨(nd M i).kind=5):inb (nd M i).l M.length=true:=by
 have h1:=h.kids i hi hk
 have h2:=zI hi
 simp only [inb,Bool.and_eq_true,decide_eq_true_eq]; omega
theorem Wf.right {M:List Nd} (h:Wf M) {i:Int} (hi:inb i M.length=true) (hk:(nd M i).kind=3∨(nd M i).kind=4∨(nd M i).kind=5):inb (nd M i).r M.length=true:=by
 have h1:=h.kids i hi hk
 have h2:=zI hi
 simp only [inb,Bool.and_eq_true,decide_eq_true_eq]; omega
theorem Wf.bare {M:List Nd} (h:Wf M) {i:Int} (hi:inb i M.length=true) (hk:(nd M i).kind=3∨(nd M i).kind=4∨(nd M i).kind=5):(nd M i).name=⟨#[]⟩ := by
 have h1:=zI hi
 have h2:i.toNat < M.length:=by omega
 have e:nd M i=M[i.toNat]:=by
  unfold nd zaU ux
  rw [if_pos (by simp; omega)]
  simp [List.getD_eq_getElem?_getD,h2]
 have h3:=h.fits i.toNat _ (List.getElem?_eq_getElem h2)
 rw [← e] at h3
 unfold vn at h3
 rw [if_neg zbw,if_neg zbw,if_pos hk] at h3
 split at h3
 ·simp at h3
 ·rename_i hh
  simp only [not_or,Decidable.not_not] at hh
  exact hh.1.1
theorem find_congr {α:Type} {p q:α→Bool} : ∀ {l:List α},(∀ x ∈ l,p x=q x)→l.find? p=l.find? q
 | [],_=>rfl
 | x :: l,h=>by
  rw [List.find?_cons,List.find?_cons,h x zbx,find_congr fun y hy=>h y (by simp [hy])]
theorem any_find {α:Type} {p:α→Bool} : ∀ (l:List α),l.any p=(l.find? p).isSome
 | []=>rfl
 | x :: l=>by
  rw [List.any_cons,List.find?_cons,any_find l]
  cases p x <;> rfl
theorem inb_nat (j n:Nat):inb (j:Int) n=decide (j < n):=by
 unfold inb
 rw [decide_eq_true (show 0 ≤ (j:Int) by omega),Bool.true_and,decide_eq_decide]
 omega
theorem wrap_small {n:Int} (h:0 ≤ n∧n < 9223372036854775808):IntKind.i64.wrap n=n:=by
 exact IntWalk.i64_in _ ⟨by omega,by omega⟩
theorem idx_find (n:Nd) : ∀ (N:List Nd) (s:Nat),(List.range' s N.length).find? (fun k=>decide (N.getD (k - s) Nd.z=n))=(N.idxOf? n).map (· + s)
 | [],s=>rfl
 | a :: N,s=>by
  rw [List.length_cons,List.range'_succ,List.find?_cons,List.idxOf?_cons]
  by_cases h:a=n
  ·simp [h]
  ·have h1:(a == n)=false:=by simpa using h
   have h2:(List.range' (s + 1) N.length).find? (fun k=>decide ((a :: N).getD (k - s) Nd.z=n))=(List.range' (s + 1) N.length).find? (fun k=>decide (N.getD (k - (s + 1)) Nd.z=n)):=find_congr fun k hk=>by
    have hk:=(List.mem_range'_1.1 hk).1
    rw [show k - s=(k - (s + 1)) + 1 by omega]; simp
   simp only [Nat.sub_self,List.getD_cons_zero,h,decide_false,h1,h2,idx_find n N (s + 1)]
   cases N.idxOf? n with
   | none=>rfl
   | some k=>simp; omega
theorem docFind (N:List Nd) (n:Nd):zbW.f (some N) n=some (match N.idxOf? n with | some k=>((k:Int),true) | none=>(0,false)):=by
 unfold zbW.f
 have h1:=zar (b:=fun i s=>zbW.b0 (some N) n i) (p:=fun k=>decide (N.getD k Nd.z=n)) (r:=fun k=>((k:Int),true)) N.length 0 () (by
  intro k _ hk
  unfold zbW.b0 at_
  rw [Int.toNat_natCast,Option.getD_some]
  split <;> rfl)
 have e0:(((N.length:Nat):Int) - 0).toNat=N.length:=by omega
 simp only [Option.isSome_some,Option.getD_some,chk,if_true,e0]
 rw [show (0:Int)=((0:Nat):Int) from rfl,h1]
 have h2:=idx_find n N 0
 simp only [Nat.sub_zero,Nat.add_zero] at h2
 rw [h2]
 cases N.idxOf? n <;> rfl
theorem bind_eq {α β:Type} {x:Option α} {y:α} {f:α→Option β} {r:Option β} (hx:x=some y) (h:f y=r):x.bind f=r:=by rw [hx]; exact h
theorem docPut {N:List Nd} {n:Nd} (hN:N.length ≤ 1024) (hn:n.name.size < 9223372036854775808):zbX.f (some N) n=some (some (putS N n).1,(putS N n).2.1,(putS N n).2.2):=by
 have hrow : ∀ i:Int,zbV.f (some N) i=some (ux N i):=fun i=>by simp [zbV.f,chk,ux]
 have hend:((zbW.f (some N) n).bind fun r25=>if r25.2 then some (some N,r25.1,0) else chk (some N).isSome (if decide (1024 ≤ ((((some N).getD []).length:Nat):Int)) then some ((some ((some N).getD [])),0,30) else chk (decide ((((some N).getD []).length + 1) * 40 ≤ 140737488355328)) (some ((some (((some N).getD []) ++ [n])),IntKind.i64.wrap (((((some N).getD []) ++ [n]).length:Int) - 1),0)))) =
   (match N.idxOf? n with | some k=>some (some N,(k:Int),(0:Int)) | none=>if 1024 ≤ N.length then some (some N,0,30) else some (some (N ++ [n]),(N.length:Int),0)):=by
  rw [docFind]
  cases N.idxOf? n with
  | some k=>rfl
  | none =>
   simp only [Option.bind_some,Bool.false_eq_true,if_false,Option.isSome_some,Option.getD_some,chk,if_true,decide_eq_true_eq]
   by_cases h:1024 ≤ N.length
   ·have h1:(1024:Int) ≤ (N.length:Int):=by omega
    simp only [h,h1,if_true]
   ·have h1:¬ (1024:Int) ≤ (N.length:Int):=by omega
    have h2:(N.length + 1) * 40 ≤ 140737488355328:=by omega
    have h3:IntKind.i64.wrap (((N ++ [n]).length:Int) - 1)=(N.length:Int):=by
     rw [wrap_small (by simp; omega)]; simp
    simp only [h,h1,h2,h3,if_true,if_false]
 unfold zbX.f
 refine bind_eq (y:=if vn N n=0 then .inl (some N) else .inr (some N,0,vn N n)) ?_ ?_
 ·unfold vn
  simp only [hrow,zbG.f,hn,chk,decide_true,if_true,Option.bind_some]
  by_cases k1:n.kind=1
  ·simp only [k1,decide_true,if_true]
   by_cases hl:n.l=0
   ·by_cases hr:n.r=0
    ·by_cases hw:isWord n.name <;> simp [hl,hr,hw]
    ·simp [hl,hr]
   ·simp [hl]
  by_cases k2:n.kind=2
  ·have e:(n={ Nd.z with kind:=2 })↔(n.name=⟨#[]⟩ ∧ n.l=0∧n.r=0):=by
    constructor
    ·intro h; rw [h]; exact ⟨rfl,rfl,rfl⟩
    ·rintro ⟨h1,h2,h3⟩
     obtain ⟨a,b,c,d⟩ := n
     simp only at k2 h1 h2 h3
     subst k2 h1 h2 h3; rfl
   simp only [k2,decide_true,if_true,show ¬ ((2:Int)=1) by decide,decide_false,Bool.false_eq_true,if_false,e]
   by_cases hm:n.name=⟨#[]⟩
   ·by_cases hl:n.l=0
    ·by_cases hr:n.r=0 <;> simp [hm,hl,hr]
    ·simp [hm,hl]
   ·simp [hm]
  by_cases k3:n.kind=3∨n.kind=4∨n.kind=5
  ·have ho:((if decide (n.kind=3)=true then some (decide (n.kind=3)) else if decide (n.kind=4)=true then some (decide (n.kind=4)) else some (decide (n.kind=5))):Option Bool)=some true:=by
    rcases k3 with k | k | k <;> simp [k]
   simp only [k1,k2,k3,decide_false,Bool.false_eq_true,if_false,if_true]
   simp only [decide_eq_true_eq] at ho ⊢
   rw [ho]
   simp only [Option.bind_some,if_true]
   by_cases hm:n.name=⟨#[]⟩
   ·cases hl:ux N n.l with
    | false=>simp [hm,hl]
    | true=>cases hr:ux N n.r <;> simp [hm,hl,hr]
   ·simp [hm]
  ·have ho:((if decide (n.kind=3)=true then some (decide (n.kind=3)) else if decide (n.kind=4)=true then some (decide (n.kind=4)) else some (decide (n.kind=5))):Option Bool)=some false:=by
    simp only [not_or] at k3; simp [k3.1,k3.2.1,k3.2.2]
   simp only [k1,k2,k3,decide_false,Bool.false_eq_true,if_false,if_true]
   simp only [decide_eq_true_eq] at ho ⊢
   rw [ho]
   simp
 ·by_cases hf:vn N n=0
  ·rw [if_pos hf]
   refine Eq.trans (show _=_ from hend) ?_
   unfold putS
   rw [if_pos hf]
   cases N.idxOf? n with
   | some k=>rfl
   | none =>
    by_cases h:1024 ≤ N.length
    ·simp only [if_pos h]
    ·simp only [if_neg h]
  ·rw [if_neg hf,put_bad hf]; rfl
theorem progPut {N:List Nd} {n:Nd} (hn:n.name.size < 9223372036854775808):zbE.f (some N) n=some (some (putS N n).1,(putS N n).2.1,(putS N n).2.2):=by
 simp [zbE.f,chk,hn]
theorem rows_take {M:List Nd} {i:Nat} (hi:i < M.length):at_ Nd.z M i=M[i]:=by
 unfold at_; rw [Int.toNat_natCast,List.getD_eq_getElem?_getD,List.getElem?_eq_getElem hi]; rfl
theorem wf_push {N:List Nd} {n:Nd} (h:Wf N) (hf:vn N n=0) (hl:N.length < 1024) (hnew:n ∉ N):Wf (N ++ [n]):=by
 have hnd : ∀ i:Int,inb i N.length=true→nd (N ++ [n]) i=nd N i:=by
  intro i hi
  have h1:=zI hi
  unfold nd zaU ux
  have h2:i.toNat < N.length:=by omega
  rw [if_pos (by simp; omega),if_pos (by simp; omega)]
  simp only
  rw [List.getD_eq_getElem?_getD,List.getElem?_append_left h2,← List.getD_eq_getElem?_getD]
 have hlast:nd (N ++ [n]) N.length=n:=by
  unfold nd zaU ux
  rw [if_pos (by simp; omega)]
  simp
 have hsplit : ∀ i:Int,inb i (N ++ [n]).length=true→inb i N.length=true∨i=N.length:=by
  intro i hi
  have:=zI hi
  simp at this
  simp only [inb,Bool.and_eq_true,decide_eq_true_eq]; omega
 have hkind:n.kind=1∨n.kind=2∨n.kind=3∨n.kind=4∨n.kind=5:=by
  unfold vn at hf
  by_cases k1:n.kind=1
  ·exact .inl k1
  by_cases k2:n.kind=2
  ·exact .inr (.inl k2)
  by_cases k3:n.kind=3∨n.kind=4∨n.kind=5
  ·exact .inr (.inr k3)
  ·simp [k1,k2,k3] at hf
 refine ⟨by simp; omega,by rw [List.nodup_append]; exact ⟨h.nodup,by simp,fun a ha b hb e=>hnew (by rw [← List.mem_singleton.1 hb,← e]; exact ha)⟩,fun i hi=>?_,fun i hi hk=>?_,fun j m hm=>?_⟩
 ·rcases hsplit i hi with h1 | rfl
  ·rw [hnd i h1]; exact h.kind i h1
  ·rw [hlast]; exact hkind
 ·rcases hsplit i hi with h1 | rfl
  ·rw [hnd i h1] at hk ⊢; exact h.kids i h1 hk
  ·rw [hlast] at hk ⊢
   unfold vn at hf
   have k1:¬ n.kind=1:=by omega
   have k2:¬ n.kind=2:=by omega
   rw [if_neg k1,if_neg k2,if_pos hk] at hf
   split at hf
   ·simp at hf
   ·rename_i hh
    simp only [not_or,Bool.not_eq_false] at hh
    obtain ⟨⟨_,h1⟩,h2⟩ := hh
    simp only [ux,Bool.and_eq_true,decide_eq_true_eq] at h1 h2
    exact ⟨h1,h2⟩
 ·by_cases hj:j < N.length
  ·rw [List.getElem?_append_left hj] at hm
   rw [List.take_append_of_le_length zbw]; exact h.fits j m hm
  ·have hj2:j < (N ++ [n]).length:=(List.getElem?_eq_some_iff.1 hm).1
   have e:j=N.length:=by simp at hj2; omega
   subst e
   simp at hm
   subst hm
   simpa using hf
theorem from_some {rows:List Nd} (hn : ∀ n ∈ rows,n.name.size < 9223372036854775808) : ∃ r:Tb × Int,zbY.f rows=some r∧zbT.f rows=some r∧(r.2=0→r.1=some rows∧Wf rows):=by
 have hstep : ∀ (N:List Nd) (i:Nat),i < rows.length→N.length ≤ 1024→zbY.b0 rows i (some N)=some (if (putS N (at_ Nd.z rows i)).2.2 ≠ 0 then .ret (none,(putS N (at_ Nd.z rows i)).2.2) else if (putS N (at_ Nd.z rows i)).2.1 ≠ i then .ret (none,31) else .go (some (putS N (at_ Nd.z rows i)).1)) ∧
   zbT.b0 rows i (some N)=zbY.b0 rows i (some N):=by
  intro N i hi hN
  have hm:(at_ Nd.z rows i).name.size < 9223372036854775808:=by rw [rows_take hi]; exact hn _ (List.getElem_mem hi)
  have h1:zbY.b0 rows i (some N)=some (if (putS N (at_ Nd.z rows i)).2.2 ≠ 0 then .ret (none,(putS N (at_ Nd.z rows i)).2.2) else if (putS N (at_ Nd.z rows i)).2.1 ≠ i then .ret (none,31) else .go (some (putS N (at_ Nd.z rows i)).1)):=by
   unfold zbY.b0
   rw [docPut hN hm]
   simp only [Option.bind_some,decide_eq_true_eq]
   split
   ·rfl
   ·split <;> rfl
  refine ⟨h1,?_⟩
  rw [h1]
  unfold zbT.b0
  rw [progPut hm]
  simp only [Option.bind_some]
  by_cases e:(putS N (at_ Nd.z rows i)).2.2=0
  ·by_cases e2:(putS N (at_ Nd.z rows i)).2.1=i
   ·simp [e,e2]
   ·simp [e,e2]
  ·simp [e]
 have main : ∀ (n i:Nat),i + n=rows.length→i ≤ 1024→Wf (rows.take i) → ∃ o,forN (fun j s=>zbY.b0 rows j s) n i (some (rows.take i))=some o∧forN (fun j s=>zbT.b0 rows j s) n i (some (rows.take i))=some o ∧
   ((∃ e,e ≠ 0∧o = .inr (none,e))∨(o = .inl (some rows)∧Wf rows)):=by
  intro n
  induction n with
  | zero =>
   intro i hi _ hw
   rw [List.take_of_length_le zbw] at hw ⊢
   exact ⟨_,rfl,rfl,.inr ⟨rfl,hw⟩⟩
  | succ n ih =>
   intro i hi hle hw
   have hil:i < rows.length:=by omega
   have hlen:(rows.take i).length=i:=by simp; omega
   obtain ⟨h1,h2⟩ := hstep (rows.take i) i hil zbw
   simp only [forN]
   rw [h2,h1]
   by_cases e:(putS (rows.take i) (at_ Nd.z rows i)).2.2=0
   ·by_cases e2:(putS (rows.take i) (at_ Nd.z rows i)).2.1=i
    ·simp only [e,e2,ne_eq,not_true_eq_false,if_false,Option.bind_some]
     have hput:vn (rows.take i) (at_ Nd.z rows i)=0∧i < 1024∧at_ Nd.z rows i ∉ rows.take i∧(putS (rows.take i) (at_ Nd.z rows i)).1=rows.take i ++ [at_ Nd.z rows i]:=by
      by_cases hf:vn (rows.take i) (at_ Nd.z rows i)=0
      ·cases hk:(rows.take i).idxOf? (at_ Nd.z rows i) with
       | some k =>
        rw [put_old hf hk] at e2
        have:k < (rows.take i).length:=by
         have:=List.idxOf?_eq_some_iff.1 hk
         exact this.1
        simp only at e2; omega
       | none =>
        by_cases hl:1024 ≤ (rows.take i).length
        ·rw [put_full hf hk hl] at e; simp at e
        ·rw [put_new hf hk hl]
         exact ⟨hf,by omega,List.idxOf?_eq_none_iff.1 hk,rfl⟩
      ·rw [put_bad hf] at e; exact absurd e hf
     obtain ⟨hf,hlt,hnew,hp⟩ := hput
     have ht:rows.take i ++ [at_ Nd.z rows i]=rows.take (i + 1):=by
      rw [rows_take hil,List.take_succ_eq_append_getElem hil]
     rw [hp,ht]
     have:=ih (i + 1) zbw zbw (by rw [← ht]; exact wf_push hw hf zbw hnew)
     simpa using this
    ·simp only [e,e2,ne_eq,not_true_eq_false,not_false_eq_true,if_false,if_true,Option.bind_some]
     exact ⟨_,rfl,rfl,.inl ⟨31,by decide,rfl⟩⟩
   ·simp only [e,ne_eq,not_false_eq_true,if_true,Option.bind_some]
    exact ⟨_,rfl,rfl,.inl ⟨_,e,rfl⟩⟩
 have e0:(((rows.length:Nat):Int) - 0).toNat=rows.length:=by omega
 obtain ⟨o,h1,h2,h3⟩ := main rows.length 0 zbw zbw ⟨by simp,by simp,fun i hi=>absurd (zI hi) zbx,fun i hi=>absurd (zI hi) zbx,fun j n h=>by simp at h⟩
 unfold zbY.f zbT.f zbI.f
 rw [e0]
 simp only [Option.bind_some]
 rw [show (0:Int)=((0:Nat):Int) from rfl]
 rw [List.take_zero] at h1 h2
 rw [h1,h2]
 rcases h3 with ⟨e,he,rfl⟩ | ⟨rfl,hw⟩
 ·exact ⟨_,rfl,rfl,fun q=>absurd q he⟩
 ·exact ⟨_,rfl,rfl,fun _=>⟨rfl,hw⟩⟩
theorem same_self (l:List Nd):zbU.f l l=some true:=by
 unfold zbU.f
 have h1:=zar (b:=fun i s=>zbU.b0 l l i) (p:=fun _=>false) (r:=fun _=>false) l.length 0 () (by
  intro k _ hk
  unfold zbU.b0
  rw [inb_nat]
  simp [chk]
  omega)
 have e0:(((l.length:Nat):Int) - 0).toNat=l.length:=by omega
 rw [e0,show (0:Int)=((0:Nat):Int) from rfl,h1,show (List.range' 0 l.length).find? (fun _=>false)=none from List.find?_eq_none.2 zbx,if_neg zbx]
 rfl
theorem like_self (M:List Nd):zbZ.f (some M) (some M)=some true:=by
 simp [zbZ.f,chk,zbJ.f,same_self,zbB.f]
theorem both_some {rows:List Nd} (hn : ∀ n ∈ rows,n.name.size < 9223372036854775808) (hl:rows.length * 40 ≤ 140737488355328):zca.f rows=some (none,none,false)∨(zca.f rows=some (some rows,some rows,true)∧Wf rows):=by
 obtain ⟨r,h1,h2,h3⟩ := from_some hn
 have hc:(([]:List Nd).length + rows.length) * 40 ≤ 140737488355328:=by rw [List.length_nil,Nat.zero_add]; exact hl
 unfold zca.f
 rw [chk,if_pos (decide_eq_true hc),h1]
 simp only [Option.bind_some,List.nil_append,h2]
 by_cases e:r.2=0
 ·obtain ⟨h4,hw⟩ := h3 e
  exact .inr ⟨by rw [h4]; simp [e],hw⟩
 ·exact .inl (by simp [e])
end
section

end
section
open Gw
-- terms: nodes,levels,what is right
mutual
def depT:PTerm→Nat
 | .mk _ _ _ _ s=>1 + depL s
def depL:List PTerm→Nat
 | []=>0
 | x :: l=>max (depT x) (depL l)
end
def zbh (k:Int):Int:=if k=1 then 0 else if k=9 then 3 else if k=3∨k=4∨k=12 then 2 else if k=2∨k=5∨k=6∨k=7∨k=8∨k=10∨k=11 then 1 else -1
def nodeR (x:PTerm):Bool :=
 decide (zbh x.kind=x.sub.length) && (if x.kind=1∨x.kind=2∨x.kind=9∨x.kind=12 then decide (isWord x.name) else decide (x.name=⟨#[]⟩)) &&
  (if x.kind=9 then decide (isWord x.other) else decide (x.other=⟨#[]⟩)) && (if x.kind=11 then decide (0 ≤ x.form) && decide (x.form < 1024) else decide (x.form=0))
mutual
def rightT:PTerm→Bool
 | .mk k n o f s=>nodeR (.mk k n o f s) && rightL s
def rightL:List PTerm→Bool
 | []=>true
 | x :: l=>rightT x && rightL l
end
mutual
def nmT:PTerm→Prop
 | .mk _ n o _ s=>n.size < 9223372036854775808∧o.size < 9223372036854775808∧nmL s
def nmL:List PTerm→Prop
 | []=>True
 | x :: l=>nmT x∧nmL l
end
theorem depT_eq (x:PTerm):depT x=1 + depL x.sub:=by cases x; simp [depT,PTerm.sub]
theorem rightT_eq (x:PTerm):rightT x=(nodeR x && rightL x.sub):=by cases x; simp [rightT,PTerm.sub]
theorem nmT_eq (x:PTerm):nmT x↔x.name.size < 9223372036854775808∧x.other.size < 9223372036854775808∧nmL x.sub:=by cases x; simp [nmT,PTerm.sub,PTerm.name,PTerm.other]
theorem nmL_mem : ∀ {l:List PTerm},nmL l → ∀ x ∈ l,nmT x
 | [],_,_,h=>by simp at h
 | y :: l,h,x,hx=>by
  simp only [nmL] at h
  rcases List.mem_cons.1 hx with rfl | hx
  ·exact h.1
  ·exact nmL_mem h.2 x hx
theorem depL_mem : ∀ {l:List PTerm},∀ x ∈ l,depT x ≤ depL l
 | [],_,h=>by simp at h
 | y :: l,x,hx=>by
  simp only [depL]
  rcases List.mem_cons.1 hx with rfl | hx
  ·omega
  ·have:=depL_mem x hx; omega
theorem at_mem {l:List PTerm} {i:Int} (h:0 ≤ i∧i < l.length):at_ PTerm.z l i ∈ l:=List.mem_of_getElem? (xp PTerm.z h)
inductive TR where
 | ok (f:Int)
 | no (c:Int) (way:List Int)
 deriving DecidableEq
namespace TR
def at_ (i:Int):TR→TR
 | ok f=>ok f
 | no c w=>no c (i :: w)
def bind (r:TR) (k:Int→TR):TR:=match r with
 | ok f=>k f
 | no c w=>no c w
def code:TR→Int
 | ok _=>0
 | no c _=>c
def way:TR→List Int
 | ok _=>[]
 | no _ w=>w
def form:TR→Int
 | ok f=>f
 | no _ _=>0
end TR
abbrev Sc:=List (ByteArray × Int)
def ofK (M:List Nd) (f k:Int) (g:Nd→TR):TR:=if (nd M f).kind=k then g (nd M f) else .no 130 []
def toldS (M:List Nd) (P:Int→Sc→Option Int→TR) (s:Sc) (x:PTerm):TR :=
 if x.kind=1 then (match s.find? (fun q=>decide (q.1=x.name)) with | some q => .ok q.2 | none => .no 131 [])
 else if x.kind=3 then (P 0 s none).bind fun f=>ofK M f 5 fun n=>(P 1 s (some n.l)).bind fun _ => .ok n.r
 else if x.kind=5 then (P 0 s none).bind fun f=>ofK M f 3 fun n => .ok n.l
 else if x.kind=6 then (P 0 s none).bind fun f=>ofK M f 3 fun n => .ok n.r
 else if x.kind=11 then (if inb x.form M.length then (P 0 s (some x.form)).bind fun _ => .ok x.form else .no 31 [])
 else if x.kind=12 then (P 0 s none).bind fun f=>P 1 ((x.name,f) :: s) none
 else if x.kind=9 then (P 0 s none).bind fun f=>ofK M f 4 fun n=>(P 1 ((x.name,n.l) :: s) none).bind fun a=>(P 2 ((x.other,n.r) :: s) none).bind fun b=>if a=b then .ok a else .no 130 []
 else .no 132 []
def chkdS (M:List Nd) (P:Int→Sc→Option Int→TR) (s:Sc) (x:PTerm) (id:Int):TR :=
 if x.kind=2 then ofK M id 5 fun n=>P 0 ((x.name,n.l) :: s) (some n.r)
 else if x.kind=4 then ofK M id 3 fun n=>(P 0 s (some n.l)).bind fun _=>P 1 s (some n.r)
 else if x.kind=7 then ofK M id 4 fun n=>P 0 s (some n.l)
 else if x.kind=8 then ofK M id 4 fun n=>P 0 s (some n.r)
 else if x.kind=9 then (P 0 s none).bind fun f=>ofK M f 4 fun n=>(P 1 ((x.name,n.l) :: s) (some id)).bind fun _=>P 2 ((x.other,n.r) :: s) (some id)
 else if x.kind=10 then (P 0 s none).bind fun f=>ofK M f 2 fun _ => .ok id
 else if x.kind=12 then (P 0 s none).bind fun f=>P 1 ((x.name,f) :: s) (some id)
 else (toldS M P s x).bind fun f=>if f=id then .ok id else .no 130 []
def tyS (M:List Nd):Nat→PTerm→Sc→Option Int→TR
 | 0,_,_,_ => .no 132 []
 | k + 1,x,s,want =>
  let P:Int→Sc→Option Int→TR:=fun i s' w=>(tyS M k (at_ PTerm.z x.sub i) s' w).at_ i
  match want with
  | none=>toldS M P s x
  | some id=>chkdS M P s x id
end
section
open Gw
theorem chk_t {α:Type} {b:Bool} {x:Option α} (h:b=true):chk b x=x:=by rw [chk,if_pos h]
theorem k7 {n:Nat} (h:n < 9223372036854775808):IntKind.i64.wrap (n:Int)=n:=wrap_small ⟨by omega,by omega⟩
theorem iter_count {τ ρ:Type} {b:τ × Int→Option (Stp (τ × Int) ρ)} (g:Nat→τ) (n:Nat)
  (h : ∀ i,i < n→b (g i,(i:Int))=some (.go (g (i + 1),((i + 1:Nat):Int)))∨(b (g i,(i:Int))=some (.brk (g i,(i:Int)))∧g i=g n)) (he:b (g n,(n:Int))=some (.brk (g n,(n:Int)))) :
  ∀ (k i:Nat),i ≤ n→n - i < k → ∃ j:Int,iter b k (g i,(i:Int))=some (.inl (g n,j))
 | 0,i,_,hk=>by omega
 | k + 1,i,hi,hk=>by
  by_cases hin:i=n
  ·subst hin; exact ⟨(i:Int),by simp only [iter,he,Option.bind_some]⟩
  ·rcases h i zbw with h1 | ⟨h1,h2⟩
   ·obtain ⟨j,hj⟩ := iter_count g n h he k (i + 1) zbw zbw
    exact ⟨j,by simp only [iter,h1,Option.bind_some]; exact hj⟩
   ·exact ⟨(i:Int),by rw [iter,h1]; simp only [Option.bind_some,h2]⟩
theorem depL_take : ∀ {l:List PTerm} {i:Nat} {x:PTerm},l[i]? = some x→depL (l.take (i + 1))=max (depL (l.take i)) (depT x)
 | [],_,_,h=>by simp at h
 | y :: l,0,x,h=>by simp at h; subst h; simp [depL]
 | y :: l,i + 1,x,h=>by
  have:=depL_take (l:=l) (i:=i) (by simpa using h)
  simp only [List.take_succ_cons,depL]; omega
theorem depL_le : ∀ {l:List PTerm} (i:Nat),depL (l.take i) ≤ depL l
 | [],i=>by simp
 | y :: l,0=>by simp [depL]
 | y :: l,i + 1=>by have:=depL_le (l:=l) i; simp only [List.take_succ_cons,depL]; omega
theorem zbr : ∀ (l:List PTerm),l.length ≤ sizeL l
 | []=>by simp
 | y :: l=>by have:=zbr l; have:=sizeT_pos y; simp only [List.length_cons,sizeL]; omega
theorem kG : ∀ {l:List PTerm} {x:PTerm},x ∈ l→sizeT x ≤ sizeL l
 | [],_,h=>by simp at h
 | y :: l,x,h=>by
  simp only [sizeL]
  rcases List.mem_cons.1 h with rfl | h
  ·omega
  ·have:=kG h; omega
theorem at_nat {l:List PTerm} {i:Nat} (h:i < l.length):at_ PTerm.z l (i:Int)=l[i]:=by
 unfold at_; rw [Int.toNat_natCast,List.getD_eq_getElem?_getD,List.getElem?_eq_getElem h]; rfl
theorem depT_pos (x:PTerm):1 ≤ depT x:=by rw [depT_eq]; omega
-- levels,as the program counts them
theorem deep_some : ∀ (K:Nat) (x:PTerm) (most:Nat),1 ≤ most→most ≤ 1025→sizeT x ≤ 65536→sizeT x + most < K→zcy.f K x (most:Int)=some ((min (depT x) most:Nat):Int)
 | 0,_,_,_,_,_,h=>by omega
 | K + 1,x,most,h1,h2,h3,hK=>by
  show zcy.g (zcy.f K) K x most=_
  unfold zcy.g
  by_cases hm:most=1
  ·subst hm
   rw [if_pos zbv]
   have:=depT_pos x
   rw [show min (depT x) 1=1 by omega]
  rw [if_neg (by simp; omega)]
  have hw:IntKind.i64.wrap ((most:Int) - 1)=((most - 1:Nat):Int):=by
   rw [show ((most:Int) - 1)=((most - 1:Nat):Int) by omega]; exact k7 zbw
  have hs:=k6 x
  have hls:=zbr x.sub
  obtain ⟨j,hj⟩ := iter_count (b:=fun s=>zcy.b0 x most (zcy.f K) s.1 s.2) (g:=fun i=>((min (depL (x.sub.take i)) (most - 1):Nat):Int)) x.sub.length (fun i hi=>by
   have he:=List.getElem?_eq_getElem hi
   have hd:=depL_take he
   have hle:=depL_le (l:=x.sub) i
   simp only [zcy.b0,hw]
   by_cases hc:min (depL (x.sub.take i)) (most - 1) < most - 1
   ·left
    rw [if_pos (by simp; omega),chk_t (by rw [inb_nat]; exact decide_eq_true hi),at_nat hi,deep_some K _ (most - 1) zbw zbw (by have:=kG (List.getElem_mem hi); omega) (by have:=kG (List.getElem_mem hi); omega)]
    simp only [Option.bind_some]
    rw [show (i:Int) + 1=((i + 1:Nat):Int) by omega,k7 zbw]
    congr 3
    rw [hd]
    split <;> omega
   ·right
    rw [if_neg (by simp; omega)]
    refine ⟨rfl,?_⟩
    rw [List.take_length]
    congr 1
    omega) (by
   simp only [zcy.b0,hw]
   rw [if_neg zbx]) K 0 zbw zbw
  simp only [List.take_zero,depL,Nat.zero_min,List.take_length] at hj
  rw [show ((0:Nat):Int)=0 from rfl] at hj
  rw [hj]
  simp only [Option.bind_some,aft]
  rw [show ((min (depL x.sub) (most - 1):Nat):Int) + 1=((min (depL x.sub) (most - 1) + 1:Nat):Int) by omega,k7 zbw,depT_eq]
  congr 2
  omega
-- what is right,as the program tells it
theorem rightL_all : ∀ (l:List PTerm),rightL l=l.all rightT
 | []=>rfl
 | x :: l=>by simp [rightL,rightL_all l]
def checkT (x:PTerm):Int:=if 65536 < sizeT x∨1024 < depT x then 121 else if rightT x then 0 else 120
end
section
open Gw
theorem ba_app (a b:List UInt8):(⟨a.toArray⟩ : ByteArray) ++ ⟨b.toArray⟩ = ⟨(a ++ b).toArray⟩ := by
 apply ByteArray.ext
 simp [ByteArray.data_append]
theorem ba_size (l:List UInt8):(⟨l.toArray⟩ : ByteArray).size=l.length:=by simp [ByteArray.size]
theorem u8_of {n:Nat} (h:n < 256):(UInt8.ofNat n).toNat=n:=by
 rw [UInt8.toNat_ofNat']; exact Nat.mod_eq_of_lt h
theorem decK_len : ∀ (k u:Nat),(decK k u).length ≤ k
 | 0,u=>by simp [decK]
 | k + 1,u=>by
  unfold decK
  split
  ·simp
  ·have:=decK_len k (u / 10); simp; omega
theorem decK_ne (k u:Nat):decK (k + 1) u ≠ []:=by
 unfold decK
 split <;> simp
theorem decK_dig : ∀ (k u:Nat),∀ c ∈ decK k u,48 ≤ c.toNat∧c.toNat ≤ 57
 | 0,u,c,h=>by simp [decK] at h
 | k + 1,u,c,h=>by
  unfold decK at h
  split at h
  ·rename_i hu
   rw [List.mem_singleton] at h; subst h; rw [u8_of zbw]; omega
  ·rcases List.mem_append.1 h with h | h
   ·exact decK_dig k _ c h
   ·have:u % 10 < 10:=Nat.mod_lt _ zbv
    rw [List.mem_singleton] at h; subst h; rw [u8_of zbw]; omega
theorem decN_nn {n:Int} (h:0 ≤ n):decN n=⟨(decK 20 n.toNat).toArray⟩ := by
 unfold decN; rw [if_neg zbw]
theorem dec_step {u:Nat} {s:List UInt8} (hu:u < 18446744073709551616) (hs:s.length ≤ 1000) (h:0 < u∨s=[]):zdy.b0 (u:Int) ⟨s.toArray⟩ = some (.go (((u / 10:Nat):Int),⟨(UInt8.ofNat (48 + u % 10) :: s).toArray⟩)):=by
 have hm:u % 10 < 10:=Nat.mod_lt _ zbv
 have ht:Int.tmod (u:Int) 10=((u % 10:Nat):Int):=by rw [Int.tmod_eq_emod_of_nonneg zbw]; omega
 have hd:Int.tdiv (u:Int) 10=((u / 10:Nat):Int):=by rw [Int.tdiv_eq_ediv_of_nonneg zbw]; omega
 have hw:IntKind.u64.wrap (48 + ((u % 10:Nat):Int))=48 + ((u % 10:Nat):Int):=by
  unfold IntKind.wrap; simp [IntKind.signed,IntKind.bits]; omega
 have hw2:IntKind.u8.wrap (48 + ((u % 10:Nat):Int))=48 + ((u % 10:Nat):Int):=by
  unfold IntKind.wrap; simp [IntKind.signed,IntKind.bits]; omega
 have hw3:IntKind.u64.wrap ((u / 10:Nat):Int)=((u / 10:Nat):Int):=by
  unfold IntKind.wrap; simp [IntKind.signed,IntKind.bits]; omega
 have hs1:strOfNums [48 + ((u % 10:Nat):Int)]=⟨[UInt8.ofNat (48 + u % 10)].toArray⟩ := by
  unfold strOfNums
  rw [List.map_cons,List.map_nil,show (48 + ((u % 10:Nat):Int)).toNat=48 + u % 10 by omega]
 have hc:((decide (0 < (u:Int))) || (decide ((⟨s.toArray⟩ : ByteArray)=(⟨#[]⟩ : ByteArray))))=true:=by
  rcases h with h | h
  ·simp; left; omega
  ·subst h; simp
 unfold zdy.b0
 rw [hc,if_pos rfl,ht,hd,hw,hw2,hw3,hs1,ba_size,ba_size,chk,if_pos (by simp; omega),ba_app]
 rfl
theorem dec_loop : ∀ (m u:Nat) (s:List UInt8) (k:Nat),u < 10 ^ m→m ≤ 19→m < k→s.length + m ≤ 1000→s ≠ []→iter (fun s=>zdy.b0 s.1 s.2) k ((u:Int),⟨s.toArray⟩)=some (.inl (0,⟨((if u=0 then [] else decK m u) ++ s).toArray⟩))
 | m,u,s,0,_,_,h,_,_=>by omega
 | m,u,s,k + 1,hu,hm,hk,hl,hs=>by
  by_cases h0:u=0
  ·subst h0
   simp only [iter]
   rw [show zdy.b0 ((0:Nat):Int) ⟨s.toArray⟩ = some (.brk (0,⟨s.toArray⟩)) by
    unfold zdy.b0
    rw [if_neg]
    ·rfl
    ·simp [hs]]
   simp
  ·match m,hu with
   | 0,hu=>simp at hu; omega
   | m + 1,hu =>
    have hb:u < 18446744073709551616:=by
     have:=Nat.pow_le_pow_right (show 0 < 10 by decide) hm
     omega
    simp only [iter]
    rw [dec_step hb zbw (.inl zbw)]
    simp only [Option.bind_some]
    have h1:u / 10 < 10 ^ m:=by rw [Nat.pow_succ] at hu; omega
    refine (dec_loop m (u / 10) _ k h1 zbw zbw (by simp; omega) zbx).trans ?_
    have hm10:u % 10 < 10:=Nat.mod_lt _ zbv
    rw [if_neg h0]
    congr 5
    by_cases hu9:u < 10
    ·have e1:u / 10=0:=by omega
     have e2:u % 10=u:=by omega
     rw [if_pos e1,e2]; simp [decK,hu9]
    ·have e1:¬ u / 10=0:=by omega
     rw [if_neg e1]; simp [decK,hu9]
theorem Dec_doc {K:Nat} {n:Int} (hK:30 ≤ K) (h0:0 ≤ n) (h1:n < 9223372036854775808):zdy.f K n=some (decN n):=by
 obtain ⟨u,rfl⟩ : ∃ u:Nat,n=u:=⟨n.toNat,by omega⟩
 obtain ⟨K,rfl⟩ : ∃ k',K=k' + 1:=⟨K - 1,by omega⟩
 have hw:IntKind.u64.wrap (u:Int)=u:=by
  unfold IntKind.wrap; simp [IntKind.signed,IntKind.bits]; omega
 unfold zdy.f
 rw [if_neg zbx,hw]
 simp only [Option.bind_some]
 have hstep:=dec_step (u:=u) (s:=[]) zbw zbx (.inr rfl)
 have e:(⟨#[]⟩ : ByteArray)=⟨([]:List UInt8).toArray⟩ := rfl
 simp only [iter]
 rw [e,hstep]
 simp only [Option.bind_some]
 rw [dec_loop 19 (u / 10) [UInt8.ofNat (48 + u % 10)] K zbw zbw zbw zbx zbx]
 simp only [Option.bind_some,aft]
 have hm10:u % 10 < 10:=Nat.mod_lt _ zbv
 have hx:(if u / 10=0 then [] else decK 19 (u / 10)) ++ [UInt8.ofNat (48 + u % 10)]=decK 20 u:=by
  by_cases hu9:u < 10
  ·have e1:u / 10=0:=by omega
   have e2:u % 10=u:=by omega
   rw [if_pos e1,e2]; simp [decK,hu9]
  ·have e1:¬ u / 10=0:=by omega
   rw [if_neg e1]; simp [decK,hu9]
 rw [hx,ba_size,ba_size,chk,if_pos (by have:=decK_len 20 u; simp; omega),ba_app,List.nil_append,decN_nn zbw,Int.toNat_natCast]
theorem Dec_prog {n:Int} (h0:0 ≤ n) (h1:n < 9223372036854775808):zdg.f n=some (decN n):=by
 unfold zdg.f strconv_Itoa.f
 rw [chk,if_pos (by simp; omega)]; rfl
def hNm (f:Int):ByteArray:=(⟨#[104]⟩ : ByteArray) ++ decN f
def lNm (i:Int):ByteArray:=(⟨#[108]⟩ : ByteArray) ++ decN i
theorem hNm_eq {f:Int} (h:0 ≤ f):hNm f=⟨((104:UInt8) :: decK 20 f.toNat).toArray⟩ := by
 unfold hNm; rw [decN_nn h]; exact ba_app [104] _
theorem lNm_eq {f:Int} (h:0 ≤ f):lNm f=⟨((108:UInt8) :: decK 20 f.toNat).toArray⟩ := by
 unfold lNm; rw [decN_nn h]; exact ba_app [108] _
theorem sb_list (l:List UInt8) (i:Nat) (h:i < l.length):sb ⟨l.toArray⟩ i=(l[i].toNat:Int):=by
 unfold sb
 rw [show (⟨l.toArray⟩ : ByteArray)[i]? = some l[i] from by
  rw [getElem?_pos _ i (by simpa [ByteArray.size] using h)]; rfl]
 rfl
theorem word_of {c:UInt8} (hc:isL (c.toNat:Int)=true) {l:List UInt8} (h0:l ≠ []) (h1:l.length ≤ 30) (h2 : ∀ x ∈ l,48 ≤ x.toNat∧x.toNat ≤ 57):isWord ⟨(c :: l).toArray⟩ := by
 have hz:(⟨(c :: l).toArray⟩ : ByteArray).size=l.length + 1:=by rw [ba_size]; rfl
 refine ⟨by omega,by omega,fun i hi=>?_,?_⟩
 ·have hil:i < (c :: l).length:=by rw [hz] at hi; exact hi
  unfold okAt
  rw [sb_list _ _ hil]
  cases i with
  | zero=>exact hc
  | succ i =>
   rw [if_neg zbw,List.getElem_cons_succ]
   have:=h2 _ (List.getElem_mem (show i < l.length by simpa using hil))
   unfold isC
   simp only [Bool.or_eq_true,Bool.and_eq_true,decide_eq_true_eq]
   left; left; right; omega
 ·unfold kb
  rw [List.any_eq_false]
  intro t ht
  simp only [decide_eq_true_eq]
  intro e
  have h3 : ∀ t ∈ resv,97 ≤ (t.data.toList.getD 1 0).toNat:=by decide
  have h4:=h3 t ht
  rw [← e] at h4
  cases l with
  | nil=>exact h0 rfl
  | cons d l =>
   have h5:=h2 d (List.mem_cons_self ..)
   have:((⟨(c :: d :: l).toArray⟩ : ByteArray).data.toList.getD 1 0)=d:=rfl
   rw [this] at h4
   omega
theorem hNm_word {f:Int} (h:0 ≤ f):isWord (hNm f):=by
 rw [hNm_eq h]; exact word_of zbv (decK_ne 19 _) (by have:=decK_len 20 f.toNat; omega) (decK_dig 20 _)
theorem lNm_word {f:Int} (h:0 ≤ f):isWord (lNm f):=by
 rw [lNm_eq h]; exact word_of zbv (decK_ne 19 _) (by have:=decK_len 20 f.toNat; omega) (decK_dig 20 _)
theorem decN_size {f:Int} (h:0 ≤ f):(decN f).size ≤ 20:=by rw [decN_nn h,ba_size]; exact decK_len 20 _
theorem dec_ok (c:UInt8) {f:Int} (h:0 ≤ f):decide ((⟨#[c]⟩ : ByteArray).size + (decN f).size ≤ 1000000)=true:=by
 have h1:(⟨#[c]⟩ : ByteArray).size=1:=rfl
 have:=decN_size h
 rw [h1]; simp; omega
theorem kw {n:Int} (h0:0 ≤ n) (h1:n < 9223372036854775808):zdh.f n=some (lNm n):=by
 unfold zdh.f
 rw [Dec_prog h0 h1]
 simp only [Option.bind_some]
 rw [dec_ok 108 h0,chk,if_pos rfl]; rfl
end
section
open Gw
inductive Pt where
 | v (c:UInt8)
 | bot
 | bin (k:Int) (a b:Pt)
namespace Pt
def enc:Pt→List UInt8
 | v c=>[c]
 | bot=>[48]
 | bin k a b=>(if k=5 then 62 else if k=3 then 38 else 124) :: (a.enc ++ b.enc)
def ok:Pt→Prop
 | v c=>c.toNat ≠ 62∧c.toNat ≠ 38∧c.toNat ≠ 124∧c.toNat ≠ 48
 | bot=>True
 | bin k a b=>(k=5∨k=3∨k=4)∧a.ok∧b.ok
def dep:Pt→Nat
 | v _=>1
 | bot=>1
 | bin _ a b=>1 + max a.dep b.dep
end Pt
def yp (M:List Nd):Pt→Int→List (Int × Int)→List (Int × Int) × Bool
 | .v c,id,s=>(Gw.ins (c.toNat:Int) id s,!(Gw.look (c.toNat:Int) s).isSome || decide ((Gw.look (c.toNat:Int) s).getD 0=id))
 | .bot,id,s=>(s,decide ((nd M id).kind=2))
 | .bin k a b,id,s=>if (nd M id).kind ≠ k then (s,false) else if (yp M a (nd M id).l s).2 then yp M b (nd M id).r (yp M a (nd M id).l s).1 else ((yp M a (nd M id).l s).1,false)
theorem sb_cons (c:UInt8) (l:List UInt8):sb ⟨(c :: l).toArray⟩ 0=(c.toNat:Int):=by
 unfold sb
 rw [show (⟨(c :: l).toArray⟩ : ByteArray)[0]? = some c from rfl]
 rfl
theorem sfrom_cons (c:UInt8) (l:List UInt8):sfrom ⟨(c :: l).toArray⟩ 1=⟨l.toArray⟩ := by
 unfold sfrom
 apply ByteArray.ext
 rw [ByteArray.data_extract]
 apply Array.toList_inj.1
 simp [ByteArray.size]
theorem size_cons (c:UInt8) (l:List UInt8):(⟨(c :: l).toArray⟩ : ByteArray).size=l.length + 1:=by simp [ByteArray.size]
theorem node_of (M:List Nd) (i:Int):(zbA.f (some M) i)=some (zaU M i):=rfl
theorem pat_some (M:List Nd) : ∀ (p:Pt),p.ok → ∀ (k:Nat),p.dep ≤ k → ∀ (id:Int) (s:List (Int × Int)) (rest:List UInt8),∃ q,zcb.f k ⟨some M,s⟩ id ⟨(p.enc ++ rest).toArray⟩ = some q∧q.1.t=some M∧q.2.2=(yp M p id s).2∧((yp M p id s).2=true→q.1.seen=(yp M p id s).1∧q.2.1=⟨rest.toArray⟩)
 | .v c,hp,k,hk,id,s,rest=>by
  obtain ⟨k,rfl⟩ : ∃ k',k=k' + 1:=⟨k - 1,by simp only [Pt.dep] at hk; omega⟩
  obtain ⟨h1,h2,h3,h4⟩ := hp
  have e:(Pt.v c).enc ++ rest=c :: rest:=rfl
  rw [e]
  refine ⟨(⟨some M,(yp M (.v c) id s).1⟩,⟨rest.toArray⟩,(yp M (.v c) id s).2),?_,rfl,rfl,fun _=>⟨rfl,rfl⟩⟩
  show zcb.g _ _ _ _=_
  unfold zcb.g
  simp only [sb_cons,sfrom_cons,size_cons,node_of,chk,inb,Option.bind_some]
  have n1:¬ ((c.toNat:Int)=62):=by omega
  have n2:¬ ((c.toNat:Int)=38):=by omega
  have n3:¬ ((c.toNat:Int)=124):=by omega
  have n4:¬ ((c.toNat:Int)=48):=by omega
  simp [n1,n2,n3,n4,aft,yp]
  omega
 | .bot,hp,k,hk,id,s,rest=>by
  obtain ⟨k,rfl⟩ : ∃ k',k=k' + 1:=⟨k - 1,by simp only [Pt.dep] at hk; omega⟩
  have e:Pt.bot.enc ++ rest=48 :: rest:=rfl
  rw [e]
  refine ⟨(⟨some M,s⟩,⟨rest.toArray⟩,(yp M .bot id s).2),?_,rfl,rfl,fun _=>⟨rfl,rfl⟩⟩
  show zcb.g _ _ _ _=_
  unfold zcb.g
  simp only [sb_cons,sfrom_cons,size_cons,node_of,chk,inb,Option.bind_some]
  simp [aft,yp]
  omega
 | .bin kd a b,hp,k,hk,id,s,rest=>by
  obtain ⟨k,rfl⟩ : ∃ k',k=k' + 1:=⟨k - 1,by simp only [Pt.dep] at hk; omega⟩
  obtain ⟨h1,ha,hb⟩ := hp
  have hk1:a.dep ≤ k:=by simp only [Pt.dep] at hk; omega
  have hk2:b.dep ≤ k:=by simp only [Pt.dep] at hk; omega
  have e:(Pt.bin kd a b).enc ++ rest=(if kd=5 then 62 else if kd=3 then 38 else 124) :: (a.enc ++ (b.enc ++ rest)):=by simp [Pt.enc,List.append_assoc]
  rw [e]
  have hq : ∃ q,zcb.g (zcb.f k) ⟨some M,s⟩ id ⟨((if kd=5 then 62 else if kd=3 then 38 else 124:UInt8) :: (a.enc ++ (b.enc ++ rest))).toArray⟩ = (if decide ((nd M id).kind ≠ kd) then some (⟨some M,s⟩,⟨#[]⟩,false) else (zcb.f k ⟨some M,s⟩ (nd M id).l ⟨(a.enc ++ (b.enc ++ rest)).toArray⟩).bind fun r29=>if !r29.2.2 then some (r29.1,(⟨#[]⟩ : ByteArray),false) else (zcb.f k r29.1 (nd M id).r r29.2.1).bind fun r33=>some (r33.1,r33.2.1,r33.2.2))∧q=():=by
   refine ⟨(),?_,rfl⟩
   unfold zcb.g
   simp only [sb_cons,sfrom_cons,size_cons,node_of,chk,inb,Option.bind_some]
   rcases h1 with rfl | rfl | rfl <;> simp [aft,nd] <;> rw [if_pos zbw,if_pos zbw]
  obtain ⟨_,hq,_⟩ := hq
  show ∃ q,zcb.g _ _ _ _=_∧_
  rw [hq]
  by_cases hkd:(nd M id).kind=kd
  ·simp only [hkd,ne_eq,not_true_eq_false,decide_false,Bool.false_eq_true,if_false]
   obtain ⟨q1,e1,t1,o1,m1⟩ := pat_some M a ha k hk1 (nd M id).l s (b.enc ++ rest)
   rw [e1]
   simp only [Option.bind_some]
   cases hm:(yp M a (nd M id).l s).2 with
   | false =>
    rw [hm] at o1
    refine ⟨(q1.1,⟨#[]⟩,false),by simp [o1],t1,by simp [yp,hkd,hm],fun h=>?_⟩
    simp [yp,hkd,hm] at h
   | true =>
    rw [hm] at o1
    obtain ⟨m2,m3⟩ := m1 hm
    obtain ⟨q2,e2,t2,o2,m4⟩ := pat_some M b hb k hk2 (nd M id).r (yp M a (nd M id).l s).1 rest
    have e3:q1.1=⟨some M,(yp M a (nd M id).l s).1⟩ := by cases h:q1.1; simp_all
    refine ⟨q2,by rw [o1,e3,m3,e2]; rfl,t2,?_,fun h=>?_⟩
    ·rw [o2]; simp [yp,hkd,hm]
    ·have:=m4 (by simpa [yp,hkd,hm] using h)
     simpa [yp,hkd,hm] using this
  ·refine ⟨(⟨some M,s⟩,⟨#[]⟩,false),by simp [hkd],rfl,by simp [yp,hkd],fun h=>?_⟩
   simp [yp,hkd] at h
abbrev vA:Pt := .v 65
abbrev vB:Pt := .v 66
abbrev vC:Pt := .v 67
def schT (k:Int):Pt :=
 if k=1 then .bin 5 vA (.bin 5 vB vA) else if k=2 then .bin 5 (.bin 5 vA (.bin 5 vB vC)) (.bin 5 (.bin 5 vA vB) (.bin 5 vA vC))
 else if k=3 then .bin 5 (.bin 3 vA vB) vA else if k=4 then .bin 5 (.bin 3 vA vB) vB else if k=5 then .bin 5 vA (.bin 5 vB (.bin 3 vA vB))
 else if k=6 then .bin 5 vA (.bin 4 vA vB) else if k=7 then .bin 5 vB (.bin 4 vA vB) else if k=8 then .bin 5 (.bin 5 vA vC) (.bin 5 (.bin 5 vB vC) (.bin 5 (.bin 4 vA vB) vC))
 else .bin 5 .bot vA
def axS (M:List Nd) (k i:Int):Bool :=
 let n:=nd M i; let x:=nd M n.l; let y:=nd M n.r; let b:=nd M y.l; let c:=nd M y.r
 decide (n.kind=5) &&
 (if k=1 then decide (y.kind=5) && decide (y.r=n.l)
  else if k=2 then decide (y.kind=5) && decide (x.kind=5) && decide ((nd M x.r).kind=5) && decide (b.kind=5) && decide (c.kind=5) && decide (b.l=x.l) && decide (c.l=x.l) && decide (b.r=(nd M x.r).l) && decide (c.r=(nd M x.r).r)
  else if k=3 then decide (x.kind=3) && decide (x.l=n.r)
  else if k=4 then decide (x.kind=3) && decide (x.r=n.r)
  else if k=5 then decide (y.kind=5) && decide (c.kind=3) && decide (c.l=n.l) && decide (c.r=y.l)
  else if k=6 then decide (y.kind=4) && decide (y.l=n.l)
  else if k=7 then decide (y.kind=4) && decide (y.r=n.l)
  else if k=8 then decide (y.kind=5) && decide (x.kind=5) && decide (b.kind=5) && decide (c.kind=5) && decide ((nd M c.l).kind=4) && decide ((nd M c.l).l=x.l) && decide ((nd M c.l).r=b.l) && decide (b.r=x.r) && decide (c.r=x.r)
  else if k=9 then decide (x.kind=2)
  else false)
theorem match_1 (M:List Nd) (i:Int):(yp M (schT 1) i []).2=axS M 1 i:=by
 simp only [schT,axS,yp,if_true,  if_false]
 by_cases h0:(nd M i).kind=5
 rotate_left
 ·simp [h0]
 by_cases c0:(nd M (nd M i).r).kind=5
 rotate_left
 ·simp [Gw.ins,Gw.look,h0,c0] <;> grind
 simp [Gw.ins,Gw.look,h0,c0]
 try grind
theorem match_2 (M:List Nd) (i:Int):(yp M (schT 2) i []).2=axS M 2 i:=by
 simp only [schT,axS,yp,if_true,show ¬ ((2:Int)=1) by decide,if_false]
 by_cases h0:(nd M i).kind=5
 rotate_left
 ·simp [h0]
 by_cases c0:(nd M (nd M i).l).kind=5
 rotate_left
 ·simp [Gw.ins,Gw.look,h0,c0] <;> grind
 by_cases c1:(nd M (nd M (nd M i).l).r).kind=5
 rotate_left
 ·simp [Gw.ins,Gw.look,h0,c0,c1] <;> grind
 by_cases c2:(nd M (nd M i).r).kind=5
 rotate_left
 ·simp [Gw.ins,Gw.look,h0,c0,c1,c2] <;> grind
 by_cases c3:(nd M (nd M (nd M i).r).l).kind=5
 rotate_left
 ·simp [Gw.ins,Gw.look,h0,c0,c1,c2,c3] <;> grind
 by_cases c4:(nd M (nd M i).l).l=(nd M (nd M (nd M i).r).l).l
 rotate_left
 ·have d4:¬ ((nd M (nd M (nd M i).r).l).l=(nd M (nd M i).l).l):=fun h=>c4 (Eq.symm h); simp [Gw.ins,Gw.look,h0,c0,c1,c2,c3,c4,d4] <;> grind
 by_cases c5:(nd M (nd M (nd M i).l).r).l=(nd M (nd M (nd M i).r).l).r
 rotate_left
 ·have d5:¬ ((nd M (nd M (nd M i).r).l).r=(nd M (nd M (nd M i).l).r).l):=fun h=>c5 (Eq.symm h); simp [Gw.ins,Gw.look,h0,c0,c1,c2,c3,c4,c5,d5] <;> grind
 by_cases c6:(nd M (nd M (nd M i).r).r).kind=5
 rotate_left
 ·simp [Gw.ins,Gw.look,h0,c0,c1,c2,c3,c4,c5,c6] <;> grind
 by_cases c7:(nd M (nd M i).l).l=(nd M (nd M (nd M i).r).r).l
 rotate_left
 ·have d7:¬ ((nd M (nd M (nd M i).r).r).l=(nd M (nd M i).l).l):=fun h=>c7 (Eq.symm h); simp [Gw.ins,Gw.look,h0,c0,c1,c2,c3,c4,c5,c6,c7,d7] <;> grind
 simp [Gw.ins,Gw.look,h0,c0,c1,c2,c3,c4,c5,c6,c7]
 try grind
theorem match_3 (M:List Nd) (i:Int):(yp M (schT 3) i []).2=axS M 3 i:=by
 simp only [schT,axS,yp,if_true,show ¬ ((3:Int)=1) by decide,show ¬ ((3:Int)=2) by decide,if_false]
 by_cases h0:(nd M i).kind=5
 rotate_left
 ·simp [h0]
 by_cases c0:(nd M (nd M i).l).kind=3
 rotate_left
 ·simp [Gw.ins,Gw.look,h0,c0] <;> grind
 simp [Gw.ins,Gw.look,h0,c0]
 try grind
theorem match_4 (M:List Nd) (i:Int):(yp M (schT 4) i []).2=axS M 4 i:=by
 simp only [schT,axS,yp,if_true,show ¬ ((4:Int)=1) by decide,show ¬ ((4:Int)=2) by decide,show ¬ ((4:Int)=3) by decide,if_false]
 by_cases h0:(nd M i).kind=5
 rotate_left
 ·simp [h0]
 by_cases c0:(nd M (nd M i).l).kind=3
 rotate_left
 ·simp [Gw.ins,Gw.look,h0,c0] <;> grind
 simp [Gw.ins,Gw.look,h0,c0]
 try grind
theorem match_5 (M:List Nd) (i:Int):(yp M (schT 5) i []).2=axS M 5 i:=by
 simp only [schT,axS,yp,if_true,show ¬ ((5:Int)=1) by decide,show ¬ ((5:Int)=2) by decide,show ¬ ((5:Int)=3) by decide,show ¬ ((5:Int)=4) by decide,if_false]
 by_cases h0:(nd M i).kind=5
 rotate_left
 ·simp [h0]
 by_cases c0:(nd M (nd M i).r).kind=5
 rotate_left
 ·simp [Gw.ins,Gw.look,h0,c0] <;> grind
 by_cases c1:(nd M (nd M (nd M i).r).r).kind=3
 rotate_left
 ·simp [Gw.ins,Gw.look,h0,c0,c1] <;> grind
 simp [Gw.ins,Gw.look,h0,c0,c1]
 try grind
theorem match_6 (M:List Nd) (i:Int):(yp M (schT 6) i []).2=axS M 6 i:=by
 simp only [schT,axS,yp,if_true,show ¬ ((6:Int)=1) by decide,show ¬ ((6:Int)=2) by decide,show ¬ ((6:Int)=3) by decide,show ¬ ((6:Int)=4) by decide,show ¬ ((6:Int)=5) by decide,if_false]
 by_cases h0:(nd M i).kind=5
 rotate_left
 ·simp [h0]
 by_cases c0:(nd M (nd M i).r).kind=4
 rotate_left
 ·simp [Gw.ins,Gw.look,h0,c0] <;> grind
 simp [Gw.ins,Gw.look,h0,c0]
 try grind
theorem match_7 (M:List Nd) (i:Int):(yp M (schT 7) i []).2=axS M 7 i:=by
 simp only [schT,axS,yp,if_true,show ¬ ((7:Int)=1) by decide,show ¬ ((7:Int)=2) by decide,show ¬ ((7:Int)=3) by decide,show ¬ ((7:Int)=4) by decide,show ¬ ((7:Int)=5) by decide,show ¬ ((7:Int)=6) by decide,if_false]
 by_cases h0:(nd M i).kind=5
 rotate_left
 ·simp [h0]
 by_cases c0:(nd M (nd M i).r).kind=4
 rotate_left
 ·simp [Gw.ins,Gw.look,h0,c0] <;> grind
 simp [Gw.ins,Gw.look,h0,c0]
 try grind
theorem match_8 (M:List Nd) (i:Int):(yp M (schT 8) i []).2=axS M 8 i:=by
 simp only [schT,axS,yp,if_true,show ¬ ((8:Int)=1) by decide,show ¬ ((8:Int)=2) by decide,show ¬ ((8:Int)=3) by decide,show ¬ ((8:Int)=4) by decide,show ¬ ((8:Int)=5) by decide,show ¬ ((8:Int)=6) by decide,show ¬ ((8:Int)=7) by decide,if_false]
 by_cases h0:(nd M i).kind=5
 rotate_left
 ·simp [h0]
 by_cases c0:(nd M (nd M i).l).kind=5
 rotate_left
 ·simp [Gw.ins,Gw.look,h0,c0] <;> grind
 by_cases c1:(nd M (nd M i).r).kind=5
 rotate_left
 ·simp [Gw.ins,Gw.look,h0,c0,c1] <;> grind
 by_cases c2:(nd M (nd M (nd M i).r).l).kind=5
 rotate_left
 ·simp [Gw.ins,Gw.look,h0,c0,c1,c2] <;> grind
 by_cases c3:(nd M (nd M i).l).r=(nd M (nd M (nd M i).r).l).r
 rotate_left
 ·have d3:¬ ((nd M (nd M (nd M i).r).l).r=(nd M (nd M i).l).r):=fun h=>c3 (Eq.symm h); simp [Gw.ins,Gw.look,h0,c0,c1,c2,c3,d3] <;> grind
 by_cases c4:(nd M (nd M (nd M i).r).r).kind=5
 rotate_left
 ·simp [Gw.ins,Gw.look,h0,c0,c1,c2,c3,c4] <;> grind
 by_cases c5:(nd M (nd M (nd M (nd M i).r).r).l).kind=4
 rotate_left
 ·simp [Gw.ins,Gw.look,h0,c0,c1,c2,c3,c4,c5] <;> grind
 by_cases c6:(nd M (nd M i).l).l=(nd M (nd M (nd M (nd M i).r).r).l).l
 rotate_left
 ·have d6:¬ ((nd M (nd M (nd M (nd M i).r).r).l).l=(nd M (nd M i).l).l):=fun h=>c6 (Eq.symm h); simp [Gw.ins,Gw.look,h0,c0,c1,c2,c3,c4,c5,c6,d6] <;> grind
 by_cases c7:(nd M (nd M (nd M i).r).l).l=(nd M (nd M (nd M (nd M i).r).r).l).r
 rotate_left
 ·have d7:¬ ((nd M (nd M (nd M (nd M i).r).r).l).r=(nd M (nd M (nd M i).r).l).l):=fun h=>c7 (Eq.symm h); simp [Gw.ins,Gw.look,h0,c0,c1,c2,c3,c4,c5,c6,c7,d7] <;> grind
 simp [Gw.ins,Gw.look,h0,c0,c1,c2,c3,c4,c5,c6,c7]
 try grind
theorem match_9 (M:List Nd) (i:Int):(yp M (schT 9) i []).2=axS M 9 i:=by
 simp only [schT,axS,yp,if_true,show ¬ ((9:Int)=1) by decide,show ¬ ((9:Int)=2) by decide,show ¬ ((9:Int)=3) by decide,show ¬ ((9:Int)=4) by decide,show ¬ ((9:Int)=5) by decide,show ¬ ((9:Int)=6) by decide,show ¬ ((9:Int)=7) by decide,show ¬ ((9:Int)=8) by decide,if_false]
 by_cases h0:(nd M i).kind=5
 rotate_left
 ·simp [h0]
 by_cases c0:(nd M (nd M i).l).kind=2
 rotate_left
 ·simp [Gw.ins,Gw.look,h0,c0] <;> grind
 simp [Gw.ins,Gw.look,h0,c0]
 try grind
theorem match_ax (M:List Nd) (k i:Int) (hk:1 ≤ k∧k ≤ 9):(yp M (schT k) i []).2=axS M k i:=by
 have h:k=1∨k=2∨k=3∨k=4∨k=5∨k=6∨k=7∨k=8∨k=9:=by omega
 rcases h with rfl | rfl | rfl | rfl | rfl | rfl | rfl | rfl | rfl
 ·exact match_1 M i
 ·exact match_2 M i
 ·exact match_3 M i
 ·exact match_4 M i
 ·exact match_5 M i
 ·exact match_6 M i
 ·exact match_7 M i
 ·exact match_8 M i
 ·exact match_9 M i
theorem sch_enc (k:Int) (hk:1 ≤ k∧k ≤ 9):zbQ.f k=some ⟨((schT k).enc ++ []).toArray⟩ ∧ (schT k).ok∧(schT k).dep ≤ 10∧(⟨((schT k).enc ++ []).toArray⟩ : ByteArray) ≠ ⟨#[]⟩ := by
 have h:k=1∨k=2∨k=3∨k=4∨k=5∨k=6∨k=7∨k=8∨k=9:=by omega
 rcases h with rfl | rfl | rfl | rfl | rfl | rfl | rfl | rfl | rfl <;> refine ⟨rfl,?_,by decide,by decide⟩ <;> simp [schT,Pt.ok]
theorem fits_ax {M:List Nd} {K:Nat} (hK:10 ≤ K) (k i:Int):zcc.f K (some M) k i=some (some M,axS M k i):=by
 unfold zcc.f
 by_cases hk:1 ≤ k∧k ≤ 9
 ·obtain ⟨h1,h2,h3,h4⟩ := sch_enc k hk
  rw [h1,Option.bind_some,if_neg (by simpa using h4)]
  obtain ⟨q,e1,e2,e3,_⟩ := pat_some M (schT k) h2 K zbw i [] []
  rw [e1,Option.bind_some,e2,e3,match_ax M k i hk]
 ·have h1:zbQ.f k=some ⟨#[]⟩ := by
   unfold zbQ.f
   by_cases h0:k=0
   ·subst h0; rfl
   ·rw [if_pos (by simp; omega)]
  have h2:axS M k i=false:=by
   unfold axS
   simp [show ¬ k=1 by omega,show ¬ k=2 by omega,show ¬ k=3 by omega,show ¬ k=4 by omega,show ¬ k=5 by omega,show ¬ k=6 by omega,show ¬ k=7 by omega,show ¬ k=8 by omega,show ¬ k=9 by omega]
  rw [h1,h2]; rfl
theorem has1_loop (n:Int) : ∀ (l:List Int),zcf.f l n=some (l.any fun i=>decide (i < 0) || decide (n ≤ i)):=by
 intro l
 unfold zcf.f zce.f
 have h1:=zar (b:=fun i s=>zce.b0 l n i) (p:=fun j=>decide (l.getD j 0 < 0) || decide (n ≤ l.getD j 0)) (r:=fun j=>(j:Int)) l.length 0 () (by
  intro j _ hj
  unfold zce.b0 zcd.f at_
  rw [Int.toNat_natCast]
  simp only [Option.bind_some]
  split <;> rfl)
 have e0:(((l.length:Nat):Int) - 0).toNat=l.length:=by omega
 rw [e0,show forN (fun i s=>zce.b0 l n i) l.length 0 ()=_ from h1,any_find]
 cases hq:(List.range' 0 l.length).find? (fun j=>decide (l.getD j 0 < 0) || decide (n ≤ l.getD j 0)) with
 | none =>
  have:l.find? (fun i=>decide (i < 0) || decide (n ≤ i))=none:=by
   rw [List.find?_eq_none] at hq ⊢
   intro x hx
   obtain ⟨j,hj,rfl⟩ := List.mem_iff_getElem.1 hx
   have:=hq j (by simp; omega)
   simpa [List.getD_eq_getElem?_getD,hj] using this
  rw [this]; rfl
 | some j =>
  have h2:=List.find?_some hq
  have h3:=List.mem_of_find?_eq_some hq
  have hj:j < l.length:=by simpa using h3
  have:(l.find? (fun i=>decide (i < 0) || decide (n ≤ i))).isSome=true:=by
   rw [List.find?_isSome]
   exact ⟨l[j],List.getElem_mem hj,by simpa [List.getD_eq_getElem?_getD,hj] using h2⟩
  rw [this]
  simp [aft]
theorem has_some16 {M:List Nd} (hM:M.Nodup) (l:List Int):zcg.f (some M) l=some (if l.all (fun i=>inb i M.length) then 0 else 31):=by
 have h1:zbO.f (some M)=some (some M):=by simp [zbO.f,chk,hM]
 unfold zcg.f
 rw [h1]
 simp only [Option.bind_some,Option.isNone_some,Bool.false_eq_true,if_false,zbB.f,Option.map_some,has1_loop]
 have h2:(l.any fun i=>decide (i < 0) || decide ((M.length:Int) ≤ i)) = !l.all fun i=>inb i M.length:=by
  rw [List.not_all_eq_any_not]
  congr 1; funext i
  unfold inb
  by_cases a:0 ≤ i <;> by_cases b:i < (M.length:Int) <;> simp [a,b] <;> omega
 rw [h2]
 cases l.all fun i=>inb i M.length <;> rfl
theorem nd_at {M:List Nd} {i:Int} (h:inb i M.length=true):at_ Nd.z M i=nd M i:=by
 have:=zI h
 unfold at_ nd zaU ux
 rw [if_pos (by simp; omega)]
end
section
open Gw
theorem wf_nil:Wf []:=⟨by simp,by simp,fun i hi=>absurd (zI hi) zbx,fun i hi=>absurd (zI hi) zbx,fun j n h=>by simp at h⟩
theorem tables16 {rows:List Nd} (hn : ∀ n ∈ rows,n.name.size < 9223372036854775808) (hl:rows.length * 40 ≤ 140737488355328) : ∃ M,zds.f rows=some (some M,some M)∧Wf M∧(M=rows∨M=[]):=by
 unfold zds.f
 rcases both_some hn hl with h | ⟨h,hw⟩
 ·exact ⟨[],by rw [h]; rfl,wf_nil,.inr rfl⟩
 ·exact ⟨rows,by rw [h]; rfl,hw,.inl rfl⟩
theorem impD16 {M:List Nd} {i:Int} (hi:inb i M.length=true):zdu.f (some M) i=some ((nd M i).l,(nd M i).r,decide ((nd M i).kind=5)):=by
 unfold zdu.f
 simp only [Option.isSome_some,Option.getD_some,chk,hi,if_true,nd_at hi]
theorem Wf.l5 {M:List Nd} (h:Wf M) {i:Int} (hi:inb i M.length=true) (k:(nd M i).kind=5):inb (nd M i).l M.length=true:=h.left hi (.inr (.inr k))
theorem Wf.r5 {M:List Nd} (h:Wf M) {i:Int} (hi:inb i M.length=true) (k:(nd M i).kind=5):inb (nd M i).r M.length=true:=h.right hi (.inr (.inr k))
theorem docIs {M:List Nd} (hw:Wf M) {k i:Int} (hi:inb i M.length=true):zdv.f (some M) k i=some (axS M k i):=by
 unfold zdv.f
 rw [impD16 hi]
 simp only [Option.bind_some,Option.isSome_some,Option.getD_some]
 by_cases k0:(nd M i).kind=5
 rotate_left
 ·simp [k0,axS]
 have ha:=hw.l5 hi k0
 have hr:=hw.r5 hi k0
 rw [impD16 hr]
 simp only [k0,decide_true,Bool.not_true,Bool.false_eq_true,if_false,Option.bind_some,chk,if_true,ha,hr,nd_at ha,nd_at hr]
 unfold axS
 simp only [k0,decide_true,Bool.true_and]
 by_cases c1:k=1
 ·simp [c1]
 by_cases c2:k=2
 ·subst c2
  simp only [decide_false,Bool.false_eq_true,if_false,if_true,decide_true,show ¬ ((2:Int)=1) by decide]
  by_cases d1:(nd M (nd M i).r).kind=5
  rotate_left
  ·simp [d1]
  by_cases d2:(nd M (nd M i).l).kind=5
  rotate_left
  ·simp [d1,d2]
  have h1:=hw.r5 ha d2
  have h2:=hw.l5 hr d1
  have h3:=hw.r5 hr d1
  simp only [h1,h2,h3,nd_at h1,nd_at h2,nd_at h3,Bool.or_true,if_true,decide_true,d1,d2,ne_eq,not_true_eq_false,decide_false,Bool.not_true,Bool.false_or,Bool.true_and]
  by_cases d3:(nd M (nd M (nd M i).l).r).kind=5 <;> by_cases d4:(nd M (nd M (nd M i).r).l).kind=5 <;> by_cases d5:(nd M (nd M (nd M i).r).r).kind=5 <;> simp [d3,d4,d5,Bool.and_assoc]
 by_cases c3:k=3
 ·simp [c3]
 by_cases c4:k=4
 ·simp [c4]
 by_cases c5:k=5
 ·subst c5
  simp only [decide_false,Bool.false_eq_true,if_false,if_true,decide_true,show ¬ ((5:Int)=1) by decide,show ¬ ((5:Int)=2) by decide,show ¬ ((5:Int)=3) by decide,show ¬ ((5:Int)=4) by decide]
  by_cases d1:(nd M (nd M i).r).kind=5
  rotate_left
  ·simp [d1]
  have h3:=hw.r5 hr d1
  simp [h3,nd_at h3,d1,Bool.and_assoc]
 by_cases c6:k=6
 ·simp [c6]
 by_cases c7:k=7
 ·simp [c7]
 by_cases c8:k=8
 ·subst c8
  simp only [decide_false,Bool.false_eq_true,if_false,if_true,decide_true,show ¬ ((8:Int)=1) by decide,show ¬ ((8:Int)=2) by decide,show ¬ ((8:Int)=3) by decide,show ¬ ((8:Int)=4) by decide,show ¬ ((8:Int)=5) by decide,show ¬ ((8:Int)=6) by decide,show ¬ ((8:Int)=7) by decide]
  by_cases d1:(nd M (nd M i).r).kind=5
  rotate_left
  ·simp [d1]
  by_cases d2:(nd M (nd M i).l).kind=5
  rotate_left
  ·simp [d1,d2]
  have h2:=hw.l5 hr d1
  have h3:=hw.r5 hr d1
  simp only [h2,h3,nd_at h2,nd_at h3,Bool.or_true,if_true,decide_true,d1,d2,ne_eq,not_true_eq_false,decide_false,Bool.not_true,Bool.false_or,Bool.true_and]
  by_cases d3:(nd M (nd M (nd M i).r).r).kind=5
  rotate_left
  ·by_cases d4:(nd M (nd M (nd M i).r).l).kind=5 <;> simp [d3,d4]
  have h4:=hw.l5 h3 d3
  by_cases d4:(nd M (nd M (nd M i).r).l).kind=5 <;> by_cases d5:(nd M (nd M (nd M (nd M i).r).r).l).kind=4 <;> simp [d3,d4,d5,h4,nd_at h4,Bool.and_assoc]
 by_cases c9:k=9
 ·simp [c9]
 simp [c1,c2,c3,c4,c5,c6,c7,c8,c9]
end
section
open Gw
def k8 (M:List Nd) (hyps:List Int) (ls:List Ln) (i:Int):Bool :=
 let x:=at_ Ln.z ls i
 if x.kind=11 then decide (0 ≤ x.a) && decide (x.a < i) && decide (0 ≤ x.b) && decide (x.b < i) && decide ((nd M (at_ Ln.z ls x.a).form).kind=5) && decide ((nd M (at_ Ln.z ls x.a).form).l=(at_ Ln.z ls x.b).form) && decide ((nd M (at_ Ln.z ls x.a).form).r=x.form)
 else decide (x.a=0) && decide (x.b=0) && (if x.kind=10 then hyps.any (fun h=>decide (h=x.form)) else axS M x.kind x.form)
def formsS (M:List Nd) (ls:List Ln):Bool:=ls.all fun x=>inb x.form M.length
def jp (M:List Nd) (hyps:List Int) (ls:List Ln):Int :=
 if hyps.all (fun h=>inb h M.length) && formsS M ls then (if (List.range' 0 ls.length).all (fun j=>k8 M hyps ls j) && !ls.isEmpty then 0 else 160) else 31
theorem form_in {M:List Nd} {ls:List Ln} (h:formsS M ls=true) {j:Int} (hj:inb j ls.length=true):inb (at_ Ln.z ls j).form M.length=true:=by
 have h1:=zI hj
 have h2:at_ Ln.z ls j=ls[j.toNat]'(by omega):=by
  unfold at_; rw [List.getD_eq_getElem?_getD,List.getElem?_eq_getElem zbw]; rfl
 rw [h2]
 exact List.all_eq_true.1 h _ (List.getElem_mem _)
theorem inb_mk {i:Int} {n:Nat} (h0:0 ≤ i) (h1:i < n):inb i n=true:=by simp [inb,h0,h1]
theorem right_prog {M:List Nd} (hw:Wf M) {K:Nat} (hK:10 ≤ K) {hyps:List Int} {m:List (Int × Int)} (hm : ∀ h,(0 < (Gw.look h m).getD 0)↔h ∈ hyps) {ls:List Ln} (hf:formsS M ls=true) {i:Int} (hi:inb i ls.length=true) :
  zci.f K (some M) m ls i=some (some M,k8 M hyps ls i):=by
 have h1:=zI hi
 unfold zci.f k8
 generalize hx:at_ Ln.z ls i=x
 simp only [chk,hi,if_true]
 by_cases k:x.kind=11
 ·simp only [k,ne_eq,not_true_eq_false,decide_false,Bool.false_eq_true,if_false,if_true]
  have hmin:(if x.b < x.a then x.b else x.a) < 0↔(x.a < 0∨x.b < 0):=by split <;> omega
  have hmax:i ≤ (if x.a < x.b then x.b else x.a)↔(i ≤ x.a∨i ≤ x.b):=by split <;> omega
  by_cases hc:0 ≤ x.a∧x.a < i∧0 ≤ x.b∧x.b < i
  ·have e1:(decide ((if x.b < x.a then x.b else x.a) < 0) || decide (i ≤ if x.a < x.b then x.b else x.a))=false:=by
    rw [decide_eq_false (by rw [hmin]; omega),decide_eq_false (by rw [hmax]; omega)]; rfl
   have e2:inb x.a ls.length=true:=inb_mk hc.1 zbw
   have e3:inb x.b ls.length=true:=inb_mk hc.2.2.1 zbw
   rw [e1]
   simp only [Bool.false_eq_true,if_false,e2,e3,if_true,node_of,Option.bind_some]
   have e4:=form_in hf e2
   have e5:decide ((zaU M (at_ Ln.z ls x.a).form).1={ Nd.z with kind:=5,l:=(at_ Ln.z ls x.b).form,r:=x.form })=(decide ((nd M (at_ Ln.z ls x.a).form).kind=5) && decide ((nd M (at_ Ln.z ls x.a).form).l=(at_ Ln.z ls x.b).form) && decide ((nd M (at_ Ln.z ls x.a).form).r=x.form)):=by
    show decide (nd M (at_ Ln.z ls x.a).form=_)=_
    by_cases k5:(nd M (at_ Ln.z ls x.a).form).kind=5
    ·have hb:=hw.bare e4 (.inr (.inr k5))
     cases hn:nd M (at_ Ln.z ls x.a).form with
     | mk kd nm l r =>
      rw [hn] at hb k5
      simp only at hb k5
      subst hb k5
      have:({ Nd.z with kind:=5,l:=(at_ Ln.z ls x.b).form,r:=x.form }:Nd)=⟨5,⟨#[]⟩,(at_ Ln.z ls x.b).form,x.form⟩ := rfl
      rw [this]
      simp [Nd.mk.injEq]
    ·have:¬ nd M (at_ Ln.z ls x.a).form={ Nd.z with kind:=5,l:=(at_ Ln.z ls x.b).form,r:=x.form }:=fun e=>k5 (by rw [e])
     simp [this,k5]
   rw [e5]
   simp [hc]
  ·have e1:(decide ((if x.b < x.a then x.b else x.a) < 0) || decide (i ≤ if x.a < x.b then x.b else x.a))=true:=by
    rw [Bool.or_eq_true,decide_eq_true_eq,decide_eq_true_eq,hmin,hmax]; omega
   rw [e1]
   have e2:(decide (0 ≤ x.a) && decide (x.a < i) && decide (0 ≤ x.b) && decide (x.b < i))=false:=by
    rw [Bool.eq_false_iff]
    simp only [ne_eq,Bool.and_eq_true,decide_eq_true_eq,not_and]; omega
   simp [e2]
 ·simp only [k,ne_eq,not_false_eq_true,decide_true,if_true,if_false]
  by_cases k10:x.kind=10
  ·have e9:axS M 10 x.form=false:=by simp [axS]
   have e8:hyps.any (fun h=>decide (h=x.form))=decide (x.form ∈ hyps):=by
    rw [Bool.eq_iff_iff,List.any_eq_true]
    simp only [decide_eq_true_eq]
    exact ⟨fun ⟨y,h,e⟩ => e ▸ h,fun h=>⟨_,h,rfl⟩⟩
   simp only [k10,decide_true,Bool.true_and,if_true,e8]
   by_cases hp:x.form ∈ hyps
   ·have:=(hm x.form).2 hp
    simp [this,hp]
   ·have:¬ 0 < (Gw.look x.form m).getD 0:=fun q=>hp ((hm _).1 q)
    simp [this,hp,fits_ax hK,e9]
  ·simp [k10,fits_ax hK]
theorem right_doc {M:List Nd} (hw:Wf M) {hyps:List Int} {ls:List Ln} (hf:formsS M ls=true) {i:Int} (hi:inb i ls.length=true) :
  zdw.f (some M) hyps ls i=some (k8 M hyps ls i):=by
 have h1:=zI hi
 have hfi:=form_in hf hi
 unfold zdw.f k8
 generalize hx:at_ Ln.z ls i=x at *
 simp only [chk,hi,if_true]
 by_cases k:x.kind=11
 ·simp only [k,decide_true,if_true]
  by_cases hc:0 ≤ x.a∧x.a < i∧0 ≤ x.b∧x.b < i
  ·have e2:inb x.a ls.length=true:=inb_mk hc.1 zbw
   have e3:inb x.b ls.length=true:=inb_mk hc.2.2.1 zbw
   have n1:¬ x.a < 0:=by omega
   have n2:¬ i ≤ x.a:=by omega
   have n3:¬ x.b < 0:=by omega
   have n4:¬ i ≤ x.b:=by omega
   simp [n1,n2,n3,n4,e2,e3,hc,impD16 (form_in hf e2)]
  ·have e1:((decide (x.a < 0) || decide (i ≤ x.a)) || decide (x.b < 0) || decide (i ≤ x.b))=true:=by
    simp only [Bool.or_eq_true,decide_eq_true_eq]; omega
   have e2:(decide (0 ≤ x.a) && decide (x.a < i) && decide (0 ≤ x.b) && decide (x.b < i))=false:=by
    rw [Bool.eq_false_iff]
    simp only [ne_eq,Bool.and_eq_true,decide_eq_true_eq,not_and]; omega
   simp [e1,e2]
 ·simp only [k,decide_false,Bool.false_eq_true,if_false]
  by_cases ha:x.a=0
  rotate_left
  ·simp [ha]
  by_cases hb:x.b=0
  rotate_left
  ·simp [hb]
  simp only [ha,hb,ne_eq,not_true_eq_false,decide_false,Bool.or_self,Bool.false_eq_true,if_false,decide_true,Bool.true_and]
  by_cases k10:x.kind=10
  ·simp only [k10,not_true_eq_false,decide_false,Bool.false_eq_true,if_false,if_true]
   have h2:=zar (b:=fun j s=>zdw.b0 hyps ls i j) (p:=fun j=>decide (hyps.getD j 0=x.form)) (r:=fun _=>true) hyps.length 0 () (by
    intro j _ hj
    unfold zdw.b0
    rw [hx]
    unfold at_
    rw [Int.toNat_natCast]
    split <;> rfl)
   have e0:(((hyps.length:Nat):Int) - 0).toNat=hyps.length:=by omega
   rw [e0,show forN (fun j s=>zdw.b0 hyps ls i j) hyps.length 0 ()=_ from h2]
   have e1:hyps.any (fun h=>decide (h=x.form))=((List.range' 0 hyps.length).find? (fun j=>decide (hyps.getD j 0=x.form))).isSome:=by
    rw [Bool.eq_iff_iff,List.any_eq_true,List.find?_isSome]
    constructor
    ·rintro ⟨h,hh,he⟩
     obtain ⟨j,hj,rfl⟩ := List.mem_iff_getElem.1 hh
     exact ⟨j,by simp; omega,by simpa [List.getD_eq_getElem?_getD,hj] using he⟩
    ·rintro ⟨j,hj,he⟩
     have hj:j < hyps.length:=by simpa using hj
     exact ⟨hyps[j],List.getElem_mem hj,by simpa [List.getD_eq_getElem?_getD,hj] using he⟩
   rw [e1]
   cases (List.range' 0 hyps.length).find? (fun j=>decide (hyps.getD j 0=x.form)) <;> rfl
  ·simp [k10,docIs hw hfi]
theorem all_range {α:Type} {d:α} {p:α→Bool} (l:List α):l.all p=(List.range' 0 l.length).all fun j=>p (l.getD j d):=by
 rw [Bool.eq_iff_iff,List.all_eq_true,List.all_eq_true]
 constructor
 ·intro h j hj
  have hj:j < l.length:=by simpa using hj
  rw [List.getD_eq_getElem?_getD,List.getElem?_eq_getElem hj]
  exact h _ (List.getElem_mem hj)
 ·intro h x hx
  obtain ⟨j,hj,rfl⟩ := List.mem_iff_getElem.1 hx
  have:=h j (by simp; omega)
  rwa [List.getD_eq_getElem?_getD,List.getElem?_eq_getElem hj] at this
theorem find_all {α:Type} {p:α→Bool} (l:List α):(l.find? fun x => !p x).isSome = !l.all p:=by
 rw [List.not_all_eq_any_not,any_find]
theorem forN_all {σ ρ:Type} {b:Int→σ→Option (Stp σ ρ)} {p:Nat→Bool} {r:ρ} (n:Nat) (s:σ) (h : ∀ j:Nat,j < n→b j s=some (if p j then .go s else .ret r)):forN b n 0 s=some (if (List.range' 0 n).all p then .inl s else .inr r):=by
 have h1:=zar (b:=b) (p:=fun j => !p j) (r:=fun _=>r) n 0 s (by
  intro j _ hj
  rw [h j zbw]
  cases p j <;> rfl)
 rw [show forN b n 0 s=_ from h1]
 have h2:=find_all (p:=p) (List.range' 0 n)
 cases hq:(List.range' 0 n).find? (fun x => !p x) with
 | none=>rw [hq] at h2; rw [show (List.range' 0 n).all p=true by simpa using h2]; rfl
 | some j=>rw [hq] at h2; rw [show (List.range' 0 n).all p=false by simpa using h2]; rfl
theorem count_map {m:List (Int × Int)} (h v x:Int):(Gw.look x (Gw.ins h v m)).getD 0=if x=h then v else (Gw.look x m).getD 0:=by
 induction m with
 | nil=>by_cases e:x=h <;> simp [Gw.ins,Gw.look,e]
 | cons q m ih =>
  obtain ⟨k,w⟩ := q
  unfold Gw.ins
  by_cases e:h=k
  ·subst e
   by_cases e2:x=h
   ·simp [Gw.look,e2]
   ·simp [Gw.look,e2]
  ·rw [if_neg e]
   unfold Gw.look
   by_cases e2:x=k
   ·subst e2; simp [Ne.symm (a:=h) e]
   ·simp [e2,ih]
theorem hyps_map (hyps:List Int) : ∀ (n i:Nat) (m:List (Int × Int)),i + n=hyps.length→hyps.length < 4611686018427387904→(∀ x,(Gw.look x m).getD 0=((hyps.take i).count x:Int)) →
  ∃ m',forS (fun i s=>zcj.b1 hyps i s) n i m=some m' ∧ ∀ x,(Gw.look x m').getD 0=(hyps.count x:Int)
 | 0,i,m,hi,hb,h=>⟨m,rfl,fun x=>by rw [h,List.take_of_length_le zbw]⟩
 | n + 1,i,m,hi,hb,h=>by
  have hil:i < hyps.length:=by omega
  have he:at_ (0:Int) hyps (i:Int)=hyps[i]:=by
   unfold at_; rw [Int.toNat_natCast,List.getD_eq_getElem?_getD,List.getElem?_eq_getElem hil]; rfl
  simp only [forS,zcj.b1,Option.bind_some]
  refine hyps_map hyps n (i + 1) _ zbw hb fun x=>?_
  rw [he,count_map,h,List.take_succ_eq_append_getElem hil,List.count_append]
  have hc:(hyps.take i).count hyps[i] ≤ hyps.length:=Nat.le_trans List.count_le_length (by simp; omega)
  by_cases e:x=hyps[i]
  ·subst e
   rw [if_pos rfl,wrap_small ⟨by omega,by omega⟩]
   simp
  ·rw [if_neg e,h]
   simp [List.count_singleton,Ne.symm (a:=x) e]
theorem CheckH_some {M:List Nd} (hw:Wf M) {K:Nat} (hK:10 ≤ K) {hyps:List Int} (hb:hyps.length < 4611686018427387904) (ls:List Ln):zcj.f K (some M) hyps ls=some (some M,jp M hyps ls):=by
 unfold zcj.f jp
 rw [has_some16 hw.nodup]
 cases ha:hyps.all (fun h=>inb h M.length) with
 | false=>simp
 | true =>
  simp only [if_true,Option.bind_some,ne_eq,not_true_eq_false,decide_false,Bool.false_eq_true,if_false,Bool.true_and]
  have e0:(((ls.length:Nat):Int) - 0).toNat=ls.length:=by omega
  have e1:(((hyps.length:Nat):Int) - 0).toNat=hyps.length:=by omega
  rw [e0,e1]
  have h1:=forN_all (b:=fun i s=>zcj.b0 (some M) ls i) (p:=fun j=>inb (ls.getD j Ln.z).form M.length) (r:=((some M:Tb),(31:Int))) ls.length () (by
   intro j hj
   unfold zcj.b0 at_
   rw [Int.toNat_natCast,has_some16 hw.nodup]
   simp only [List.all_cons,List.all_nil,Bool.and_true,Option.bind_some]
   cases inb (ls.getD j Ln.z).form M.length <;> rfl)
  rw [h1]
  have hfe:formsS M ls=(List.range' 0 ls.length).all fun j=>inb (ls.getD j Ln.z).form M.length:=all_range (d:=Ln.z) ls
  rw [← hfe]
  cases hf:formsS M ls with
  | false=>simp [aft]
  | true =>
   simp only [if_true,Option.bind_some,aft]
   obtain ⟨m,h2,h3⟩ := hyps_map hyps hyps.length 0 [] zbw hb (fun x=>by simp [Gw.look])
   rw [show forS (fun i s=>zcj.b1 hyps i s) hyps.length 0 ([]:List (Int × Int))=some m from h2]
   simp only [Option.bind_some]
   have hm : ∀ h,(0 < (Gw.look h m).getD 0)↔h ∈ hyps:=fun h=>by
    rw [h3]
    rw [← List.count_pos_iff]; omega
   have h4:=forN_all (b:=fun i s=>zcj.b2 K m ls i s) (p:=fun j=>k8 M hyps ls j) (r:=((some M:Tb),(160:Int))) ls.length (some M) (by
    intro j hj
    unfold zcj.b2
    rw [right_prog hw hK hm hf (inb_mk zbw zbw)]
    simp only [Option.bind_some]
    cases k8 M hyps ls j <;> rfl)
   rw [h4]
   cases hr:(List.range' 0 ls.length).all (fun j=>k8 M hyps ls j) with
   | false=>simp [aft]
   | true =>
    simp only [if_true,Option.bind_some,aft]
    cases ls with
    | nil=>simp
    | cons x l=>simp; omega
theorem CheckH_doc {M:List Nd} (hw:Wf M) (hyps:List Int) (ls:List Ln):zdx.f (some M) hyps ls=some (jp M hyps ls):=by
 unfold zdx.f jp
 have e0:(((ls.length:Nat):Int) - 0).toNat=ls.length:=by omega
 have e1:(((hyps.length:Nat):Int) - 0).toNat=hyps.length:=by omega
 rw [e0,e1]
 have hh : ∀ i,zbV.f (some M) i=some (inb i M.length):=fun i=>by simp [zbV.f,chk,inb]
 have h0:=forN_all (b:=fun i s=>zdx.b0 (some M) hyps i) (p:=fun j=>inb (hyps.getD j 0) M.length) (r:=(31:Int)) hyps.length () (by
  intro j hj
  unfold zdx.b0 at_
  rw [Int.toNat_natCast,hh]
  simp only [Option.bind_some]
  cases inb (hyps.getD j 0) M.length <;> rfl)
 rw [h0,← all_range (d:=(0:Int)) (p:=fun h=>inb h M.length) hyps]
 cases ha:hyps.all (fun h=>inb h M.length) with
 | false=>simp [aft]
 | true =>
  simp only [if_true,Option.bind_some,aft,Bool.true_and]
  have h1:=forN_all (b:=fun i s=>zdx.b1 (some M) ls i) (p:=fun j=>inb (ls.getD j Ln.z).form M.length) (r:=(31:Int)) ls.length () (by
   intro j hj
   unfold zdx.b1 at_
   rw [Int.toNat_natCast,hh]
   simp only [Option.bind_some]
   cases inb (ls.getD j Ln.z).form M.length <;> rfl)
  rw [h1]
  have hfe:formsS M ls=(List.range' 0 ls.length).all fun j=>inb (ls.getD j Ln.z).form M.length:=all_range (d:=Ln.z) ls
  rw [← hfe]
  cases hf:formsS M ls with
  | false=>simp [aft]
  | true =>
   simp only [if_true,Option.bind_some,aft]
   have h4:=forN_all (b:=fun i s=>zdx.b2 (some M) hyps ls i) (p:=fun j=>k8 M hyps ls j) (r:=(160:Int)) ls.length () (by
    intro j hj
    unfold zdx.b2
    rw [right_doc hw hf (inb_mk zbw zbw)]
    simp only [Option.bind_some]
    cases k8 M hyps ls j <;> rfl)
   rw [h4]
   cases hr:(List.range' 0 ls.length).all (fun j=>k8 M hyps ls j) with
   | false=>simp [aft]
   | true =>
    simp only [if_true,Option.bind_some,aft]
    cases ls with
    | nil=>simp
    | cons x l=>simp; omega
end
section
open Gw
def err:TR→Option (Int × List Int)
 | .ok _=>none
 | .no c w=>some (c,w.reverse)
abbrev Tc:Type:=PChecker→PTerm→List (ByteArray × Int)→Option (Int × Option (Int × List Int))
abbrev Cc:Type:=PChecker→PTerm→List (ByteArray × Int)→Int→Option (Option (Int × List Int))
def Sok (M:List Nd) (s:Sc):Prop := ∀ q ∈ s,inb q.2 M.length=true
def Tells (M:List Nd) (r:Option (Int × Option (Int × List Int))) (t:TR):Prop := ∃ i,r=some (i,err t) ∧ ∀ f,t = .ok f→i=f∧inb f M.length=true
section
variable {M:List Nd} {x:PTerm} {k:Nat} {T:Tc} {C:Cc}
structure Parts (M:List Nd) (k:Nat) (x:PTerm) (T:Tc) (C:Cc):Prop where
 told : ∀ i,inb i x.sub.length=true → ∀ s,Sok M s→Tells M (T ⟨some M⟩ (at_ PTerm.z x.sub i) s) (tyS M k (at_ PTerm.z x.sub i) s none)
 chkd : ∀ i,inb i x.sub.length=true → ∀ s,Sok M s → ∀ id,inb id M.length=true→C ⟨some M⟩ (at_ PTerm.z x.sub i) s id=some (err (tyS M k (at_ PTerm.z x.sub i) s (some id)))
end
end
section
open Gw
end
section
open Gw
def z0T:PTerm:=⟨0,ByteArray.empty,ByteArray.empty,0,[]⟩
def vT (s:ByteArray):PTerm:=⟨1,s,ByteArray.empty,0,[]⟩
def funT (s:ByteArray) (x:PTerm):PTerm:=⟨2,s,ByteArray.empty,0,[x]⟩
def nT (k:Int) (l:List PTerm):PTerm:=⟨k,ByteArray.empty,ByteArray.empty,0,l⟩
def axT (k:Int):PTerm :=
 if k=1 then funT ⟨#[97]⟩ (funT ⟨#[98]⟩ (vT ⟨#[97]⟩))
 else if k=2 then funT ⟨#[97]⟩ (funT ⟨#[98]⟩ (funT ⟨#[99]⟩ (nT 3 [nT 3 [vT ⟨#[97]⟩,vT ⟨#[99]⟩],nT 3 [vT ⟨#[98]⟩,vT ⟨#[99]⟩]])))
 else if k=3 then funT ⟨#[97]⟩ (nT 5 [vT ⟨#[97]⟩])
 else if k=4 then funT ⟨#[97]⟩ (nT 6 [vT ⟨#[97]⟩])
 else if k=5 then funT ⟨#[97]⟩ (funT ⟨#[98]⟩ (nT 4 [vT ⟨#[97]⟩,vT ⟨#[98]⟩]))
 else if k=6 then funT ⟨#[97]⟩ (nT 7 [vT ⟨#[97]⟩])
 else if k=7 then funT ⟨#[97]⟩ (nT 8 [vT ⟨#[97]⟩])
 else if k=8 then funT ⟨#[97]⟩ (funT ⟨#[98]⟩ (funT ⟨#[99]⟩ ⟨9,⟨#[100]⟩,⟨#[101]⟩,0,[vT ⟨#[99]⟩,nT 3 [vT ⟨#[97]⟩,vT ⟨#[100]⟩],nT 3 [vT ⟨#[98]⟩,vT ⟨#[101]⟩]]⟩))
 else funT ⟨#[97]⟩ (nT 10 [vT ⟨#[97]⟩])
def ke (x:Ln):PTerm:=if x.kind=10 then vT (hNm x.form) else if x.kind=11 then nT 3 [vT (lNm x.a),vT (lNm x.b)] else ⟨11,ByteArray.empty,ByteArray.empty,x.form,[axT x.kind]⟩
def zae (ls:List Ln):Nat→PTerm→PTerm
 | 0,x=>x
 | n + 1,x=>zae ls n ⟨12,lNm n,ByteArray.empty,0,[ke (at_ Ln.z ls n),x]⟩
def vv (ls:List Ln):PTerm:=zae ls ls.length (vT (lNm ((ls.length:Int) - 1)))
theorem ax_prog (k:Int):zdl.f k=some (axT k):=by
 by_cases h1:k=1; · subst h1; rfl
 by_cases h2:k=2; · subst h2; rfl
 by_cases h3:k=3; · subst h3; rfl
 by_cases h4:k=4; · subst h4; rfl
 by_cases h5:k=5; · subst h5; rfl
 by_cases h6:k=6; · subst h6; rfl
 by_cases h7:k=7; · subst h7; rfl
 by_cases h8:k=8; · subst h8; rfl
 unfold zdl.f axT
 simp only [h1,h2,h3,h4,h5,h6,h7,h8,decide_false,Bool.false_eq_true,if_false]
 rfl
structure FineL (x:Ln):Prop where
 form:0 ≤ x.form∧x.form < 1024
 a:x.kind=11→0 ≤ x.a∧x.a < 9223372036854775808
 b:x.kind=11→0 ≤ x.b∧x.b < 9223372036854775808
theorem b0_prog {x:Ln} (h:FineL x) {i:Int} (h0:0 ≤ i) (h1:i < 9223372036854775808) (y:PTerm):zdm.b0 i x y=some (.go ⟨12,lNm i,ByteArray.empty,0,[ke x,y]⟩):=by
 have hf:=h.form
 unfold zdm.b0
 by_cases k10:x.kind=10
 ·simp only [k10,decide_true,if_true,Dec_prog hf.1 (show x.form < 9223372036854775808 by omega),Option.bind_some,kw h0 h1]
  rw [dec_ok 104 hf.1,chk,if_pos rfl]
  simp only [zdi.f,Option.bind_some]
  rw [show ke x=vT (hNm x.form) by unfold ke; rw [if_pos k10]]
  rfl
 ·by_cases k11:x.kind=11
  ·simp only [k11,show ¬ ((11:Int)=10) by decide,decide_false,Bool.false_eq_true,if_false,decide_true,if_true,kw (h.a k11).1 (h.a k11).2,kw (h.b k11).1 (h.b k11).2,Option.bind_some,zdi.f,zdj.f,kw h0 h1]
   rw [show ke x=nT 3 [vT (lNm x.a),vT (lNm x.b)] by unfold ke; rw [if_neg k10,if_pos k11]]
   rfl
  ·simp only [k10,k11,decide_false,Bool.false_eq_true,if_false,ax_prog,Option.bind_some,zdj.f,kw h0 h1]
   rw [show ke x=⟨11,ByteArray.empty,ByteArray.empty,x.form,[axT x.kind]⟩ by unfold ke; rw [if_neg k10,if_neg k11]]
   rfl
theorem bwd_snoc {α:Type} (l:List α) (y:α):bwd (l ++ [y])=((l.length:Int),y) :: bwd l:=by
 unfold bwd
 rw [List.zipIdx_append,List.map_append,List.reverse_append]
 simp
theorem loop_prog {ls:List Ln} (hb:ls.length < 9223372036854775808) (h : ∀ x ∈ ls,FineL x) : ∀ (n:Nat) (y:PTerm),n ≤ ls.length→forE (fun (x:Int × Ln) (s:PTerm)=>zdm.b0 x.1 x.2 s) (bwd (ls.take n)) y=some (.inl (zae ls n y))
 | 0,y,_=>by simp [bwd,forE,zae]
 | n + 1,y,hn=>by
  have hl:n < ls.length:=by omega
  have e:at_ Ln.z ls n=ls[n]:=by
   unfold at_; rw [Int.toNat_natCast,List.getD_eq_getElem?_getD,List.getElem?_eq_getElem hl]; rfl
  rw [List.take_succ_eq_append_getElem hl,bwd_snoc,forE]
  simp only [List.length_take,Nat.min_eq_left (show n ≤ ls.length by omega)]
  rw [b0_prog (h _ (List.getElem_mem hl)) zbw zbw]
  simp only [Option.bind_some]
  rw [loop_prog hb h n _ zbw,zae,e]
-- nodes,levels,what is right
theorem size_ax (k:Int):sizeT (axT k) ≤ 13:=by
 unfold axT
 repeat' split
 all_goals simp [funT,nT,vT,sizeT,sizeL]
theorem size_part (x:Ln):sizeT (ke x) ≤ 14:=by
 have:=size_ax x.kind
 unfold ke
 split
 ·simp [vT,sizeT,sizeL]
 split
 ·simp [vT,nT,sizeT,sizeL]
 ·simp [sizeT,sizeL]; omega
theorem size_lets (ls:List Ln) : ∀ (n:Nat) (y:PTerm),sizeT (zae ls n y) ≤ 15 * n + sizeT y
 | 0,y=>by simp [zae]
 | n + 1,y=>by
  rw [zae]
  refine Nat.le_trans (size_lets ls n _) ?_
  have:=size_part (at_ Ln.z ls n)
  simp [sizeT,sizeL]; omega
theorem size_term (ls:List Ln):sizeT (vv ls) ≤ 15 * ls.length + 1:=by
 refine Nat.le_trans (size_lets ls _ _) ?_
 simp [vT,sizeT,sizeL]
theorem dep_lets (ls:List Ln) : ∀ (n:Nat) (y:PTerm),n + depT y ≤ depT (zae ls n y)
 | 0,y=>by simp [zae]
 | n + 1,y=>by
  rw [zae]
  refine Nat.le_trans ?_ (dep_lets ls n _)
  simp [depT,depL]; omega
theorem dep_term (ls:List Ln):ls.length < depT (vv ls):=by
 have:=dep_lets ls ls.length (vT (lNm ((ls.length:Int) - 1)))
 have h1:1 ≤ depT (vT (lNm ((ls.length:Int) - 1))):=depT_pos _
 unfold vv; omega
theorem right_ax1 (k:Int):rightT (axT k)=true:=by
 unfold axT
 repeat' split
 all_goals decide +kernel
theorem ba_em:ByteArray.empty=(⟨#[]⟩ : ByteArray):=rfl
theorem right_v {s:ByteArray} (h:isWord s):rightT (vT s)=true:=by
 simp [vT,rightT,rightL,nodeR,zbh,h,PTerm.kind,PTerm.name,PTerm.other,PTerm.form,PTerm.sub,ba_em]
theorem right_part {x:Ln} (h:FineL x):rightT (ke x)=true:=by
 unfold ke
 split
 ·exact right_v (hNm_word h.form.1)
 split
 ·rename_i k
  have h1:=right_v (lNm_word (h.a k).1)
  have h2:=right_v (lNm_word (h.b k).1)
  simp [nT,rightT,rightL,nodeR,zbh,h1,h2,PTerm.kind,PTerm.name,PTerm.other,PTerm.form,PTerm.sub,ba_em]
 ·have h1:=right_ax1 x.kind
  have hf:=h.form
  simp [rightT,rightL,nodeR,zbh,h1,hf,PTerm.kind,PTerm.name,PTerm.other,PTerm.form,PTerm.sub,ba_em]
theorem right_lets {ls:List Ln} (h : ∀ x ∈ ls,FineL x) : ∀ (n:Nat) (y:PTerm),n ≤ ls.length→rightT y=true→rightT (zae ls n y)=true
 | 0,y,_,hy=>hy
 | n + 1,y,hn,hy=>by
  have hl:n < ls.length:=by omega
  have e:at_ Ln.z ls n=ls[n]:=by
   unfold at_; rw [Int.toNat_natCast,List.getD_eq_getElem?_getD,List.getElem?_eq_getElem hl]; rfl
  rw [zae]
  refine right_lets h n _ zbw ?_
  have h1:=right_part (h _ (List.getElem_mem hl))
  have h2:=lNm_word (show (0:Int) ≤ n by omega)
  rw [e]
  simp [rightT,rightL,nodeR,zbh,h1,h2,hy,PTerm.kind,PTerm.name,PTerm.other,PTerm.form,PTerm.sub,ba_em]
theorem right_term {ls:List Ln} (h : ∀ x ∈ ls,FineL x) (h0:0 < ls.length):rightT (vv ls)=true :=
 right_lets h _ _ (Nat.le_refl _) (right_v (lNm_word zbw))
mutual
theorem nm_right : ∀ (x:PTerm),rightT x=true→nmT x
 | .mk k n o f s,h=>by
  simp only [rightT,Bool.and_eq_true] at h
  have h1:=h.1
  unfold nodeR at h1
  simp only [Bool.and_eq_true] at h1
  obtain ⟨⟨⟨_,hn⟩,ho⟩,_⟩ := h1
  have hw : ∀ s:ByteArray,isWord s→s.size < 9223372036854775808:=fun s hs=>by have:=hs.2.1; omega
  have hz : ∀ s:ByteArray,s=⟨#[]⟩ → s.size < 9223372036854775808:=fun s hs=>by subst hs; decide
  refine ⟨?_,?_,nm_rightL s h.2⟩
  ·split at hn
   ·exact hw _ (of_decide_eq_true hn)
   ·exact hz _ (of_decide_eq_true hn)
  ·split at ho
   ·exact hw _ (of_decide_eq_true ho)
   ·exact hz _ (of_decide_eq_true ho)
theorem nm_rightL : ∀ (l:List PTerm),rightL l=true→nmL l
 | [],_=>trivial
 | x :: l,h=>by
  simp only [rightL,Bool.and_eq_true] at h
  exact ⟨nm_right x h.1,nm_rightL l h.2⟩
end
theorem fine_of {M:List Nd} (hw:Wf M) {hyps:List Int} {ls:List Ln} (h:jp M hyps ls=0) (hb:ls.length < 9223372036854775808):(∀ x ∈ ls,FineL x)∧0 < ls.length:=by
 have hlen:=hw.len
 unfold jp at h
 split at h
 ·rename_i h1
  split at h
  ·rename_i h2
   simp only [Bool.and_eq_true] at h1 h2
   refine ⟨fun x hx=>?_,?_⟩
   ·obtain ⟨j,hj,e⟩ := List.getElem_of_mem hx
    have hr:=List.all_eq_true.1 h2.1 j (by simp; omega)
    have e2:at_ Ln.z ls (j:Int)=x:=by
     unfold at_; rw [Int.toNat_natCast,List.getD_eq_getElem?_getD,List.getElem?_eq_getElem hj]; exact e
    have h3:=zI (List.all_eq_true.1 h1.2 x hx)
    unfold k8 at hr
    rw [e2] at hr
    refine ⟨⟨h3.1,by omega⟩,fun k=>?_,fun k=>?_⟩ <;>
    ·simp only [k,if_true,Bool.and_eq_true,decide_eq_true_eq] at hr
     omega
   ·cases ls with
    | nil=>simp at h2
    | cons x l=>simp
  ·simp at h
 ·simp at h
def zaf (M:List Nd) (hyps:List Int) (ls:List Ln):PTerm × Int :=
 if jp M hyps ls ≠ 0 then (z0T,jp M hyps ls) else if 1024 < ls.length∨65536 < sizeT (vv ls)∨1024 < depT (vv ls) then (z0T,150) else (vv ls,0)
theorem TermH_some {M:List Nd} (hw:Wf M) {K:Nat} (hK:67000 ≤ K) {hyps:List Int} (hb:hyps.length < 4611686018427387904) {ls:List Ln} (hl:ls.length < 4611686018427387904) :
  zdm.f K (some M) hyps ls=some (some M,zaf M hyps ls):=by
 have t1:jp M hyps ls=0→(1024 < ls.length∨65536 < sizeT (vv ls)∨1024 < depT (vv ls))→zaf M hyps ls=(z0T,150):=fun hc h=>by unfold zaf; rw [if_neg (by simpa using hc),if_pos h]
 have t2:jp M hyps ls=0→¬ (1024 < ls.length∨65536 < sizeT (vv ls)∨1024 < depT (vv ls))→zaf M hyps ls=(vv ls,0):=fun hc h=>by unfold zaf; rw [if_neg (by simpa using hc),if_neg h]
 unfold zdm.f
 rw [CheckH_some hw (show 10 ≤ K by omega) hb]
 simp only [Option.bind_some]
 by_cases hc:jp M hyps ls=0
 ·obtain ⟨hF,h0⟩ := fine_of hw hc zbw
  simp only [hc,ne_eq,not_true_eq_false,decide_false,Bool.false_eq_true,if_false]
  by_cases h1:1024 < ls.length
  ·rw [t1 hc (.inl h1),if_pos (by simp; omega)]; rfl
  ·rw [if_neg (by simp; omega),wrap_small ⟨by omega,by omega⟩,kw zbw zbw]
   simp only [Option.bind_some,zdi.f]
   have hlp:=loop_prog (show ls.length < 9223372036854775808 by omega) hF ls.length (vT (lNm ((ls.length:Int) - 1))) (Nat.le_refl _)
   rw [List.take_length] at hlp
   rw [show (⟨1,lNm ((ls.length:Int) - 1),ByteArray.empty,0,[]⟩ : PTerm)=vT (lNm ((ls.length:Int) - 1)) from rfl,hlp]
   simp only [Option.bind_some,fin]
   rw [show zae ls ls.length (vT (lNm ((ls.length:Int) - 1)))=vv ls from rfl]
   unfold zbN.f zcz.f
   simp only [Option.bind_some]
   by_cases hs:65536 < sizeT (vv ls)
   ·have e1:min (sizeT (vv ls)) 65537=65537:=by omega
    rw [t1 hc (.inr (.inl hs)),e1]
    simp; rfl
   ·have e1:min (sizeT (vv ls)) 65537=sizeT (vv ls):=by omega
    have e2:¬ (65536:Int) < (sizeT (vv ls):Int):=by omega
    rw [e1,show (1025:Int)=((1025:Nat):Int) from rfl]
    simp only [e2,decide_false,Bool.not_false,if_true,deep_some K (vv ls) 1025 zbw zbw zbw zbw,Option.bind_some,Bool.false_or]
    by_cases hd:1024 < depT (vv ls)
    ·have e3:(1024:Int) < ((min (depT (vv ls)) 1025:Nat):Int):=by omega
     rw [t1 hc (.inr (.inr hd))]; simp only [e3,decide_true,if_true]; rfl
    ·have e3:¬ (1024:Int) < ((min (depT (vv ls)) 1025:Nat):Int):=by omega
     rw [t2 hc zbw]; simp only [e3,decide_false,Bool.false_eq_true,if_false]
 ·have t3:zaf M hyps ls=(z0T,jp M hyps ls):=by unfold zaf; rw [if_pos hc]
  rw [t3]; simp only [hc,ne_eq,not_false_eq_true,decide_true,if_true]; rfl
end
section
open Gw
-- nodes,levels,what is right,as the document tells them
theorem rsize_some : ∀ (K:Nat) (x:PTerm) (n:Nat),n ≤ 65536→65540 ≤ K + n→sizeL x.sub < 9223372036854775807→zcA.f K x (n:Int)=some ((min (n + sizeT x) 65537:Nat):Int)
 | 0,_,_,h1,h2,_=>by omega
 | K + 1,x,n,h1,h2,hbig=>by
  show zcA.g (zcA.f K) K x n=_
  unfold zcA.g
  have hs:=k6 x
  have hls:=zbr x.sub
  have hw:IntKind.i64.wrap ((n:Int) + 1)=((n + 1:Nat):Int):=by
   rw [show ((n:Int) + 1)=((n + 1:Nat):Int) by omega]; exact k7 zbw
  have hgrow : ∀ i,i ≤ x.sub.length→i ≤ sizeL (x.sub.take i):=fun i hi=>by
   have:=zbr (x.sub.take i); rw [List.length_take] at this; omega
  obtain ⟨N,hN1,hN2⟩ : ∃ N,N=min x.sub.length (65536 - n)∧(N=x.sub.length∨65537 ≤ n + 1 + sizeL (x.sub.take N)):=by
   refine ⟨_,rfl,?_⟩
   by_cases h:x.sub.length ≤ 65536 - n
   ·left; omega
   ·right
    have:=hgrow (min x.sub.length (65536 - n)) zbw
    omega
  have hfin:min (n + 1 + sizeL (x.sub.take N)) 65537=min (n + sizeT x) 65537:=by
   rcases hN2 with h | h
   ·rw [h,List.take_length]; omega
   ·have:=sizeL_le (l:=x.sub) N; omega
  obtain ⟨j,hj⟩ := iter_count (b:=fun s=>zcA.b0 x (zcA.f K) s.1 s.2) (g:=fun i=>((min (n + 1 + sizeL (x.sub.take i)) 65537:Nat):Int)) N (fun i hi=>by
   have hil:i < x.sub.length:=by omega
   have he:=List.getElem?_eq_getElem hil
   have hd:=sizeL_take he
   simp only [zcA.b0]
   by_cases hc:n + 1 + sizeL (x.sub.take i) ≤ 65536
   ·left
    have hm:min (n + 1 + sizeL (x.sub.take i)) 65537=n + 1 + sizeL (x.sub.take i):=by omega
    rw [hm,if_pos (by simp; omega),chk_t (by rw [inb_nat]; exact decide_eq_true hil),at_nat hil,rsize_some K _ _ hc zbw (by have:=kG (List.getElem_mem hil); have:=k6 x.sub[i]; omega)]
    simp only [Option.bind_some]
    rw [show (i:Int) + 1=((i + 1:Nat):Int) by omega,k7 zbw,hd]
    congr 5
    omega
   ·right
    rw [if_neg (by simp; omega)]
    refine ⟨rfl,?_⟩
    congr 1
    have h6:=sizeL_le (l:=x.sub) i
    have h7:sizeL (x.sub.take i) ≤ sizeL (x.sub.take N):=by
     have:=sizeL_le (l:=x.sub.take N) i
     rw [List.take_take,Nat.min_eq_left zbw] at this; exact this
    omega) (by
   simp only [zcA.b0]
   rcases hN2 with h | h
   ·rw [if_neg (by rw [h]; simp)]
   ·rw [if_neg (by simp; omega)]) K 0 zbw zbw
  simp only [List.take_zero,sizeL,Nat.add_zero] at hj
  rw [Nat.min_eq_left (show n + 1 ≤ 65537 by omega),show ((0:Nat):Int)=0 from rfl,hfin] at hj
  rw [hw,hj]
  simp only [Option.bind_some,aft]
theorem rdeep_some : ∀ (K:Nat) (x:PTerm) (lv:Nat),1 ≤ lv→lv ≤ 1025→sizeT x ≤ 65536→sizeT x + 1025 < K + lv→zcC.f K x (lv:Int)=some ((min (lv - 1 + depT x) 1025:Nat):Int)
 | 0,x,lv,h1,h2,h3,hK=>by have:=sizeT_pos x; omega
 | K + 1,x,lv,h1,h2,h3,hK=>by
  show zcC.g (zcC.f K) K x lv=_
  unfold zcC.g
  have hp:=depT_pos x
  by_cases hm:1024 < lv
  ·rw [if_pos (by simp; omega)]
   congr 2; omega
  rw [if_neg (by simp; omega)]
  have hw:IntKind.i64.wrap ((lv:Int) + 1)=((lv + 1:Nat):Int):=by
   rw [show ((lv:Int) + 1)=((lv + 1:Nat):Int) by omega]; exact k7 zbw
  have hs:=k6 x
  have hls:=zbr x.sub
  obtain ⟨j,hj⟩ := iter_count (b:=fun s=>zcC.b0 x (zcC.f K) lv s.1 s.2) (g:=fun i=>((min (lv + depL (x.sub.take i)) 1025:Nat):Int)) x.sub.length (fun i hi=>by
   have he:=List.getElem?_eq_getElem hi
   have hd:=depL_take he
   have hle:=depL_le (l:=x.sub) i
   simp only [zcC.b0,hw]
   by_cases hc:lv + depL (x.sub.take i) ≤ 1024
   ·left
    rw [if_pos (by simp; omega),chk_t (by rw [inb_nat]; exact decide_eq_true hi),at_nat hi,rdeep_some K _ (lv + 1) zbw zbw (by have:=kG (List.getElem_mem hi); omega) (by have:=kG (List.getElem_mem hi); omega)]
    simp only [Option.bind_some]
    rw [show (i:Int) + 1=((i + 1:Nat):Int) by omega,k7 zbw]
    congr 3
    rw [hd]
    split <;> omega
   ·right
    rw [if_neg (by simp; omega)]
    refine ⟨rfl,?_⟩
    rw [List.take_length]
    congr 1
    omega) (by
   simp only [zcC.b0,hw]
   rw [if_neg zbx]) K 0 zbw zbw
  simp only [List.take_zero,depL,Nat.add_zero,List.take_length] at hj
  rw [show min lv 1025=lv by omega,show ((0:Nat):Int)=0 from rfl] at hj
  rw [hj]
  simp only [Option.bind_some,aft]
  rw [depT_eq]
  congr 2
  omega
theorem rparts_some (k:Int):zcx.f k=some (zbh k):=by
 by_cases h:k=1∨k=2∨k=3∨k=4∨k=5∨k=6∨k=7∨k=8∨k=9∨k=10∨k=11∨k=12
 ·rcases h with rfl | rfl | rfl | rfl | rfl | rfl | rfl | rfl | rfl | rfl | rfl | rfl <;> decide
 ·simp only [not_or] at h
  obtain ⟨h1,h2,h3,h4,h5,h6,h7,h8,h9,h10,h11,h12⟩ := h
  simp [zcx.f,zbh,h1,h2,h3,h4,h5,h6,h7,h8,h9,h10,h11,h12]
theorem iter_all {ρ:Type} {b:Int→Option (Stp Int ρ)} {p:Nat→Bool} {r:ρ} (n:Nat) (h : ∀ i,i < n→b (i:Int)=some (if p i then .go ((i + 1:Nat):Int) else .ret r)) (he:b (n:Int)=some (.brk (n:Int))) :
  ∀ (k i:Nat),i ≤ n→n - i < k→iter b k (i:Int)=some (if (List.range' i (n - i)).all p then .inl (n:Int) else .inr r)
 | 0,i,_,hk=>by omega
 | k + 1,i,hi,hk=>by
  by_cases hin:i=n
  ·subst hin; simp only [iter,he,Option.bind_some,Nat.sub_self,List.range'_zero,List.all_nil,if_true]
  ·rw [iter,h i zbw,show n - i=(n - (i + 1)) + 1 by omega,List.range'_succ,List.all_cons]
   cases hp:p i with
   | true =>
    simp only [if_true,Option.bind_some,Bool.true_and]
    exact iter_all n h he k (i + 1) zbw zbw
   | false=>simp only [Bool.false_eq_true,if_false,Option.bind_some,Bool.false_and]
theorem rright_some : ∀ (K:Nat) (x:PTerm),nmT x→depT x + 3 < K→zcJ.f K x=some (rightT x)
 | 0,x,_,h=>by omega
 | K + 1,x,hn,hK=>by
  have hd:=depT_eq x
  obtain ⟨n1,n2,n3⟩ := (nmT_eq x).1 hn
  show zcJ.g (zcJ.f K) K x=_
  unfold zcJ.g
  rw [rparts_some,rightT_eq]
  simp only [Option.bind_some]
  by_cases hl:zbh x.kind=(x.sub.length:Int)
  ·have hlen:x.sub.length ≤ 3:=by
    unfold zbh at hl
    split at hl
    ·omega
    split at hl
    ·omega
    split at hl
    ·omega
    split at hl <;> omega
   have hloop:iter (fun s=>zcJ.b0 x (zcJ.f K) s) K 0=some (if rightL x.sub then .inl (x.sub.length:Int) else .inr false):=by
    have h1:=iter_all (b:=fun s=>zcJ.b0 x (zcJ.f K) s) (p:=fun i=>rightT (x.sub.getD i PTerm.z)) (r:=false) x.sub.length (fun i hi=>by
     have he:=List.getElem?_eq_getElem hi
     have hm:=List.getElem_mem hi
     simp only [zcJ.b0]
     rw [if_pos (by simp; omega),chk_t (by rw [inb_nat]; exact decide_eq_true hi),at_nat hi,rright_some K _ (nmL_mem n3 _ hm) (by have:=depL_mem _ hm; omega)]
     simp only [Option.bind_some,List.getD_eq_getElem?_getD,he,Option.getD_some]
     rw [show (i:Int) + 1=((i + 1:Nat):Int) by omega,k7 zbw]
     cases rightT x.sub[i] <;> rfl) (by
     simp only [zcJ.b0]
     rw [if_neg zbx]) K 0 zbw zbw
    rw [show ((0:Nat):Int)=0 from rfl] at h1
    rw [h1]
    have h2:(List.range' 0 (x.sub.length - 0)).all (fun i=>rightT (x.sub.getD i PTerm.z))=rightL x.sub:=by
     rw [rightL_all,Bool.eq_iff_iff]
     simp only [List.all_eq_true,List.mem_range'_1,Nat.sub_zero]
     constructor
     ·intro hh y hy
      obtain ⟨k,hk,rfl⟩ := List.getElem_of_mem hy
      have:=hh k ⟨by omega,by omega⟩
      simpa only [List.getD_eq_getElem?_getD,List.getElem?_eq_getElem hk,Option.getD_some] using this
     ·intro hh k hk
      have hk':k < x.sub.length:=by omega
      simp only [List.getD_eq_getElem?_getD,List.getElem?_eq_getElem hk',Option.getD_some]
      exact hh _ (List.getElem_mem hk')
    rw [h2]
   rw [hloop]
   unfold nodeR
   simp only [zbG.f]
   rw [chk_t (decide_eq_true n1),chk_t (decide_eq_true n2)]
   have hb:((((decide (x.kind=1)) || (decide (x.kind=2))) || (decide (x.kind=9))) || (decide (x.kind=12)))=decide (x.kind=1∨x.kind=2∨x.kind=9∨x.kind=12):=by
    rw [Bool.eq_iff_iff]; simp; omega
   rw [hb]
   generalize zbh x.kind=p at hl
   subst hl
   by_cases hk:x.kind=1∨x.kind=2∨x.kind=9∨x.kind=12
   ·simp only [if_pos hk,decide_eq_true hk]
    by_cases hw:isWord x.name
    ·by_cases h9:x.kind=9
     ·have h9':¬ x.kind ≠ 9:=fun q=>q h9
      simp only [if_pos h9,decide_eq_true h9,decide_eq_false h9']
      by_cases ho:isWord x.other
      ·by_cases hf:x.form=0
       ·cases hr:rightL x.sub <;> simp [h9,hw,ho,hf,hr,aft]
       ·cases hr:rightL x.sub <;> simp [h9,hw,ho,hf,hr,aft]
      ·simp [hw,ho]
     ·have h9':x.kind ≠ 9:=h9
      simp only [if_neg h9,decide_eq_false h9,decide_eq_true h9']
      by_cases ho:x.other=⟨#[]⟩
      ·by_cases h11:x.kind=11
       ·omega
       ·by_cases hf:x.form=0
        ·cases hr:rightL x.sub <;> simp [h11,hw,ho,hf,hr,aft]
        ·cases hr:rightL x.sub <;> simp [h11,hw,ho,hf,hr,aft]
      ·simp [hw,ho]
    ·simp [hw]
   ·have h9:¬ x.kind=9:=fun e=>hk (.inr (.inr (.inl e)))
    have h9':x.kind ≠ 9:=h9
    simp only [if_neg hk,decide_eq_false hk,if_neg h9,decide_eq_false h9,decide_eq_true h9']
    by_cases hw:x.name=⟨#[]⟩
    ·by_cases ho:x.other=⟨#[]⟩
     ·by_cases h11:x.kind=11
      ·by_cases hf:0 ≤ x.form
       ·by_cases hg:x.form < 1024
        ·have q1:¬ x.form < 0:=by omega
         have q2:¬ 1024 ≤ x.form:=by omega
         cases hr:rightL x.sub <;> simp [h11,hw,ho,hf,hg,q1,q2,hr,aft]
        ·have q2:1024 ≤ x.form:=by omega
         simp [h11,hw,ho,hf,hg,q2]
       ·have q1:x.form < 0:=by omega
        simp [h11,hw,ho,hf,q1]
      ·by_cases hf:x.form=0
       ·cases hr:rightL x.sub <;> simp [h11,hw,ho,hf,hr,aft]
       ·simp [h11,hw,ho,hf]
     ·simp [hw,ho]
    ·simp [hw]
  ·rw [if_pos (by simpa using hl)]
   simp [nodeR,hl]
theorem rCheck_some {K:Nat} {x:PTerm} (hK:67000 ≤ K) (hn:nmT x) (hbig:sizeL x.sub < 9223372036854775807):zcK.f K x=some (checkT x):=by
 unfold zcK.f zcB.f zcD.f checkT
 rw [show (0:Int)=((0:Nat):Int) from rfl,rsize_some K x 0 zbw zbw hbig]
 simp only [Option.bind_some,Nat.zero_add]
 by_cases hs:65536 < sizeT x
 ·have h1:min (sizeT x) 65537=65537:=by omega
  simp [h1,hs]
 ·have h1:min (sizeT x) 65537=sizeT x:=by omega
  have h2:¬ (65536:Int) < (sizeT x:Int):=by omega
  rw [h1,show (1:Int)=((1:Nat):Int) from rfl]
  simp only [h2,decide_false,Bool.not_false,if_true,rdeep_some K x 1 zbw zbw zbw zbw,Option.bind_some,Bool.false_or,decide_eq_true_eq,hs,false_or,Nat.sub_self,Nat.zero_add]
  have hdp:=depT_pos x
  by_cases hd:1024 < depT x
  ·have h3:(1024:Int) < ((min (depT x) 1025:Nat):Int):=by omega
   simp [h3,hd]
  ·have h3:¬ (1024:Int) < ((min (depT x) 1025:Nat):Int):=by omega
   rw [if_neg h3,if_neg hd,rright_some K x hn zbw]
   cases rightT x <;> rfl
end
section
open Gw
theorem ax_doc (k:Int):zdD.f k=some (axT k):=by
 by_cases h1:k=1; · subst h1; rfl
 by_cases h2:k=2; · subst h2; rfl
 by_cases h3:k=3; · subst h3; rfl
 by_cases h4:k=4; · subst h4; rfl
 by_cases h5:k=5; · subst h5; rfl
 by_cases h6:k=6; · subst h6; rfl
 by_cases h7:k=7; · subst h7; rfl
 by_cases h8:k=8; · subst h8; rfl
 unfold zdD.f axT
 simp only [h1,h2,h3,h4,h5,h6,h7,h8,decide_false,Bool.false_eq_true,if_false]
 rfl
theorem b0_doc {K:Nat} (hK:30 ≤ K) {ls:List Ln} (hb:ls.length < 9223372036854775808) (h : ∀ x ∈ ls,FineL x) {n:Nat} (hn:n < ls.length) (y:PTerm) :
  zdE.b0 ls K (n:Int) y=some (.go ((n:Int) - 1,⟨12,lNm n,ByteArray.empty,0,[ke (at_ Ln.z ls n),y]⟩)):=by
 have e:at_ Ln.z ls n=ls[n]:=by
  unfold at_; rw [Int.toNat_natCast,List.getD_eq_getElem?_getD,List.getElem?_eq_getElem hn]; rfl
 have hx:=h _ (List.getElem_mem hn)
 rw [← e] at hx
 have hin:inb (n:Int) ls.length=true:=inb_mk zbw zbw
 unfold zdE.b0
 rw [if_pos zbx,chk,if_pos hin,show IntKind.i64.wrap ((n:Int) - 1)=(n:Int) - 1 from IntWalk.i64_in _ ⟨by omega,by omega⟩,Dec_doc hK (show (0:Int) ≤ n by omega) zbw]
 generalize at_ Ln.z ls n=x at *
 have hf:=hx.form
 by_cases k10:x.kind=10
 ·simp only [k10,decide_true,if_true,Dec_doc hK hf.1 (show x.form < 9223372036854775808 by omega),Option.bind_some]
  rw [dec_ok 104 hf.1,chk,if_pos rfl]
  simp only [zdz.f,Option.bind_some]
  rw [dec_ok 108 (show (0:Int) ≤ n by omega),chk,if_pos rfl,show ke x=vT (hNm x.form) by unfold ke; rw [if_pos k10]]
  rfl
 ·by_cases k11:x.kind=11
  ·simp only [k11,show ¬ ((11:Int)=10) by decide,decide_false,Bool.false_eq_true,if_false,decide_true,if_true,Dec_doc hK (hx.a k11).1 (hx.a k11).2,Dec_doc hK (hx.b k11).1 (hx.b k11).2,Option.bind_some,zdz.f,zdB.f]
   rw [dec_ok 108 (hx.a k11).1,dec_ok 108 (hx.b k11).1,dec_ok 108 (show (0:Int) ≤ n by omega),show ke x=nT 3 [vT (lNm x.a),vT (lNm x.b)] by unfold ke; rw [if_neg k10,if_pos k11]]
   rfl
  ·simp only [k10,k11,decide_false,Bool.false_eq_true,if_false,ax_doc,Option.bind_some]
   rw [dec_ok 108 (show (0:Int) ≤ n by omega),show ke x=⟨11,ByteArray.empty,ByteArray.empty,x.form,[axT x.kind]⟩ by unfold ke; rw [if_neg k10,if_neg k11]]
   rfl
theorem loop_doc {K:Nat} (hK:30 ≤ K) {ls:List Ln} (hb:ls.length < 9223372036854775808) (h : ∀ x ∈ ls,FineL x) : ∀ (n k:Nat) (y:PTerm),n ≤ ls.length→n < k→iter (fun s=>zdE.b0 ls K s.1 s.2) k ((n:Int) - 1,y)=some (.inl (-1,zae ls n y))
 | n,0,y,_,hk=>by omega
 | 0,k + 1,y,_,_=>by
  simp only [iter]
  rw [show zdE.b0 ls K (((0:Nat):Int) - 1) y=some (.brk (-1,y)) by unfold zdE.b0; rw [if_neg zbx]; rfl]
  rfl
 | n + 1,k + 1,y,hn,hk=>by
  simp only [iter]
  rw [show (((n + 1:Nat):Int) - 1)=(n:Int) by omega,b0_doc hK hb h (show n < ls.length by omega)]
  simp only [Option.bind_some]
  exact loop_doc hK hb h n k _ zbw zbw
theorem TermD_some {M:List Nd} (hw:Wf M) {K:Nat} (hK:67000 ≤ K) {hyps:List Int} {ls:List Ln} (hl:ls.length < 4611686018427387904) :
  zdE.f K (some M) hyps ls=some (some M,zaf M hyps ls):=by
 have t1:jp M hyps ls=0→(1024 < ls.length∨65536 < sizeT (vv ls)∨1024 < depT (vv ls))→zaf M hyps ls=(z0T,150):=fun hc h=>by unfold zaf; rw [if_neg (by simpa using hc),if_pos h]
 have t2:jp M hyps ls=0→¬ (1024 < ls.length∨65536 < sizeT (vv ls)∨1024 < depT (vv ls))→zaf M hyps ls=(vv ls,0):=fun hc h=>by unfold zaf; rw [if_neg (by simpa using hc),if_neg h]
 unfold zdE.f
 rw [CheckH_doc hw hyps ls]
 simp only [Option.bind_some]
 by_cases hc:jp M hyps ls=0
 ·obtain ⟨hF,h0⟩ := fine_of hw hc zbw
  simp only [hc,ne_eq,not_true_eq_false,decide_false,Bool.false_eq_true,if_false]
  by_cases h1:4096 < ls.length
  ·rw [t1 hc (.inl zbw),if_pos (by simp; omega)]; rfl
  ·rw [if_neg (by simp; omega),wrap_small ⟨by omega,by omega⟩,Dec_doc zbw zbw zbw]
   simp only [Option.bind_some,zdz.f]
   rw [dec_ok 108 zbw,chk,if_pos rfl]
   have hlp:=loop_doc (show 30 ≤ K by omega) (show ls.length < 9223372036854775808 by omega) hF ls.length K (vT (lNm ((ls.length:Int) - 1))) (Nat.le_refl _) zbw
   rw [show (⟨1,(⟨#[108]⟩ : ByteArray) ++ decN ((ls.length:Int) - 1),ByteArray.empty,0,[]⟩ : PTerm)=vT (lNm ((ls.length:Int) - 1)) from rfl,hlp]
   simp only [Option.bind_some,aft]
   rw [show zae ls ls.length (vT (lNm ((ls.length:Int) - 1)))=vv ls from rfl]
   have hr:=right_term hF h0
   have hsz:=size_term ls
   have hse:=k6 (vv ls)
   have hde:=dep_term ls
   rw [rCheck_some hK (nm_right _ hr) zbw]
   simp only [Option.bind_some]
   by_cases hf:65536 < sizeT (vv ls)∨1024 < depT (vv ls)
   ·rw [t1 hc (.inr hf),show checkT (vv ls)=121 by unfold checkT; rw [if_pos hf]]; rfl
   ·rw [t2 hc zbw,show checkT (vv ls)=0 by unfold checkT; rw [if_neg hf,if_pos hr]]; rfl
 ·have t3:zaf M hyps ls=(z0T,jp M hyps ls):=by unfold zaf; rw [if_pos hc]
  rw [t3]; simp only [hc,ne_eq,not_false_eq_true,decide_true,if_true]; rfl
theorem len_size : ∀ l:List PTerm,l.length ≤ sizeL l
 | []=>by simp
 | x :: l=>by have:=len_size l; have:=sizeT_pos x; simp only [sizeL,List.length_cons]; omega
theorem same_refl : ∀ (K:Nat) (x:PTerm),sizeT x + 2 ≤ K→sizeT x < 9223372036854775807→zdp.f K x x=some true
 | 0,x,h,_=>by omega
 | K + 1,x,h,hb=>by
  have hs:=k6 x
  have hl:=len_size x.sub
  show zdp.g (zdp.f K) K x x=_
  unfold zdp.g
  rw [if_neg zbx]
  have hb0 : ∀ i,i < x.sub.length→zdp.b0 x x (zdp.f K) (i:Int)=some (if (fun _:Nat=>true) i then .go ((i + 1:Nat):Int) else .ret false):=fun i hi=>by
   have hin:inb (i:Int) x.sub.length=true:=inb_mk zbw zbw
   have hm:sizeT (at_ PTerm.z x.sub i) ≤ sizeL x.sub:=kG (at_mem ⟨by omega,by omega⟩)
   unfold zdp.b0
   rw [if_pos (by simp; omega),chk,if_pos hin,chk,if_pos hin,same_refl K _ zbw zbw,wrap_small ⟨by omega,by omega⟩]
   simp
  have he:zdp.b0 x x (zdp.f K) (x.sub.length:Int)=some (.brk (x.sub.length:Int)):=by
   unfold zdp.b0; rw [if_neg zbx]
  have:=iter_all (r:=false) x.sub.length hb0 he K 0 zbw zbw
  rw [show ((0:Nat):Int)=0 from rfl] at this
  rw [show iter (fun s=>zdp.b0 x x (zdp.f K) s) K 0=_ from this,if_pos (List.all_eq_true.2 fun _ _=>rfl)]
  rfl
theorem HilbertTerms_true {K:Nat} (hK:70000 ≤ K) (hh:zdr.f K=some true) {rows:List Nd} (hn : ∀ n ∈ rows,n.name.size < 9223372036854775808) (hl:rows.length * 40 ≤ 140737488355328) {hyps:List Int} {ls:List Ln} (h1:hyps.length * 8 ≤ 140737488355328) (h2:ls.length * 32 ≤ 140737488355328):zdF.f K rows hyps ls=some true:=by
 obtain ⟨M,ht,hw,_⟩ := tables16 hn hl
 unfold zdF.f
 rw [ht]
 simp only [Option.bind_some,List.nil_append]
 rw [chk,if_pos (by simp; omega),TermH_some hw (show 67000 ≤ K by omega) (show hyps.length < 4611686018427387904 by omega) (show ls.length < 4611686018427387904 by omega)]
 simp only [Option.bind_some]
 rw [TermD_some hw (show 67000 ≤ K by omega) (show ls.length < 4611686018427387904 by omega)]
 simp only [Option.bind_some,zdo.f]
 have hsz:sizeT (zaf M hyps ls).1 ≤ 65536:=by
  unfold zaf
  split
  ·simp [z0T,sizeT,sizeL]
  ·split
   ·simp [z0T,sizeT,sizeL]
   ·simp only; omega
 have hs:zdt.f (some M) (some M)=some true:=by unfold zdt.f; rw [like_self]; rfl
 rw [same_refl K _ zbw zbw]
 simp [hs,hh]
end
section
open Gw
end
section
open Gw
set_option maxRecDepth 100000
theorem heads16:zdr.f 70000=some true:=by decide +kernel
end
section
open Gw Go.ChangeShapes Go.WideShapes Go.ChangeAt Go.RowKit
set_option maxRecDepth 100000
theorem ownKnob_none:ownKnob PP.godebug=none:=by kernel_rfl
theorem laidOut_PP:laidOutB PP=true:=by kernel_rfl
theorem trodAll_stays {H:Type} {enc:TypeId × Value→H} {W W':World} {sp:Nat→Bool} : ∀ {ts:List TypeId} {vs:List Value} {ds:List (DataW H)} {ps:List MemPlace},(∀ t ∈ ts,PP.readableRec t=true∧t < PP.types.size) →
  DataW.TrodAll enc PP W 0 (fun _=>true) true ts vs ds ps→(∀ p ∈ ps,W.sameAt W' p)→(∀ p ∈ ps,sp p.block=true)→DataW.TrodAll enc PP W' 0 sp true ts vs ds ps
 | [],vs,ds,ps,_,h,_,_=>by
  obtain ⟨rfl,rfl,rfl⟩ := trodAll_nil h
  exact trodAll_mk0
 | t :: ts,vs,ds,ps,hr,h,h1,h2=>by
  obtain ⟨v,vs,d,ds,p,q,rfl,rfl,rfl,h0,h3⟩ := trodAll_cons h
  have ht:=hr t zbx
  exact trodAll_cons_mk (WideElems.Trod_stays laidOut_PP ht.1 ht.2 h0 (fun x hx=>h1 x (by simp [hx])) (fun x hx=>h2 x (by simp [hx])))
   (trodAll_stays (fun t ht=>hr t (by simp [ht])) h3 (fun x hx=>h1 x (by simp [hx])) (fun x hx=>h2 x (by simp [hx])))
def oth0:Oth:=⟨fun _=>False,[],fun _ h=>by cases h⟩
section
variable {P:Program} {W:World} {b t:Nat} {k:IntKind} {v:Value}
end
section
variable {H:Type} {enc:TypeId × Value→H} {P:Program} {W:World} {t:TypeId} {fuel:Nat} {cs:List Value} {x:DataW H × List MemPlace} {sp:Nat→Bool} {hd:Bool} {b0:Nat}
theorem take_one {l:List Value} {o:Nat} {v:Value} (h:(l.drop o).take 1=[v]):l[o]? = some v:=by
 have:((l.drop o).take 1)[0]? = some v:=by rw [h]; rfl
 rw [List.getElem?_take] at this
 simpa using this
theorem fld_int {i off ft:Nat} {k:IntKind} (hf:zay P t i off ft) (hk:P.underlying ft=some (.int k)) (hc:P.cellsOf ft=1) (h:DataW.trod enc P W b0 sp hd fuel t cs=some x) : ∃ n,cs[off]? = some (.int k n):=by
 obtain ⟨fs,fd,hu,hi,rfl,rfl⟩ := hf
 obtain ⟨xs,n,_,_,hl,hx,hall⟩ := DataW.trod_struct hu h
 have h1:=hall i fd hi
 have h2:i < xs.length:=by rw [hx]; exact (Array.getElem?_eq_some_iff.1 hi).1
 rw [List.getElem?_eq_getElem h2,hc] at h1
 obtain ⟨n,e,_⟩ := DataW.trod_int hk h1
 exact ⟨n,take_one e⟩
theorem fld_str {i off ft:Nat} (hf:zay P t i off ft) (hk:P.underlying ft=some .string) (hc:P.cellsOf ft=1) (h:DataW.trod enc P W b0 sp hd fuel t cs=some x) : ∃ s:ByteArray,cs[off]? = some (.string s)∧s.size ≤ maxLen:=by
 obtain ⟨fs,fd,hu,hi,rfl,rfl⟩ := hf
 obtain ⟨xs,n,_,_,hl,hx,hall⟩ := DataW.trod_struct hu h
 have h1:=hall i fd hi
 have h2:i < xs.length:=by rw [hx]; exact (Array.getElem?_eq_some_iff.1 hi).1
 rw [List.getElem?_eq_getElem h2,hc] at h1
 obtain ⟨s,e,_,hs⟩ := DataW.trod_string hk h1
 exact ⟨s,take_one e,hs⟩
theorem slice_of {α:Type} [Inhabited α] {e k:Nat} {C:α→List Value} {Q:α→Prop} {base:Nat} {v:Value} {d:DataW H} {ps:List MemPlace} (ht:P.underlying t=some (.slice e)) (hk:P.cellsOf e=k) (hC : ∀ a,(C a).length=k) (hk0:0 < k)
  (hel : ∀ (n:Nat) (cs:List Value) (x:DataW H × List MemPlace),DataW.trod enc P W 0 (fun _=>true) true n e cs=some x → ∃ a,cs=C a∧Q a)
  (hval:Value.okWide P W .any base t v) (h:DataW.Trod enc P W 0 (fun _=>true) true t v d ps) :
  ∃ (l:List α) (s:SlV),v=s.v∧Rd W k s (l.map C)∧(∀ a ∈ l,Q a)∧(l=[] ∨ ∃ elems spare,d = .slice elems spare∧elems.length=l.length):=by
 obtain ⟨a0,len0,cap0,rfl⟩ := okWide_slice ht hval
 obtain ⟨fuel,hf⟩ := h
 rcases Deep.open_slice ht hf with ⟨h1,h2⟩ | ⟨a,len,cap,m,n,D,Pl,h1,_,hlc,hcm,hm,h2,hx⟩
 ·simp [Value.cells] at h1
  obtain ⟨rfl,rfl,rfl⟩ := h1
  exact ⟨[],SlV.nil,SlV.nil_eq,Rd.nil W k,by simp,.inl rfl⟩
 ·simp [Value.cells] at h1
  obtain ⟨rfl,rfl,rfl⟩ := h1
  have hval2:=hval
  simp only [Value.okWide,ht,Cell.okWide,Cell.ok] at hval2
  obtain ⟨_,_,_,hspot,row,cells,hshape,_⟩ := hval2
  obtain ⟨ab,ao,asp⟩ := a
  obtain rfl:asp=none:=hspot
  simp only at hshape
  have hlt:ab < W.heap.size:=by
   unfold World.shape? at hshape
   cases hh:W.heap[ab]? with
   | none=>rw [hh] at hshape; cases hshape
   | some o=>exact (Array.getElem?_eq_some_iff.1 hh).1
  have hmc:m=cap0:=by rw [hm]; rfl
  obtain ⟨f,hfx⟩ := Deep.choose_lt (α:=α) (n:=len0) (p:=fun i y=>W.cells? 0 ((⟨ab,ao,none⟩ : Addr).add (i * P.cellsOf e)) (P.cellsOf e)=some (C y)∧Q y) (fun i hi=>by
   obtain ⟨cs',hc,ht'⟩ := hx i zbw
   obtain ⟨y,rfl,hq⟩ := hel _ _ _ ht'
   exact ⟨y,hc,hq⟩)
  refine ⟨(List.range len0).map f,⟨some ⟨ab,ao,none⟩,len0,cap0⟩,by rw [SlV.eq],⟨⟨by simp,?_,?_⟩,?_,hlc⟩,?_,.inr ⟨_,_,by simpa using congrArg Prod.fst h2,by simp⟩⟩
  ·intro r hr
   obtain ⟨y,_,rfl⟩ := List.mem_map.1 hr
   exact hC y
  ·intro i r hr
   rw [List.getElem?_map,List.getElem?_map] at hr
   have hi:i < len0:=by
    refine Nat.lt_of_not_le fun q=>?_
    rw [List.getElem?_eq_none (by simpa using q)] at hr; cases hr
   rw [List.getElem?_eq_getElem (by simpa using hi)] at hr
   simp only [List.getElem_range,Option.map_some,Option.some.injEq] at hr
   subst hr
   obtain ⟨h3,_⟩ := hfx i hi
   obtain ⟨_,hl,hc⟩ := World.cells?_some h3
   refine ⟨rfl,fun j v hv=>?_⟩
   have hj:j < k:=by have:=(List.getElem?_eq_some_iff.1 hv).1; rw [hC] at this; exact this
   have h4:=hc j (by rw [hk]; exact hj)
   rw [hv] at h4
   have hadd:((⟨ab,ao,none⟩ : Addr).add (i * P.cellsOf e)).add j=⟨ab,ao + i * k + j,none⟩ := by
    rw [hk]
    unfold Addr.add
    by_cases h5:i * k=0
    ·by_cases h6:j=0
     ·simp [h5,h6]
     ·simp [h5,h6]
    ·by_cases h6:j=0
     ·simp [h5,h6]
     ·simp [h5,h6]
   rw [hadd] at h4
   exact h4
  ·rintro i ⟨_,rfl⟩
   exact hlt
  ·intro y hy
   obtain ⟨i,hi,rfl⟩ := List.mem_map.1 hy
   exact (hfx i (List.mem_range.1 hi)).2
end
instance:Inhabited Nd:=⟨Nd.z⟩
theorem nds_of {H:Type} {enc:TypeId × Value→H} {W:World} {base:Nat} {v:Value} {d:DataW H} {ps:List MemPlace} (hval:Value.okWide PP W .any base uo v) (h:DataW.Trod enc PP W 0 (fun _=>true) true uo v d ps) :
  ∃ (l:List Nd) (s:SlV),v=s.v∧Rd W 4 s (l.map Nd.C)∧(∀ a ∈ l,a.name.size < 9223372036854775808)∧(l=[] ∨ ∃ elems spare,d = .slice elems spare∧elems.length=l.length):=by
 refine slice_of zP.1 zby Nd.len zbv (fun n cs x hx=>?_) hval h
 obtain ⟨a,ha⟩ := fld_int fv_Nd_kind un_api_Kind zby hx
 obtain ⟨b,hb,hbs⟩ := fld_str fv_Nd_name y8 zby hx
 obtain ⟨c,hc⟩ := fld_int fv_Nd_l un_int zby hx
 obtain ⟨d,hd⟩ := fld_int fv_Nd_r un_int zby hx
 obtain ⟨fs,fd,hu,_⟩ := fv_Nd_kind
 obtain ⟨xs,n',_,_,hl,_⟩ := DataW.trod_struct hu hx
 have hl:cs.length=4:=hl.trans zby
 refine ⟨⟨a,b,c,d⟩,?_,by have:maxLen=9223372036854775807:=rfl; show b.size < _; omega⟩
 match cs,hl with
 | [v0,v1,v2,v3],_ =>
  simp at ha hb hc hd
  subst ha hb hc hd
  rfl
theorem bulk_one {H:Type} (d:DataW H):1 ≤ Rows.uptoBulk d:=by
 cases d with
 | lit l=>cases l <;> simp [Rows.uptoBulk]
 | nil=>simp [Rows.uptoBulk]
 | ptr d=>simp [Rows.uptoBulk]
 | slice elems spare=>simp [Rows.uptoBulk]
 | agg parts=>simp [Rows.uptoBulk]
 | iface t d=>simp [Rows.uptoBulk]
 | map entries=>simp [Rows.uptoBulk]
 | held h=>simp [Rows.uptoBulk]
theorem bulk_part {H:Type} {d:DataW H} {l:List (DataW H)} (h:d ∈ l):Rows.uptoBulk d ≤ Rows.uptoBulkAll l:=by
 induction l with
 | nil=>cases h
 | cons x r ih =>
  simp only [Rows.uptoBulkAll]
  cases List.mem_cons.1 h with
  | inl e=>subst e; omega
  | inr e=>have:=ih e; omega
theorem bulk_len {H:Type} (l:List (DataW H)):l.length ≤ Rows.uptoBulkAll l:=by
 induction l with
 | nil=>simp [Rows.uptoBulkAll]
 | cons x r ih=>have:=bulk_one x; simp only [Rows.uptoBulkAll,List.length_cons]; omega
theorem small_len {H:Type} {α:Type} {l:List α} {d:DataW H} {ds:List (DataW H)} (hk:Rows.uptoSmall H ds=true) (hd:d ∈ ds) (h:l=[] ∨ ∃ elems spare,d = .slice elems spare∧elems.length=l.length):l.length ≤ 1048576:=by
 rcases h with rfl | ⟨elems,spare,rfl,he⟩
 ·simp
 ·have h1:=bulk_part hd
  have h2:=bulk_len elems
  have h3:Rows.uptoBulkAll ds ≤ 1048576:=by simpa [Rows.uptoSmall] using hk
  simp only [Rows.uptoBulk] at h1
  omega
def Held (W:World) (Z:List OA):Prop := ∀ z ∈ Z,∃ F,z.holds W F
theorem Held.nil {W:World}:Held W []:=fun _ h=>by cases h
theorem Held.cons {W:World} {z:OA} {Z:List OA} (h : ∃ F,z.holds W F) (hz:Held W Z):Held W (z :: Z):=fun x hx=>by
 rcases List.mem_cons.1 hx with rfl | hx
 ·exact h
 ·exact hz x hx
theorem Held.s {W:World} {Z:List OA} {k:Nat} {α:Type} {C:α→List Value} {s:SlV} {l:List α} (hr:Rd W k s (l.map C)) (hl:l.length ≤ 140737488355328) (hz:Held W Z):Held W (fS k C s l :: Z) :=
 .cons ⟨s.fp,⟨hr,hl⟩,fun _=>Iff.rfl⟩ hz
theorem stheld {W:World} {Z:List OA} (h:Held W Z):St (fun _=>False) oth0 W W [] Z :=
 ⟨fun _=>False,fun _ h=>h.elim,fun _ h=>h.elim,Chg.refl _ _,trivial,fun z hz=>by
  obtain ⟨F,hF⟩ := h z hz
  exact ⟨F,hF,fun i _ q=>q.elim (fun x=>x) (fun x=>x)⟩,fun d hd=>absurd hd (by simp [oth0])⟩
theorem gEt:PP.globalNamed "errors.errorType" = some 0:=by kernel_rfl
theorem gRt:(PP.cutTypes.find? (·.1 == "internal/reflectlite.rtype")).map (·.2)=some 233:=by kernel_rfl
theorem gSize:PP.types.size=285:=by kernel_rfl
theorem gRow:((List.range 285).filter fun t=>PP.rowNamed t [101,114,114,111,114])=[170]:=by kernel_rfl
theorem gHandle:typeHandle PP 170 = .pointer (some ⟨4,170,none⟩):=by kernel_rfl
theorem et_core {W:World} (h:handlesMet PP [("errors.errorType",Rows.laid_errors_errorType)] W):Et W:=by
 obtain ⟨name,u,ty,e1,e2,e3,e4,e5⟩ := h _ (List.mem_singleton.2 rfl)
 have en:name=[101,114,114,111,114]:=(zbz e1).symm
 subst en
 obtain rfl:=zbz (gRt.symm.trans e2)
 have hm:ty ∈ (List.range 285).filter fun t=>PP.rowNamed t [101,114,114,111,114]:=List.mem_filter.2 ⟨List.mem_range.2 (by rw [← gSize]; exact e3),e4⟩
 rw [gRow] at hm
 obtain rfl:=List.mem_singleton.1 hm
 rw [gHandle] at e5
 intro j v hj
 cases j with
 | zero=>simp at hj; subst hj; simpa [etV] using World.var?_cell gEt e5 0
 | succ j=>simp at hj
theorem Held.et {W:World} {Z:List OA} (h:Et W) (hz:Held W Z):Held W (oEt :: Z) := .cons ⟨fun i=>i=0,h,fun _=>Iff.rfl⟩ hz
-- terms
instance:Inhabited Term:=⟨Term.z⟩
instance:Inhabited PTerm:=⟨PTerm.z⟩
instance:Inhabited Hyp:=⟨Hyp.z⟩
end
section
open Gw Go.ChangeShapes Go.WideShapes Go.ChangeAt Go.RowKit
set_option maxRecDepth 100000
def tz64:List Int:=Lib.deBruijn64tab.map fun (z:Nat)=>(z:Int)
def tz32:List Int:=Lib.deBruijn32tab.map fun (z:Nat)=>(z:Int)
theorem laidMet_tail {P:Program} {w:World} {x:String × DataW Unit} {l:List (String × DataW Unit)} (h:laidMet P (x :: l) w):laidMet P l w:=by
 obtain ⟨ps,⟨g,t,cs,fuel,p,q,_,_,_,_,hv,rfl⟩,hn,hr⟩ := h
 exact ⟨q,hv,(List.nodup_append.1 hn).2.1,fun b off hp=>hr b off (List.mem_append_right _ hp)⟩
theorem post_old {H:Type} {enc:TypeId × Value→H} {P:Program} {f:Func} {s:ChangeSpec} {apart fresh handsOn again:Bool} {W W':World} {args:Array Value} {v:Value} {ds gs:List (DataW H)} {before pa pv:List MemPlace}
  (hW:DataW.Whole enc P f.params.toList s.vars apart W args.toList ds gs before)
  (hres : ∀ (b:Nat) (sp:Nat→Bool) (hd:Bool),DataW.TrodAll enc P W' b sp hd f.resultTypes.toList (v.resultList f.resultTypes.size) (s.fn H (ds ++ gs)).results [])
  (hargs : ∀ sp:Nat→Bool,(∀ p ∈ before,sp p.block=true)→DataW.TrodAll enc P W' 0 sp true f.params.toList args.toList (s.fn H (ds ++ gs)).args pa)
  (hvars : ∀ sp:Nat→Bool,(∀ p ∈ before,sp p.block=true)→DataW.TrodVars enc P W' sp s.vars (s.fn H (ds ++ gs)).vars pv)
  (hps:before=pa ++ pv) (hk:W.keptBut W' (· ∈ before)) (hfz : ∀ a,a.block < W.heap.size→W'.frozen? a=W.frozen? a)
  (hok : ∀ (j:Nat) (t:TypeId) (r:Value),f.resultTypes[j]? = some t→(v.resultList f.resultTypes.size)[j]? = some r→Value.okWide P W' .any 0 t r) :
  s.post enc P f apart fresh handsOn again W args v W':=by
 have hlt : ∀ p ∈ before,p.block < W.heap.size:=fun p hp=>hW.lt p hp
 have h0 : ∀ p ∈ before,(fun b=>decide (b < W.heap.size)) p.block=true:=fun p hp=>decide_eq_true (hlt p hp)
 have hin : ∀ p ∈ before,p ∈ pa∨p ∈ pv:=fun p hp=>List.mem_append.1 (hps ▸ hp)
 have hin' : ∀ p,p ∈ ([] ++ pa) ++ pv→p ∈ before:=fun p hp=>by rw [hps]; simpa using hp
 refine ⟨ds,gs,before,[],pa,pv,hW,hres _ _ _,hargs _ h0,hvars _ h0,World.keptBut_mono (fun p hp=>⟨hp,.inr (hin p hp)⟩) hk,fun _=>?_⟩
 obtain ⟨_,_,_,_,_,hz,hn⟩ := hW
 refine ⟨hok,_,_,([] ++ pa) ++ pv,⟨[] ++ pa,pv,trodAll_append (hargs _ fun _ _=>rfl) (hres _ _ _),hvars _ (fun _ _=>rfl),rfl,fun b off hp=>?_,fun ha=>?_⟩,fun p hp _=>hin' p hp⟩
 ·have hb:=hin' _ hp
  rw [hfz _ (hlt _ hb)]; exact hz b off hb
 ·have:=hn ha
  rw [hps] at this
  simpa using this
theorem pw_core {W:World} {rest:List (String × DataW Unit)} (h:laidMet PP (("internal/strconv.uint64pow10",Rows.laid_internal_strconv_uint64pow10) :: rest) W):Pw W :=
 Lib.tabIs_of_head (rest:=rest) gPw (t:=T_20_uint64) (e:=T_uint64) (n:=20) zby ar_20_uint64.1 zby zby zby h
theorem laid_four {W:World} (h:laidMetH PP [("math/bits.deBruijn32tab",Rows.laid_math_bits_deBruijn32tab),("math/bits.deBruijn64tab",Rows.laid_math_bits_deBruijn64tab),("internal/strconv.uint64pow10",Rows.laid_internal_strconv_uint64pow10),("errors.errorType",Rows.laid_errors_errorType)] W):Pw W∧Et W:=by
 have h':laidMet PP [("math/bits.deBruijn32tab",Rows.laid_math_bits_deBruijn32tab),("math/bits.deBruijn64tab",Rows.laid_math_bits_deBruijn64tab),("internal/strconv.uint64pow10",Rows.laid_internal_strconv_uint64pow10)] W∧handlesMet PP [("errors.errorType",Rows.laid_errors_errorType)] W:=h
 exact ⟨pw_core (laidMet_tail (laidMet_tail h'.1)),et_core h'.2⟩
theorem Held.pw {W:World} {Z:List OA} (h:Pw W) (hz:Held W Z):Held W (oPw :: Z) := .cons ⟨fun i=>i=1,⟨h,fun _=>Iff.rfl⟩⟩ hz
instance:Inhabited Ln:=⟨Ln.z⟩
theorem lns_of {H:Type} {enc:TypeId × Value→H} {W:World} {base:Nat} {v:Value} {d:DataW H} {ps:List MemPlace} (hval:Value.okWide PP W .any base yH v) (h:DataW.Trod enc PP W 0 (fun _=>true) true yH v d ps) :
  ∃ (l:List Ln) (s:SlV),v=s.v∧Rd W 4 s (l.map Ln.C)∧(∀ a ∈ l,True)∧(l=[] ∨ ∃ elems spare,d = .slice elems spare∧elems.length=l.length):=by
 refine slice_of zY.1 zby Ln.len zbv (fun n cs x hx=>?_) hval h
 obtain ⟨a,ha⟩ := fld_int fv_Ln_kind un_api_LineKind zby hx
 obtain ⟨b,hb⟩ := fld_int fv_Ln_form un_int zby hx
 obtain ⟨c,hc⟩ := fld_int fv_Ln_a un_int zby hx
 obtain ⟨d,hd⟩ := fld_int fv_Ln_b un_int zby hx
 obtain ⟨fs,fd,hu,_⟩ := fv_Ln_kind
 obtain ⟨xs,n',_,_,hl,_⟩ := DataW.trod_struct hu hx
 have hl:cs.length=4:=hl.trans zby
 refine ⟨⟨a,b,c,d⟩,?_,trivial⟩
 match cs,hl with
 | [v0,v1,v2,v3],_ =>
  simp at ha hb hc hd
  subst ha hb hc hd
  rfl
theorem ints_of {H:Type} {enc:TypeId × Value→H} {W:World} {base:Nat} {v:Value} {d:DataW H} {ps:List MemPlace} (hval:Value.okWide PP W .any base T_L_int v) (h:DataW.Trod enc PP W 0 (fun _=>true) true T_L_int v d ps) :
  ∃ (l:List Int) (s:SlV),v=s.v∧Rd W 1 s (l.map IC)∧(∀ a ∈ l,True)∧(l=[] ∨ ∃ elems spare,d = .slice elems spare∧elems.length=l.length):=by
 refine slice_of xR.1 zby (fun _=>rfl) zbv (fun n cs x hx=>?_) hval h
 obtain ⟨n,rfl,_⟩ := DataW.trod_int un_int hx
 exact ⟨n,rfl,trivial⟩
instance:Inhabited ByteArray:=⟨ByteArray.empty⟩
end
section
open Gw Go.ChangeShapes Go.WideShapes Go.ChangeAt Go.RowKit
set_option maxRecDepth 100000
namespace LawHilbertTerms
theorem contract (H:Type) (enc:TypeId × Value→H) (W:World) (base:Nat) (args:Array Value) (ds gs:List (DataW H)) (before:List MemPlace)
  (hval : ∀ (j:Nat) t v,xF.params[j]? = some t→args[j]? = some v→Value.okWide PP W .any base t v)
  (hW:DataW.Whole enc PP xF.params.toList Rows.hilbertTermsSpec.vars false W args.toList ds gs before) (hL:laidMetH PP Rows.hilbertTermsUptoRow.laid W) (hsm:Rows.uptoSmall H (ds ++ gs)=true) :
  Calls PP yI args W fun e W' => ∃ v,e = .returned v∧Rows.hilbertTermsSpec.post enc PP xF false true false false W args v W':=by
 have hW':=hW
 have hlt:=hW.lt
 obtain ⟨p,q,hA0,hV,rfl,hfz,hnd⟩ := hW
 have hA:DataW.TrodAll enc PP W 0 (fun _=>true) true xF.params.toList args.toList ds p:=hA0
 have hpar:xF.params = #[uo,T_L_int,yH]:=by kernel_rfl
 rw [hpar] at hA hval
 obtain ⟨v0,v1,v2,d0,d1,d2,p0,p1,p2,rfl,rfl,rfl,h0,h1,h2⟩ := trodAll_three hA
 obtain ⟨rfl,rfl⟩ := trodVars_none hV
 obtain ⟨a0,s0,rfl,hrd0,hnm0,hsl0⟩ := nds_of (hval 0 _ _ rfl rfl) h0
 have hln0:=small_len hsm zbx hsl0
 obtain ⟨a1,s1,rfl,hrd1,hnm1,hsl1⟩ := ints_of (hval 1 _ _ rfl rfl) h1
 have hln1:=small_len hsm zbx hsl1
 obtain ⟨a2,s2,rfl,hrd2,hnm2,hsl2⟩ := lns_of (hval 2 _ _ rfl rfl) h2
 have hln2:=small_len hsm zbx hsl2
 have S:=stheld (W:=W) (.s hrd0 zbw (.s hrd1 zbw (.s hrd2 zbw (.et (laid_four hL).2 (.pw (laid_four hL).1 .nil)))))
 refine (law16_HilbertTerms_st S (HilbertTerms_true (K:=70000) zbw heads16 hnm0 zbw zbw zbw)).mono fun e W' ⟨v,he,hv,hS⟩ => ?_
 subst hv
 have hx:=hS.frame
 refine ⟨_,he,post_old (pa:=p0 ++ p1 ++ p2) (pv:=[]) hW' (fun _ _ _=>trodAll_cons_mk (shut_bool un_bool _) trodAll_mk0) (fun sp hsp=>?_) (fun _ _=>rfl) zbx ((Ext.below hx).frame _) hx.froz (ok_one zby rfl (okWide_bool_mk un_bool _))⟩
 rw [hpar]
 refine trodAll_stays (ts:=[uo,T_L_int,yH]) (fun t ht=>?_) hA (fun p hp=>(Ext.below hx).same (hlt p (by simpa using hp))) (fun p hp=>hsp p (by simpa using hp))
 simp only [List.mem_cons,List.not_mem_nil,or_false] at ht
 rcases ht with rfl | rfl | rfl <;> exact ⟨by kernel_rfl,of_decide_eq_true zby⟩
noncomputable def laidWorld0 (os:Os):World :=
 { World.holding PP os ⟨#[],#[],[]⟩ with heap:=(World.holding PP os ⟨#[],#[],[]⟩).heap.modify 0 fun
   | .cells _ t frozen => .cells #[etV] t frozen
   | o=>o }
noncomputable def laidWorld1 (os:Os):World :=
 { laidWorld0 os with heap:=(laidWorld0 os).heap.modify 3 fun
   | .cells _ t frozen => .cells (tz64.map (Value.int .u8)).toArray t frozen
   | o=>o }
noncomputable def laidWorld2 (os:Os):World :=
 { laidWorld1 os with heap:=(laidWorld1 os).heap.modify 2 fun
   | .cells _ t frozen => .cells (tz32.map (Value.int .u8)).toArray t frozen
   | o=>o }
noncomputable def laidWorld (os:Os):World :=
 { laidWorld2 os with heap:=(laidWorld2 os).heap.modify 1 fun
   | .cells _ t frozen => .cells (Lib.pow10Tab.map (Value.int .u64)).toArray t frozen
   | o=>o }
def argsN:Array Value := #[.slice none 0 0,.slice none 0 0,.slice none 0 0]
theorem laid_met (os:Os):laidMetH PP Rows.hilbertTermsUptoRow.laid ((laidWorld os).forCall (fun _ _=>0) ⟨#[],argsN,[]⟩).memory :=
 laidMetH_of_parts (laidMet_of_run' 8 zby zby) zby
def ddN (H:Type):List (DataW H):=[.nil,.nil,.nil]
theorem reads (os:Os) {H:Type} (enc:TypeId × Value→H) : ∃ places,DataW.whole enc PP ((laidWorld os).forCall (fun _ _=>0) ⟨#[],argsN,[]⟩).memory xF.params.toList Rows.hilbertTermsSpec.vars false argsN.toList 8=some (ddN H,[],places) :=
 ⟨[],by kernel_rfl⟩
theorem lifted (os:Os) (started:os.Started) (H:Type) (enc:TypeId × Value→H) (F:Stop.Interp) :
  ReturnsInHanded {} Tryz.checked os yI .any ((Rows.OpenSpec.upto Rows.hilbertTermsSpec).preRow enc PP xF Rows.hilbertTermsUptoRow.domain false Rows.hilbertTermsUptoRow.laid) (((Rows.OpenSpec.upto Rows.hilbertTermsSpec).at F).post enc PP xF false true false false):=by
 obtain ⟨places,hx⟩ := reads os enc
 refine returnsInHanded_of_row (C:=Tryz.checked) (s:=Rows.OpenSpec.upto Rows.hilbertTermsSpec) ownKnob_none started zby vO
  (witness_row_at (enc:=enc) (C:=Tryz.checked) false (laidWorld os) argsN rfl zby zby zby
   (OpenSpec.preRow_of_cond 8 hx zby (fun k hk=>by cases hk; kernel_rfl) zby (laid_met os))) ?_
 intro W base args ds gs before hval hW _ hcond _ hL _ _
 exact contract H enc W base args ds gs before hval hW hL (hcond _ rfl)
theorem said:Rows.HilbertTermsUptoSaid :=
 OpenClaim.holds_of_cond yI xF rfl rfl rfl rfl rfl rfl rfl ⟨rfl,rfl,rfl,rfl,rfl⟩ rfl rfl rfl rfl rfl zby vO zby
  (of_decide_eq_true zby) (by unfold Func.isWrapper; first | (rw [if_pos (by decide +kernel)]; kernel_rfl) | (rw [if_neg (by decide +kernel)]; exact ⟨rfl,rfl⟩))
  (fun os started H enc _ F=>by rw [OpenClaim.pre_eq_preRow]; exact lifted os started H enc F)
theorem plain (f:FuncId) (fn:Func) (hf:Tryz.pinned.checked.prog.funcNamed "dictum/dictumlaw16.HilbertTerms" = some f) (hfn:Tryz.pinned.checked.prog.funcs[f]? = some fn) :
  true=Tryz.pinned.checked.prog.looks [] ∧ ∀ (j:Nat) t,fn.params[j]? = some t→Tryz.pinned.checked.prog.wantsStandIn t=false:=by
 obtain rfl:f=yI:=zbz ((show PP.funcNamed "dictum/dictumlaw16.HilbertTerms" = some yI by kernel_rfl).symm.trans hf) |>.symm
 obtain rfl:fn=xF:=(zbz (vO.symm.trans hfn)).symm
 refine ⟨by kernel_rfl,fun j t ht=>?_⟩
 rw [show xF.params = #[uo,T_L_int,yH] by kernel_rfl] at ht
 have hm:t ∈ [uo,T_L_int,yH]:=by simpa using Array.mem_of_getElem? ht
 simp only [List.mem_cons,List.not_mem_nil,or_false] at hm
 rcases hm with rfl | rfl | rfl
 ·exact (show PP.wantsStandIn uo=false by kernel_rfl)
 ·exact (show PP.wantsStandIn T_L_int=false by kernel_rfl)
 ·exact (show PP.wantsStandIn yH=false by kernel_rfl)
theorem card:Rows.HilbertTermsUptoCardSaid :=
 Claim7.holds_tied_plain_at .later [] _ _ _ _ said (fun _ h=>by cases h) zby (fun _ h=>by cases h) hilbertTermsUpto_row_tie rfl ⟨rfl,rfl⟩ zby rfl plain zby
end LawHilbertTerms
end
end Go.Proofs.YtflieamjacclnaaGreatDoor
