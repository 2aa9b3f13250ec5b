/- Chapter 09, the document's functions: Lean functions with the answers of the Go functions. Printed by pp.py, a program of mine. -/
import Derived.Test.YtjjkhjieegmphaaDoorRuleHP
namespace Go.Proofs.YtjjkhjieegmphaaDoor
open Gw
set_option linter.unusedVariables false

def law09_rules.b0 (a1 : List Int) (a0 : List Int) (i2 : Int) : Option (Stp Unit Bool) :=
  chk (inb i2 a1.length) (if decide (at_ (0 : Int) a0 i2 ≠ at_ (0 : Int) a1 i2) then some (.ret false) else some (.go ()))
def law09_rules.f (a0 : List Int) (a1 : List Int) : Option Bool :=
  if decide ((a0.length : Int) ≠ (a1.length : Int)) then some false else (forN (fun i s => law09_rules.b0 a1 a0 i) ((a0.length : Int) - 0).toNat 0 ()).bind (aft fun (s2 : Unit) => some true)
def ref03_Ints.b0 (a1 : List Int) (a0 : List Int) (i2 : Int) : Option (Stp Unit Bool) :=
  chk (inb i2 a1.length) (if decide (at_ (0 : Int) a0 i2 ≠ at_ (0 : Int) a1 i2) then some (.ret false) else some (.go ()))
def ref03_Ints.f (a0 : List Int) (a1 : List Int) : Option Bool :=
  if decide ((a0.length : Int) ≠ (a1.length : Int)) then some false else (forN (fun i s => ref03_Ints.b0 a1 a0 i) ((a0.length : Int) - 0).toNat 0 ()).bind (aft fun (s2 : Unit) => some true)
def ref03_Same.b0 (a1 : List Nd) (a0 : List Nd) (i2 : Int) : Option (Stp Unit Bool) :=
  chk (inb i2 a1.length) (if !decide (at_ Nd.z a0 i2 = at_ Nd.z a1 i2) then some (.ret false) else some (.go ()))
def ref03_Same.f (a0 : List Nd) (a1 : List Nd) : Option Bool :=
  if decide ((a0.length : Int) ≠ (a1.length : Int)) then some false else (forN (fun i s => ref03_Same.b0 a1 a0 i) ((a0.length : Int) - 0).toNat 0 ()).bind (aft fun (s2 : Unit) => some true)
def ref03_T_Has.f (a0 : Tb) (a1 : Int) : Option Bool :=
  chk a0.isSome (some ((decide (0 ≤ a1)) && (decide (a1 < ((a0.getD []).length : Int)))))
def ref03_T_Find.b0 (a0 : Tb) (a1 : Nd) (i4 : Int) : Option (Stp Unit (Int × Bool)) :=
  if decide (at_ Nd.z (a0.getD []) i4 = a1) then some (.ret (i4, true)) else some (.go ())
def ref03_T_Find.f (a0 : Tb) (a1 : Nd) : Option (Int × Bool) :=
  chk a0.isSome ((forN (fun i s => ref03_T_Find.b0 a0 a1 i) (((a0.getD []).length : Int) - 0).toNat 0 ()).bind (aft fun (s4 : Unit) => some (0, false)))
def ref03_T_Put.f (a0 : Tb) (a1 : Nd) : Option (Tb × Int × Int) :=
  (if decide (a1.kind = 1) then if (decide (a1.l ≠ 0)) || (decide (a1.r ≠ 0)) then some (.inr (a0, 0, 31)) else (ref03_Word.f a1.name).bind fun r6 => if !r6 then some (.inr (a0, 0, 32)) else some (.inl a0) else if decide (a1.kind = 2) then if ((decide (a1.name ≠ (⟨#[]⟩ : ByteArray))) || (decide (a1.l ≠ 0))) || (decide (a1.r ≠ 0)) then some (.inr (a0, 0, 31)) else some (.inl a0) else (if decide (a1.kind = 3) then some (decide (a1.kind = 3)) else if decide (a1.kind = 4) then some (decide (a1.kind = 4)) else some (decide (a1.kind = 5))).bind fun (o12 : Bool) => if o12 then (if (!(decide (a1.name ≠ (⟨#[]⟩ : ByteArray)))) then ref03_T_Has.f a0 a1.l else some false).bind fun r18 => (if (!((decide (a1.name ≠ (⟨#[]⟩ : ByteArray))) || (!r18))) then ref03_T_Has.f a0 a1.r else some false).bind fun r20 => if ((decide (a1.name ≠ (⟨#[]⟩ : ByteArray))) || (!r18)) || (!r20) then some (.inr (a0, 0, 31)) else some (.inl a0) else some (.inr (a0, 0, 31))).bind (aft fun (s3 : Tb) => (ref03_T_Find.f s3 a1).bind fun r25 => if r25.2 then some (s3, r25.1, 0) else chk s3.isSome (if decide (1024 ≤ ((s3.getD []).length : Int)) then some ((some (s3.getD [])), 0, 30) else chk (decide (((s3.getD []).length + 1) * 40 ≤ 140737488355328)) (some ((some ((s3.getD []) ++ [a1])), IntKind.i64.wrap ((((s3.getD []) ++ [a1]).length : Int) - 1), 0))))
def ref09_kind.f (a0 : Tb) (a1 : Int) : Option Int :=
  chk a0.isSome (chk (inb a1 (a0.getD []).length) (some ((at_ Nd.z (a0.getD []) a1).kind)))
def ref09_Fits.f (a0 : Tb) (a1 : Sq) (a2 : Int) (a3 : Int) : Option Bool :=
  (ref03_T_Has.f a0 a3).bind fun r3 => if !r3 then some false else chk a0.isSome (chk (inb a3 (a0.getD []).length) ((ref05_Has.f a1.left a3).bind fun r15 => if decide (a2 = 1) then some (r15 && (decide ((at_ Nd.z (a0.getD []) a3).kind = 2))) else if decide (a2 = 2) then some (r15 && (decide (a3 = a1.goal))) else if decide (a2 = 3) then some (r15 && (decide ((at_ Nd.z (a0.getD []) a3).kind = 3))) else if decide (a2 = 4) then (if (r15 && (decide ((at_ Nd.z (a0.getD []) a3).kind = 5))) then ref09_kind.f a0 ((at_ Nd.z (a0.getD []) a3).l) else some 0).bind fun r22 => (if ((r15 && (decide ((at_ Nd.z (a0.getD []) a3).kind = 5))) && (decide (r22 = 1))) then ref05_Has.f a1.left ((at_ Nd.z (a0.getD []) a3).l) else some false).bind fun r24 => some (((r15 && (decide ((at_ Nd.z (a0.getD []) a3).kind = 5))) && (decide (r22 = 1))) && r24) else if decide (a2 = 5) then (if (r15 && (decide ((at_ Nd.z (a0.getD []) a3).kind = 5))) then ref09_kind.f a0 ((at_ Nd.z (a0.getD []) a3).l) else some 0).bind fun r27 => some ((r15 && (decide ((at_ Nd.z (a0.getD []) a3).kind = 5))) && (decide (r27 = 2))) else if decide (a2 = 6) then (if (r15 && (decide ((at_ Nd.z (a0.getD []) a3).kind = 5))) then ref09_kind.f a0 ((at_ Nd.z (a0.getD []) a3).l) else some 0).bind fun r30 => some ((r15 && (decide ((at_ Nd.z (a0.getD []) a3).kind = 5))) && (decide (r30 = 3))) else if decide (a2 = 7) then (if (r15 && (decide ((at_ Nd.z (a0.getD []) a3).kind = 5))) then ref09_kind.f a0 ((at_ Nd.z (a0.getD []) a3).l) else some 0).bind fun r33 => some ((r15 && (decide ((at_ Nd.z (a0.getD []) a3).kind = 5))) && (decide (r33 = 4))) else if decide (a2 = 8) then some ((decide (a3 = a1.goal)) && (decide ((at_ Nd.z (a0.getD []) a3).kind = 5))) else if decide (a2 = 9) then some ((decide (a3 = a1.goal)) && (decide ((at_ Nd.z (a0.getD []) a3).kind = 3))) else if decide (a2 = 10) then some (r15 && (decide ((at_ Nd.z (a0.getD []) a3).kind = 4))) else (if decide (a2 = 11) then some (decide (a2 = 11)) else some (decide (a2 = 12))).bind fun (o38 : Bool) => if o38 then some ((decide (a3 = a1.goal)) && (decide ((at_ Nd.z (a0.getD []) a3).kind = 4))) else if decide (a2 = 13) then (if (r15 && (decide ((at_ Nd.z (a0.getD []) a3).kind = 5))) then ref09_kind.f a0 ((at_ Nd.z (a0.getD []) a3).l) else some 0).bind fun r44 => some ((r15 && (decide ((at_ Nd.z (a0.getD []) a3).kind = 5))) && (decide (r44 = 5))) else some false))
def ref09_Right.b0 (a0 : Tb) (r3 : List Int) (i7 : Int) : Option (Stp Unit Bool) :=
  (ref03_T_Has.f a0 (at_ (0 : Int) r3 i7)).bind fun r10 => if !r10 then some (.ret false) else some (.go ())
def ref09_Right.f (a0 : Tb) (a1 : Sq) : Option Bool :=
  (ref05_List.f a1.left).bind fun r3 => (forN (fun i s => ref09_Right.b0 a0 r3 i) ((r3.length : Int) - 0).toNat 0 ()).bind (aft fun (s7 : Unit) => (ref03_T_Has.f a0 a1.goal).bind fun r16 => some r16)
def ref09_first.b1 (a0 : Tb) (a1 : Sq) (a2 : List Int) (i4 : Int) (i9 : Int) : Option (Stp Unit (Stp Unit (Int × Int × Bool))) :=
  (ref09_Fits.f a0 a1 (at_ (0 : Int) a2 i9) i4).bind fun r13 => if r13 then some (.ret (.ret (at_ (0 : Int) a2 i9, i4, true))) else some (.go ())
def ref09_first.b0 (a0 : Tb) (a1 : Sq) (a2 : List Int) (i4 : Int) : Option (Stp Unit (Int × Int × Bool)) :=
  (forN (fun i s => ref09_first.b1 a0 a1 a2 i4 i) ((a2.length : Int) - 0).toNat 0 ()).bind (aft fun (s9 : Unit) => some (.go ()))
def ref09_first.f (a0 : Tb) (a1 : Sq) (a2 : List Int) : Option (Int × Int × Bool) :=
  chk a0.isSome ((forN (fun i s => ref09_first.b0 a0 a1 a2 i) (((a0.getD []).length : Int) - 0).toNat 0 ()).bind (aft fun (s4 : Unit) => some (0, 0, false)))
def ref09_Apply.f (a0 : Tb) (a1 : Sq) : Option (Int × Int) :=
  (ref09_first.f a0 a1 ([1])).bind fun r26 => if r26.2.2 then some (r26.1, r26.2.1) else (ref09_first.f a0 a1 ([2])).bind fun r31 => if r31.2.2 then some (r31.1, r31.2.1) else (ref09_first.f a0 a1 ([3, 4, 5, 6, 7])).bind fun r36 => if r36.2.2 then some (r36.1, r36.2.1) else (ref09_first.f a0 a1 ([8])).bind fun r41 => if r41.2.2 then some (r41.1, r41.2.1) else (ref09_first.f a0 a1 ([9])).bind fun r46 => if r46.2.2 then some (r46.1, r46.2.1) else (ref09_first.f a0 a1 ([10])).bind fun r51 => if r51.2.2 then some (r51.1, r51.2.1) else some (14, 0)
def ref09_Choices.b0 (a0 : Tb) (a1 : Sq) (i29 : Int) (x29_0 : List Int) (x29_1 : List Int) : Option (List Int × List Int) :=
  (ref09_Fits.f a0 a1 13 i29).bind fun r40 => if r40 then chk (decide ((x29_0.length + ([13]).length) * 8 ≤ 140737488355328)) (chk (decide ((x29_1.length + ([i29]).length) * 8 ≤ 140737488355328)) (some (x29_0 ++ [13], x29_1 ++ [i29]))) else some (x29_0, x29_1)
def ref09_Choices.f (a0 : Tb) (a1 : Sq) : Option (List Int × List Int) :=
  (ref09_Apply.f a0 a1).bind fun r3 => if decide (r3.1 ≠ 14) then some (([] : List Int), ([] : List Int)) else (ref09_kind.f a0 a1.goal).bind fun r7 => (if decide (r7 = 4) then chk (decide ((([] : List Int).length + ([11, 12]).length) * 8 ≤ 140737488355328)) (chk (decide ((([] : List Int).length + ([a1.goal, a1.goal]).length) * 8 ≤ 140737488355328)) (some ((([] : List Int) ++ [11, 12], ([] : List Int) ++ [a1.goal, a1.goal])))) else some ((([] : List Int), ([] : List Int)))).bind fun (o10 : List Int × List Int) => chk a0.isSome ((forS (fun i s => ref09_Choices.b0 a0 a1 i s.1 s.2) (((a0.getD []).length : Int) - 0).toNat 0 (o10.1, o10.2)).bind fun (o29 : List Int × List Int) => some (o29.1, o29.2))
def ref03_From.b0 (a0 : List Nd) (i3 : Int) (x3_0 : Tb) : Option (Stp Tb (Tb × Int)) :=
  (ref03_T_Put.f x3_0 (at_ Nd.z a0 i3)).bind fun r6 => if decide (r6.2.2 ≠ 0) then some (.ret (none, r6.2.2)) else if decide (r6.2.1 ≠ i3) then some (.ret (none, 31)) else some (.go r6.1)
def ref03_From.f (a0 : List Nd) : Option (Tb × Int) :=
  (forN (fun i s => ref03_From.b0 a0 i s) ((a0.length : Int) - 0).toNat 0 (some [])).bind (aft fun (s3 : Tb) => some (s3, 0))
def law03_Like.f (a0 : Tb) (a1 : Tb) : Option Bool :=
  chk a1.isSome ((formula_Table_Rows.f a0).bind fun r13 => (ref03_Same.f r13 (a1.getD [])).bind fun r17 => (if r17 then formula_Table_Len.f a0 else some 0).bind fun r20 => some (r17 && (decide (r20 = ((a1.getD []).length : Int)))))
def law03_Both.f (a0 : List Nd) : Option (Tb × Tb × Bool) :=
  chk (decide ((([] : List Nd).length + a0.length) * 40 ≤ 140737488355328)) ((ref03_From.f a0).bind fun r7 => if decide (r7.2 ≠ 0) then some (none, none, false) else (formula_From.f (([] : List Nd) ++ a0)).bind fun r12 => some (r12.1, r7.1, true))
end Go.Proofs.YtjjkhjieegmphaaDoor
