/- Lean structures for the program's struct and array types, and the cells that a value takes in memory. Printed by types_.py, a program of mine. -/
import Derived.Test.YtjjkhjieegmphaaDoorGwSl
namespace Go.Proofs.YtjjkhjieegmphaaDoor
open Gw Go.RowKit
set_option linter.unusedSimpArgs false

/-- dictum/api.Bits -/
abbrev Bits := Vector Int 16
def Bits.C (x : Bits) : List Value := x.toList.map (Value.int .u64)
def Bits.z : Bits := Vector.replicate 16 0
theorem Bits.len (x : Bits) : (Bits.C x).length = 16 := by simp [Bits.C]
theorem Bits.one (x : Bits) : ∀ v ∈ Bits.C x, v.oneCell' = true := by
  intro v hv; simp only [Bits.C, List.mem_map] at hv; obtain ⟨_, _, rfl⟩ := hv; rfl
theorem Bits.get (x : Bits) (i : Nat) (h : i < 16) : (Bits.C x)[i]? = some ((Value.int .u64) x[i]) := by simp [Bits.C, h]
def Bits.w (x : Bits) (i : Nat) : Int := x.toList.getD i 0
def Bits.put (x : Bits) (i : Nat) (y : Int) : Bits := x.setIfInBounds i y
theorem Bits.getw (x : Bits) (i : Nat) (h : i < 16) : (Bits.C x)[i]? = some ((Value.int .u64) (x.w i)) := by
  rw [Bits.get x i h]; simp [Bits.w, h]
theorem Bits.setw (x : Bits) (i : Nat) (y : Int) : (Bits.C x).set i ((Value.int .u64) y) = Bits.C (x.put i y) := by
  simp [Bits.C, Bits.put, List.map_set]
theorem Bits.set (x : Bits) (i : Nat) (h : i < 16) (y : Int) : (Bits.C x).set i ((Value.int .u64) y) = Bits.C (x.set i y) := by
  simp [Bits.C, List.map_set, Vector.toList_set]
theorem Bits.inj {x y : Bits} (h : Bits.C x = Bits.C y) : x = y := by
  have := (List.map_inj_right (f := (Value.int .u64)) (by intro a b h; injection h)).1 h
  exact Vector.toList_inj.1 this

/-- dictum/api.Seq -/
structure Sq where
  left : Bits
  goal : Int
  deriving DecidableEq
def Sq.C (x : Sq) : List Value := (Bits.C x.left) ++ [(.int .i64 x.goal)]
def Sq.z : Sq := ⟨Bits.z, 0⟩
theorem Sq.len (x : Sq) : (Sq.C x).length = 17 := by simp [Sq.C, Bits.len]
theorem Sq.one (x : Sq) : ∀ v ∈ Sq.C x, v.oneCell' = true := by
  intro v hv; simp only [Sq.C, List.mem_append, List.mem_singleton] at hv
  rcases hv with hv | hv
  all_goals first
    | (subst hv; rfl)
    | exact FnV.one _ _ hv
    | exact SlV.one _ _ hv
    | exact Bits.one _ _ hv
theorem Sq.sub_left (x : Sq) : ((Sq.C x).drop 0).take 16 = Bits.C x.left := by
  have h := Bits.len x.left; simp [Sq.C, List.take_append, List.drop_append, Bits.len]; try exact List.take_of_length_le (by omega)
theorem Sq.put_left (x : Sq) (y : Bits) : (Sq.C x).take 0 ++ Bits.C y ++ (Sq.C x).drop (0 + 16) = Sq.C { x with left := y } := by
  simp [Sq.C, List.take_append, List.drop_append, Bits.len]
theorem Sq.get_goal (x : Sq) : (Sq.C x)[16]? = some (.int .i64 x.goal) := by simp [Sq.C, List.getElem?_append, Bits.len]
theorem Sq.set_goal (x : Sq) (y : Int) : (Sq.C x).set 16 (.int .i64 y) = Sq.C { x with goal := y } := by simp [Sq.C, List.set_append, Bits.len]

/-- dictum/formula.Table -/
structure Tab where
  rows : SlV
  at_ : Option Nat
def Tab.C (x : Tab) : List Value := [x.rows.v] ++ [(.map x.at_)]
def Tab.z : Tab := ⟨⟨none, 0, 0⟩, none⟩
theorem Tab.len (x : Tab) : (Tab.C x).length = 2 := by simp [Tab.C]
theorem Tab.one (x : Tab) : ∀ v ∈ Tab.C x, v.oneCell' = true := by
  intro v hv; simp only [Tab.C, List.mem_append, List.mem_singleton] at hv
  rcases hv with hv | hv
  all_goals first
    | (subst hv; rfl)
    | exact FnV.one _ _ hv
    | exact SlV.one _ _ hv

theorem Tab.get_rows (x : Tab) : (Tab.C x)[0]? = some x.rows.v := by simp [Tab.C, List.getElem?_append]
theorem Tab.set_rows (x : Tab) (y : SlV) : (Tab.C x).set 0 y.v = Tab.C { x with rows := y } := by simp [Tab.C, List.set_append]
theorem Tab.get_at_ (x : Tab) : (Tab.C x)[1]? = some (.map x.at_) := by simp [Tab.C, List.getElem?_append]
theorem Tab.set_at_ (x : Tab) (y : Option Nat) : (Tab.C x).set 1 (.map y) = Tab.C { x with at_ := y } := by simp [Tab.C, List.set_append]

/-- dictum/dictumref03.T -/
structure RTab where
  n : SlV
def RTab.C (x : RTab) : List Value := [x.n.v]
def RTab.z : RTab := ⟨⟨none, 0, 0⟩⟩
theorem RTab.len (x : RTab) : (RTab.C x).length = 1 := by simp [RTab.C]
theorem RTab.one (x : RTab) : ∀ v ∈ RTab.C x, v.oneCell' = true := by
  intro v hv; simp only [RTab.C, List.mem_append, List.mem_singleton] at hv
  rcases hv with hv
  all_goals first
    | (subst hv; rfl)
    | exact FnV.one _ _ hv
    | exact SlV.one _ _ hv

theorem RTab.get_n (x : RTab) : (RTab.C x)[0]? = some x.n.v := by simp [RTab.C, List.getElem?_append]
theorem RTab.set_n (x : RTab) (y : SlV) : (RTab.C x).set 0 y.v = RTab.C { x with n := y } := by simp [RTab.C, List.set_append]

/-- dictum/api.Found -/
structure Found where
  proved : Bool
  steps : SlV
  visits : Int
def Found.C (x : Found) : List Value := [(.bool x.proved)] ++ [x.steps.v] ++ [(.int .i64 x.visits)]
def Found.z : Found := ⟨false, ⟨none, 0, 0⟩, 0⟩
theorem Found.len (x : Found) : (Found.C x).length = 3 := by simp [Found.C]
theorem Found.one (x : Found) : ∀ v ∈ Found.C x, v.oneCell' = true := by
  intro v hv; simp only [Found.C, List.mem_append, List.mem_singleton] at hv
  rcases hv with (hv | hv) | hv
  all_goals first
    | (subst hv; rfl)
    | exact FnV.one _ _ hv
    | exact SlV.one _ _ hv

theorem Found.get_proved (x : Found) : (Found.C x)[0]? = some (.bool x.proved) := by simp [Found.C, List.getElem?_append]
theorem Found.set_proved (x : Found) (y : Bool) : (Found.C x).set 0 (.bool y) = Found.C { x with proved := y } := by simp [Found.C, List.set_append]
theorem Found.get_steps (x : Found) : (Found.C x)[1]? = some x.steps.v := by simp [Found.C, List.getElem?_append]
theorem Found.set_steps (x : Found) (y : SlV) : (Found.C x).set 1 y.v = Found.C { x with steps := y } := by simp [Found.C, List.set_append]
theorem Found.get_visits (x : Found) : (Found.C x)[2]? = some (.int .i64 x.visits) := by simp [Found.C, List.getElem?_append]
theorem Found.set_visits (x : Found) (y : Int) : (Found.C x).set 2 (.int .i64 y) = Found.C { x with visits := y } := by simp [Found.C, List.set_append]

/-- dictum/api.Step -/
structure Step where
  seq : Sq
  proved : Bool
  rule : Int
  main : Int
  kids : SlV
def Step.C (x : Step) : List Value := (Sq.C x.seq) ++ [(.bool x.proved)] ++ [(.int .i64 x.rule)] ++ [(.int .i64 x.main)] ++ [x.kids.v]
def Step.z : Step := ⟨Sq.z, false, 0, 0, ⟨none, 0, 0⟩⟩
theorem Step.len (x : Step) : (Step.C x).length = 21 := by simp [Step.C, Sq.len]
theorem Step.one (x : Step) : ∀ v ∈ Step.C x, v.oneCell' = true := by
  intro v hv; simp only [Step.C, List.mem_append, List.mem_singleton] at hv
  rcases hv with (((hv | hv) | hv) | hv) | hv
  all_goals first
    | (subst hv; rfl)
    | exact FnV.one _ _ hv
    | exact SlV.one _ _ hv
    | exact Sq.one _ _ hv
theorem Step.sub_seq (x : Step) : ((Step.C x).drop 0).take 17 = Sq.C x.seq := by
  have h := Sq.len x.seq; simp [Step.C, List.take_append, List.drop_append, Sq.len]; try exact List.take_of_length_le (by omega)
theorem Step.put_seq (x : Step) (y : Sq) : (Step.C x).take 0 ++ Sq.C y ++ (Step.C x).drop (0 + 17) = Step.C { x with seq := y } := by
  simp [Step.C, List.take_append, List.drop_append, Sq.len]
theorem Step.get_proved (x : Step) : (Step.C x)[17]? = some (.bool x.proved) := by simp [Step.C, List.getElem?_append, Sq.len]
theorem Step.set_proved (x : Step) (y : Bool) : (Step.C x).set 17 (.bool y) = Step.C { x with proved := y } := by simp [Step.C, List.set_append, Sq.len]
theorem Step.get_rule (x : Step) : (Step.C x)[18]? = some (.int .i64 x.rule) := by simp [Step.C, List.getElem?_append, Sq.len]
theorem Step.set_rule (x : Step) (y : Int) : (Step.C x).set 18 (.int .i64 y) = Step.C { x with rule := y } := by simp [Step.C, List.set_append, Sq.len]
theorem Step.get_main (x : Step) : (Step.C x)[19]? = some (.int .i64 x.main) := by simp [Step.C, List.getElem?_append, Sq.len]
theorem Step.set_main (x : Step) (y : Int) : (Step.C x).set 19 (.int .i64 y) = Step.C { x with main := y } := by simp [Step.C, List.set_append, Sq.len]
theorem Step.get_kids (x : Step) : (Step.C x)[20]? = some x.kids.v := by simp [Step.C, List.getElem?_append, Sq.len]
theorem Step.set_kids (x : Step) (y : SlV) : (Step.C x).set 20 y.v = Step.C { x with kids := y } := by simp [Step.C, List.set_append, Sq.len]

/-- dictum/api.Node -/
structure Nd where
  kind : Int
  name : ByteArray
  l : Int
  r : Int
  deriving DecidableEq
def Nd.C (x : Nd) : List Value := [(.int .i64 x.kind)] ++ [(.string x.name)] ++ [(.int .i64 x.l)] ++ [(.int .i64 x.r)]
def Nd.z : Nd := ⟨0, ByteArray.empty, 0, 0⟩
theorem Nd.len (x : Nd) : (Nd.C x).length = 4 := by simp [Nd.C]
theorem Nd.one (x : Nd) : ∀ v ∈ Nd.C x, v.oneCell' = true := by
  intro v hv; simp only [Nd.C, List.mem_append, List.mem_singleton] at hv
  rcases hv with ((hv | hv) | hv) | hv
  all_goals first
    | (subst hv; rfl)
    | exact FnV.one _ _ hv
    | exact SlV.one _ _ hv

theorem Nd.get_kind (x : Nd) : (Nd.C x)[0]? = some (.int .i64 x.kind) := by simp [Nd.C, List.getElem?_append]
theorem Nd.set_kind (x : Nd) (y : Int) : (Nd.C x).set 0 (.int .i64 y) = Nd.C { x with kind := y } := by simp [Nd.C, List.set_append]
theorem Nd.get_name (x : Nd) : (Nd.C x)[1]? = some (.string x.name) := by simp [Nd.C, List.getElem?_append]
theorem Nd.set_name (x : Nd) (y : ByteArray) : (Nd.C x).set 1 (.string y) = Nd.C { x with name := y } := by simp [Nd.C, List.set_append]
theorem Nd.get_l (x : Nd) : (Nd.C x)[2]? = some (.int .i64 x.l) := by simp [Nd.C, List.getElem?_append]
theorem Nd.set_l (x : Nd) (y : Int) : (Nd.C x).set 2 (.int .i64 y) = Nd.C { x with l := y } := by simp [Nd.C, List.set_append]
theorem Nd.get_r (x : Nd) : (Nd.C x)[3]? = some (.int .i64 x.r) := by simp [Nd.C, List.getElem?_append]
theorem Nd.set_r (x : Nd) (y : Int) : (Nd.C x).set 3 (.int .i64 y) = Nd.C { x with r := y } := by simp [Nd.C, List.set_append]

/-- dictum/rule.found -/
structure Fnd where
  k : Int
  main : Int
  deriving DecidableEq
def Fnd.C (x : Fnd) : List Value := [(.int .i64 x.k)] ++ [(.int .i64 x.main)]
def Fnd.z : Fnd := ⟨0, 0⟩
theorem Fnd.len (x : Fnd) : (Fnd.C x).length = 2 := by simp [Fnd.C]
theorem Fnd.one (x : Fnd) : ∀ v ∈ Fnd.C x, v.oneCell' = true := by
  intro v hv; simp only [Fnd.C, List.mem_append, List.mem_singleton] at hv
  rcases hv with hv | hv
  all_goals first
    | (subst hv; rfl)
    | exact FnV.one _ _ hv
    | exact SlV.one _ _ hv

theorem Fnd.get_k (x : Fnd) : (Fnd.C x)[0]? = some (.int .i64 x.k) := by simp [Fnd.C, List.getElem?_append]
theorem Fnd.set_k (x : Fnd) (y : Int) : (Fnd.C x).set 0 (.int .i64 y) = Fnd.C { x with k := y } := by simp [Fnd.C, List.set_append]
theorem Fnd.get_main (x : Fnd) : (Fnd.C x)[1]? = some (.int .i64 x.main) := by simp [Fnd.C, List.getElem?_append]
theorem Fnd.set_main (x : Fnd) (y : Int) : (Fnd.C x).set 1 (.int .i64 y) = Fnd.C { x with main := y } := by simp [Fnd.C, List.set_append]

/-- dictum/search.finder -/
structure Finder where
  t : Option Addr
  steps : SlV
  at_ : Option Nat
  left : Int
  visits : Int
def Finder.C (x : Finder) : List Value := [(.pointer x.t)] ++ [x.steps.v] ++ [(.map x.at_)] ++ [(.int .i64 x.left)] ++ [(.int .i64 x.visits)]
def Finder.z : Finder := ⟨none, ⟨none, 0, 0⟩, none, 0, 0⟩
theorem Finder.len (x : Finder) : (Finder.C x).length = 5 := by simp [Finder.C]
theorem Finder.one (x : Finder) : ∀ v ∈ Finder.C x, v.oneCell' = true := by
  intro v hv; simp only [Finder.C, List.mem_append, List.mem_singleton] at hv
  rcases hv with (((hv | hv) | hv) | hv) | hv
  all_goals first
    | (subst hv; rfl)
    | exact FnV.one _ _ hv
    | exact SlV.one _ _ hv

theorem Finder.get_t (x : Finder) : (Finder.C x)[0]? = some (.pointer x.t) := by simp [Finder.C, List.getElem?_append]
theorem Finder.set_t (x : Finder) (y : Option Addr) : (Finder.C x).set 0 (.pointer y) = Finder.C { x with t := y } := by simp [Finder.C, List.set_append]
theorem Finder.get_steps (x : Finder) : (Finder.C x)[1]? = some x.steps.v := by simp [Finder.C, List.getElem?_append]
theorem Finder.set_steps (x : Finder) (y : SlV) : (Finder.C x).set 1 y.v = Finder.C { x with steps := y } := by simp [Finder.C, List.set_append]
theorem Finder.get_at_ (x : Finder) : (Finder.C x)[2]? = some (.map x.at_) := by simp [Finder.C, List.getElem?_append]
theorem Finder.set_at_ (x : Finder) (y : Option Nat) : (Finder.C x).set 2 (.map y) = Finder.C { x with at_ := y } := by simp [Finder.C, List.set_append]
theorem Finder.get_left (x : Finder) : (Finder.C x)[3]? = some (.int .i64 x.left) := by simp [Finder.C, List.getElem?_append]
theorem Finder.set_left (x : Finder) (y : Int) : (Finder.C x).set 3 (.int .i64 y) = Finder.C { x with left := y } := by simp [Finder.C, List.set_append]
theorem Finder.get_visits (x : Finder) : (Finder.C x)[4]? = some (.int .i64 x.visits) := by simp [Finder.C, List.getElem?_append]
theorem Finder.set_visits (x : Finder) (y : Int) : (Finder.C x).set 4 (.int .i64 y) = Finder.C { x with visits := y } := by simp [Finder.C, List.set_append]

/-- dictum/dictumref11.run -/
structure RRun where
  t : Option Addr
  steps : SlV
  visits : Int
  budget : Int
def RRun.C (x : RRun) : List Value := [(.pointer x.t)] ++ [x.steps.v] ++ [(.int .i64 x.visits)] ++ [(.int .i64 x.budget)]
def RRun.z : RRun := ⟨none, ⟨none, 0, 0⟩, 0, 0⟩
theorem RRun.len (x : RRun) : (RRun.C x).length = 4 := by simp [RRun.C]
theorem RRun.one (x : RRun) : ∀ v ∈ RRun.C x, v.oneCell' = true := by
  intro v hv; simp only [RRun.C, List.mem_append, List.mem_singleton] at hv
  rcases hv with ((hv | hv) | hv) | hv
  all_goals first
    | (subst hv; rfl)
    | exact FnV.one _ _ hv
    | exact SlV.one _ _ hv

theorem RRun.get_t (x : RRun) : (RRun.C x)[0]? = some (.pointer x.t) := by simp [RRun.C, List.getElem?_append]
theorem RRun.set_t (x : RRun) (y : Option Addr) : (RRun.C x).set 0 (.pointer y) = RRun.C { x with t := y } := by simp [RRun.C, List.set_append]
theorem RRun.get_steps (x : RRun) : (RRun.C x)[1]? = some x.steps.v := by simp [RRun.C, List.getElem?_append]
theorem RRun.set_steps (x : RRun) (y : SlV) : (RRun.C x).set 1 y.v = RRun.C { x with steps := y } := by simp [RRun.C, List.set_append]
theorem RRun.get_visits (x : RRun) : (RRun.C x)[2]? = some (.int .i64 x.visits) := by simp [RRun.C, List.getElem?_append]
theorem RRun.set_visits (x : RRun) (y : Int) : (RRun.C x).set 2 (.int .i64 y) = RRun.C { x with visits := y } := by simp [RRun.C, List.set_append]
theorem RRun.get_budget (x : RRun) : (RRun.C x)[3]? = some (.int .i64 x.budget) := by simp [RRun.C, List.getElem?_append]
theorem RRun.set_budget (x : RRun) (y : Int) : (RRun.C x).set 3 (.int .i64 y) = RRun.C { x with budget := y } := by simp [RRun.C, List.set_append]

end Go.Proofs.YtjjkhjieegmphaaDoor
