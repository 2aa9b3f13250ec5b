/- HilbertSound, where what it reads is of the bulk that the row names: the row's statement and its card. The package variables that the row lists read as the program lays them. Printed by card16.py, a program of mine. -/
import Derived.Test.YtflieamjacclnaaGreatDoorMHS4
import Derived.Test.YtflieamjacclnaaGreatDoorCards
import Derived.Test.YtflieamjacclnaaGreatDoorTie
import Derived.WalkKit
import Derived.ProofKit
import Derived.OpenShut
import Derived.Deep.DeepHandedRow
import Derived.Deep.Slices
import Derived.LaidHandle
import Derived.Lib.LaidTab
import Derived.Lib.TrailingZeros
import Derived.ChangeSame
set_option linter.unusedVariables false
set_option linter.unusedSimpArgs false
section
namespace Go.Proofs.YtflieamjacclnaaGreatDoor
open Gw Go.RowKit
set_option maxHeartbeats 4000000
set_option maxRecDepth 20000
theorem octet_Dec_st {A : Nat → Prop} {N : Oth} {w : World} {a0 : Int} (S : St A N w w [] [oPw]) {r : ByteArray} (H : octet_Dec.f a0 = some r) :
  Calls PP F_octet_Dec #[.int .i64 a0] w fun e w' => ∃ v, e = .returned v ∧ (v = .string r ∧ St A N w w' [] []) := by
 unfold octet_Dec.f at H
 refine zA (n := 5) fn_octet_Dec rfl rfl (by simp) (zd (za (wd (yB rfl) (zb (zd (za (wd (zg rfl) ?_)))))))
 obtain ⟨r1, er1, H⟩ := zp H
 obtain ⟨B3, MB3, SB3, back⟩ := S.calln 0 ((.z 0 rfl .nil))
 refine zr (zo ca_strconv_Itoa) (by decide) (strconv_Itoa_st SB3 er1) ?_
 rintro _ w2 ⟨rfl, S2⟩
 replace S := back _ _ _ _ S2 rfl
 clear back S2 SB3
 refine wd (yB rfl) (zb (zw ?_))
 refine ⟨_, (zS (zf rfl)), ?_⟩
 replace S := S.arr [] []
 obtain rfl := Option.some.inj H
 exact ⟨rfl, S⟩
theorem ur {A : Nat → Prop} {N : Oth} {w : World} {a0 : Int} (S : St A N w w [] [oPw]) {r : ByteArray} (H : hilbert_Term_1.f a0 = some r) :
  Calls PP xq #[.int .i64 a0] w fun e w' => ∃ v, e = .returned v ∧ (v = .string r ∧ St A N w w' [] []) := by
 unfold hilbert_Term_1.f at H
 refine zA (n := 6) fn_hilbert_Term_1 rfl rfl (by simp) (zd (za (wd (yB rfl) (zb (zd (za (wd (zg rfl) ?_)))))))
 obtain ⟨r1, er1, H⟩ := zp H
 obtain ⟨B3, MB3, SB3, back⟩ := S.calln 0 ((.z 0 rfl .nil))
 refine zr (zo ca_octet_Dec) (by decide) (octet_Dec_st SB3 er1) ?_
 rintro _ w2 ⟨rfl, S2⟩
 replace S := back _ _ _ _ S2 rfl
 clear back S2 SB3
 obtain ⟨hs4, H⟩ := xg H
 refine wd (does_concat rfl rfl (of_decide_eq_true hs4)) (wd (yB rfl) (zb (zw ?_)))
 refine ⟨_, (zS (zf rfl)), ?_⟩
 replace S := S.arr [] []
 obtain rfl := Option.some.inj H
 exact ⟨rfl, S⟩
theorem vd {A : Nat → Prop} {N : Oth} {w : World} {a0 : ByteArray} (S : St A N w w [] []) {r : PTerm} (H : hilbert_v.f a0 = some r) :
  Calls PP F_hilbert_v #[.string a0] w fun e w' => ∃ v, e = .returned v ∧ (∃ so0 : SlV, v = .agg (Term.C (⟨r.kind, r.name, r.other, r.form, so0⟩ : Term)).toArray ∧ St A N w w' [] [zu so0 r.sub]) := by
 unfold hilbert_v.f at H
 refine zA (n := 5) fn_hilbert_v rfl rfl (by simp) (zd (za ?_))
 refine xc uO (by decide) fun b2 w1 hw1 => ?_
 replace S := S.new hw1
 refine zb (zd (za (wd (xr rfl) (wd (Does.to (v' := .agg (Term.C (⟨1, a0, ByteArray.empty, 0, SlV.nil⟩ : Term)).toArray) (xA (vs := [(0, .int .i64 1), (1, .string a0)]) jk (yh rfl (yh rfl rfl)) (Bld.one rfl rfl (by rw [Term.len]; decide) (Term.set_kind _ _) (Bld.one rfl rfl (by rw [Term.len]; decide) (Term.set_name _ _) Bld.nil))) rfl) ?_))))
 refine zJ zE rfl rfl (S.blk 0) (Term.len _) (by rw [Term.len]; decide) (Term.one _) (zV (Term.len _)) fun w3 B hw3 zw3 => ?_
 replace S := S.store 0 B hw3
 clear B
 refine zb (zw ?_)
 replace S := S.nilTm
 refine ⟨_, (zS (xK zE rfl ((S.blk 0).all _ (Term.len _)) (Term.len _))), ?_⟩
 replace S := S.arr [] [0]
 obtain rfl := Option.some.inj H
 exact ⟨SlV.nil, rfl, S⟩
theorem xH {A : Nat → Prop} {N : Oth} {w : World} {a0 : Int} {a1 : List PTerm} {s_1 : SlV} (S : St A N w w [] [zu s_1 a1]) {r : PTerm} (H : hilbert_node.f a0 a1 = some r) :
  Calls PP F_hilbert_node #[.int .i64 a0, s_1.v] w fun e w' => ∃ v, e = .returned v ∧ (∃ so0 : SlV, v = .agg (Term.C (⟨r.kind, r.name, r.other, r.form, so0⟩ : Term)).toArray ∧ St A N w w' [] [zu so0 r.sub]) := by
 unfold hilbert_node.f at H
 refine zA (n := 8) fn_hilbert_node rfl rfl (by simp) (zd (za ?_))
 refine xc uO (by decide) fun b2 w1 hw1 => ?_
 replace S := S.new hw1
 refine zb (zd (za (wd (zg rfl) (wd (zz rfl) (wd (Does.to (v' := .agg (Term.C (⟨a0, ByteArray.empty, ByteArray.empty, 0, s_1⟩ : Term)).toArray) (xA (vs := [(0, .int .i64 a0), (4, s_1.v)]) jk (yh rfl (yh rfl rfl)) (Bld.one rfl rfl (by rw [Term.len]; decide) (Term.set_kind _ _) (Bld.one rfl (SlV.one _ _ rfl) (by rw [Term.len]; decide) (Term.set_sub _ _) Bld.nil))) rfl) ?_)))))
 refine zJ zE rfl rfl (S.blk 0) (Term.len _) (by rw [Term.len]; decide) (Term.one _) (zV (Term.len _)) fun w3 B hw3 zw3 => ?_
 replace S := S.store 0 B hw3
 clear B
 refine zb (zw ?_)
 refine ⟨_, (zS (xK zE rfl ((S.blk 0).all _ (Term.len _)) (Term.len _))), ?_⟩
 replace S := S.arr [] [0]
 obtain rfl := Option.some.inj H
 exact ⟨s_1, rfl, S⟩
theorem yN {A : Nat → Prop} {N : Oth} {w : World} {a0 : PTerm} {s_0 : SlV} {a1 : List ByteArray} {s_1 : SlV} (S : St A N w w [] [zu s_0 a0.sub, fS 1 SC s_1 a1]) {r : PTerm} (H : hilbert_fun.f a0 a1 = some r) :
  Calls PP F_hilbert_fun #[.agg (Term.C (⟨a0.kind, a0.name, a0.other, a0.form, s_0⟩ : Term)).toArray, s_1.v] w fun e w' => ∃ v, e = .returned v ∧ (∃ so0 : SlV, v = .agg (Term.C (⟨r.kind, r.name, r.other, r.form, so0⟩ : Term)).toArray ∧ St A N w w' [] [zu so0 r.sub]) := by
 unfold hilbert_fun.f at H
 refine zA (n := 16) fn_hilbert_fun rfl rfl (by simp) (zd (za ?_))
 refine zY rfl (by decide) fun b2 w1 hw1 => ?_
 replace S := S.new hw1
 refine xc uO (by decide) fun b4 w3 hw3 => ?_
 replace S := S.new hw3
 refine zb (zd (zd (za (wd (zz rfl) ?_))))
 refine zr (zo jM) (by decide) (jD _ s_1) ?_
 rintro _ w5 ⟨c6, rfl, Bc6, hc6, Ec6⟩
 replace S := S.addZ (b := oB c6 vp [s_1.v]) (G := (· = c6)) Ec6 ⟨Bc6, fun _ => Iff.rfl⟩ (fun i hi => by rw [hi]; exact hc6)
 refine zb ?_
 refine zO ?_
 replace S := S.nilTm
 obtain ⟨o7, e7, Ho7⟩ := zp H
 clear H
 refine wc_rangeSt2 (xs := bwd a1) (enc := fun (x : Int × ByteArray) => Value.int .i64 x.1) (enc2 := fun (x : Int × ByteArray) => Value.string x.2) (bd := (fun (x : Int × ByteArray) (s : PTerm) => hilbert_fun.b0 x.1 x.2 s)) (L := (fun (s : PTerm) (c : SlV) => [oB b4 zy (Term.C (⟨0, ByteArray.empty, ByteArray.empty, 0, SlV.nil⟩ : Term)), oB b2 zy (Term.C (⟨s.kind, s.name, s.other, s.form, c⟩ : Term))])) (Lr := (fun (_ : Empty) (_ : Unit) => [])) (Zf := (fun (s : PTerm) (c : SlV) => [zu SlV.nil ([]), oB c6 vp [s_1.v], zu c s.sub, fS 1 SC s_1 a1])) (Zr := (fun (_ : Empty) (_ : Unit) => [])) s_0 false 0 rfl jo (uL (S.len 3) c6) (by decide) (by decide) (fun N' s c W h => ⟨h.blkZ 1, h.rd 3⟩) S e7 ?_ ?_ ?_ ?_
 ·rintro ⟨i7, y7⟩ x7_0 s8 q7 N7 rd u7 H S
  replace S := S
  refine za (wd (yB rfl) (zb ?_))
  refine ⟨rfl, _, _, S, fun M7 v7 S => ?_⟩
  replace S := S
  replace H : hilbert_fun.b0  i7 y7 x7_0 = some q7 := H
  unfold hilbert_fun.b0 at H
  try dsimp only at H
  refine zO (za (wd (xr rfl) (wd (zl zE rfl ((S.blk 1).all _ (Term.len _)) (Term.len _)) ?_)))
  refine xB (C := Term.C) (l := [(⟨x7_0.kind, x7_0.name, x7_0.other, x7_0.form, s8⟩ : Term)]) (vs := [.agg (Term.C (⟨x7_0.kind, x7_0.name, x7_0.other, x7_0.form, s8⟩ : Term)).toArray]) zP vw.zero rfl rfl (fun a _ => Term.len a) (by decide) rfl (by decide) fun b10 w9 s11 hBw9 hw9 => ?_
  replace S := ((S.lit hBw9 hw9 (by simp)).bigTm).consTm (x := x7_0) 2
  replace S := (S.frzTm 0 0).zs [0, 2, 3, 4, 5]
  refine wd (Does.to (v' := .agg (Term.C (⟨2, y7, ByteArray.empty, 0, s11⟩ : Term)).toArray) (xA (vs := [(0, .int .i64 2), (1, .string y7), (4, s11.v)]) jk (yh rfl (yh rfl (yh rfl rfl))) (Bld.one rfl rfl (by rw [Term.len]; decide) (Term.set_kind _ _) (Bld.one rfl rfl (by rw [Term.len]; decide) (Term.set_name _ _) (Bld.one rfl (SlV.one _ _ rfl) (by rw [Term.len]; decide) (Term.set_sub _ _) Bld.nil)))) rfl) ?_
  refine zJ zE rfl rfl (S.blk 1) (Term.len _) (by rw [Term.len]; decide) (Term.one _) (zV (Term.len _)) fun w12 B hw12 zw12 => ?_
  replace S := S.store 1 B hw12
  clear B
  refine zb ?_
  replace S := S.arr [1, 0] [1, 2, 0, 4]
  obtain rfl := Option.some.inj H
  exact ⟨_, rfl, s11, S⟩
 ·rintro s7 s14 B7 w13 rfl S hB7
  replace S := S
  have H := Ho7
  dsimp only [fin] at H
  refine zd (za (wd (zl zE rfl ((S.blk 1).all _ (Term.len _)) (Term.len _)) ?_))
  refine zJ zE rfl rfl (S.blk 0) (Term.len _) (by rw [Term.len]; decide) (Term.one _) (zV (Term.len _)) fun w15 B hw15 zw15 => ?_
  replace S := S.store 0 B hw15
  clear B
  refine zb (zw ?_)
  refine end1 (.inl rfl) (S.take hB7).1 fun w16 hcw16 => ?_
  replace S := (S.take hB7).2 _ hcw16
  refine ⟨_, (zS (xK zE rfl ((S.blk 0).all _ (Term.len _)) (Term.len _))), ?_⟩
  replace S := S.arr [] [2]
  obtain rfl := Option.some.inj H
  exact ⟨s14, rfl, S⟩
 ·intro r; exact r.elim
 ·intro h; cases h
theorem hilbert_axiom_st {A : Nat → Prop} {N : Oth} {w : World} {a0 : Int} (S : St A N w w [] []) {r : PTerm} (H : hilbert_axiom.f a0 = some r) :
  Calls PP F_hilbert_axiom #[.int .i64 a0] w fun e w' => ∃ v, e = .returned v ∧ (∃ so0 : SlV, v = .agg (Term.C (⟨r.kind, r.name, r.other, r.form, so0⟩ : Term)).toArray ∧ St A N w w' [] [zu so0 r.sub]) := by
 unfold hilbert_axiom.f at H
 refine zA (n := 89) fn_hilbert_axiom rfl rfl (by simp) (zd (za ?_))
 refine xc uO (by decide) fun b2 w1 hw1 => ?_
 replace S := S.new hw1
 refine zb (zd (za ?_))
 obtain ⟨r3, er3, H⟩ := zp H
 obtain ⟨B5, MB5, SB5, back⟩ := S.sub [] [] [oB b2 zy (Term.C (⟨0, ByteArray.empty, ByteArray.empty, 0, SlV.nil⟩ : Term))]
 refine zr (zo vh) (by decide) (vd SB5 er3) ?_
 rintro _ w4 ⟨s6, rfl, S2⟩
 replace S := back _ _ _ _ _ S2 rfl rfl
 clear back S2 SB5
 obtain ⟨r7, er7, H⟩ := zp H
 obtain ⟨B9, MB9, SB9, back⟩ := S.sub [] [] [oB b2 zy (Term.C (⟨0, ByteArray.empty, ByteArray.empty, 0, SlV.nil⟩ : Term))]
 refine zr (zo vh) (by decide) (vd SB9 er7) ?_
 rintro _ w8 ⟨s10, rfl, S2⟩
 replace S := back _ _ _ _ _ S2 rfl rfl
 clear back S2 SB9
 obtain ⟨r11, er11, H⟩ := zp H
 obtain ⟨B13, MB13, SB13, back⟩ := S.sub [] [] [oB b2 zy (Term.C (⟨0, ByteArray.empty, ByteArray.empty, 0, SlV.nil⟩ : Term))]
 refine zr (zo vh) (by decide) (vd SB13 er11) ?_
 rintro _ w12 ⟨s14, rfl, S2⟩
 replace S := back _ _ _ _ _ S2 rfl rfl
 clear back S2 SB13
 refine xc uO (by decide) fun b16 w15 hw15 => ?_
 replace S := S.new hw15
 refine xc uO (by decide) fun b18 w17 hw17 => ?_
 replace S := S.new hw17
 refine xc uO (by decide) fun b20 w19 hw19 => ?_
 replace S := S.new hw19
 refine zJ zE rfl rfl (S.blk 2) (Term.len _) (by rw [Term.len]; decide) (Term.one _) (zV (Term.len _)) fun w21 B hw21 zw21 => ?_
 replace S := S.store 2 B hw21
 clear B
 refine zJ zE rfl rfl (S.blk 2) (Term.len _) (by rw [Term.len]; decide) (Term.one _) (zV (Term.len _)) fun w22 B hw22 zw22 => ?_
 replace S := S.store 2 B hw22
 clear B
 refine zJ zE rfl rfl (S.blk 2) (Term.len _) (by rw [Term.len]; decide) (Term.one _) (zV (Term.len _)) fun w23 B hw23 zw23 => ?_
 replace S := S.store 2 B hw23
 clear B
 refine zb (zd (zd (za (wd (zg rfl) (zb ?_)))))
 refine zO (zd (za (wd (zU rfl rfl) (wd (zm rfl) (zb ?_)))))
 refine zF rfl (fun hc24 => ?_) (fun hc24 => ?_)
 ·replace H := if_t hc24 H
  refine zd (za (wd (zl zE rfl ((S.blk 2).all _ (Term.len _)) (Term.len _)) ?_))
  refine xB (C := SC) (l := [(⟨#[97]⟩ : ByteArray), (⟨#[98]⟩ : ByteArray)]) (vs := [.string (⟨#[97]⟩ : ByteArray), .string (⟨#[98]⟩ : ByteArray)]) x9 ui.zero rfl rfl (fun _ _ => rfl) (by decide) rfl (by decide) fun b26 w25 s27 hBw25 hw25 => ?_
  replace S := S.lit hBw25 hw25 (by simp)
  obtain ⟨r28, er28, H⟩ := zp H
  replace S := S.frzS 0
  obtain ⟨B30, MB30, SB30, back⟩ := S.sub [3, 0] [] [oB b20 zy (Term.C (⟨r11.kind, r11.name, r11.other, r11.form, s14⟩ : Term)), oB b18 zy (Term.C (⟨r7.kind, r7.name, r7.other, r7.form, s10⟩ : Term)), oB b16 zy (Term.C (⟨r3.kind, r3.name, r3.other, r3.form, s6⟩ : Term)), oB b2 zy (Term.C (⟨0, ByteArray.empty, ByteArray.empty, 0, SlV.nil⟩ : Term))]
  refine zr (zo yM) (by decide) (yN (a0 := r3) SB30 er28) ?_
  rintro _ w29 ⟨s31, rfl, S2⟩
  replace S := back _ _ _ _ _ S2 rfl rfl
  clear back S2 SB30
  refine zJ zE rfl rfl (S.blk 3) (Term.len _) (by rw [Term.len]; decide) (Term.one _) (zV (Term.len _)) fun w32 B hw32 zw32 => ?_
  replace S := S.store 3 B hw32
  clear B
  refine zb (zw ?_)
  refine ⟨_, (zS (xK zE rfl ((S.blk 0).all _ (Term.len _)) (Term.len _))), ?_⟩
  replace S := S.arr [] [0]
  obtain rfl := Option.some.inj H
  exact ⟨s31, rfl, S⟩
 replace H := if_f hc24 H
 refine zd (za (wd (zU rfl rfl) (wd (zm rfl) (zb ?_))))
 refine zF rfl (fun hc33 => ?_) (fun hc33 => ?_)
 ·replace H := if_t hc33 H
  refine zd ?_
  obtain ⟨r37, er37, H⟩ := zp H
  obtain ⟨r44, er44, H⟩ := zp H
  obtain ⟨r51, er51, H⟩ := zp H
  refine uh 11 ⟨fun _ _ => True, fun _ _ _ => True, fun i v _ => match i with
   | 0 => v = Value.agg (Term.C (⟨r3.kind, r3.name, r3.other, r3.form, s6⟩ : Term)).toArray
   | 1 => v = Value.agg (Term.C (⟨r11.kind, r11.name, r11.other, r11.form, s14⟩ : Term)).toArray
   | 4 => v = Value.agg (Term.C (⟨r7.kind, r7.name, r7.other, r7.form, s10⟩ : Term)).toArray
   | 5 => v = Value.agg (Term.C (⟨r11.kind, r11.name, r11.other, r11.form, s14⟩ : Term)).toArray
   | _ => True⟩ (fun L g v => ∃ s57 : SlV, ∃ O59 : List OA, ∃ Z58 : List OA, (∀ z ∈ [zu s14 r11.sub, zu s10 r7.sub, zu s6 r3.sub], z ∈ Z58) ∧ Made L g Z58 2 20 (fun (c : SlV) => c.v) (fun (c : SlV) => [zu c ([r3, r11])]) ∧ Made L g Z58 3 21 (fun (c : SlV) => Value.agg (Term.C (⟨r37.kind, r37.name, r37.other, r37.form, c⟩ : Term)).toArray) (fun (c : SlV) => [zu c r37.sub]) ∧ Made L g Z58 6 24 (fun (c : SlV) => c.v) (fun (c : SlV) => [zu c ([r7, r11])]) ∧ Made L g Z58 7 25 (fun (c : SlV) => Value.agg (Term.C (⟨r44.kind, r44.name, r44.other, r44.form, c⟩ : Term)).toArray) (fun (c : SlV) => [zu c r44.sub]) ∧ Made L g Z58 8 26 (fun (c : SlV) => c.v) (fun (c : SlV) => [zu c ([r37, r44])]) ∧ Made L g Z58 9 27 (fun (c : SlV) => Value.agg (Term.C (⟨r51.kind, r51.name, r51.other, r51.form, c⟩ : Term)).toArray) (fun (c : SlV) => [zu c r51.sub]) ∧ (L 10 = true → g 28 = s57.v) ∧ O59 = ((bif L 10 then [oS T_string 1 SC s57 ([(⟨#[97]⟩ : ByteArray), (⟨#[98]⟩ : ByteArray), (⟨#[99]⟩ : ByteArray)])] else []) ++ [oB b20 zy (Term.C (⟨r11.kind, r11.name, r11.other, r11.form, s14⟩ : Term)), oB b18 zy (Term.C (⟨r7.kind, r7.name, r7.other, r7.form, s10⟩ : Term)), oB b16 zy (Term.C (⟨r3.kind, r3.name, r3.other, r3.form, s6⟩ : Term)), oB b2 zy (Term.C (⟨0, ByteArray.empty, ByteArray.empty, 0, SlV.nil⟩ : Term))]) ∧ St A N w v O59 Z58) hmix (by kernel_rfl) (fun _ _ _ _ _ _ _ hv => hv) (fun g => ⟨SlV.nil, _, _, fun _ h => h, Made.no, Made.no, Made.no, Made.no, Made.no, Made.no, (fun h => by cases h), rfl, S.ext (Ext.drawn _)⟩) ⟨?_, ?_, ?_, ?_, ?_, ?_, ?_, ?_, ?_, ?_, ?_, trivial⟩ ?_
  ·rintro L g v hL hcl hclo ⟨s57, O59, Z58, hZ, hm2, hm3, hm6, hm7, hm8, hm9, hk10, hO, S⟩ 
   have SR : St A N w v [oB b20 zy (Term.C (⟨r11.kind, r11.name, r11.other, r11.form, s14⟩ : Term)), oB b18 zy (Term.C (⟨r7.kind, r7.name, r7.other, r7.form, s10⟩ : Term)), oB b16 zy (Term.C (⟨r3.kind, r3.name, r3.other, r3.form, s6⟩ : Term)), oB b2 zy (Term.C (⟨0, ByteArray.empty, ByteArray.empty, 0, SlV.nil⟩ : Term))] (zu s14 r11.sub :: zu s10 r7.sub :: zu s6 r3.sub :: Z58) := by
    have S2 := S.zneed hZ
    rw [hO] at S2
    exact S2.drops
   refine wd (zl zE rfl ((SR.blk 2).all _ (Term.len _)) (Term.len _)) ?_
   exact zb (ob4 trivial rfl ⟨s57, O59, Z58, hZ, hm2.keep rfl rfl tl0, hm3.keep rfl rfl tl0, hm6.keep rfl rfl tl0, hm7.keep rfl rfl tl0, hm8.keep rfl rfl tl0, hm9.keep rfl rfl tl0, (fun h => by rw [zH _ _ _ _ (by decide)]; exact hk10 (by rw [zn rfl] at h; exact h)), by rw [hO]; simp only [zn (L := L) (i := 0) (j := 10) rfl], S⟩)
  ·rintro L g v hL hcl hclo ⟨s57, O59, Z58, hZ, hm2, hm3, hm6, hm7, hm8, hm9, hk10, hO, S⟩ 
   have SR : St A N w v [oB b20 zy (Term.C (⟨r11.kind, r11.name, r11.other, r11.form, s14⟩ : Term)), oB b18 zy (Term.C (⟨r7.kind, r7.name, r7.other, r7.form, s10⟩ : Term)), oB b16 zy (Term.C (⟨r3.kind, r3.name, r3.other, r3.form, s6⟩ : Term)), oB b2 zy (Term.C (⟨0, ByteArray.empty, ByteArray.empty, 0, SlV.nil⟩ : Term))] (zu s14 r11.sub :: zu s10 r7.sub :: zu s6 r3.sub :: Z58) := by
    have S2 := S.zneed hZ
    rw [hO] at S2
    exact S2.drops
   refine wd (zl zE rfl ((SR.blk 0).all _ (Term.len _)) (Term.len _)) ?_
   exact zb (ob4 trivial rfl ⟨s57, O59, Z58, hZ, hm2.keep rfl rfl tl0, hm3.keep rfl rfl tl0, hm6.keep rfl rfl tl0, hm7.keep rfl rfl tl0, hm8.keep rfl rfl tl0, hm9.keep rfl rfl tl0, (fun h => by rw [zH _ _ _ _ (by decide)]; exact hk10 (by rw [zn rfl] at h; exact h)), by rw [hO]; simp only [zn (L := L) (i := 1) (j := 10) rfl], S⟩)
  ·rintro L g v hL hcl hclo ⟨s57, O59, Z58, hZ, hm2, hm3, hm6, hm7, hm8, hm9, hk10, hO, S⟩ hv0 hv1
   replace S := (S.zneed hZ)
   refine xB (C := Term.C) (l := [(⟨r3.kind, r3.name, r3.other, r3.form, s6⟩ : Term), (⟨r11.kind, r11.name, r11.other, r11.form, s14⟩ : Term)]) (vs := [.agg (Term.C (⟨r3.kind, r3.name, r3.other, r3.form, s6⟩ : Term)).toArray, .agg (Term.C (⟨r11.kind, r11.name, r11.other, r11.form, s14⟩ : Term)).toArray]) zP vw.zero (yh hv0 (yh hv1 rfl)) rfl (fun a _ => Term.len a) (by decide) rfl (by decide) fun b61 w60 s62 hBw60 hw60 => ?_
   replace S := ((S.lit hBw60 hw60 (by simp)).bigTm).consTm (x := r11) 0
   replace S := (S.consTm (x := r3) 2).frzTm 0 0
   exact zb (ob4 trivial trivial ⟨s57, O59, _, (fun z h => tl5 z (hZ z h)), Made.one (val := (fun (c : SlV) => c.v)) (ps := (fun (c : SlV) => [zu c ([r3, r11])])) s62 (vL List.mem_cons_self uY), hm3.keep rfl rfl tl5, hm6.keep rfl rfl tl5, hm7.keep rfl rfl tl5, hm8.keep rfl rfl tl5, hm9.keep rfl rfl tl5, (fun h => by rw [zH _ _ _ _ (by decide)]; exact hk10 (by rw [zn rfl] at h; exact h)), by rw [hO]; simp only [zn (L := L) (i := 2) (j := 10) rfl], S⟩)
  ·rintro L g v hL hcl hclo ⟨s57, O59, Z58, hZ, hm2, hm3, hm6, hm7, hm8, hm9, hk10, hO, S⟩ _
   obtain ⟨s36, he2, hp2⟩ := hm2 (hcl 2 (by kernel_rfl))
   replace S := (S.zneed (yT (l1 := [zu s36 ([r3, r11])]) hp2 hZ))
   obtain ⟨B65, MB65, SB65, back⟩ := S.sub [0] [] (O59)
   refine zr (zL xI (zM rfl (zM he2 rfl))) (by decide) (xH SB65 er37) ?_
   rintro _ w64 ⟨s66, rfl, S2⟩
   replace S := back _ _ _ _ _ S2 rfl rfl
   clear back S2 SB65
   exact zb (ob4 trivial trivial ⟨s57, O59, _, (fun z h => tl5 z (hZ z h)), hm2.keep rfl rfl tl5, Made.one (val := (fun (c : SlV) => Value.agg (Term.C (⟨r37.kind, r37.name, r37.other, r37.form, c⟩ : Term)).toArray)) (ps := (fun (c : SlV) => [zu c r37.sub])) s66 (vL List.mem_cons_self uY), hm6.keep rfl rfl tl5, hm7.keep rfl rfl tl5, hm8.keep rfl rfl tl5, hm9.keep rfl rfl tl5, (fun h => by rw [zH _ _ _ _ (by decide)]; exact hk10 (by rw [zn rfl] at h; exact h)), by rw [hO]; simp only [zn (L := L) (i := 3) (j := 10) rfl], S⟩)
  ·rintro L g v hL hcl hclo ⟨s57, O59, Z58, hZ, hm2, hm3, hm6, hm7, hm8, hm9, hk10, hO, S⟩ 
   have SR : St A N w v [oB b20 zy (Term.C (⟨r11.kind, r11.name, r11.other, r11.form, s14⟩ : Term)), oB b18 zy (Term.C (⟨r7.kind, r7.name, r7.other, r7.form, s10⟩ : Term)), oB b16 zy (Term.C (⟨r3.kind, r3.name, r3.other, r3.form, s6⟩ : Term)), oB b2 zy (Term.C (⟨0, ByteArray.empty, ByteArray.empty, 0, SlV.nil⟩ : Term))] (zu s14 r11.sub :: zu s10 r7.sub :: zu s6 r3.sub :: Z58) := by
    have S2 := S.zneed hZ
    rw [hO] at S2
    exact S2.drops
   refine wd (zl zE rfl ((SR.blk 1).all _ (Term.len _)) (Term.len _)) ?_
   exact zb (ob4 trivial rfl ⟨s57, O59, Z58, hZ, hm2.keep rfl rfl tl0, hm3.keep rfl rfl tl0, hm6.keep rfl rfl tl0, hm7.keep rfl rfl tl0, hm8.keep rfl rfl tl0, hm9.keep rfl rfl tl0, (fun h => by rw [zH _ _ _ _ (by decide)]; exact hk10 (by rw [zn rfl] at h; exact h)), by rw [hO]; simp only [zn (L := L) (i := 4) (j := 10) rfl], S⟩)
  ·rintro L g v hL hcl hclo ⟨s57, O59, Z58, hZ, hm2, hm3, hm6, hm7, hm8, hm9, hk10, hO, S⟩ 
   have SR : St A N w v [oB b20 zy (Term.C (⟨r11.kind, r11.name, r11.other, r11.form, s14⟩ : Term)), oB b18 zy (Term.C (⟨r7.kind, r7.name, r7.other, r7.form, s10⟩ : Term)), oB b16 zy (Term.C (⟨r3.kind, r3.name, r3.other, r3.form, s6⟩ : Term)), oB b2 zy (Term.C (⟨0, ByteArray.empty, ByteArray.empty, 0, SlV.nil⟩ : Term))] (zu s14 r11.sub :: zu s10 r7.sub :: zu s6 r3.sub :: Z58) := by
    have S2 := S.zneed hZ
    rw [hO] at S2
    exact S2.drops
   refine wd (zl zE rfl ((SR.blk 0).all _ (Term.len _)) (Term.len _)) ?_
   exact zb (ob4 trivial rfl ⟨s57, O59, Z58, hZ, hm2.keep rfl rfl tl0, hm3.keep rfl rfl tl0, hm6.keep rfl rfl tl0, hm7.keep rfl rfl tl0, hm8.keep rfl rfl tl0, hm9.keep rfl rfl tl0, (fun h => by rw [zH _ _ _ _ (by decide)]; exact hk10 (by rw [zn rfl] at h; exact h)), by rw [hO]; simp only [zn (L := L) (i := 5) (j := 10) rfl], S⟩)
  ·rintro L g v hL hcl hclo ⟨s57, O59, Z58, hZ, hm2, hm3, hm6, hm7, hm8, hm9, hk10, hO, S⟩ hv4 hv5
   replace S := (S.zneed hZ)
   refine xB (C := Term.C) (l := [(⟨r7.kind, r7.name, r7.other, r7.form, s10⟩ : Term), (⟨r11.kind, r11.name, r11.other, r11.form, s14⟩ : Term)]) (vs := [.agg (Term.C (⟨r7.kind, r7.name, r7.other, r7.form, s10⟩ : Term)).toArray, .agg (Term.C (⟨r11.kind, r11.name, r11.other, r11.form, s14⟩ : Term)).toArray]) zP vw.zero (yh hv4 (yh hv5 rfl)) rfl (fun a _ => Term.len a) (by decide) rfl (by decide) fun b68 w67 s69 hBw67 hw67 => ?_
   replace S := ((S.lit hBw67 hw67 (by simp)).bigTm).consTm (x := r11) 0
   replace S := (S.consTm (x := r7) 1).frzTm 0 0
   exact zb (ob4 trivial trivial ⟨s57, O59, _, (fun z h => tl5 z (hZ z h)), hm2.keep rfl rfl tl5, hm3.keep rfl rfl tl5, Made.one (val := (fun (c : SlV) => c.v)) (ps := (fun (c : SlV) => [zu c ([r7, r11])])) s69 (vL List.mem_cons_self uY), hm7.keep rfl rfl tl5, hm8.keep rfl rfl tl5, hm9.keep rfl rfl tl5, (fun h => by rw [zH _ _ _ _ (by decide)]; exact hk10 (by rw [zn rfl] at h; exact h)), by rw [hO]; simp only [zn (L := L) (i := 6) (j := 10) rfl], S⟩)
  ·rintro L g v hL hcl hclo ⟨s57, O59, Z58, hZ, hm2, hm3, hm6, hm7, hm8, hm9, hk10, hO, S⟩ _
   obtain ⟨s43, he6, hp6⟩ := hm6 (hcl 6 (by kernel_rfl))
   replace S := (S.zneed (yT (l1 := [zu s43 ([r7, r11])]) hp6 hZ))
   obtain ⟨B72, MB72, SB72, back⟩ := S.sub [0] [] (O59)
   refine zr (zL xI (zM rfl (zM he6 rfl))) (by decide) (xH SB72 er44) ?_
   rintro _ w71 ⟨s73, rfl, S2⟩
   replace S := back _ _ _ _ _ S2 rfl rfl
   clear back S2 SB72
   exact zb (ob4 trivial trivial ⟨s57, O59, _, (fun z h => tl5 z (hZ z h)), hm2.keep rfl rfl tl5, hm3.keep rfl rfl tl5, hm6.keep rfl rfl tl5, Made.one (val := (fun (c : SlV) => Value.agg (Term.C (⟨r44.kind, r44.name, r44.other, r44.form, c⟩ : Term)).toArray)) (ps := (fun (c : SlV) => [zu c r44.sub])) s73 (vL List.mem_cons_self uY), hm8.keep rfl rfl tl5, hm9.keep rfl rfl tl5, (fun h => by rw [zH _ _ _ _ (by decide)]; exact hk10 (by rw [zn rfl] at h; exact h)), by rw [hO]; simp only [zn (L := L) (i := 7) (j := 10) rfl], S⟩)
  ·rintro L g v hL hcl hclo ⟨s57, O59, Z58, hZ, hm2, hm3, hm6, hm7, hm8, hm9, hk10, hO, S⟩ _ _
   obtain ⟨s40, he3, hp3⟩ := hm3 (hcl 3 (by kernel_rfl))
   obtain ⟨s47, he7, hp7⟩ := hm7 (hcl 7 (by kernel_rfl))
   replace S := (S.zneed (yT (l1 := [zu s40 r37.sub]) hp3 (yT (l1 := [zu s47 r44.sub]) hp7 hZ)))
   refine xB (C := Term.C) (l := [(⟨r37.kind, r37.name, r37.other, r37.form, s40⟩ : Term), (⟨r44.kind, r44.name, r44.other, r44.form, s47⟩ : Term)]) (vs := [.agg (Term.C (⟨r37.kind, r37.name, r37.other, r37.form, s40⟩ : Term)).toArray, .agg (Term.C (⟨r44.kind, r44.name, r44.other, r44.form, s47⟩ : Term)).toArray]) zP vw.zero (yh he3 (yh he7 rfl)) rfl (fun a _ => Term.len a) (by decide) rfl (by decide) fun b75 w74 s76 hBw74 hw74 => ?_
   replace S := ((S.lit hBw74 hw74 (by simp)).bigTm).consTm (x := r44) 1
   replace S := (S.consTm (x := r37) 0).frzTm 0 0
   exact zb (ob4 trivial trivial ⟨s57, O59, _, (fun z h => tl7 z (hZ z h)), hm2.keep rfl rfl tl7, hm3.keep rfl rfl tl7, hm6.keep rfl rfl tl7, hm7.keep rfl rfl tl7, Made.one (val := (fun (c : SlV) => c.v)) (ps := (fun (c : SlV) => [zu c ([r37, r44])])) s76 (vL List.mem_cons_self uY), hm9.keep rfl rfl tl7, (fun h => by rw [zH _ _ _ _ (by decide)]; exact hk10 (by rw [zn rfl] at h; exact h)), by rw [hO]; simp only [zn (L := L) (i := 8) (j := 10) rfl], S⟩)
  ·rintro L g v hL hcl hclo ⟨s57, O59, Z58, hZ, hm2, hm3, hm6, hm7, hm8, hm9, hk10, hO, S⟩ _
   obtain ⟨s50, he8, hp8⟩ := hm8 (hcl 8 (by kernel_rfl))
   replace S := (S.zneed (yT (l1 := [zu s50 ([r37, r44])]) hp8 hZ))
   obtain ⟨B79, MB79, SB79, back⟩ := S.sub [0] [] (O59)
   refine zr (zL xI (zM rfl (zM he8 rfl))) (by decide) (xH SB79 er51) ?_
   rintro _ w78 ⟨s80, rfl, S2⟩
   replace S := back _ _ _ _ _ S2 rfl rfl
   clear back S2 SB79
   exact zb (ob4 trivial trivial ⟨s57, O59, _, (fun z h => tl5 z (hZ z h)), hm2.keep rfl rfl tl5, hm3.keep rfl rfl tl5, hm6.keep rfl rfl tl5, hm7.keep rfl rfl tl5, hm8.keep rfl rfl tl5, Made.one (val := (fun (c : SlV) => Value.agg (Term.C (⟨r51.kind, r51.name, r51.other, r51.form, c⟩ : Term)).toArray)) (ps := (fun (c : SlV) => [zu c r51.sub])) s80 (vL List.mem_cons_self uY), (fun h => by rw [zH _ _ _ _ (by decide)]; exact hk10 (by rw [zn rfl] at h; exact h)), by rw [hO]; simp only [zn (L := L) (i := 9) (j := 10) rfl], S⟩)
  ·rintro L g v hL hcl hclo ⟨s57, O59, Z58, hZ, hm2, hm3, hm6, hm7, hm8, hm9, hk10, hO, S⟩ 
   have hl10 : L 10 = false := hL
   have hOP : ∃ P Y, P = [] ∧ Y = [oB b20 zy (Term.C (⟨r11.kind, r11.name, r11.other, r11.form, s14⟩ : Term)), oB b18 zy (Term.C (⟨r7.kind, r7.name, r7.other, r7.form, s10⟩ : Term)), oB b16 zy (Term.C (⟨r3.kind, r3.name, r3.other, r3.form, s6⟩ : Term)), oB b2 zy (Term.C (⟨0, ByteArray.empty, ByteArray.empty, 0, SlV.nil⟩ : Term))] ∧ O59 = P ++ ([] ++ Y) := ⟨_, _, rfl, rfl, by rw [hO]; simp only [hl10, cond_true, cond_false, List.nil_append, List.append_assoc, List.cons_append]⟩
   obtain ⟨P, Y, hP, hY, hPY⟩ := hOP
   rw [hPY] at S
   replace S := (S.zneed hZ)
   refine xB (C := SC) (l := [(⟨#[97]⟩ : ByteArray), (⟨#[98]⟩ : ByteArray), (⟨#[99]⟩ : ByteArray)]) (vs := [.string (⟨#[97]⟩ : ByteArray), .string (⟨#[98]⟩ : ByteArray), .string (⟨#[99]⟩ : ByteArray)]) x9 ui.zero rfl rfl (fun _ _ => rfl) (by decide) rfl (by decide) fun b82 w81 s83 hBw81 hw81 => ?_
   replace S := S.lit hBw81 hw81 (by simp)
   refine zb (ob4 trivial trivial ⟨s83, P ++ ([oS T_string 1 SC s83 ([(⟨#[97]⟩ : ByteArray), (⟨#[98]⟩ : ByteArray), (⟨#[99]⟩ : ByteArray)])] ++ Y), _, (fun z h => tl3 z (hZ z h)), hm2.keep rfl rfl tl3, hm3.keep rfl rfl tl3, hm6.keep rfl rfl tl3, hm7.keep rfl rfl tl3, hm8.keep rfl rfl tl3, hm9.keep rfl rfl tl3, (fun _ => upd_same _ _ _), ?_, S.ins (P := [oS T_string 1 SC s83 ([(⟨#[97]⟩ : ByteArray), (⟨#[98]⟩ : ByteArray), (⟨#[99]⟩ : ByteArray)])])⟩)
   rw [hP, hY]; simp only [y5 (L := L) (i := 10), cond_true, cond_false, List.nil_append, List.append_assoc, List.cons_append]
  rintro L g w84 hLm ⟨s57, O59, Z58, hZ, hm2, hm3, hm6, hm7, hm8, hm9, hk10, hO, S⟩ hv85_0 hv85_1 _ _ hv85_4 hv85_5 _ _ _ _ _
  have hLt : ∀ j, j < 11 → L j = true := fun j hj => by rw [hLm]; exact decide_eq_true hj
  obtain ⟨s36, hv85_2, hp2⟩ := hm2 (hLt 2 (by decide))
  obtain ⟨s40, hv85_3, hp3⟩ := hm3 (hLt 3 (by decide))
  obtain ⟨s43, hv85_6, hp6⟩ := hm6 (hLt 6 (by decide))
  obtain ⟨s47, hv85_7, hp7⟩ := hm7 (hLt 7 (by decide))
  obtain ⟨s50, hv85_8, hp8⟩ := hm8 (hLt 8 (by decide))
  obtain ⟨s54, hv85_9, hp9⟩ := hm9 (hLt 9 (by decide))
  have hv85_10 := hk10 (hLt 10 (by decide))
  simp only [hLt 10 (by decide), cond_true, List.nil_append, List.cons_append] at hO
  rw [hO] at S
  replace S := S.pickZ (yT (l1 := [zu s36 ([r3, r11])]) hp2 (yT (l1 := [zu s40 r37.sub]) hp3 (yT (l1 := [zu s43 ([r7, r11])]) hp6 (yT (l1 := [zu s47 r44.sub]) hp7 (yT (l1 := [zu s50 ([r37, r44])]) hp8 (yT (l1 := [zu s54 r51.sub]) hp9 hZ))))))
  clear hp2 hp3 hp6 hp7 hp8 hp9 hZ hm2 hm3 hm6 hm7 hm8 hm9
  obtain ⟨r86, er86, H⟩ := zp H
  replace S := S.frzS 0
  obtain ⟨B88, MB88, SB88, back⟩ := S.sub [6, 0] [] [oB b20 zy (Term.C (⟨r11.kind, r11.name, r11.other, r11.form, s14⟩ : Term)), oB b18 zy (Term.C (⟨r7.kind, r7.name, r7.other, r7.form, s10⟩ : Term)), oB b16 zy (Term.C (⟨r3.kind, r3.name, r3.other, r3.form, s6⟩ : Term)), oB b2 zy (Term.C (⟨0, ByteArray.empty, ByteArray.empty, 0, SlV.nil⟩ : Term))]
  refine zr (zL yM (zM hv85_9 (zM hv85_10 rfl))) (by decide) (yN (a0 := r51) SB88 er86) ?_
  rintro _ w87 ⟨s89, rfl, S2⟩
  replace S := back _ _ _ _ _ S2 rfl rfl
  clear back S2 SB88
  refine zJ zE rfl rfl (S.blk 3) (Term.len _) (by rw [Term.len]; decide) (Term.one _) (zV (Term.len _)) fun w90 B hw90 zw90 => ?_
  replace S := S.store 3 B hw90
  clear B
  refine zb (zw ?_)
  refine ⟨_, (zS (xK zE rfl ((S.blk 0).all _ (Term.len _)) (Term.len _))), ?_⟩
  replace S := S.arr [] [0]
  obtain rfl := Option.some.inj H
  exact ⟨s89, rfl, S⟩
 replace H := if_f hc33 H
 refine zd (za (wd (zU rfl rfl) (wd (zm rfl) (zb ?_))))
 refine zF rfl (fun hc91 => ?_) (fun hc91 => ?_)
 ·replace H := if_t hc91 H
  refine zd (za (wd (zl zE rfl ((S.blk 2).all _ (Term.len _)) (Term.len _)) ?_))
  refine xB (C := Term.C) (l := [(⟨r3.kind, r3.name, r3.other, r3.form, s6⟩ : Term)]) (vs := [.agg (Term.C (⟨r3.kind, r3.name, r3.other, r3.form, s6⟩ : Term)).toArray]) zP vw.zero rfl rfl (fun a _ => Term.len a) (by decide) rfl (by decide) fun b93 w92 s94 hBw92 hw92 => ?_
  replace S := ((S.lit hBw92 hw92 (by simp)).bigTm).consTm (x := r3) 2
  replace S := (S.frzTm 0 0).zs [0, 2, 3, 4]
  obtain ⟨r95, er95, H⟩ := zp H
  obtain ⟨B97, MB97, SB97, back⟩ := S.sub [0] [] [oB b20 zy (Term.C (⟨r11.kind, r11.name, r11.other, r11.form, s14⟩ : Term)), oB b18 zy (Term.C (⟨r7.kind, r7.name, r7.other, r7.form, s10⟩ : Term)), oB b16 zy (Term.C (⟨r3.kind, r3.name, r3.other, r3.form, s6⟩ : Term)), oB b2 zy (Term.C (⟨0, ByteArray.empty, ByteArray.empty, 0, SlV.nil⟩ : Term))]
  refine zr (zo xI) (by decide) (xH SB97 er95) ?_
  rintro _ w96 ⟨s98, rfl, S2⟩
  replace S := back _ _ _ _ _ S2 rfl rfl
  clear back S2 SB97
  refine xB (C := SC) (l := [(⟨#[97]⟩ : ByteArray)]) (vs := [.string (⟨#[97]⟩ : ByteArray)]) x9 ui.zero rfl rfl (fun _ _ => rfl) (by decide) rfl (by decide) fun b100 w99 s101 hBw99 hw99 => ?_
  replace S := S.lit hBw99 hw99 (by simp)
  obtain ⟨r102, er102, H⟩ := zp H
  replace S := S.frzS 0
  obtain ⟨B104, MB104, SB104, back⟩ := S.sub [1, 0] [] [oB b20 zy (Term.C (⟨r11.kind, r11.name, r11.other, r11.form, s14⟩ : Term)), oB b18 zy (Term.C (⟨r7.kind, r7.name, r7.other, r7.form, s10⟩ : Term)), oB b16 zy (Term.C (⟨r3.kind, r3.name, r3.other, r3.form, s6⟩ : Term)), oB b2 zy (Term.C (⟨0, ByteArray.empty, ByteArray.empty, 0, SlV.nil⟩ : Term))]
  refine zr (zo yM) (by decide) (yN (a0 := r95) SB104 er102) ?_
  rintro _ w103 ⟨s105, rfl, S2⟩
  replace S := back _ _ _ _ _ S2 rfl rfl
  clear back S2 SB104
  refine zJ zE rfl rfl (S.blk 3) (Term.len _) (by rw [Term.len]; decide) (Term.one _) (zV (Term.len _)) fun w106 B hw106 zw106 => ?_
  replace S := S.store 3 B hw106
  clear B
  refine zb (zw ?_)
  refine ⟨_, (zS (xK zE rfl ((S.blk 0).all _ (Term.len _)) (Term.len _))), ?_⟩
  replace S := S.arr [] [0]
  obtain rfl := Option.some.inj H
  exact ⟨s105, rfl, S⟩
 replace H := if_f hc91 H
 refine zd (za (wd (zU rfl rfl) (wd (zm rfl) (zb ?_))))
 refine zF rfl (fun hc107 => ?_) (fun hc107 => ?_)
 ·replace H := if_t hc107 H
  refine zd (za (wd (zl zE rfl ((S.blk 2).all _ (Term.len _)) (Term.len _)) ?_))
  refine xB (C := Term.C) (l := [(⟨r3.kind, r3.name, r3.other, r3.form, s6⟩ : Term)]) (vs := [.agg (Term.C (⟨r3.kind, r3.name, r3.other, r3.form, s6⟩ : Term)).toArray]) zP vw.zero rfl rfl (fun a _ => Term.len a) (by decide) rfl (by decide) fun b109 w108 s110 hBw108 hw108 => ?_
  replace S := ((S.lit hBw108 hw108 (by simp)).bigTm).consTm (x := r3) 2
  replace S := (S.frzTm 0 0).zs [0, 2, 3, 4]
  obtain ⟨r111, er111, H⟩ := zp H
  obtain ⟨B113, MB113, SB113, back⟩ := S.sub [0] [] [oB b20 zy (Term.C (⟨r11.kind, r11.name, r11.other, r11.form, s14⟩ : Term)), oB b18 zy (Term.C (⟨r7.kind, r7.name, r7.other, r7.form, s10⟩ : Term)), oB b16 zy (Term.C (⟨r3.kind, r3.name, r3.other, r3.form, s6⟩ : Term)), oB b2 zy (Term.C (⟨0, ByteArray.empty, ByteArray.empty, 0, SlV.nil⟩ : Term))]
  refine zr (zo xI) (by decide) (xH SB113 er111) ?_
  rintro _ w112 ⟨s114, rfl, S2⟩
  replace S := back _ _ _ _ _ S2 rfl rfl
  clear back S2 SB113
  refine xB (C := SC) (l := [(⟨#[97]⟩ : ByteArray)]) (vs := [.string (⟨#[97]⟩ : ByteArray)]) x9 ui.zero rfl rfl (fun _ _ => rfl) (by decide) rfl (by decide) fun b116 w115 s117 hBw115 hw115 => ?_
  replace S := S.lit hBw115 hw115 (by simp)
  obtain ⟨r118, er118, H⟩ := zp H
  replace S := S.frzS 0
  obtain ⟨B120, MB120, SB120, back⟩ := S.sub [1, 0] [] [oB b20 zy (Term.C (⟨r11.kind, r11.name, r11.other, r11.form, s14⟩ : Term)), oB b18 zy (Term.C (⟨r7.kind, r7.name, r7.other, r7.form, s10⟩ : Term)), oB b16 zy (Term.C (⟨r3.kind, r3.name, r3.other, r3.form, s6⟩ : Term)), oB b2 zy (Term.C (⟨0, ByteArray.empty, ByteArray.empty, 0, SlV.nil⟩ : Term))]
  refine zr (zo yM) (by decide) (yN (a0 := r111) SB120 er118) ?_
  rintro _ w119 ⟨s121, rfl, S2⟩
  replace S := back _ _ _ _ _ S2 rfl rfl
  clear back S2 SB120
  refine zJ zE rfl rfl (S.blk 3) (Term.len _) (by rw [Term.len]; decide) (Term.one _) (zV (Term.len _)) fun w122 B hw122 zw122 => ?_
  replace S := S.store 3 B hw122
  clear B
  refine zb (zw ?_)
  refine ⟨_, (zS (xK zE rfl ((S.blk 0).all _ (Term.len _)) (Term.len _))), ?_⟩
  replace S := S.arr [] [0]
  obtain rfl := Option.some.inj H
  exact ⟨s121, rfl, S⟩
 replace H := if_f hc107 H
 refine zd (za (wd (zU rfl rfl) (wd (zm rfl) (zb ?_))))
 refine zF rfl (fun hc123 => ?_) (fun hc123 => ?_)
 ·replace H := if_t hc123 H
  refine zd (za (wd (zl zE rfl ((S.blk 2).all _ (Term.len _)) (Term.len _)) (wd (zl zE rfl ((S.blk 1).all _ (Term.len _)) (Term.len _)) ?_)))
  refine xB (C := Term.C) (l := [(⟨r3.kind, r3.name, r3.other, r3.form, s6⟩ : Term), (⟨r7.kind, r7.name, r7.other, r7.form, s10⟩ : Term)]) (vs := [.agg (Term.C (⟨r3.kind, r3.name, r3.other, r3.form, s6⟩ : Term)).toArray, .agg (Term.C (⟨r7.kind, r7.name, r7.other, r7.form, s10⟩ : Term)).toArray]) zP vw.zero rfl rfl (fun a _ => Term.len a) (by decide) rfl (by decide) fun b125 w124 s126 hBw124 hw124 => ?_
  replace S := ((S.lit hBw124 hw124 (by simp)).bigTm).consTm (x := r7) 1
  replace S := ((S.consTm (x := r3) 2).frzTm 0 0).zs [0, 2, 3, 4]
  obtain ⟨r127, er127, H⟩ := zp H
  obtain ⟨B129, MB129, SB129, back⟩ := S.sub [0] [] [oB b20 zy (Term.C (⟨r11.kind, r11.name, r11.other, r11.form, s14⟩ : Term)), oB b18 zy (Term.C (⟨r7.kind, r7.name, r7.other, r7.form, s10⟩ : Term)), oB b16 zy (Term.C (⟨r3.kind, r3.name, r3.other, r3.form, s6⟩ : Term)), oB b2 zy (Term.C (⟨0, ByteArray.empty, ByteArray.empty, 0, SlV.nil⟩ : Term))]
  refine zr (zo xI) (by decide) (xH SB129 er127) ?_
  rintro _ w128 ⟨s130, rfl, S2⟩
  replace S := back _ _ _ _ _ S2 rfl rfl
  clear back S2 SB129
  refine xB (C := SC) (l := [(⟨#[97]⟩ : ByteArray), (⟨#[98]⟩ : ByteArray)]) (vs := [.string (⟨#[97]⟩ : ByteArray), .string (⟨#[98]⟩ : ByteArray)]) x9 ui.zero rfl rfl (fun _ _ => rfl) (by decide) rfl (by decide) fun b132 w131 s133 hBw131 hw131 => ?_
  replace S := S.lit hBw131 hw131 (by simp)
  obtain ⟨r134, er134, H⟩ := zp H
  replace S := S.frzS 0
  obtain ⟨B136, MB136, SB136, back⟩ := S.sub [1, 0] [] [oB b20 zy (Term.C (⟨r11.kind, r11.name, r11.other, r11.form, s14⟩ : Term)), oB b18 zy (Term.C (⟨r7.kind, r7.name, r7.other, r7.form, s10⟩ : Term)), oB b16 zy (Term.C (⟨r3.kind, r3.name, r3.other, r3.form, s6⟩ : Term)), oB b2 zy (Term.C (⟨0, ByteArray.empty, ByteArray.empty, 0, SlV.nil⟩ : Term))]
  refine zr (zo yM) (by decide) (yN (a0 := r127) SB136 er134) ?_
  rintro _ w135 ⟨s137, rfl, S2⟩
  replace S := back _ _ _ _ _ S2 rfl rfl
  clear back S2 SB136
  refine zJ zE rfl rfl (S.blk 3) (Term.len _) (by rw [Term.len]; decide) (Term.one _) (zV (Term.len _)) fun w138 B hw138 zw138 => ?_
  replace S := S.store 3 B hw138
  clear B
  refine zb (zw ?_)
  refine ⟨_, (zS (xK zE rfl ((S.blk 0).all _ (Term.len _)) (Term.len _))), ?_⟩
  replace S := S.arr [] [0]
  obtain rfl := Option.some.inj H
  exact ⟨s137, rfl, S⟩
 replace H := if_f hc123 H
 refine zd (za (wd (zU rfl rfl) (wd (zm rfl) (zb ?_))))
 refine zF rfl (fun hc139 => ?_) (fun hc139 => ?_)
 ·replace H := if_t hc139 H
  refine zd (za (wd (zl zE rfl ((S.blk 2).all _ (Term.len _)) (Term.len _)) ?_))
  refine xB (C := Term.C) (l := [(⟨r3.kind, r3.name, r3.other, r3.form, s6⟩ : Term)]) (vs := [.agg (Term.C (⟨r3.kind, r3.name, r3.other, r3.form, s6⟩ : Term)).toArray]) zP vw.zero rfl rfl (fun a _ => Term.len a) (by decide) rfl (by decide) fun b141 w140 s142 hBw140 hw140 => ?_
  replace S := ((S.lit hBw140 hw140 (by simp)).bigTm).consTm (x := r3) 2
  replace S := (S.frzTm 0 0).zs [0, 2, 3, 4]
  obtain ⟨r143, er143, H⟩ := zp H
  obtain ⟨B145, MB145, SB145, back⟩ := S.sub [0] [] [oB b20 zy (Term.C (⟨r11.kind, r11.name, r11.other, r11.form, s14⟩ : Term)), oB b18 zy (Term.C (⟨r7.kind, r7.name, r7.other, r7.form, s10⟩ : Term)), oB b16 zy (Term.C (⟨r3.kind, r3.name, r3.other, r3.form, s6⟩ : Term)), oB b2 zy (Term.C (⟨0, ByteArray.empty, ByteArray.empty, 0, SlV.nil⟩ : Term))]
  refine zr (zo xI) (by decide) (xH SB145 er143) ?_
  rintro _ w144 ⟨s146, rfl, S2⟩
  replace S := back _ _ _ _ _ S2 rfl rfl
  clear back S2 SB145
  refine xB (C := SC) (l := [(⟨#[97]⟩ : ByteArray)]) (vs := [.string (⟨#[97]⟩ : ByteArray)]) x9 ui.zero rfl rfl (fun _ _ => rfl) (by decide) rfl (by decide) fun b148 w147 s149 hBw147 hw147 => ?_
  replace S := S.lit hBw147 hw147 (by simp)
  obtain ⟨r150, er150, H⟩ := zp H
  replace S := S.frzS 0
  obtain ⟨B152, MB152, SB152, back⟩ := S.sub [1, 0] [] [oB b20 zy (Term.C (⟨r11.kind, r11.name, r11.other, r11.form, s14⟩ : Term)), oB b18 zy (Term.C (⟨r7.kind, r7.name, r7.other, r7.form, s10⟩ : Term)), oB b16 zy (Term.C (⟨r3.kind, r3.name, r3.other, r3.form, s6⟩ : Term)), oB b2 zy (Term.C (⟨0, ByteArray.empty, ByteArray.empty, 0, SlV.nil⟩ : Term))]
  refine zr (zo yM) (by decide) (yN (a0 := r143) SB152 er150) ?_
  rintro _ w151 ⟨s153, rfl, S2⟩
  replace S := back _ _ _ _ _ S2 rfl rfl
  clear back S2 SB152
  refine zJ zE rfl rfl (S.blk 3) (Term.len _) (by rw [Term.len]; decide) (Term.one _) (zV (Term.len _)) fun w154 B hw154 zw154 => ?_
  replace S := S.store 3 B hw154
  clear B
  refine zb (zw ?_)
  refine ⟨_, (zS (xK zE rfl ((S.blk 0).all _ (Term.len _)) (Term.len _))), ?_⟩
  replace S := S.arr [] [0]
  obtain rfl := Option.some.inj H
  exact ⟨s153, rfl, S⟩
 replace H := if_f hc139 H
 refine zd (za (wd (zU rfl rfl) (wd (zm rfl) (zb ?_))))
 refine zF rfl (fun hc155 => ?_) (fun hc155 => ?_)
 ·replace H := if_t hc155 H
  refine zd (za (wd (zl zE rfl ((S.blk 2).all _ (Term.len _)) (Term.len _)) ?_))
  refine xB (C := Term.C) (l := [(⟨r3.kind, r3.name, r3.other, r3.form, s6⟩ : Term)]) (vs := [.agg (Term.C (⟨r3.kind, r3.name, r3.other, r3.form, s6⟩ : Term)).toArray]) zP vw.zero rfl rfl (fun a _ => Term.len a) (by decide) rfl (by decide) fun b157 w156 s158 hBw156 hw156 => ?_
  replace S := ((S.lit hBw156 hw156 (by simp)).bigTm).consTm (x := r3) 2
  replace S := (S.frzTm 0 0).zs [0, 2, 3, 4]
  obtain ⟨r159, er159, H⟩ := zp H
  obtain ⟨B161, MB161, SB161, back⟩ := S.sub [0] [] [oB b20 zy (Term.C (⟨r11.kind, r11.name, r11.other, r11.form, s14⟩ : Term)), oB b18 zy (Term.C (⟨r7.kind, r7.name, r7.other, r7.form, s10⟩ : Term)), oB b16 zy (Term.C (⟨r3.kind, r3.name, r3.other, r3.form, s6⟩ : Term)), oB b2 zy (Term.C (⟨0, ByteArray.empty, ByteArray.empty, 0, SlV.nil⟩ : Term))]
  refine zr (zo xI) (by decide) (xH SB161 er159) ?_
  rintro _ w160 ⟨s162, rfl, S2⟩
  replace S := back _ _ _ _ _ S2 rfl rfl
  clear back S2 SB161
  refine xB (C := SC) (l := [(⟨#[97]⟩ : ByteArray)]) (vs := [.string (⟨#[97]⟩ : ByteArray)]) x9 ui.zero rfl rfl (fun _ _ => rfl) (by decide) rfl (by decide) fun b164 w163 s165 hBw163 hw163 => ?_
  replace S := S.lit hBw163 hw163 (by simp)
  obtain ⟨r166, er166, H⟩ := zp H
  replace S := S.frzS 0
  obtain ⟨B168, MB168, SB168, back⟩ := S.sub [1, 0] [] [oB b20 zy (Term.C (⟨r11.kind, r11.name, r11.other, r11.form, s14⟩ : Term)), oB b18 zy (Term.C (⟨r7.kind, r7.name, r7.other, r7.form, s10⟩ : Term)), oB b16 zy (Term.C (⟨r3.kind, r3.name, r3.other, r3.form, s6⟩ : Term)), oB b2 zy (Term.C (⟨0, ByteArray.empty, ByteArray.empty, 0, SlV.nil⟩ : Term))]
  refine zr (zo yM) (by decide) (yN (a0 := r159) SB168 er166) ?_
  rintro _ w167 ⟨s169, rfl, S2⟩
  replace S := back _ _ _ _ _ S2 rfl rfl
  clear back S2 SB168
  refine zJ zE rfl rfl (S.blk 3) (Term.len _) (by rw [Term.len]; decide) (Term.one _) (zV (Term.len _)) fun w170 B hw170 zw170 => ?_
  replace S := S.store 3 B hw170
  clear B
  refine zb (zw ?_)
  refine ⟨_, (zS (xK zE rfl ((S.blk 0).all _ (Term.len _)) (Term.len _))), ?_⟩
  replace S := S.arr [] [0]
  obtain rfl := Option.some.inj H
  exact ⟨s169, rfl, S⟩
 replace H := if_f hc155 H
 refine zd (za (wd (zU rfl rfl) (wd (zm rfl) (zb ?_))))
 refine zF rfl (fun hc171 => ?_) (fun hc171 => ?_)
 ·replace H := if_t hc171 H
  refine zd ?_
  obtain ⟨r172, er172, H⟩ := zp H
  obtain ⟨r179, er179, H⟩ := zp H
  obtain ⟨r183, er183, H⟩ := zp H
  obtain ⟨r190, er190, H⟩ := zp H
  obtain ⟨r197, er197, H⟩ := zp H
  refine uh 12 ⟨fun _ _ => True, fun _ _ _ => True, fun i v _ => match i with
   | 0 => v = Value.agg (Term.C (⟨r11.kind, r11.name, r11.other, r11.form, s14⟩ : Term)).toArray
   | 1 => v = Value.agg (Term.C (⟨r3.kind, r3.name, r3.other, r3.form, s6⟩ : Term)).toArray
   | 5 => v = Value.agg (Term.C (⟨r7.kind, r7.name, r7.other, r7.form, s10⟩ : Term)).toArray
   | _ => True⟩ (fun L g v => ∃ b202 : Nat, ∃ O204 : List OA, ∃ Z203 : List OA, (∀ z ∈ [zu s14 r11.sub, zu s10 r7.sub, zu s6 r3.sub], z ∈ Z203) ∧ Made L g Z203 2 70 (fun (c : SlV) => Value.agg (Term.C (⟨r172.kind, r172.name, r172.other, r172.form, c⟩ : Term)).toArray) (fun (c : SlV) => [zu c r172.sub]) ∧ Made L g Z203 3 71 (fun (c : SlV) => c.v) (fun (c : SlV) => [zu c ([r3, r172])]) ∧ Made L g Z203 4 72 (fun (c : SlV) => Value.agg (Term.C (⟨r179.kind, r179.name, r179.other, r179.form, c⟩ : Term)).toArray) (fun (c : SlV) => [zu c r179.sub]) ∧ Made L g Z203 6 74 (fun (c : SlV) => Value.agg (Term.C (⟨r183.kind, r183.name, r183.other, r183.form, c⟩ : Term)).toArray) (fun (c : SlV) => [zu c r183.sub]) ∧ Made L g Z203 7 75 (fun (c : SlV) => c.v) (fun (c : SlV) => [zu c ([r7, r183])]) ∧ Made L g Z203 8 76 (fun (c : SlV) => Value.agg (Term.C (⟨r190.kind, r190.name, r190.other, r190.form, c⟩ : Term)).toArray) (fun (c : SlV) => [zu c r190.sub]) ∧ Made L g Z203 9 77 (fun (c : SlV) => c.v) (fun (c : SlV) => [zu c ([r11, r179, r190])]) ∧ Made L g Z203 10 78 (fun (c : SlV) => Value.agg (Term.C (⟨r197.kind, r197.name, r197.other, r197.form, c⟩ : Term)).toArray) (fun (c : SlV) => [zu c r197.sub]) ∧ (L 11 = true → g 6 = Value.pointer (some ⟨b202, 0, none⟩)) ∧ O204 = ((bif L 11 then [oB b202 zy (Term.C (⟨0, ByteArray.empty, ByteArray.empty, 0, SlV.nil⟩ : Term))] else []) ++ [oB b20 zy (Term.C (⟨r11.kind, r11.name, r11.other, r11.form, s14⟩ : Term)), oB b18 zy (Term.C (⟨r7.kind, r7.name, r7.other, r7.form, s10⟩ : Term)), oB b16 zy (Term.C (⟨r3.kind, r3.name, r3.other, r3.form, s6⟩ : Term)), oB b2 zy (Term.C (⟨0, ByteArray.empty, ByteArray.empty, 0, SlV.nil⟩ : Term))]) ∧ St A N w v O204 Z203) hmix (by kernel_rfl) (fun _ _ _ _ _ _ _ hv => hv) (fun g => ⟨0, _, _, fun _ h => h, Made.no, Made.no, Made.no, Made.no, Made.no, Made.no, Made.no, Made.no, (fun h => by cases h), rfl, S.ext (Ext.drawn _)⟩) ⟨?_, ?_, ?_, ?_, ?_, ?_, ?_, ?_, ?_, ?_, ?_, ?_, trivial⟩ ?_
  ·rintro L g v hL hcl hclo ⟨b202, O204, Z203, hZ, hm2, hm3, hm4, hm6, hm7, hm8, hm9, hm10, hk11, hO, S⟩ 
   have SR : St A N w v [oB b20 zy (Term.C (⟨r11.kind, r11.name, r11.other, r11.form, s14⟩ : Term)), oB b18 zy (Term.C (⟨r7.kind, r7.name, r7.other, r7.form, s10⟩ : Term)), oB b16 zy (Term.C (⟨r3.kind, r3.name, r3.other, r3.form, s6⟩ : Term)), oB b2 zy (Term.C (⟨0, ByteArray.empty, ByteArray.empty, 0, SlV.nil⟩ : Term))] (zu s14 r11.sub :: zu s10 r7.sub :: zu s6 r3.sub :: Z203) := by
    have S2 := S.zneed hZ
    rw [hO] at S2
    exact S2.drops
   refine wd (zl zE rfl ((SR.blk 0).all _ (Term.len _)) (Term.len _)) ?_
   exact zb (ob4 trivial rfl ⟨b202, O204, Z203, hZ, hm2.keep rfl rfl tl0, hm3.keep rfl rfl tl0, hm4.keep rfl rfl tl0, hm6.keep rfl rfl tl0, hm7.keep rfl rfl tl0, hm8.keep rfl rfl tl0, hm9.keep rfl rfl tl0, hm10.keep rfl rfl tl0, (fun h => by rw [zH _ _ _ _ (by decide)]; exact hk11 (by rw [zn rfl] at h; exact h)), by rw [hO]; simp only [zn (L := L) (i := 0) (j := 11) rfl], S⟩)
  ·rintro L g v hL hcl hclo ⟨b202, O204, Z203, hZ, hm2, hm3, hm4, hm6, hm7, hm8, hm9, hm10, hk11, hO, S⟩ 
   have SR : St A N w v [oB b20 zy (Term.C (⟨r11.kind, r11.name, r11.other, r11.form, s14⟩ : Term)), oB b18 zy (Term.C (⟨r7.kind, r7.name, r7.other, r7.form, s10⟩ : Term)), oB b16 zy (Term.C (⟨r3.kind, r3.name, r3.other, r3.form, s6⟩ : Term)), oB b2 zy (Term.C (⟨0, ByteArray.empty, ByteArray.empty, 0, SlV.nil⟩ : Term))] (zu s14 r11.sub :: zu s10 r7.sub :: zu s6 r3.sub :: Z203) := by
    have S2 := S.zneed hZ
    rw [hO] at S2
    exact S2.drops
   refine wd (zl zE rfl ((SR.blk 2).all _ (Term.len _)) (Term.len _)) ?_
   exact zb (ob4 trivial rfl ⟨b202, O204, Z203, hZ, hm2.keep rfl rfl tl0, hm3.keep rfl rfl tl0, hm4.keep rfl rfl tl0, hm6.keep rfl rfl tl0, hm7.keep rfl rfl tl0, hm8.keep rfl rfl tl0, hm9.keep rfl rfl tl0, hm10.keep rfl rfl tl0, (fun h => by rw [zH _ _ _ _ (by decide)]; exact hk11 (by rw [zn rfl] at h; exact h)), by rw [hO]; simp only [zn (L := L) (i := 1) (j := 11) rfl], S⟩)
  ·rintro L g v hL hcl hclo ⟨b202, O204, Z203, hZ, hm2, hm3, hm4, hm6, hm7, hm8, hm9, hm10, hk11, hO, S⟩ 
   replace S := (S.zneed hZ)
   obtain ⟨B207, MB207, SB207, back⟩ := S.sub [] [] (O204)
   refine zr (zo vh) (by decide) (vd SB207 er172) ?_
   rintro _ w206 ⟨s208, rfl, S2⟩
   replace S := back _ _ _ _ _ S2 rfl rfl
   clear back S2 SB207
   exact zb (ob4 trivial trivial ⟨b202, O204, _, (fun z h => tl4 z (hZ z h)), Made.one (val := (fun (c : SlV) => Value.agg (Term.C (⟨r172.kind, r172.name, r172.other, r172.form, c⟩ : Term)).toArray)) (ps := (fun (c : SlV) => [zu c r172.sub])) s208 (vL List.mem_cons_self uY), hm3.keep rfl rfl tl4, hm4.keep rfl rfl tl4, hm6.keep rfl rfl tl4, hm7.keep rfl rfl tl4, hm8.keep rfl rfl tl4, hm9.keep rfl rfl tl4, hm10.keep rfl rfl tl4, (fun h => by rw [zH _ _ _ _ (by decide)]; exact hk11 (by rw [zn rfl] at h; exact h)), by rw [hO]; simp only [zn (L := L) (i := 2) (j := 11) rfl], S⟩)
  ·rintro L g v hL hcl hclo ⟨b202, O204, Z203, hZ, hm2, hm3, hm4, hm6, hm7, hm8, hm9, hm10, hk11, hO, S⟩ hv1 _
   obtain ⟨s175, he2, hp2⟩ := hm2 (hcl 2 (by kernel_rfl))
   replace S := (S.zneed (yT (l1 := [zu s175 r172.sub]) hp2 hZ))
   refine xB (C := Term.C) (l := [(⟨r3.kind, r3.name, r3.other, r3.form, s6⟩ : Term), (⟨r172.kind, r172.name, r172.other, r172.form, s175⟩ : Term)]) (vs := [.agg (Term.C (⟨r3.kind, r3.name, r3.other, r3.form, s6⟩ : Term)).toArray, .agg (Term.C (⟨r172.kind, r172.name, r172.other, r172.form, s175⟩ : Term)).toArray]) zP vw.zero (yh hv1 (yh he2 rfl)) rfl (fun a _ => Term.len a) (by decide) rfl (by decide) fun b210 w209 s211 hBw209 hw209 => ?_
   replace S := ((S.lit hBw209 hw209 (by simp)).bigTm).consTm (x := r172) 0
   replace S := (S.consTm (x := r3) 3).frzTm 0 0
   exact zb (ob4 trivial trivial ⟨b202, O204, _, (fun z h => tl6 z (hZ z h)), hm2.keep rfl rfl tl6, Made.one (val := (fun (c : SlV) => c.v)) (ps := (fun (c : SlV) => [zu c ([r3, r172])])) s211 (vL List.mem_cons_self uY), hm4.keep rfl rfl tl6, hm6.keep rfl rfl tl6, hm7.keep rfl rfl tl6, hm8.keep rfl rfl tl6, hm9.keep rfl rfl tl6, hm10.keep rfl rfl tl6, (fun h => by rw [zH _ _ _ _ (by decide)]; exact hk11 (by rw [zn rfl] at h; exact h)), by rw [hO]; simp only [zn (L := L) (i := 3) (j := 11) rfl], S⟩)
  ·rintro L g v hL hcl hclo ⟨b202, O204, Z203, hZ, hm2, hm3, hm4, hm6, hm7, hm8, hm9, hm10, hk11, hO, S⟩ _
   obtain ⟨s178, he3, hp3⟩ := hm3 (hcl 3 (by kernel_rfl))
   replace S := (S.zneed (yT (l1 := [zu s178 ([r3, r172])]) hp3 hZ))
   obtain ⟨B214, MB214, SB214, back⟩ := S.sub [0] [] (O204)
   refine zr (zL xI (zM rfl (zM he3 rfl))) (by decide) (xH SB214 er179) ?_
   rintro _ w213 ⟨s215, rfl, S2⟩
   replace S := back _ _ _ _ _ S2 rfl rfl
   clear back S2 SB214
   exact zb (ob4 trivial trivial ⟨b202, O204, _, (fun z h => tl5 z (hZ z h)), hm2.keep rfl rfl tl5, hm3.keep rfl rfl tl5, Made.one (val := (fun (c : SlV) => Value.agg (Term.C (⟨r179.kind, r179.name, r179.other, r179.form, c⟩ : Term)).toArray)) (ps := (fun (c : SlV) => [zu c r179.sub])) s215 (vL List.mem_cons_self uY), hm6.keep rfl rfl tl5, hm7.keep rfl rfl tl5, hm8.keep rfl rfl tl5, hm9.keep rfl rfl tl5, hm10.keep rfl rfl tl5, (fun h => by rw [zH _ _ _ _ (by decide)]; exact hk11 (by rw [zn rfl] at h; exact h)), by rw [hO]; simp only [zn (L := L) (i := 4) (j := 11) rfl], S⟩)
  ·rintro L g v hL hcl hclo ⟨b202, O204, Z203, hZ, hm2, hm3, hm4, hm6, hm7, hm8, hm9, hm10, hk11, hO, S⟩ 
   have SR : St A N w v [oB b20 zy (Term.C (⟨r11.kind, r11.name, r11.other, r11.form, s14⟩ : Term)), oB b18 zy (Term.C (⟨r7.kind, r7.name, r7.other, r7.form, s10⟩ : Term)), oB b16 zy (Term.C (⟨r3.kind, r3.name, r3.other, r3.form, s6⟩ : Term)), oB b2 zy (Term.C (⟨0, ByteArray.empty, ByteArray.empty, 0, SlV.nil⟩ : Term))] (zu s14 r11.sub :: zu s10 r7.sub :: zu s6 r3.sub :: Z203) := by
    have S2 := S.zneed hZ
    rw [hO] at S2
    exact S2.drops
   refine wd (zl zE rfl ((SR.blk 1).all _ (Term.len _)) (Term.len _)) ?_
   exact zb (ob4 trivial rfl ⟨b202, O204, Z203, hZ, hm2.keep rfl rfl tl0, hm3.keep rfl rfl tl0, hm4.keep rfl rfl tl0, hm6.keep rfl rfl tl0, hm7.keep rfl rfl tl0, hm8.keep rfl rfl tl0, hm9.keep rfl rfl tl0, hm10.keep rfl rfl tl0, (fun h => by rw [zH _ _ _ _ (by decide)]; exact hk11 (by rw [zn rfl] at h; exact h)), by rw [hO]; simp only [zn (L := L) (i := 5) (j := 11) rfl], S⟩)
  ·rintro L g v hL hcl hclo ⟨b202, O204, Z203, hZ, hm2, hm3, hm4, hm6, hm7, hm8, hm9, hm10, hk11, hO, S⟩ 
   replace S := (S.zneed hZ)
   obtain ⟨B218, MB218, SB218, back⟩ := S.sub [] [] (O204)
   refine zr (zo vh) (by decide) (vd SB218 er183) ?_
   rintro _ w217 ⟨s219, rfl, S2⟩
   replace S := back _ _ _ _ _ S2 rfl rfl
   clear back S2 SB218
   exact zb (ob4 trivial trivial ⟨b202, O204, _, (fun z h => tl4 z (hZ z h)), hm2.keep rfl rfl tl4, hm3.keep rfl rfl tl4, hm4.keep rfl rfl tl4, Made.one (val := (fun (c : SlV) => Value.agg (Term.C (⟨r183.kind, r183.name, r183.other, r183.form, c⟩ : Term)).toArray)) (ps := (fun (c : SlV) => [zu c r183.sub])) s219 (vL List.mem_cons_self uY), hm7.keep rfl rfl tl4, hm8.keep rfl rfl tl4, hm9.keep rfl rfl tl4, hm10.keep rfl rfl tl4, (fun h => by rw [zH _ _ _ _ (by decide)]; exact hk11 (by rw [zn rfl] at h; exact h)), by rw [hO]; simp only [zn (L := L) (i := 6) (j := 11) rfl], S⟩)
  ·rintro L g v hL hcl hclo ⟨b202, O204, Z203, hZ, hm2, hm3, hm4, hm6, hm7, hm8, hm9, hm10, hk11, hO, S⟩ hv5 _
   obtain ⟨s186, he6, hp6⟩ := hm6 (hcl 6 (by kernel_rfl))
   replace S := (S.zneed (yT (l1 := [zu s186 r183.sub]) hp6 hZ))
   refine xB (C := Term.C) (l := [(⟨r7.kind, r7.name, r7.other, r7.form, s10⟩ : Term), (⟨r183.kind, r183.name, r183.other, r183.form, s186⟩ : Term)]) (vs := [.agg (Term.C (⟨r7.kind, r7.name, r7.other, r7.form, s10⟩ : Term)).toArray, .agg (Term.C (⟨r183.kind, r183.name, r183.other, r183.form, s186⟩ : Term)).toArray]) zP vw.zero (yh hv5 (yh he6 rfl)) rfl (fun a _ => Term.len a) (by decide) rfl (by decide) fun b221 w220 s222 hBw220 hw220 => ?_
   replace S := ((S.lit hBw220 hw220 (by simp)).bigTm).consTm (x := r183) 0
   replace S := (S.consTm (x := r7) 2).frzTm 0 0
   exact zb (ob4 trivial trivial ⟨b202, O204, _, (fun z h => tl6 z (hZ z h)), hm2.keep rfl rfl tl6, hm3.keep rfl rfl tl6, hm4.keep rfl rfl tl6, hm6.keep rfl rfl tl6, Made.one (val := (fun (c : SlV) => c.v)) (ps := (fun (c : SlV) => [zu c ([r7, r183])])) s222 (vL List.mem_cons_self uY), hm8.keep rfl rfl tl6, hm9.keep rfl rfl tl6, hm10.keep rfl rfl tl6, (fun h => by rw [zH _ _ _ _ (by decide)]; exact hk11 (by rw [zn rfl] at h; exact h)), by rw [hO]; simp only [zn (L := L) (i := 7) (j := 11) rfl], S⟩)
  ·rintro L g v hL hcl hclo ⟨b202, O204, Z203, hZ, hm2, hm3, hm4, hm6, hm7, hm8, hm9, hm10, hk11, hO, S⟩ _
   obtain ⟨s189, he7, hp7⟩ := hm7 (hcl 7 (by kernel_rfl))
   replace S := (S.zneed (yT (l1 := [zu s189 ([r7, r183])]) hp7 hZ))
   obtain ⟨B225, MB225, SB225, back⟩ := S.sub [0] [] (O204)
   refine zr (zL xI (zM rfl (zM he7 rfl))) (by decide) (xH SB225 er190) ?_
   rintro _ w224 ⟨s226, rfl, S2⟩
   replace S := back _ _ _ _ _ S2 rfl rfl
   clear back S2 SB225
   exact zb (ob4 trivial trivial ⟨b202, O204, _, (fun z h => tl5 z (hZ z h)), hm2.keep rfl rfl tl5, hm3.keep rfl rfl tl5, hm4.keep rfl rfl tl5, hm6.keep rfl rfl tl5, hm7.keep rfl rfl tl5, Made.one (val := (fun (c : SlV) => Value.agg (Term.C (⟨r190.kind, r190.name, r190.other, r190.form, c⟩ : Term)).toArray)) (ps := (fun (c : SlV) => [zu c r190.sub])) s226 (vL List.mem_cons_self uY), hm9.keep rfl rfl tl5, hm10.keep rfl rfl tl5, (fun h => by rw [zH _ _ _ _ (by decide)]; exact hk11 (by rw [zn rfl] at h; exact h)), by rw [hO]; simp only [zn (L := L) (i := 8) (j := 11) rfl], S⟩)
  ·rintro L g v hL hcl hclo ⟨b202, O204, Z203, hZ, hm2, hm3, hm4, hm6, hm7, hm8, hm9, hm10, hk11, hO, S⟩ hv0 _ _
   obtain ⟨s182, he4, hp4⟩ := hm4 (hcl 4 (by kernel_rfl))
   obtain ⟨s193, he8, hp8⟩ := hm8 (hcl 8 (by kernel_rfl))
   replace S := (S.zneed (yT (l1 := [zu s182 r179.sub]) hp4 (yT (l1 := [zu s193 r190.sub]) hp8 hZ)))
   refine xB (C := Term.C) (l := [(⟨r11.kind, r11.name, r11.other, r11.form, s14⟩ : Term), (⟨r179.kind, r179.name, r179.other, r179.form, s182⟩ : Term), (⟨r190.kind, r190.name, r190.other, r190.form, s193⟩ : Term)]) (vs := [.agg (Term.C (⟨r11.kind, r11.name, r11.other, r11.form, s14⟩ : Term)).toArray, .agg (Term.C (⟨r179.kind, r179.name, r179.other, r179.form, s182⟩ : Term)).toArray, .agg (Term.C (⟨r190.kind, r190.name, r190.other, r190.form, s193⟩ : Term)).toArray]) zP vw.zero (yh hv0 (yh he4 (yh he8 rfl))) rfl (fun a _ => Term.len a) (by decide) rfl (by decide) fun b228 w227 s229 hBw227 hw227 => ?_
   replace S := ((S.lit hBw227 hw227 (by simp)).bigTm).consTm (x := r190) 1
   replace S := ((S.consTm (x := r179) 0).consTm (x := r11) 2).frzTm 0 0
   exact zb (ob4 trivial trivial ⟨b202, O204, _, (fun z h => tl7 z (hZ z h)), hm2.keep rfl rfl tl7, hm3.keep rfl rfl tl7, hm4.keep rfl rfl tl7, hm6.keep rfl rfl tl7, hm7.keep rfl rfl tl7, hm8.keep rfl rfl tl7, Made.one (val := (fun (c : SlV) => c.v)) (ps := (fun (c : SlV) => [zu c ([r11, r179, r190])])) s229 (vL List.mem_cons_self uY), hm10.keep rfl rfl tl7, (fun h => by rw [zH _ _ _ _ (by decide)]; exact hk11 (by rw [zn rfl] at h; exact h)), by rw [hO]; simp only [zn (L := L) (i := 9) (j := 11) rfl], S⟩)
  ·rintro L g v hL hcl hclo ⟨b202, O204, Z203, hZ, hm2, hm3, hm4, hm6, hm7, hm8, hm9, hm10, hk11, hO, S⟩ _
   obtain ⟨s196, he9, hp9⟩ := hm9 (hcl 9 (by kernel_rfl))
   replace S := (S.zneed (yT (l1 := [zu s196 ([r11, r179, r190])]) hp9 hZ))
   obtain ⟨B232, MB232, SB232, back⟩ := S.sub [0] [] (O204)
   refine zr (zL xI (zM rfl (zM he9 rfl))) (by decide) (xH SB232 er197) ?_
   rintro _ w231 ⟨s233, rfl, S2⟩
   replace S := back _ _ _ _ _ S2 rfl rfl
   clear back S2 SB232
   exact zb (ob4 trivial trivial ⟨b202, O204, _, (fun z h => tl5 z (hZ z h)), hm2.keep rfl rfl tl5, hm3.keep rfl rfl tl5, hm4.keep rfl rfl tl5, hm6.keep rfl rfl tl5, hm7.keep rfl rfl tl5, hm8.keep rfl rfl tl5, hm9.keep rfl rfl tl5, Made.one (val := (fun (c : SlV) => Value.agg (Term.C (⟨r197.kind, r197.name, r197.other, r197.form, c⟩ : Term)).toArray)) (ps := (fun (c : SlV) => [zu c r197.sub])) s233 (vL List.mem_cons_self uY), (fun h => by rw [zH _ _ _ _ (by decide)]; exact hk11 (by rw [zn rfl] at h; exact h)), by rw [hO]; simp only [zn (L := L) (i := 10) (j := 11) rfl], S⟩)
  ·rintro L g v hL hcl hclo ⟨b202, O204, Z203, hZ, hm2, hm3, hm4, hm6, hm7, hm8, hm9, hm10, hk11, hO, S⟩ 
   have hl11 : L 11 = false := hL
   have hOP : ∃ P Y, P = [] ∧ Y = [oB b20 zy (Term.C (⟨r11.kind, r11.name, r11.other, r11.form, s14⟩ : Term)), oB b18 zy (Term.C (⟨r7.kind, r7.name, r7.other, r7.form, s10⟩ : Term)), oB b16 zy (Term.C (⟨r3.kind, r3.name, r3.other, r3.form, s6⟩ : Term)), oB b2 zy (Term.C (⟨0, ByteArray.empty, ByteArray.empty, 0, SlV.nil⟩ : Term))] ∧ O204 = P ++ ([] ++ Y) := ⟨_, _, rfl, rfl, by rw [hO]; simp only [hl11, cond_true, cond_false, List.nil_append, List.append_assoc, List.cons_append]⟩
   obtain ⟨P, Y, hP, hY, hPY⟩ := hOP
   rw [hPY] at S
   replace S := S
   refine xc uO (by decide) fun b235 w234 hw234 => ?_
   replace S := S.new hw234
   refine zb (ob4 trivial trivial ⟨b235, P ++ ([oB b235 zy (Term.C (⟨0, ByteArray.empty, ByteArray.empty, 0, SlV.nil⟩ : Term))] ++ Y), _, hZ, hm2.keep rfl rfl tl0, hm3.keep rfl rfl tl0, hm4.keep rfl rfl tl0, hm6.keep rfl rfl tl0, hm7.keep rfl rfl tl0, hm8.keep rfl rfl tl0, hm9.keep rfl rfl tl0, hm10.keep rfl rfl tl0, (fun _ => upd_same _ _ _), ?_, S.ins (P := [oB b235 zy (Term.C (⟨0, ByteArray.empty, ByteArray.empty, 0, SlV.nil⟩ : Term))])⟩)
   rw [hP, hY]; simp only [y5 (L := L) (i := 11), cond_true, cond_false, List.nil_append, List.append_assoc, List.cons_append]
  rintro L g w236 hLm ⟨b202, O204, Z203, hZ, hm2, hm3, hm4, hm6, hm7, hm8, hm9, hm10, hk11, hO, S⟩ hv237_0 hv237_1 _ _ _ hv237_5 _ _ _ _ _ _
  have hLt : ∀ j, j < 12 → L j = true := fun j hj => by rw [hLm]; exact decide_eq_true hj
  obtain ⟨s175, hv237_2, hp2⟩ := hm2 (hLt 2 (by decide))
  obtain ⟨s178, hv237_3, hp3⟩ := hm3 (hLt 3 (by decide))
  obtain ⟨s182, hv237_4, hp4⟩ := hm4 (hLt 4 (by decide))
  obtain ⟨s186, hv237_6, hp6⟩ := hm6 (hLt 6 (by decide))
  obtain ⟨s189, hv237_7, hp7⟩ := hm7 (hLt 7 (by decide))
  obtain ⟨s193, hv237_8, hp8⟩ := hm8 (hLt 8 (by decide))
  obtain ⟨s196, hv237_9, hp9⟩ := hm9 (hLt 9 (by decide))
  obtain ⟨s200, hv237_10, hp10⟩ := hm10 (hLt 10 (by decide))
  have hv237_11 := hk11 (hLt 11 (by decide))
  simp only [hLt 11 (by decide), cond_true, List.nil_append, List.cons_append] at hO
  rw [hO] at S
  replace S := S.pickZ (yT (l1 := [zu s175 r172.sub]) hp2 (yT (l1 := [zu s178 ([r3, r172])]) hp3 (yT (l1 := [zu s182 r179.sub]) hp4 (yT (l1 := [zu s186 r183.sub]) hp6 (yT (l1 := [zu s189 ([r7, r183])]) hp7 (yT (l1 := [zu s193 r190.sub]) hp8 (yT (l1 := [zu s196 ([r11, r179, r190])]) hp9 (yT (l1 := [zu s200 r197.sub]) hp10 hZ))))))))
  clear hp2 hp3 hp4 hp6 hp7 hp8 hp9 hp10 hZ hm2 hm3 hm4 hm6 hm7 hm8 hm9 hm10
  refine zJ zE hv237_11 hv237_10 (S.blk 0) (Term.len _) (by rw [Term.len]; decide) (Term.one _) (zV (Term.len _)) fun w238 B hw238 zw238 => ?_
  replace S := S.store 0 B hw238
  clear B
  refine zb (zd (za (wd (ze yw hv237_11 (o' := 1) rfl) ?_)))
  refine yJ xk rfl rfl (S.blk 0) (by rw [Term.len]; decide) rfl (Term.set_name _ _) fun w239 B hw239 zw239 => ?_
  replace S := S.store 0 B hw239
  clear B
  refine wd (ze vH hv237_11 (o' := 2) rfl) ?_
  refine yJ xk rfl rfl (S.blk 0) (by rw [Term.len]; decide) rfl (Term.set_other _ _) fun w240 B hw240 zw240 => ?_
  replace S := S.store 0 B hw240
  clear B
  refine zb (zd (za (wd (zl zE hv237_11 ((S.blk 0).all _ (Term.len _)) (Term.len _)) ?_)))
  refine xB (C := SC) (l := [(⟨#[97]⟩ : ByteArray), (⟨#[98]⟩ : ByteArray), (⟨#[99]⟩ : ByteArray)]) (vs := [.string (⟨#[97]⟩ : ByteArray), .string (⟨#[98]⟩ : ByteArray), .string (⟨#[99]⟩ : ByteArray)]) x9 ui.zero rfl rfl (fun _ _ => rfl) (by decide) rfl (by decide) fun b242 w241 s243 hBw241 hw241 => ?_
  replace S := S.lit hBw241 hw241 (by simp)
  obtain ⟨r244, er244, H⟩ := zp H
  replace S := S.frzS 0
  obtain ⟨B246, MB246, SB246, back⟩ := S.sub [8, 0] [] [oB b202 zy (Term.C (⟨r197.kind, (⟨#[100]⟩ : ByteArray), (⟨#[101]⟩ : ByteArray), r197.form, s200⟩ : Term)), oB b20 zy (Term.C (⟨r11.kind, r11.name, r11.other, r11.form, s14⟩ : Term)), oB b18 zy (Term.C (⟨r7.kind, r7.name, r7.other, r7.form, s10⟩ : Term)), oB b16 zy (Term.C (⟨r3.kind, r3.name, r3.other, r3.form, s6⟩ : Term)), oB b2 zy (Term.C (⟨0, ByteArray.empty, ByteArray.empty, 0, SlV.nil⟩ : Term))]
  refine zr (zo yM) (by decide) (yN (a0 := (⟨r197.kind, (⟨#[100]⟩ : ByteArray), (⟨#[101]⟩ : ByteArray), r197.form, r197.sub⟩ : PTerm)) SB246 er244) ?_
  rintro _ w245 ⟨s247, rfl, S2⟩
  replace S := back _ _ _ _ _ S2 rfl rfl
  clear back S2 SB246
  refine zJ zE rfl rfl (S.blk 4) (Term.len _) (by rw [Term.len]; decide) (Term.one _) (zV (Term.len _)) fun w248 B hw248 zw248 => ?_
  replace S := S.store 4 B hw248
  clear B
  refine zb (zw ?_)
  refine ⟨_, (zS (xK zE rfl ((S.blk 0).all _ (Term.len _)) (Term.len _))), ?_⟩
  replace S := S.arr [] [0]
  obtain rfl := Option.some.inj H
  exact ⟨s247, rfl, S⟩
 replace H := if_f hc171 H
 refine zB (zd (za (wd (zl zE rfl ((S.blk 2).all _ (Term.len _)) (Term.len _)) ?_)))
 refine xB (C := Term.C) (l := [(⟨r3.kind, r3.name, r3.other, r3.form, s6⟩ : Term)]) (vs := [.agg (Term.C (⟨r3.kind, r3.name, r3.other, r3.form, s6⟩ : Term)).toArray]) zP vw.zero rfl rfl (fun a _ => Term.len a) (by decide) rfl (by decide) fun b250 w249 s251 hBw249 hw249 => ?_
 replace S := ((S.lit hBw249 hw249 (by simp)).bigTm).consTm (x := r3) 2
 replace S := (S.frzTm 0 0).zs [0, 2, 3, 4]
 obtain ⟨r252, er252, H⟩ := zp H
 obtain ⟨B254, MB254, SB254, back⟩ := S.sub [0] [] [oB b20 zy (Term.C (⟨r11.kind, r11.name, r11.other, r11.form, s14⟩ : Term)), oB b18 zy (Term.C (⟨r7.kind, r7.name, r7.other, r7.form, s10⟩ : Term)), oB b16 zy (Term.C (⟨r3.kind, r3.name, r3.other, r3.form, s6⟩ : Term)), oB b2 zy (Term.C (⟨0, ByteArray.empty, ByteArray.empty, 0, SlV.nil⟩ : Term))]
 refine zr (zo xI) (by decide) (xH SB254 er252) ?_
 rintro _ w253 ⟨s255, rfl, S2⟩
 replace S := back _ _ _ _ _ S2 rfl rfl
 clear back S2 SB254
 refine xB (C := SC) (l := [(⟨#[97]⟩ : ByteArray)]) (vs := [.string (⟨#[97]⟩ : ByteArray)]) x9 ui.zero rfl rfl (fun _ _ => rfl) (by decide) rfl (by decide) fun b257 w256 s258 hBw256 hw256 => ?_
 replace S := S.lit hBw256 hw256 (by simp)
 obtain ⟨r259, er259, H⟩ := zp H
 replace S := S.frzS 0
 obtain ⟨B261, MB261, SB261, back⟩ := S.sub [1, 0] [] [oB b20 zy (Term.C (⟨r11.kind, r11.name, r11.other, r11.form, s14⟩ : Term)), oB b18 zy (Term.C (⟨r7.kind, r7.name, r7.other, r7.form, s10⟩ : Term)), oB b16 zy (Term.C (⟨r3.kind, r3.name, r3.other, r3.form, s6⟩ : Term)), oB b2 zy (Term.C (⟨0, ByteArray.empty, ByteArray.empty, 0, SlV.nil⟩ : Term))]
 refine zr (zo yM) (by decide) (yN (a0 := r252) SB261 er259) ?_
 rintro _ w260 ⟨s262, rfl, S2⟩
 replace S := back _ _ _ _ _ S2 rfl rfl
 clear back S2 SB261
 refine zJ zE rfl rfl (S.blk 3) (Term.len _) (by rw [Term.len]; decide) (Term.one _) (zV (Term.len _)) fun w263 B hw263 zw263 => ?_
 replace S := S.store 3 B hw263
 clear B
 refine zb (zw ?_)
 refine ⟨_, (zS (xK zE rfl ((S.blk 0).all _ (Term.len _)) (Term.len _))), ?_⟩
 replace S := S.arr [] [0]
 obtain rfl := Option.some.inj H
 exact ⟨s262, rfl, S⟩
theorem hilbert_Term_st {A : Nat → Prop} {N : Oth} {w : World} {a0 : Tb} {a_0 : Option Addr} {a1 : List Int} {s_1 : SlV} {a2 : List Ln} {s_2 : SlV} (S : St A N w w [oT a_0 a0] [fS 1 IC s_1 a1, fS 4 Ln.C s_2 a2, oPw]) {k : Nat} {r : Tb × PTerm × Int} (H : hilbert_Term.f k a0 a1 a2 = some r) :
  Calls PP F_hilbert_Term #[.pointer a_0, s_1.v, s_2.v] w fun e w' => ∃ v, e = .returned v ∧ (∃ so0 : SlV, v = .tuple #[.agg (Term.C (⟨r.2.1.kind, r.2.1.name, r.2.1.other, r.2.1.form, so0⟩ : Term)).toArray, .int .i64 r.2.2] ∧ St A N w w' [oT a_0 r.1] [zu so0 r.2.1.sub]) := by
 unfold hilbert_Term.f at H
 refine zA (n := 84) fn_hilbert_Term rfl rfl (by simp) (zd (za ?_))
 refine xc uO (by decide) fun b2 w1 hw1 => ?_
 replace S := S.new hw1
 refine wd (zh rfl) (zb (zd (zd (za (wd (zk rfl) (wd (zz rfl) (wd (zz rfl) ?_)))))))
 obtain ⟨r3, er3, H⟩ := zp H
 replace S := S.front 1
 obtain ⟨B5, MB5, SB5, back⟩ := S.calln 1 ((.z 0 rfl (.z 1 rfl .nil)))
 refine zr (zo uM) (by decide) (uJ SB5 er3) ?_
 rintro _ w4 ⟨rfl, S2⟩
 replace S := back _ _ _ _ S2 rfl
 clear back S2 SB5
 refine wd (zh rfl) (zb (zd (za (wd (zg rfl) (wd (xl rfl rfl) (zb ?_))))))
 refine zF rfl (fun hc6 => ?_) (fun hc6 => ?_)
 ·replace H := if_t hc6 H
  refine zd (za (wd (Does.to (v' := .agg (Term.C (⟨0, ByteArray.empty, ByteArray.empty, 0, SlV.nil⟩ : Term)).toArray) (xA (vs := []) jk rfl Bld.nil) rfl) (wd (zg rfl) ?_)))
  refine zJ zE rfl rfl (S.blk 1) (Term.len _) (by rw [Term.len]; decide) (Term.one _) (zV (Term.len _)) fun w7 B hw7 zw7 => ?_
  replace S := S.store 1 B hw7
  clear B
  refine wd (zh rfl) (zb (zw ?_))
  replace S := S.nilTm
  refine ⟨_, (xm (xK zE rfl ((S.blk 0).all _ (Term.len _)) (Term.len _)) (zf rfl)), ?_⟩
  replace S := S.arr [1] [0]
  obtain rfl := Option.some.inj H
  exact ⟨SlV.nil, rfl, S⟩
 replace H := if_f hc6 H
 refine zB (zd (zd (za (wd (zz rfl) (wd (xe zW rfl (S.rd 1)) (wd (kO rfl rfl) (zb ?_)))))))
 refine zF rfl (fun hc8 => ?_) (fun hc8 => ?_)
 ·replace H := if_t hc8 H
  refine zd (za (wd (Does.to (v' := .agg (Term.C (⟨0, ByteArray.empty, ByteArray.empty, 0, SlV.nil⟩ : Term)).toArray) (xA (vs := []) jk rfl Bld.nil) rfl) ?_))
  refine zJ zE rfl rfl (S.blk 1) (Term.len _) (by rw [Term.len]; decide) (Term.one _) (zV (Term.len _)) fun w9 B hw9 zw9 => ?_
  replace S := S.store 1 B hw9
  clear B
  refine wd (zh rfl) (zb (zw ?_))
  replace S := S.nilTm
  refine ⟨_, (xm (xK zE rfl ((S.blk 0).all _ (Term.len _)) (Term.len _)) (zf rfl)), ?_⟩
  replace S := S.arr [1] [0]
  obtain rfl := Option.some.inj H
  exact ⟨SlV.nil, rfl, S⟩
 replace H := if_f hc8 H
 refine zB (zd (za ?_))
 refine xc ze_func_int_string (by decide) fun b11 w10 hw10 => ?_
 replace S := S.new hw10
 refine yJ vn rfl rfl (S.blk 0) (by simp) rfl rfl fun w12 B hw12 zw12 => ?_
 replace S := S.store 0 B hw12
 clear B
 refine zb (zd (za (wd (zj vn rfl ((S.blk 0).cell rfl)) (wd (zz rfl) (wd (xe zW rfl (S.rd 1)) (wd (jy rfl rfl) ?_))))))
 obtain ⟨r13, er13, H⟩ := zp H
 obtain ⟨B15, MB15, SB15, back⟩ := S.calln 0 ((.z 2 rfl .nil))
 refine zr (j4 uq rfl) (by decide) (ur SB15 er13) ?_
 rintro _ w14 ⟨rfl, S2⟩
 replace S := back _ _ _ _ S2 rfl
 clear back S2 SB15
 obtain ⟨r16, er16, H⟩ := zp H
 obtain ⟨B18, MB18, SB18, back⟩ := S.sub [] [] [oB b11 xP [.func (.func xq) #[] #[]], oT a_0 r3.1, oB b2 zy (Term.C (⟨0, ByteArray.empty, ByteArray.empty, 0, SlV.nil⟩ : Term))]
 refine zr (zo vh) (by decide) (vd SB18 er16) ?_
 rintro _ w17 ⟨s19, rfl, S2⟩
 replace S := back _ _ _ _ _ S2 rfl rfl
 clear back S2 SB18
 refine xc uO (by decide) fun b21 w20 hw20 => ?_
 replace S := S.new hw20
 refine zJ zE rfl rfl (S.blk 0) (Term.len _) (by rw [Term.len]; decide) (Term.one _) (zV (Term.len _)) fun w22 B hw22 zw22 => ?_
 replace S := S.store 0 B hw22
 clear B
 refine zb (zd (zd (za (wd (zz rfl) ?_))))
 refine zr (zo uV) (by decide) (uU _ s_2) ?_
 rintro _ w23 ⟨c24, rfl, Bc24, hc24, Ec24⟩
 replace S := S.addZ (b := oB c24 yq [s_2.v]) (G := (· = c24)) Ec24 ⟨Bc24, fun _ => Iff.rfl⟩ (fun i hi => by rw [hi]; exact hc24)
 refine zb ?_
 refine zO ?_
 replace S := S.nilTm
 obtain ⟨o25, e25, Ho25⟩ := zp H
 clear H
 refine wc_rangeSt2 (xs := bwd a2) (enc := fun (x : Int × Ln) => Value.int .i64 x.1) (enc2 := fun (x : Int × Ln) => Value.agg (Ln.C x.2).toArray) (bd := (fun (x : Int × Ln) (s : PTerm) => hilbert_Term.b0 x.1 x.2 s)) (L := (fun (s : PTerm) (c : SlV) => [oB b21 zy (Term.C (⟨s.kind, s.name, s.other, s.form, c⟩ : Term)), oB b11 xP [.func (.func xq) #[] #[]], oT a_0 r3.1, oB b2 zy (Term.C (⟨0, ByteArray.empty, ByteArray.empty, 0, SlV.nil⟩ : Term))])) (Lr := (fun (_ : Empty) (_ : Unit) => [])) (Zf := (fun (s : PTerm) (c : SlV) => [zu SlV.nil ([]), oB c24 yq [s_2.v], zu c s.sub, fS 1 IC s_1 a1, fS 4 Ln.C s_2 a2, oPw])) (Zr := (fun (_ : Empty) (_ : Unit) => [])) s19 false 0 rfl uA (ug (S.len 4) c24) (by decide) (by decide) (fun N' s c W h => ⟨h.blkZ 1, h.rd 4⟩) S e25 ?_ ?_ ?_ ?_
 ·rintro ⟨i25, y25⟩ x25_0 s26 q25 N25 rd u25 H S
  replace S := S
  refine zd (za (wd (zh rfl) (zb (za ?_))))
  refine xc ze_Ln (by decide) fun b28 w27 hw27 => ?_
  replace S := S.new hw27
  refine zJ kD rfl rfl (S.blk 0) (Ln.len _) (by rw [Ln.len]; decide) (Ln.one _) (zV (Ln.len _)) fun w29 B hw29 zw29 => ?_
  replace S := S.store 0 B hw29
  clear B
  refine zb ?_
  refine ⟨rfl, _, _, S, fun M25 v25 S => ?_⟩
  replace S := S
  replace H : hilbert_Term.b0  i25 y25 x25_0 = some q25 := H
  unfold hilbert_Term.b0 at H
  try dsimp only at H
  refine zO (zd (za ?_))
  refine xc uO (by decide) fun b31 w30 hw30 => ?_
  replace S := S.new hw30
  refine zb (zd (zd (za (wd (ze jn rfl (o' := 0) rfl) (wd (zj yP rfl ((S.blk 1).cell (Ln.get_kind _))) (zb ?_))))))
  replace S := S.nilTm
  obtain ⟨o32, e32, Ho32⟩ := zp H
  replace H := e32; clear e32
  refine x7 [38, 39, 40, 41, 42, 43, 44, 45, 46, 47, 48, 49, 50, 51, 52, 53, 54, 55, 56, 57, 58, 59, 60, 61, 62, 63, 64, 65, 66] (fun fr W => ∃ s33 : SlV, St A M25 w W [oB b31 zy (Term.C (⟨o32.kind, o32.name, o32.other, o32.form, s33⟩ : Term)), oB b28 T_Ln (Ln.C y25), oB b21 zy (Term.C (⟨x25_0.kind, x25_0.name, x25_0.other, x25_0.form, s26⟩ : Term)), oB b11 xP [.func (.func xq) #[] #[]], oT a_0 r3.1, oB b2 zy (Term.C (⟨0, ByteArray.empty, ByteArray.empty, 0, SlV.nil⟩ : Term))] [zu s33 o32.sub, zu SlV.nil ([]), oB c24 yq [s_2.v], zu s26 x25_0.sub, fS 1 IC s_1 a1, fS 4 Ln.C s_2 a2, oPw]) ?_ ?_
  ·refine zO (zd (za (wd (zU rfl rfl) (wd (zm rfl) (zb ?_)))))
   refine zF rfl (fun hc34 => ?_) (fun hc34 => ?_)
   ·replace H := if_t hc34 H
    refine za (wd (ze yH rfl (o' := 1) rfl) (wd (zj zQ rfl ((S.blk 1).cell (Ln.get_form _))) ?_))
    obtain ⟨r35, er35, H⟩ := zp H
    obtain ⟨B37, MB37, SB37, back⟩ := S.calln 0 ((.z 6 rfl .nil))
    refine zr (zo ca_octet_Dec) (by decide) (octet_Dec_st SB37 er35) ?_
    rintro _ w36 ⟨rfl, S2⟩
    replace S := back _ _ _ _ S2 rfl
    clear back S2 SB37
    obtain ⟨hs38, H⟩ := xg H
    refine wd (does_concat rfl rfl (of_decide_eq_true hs38)) ?_
    obtain ⟨r39, er39, H⟩ := zp H
    obtain ⟨B41, MB41, SB41, back⟩ := S.sub [] [] [oB b31 zy (Term.C (⟨0, ByteArray.empty, ByteArray.empty, 0, SlV.nil⟩ : Term)), oB b28 T_Ln (Ln.C y25), oB b21 zy (Term.C (⟨x25_0.kind, x25_0.name, x25_0.other, x25_0.form, s26⟩ : Term)), oB b11 xP [.func (.func xq) #[] #[]], oT a_0 r3.1, oB b2 zy (Term.C (⟨0, ByteArray.empty, ByteArray.empty, 0, SlV.nil⟩ : Term))]
    refine zr (zo vh) (by decide) (vd SB41 er39) ?_
    rintro _ w40 ⟨s42, rfl, S2⟩
    replace S := back _ _ _ _ _ S2 rfl rfl
    clear back S2 SB41
    refine zJ zE rfl rfl (S.blk 0) (Term.len _) (by rw [Term.len]; decide) (Term.one _) (zV (Term.len _)) fun w43 B hw43 zw43 => ?_
    replace S := S.store 0 B hw43
    clear B
    refine zb ?_
    replace S := S.arr [0, 1, 2, 3, 4, 5] [0, 2, 3, 4, 5, 6, 7]
    obtain rfl := Option.some.inj H
    exact ⟨rfl, ((((((((Dif.refl _ _).upd rfl _).upd rfl _).upd rfl _).upd rfl _).upd rfl _).upd rfl _).upd rfl _), s42, S⟩
   ·replace H := if_f hc34 H
    refine zd (za (wd (zU rfl rfl) (wd (zm rfl) (zb ?_))))
    refine zF rfl (fun hc44 => ?_) (fun hc44 => ?_)
    ·replace H := if_t hc44 H
     obtain ⟨r47, er47, H⟩ := zp H
     obtain ⟨r50, er50, H⟩ := zp H
     refine uh 8 ⟨fun _ _ => True, fun _ _ _ => True, fun i v _ => match i with
      | 0 => v = Value.func (.func xq) #[] #[]
      | 1 => v = Value.pointer (some ⟨b28, 2, none⟩)
      | 2 => v = Value.int .i64 y25.a
      | 3 => v = Value.string r47
      | 5 => v = Value.func (.func xq) #[] #[]
      | 6 => v = Value.pointer (some ⟨b28, 3, none⟩)
      | 7 => v = Value.int .i64 y25.b
      | _ => True⟩ (fun L g v => ∃ Z54 : List OA, (∀ z ∈ [zu SlV.nil ([]), zu SlV.nil ([]), oB c24 yq [s_2.v], zu s26 x25_0.sub, fS 1 IC s_1 a1, fS 4 Ln.C s_2 a2, oPw], z ∈ Z54) ∧ Made L g Z54 4 59 (fun (c : SlV) => Value.agg (Term.C (⟨r50.kind, r50.name, r50.other, r50.form, c⟩ : Term)).toArray) (fun (c : SlV) => [zu c r50.sub]) ∧ St A M25 w v [oB b31 zy (Term.C (⟨0, ByteArray.empty, ByteArray.empty, 0, SlV.nil⟩ : Term)), oB b28 T_Ln (Ln.C y25), oB b21 zy (Term.C (⟨x25_0.kind, x25_0.name, x25_0.other, x25_0.form, s26⟩ : Term)), oB b11 xP [.func (.func xq) #[] #[]], oT a_0 r3.1, oB b2 zy (Term.C (⟨0, ByteArray.empty, ByteArray.empty, 0, SlV.nil⟩ : Term))] Z54) hmix (by kernel_rfl) (fun _ _ _ _ _ _ _ hv => hv) (fun g => ⟨_, fun _ h => h, Made.no, S.ext (Ext.drawn _)⟩) ⟨?_, ?_, ?_, ?_, ?_, ?_, ?_, ?_, trivial⟩ ?_
     ·rintro L g v hL hcl hclo ⟨Z54, hZ, hm4, S⟩ 
      refine wd (zj vn rfl ((S.blk 3).cell rfl)) ?_
      exact zb (ob4 trivial rfl ⟨_, hZ, hm4.keep rfl rfl tl0, S⟩)
     ·rintro L g v hL hcl hclo ⟨Z54, hZ, hm4, S⟩ 
      refine wd (ze zam rfl (o' := 2) rfl) ?_
      exact zb (ob4 trivial rfl ⟨_, hZ, hm4.keep rfl rfl tl0, S⟩)
     ·rintro L g v hL hcl hclo ⟨Z54, hZ, hm4, S⟩ hv1
      refine wd (zj zQ hv1 ((S.blk 1).cell (Ln.get_a _))) ?_
      exact zb (ob4 trivial rfl ⟨_, hZ, hm4.keep rfl rfl tl0, S⟩)
     ·rintro L g v hL hcl hclo ⟨Z54, hZ, hm4, S⟩ hv0 hv2
      replace S := (S.zneed hZ)
      obtain ⟨B58, MB58, SB58, back⟩ := S.calln 0 ((.z 6 rfl .nil))
      refine zr (does_callvg uq hv0 (zM hv2 rfl)) (by decide) (ur SB58 er47) ?_
      rintro _ w57 ⟨rfl, S2⟩
      replace S := back _ _ _ _ S2 rfl
      clear back S2 SB58
      exact zb (ob4 trivial rfl ⟨_, (fun z h => tl7 z (hZ z h)), hm4.keep rfl rfl tl7, S⟩)
     ·rintro L g v hL hcl hclo ⟨Z54, hZ, hm4, S⟩ hv3
      replace S := (S.zneed hZ)
      obtain ⟨B61, MB61, SB61, back⟩ := S.sub [] [] [oB b31 zy (Term.C (⟨0, ByteArray.empty, ByteArray.empty, 0, SlV.nil⟩ : Term)), oB b28 T_Ln (Ln.C y25), oB b21 zy (Term.C (⟨x25_0.kind, x25_0.name, x25_0.other, x25_0.form, s26⟩ : Term)), oB b11 xP [.func (.func xq) #[] #[]], oT a_0 r3.1, oB b2 zy (Term.C (⟨0, ByteArray.empty, ByteArray.empty, 0, SlV.nil⟩ : Term))]
      refine zr (zL vh (zM hv3 rfl)) (by decide) (vd SB61 er50) ?_
      rintro _ w60 ⟨s62, rfl, S2⟩
      replace S := back _ _ _ _ _ S2 rfl rfl
      clear back S2 SB61
      exact zb (ob4 trivial trivial ⟨_, (fun z h => tl8 z (hZ z h)), Made.one (val := (fun (c : SlV) => Value.agg (Term.C (⟨r50.kind, r50.name, r50.other, r50.form, c⟩ : Term)).toArray)) (ps := (fun (c : SlV) => [zu c r50.sub])) s62 (vL List.mem_cons_self uY), S⟩)
     ·rintro L g v hL hcl hclo ⟨Z54, hZ, hm4, S⟩ 
      refine wd (zj vn rfl ((S.blk 3).cell rfl)) ?_
      exact zb (ob4 trivial rfl ⟨_, hZ, hm4.keep rfl rfl tl0, S⟩)
     ·rintro L g v hL hcl hclo ⟨Z54, hZ, hm4, S⟩ 
      refine wd (ze kb rfl (o' := 3) rfl) ?_
      exact zb (ob4 trivial rfl ⟨_, hZ, hm4.keep rfl rfl tl0, S⟩)
     ·rintro L g v hL hcl hclo ⟨Z54, hZ, hm4, S⟩ hv6
      refine wd (zj zQ hv6 ((S.blk 1).cell (Ln.get_b _))) ?_
      exact zb (ob4 trivial rfl ⟨_, hZ, hm4.keep rfl rfl tl0, S⟩)
     rintro L g w63 hLm ⟨Z54, hZ, hm4, S⟩ hv64_0 hv64_1 hv64_2 hv64_3 _ hv64_5 hv64_6 hv64_7
     have hLt : ∀ j, j < 8 → L j = true := fun j hj => by rw [hLm]; exact decide_eq_true hj
     obtain ⟨s53, hv64_4, hp4⟩ := hm4 (hLt 4 (by decide))
     replace S := S.pickZ (yT (l1 := [zu s53 r50.sub]) hp4 hZ)
     clear hp4 hZ hm4
     obtain ⟨r65, er65, H⟩ := zp H
     obtain ⟨B67, MB67, SB67, back⟩ := S.calln 0 ((.z 7 rfl .nil))
     refine zr (does_callvg uq hv64_5 (zM hv64_7 rfl)) (by decide) (ur SB67 er65) ?_
     rintro _ w66 ⟨rfl, S2⟩
     replace S := back _ _ _ _ S2 rfl
     clear back S2 SB67
     obtain ⟨r68, er68, H⟩ := zp H
     obtain ⟨B70, MB70, SB70, back⟩ := S.sub [] [] [oB b31 zy (Term.C (⟨0, ByteArray.empty, ByteArray.empty, 0, SlV.nil⟩ : Term)), oB b28 T_Ln (Ln.C y25), oB b21 zy (Term.C (⟨x25_0.kind, x25_0.name, x25_0.other, x25_0.form, s26⟩ : Term)), oB b11 xP [.func (.func xq) #[] #[]], oT a_0 r3.1, oB b2 zy (Term.C (⟨0, ByteArray.empty, ByteArray.empty, 0, SlV.nil⟩ : Term))]
     refine zr (zo vh) (by decide) (vd SB70 er68) ?_
     rintro _ w69 ⟨s71, rfl, S2⟩
     replace S := back _ _ _ _ _ S2 rfl rfl
     clear back S2 SB70
     refine xB (C := Term.C) (l := [(⟨r50.kind, r50.name, r50.other, r50.form, s53⟩ : Term), (⟨r68.kind, r68.name, r68.other, r68.form, s71⟩ : Term)]) (vs := [.agg (Term.C (⟨r50.kind, r50.name, r50.other, r50.form, s53⟩ : Term)).toArray, .agg (Term.C (⟨r68.kind, r68.name, r68.other, r68.form, s71⟩ : Term)).toArray]) zP vw.zero (yh hv64_4 (yh rfl rfl)) rfl (fun a _ => Term.len a) (by decide) rfl (by decide) fun b73 w72 s74 hBw72 hw72 => ?_
     replace S := ((S.lit hBw72 hw72 (by simp)).bigTm).consTm (x := r68) 0
     replace S := ((S.consTm (x := r50) 1).frzTm 0 0).zs [0, 2, 3, 4, 5, 6, 7, 8, 9, 10]
     obtain ⟨r75, er75, H⟩ := zp H
     obtain ⟨B77, MB77, SB77, back⟩ := S.sub [0] [] [oB b31 zy (Term.C (⟨0, ByteArray.empty, ByteArray.empty, 0, SlV.nil⟩ : Term)), oB b28 T_Ln (Ln.C y25), oB b21 zy (Term.C (⟨x25_0.kind, x25_0.name, x25_0.other, x25_0.form, s26⟩ : Term)), oB b11 xP [.func (.func xq) #[] #[]], oT a_0 r3.1, oB b2 zy (Term.C (⟨0, ByteArray.empty, ByteArray.empty, 0, SlV.nil⟩ : Term))]
     refine zr (zo xI) (by decide) (xH SB77 er75) ?_
     rintro _ w76 ⟨s78, rfl, S2⟩
     replace S := back _ _ _ _ _ S2 rfl rfl
     clear back S2 SB77
     refine zJ zE rfl rfl (S.blk 0) (Term.len _) (by rw [Term.len]; decide) (Term.one _) (zV (Term.len _)) fun w79 B hw79 zw79 => ?_
     replace S := S.store 0 B hw79
     clear B
     refine zb ?_
     replace S := S.arr [0, 1, 2, 3, 4, 5] [0, 5, 6, 7, 8, 9, 10]
     obtain rfl := Option.some.inj H
     exact ⟨rfl, ((((((((((Dif.refl _ _).upd rfl _).upd rfl _).upd rfl _).upd rfl _).mask rfl _).upd rfl _).upd rfl _).upd rfl _).upd rfl _), s78, S⟩
    ·replace H := if_f hc44 H
     refine zd (za (wd (ze jn rfl (o' := 0) rfl) (wd (zj yP rfl ((S.blk 1).cell (Ln.get_kind _))) ?_)))
     obtain ⟨r80, er80, H⟩ := zp H
     obtain ⟨B82, MB82, SB82, back⟩ := S.sub [] [] [oB b31 zy (Term.C (⟨0, ByteArray.empty, ByteArray.empty, 0, SlV.nil⟩ : Term)), oB b28 T_Ln (Ln.C y25), oB b21 zy (Term.C (⟨x25_0.kind, x25_0.name, x25_0.other, x25_0.form, s26⟩ : Term)), oB b11 xP [.func (.func xq) #[] #[]], oT a_0 r3.1, oB b2 zy (Term.C (⟨0, ByteArray.empty, ByteArray.empty, 0, SlV.nil⟩ : Term))]
     refine zr (zo ca_hilbert_axiom) (by decide) (hilbert_axiom_st SB82 er80) ?_
     rintro _ w81 ⟨s83, rfl, S2⟩
     replace S := back _ _ _ _ _ S2 rfl rfl
     clear back S2 SB82
     refine xB (C := Term.C) (l := [(⟨r80.kind, r80.name, r80.other, r80.form, s83⟩ : Term)]) (vs := [.agg (Term.C (⟨r80.kind, r80.name, r80.other, r80.form, s83⟩ : Term)).toArray]) zP vw.zero rfl rfl (fun a _ => Term.len a) (by decide) rfl (by decide) fun b85 w84 s86 hBw84 hw84 => ?_
     replace S := ((S.lit hBw84 hw84 (by simp)).bigTm).consTm (x := r80) 0
     replace S := (S.frzTm 0 0).zs [0, 2, 3, 4, 5, 6, 7, 8, 9]
     obtain ⟨r87, er87, H⟩ := zp H
     obtain ⟨B89, MB89, SB89, back⟩ := S.sub [0] [] [oB b31 zy (Term.C (⟨0, ByteArray.empty, ByteArray.empty, 0, SlV.nil⟩ : Term)), oB b28 T_Ln (Ln.C y25), oB b21 zy (Term.C (⟨x25_0.kind, x25_0.name, x25_0.other, x25_0.form, s26⟩ : Term)), oB b11 xP [.func (.func xq) #[] #[]], oT a_0 r3.1, oB b2 zy (Term.C (⟨0, ByteArray.empty, ByteArray.empty, 0, SlV.nil⟩ : Term))]
     refine zr (zo xI) (by decide) (xH SB89 er87) ?_
     rintro _ w88 ⟨s90, rfl, S2⟩
     replace S := back _ _ _ _ _ S2 rfl rfl
     clear back S2 SB89
     refine zJ zE rfl rfl (S.blk 0) (Term.len _) (by rw [Term.len]; decide) (Term.one _) (zV (Term.len _)) fun w91 B hw91 zw91 => ?_
     replace S := S.store 0 B hw91
     clear B
     refine zb (za (wd (ze yH rfl (o' := 1) rfl) (wd (zj zQ rfl ((S.blk 1).cell (Ln.get_form _))) (wd (ze vi rfl (o' := 3) rfl) ?_))))
     refine yJ zQ rfl rfl (S.blk 0) (by rw [Term.len]; decide) rfl (Term.set_form _ _) fun w92 B hw92 zw92 => ?_
     replace S := S.store 0 B hw92
     clear B
     refine zb ?_
     replace S := S.arr [0, 1, 2, 3, 4, 5] [0, 4, 5, 6, 7, 8, 9]
     obtain rfl := Option.some.inj H
     exact ⟨rfl, (((((((((((((Dif.refl _ _).upd rfl _).upd rfl _).upd rfl _).upd rfl _).upd rfl _).upd rfl _).upd rfl _).upd rfl _).upd rfl _).upd rfl _).upd rfl _).upd rfl _), s90, S⟩
  rintro g93 u94 ⟨s33, S⟩
  have H := Ho32
  obtain ⟨r96, er96, H⟩ := zp H
  refine uh 6 ⟨fun _ _ => True, fun _ _ _ => True, fun i v _ => match i with
   | 0 => v = Value.func (.func xq) #[] #[]
   | 1 => v = Value.int .i64 i25
   | 2 => v = Value.string r96
   | 3 => v = Value.agg (Term.C (⟨o32.kind, o32.name, o32.other, o32.form, s33⟩ : Term)).toArray
   | 4 => v = Value.agg (Term.C (⟨x25_0.kind, x25_0.name, x25_0.other, x25_0.form, s26⟩ : Term)).toArray
   | _ => True⟩ (fun L g v => ∃ Z102 : List OA, (∀ z ∈ [zu s33 o32.sub, zu SlV.nil ([]), oB c24 yq [s_2.v], zu s26 x25_0.sub, fS 1 IC s_1 a1, fS 4 Ln.C s_2 a2, oPw], z ∈ Z102) ∧ Made L g Z102 5 72 (fun (c : SlV) => c.v) (fun (c : SlV) => [zu c ([o32, x25_0])]) ∧ St A M25 w v [oB b31 zy (Term.C (⟨o32.kind, o32.name, o32.other, o32.form, s33⟩ : Term)), oB b28 T_Ln (Ln.C y25), oB b21 zy (Term.C (⟨x25_0.kind, x25_0.name, x25_0.other, x25_0.form, s26⟩ : Term)), oB b11 xP [.func (.func xq) #[] #[]], oT a_0 r3.1, oB b2 zy (Term.C (⟨0, ByteArray.empty, ByteArray.empty, 0, SlV.nil⟩ : Term))] Z102) hmix (by kernel_rfl) (fun _ _ _ _ _ _ _ hv => hv) (fun g => ⟨_, fun _ h => h, Made.no, S.ext (Ext.drawn _)⟩) ⟨?_, ?_, ?_, ?_, ?_, ?_, trivial⟩ ?_
  ·rintro L g v hL hcl hclo ⟨Z102, hZ, hm5, S⟩ 
   refine wd (zj vn rfl ((S.blk 3).cell rfl)) ?_
   exact zb (ob4 trivial rfl ⟨_, hZ, hm5.keep rfl rfl tl0, S⟩)
  ·rintro L g v hL hcl hclo ⟨Z102, hZ, hm5, S⟩ 
   refine wd (zg rfl) ?_
   exact zb (ob4 trivial rfl ⟨_, hZ, hm5.keep rfl rfl tl0, S⟩)
  ·rintro L g v hL hcl hclo ⟨Z102, hZ, hm5, S⟩ hv0 hv1
   replace S := (S.zneed hZ)
   obtain ⟨B106, MB106, SB106, back⟩ := S.calln 0 ((.z 6 rfl .nil))
   refine zr (does_callvg uq hv0 (zM hv1 rfl)) (by decide) (ur SB106 er96) ?_
   rintro _ w105 ⟨rfl, S2⟩
   replace S := back _ _ _ _ S2 rfl
   clear back S2 SB106
   exact zb (ob4 trivial rfl ⟨_, (fun z h => tl7 z (hZ z h)), hm5.keep rfl rfl tl7, S⟩)
  ·rintro L g v hL hcl hclo ⟨Z102, hZ, hm5, S⟩ 
   refine wd (zl zE rfl ((S.blk 0).all _ (Term.len _)) (Term.len _)) ?_
   exact zb (ob4 trivial rfl ⟨_, hZ, hm5.keep rfl rfl tl0, S⟩)
  ·rintro L g v hL hcl hclo ⟨Z102, hZ, hm5, S⟩ 
   refine wd (zl zE rfl ((S.blk 2).all _ (Term.len _)) (Term.len _)) ?_
   exact zb (ob4 trivial rfl ⟨_, hZ, hm5.keep rfl rfl tl0, S⟩)
  ·rintro L g v hL hcl hclo ⟨Z102, hZ, hm5, S⟩ hv3 hv4
   replace S := (S.zneed hZ)
   refine xB (C := Term.C) (l := [(⟨o32.kind, o32.name, o32.other, o32.form, s33⟩ : Term), (⟨x25_0.kind, x25_0.name, x25_0.other, x25_0.form, s26⟩ : Term)]) (vs := [.agg (Term.C (⟨o32.kind, o32.name, o32.other, o32.form, s33⟩ : Term)).toArray, .agg (Term.C (⟨x25_0.kind, x25_0.name, x25_0.other, x25_0.form, s26⟩ : Term)).toArray]) zP vw.zero (yh hv3 (yh hv4 rfl)) rfl (fun a _ => Term.len a) (by decide) rfl (by decide) fun b108 w107 s109 hBw107 hw107 => ?_
   replace S := ((S.lit hBw107 hw107 (by simp)).bigTm).consTm (x := x25_0) 3
   replace S := (S.consTm (x := o32) 0).frzTm 0 0
   exact zb (ob4 trivial trivial ⟨_, (fun z h => tl9 z (hZ z h)), Made.one (val := (fun (c : SlV) => c.v)) (ps := (fun (c : SlV) => [zu c ([o32, x25_0])])) s109 (vL List.mem_cons_self uY), S⟩)
  rintro L g w110 hLm ⟨Z102, hZ, hm5, S⟩ hv111_0 hv111_1 hv111_2 hv111_3 hv111_4 _
  have hLt : ∀ j, j < 6 → L j = true := fun j hj => by rw [hLm]; exact decide_eq_true hj
  obtain ⟨s101, hv111_5, hp5⟩ := hm5 (hLt 5 (by decide))
  replace S := S.pickZ (yT (l1 := [zu s101 ([o32, x25_0])]) hp5 hZ)
  clear hp5 hZ hm5
  refine wd (Does.to (v' := .agg (Term.C (⟨12, r96, ByteArray.empty, 0, s101⟩ : Term)).toArray) (xA (vs := [(0, .int .i64 12), (1, .string r96), (4, s101.v)]) jk (yh rfl (yh hv111_2 (yh hv111_5 rfl))) (Bld.one rfl rfl (by rw [Term.len]; decide) (Term.set_kind _ _) (Bld.one rfl rfl (by rw [Term.len]; decide) (Term.set_name _ _) (Bld.one rfl (SlV.one _ _ rfl) (by rw [Term.len]; decide) (Term.set_sub _ _) Bld.nil)))) rfl) ?_
  refine zJ zE rfl rfl (S.blk 2) (Term.len _) (by rw [Term.len]; decide) (Term.one _) (zV (Term.len _)) fun w112 B hw112 zw112 => ?_
  replace S := S.store 2 B hw112
  clear B
  refine zb ?_
  replace S := S.arr [0, 3, 4, 5] [2, 3, 0, 5, 6, 7]
  obtain rfl := Option.some.inj H
  exact ⟨_, rfl, s101, S⟩
 ·rintro s25 s114 B25 w113 rfl S hB25
  replace S := S
  have H := Ho25
  dsimp only [fin] at H
  refine zd (zd (za (wd (zl zE rfl ((S.blk 0).all _ (Term.len _)) (Term.len _)) ?_)))
  obtain ⟨r115, er115, H⟩ := zp H
  obtain ⟨B117, MB117, SB117, back⟩ := S.calln 0 ((.z 2 rfl .nil))
  refine zr (zo ca_term_Size) (by decide) (term_Size_st (a0 := s25) SB117 er115) ?_
  rintro _ w116 ⟨rfl, S2⟩
  replace S := back _ _ _ _ S2 rfl
  clear back S2 SB117
  refine wd (kO rfl rfl) (wd (zG rfl) ?_)
  refine wg (fun hg => zl zE rfl ((S.blk 0).all _ (Term.len _)) (Term.len _)) ?_
  obtain ⟨r118, er118, H⟩ := zp H
  refine ya (j := 3) (pol := false) rfl rfl rfl (by decide) (fun hg => zL ca_term_Deep (zM (zt hg) rfl)) (by decide) (fun hg => (have ⟨M, SS⟩ := S.lend ((.z 2 rfl .nil)); quiet (term_Deep_st (a0 := s25) SS (if_t (by simpa using hg) er118)) (fun v w' h => ⟨h.1, _, _, h.2⟩))) fun w119 hw119 => ?_
  replace S := S.ext hw119
  refine wg (fun hg => kO (zt hg) rfl) (wd (xD rfl (fun hp => (zt (xy hp)))) (zb ?_))
  refine zF rfl (fun hc120 => ?_) (fun hc120 => ?_)
  ·replace H := if_t hc120 H
   refine zd (za (wd (Does.to (v' := .agg (Term.C (⟨0, ByteArray.empty, ByteArray.empty, 0, SlV.nil⟩ : Term)).toArray) (xA (vs := []) jk rfl Bld.nil) rfl) ?_))
   refine zJ zE rfl rfl (S.blk 3) (Term.len _) (by rw [Term.len]; decide) (Term.one _) (zV (Term.len _)) fun w121 B hw121 zw121 => ?_
   replace S := S.store 3 B hw121
   clear B
   refine wd (zh rfl) (zb (zw ?_))
   refine end1 (.inl rfl) (S.take hB25).1 fun w122 hcw122 => ?_
   replace S := ((S.take hB25).2 _ hcw122).nilTm
   refine ⟨_, (xm (xK zE rfl ((S.blk 0).all _ (Term.len _)) (Term.len _)) (zf rfl)), ?_⟩
   replace S := S.arr [3] [0]
   obtain rfl := Option.some.inj H
   exact ⟨SlV.nil, rfl, S⟩
  replace H := if_f hc120 H
  refine zB (zd (za (wd (zl zE rfl ((S.blk 0).all _ (Term.len _)) (Term.len _)) ?_)))
  refine zJ zE rfl rfl (S.blk 3) (Term.len _) (by rw [Term.len]; decide) (Term.one _) (zV (Term.len _)) fun w123 B hw123 zw123 => ?_
  replace S := S.store 3 B hw123
  clear B
  refine wd (zh rfl) (zb (zw ?_))
  refine end1 (.inl rfl) (S.take hB25).1 fun w124 hcw124 => ?_
  replace S := (S.take hB25).2 _ hcw124
  refine ⟨_, (xm (xK zE rfl ((S.blk 0).all _ (Term.len _)) (Term.len _)) (zf rfl)), ?_⟩
  replace S := S.arr [3] [2]
  obtain rfl := Option.some.inj H
  exact ⟨s114, rfl, S⟩
 ·intro r; exact r.elim
 ·intro h; cases h
end Go.Proofs.YtflieamjacclnaaGreatDoor
end
section
namespace Go.Proofs.YtflieamjacclnaaGreatDoor
open Gw Go.RowKit
set_option maxHeartbeats 4000000
set_option maxRecDepth 20000
theorem formula_Table_Atom_st {A : Nat → Prop} {N : Oth} {w : World} {a0 : Tb} {a_0 : Option Addr} {a1 : ByteArray} (S : St A N w w [oT a_0 a0] []) {r : Tb × Int × Int} (H : formula_Table_Atom.f a0 a1 = some r) :
  Calls PP kh #[.pointer a_0, .string a1] w fun e w' => ∃ v, e = .returned v ∧ (v = .tuple #[.int .i64 r.2.1, .int .i64 r.2.2] ∧ St A N w w' [oT a_0 r.1] []) := by
 unfold formula_Table_Atom.f at H
 refine zA (n := 12) fn_formula_Table_Atom rfl rfl (by simp) (zd (za (wd (zh rfl) (wd (zh rfl) (zb (zd (za ?_)))))))
 refine wd (zk rfl) (wd (xr rfl) (wd (yl bu_Nd (Bld.one rfl rfl (by rw [Nd.len]; decide) (Nd.set_kind _ _) (Bld.one rfl rfl (by rw [Nd.len]; decide) (Nd.set_name _ _) Bld.nil))) ?_))
 obtain ⟨r1, er1, H⟩ := zp H
 obtain ⟨B3, MB3, SB3, back⟩ := S.calln 1 ((.nil))
 refine zr (zo vE) (by decide) (uF SB3 er1) ?_
 rintro _ w2 ⟨rfl, S2⟩
 replace S := back _ _ _ _ S2 rfl
 clear back S2 SB3
 refine wd (zq rfl rfl) (wd (zq rfl rfl) (wd (zh rfl) (wd (zh rfl) (zb (zw ?_)))))
 refine ⟨_, (xm (zf rfl) (zf rfl)), ?_⟩
 obtain rfl := Option.some.inj H
 exact ⟨rfl, S⟩
theorem uc {A : Nat → Prop} {N : Oth} {w : World} {a0 : Int} (S : St A N w w [] []) {r : Int} (H : law16_num.f a0 = some r) :
  Calls PP F_law16_num #[.int .i64 a0] w fun e w' => ∃ v, e = .returned v ∧ (v = .int .i64 r ∧ St A N w w' [] []) := by
 unfold law16_num.f at H
 refine zA (n := 4) fn_law16_num rfl rfl (by simp) (zd (za (wd (zh rfl) (zb (zd (za (wd (zg rfl) ?_)))))))
 refine wd (zh rfl) (zb (zw ?_))
 refine ⟨_, (zS (zf rfl)), ?_⟩
 obtain rfl := Option.some.inj H
 exact ⟨rfl, S⟩
theorem ref12_Same_gst {rec_ref12_Same : PTerm → PTerm → Option Bool} (hrec_ref12_Same : ∀ {A : Nat → Prop} {N : Oth} {w : World} {a0 : PTerm} {s_0 : SlV} {a1 : PTerm} {s_1 : SlV} (S : St A N w w [] [zu s_0 a0.sub, zu s_1 a1.sub]) {r : Bool} (H : rec_ref12_Same a0 a1 = some r), Calls PP jA #[.agg (Term.C (⟨a0.kind, a0.name, a0.other, a0.form, s_0⟩ : Term)).toArray, .agg (Term.C (⟨a1.kind, a1.name, a1.other, a1.form, s_1⟩ : Term)).toArray] w fun e w' => ∃ v, e = .returned v ∧ (v = .bool r ∧ St A N w w' [] [])) {A : Nat → Prop} {N : Oth} {w : World} {a0 : PTerm} {s_0 : SlV} {a1 : PTerm} {s_1 : SlV} (S : St A N w w [] [zu s_0 a0.sub, zu s_1 a1.sub]) {k : Nat} {r : Bool} (H : ref12_Same.g rec_ref12_Same k a0 a1 = some r) :
  Calls PP jA #[.agg (Term.C (⟨a0.kind, a0.name, a0.other, a0.form, s_0⟩ : Term)).toArray, .agg (Term.C (⟨a1.kind, a1.name, a1.other, a1.form, s_1⟩ : Term)).toArray] w fun e w' => ∃ v, e = .returned v ∧ (v = .bool r ∧ St A N w w' [] []) := by
 unfold ref12_Same.g at H
 refine zA (n := 60) fn_ref12_Same rfl rfl (by simp) (zd (za ?_))
 refine zY rfl (by decide) fun b2 w1 hw1 => ?_
 replace S := S.new hw1
 refine zY rfl (by decide) fun b4 w3 hw3 => ?_
 replace S := S.new hw3
 refine wd (zm rfl) (zb (zd (zd (za (wd (ze vy rfl (o' := 0) rfl) (wd (zj yR rfl ((S.blk 1).cell (Term.get_kind _))) (wd (ze vy rfl (o' := 0) rfl) ?_)))))))
 refine wd (zj yR rfl ((S.blk 0).cell (Term.get_kind _))) (wd (xl rfl rfl) (wd (zG rfl) ?_))
 refine wg (fun hg => ze yw rfl (o' := 1) rfl) ?_
 refine wg (fun hg => zj xk (zt hg) ((S.blk 1).cell (Term.get_name _))) ?_
 refine wg (fun hg => ze yw rfl (o' := 1) rfl) ?_
 refine wg (fun hg => zj xk (zt hg) ((S.blk 0).cell (Term.get_name _))) ?_
 refine wg (fun hg => kg (zt hg) (zt hg)) (wd (xD rfl (fun hp => (zt (xy hp)))) (wd (zG rfl) ?_))
 refine wg (fun hg => ze vH rfl (o' := 2) rfl) ?_
 refine wg (fun hg => zj xk (zt hg) ((S.blk 1).cell (Term.get_other _))) ?_
 refine wg (fun hg => ze vH rfl (o' := 2) rfl) ?_
 refine wg (fun hg => zj xk (zt hg) ((S.blk 0).cell (Term.get_other _))) ?_
 refine wg (fun hg => kg (zt hg) (zt hg)) (wd (xD rfl (fun hp => (zt (xy hp)))) (wd (zG rfl) ?_))
 refine wg (fun hg => ze vi rfl (o' := 3) rfl) ?_
 refine wg (fun hg => zj zQ (zt hg) ((S.blk 1).cell (Term.get_form _))) ?_
 refine wg (fun hg => ze vi rfl (o' := 3) rfl) ?_
 refine wg (fun hg => zj zQ (zt hg) ((S.blk 0).cell (Term.get_form _))) ?_
 refine wg (fun hg => xl (zt hg) (zt hg)) (wd (xD rfl (fun hp => (zt (xy hp)))) (wd (zG rfl) ?_))
 refine wg (fun hg => ze xj rfl (o' := 4) rfl) ?_
 refine wg (fun hg => zj xd (zt hg) ((S.blk 1).cell (Term.get_sub _))) ?_
 refine wg (fun hg => does_lenF zP (zt hg) (S.onZ 0)) ?_
 refine wg (fun hg => ze xj rfl (o' := 4) rfl) ?_
 refine wg (fun hg => zj xd (zt hg) ((S.blk 0).cell (Term.get_sub _))) ?_
 refine wg (fun hg => does_lenF zP (zt hg) (S.onZ 1)) ?_
 refine wg (fun hg => xl (zt hg) (zt hg)) (wd (xD rfl (fun hp => (zt (xy hp)))) (zb ?_))
 refine zF rfl (fun hc5 => ?_) (fun hc5 => ?_)
 ·replace H := if_t hc5 H
  refine zd (za (wd (zm rfl) (zb (zw ?_))))
  refine ⟨_, (zS (zf rfl)), ?_⟩
  replace S := S.arr [] []
  obtain rfl := Option.some.inj H
  exact ⟨rfl, S⟩
 replace H := if_f hc5 H
 refine zB (zd (zd (za (wd (zh rfl) (zb ?_)))))
 obtain ⟨o6, e6, Ho6⟩ := zp H
 clear H
 refine x7 [4, 5, 41, 42, 43, 44, 45, 46, 47, 48, 49, 50, 51, 52, 53, 54, 55, 56, 57, 58, 59] (fun fr W => ∃ s6 : Int, o6 = .inl s6 ∧ fr 5 = .int .i64 s6 ∧ St A N w W [oB b4 zy (Term.C (⟨a1.kind, a1.name, a1.other, a1.form, s_1⟩ : Term)), oB b2 zy (Term.C (⟨a0.kind, a0.name, a0.other, a0.form, s_0⟩ : Term))] [zu s_0 a0.sub, zu s_1 a1.sub]) ?_ ?_
 ·refine zO ?_
  refine xW (α := Nat × Int) [4, 5, 41, 42, 43, 44, 45, 46, 47, 48, 49, 50, 51, 52, 53, 54, 55, 56, 57, 58, 59] (fun x fr W => iter (fun s => ref12_Same.b0 a0 a1 rec_ref12_Same s) x.1 x.2 = some o6 ∧ fr 5 = .int .i64 (x.2) ∧ St A N w W [oB b4 zy (Term.C (⟨a1.kind, a1.name, a1.other, a1.form, s_1⟩ : Term)), oB b2 zy (Term.C (⟨a0.kind, a0.name, a0.other, a0.form, s_0⟩ : Term))] [zu s_0 a0.sub, zu s_1 a1.sub]) (fun x => x.1) (k, 0) ⟨(by dsimp only; exact e6), rfl, S⟩ ?_
  rintro ⟨m6, x6_0⟩ g6 u6 ⟨e6, q6_5, S⟩
  try dsimp only at e6
  try dsimp only at S
  try dsimp only at q6_5
  obtain ⟨m6, rfl⟩ : ∃ m, m6 = m + 1 := ⟨m6 - 1, by cases m6 with | zero => cases e6 | succ m => rfl⟩
  obtain ⟨q6, H, e6⟩ := iter_s e6
  unfold ref12_Same.b0 at H
  try dsimp only at H
  refine zd (zd (za (wd (zg q6_5) (wd (ze xj rfl (o' := 4) rfl) (wd (zj xd rfl ((S.blk 1).cell (Term.get_sub _))) (wd (does_lenF zP rfl (S.onZ 0)) (wd (xU rfl rfl) (zb ?_))))))))
  refine zF rfl (fun hc7 => ?_) (fun hc7 => ?_)
  rotate_left
  ·replace H := if_f hc7 H
   refine yp ?_
   obtain rfl := Option.some.inj H
   exact ⟨rfl, ((((((Dif.self _ _ _).upd rfl _).upd rfl _).upd rfl _).upd rfl _).upd rfl _), x6_0, e6, q6_5, S⟩
  replace H := if_t hc7 H
  refine zB (zd ?_)
  refine zO (zd ?_)
  refine yf 10 (Ext u6) hmix (by kernel_rfl) (by kernel_rfl) (Ext.drawn _) (zx (fun v K => ze xj rfl (o' := 4) rfl) (zx (fun v K => zj xd rfl (((S.ext K).blk 1).cell (Term.get_sub _))) (zx (fun v K => zg q6_5) ?_)))
  obtain ⟨hi8, H⟩ := xg H
  refine zx (fun v K => does_indexF zP rfl rfl ((S.ext K).onZ 0) (zI hi8).1 (zI hi8).2) ?_
  obtain ⟨s9, hc10, S⟩ := S.viewTerm 0 (zI hi8)
  replace S := S
  refine zx (fun v K => zl zE rfl (hc10.chg K (fun x => x)) (Term.len _)) (zx (fun v K => ze xj rfl (o' := 4) rfl) (zx (fun v K => zj xd rfl (((S.ext K).blk 0).cell (Term.get_sub _))) (zx (fun v K => zg q6_5) ?_)))
  obtain ⟨hi11, H⟩ := xg H
  refine zx (fun v K => does_indexF zP rfl rfl ((S.ext K).onZ 2) (zI hi11).1 (zI hi11).2) ?_
  obtain ⟨s12, hc13, S⟩ := S.viewTerm 2 (zI hi11)
  replace S := S
  refine zx (fun v K => zl zE rfl (hc13.chg K (fun x => x)) (Term.len _)) ?_
  refine y9 fun w14 K => ?_
  replace S := S.ext K
  clear K
  obtain ⟨r15, er15, H⟩ := zp H
  obtain ⟨B17, MB17, SB17, back⟩ := S.calln 0 ((.z 1 rfl (.z 0 rfl .nil)))
  refine zr (zo ca_ref12_Same) (by decide) (hrec_ref12_Same (a0 := (at_ PTerm.z a0.sub x6_0)) (a1 := (at_ PTerm.z a1.sub x6_0)) SB17 er15) ?_
  rintro _ w16 ⟨rfl, S2⟩
  replace S := back _ _ _ _ S2 rfl
  clear back S2 SB17
  refine wd (xf rfl) (zb ?_)
  refine zF rfl (fun hc18 => ?_) (fun hc18 => ?_)
  ·replace H := if_t hc18 H
   refine zd (za (wd (zm rfl) (zb (zw ?_))))
   refine ⟨_, (zS (zf rfl)), ?_⟩
   replace S := S.arr [] []
   obtain rfl := Option.some.inj H
   obtain rfl := e6
   obtain rfl := jb Ho6
   exact ⟨rfl, S⟩
  replace H := if_f hc18 H
  refine zB (za (wd (zg q6_5) (wd (vT rfl rfl) (wd (zh rfl) (zb ?_)))))
  replace S := S.arr [0, 1] [2, 3]
  obtain rfl := Option.some.inj H
  exact ⟨rfl, (((((((((((((((((((((Dif.self _ _ _).upd rfl _).upd rfl _).upd rfl _).upd rfl _).upd rfl _).upd rfl _).upd rfl _).upd rfl _).upd rfl _).upd rfl _).upd rfl _).upd rfl _).upd rfl _).upd rfl _).upd rfl _).upd rfl _).upd rfl _).upd rfl _).upd rfl _).upd rfl _), (m6, IntKind.i64.wrap (x6_0 + 1)), ⟨e6, rfl, S⟩, by dsimp only; omega⟩
 rintro g19 u20 ⟨s6, rfl, p6_5, S⟩
 have H := Ho6
 dsimp only [aft] at H
 refine zd (za (wd (zm rfl) (zb (zw ?_))))
 refine ⟨_, (zS (zf rfl)), ?_⟩
 replace S := S.arr [] []
 obtain rfl := Option.some.inj H
 exact ⟨rfl, S⟩
theorem ref12_Same_st {A : Nat → Prop} {N : Oth} {w : World} {a0 : PTerm} {s_0 : SlV} {a1 : PTerm} {s_1 : SlV} (S : St A N w w [] [zu s_0 a0.sub, zu s_1 a1.sub]) {k : Nat} {r : Bool} (H : ref12_Same.f k a0 a1 = some r) :
  Calls PP jA #[.agg (Term.C (⟨a0.kind, a0.name, a0.other, a0.form, s_0⟩ : Term)).toArray, .agg (Term.C (⟨a1.kind, a1.name, a1.other, a1.form, s_1⟩ : Term)).toArray] w fun e w' => ∃ v, e = .returned v ∧ (v = .bool r ∧ St A N w w' [] []) := by
 have main : ∀ (k : Nat) {A : Nat → Prop} {N : Oth} {w : World} {a0 : PTerm} {s_0 : SlV} {a1 : PTerm} {s_1 : SlV} (S : St A N w w [] [zu s_0 a0.sub, zu s_1 a1.sub]) {r : Bool} (H : ref12_Same.f k a0 a1 = some r), Calls PP jA #[.agg (Term.C (⟨a0.kind, a0.name, a0.other, a0.form, s_0⟩ : Term)).toArray, .agg (Term.C (⟨a1.kind, a1.name, a1.other, a1.form, s_1⟩ : Term)).toArray] w fun e w' => ∃ v, e = .returned v ∧ (v = .bool r ∧ St A N w w' [] []) := by
  intro k
  induction k with
  | zero => intro A N w a0 s_0 a1 s_1 S r H; cases H
  | succ k ih => intro A N w a0 s_0 a1 s_1 S r H; exact ref12_Same_gst ih S H
 exact main k S H
theorem ref16_Lines_st {A : Nat → Prop} {N : Oth} {w : World} {a0 : List Ln} {s_0 : SlV} {a1 : List Ln} {s_1 : SlV} (S : St A N w w [] [fS 4 Ln.C s_0 a0, fS 4 Ln.C s_1 a1]) {r : Bool} (H : ref16_Lines.f a0 a1 = some r) :
  Calls PP F_ref16_Lines #[s_0.v, s_1.v] w fun e w' => ∃ v, e = .returned v ∧ (v = .bool r ∧ St A N w w' [] []) := by
 unfold ref16_Lines.f at H
 refine zA (n := 26) fn_ref16_Lines rfl rfl (by simp) (zd (za (wd (zm rfl) (zb (zd (zd (za (wd (zz rfl) ?_))))))))
 refine wd (xe zW rfl (S.rd 0)) (wd (zz rfl) (wd (xe zW rfl (S.rd 1)) (wd (xl rfl rfl) (zb ?_))))
 refine zF rfl (fun hc1 => ?_) (fun hc1 => ?_)
 ·replace H := if_t hc1 H
  refine zd (za (wd (zm rfl) (zb (zw ?_))))
  refine ⟨_, (zS (zf rfl)), ?_⟩
  replace S := S.arr [] []
  obtain rfl := Option.some.inj H
  exact ⟨rfl, S⟩
 replace H := if_f hc1 H
 refine zB (zd (zd (za (wd (zh rfl) (zb ?_)))))
 obtain ⟨o2, e2, Ho2⟩ := zp H
 clear H
 refine x7 [4, 5, 11, 12, 13, 14, 15, 16, 17, 18, 19, 20, 21, 22, 23, 24, 25] (fun fr W => ∃ s2 : Unit, o2 = .inl s2 ∧ St A N w W [] [fS 4 Ln.C s_0 a0, fS 4 Ln.C s_1 a1]) ?_ ?_
 ·refine zO ?_
  refine xW (α := Nat × Int × Unit) [4, 5, 11, 12, 13, 14, 15, 16, 17, 18, 19, 20, 21, 22, 23, 24, 25] (fun x fr W => (x.1 : Int) = (a0.length : Int) - x.2.1 ∧ 0 ≤ x.2.1 ∧ forN (fun i s => ref16_Lines.b0 a1 a0 i) x.1 x.2.1 x.2.2 = some o2 ∧ fr 5 = .int .i64 x.2.1 ∧ St A N w W [] [fS 4 Ln.C s_0 a0, fS 4 Ln.C s_1 a1]) (fun x => x.1) (((a0.length : Int) - 0).toNat, 0, ()) ⟨(by dsimp only; have hle := Int.natCast_nonneg (a0.length); omega), (Int.le_refl _), (by dsimp only; exact e2), rfl, S⟩ ?_
  rintro ⟨m2, i2, _⟩ g2 u2 ⟨hm2, hl2, e2, q2_i, S⟩
  try dsimp only at hm2
  try dsimp only at hl2
  try dsimp only at e2
  try dsimp only at S
  try dsimp only at q2_i
  refine zd (zd (za (wd (zg q2_i) (wd (zz rfl) (wd (xe zW rfl (S.rd 0)) (wd (xU rfl rfl) (zb ?_)))))))
  refine zF rfl (fun hc3 => ?_) (fun hc3 => ?_)
  rotate_left
  ·refine yp ?_
   have hge : (a0.length : Int) ≤ i2 := Int.not_lt.1 (of_decide_eq_false hc3)
   obtain rfl : m2 = 0 := by omega
   replace e2 := kB e2
   exact ⟨rfl, (((((Dif.self _ _ _).upd rfl _).upd rfl _).upd rfl _).upd rfl _), (), e2, S⟩
  refine zB ?_
  have hlt2 : i2 < (a0.length : Int) := of_decide_eq_true hc3
  obtain ⟨m2, rfl⟩ : ∃ m, m2 = m + 1 := ⟨m2 - 1, by omega⟩
  obtain ⟨q2, H, e2⟩ := kC e2
  unfold ref16_Lines.b0 at H
  try dsimp only at H
  have hb2 := (S.len 0)
  refine zd ?_
  refine zO (zd ?_)
  refine yf 8 (Ext u2) hmix (by kernel_rfl) (by kernel_rfl) (Ext.drawn _) (zx (fun v K => zz rfl) (zx (fun v K => zg q2_i) (zx (fun v K => zT zW rfl rfl ((S.ext K).rd 0) (And.intro (show 0 ≤ i2 by omega) (show i2 < (a0.length : Int) from hlt2)).1 (And.intro (show 0 ≤ i2 by omega) (show i2 < (a0.length : Int) from hlt2)).2) (zx (fun v K => zl kD rfl (((S.ext K).rd 0).at (xJ Ln.z (And.intro (show 0 ≤ i2 by omega) (show i2 < (a0.length : Int) from hlt2)))) (Ln.len _)) (zx (fun v K => zz rfl) ?_)))))
  refine zx (fun v K => zg q2_i) ?_
  obtain ⟨hi5, H⟩ := xg H
  refine zx (fun v K => zT zW rfl rfl ((S.ext K).rd 1) (zI hi5).1 (zI hi5).2) (zx (fun v K => zl kD rfl (((S.ext K).rd 1).at (xJ Ln.z (zI hi5))) (Ln.len _)) ?_)
  refine y9 fun w6 K => ?_
  replace S := S.ext K
  clear K
  refine wd (does_nev eg_Ln (eq_Ln _ _) (by decide) rfl rfl) (zb ?_)
  refine zF rfl (fun hc7 => ?_) (fun hc7 => ?_)
  ·replace H := if_t hc7 H
   refine zd (za (wd (zm rfl) (zb (zw ?_))))
   refine ⟨_, (zS (zf rfl)), ?_⟩
   replace S := S.arr [] []
   obtain rfl := Option.some.inj H
   obtain rfl := e2
   obtain rfl := jb Ho2
   exact ⟨rfl, S⟩
  replace H := if_f hc7 H
  refine zB (za (wd (zg q2_i) (wd (xG rfl rfl (c := i2 + 1) rfl (by omega) (by omega)) (wd (zh rfl) (zb ?_)))))
  obtain rfl := Option.some.inj H
  exact ⟨rfl, (((((((((((((((((Dif.self _ _ _).upd rfl _).upd rfl _).upd rfl _).upd rfl _).upd rfl _).upd rfl _).upd rfl _).upd rfl _).upd rfl _).upd rfl _).upd rfl _).upd rfl _).upd rfl _).upd rfl _).upd rfl _).upd rfl _), (m2, i2 + 1, ()), ⟨(by dsimp only; omega), (by dsimp only; omega), e2, rfl, S⟩, by dsimp only; omega⟩
 rintro g8 u9 ⟨s2, rfl, S⟩
 have H := Ho2
 dsimp only [aft] at H
 refine zd (za (wd (zm rfl) (zb (zw ?_))))
 refine ⟨_, (zS (zf rfl)), ?_⟩
 replace S := S.arr [] []
 obtain rfl := Option.some.inj H
 exact ⟨rfl, S⟩
theorem law16_heads_st {A : Nat → Prop} {N : Oth} {w : World}  (S : St A N w w [] [oEt, oPw]) {k : Nat} {r : Bool} (H : law16_heads.f k  = some r) :
  Calls PP F_law16_heads #[] w fun e w' => ∃ v, e = .returned v ∧ (v = .bool r ∧ St A N w w' [] []) := by
 unfold law16_heads.f at H
 refine zA (n := 129) fn_law16_heads rfl rfl (by simp) (zd (za (wd (zm rfl) (zb (zd (za ?_))))))
 obtain ⟨r1, er1, H⟩ := zp H
 obtain ⟨B3, MB3, SB3, back⟩ := S.calln 0 ((.nil))
 refine zr (zo jB) (by decide) (jJ SB3 er1) ?_
 rintro _ w2 ⟨a4, rfl, S2⟩
 replace S := back _ _ _ _ S2 rfl
 clear back S2 SB3
 refine wd (xa rfl) (zb (zd (za (wd (zk rfl) ?_))))
 obtain ⟨r5, er5, H⟩ := zp H
 obtain ⟨B7, MB7, SB7, back⟩ := S.calln 1 ((.nil))
 refine zr (zo ca_formula_Table_Atom) (by decide) (formula_Table_Atom_st SB7 er5) ?_
 rintro _ w6 ⟨rfl, S2⟩
 replace S := back _ _ _ _ S2 rfl
 clear back S2 SB7
 refine wd (zX rfl) (wd (zq rfl rfl) (wd (zq rfl rfl) (wd (zh rfl) (wd (zh rfl) (zb (zd (za ?_)))))))
 refine wd (zk rfl) (wd (zg rfl) (wd (zg rfl) ?_))
 obtain ⟨r8, er8, H⟩ := zp H
 obtain ⟨B10, MB10, SB10, back⟩ := S.calln 1 ((.nil))
 refine zr (zo ca_formula_Table_Imp) (by decide) (formula_Table_Imp_st SB10 er8) ?_
 rintro _ w9 ⟨rfl, S2⟩
 replace S := back _ _ _ _ S2 rfl
 clear back S2 SB10
 refine wd (zX rfl) (wd (zq rfl rfl) (wd (zq rfl rfl) (wd (zh rfl) (wd (zh rfl) (zb (zd (za ?_)))))))
 refine wd (zk rfl) (wd (zg rfl) ?_)
 refine xB (C := IC) (l := [r5.2.1]) (vs := [.int .i64 r5.2.1]) xF kY.zero rfl rfl (fun _ _ => rfl) (by decide) rfl (by decide) fun b12 w11 s13 hBw11 hw11 => ?_
 replace S := S.lit hBw11 hw11 (by simp)
 refine wd (zg rfl) (wd (yl bu_Ln (Bld.one rfl rfl (by rw [Ln.len]; decide) (Ln.set_kind _ _) (Bld.one rfl rfl (by rw [Ln.len]; decide) (Ln.set_form _ _) Bld.nil))) ?_)
 refine xB (C := Ln.C) (l := [{ Ln.z with kind := 10, form := r5.2.1 }]) (vs := [.agg (Ln.C ({ Ln.z with kind := 10, form := r5.2.1 })).toArray]) zW el_Ln.zero rfl rfl (fun a _ => Ln.len a) (by decide) rfl (by decide) fun b15 w14 s16 hBw14 hw14 => ?_
 replace S := S.lit hBw14 hw14 (by simp)
 refine wd (zg rfl) ?_
 obtain ⟨r17, er17, H⟩ := zp H
 replace S := S.front 2
 obtain ⟨B19, MB19, SB19, back⟩ := S.calln 1 ((.s 1 rfl (.s 0 rfl .nil)))
 refine zr (zo ca_hilbert_Deduce) (by decide) (hilbert_Deduce_st SB19 er17) ?_
 rintro _ w18 ⟨s20, rfl, S2⟩
 replace S := back _ _ _ _ S2 rfl
 clear back S2 SB19
 refine wd (zX rfl) (wd (zq rfl rfl) (wd (zq rfl rfl) (wd (xV rfl) (wd (zh rfl) (zb (zd (za ?_)))))))
 refine wd (zk rfl) (wd (Does.to (v' := .agg (Term.C (⟨1, (⟨#[120]⟩ : ByteArray), ByteArray.empty, 0, SlV.nil⟩ : Term)).toArray) (xA (vs := [(0, .int .i64 1), (1, .string (⟨#[120]⟩ : ByteArray))]) jk (yh rfl (yh rfl rfl)) (Bld.one rfl rfl (by rw [Term.len]; decide) (Term.set_kind _ _) (Bld.one rfl rfl (by rw [Term.len]; decide) (Term.set_name _ _) Bld.nil))) rfl) ?_)
 replace S := S.nilTm
 refine xB (C := Term.C) (l := [(⟨1, (⟨#[120]⟩ : ByteArray), ByteArray.empty, 0, SlV.nil⟩ : Term)]) (vs := [.agg (Term.C (⟨1, (⟨#[120]⟩ : ByteArray), ByteArray.empty, 0, SlV.nil⟩ : Term)).toArray]) zP vw.zero rfl rfl (fun a _ => Term.len a) (by decide) rfl (by decide) fun b22 w21 s23 hBw21 hw21 => ?_
 replace S := ((S.lit hBw21 hw21 (by simp)).bigTm).consTm (x := (⟨1, (⟨#[120]⟩ : ByteArray), ByteArray.empty, 0, []⟩ : PTerm)) 0
 replace S := (S.frzTm 0 0).zs [0, 2, 3, 4]
 refine wd (Does.to (v' := .agg (Term.C (⟨2, (⟨#[120]⟩ : ByteArray), ByteArray.empty, 0, s23⟩ : Term)).toArray) (xA (vs := [(0, .int .i64 2), (1, .string (⟨#[120]⟩ : ByteArray)), (4, s23.v)]) jk (yh rfl (yh rfl (yh rfl rfl))) (Bld.one rfl rfl (by rw [Term.len]; decide) (Term.set_kind _ _) (Bld.one rfl rfl (by rw [Term.len]; decide) (Term.set_name _ _) (Bld.one rfl (SlV.one _ _ rfl) (by rw [Term.len]; decide) (Term.set_sub _ _) Bld.nil)))) rfl) (wd (zg rfl) ?_)
 replace S := S.nilZ 2 Hyp.C
 obtain ⟨r24, er24, H⟩ := zp H
 obtain ⟨B26, MB26, SB26, back⟩ := S.calln 1 ((.z 0 rfl (.z 1 rfl (.z 3 rfl .nil))))
 refine zr (zL ca_hilbert_Compile (zM rfl (zM SlV.nil_eq (zM rfl (zM rfl rfl))))) (by decide) (hilbert_Compile_st (a2 := (⟨2, (⟨#[120]⟩ : ByteArray), ByteArray.empty, 0, [(⟨1, (⟨#[120]⟩ : ByteArray), ByteArray.empty, 0, []⟩ : PTerm)]⟩ : PTerm)) SB26 er24) ?_
 rintro _ w25 ⟨s27, rfl, S2⟩
 replace S := back _ _ _ _ S2 rfl
 clear back S2 SB26
 refine wd (zX rfl) (wd (zq rfl rfl) (wd (zq rfl rfl) (wd (xV rfl) (wd (zh rfl) (zb (zd (za ?_)))))))
 refine wd (zk rfl) (wd (zz rfl) ?_)
 replace S := S.nilZ 1 IC
 obtain ⟨r28, er28, H⟩ := zp H
 obtain ⟨B30, MB30, SB30, back⟩ := S.calln 1 ((.z 0 rfl (.s 1 rfl .nil)))
 refine zr (zL zaH (zM rfl (zM SlV.nil_eq (zM rfl rfl)))) (by decide) (zaO SB30 er28) ?_
 rintro _ w29 ⟨rfl, S2⟩
 replace S := back _ _ _ _ S2 rfl
 clear back S2 SB30
 refine wd (zX rfl) (wd (zq rfl rfl) (wd (zq rfl rfl) (wd (zh rfl) (wd (zh rfl) (zb (zd (za ?_)))))))
 refine wd (zk rfl) (wd (zg rfl) ?_)
 refine xB (C := IC) (l := [r5.2.1]) (vs := [.int .i64 r5.2.1]) xF kY.zero rfl rfl (fun _ _ => rfl) (by decide) rfl (by decide) fun b32 w31 s33 hBw31 hw31 => ?_
 replace S := S.lit hBw31 hw31 (by simp)
 refine wd (zg rfl) (wd (yl bu_Ln (Bld.one rfl rfl (by rw [Ln.len]; decide) (Ln.set_kind _ _) (Bld.one rfl rfl (by rw [Ln.len]; decide) (Ln.set_form _ _) Bld.nil))) ?_)
 refine xB (C := Ln.C) (l := [{ Ln.z with kind := 10, form := r5.2.1 }]) (vs := [.agg (Ln.C ({ Ln.z with kind := 10, form := r5.2.1 })).toArray]) zW el_Ln.zero rfl rfl (fun a _ => Ln.len a) (by decide) rfl (by decide) fun b35 w34 s36 hBw34 hw34 => ?_
 replace S := S.lit hBw34 hw34 (by simp)
 obtain ⟨r37, er37, H⟩ := zp H
 replace S := (S.frzS 1).frzS 0
 obtain ⟨B39, MB39, SB39, back⟩ := S.sub [1, 0, 7] [oT a4 r28.1] [oS T_Ln 4 Ln.C s27 r24.2.1, oS T_Ln 4 Ln.C s20 r17.2.1, oS T_Ln 4 Ln.C s16 ([{ Ln.z with kind := 10, form := r5.2.1 }]), oS xT 1 IC s13 ([r5.2.1])]
 refine zr (zo ca_hilbert_Term) (by decide) (hilbert_Term_st SB39 er37) ?_
 rintro _ w38 ⟨s40, rfl, S2⟩
 replace S := back _ _ _ _ _ S2 rfl rfl
 clear back S2 SB39
 refine wd (zX rfl) (wd (zq rfl rfl) (wd (zq rfl rfl) ?_))
 refine xc uO (by decide) fun b42 w41 hw41 => ?_
 replace S := S.new hw41
 refine zJ zE rfl rfl (S.blk 0) (Term.len _) (by rw [Term.len]; decide) (Term.one _) (zV (Term.len _)) fun w43 B hw43 zw43 => ?_
 replace S := S.store 0 B hw43
 clear B
 refine wd (zh rfl) (zb (zd (zd (za (wd (zz rfl) (wd (xe zW rfl (S.rdO 3)) (wd (xl rfl rfl) (zb ?_))))))))
 refine zF rfl (fun hc44 => ?_) (fun hc44 => ?_)
 ·replace H := if_t hc44 H
  refine zd (za (wd (zm rfl) (zb (zw ?_))))
  refine ⟨_, (zS (zf rfl)), ?_⟩
  replace S := S.arr [] []
  obtain rfl := Option.some.inj H
  exact ⟨rfl, S⟩
 replace H := if_f hc44 H
 refine zB (zd (za (wd (zk rfl) (wd (zz rfl) ?_))))
 obtain ⟨hi45, H⟩ := xg H
 refine wd (zT zW rfl rfl (S.rdO 3) (zI hi45).1 (zI hi45).2) (wd (ze yH rfl (o' := _) rfl) (wd (zj zQ rfl (((S.rdO 3).at (xJ Ln.z (zI hi45))).get (Ln.get_form _))) ?_))
 obtain ⟨r46, er46, H⟩ := zp H
 replace S := S.front 1
 obtain ⟨B48, MB48, SB48, back⟩ := S.calln 1 ((.nil))
 refine zr (zo ca_hilbert_Is) (by decide) (hilbert_Is_st SB48 er46) ?_
 rintro _ w47 ⟨rfl, S2⟩
 replace S := back _ _ _ _ S2 rfl
 clear back S2 SB48
 refine wd (zX rfl) (wd (zq rfl rfl) (wd (zq rfl rfl) (wd (zm rfl) (wd (zh rfl) (zb (zd (za ?_)))))))
 refine wd (Does.to (v' := .agg (Term.C (⟨1, (⟨#[104, 48]⟩ : ByteArray), ByteArray.empty, 0, SlV.nil⟩ : Term)).toArray) (xA (vs := [(0, .int .i64 1), (1, .string (⟨#[104, 48]⟩ : ByteArray))]) jk (yh rfl (yh rfl rfl)) (Bld.one rfl rfl (by rw [Term.len]; decide) (Term.set_kind _ _) (Bld.one rfl rfl (by rw [Term.len]; decide) (Term.set_name _ _) Bld.nil))) rfl) (wd (Does.to (v' := .agg (Term.C (⟨1, (⟨#[108, 48]⟩ : ByteArray), ByteArray.empty, 0, SlV.nil⟩ : Term)).toArray) (xA (vs := [(0, .int .i64 1), (1, .string (⟨#[108, 48]⟩ : ByteArray))]) jk (yh rfl (yh rfl rfl)) (Bld.one rfl rfl (by rw [Term.len]; decide) (Term.set_kind _ _) (Bld.one rfl rfl (by rw [Term.len]; decide) (Term.set_name _ _) Bld.nil))) rfl) ?_)
 replace S := S.nilTm.nilTm
 refine xB (C := Term.C) (l := [(⟨1, (⟨#[104, 48]⟩ : ByteArray), ByteArray.empty, 0, SlV.nil⟩ : Term), (⟨1, (⟨#[108, 48]⟩ : ByteArray), ByteArray.empty, 0, SlV.nil⟩ : Term)]) (vs := [.agg (Term.C (⟨1, (⟨#[104, 48]⟩ : ByteArray), ByteArray.empty, 0, SlV.nil⟩ : Term)).toArray, .agg (Term.C (⟨1, (⟨#[108, 48]⟩ : ByteArray), ByteArray.empty, 0, SlV.nil⟩ : Term)).toArray]) zP vw.zero rfl rfl (fun a _ => Term.len a) (by decide) rfl (by decide) fun b50 w49 s51 hBw49 hw49 => ?_
 replace S := ((S.lit hBw49 hw49 (by simp)).bigTm).consTm (x := (⟨1, (⟨#[108, 48]⟩ : ByteArray), ByteArray.empty, 0, []⟩ : PTerm)) 0
 replace S := ((S.consTm (x := (⟨1, (⟨#[104, 48]⟩ : ByteArray), ByteArray.empty, 0, []⟩ : PTerm)) 1).frzTm 0 0).zs [0, 2, 3, 4, 5, 6, 7, 8, 9, 10, 11, 12]
 refine wd (Does.to (v' := .agg (Term.C (⟨12, (⟨#[108, 48]⟩ : ByteArray), ByteArray.empty, 0, s51⟩ : Term)).toArray) (xA (vs := [(0, .int .i64 12), (1, .string (⟨#[108, 48]⟩ : ByteArray)), (4, s51.v)]) jk (yh rfl (yh rfl (yh rfl rfl))) (Bld.one rfl rfl (by rw [Term.len]; decide) (Term.set_kind _ _) (Bld.one rfl rfl (by rw [Term.len]; decide) (Term.set_name _ _) (Bld.one rfl (SlV.one _ _ rfl) (by rw [Term.len]; decide) (Term.set_sub _ _) Bld.nil)))) rfl) ?_
 refine xc uO (by decide) fun b53 w52 hw52 => ?_
 replace S := S.new hw52
 refine zJ zE rfl rfl (S.blk 0) (Term.len _) (by rw [Term.len]; decide) (Term.one _) (zV (Term.len _)) fun w54 B hw54 zw54 => ?_
 replace S := S.store 0 B hw54
 clear B
 refine zb (zd (za (wd (zg rfl) ?_)))
 obtain ⟨r55, er55, H⟩ := zp H
 obtain ⟨B57, MB57, SB57, back⟩ := S.calln 0 ((.nil))
 refine zr (zo vZ) (by decide) (uc SB57 er55) ?_
 rintro _ w56 ⟨rfl, S2⟩
 replace S := back _ _ _ _ S2 rfl
 clear back S2 SB57
 refine wd (zU rfl rfl) (wd (zG rfl) ?_)
 refine wg (fun hg => zg rfl) ?_
 obtain ⟨r58, er58, H⟩ := zp H
 refine ya (j := 3) (pol := true) rfl rfl rfl (by decide) (fun hg => zL vZ (zM (zt hg) rfl)) (by decide) (fun hg => (have ⟨M, SS⟩ := S.lend ((.nil)); quiet (uc SS (if_t (by simpa using hg) er58)) (fun v w' h => ⟨h.1, _, _, h.2⟩))) fun w59 hw59 => ?_
 replace S := S.ext hw59
 refine wg (fun hg => zU (zt hg) rfl) (wd (xn rfl (fun hp => (zt (xy hp)))) (wd (zG rfl) ?_))
 refine wg (fun hg => zz rfl) ?_
 refine wg (fun hg => zz rfl) ?_
 obtain ⟨r60, er60, H⟩ := zp H
 refine ya (j := 8) (pol := true) rfl rfl rfl (by decide) (fun hg => zL ca_ref16_Lines (zM (zt hg) (zM (zt hg) rfl))) (by decide) (fun hg => (have ⟨M, SS⟩ := S.lend ((.s 4 rfl (.s 3 rfl .nil))); quiet (ref16_Lines_st SS (if_t (by simpa using hg) er60)) (fun v w' h => ⟨h.1, _, _, h.2⟩))) fun w61 hw61 => ?_
 replace S := S.ext hw61
 refine wd (xn rfl (fun hp => (zt (xy hp)))) (wd (zG rfl) ?_)
 refine wg (fun hg => zg rfl) ?_
 obtain ⟨r62, er62, H⟩ := zp H
 refine ya (j := 13) (pol := true) rfl rfl rfl (by decide) (fun hg => zL vZ (zM (zt hg) rfl)) (by decide) (fun hg => (have ⟨M, SS⟩ := S.lend ((.nil)); quiet (uc SS (if_t (by simpa using hg) er62)) (fun v w' h => ⟨h.1, _, _, h.2⟩))) fun w63 hw63 => ?_
 replace S := S.ext hw63
 refine wg (fun hg => zU (zt hg) rfl) (wd (xn rfl (fun hp => (zt (xy hp)))) (wd (zG rfl) ?_))
 refine wg (fun hg => zg rfl) ?_
 refine wg (fun hg => zg rfl) ?_
 refine wg (fun hg => zU (zt hg) (zt hg)) (wd (xn rfl (fun hp => (zt (xy hp)))) (wd (zG rfl) ?_))
 refine wg (fun hg => zg rfl) ?_
 obtain ⟨r64, er64, H⟩ := zp H
 refine ya (j := 23) (pol := true) rfl rfl rfl (by decide) (fun hg => zL vZ (zM (zt hg) rfl)) (by decide) (fun hg => (have ⟨M, SS⟩ := S.lend ((.nil)); quiet (uc SS (if_t (by simpa using hg) er64)) (fun v w' h => ⟨h.1, _, _, h.2⟩))) fun w65 hw65 => ?_
 replace S := S.ext hw65
 refine wg (fun hg => zU (zt hg) rfl) (wd (xn rfl (fun hp => (zt (xy hp)))) (wd (zG rfl) ?_))
 refine wg (fun hg => zl zE rfl ((S.blk 2).all _ (Term.len _)) (Term.len _)) ?_
 refine wg (fun hg => zl zE rfl ((S.blk 0).all _ (Term.len _)) (Term.len _)) ?_
 obtain ⟨r66, er66, H⟩ := zp H
 refine ya (j := 28) (pol := true) rfl rfl rfl (by decide) (fun hg => zL ca_ref12_Same (zM (zt hg) (zM (zt hg) rfl))) (by decide) (fun hg => (have ⟨M, SS⟩ := S.lend ((.z 3 rfl (.z 0 rfl .nil))); quiet (ref12_Same_st (a0 := r37.2.1) (a1 := (⟨12, (⟨#[108, 48]⟩ : ByteArray), ByteArray.empty, 0, [(⟨1, (⟨#[104, 48]⟩ : ByteArray), ByteArray.empty, 0, []⟩ : PTerm), (⟨1, (⟨#[108, 48]⟩ : ByteArray), ByteArray.empty, 0, []⟩ : PTerm)]⟩ : PTerm)) SS (if_t (by simpa using hg) er66)) (fun v w' h => ⟨h.1, _, _, h.2⟩))) fun w67 hw67 => ?_
 replace S := S.ext hw67
 refine wd (xn rfl (fun hp => (zt (xy hp)))) (wd (zG rfl) ?_)
 refine wg (fun hg => zg rfl) ?_
 obtain ⟨r68, er68, H⟩ := zp H
 refine ya (j := 33) (pol := true) rfl rfl rfl (by decide) (fun hg => zL vZ (zM (zt hg) rfl)) (by decide) (fun hg => (have ⟨M, SS⟩ := S.lend ((.nil)); quiet (uc SS (if_t (by simpa using hg) er68)) (fun v w' h => ⟨h.1, _, _, h.2⟩))) fun w69 hw69 => ?_
 replace S := S.ext hw69
 refine wg (fun hg => zU (zt hg) rfl) (wd (xn rfl (fun hp => (zt (xy hp)))) (wd (zG rfl) ?_))
 refine wg (fun hg => zG rfl) (wd (xn rfl (fun hp => (zt (xy hp)))) (wd (zG rfl) ?_))
 refine wg (fun hg => zk rfl) ?_
 replace S := (S.nilZ 1 IC).nilZ 4 Ln.C
 obtain ⟨r70, er70, H⟩ := zp H
 replace S := S.front 1
 obtain ⟨B72, MB72, SB72, back⟩ := S.calln 1 ((.z 1 rfl (.z 0 rfl .nil)))
 refine wl_gturn (R := fun W => St A N w W [oT a4 r70.1, oB b53 zy (Term.C (⟨12, (⟨#[108, 48]⟩ : ByteArray), ByteArray.empty, 0, s51⟩ : Term)), oB b42 zy (Term.C (⟨r37.2.1.kind, r37.2.1.name, r37.2.1.other, r37.2.1.form, s40⟩ : Term)), oS T_Ln 4 Ln.C s27 r24.2.1, oS T_Ln 4 Ln.C s20 r17.2.1, oS T_Ln 4 Ln.C s16 ([{ Ln.z with kind := 10, form := r5.2.1 }]), oS xT 1 IC s13 ([r5.2.1])] [fS 4 Ln.C SlV.nil ([]), fS 1 IC SlV.nil ([]), zu s51 ([(⟨1, (⟨#[104, 48]⟩ : ByteArray), ByteArray.empty, 0, []⟩ : PTerm), (⟨1, (⟨#[108, 48]⟩ : ByteArray), ByteArray.empty, 0, []⟩ : PTerm)]), zu SlV.nil ([]), zu SlV.nil ([]), zu s40 r37.2.1.sub, fS 4 Ln.C s36 ([{ Ln.z with kind := 10, form := r5.2.1 }]), fS 1 IC s33 ([r5.2.1]), fS 1 IC SlV.nil ([]), fS 2 Hyp.C SlV.nil ([]), zu s23 ([(⟨1, (⟨#[120]⟩ : ByteArray), ByteArray.empty, 0, []⟩ : PTerm)]), zu SlV.nil ([]), oEt, oPw]) (j := 41) (pol := true) rfl rfl rfl (by decide) (fun hg => zL uM (zM (zt hg) (zM SlV.nil_eq (zM SlV.nil_eq rfl)))) (by decide) (fun hg => k6 (uJ SB72 (if_t (by simpa using hg) er70)) fun _ _ ⟨hv, S2⟩ => ⟨hv, back _ _ _ _ S2 rfl⟩) (fun hg => by obtain rfl := Option.some.inj (if_f (by simpa using hg) er70); exact S) fun w71 S2 => ?_
 replace S : St A N w w71 [oT a4 r70.1, oB b53 zy (Term.C (⟨12, (⟨#[108, 48]⟩ : ByteArray), ByteArray.empty, 0, s51⟩ : Term)), oB b42 zy (Term.C (⟨r37.2.1.kind, r37.2.1.name, r37.2.1.other, r37.2.1.form, s40⟩ : Term)), oS T_Ln 4 Ln.C s27 r24.2.1, oS T_Ln 4 Ln.C s20 r17.2.1, oS T_Ln 4 Ln.C s16 ([{ Ln.z with kind := 10, form := r5.2.1 }]), oS xT 1 IC s13 ([r5.2.1])] [fS 4 Ln.C SlV.nil ([]), fS 1 IC SlV.nil ([]), zu s51 ([(⟨1, (⟨#[104, 48]⟩ : ByteArray), ByteArray.empty, 0, []⟩ : PTerm), (⟨1, (⟨#[108, 48]⟩ : ByteArray), ByteArray.empty, 0, []⟩ : PTerm)]), zu SlV.nil ([]), zu SlV.nil ([]), zu s40 r37.2.1.sub, fS 4 Ln.C s36 ([{ Ln.z with kind := 10, form := r5.2.1 }]), fS 1 IC s33 ([r5.2.1]), fS 1 IC SlV.nil ([]), fS 2 Hyp.C SlV.nil ([]), zu s23 ([(⟨1, (⟨#[120]⟩ : ByteArray), ByteArray.empty, 0, []⟩ : PTerm)]), zu SlV.nil ([]), oEt, oPw] := S2
 clear back S2 SB72
 obtain ⟨r73, er73, H⟩ := zp H
 refine ya (j := 41) (pol := true) rfl rfl rfl (by decide) (fun hg => zL vZ (zM (zt hg) rfl)) (by decide) (fun hg => (have ⟨M, SS⟩ := S.lend ((.nil)); quiet (uc SS (if_t (by simpa using hg) er73)) (fun v w' h => ⟨h.1, _, _, h.2⟩))) fun w74 hw74 => ?_
 replace S := S.ext hw74
 refine wg (fun hg => zU (zt hg) rfl) (wd (xn rfl (fun hp => (zt (xy hp)))) (wd (zm rfl) (zb (zw ?_))))
 refine ⟨_, (zS (zf rfl)), ?_⟩
 replace S := S.arr [] []
 obtain rfl := Option.some.inj H
 exact ⟨rfl, S⟩
end Go.Proofs.YtflieamjacclnaaGreatDoor
end
section
namespace Go.Proofs.YtflieamjacclnaaGreatDoor
open Gw Go.RowKit
set_option maxHeartbeats 4000000
set_option maxRecDepth 20000
theorem law04_Tables_st {A : Nat → Prop} {N : Oth} {w : World} {a0 : List Nd} {s_0 : SlV} (S : St A N w w [] [fS 4 Nd.C s_0 a0]) {r : Tb × Tb} (H : law04_Tables.f a0 = some r) :
  Calls PP F_law04_Tables #[s_0.v] w fun e w' => ∃ v, e = .returned v ∧ (∃ ao0 : Option Addr, ∃ ao1 : Option Addr, v = .tuple #[.pointer ao0, .pointer ao1] ∧ St A N w w' [oT ao0 r.1, oR ao1 r.2] []) := by
 unfold law04_Tables.f at H
 refine zA (n := 20) fn_law04_Tables rfl rfl (by simp) ?_
 refine zd (za ?_)
 replace S : St A N w w [oT none none] [fS 4 Nd.C s_0 a0] := S.add (Ext.refl _) (oT.nil _) (fun _ x => x.elim)
 refine wd (xa rfl) ?_
 replace S : St A N w w [oR none none, oT none none] [fS 4 Nd.C s_0 a0] := S.add (Ext.refl _) (oR.nil _) (fun _ x => x.elim)
 refine wd (xa rfl) ?_
 refine zb ?_
 refine zd (za ?_)
 refine wd (zz rfl) ?_
 obtain ⟨r1, er1, H⟩ := zp H
 obtain ⟨B3, MB3, SB3, back⟩ := S.calln 0 ((.z 0 rfl .nil))
 refine zr (zo ca_law03_Both) (by decide) (law03_Both_st SB3 er1) ?_
 rintro _ w2 ⟨a4, a5, rfl, S2⟩
 replace S : St A N w w2 [oT a4 r1.1, oR a5 r1.2.1, oR none none, oT none none] [fS 4 Nd.C s_0 a0] := back _ _ _ _ S2 rfl
 clear back S2 SB3
 refine wd (zX rfl) ?_
 refine wd (zq rfl rfl) ?_
 refine wd (zq rfl rfl) ?_
 refine wd (zq rfl rfl) ?_
 refine wd (xa rfl) ?_
 refine wd (xa rfl) ?_
 refine wd (zm rfl) ?_
 refine zb ?_
 refine zd (zd (za ?_))
 refine wd (zG rfl) ?_
 refine wd (xf rfl) ?_
 refine zb ?_
 refine zF rfl (fun hc6 => ?_) (fun hc6 => ?_)
 ·replace H := if_t hc6 H
  refine zd (za ?_)
  obtain ⟨r7, er7, H⟩ := zp H
  obtain ⟨B9, MB9, SB9, back⟩ := S.calln 0 ((.nil))
  refine zr (zo jB) (by decide) (jJ SB9 er7) ?_
  rintro _ w8 ⟨a10, rfl, S2⟩
  replace S : St A N w w8 [oT a10 r7, oT a4 r1.1, oR a5 r1.2.1, oR none none, oT none none] [fS 4 Nd.C s_0 a0] := back _ _ _ _ S2 rfl
  clear back S2 SB9
  refine wd (yl bu_RTab Bld.nil) ?_
  refine zY rfl (by decide) fun b12 w11 hw11 => ?_
  replace S : St A N w w11 [oR (some ⟨b12, 0, none⟩) (some []), oT a10 r7, oT a4 r1.1, oR a5 r1.2.1, oR none none, oT none none] [fS 4 Nd.C s_0 a0] := ((S.nil T_Nd 4 Nd.C).new hw11).shutR rfl
  refine wd (xa rfl) ?_
  refine wd (xa rfl) ?_
  refine zb ?_
  refine zw ?_
  refine ⟨_, (xm (zf rfl) (zf rfl)), ?_⟩
  replace S : St A N w w11 [oT a10 r7, oR (some ⟨b12, 0, none⟩) (some [])] [] := S.arr [1, 0] []
  obtain rfl := Option.some.inj H
  exact ⟨a10, (some ⟨b12, 0, none⟩), rfl, S⟩
 replace H := if_f hc6 H
 refine zB ?_
 refine zd (za ?_)
 refine wd (zk rfl) ?_
 refine wd (zk rfl) ?_
 refine wd (xa rfl) ?_
 refine wd (xa rfl) ?_
 refine zb ?_
 refine zw ?_
 refine ⟨_, (xm (zf rfl) (zf rfl)), ?_⟩
 replace S : St A N w w2 [oT a4 r1.1, oR a5 r1.2.1] [] := S.arr [0, 1] []
 obtain rfl := Option.some.inj H
 exact ⟨a4, a5, rfl, S⟩
end Go.Proofs.YtflieamjacclnaaGreatDoor
end
section
namespace Go.Proofs.YtflieamjacclnaaGreatDoor
open Gw Go.RowKit
set_option maxHeartbeats 4000000
set_option maxRecDepth 20000
theorem ref08_True_gst {rec_ref08_True : Tb → Int → List ByteArray → Option Bool} (hrec_ref08_True : ∀ {A : Nat → Prop} {N : Oth} {w : World} {a0 : Tb} {a_0 : Option Addr} {a1 : Int} {a2 : List ByteArray} {s_2 : SlV} (S : St A N w w [] [oR a_0 a0, fS 1 SC s_2 a2]) {r : Bool} (H : rec_ref08_True a0 a1 a2 = some r), Calls PP jG #[.pointer a_0, .int .i64 a1, s_2.v] w fun e w' => ∃ v, e = .returned v ∧ (v = .bool r ∧ St A N w w' [] [])) {A : Nat → Prop} {N : Oth} {w : World} {a0 : Tb} {a_0 : Option Addr} {a1 : Int} {a2 : List ByteArray} {s_2 : SlV} (S : St A N w w [] [oR a_0 a0, fS 1 SC s_2 a2]) {k : Nat} {r : Bool} (H : ref08_True.g rec_ref08_True k a0 a1 a2 = some r) :
  Calls PP jG #[.pointer a_0, .int .i64 a1, s_2.v] w fun e w' => ∃ v, e = .returned v ∧ (v = .bool r ∧ St A N w w' [] []) := by
 unfold ref08_True.g at H
 refine zA (n := 108) fn_ref08_True rfl rfl (by simp) (zd (za (wd (zm rfl) (zb (zd (za (wd (zg rfl) ?_)))))))
 refine wd (vT rfl rfl) ?_
 obtain ⟨hm4, H⟩ := xg H
 have hm4 := of_decide_eq_true hm4
 refine wl_make1 (C := bc) (z := false) vm el_bool zv_bool rfl rfl rfl rfl hm4.1 (by omega) hm4.2 (by decide) fun b2 w1 s3 hBw1 hw1 => ?_
 replace S := S.lit hBw1 hw1 (by rw [List.length_replicate]; omega)
 refine wd (xV rfl) (zb (zd (zd (za (wd (zh rfl) (zb ?_))))))
 obtain ⟨o5, e5, Ho5⟩ := zp H
 clear H
 refine x7 [8, 9, 10, 14, 15, 16, 17, 18, 19, 20, 21, 22, 23, 24, 25, 26, 27, 28, 29, 30, 31, 32, 33, 34, 35, 36, 37, 38, 39, 40, 41, 42, 43, 44, 45, 46, 47, 48, 49, 50, 51, 52, 53, 54, 55, 56, 57, 58, 59, 60, 61, 62, 63, 64, 65, 66, 67, 68, 69, 70, 71, 72, 73, 74, 75, 76, 77, 78, 79, 80, 81, 82, 83, 84, 85, 86, 87, 88, 89, 90, 91, 92, 93, 94, 95, 96, 97, 98, 99, 100, 101, 102, 103] (fun fr W => ∃ s5 : Int × List Bool, o5 = .inl s5 ∧ fr 8 = .int .i64 s5.1 ∧ St A N w W [oS T_bool 1 bc s3 s5.2] [oR a_0 a0, fS 1 SC s_2 a2]) ?_ ?_
 ·refine zO ?_
  refine xW (α := Nat × (Int × List Bool)) [8, 9, 10, 14, 15, 16, 17, 18, 19, 20, 21, 22, 23, 24, 25, 26, 27, 28, 29, 30, 31, 32, 33, 34, 35, 36, 37, 38, 39, 40, 41, 42, 43, 44, 45, 46, 47, 48, 49, 50, 51, 52, 53, 54, 55, 56, 57, 58, 59, 60, 61, 62, 63, 64, 65, 66, 67, 68, 69, 70, 71, 72, 73, 74, 75, 76, 77, 78, 79, 80, 81, 82, 83, 84, 85, 86, 87, 88, 89, 90, 91, 92, 93, 94, 95, 96, 97, 98, 99, 100, 101, 102, 103] (fun x fr W => iter (fun s => ref08_True.b0 a1 a0 a2 s.1 s.2) x.1 x.2 = some o5 ∧ fr 8 = .int .i64 (x.2.1) ∧ St A N w W [oS T_bool 1 bc s3 (x.2.2)] [oR a_0 a0, fS 1 SC s_2 a2]) (fun x => x.1) (k, (0, List.replicate (IntKind.i64.wrap (a1 + 1)).toNat false)) ⟨(by dsimp only; exact e5), rfl, S⟩ ?_
  rintro ⟨m5, ⟨x5_0, x5_1⟩⟩ g5 u5 ⟨e5, q5_8, S⟩
  try dsimp only at e5
  try dsimp only at S
  try dsimp only at q5_8
  obtain ⟨m5, rfl⟩ : ∃ m, m5 = m + 1 := ⟨m5 - 1, by cases m5 with | zero => cases e5 | succ m => rfl⟩
  obtain ⟨q5, H, e5⟩ := iter_s e5
  unfold ref08_True.b0 at H
  try dsimp only at H
  refine zd (zd (za (wd (zg q5_8) (wd (zg rfl) (wd (zaq rfl rfl) (zb ?_))))))
  refine zF rfl (fun hc6 => ?_) (fun hc6 => ?_)
  rotate_left
  ·replace H := if_f hc6 H
   refine yp ?_
   obtain rfl := Option.some.inj H
   exact ⟨rfl, ((((Dif.self _ _ _).upd rfl _).upd rfl _).upd rfl _), (x5_0, x5_1), e5, q5_8, S⟩
  replace H := if_t hc6 H
  refine zB (zd ?_)
  refine zO (zd (za (wd (zk rfl) ?_)))
  obtain ⟨ht7, H⟩ := xg H
  obtain ⟨p8, s9, hp10, S⟩ := S.seeR 0 ht7
  replace S := S
  refine wd (zC (congrArg Value.pointer hp10)) (wd (ze jw rfl (o' := 0) rfl) (wd (zj xo rfl ((S.blkZ 0).cell (RTab.get_n _))) (wd (zg q5_8) ?_)))
  obtain ⟨hi11, H⟩ := xg H
  refine wd (zT xb rfl rfl (S.rd 1) (zI hi11).1 (zI hi11).2) (wd (zl xM rfl ((S.rd 1).at (xJ Nd.z (zI hi11))) (Nd.len _)) ?_)
  refine xc vV (by decide) fun b13 w12 hw12 => ?_
  replace S := S.new hw12
  refine zJ xM rfl rfl (S.blk 0) (Nd.len _) (by rw [Nd.len]; decide) (Nd.one _) (zV (Nd.len _)) fun w14 B hw14 zw14 => ?_
  replace S := S.store 0 B hw14
  clear B
  replace S := S.zs [2, 3]
  refine zb (zd (za (wd (ze j9 rfl (o' := 0) rfl) (wd (zj vX rfl ((S.blk 0).cell (Nd.get_kind _))) (zb ?_)))))
  refine zO (zd (za (wd (zU rfl rfl) (wd (zm rfl) (zb ?_)))))
  refine zF rfl (fun hc15 => ?_) (fun hc15 => ?_)
  ·replace H := if_t hc15 H
   refine zd (za (wd (zh rfl) (zb ?_)))
   obtain ⟨o16, e16, Ho16⟩ := zp H
   clear H
   refine x7 [10, 30, 31, 32, 33, 34, 35, 36, 37, 38, 39, 40, 41, 42, 43, 44, 45, 46, 47, 48, 49, 50, 51] (fun fr W => St A N w W [oB b13 T_Nd (Nd.C (at_ Nd.z (a0.getD []) x5_0)), oS T_bool 1 bc s3 o16] [oR a_0 a0, fS 1 SC s_2 a2]) ?_ ?_
   ·refine zO ?_
    refine xW (α := Nat × Int × (List Bool)) [10, 30, 31, 32, 33, 34, 35, 36, 37, 38, 39, 40, 41, 42, 43, 44, 45, 46, 47, 48, 49, 50, 51] (fun x fr W => (x.1 : Int) = (a2.length : Int) - x.2.1 ∧ 0 ≤ x.2.1 ∧ forS (fun i s => ref08_True.b1 x5_0 a2 a0 i s) x.1 x.2.1 x.2.2 = some o16 ∧ fr 10 = .int .i64 x.2.1 ∧ St A N w W [oB b13 T_Nd (Nd.C (at_ Nd.z (a0.getD []) x5_0)), oS T_bool 1 bc s3 (x.2.2)] [oR a_0 a0, fS 1 SC s_2 a2]) (fun x => x.1) (((a2.length : Int) - 0).toNat, 0, x5_1) ⟨(by dsimp only; have hle := Int.natCast_nonneg (a2.length); omega), (Int.le_refl _), (by dsimp only; exact e16), rfl, S⟩ ?_
    rintro ⟨m16, i16, x16_0⟩ g16 u16 ⟨hm16, hl16, e16, q16_i, S⟩
    try dsimp only at hm16
    try dsimp only at hl16
    try dsimp only at e16
    try dsimp only at S
    try dsimp only at q16_i
    refine zd (zd (za (wd (zg q16_i) (wd (zz rfl) (wd (xe x9 rfl (S.rd 1)) (wd (xU rfl rfl) (zb ?_)))))))
    refine zF rfl (fun hc17 => ?_) (fun hc17 => ?_)
    rotate_left
    ·refine yp ?_
     have hge : (a2.length : Int) ≤ i16 := Int.not_lt.1 (of_decide_eq_false hc17)
     obtain rfl : m16 = 0 := by omega
     replace e16 := forS_0 e16
     obtain rfl := e16
     exact ⟨rfl, (((((Dif.self _ _ _).upd rfl _).upd rfl _).upd rfl _).upd rfl _), S⟩
    refine zB ?_
    have hlt16 : i16 < (a2.length : Int) := of_decide_eq_true hc17
    obtain ⟨m16, rfl⟩ : ∃ m, m16 = m + 1 := ⟨m16 - 1, by omega⟩
    obtain ⟨q16, H, e16⟩ := forS_s e16
    unfold ref08_True.b1 at H
    try dsimp only at H
    have hb16 := (S.len 1)
    refine zd ?_
    refine zO ?_
    refine yf 15 (Ext u16) hmix (by kernel_rfl) (by kernel_rfl) (Ext.drawn _) (zx (fun v K => zz rfl) (zx (fun v K => zg q5_8) (zx (fun v K => zz rfl) (zx (fun v K => zg q5_8) ?_))))
    obtain ⟨hi18, H⟩ := xg H
    refine zx (fun v K => zT vm rfl rfl ((S.ext K).rdO 1) (zI hi18).1 (zI hi18).2) (zx (fun v K => zj jj rfl (((S.ext K).rdO 1).one (xJ false (zI hi18)) rfl)) (zx (fun v K => zG rfl) (k4 (j := 6) (pol := false) rfl rfl rfl (fun hg v K => zz rfl) (k4 (j := 6) (pol := false) rfl rfl rfl (fun hg v K => zg q16_i) (k4 (j := 6) (pol := false) rfl rfl rfl (fun hg v K => zT x9 (zt hg) (zt hg) ((S.ext K).rd 1) (And.intro (show 0 ≤ i16 by omega) (show i16 < (a2.length : Int) from hlt16)).1 (And.intro (show 0 ≤ i16 by omega) (show i16 < (a2.length : Int) from hlt16)).2) ?_)))))
    refine k4 (j := 6) (pol := false) rfl rfl rfl (fun hg v K => zj xk (zt hg) (((S.ext K).rd 1).one (xJ ByteArray.empty (And.intro (show 0 ≤ i16 by omega) (show i16 < (a2.length : Int) from hlt16))) rfl)) (k4 (j := 6) (pol := false) rfl rfl rfl (fun hg v K => ze uz rfl (o' := 1) rfl) (k4 (j := 6) (pol := false) rfl rfl rfl (fun hg v K => zj xk (zt hg) (((S.ext K).blk 0).cell (Nd.get_name _))) (k4 (j := 6) (pol := false) rfl rfl rfl (fun hg v K => y1 (zt hg) (zt hg)) (zx (fun v K => xD rfl (fun hp => (zt (xy hp)))) ?_))))
    refine y9 fun w20 K => ?_
    replace S := S.ext K
    clear K
    obtain ⟨hi21, H⟩ := xg H
    refine wd (zT vm rfl rfl (S.rdO 1) (zI hi21).1 (zI hi21).2) ?_
    refine uN (C := bc) (a := (at_ false x16_0 x5_0) || (decide (at_ ByteArray.empty a2 i16 = (at_ Nd.z (a0.getD []) x5_0).name))) jj rfl rfl (S.sl 1) (zI hi21) rfl rfl fun w22 O hw22 => ?_
    have hlw22 := S.lenO 1
    replace S := S.push 1 O (by rw [List.length_set]; exact hlw22) hw22 (fun i hi => .inl hi)
    clear O
    refine zb (za (wd (zg q16_i) (wd (xG rfl rfl (c := i16 + 1) rfl (by omega) (by omega)) (wd (zh rfl) (zb ?_)))))
    replace S := S.arr [1, 0] [0, 1]
    obtain rfl := Option.some.inj H
    exact ⟨rfl, (by repeat first | exact Dif.refl _ _ | exact Dif.self _ _ _ | refine Dif.upd ?_ rfl _ | refine Dif.mask ?_ rfl _), (m16, i16 + 1, x16_0.set (x5_0).toNat ((at_ false x16_0 x5_0) || (decide (at_ ByteArray.empty a2 i16 = (at_ Nd.z (a0.getD []) x5_0).name)))), ⟨(by dsimp only; omega), (by dsimp only; omega), e16, rfl, S⟩, by dsimp only; omega⟩
   rintro g23 u24 S
   have H := Ho16
   refine za (wd (zg q5_8) (wd (vT rfl rfl) (wd (zh rfl) (zb ?_))))
   replace S := S.arr [1] [0, 1]
   obtain rfl := Option.some.inj H
   exact ⟨rfl, (by repeat first | exact Dif.refl _ _ | exact Dif.self _ _ _ | refine Dif.upd ?_ rfl _ | refine Dif.mask ?_ rfl _), (m5, (IntKind.i64.wrap (x5_0 + 1), o16)), ⟨e5, rfl, S⟩, by dsimp only; omega⟩
  ·replace H := if_f hc15 H
   refine zd (za (wd (zU rfl rfl) (wd (zm rfl) (zb ?_))))
   refine zF rfl (fun hc25 => ?_) (fun hc25 => ?_)
   ·replace H := if_t hc25 H
    refine za (wd (zz rfl) (wd (zg q5_8) (wd (zz rfl) (wd (ze yA rfl (o' := 2) rfl) (wd (zj zQ rfl ((S.blk 0).cell (Nd.get_l _))) ?_)))))
    obtain ⟨hi26, H⟩ := xg H
    refine wd (zT vm rfl rfl (S.rdO 1) (zI hi26).1 (zI hi26).2) (wd (zj jj rfl ((S.rdO 1).one (xJ false (zI hi26)) rfl)) (wd (zG rfl) ?_))
    refine wg (fun hg => zz rfl) ?_
    refine wg (fun hg => ze yv rfl (o' := 3) rfl) ?_
    refine wg (fun hg => zj zQ (zt hg) ((S.blk 0).cell (Nd.get_r _))) ?_
    obtain ⟨hi27, H⟩ := chk_g H
    refine wg (fun hg => zT vm (zt hg) (zt hg) (S.rdO 1) (zI (hi27 (by simpa using hg))).1 (zI (hi27 (by simpa using hg))).2) ?_
    refine wg (fun hg => zj jj (zt hg) ((S.rdO 1).one (xJ false (zI (hi27 (by simpa using hg)))) rfl)) (wd (xn rfl (fun hp => (zt (xy hp)))) ?_)
    obtain ⟨hi28, H⟩ := xg H
    refine wd (zT vm rfl rfl (S.rdO 1) (zI hi28).1 (zI hi28).2) ?_
    refine uN (C := bc) (a := (at_ false x5_1 ((at_ Nd.z (a0.getD []) x5_0).l)) && (at_ false x5_1 ((at_ Nd.z (a0.getD []) x5_0).r))) jj rfl rfl (S.sl 1) (zI hi28) rfl rfl fun w29 O hw29 => ?_
    have hlw29 := S.lenO 1
    replace S := S.push 1 O (by rw [List.length_set]; exact hlw29) hw29 (fun i hi => .inl hi)
    clear O
    refine zb (za (wd (zg q5_8) (wd (vT rfl rfl) (wd (zh rfl) (zb ?_)))))
    replace S := S.arr [0] [0, 1]
    obtain rfl := Option.some.inj H
    exact ⟨rfl, (by repeat first | exact Dif.refl _ _ | exact Dif.self _ _ _ | refine Dif.upd ?_ rfl _ | refine Dif.mask ?_ rfl _), (m5, (IntKind.i64.wrap (x5_0 + 1), x5_1.set (x5_0).toNat ((at_ false x5_1 ((at_ Nd.z (a0.getD []) x5_0).l)) && (at_ false x5_1 ((at_ Nd.z (a0.getD []) x5_0).r))))), ⟨e5, rfl, S⟩, by dsimp only; omega⟩
   ·replace H := if_f hc25 H
    refine zd (za (wd (zU rfl rfl) (wd (zm rfl) (zb ?_))))
    refine zF rfl (fun hc30 => ?_) (fun hc30 => ?_)
    ·replace H := if_t hc30 H
     refine za (wd (zz rfl) (wd (zg q5_8) (wd (zz rfl) (wd (ze yA rfl (o' := 2) rfl) (wd (zj zQ rfl ((S.blk 0).cell (Nd.get_l _))) ?_)))))
     obtain ⟨hi31, H⟩ := xg H
     refine wd (zT vm rfl rfl (S.rdO 1) (zI hi31).1 (zI hi31).2) (wd (zj jj rfl ((S.rdO 1).one (xJ false (zI hi31)) rfl)) (wd (zG rfl) ?_))
     refine wg (fun hg => zz rfl) ?_
     refine wg (fun hg => ze yv rfl (o' := 3) rfl) ?_
     refine wg (fun hg => zj zQ (zt hg) ((S.blk 0).cell (Nd.get_r _))) ?_
     obtain ⟨hi32, H⟩ := chk_g H
     refine wg (fun hg => zT vm (zt hg) (zt hg) (S.rdO 1) (zI (hi32 (by simpa using hg))).1 (zI (hi32 (by simpa using hg))).2) ?_
     refine wg (fun hg => zj jj (zt hg) ((S.rdO 1).one (xJ false (zI (hi32 (by simpa using hg)))) rfl)) (wd (xD rfl (fun hp => (zt (xy hp)))) ?_)
     obtain ⟨hi33, H⟩ := xg H
     refine wd (zT vm rfl rfl (S.rdO 1) (zI hi33).1 (zI hi33).2) ?_
     refine uN (C := bc) (a := (at_ false x5_1 ((at_ Nd.z (a0.getD []) x5_0).l)) || (at_ false x5_1 ((at_ Nd.z (a0.getD []) x5_0).r))) jj rfl rfl (S.sl 1) (zI hi33) rfl rfl fun w34 O hw34 => ?_
     have hlw34 := S.lenO 1
     replace S := S.push 1 O (by rw [List.length_set]; exact hlw34) hw34 (fun i hi => .inl hi)
     clear O
     refine zb (za (wd (zg q5_8) (wd (vT rfl rfl) (wd (zh rfl) (zb ?_)))))
     replace S := S.arr [0] [0, 1]
     obtain rfl := Option.some.inj H
     exact ⟨rfl, (by repeat first | exact Dif.refl _ _ | exact Dif.self _ _ _ | refine Dif.upd ?_ rfl _ | refine Dif.mask ?_ rfl _), (m5, (IntKind.i64.wrap (x5_0 + 1), x5_1.set (x5_0).toNat ((at_ false x5_1 ((at_ Nd.z (a0.getD []) x5_0).l)) || (at_ false x5_1 ((at_ Nd.z (a0.getD []) x5_0).r))))), ⟨e5, rfl, S⟩, by dsimp only; omega⟩
    ·replace H := if_f hc30 H
     refine zd (za (wd (zU rfl rfl) (wd (zm rfl) (zb ?_))))
     refine zF rfl (fun hc35 => ?_) (fun hc35 => ?_)
     ·replace H := if_t hc35 H
      refine za (wd (zz rfl) (wd (zg q5_8) (wd (zz rfl) (wd (ze yA rfl (o' := 2) rfl) (wd (zj zQ rfl ((S.blk 0).cell (Nd.get_l _))) ?_)))))
      obtain ⟨hi36, H⟩ := xg H
      refine wd (zT vm rfl rfl (S.rdO 1) (zI hi36).1 (zI hi36).2) (wd (zj jj rfl ((S.rdO 1).one (xJ false (zI hi36)) rfl)) (wd (xf rfl) (wd (zG rfl) ?_)))
      refine wg (fun hg => zz rfl) ?_
      refine wg (fun hg => ze yv rfl (o' := 3) rfl) ?_
      refine wg (fun hg => zj zQ (zt hg) ((S.blk 0).cell (Nd.get_r _))) ?_
      obtain ⟨hi37, H⟩ := chk_g H
      refine wg (fun hg => zT vm (zt hg) (zt hg) (S.rdO 1) (zI (hi37 (by simpa using hg))).1 (zI (hi37 (by simpa using hg))).2) ?_
      refine wg (fun hg => zj jj (zt hg) ((S.rdO 1).one (xJ false (zI (hi37 (by simpa using hg)))) rfl)) (wd (xD rfl (fun hp => (zt (xy hp)))) ?_)
      obtain ⟨hi38, H⟩ := xg H
      refine wd (zT vm rfl rfl (S.rdO 1) (zI hi38).1 (zI hi38).2) ?_
      refine uN (C := bc) (a := (!(at_ false x5_1 ((at_ Nd.z (a0.getD []) x5_0).l))) || (at_ false x5_1 ((at_ Nd.z (a0.getD []) x5_0).r))) jj rfl rfl (S.sl 1) (zI hi38) rfl rfl fun w39 O hw39 => ?_
      have hlw39 := S.lenO 1
      replace S := S.push 1 O (by rw [List.length_set]; exact hlw39) hw39 (fun i hi => .inl hi)
      clear O
      refine zb (za (wd (zg q5_8) (wd (vT rfl rfl) (wd (zh rfl) (zb ?_)))))
      replace S := S.arr [0] [0, 1]
      obtain rfl := Option.some.inj H
      exact ⟨rfl, (by repeat first | exact Dif.refl _ _ | exact Dif.self _ _ _ | refine Dif.upd ?_ rfl _ | refine Dif.mask ?_ rfl _), (m5, (IntKind.i64.wrap (x5_0 + 1), x5_1.set (x5_0).toNat ((!(at_ false x5_1 ((at_ Nd.z (a0.getD []) x5_0).l))) || (at_ false x5_1 ((at_ Nd.z (a0.getD []) x5_0).r))))), ⟨e5, rfl, S⟩, by dsimp only; omega⟩
     ·replace H := if_f hc35 H
      refine zB (za (wd (zg q5_8) (wd (vT rfl rfl) (wd (zh rfl) (zb ?_)))))
      replace S := S.arr [1] [0, 1]
      obtain rfl := Option.some.inj H
      exact ⟨rfl, (by repeat first | exact Dif.refl _ _ | exact Dif.self _ _ _ | refine Dif.upd ?_ rfl _ | refine Dif.mask ?_ rfl _), (m5, (IntKind.i64.wrap (x5_0 + 1), x5_1)), ⟨e5, rfl, S⟩, by dsimp only; omega⟩
 rintro g40 u41 ⟨s5, rfl, p5_8, S⟩
 have H := Ho5
 dsimp only [aft] at H
 refine zd (za (wd (zz rfl) (wd (zg rfl) ?_)))
 obtain ⟨hi42, H⟩ := xg H
 refine wd (zT vm rfl rfl (S.rdO 0) (zI hi42).1 (zI hi42).2) (wd (zj jj rfl ((S.rdO 0).one (xJ false (zI hi42)) rfl)) (wd (zm rfl) (zb (zw ?_))))
 refine ⟨_, (zS (zf rfl)), ?_⟩
 replace S := S.arr [] []
 obtain rfl := Option.some.inj H
 exact ⟨rfl, S⟩
theorem ref08_True_st {A : Nat → Prop} {N : Oth} {w : World} {a0 : Tb} {a_0 : Option Addr} {a1 : Int} {a2 : List ByteArray} {s_2 : SlV} (S : St A N w w [] [oR a_0 a0, fS 1 SC s_2 a2]) {k : Nat} {r : Bool} (H : ref08_True.f k a0 a1 a2 = some r) :
  Calls PP jG #[.pointer a_0, .int .i64 a1, s_2.v] w fun e w' => ∃ v, e = .returned v ∧ (v = .bool r ∧ St A N w w' [] []) := by
 have main : ∀ (k : Nat) {A : Nat → Prop} {N : Oth} {w : World} {a0 : Tb} {a_0 : Option Addr} {a1 : Int} {a2 : List ByteArray} {s_2 : SlV} (S : St A N w w [] [oR a_0 a0, fS 1 SC s_2 a2]) {r : Bool} (H : ref08_True.f k a0 a1 a2 = some r), Calls PP jG #[.pointer a_0, .int .i64 a1, s_2.v] w fun e w' => ∃ v, e = .returned v ∧ (v = .bool r ∧ St A N w w' [] []) := by
  intro k
  induction k with
  | zero => intro A N w a0 a_0 a1 a2 s_2 S r H; cases H
  | succ k ih => intro A N w a0 a_0 a1 a2 s_2 S r H; exact ref08_True_gst ih S H
 exact main k S H
theorem law16_HilbertSound_st {A : Nat → Prop} {N : Oth} {w : World} {a0 : List Nd} {s_0 : SlV} {a1 : List Int} {s_1 : SlV} {a2 : List Ln} {s_2 : SlV} {a3 : List ByteArray} {s_3 : SlV} (S : St A N w w [] [fS 4 Nd.C s_0 a0, fS 1 IC s_1 a1, fS 4 Ln.C s_2 a2, fS 1 SC s_3 a3, oEt, oPw]) {k : Nat} {r : Bool} (H : law16_HilbertSound.f k a0 a1 a2 a3 = some r) :
  Calls PP yr #[s_0.v, s_1.v, s_2.v, s_3.v] w fun e w' => ∃ v, e = .returned v ∧ (v = .bool r ∧ St A N w w' [] []) := by
 unfold law16_HilbertSound.f at H
 refine zA (n := 75) vr rfl rfl (by simp) (zd (za (wd (zm rfl) (zb (zd (za (wd (zz rfl) ?_)))))))
 obtain ⟨r1, er1, H⟩ := zp H
 obtain ⟨B3, MB3, SB3, back⟩ := S.calln 0 ((.z 0 rfl .nil))
 refine zr (zo ca_law04_Tables) (by decide) (law04_Tables_st SB3 er1) ?_
 rintro _ w2 ⟨a4, a5, rfl, S2⟩
 replace S := back _ _ _ _ S2 rfl
 clear back S2 SB3
 refine wd (zX rfl) (wd (zq rfl rfl) (wd (zq rfl rfl) (wd (xa rfl) (wd (xa rfl) (zb (zd (za ?_)))))))
 refine wd (zk rfl) (wd (zz rfl) ?_)
 refine xB (C := Ln.C) (l := ([] : List Ln)) (vs := []) zW el_Ln.zero rfl rfl (fun a _ => Ln.len a) (by decide) rfl (by decide) fun b7 w6 s8 hBw6 hw6 => ?_
 replace S := S.lit hBw6 hw6 (by simp)
 refine wd (zz rfl) ?_
 obtain ⟨ha11, H⟩ := xg H
 have ha11 := of_decide_eq_true ha11
 refine wl_appendm (C := Ln.C) zW el_Ln rfl rfl (S.sl 0) (S.rd 2) Ln.one ha11 (by omega) (by decide) fun s10 w9 O hw9 gw9 => ?_
 replace S := S.push 0 O (by first | (simp; done) | (simp; omega)) hw9 gw9
 clear O
 obtain ⟨r12, er12, H⟩ := zp H
 replace S := S.front 1
 obtain ⟨B14, MB14, SB14, back⟩ := S.calln 1 ((.z 1 rfl (.s 0 rfl .nil)))
 refine zr (zo zaH) (by decide) (zaO SB14 er12) ?_
 rintro _ w13 ⟨rfl, S2⟩
 replace S := back _ _ _ _ S2 rfl
 clear back S2 SB14
 refine wd (zX rfl) (wd (zq rfl rfl) (wd (zq rfl rfl) (wd (zh rfl) (wd (zh rfl) (zb (zd (zd (za ?_))))))))
 refine wd (zg rfl) ?_
 obtain ⟨r15, er15, H⟩ := zp H
 obtain ⟨B17, MB17, SB17, back⟩ := S.calln 0 ((.nil))
 refine zr (zo vZ) (by decide) (uc SB17 er15) ?_
 rintro _ w16 ⟨rfl, S2⟩
 replace S := back _ _ _ _ S2 rfl
 clear back S2 SB17
 refine wd (xl rfl rfl) (zb ?_)
 refine zF rfl (fun hc18 => ?_) (fun hc18 => ?_)
 ·replace H := if_t hc18 H
  refine zd (za (wd (zg rfl) (wd (zU rfl rfl) (wd (zG rfl) ?_))))
  obtain ⟨r19, er19, H⟩ := zp H
  refine ya (j := 2) (pol := true) rfl rfl rfl (by decide) (fun hg => zL ca_law16_heads rfl) (by decide) (fun hg => (have ⟨M, SS⟩ := S.lend ((.z 4 rfl (.z 5 rfl .nil))); quiet (law16_heads_st SS (if_t (by simpa using hg) er19)) (fun v w' h => ⟨h.1, _, _, h.2⟩))) fun w20 hw20 => ?_
  replace S := S.ext hw20
  refine wd (xn rfl (fun hp => (zt (xy hp)))) (wd (zm rfl) (zb (zw ?_)))
  refine ⟨_, (zS (zf rfl)), ?_⟩
  replace S := S.arr [] []
  obtain rfl := Option.some.inj H
  exact ⟨rfl, S⟩
 replace H := if_f hc18 H
 refine zB (zd (zd (za (wd (zk rfl) (wd (zg rfl) ?_)))))
 obtain ⟨r21, er21, H⟩ := zp H
 obtain ⟨B23, MB23, SB23, back⟩ := S.calln 0 ((.o 2 rfl .nil))
 refine zr (zo jL) (by decide) (jK SB23 er21) ?_
 rintro _ w22 ⟨rfl, S2⟩
 replace S := back _ _ _ _ S2 rfl
 clear back S2 SB23
 refine wd (xf rfl) (zb ?_)
 refine zF rfl (fun hc24 => ?_) (fun hc24 => ?_)
 ·replace H := if_t hc24 H
  refine zd (za (wd (zm rfl) (zb (zw ?_))))
  refine ⟨_, (zS (zf rfl)), ?_⟩
  replace S := S.arr [] []
  obtain rfl := Option.some.inj H
  exact ⟨rfl, S⟩
 replace H := if_f hc24 H
 refine zB (zd (za (wd (zm rfl) (zb (zd (zd (za (wd (zh rfl) (zb ?_)))))))))
 obtain ⟨o25, e25, Ho25⟩ := zp H
 clear H
 refine x7 [8, 13, 14, 41, 42, 43, 44, 45, 46, 47, 48, 49, 50, 51, 52, 53, 54, 55, 56, 57, 58, 59, 60, 61, 62, 63] (fun fr W => ∃ s25 : Bool, o25 = .inl s25 ∧ fr 13 = .bool s25 ∧ St A N w W [oT a4 r12.1, oS T_Ln 4 Ln.C s10 (([] : List Ln) ++ a2), oR a5 r1.2] [fS 4 Nd.C s_0 a0, fS 1 IC s_1 a1, fS 4 Ln.C s_2 a2, fS 1 SC s_3 a3, oEt, oPw]) ?_ ?_
 ·refine zO ?_
  refine xW (α := Nat × Int × Bool) [8, 13, 14, 41, 42, 43, 44, 45, 46, 47, 48, 49, 50, 51, 52, 53, 54, 55, 56, 57, 58, 59, 60, 61, 62, 63] (fun x fr W => (x.1 : Int) = (a1.length : Int) - x.2.1 ∧ 0 ≤ x.2.1 ∧ forN (fun i s => law16_HilbertSound.b0 r1 a1 k a3 i s) x.1 x.2.1 x.2.2 = some o25 ∧ fr 14 = .int .i64 x.2.1 ∧ fr 13 = .bool (x.2.2) ∧ St A N w W [oT a4 r12.1, oS T_Ln 4 Ln.C s10 (([] : List Ln) ++ a2), oR a5 r1.2] [fS 4 Nd.C s_0 a0, fS 1 IC s_1 a1, fS 4 Ln.C s_2 a2, fS 1 SC s_3 a3, oEt, oPw]) (fun x => x.1) (((a1.length : Int) - 0).toNat, 0, true) ⟨(by dsimp only; have hle := Int.natCast_nonneg (a1.length); omega), (Int.le_refl _), (by dsimp only; exact e25), rfl, rfl, S⟩ ?_
  rintro ⟨m25, i25, x25_0⟩ g25 u25 ⟨hm25, hl25, e25, q25_i, q25_13, S⟩
  try dsimp only at hm25
  try dsimp only at hl25
  try dsimp only at e25
  try dsimp only at S
  try dsimp only at q25_i
  try dsimp only at q25_13
  refine zd (zd (za (wd (zg q25_i) (wd (zz rfl) (wd (xe xF rfl (S.rd 1)) (wd (xU rfl rfl) (zb ?_)))))))
  refine zF rfl (fun hc26 => ?_) (fun hc26 => ?_)
  rotate_left
  ·refine yp ?_
   have hge : (a1.length : Int) ≤ i25 := Int.not_lt.1 (of_decide_eq_false hc26)
   obtain rfl : m25 = 0 := by omega
   replace e25 := kB e25
   exact ⟨rfl, (((((Dif.self _ _ _).upd rfl _).upd rfl _).upd rfl _).upd rfl _), x25_0, e25, q25_13, S⟩
  refine zB ?_
  have hlt25 : i25 < (a1.length : Int) := of_decide_eq_true hc26
  obtain ⟨m25, rfl⟩ : ∃ m, m25 = m + 1 := ⟨m25 - 1, by omega⟩
  obtain ⟨q25, H, e25⟩ := kC e25
  unfold law16_HilbertSound.b0 at H
  try dsimp only at H
  have hb25 := (S.len 1)
  refine zd ?_
  refine zO (zd (zd (za (wd (zk rfl) (wd (zz rfl) (wd (zg q25_i) (wd (zT xF rfl rfl (S.rd 1) (And.intro (show 0 ≤ i25 by omega) (show i25 < (a1.length : Int) from hlt25)).1 (And.intro (show 0 ≤ i25 by omega) (show i25 < (a1.length : Int) from hlt25)).2) ?_)))))))
  refine wd (zj zQ rfl ((S.rd 1).one (xJ (0 : Int) (And.intro (show 0 ≤ i25 by omega) (show i25 < (a1.length : Int) from hlt25))) rfl)) ?_
  obtain ⟨r28, er28, H⟩ := zp H
  obtain ⟨B30, MB30, SB30, back⟩ := S.calln 0 ((.o 2 rfl .nil))
  refine zr (zo jL) (by decide) (jK SB30 er28) ?_
  rintro _ w29 ⟨rfl, S2⟩
  replace S := back _ _ _ _ S2 rfl
  clear back S2 SB30
  refine wd (xf rfl) (zb ?_)
  refine zF rfl (fun hc31 => ?_) (fun hc31 => ?_)
  ·replace H := if_t hc31 H
   refine zd (za (wd (zm rfl) (zb (zw ?_))))
   refine ⟨_, (zS (zf rfl)), ?_⟩
   replace S := S.arr [] []
   obtain rfl := Option.some.inj H
   obtain rfl := e25
   obtain rfl := jb Ho25
   exact ⟨rfl, S⟩
  replace H := if_f hc31 H
  refine zB (za (wd (zG q25_13) (wd (zG rfl) ?_)))
  refine wg (fun hg => zk rfl) ?_
  refine wg (fun hg => zz rfl) ?_
  refine wg (fun hg => zg q25_i) ?_
  refine wg (fun hg => zT xF (zt hg) (zt hg) (S.rd 1) (And.intro (show 0 ≤ i25 by omega) (show i25 < (a1.length : Int) from hlt25)).1 (And.intro (show 0 ≤ i25 by omega) (show i25 < (a1.length : Int) from hlt25)).2) ?_
  refine wg (fun hg => zj zQ (zt hg) ((S.rd 1).one (xJ (0 : Int) (And.intro (show 0 ≤ i25 by omega) (show i25 < (a1.length : Int) from hlt25))) rfl)) ?_
  refine wg (fun hg => zz rfl) ?_
  obtain ⟨r33, er33, H⟩ := zp H
  refine ya (j := 1) (pol := true) rfl rfl rfl (by decide) (fun hg => zL ca_ref08_True (zM (zt hg) (zM (zt hg) (zM (zt hg) rfl)))) (by decide) (fun hg => (have ⟨M, SS⟩ := S.lend ((.o 2 rfl (.z 3 rfl .nil))); quiet (ref08_True_st SS (if_t (by simpa using hg) er33)) (fun v w' h => ⟨h.1, _, _, h.2⟩))) fun w34 hw34 => ?_
  replace S := S.ext hw34
  refine wd (xn rfl (fun hp => (zt (xy hp)))) (wd (zm rfl) (zb (za (wd (zg q25_i) (wd (xG rfl rfl (c := i25 + 1) rfl (by omega) (by omega)) ?_)))))
  refine wd (zh rfl) (zb ?_)
  obtain rfl := Option.some.inj H
  exact ⟨rfl, (by repeat first | exact Dif.refl _ _ | exact Dif.self _ _ _ | refine Dif.upd ?_ rfl _ | refine Dif.mask ?_ rfl _), (m25, i25 + 1, x25_0 && r33), ⟨(by dsimp only; omega), (by dsimp only; omega), e25, rfl, rfl, S⟩, by dsimp only; omega⟩
 rintro g35 u36 ⟨s25, rfl, p25_13, S⟩
 have H := Ho25
 dsimp only [aft] at H
 refine zd (za (wd (zG p25_13) (wd (xf rfl) (wd (zG rfl) ?_))))
 refine wg (fun hg => zk rfl) ?_
 refine wg (fun hg => zg rfl) ?_
 refine wg (fun hg => zz rfl) ?_
 obtain ⟨r37, er37, H⟩ := zp H
 refine ya (j := 2) (pol := false) rfl rfl rfl (by decide) (fun hg => zL ca_ref08_True (zM (zt hg) (zM (zt hg) (zM (zt hg) rfl)))) (by decide) (fun hg => (have ⟨M, SS⟩ := S.lend ((.o 2 rfl (.z 3 rfl .nil))); quiet (ref08_True_st SS (if_t (by simpa using hg) er37)) (fun v w' h => ⟨h.1, _, _, h.2⟩))) fun w38 hw38 => ?_
 replace S := S.ext hw38
 refine wd (xD rfl (fun hp => (zt (xy hp)))) (wd (zG rfl) ?_)
 obtain ⟨r39, er39, H⟩ := zp H
 refine ya (j := 8) (pol := true) rfl rfl rfl (by decide) (fun hg => zL ca_law16_heads rfl) (by decide) (fun hg => (have ⟨M, SS⟩ := S.lend ((.z 4 rfl (.z 5 rfl .nil))); quiet (law16_heads_st SS (if_t (by simpa using hg) er39)) (fun v w' h => ⟨h.1, _, _, h.2⟩))) fun w40 hw40 => ?_
 replace S := S.ext hw40
 refine wd (xn rfl (fun hp => (zt (xy hp)))) (wd (zm rfl) (zb (zw ?_)))
 refine ⟨_, (zS (zf rfl)), ?_⟩
 replace S := S.arr [] []
 obtain rfl := Option.some.inj H
 exact ⟨rfl, S⟩
end Go.Proofs.YtflieamjacclnaaGreatDoor
end
section
namespace Go.Proofs.YtflieamjacclnaaGreatDoor
open Gw
theorem forN_find {σ ρ : Type} {b : Int → σ → Option (Stp σ ρ)} {p : Nat → Bool} {r : Nat → ρ} : ∀ (n i : Nat) (s : σ), (∀ j : Nat, i ≤ j → j < i + n → b j s = some (if p j then .ret (r j) else .go s)) → forN b n i s = some (match (List.range' i n).find? p with | some j => .inr (r j) | none => .inl s)
 | 0, i, s, _ => rfl
 | n + 1, i, s, h => by
  rw [forN, h i (Nat.le_refl _) (by omega), List.range'_succ]
  cases hp : p i with
  | true => simp [hp, List.find?_cons]
  | false =>
   have := forN_find n (i + 1) s fun j h1 h2 => h j (by omega) (by omega)
   simpa [hp, List.find?_cons] using this
abbrev nd (M : List Nd) (i : Int) : Nd := (zao M i).1
structure Wf (M : List Nd) : Prop where
 len : M.length ≤ 1024
 nodup : M.Nodup
 kind : ∀ i : Int, inb i M.length = true → (nd M i).kind = 1 ∨ (nd M i).kind = 2 ∨ (nd M i).kind = 3 ∨ (nd M i).kind = 4 ∨ (nd M i).kind = 5
 kids : ∀ i : Int, inb i M.length = true → (nd M i).kind = 3 ∨ (nd M i).kind = 4 ∨ (nd M i).kind = 5 → (0 ≤ (nd M i).l ∧ (nd M i).l < i) ∧ 0 ≤ (nd M i).r ∧ (nd M i).r < i
 fits : ∀ (j : Nat) (n : Nd), M[j]? = some n → y8 (M.take j) n = 0
theorem Wf.left {M : List Nd} (h : Wf M) {i : Int} (hi : inb i M.length = true) (hk : (nd M i).kind = 3 ∨ (nd M i).kind = 4 ∨ (nd M i).kind = 5) : inb (nd M i).l M.length = true := by
 have h1 := h.kids i hi hk
 have h2 := zI hi
 simp only [inb, Bool.and_eq_true, decide_eq_true_eq]; omega
theorem Wf.right {M : List Nd} (h : Wf M) {i : Int} (hi : inb i M.length = true) (hk : (nd M i).kind = 3 ∨ (nd M i).kind = 4 ∨ (nd M i).kind = 5) : inb (nd M i).r M.length = true := by
 have h1 := h.kids i hi hk
 have h2 := zI hi
 simp only [inb, Bool.and_eq_true, decide_eq_true_eq]; omega
theorem Wf.bare {M : List Nd} (h : Wf M) {i : Int} (hi : inb i M.length = true) (hk : (nd M i).kind = 3 ∨ (nd M i).kind = 4 ∨ (nd M i).kind = 5) : (nd M i).name = ⟨#[]⟩ := by
 have h1 := zI hi
 have h2 : i.toNat < M.length := by omega
 have e : nd M i = M[i.toNat] := by
  unfold nd zao v8
  rw [if_pos (by simp; omega)]
  simp [List.getD_eq_getElem?_getD, h2]
 have h3 := h.fits i.toNat _ (List.getElem?_eq_getElem h2)
 rw [← e] at h3
 unfold y8 at h3
 rw [if_neg (by omega), if_neg (by omega), if_pos hk] at h3
 split at h3
 ·simp at h3
 ·rename_i hh
  simp only [not_or, Decidable.not_not] at hh
  exact hh.1.1
theorem find_congr {α : Type} {p q : α → Bool} : ∀ {l : List α}, (∀ x ∈ l, p x = q x) → l.find? p = l.find? q
 | [], _ => rfl
 | x :: l, h => by
  rw [List.find?_cons, List.find?_cons, h x (by simp), find_congr fun y hy => h y (by simp [hy])]
theorem any_find {α : Type} {p : α → Bool} : ∀ (l : List α), l.any p = (l.find? p).isSome
 | [] => rfl
 | x :: l => by
  rw [List.any_cons, List.find?_cons, any_find l]
  cases p x <;> rfl
theorem wrap_small {n : Int} (h : 0 ≤ n ∧ n < 9223372036854775808) : IntKind.i64.wrap n = n := by
 exact IntWalk.i64_in _ ⟨by omega, by omega⟩
theorem idx_find (n : Nd) : ∀ (N : List Nd) (s : Nat), (List.range' s N.length).find? (fun k => decide (N.getD (k - s) Nd.z = n)) = (N.idxOf? n).map (· + s)
 | [], s => rfl
 | a :: N, s => by
  rw [List.length_cons, List.range'_succ, List.find?_cons, List.idxOf?_cons]
  by_cases h : a = n
  ·simp [h]
  ·have h1 : (a == n) = false := by simpa using h
   have h2 : (List.range' (s + 1) N.length).find? (fun k => decide ((a :: N).getD (k - s) Nd.z = n)) = (List.range' (s + 1) N.length).find? (fun k => decide (N.getD (k - (s + 1)) Nd.z = n)) := find_congr fun k hk => by
    have hk := (List.mem_range'_1.1 hk).1
    rw [show k - s = (k - (s + 1)) + 1 by omega]; simp
   simp only [Nat.sub_self, List.getD_cons_zero, h, decide_false, h1, h2, idx_find n N (s + 1)]
   cases N.idxOf? n with
   | none => rfl
   | some k => simp; omega
theorem docFind (N : List Nd) (n : Nd) : ref03_T_Find.f (some N) n = some (match N.idxOf? n with | some k => ((k : Int), true) | none => (0, false)) := by
 unfold ref03_T_Find.f
 have h1 := forN_find (b := fun i s => ref03_T_Find.b0 (some N) n i) (p := fun k => decide (N.getD k Nd.z = n)) (r := fun k => ((k : Int), true)) N.length 0 () (by
  intro k _ hk
  unfold ref03_T_Find.b0 at_
  rw [Int.toNat_natCast, Option.getD_some]
  split <;> rfl)
 have e0 : (((N.length : Nat) : Int) - 0).toNat = N.length := by omega
 simp only [Option.isSome_some, Option.getD_some, chk, if_true, e0]
 rw [show (0 : Int) = ((0 : Nat) : Int) from rfl, h1]
 have h2 := idx_find n N 0
 simp only [Nat.sub_zero, Nat.add_zero] at h2
 rw [h2]
 cases N.idxOf? n <;> rfl
theorem bind_eq {α β : Type} {x : Option α} {y : α} {f : α → Option β} {r : Option β} (hx : x = some y) (h : f y = r) : x.bind f = r := by rw [hx]; exact h
theorem docPut {N : List Nd} {n : Nd} (hN : N.length ≤ 1024) (hn : n.name.size < 9223372036854775808) : ref03_T_Put.f (some N) n = some (some (putS N n).1, (putS N n).2.1, (putS N n).2.2) := by
 have hrow : ∀ i : Int, ref03_T_Has.f (some N) i = some (v8 N i) := fun i => by simp [ref03_T_Has.f, chk, v8]
 have hend : ((ref03_T_Find.f (some N) n).bind fun r25 => if r25.2 then some (some N, r25.1, 0) else chk (some N).isSome (if decide (1024 ≤ ((((some N).getD []).length : Nat) : Int)) then some ((some ((some N).getD [])), 0, 30) else chk (decide ((((some N).getD []).length + 1) * 40 ≤ 140737488355328)) (some ((some (((some N).getD []) ++ [n])), IntKind.i64.wrap (((((some N).getD []) ++ [n]).length : Int) - 1), 0)))) =
   (match N.idxOf? n with | some k => some (some N, (k : Int), (0 : Int)) | none => if 1024 ≤ N.length then some (some N, 0, 30) else some (some (N ++ [n]), (N.length : Int), 0)) := by
  rw [docFind]
  cases N.idxOf? n with
  | some k => rfl
  | none =>
   simp only [Option.bind_some, Bool.false_eq_true, if_false, Option.isSome_some, Option.getD_some, chk, if_true, decide_eq_true_eq]
   by_cases h : 1024 ≤ N.length
   ·have h1 : (1024 : Int) ≤ (N.length : Int) := by omega
    simp only [h, h1, if_true]
   ·have h1 : ¬ (1024 : Int) ≤ (N.length : Int) := by omega
    have h2 : (N.length + 1) * 40 ≤ 140737488355328 := by omega
    have h3 : IntKind.i64.wrap (((N ++ [n]).length : Int) - 1) = (N.length : Int) := by
     rw [wrap_small (by simp; omega)]; simp
    simp only [h, h1, h2, h3, if_true, if_false]
 unfold ref03_T_Put.f
 refine bind_eq (y := if y8 N n = 0 then .inl (some N) else .inr (some N, 0, y8 N n)) ?_ ?_
 ·unfold y8
  simp only [hrow, ref03_Word.f, hn, chk, decide_true, if_true, Option.bind_some]
  by_cases k1 : n.kind = 1
  ·simp only [k1, decide_true, if_true]
   by_cases hl : n.l = 0
   ·by_cases hr : n.r = 0
    ·by_cases hw : isWord n.name <;> simp [hl, hr, hw]
    ·simp [hl, hr]
   ·simp [hl]
  by_cases k2 : n.kind = 2
  ·have e : (n = { Nd.z with kind := 2 }) ↔ (n.name = ⟨#[]⟩ ∧ n.l = 0 ∧ n.r = 0) := by
    constructor
    ·intro h; rw [h]; exact ⟨rfl, rfl, rfl⟩
    ·rintro ⟨h1, h2, h3⟩
     obtain ⟨a, b, c, d⟩ := n
     simp only at k2 h1 h2 h3
     subst k2 h1 h2 h3; rfl
   simp only [k2, decide_true, if_true, show ¬ ((2 : Int) = 1) by decide, decide_false, Bool.false_eq_true, if_false, e]
   by_cases hm : n.name = ⟨#[]⟩
   ·by_cases hl : n.l = 0
    ·by_cases hr : n.r = 0 <;> simp [hm, hl, hr]
    ·simp [hm, hl]
   ·simp [hm]
  by_cases k3 : n.kind = 3 ∨ n.kind = 4 ∨ n.kind = 5
  ·have ho : ((if decide (n.kind = 3) = true then some (decide (n.kind = 3)) else if decide (n.kind = 4) = true then some (decide (n.kind = 4)) else some (decide (n.kind = 5))) : Option Bool) = some true := by
    rcases k3 with k | k | k <;> simp [k]
   simp only [k1, k2, k3, decide_false, Bool.false_eq_true, if_false, if_true]
   simp only [decide_eq_true_eq] at ho ⊢
   rw [ho]
   simp only [Option.bind_some, if_true]
   by_cases hm : n.name = ⟨#[]⟩
   ·cases hl : v8 N n.l with
    | false => simp [hm, hl]
    | true => cases hr : v8 N n.r <;> simp [hm, hl, hr]
   ·simp [hm]
  ·have ho : ((if decide (n.kind = 3) = true then some (decide (n.kind = 3)) else if decide (n.kind = 4) = true then some (decide (n.kind = 4)) else some (decide (n.kind = 5))) : Option Bool) = some false := by
    simp only [not_or] at k3; simp [k3.1, k3.2.1, k3.2.2]
   simp only [k1, k2, k3, decide_false, Bool.false_eq_true, if_false, if_true]
   simp only [decide_eq_true_eq] at ho ⊢
   rw [ho]
   simp
 ·by_cases hf : y8 N n = 0
  ·rw [if_pos hf]
   refine Eq.trans (show _ = _ from hend) ?_
   unfold putS
   rw [if_pos hf]
   cases N.idxOf? n with
   | some k => rfl
   | none =>
    by_cases h : 1024 ≤ N.length
    ·simp only [if_pos h]
    ·simp only [if_neg h]
  ·rw [if_neg hf, put_bad hf]; rfl
theorem progPut {N : List Nd} {n : Nd} (hn : n.name.size < 9223372036854775808) : formula_Table_Put.f (some N) n = some (some (putS N n).1, (putS N n).2.1, (putS N n).2.2) := by
 simp [formula_Table_Put.f, chk, hn]
theorem rows_take {M : List Nd} {i : Nat} (hi : i < M.length) : at_ Nd.z M i = M[i] := by
 unfold at_; rw [Int.toNat_natCast, List.getD_eq_getElem?_getD, List.getElem?_eq_getElem hi]; rfl
theorem wf_push {N : List Nd} {n : Nd} (h : Wf N) (hf : y8 N n = 0) (hl : N.length < 1024) (hnew : n ∉ N) : Wf (N ++ [n]) := by
 have hnd : ∀ i : Int, inb i N.length = true → nd (N ++ [n]) i = nd N i := by
  intro i hi
  have h1 := zI hi
  unfold nd zao v8
  have h2 : i.toNat < N.length := by omega
  rw [if_pos (by simp; omega), if_pos (by simp; omega)]
  simp only
  rw [List.getD_eq_getElem?_getD, List.getElem?_append_left h2, ← List.getD_eq_getElem?_getD]
 have hlast : nd (N ++ [n]) N.length = n := by
  unfold nd zao v8
  rw [if_pos (by simp; omega)]
  simp
 have hsplit : ∀ i : Int, inb i (N ++ [n]).length = true → inb i N.length = true ∨ i = N.length := by
  intro i hi
  have := zI hi
  simp at this
  simp only [inb, Bool.and_eq_true, decide_eq_true_eq]; omega
 have hkind : n.kind = 1 ∨ n.kind = 2 ∨ n.kind = 3 ∨ n.kind = 4 ∨ n.kind = 5 := by
  unfold y8 at hf
  by_cases k1 : n.kind = 1
  ·exact .inl k1
  by_cases k2 : n.kind = 2
  ·exact .inr (.inl k2)
  by_cases k3 : n.kind = 3 ∨ n.kind = 4 ∨ n.kind = 5
  ·exact .inr (.inr k3)
  ·simp [k1, k2, k3] at hf
 refine ⟨by simp; omega, by rw [List.nodup_append]; exact ⟨h.nodup, by simp, fun a ha b hb e => hnew (by rw [← List.mem_singleton.1 hb, ← e]; exact ha)⟩, fun i hi => ?_, fun i hi hk => ?_, fun j m hm => ?_⟩
 ·rcases hsplit i hi with h1 | rfl
  ·rw [hnd i h1]; exact h.kind i h1
  ·rw [hlast]; exact hkind
 ·rcases hsplit i hi with h1 | rfl
  ·rw [hnd i h1] at hk ⊢; exact h.kids i h1 hk
  ·rw [hlast] at hk ⊢
   unfold y8 at hf
   have k1 : ¬ n.kind = 1 := by omega
   have k2 : ¬ n.kind = 2 := by omega
   rw [if_neg k1, if_neg k2, if_pos hk] at hf
   split at hf
   ·simp at hf
   ·rename_i hh
    simp only [not_or, Bool.not_eq_false] at hh
    obtain ⟨⟨_, h1⟩, h2⟩ := hh
    simp only [v8, Bool.and_eq_true, decide_eq_true_eq] at h1 h2
    exact ⟨h1, h2⟩
 ·by_cases hj : j < N.length
  ·rw [List.getElem?_append_left hj] at hm
   rw [List.take_append_of_le_length (by omega)]; exact h.fits j m hm
  ·have hj2 : j < (N ++ [n]).length := (List.getElem?_eq_some_iff.1 hm).1
   have e : j = N.length := by simp at hj2; omega
   subst e
   simp at hm
   subst hm
   simpa using hf
theorem from_some {rows : List Nd} (hn : ∀ n ∈ rows, n.name.size < 9223372036854775808) : ∃ r : Tb × Int, ref03_From.f rows = some r ∧ formula_From.f rows = some r ∧ (r.2 = 0 → r.1 = some rows ∧ Wf rows) := by
 have hstep : ∀ (N : List Nd) (i : Nat), i < rows.length → N.length ≤ 1024 → ref03_From.b0 rows i (some N) = some (if (putS N (at_ Nd.z rows i)).2.2 ≠ 0 then .ret (none, (putS N (at_ Nd.z rows i)).2.2) else if (putS N (at_ Nd.z rows i)).2.1 ≠ i then .ret (none, 31) else .go (some (putS N (at_ Nd.z rows i)).1)) ∧
   formula_From.b0 rows i (some N) = ref03_From.b0 rows i (some N) := by
  intro N i hi hN
  have hm : (at_ Nd.z rows i).name.size < 9223372036854775808 := by rw [rows_take hi]; exact hn _ (List.getElem_mem hi)
  have h1 : ref03_From.b0 rows i (some N) = some (if (putS N (at_ Nd.z rows i)).2.2 ≠ 0 then .ret (none, (putS N (at_ Nd.z rows i)).2.2) else if (putS N (at_ Nd.z rows i)).2.1 ≠ i then .ret (none, 31) else .go (some (putS N (at_ Nd.z rows i)).1)) := by
   unfold ref03_From.b0
   rw [docPut hN hm]
   simp only [Option.bind_some, decide_eq_true_eq]
   split
   ·rfl
   ·split <;> rfl
  refine ⟨h1, ?_⟩
  rw [h1]
  unfold formula_From.b0
  rw [progPut hm]
  simp only [Option.bind_some]
  by_cases e : (putS N (at_ Nd.z rows i)).2.2 = 0
  ·by_cases e2 : (putS N (at_ Nd.z rows i)).2.1 = i
   ·simp [e, e2]
   ·simp [e, e2]
  ·simp [e]
 have main : ∀ (n i : Nat), i + n = rows.length → i ≤ 1024 → Wf (rows.take i) → ∃ o, forN (fun j s => ref03_From.b0 rows j s) n i (some (rows.take i)) = some o ∧ forN (fun j s => formula_From.b0 rows j s) n i (some (rows.take i)) = some o ∧
   ((∃ e, e ≠ 0 ∧ o = .inr (none, e)) ∨ (o = .inl (some rows) ∧ Wf rows)) := by
  intro n
  induction n with
  | zero =>
   intro i hi _ hw
   rw [List.take_of_length_le (by omega)] at hw ⊢
   exact ⟨_, rfl, rfl, .inr ⟨rfl, hw⟩⟩
  | succ n ih =>
   intro i hi hle hw
   have hil : i < rows.length := by omega
   have hlen : (rows.take i).length = i := by simp; omega
   obtain ⟨h1, h2⟩ := hstep (rows.take i) i hil (by omega)
   simp only [forN]
   rw [h2, h1]
   by_cases e : (putS (rows.take i) (at_ Nd.z rows i)).2.2 = 0
   ·by_cases e2 : (putS (rows.take i) (at_ Nd.z rows i)).2.1 = i
    ·simp only [e, e2, ne_eq, not_true_eq_false, if_false, Option.bind_some]
     have hput : y8 (rows.take i) (at_ Nd.z rows i) = 0 ∧ i < 1024 ∧ at_ Nd.z rows i ∉ rows.take i ∧ (putS (rows.take i) (at_ Nd.z rows i)).1 = rows.take i ++ [at_ Nd.z rows i] := by
      by_cases hf : y8 (rows.take i) (at_ Nd.z rows i) = 0
      ·cases hk : (rows.take i).idxOf? (at_ Nd.z rows i) with
       | some k =>
        rw [put_old hf hk] at e2
        have : k < (rows.take i).length := by
         have := List.idxOf?_eq_some_iff.1 hk
         exact this.1
        simp only at e2; omega
       | none =>
        by_cases hl : 1024 ≤ (rows.take i).length
        ·rw [put_full hf hk hl] at e; simp at e
        ·rw [put_new hf hk hl]
         exact ⟨hf, by omega, List.idxOf?_eq_none_iff.1 hk, rfl⟩
      ·rw [put_bad hf] at e; exact absurd e hf
     obtain ⟨hf, hlt, hnew, hp⟩ := hput
     have ht : rows.take i ++ [at_ Nd.z rows i] = rows.take (i + 1) := by
      rw [rows_take hil, List.take_succ_eq_append_getElem hil]
     rw [hp, ht]
     have := ih (i + 1) (by omega) (by omega) (by rw [← ht]; exact wf_push hw hf (by omega) hnew)
     simpa using this
    ·simp only [e, e2, ne_eq, not_true_eq_false, not_false_eq_true, if_false, if_true, Option.bind_some]
     exact ⟨_, rfl, rfl, .inl ⟨31, by decide, rfl⟩⟩
   ·simp only [e, ne_eq, not_false_eq_true, if_true, Option.bind_some]
    exact ⟨_, rfl, rfl, .inl ⟨_, e, rfl⟩⟩
 have e0 : (((rows.length : Nat) : Int) - 0).toNat = rows.length := by omega
 obtain ⟨o, h1, h2, h3⟩ := main rows.length 0 (by omega) (by omega) ⟨by simp, by simp, fun i hi => absurd (zI hi) (by simp), fun i hi => absurd (zI hi) (by simp), fun j n h => by simp at h⟩
 unfold ref03_From.f formula_From.f formula_New.f
 rw [e0]
 simp only [Option.bind_some]
 rw [show (0 : Int) = ((0 : Nat) : Int) from rfl]
 rw [List.take_zero] at h1 h2
 rw [h1, h2]
 rcases h3 with ⟨e, he, rfl⟩ | ⟨rfl, hw⟩
 ·exact ⟨_, rfl, rfl, fun q => absurd q he⟩
 ·exact ⟨_, rfl, rfl, fun _ => ⟨rfl, hw⟩⟩
theorem both_some {rows : List Nd} (hn : ∀ n ∈ rows, n.name.size < 9223372036854775808) (hl : rows.length * 40 ≤ 140737488355328) : law03_Both.f rows = some (none, none, false) ∨ (law03_Both.f rows = some (some rows, some rows, true) ∧ Wf rows) := by
 obtain ⟨r, h1, h2, h3⟩ := from_some hn
 have hc : (([] : List Nd).length + rows.length) * 40 ≤ 140737488355328 := by rw [List.length_nil, Nat.zero_add]; exact hl
 unfold law03_Both.f
 rw [chk, if_pos (decide_eq_true hc), h1]
 simp only [Option.bind_some, List.nil_append, h2]
 by_cases e : r.2 = 0
 ·obtain ⟨h4, hw⟩ := h3 e
  exact .inr ⟨by rw [h4]; simp [e], hw⟩
 ·exact .inl (by simp [e])
end Go.Proofs.YtflieamjacclnaaGreatDoor
end
section
namespace Go.Proofs.YtflieamjacclnaaGreatDoor
open Gw
inductive Pt where
 | v (c : UInt8)
 | bot
 | bin (k : Int) (a b : Pt)
namespace Pt
def enc : Pt → List UInt8
 | v c => [c]
 | bot => [48]
 | bin k a b => (if k = 5 then 62 else if k = 3 then 38 else 124) :: (a.enc ++ b.enc)
def ok : Pt → Prop
 | v c => c.toNat ≠ 62 ∧ c.toNat ≠ 38 ∧ c.toNat ≠ 124 ∧ c.toNat ≠ 48
 | bot => True
 | bin k a b => (k = 5 ∨ k = 3 ∨ k = 4) ∧ a.ok ∧ b.ok
def dep : Pt → Nat
 | v _ => 1
 | bot => 1
 | bin _ a b => 1 + max a.dep b.dep
end Pt
def xZ (M : List Nd) : Pt → Int → List (Int × Int) → List (Int × Int) × Bool
 | .v c, id, s => (Gw.ins (c.toNat : Int) id s, !(Gw.look (c.toNat : Int) s).isSome || decide ((Gw.look (c.toNat : Int) s).getD 0 = id))
 | .bot, id, s => (s, decide ((nd M id).kind = 2))
 | .bin k a b, id, s => if (nd M id).kind ≠ k then (s, false) else if (xZ M a (nd M id).l s).2 then xZ M b (nd M id).r (xZ M a (nd M id).l s).1 else ((xZ M a (nd M id).l s).1, false)
theorem sb_cons (c : UInt8) (l : List UInt8) : sb ⟨(c :: l).toArray⟩ 0 = (c.toNat : Int) := by
 unfold sb
 rw [show (⟨(c :: l).toArray⟩ : ByteArray)[0]? = some c from rfl]
 rfl
theorem sfrom_cons (c : UInt8) (l : List UInt8) : sfrom ⟨(c :: l).toArray⟩ 1 = ⟨l.toArray⟩ := by
 unfold sfrom
 apply ByteArray.ext
 rw [ByteArray.data_extract]
 apply Array.toList_inj.1
 simp [ByteArray.size]
theorem size_cons (c : UInt8) (l : List UInt8) : (⟨(c :: l).toArray⟩ : ByteArray).size = l.length + 1 := by simp [ByteArray.size]
theorem node_of (M : List Nd) (i : Int) : (formula_Table_Node.f (some M) i) = some (zao M i) := rfl
theorem pat_some (M : List Nd) : ∀ (p : Pt), p.ok → ∀ (k : Nat), p.dep ≤ k → ∀ (id : Int) (s : List (Int × Int)) (rest : List UInt8), ∃ q, hilbert_pattern_is.f k ⟨some M, s⟩ id ⟨(p.enc ++ rest).toArray⟩ = some q ∧ q.1.t = some M ∧ q.2.2 = (xZ M p id s).2 ∧ ((xZ M p id s).2 = true → q.1.seen = (xZ M p id s).1 ∧ q.2.1 = ⟨rest.toArray⟩)
 | .v c, hp, k, hk, id, s, rest => by
  obtain ⟨k, rfl⟩ : ∃ k', k = k' + 1 := ⟨k - 1, by simp only [Pt.dep] at hk; omega⟩
  obtain ⟨h1, h2, h3, h4⟩ := hp
  have e : (Pt.v c).enc ++ rest = c :: rest := rfl
  rw [e]
  refine ⟨(⟨some M, (xZ M (.v c) id s).1⟩, ⟨rest.toArray⟩, (xZ M (.v c) id s).2), ?_, rfl, rfl, fun _ => ⟨rfl, rfl⟩⟩
  show hilbert_pattern_is.g _ _ _ _ = _
  unfold hilbert_pattern_is.g
  simp only [sb_cons, sfrom_cons, size_cons, node_of, chk, inb, Option.bind_some]
  have n1 : ¬ ((c.toNat : Int) = 62) := by omega
  have n2 : ¬ ((c.toNat : Int) = 38) := by omega
  have n3 : ¬ ((c.toNat : Int) = 124) := by omega
  have n4 : ¬ ((c.toNat : Int) = 48) := by omega
  simp [n1, n2, n3, n4, aft, xZ]
  omega
 | .bot, hp, k, hk, id, s, rest => by
  obtain ⟨k, rfl⟩ : ∃ k', k = k' + 1 := ⟨k - 1, by simp only [Pt.dep] at hk; omega⟩
  have e : Pt.bot.enc ++ rest = 48 :: rest := rfl
  rw [e]
  refine ⟨(⟨some M, s⟩, ⟨rest.toArray⟩, (xZ M .bot id s).2), ?_, rfl, rfl, fun _ => ⟨rfl, rfl⟩⟩
  show hilbert_pattern_is.g _ _ _ _ = _
  unfold hilbert_pattern_is.g
  simp only [sb_cons, sfrom_cons, size_cons, node_of, chk, inb, Option.bind_some]
  simp [aft, xZ]
  omega
 | .bin kd a b, hp, k, hk, id, s, rest => by
  obtain ⟨k, rfl⟩ : ∃ k', k = k' + 1 := ⟨k - 1, by simp only [Pt.dep] at hk; omega⟩
  obtain ⟨h1, ha, hb⟩ := hp
  have hk1 : a.dep ≤ k := by simp only [Pt.dep] at hk; omega
  have hk2 : b.dep ≤ k := by simp only [Pt.dep] at hk; omega
  have e : (Pt.bin kd a b).enc ++ rest = (if kd = 5 then 62 else if kd = 3 then 38 else 124) :: (a.enc ++ (b.enc ++ rest)) := by simp [Pt.enc, List.append_assoc]
  rw [e]
  have hq : ∃ q, hilbert_pattern_is.g (hilbert_pattern_is.f k) ⟨some M, s⟩ id ⟨((if kd = 5 then 62 else if kd = 3 then 38 else 124 : UInt8) :: (a.enc ++ (b.enc ++ rest))).toArray⟩ = (if decide ((nd M id).kind ≠ kd) then some (⟨some M, s⟩, ⟨#[]⟩, false) else (hilbert_pattern_is.f k ⟨some M, s⟩ (nd M id).l ⟨(a.enc ++ (b.enc ++ rest)).toArray⟩).bind fun r29 => if !r29.2.2 then some (r29.1, (⟨#[]⟩ : ByteArray), false) else (hilbert_pattern_is.f k r29.1 (nd M id).r r29.2.1).bind fun r33 => some (r33.1, r33.2.1, r33.2.2)) ∧ q = () := by
   refine ⟨(), ?_, rfl⟩
   unfold hilbert_pattern_is.g
   simp only [sb_cons, sfrom_cons, size_cons, node_of, chk, inb, Option.bind_some]
   rcases h1 with rfl | rfl | rfl <;> simp [aft, nd] <;> rw [if_pos (by omega), if_pos (by omega)]
  obtain ⟨_, hq, _⟩ := hq
  show ∃ q, hilbert_pattern_is.g _ _ _ _ = _ ∧ _
  rw [hq]
  by_cases hkd : (nd M id).kind = kd
  ·simp only [hkd, ne_eq, not_true_eq_false, decide_false, Bool.false_eq_true, if_false]
   obtain ⟨q1, e1, t1, o1, m1⟩ := pat_some M a ha k hk1 (nd M id).l s (b.enc ++ rest)
   rw [e1]
   simp only [Option.bind_some]
   cases hm : (xZ M a (nd M id).l s).2 with
   | false =>
    rw [hm] at o1
    refine ⟨(q1.1, ⟨#[]⟩, false), by simp [o1], t1, by simp [xZ, hkd, hm], fun h => ?_⟩
    simp [xZ, hkd, hm] at h
   | true =>
    rw [hm] at o1
    obtain ⟨m2, m3⟩ := m1 hm
    obtain ⟨q2, e2, t2, o2, m4⟩ := pat_some M b hb k hk2 (nd M id).r (xZ M a (nd M id).l s).1 rest
    have e3 : q1.1 = ⟨some M, (xZ M a (nd M id).l s).1⟩ := by cases h : q1.1; simp_all
    refine ⟨q2, by rw [o1, e3, m3, e2]; rfl, t2, ?_, fun h => ?_⟩
    ·rw [o2]; simp [xZ, hkd, hm]
    ·have := m4 (by simpa [xZ, hkd, hm] using h)
     simpa [xZ, hkd, hm] using this
  ·refine ⟨(⟨some M, s⟩, ⟨#[]⟩, false), by simp [hkd], rfl, by simp [xZ, hkd], fun h => ?_⟩
   simp [xZ, hkd] at h
abbrev vA : Pt := .v 65
abbrev vB : Pt := .v 66
abbrev vC : Pt := .v 67
def schT (k : Int) : Pt :=
 if k = 1 then .bin 5 vA (.bin 5 vB vA) else if k = 2 then .bin 5 (.bin 5 vA (.bin 5 vB vC)) (.bin 5 (.bin 5 vA vB) (.bin 5 vA vC))
 else if k = 3 then .bin 5 (.bin 3 vA vB) vA else if k = 4 then .bin 5 (.bin 3 vA vB) vB else if k = 5 then .bin 5 vA (.bin 5 vB (.bin 3 vA vB))
 else if k = 6 then .bin 5 vA (.bin 4 vA vB) else if k = 7 then .bin 5 vB (.bin 4 vA vB) else if k = 8 then .bin 5 (.bin 5 vA vC) (.bin 5 (.bin 5 vB vC) (.bin 5 (.bin 4 vA vB) vC))
 else .bin 5 .bot vA
def axS (M : List Nd) (k i : Int) : Bool :=
 let n := nd M i; let x := nd M n.l; let y := nd M n.r; let b := nd M y.l; let c := nd M y.r
 decide (n.kind = 5) &&
 (if k = 1 then decide (y.kind = 5) && decide (y.r = n.l)
  else if k = 2 then decide (y.kind = 5) && decide (x.kind = 5) && decide ((nd M x.r).kind = 5) && decide (b.kind = 5) && decide (c.kind = 5) && decide (b.l = x.l) && decide (c.l = x.l) && decide (b.r = (nd M x.r).l) && decide (c.r = (nd M x.r).r)
  else if k = 3 then decide (x.kind = 3) && decide (x.l = n.r)
  else if k = 4 then decide (x.kind = 3) && decide (x.r = n.r)
  else if k = 5 then decide (y.kind = 5) && decide (c.kind = 3) && decide (c.l = n.l) && decide (c.r = y.l)
  else if k = 6 then decide (y.kind = 4) && decide (y.l = n.l)
  else if k = 7 then decide (y.kind = 4) && decide (y.r = n.l)
  else if k = 8 then decide (y.kind = 5) && decide (x.kind = 5) && decide (b.kind = 5) && decide (c.kind = 5) && decide ((nd M c.l).kind = 4) && decide ((nd M c.l).l = x.l) && decide ((nd M c.l).r = b.l) && decide (b.r = x.r) && decide (c.r = x.r)
  else if k = 9 then decide (x.kind = 2)
  else false)
theorem match_1 (M : List Nd) (i : Int) : (xZ M (schT 1) i []).2 = axS M 1 i := by
 simp only [schT, axS, xZ, if_true,  if_false]
 by_cases h0 : (nd M i).kind = 5
 rotate_left
 ·simp [h0]
 by_cases c0 : (nd M (nd M i).r).kind = 5
 rotate_left
 ·simp [Gw.ins, Gw.look, h0, c0] <;> grind
 simp [Gw.ins, Gw.look, h0, c0]
 try grind
theorem match_2 (M : List Nd) (i : Int) : (xZ M (schT 2) i []).2 = axS M 2 i := by
 simp only [schT, axS, xZ, if_true, show ¬ ((2 : Int) = 1) by decide, if_false]
 by_cases h0 : (nd M i).kind = 5
 rotate_left
 ·simp [h0]
 by_cases c0 : (nd M (nd M i).l).kind = 5
 rotate_left
 ·simp [Gw.ins, Gw.look, h0, c0] <;> grind
 by_cases c1 : (nd M (nd M (nd M i).l).r).kind = 5
 rotate_left
 ·simp [Gw.ins, Gw.look, h0, c0, c1] <;> grind
 by_cases c2 : (nd M (nd M i).r).kind = 5
 rotate_left
 ·simp [Gw.ins, Gw.look, h0, c0, c1, c2] <;> grind
 by_cases c3 : (nd M (nd M (nd M i).r).l).kind = 5
 rotate_left
 ·simp [Gw.ins, Gw.look, h0, c0, c1, c2, c3] <;> grind
 by_cases c4 : (nd M (nd M i).l).l = (nd M (nd M (nd M i).r).l).l
 rotate_left
 ·have d4 : ¬ ((nd M (nd M (nd M i).r).l).l = (nd M (nd M i).l).l) := fun h => c4 (Eq.symm h); simp [Gw.ins, Gw.look, h0, c0, c1, c2, c3, c4, d4] <;> grind
 by_cases c5 : (nd M (nd M (nd M i).l).r).l = (nd M (nd M (nd M i).r).l).r
 rotate_left
 ·have d5 : ¬ ((nd M (nd M (nd M i).r).l).r = (nd M (nd M (nd M i).l).r).l) := fun h => c5 (Eq.symm h); simp [Gw.ins, Gw.look, h0, c0, c1, c2, c3, c4, c5, d5] <;> grind
 by_cases c6 : (nd M (nd M (nd M i).r).r).kind = 5
 rotate_left
 ·simp [Gw.ins, Gw.look, h0, c0, c1, c2, c3, c4, c5, c6] <;> grind
 by_cases c7 : (nd M (nd M i).l).l = (nd M (nd M (nd M i).r).r).l
 rotate_left
 ·have d7 : ¬ ((nd M (nd M (nd M i).r).r).l = (nd M (nd M i).l).l) := fun h => c7 (Eq.symm h); simp [Gw.ins, Gw.look, h0, c0, c1, c2, c3, c4, c5, c6, c7, d7] <;> grind
 simp [Gw.ins, Gw.look, h0, c0, c1, c2, c3, c4, c5, c6, c7]
 try grind
theorem match_3 (M : List Nd) (i : Int) : (xZ M (schT 3) i []).2 = axS M 3 i := by
 simp only [schT, axS, xZ, if_true, show ¬ ((3 : Int) = 1) by decide, show ¬ ((3 : Int) = 2) by decide, if_false]
 by_cases h0 : (nd M i).kind = 5
 rotate_left
 ·simp [h0]
 by_cases c0 : (nd M (nd M i).l).kind = 3
 rotate_left
 ·simp [Gw.ins, Gw.look, h0, c0] <;> grind
 simp [Gw.ins, Gw.look, h0, c0]
 try grind
theorem match_4 (M : List Nd) (i : Int) : (xZ M (schT 4) i []).2 = axS M 4 i := by
 simp only [schT, axS, xZ, if_true, show ¬ ((4 : Int) = 1) by decide, show ¬ ((4 : Int) = 2) by decide, show ¬ ((4 : Int) = 3) by decide, if_false]
 by_cases h0 : (nd M i).kind = 5
 rotate_left
 ·simp [h0]
 by_cases c0 : (nd M (nd M i).l).kind = 3
 rotate_left
 ·simp [Gw.ins, Gw.look, h0, c0] <;> grind
 simp [Gw.ins, Gw.look, h0, c0]
 try grind
theorem match_5 (M : List Nd) (i : Int) : (xZ M (schT 5) i []).2 = axS M 5 i := by
 simp only [schT, axS, xZ, if_true, show ¬ ((5 : Int) = 1) by decide, show ¬ ((5 : Int) = 2) by decide, show ¬ ((5 : Int) = 3) by decide, show ¬ ((5 : Int) = 4) by decide, if_false]
 by_cases h0 : (nd M i).kind = 5
 rotate_left
 ·simp [h0]
 by_cases c0 : (nd M (nd M i).r).kind = 5
 rotate_left
 ·simp [Gw.ins, Gw.look, h0, c0] <;> grind
 by_cases c1 : (nd M (nd M (nd M i).r).r).kind = 3
 rotate_left
 ·simp [Gw.ins, Gw.look, h0, c0, c1] <;> grind
 simp [Gw.ins, Gw.look, h0, c0, c1]
 try grind
theorem match_6 (M : List Nd) (i : Int) : (xZ M (schT 6) i []).2 = axS M 6 i := by
 simp only [schT, axS, xZ, if_true, show ¬ ((6 : Int) = 1) by decide, show ¬ ((6 : Int) = 2) by decide, show ¬ ((6 : Int) = 3) by decide, show ¬ ((6 : Int) = 4) by decide, show ¬ ((6 : Int) = 5) by decide, if_false]
 by_cases h0 : (nd M i).kind = 5
 rotate_left
 ·simp [h0]
 by_cases c0 : (nd M (nd M i).r).kind = 4
 rotate_left
 ·simp [Gw.ins, Gw.look, h0, c0] <;> grind
 simp [Gw.ins, Gw.look, h0, c0]
 try grind
theorem match_7 (M : List Nd) (i : Int) : (xZ M (schT 7) i []).2 = axS M 7 i := by
 simp only [schT, axS, xZ, if_true, show ¬ ((7 : Int) = 1) by decide, show ¬ ((7 : Int) = 2) by decide, show ¬ ((7 : Int) = 3) by decide, show ¬ ((7 : Int) = 4) by decide, show ¬ ((7 : Int) = 5) by decide, show ¬ ((7 : Int) = 6) by decide, if_false]
 by_cases h0 : (nd M i).kind = 5
 rotate_left
 ·simp [h0]
 by_cases c0 : (nd M (nd M i).r).kind = 4
 rotate_left
 ·simp [Gw.ins, Gw.look, h0, c0] <;> grind
 simp [Gw.ins, Gw.look, h0, c0]
 try grind
theorem match_8 (M : List Nd) (i : Int) : (xZ M (schT 8) i []).2 = axS M 8 i := by
 simp only [schT, axS, xZ, if_true, show ¬ ((8 : Int) = 1) by decide, show ¬ ((8 : Int) = 2) by decide, show ¬ ((8 : Int) = 3) by decide, show ¬ ((8 : Int) = 4) by decide, show ¬ ((8 : Int) = 5) by decide, show ¬ ((8 : Int) = 6) by decide, show ¬ ((8 : Int) = 7) by decide, if_false]
 by_cases h0 : (nd M i).kind = 5
 rotate_left
 ·simp [h0]
 by_cases c0 : (nd M (nd M i).l).kind = 5
 rotate_left
 ·simp [Gw.ins, Gw.look, h0, c0] <;> grind
 by_cases c1 : (nd M (nd M i).r).kind = 5
 rotate_left
 ·simp [Gw.ins, Gw.look, h0, c0, c1] <;> grind
 by_cases c2 : (nd M (nd M (nd M i).r).l).kind = 5
 rotate_left
 ·simp [Gw.ins, Gw.look, h0, c0, c1, c2] <;> grind
 by_cases c3 : (nd M (nd M i).l).r = (nd M (nd M (nd M i).r).l).r
 rotate_left
 ·have d3 : ¬ ((nd M (nd M (nd M i).r).l).r = (nd M (nd M i).l).r) := fun h => c3 (Eq.symm h); simp [Gw.ins, Gw.look, h0, c0, c1, c2, c3, d3] <;> grind
 by_cases c4 : (nd M (nd M (nd M i).r).r).kind = 5
 rotate_left
 ·simp [Gw.ins, Gw.look, h0, c0, c1, c2, c3, c4] <;> grind
 by_cases c5 : (nd M (nd M (nd M (nd M i).r).r).l).kind = 4
 rotate_left
 ·simp [Gw.ins, Gw.look, h0, c0, c1, c2, c3, c4, c5] <;> grind
 by_cases c6 : (nd M (nd M i).l).l = (nd M (nd M (nd M (nd M i).r).r).l).l
 rotate_left
 ·have d6 : ¬ ((nd M (nd M (nd M (nd M i).r).r).l).l = (nd M (nd M i).l).l) := fun h => c6 (Eq.symm h); simp [Gw.ins, Gw.look, h0, c0, c1, c2, c3, c4, c5, c6, d6] <;> grind
 by_cases c7 : (nd M (nd M (nd M i).r).l).l = (nd M (nd M (nd M (nd M i).r).r).l).r
 rotate_left
 ·have d7 : ¬ ((nd M (nd M (nd M (nd M i).r).r).l).r = (nd M (nd M (nd M i).r).l).l) := fun h => c7 (Eq.symm h); simp [Gw.ins, Gw.look, h0, c0, c1, c2, c3, c4, c5, c6, c7, d7] <;> grind
 simp [Gw.ins, Gw.look, h0, c0, c1, c2, c3, c4, c5, c6, c7]
 try grind
theorem match_9 (M : List Nd) (i : Int) : (xZ M (schT 9) i []).2 = axS M 9 i := by
 simp only [schT, axS, xZ, if_true, show ¬ ((9 : Int) = 1) by decide, show ¬ ((9 : Int) = 2) by decide, show ¬ ((9 : Int) = 3) by decide, show ¬ ((9 : Int) = 4) by decide, show ¬ ((9 : Int) = 5) by decide, show ¬ ((9 : Int) = 6) by decide, show ¬ ((9 : Int) = 7) by decide, show ¬ ((9 : Int) = 8) by decide, if_false]
 by_cases h0 : (nd M i).kind = 5
 rotate_left
 ·simp [h0]
 by_cases c0 : (nd M (nd M i).l).kind = 2
 rotate_left
 ·simp [Gw.ins, Gw.look, h0, c0] <;> grind
 simp [Gw.ins, Gw.look, h0, c0]
 try grind
theorem match_ax (M : List Nd) (k i : Int) (hk : 1 ≤ k ∧ k ≤ 9) : (xZ M (schT k) i []).2 = axS M k i := by
 have h : k = 1 ∨ k = 2 ∨ k = 3 ∨ k = 4 ∨ k = 5 ∨ k = 6 ∨ k = 7 ∨ k = 8 ∨ k = 9 := by omega
 rcases h with rfl | rfl | rfl | rfl | rfl | rfl | rfl | rfl | rfl
 ·exact match_1 M i
 ·exact match_2 M i
 ·exact match_3 M i
 ·exact match_4 M i
 ·exact match_5 M i
 ·exact match_6 M i
 ·exact match_7 M i
 ·exact match_8 M i
 ·exact match_9 M i
theorem sch_enc (k : Int) (hk : 1 ≤ k ∧ k ≤ 9) : hilbert_scheme.f k = some ⟨((schT k).enc ++ []).toArray⟩ ∧ (schT k).ok ∧ (schT k).dep ≤ 10 ∧ (⟨((schT k).enc ++ []).toArray⟩ : ByteArray) ≠ ⟨#[]⟩ := by
 have h : k = 1 ∨ k = 2 ∨ k = 3 ∨ k = 4 ∨ k = 5 ∨ k = 6 ∨ k = 7 ∨ k = 8 ∨ k = 9 := by omega
 rcases h with rfl | rfl | rfl | rfl | rfl | rfl | rfl | rfl | rfl <;> refine ⟨rfl, ?_, by decide, by decide⟩ <;> simp [schT, Pt.ok]
theorem fits_ax {M : List Nd} {K : Nat} (hK : 10 ≤ K) (k i : Int) : hilbert_fits.f K (some M) k i = some (some M, axS M k i) := by
 unfold hilbert_fits.f
 by_cases hk : 1 ≤ k ∧ k ≤ 9
 ·obtain ⟨h1, h2, h3, h4⟩ := sch_enc k hk
  rw [h1, Option.bind_some, if_neg (by simpa using h4)]
  obtain ⟨q, e1, e2, e3, _⟩ := pat_some M (schT k) h2 K (by omega) i [] []
  rw [e1, Option.bind_some, e2, e3, match_ax M k i hk]
 ·have h1 : hilbert_scheme.f k = some ⟨#[]⟩ := by
   unfold hilbert_scheme.f
   by_cases h0 : k = 0
   ·subst h0; rfl
   ·rw [if_pos (by simp; omega)]
  have h2 : axS M k i = false := by
   unfold axS
   simp [show ¬ k = 1 by omega, show ¬ k = 2 by omega, show ¬ k = 3 by omega, show ¬ k = 4 by omega, show ¬ k = 5 by omega, show ¬ k = 6 by omega, show ¬ k = 7 by omega, show ¬ k = 8 by omega, show ¬ k = 9 by omega]
  rw [h1, h2]; rfl
theorem has1_loop (n : Int) : ∀ (l : List Int), slices_ContainsFunc_int_int__hilbert_has_1.f l n = some (l.any fun i => decide (i < 0) || decide (n ≤ i)) := by
 intro l
 unfold slices_ContainsFunc_int_int__hilbert_has_1.f slices_IndexFunc_int_int__hilbert_has_1.f
 have h1 := forN_find (b := fun i s => slices_IndexFunc_int_int__hilbert_has_1.b0 l n i) (p := fun j => decide (l.getD j 0 < 0) || decide (n ≤ l.getD j 0)) (r := fun j => (j : Int)) l.length 0 () (by
  intro j _ hj
  unfold slices_IndexFunc_int_int__hilbert_has_1.b0 hilbert_has_1.f at_
  rw [Int.toNat_natCast]
  simp only [Option.bind_some]
  split <;> rfl)
 have e0 : (((l.length : Nat) : Int) - 0).toNat = l.length := by omega
 rw [e0, show forN (fun i s => slices_IndexFunc_int_int__hilbert_has_1.b0 l n i) l.length 0 () = _ from h1, any_find]
 cases hq : (List.range' 0 l.length).find? (fun j => decide (l.getD j 0 < 0) || decide (n ≤ l.getD j 0)) with
 | none =>
  have : l.find? (fun i => decide (i < 0) || decide (n ≤ i)) = none := by
   rw [List.find?_eq_none] at hq ⊢
   intro x hx
   obtain ⟨j, hj, rfl⟩ := List.mem_iff_getElem.1 hx
   have := hq j (by simp; omega)
   simpa [List.getD_eq_getElem?_getD, hj] using this
  rw [this]; rfl
 | some j =>
  have h2 := List.find?_some hq
  have h3 := List.mem_of_find?_eq_some hq
  have hj : j < l.length := by simpa using h3
  have : (l.find? (fun i => decide (i < 0) || decide (n ≤ i))).isSome = true := by
   rw [List.find?_isSome]
   exact ⟨l[j], List.getElem_mem hj, by simpa [List.getD_eq_getElem?_getD, hj] using h2⟩
  rw [this]
  simp [aft]
theorem has_some16 {M : List Nd} (hM : M.Nodup) (l : List Int) : hilbert_has.f (some M) l = some (if l.all (fun i => inb i M.length) then 0 else 31) := by
 have h1 : formula_Table_Copy.f (some M) = some (some M) := by simp [formula_Table_Copy.f, chk, hM]
 unfold hilbert_has.f
 rw [h1]
 simp only [Option.bind_some, Option.isNone_some, Bool.false_eq_true, if_false, formula_Table_Len.f, Option.map_some, has1_loop]
 have h2 : (l.any fun i => decide (i < 0) || decide ((M.length : Int) ≤ i)) = !l.all fun i => inb i M.length := by
  rw [List.not_all_eq_any_not]
  congr 1; funext i
  unfold inb
  by_cases a : 0 ≤ i <;> by_cases b : i < (M.length : Int) <;> simp [a, b] <;> omega
 rw [h2]
 cases l.all fun i => inb i M.length <;> rfl
theorem nd_at {M : List Nd} {i : Int} (h : inb i M.length = true) : at_ Nd.z M i = nd M i := by
 have := zI h
 unfold at_ nd zao v8
 rw [if_pos (by simp; omega)]
end Go.Proofs.YtflieamjacclnaaGreatDoor
end
section
namespace Go.Proofs.YtflieamjacclnaaGreatDoor
open Gw
end Go.Proofs.YtflieamjacclnaaGreatDoor
end
section
namespace Go.Proofs.YtflieamjacclnaaGreatDoor
open Gw
theorem wf_nil : Wf [] := ⟨by simp, by simp, fun i hi => absurd (zI hi) (by simp), fun i hi => absurd (zI hi) (by simp), fun j n h => by simp at h⟩
theorem tables16 {rows : List Nd} (hn : ∀ n ∈ rows, n.name.size < 9223372036854775808) (hl : rows.length * 40 ≤ 140737488355328) : ∃ M, law04_Tables.f rows = some (some M, some M) ∧ Wf M ∧ (M = rows ∨ M = []) := by
 unfold law04_Tables.f
 rcases both_some hn hl with h | ⟨h, hw⟩
 ·exact ⟨[], by rw [h]; rfl, wf_nil, .inr rfl⟩
 ·exact ⟨rows, by rw [h]; rfl, hw, .inl rfl⟩
theorem Wf.l5 {M : List Nd} (h : Wf M) {i : Int} (hi : inb i M.length = true) (k : (nd M i).kind = 5) : inb (nd M i).l M.length = true := h.left hi (.inr (.inr k))
theorem Wf.r5 {M : List Nd} (h : Wf M) {i : Int} (hi : inb i M.length = true) (k : (nd M i).kind = 5) : inb (nd M i).r M.length = true := h.right hi (.inr (.inr k))
end Go.Proofs.YtflieamjacclnaaGreatDoor
end
section
namespace Go.Proofs.YtflieamjacclnaaGreatDoor
open Gw
end Go.Proofs.YtflieamjacclnaaGreatDoor
end
section
namespace Go.Proofs.YtflieamjacclnaaGreatDoor
open Gw
def zaw (M : List Nd) (hyps : List Int) (ls : List Ln) (i : Int) : Bool :=
 let x := at_ Ln.z ls i
 if x.kind = 11 then decide (0 ≤ x.a) && decide (x.a < i) && decide (0 ≤ x.b) && decide (x.b < i) && decide ((nd M (at_ Ln.z ls x.a).form).kind = 5) && decide ((nd M (at_ Ln.z ls x.a).form).l = (at_ Ln.z ls x.b).form) && decide ((nd M (at_ Ln.z ls x.a).form).r = x.form)
 else decide (x.a = 0) && decide (x.b = 0) && (if x.kind = 10 then hyps.any (fun h => decide (h = x.form)) else axS M x.kind x.form)
def formsS (M : List Nd) (ls : List Ln) : Bool := ls.all fun x => inb x.form M.length
def checkS (M : List Nd) (hyps : List Int) (ls : List Ln) : Int :=
 if hyps.all (fun h => inb h M.length) && formsS M ls then (if (List.range' 0 ls.length).all (fun j => zaw M hyps ls j) && !ls.isEmpty then 0 else 160) else 31
theorem form_in {M : List Nd} {ls : List Ln} (h : formsS M ls = true) {j : Int} (hj : inb j ls.length = true) : inb (at_ Ln.z ls j).form M.length = true := by
 have h1 := zI hj
 have h2 : at_ Ln.z ls j = ls[j.toNat]'(by omega) := by
  unfold at_; rw [List.getD_eq_getElem?_getD, List.getElem?_eq_getElem (by omega)]; rfl
 rw [h2]
 exact List.all_eq_true.1 h _ (List.getElem_mem _)
theorem jm {i : Int} {n : Nat} (h0 : 0 ≤ i) (h1 : i < n) : inb i n = true := by simp [inb, h0, h1]
theorem right_prog {M : List Nd} (hw : Wf M) {K : Nat} (hK : 10 ≤ K) {hyps : List Int} {m : List (Int × Int)} (hm : ∀ h, (0 < (Gw.look h m).getD 0) ↔ h ∈ hyps) {ls : List Ln} (hf : formsS M ls = true) {i : Int} (hi : inb i ls.length = true) :
  hilbert_right.f K (some M) m ls i = some (some M, zaw M hyps ls i) := by
 have h1 := zI hi
 unfold hilbert_right.f zaw
 generalize hx : at_ Ln.z ls i = x
 simp only [chk, hi, if_true]
 by_cases k : x.kind = 11
 ·simp only [k, ne_eq, not_true_eq_false, decide_false, Bool.false_eq_true, if_false, if_true]
  have hmin : (if x.b < x.a then x.b else x.a) < 0 ↔ (x.a < 0 ∨ x.b < 0) := by split <;> omega
  have hmax : i ≤ (if x.a < x.b then x.b else x.a) ↔ (i ≤ x.a ∨ i ≤ x.b) := by split <;> omega
  by_cases hc : 0 ≤ x.a ∧ x.a < i ∧ 0 ≤ x.b ∧ x.b < i
  ·have e1 : (decide ((if x.b < x.a then x.b else x.a) < 0) || decide (i ≤ if x.a < x.b then x.b else x.a)) = false := by
    rw [decide_eq_false (by rw [hmin]; omega), decide_eq_false (by rw [hmax]; omega)]; rfl
   have e2 : inb x.a ls.length = true := jm hc.1 (by omega)
   have e3 : inb x.b ls.length = true := jm hc.2.2.1 (by omega)
   rw [e1]
   simp only [Bool.false_eq_true, if_false, e2, e3, if_true, node_of, Option.bind_some]
   have e4 := form_in hf e2
   have e5 : decide ((zao M (at_ Ln.z ls x.a).form).1 = { Nd.z with kind := 5, l := (at_ Ln.z ls x.b).form, r := x.form }) = (decide ((nd M (at_ Ln.z ls x.a).form).kind = 5) && decide ((nd M (at_ Ln.z ls x.a).form).l = (at_ Ln.z ls x.b).form) && decide ((nd M (at_ Ln.z ls x.a).form).r = x.form)) := by
    show decide (nd M (at_ Ln.z ls x.a).form = _) = _
    by_cases k5 : (nd M (at_ Ln.z ls x.a).form).kind = 5
    ·have hb := hw.bare e4 (.inr (.inr k5))
     cases hn : nd M (at_ Ln.z ls x.a).form with
     | mk kd nm l r =>
      rw [hn] at hb k5
      simp only at hb k5
      subst hb k5
      have : ({ Nd.z with kind := 5, l := (at_ Ln.z ls x.b).form, r := x.form } : Nd) = ⟨5, ⟨#[]⟩, (at_ Ln.z ls x.b).form, x.form⟩ := rfl
      rw [this]
      simp [Nd.mk.injEq]
    ·have : ¬ nd M (at_ Ln.z ls x.a).form = { Nd.z with kind := 5, l := (at_ Ln.z ls x.b).form, r := x.form } := fun e => k5 (by rw [e])
     simp [this, k5]
   rw [e5]
   simp [hc]
  ·have e1 : (decide ((if x.b < x.a then x.b else x.a) < 0) || decide (i ≤ if x.a < x.b then x.b else x.a)) = true := by
    rw [Bool.or_eq_true, decide_eq_true_eq, decide_eq_true_eq, hmin, hmax]; omega
   rw [e1]
   have e2 : (decide (0 ≤ x.a) && decide (x.a < i) && decide (0 ≤ x.b) && decide (x.b < i)) = false := by
    rw [Bool.eq_false_iff]
    simp only [ne_eq, Bool.and_eq_true, decide_eq_true_eq, not_and]; omega
   simp [e2]
 ·simp only [k, ne_eq, not_false_eq_true, decide_true, if_true, if_false]
  by_cases k10 : x.kind = 10
  ·have e9 : axS M 10 x.form = false := by simp [axS]
   have e8 : hyps.any (fun h => decide (h = x.form)) = decide (x.form ∈ hyps) := by
    rw [Bool.eq_iff_iff, List.any_eq_true]
    simp only [decide_eq_true_eq]
    exact ⟨fun ⟨y, h, e⟩ => e ▸ h, fun h => ⟨_, h, rfl⟩⟩
   simp only [k10, decide_true, Bool.true_and, if_true, e8]
   by_cases hp : x.form ∈ hyps
   ·have := (hm x.form).2 hp
    simp [this, hp]
   ·have : ¬ 0 < (Gw.look x.form m).getD 0 := fun q => hp ((hm _).1 q)
    simp [this, hp, fits_ax hK, e9]
  ·simp [k10, fits_ax hK]
theorem all_range {α : Type} {d : α} {p : α → Bool} (l : List α) : l.all p = (List.range' 0 l.length).all fun j => p (l.getD j d) := by
 rw [Bool.eq_iff_iff, List.all_eq_true, List.all_eq_true]
 constructor
 ·intro h j hj
  have hj : j < l.length := by simpa using hj
  rw [List.getD_eq_getElem?_getD, List.getElem?_eq_getElem hj]
  exact h _ (List.getElem_mem hj)
 ·intro h x hx
  obtain ⟨j, hj, rfl⟩ := List.mem_iff_getElem.1 hx
  have := h j (by simp; omega)
  rwa [List.getD_eq_getElem?_getD, List.getElem?_eq_getElem hj] at this
theorem find_all {α : Type} {p : α → Bool} (l : List α) : (l.find? fun x => !p x).isSome = !l.all p := by
 rw [List.not_all_eq_any_not, any_find]
theorem forN_all {σ ρ : Type} {b : Int → σ → Option (Stp σ ρ)} {p : Nat → Bool} {r : ρ} (n : Nat) (s : σ) (h : ∀ j : Nat, j < n → b j s = some (if p j then .go s else .ret r)) : forN b n 0 s = some (if (List.range' 0 n).all p then .inl s else .inr r) := by
 have h1 := forN_find (b := b) (p := fun j => !p j) (r := fun _ => r) n 0 s (by
  intro j _ hj
  rw [h j (by omega)]
  cases p j <;> rfl)
 rw [show forN b n 0 s = _ from h1]
 have h2 := find_all (p := p) (List.range' 0 n)
 cases hq : (List.range' 0 n).find? (fun x => !p x) with
 | none => rw [hq] at h2; rw [show (List.range' 0 n).all p = true by simpa using h2]; rfl
 | some j => rw [hq] at h2; rw [show (List.range' 0 n).all p = false by simpa using h2]; rfl
theorem count_map {m : List (Int × Int)} (h v x : Int) : (Gw.look x (Gw.ins h v m)).getD 0 = if x = h then v else (Gw.look x m).getD 0 := by
 induction m with
 | nil => by_cases e : x = h <;> simp [Gw.ins, Gw.look, e]
 | cons q m ih =>
  obtain ⟨k, w⟩ := q
  unfold Gw.ins
  by_cases e : h = k
  ·subst e
   by_cases e2 : x = h
   ·simp [Gw.look, e2]
   ·simp [Gw.look, e2]
  ·rw [if_neg e]
   unfold Gw.look
   by_cases e2 : x = k
   ·subst e2; simp [Ne.symm (a := h) e]
   ·simp [e2, ih]
theorem hyps_map (hyps : List Int) : ∀ (n i : Nat) (m : List (Int × Int)), i + n = hyps.length → hyps.length < 4611686018427387904 → (∀ x, (Gw.look x m).getD 0 = ((hyps.take i).count x : Int)) →
  ∃ m', forS (fun i s => hilbert_Check.b1 hyps i s) n i m = some m' ∧ ∀ x, (Gw.look x m').getD 0 = (hyps.count x : Int)
 | 0, i, m, hi, hb, h => ⟨m, rfl, fun x => by rw [h, List.take_of_length_le (by omega)]⟩
 | n + 1, i, m, hi, hb, h => by
  have hil : i < hyps.length := by omega
  have he : at_ (0 : Int) hyps (i : Int) = hyps[i] := by
   unfold at_; rw [Int.toNat_natCast, List.getD_eq_getElem?_getD, List.getElem?_eq_getElem hil]; rfl
  simp only [forS, hilbert_Check.b1, Option.bind_some]
  refine hyps_map hyps n (i + 1) _ (by omega) hb fun x => ?_
  rw [he, count_map, h, List.take_succ_eq_append_getElem hil, List.count_append]
  have hc : (hyps.take i).count hyps[i] ≤ hyps.length := Nat.le_trans List.count_le_length (by simp; omega)
  by_cases e : x = hyps[i]
  ·subst e
   rw [if_pos rfl, wrap_small ⟨by omega, by omega⟩]
   simp
  ·rw [if_neg e, h]
   simp [List.count_singleton, Ne.symm (a := x) e]
theorem CheckH_some {M : List Nd} (hw : Wf M) {K : Nat} (hK : 10 ≤ K) {hyps : List Int} (hb : hyps.length < 4611686018427387904) (ls : List Ln) : hilbert_Check.f K (some M) hyps ls = some (some M, checkS M hyps ls) := by
 unfold hilbert_Check.f checkS
 rw [has_some16 hw.nodup]
 cases ha : hyps.all (fun h => inb h M.length) with
 | false => simp
 | true =>
  simp only [if_true, Option.bind_some, ne_eq, not_true_eq_false, decide_false, Bool.false_eq_true, if_false, Bool.true_and]
  have e0 : (((ls.length : Nat) : Int) - 0).toNat = ls.length := by omega
  have e1 : (((hyps.length : Nat) : Int) - 0).toNat = hyps.length := by omega
  rw [e0, e1]
  have h1 := forN_all (b := fun i s => hilbert_Check.b0 (some M) ls i) (p := fun j => inb (ls.getD j Ln.z).form M.length) (r := ((some M : Tb), (31 : Int))) ls.length () (by
   intro j hj
   unfold hilbert_Check.b0 at_
   rw [Int.toNat_natCast, has_some16 hw.nodup]
   simp only [List.all_cons, List.all_nil, Bool.and_true, Option.bind_some]
   cases inb (ls.getD j Ln.z).form M.length <;> rfl)
  rw [h1]
  have hfe : formsS M ls = (List.range' 0 ls.length).all fun j => inb (ls.getD j Ln.z).form M.length := all_range (d := Ln.z) ls
  rw [← hfe]
  cases hf : formsS M ls with
  | false => simp [aft]
  | true =>
   simp only [if_true, Option.bind_some, aft]
   obtain ⟨m, h2, h3⟩ := hyps_map hyps hyps.length 0 [] (by omega) hb (fun x => by simp [Gw.look])
   rw [show forS (fun i s => hilbert_Check.b1 hyps i s) hyps.length 0 ([] : List (Int × Int)) = some m from h2]
   simp only [Option.bind_some]
   have hm : ∀ h, (0 < (Gw.look h m).getD 0) ↔ h ∈ hyps := fun h => by
    rw [h3]
    rw [← List.count_pos_iff]; omega
   have h4 := forN_all (b := fun i s => hilbert_Check.b2 K m ls i s) (p := fun j => zaw M hyps ls j) (r := ((some M : Tb), (160 : Int))) ls.length (some M) (by
    intro j hj
    unfold hilbert_Check.b2
    rw [right_prog hw hK hm hf (jm (by omega) (by omega))]
    simp only [Option.bind_some]
    cases zaw M hyps ls j <;> rfl)
   rw [h4]
   cases hr : (List.range' 0 ls.length).all (fun j => zaw M hyps ls j) with
   | false => simp [aft]
   | true =>
    simp only [if_true, Option.bind_some, aft]
    cases ls with
    | nil => simp
    | cons x l => simp; omega
def lastS (ls : List Ln) : Int := (at_ Ln.z ls ((ls.length : Int) - 1)).form
theorem TellsH_some {M : List Nd} (hw : Wf M) {K : Nat} (hK : 10 ≤ K) {hyps : List Int} (hb : hyps.length < 4611686018427387904) {ls : List Ln} (hl : ls.length < 4611686018427387904) :
  hilbert_Tells.f K (some M) hyps ls = some (some M, if checkS M hyps ls = 0 then lastS ls else 0, checkS M hyps ls) := by
 unfold hilbert_Tells.f
 rw [CheckH_some hw hK hb]
 simp only [Option.bind_some]
 by_cases h : checkS M hyps ls = 0
 ·have hne : ls ≠ [] := by
   rintro rfl
   unfold checkS at h
   split at h <;> simp at h
  have hp : 0 < ls.length := List.length_pos_iff.2 hne
  rw [wrap_small ⟨by omega, by omega⟩]
  have : inb ((ls.length : Int) - 1) ls.length = true := jm (by omega) (by omega)
  simp [h, chk, this, lastS]
 ·simp [h]
end Go.Proofs.YtflieamjacclnaaGreatDoor
end
section
namespace Go.Proofs.YtflieamjacclnaaGreatDoor
open Gw
end Go.Proofs.YtflieamjacclnaaGreatDoor
end
section
namespace Go.Proofs.YtflieamjacclnaaGreatDoor
open Gw
inductive Res where
 | ok (t : List Nd) (l : List Ln) (v : Int)
 | no (t : List Nd) (l : List Ln) (e : Int)
abbrev Act := List Nd → List Ln → Res
def Grown (t t' : List Nd) : Prop := t <+: t' ∧ Wf t'
def Imp (t : List Nd) (v a b : Int) : Prop := inb v t.length = true ∧ nd t v = impN a b
section
variable {μ : Type} (mk : Tb → List Ln → Int → μ)
variable {mk}
end
end Go.Proofs.YtflieamjacclnaaGreatDoor
end
section
namespace Go.Proofs.YtflieamjacclnaaGreatDoor
open Gw
def HasF (l : List Ln) (v f : Int) : Prop := inb v l.length = true ∧ (at_ Ln.z l v).form = f
def All (t : List Nd) (hy : List Int) (l : List Ln) : Prop := formsS t l = true ∧ ∀ j : Int, inb j l.length = true → zaw t hy l j = true
structure Goes (t : List Nd) (hy : List Int) (l : List Ln) (t' : List Nd) (l' : List Ln) : Prop where
 grown : Grown t t'
 pre : l <+: l'
 all : All t' hy l'
def Imgs (ls : List Ln) (h : Int) (t : List Nd) (l : List Ln) (img : List Int) (i : Nat) : Prop := ∀ j : Nat, j < i → ∃ f, HasF l (at_ 0 img j) f ∧ Imp t f h (at_ Ln.z ls j).form
end Go.Proofs.YtflieamjacclnaaGreatDoor
end
section
namespace Go.Proofs.YtflieamjacclnaaGreatDoor
open Gw
structure Ready (M : List Nd) (hyps : List Int) (ls : List Ln) (h : Int) (t : List Nd) (l : List Ln) (img : List Int) (i : Nat) : Prop where
 wf : Wf M
 forms : formsS M ls = true
 i_lt : i < ls.length
 right : zaw M hyps ls i = true
 grown : Grown M t
 h_in : inb h M.length = true
 all : All t (hyps.filter fun x => x ≠ h) l
 imgs : Imgs ls h t l img i
 len : l.length ≤ 4096
 imgl : img.length = ls.length
structure Loop16 (M : List Nd) (hyps : List Int) (ls : List Ln) (h : Int) : Prop where
 wf : Wf M
 forms : formsS M ls = true
 right : ∀ j : Nat, j < ls.length → zaw M hyps ls j = true
 h_in : inb h M.length = true
end Go.Proofs.YtflieamjacclnaaGreatDoor
end
section
namespace Go.Proofs.YtflieamjacclnaaGreatDoor
open Gw
end Go.Proofs.YtflieamjacclnaaGreatDoor
end
section
namespace Go.Proofs.YtflieamjacclnaaGreatDoor
open Gw
theorem check_iff {M : List Nd} {hyps : List Int} {ls : List Ln} : checkS M hyps ls = 0 ↔ (hyps.all (fun h => inb h M.length) = true ∧ All M hyps ls ∧ ls ≠ []) := by
 unfold checkS All
 constructor
 ·intro hc
  split at hc
  ·rename_i h1
   split at hc
   ·rename_i h2
    simp only [Bool.and_eq_true] at h1 h2
    refine ⟨h1.1, ⟨h1.2, fun j hj => ?_⟩, fun e => ?_⟩
    ·have h3 := zI hj
     have := List.all_eq_true.1 h2.1 j.toNat (by simp; omega)
     rwa [show ((j.toNat : Nat) : Int) = j by omega] at this
    ·rw [e] at h2; simp at h2
   ·simp at hc
  ·simp at hc
 ·rintro ⟨h1, ⟨h2, h3⟩, h4⟩
  rw [if_pos (by simp [h1, h2]), if_pos]
  rw [Bool.and_eq_true]
  refine ⟨List.all_eq_true.2 fun j hj => h3 j (jm (by omega) (by have := List.mem_range'_1.1 hj; omega)), ?_⟩
  cases ls with
  | nil => exact absurd rfl h4
  | cons x l => rfl
end Go.Proofs.YtflieamjacclnaaGreatDoor
end
section
namespace Go.Proofs.YtflieamjacclnaaGreatDoor
open Gw
def oneV (M : List Nd) (names : List ByteArray) (v : List Bool) (n : Nat) : Bool :=
 let x := nd M n
 if x.kind = 1 then names.any (fun s => decide (s = x.name)) else if x.kind = 3 then at_ false v x.l && at_ false v x.r else if x.kind = 4 then at_ false v x.l || at_ false v x.r else if x.kind = 5 then !at_ false v x.l || at_ false v x.r else false
def tv (M : List Nd) (names : List ByteArray) : Nat → List Bool
 | 0 => []
 | n + 1 => tv M names n ++ [oneV M names (tv M names n) n]
theorem tv_len (M : List Nd) (names : List ByteArray) : ∀ n, (tv M names n).length = n
 | 0 => rfl
 | n + 1 => by simp [tv, tv_len M names n]
def valS (M : List Nd) (names : List ByteArray) (i : Int) : Bool := at_ false (tv M names (i.toNat + 1)) i
theorem tv_pre (M : List Nd) (names : List ByteArray) (n : Nat) : ∀ m, tv M names n <+: tv M names (n + m)
 | 0 => List.prefix_refl _
 | m + 1 => (tv_pre M names n m).trans (List.prefix_append _ _)
theorem tv_at (M : List Nd) (names : List ByteArray) {i : Int} {n : Nat} (h0 : 0 ≤ i) (h1 : i < n) : at_ false (tv M names n) i = valS M names i := by
 obtain ⟨r, hr⟩ := tv_pre M names (i.toNat + 1) (n - (i.toNat + 1))
 rw [show i.toNat + 1 + (n - (i.toNat + 1)) = n by omega] at hr
 unfold valS at_
 rw [← hr, List.getD_eq_getElem?_getD, List.getElem?_append_left (by rw [tv_len]; omega), ← List.getD_eq_getElem?_getD]
theorem val_eq (M : List Nd) (names : List ByteArray) {i : Int} (h0 : 0 ≤ i) : valS M names i = oneV M names (tv M names i.toNat) i.toNat := by
 unfold valS at_
 rw [tv, List.getD_eq_getElem?_getD, List.getElem?_append_right (by rw [tv_len]; omega), tv_len]
 simp
theorem val_of {M : List Nd} (hw : Wf M) (names : List ByteArray) {i : Int} (hi : inb i M.length = true) (k : (nd M i).kind = 3 ∨ (nd M i).kind = 4 ∨ (nd M i).kind = 5) :
  valS M names i = if (nd M i).kind = 3 then valS M names (nd M i).l && valS M names (nd M i).r else if (nd M i).kind = 4 then valS M names (nd M i).l || valS M names (nd M i).r else !valS M names (nd M i).l || valS M names (nd M i).r := by
 have h1 := zI hi
 have h2 := hw.kids i hi k
 rw [val_eq M names h1.1]
 unfold oneV
 dsimp only
 rw [show ((i.toNat : Nat) : Int) = i by omega, tv_at M names h2.1.1 (by omega), tv_at M names h2.2.1 (by omega)]
 rcases k with k | k | k <;> simp [k]
theorem uP {M : List Nd} (hw : Wf M) (names : List ByteArray) {i : Int} (hi : inb i M.length = true) (k : (nd M i).kind = 5) : valS M names i = (!valS M names (nd M i).l || valS M names (nd M i).r) := by rw [val_of hw names hi (.inr (.inr k))]; simp [k]
theorem val_and {M : List Nd} (hw : Wf M) (names : List ByteArray) {i : Int} (hi : inb i M.length = true) (k : (nd M i).kind = 3) : valS M names i = (valS M names (nd M i).l && valS M names (nd M i).r) := by rw [val_of hw names hi (.inl k)]; simp [k]
theorem val_or {M : List Nd} (hw : Wf M) (names : List ByteArray) {i : Int} (hi : inb i M.length = true) (k : (nd M i).kind = 4) : valS M names i = (valS M names (nd M i).l || valS M names (nd M i).r) := by rw [val_of hw names hi (.inr (.inl k))]; simp [k]
theorem val_bot {M : List Nd} (names : List ByteArray) {i : Int} (hi : inb i M.length = true) (k : (nd M i).kind = 2) : valS M names i = false := by
 have h1 := zI hi
 rw [val_eq M names h1.1]
 unfold oneV
 dsimp only
 rw [show ((i.toNat : Nat) : Int) = i by omega]
 simp [k]
theorem ax_true {M : List Nd} (hw : Wf M) (names : List ByteArray) {k i : Int} (hi : inb i M.length = true) (h : axS M k i = true) : valS M names i = true := by
 have k0 : (nd M i).kind = 5 := by
  unfold axS at h
  simp only [Bool.and_eq_true, decide_eq_true_eq] at h
  exact h.1
 have ha := hw.l5 hi k0
 have hr := hw.r5 hi k0
 unfold axS at h
 simp only [k0, decide_true, Bool.true_and] at h
 rw [uP hw names hi k0]
 split at h
 ·simp only [Bool.and_eq_true, decide_eq_true_eq] at h
  obtain ⟨h1, h2⟩ := h
  rw [uP hw names hr h1, h2]
  cases valS M names (nd M i).l <;> simp
 split at h
 ·simp only [Bool.and_eq_true, decide_eq_true_eq] at h
  obtain ⟨⟨⟨⟨⟨⟨⟨⟨h1, h2⟩, h3⟩, h4⟩, h5⟩, h6⟩, h7⟩, h8⟩, h9⟩ := h
  rw [uP hw names ha h2, uP hw names (hw.r5 ha h2) h3, uP hw names hr h1, uP hw names (hw.l5 hr h1) h4, uP hw names (hw.r5 hr h1) h5, h6, h7, h8, h9]
  cases valS M names (nd M (nd M i).l).l <;> cases valS M names (nd M (nd M (nd M i).l).r).l <;> cases valS M names (nd M (nd M (nd M i).l).r).r <;> rfl
 split at h
 ·simp only [Bool.and_eq_true, decide_eq_true_eq] at h
  rw [val_and hw names ha h.1, h.2]
  cases valS M names (nd M i).r <;> simp
 split at h
 ·simp only [Bool.and_eq_true, decide_eq_true_eq] at h
  rw [val_and hw names ha h.1, h.2]
  cases valS M names (nd M i).r <;> simp
 split at h
 ·simp only [Bool.and_eq_true, decide_eq_true_eq] at h
  obtain ⟨⟨⟨h1, h2⟩, h3⟩, h4⟩ := h
  rw [uP hw names hr h1, val_and hw names (hw.r5 hr h1) h2, h3, h4]
  cases valS M names (nd M i).l <;> cases valS M names (nd M (nd M i).r).l <;> rfl
 split at h
 ·simp only [Bool.and_eq_true, decide_eq_true_eq] at h
  rw [val_or hw names hr h.1, h.2]
  cases valS M names (nd M i).l <;> simp
 split at h
 ·simp only [Bool.and_eq_true, decide_eq_true_eq] at h
  rw [val_or hw names hr h.1, h.2]
  cases valS M names (nd M i).l <;> simp
 split at h
 ·simp only [Bool.and_eq_true, decide_eq_true_eq] at h
  obtain ⟨⟨⟨⟨⟨⟨⟨⟨h1, h2⟩, h3⟩, h4⟩, h5⟩, h6⟩, h7⟩, h8⟩, h9⟩ := h
  have hc := hw.r5 hr h1
  rw [uP hw names ha h2, uP hw names hr h1, uP hw names (hw.l5 hr h1) h3, uP hw names hc h4, val_or hw names (hw.l5 hc h4) h5, h6, h7, h8, h9]
  cases valS M names (nd M (nd M i).l).l <;> cases valS M names (nd M (nd M (nd M i).r).l).l <;> cases valS M names (nd M (nd M i).l).r <;> rfl
 split at h
 ·simp only [decide_eq_true_eq] at h
  rw [val_bot names ha h]; rfl
 ·cases h
theorem lines_true {M : List Nd} (hw : Wf M) (names : List ByteArray) {hyps : List Int} {ls : List Ln} (h : All M hyps ls) (hh : ∀ x ∈ hyps, valS M names x = true) : ∀ (n : Nat) (j : Int), j.toNat < n → inb j ls.length = true → valS M names (at_ Ln.z ls j).form = true
 | 0, j, hn, _ => by omega
 | n + 1, j, hn, hj => by
  have h1 := zI hj
  have hr := h.2 j hj
  have hf := form_in h.1 hj
  unfold zaw at hr
  by_cases k : (at_ Ln.z ls j).kind = 11
  ·simp only [k, if_true, Bool.and_eq_true, decide_eq_true_eq] at hr
   obtain ⟨⟨⟨⟨⟨⟨a0, a1⟩, b0⟩, b1⟩, c⟩, d⟩, e⟩ := hr
   have ia : inb (at_ Ln.z ls j).a ls.length = true := jm a0 (by omega)
   have ib : inb (at_ Ln.z ls j).b ls.length = true := jm b0 (by omega)
   have va := lines_true hw names h hh n _ (by omega) ia
   have vb := lines_true hw names h hh n _ (by omega) ib
   rw [uP hw names (form_in h.1 ia) c, d, e, vb] at va
   simpa using va
  ·simp only [k, if_false, Bool.and_eq_true] at hr
   by_cases k10 : (at_ Ln.z ls j).kind = 10
   ·rw [if_pos k10, List.any_eq_true] at hr
    obtain ⟨_, y, hy, he⟩ := hr
    rw [← of_decide_eq_true he]; exact hh y hy
   ·rw [if_neg k10] at hr
    exact ax_true hw names hf hr.2
-- the document's table
theorem any_loop (v : List Bool) (x : Int) (hx : inb x v.length = true) (names : List ByteArray) (M : List Nd) : ∀ (n i : Nat) (b : Bool), i + n = names.length → forS (fun i s => ref08_True.b1 x names (some M) i s) n i (v.set x.toNat b) = some (v.set x.toNat (b || (names.drop i).any fun s => decide (s = (at_ Nd.z M x).name)))
 | 0, i, b, hi => by rw [List.drop_eq_nil_of_le (by omega)]; simp [forS]
 | n + 1, i, b, hi => by
  have h1 := zI hx
  have hil : i < names.length := by omega
  have he : at_ ByteArray.empty names (i : Int) = names[i] := by
   unfold at_; rw [Int.toNat_natCast, List.getD_eq_getElem?_getD, List.getElem?_eq_getElem hil]; rfl
  have hg : at_ false (v.set x.toNat b) x = b := by
   unfold at_; rw [List.getD_eq_getElem?_getD, List.getElem?_set, if_pos rfl, if_pos (by omega)]; rfl
  have hin : inb x (v.set x.toNat b).length = true := by simpa using hx
  simp only [forS]
  unfold ref08_True.b1
  rw [chk, if_pos hin, chk, if_pos hin, he, hg, List.set_set]
  simp only [Option.bind_some, Option.getD_some]
  rw [show ((i : Int) + 1) = ((i + 1 : Nat) : Int) by omega]
  have := any_loop v x hx names M n (i + 1) (b || decide (names[i] = (at_ Nd.z M x).name)) (by omega)
  unfold ref08_True.b1 at this
  rw [List.drop_eq_getElem_cons hil, List.any_cons, ← Bool.or_assoc]
  exact this
theorem tv_step {M : List Nd} (hw : Wf M) (names : List ByteArray) {id : Int} (hid : inb id M.length = true) {i : Nat} (hi : (i : Int) ≤ id) :
  ref08_True.b0 id (some M) names i (tv M names i ++ List.replicate (id.toNat + 1 - i) false) = some (.go (((i + 1 : Nat) : Int), tv M names (i + 1) ++ List.replicate (id.toNat + 1 - (i + 1)) false)) := by
 have h1 := zI hid
 have hlen := hw.len
 have hiM : inb (i : Int) M.length = true := jm (by omega) (by omega)
 have hvl : (tv M names i ++ List.replicate (id.toNat + 1 - i) false).length = id.toNat + 1 := by simp [tv_len]; omega
 have hiv : inb (i : Int) (tv M names i ++ List.replicate (id.toNat + 1 - i) false).length = true := by rw [hvl]; exact jm (by omega) (by omega)
 have hwr : IntKind.i64.wrap ((i : Int) + 1) = ((i + 1 : Nat) : Int) := by rw [wrap_small ⟨by omega, by omega⟩]; omega
 have hset : ∀ b, (tv M names i ++ List.replicate (id.toNat + 1 - i) false).set i b = (tv M names i ++ [b]) ++ List.replicate (id.toNat + 1 - (i + 1)) false := fun b => by
  rw [List.set_append_right _ _ (by rw [tv_len]; exact Nat.le_refl _), tv_len, show id.toNat + 1 - i = (id.toNat + 1 - (i + 1)) + 1 by omega, List.replicate_succ]
  simp
 have hat : ∀ j : Int, 0 ≤ j → j < i → at_ false (tv M names i ++ List.replicate (id.toNat + 1 - i) false) j = at_ false (tv M names i) j := fun j h0 hj => by
  unfold at_; rw [List.getD_eq_getElem?_getD, List.getElem?_append_left (by rw [tv_len]; omega), ← List.getD_eq_getElem?_getD]
 unfold ref08_True.b0
 simp only [hi, decide_true, if_true, Option.isSome_some, chk, Option.getD_some, hiM, nd_at hiM, hwr, hiv, Int.toNat_natCast]
 have ho : oneV M names (tv M names i) i = oneV M names (tv M names i) i := rfl
 rw [tv]
 by_cases k1 : (nd M i).kind = 1
 ·have e0 : (((names.length : Nat) : Int) - 0).toNat = names.length := by omega
  have h3 := any_loop (tv M names i ++ List.replicate (id.toNat + 1 - i) false) i hiv names M names.length 0 false (by omega)
  have h4 : (tv M names i ++ List.replicate (id.toNat + 1 - i) false).set (i : Int).toNat false = tv M names i ++ List.replicate (id.toNat + 1 - i) false := by
   rw [Int.toNat_natCast, hset, show id.toNat + 1 - i = (id.toNat + 1 - (i + 1)) + 1 by omega, List.replicate_succ]; simp
  rw [h4] at h3
  rw [e0]
  simp only [k1, decide_true, if_true]
  rw [show forS (fun i_1 s => ref08_True.b1 (i : Int) names (some M) i_1 s) names.length 0 (tv M names i ++ List.replicate (id.toNat + 1 - i) false) = _ from h3]
  simp only [Option.bind_some, Int.toNat_natCast, hset, nd_at hiM, Bool.false_or, List.drop_zero]
  unfold oneV
  simp [k1]
 ·have hk := hw.kind i hiM
  by_cases k2 : (nd M i).kind = 2
  ·simp only [k2, show ¬ ((2 : Int) = 1) by decide, show ¬ ((2 : Int) = 3) by decide, show ¬ ((2 : Int) = 4) by decide, show ¬ ((2 : Int) = 5) by decide, decide_false, Bool.false_eq_true, if_false]
   unfold oneV
   simp only [k2, show ¬ ((2 : Int) = 1) by decide, show ¬ ((2 : Int) = 3) by decide, show ¬ ((2 : Int) = 4) by decide, show ¬ ((2 : Int) = 5) by decide, if_false]
   rw [show id.toNat + 1 - i = (id.toNat + 1 - (i + 1)) + 1 by omega, List.replicate_succ]; simp
  ·have hkk : (nd M i).kind = 3 ∨ (nd M i).kind = 4 ∨ (nd M i).kind = 5 := by omega
   have hkid := hw.kids i hiM hkk
   have hl : inb (nd M i).l (tv M names i ++ List.replicate (id.toNat + 1 - i) false).length = true := by rw [hvl]; exact jm hkid.1.1 (by omega)
   have hrr : inb (nd M i).r (tv M names i ++ List.replicate (id.toNat + 1 - i) false).length = true := by rw [hvl]; exact jm hkid.2.1 (by omega)
   have q3 : inb (nd M i).r M.length = true := jm hkid.2.1 (by omega)
   rw [hat _ hkid.1.1 hkid.1.2, hat _ hkid.2.1 hkid.2.2]
   unfold oneV
   rw [List.length_append, List.length_replicate] at hl hrr
   rcases hkk with k | k | k <;> simp [k, hl, hrr, q3, hset]
theorem True_some {M : List Nd} (hw : Wf M) (names : List ByteArray) {id : Int} (hid : inb id M.length = true) {K : Nat} (hK : 1026 < K) : ref08_True.f (K + 1) (some M) id names = some (valS M names id) := by
 have h1 := zI hid
 have hlen := hw.len
 have hloop : ∀ (n k i : Nat), n < k → i + n = id.toNat + 1 → iter (fun s => ref08_True.b0 id (some M) names s.1 s.2) k ((i : Int), tv M names i ++ List.replicate (id.toNat + 1 - i) false) = some (.inl (((id.toNat + 1 : Nat) : Int), tv M names (id.toNat + 1))) := by
  intro n
  induction n with
  | zero =>
   intro k i hk hi
   obtain ⟨k, rfl⟩ : ∃ k', k = k' + 1 := ⟨k - 1, by omega⟩
   obtain rfl : i = id.toNat + 1 := by omega
   simp only [iter]
   rw [show ref08_True.b0 id (some M) names ((id.toNat + 1 : Nat) : Int) (tv M names (id.toNat + 1) ++ List.replicate (id.toNat + 1 - (id.toNat + 1)) false) = some (.brk (((id.toNat + 1 : Nat) : Int), tv M names (id.toNat + 1))) by
    unfold ref08_True.b0
    rw [if_neg (by simp; omega)]
    simp]
   rfl
  | succ n ih =>
   intro k i hk hi
   obtain ⟨k, rfl⟩ : ∃ k', k = k' + 1 := ⟨k - 1, by omega⟩
   simp only [iter]
   rw [tv_step hw names hid (by omega)]
   exact ih k (i + 1) (by omega) (by omega)
 show ref08_True.g _ _ _ _ _ = _
 unfold ref08_True.g
 rw [wrap_small ⟨by omega, by omega⟩, chk, if_pos (by simp; omega), show (id + 1).toNat = id.toNat + 1 by omega]
 rw [show (0, List.replicate (id.toNat + 1) false) = ((((0 : Nat) : Int)), tv M names 0 ++ List.replicate (id.toNat + 1 - 0) false) from rfl, hloop (id.toNat + 1) K 0 (by omega) (by omega)]
 simp only [Option.bind_some, aft]
 rw [chk, if_pos (by rw [tv_len]; exact jm h1.1 (by omega))]
 rfl
theorem HilbertSound_true {K : Nat} (hK : 1027 < K) (hh : law16_heads.f K = some true) {rows : List Nd} (hn : ∀ n ∈ rows, n.name.size < 9223372036854775808) (hl : rows.length * 40 ≤ 140737488355328) {hyps : List Int} {ls : List Ln} (names : List ByteArray) (h1 : hyps.length ≤ 16777216) (h2 : ls.length ≤ 1048576) : law16_HilbertSound.f K rows hyps ls names = some true := by
 obtain ⟨M, ht, hw, _⟩ := tables16 hn hl
 obtain ⟨K, rfl⟩ : ∃ k', K = k' + 1 := ⟨K - 1, by omega⟩
 unfold law16_HilbertSound.f
 rw [ht]
 simp only [Option.bind_some, List.nil_append]
 rw [chk, if_pos (by simp; omega), TellsH_some hw (show 10 ≤ K + 1 by omega) (show hyps.length < 4611686018427387904 by omega) (show ls.length < 4611686018427387904 by omega)]
 simp only [Option.bind_some, law16_num.f]
 by_cases hc : checkS M hyps ls = 0
 rotate_left
 ·simp [hc, hh]
 obtain ⟨c1, c2, c3⟩ := check_iff.1 hc
 have hpos : 0 < ls.length := List.length_pos_iff.2 c3
 have hlast : inb (lastS ls) M.length = true := form_in c2.1 (jm (by omega) (by omega))
 have hhas : ∀ i, ref03_T_Has.f (some M) i = some (inb i M.length) := fun i => by simp [ref03_T_Has.f, chk, inb]
 simp only [hc, ne_eq, not_true_eq_false, decide_false, Bool.false_eq_true, if_false, if_true, hhas, hlast, Bool.not_true, Option.bind_some]
 have hloop : ∀ (n i : Nat) (b : Bool), i + n = hyps.length → forN (fun i s => law16_HilbertSound.b0 (some M, some M) hyps (K + 1) names i s) n i b = some (.inl (b && (hyps.drop i).all fun x => valS M names x)) := by
  intro n
  induction n with
  | zero => intro i b hi; rw [List.drop_eq_nil_of_le (by omega)]; simp [forN]
  | succ n ih =>
   intro i b hi
   have hil : i < hyps.length := by omega
   have he : at_ (0 : Int) hyps (i : Int) = hyps[i] := by
    unfold at_; rw [Int.toNat_natCast, List.getD_eq_getElem?_getD, List.getElem?_eq_getElem hil]; rfl
   have hx : inb hyps[i] M.length = true := List.all_eq_true.1 c1 _ (List.getElem_mem hil)
   have hb : law16_HilbertSound.b0 (some M, some M) hyps (K + 1) names i b = some (.go (b && valS M names hyps[i])) := by
    unfold law16_HilbertSound.b0
    rw [he]
    simp only [hhas, hx, Option.bind_some, Bool.not_true, Bool.false_eq_true, if_false]
    cases b with
    | false => simp
    | true => simp [True_some hw names hx (show 1026 < K by omega)]
   rw [List.drop_eq_getElem_cons hil, List.all_cons, ← Bool.and_assoc]
   simp only [forN, hb, Option.bind_some]
   exact ih (i + 1) _ (by omega)
 have e0 : (((hyps.length : Nat) : Int) - 0).toNat = hyps.length := by omega
 rw [e0, show forN (fun i s => law16_HilbertSound.b0 (some M, some M) hyps (K + 1) names i s) hyps.length 0 true = _ from hloop hyps.length 0 true (by omega)]
 simp only [Option.bind_some, aft, Bool.true_and, List.drop_zero]
 cases ha : hyps.all (fun x => valS M names x) with
 | false => simp [hh]
 | true =>
  have := lines_true hw names c2 (fun x hx => List.all_eq_true.1 ha x hx) (ls.length + 1) ((ls.length : Int) - 1) (by omega) (jm (by omega) (by omega))
  simp [True_some hw names hlast (show 1026 < K by omega), show valS M names (lastS ls) = true from this, hh]
end Go.Proofs.YtflieamjacclnaaGreatDoor
end
section
namespace Go.Proofs.YtflieamjacclnaaGreatDoor
open Gw
end Go.Proofs.YtflieamjacclnaaGreatDoor
end
section
namespace Go.Proofs.YtflieamjacclnaaGreatDoor
open Gw
set_option maxRecDepth 100000
theorem heads16 : law16_heads.f 70000 = some true := by decide +kernel
end Go.Proofs.YtflieamjacclnaaGreatDoor
end
section
namespace Go.Proofs.YtflieamjacclnaaGreatDoor
end Go.Proofs.YtflieamjacclnaaGreatDoor
end
section
namespace Go.Proofs.YtflieamjacclnaaGreatDoor
open Gw
-- terms: nodes, levels, what is right
mutual
def depT : PTerm → Nat
 | .mk _ _ _ _ s => 1 + depL s
def depL : List PTerm → Nat
 | [] => 0
 | x :: l => max (depT x) (depL l)
end
def partsS (k : Int) : Int := if k = 1 then 0 else if k = 9 then 3 else if k = 3 ∨ k = 4 ∨ k = 12 then 2 else if k = 2 ∨ k = 5 ∨ k = 6 ∨ k = 7 ∨ k = 8 ∨ k = 10 ∨ k = 11 then 1 else -1
def nodeR (x : PTerm) : Bool :=
 decide (partsS x.kind = x.sub.length) && (if x.kind = 1 ∨ x.kind = 2 ∨ x.kind = 9 ∨ x.kind = 12 then decide (isWord x.name) else decide (x.name = ⟨#[]⟩)) &&
  (if x.kind = 9 then decide (isWord x.other) else decide (x.other = ⟨#[]⟩)) && (if x.kind = 11 then decide (0 ≤ x.form) && decide (x.form < 1024) else decide (x.form = 0))
mutual
def rightT : PTerm → Bool
 | .mk k n o f s => nodeR (.mk k n o f s) && rightL s
def rightL : List PTerm → Bool
 | [] => true
 | x :: l => rightT x && rightL l
end
mutual
def nmT : PTerm → Prop
 | .mk _ n o _ s => n.size < 9223372036854775808 ∧ o.size < 9223372036854775808 ∧ nmL s
def nmL : List PTerm → Prop
 | [] => True
 | x :: l => nmT x ∧ nmL l
end
inductive TR where
 | ok (f : Int)
 | no (c : Int) (way : List Int)
 deriving DecidableEq
namespace TR
def at_ (i : Int) : TR → TR
 | ok f => ok f
 | no c w => no c (i :: w)
def bind (r : TR) (k : Int → TR) : TR := match r with
 | ok f => k f
 | no c w => no c w
def code : TR → Int
 | ok _ => 0
 | no c _ => c
def way : TR → List Int
 | ok _ => []
 | no _ w => w
def form : TR → Int
 | ok f => f
 | no _ _ => 0
end TR
abbrev Sc := List (ByteArray × Int)
def ofK (M : List Nd) (f k : Int) (g : Nd → TR) : TR := if (nd M f).kind = k then g (nd M f) else .no 130 []
def toldS (M : List Nd) (P : Int → Sc → Option Int → TR) (s : Sc) (x : PTerm) : TR :=
 if x.kind = 1 then (match s.find? (fun q => decide (q.1 = x.name)) with | some q => .ok q.2 | none => .no 131 [])
 else if x.kind = 3 then (P 0 s none).bind fun f => ofK M f 5 fun n => (P 1 s (some n.l)).bind fun _ => .ok n.r
 else if x.kind = 5 then (P 0 s none).bind fun f => ofK M f 3 fun n => .ok n.l
 else if x.kind = 6 then (P 0 s none).bind fun f => ofK M f 3 fun n => .ok n.r
 else if x.kind = 11 then (if inb x.form M.length then (P 0 s (some x.form)).bind fun _ => .ok x.form else .no 31 [])
 else if x.kind = 12 then (P 0 s none).bind fun f => P 1 ((x.name, f) :: s) none
 else if x.kind = 9 then (P 0 s none).bind fun f => ofK M f 4 fun n => (P 1 ((x.name, n.l) :: s) none).bind fun a => (P 2 ((x.other, n.r) :: s) none).bind fun b => if a = b then .ok a else .no 130 []
 else .no 132 []
def chkdS (M : List Nd) (P : Int → Sc → Option Int → TR) (s : Sc) (x : PTerm) (id : Int) : TR :=
 if x.kind = 2 then ofK M id 5 fun n => P 0 ((x.name, n.l) :: s) (some n.r)
 else if x.kind = 4 then ofK M id 3 fun n => (P 0 s (some n.l)).bind fun _ => P 1 s (some n.r)
 else if x.kind = 7 then ofK M id 4 fun n => P 0 s (some n.l)
 else if x.kind = 8 then ofK M id 4 fun n => P 0 s (some n.r)
 else if x.kind = 9 then (P 0 s none).bind fun f => ofK M f 4 fun n => (P 1 ((x.name, n.l) :: s) (some id)).bind fun _ => P 2 ((x.other, n.r) :: s) (some id)
 else if x.kind = 10 then (P 0 s none).bind fun f => ofK M f 2 fun _ => .ok id
 else if x.kind = 12 then (P 0 s none).bind fun f => P 1 ((x.name, f) :: s) (some id)
 else (toldS M P s x).bind fun f => if f = id then .ok id else .no 130 []
def tyS (M : List Nd) : Nat → PTerm → Sc → Option Int → TR
 | 0, _, _, _ => .no 132 []
 | k + 1, x, s, want =>
  let P : Int → Sc → Option Int → TR := fun i s' w => (tyS M k (at_ PTerm.z x.sub i) s' w).at_ i
  match want with
  | none => toldS M P s x
  | some id => chkdS M P s x id
end Go.Proofs.YtflieamjacclnaaGreatDoor
end
section
namespace Go.Proofs.YtflieamjacclnaaGreatDoor
open Gw
end Go.Proofs.YtflieamjacclnaaGreatDoor
end
section
namespace Go.Proofs.YtflieamjacclnaaGreatDoor
open Gw
def err : TR → Option (Int × List Int)
 | .ok _ => none
 | .no c w => some (c, w.reverse)
abbrev Tc : Type := PChecker → PTerm → List (ByteArray × Int) → Option (Int × Option (Int × List Int))
abbrev Cc : Type := PChecker → PTerm → List (ByteArray × Int) → Int → Option (Option (Int × List Int))
def Sok (M : List Nd) (s : Sc) : Prop := ∀ q ∈ s, inb q.2 M.length = true
def Tells (M : List Nd) (r : Option (Int × Option (Int × List Int))) (t : TR) : Prop := ∃ i, r = some (i, err t) ∧ ∀ f, t = .ok f → i = f ∧ inb f M.length = true
section
variable {M : List Nd} {x : PTerm} {k : Nat} {T : Tc} {C : Cc}
structure Parts (M : List Nd) (k : Nat) (x : PTerm) (T : Tc) (C : Cc) : Prop where
 told : ∀ i, inb i x.sub.length = true → ∀ s, Sok M s → Tells M (T ⟨some M⟩ (at_ PTerm.z x.sub i) s) (tyS M k (at_ PTerm.z x.sub i) s none)
 chkd : ∀ i, inb i x.sub.length = true → ∀ s, Sok M s → ∀ id, inb id M.length = true → C ⟨some M⟩ (at_ PTerm.z x.sub i) s id = some (err (tyS M k (at_ PTerm.z x.sub i) s (some id)))
end
end Go.Proofs.YtflieamjacclnaaGreatDoor
end
section
namespace Go.Proofs.YtflieamjacclnaaGreatDoor
open Gw
end Go.Proofs.YtflieamjacclnaaGreatDoor
end
section
namespace Go.Proofs.YtflieamjacclnaaGreatDoor
open Gw Go.ChangeShapes Go.WideShapes Go.ChangeAt Go.RowKit
set_option maxRecDepth 100000
theorem ownKnob_none : ownKnob PP.godebug = none := by kernel_rfl
theorem laidOut_PP : laidOutB PP = true := by kernel_rfl
theorem trodAll_stays {H : Type} {enc : TypeId × Value → H} {W W' : World} {sp : Nat → Bool} : ∀ {ts : List TypeId} {vs : List Value} {ds : List (DataW H)} {ps : List MemPlace}, (∀ t ∈ ts, PP.readableRec t = true ∧ t < PP.types.size) →
  DataW.TrodAll enc PP W 0 (fun _ => true) true ts vs ds ps → (∀ p ∈ ps, W.sameAt W' p) → (∀ p ∈ ps, sp p.block = true) → DataW.TrodAll enc PP W' 0 sp true ts vs ds ps
 | [], vs, ds, ps, _, h, _, _ => by
  obtain ⟨rfl, rfl, rfl⟩ := trodAll_nil h
  exact trodAll_mk0
 | t :: ts, vs, ds, ps, hr, h, h1, h2 => by
  obtain ⟨v, vs, d, ds, p, q, rfl, rfl, rfl, h0, h3⟩ := trodAll_cons h
  have ht := hr t (by simp)
  exact trodAll_cons_mk (WideElems.Trod_stays laidOut_PP ht.1 ht.2 h0 (fun x hx => h1 x (by simp [hx])) (fun x hx => h2 x (by simp [hx])))
   (trodAll_stays (fun t ht => hr t (by simp [ht])) h3 (fun x hx => h1 x (by simp [hx])) (fun x hx => h2 x (by simp [hx])))
def oth0 : Oth := ⟨fun _ => False, [], fun _ h => by cases h⟩
section
variable {P : Program} {W : World} {b t : Nat} {k : IntKind} {v : Value}
end
section
variable {H : Type} {enc : TypeId × Value → H} {P : Program} {W : World} {t : TypeId} {fuel : Nat} {cs : List Value} {x : DataW H × List MemPlace} {sp : Nat → Bool} {hd : Bool} {b0 : Nat}
theorem take_one {l : List Value} {o : Nat} {v : Value} (h : (l.drop o).take 1 = [v]) : l[o]? = some v := by
 have : ((l.drop o).take 1)[0]? = some v := by rw [h]; rfl
 rw [List.getElem?_take] at this
 simpa using this
theorem fld_int {i off ft : Nat} {k : IntKind} (hf : kU P t i off ft) (hk : P.underlying ft = some (.int k)) (hc : P.cellsOf ft = 1) (h : DataW.trod enc P W b0 sp hd fuel t cs = some x) : ∃ n, cs[off]? = some (.int k n) := by
 obtain ⟨fs, fd, hu, hi, rfl, rfl⟩ := hf
 obtain ⟨xs, n, _, _, hl, hx, hall⟩ := DataW.trod_struct hu h
 have h1 := hall i fd hi
 have h2 : i < xs.length := by rw [hx]; exact (Array.getElem?_eq_some_iff.1 hi).1
 rw [List.getElem?_eq_getElem h2, hc] at h1
 obtain ⟨n, e, _⟩ := DataW.trod_int hk h1
 exact ⟨n, take_one e⟩
theorem fld_str {i off ft : Nat} (hf : kU P t i off ft) (hk : P.underlying ft = some .string) (hc : P.cellsOf ft = 1) (h : DataW.trod enc P W b0 sp hd fuel t cs = some x) : ∃ s : ByteArray, cs[off]? = some (.string s) ∧ s.size ≤ maxLen := by
 obtain ⟨fs, fd, hu, hi, rfl, rfl⟩ := hf
 obtain ⟨xs, n, _, _, hl, hx, hall⟩ := DataW.trod_struct hu h
 have h1 := hall i fd hi
 have h2 : i < xs.length := by rw [hx]; exact (Array.getElem?_eq_some_iff.1 hi).1
 rw [List.getElem?_eq_getElem h2, hc] at h1
 obtain ⟨s, e, _, hs⟩ := DataW.trod_string hk h1
 exact ⟨s, take_one e, hs⟩
theorem slice_of {α : Type} [Inhabited α] {e k : Nat} {C : α → List Value} {Q : α → Prop} {base : Nat} {v : Value} {d : DataW H} {ps : List MemPlace} (ht : P.underlying t = some (.slice e)) (hk : P.cellsOf e = k) (hC : ∀ a, (C a).length = k) (hk0 : 0 < k)
  (hel : ∀ (n : Nat) (cs : List Value) (x : DataW H × List MemPlace), DataW.trod enc P W 0 (fun _ => true) true n e cs = some x → ∃ a, cs = C a ∧ Q a)
  (hval : Value.okWide P W .any base t v) (h : DataW.Trod enc P W 0 (fun _ => true) true t v d ps) :
  ∃ (l : List α) (s : SlV), v = s.v ∧ Rd W k s (l.map C) ∧ (∀ a ∈ l, Q a) ∧ (l = [] ∨ ∃ elems spare, d = .slice elems spare ∧ elems.length = l.length) := by
 obtain ⟨a0, len0, cap0, rfl⟩ := okWide_slice ht hval
 obtain ⟨fuel, hf⟩ := h
 rcases Deep.open_slice ht hf with ⟨h1, h2⟩ | ⟨a, len, cap, m, n, D, Pl, h1, _, hlc, hcm, hm, h2, hx⟩
 ·simp [Value.cells] at h1
  obtain ⟨rfl, rfl, rfl⟩ := h1
  exact ⟨[], SlV.nil, SlV.nil_eq, Rd.nil W k, by simp, .inl rfl⟩
 ·simp [Value.cells] at h1
  obtain ⟨rfl, rfl, rfl⟩ := h1
  have hval2 := hval
  simp only [Value.okWide, ht, Cell.okWide, Cell.ok] at hval2
  obtain ⟨_, _, _, hspot, row, cells, hshape, _⟩ := hval2
  obtain ⟨ab, ao, asp⟩ := a
  obtain rfl : asp = none := hspot
  simp only at hshape
  have hlt : ab < W.heap.size := by
   unfold World.shape? at hshape
   cases hh : W.heap[ab]? with
   | none => rw [hh] at hshape; cases hshape
   | some o => exact (Array.getElem?_eq_some_iff.1 hh).1
  have hmc : m = cap0 := by rw [hm]; rfl
  obtain ⟨f, hfx⟩ := Deep.choose_lt (α := α) (n := len0) (p := fun i y => W.cells? 0 ((⟨ab, ao, none⟩ : Addr).add (i * P.cellsOf e)) (P.cellsOf e) = some (C y) ∧ Q y) (fun i hi => by
   obtain ⟨cs', hc, ht'⟩ := hx i (by omega)
   obtain ⟨y, rfl, hq⟩ := hel _ _ _ ht'
   exact ⟨y, hc, hq⟩)
  refine ⟨(List.range len0).map f, ⟨some ⟨ab, ao, none⟩, len0, cap0⟩, by rw [SlV.eq], ⟨⟨by simp, ?_, ?_⟩, ?_, hlc⟩, ?_, .inr ⟨_, _, by simpa using congrArg Prod.fst h2, by simp⟩⟩
  ·intro r hr
   obtain ⟨y, _, rfl⟩ := List.mem_map.1 hr
   exact hC y
  ·intro i r hr
   rw [List.getElem?_map, List.getElem?_map] at hr
   have hi : i < len0 := by
    refine Nat.lt_of_not_le fun q => ?_
    rw [List.getElem?_eq_none (by simpa using q)] at hr; cases hr
   rw [List.getElem?_eq_getElem (by simpa using hi)] at hr
   simp only [List.getElem_range, Option.map_some, Option.some.injEq] at hr
   subst hr
   obtain ⟨h3, _⟩ := hfx i hi
   obtain ⟨_, hl, hc⟩ := World.cells?_some h3
   refine ⟨rfl, fun j v hv => ?_⟩
   have hj : j < k := by have := (List.getElem?_eq_some_iff.1 hv).1; rw [hC] at this; exact this
   have h4 := hc j (by rw [hk]; exact hj)
   rw [hv] at h4
   have hadd : ((⟨ab, ao, none⟩ : Addr).add (i * P.cellsOf e)).add j = ⟨ab, ao + i * k + j, none⟩ := by
    rw [hk]
    unfold Addr.add
    by_cases h5 : i * k = 0
    ·by_cases h6 : j = 0
     ·simp [h5, h6]
     ·simp [h5, h6]
    ·by_cases h6 : j = 0
     ·simp [h5, h6]
     ·simp [h5, h6]
   rw [hadd] at h4
   exact h4
  ·rintro i ⟨_, rfl⟩
   exact hlt
  ·intro y hy
   obtain ⟨i, hi, rfl⟩ := List.mem_map.1 hy
   exact (hfx i (List.mem_range.1 hi)).2
end
instance : Inhabited Nd := ⟨Nd.z⟩
theorem nds_of {H : Type} {enc : TypeId × Value → H} {W : World} {base : Nat} {v : Value} {d : DataW H} {ps : List MemPlace} (hval : Value.okWide PP W .any base ue v) (h : DataW.Trod enc PP W 0 (fun _ => true) true ue v d ps) :
  ∃ (l : List Nd) (s : SlV), v = s.v ∧ Rd W 4 s (l.map Nd.C) ∧ (∀ a ∈ l, a.name.size < 9223372036854775808) ∧ (l = [] ∨ ∃ elems spare, d = .slice elems spare ∧ elems.length = l.length) := by
 refine slice_of xb.1 (by kernel_rfl) Nd.len (by decide) (fun n cs x hx => ?_) hval h
 obtain ⟨a, ha⟩ := fld_int fv_Nd_kind un_api_Kind (by kernel_rfl) hx
 obtain ⟨b, hb, hbs⟩ := fld_str fv_Nd_name yO (by kernel_rfl) hx
 obtain ⟨c, hc⟩ := fld_int fv_Nd_l un_int (by kernel_rfl) hx
 obtain ⟨d, hd⟩ := fld_int fv_Nd_r un_int (by kernel_rfl) hx
 obtain ⟨fs, fd, hu, _⟩ := fv_Nd_kind
 obtain ⟨xs, n', _, _, hl, _⟩ := DataW.trod_struct hu hx
 have hl : cs.length = 4 := hl.trans (by kernel_rfl)
 refine ⟨⟨a, b, c, d⟩, ?_, by have : maxLen = 9223372036854775807 := rfl; show b.size < _; omega⟩
 match cs, hl with
 | [v0, v1, v2, v3], _ =>
  simp at ha hb hc hd
  subst ha hb hc hd
  rfl
theorem bulk_one {H : Type} (d : DataW H) : 1 ≤ Rows.uptoBulk d := by
 cases d with
 | lit l => cases l <;> simp [Rows.uptoBulk]
 | nil => simp [Rows.uptoBulk]
 | ptr d => simp [Rows.uptoBulk]
 | slice elems spare => simp [Rows.uptoBulk]
 | agg parts => simp [Rows.uptoBulk]
 | iface t d => simp [Rows.uptoBulk]
 | map entries => simp [Rows.uptoBulk]
 | held h => simp [Rows.uptoBulk]
theorem bulk_part {H : Type} {d : DataW H} {l : List (DataW H)} (h : d ∈ l) : Rows.uptoBulk d ≤ Rows.uptoBulkAll l := by
 induction l with
 | nil => cases h
 | cons x r ih =>
  simp only [Rows.uptoBulkAll]
  cases List.mem_cons.1 h with
  | inl e => subst e; omega
  | inr e => have := ih e; omega
theorem bulk_len {H : Type} (l : List (DataW H)) : l.length ≤ Rows.uptoBulkAll l := by
 induction l with
 | nil => simp [Rows.uptoBulkAll]
 | cons x r ih => have := bulk_one x; simp only [Rows.uptoBulkAll, List.length_cons]; omega
theorem small_len {H : Type} {α : Type} {l : List α} {d : DataW H} {ds : List (DataW H)} (hk : Rows.uptoSmall H ds = true) (hd : d ∈ ds) (h : l = [] ∨ ∃ elems spare, d = .slice elems spare ∧ elems.length = l.length) : l.length ≤ 1048576 := by
 rcases h with rfl | ⟨elems, spare, rfl, he⟩
 ·simp
 ·have h1 := bulk_part hd
  have h2 := bulk_len elems
  have h3 : Rows.uptoBulkAll ds ≤ 1048576 := by simpa [Rows.uptoSmall] using hk
  simp only [Rows.uptoBulk] at h1
  omega
def Held (W : World) (Z : List OA) : Prop := ∀ z ∈ Z, ∃ F, z.holds W F
theorem Held.nil {W : World} : Held W [] := fun _ h => by cases h
theorem Held.cons {W : World} {z : OA} {Z : List OA} (h : ∃ F, z.holds W F) (hz : Held W Z) : Held W (z :: Z) := fun x hx => by
 rcases List.mem_cons.1 hx with rfl | hx
 ·exact h
 ·exact hz x hx
theorem Held.s {W : World} {Z : List OA} {k : Nat} {α : Type} {C : α → List Value} {s : SlV} {l : List α} (hr : Rd W k s (l.map C)) (hl : l.length ≤ 140737488355328) (hz : Held W Z) : Held W (fS k C s l :: Z) :=
 .cons ⟨s.fp, ⟨hr, hl⟩, fun _ => Iff.rfl⟩ hz
theorem stheld {W : World} {Z : List OA} (h : Held W Z) : St (fun _ => False) oth0 W W [] Z :=
 ⟨fun _ => False, fun _ h => h.elim, fun _ h => h.elim, Chg.refl _ _, trivial, fun z hz => by
  obtain ⟨F, hF⟩ := h z hz
  exact ⟨F, hF, fun i _ q => q.elim (fun x => x) (fun x => x)⟩, fun d hd => absurd hd (by simp [oth0])⟩
theorem gEt : PP.globalNamed "errors.errorType" = some 0 := by kernel_rfl
theorem gRt : (PP.cutTypes.find? (·.1 == "internal/reflectlite.rtype")).map (·.2) = some 233 := by kernel_rfl
theorem gSize : PP.types.size = 285 := by kernel_rfl
theorem gRow : ((List.range 285).filter fun t => PP.rowNamed t [101, 114, 114, 111, 114]) = [170] := by kernel_rfl
theorem gHandle : typeHandle PP 170 = .pointer (some ⟨4, 170, none⟩) := by kernel_rfl
theorem et_core {W : World} (h : handlesMet PP [("errors.errorType", Rows.laid_errors_errorType)] W) : Et W := by
 obtain ⟨name, u, ty, e1, e2, e3, e4, e5⟩ := h _ (List.mem_singleton.2 rfl)
 have en : name = [101, 114, 114, 111, 114] := (Option.some.inj e1).symm
 subst en
 obtain rfl := Option.some.inj (gRt.symm.trans e2)
 have hm : ty ∈ (List.range 285).filter fun t => PP.rowNamed t [101, 114, 114, 111, 114] := List.mem_filter.2 ⟨List.mem_range.2 (by rw [← gSize]; exact e3), e4⟩
 rw [gRow] at hm
 obtain rfl := List.mem_singleton.1 hm
 rw [gHandle] at e5
 intro j v hj
 cases j with
 | zero => simp at hj; subst hj; simpa [etV] using World.var?_cell gEt e5 0
 | succ j => simp at hj
theorem Held.et {W : World} {Z : List OA} (h : Et W) (hz : Held W Z) : Held W (oEt :: Z) := .cons ⟨fun i => i = 0, h, fun _ => Iff.rfl⟩ hz
-- terms
instance : Inhabited Term := ⟨Term.z⟩
instance : Inhabited PTerm := ⟨PTerm.z⟩
instance : Inhabited Hyp := ⟨Hyp.z⟩
end Go.Proofs.YtflieamjacclnaaGreatDoor
end
section
namespace Go.Proofs.YtflieamjacclnaaGreatDoor
open Gw Go.ChangeShapes Go.WideShapes Go.ChangeAt Go.RowKit
set_option maxRecDepth 100000
def tz64 : List Int := Lib.deBruijn64tab.map fun (z : Nat) => (z : Int)
def tz32 : List Int := Lib.deBruijn32tab.map fun (z : Nat) => (z : Int)
theorem laidMet_tail {P : Program} {w : World} {x : String × DataW Unit} {l : List (String × DataW Unit)} (h : laidMet P (x :: l) w) : laidMet P l w := by
 obtain ⟨ps, ⟨g, t, cs, fuel, p, q, _, _, _, _, hv, rfl⟩, hn, hr⟩ := h
 exact ⟨q, hv, (List.nodup_append.1 hn).2.1, fun b off hp => hr b off (List.mem_append_right _ hp)⟩
theorem post_old {H : Type} {enc : TypeId × Value → H} {P : Program} {f : Func} {s : ChangeSpec} {apart fresh handsOn again : Bool} {W W' : World} {args : Array Value} {v : Value} {ds gs : List (DataW H)} {before pa pv : List MemPlace}
  (hW : DataW.Whole enc P f.params.toList s.vars apart W args.toList ds gs before)
  (hres : ∀ (b : Nat) (sp : Nat → Bool) (hd : Bool), DataW.TrodAll enc P W' b sp hd f.resultTypes.toList (v.resultList f.resultTypes.size) (s.fn H (ds ++ gs)).results [])
  (hargs : ∀ sp : Nat → Bool, (∀ p ∈ before, sp p.block = true) → DataW.TrodAll enc P W' 0 sp true f.params.toList args.toList (s.fn H (ds ++ gs)).args pa)
  (hvars : ∀ sp : Nat → Bool, (∀ p ∈ before, sp p.block = true) → DataW.TrodVars enc P W' sp s.vars (s.fn H (ds ++ gs)).vars pv)
  (hps : before = pa ++ pv) (hk : W.keptBut W' (· ∈ before)) (hfz : ∀ a, a.block < W.heap.size → W'.frozen? a = W.frozen? a)
  (hok : ∀ (j : Nat) (t : TypeId) (r : Value), f.resultTypes[j]? = some t → (v.resultList f.resultTypes.size)[j]? = some r → Value.okWide P W' .any 0 t r) :
  s.post enc P f apart fresh handsOn again W args v W' := by
 have hlt : ∀ p ∈ before, p.block < W.heap.size := fun p hp => hW.lt p hp
 have h0 : ∀ p ∈ before, (fun b => decide (b < W.heap.size)) p.block = true := fun p hp => decide_eq_true (hlt p hp)
 have hin : ∀ p ∈ before, p ∈ pa ∨ p ∈ pv := fun p hp => List.mem_append.1 (hps ▸ hp)
 have hin' : ∀ p, p ∈ ([] ++ pa) ++ pv → p ∈ before := fun p hp => by rw [hps]; simpa using hp
 refine ⟨ds, gs, before, [], pa, pv, hW, hres _ _ _, hargs _ h0, hvars _ h0, World.keptBut_mono (fun p hp => ⟨hp, .inr (hin p hp)⟩) hk, fun _ => ?_⟩
 obtain ⟨_, _, _, _, _, hz, hn⟩ := hW
 refine ⟨hok, _, _, ([] ++ pa) ++ pv, ⟨[] ++ pa, pv, trodAll_append (hargs _ fun _ _ => rfl) (hres _ _ _), hvars _ (fun _ _ => rfl), rfl, fun b off hp => ?_, fun ha => ?_⟩, fun p hp _ => hin' p hp⟩
 ·have hb := hin' _ hp
  rw [hfz _ (hlt _ hb)]; exact hz b off hb
 ·have := hn ha
  rw [hps] at this
  simpa using this
theorem pw_core {W : World} {rest : List (String × DataW Unit)} (h : laidMet PP (("internal/strconv.uint64pow10", Rows.laid_internal_strconv_uint64pow10) :: rest) W) : Pw W :=
 Lib.tabIs_of_head (rest := rest) gPw (t := T_20_uint64) (e := T_uint64) (n := 20) (by kernel_rfl) ar_20_uint64.1 (by kernel_rfl) (by kernel_rfl) (by kernel_rfl) h
theorem laid_four {W : World} (h : laidMetH PP [("math/bits.deBruijn32tab", Rows.laid_math_bits_deBruijn32tab), ("math/bits.deBruijn64tab", Rows.laid_math_bits_deBruijn64tab), ("internal/strconv.uint64pow10", Rows.laid_internal_strconv_uint64pow10), ("errors.errorType", Rows.laid_errors_errorType)] W) : Pw W ∧ Et W := by
 have h' : laidMet PP [("math/bits.deBruijn32tab", Rows.laid_math_bits_deBruijn32tab), ("math/bits.deBruijn64tab", Rows.laid_math_bits_deBruijn64tab), ("internal/strconv.uint64pow10", Rows.laid_internal_strconv_uint64pow10)] W ∧ handlesMet PP [("errors.errorType", Rows.laid_errors_errorType)] W := h
 exact ⟨pw_core (laidMet_tail (laidMet_tail h'.1)), et_core h'.2⟩
theorem Held.pw {W : World} {Z : List OA} (h : Pw W) (hz : Held W Z) : Held W (oPw :: Z) := .cons ⟨fun i => i = 1, ⟨h, fun _ => Iff.rfl⟩⟩ hz
instance : Inhabited Ln := ⟨Ln.z⟩
theorem lns_of {H : Type} {enc : TypeId × Value → H} {W : World} {base : Nat} {v : Value} {d : DataW H} {ps : List MemPlace} (hval : Value.okWide PP W .any base yq v) (h : DataW.Trod enc PP W 0 (fun _ => true) true yq v d ps) :
  ∃ (l : List Ln) (s : SlV), v = s.v ∧ Rd W 4 s (l.map Ln.C) ∧ (∀ a ∈ l, True) ∧ (l = [] ∨ ∃ elems spare, d = .slice elems spare ∧ elems.length = l.length) := by
 refine slice_of zW.1 (by kernel_rfl) Ln.len (by decide) (fun n cs x hx => ?_) hval h
 obtain ⟨a, ha⟩ := fld_int fv_Ln_kind un_api_LineKind (by kernel_rfl) hx
 obtain ⟨b, hb⟩ := fld_int fv_Ln_form un_int (by kernel_rfl) hx
 obtain ⟨c, hc⟩ := fld_int fv_Ln_a un_int (by kernel_rfl) hx
 obtain ⟨d, hd⟩ := fld_int fv_Ln_b un_int (by kernel_rfl) hx
 obtain ⟨fs, fd, hu, _⟩ := fv_Ln_kind
 obtain ⟨xs, n', _, _, hl, _⟩ := DataW.trod_struct hu hx
 have hl : cs.length = 4 := hl.trans (by kernel_rfl)
 refine ⟨⟨a, b, c, d⟩, ?_, trivial⟩
 match cs, hl with
 | [v0, v1, v2, v3], _ =>
  simp at ha hb hc hd
  subst ha hb hc hd
  rfl
theorem ints_of {H : Type} {enc : TypeId × Value → H} {W : World} {base : Nat} {v : Value} {d : DataW H} {ps : List MemPlace} (hval : Value.okWide PP W .any base T_L_int v) (h : DataW.Trod enc PP W 0 (fun _ => true) true T_L_int v d ps) :
  ∃ (l : List Int) (s : SlV), v = s.v ∧ Rd W 1 s (l.map IC) ∧ (∀ a ∈ l, True) ∧ (l = [] ∨ ∃ elems spare, d = .slice elems spare ∧ elems.length = l.length) := by
 refine slice_of xF.1 (by kernel_rfl) (fun _ => rfl) (by decide) (fun n cs x hx => ?_) hval h
 obtain ⟨n, rfl, _⟩ := DataW.trod_int un_int hx
 exact ⟨n, rfl, trivial⟩
instance : Inhabited ByteArray := ⟨ByteArray.empty⟩
theorem strs_of {H : Type} {enc : TypeId × Value → H} {W : World} {base : Nat} {v : Value} {d : DataW H} {ps : List MemPlace} (hval : Value.okWide PP W .any base vp v) (h : DataW.Trod enc PP W 0 (fun _ => true) true vp v d ps) :
  ∃ (l : List ByteArray) (s : SlV), v = s.v ∧ Rd W 1 s (l.map SC) ∧ (∀ a ∈ l, True) ∧ (l = [] ∨ ∃ elems spare, d = .slice elems spare ∧ elems.length = l.length) := by
 refine slice_of x9.1 (by kernel_rfl) (fun _ => rfl) (by decide) (fun n cs x hx => ?_) hval h
 obtain ⟨s, rfl, _⟩ := DataW.trod_string yO hx
 exact ⟨s, rfl, trivial⟩
end Go.Proofs.YtflieamjacclnaaGreatDoor
end
section
namespace Go.Proofs.YtflieamjacclnaaGreatDoor
open Gw Go.ChangeShapes Go.WideShapes Go.ChangeAt Go.RowKit
set_option maxRecDepth 100000
namespace LawHilbertSound
theorem contract (H : Type) (enc : TypeId × Value → H) (W : World) (base : Nat) (args : Array Value) (ds gs : List (DataW H)) (before : List MemPlace)
  (hval : ∀ (j : Nat) t v, xu.params[j]? = some t → args[j]? = some v → Value.okWide PP W .any base t v)
  (hW : DataW.Whole enc PP xu.params.toList Rows.hilbertSoundSpec.vars false W args.toList ds gs before) (hL : laidMetH PP Rows.hilbertSoundUptoRow.laid W) (hsm : Rows.uptoSmall H (ds ++ gs) = true) :
  Calls PP yr args W fun e W' => ∃ v, e = .returned v ∧ Rows.hilbertSoundSpec.post enc PP xu false true false false W args v W' := by
 have hW' := hW
 have hlt := hW.lt
 obtain ⟨p, q, hA0, hV, rfl, hfz, hnd⟩ := hW
 have hA : DataW.TrodAll enc PP W 0 (fun _ => true) true xu.params.toList args.toList ds p := hA0
 have hpar : xu.params = #[ue, T_L_int, yq, vp] := by kernel_rfl
 rw [hpar] at hA hval
 obtain ⟨v0, v1, v2, v3, d0, d1, d2, d3, p0, p1, p2, p3, rfl, rfl, rfl, h0, h1, h2, h3⟩ := trodAll_four hA
 obtain ⟨rfl, rfl⟩ := trodVars_none hV
 obtain ⟨a0, s0, rfl, hrd0, hnm0, hsl0⟩ := nds_of (hval 0 _ _ rfl rfl) h0
 have hln0 := small_len hsm (by simp) hsl0
 obtain ⟨a1, s1, rfl, hrd1, hnm1, hsl1⟩ := ints_of (hval 1 _ _ rfl rfl) h1
 have hln1 := small_len hsm (by simp) hsl1
 obtain ⟨a2, s2, rfl, hrd2, hnm2, hsl2⟩ := lns_of (hval 2 _ _ rfl rfl) h2
 have hln2 := small_len hsm (by simp) hsl2
 obtain ⟨a3, s3, rfl, hrd3, hnm3, hsl3⟩ := strs_of (hval 3 _ _ rfl rfl) h3
 have hln3 := small_len hsm (by simp) hsl3
 have S := stheld (W := W) (.s hrd0 (by omega) (.s hrd1 (by omega) (.s hrd2 (by omega) (.s hrd3 (by omega) (.et (laid_four hL).2 (.pw (laid_four hL).1 .nil))))))
 refine (law16_HilbertSound_st S (HilbertSound_true (K := 70000) (by omega) heads16 hnm0 (by omega) a3 (by omega) (by omega))).mono fun e W' ⟨v, he, hv, hS⟩ => ?_
 subst hv
 have hx := hS.frame
 refine ⟨_, he, post_old (pa := p0 ++ p1 ++ p2 ++ p3) (pv := []) hW' (fun _ _ _ => trodAll_cons_mk (shut_bool un_bool _) trodAll_mk0) (fun sp hsp => ?_) (fun _ _ => rfl) (by simp) ((Ext.below hx).frame _) hx.froz (ok_one (by kernel_rfl) rfl (okWide_bool_mk un_bool _))⟩
 rw [hpar]
 refine trodAll_stays (ts := [ue, T_L_int, yq, vp]) (fun t ht => ?_) hA (fun p hp => (Ext.below hx).same (hlt p (by simpa using hp))) (fun p hp => hsp p (by simpa using hp))
 simp only [List.mem_cons, List.not_mem_nil, or_false] at ht
 rcases ht with rfl | rfl | rfl | rfl <;> exact ⟨by kernel_rfl, of_decide_eq_true (by kernel_rfl)⟩
noncomputable def laidWorld0 (os : Os) : World :=
 { World.holding PP os ⟨#[], #[], []⟩ with heap := (World.holding PP os ⟨#[], #[], []⟩).heap.modify 0 fun
   | .cells _ t frozen => .cells #[etV] t frozen
   | o => o }
noncomputable def laidWorld1 (os : Os) : World :=
 { laidWorld0 os with heap := (laidWorld0 os).heap.modify 3 fun
   | .cells _ t frozen => .cells (tz64.map (Value.int .u8)).toArray t frozen
   | o => o }
noncomputable def laidWorld2 (os : Os) : World :=
 { laidWorld1 os with heap := (laidWorld1 os).heap.modify 2 fun
   | .cells _ t frozen => .cells (tz32.map (Value.int .u8)).toArray t frozen
   | o => o }
noncomputable def laidWorld (os : Os) : World :=
 { laidWorld2 os with heap := (laidWorld2 os).heap.modify 1 fun
   | .cells _ t frozen => .cells (Lib.pow10Tab.map (Value.int .u64)).toArray t frozen
   | o => o }
def argsN : Array Value := #[.slice none 0 0, .slice none 0 0, .slice none 0 0, .slice none 0 0]
theorem laid_met (os : Os) : laidMetH PP Rows.hilbertSoundUptoRow.laid ((laidWorld os).forCall (fun _ _ => 0) ⟨#[], argsN, []⟩).memory :=
 laidMetH_of_parts (laidMet_of_run' 8 (by kernel_rfl) (by kernel_rfl)) (by kernel_rfl)
def ddN (H : Type) : List (DataW H) := [.nil, .nil, .nil, .nil]
theorem reads (os : Os) {H : Type} (enc : TypeId × Value → H) : ∃ places, DataW.whole enc PP ((laidWorld os).forCall (fun _ _ => 0) ⟨#[], argsN, []⟩).memory xu.params.toList Rows.hilbertSoundSpec.vars false argsN.toList 8 = some (ddN H, [], places) :=
 ⟨[], by kernel_rfl⟩
theorem lifted (os : Os) (started : os.Started) (H : Type) (enc : TypeId × Value → H) (F : Stop.Interp) :
  ReturnsInHanded {} Tryz.checked os yr .any ((Rows.OpenSpec.upto Rows.hilbertSoundSpec).preRow enc PP xu Rows.hilbertSoundUptoRow.domain false Rows.hilbertSoundUptoRow.laid) (((Rows.OpenSpec.upto Rows.hilbertSoundSpec).at F).post enc PP xu false true false false) := by
 obtain ⟨places, hx⟩ := reads os enc
 refine returnsInHanded_of_row (C := Tryz.checked) (s := Rows.OpenSpec.upto Rows.hilbertSoundSpec) ownKnob_none started (by kernel_rfl) vr
  (witness_row_at (enc := enc) (C := Tryz.checked) false (laidWorld os) argsN rfl (by kernel_rfl) (by kernel_rfl) (by kernel_rfl)
   (OpenSpec.preRow_of_cond 8 hx (by kernel_rfl) (fun k hk => by cases hk; kernel_rfl) (by kernel_rfl) (laid_met os))) ?_
 intro W base args ds gs before hval hW _ hcond _ hL _ _
 exact contract H enc W base args ds gs before hval hW hL (hcond _ rfl)
theorem said : Rows.HilbertSoundUptoSaid :=
 OpenClaim.holds_of_cond yr xu rfl rfl rfl rfl rfl rfl rfl ⟨rfl, rfl, rfl, rfl, rfl⟩ rfl rfl rfl rfl rfl (by kernel_rfl) vr (by kernel_rfl)
  (of_decide_eq_true (by kernel_rfl)) (by unfold Func.isWrapper; first | (rw [if_pos (by decide +kernel)]; kernel_rfl) | (rw [if_neg (by decide +kernel)]; exact ⟨rfl, rfl⟩))
  (fun os started H enc _ F => by rw [OpenClaim.pre_eq_preRow]; exact lifted os started H enc F)
theorem plain (f : FuncId) (fn : Func) (hf : Tryz.pinned.checked.prog.funcNamed "dictum/dictumlaw16.HilbertSound" = some f) (hfn : Tryz.pinned.checked.prog.funcs[f]? = some fn) :
  true = Tryz.pinned.checked.prog.looks [] ∧ ∀ (j : Nat) t, fn.params[j]? = some t → Tryz.pinned.checked.prog.wantsStandIn t = false := by
 obtain rfl : f = yr := Option.some.inj ((show PP.funcNamed "dictum/dictumlaw16.HilbertSound" = some yr by kernel_rfl).symm.trans hf) |>.symm
 obtain rfl : fn = xu := (Option.some.inj (vr.symm.trans hfn)).symm
 refine ⟨by kernel_rfl, fun j t ht => ?_⟩
 rw [show xu.params = #[ue, T_L_int, yq, vp] by kernel_rfl] at ht
 have hm : t ∈ [ue, T_L_int, yq, vp] := by simpa using Array.mem_of_getElem? ht
 simp only [List.mem_cons, List.not_mem_nil, or_false] at hm
 rcases hm with rfl | rfl | rfl | rfl
 ·exact (show PP.wantsStandIn ue = false by kernel_rfl)
 ·exact (show PP.wantsStandIn T_L_int = false by kernel_rfl)
 ·exact (show PP.wantsStandIn yq = false by kernel_rfl)
 ·exact (show PP.wantsStandIn vp = false by kernel_rfl)
theorem card : Rows.HilbertSoundUptoCardSaid :=
 Claim7.holds_tied_plain_at .later [] _ _ _ _ said (fun _ h => by cases h) (by kernel_rfl) (fun _ h => by cases h) hilbertSoundUpto_row_tie rfl ⟨rfl, rfl⟩ (by kernel_rfl) rfl plain (by kernel_rfl)
end LawHilbertSound
end Go.Proofs.YtflieamjacclnaaGreatDoor
end
