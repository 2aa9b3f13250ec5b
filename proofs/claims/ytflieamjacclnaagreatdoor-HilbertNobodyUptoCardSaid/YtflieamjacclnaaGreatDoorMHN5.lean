/- Texts put together: Chapter 16, terms: the walks. Printed by pp.py, a program of mine. A region that draws its order, among whose operations some make what stays: what is made, so far, is a list that grows. -/
import Derived.Test.YtflieamjacclnaaGreatDoorMHN4
set_option linter.unusedVariables false
set_option linter.unusedSimpArgs false
section
namespace Go.Proofs.YtflieamjacclnaaGreatDoor
open Gw Go.RowKit
set_option maxHeartbeats 4000000
set_option maxRecDepth 20000
theorem hilbert_scope_with_st {A : Nat → Prop} {N : Oth} {w : World} {a0 : List Hyp} {s_0 : SlV} {a1 : ByteArray} {a2 : Int} (S : St A N w w [] [fS 2 Hyp.C s_0 a0]) {r : List Hyp} (H : hilbert_scope_with.f a0 a1 a2 = some r) :
  Calls PP F_hilbert_scope_with #[s_0.v, .string a1, .int .i64 a2] w fun e w' => ∃ v, e = .returned v ∧ (∃ so0 : SlV, v = so0.v ∧ St A N w w' [oS T_Hyp 2 Hyp.C so0 r] []) := by
 unfold hilbert_scope_with.f at H
 refine calls_of_wc (n := 13) fn_hilbert_scope_with rfl rfl (by simp) (wc_seq (wc_region (wd (does_as_nil) (wl_nil (wc_seq (wc_region (wd (does_mv_l rfl) ?_)))))))
 refine wd (does_mv_s rfl) (wd (does_mv_i rfl) (wd (does_build bu_Hyp (Bld.one rfl rfl (by rw [Hyp.len]; decide) (Hyp.set_name _ _) (Bld.one rfl rfl (by rw [Hyp.len]; decide) (Hyp.set_form _ _) Bld.nil))) ?_))
 refine wl_lits (C := Hyp.C) (l := [(⟨a1, a2⟩ : Hyp)]) (vs := [.agg (Hyp.C (⟨a1, a2⟩ : Hyp)).toArray]) sl_L_api_Hyp el_Hyp.zero rfl rfl (fun a _ => Hyp.len a) (by decide) rfl (by decide) fun b2 w1 s3 hBw1 hw1 => ?_
 replace S := S.lit hBw1 hw1 (by simp)
 obtain ⟨r4, er4, H⟩ := bind_ex H
 obtain ⟨B6, MB6, SB6, back⟩ := S.calln 0 ((.z 0 rfl (.s 0 rfl .nil)))
 refine wl_call (does_call ca_hilbert_behind_api_Hyp) (by decide) (hilbert_behind_api_Hyp_st SB6 er4) ?_
 rintro _ w5 ⟨s7, rfl, S2⟩
 replace S := back _ _ _ _ S2 rfl
 clear back S2 SB6
 refine wd (does_as_l rfl) (wl_nil (wc_ret ?_))
 refine ⟨_, (rets1 (retOne_tmp rfl)), ?_⟩
 replace S := S.arr [0] []
 obtain rfl := Option.some.inj H
 exact ⟨s7, rfl, S⟩
theorem hilbert_maker_add_st {A : Nat → Prop} {N : Oth} {w : World} {a0 : PMaker} {a_0 : Option Addr} {g_0_1 : Option Addr} {a1 : List Ln} {s_1 : SlV} {a2 : Int} (S : St A N w w [oK a_0 g_0_1 a0] [fS 4 Ln.C s_1 a1]) {r : PMaker × Int} (H : hilbert_maker_add.f a0 a1 a2 = some r) :
  Calls PP F_hilbert_maker_add #[.pointer a_0, s_1.v, .int .i64 a2] w fun e w' => ∃ v, e = .returned v ∧ (v = .int .i64 r.2 ∧ St A N w w' [oK a_0 g_0_1 r.1] []) := by
 unfold hilbert_maker_add.f at H
 refine calls_of_wc (n := 58) fn_hilbert_maker_add rfl rfl (by simp) (wc_seq (wc_region (wd (does_as_i rfl) (wl_nil (wc_seq (wc_seq (wc_region (wd (does_mv_p rfl) ?_))))))))
 obtain ⟨p1, s3, hp2, S⟩ := S.open_oK 0
 replace S := S
 refine wd (does_nilCheck (congrArg Value.pointer hp2)) (wd (does_fieldAddr fl_Maker_bad rfl (o' := 2) rfl) (wd (does_load on_api_Errno rfl ((S.blk 0).cell (Maker.get_bad _))) (wd (does_eq rfl rfl) ?_)))
 replace S := ((S.front 2).front 2).front 2
 replace S := S.shut_oK hp2
 refine wl_nil ?_
 obtain ⟨o4, e4, Ho4⟩ := bind_ex H
 replace H := e4; clear e4
 refine wc_cutq [15, 16, 17, 18] (fun fr W => St A N w W [oK a_0 g_0_1 o4] [fS 4 Ln.C s_1 a1]) ?_ ?_
 ·refine wc_if rfl (fun hc5 => ?_) (fun hc5 => ?_)
  ·replace H := if_t hc5 H
   refine wc_region (wd (does_mv_p rfl) (wd (does_mv_i rfl) ?_))
   obtain ⟨p6, s8, hp7, S⟩ := S.open_oK 0
   replace S := S
   refine wd (does_nilCheck (congrArg Value.pointer hp7)) (wd (does_fieldAddr fl_Maker_bad rfl (o' := 2) rfl) ?_)
   refine wl_store on_api_Errno rfl rfl (S.blk 0) (by rw [Maker.len]; decide) rfl (Maker.set_bad _ _) fun w9 B hw9 zw9 => ?_
   replace S := S.store 0 B hw9
   clear B
   replace S := ((S.front 2).front 2).front 2
   replace S := S.shut_oK hp7
   refine wl_nil ?_
   obtain rfl := Option.some.inj H
   exact ⟨rfl, (((((Dif.refl _ _).upd rfl _).upd rfl _).upd rfl _).upd rfl _), S⟩
  ·replace H := if_f hc5 H
   refine wc_skip ?_
   obtain rfl := Option.some.inj H
   exact ⟨rfl, (Dif.refl _ _), S⟩
 rintro g10 u11 S
 have H := Ho4
 refine wc_seq (wc_region (wd (does_mv_p rfl) ?_))
 obtain ⟨p12, s14, hp13, S⟩ := S.open_oK 0
 replace S := S
 refine wd (does_nilCheck (congrArg Value.pointer hp13)) (wd (does_fieldAddr fl_Maker_l rfl (o' := 1) rfl) (wd (does_load on_L_api_Line rfl ((S.blk 0).cell (Maker.get_l _))) (wd (does_lenR sl_L_api_Line rfl (S.rdO 2)) (wd (does_as_i rfl) ?_))))
 replace S := ((S.front 2).front 2).front 2
 replace S := S.shut_oK hp13
 refine wl_nil (wc_seq (wc_seq (wc_region (wd (does_mv_l rfl) (wd (does_lenR sl_L_api_Line rfl (S.rd 0)) (wd (does_mv_i rfl) (wl_nil ?_)))))))
 obtain ⟨o15, e15, Ho15⟩ := bind_ex H
 clear H
 refine wc_cutq [9, 26, 27, 28, 29, 30, 31, 32, 33, 34, 35, 36, 37, 38, 39, 40, 41, 42, 43, 44, 45, 46, 47, 48, 49, 50, 51] (fun fr W => ∃ s15 : PMaker, o15 = .inl s15 ∧ St A N w W [oK a_0 g_0_1 s15] [fS 4 Ln.C s_1 a1]) ?_ ?_
 ·refine wc_block ?_
  refine wc_loopm (α := Nat × Int × PMaker) [9, 26, 27, 28, 29, 30, 31, 32, 33, 34, 35, 36, 37, 38, 39, 40, 41, 42, 43, 44, 45, 46, 47, 48, 49, 50, 51] (fun x fr W => (x.1 : Int) = (a1.length : Int) - x.2.1 ∧ 0 ≤ x.2.1 ∧ forN (fun i s => hilbert_maker_add.b0 a1 o4 i s) x.1 x.2.1 x.2.2 = some o15 ∧ fr 26 = .int .i64 x.2.1 ∧ St A N w W [oK a_0 g_0_1 (x.2.2)] [fS 4 Ln.C s_1 a1]) (fun x => x.1) (((a1.length : Int) - 0).toNat, 0, o4) ⟨(by dsimp only; have hle := Int.natCast_nonneg (a1.length); omega), (Int.le_refl _), (by dsimp only; exact e15), rfl, S⟩ ?_
  rintro ⟨m15, i15, x15_0⟩ g15 u15 ⟨hm15, hl15, e15, q15_i, S⟩
  try dsimp only at hm15
  try dsimp only at hl15
  try dsimp only at e15
  try dsimp only at S
  try dsimp only at q15_i
  refine wc_seq (wc_region (wd (does_lt q15_i rfl) (wl_nil (wc_seq ?_))))
  refine wc_if rfl (fun hc16 => ?_) (fun hc16 => ?_)
  rotate_left
  ·refine wc_exit ?_
   have hge : (a1.length : Int) ≤ i15 := Int.not_lt.1 (of_decide_eq_false hc16)
   obtain rfl : m15 = 0 := by omega
   replace e15 := forN_0 e15
   exact ⟨rfl, ((Dif.self _ _ _).upd rfl _), x15_0, e15, S⟩
  refine wc_skip ?_
  have hlt15 : i15 < (a1.length : Int) := of_decide_eq_true hc16
  obtain ⟨m15, rfl⟩ : ∃ m, m15 = m + 1 := ⟨m15 - 1, by omega⟩
  obtain ⟨q15, H, e15⟩ := forN_s e15
  unfold hilbert_maker_add.b0 at H
  try dsimp only at H
  have hb15 := (S.len 0)
  refine wc_seq ?_
  refine wc_block (wc_seq (wc_region (wd (does_indexR sl_L_api_Line rfl q15_i (S.rd 0) (And.intro (show 0 ≤ i15 by omega) (show i15 < (a1.length : Int) from hlt15)).1 (And.intro (show 0 ≤ i15 by omega) (show i15 < (a1.length : Int) from hlt15)).2) (wd (does_load_agg ag_Ln rfl ((S.rd 0).at (at_some Ln.z (And.intro (show 0 ≤ i15 by omega) (show i15 < (a1.length : Int) from hlt15)))) (Ln.len _)) ?_))))
  refine wl_alloc ze_Ln (by decide) fun b19 w18 hw18 => ?_
  replace S := S.new hw18
  refine wl_store_agg ag_Ln rfl rfl (S.blk 0) (Ln.len _) (by rw [Ln.len]; decide) (Ln.one _) (store_all (Ln.len _)) fun w20 B hw20 zw20 => ?_
  replace S := S.store 0 B hw20
  clear B
  refine wl_nil (wc_seq (wc_seq (wc_region (wd (does_mv_p rfl) ?_))))
  obtain ⟨p21, s23, hp22, S⟩ := S.open_oK 1
  replace S := S
  refine wd (does_nilCheck (congrArg Value.pointer hp22)) (wd (does_fieldAddr fl_Maker_bad rfl (o' := 2) rfl) (wd (does_load on_api_Errno rfl ((S.blk 0).cell (Maker.get_bad _))) (wd (does_ne rfl rfl) ?_)))
  replace S := ((S.front 2).front 2).front 2
  replace S := S.shut_oK hp22
  refine wl_nil ?_
  refine wc_if rfl (fun hc24 => ?_) (fun hc24 => ?_)
  ·replace H := if_t hc24 H
   refine wc_exit ?_
   replace S := S.arr [0] [0]
   obtain rfl := Option.some.inj H
   exact ⟨rfl, ((((((((((Dif.self _ _ _).upd rfl _).upd rfl _).upd rfl _).upd rfl _).upd rfl _).upd rfl _).upd rfl _).upd rfl _).upd rfl _), x15_0, e15, S⟩
  replace H := if_f hc24 H
  refine wc_skip (wc_seq (wc_seq (wc_region (wd (does_fieldAddr fl_Ln_kind rfl (o' := 0) rfl) (wd (does_load on_api_LineKind rfl ((S.blk 1).cell (Ln.get_kind _))) (wd (does_eq rfl rfl) (wl_nil ?_)))))))
  refine wc_if rfl (fun hc25 => ?_) (fun hc25 => ?_)
  ·replace H := if_t hc25 H
   refine wc_region (wd (does_fieldAddr fl_Ln_a rfl (o' := 2) rfl) (wd (does_load on_int rfl ((S.blk 1).cell (Ln.get_a _))) (wd (does_mv_i rfl) (wd (does_add rfl rfl) (wd (does_fieldAddr fl_Ln_b rfl (o' := 3) rfl) ?_)))))
   refine wd (does_load on_int rfl ((S.blk 1).cell (Ln.get_b _))) (wd (does_mv_i rfl) (wd (does_add rfl rfl) (wd (does_fieldAddr fl_Ln_a rfl (o' := 2) rfl) ?_)))
   refine wl_store on_int rfl rfl (S.blk 1) (by rw [Ln.len]; decide) rfl (Ln.set_a _ _) fun w26 B hw26 zw26 => ?_
   replace S := S.store 1 B hw26
   clear B
   refine wd (does_fieldAddr fl_Ln_b rfl (o' := 3) rfl) ?_
   refine wl_store on_int rfl rfl (S.blk 0) (by rw [Ln.len]; decide) rfl (Ln.set_b _ _) fun w27 B hw27 zw27 => ?_
   replace S := S.store 0 B hw27
   clear B
   refine wl_nil (wc_region (wd (does_mv_p rfl) (wd (does_load_agg ag_Ln rfl ((S.blk 0).all _ (Ln.len _)) (Ln.len _)) ?_)))
   obtain ⟨r28, er28, H⟩ := bind_ex H
   replace S := S.front 1
   obtain ⟨B30, MB30, SB30, back⟩ := S.calln 1 ((.nil))
   refine wl_call (does_call ca_hilbert_maker_line) (by decide) (hilbert_maker_line_st SB30 er28) ?_
   rintro _ w29 ⟨rfl, S2⟩
   replace S := back _ _ _ _ S2 rfl
   clear back S2 SB30
   refine wl_nil (wc_region (wd (does_addc q15_i rfl (c := i15 + 1) rfl (by omega) (by omega)) (wd (does_mv_i rfl) (wl_nil ?_))))
   replace S := S.arr [0] [0]
   obtain rfl := Option.some.inj H
   exact ⟨rfl, ((((((((((((((((((((((((((((Dif.self _ _ _).upd rfl _).upd rfl _).upd rfl _).upd rfl _).upd rfl _).upd rfl _).upd rfl _).upd rfl _).upd rfl _).upd rfl _).upd rfl _).upd rfl _).upd rfl _).upd rfl _).upd rfl _).upd rfl _).upd rfl _).upd rfl _).upd rfl _).upd rfl _).upd rfl _).upd rfl _).upd rfl _).upd rfl _).upd rfl _).upd rfl _).upd rfl _), (m15, i15 + 1, r28.1), ⟨(by dsimp only; omega), (by dsimp only; omega), e15, rfl, S⟩, by dsimp only; omega⟩
  ·replace H := if_f hc25 H
   refine wc_skip (wc_region (wd (does_mv_p rfl) (wd (does_load_agg ag_Ln rfl ((S.blk 1).all _ (Ln.len _)) (Ln.len _)) ?_)))
   obtain ⟨r31, er31, H⟩ := bind_ex H
   obtain ⟨B33, MB33, SB33, back⟩ := S.calln 1 ((.nil))
   refine wl_call (does_call ca_hilbert_maker_line) (by decide) (hilbert_maker_line_st SB33 er31) ?_
   rintro _ w32 ⟨rfl, S2⟩
   replace S := back _ _ _ _ S2 rfl
   clear back S2 SB33
   refine wl_nil (wc_region (wd (does_addc q15_i rfl (c := i15 + 1) rfl (by omega) (by omega)) (wd (does_mv_i rfl) (wl_nil ?_))))
   replace S := S.arr [0] [0]
   obtain rfl := Option.some.inj H
   exact ⟨rfl, ((((((((((((((((((Dif.self _ _ _).upd rfl _).upd rfl _).upd rfl _).upd rfl _).upd rfl _).upd rfl _).upd rfl _).upd rfl _).upd rfl _).upd rfl _).upd rfl _).upd rfl _).upd rfl _).upd rfl _).upd rfl _).upd rfl _).upd rfl _), (m15, i15 + 1, r31.1), ⟨(by dsimp only; omega), (by dsimp only; omega), e15, rfl, S⟩, by dsimp only; omega⟩
 rintro g34 u35 ⟨s15, rfl, S⟩
 have H := Ho15
 dsimp only [aft] at H
 refine wc_seq (wc_region (wd (does_mv_p rfl) ?_))
 obtain ⟨p36, s38, hp37, S⟩ := S.open_oK 0
 replace S := S
 refine wd (does_nilCheck (congrArg Value.pointer hp37)) (wd (does_fieldAddr fl_Maker_l rfl (o' := 1) rfl) (wd (does_load on_L_api_Line rfl ((S.blk 0).cell (Maker.get_l _))) (wd (does_lenR sl_L_api_Line rfl (S.rdO 2)) (wd (does_sub rfl rfl) (wd (does_as_i rfl) ?_)))))
 replace S := ((S.front 2).front 2).front 2
 replace S := S.shut_oK hp37
 refine wl_nil (wc_ret ?_)
 refine ⟨_, (rets1 (retOne_tmp rfl)), ?_⟩
 replace S := S.arr [0] []
 obtain rfl := Option.some.inj H
 exact ⟨rfl, S⟩
theorem hilbert_maker_part_gst {rec_hilbert_compile : Tb → List Hyp → PTerm → Int → Option (Tb × List Ln × Int)} (hrec_hilbert_compile : ∀ {A : Nat → Prop} {N : Oth} {w : World} {a0 : Tb} {a_0 : Option Addr} {a1 : List Hyp} {s_1 : SlV} {a2 : PTerm} {s_2 : SlV} {a3 : Int} (S : St A N w w [oT a_0 a0] [fS 2 Hyp.C s_1 a1, oDTerm s_2 a2.sub, oEt]) {r : Tb × List Ln × Int} (H : rec_hilbert_compile a0 a1 a2 a3 = some r), Calls PP F_hilbert_compile #[.pointer a_0, s_1.v, .agg (Term.C (⟨a2.kind, a2.name, a2.other, a2.form, s_2⟩ : Term)).toArray, .int .i64 a3] w fun e w' => ∃ v, e = .returned v ∧ (∃ so0 : SlV, v = .tuple #[so0.v, .int .i64 r.2.2] ∧ St A N w w' [oT a_0 r.1, oS T_Ln 4 Ln.C so0 r.2.1] [])) {A : Nat → Prop} {N : Oth} {w : World} {a0 : PMaker} {a_0 : Option Addr} {g_0_1 : Option Addr} {a1 : List Hyp} {s_1 : SlV} {a2 : PTerm} {s_2 : SlV} {a3 : Int} (S : St A N w w [oK a_0 g_0_1 a0] [fS 2 Hyp.C s_1 a1, oDTerm s_2 a2.sub, oEt]) {r : PMaker × Int} (H : hilbert_maker_part.g rec_hilbert_compile a0 a1 a2 a3 = some r) :
  Calls PP F_hilbert_maker_part #[.pointer a_0, s_1.v, .agg (Term.C (⟨a2.kind, a2.name, a2.other, a2.form, s_2⟩ : Term)).toArray, .int .i64 a3] w fun e w' => ∃ v, e = .returned v ∧ (v = .int .i64 r.2 ∧ St A N w w' [oK a_0 g_0_1 r.1] []) := by
 unfold hilbert_maker_part.g at H
 refine calls_of_wc (n := 26) fn_hilbert_maker_part rfl rfl (by simp) (wc_seq (wc_region ?_))
 refine wl_box_agg rfl (by decide) fun b2 w1 hw1 => ?_
 replace S := S.new hw1
 refine wd (does_as_i rfl) (wl_nil (wc_seq (wc_seq (wc_region (wd (does_mv_p rfl) ?_)))))
 obtain ⟨p3, s5, hp4, S⟩ := S.open_oK 1
 replace S := S
 refine wd (does_nilCheck (congrArg Value.pointer hp4)) (wd (does_fieldAddr fl_Maker_bad rfl (o' := 2) rfl) (wd (does_load on_api_Errno rfl ((S.blk 0).cell (Maker.get_bad _))) (wd (does_ne rfl rfl) ?_)))
 replace S := ((S.front 2).front 2).front 2
 replace S := S.shut_oK hp4
 refine wl_nil ?_
 refine wc_if rfl (fun hc6 => ?_) (fun hc6 => ?_)
 ·replace H := if_t hc6 H
  refine wc_seq (wc_region (wd (does_as_i rfl) (wl_nil (wc_ret ?_))))
  refine ⟨_, (rets1 (retOne_tmp rfl)), ?_⟩
  replace S := S.arr [0] []
  obtain rfl := Option.some.inj H
  exact ⟨rfl, S⟩
 replace H := if_f hc6 H
 refine wc_skip (wc_seq ?_)
 obtain ⟨p7, s9, hp8, S⟩ := S.open_oK 0
 replace S := S
 obtain ⟨r10, er10, H⟩ := bind_ex H
 refine wc_draw5 11 ⟨fun _ _ => True, fun _ _ _ => True, fun i v _ => match i with
  | 0 => v = Value.pointer a_0
  | 1 => v = Value.pointer a_0
  | 2 => v = Value.pointer (some ⟨p7, 0, none⟩)
  | 3 => v = Value.pointer (some ⟨p7, 0, none⟩)
  | 4 => v = Value.pointer g_0_1
  | 5 => v = s_1.v
  | 6 => v = Value.agg (Term.C (⟨a2.kind, a2.name, a2.other, a2.form, s_2⟩ : Term)).toArray
  | 7 => v = Value.int .i64 a3
  | 10 => v = Value.int .i64 r10.2.2
  | _ => True⟩ (fun L g v => bif L 8 then (∃ (s13 : SlV), (L 8 = true → g 22 = Value.tuple #[s13.v, .int .i64 r10.2.2]) ∧ (L 9 = true → g 23 = s13.v) ∧ St A N w v [oT g_0_1 r10.1, oS T_Ln 4 Ln.C s13 r10.2.1, oB p7 T_Maker (Maker.C (⟨g_0_1, s9, a0.bad⟩ : Maker)), oS T_Ln 4 Ln.C s9 a0.l, oB b2 T_Term (Term.C (⟨a2.kind, a2.name, a2.other, a2.form, s_2⟩ : Term))] [fS 2 Hyp.C s_1 a1, oDTerm s_2 a2.sub, oEt]) else (St A N w v [oB p7 T_Maker (Maker.C (⟨g_0_1, s9, a0.bad⟩ : Maker)), oT g_0_1 a0.t, oS T_Ln 4 Ln.C s9 a0.l, oB b2 T_Term (Term.C (⟨a2.kind, a2.name, a2.other, a2.form, s_2⟩ : Term))] [fS 2 Hyp.C s_1 a1, oDTerm s_2 a2.sub, oEt])) hmix (by kernel_rfl) (fun _ _ _ _ _ _ _ hv => hv) (fun g => S.ext (Ext.drawn _)) ⟨?_, ?_, ?_, ?_, ?_, ?_, ?_, ?_, ?_, ?_, ?_, trivial⟩ ?_
 ·rintro L g v hL hcl hclo hT 
  cases hl8 : L 8 with
  | true =>
   replace hT : ∃ (s13 : SlV), (L 8 = true → g 22 = Value.tuple #[s13.v, .int .i64 r10.2.2]) ∧ (L 9 = true → g 23 = s13.v) ∧ St A N w v [oT g_0_1 r10.1, oS T_Ln 4 Ln.C s13 r10.2.1, oB p7 T_Maker (Maker.C (⟨g_0_1, s9, a0.bad⟩ : Maker)), oS T_Ln 4 Ln.C s9 a0.l, oB b2 T_Term (Term.C (⟨a2.kind, a2.name, a2.other, a2.form, s_2⟩ : Term))] [fS 2 Hyp.C s_1 a1, oDTerm s_2 a2.sub, oEt] := by simp only [hl8, cond_true, cond_false] at hT ⊢; exact hT
   obtain ⟨s13, he8, he9, S⟩ := hT
   refine wd (does_mv_p rfl) ?_
   have hT2 : ∃ (s13' : SlV), ((plus L 0) 8 = true → (upd g 14 (Value.pointer a_0)) 22 = Value.tuple #[s13'.v, .int .i64 r10.2.2]) ∧ ((plus L 0) 9 = true → (upd g 14 (Value.pointer a_0)) 23 = s13'.v) ∧ St A N w v [oT g_0_1 r10.1, oS T_Ln 4 Ln.C s13' r10.2.1, oB p7 T_Maker (Maker.C (⟨g_0_1, s9, a0.bad⟩ : Maker)), oS T_Ln 4 Ln.C s9 a0.l, oB b2 T_Term (Term.C (⟨a2.kind, a2.name, a2.other, a2.form, s_2⟩ : Term))] [fS 2 Hyp.C s_1 a1, oDTerm s_2 a2.sub, oEt] := ⟨s13, fun h => by rw [upd_other _ _ _ _ (by decide)]; exact he8 (by rw [plus_ne rfl] at h; exact h), fun h => by rw [upd_other _ _ _ _ (by decide)]; exact he9 (by rw [plus_ne rfl] at h; exact h), S⟩
   exact wl_nil (ob4 trivial rfl (by simp only [plus_ne (L := L) (i := 0) (j := 8) rfl, hl8, cond_true, cond_false] at hT2 ⊢; exact hT2))
  | false =>
   simp only [hl8, cond_true, cond_false] at hT
   replace S : St A N w v [oB p7 T_Maker (Maker.C (⟨g_0_1, s9, a0.bad⟩ : Maker)), oT g_0_1 a0.t, oS T_Ln 4 Ln.C s9 a0.l, oB b2 T_Term (Term.C (⟨a2.kind, a2.name, a2.other, a2.form, s_2⟩ : Term))] [fS 2 Hyp.C s_1 a1, oDTerm s_2 a2.sub, oEt] := hT
   refine wd (does_mv_p rfl) ?_
   exact wl_nil (ob4 trivial rfl (by simp only [plus_ne (L := L) (i := 0) (j := 8) rfl, hl8, cond_true, cond_false]; exact S))
 ·rintro L g v hL hcl hclo hT 
  have hl8 : L 8 = false := by cases h : L 8 with | false => rfl | true => exact absurd (hclo 8 1 h (by kernel_rfl)) (by rw [hL]; decide)
  simp only [hl8, cond_true, cond_false] at hT
  replace S : St A N w v [oB p7 T_Maker (Maker.C (⟨g_0_1, s9, a0.bad⟩ : Maker)), oT g_0_1 a0.t, oS T_Ln 4 Ln.C s9 a0.l, oB b2 T_Term (Term.C (⟨a2.kind, a2.name, a2.other, a2.form, s_2⟩ : Term))] [fS 2 Hyp.C s_1 a1, oDTerm s_2 a2.sub, oEt] := hT
  refine wd (does_mv_p rfl) ?_
  exact wl_nil (ob4 trivial rfl (by simp only [plus_ne (L := L) (i := 1) (j := 8) rfl, hl8, cond_true, cond_false]; exact S))
 ·rintro L g v hL hcl hclo hT hv1
  have hl8 : L 8 = false := by cases h : L 8 with | false => rfl | true => exact absurd (hclo 8 2 h (by kernel_rfl)) (by rw [hL]; decide)
  simp only [hl8, cond_true, cond_false] at hT
  replace S : St A N w v [oB p7 T_Maker (Maker.C (⟨g_0_1, s9, a0.bad⟩ : Maker)), oT g_0_1 a0.t, oS T_Ln 4 Ln.C s9 a0.l, oB b2 T_Term (Term.C (⟨a2.kind, a2.name, a2.other, a2.form, s_2⟩ : Term))] [fS 2 Hyp.C s_1 a1, oDTerm s_2 a2.sub, oEt] := hT
  refine wd (does_nilCheck ((hv1 : _ = Value.pointer a_0).trans (congrArg Value.pointer hp8))) ?_
  exact wl_nil (ob4 trivial rfl (by simp only [plus_ne (L := L) (i := 2) (j := 8) rfl, hl8, cond_true, cond_false]; exact S))
 ·rintro L g v hL hcl hclo hT hv2
  have hl8 : L 8 = false := by cases h : L 8 with | false => rfl | true => exact absurd (hclo 8 3 h (by kernel_rfl)) (by rw [hL]; decide)
  simp only [hl8, cond_true, cond_false] at hT
  replace S : St A N w v [oB p7 T_Maker (Maker.C (⟨g_0_1, s9, a0.bad⟩ : Maker)), oT g_0_1 a0.t, oS T_Ln 4 Ln.C s9 a0.l, oB b2 T_Term (Term.C (⟨a2.kind, a2.name, a2.other, a2.form, s_2⟩ : Term))] [fS 2 Hyp.C s_1 a1, oDTerm s_2 a2.sub, oEt] := hT
  refine wd (does_fieldAddr fl_Maker_t hv2 (o' := 0) rfl) ?_
  exact wl_nil (ob4 trivial rfl (by simp only [plus_ne (L := L) (i := 3) (j := 8) rfl, hl8, cond_true, cond_false]; exact S))
 ·rintro L g v hL hcl hclo hT hv3
  have hl8 : L 8 = false := by cases h : L 8 with | false => rfl | true => exact absurd (hclo 8 4 h (by kernel_rfl)) (by rw [hL]; decide)
  simp only [hl8, cond_true, cond_false] at hT
  replace S : St A N w v [oB p7 T_Maker (Maker.C (⟨g_0_1, s9, a0.bad⟩ : Maker)), oT g_0_1 a0.t, oS T_Ln 4 Ln.C s9 a0.l, oB b2 T_Term (Term.C (⟨a2.kind, a2.name, a2.other, a2.form, s_2⟩ : Term))] [fS 2 Hyp.C s_1 a1, oDTerm s_2 a2.sub, oEt] := hT
  refine wd (does_load on_dictum_formula_has hv3 ((S.blk 0).cell (Maker.get_t _))) ?_
  exact wl_nil (ob4 trivial rfl (by simp only [plus_ne (L := L) (i := 4) (j := 8) rfl, hl8, cond_true, cond_false]; exact S))
 ·rintro L g v hL hcl hclo hT 
  have hl8 : L 8 = false := by cases h : L 8 with | false => rfl | true => exact absurd (hclo 8 5 h (by kernel_rfl)) (by rw [hL]; decide)
  simp only [hl8, cond_true, cond_false] at hT
  replace S : St A N w v [oB p7 T_Maker (Maker.C (⟨g_0_1, s9, a0.bad⟩ : Maker)), oT g_0_1 a0.t, oS T_Ln 4 Ln.C s9 a0.l, oB b2 T_Term (Term.C (⟨a2.kind, a2.name, a2.other, a2.form, s_2⟩ : Term))] [fS 2 Hyp.C s_1 a1, oDTerm s_2 a2.sub, oEt] := hT
  refine wd (does_mv_l rfl) ?_
  exact wl_nil (ob4 trivial rfl (by simp only [plus_ne (L := L) (i := 5) (j := 8) rfl, hl8, cond_true, cond_false]; exact S))
 ·rintro L g v hL hcl hclo hT 
  have hl8 : L 8 = false := by cases h : L 8 with | false => rfl | true => exact absurd (hclo 8 6 h (by kernel_rfl)) (by rw [hL]; decide)
  simp only [hl8, cond_true, cond_false] at hT
  replace S : St A N w v [oB p7 T_Maker (Maker.C (⟨g_0_1, s9, a0.bad⟩ : Maker)), oT g_0_1 a0.t, oS T_Ln 4 Ln.C s9 a0.l, oB b2 T_Term (Term.C (⟨a2.kind, a2.name, a2.other, a2.form, s_2⟩ : Term))] [fS 2 Hyp.C s_1 a1, oDTerm s_2 a2.sub, oEt] := hT
  refine wd (does_load_agg ag_Term rfl ((S.blk 3).all _ (Term.len _)) (Term.len _)) ?_
  exact wl_nil (ob4 trivial rfl (by simp only [plus_ne (L := L) (i := 6) (j := 8) rfl, hl8, cond_true, cond_false]; exact S))
 ·rintro L g v hL hcl hclo hT 
  have hl8 : L 8 = false := by cases h : L 8 with | false => rfl | true => exact absurd (hclo 8 7 h (by kernel_rfl)) (by rw [hL]; decide)
  simp only [hl8, cond_true, cond_false] at hT
  replace S : St A N w v [oB p7 T_Maker (Maker.C (⟨g_0_1, s9, a0.bad⟩ : Maker)), oT g_0_1 a0.t, oS T_Ln 4 Ln.C s9 a0.l, oB b2 T_Term (Term.C (⟨a2.kind, a2.name, a2.other, a2.form, s_2⟩ : Term))] [fS 2 Hyp.C s_1 a1, oDTerm s_2 a2.sub, oEt] := hT
  refine wd (does_mv_i rfl) ?_
  exact wl_nil (ob4 trivial rfl (by simp only [plus_ne (L := L) (i := 7) (j := 8) rfl, hl8, cond_true, cond_false]; exact S))
 ·rintro L g v hL hcl hclo hT hv4 hv5 hv6 hv7
  have hl8 : L 8 = false := hL
  simp only [hl8, cond_true, cond_false] at hT
  replace S : St A N w v [oB p7 T_Maker (Maker.C (⟨g_0_1, s9, a0.bad⟩ : Maker)), oT g_0_1 a0.t, oS T_Ln 4 Ln.C s9 a0.l, oB b2 T_Term (Term.C (⟨a2.kind, a2.name, a2.other, a2.form, s_2⟩ : Term))] [fS 2 Hyp.C s_1 a1, oDTerm s_2 a2.sub, oEt] := hT
  replace S := S.front 1
  obtain ⟨B16, MB16, SB16, back⟩ := S.calln 1 ((.z 0 rfl (.z 1 rfl (.z 2 rfl .nil))))
  refine wl_call (does_callg ca_hilbert_compile (cons2 hv4 (cons2 hv5 (cons2 hv6 (cons2 hv7 rfl))))) (by decide) (hrec_hilbert_compile (a2 := a2) SB16 er10) ?_
  rintro _ w15 ⟨s13, rfl, S2⟩
  replace S := back _ _ _ _ S2 rfl
  clear back S2 SB16
  have hT2 : ∃ (s13' : SlV), ((plus L 8) 8 = true → (upd g 22 (Value.tuple #[s13.v, .int .i64 r10.2.2])) 22 = Value.tuple #[s13'.v, .int .i64 r10.2.2]) ∧ ((plus L 8) 9 = true → (upd g 22 (Value.tuple #[s13.v, .int .i64 r10.2.2])) 23 = s13'.v) ∧ St A N w w15 [oT g_0_1 r10.1, oS T_Ln 4 Ln.C s13' r10.2.1, oB p7 T_Maker (Maker.C (⟨g_0_1, s9, a0.bad⟩ : Maker)), oS T_Ln 4 Ln.C s9 a0.l, oB b2 T_Term (Term.C (⟨a2.kind, a2.name, a2.other, a2.form, s_2⟩ : Term))] [fS 2 Hyp.C s_1 a1, oDTerm s_2 a2.sub, oEt] := ⟨s13, fun _ => upd_same _ _ _, fun h => absurd (hclo 9 8 (by rw [plus_ne rfl] at h; exact h) (by kernel_rfl)) (by rw [hL]; decide), S⟩
  exact wl_nil (ob4 trivial trivial (by simp only [plus_self (L := L) (i := 8), cond_true, cond_false] at hT2 ⊢; exact hT2))
 ·rintro L g v hL hcl hclo hT hv8
  have hl8 : L 8 = true := hcl 8 (by kernel_rfl)
  replace hT : ∃ (s13 : SlV), (L 8 = true → g 22 = Value.tuple #[s13.v, .int .i64 r10.2.2]) ∧ (L 9 = true → g 23 = s13.v) ∧ St A N w v [oT g_0_1 r10.1, oS T_Ln 4 Ln.C s13 r10.2.1, oB p7 T_Maker (Maker.C (⟨g_0_1, s9, a0.bad⟩ : Maker)), oS T_Ln 4 Ln.C s9 a0.l, oB b2 T_Term (Term.C (⟨a2.kind, a2.name, a2.other, a2.form, s_2⟩ : Term))] [fS 2 Hyp.C s_1 a1, oDTerm s_2 a2.sub, oEt] := by simp only [hl8, cond_true, cond_false] at hT ⊢; exact hT
  obtain ⟨s13, he8, he9, S⟩ := hT
  refine wd (does_extract (he8 (hcl 8 (by kernel_rfl))) rfl) ?_
  have hT2 : ∃ (s13' : SlV), ((plus L 9) 8 = true → (upd g 23 (s13.v)) 22 = Value.tuple #[s13'.v, .int .i64 r10.2.2]) ∧ ((plus L 9) 9 = true → (upd g 23 (s13.v)) 23 = s13'.v) ∧ St A N w v [oT g_0_1 r10.1, oS T_Ln 4 Ln.C s13' r10.2.1, oB p7 T_Maker (Maker.C (⟨g_0_1, s9, a0.bad⟩ : Maker)), oS T_Ln 4 Ln.C s9 a0.l, oB b2 T_Term (Term.C (⟨a2.kind, a2.name, a2.other, a2.form, s_2⟩ : Term))] [fS 2 Hyp.C s_1 a1, oDTerm s_2 a2.sub, oEt] := ⟨s13, fun h => by rw [upd_other _ _ _ _ (by decide)]; exact he8 (by rw [plus_ne rfl] at h; exact h), fun _ => upd_same _ _ _, S⟩
  exact wl_nil (ob4 trivial trivial (by simp only [plus_ne (L := L) (i := 9) (j := 8) rfl, hl8, cond_true, cond_false] at hT2 ⊢; exact hT2))
 ·rintro L g v hL hcl hclo hT hv8
  have hl8 : L 8 = true := hcl 8 (by kernel_rfl)
  replace hT : ∃ (s13 : SlV), (L 8 = true → g 22 = Value.tuple #[s13.v, .int .i64 r10.2.2]) ∧ (L 9 = true → g 23 = s13.v) ∧ St A N w v [oT g_0_1 r10.1, oS T_Ln 4 Ln.C s13 r10.2.1, oB p7 T_Maker (Maker.C (⟨g_0_1, s9, a0.bad⟩ : Maker)), oS T_Ln 4 Ln.C s9 a0.l, oB b2 T_Term (Term.C (⟨a2.kind, a2.name, a2.other, a2.form, s_2⟩ : Term))] [fS 2 Hyp.C s_1 a1, oDTerm s_2 a2.sub, oEt] := by simp only [hl8, cond_true, cond_false] at hT ⊢; exact hT
  obtain ⟨s13, he8, he9, S⟩ := hT
  refine wd (does_extract (he8 (hcl 8 (by kernel_rfl))) rfl) ?_
  have hT2 : ∃ (s13' : SlV), ((plus L 10) 8 = true → (upd g 24 (Value.int .i64 r10.2.2)) 22 = Value.tuple #[s13'.v, .int .i64 r10.2.2]) ∧ ((plus L 10) 9 = true → (upd g 24 (Value.int .i64 r10.2.2)) 23 = s13'.v) ∧ St A N w v [oT g_0_1 r10.1, oS T_Ln 4 Ln.C s13' r10.2.1, oB p7 T_Maker (Maker.C (⟨g_0_1, s9, a0.bad⟩ : Maker)), oS T_Ln 4 Ln.C s9 a0.l, oB b2 T_Term (Term.C (⟨a2.kind, a2.name, a2.other, a2.form, s_2⟩ : Term))] [fS 2 Hyp.C s_1 a1, oDTerm s_2 a2.sub, oEt] := ⟨s13, fun h => by rw [upd_other _ _ _ _ (by decide)]; exact he8 (by rw [plus_ne rfl] at h; exact h), fun h => by rw [upd_other _ _ _ _ (by decide)]; exact he9 (by rw [plus_ne rfl] at h; exact h), S⟩
  exact wl_nil (ob4 trivial rfl (by simp only [plus_ne (L := L) (i := 10) (j := 8) rfl, hl8, cond_true, cond_false] at hT2 ⊢; exact hT2))
 rintro L g w17 hLm hT hv18_0 hv18_1 hv18_2 hv18_3 hv18_4 hv18_5 hv18_6 hv18_7 _ _ hv18_10
 have hLt : ∀ j, j < 11 → L j = true := fun j hj => by rw [hLm]; exact decide_eq_true hj
 replace hT : ∃ (s13 : SlV), (L 8 = true → g 22 = Value.tuple #[s13.v, .int .i64 r10.2.2]) ∧ (L 9 = true → g 23 = s13.v) ∧ St A N w w17 [oT g_0_1 r10.1, oS T_Ln 4 Ln.C s13 r10.2.1, oB p7 T_Maker (Maker.C (⟨g_0_1, s9, a0.bad⟩ : Maker)), oS T_Ln 4 Ln.C s9 a0.l, oB b2 T_Term (Term.C (⟨a2.kind, a2.name, a2.other, a2.form, s_2⟩ : Term))] [fS 2 Hyp.C s_1 a1, oDTerm s_2 a2.sub, oEt] := by simp only [hLt 8 (by decide), cond_true] at hT ⊢; exact hT
 obtain ⟨s13, he8, he9, S⟩ := hT
 have hv18_8 := he8 (hLt 8 (by decide))
 have hv18_9 := he9 (hLt 9 (by decide))
 replace S := ((S.front 3).front 1).front 3
 replace S := S.shut_oK hp8
 obtain ⟨r19, er19, H⟩ := bind_ex H
 obtain ⟨B21, MB21, SB21, back⟩ := S.calln 1 ((.s 0 rfl .nil))
 refine wl_call (does_callg ca_hilbert_maker_add (cons2 hv18_0 (cons2 hv18_9 (cons2 hv18_10 rfl)))) (by decide) (hilbert_maker_add_st SB21 er19) ?_
 rintro _ w20 ⟨rfl, S2⟩
 replace S := back _ _ _ _ S2 rfl
 clear back S2 SB21
 refine wd (does_as_i rfl) (wl_nil (wc_ret ?_))
 refine ⟨_, (rets1 (retOne_tmp rfl)), ?_⟩
 replace S := S.arr [0] []
 obtain rfl := Option.some.inj H
 exact ⟨rfl, S⟩
theorem hilbert_maker_under_gst {rec_hilbert_compile : Tb → List Hyp → PTerm → Int → Option (Tb × List Ln × Int)} (hrec_hilbert_compile : ∀ {A : Nat → Prop} {N : Oth} {w : World} {a0 : Tb} {a_0 : Option Addr} {a1 : List Hyp} {s_1 : SlV} {a2 : PTerm} {s_2 : SlV} {a3 : Int} (S : St A N w w [oT a_0 a0] [fS 2 Hyp.C s_1 a1, oDTerm s_2 a2.sub, oEt]) {r : Tb × List Ln × Int} (H : rec_hilbert_compile a0 a1 a2 a3 = some r), Calls PP F_hilbert_compile #[.pointer a_0, s_1.v, .agg (Term.C (⟨a2.kind, a2.name, a2.other, a2.form, s_2⟩ : Term)).toArray, .int .i64 a3] w fun e w' => ∃ v, e = .returned v ∧ (∃ so0 : SlV, v = .tuple #[so0.v, .int .i64 r.2.2] ∧ St A N w w' [oT a_0 r.1, oS T_Ln 4 Ln.C so0 r.2.1] [])) {A : Nat → Prop} {N : Oth} {w : World} {a0 : PMaker} {a_0 : Option Addr} {g_0_1 : Option Addr} {a1 : List Hyp} {s_1 : SlV} {a2 : ByteArray} {a3 : Int} {a4 : PTerm} {s_4 : SlV} {a5 : Int} (S : St A N w w [oK a_0 g_0_1 a0] [fS 2 Hyp.C s_1 a1, oDTerm s_4 a4.sub, oEt]) {r : PMaker × Int} (H : hilbert_maker_under.g rec_hilbert_compile a0 a1 a2 a3 a4 a5 = some r) :
  Calls PP F_hilbert_maker_under #[.pointer a_0, s_1.v, .string a2, .int .i64 a3, .agg (Term.C (⟨a4.kind, a4.name, a4.other, a4.form, s_4⟩ : Term)).toArray, .int .i64 a5] w fun e w' => ∃ v, e = .returned v ∧ (v = .int .i64 r.2 ∧ St A N w w' [oK a_0 g_0_1 r.1] []) := by
 unfold hilbert_maker_under.g at H
 refine calls_of_wc (n := 50) fn_hilbert_maker_under rfl rfl (by simp) (wc_seq (wc_region ?_))
 refine wl_box_agg rfl (by decide) fun b2 w1 hw1 => ?_
 replace S := S.new hw1
 refine wd (does_as_i rfl) (wl_nil (wc_seq (wc_seq (wc_region (wd (does_mv_p rfl) ?_)))))
 obtain ⟨p3, s5, hp4, S⟩ := S.open_oK 1
 replace S := S
 refine wd (does_nilCheck (congrArg Value.pointer hp4)) (wd (does_fieldAddr fl_Maker_bad rfl (o' := 2) rfl) (wd (does_load on_api_Errno rfl ((S.blk 0).cell (Maker.get_bad _))) (wd (does_ne rfl rfl) ?_)))
 replace S := ((S.front 2).front 2).front 2
 replace S := S.shut_oK hp4
 refine wl_nil ?_
 refine wc_if rfl (fun hc6 => ?_) (fun hc6 => ?_)
 ·replace H := if_t hc6 H
  refine wc_seq (wc_region (wd (does_as_i rfl) (wl_nil (wc_ret ?_))))
  refine ⟨_, (rets1 (retOne_tmp rfl)), ?_⟩
  replace S := S.arr [0] []
  obtain rfl := Option.some.inj H
  exact ⟨rfl, S⟩
 replace H := if_f hc6 H
 refine wc_skip (wc_seq ?_)
 obtain ⟨p7, s9, hp8, S⟩ := S.open_oK 0
 replace S := S
 obtain ⟨r10, er10, H⟩ := bind_ex H
 obtain ⟨r14, er14, H⟩ := bind_ex H
 refine wc_draw5 15 ⟨fun _ _ => True, fun _ _ _ => True, fun i v _ => match i with
  | 0 => v = Value.pointer a_0
  | 1 => v = Value.pointer (some ⟨p7, 0, none⟩)
  | 2 => v = Value.pointer (some ⟨p7, 0, none⟩)
  | 3 => v = Value.pointer g_0_1
  | 4 => v = s_1.v
  | 5 => v = Value.string a2
  | 6 => v = Value.int .i64 a3
  | 8 => v = Value.agg (Term.C (⟨a4.kind, a4.name, a4.other, a4.form, s_4⟩ : Term)).toArray
  | 9 => v = Value.int .i64 a5
  | 13 => v = Value.int .i64 r14.2.2
  | _ => True⟩ (fun L g v => bif L 10 then (∃ (s13 : SlV) (s17 : SlV), (L 7 = true → g 28 = s13.v) ∧ (L 10 = true → g 31 = Value.tuple #[s17.v, .int .i64 r14.2.2]) ∧ (L 11 = true → g 20 = Value.tuple #[s17.v, .int .i64 r14.2.2]) ∧ (L 12 = true → g 32 = s17.v) ∧ (L 14 = true → g 13 = s17.v) ∧ St A N w v [oT g_0_1 r14.1, oS T_Ln 4 Ln.C s17 r14.2.1, oS T_Hyp 2 Hyp.C s13 r10, oB p7 T_Maker (Maker.C (⟨g_0_1, s9, a0.bad⟩ : Maker)), oS T_Ln 4 Ln.C s9 a0.l, oB b2 T_Term (Term.C (⟨a4.kind, a4.name, a4.other, a4.form, s_4⟩ : Term))] [fS 2 Hyp.C s_1 a1, oDTerm s_4 a4.sub, oEt]) else bif L 7 then (∃ (s13 : SlV), (L 7 = true → g 28 = s13.v) ∧ St A N w v [oS T_Hyp 2 Hyp.C s13 r10, oB p7 T_Maker (Maker.C (⟨g_0_1, s9, a0.bad⟩ : Maker)), oT g_0_1 a0.t, oS T_Ln 4 Ln.C s9 a0.l, oB b2 T_Term (Term.C (⟨a4.kind, a4.name, a4.other, a4.form, s_4⟩ : Term))] [fS 2 Hyp.C s_1 a1, oDTerm s_4 a4.sub, oEt]) else (St A N w v [oB p7 T_Maker (Maker.C (⟨g_0_1, s9, a0.bad⟩ : Maker)), oT g_0_1 a0.t, oS T_Ln 4 Ln.C s9 a0.l, oB b2 T_Term (Term.C (⟨a4.kind, a4.name, a4.other, a4.form, s_4⟩ : Term))] [fS 2 Hyp.C s_1 a1, oDTerm s_4 a4.sub, oEt])) hmix (by kernel_rfl) (fun _ _ _ _ _ _ _ hv => hv) (fun g => S.ext (Ext.drawn _)) ⟨?_, ?_, ?_, ?_, ?_, ?_, ?_, ?_, ?_, ?_, ?_, ?_, ?_, ?_, ?_, trivial⟩ ?_
 ·rintro L g v hL hcl hclo hT 
  have hl10 : L 10 = false := by cases h : L 10 with | false => rfl | true => exact absurd (hclo 10 0 h (by kernel_rfl)) (by rw [hL]; decide)
  cases hl7 : L 7 with
  | true =>
   replace hT : ∃ (s13 : SlV), (L 7 = true → g 28 = s13.v) ∧ St A N w v [oS T_Hyp 2 Hyp.C s13 r10, oB p7 T_Maker (Maker.C (⟨g_0_1, s9, a0.bad⟩ : Maker)), oT g_0_1 a0.t, oS T_Ln 4 Ln.C s9 a0.l, oB b2 T_Term (Term.C (⟨a4.kind, a4.name, a4.other, a4.form, s_4⟩ : Term))] [fS 2 Hyp.C s_1 a1, oDTerm s_4 a4.sub, oEt] := by simp only [hl7, hl10, cond_true, cond_false] at hT ⊢; exact hT
   obtain ⟨s13, he7, S⟩ := hT
   refine wd (does_mv_p rfl) ?_
   have hT2 : ∃ (s13' : SlV), ((plus L 0) 7 = true → (upd g 21 (Value.pointer a_0)) 28 = s13'.v) ∧ St A N w v [oS T_Hyp 2 Hyp.C s13' r10, oB p7 T_Maker (Maker.C (⟨g_0_1, s9, a0.bad⟩ : Maker)), oT g_0_1 a0.t, oS T_Ln 4 Ln.C s9 a0.l, oB b2 T_Term (Term.C (⟨a4.kind, a4.name, a4.other, a4.form, s_4⟩ : Term))] [fS 2 Hyp.C s_1 a1, oDTerm s_4 a4.sub, oEt] := ⟨s13, fun h => by rw [upd_other _ _ _ _ (by decide)]; exact he7 (by rw [plus_ne rfl] at h; exact h), S⟩
   exact wl_nil (ob4 trivial rfl (by simp only [plus_ne (L := L) (i := 0) (j := 7) rfl, plus_ne (L := L) (i := 0) (j := 10) rfl, hl7, hl10, cond_true, cond_false] at hT2 ⊢; exact hT2))
  | false =>
   simp only [hl7, hl10, cond_true, cond_false] at hT
   replace S : St A N w v [oB p7 T_Maker (Maker.C (⟨g_0_1, s9, a0.bad⟩ : Maker)), oT g_0_1 a0.t, oS T_Ln 4 Ln.C s9 a0.l, oB b2 T_Term (Term.C (⟨a4.kind, a4.name, a4.other, a4.form, s_4⟩ : Term))] [fS 2 Hyp.C s_1 a1, oDTerm s_4 a4.sub, oEt] := hT
   refine wd (does_mv_p rfl) ?_
   exact wl_nil (ob4 trivial rfl (by simp only [plus_ne (L := L) (i := 0) (j := 7) rfl, plus_ne (L := L) (i := 0) (j := 10) rfl, hl7, hl10, cond_true, cond_false]; exact S))
 ·rintro L g v hL hcl hclo hT hv0
  have hl10 : L 10 = false := by cases h : L 10 with | false => rfl | true => exact absurd (hclo 10 1 h (by kernel_rfl)) (by rw [hL]; decide)
  cases hl7 : L 7 with
  | true =>
   replace hT : ∃ (s13 : SlV), (L 7 = true → g 28 = s13.v) ∧ St A N w v [oS T_Hyp 2 Hyp.C s13 r10, oB p7 T_Maker (Maker.C (⟨g_0_1, s9, a0.bad⟩ : Maker)), oT g_0_1 a0.t, oS T_Ln 4 Ln.C s9 a0.l, oB b2 T_Term (Term.C (⟨a4.kind, a4.name, a4.other, a4.form, s_4⟩ : Term))] [fS 2 Hyp.C s_1 a1, oDTerm s_4 a4.sub, oEt] := by simp only [hl7, hl10, cond_true, cond_false] at hT ⊢; exact hT
   obtain ⟨s13, he7, S⟩ := hT
   refine wd (does_nilCheck ((hv0 : _ = Value.pointer a_0).trans (congrArg Value.pointer hp8))) ?_
   have hT2 : ∃ (s13' : SlV), ((plus L 1) 7 = true → (upd g 22 (Value.pointer (some ⟨p7, 0, none⟩))) 28 = s13'.v) ∧ St A N w v [oS T_Hyp 2 Hyp.C s13' r10, oB p7 T_Maker (Maker.C (⟨g_0_1, s9, a0.bad⟩ : Maker)), oT g_0_1 a0.t, oS T_Ln 4 Ln.C s9 a0.l, oB b2 T_Term (Term.C (⟨a4.kind, a4.name, a4.other, a4.form, s_4⟩ : Term))] [fS 2 Hyp.C s_1 a1, oDTerm s_4 a4.sub, oEt] := ⟨s13, fun h => by rw [upd_other _ _ _ _ (by decide)]; exact he7 (by rw [plus_ne rfl] at h; exact h), S⟩
   exact wl_nil (ob4 trivial rfl (by simp only [plus_ne (L := L) (i := 1) (j := 7) rfl, plus_ne (L := L) (i := 1) (j := 10) rfl, hl7, hl10, cond_true, cond_false] at hT2 ⊢; exact hT2))
  | false =>
   simp only [hl7, hl10, cond_true, cond_false] at hT
   replace S : St A N w v [oB p7 T_Maker (Maker.C (⟨g_0_1, s9, a0.bad⟩ : Maker)), oT g_0_1 a0.t, oS T_Ln 4 Ln.C s9 a0.l, oB b2 T_Term (Term.C (⟨a4.kind, a4.name, a4.other, a4.form, s_4⟩ : Term))] [fS 2 Hyp.C s_1 a1, oDTerm s_4 a4.sub, oEt] := hT
   refine wd (does_nilCheck ((hv0 : _ = Value.pointer a_0).trans (congrArg Value.pointer hp8))) ?_
   exact wl_nil (ob4 trivial rfl (by simp only [plus_ne (L := L) (i := 1) (j := 7) rfl, plus_ne (L := L) (i := 1) (j := 10) rfl, hl7, hl10, cond_true, cond_false]; exact S))
 ·rintro L g v hL hcl hclo hT hv1
  have hl10 : L 10 = false := by cases h : L 10 with | false => rfl | true => exact absurd (hclo 10 2 h (by kernel_rfl)) (by rw [hL]; decide)
  cases hl7 : L 7 with
  | true =>
   replace hT : ∃ (s13 : SlV), (L 7 = true → g 28 = s13.v) ∧ St A N w v [oS T_Hyp 2 Hyp.C s13 r10, oB p7 T_Maker (Maker.C (⟨g_0_1, s9, a0.bad⟩ : Maker)), oT g_0_1 a0.t, oS T_Ln 4 Ln.C s9 a0.l, oB b2 T_Term (Term.C (⟨a4.kind, a4.name, a4.other, a4.form, s_4⟩ : Term))] [fS 2 Hyp.C s_1 a1, oDTerm s_4 a4.sub, oEt] := by simp only [hl7, hl10, cond_true, cond_false] at hT ⊢; exact hT
   obtain ⟨s13, he7, S⟩ := hT
   refine wd (does_fieldAddr fl_Maker_t hv1 (o' := 0) rfl) ?_
   have hT2 : ∃ (s13' : SlV), ((plus L 2) 7 = true → (upd g 23 (Value.pointer (some ⟨p7, 0, none⟩))) 28 = s13'.v) ∧ St A N w v [oS T_Hyp 2 Hyp.C s13' r10, oB p7 T_Maker (Maker.C (⟨g_0_1, s9, a0.bad⟩ : Maker)), oT g_0_1 a0.t, oS T_Ln 4 Ln.C s9 a0.l, oB b2 T_Term (Term.C (⟨a4.kind, a4.name, a4.other, a4.form, s_4⟩ : Term))] [fS 2 Hyp.C s_1 a1, oDTerm s_4 a4.sub, oEt] := ⟨s13, fun h => by rw [upd_other _ _ _ _ (by decide)]; exact he7 (by rw [plus_ne rfl] at h; exact h), S⟩
   exact wl_nil (ob4 trivial rfl (by simp only [plus_ne (L := L) (i := 2) (j := 7) rfl, plus_ne (L := L) (i := 2) (j := 10) rfl, hl7, hl10, cond_true, cond_false] at hT2 ⊢; exact hT2))
  | false =>
   simp only [hl7, hl10, cond_true, cond_false] at hT
   replace S : St A N w v [oB p7 T_Maker (Maker.C (⟨g_0_1, s9, a0.bad⟩ : Maker)), oT g_0_1 a0.t, oS T_Ln 4 Ln.C s9 a0.l, oB b2 T_Term (Term.C (⟨a4.kind, a4.name, a4.other, a4.form, s_4⟩ : Term))] [fS 2 Hyp.C s_1 a1, oDTerm s_4 a4.sub, oEt] := hT
   refine wd (does_fieldAddr fl_Maker_t hv1 (o' := 0) rfl) ?_
   exact wl_nil (ob4 trivial rfl (by simp only [plus_ne (L := L) (i := 2) (j := 7) rfl, plus_ne (L := L) (i := 2) (j := 10) rfl, hl7, hl10, cond_true, cond_false]; exact S))
 ·rintro L g v hL hcl hclo hT hv2
  have hl10 : L 10 = false := by cases h : L 10 with | false => rfl | true => exact absurd (hclo 10 3 h (by kernel_rfl)) (by rw [hL]; decide)
  cases hl7 : L 7 with
  | true =>
   replace hT : ∃ (s13 : SlV), (L 7 = true → g 28 = s13.v) ∧ St A N w v [oS T_Hyp 2 Hyp.C s13 r10, oB p7 T_Maker (Maker.C (⟨g_0_1, s9, a0.bad⟩ : Maker)), oT g_0_1 a0.t, oS T_Ln 4 Ln.C s9 a0.l, oB b2 T_Term (Term.C (⟨a4.kind, a4.name, a4.other, a4.form, s_4⟩ : Term))] [fS 2 Hyp.C s_1 a1, oDTerm s_4 a4.sub, oEt] := by simp only [hl7, hl10, cond_true, cond_false] at hT ⊢; exact hT
   obtain ⟨s13, he7, S⟩ := hT
   refine wd (does_load on_dictum_formula_has hv2 ((S.blk 1).cell (Maker.get_t _))) ?_
   have hT2 : ∃ (s13' : SlV), ((plus L 3) 7 = true → (upd g 24 (Value.pointer g_0_1)) 28 = s13'.v) ∧ St A N w v [oS T_Hyp 2 Hyp.C s13' r10, oB p7 T_Maker (Maker.C (⟨g_0_1, s9, a0.bad⟩ : Maker)), oT g_0_1 a0.t, oS T_Ln 4 Ln.C s9 a0.l, oB b2 T_Term (Term.C (⟨a4.kind, a4.name, a4.other, a4.form, s_4⟩ : Term))] [fS 2 Hyp.C s_1 a1, oDTerm s_4 a4.sub, oEt] := ⟨s13, fun h => by rw [upd_other _ _ _ _ (by decide)]; exact he7 (by rw [plus_ne rfl] at h; exact h), S⟩
   exact wl_nil (ob4 trivial rfl (by simp only [plus_ne (L := L) (i := 3) (j := 7) rfl, plus_ne (L := L) (i := 3) (j := 10) rfl, hl7, hl10, cond_true, cond_false] at hT2 ⊢; exact hT2))
  | false =>
   simp only [hl7, hl10, cond_true, cond_false] at hT
   replace S : St A N w v [oB p7 T_Maker (Maker.C (⟨g_0_1, s9, a0.bad⟩ : Maker)), oT g_0_1 a0.t, oS T_Ln 4 Ln.C s9 a0.l, oB b2 T_Term (Term.C (⟨a4.kind, a4.name, a4.other, a4.form, s_4⟩ : Term))] [fS 2 Hyp.C s_1 a1, oDTerm s_4 a4.sub, oEt] := hT
   refine wd (does_load on_dictum_formula_has hv2 ((S.blk 0).cell (Maker.get_t _))) ?_
   exact wl_nil (ob4 trivial rfl (by simp only [plus_ne (L := L) (i := 3) (j := 7) rfl, plus_ne (L := L) (i := 3) (j := 10) rfl, hl7, hl10, cond_true, cond_false]; exact S))
 ·rintro L g v hL hcl hclo hT 
  have hl7 : L 7 = false := by cases h : L 7 with | false => rfl | true => exact absurd (hclo 7 4 h (by kernel_rfl)) (by rw [hL]; decide)
  have hl10 : L 10 = false := by cases h : L 10 with | false => rfl | true => exact absurd (hclo 10 4 h (by kernel_rfl)) (by rw [hL]; decide)
  simp only [hl7, hl10, cond_true, cond_false] at hT
  replace S : St A N w v [oB p7 T_Maker (Maker.C (⟨g_0_1, s9, a0.bad⟩ : Maker)), oT g_0_1 a0.t, oS T_Ln 4 Ln.C s9 a0.l, oB b2 T_Term (Term.C (⟨a4.kind, a4.name, a4.other, a4.form, s_4⟩ : Term))] [fS 2 Hyp.C s_1 a1, oDTerm s_4 a4.sub, oEt] := hT
  refine wd (does_mv_l rfl) ?_
  exact wl_nil (ob4 trivial rfl (by simp only [plus_ne (L := L) (i := 4) (j := 7) rfl, plus_ne (L := L) (i := 4) (j := 10) rfl, hl7, hl10, cond_true, cond_false]; exact S))
 ·rintro L g v hL hcl hclo hT 
  have hl7 : L 7 = false := by cases h : L 7 with | false => rfl | true => exact absurd (hclo 7 5 h (by kernel_rfl)) (by rw [hL]; decide)
  have hl10 : L 10 = false := by cases h : L 10 with | false => rfl | true => exact absurd (hclo 10 5 h (by kernel_rfl)) (by rw [hL]; decide)
  simp only [hl7, hl10, cond_true, cond_false] at hT
  replace S : St A N w v [oB p7 T_Maker (Maker.C (⟨g_0_1, s9, a0.bad⟩ : Maker)), oT g_0_1 a0.t, oS T_Ln 4 Ln.C s9 a0.l, oB b2 T_Term (Term.C (⟨a4.kind, a4.name, a4.other, a4.form, s_4⟩ : Term))] [fS 2 Hyp.C s_1 a1, oDTerm s_4 a4.sub, oEt] := hT
  refine wd (does_mv_s rfl) ?_
  exact wl_nil (ob4 trivial rfl (by simp only [plus_ne (L := L) (i := 5) (j := 7) rfl, plus_ne (L := L) (i := 5) (j := 10) rfl, hl7, hl10, cond_true, cond_false]; exact S))
 ·rintro L g v hL hcl hclo hT 
  have hl7 : L 7 = false := by cases h : L 7 with | false => rfl | true => exact absurd (hclo 7 6 h (by kernel_rfl)) (by rw [hL]; decide)
  have hl10 : L 10 = false := by cases h : L 10 with | false => rfl | true => exact absurd (hclo 10 6 h (by kernel_rfl)) (by rw [hL]; decide)
  simp only [hl7, hl10, cond_true, cond_false] at hT
  replace S : St A N w v [oB p7 T_Maker (Maker.C (⟨g_0_1, s9, a0.bad⟩ : Maker)), oT g_0_1 a0.t, oS T_Ln 4 Ln.C s9 a0.l, oB b2 T_Term (Term.C (⟨a4.kind, a4.name, a4.other, a4.form, s_4⟩ : Term))] [fS 2 Hyp.C s_1 a1, oDTerm s_4 a4.sub, oEt] := hT
  refine wd (does_mv_i rfl) ?_
  exact wl_nil (ob4 trivial rfl (by simp only [plus_ne (L := L) (i := 6) (j := 7) rfl, plus_ne (L := L) (i := 6) (j := 10) rfl, hl7, hl10, cond_true, cond_false]; exact S))
 ·rintro L g v hL hcl hclo hT hv4 hv5 hv6
  have hl7 : L 7 = false := hL
  have hl10 : L 10 = false := by cases h : L 10 with | false => rfl | true => exact absurd (hclo 10 7 h (by kernel_rfl)) (by rw [hL]; decide)
  simp only [hl7, hl10, cond_true, cond_false] at hT
  replace S : St A N w v [oB p7 T_Maker (Maker.C (⟨g_0_1, s9, a0.bad⟩ : Maker)), oT g_0_1 a0.t, oS T_Ln 4 Ln.C s9 a0.l, oB b2 T_Term (Term.C (⟨a4.kind, a4.name, a4.other, a4.form, s_4⟩ : Term))] [fS 2 Hyp.C s_1 a1, oDTerm s_4 a4.sub, oEt] := hT
  obtain ⟨B20, MB20, SB20, back⟩ := S.calln 0 ((.z 0 rfl .nil))
  refine wl_call (does_callg ca_hilbert_scope_with (cons2 hv4 (cons2 hv5 (cons2 hv6 rfl)))) (by decide) (hilbert_scope_with_st SB20 er10) ?_
  rintro _ w19 ⟨s13, rfl, S2⟩
  replace S := back _ _ _ _ S2 rfl
  clear back S2 SB20
  have hT2 : ∃ (s13' : SlV), ((plus L 7) 7 = true → (upd g 28 (s13.v)) 28 = s13'.v) ∧ St A N w w19 [oS T_Hyp 2 Hyp.C s13' r10, oB p7 T_Maker (Maker.C (⟨g_0_1, s9, a0.bad⟩ : Maker)), oT g_0_1 a0.t, oS T_Ln 4 Ln.C s9 a0.l, oB b2 T_Term (Term.C (⟨a4.kind, a4.name, a4.other, a4.form, s_4⟩ : Term))] [fS 2 Hyp.C s_1 a1, oDTerm s_4 a4.sub, oEt] := ⟨s13, fun _ => upd_same _ _ _, S⟩
  exact wl_nil (ob4 trivial trivial (by simp only [plus_ne (L := L) (i := 7) (j := 10) rfl, plus_self (L := L) (i := 7), hl10, cond_true, cond_false] at hT2 ⊢; exact hT2))
 ·rintro L g v hL hcl hclo hT 
  have hl10 : L 10 = false := by cases h : L 10 with | false => rfl | true => exact absurd (hclo 10 8 h (by kernel_rfl)) (by rw [hL]; decide)
  cases hl7 : L 7 with
  | true =>
   replace hT : ∃ (s13 : SlV), (L 7 = true → g 28 = s13.v) ∧ St A N w v [oS T_Hyp 2 Hyp.C s13 r10, oB p7 T_Maker (Maker.C (⟨g_0_1, s9, a0.bad⟩ : Maker)), oT g_0_1 a0.t, oS T_Ln 4 Ln.C s9 a0.l, oB b2 T_Term (Term.C (⟨a4.kind, a4.name, a4.other, a4.form, s_4⟩ : Term))] [fS 2 Hyp.C s_1 a1, oDTerm s_4 a4.sub, oEt] := by simp only [hl7, hl10, cond_true, cond_false] at hT ⊢; exact hT
   obtain ⟨s13, he7, S⟩ := hT
   refine wd (does_load_agg ag_Term rfl ((S.blk 4).all _ (Term.len _)) (Term.len _)) ?_
   have hT2 : ∃ (s13' : SlV), ((plus L 8) 7 = true → (upd g 29 (Value.agg (Term.C (⟨a4.kind, a4.name, a4.other, a4.form, s_4⟩ : Term)).toArray)) 28 = s13'.v) ∧ St A N w v [oS T_Hyp 2 Hyp.C s13' r10, oB p7 T_Maker (Maker.C (⟨g_0_1, s9, a0.bad⟩ : Maker)), oT g_0_1 a0.t, oS T_Ln 4 Ln.C s9 a0.l, oB b2 T_Term (Term.C (⟨a4.kind, a4.name, a4.other, a4.form, s_4⟩ : Term))] [fS 2 Hyp.C s_1 a1, oDTerm s_4 a4.sub, oEt] := ⟨s13, fun h => by rw [upd_other _ _ _ _ (by decide)]; exact he7 (by rw [plus_ne rfl] at h; exact h), S⟩
   exact wl_nil (ob4 trivial rfl (by simp only [plus_ne (L := L) (i := 8) (j := 7) rfl, plus_ne (L := L) (i := 8) (j := 10) rfl, hl7, hl10, cond_true, cond_false] at hT2 ⊢; exact hT2))
  | false =>
   simp only [hl7, hl10, cond_true, cond_false] at hT
   replace S : St A N w v [oB p7 T_Maker (Maker.C (⟨g_0_1, s9, a0.bad⟩ : Maker)), oT g_0_1 a0.t, oS T_Ln 4 Ln.C s9 a0.l, oB b2 T_Term (Term.C (⟨a4.kind, a4.name, a4.other, a4.form, s_4⟩ : Term))] [fS 2 Hyp.C s_1 a1, oDTerm s_4 a4.sub, oEt] := hT
   refine wd (does_load_agg ag_Term rfl ((S.blk 3).all _ (Term.len _)) (Term.len _)) ?_
   exact wl_nil (ob4 trivial rfl (by simp only [plus_ne (L := L) (i := 8) (j := 7) rfl, plus_ne (L := L) (i := 8) (j := 10) rfl, hl7, hl10, cond_true, cond_false]; exact S))
 ·rintro L g v hL hcl hclo hT 
  have hl10 : L 10 = false := by cases h : L 10 with | false => rfl | true => exact absurd (hclo 10 9 h (by kernel_rfl)) (by rw [hL]; decide)
  cases hl7 : L 7 with
  | true =>
   replace hT : ∃ (s13 : SlV), (L 7 = true → g 28 = s13.v) ∧ St A N w v [oS T_Hyp 2 Hyp.C s13 r10, oB p7 T_Maker (Maker.C (⟨g_0_1, s9, a0.bad⟩ : Maker)), oT g_0_1 a0.t, oS T_Ln 4 Ln.C s9 a0.l, oB b2 T_Term (Term.C (⟨a4.kind, a4.name, a4.other, a4.form, s_4⟩ : Term))] [fS 2 Hyp.C s_1 a1, oDTerm s_4 a4.sub, oEt] := by simp only [hl7, hl10, cond_true, cond_false] at hT ⊢; exact hT
   obtain ⟨s13, he7, S⟩ := hT
   refine wd (does_mv_i rfl) ?_
   have hT2 : ∃ (s13' : SlV), ((plus L 9) 7 = true → (upd g 30 (Value.int .i64 a5)) 28 = s13'.v) ∧ St A N w v [oS T_Hyp 2 Hyp.C s13' r10, oB p7 T_Maker (Maker.C (⟨g_0_1, s9, a0.bad⟩ : Maker)), oT g_0_1 a0.t, oS T_Ln 4 Ln.C s9 a0.l, oB b2 T_Term (Term.C (⟨a4.kind, a4.name, a4.other, a4.form, s_4⟩ : Term))] [fS 2 Hyp.C s_1 a1, oDTerm s_4 a4.sub, oEt] := ⟨s13, fun h => by rw [upd_other _ _ _ _ (by decide)]; exact he7 (by rw [plus_ne rfl] at h; exact h), S⟩
   exact wl_nil (ob4 trivial rfl (by simp only [plus_ne (L := L) (i := 9) (j := 7) rfl, plus_ne (L := L) (i := 9) (j := 10) rfl, hl7, hl10, cond_true, cond_false] at hT2 ⊢; exact hT2))
  | false =>
   simp only [hl7, hl10, cond_true, cond_false] at hT
   replace S : St A N w v [oB p7 T_Maker (Maker.C (⟨g_0_1, s9, a0.bad⟩ : Maker)), oT g_0_1 a0.t, oS T_Ln 4 Ln.C s9 a0.l, oB b2 T_Term (Term.C (⟨a4.kind, a4.name, a4.other, a4.form, s_4⟩ : Term))] [fS 2 Hyp.C s_1 a1, oDTerm s_4 a4.sub, oEt] := hT
   refine wd (does_mv_i rfl) ?_
   exact wl_nil (ob4 trivial rfl (by simp only [plus_ne (L := L) (i := 9) (j := 7) rfl, plus_ne (L := L) (i := 9) (j := 10) rfl, hl7, hl10, cond_true, cond_false]; exact S))
 ·rintro L g v hL hcl hclo hT hv3 hv7 hv8 hv9
  have hl7 : L 7 = true := hcl 7 (by kernel_rfl)
  have hl10 : L 10 = false := hL
  replace hT : ∃ (s13 : SlV), (L 7 = true → g 28 = s13.v) ∧ St A N w v [oS T_Hyp 2 Hyp.C s13 r10, oB p7 T_Maker (Maker.C (⟨g_0_1, s9, a0.bad⟩ : Maker)), oT g_0_1 a0.t, oS T_Ln 4 Ln.C s9 a0.l, oB b2 T_Term (Term.C (⟨a4.kind, a4.name, a4.other, a4.form, s_4⟩ : Term))] [fS 2 Hyp.C s_1 a1, oDTerm s_4 a4.sub, oEt] := by simp only [hl7, hl10, cond_true, cond_false] at hT ⊢; exact hT
  obtain ⟨s13, he7, S⟩ := hT
  replace S := S.front 2
  obtain ⟨B23, MB23, SB23, back⟩ := S.calln 1 ((.s 0 rfl (.z 1 rfl (.z 2 rfl .nil))))
  refine wl_call (does_callg ca_hilbert_compile (cons2 hv3 (cons2 (he7 (hcl 7 (by kernel_rfl))) (cons2 hv8 (cons2 hv9 rfl))))) (by decide) (hrec_hilbert_compile (a2 := a4) SB23 er14) ?_
  rintro _ w22 ⟨s17, rfl, S2⟩
  replace S := back _ _ _ _ S2 rfl
  clear back S2 SB23
  have hT2 : ∃ (s13' : SlV) (s17' : SlV), ((plus L 10) 7 = true → (upd g 31 (Value.tuple #[s17.v, .int .i64 r14.2.2])) 28 = s13'.v) ∧ ((plus L 10) 10 = true → (upd g 31 (Value.tuple #[s17.v, .int .i64 r14.2.2])) 31 = Value.tuple #[s17'.v, .int .i64 r14.2.2]) ∧ ((plus L 10) 11 = true → (upd g 31 (Value.tuple #[s17.v, .int .i64 r14.2.2])) 20 = Value.tuple #[s17'.v, .int .i64 r14.2.2]) ∧ ((plus L 10) 12 = true → (upd g 31 (Value.tuple #[s17.v, .int .i64 r14.2.2])) 32 = s17'.v) ∧ ((plus L 10) 14 = true → (upd g 31 (Value.tuple #[s17.v, .int .i64 r14.2.2])) 13 = s17'.v) ∧ St A N w w22 [oT g_0_1 r14.1, oS T_Ln 4 Ln.C s17' r14.2.1, oS T_Hyp 2 Hyp.C s13' r10, oB p7 T_Maker (Maker.C (⟨g_0_1, s9, a0.bad⟩ : Maker)), oS T_Ln 4 Ln.C s9 a0.l, oB b2 T_Term (Term.C (⟨a4.kind, a4.name, a4.other, a4.form, s_4⟩ : Term))] [fS 2 Hyp.C s_1 a1, oDTerm s_4 a4.sub, oEt] := ⟨s13, s17, fun h => by rw [upd_other _ _ _ _ (by decide)]; exact he7 (by rw [plus_ne rfl] at h; exact h), fun _ => upd_same _ _ _, fun h => absurd (hclo 11 10 (by rw [plus_ne rfl] at h; exact h) (by kernel_rfl)) (by rw [hL]; decide), fun h => absurd (hclo 12 10 (by rw [plus_ne rfl] at h; exact h) (by kernel_rfl)) (by rw [hL]; decide), fun h => absurd (hclo 14 10 (by rw [plus_ne rfl] at h; exact h) (by kernel_rfl)) (by rw [hL]; decide), S⟩
  exact wl_nil (ob4 trivial trivial (by simp only [plus_ne (L := L) (i := 10) (j := 7) rfl, plus_self (L := L) (i := 10), cond_true, cond_false] at hT2 ⊢; exact hT2))
 ·rintro L g v hL hcl hclo hT hv10
  have hl10 : L 10 = true := hcl 10 (by kernel_rfl)
  replace hT : ∃ (s13 : SlV) (s17 : SlV), (L 7 = true → g 28 = s13.v) ∧ (L 10 = true → g 31 = Value.tuple #[s17.v, .int .i64 r14.2.2]) ∧ (L 11 = true → g 20 = Value.tuple #[s17.v, .int .i64 r14.2.2]) ∧ (L 12 = true → g 32 = s17.v) ∧ (L 14 = true → g 13 = s17.v) ∧ St A N w v [oT g_0_1 r14.1, oS T_Ln 4 Ln.C s17 r14.2.1, oS T_Hyp 2 Hyp.C s13 r10, oB p7 T_Maker (Maker.C (⟨g_0_1, s9, a0.bad⟩ : Maker)), oS T_Ln 4 Ln.C s9 a0.l, oB b2 T_Term (Term.C (⟨a4.kind, a4.name, a4.other, a4.form, s_4⟩ : Term))] [fS 2 Hyp.C s_1 a1, oDTerm s_4 a4.sub, oEt] := by simp only [hl10, cond_true, cond_false] at hT ⊢; exact hT
  obtain ⟨s13, s17, he7, he10, he11, he12, he14, S⟩ := hT
  refine wd (does_mv_t (he10 (hcl 10 (by kernel_rfl)))) ?_
  have hT2 : ∃ (s13' : SlV) (s17' : SlV), ((plus L 11) 7 = true → (upd g 20 (Value.tuple #[s17.v, .int .i64 r14.2.2])) 28 = s13'.v) ∧ ((plus L 11) 10 = true → (upd g 20 (Value.tuple #[s17.v, .int .i64 r14.2.2])) 31 = Value.tuple #[s17'.v, .int .i64 r14.2.2]) ∧ ((plus L 11) 11 = true → (upd g 20 (Value.tuple #[s17.v, .int .i64 r14.2.2])) 20 = Value.tuple #[s17'.v, .int .i64 r14.2.2]) ∧ ((plus L 11) 12 = true → (upd g 20 (Value.tuple #[s17.v, .int .i64 r14.2.2])) 32 = s17'.v) ∧ ((plus L 11) 14 = true → (upd g 20 (Value.tuple #[s17.v, .int .i64 r14.2.2])) 13 = s17'.v) ∧ St A N w v [oT g_0_1 r14.1, oS T_Ln 4 Ln.C s17' r14.2.1, oS T_Hyp 2 Hyp.C s13' r10, oB p7 T_Maker (Maker.C (⟨g_0_1, s9, a0.bad⟩ : Maker)), oS T_Ln 4 Ln.C s9 a0.l, oB b2 T_Term (Term.C (⟨a4.kind, a4.name, a4.other, a4.form, s_4⟩ : Term))] [fS 2 Hyp.C s_1 a1, oDTerm s_4 a4.sub, oEt] := ⟨s13, s17, fun h => by rw [upd_other _ _ _ _ (by decide)]; exact he7 (by rw [plus_ne rfl] at h; exact h), fun h => by rw [upd_other _ _ _ _ (by decide)]; exact he10 (by rw [plus_ne rfl] at h; exact h), fun _ => upd_same _ _ _, fun h => by rw [upd_other _ _ _ _ (by decide)]; exact he12 (by rw [plus_ne rfl] at h; exact h), fun h => by rw [upd_other _ _ _ _ (by decide)]; exact he14 (by rw [plus_ne rfl] at h; exact h), S⟩
  exact wl_nil (ob4 trivial trivial (by simp only [plus_ne (L := L) (i := 11) (j := 7) rfl, plus_ne (L := L) (i := 11) (j := 10) rfl, hl10, cond_true, cond_false] at hT2 ⊢; exact hT2))
 ·rintro L g v hL hcl hclo hT hv11
  have hl10 : L 10 = true := hcl 10 (by kernel_rfl)
  replace hT : ∃ (s13 : SlV) (s17 : SlV), (L 7 = true → g 28 = s13.v) ∧ (L 10 = true → g 31 = Value.tuple #[s17.v, .int .i64 r14.2.2]) ∧ (L 11 = true → g 20 = Value.tuple #[s17.v, .int .i64 r14.2.2]) ∧ (L 12 = true → g 32 = s17.v) ∧ (L 14 = true → g 13 = s17.v) ∧ St A N w v [oT g_0_1 r14.1, oS T_Ln 4 Ln.C s17 r14.2.1, oS T_Hyp 2 Hyp.C s13 r10, oB p7 T_Maker (Maker.C (⟨g_0_1, s9, a0.bad⟩ : Maker)), oS T_Ln 4 Ln.C s9 a0.l, oB b2 T_Term (Term.C (⟨a4.kind, a4.name, a4.other, a4.form, s_4⟩ : Term))] [fS 2 Hyp.C s_1 a1, oDTerm s_4 a4.sub, oEt] := by simp only [hl10, cond_true, cond_false] at hT ⊢; exact hT
  obtain ⟨s13, s17, he7, he10, he11, he12, he14, S⟩ := hT
  refine wd (does_extract (he11 (hcl 11 (by kernel_rfl))) rfl) ?_
  have hT2 : ∃ (s13' : SlV) (s17' : SlV), ((plus L 12) 7 = true → (upd g 32 (s17.v)) 28 = s13'.v) ∧ ((plus L 12) 10 = true → (upd g 32 (s17.v)) 31 = Value.tuple #[s17'.v, .int .i64 r14.2.2]) ∧ ((plus L 12) 11 = true → (upd g 32 (s17.v)) 20 = Value.tuple #[s17'.v, .int .i64 r14.2.2]) ∧ ((plus L 12) 12 = true → (upd g 32 (s17.v)) 32 = s17'.v) ∧ ((plus L 12) 14 = true → (upd g 32 (s17.v)) 13 = s17'.v) ∧ St A N w v [oT g_0_1 r14.1, oS T_Ln 4 Ln.C s17' r14.2.1, oS T_Hyp 2 Hyp.C s13' r10, oB p7 T_Maker (Maker.C (⟨g_0_1, s9, a0.bad⟩ : Maker)), oS T_Ln 4 Ln.C s9 a0.l, oB b2 T_Term (Term.C (⟨a4.kind, a4.name, a4.other, a4.form, s_4⟩ : Term))] [fS 2 Hyp.C s_1 a1, oDTerm s_4 a4.sub, oEt] := ⟨s13, s17, fun h => by rw [upd_other _ _ _ _ (by decide)]; exact he7 (by rw [plus_ne rfl] at h; exact h), fun h => by rw [upd_other _ _ _ _ (by decide)]; exact he10 (by rw [plus_ne rfl] at h; exact h), fun h => by rw [upd_other _ _ _ _ (by decide)]; exact he11 (by rw [plus_ne rfl] at h; exact h), fun _ => upd_same _ _ _, fun h => by rw [upd_other _ _ _ _ (by decide)]; exact he14 (by rw [plus_ne rfl] at h; exact h), S⟩
  exact wl_nil (ob4 trivial trivial (by simp only [plus_ne (L := L) (i := 12) (j := 7) rfl, plus_ne (L := L) (i := 12) (j := 10) rfl, hl10, cond_true, cond_false] at hT2 ⊢; exact hT2))
 ·rintro L g v hL hcl hclo hT hv11
  have hl10 : L 10 = true := hcl 10 (by kernel_rfl)
  replace hT : ∃ (s13 : SlV) (s17 : SlV), (L 7 = true → g 28 = s13.v) ∧ (L 10 = true → g 31 = Value.tuple #[s17.v, .int .i64 r14.2.2]) ∧ (L 11 = true → g 20 = Value.tuple #[s17.v, .int .i64 r14.2.2]) ∧ (L 12 = true → g 32 = s17.v) ∧ (L 14 = true → g 13 = s17.v) ∧ St A N w v [oT g_0_1 r14.1, oS T_Ln 4 Ln.C s17 r14.2.1, oS T_Hyp 2 Hyp.C s13 r10, oB p7 T_Maker (Maker.C (⟨g_0_1, s9, a0.bad⟩ : Maker)), oS T_Ln 4 Ln.C s9 a0.l, oB b2 T_Term (Term.C (⟨a4.kind, a4.name, a4.other, a4.form, s_4⟩ : Term))] [fS 2 Hyp.C s_1 a1, oDTerm s_4 a4.sub, oEt] := by simp only [hl10, cond_true, cond_false] at hT ⊢; exact hT
  obtain ⟨s13, s17, he7, he10, he11, he12, he14, S⟩ := hT
  refine wd (does_extract (he11 (hcl 11 (by kernel_rfl))) rfl) ?_
  have hT2 : ∃ (s13' : SlV) (s17' : SlV), ((plus L 13) 7 = true → (upd g 33 (Value.int .i64 r14.2.2)) 28 = s13'.v) ∧ ((plus L 13) 10 = true → (upd g 33 (Value.int .i64 r14.2.2)) 31 = Value.tuple #[s17'.v, .int .i64 r14.2.2]) ∧ ((plus L 13) 11 = true → (upd g 33 (Value.int .i64 r14.2.2)) 20 = Value.tuple #[s17'.v, .int .i64 r14.2.2]) ∧ ((plus L 13) 12 = true → (upd g 33 (Value.int .i64 r14.2.2)) 32 = s17'.v) ∧ ((plus L 13) 14 = true → (upd g 33 (Value.int .i64 r14.2.2)) 13 = s17'.v) ∧ St A N w v [oT g_0_1 r14.1, oS T_Ln 4 Ln.C s17' r14.2.1, oS T_Hyp 2 Hyp.C s13' r10, oB p7 T_Maker (Maker.C (⟨g_0_1, s9, a0.bad⟩ : Maker)), oS T_Ln 4 Ln.C s9 a0.l, oB b2 T_Term (Term.C (⟨a4.kind, a4.name, a4.other, a4.form, s_4⟩ : Term))] [fS 2 Hyp.C s_1 a1, oDTerm s_4 a4.sub, oEt] := ⟨s13, s17, fun h => by rw [upd_other _ _ _ _ (by decide)]; exact he7 (by rw [plus_ne rfl] at h; exact h), fun h => by rw [upd_other _ _ _ _ (by decide)]; exact he10 (by rw [plus_ne rfl] at h; exact h), fun h => by rw [upd_other _ _ _ _ (by decide)]; exact he11 (by rw [plus_ne rfl] at h; exact h), fun h => by rw [upd_other _ _ _ _ (by decide)]; exact he12 (by rw [plus_ne rfl] at h; exact h), fun h => by rw [upd_other _ _ _ _ (by decide)]; exact he14 (by rw [plus_ne rfl] at h; exact h), S⟩
  exact wl_nil (ob4 trivial rfl (by simp only [plus_ne (L := L) (i := 13) (j := 7) rfl, plus_ne (L := L) (i := 13) (j := 10) rfl, hl10, cond_true, cond_false] at hT2 ⊢; exact hT2))
 ·rintro L g v hL hcl hclo hT hv12
  have hl10 : L 10 = true := hcl 10 (by kernel_rfl)
  replace hT : ∃ (s13 : SlV) (s17 : SlV), (L 7 = true → g 28 = s13.v) ∧ (L 10 = true → g 31 = Value.tuple #[s17.v, .int .i64 r14.2.2]) ∧ (L 11 = true → g 20 = Value.tuple #[s17.v, .int .i64 r14.2.2]) ∧ (L 12 = true → g 32 = s17.v) ∧ (L 14 = true → g 13 = s17.v) ∧ St A N w v [oT g_0_1 r14.1, oS T_Ln 4 Ln.C s17 r14.2.1, oS T_Hyp 2 Hyp.C s13 r10, oB p7 T_Maker (Maker.C (⟨g_0_1, s9, a0.bad⟩ : Maker)), oS T_Ln 4 Ln.C s9 a0.l, oB b2 T_Term (Term.C (⟨a4.kind, a4.name, a4.other, a4.form, s_4⟩ : Term))] [fS 2 Hyp.C s_1 a1, oDTerm s_4 a4.sub, oEt] := by simp only [hl10, cond_true, cond_false] at hT ⊢; exact hT
  obtain ⟨s13, s17, he7, he10, he11, he12, he14, S⟩ := hT
  refine wd (does_as_l (he12 (hcl 12 (by kernel_rfl)))) ?_
  have hT2 : ∃ (s13' : SlV) (s17' : SlV), ((plus L 14) 7 = true → (upd g 13 (s17.v)) 28 = s13'.v) ∧ ((plus L 14) 10 = true → (upd g 13 (s17.v)) 31 = Value.tuple #[s17'.v, .int .i64 r14.2.2]) ∧ ((plus L 14) 11 = true → (upd g 13 (s17.v)) 20 = Value.tuple #[s17'.v, .int .i64 r14.2.2]) ∧ ((plus L 14) 12 = true → (upd g 13 (s17.v)) 32 = s17'.v) ∧ ((plus L 14) 14 = true → (upd g 13 (s17.v)) 13 = s17'.v) ∧ St A N w v [oT g_0_1 r14.1, oS T_Ln 4 Ln.C s17' r14.2.1, oS T_Hyp 2 Hyp.C s13' r10, oB p7 T_Maker (Maker.C (⟨g_0_1, s9, a0.bad⟩ : Maker)), oS T_Ln 4 Ln.C s9 a0.l, oB b2 T_Term (Term.C (⟨a4.kind, a4.name, a4.other, a4.form, s_4⟩ : Term))] [fS 2 Hyp.C s_1 a1, oDTerm s_4 a4.sub, oEt] := ⟨s13, s17, fun h => by rw [upd_other _ _ _ _ (by decide)]; exact he7 (by rw [plus_ne rfl] at h; exact h), fun h => by rw [upd_other _ _ _ _ (by decide)]; exact he10 (by rw [plus_ne rfl] at h; exact h), fun h => by rw [upd_other _ _ _ _ (by decide)]; exact he11 (by rw [plus_ne rfl] at h; exact h), fun h => by rw [upd_other _ _ _ _ (by decide)]; exact he12 (by rw [plus_ne rfl] at h; exact h), fun _ => upd_same _ _ _, S⟩
  exact wl_nil (ob4 trivial trivial (by simp only [plus_ne (L := L) (i := 14) (j := 7) rfl, plus_ne (L := L) (i := 14) (j := 10) rfl, hl10, cond_true, cond_false] at hT2 ⊢; exact hT2))
 rintro L g w24 hLm hT hv25_0 hv25_1 hv25_2 hv25_3 hv25_4 hv25_5 hv25_6 _ hv25_8 hv25_9 _ _ _ hv25_13 _
 have hLt : ∀ j, j < 15 → L j = true := fun j hj => by rw [hLm]; exact decide_eq_true hj
 replace hT : ∃ (s13 : SlV) (s17 : SlV), (L 7 = true → g 28 = s13.v) ∧ (L 10 = true → g 31 = Value.tuple #[s17.v, .int .i64 r14.2.2]) ∧ (L 11 = true → g 20 = Value.tuple #[s17.v, .int .i64 r14.2.2]) ∧ (L 12 = true → g 32 = s17.v) ∧ (L 14 = true → g 13 = s17.v) ∧ St A N w w24 [oT g_0_1 r14.1, oS T_Ln 4 Ln.C s17 r14.2.1, oS T_Hyp 2 Hyp.C s13 r10, oB p7 T_Maker (Maker.C (⟨g_0_1, s9, a0.bad⟩ : Maker)), oS T_Ln 4 Ln.C s9 a0.l, oB b2 T_Term (Term.C (⟨a4.kind, a4.name, a4.other, a4.form, s_4⟩ : Term))] [fS 2 Hyp.C s_1 a1, oDTerm s_4 a4.sub, oEt] := by simp only [hLt 10 (by decide), cond_true] at hT ⊢; exact hT
 obtain ⟨s13, s17, he7, he10, he11, he12, he14, S⟩ := hT
 have hv25_7 := he7 (hLt 7 (by decide))
 have hv25_10 := he10 (hLt 10 (by decide))
 have hv25_11 := he11 (hLt 11 (by decide))
 have hv25_12 := he12 (hLt 12 (by decide))
 have hv25_14 := he14 (hLt 14 (by decide))
 replace S := S
 refine wd (does_as_i hv25_13) ?_
 replace S := ((S.front 4).front 1).front 4
 replace S := S.shut_oK hp8
 refine wl_nil (wc_seq (wc_seq (wc_region (wd (does_mv_i rfl) (wd (does_eq rfl rfl) (wl_nil ?_))))))
 refine wc_if rfl (fun hc26 => ?_) (fun hc26 => ?_)
 ·replace H := if_t hc26 H
  refine wc_region (wd (does_mv_p rfl) ?_)
  obtain ⟨p27, s29, hp28, S⟩ := S.open_oK 0
  replace S := S
  refine wd (does_nilCheck (congrArg Value.pointer hp28)) (wd (does_fieldAddr fl_Maker_t rfl (o' := 0) rfl) (wd (does_load on_dictum_formula_has rfl ((S.blk 0).cell (Maker.get_t _))) (wd (does_mv_l hv25_14) (wd (does_mv_i rfl) ?_))))
  obtain ⟨r30, er30, H⟩ := bind_ex H
  replace S := S.front 1
  obtain ⟨B32, MB32, SB32, back⟩ := S.calln 1 ((.s 2 rfl .nil))
  refine wl_call (does_call ca_hilbert_deduce) (by decide) (hilbert_deduce_st SB32 er30) ?_
  rintro _ w31 ⟨s33, rfl, S2⟩
  replace S := back _ _ _ _ S2 rfl
  clear back S2 SB32
  refine wd (does_mv_t rfl) (wd (does_extract rfl rfl) (wd (does_extract rfl rfl) (wd (does_as_l rfl) (wd (does_as_i rfl) ?_))))
  replace S := ((S.front 3).front 1).front 3
  replace S := S.shut_oK hp28
  refine wl_nil (wc_seq (wc_region (wd (does_mv_p rfl) (wd (does_mv_l rfl) (wd (does_mv_i rfl) ?_)))))
  obtain ⟨r34, er34, H⟩ := bind_ex H
  obtain ⟨B36, MB36, SB36, back⟩ := S.calln 1 ((.s 0 rfl .nil))
  refine wl_call (does_call ca_hilbert_maker_add) (by decide) (hilbert_maker_add_st SB36 er34) ?_
  rintro _ w35 ⟨rfl, S2⟩
  replace S := back _ _ _ _ S2 rfl
  clear back S2 SB36
  refine wd (does_as_i rfl) (wl_nil (wc_ret ?_))
  refine ⟨_, (rets1 (retOne_tmp rfl)), ?_⟩
  replace S := S.arr [0] []
  obtain rfl := Option.some.inj H
  exact ⟨rfl, S⟩
 ·replace H := if_f hc26 H
  refine wc_skip (wc_seq (wc_region (wd (does_mv_p rfl) (wd (does_mv_l hv25_14) (wd (does_mv_i rfl) ?_)))))
  obtain ⟨r37, er37, H⟩ := bind_ex H
  obtain ⟨B39, MB39, SB39, back⟩ := S.calln 1 ((.s 0 rfl .nil))
  refine wl_call (does_call ca_hilbert_maker_add) (by decide) (hilbert_maker_add_st SB39 er37) ?_
  rintro _ w38 ⟨rfl, S2⟩
  replace S := back _ _ _ _ S2 rfl
  clear back S2 SB39
  refine wd (does_as_i rfl) (wl_nil (wc_ret ?_))
  refine ⟨_, (rets1 (retOne_tmp rfl)), ?_⟩
  replace S := S.arr [0] []
  obtain rfl := Option.some.inj H
  exact ⟨rfl, S⟩
theorem hilbert_maker_told_gst {rec_hilbert_compile : Tb → List Hyp → PTerm → Int → Option (Tb × List Ln × Int)} (hrec_hilbert_compile : ∀ {A : Nat → Prop} {N : Oth} {w : World} {a0 : Tb} {a_0 : Option Addr} {a1 : List Hyp} {s_1 : SlV} {a2 : PTerm} {s_2 : SlV} {a3 : Int} (S : St A N w w [oT a_0 a0] [fS 2 Hyp.C s_1 a1, oDTerm s_2 a2.sub, oEt]) {r : Tb × List Ln × Int} (H : rec_hilbert_compile a0 a1 a2 a3 = some r), Calls PP F_hilbert_compile #[.pointer a_0, s_1.v, .agg (Term.C (⟨a2.kind, a2.name, a2.other, a2.form, s_2⟩ : Term)).toArray, .int .i64 a3] w fun e w' => ∃ v, e = .returned v ∧ (∃ so0 : SlV, v = .tuple #[so0.v, .int .i64 r.2.2] ∧ St A N w w' [oT a_0 r.1, oS T_Ln 4 Ln.C so0 r.2.1] [])) {A : Nat → Prop} {N : Oth} {w : World} {a0 : PMaker} {a_0 : Option Addr} {g_0_1 : Option Addr} {a1 : List Hyp} {s_1 : SlV} {a2 : PTerm} {s_2 : SlV} (S : St A N w w [oK a_0 g_0_1 a0] [fS 2 Hyp.C s_1 a1, oDTerm s_2 a2.sub, oEt]) {k : Nat} {r : PMaker × Int × Int} (H : hilbert_maker_told.g rec_hilbert_compile k a0 a1 a2 = some r) :
  Calls PP F_hilbert_maker_told #[.pointer a_0, s_1.v, .agg (Term.C (⟨a2.kind, a2.name, a2.other, a2.form, s_2⟩ : Term)).toArray] w fun e w' => ∃ v, e = .returned v ∧ (v = .tuple #[.int .i64 r.2.1, .int .i64 r.2.2] ∧ St A N w w' [oK a_0 g_0_1 r.1] []) := by
 unfold hilbert_maker_told.g at H
 refine calls_of_wc (n := 31) fn_hilbert_maker_told rfl rfl (by simp) (wc_seq (wc_region ?_))
 refine wl_box_agg rfl (by decide) fun b2 w1 hw1 => ?_
 replace S := S.new hw1
 refine wd (does_as_i rfl) (wd (does_as_i rfl) (wl_nil (wc_seq (wc_seq (wc_region (wd (does_mv_p rfl) ?_))))))
 obtain ⟨p3, s5, hp4, S⟩ := S.open_oK 1
 replace S := S
 refine wd (does_nilCheck (congrArg Value.pointer hp4)) (wd (does_fieldAddr fl_Maker_bad rfl (o' := 2) rfl) (wd (does_load on_api_Errno rfl ((S.blk 0).cell (Maker.get_bad _))) (wd (does_ne rfl rfl) ?_)))
 replace S := ((S.front 2).front 2).front 2
 replace S := S.shut_oK hp4
 refine wl_nil ?_
 refine wc_if rfl (fun hc6 => ?_) (fun hc6 => ?_)
 ·replace H := if_t hc6 H
  refine wc_seq (wc_region (wd (does_as_i rfl) (wd (does_as_i rfl) (wl_nil (wc_ret ?_)))))
  refine ⟨_, (rets2 (retOne_tmp rfl) (retOne_tmp rfl)), ?_⟩
  replace S := S.arr [0] []
  obtain rfl := Option.some.inj H
  exact ⟨rfl, S⟩
 replace H := if_f hc6 H
 refine wc_skip (wc_seq ?_)
 obtain ⟨p7, s9, hp8, S⟩ := S.open_oK 0
 replace S := S
 refine wc_quiet 11 (Ext w1) hmix (by kernel_rfl) (by kernel_rfl) (Ext.drawn _) (wq_does (fun v K => does_mv_p rfl) (wq_does (fun v K => does_nilCheck (congrArg Value.pointer hp8)) (wq_does (fun v K => does_fieldAddr fl_Maker_t rfl (o' := 0) rfl) (wq_does (fun v K => does_load on_dictum_formula_has rfl (((S.ext K).blk 0).cell (Maker.get_t _))) (wq_does (fun v K => does_mv_l rfl) ?_)))))
 refine wq_does (fun v K => does_load_agg ag_Term rfl (((S.ext K).blk 3).all _ (Term.len _)) (Term.len _)) ?_
 obtain ⟨r10, er10, H⟩ := bind_ex H
 refine wq_call (fun v => does_call ca_types_Infer) (fun v K => (have ⟨M, SS⟩ := (S.ext K).lend ((.o 1 rfl (.z 0 rfl (.z 1 rfl (.z 2 rfl .nil))))); quiet (types_Infer_st (a2 := a2) SS er10) (fun v w' h => ⟨h.1, _, _, h.2⟩))) (fun v v' K h => K.thenExt h) (wq_does (fun v K => does_mv_t rfl) (wq_does (fun v K => does_extract rfl rfl) (wq_does (fun v K => does_extract rfl rfl) (wq_does (fun v K => does_as_i rfl) ?_))))
 refine wq_nil fun w11 K => ?_
 replace S := S.ext K
 clear K
 refine wd (does_as_i rfl) ?_
 replace S := ((S.front 2).front 2).front 2
 replace S := S.shut_oK hp8
 refine wl_nil (wc_seq (wc_region (wd (does_mv_i rfl) (wd (does_mv_p rfl) (wd (does_mv_l rfl) (wd (does_load_agg ag_Term rfl ((S.blk 1).all _ (Term.len _)) (Term.len _)) ?_))))))
 refine wd (does_mv_i rfl) ?_
 obtain ⟨r12, er12, H⟩ := bind_ex H
 obtain ⟨B14, MB14, SB14, back⟩ := S.calln 1 ((.z 0 rfl (.z 1 rfl (.z 2 rfl .nil))))
 refine wl_call (does_call ca_hilbert_maker_part) (by decide) (hilbert_maker_part_gst hrec_hilbert_compile (a2 := a2) SB14 er12) ?_
 rintro _ w13 ⟨rfl, S2⟩
 replace S := back _ _ _ _ S2 rfl
 clear back S2 SB14
 refine wd (does_as_i rfl) (wd (does_as_i rfl) (wl_nil (wc_ret ?_)))
 refine ⟨_, (rets2 (retOne_tmp rfl) (retOne_tmp rfl)), ?_⟩
 replace S := S.arr [0] []
 obtain rfl := Option.some.inj H
 exact ⟨rfl, S⟩
theorem hilbert_maker_node_st {A : Nat → Prop} {N : Oth} {w : World} {a0 : PMaker} {a_0 : Option Addr} {g_0_1 : Option Addr} {a1 : Int} (S : St A N w w [oK a_0 g_0_1 a0] []) {r : PMaker × Nd} (H : hilbert_maker_node.f a0 a1 = some r) :
  Calls PP F_hilbert_maker_node #[.pointer a_0, .int .i64 a1] w fun e w' => ∃ v, e = .returned v ∧ (v = .agg (Nd.C r.2).toArray ∧ St A N w w' [oK a_0 g_0_1 r.1] []) := by
 unfold hilbert_maker_node.f at H
 refine calls_of_wc (n := 17) fn_hilbert_maker_node rfl rfl (by simp) (wc_seq (wc_region ?_))
 refine wl_alloc ze_Nd (by decide) fun b2 w1 hw1 => ?_
 replace S := S.new hw1
 refine wl_nil (wc_seq (wc_region (wd (does_mv_p rfl) ?_)))
 obtain ⟨p3, s5, hp4, S⟩ := S.open_oK 1
 replace S := S
 refine wd (does_nilCheck (congrArg Value.pointer hp4)) (wd (does_fieldAddr fl_Maker_t rfl (o' := 0) rfl) (wd (does_load on_dictum_formula_has rfl ((S.blk 0).cell (Maker.get_t _))) (wd (does_mv_i rfl) ?_)))
 obtain ⟨r6, er6, H⟩ := bind_ex H
 obtain ⟨B8, MB8, SB8, back⟩ := S.calln 0 ((.o 1 rfl .nil))
 refine wl_call (does_call ca_formula_Table_Node) (by decide) (formula_Table_Node_st SB8 er6) ?_
 rintro _ w7 ⟨rfl, S2⟩
 replace S := back _ _ _ _ S2 rfl
 clear back S2 SB8
 refine wd (does_mv_t rfl) (wd (does_extract rfl rfl) (wd (does_extract rfl rfl) ?_))
 refine wl_alloc ze_Nd (by decide) fun b10 w9 hw9 => ?_
 replace S := S.new hw9
 refine wl_store_agg ag_Nd rfl rfl (S.blk 0) (Nd.len _) (by rw [Nd.len]; decide) (Nd.one _) (store_all (Nd.len _)) fun w11 B hw11 zw11 => ?_
 replace S := S.store 0 B hw11
 clear B
 refine wd (does_as_b rfl) ?_
 replace S := ((S.front 3).front 3).front 3
 replace S := S.shut_oK hp4
 refine wl_nil (wc_seq (wc_region (wd (does_load_agg ag_Nd rfl ((S.blk 1).all _ (Nd.len _)) (Nd.len _)) ?_)))
 refine wl_store_agg ag_Nd rfl rfl (S.blk 2) (Nd.len _) (by rw [Nd.len]; decide) (Nd.one _) (store_all (Nd.len _)) fun w12 B hw12 zw12 => ?_
 replace S := S.store 2 B hw12
 clear B
 refine wl_nil (wc_ret ?_)
 refine ⟨_, (rets1 (retOne_agg ag_Nd rfl ((S.blk 0).all _ (Nd.len _)) (Nd.len _))), ?_⟩
 replace S := S.arr [1] []
 obtain rfl := Option.some.inj H
 exact ⟨rfl, S⟩
theorem hilbert_maker_unary_gst {rec_hilbert_compile : Tb → List Hyp → PTerm → Int → Option (Tb × List Ln × Int)} (hrec_hilbert_compile : ∀ {A : Nat → Prop} {N : Oth} {w : World} {a0 : Tb} {a_0 : Option Addr} {a1 : List Hyp} {s_1 : SlV} {a2 : PTerm} {s_2 : SlV} {a3 : Int} (S : St A N w w [oT a_0 a0] [fS 2 Hyp.C s_1 a1, oDTerm s_2 a2.sub, oEt]) {r : Tb × List Ln × Int} (H : rec_hilbert_compile a0 a1 a2 a3 = some r), Calls PP F_hilbert_compile #[.pointer a_0, s_1.v, .agg (Term.C (⟨a2.kind, a2.name, a2.other, a2.form, s_2⟩ : Term)).toArray, .int .i64 a3] w fun e w' => ∃ v, e = .returned v ∧ (∃ so0 : SlV, v = .tuple #[so0.v, .int .i64 r.2.2] ∧ St A N w w' [oT a_0 r.1, oS T_Ln 4 Ln.C so0 r.2.1] [])) {A : Nat → Prop} {N : Oth} {w : World} {a0 : PMaker} {a_0 : Option Addr} {g_0_1 : Option Addr} {a1 : List Hyp} {s_1 : SlV} {a2 : PTerm} {s_2 : SlV} {a3 : Int} {a4 : Int} (S : St A N w w [oK a_0 g_0_1 a0] [fS 2 Hyp.C s_1 a1, oDTerm s_2 a2.sub, oEt]) {k : Nat} {r : PMaker} (H : hilbert_maker_unary.g rec_hilbert_compile k a0 a1 a2 a3 a4 = some r) :
  Calls PP F_hilbert_maker_unary #[.pointer a_0, s_1.v, .agg (Term.C (⟨a2.kind, a2.name, a2.other, a2.form, s_2⟩ : Term)).toArray, .int .i64 a3, .int .i64 a4] w fun e w' => ∃ v, e = .returned v ∧ (v = .tuple #[] ∧ St A N w w' [oK a_0 g_0_1 r] []) := by
 unfold hilbert_maker_unary.g at H
 refine calls_of_wc (n := 32) fn_hilbert_maker_unary rfl rfl (by simp) (wc_seq (wc_region ?_))
 refine wl_box_agg rfl (by decide) fun b2 w1 hw1 => ?_
 replace S := S.new hw1
 refine wl_nil (wc_seq (wc_region (wd (does_mv_p rfl) (wd (does_mv_l rfl) (wd (does_fieldAddr fl_Term_sub rfl (o' := 4) rfl) (wd (does_load on_L_api_Term rfl ((S.blk 0).cell (Term.get_sub _))) ?_))))))
 obtain ⟨hi3, H⟩ := chk_ex H
 refine wd (does_indexF sl_L_api_Term rfl rfl (S.onZ 1) (inb_ex hi3).1 (inb_ex hi3).2) ?_
 obtain ⟨s4, hc5, S⟩ := S.viewTerm 1 (inb_ex hi3)
 replace S := S
 refine wd (does_load_agg ag_Term rfl hc5 (Term.len _)) ?_
 obtain ⟨r6, er6, H⟩ := bind_ex H
 replace S := S.front 1
 obtain ⟨B8, MB8, SB8, back⟩ := S.calln 1 ((.z 1 rfl (.z 0 rfl (.z 3 rfl .nil))))
 refine wl_call (does_call ca_hilbert_maker_told) (by decide) (hilbert_maker_told_gst hrec_hilbert_compile (a2 := (at_ PTerm.z a2.sub 0)) SB8 er6) ?_
 rintro _ w7 ⟨rfl, S2⟩
 replace S := back _ _ _ _ S2 rfl
 clear back S2 SB8
 refine wd (does_mv_t rfl) (wd (does_extract rfl rfl) (wd (does_extract rfl rfl) (wd (does_as_i rfl) (wd (does_as_i rfl) (wl_nil (wc_region ?_))))))
 refine wd (does_mv_p rfl) (wd (does_mv_p rfl) (wd (does_mv_i rfl) (wd (does_mv_p rfl) (wd (does_mv_i rfl) (wd (does_mv_i rfl) ?_)))))
 obtain ⟨r9, er9, H⟩ := bind_ex H
 obtain ⟨B11, MB11, SB11, back⟩ := S.calln 1 ((.nil))
 refine wl_call (does_call ca_hilbert_maker_imp) (by decide) (hilbert_maker_imp_st SB11 er9) ?_
 rintro _ w10 ⟨rfl, S2⟩
 replace S := back _ _ _ _ S2 rfl
 clear back S2 SB11
 obtain ⟨r12, er12, H⟩ := bind_ex H
 obtain ⟨B14, MB14, SB14, back⟩ := S.calln 1 ((.nil))
 refine wl_call (does_call ca_hilbert_maker_axiom) (by decide) (hilbert_maker_axiom_st SB14 er12) ?_
 rintro _ w13 ⟨rfl, S2⟩
 replace S := back _ _ _ _ S2 rfl
 clear back S2 SB14
 refine wd (does_mv_i rfl) ?_
 obtain ⟨r15, er15, H⟩ := bind_ex H
 obtain ⟨B17, MB17, SB17, back⟩ := S.calln 1 ((.nil))
 refine wl_call (does_call ca_hilbert_maker_mp) (by decide) (hilbert_maker_mp_st SB17 er15) ?_
 rintro _ w16 ⟨rfl, S2⟩
 replace S := back _ _ _ _ S2 rfl
 clear back S2 SB17
 refine wl_nil ?_
 refine ⟨_, rets0, ?_⟩
 replace S := S.arr [0] []
 obtain rfl := Option.some.inj H
 exact ⟨rfl, S⟩
theorem hilbert_compile_gst {rec_hilbert_compile : Tb → List Hyp → PTerm → Int → Option (Tb × List Ln × Int)} (hrec_hilbert_compile : ∀ {A : Nat → Prop} {N : Oth} {w : World} {a0 : Tb} {a_0 : Option Addr} {a1 : List Hyp} {s_1 : SlV} {a2 : PTerm} {s_2 : SlV} {a3 : Int} (S : St A N w w [oT a_0 a0] [fS 2 Hyp.C s_1 a1, oDTerm s_2 a2.sub, oEt]) {r : Tb × List Ln × Int} (H : rec_hilbert_compile a0 a1 a2 a3 = some r), Calls PP F_hilbert_compile #[.pointer a_0, s_1.v, .agg (Term.C (⟨a2.kind, a2.name, a2.other, a2.form, s_2⟩ : Term)).toArray, .int .i64 a3] w fun e w' => ∃ v, e = .returned v ∧ (∃ so0 : SlV, v = .tuple #[so0.v, .int .i64 r.2.2] ∧ St A N w w' [oT a_0 r.1, oS T_Ln 4 Ln.C so0 r.2.1] [])) {A : Nat → Prop} {N : Oth} {w : World} {a0 : Tb} {a_0 : Option Addr} {a1 : List Hyp} {s_1 : SlV} {a2 : PTerm} {s_2 : SlV} {a3 : Int} (S : St A N w w [oT a_0 a0] [fS 2 Hyp.C s_1 a1, oDTerm s_2 a2.sub, oEt]) {k : Nat} {r : Tb × List Ln × Int} (H : hilbert_compile.g rec_hilbert_compile k a0 a1 a2 a3 = some r) :
  Calls PP F_hilbert_compile #[.pointer a_0, s_1.v, .agg (Term.C (⟨a2.kind, a2.name, a2.other, a2.form, s_2⟩ : Term)).toArray, .int .i64 a3] w fun e w' => ∃ v, e = .returned v ∧ (∃ so0 : SlV, v = .tuple #[so0.v, .int .i64 r.2.2] ∧ St A N w w' [oT a_0 r.1, oS T_Ln 4 Ln.C so0 r.2.1] []) := by
 unfold hilbert_compile.g at H
 refine calls_of_wc (n := 301) fn_hilbert_compile rfl rfl (by simp) (wc_seq (wc_region ?_))
 refine wl_box_agg rfl (by decide) fun b2 w1 hw1 => ?_
 replace S := S.new hw1
 refine wd (does_as_nil) (wd (does_as_i rfl) (wl_nil (wc_seq (wc_region (wd (does_mv_p rfl) (wd (Does.to (v' := .agg (Maker.C (⟨a_0, SlV.nil, 0⟩ : Maker)).toArray) (does_buildv (vs := [(0, .pointer a_0)]) bu_Maker (consP rfl rfl) (Bld.one rfl rfl (by rw [Maker.len]; decide) (Maker.set_t _ _) Bld.nil)) rfl) ?_))))))
 refine wl_box_agg rfl (by decide) fun b4 w3 hw3 => ?_
 replace S := ((S.new hw3).nil T_Ln 4 Ln.C).front 3
 replace S := (S.front 2).shut_oK rfl
 refine wd (does_as_p rfl) (wl_nil (wc_seq (wc_region (wd (does_mv_p rfl) (wd (does_mv_i rfl) ?_)))))
 obtain ⟨r5, er5, H⟩ := bind_ex H
 obtain ⟨B7, MB7, SB7, back⟩ := S.calln 1 ((.nil))
 refine wl_call (does_call ca_hilbert_maker_node) (by decide) (hilbert_maker_node_st SB7 er5) ?_
 rintro _ w6 ⟨rfl, S2⟩
 replace S := back _ _ _ _ S2 rfl
 clear back S2 SB7
 refine wl_alloc ze_Nd (by decide) fun b9 w8 hw8 => ?_
 replace S := S.new hw8
 refine wl_store_agg ag_Nd rfl rfl (S.blk 0) (Nd.len _) (by rw [Nd.len]; decide) (Nd.one _) (store_all (Nd.len _)) fun w10 B hw10 zw10 => ?_
 replace S := S.store 0 B hw10
 clear B
 refine wl_nil (wc_seq (wc_seq (wc_region (wd (does_fieldAddr fl_Term_kind rfl (o' := 0) rfl) (wd (does_load on_api_TermKind rfl ((S.blk 2).cell (Term.get_kind _))) (wl_nil ?_))))))
 obtain ⟨o11, e11, Ho11⟩ := bind_ex H
 replace H := e11; clear e11
 refine wc_cutq [12, 13, 14, 15, 16, 17, 18, 19, 20, 21, 22, 23, 24, 25, 26, 27, 28, 29, 38, 39, 40, 41, 42, 43, 44, 45, 46, 47, 48, 49, 50, 51, 52, 53, 54, 55, 56, 57, 58, 59, 60, 61, 62, 63, 64, 65, 66, 67, 68, 69, 70, 71, 72, 73, 74, 75, 76, 77, 78, 79, 80, 81, 82, 83, 84, 85, 86, 87, 88, 89, 90, 91, 92, 93, 94, 95, 96, 97, 98, 99, 100, 101, 102, 103, 104, 105, 106, 107, 108, 109, 110, 111, 112, 113, 114, 115, 116, 117, 118, 119, 120, 121, 122, 123, 124, 125, 126, 127, 128, 129, 130, 131, 132, 133, 134, 135, 136, 137, 138, 139, 140, 141, 142, 143, 144, 145, 146, 147, 148, 149, 150, 151, 152, 153, 154, 155, 156, 157, 158, 159, 160, 161, 162, 163, 164, 165, 166, 167, 168, 169, 170, 171, 172, 173, 174, 175, 176, 177, 178, 179, 180, 181, 182, 183, 184, 185, 186, 187, 188, 189, 190, 191, 192, 193, 194, 195, 196, 197, 198, 199, 200, 201, 202, 203, 204, 205, 206, 207, 208, 209, 210, 211, 212, 213, 214, 215, 216, 217, 218, 219, 220, 221, 222, 223, 224, 225, 226, 227, 228, 229, 230, 231, 232, 233, 234, 235, 236, 237, 238, 239, 240, 241, 242, 243, 244, 245, 246, 247, 248, 249, 250, 251, 252, 253, 254, 255, 256, 257, 258, 259, 260, 261, 262, 263, 264, 265, 266, 267, 268, 269, 270, 271, 272, 273, 274, 275, 276, 277, 278, 279, 280, 281, 282, 283, 284, 285, 286, 287, 288, 289, 290, 291, 292] (fun fr W => St A N w W [oB b9 T_Nd (Nd.C r5.2), oK (some ⟨b4, 0, none⟩) a_0 o11, oB b2 T_Term (Term.C (⟨a2.kind, a2.name, a2.other, a2.form, s_2⟩ : Term))] [fS 2 Hyp.C s_1 a1, oDTerm s_2 a2.sub, oEt]) ?_ ?_
 ·refine wc_block (wc_seq (wc_region (wd (does_eq rfl rfl) (wd (does_as_b rfl) (wl_nil ?_)))))
  refine wc_if rfl (fun hc12 => ?_) (fun hc12 => ?_)
  ·replace H := if_t hc12 H
   refine wc_region (wd (does_mv_p rfl) (wd (does_mv_i rfl) ?_))
   obtain ⟨r13, er13, H⟩ := bind_ex H
   replace S := S.front 1
   obtain ⟨B15, MB15, SB15, back⟩ := S.calln 1 ((.nil))
   refine wl_call (does_call ca_hilbert_maker_axiom) (by decide) (hilbert_maker_axiom_st SB15 er13) ?_
   rintro _ w14 ⟨rfl, S2⟩
   replace S := back _ _ _ _ S2 rfl
   clear back S2 SB15
   refine wl_nil ?_
   replace S := S.arr [1, 0, 2] [0, 1, 2]
   obtain rfl := Option.some.inj H
   exact ⟨rfl, ((((((Dif.refl _ _).upd rfl _).upd rfl _).upd rfl _).upd rfl _).upd rfl _), S⟩
  ·replace H := if_f hc12 H
   refine wc_seq (wc_region (wd (does_eq rfl rfl) (wd (does_as_b rfl) (wl_nil ?_))))
   refine wc_if rfl (fun hc16 => ?_) (fun hc16 => ?_)
   ·replace H := if_t hc16 H
    refine wc_region (wd (does_mv_p rfl) (wd (does_mv_l rfl) (wd (does_fieldAddr fl_Term_sub rfl (o' := 4) rfl) (wd (does_load on_L_api_Term rfl ((S.blk 2).cell (Term.get_sub _))) ?_))))
    obtain ⟨hi17, H⟩ := chk_ex H
    refine wd (does_indexF sl_L_api_Term rfl rfl (S.onZ 1) (inb_ex hi17).1 (inb_ex hi17).2) ?_
    obtain ⟨s18, hc19, S⟩ := S.viewTerm 1 (inb_ex hi17)
    replace S := S
    refine wd (does_load_agg ag_Term rfl hc19 (Term.len _)) (wd (does_mv_i rfl) ?_)
    obtain ⟨r20, er20, H⟩ := bind_ex H
    replace S := S.front 1
    obtain ⟨B22, MB22, SB22, back⟩ := S.calln 1 ((.z 1 rfl (.z 0 rfl (.z 3 rfl .nil))))
    refine wl_call (does_call ca_hilbert_maker_part) (by decide) (hilbert_maker_part_gst hrec_hilbert_compile (a2 := (at_ PTerm.z a2.sub 0)) SB22 er20) ?_
    rintro _ w21 ⟨rfl, S2⟩
    replace S := back _ _ _ _ S2 rfl
    clear back S2 SB22
    refine wl_nil ?_
    replace S := S.arr [1, 0, 2] [1, 2, 3]
    obtain rfl := Option.some.inj H
    exact ⟨rfl, (((((((((((((Dif.refl _ _).upd rfl _).upd rfl _).upd rfl _).upd rfl _).upd rfl _).upd rfl _).upd rfl _).upd rfl _).upd rfl _).upd rfl _).upd rfl _).upd rfl _), S⟩
   ·replace H := if_f hc16 H
    refine wc_seq (wc_region (wd (does_eq rfl rfl) (wd (does_as_b rfl) (wl_nil ?_))))
    refine wc_if rfl (fun hc23 => ?_) (fun hc23 => ?_)
    ·replace H := if_t hc23 H
     refine wc_quiet 12 (Ext w10) hmix (by kernel_rfl) (by kernel_rfl) (Ext.drawn _) (wq_does (fun v K => does_mv_p rfl) (wq_does (fun v K => does_mv_l rfl) (wq_does (fun v K => does_fieldAddr fl_Term_name rfl (o' := 1) rfl) (wq_does (fun v K => does_load on_string rfl (((S.ext K).blk 2).cell (Term.get_name _))) (wq_does (fun v K => does_fieldAddr fl_Nd_l rfl (o' := 2) rfl) ?_)))))
     refine wq_does (fun v K => does_load on_int rfl (((S.ext K).blk 0).cell (Nd.get_l _))) (wq_does (fun v K => does_fieldAddr fl_Term_sub rfl (o' := 4) rfl) (wq_does (fun v K => does_load on_L_api_Term rfl (((S.ext K).blk 2).cell (Term.get_sub _))) ?_))
     obtain ⟨hi24, H⟩ := chk_ex H
     refine wq_does (fun v K => does_indexF sl_L_api_Term rfl rfl ((S.ext K).onZ 1) (inb_ex hi24).1 (inb_ex hi24).2) ?_
     obtain ⟨s25, hc26, S⟩ := S.viewTerm 1 (inb_ex hi24)
     replace S := S
     refine wq_does (fun v K => does_load_agg ag_Term rfl (hc26.chg K (fun x => x)) (Term.len _)) (wq_does (fun v K => does_fieldAddr fl_Nd_r rfl (o' := 3) rfl) (wq_does (fun v K => does_load on_int rfl (((S.ext K).blk 0).cell (Nd.get_r _))) ?_))
     refine wq_nil fun w27 K => ?_
     replace S := S.ext K
     clear K
     obtain ⟨r28, er28, H⟩ := bind_ex H
     replace S := S.front 1
     obtain ⟨B30, MB30, SB30, back⟩ := S.calln 1 ((.z 1 rfl (.z 0 rfl (.z 3 rfl .nil))))
     refine wl_call (does_call ca_hilbert_maker_under) (by decide) (hilbert_maker_under_gst hrec_hilbert_compile (a4 := (at_ PTerm.z a2.sub 0)) SB30 er28) ?_
     rintro _ w29 ⟨rfl, S2⟩
     replace S := back _ _ _ _ S2 rfl
     clear back S2 SB30
     refine wl_nil ?_
     replace S := S.arr [1, 0, 2] [1, 2, 3]
     obtain rfl := Option.some.inj H
     exact ⟨rfl, ((((((((((((((((((((Dif.refl _ _).upd rfl _).upd rfl _).upd rfl _).upd rfl _).upd rfl _).upd rfl _).upd rfl _).upd rfl _).upd rfl _).upd rfl _).upd rfl _).upd rfl _).upd rfl _).upd rfl _).upd rfl _).upd rfl _).upd rfl _).upd rfl _).upd rfl _), S⟩
    ·replace H := if_f hc23 H
     refine wc_seq (wc_region (wd (does_eq rfl rfl) (wd (does_as_b rfl) (wl_nil ?_))))
     refine wc_if rfl (fun hc31 => ?_) (fun hc31 => ?_)
     ·replace H := if_t hc31 H
      refine wc_seq (wc_region (wd (does_mv_p rfl) (wd (does_mv_l rfl) (wd (does_fieldAddr fl_Term_sub rfl (o' := 4) rfl) (wd (does_load on_L_api_Term rfl ((S.blk 2).cell (Term.get_sub _))) ?_)))))
      obtain ⟨hi32, H⟩ := chk_ex H
      refine wd (does_indexF sl_L_api_Term rfl rfl (S.onZ 1) (inb_ex hi32).1 (inb_ex hi32).2) ?_
      obtain ⟨s33, hc34, S⟩ := S.viewTerm 1 (inb_ex hi32)
      replace S := S
      refine wd (does_load_agg ag_Term rfl hc34 (Term.len _)) ?_
      obtain ⟨r35, er35, H⟩ := bind_ex H
      replace S := S.front 1
      obtain ⟨B37, MB37, SB37, back⟩ := S.calln 1 ((.z 1 rfl (.z 0 rfl (.z 3 rfl .nil))))
      refine wl_call (does_call ca_hilbert_maker_told) (by decide) (hilbert_maker_told_gst hrec_hilbert_compile (a2 := (at_ PTerm.z a2.sub 0)) SB37 er35) ?_
      rintro _ w36 ⟨rfl, S2⟩
      replace S := back _ _ _ _ S2 rfl
      clear back S2 SB37
      refine wd (does_mv_t rfl) (wd (does_extract rfl rfl) (wd (does_extract rfl rfl) (wd (does_as_i rfl) (wd (does_as_i rfl) (wl_nil (wc_seq ?_))))))
      obtain ⟨hi38, H⟩ := chk_ex H
      obtain ⟨r40, er40, H⟩ := bind_ex H
      obtain ⟨s39, S⟩ := S.viewTermC 2 (inb_ex hi38)
      replace S := S.zs [2, 3, 4, 5, 0, 1]
      refine wc_draw5 10 ⟨fun _ _ => True, fun _ _ _ => True, fun i v _ => match i with
       | 0 => v = Value.pointer (some ⟨b4, 0, none⟩)
       | 1 => v = s_1.v
       | 2 => v = Value.pointer (some ⟨b2, 4, none⟩)
       | 3 => v = s_2.v
       | 4 => v = Value.pointer (some ⟨s_2.blk, s_2.off + Int.toNat 1 * 5, none⟩)
       | 5 => v = Value.agg (Term.C (⟨(at_ PTerm.z a2.sub 1).kind, (at_ PTerm.z a2.sub 1).name, (at_ PTerm.z a2.sub 1).other, (at_ PTerm.z a2.sub 1).form, s39⟩ : Term)).toArray
       | 6 => v = Value.pointer (some ⟨b4, 0, none⟩)
       | 7 => v = Value.int .i64 r35.2.1
       | 8 => v = Value.agg (Nd.C r40.2).toArray
       | 9 => v = Value.int .i64 r40.2.l
       | _ => True⟩ (fun L g v => bif L 8 then (St A N w v [oK (some ⟨b4, 0, none⟩) a_0 r40.1, oB b9 T_Nd (Nd.C r5.2), oB b2 T_Term (Term.C (⟨a2.kind, a2.name, a2.other, a2.form, s_2⟩ : Term))] [oDTerm s33 ((at_ PTerm.z a2.sub 0).sub), fS 2 Hyp.C s_1 a1, oDTerm s_2 a2.sub, oEt, oCl s_2.blk (s_2.off + Int.toNat 1 * 5) (Term.C (⟨(at_ PTerm.z a2.sub 1).kind, (at_ PTerm.z a2.sub 1).name, (at_ PTerm.z a2.sub 1).other, (at_ PTerm.z a2.sub 1).form, s39⟩ : Term)), oDTerm s39 ((at_ PTerm.z a2.sub 1).sub)]) else (St A N w v [oK (some ⟨b4, 0, none⟩) a_0 r35.1, oB b9 T_Nd (Nd.C r5.2), oB b2 T_Term (Term.C (⟨a2.kind, a2.name, a2.other, a2.form, s_2⟩ : Term))] [oDTerm s33 ((at_ PTerm.z a2.sub 0).sub), fS 2 Hyp.C s_1 a1, oDTerm s_2 a2.sub, oEt, oCl s_2.blk (s_2.off + Int.toNat 1 * 5) (Term.C (⟨(at_ PTerm.z a2.sub 1).kind, (at_ PTerm.z a2.sub 1).name, (at_ PTerm.z a2.sub 1).other, (at_ PTerm.z a2.sub 1).form, s39⟩ : Term)), oDTerm s39 ((at_ PTerm.z a2.sub 1).sub)])) hmix (by kernel_rfl) (fun _ _ _ _ _ _ _ hv => hv) (fun g => S.ext (Ext.drawn _)) ⟨?_, ?_, ?_, ?_, ?_, ?_, ?_, ?_, ?_, ?_, trivial⟩ ?_
      ·rintro L g v hL hcl hclo hT 
       cases hl8 : L 8 with
       | true =>
        simp only [hl8, cond_true, cond_false] at hT
        replace S : St A N w v [oK (some ⟨b4, 0, none⟩) a_0 r40.1, oB b9 T_Nd (Nd.C r5.2), oB b2 T_Term (Term.C (⟨a2.kind, a2.name, a2.other, a2.form, s_2⟩ : Term))] [oDTerm s33 ((at_ PTerm.z a2.sub 0).sub), fS 2 Hyp.C s_1 a1, oDTerm s_2 a2.sub, oEt, oCl s_2.blk (s_2.off + Int.toNat 1 * 5) (Term.C (⟨(at_ PTerm.z a2.sub 1).kind, (at_ PTerm.z a2.sub 1).name, (at_ PTerm.z a2.sub 1).other, (at_ PTerm.z a2.sub 1).form, s39⟩ : Term)), oDTerm s39 ((at_ PTerm.z a2.sub 1).sub)] := hT
        refine wd (does_mv_p rfl) ?_
        exact wl_nil (ob4 trivial rfl (by simp only [plus_ne (L := L) (i := 0) (j := 8) rfl, hl8, cond_true, cond_false]; exact S))
       | false =>
        simp only [hl8, cond_true, cond_false] at hT
        replace S : St A N w v [oK (some ⟨b4, 0, none⟩) a_0 r35.1, oB b9 T_Nd (Nd.C r5.2), oB b2 T_Term (Term.C (⟨a2.kind, a2.name, a2.other, a2.form, s_2⟩ : Term))] [oDTerm s33 ((at_ PTerm.z a2.sub 0).sub), fS 2 Hyp.C s_1 a1, oDTerm s_2 a2.sub, oEt, oCl s_2.blk (s_2.off + Int.toNat 1 * 5) (Term.C (⟨(at_ PTerm.z a2.sub 1).kind, (at_ PTerm.z a2.sub 1).name, (at_ PTerm.z a2.sub 1).other, (at_ PTerm.z a2.sub 1).form, s39⟩ : Term)), oDTerm s39 ((at_ PTerm.z a2.sub 1).sub)] := hT
        refine wd (does_mv_p rfl) ?_
        exact wl_nil (ob4 trivial rfl (by simp only [plus_ne (L := L) (i := 0) (j := 8) rfl, hl8, cond_true, cond_false]; exact S))
      ·rintro L g v hL hcl hclo hT 
       cases hl8 : L 8 with
       | true =>
        simp only [hl8, cond_true, cond_false] at hT
        replace S : St A N w v [oK (some ⟨b4, 0, none⟩) a_0 r40.1, oB b9 T_Nd (Nd.C r5.2), oB b2 T_Term (Term.C (⟨a2.kind, a2.name, a2.other, a2.form, s_2⟩ : Term))] [oDTerm s33 ((at_ PTerm.z a2.sub 0).sub), fS 2 Hyp.C s_1 a1, oDTerm s_2 a2.sub, oEt, oCl s_2.blk (s_2.off + Int.toNat 1 * 5) (Term.C (⟨(at_ PTerm.z a2.sub 1).kind, (at_ PTerm.z a2.sub 1).name, (at_ PTerm.z a2.sub 1).other, (at_ PTerm.z a2.sub 1).form, s39⟩ : Term)), oDTerm s39 ((at_ PTerm.z a2.sub 1).sub)] := hT
        refine wd (does_mv_l rfl) ?_
        exact wl_nil (ob4 trivial rfl (by simp only [plus_ne (L := L) (i := 1) (j := 8) rfl, hl8, cond_true, cond_false]; exact S))
       | false =>
        simp only [hl8, cond_true, cond_false] at hT
        replace S : St A N w v [oK (some ⟨b4, 0, none⟩) a_0 r35.1, oB b9 T_Nd (Nd.C r5.2), oB b2 T_Term (Term.C (⟨a2.kind, a2.name, a2.other, a2.form, s_2⟩ : Term))] [oDTerm s33 ((at_ PTerm.z a2.sub 0).sub), fS 2 Hyp.C s_1 a1, oDTerm s_2 a2.sub, oEt, oCl s_2.blk (s_2.off + Int.toNat 1 * 5) (Term.C (⟨(at_ PTerm.z a2.sub 1).kind, (at_ PTerm.z a2.sub 1).name, (at_ PTerm.z a2.sub 1).other, (at_ PTerm.z a2.sub 1).form, s39⟩ : Term)), oDTerm s39 ((at_ PTerm.z a2.sub 1).sub)] := hT
        refine wd (does_mv_l rfl) ?_
        exact wl_nil (ob4 trivial rfl (by simp only [plus_ne (L := L) (i := 1) (j := 8) rfl, hl8, cond_true, cond_false]; exact S))
      ·rintro L g v hL hcl hclo hT 
       cases hl8 : L 8 with
       | true =>
        simp only [hl8, cond_true, cond_false] at hT
        replace S : St A N w v [oK (some ⟨b4, 0, none⟩) a_0 r40.1, oB b9 T_Nd (Nd.C r5.2), oB b2 T_Term (Term.C (⟨a2.kind, a2.name, a2.other, a2.form, s_2⟩ : Term))] [oDTerm s33 ((at_ PTerm.z a2.sub 0).sub), fS 2 Hyp.C s_1 a1, oDTerm s_2 a2.sub, oEt, oCl s_2.blk (s_2.off + Int.toNat 1 * 5) (Term.C (⟨(at_ PTerm.z a2.sub 1).kind, (at_ PTerm.z a2.sub 1).name, (at_ PTerm.z a2.sub 1).other, (at_ PTerm.z a2.sub 1).form, s39⟩ : Term)), oDTerm s39 ((at_ PTerm.z a2.sub 1).sub)] := hT
        refine wd (does_fieldAddr fl_Term_sub rfl (o' := 4) rfl) ?_
        exact wl_nil (ob4 trivial rfl (by simp only [plus_ne (L := L) (i := 2) (j := 8) rfl, hl8, cond_true, cond_false]; exact S))
       | false =>
        simp only [hl8, cond_true, cond_false] at hT
        replace S : St A N w v [oK (some ⟨b4, 0, none⟩) a_0 r35.1, oB b9 T_Nd (Nd.C r5.2), oB b2 T_Term (Term.C (⟨a2.kind, a2.name, a2.other, a2.form, s_2⟩ : Term))] [oDTerm s33 ((at_ PTerm.z a2.sub 0).sub), fS 2 Hyp.C s_1 a1, oDTerm s_2 a2.sub, oEt, oCl s_2.blk (s_2.off + Int.toNat 1 * 5) (Term.C (⟨(at_ PTerm.z a2.sub 1).kind, (at_ PTerm.z a2.sub 1).name, (at_ PTerm.z a2.sub 1).other, (at_ PTerm.z a2.sub 1).form, s39⟩ : Term)), oDTerm s39 ((at_ PTerm.z a2.sub 1).sub)] := hT
        refine wd (does_fieldAddr fl_Term_sub rfl (o' := 4) rfl) ?_
        exact wl_nil (ob4 trivial rfl (by simp only [plus_ne (L := L) (i := 2) (j := 8) rfl, hl8, cond_true, cond_false]; exact S))
      ·rintro L g v hL hcl hclo hT hv2
       cases hl8 : L 8 with
       | true =>
        simp only [hl8, cond_true, cond_false] at hT
        replace S : St A N w v [oK (some ⟨b4, 0, none⟩) a_0 r40.1, oB b9 T_Nd (Nd.C r5.2), oB b2 T_Term (Term.C (⟨a2.kind, a2.name, a2.other, a2.form, s_2⟩ : Term))] [oDTerm s33 ((at_ PTerm.z a2.sub 0).sub), fS 2 Hyp.C s_1 a1, oDTerm s_2 a2.sub, oEt, oCl s_2.blk (s_2.off + Int.toNat 1 * 5) (Term.C (⟨(at_ PTerm.z a2.sub 1).kind, (at_ PTerm.z a2.sub 1).name, (at_ PTerm.z a2.sub 1).other, (at_ PTerm.z a2.sub 1).form, s39⟩ : Term)), oDTerm s39 ((at_ PTerm.z a2.sub 1).sub)] := hT
        refine wd (does_load on_L_api_Term hv2 ((S.blk 2).cell (Term.get_sub _))) ?_
        exact wl_nil (ob4 trivial rfl (by simp only [plus_ne (L := L) (i := 3) (j := 8) rfl, hl8, cond_true, cond_false]; exact S))
       | false =>
        simp only [hl8, cond_true, cond_false] at hT
        replace S : St A N w v [oK (some ⟨b4, 0, none⟩) a_0 r35.1, oB b9 T_Nd (Nd.C r5.2), oB b2 T_Term (Term.C (⟨a2.kind, a2.name, a2.other, a2.form, s_2⟩ : Term))] [oDTerm s33 ((at_ PTerm.z a2.sub 0).sub), fS 2 Hyp.C s_1 a1, oDTerm s_2 a2.sub, oEt, oCl s_2.blk (s_2.off + Int.toNat 1 * 5) (Term.C (⟨(at_ PTerm.z a2.sub 1).kind, (at_ PTerm.z a2.sub 1).name, (at_ PTerm.z a2.sub 1).other, (at_ PTerm.z a2.sub 1).form, s39⟩ : Term)), oDTerm s39 ((at_ PTerm.z a2.sub 1).sub)] := hT
        refine wd (does_load on_L_api_Term hv2 ((S.blk 2).cell (Term.get_sub _))) ?_
        exact wl_nil (ob4 trivial rfl (by simp only [plus_ne (L := L) (i := 3) (j := 8) rfl, hl8, cond_true, cond_false]; exact S))
      ·rintro L g v hL hcl hclo hT hv3
       cases hl8 : L 8 with
       | true =>
        simp only [hl8, cond_true, cond_false] at hT
        replace S : St A N w v [oK (some ⟨b4, 0, none⟩) a_0 r40.1, oB b9 T_Nd (Nd.C r5.2), oB b2 T_Term (Term.C (⟨a2.kind, a2.name, a2.other, a2.form, s_2⟩ : Term))] [oDTerm s33 ((at_ PTerm.z a2.sub 0).sub), fS 2 Hyp.C s_1 a1, oDTerm s_2 a2.sub, oEt, oCl s_2.blk (s_2.off + Int.toNat 1 * 5) (Term.C (⟨(at_ PTerm.z a2.sub 1).kind, (at_ PTerm.z a2.sub 1).name, (at_ PTerm.z a2.sub 1).other, (at_ PTerm.z a2.sub 1).form, s39⟩ : Term)), oDTerm s39 ((at_ PTerm.z a2.sub 1).sub)] := hT
        refine wd (does_indexF sl_L_api_Term hv3 rfl (S.onZ 2) (inb_ex hi38).1 (inb_ex hi38).2) ?_
        exact wl_nil (ob4 trivial rfl (by simp only [plus_ne (L := L) (i := 4) (j := 8) rfl, hl8, cond_true, cond_false]; exact S))
       | false =>
        simp only [hl8, cond_true, cond_false] at hT
        replace S : St A N w v [oK (some ⟨b4, 0, none⟩) a_0 r35.1, oB b9 T_Nd (Nd.C r5.2), oB b2 T_Term (Term.C (⟨a2.kind, a2.name, a2.other, a2.form, s_2⟩ : Term))] [oDTerm s33 ((at_ PTerm.z a2.sub 0).sub), fS 2 Hyp.C s_1 a1, oDTerm s_2 a2.sub, oEt, oCl s_2.blk (s_2.off + Int.toNat 1 * 5) (Term.C (⟨(at_ PTerm.z a2.sub 1).kind, (at_ PTerm.z a2.sub 1).name, (at_ PTerm.z a2.sub 1).other, (at_ PTerm.z a2.sub 1).form, s39⟩ : Term)), oDTerm s39 ((at_ PTerm.z a2.sub 1).sub)] := hT
        refine wd (does_indexF sl_L_api_Term hv3 rfl (S.onZ 2) (inb_ex hi38).1 (inb_ex hi38).2) ?_
        exact wl_nil (ob4 trivial rfl (by simp only [plus_ne (L := L) (i := 4) (j := 8) rfl, hl8, cond_true, cond_false]; exact S))
      ·rintro L g v hL hcl hclo hT hv4
       cases hl8 : L 8 with
       | true =>
        simp only [hl8, cond_true, cond_false] at hT
        replace S : St A N w v [oK (some ⟨b4, 0, none⟩) a_0 r40.1, oB b9 T_Nd (Nd.C r5.2), oB b2 T_Term (Term.C (⟨a2.kind, a2.name, a2.other, a2.form, s_2⟩ : Term))] [oDTerm s33 ((at_ PTerm.z a2.sub 0).sub), fS 2 Hyp.C s_1 a1, oDTerm s_2 a2.sub, oEt, oCl s_2.blk (s_2.off + Int.toNat 1 * 5) (Term.C (⟨(at_ PTerm.z a2.sub 1).kind, (at_ PTerm.z a2.sub 1).name, (at_ PTerm.z a2.sub 1).other, (at_ PTerm.z a2.sub 1).form, s39⟩ : Term)), oDTerm s39 ((at_ PTerm.z a2.sub 1).sub)] := hT
        refine wd (does_load_agg ag_Term hv4 (S.cl 4) (Term.len _)) ?_
        exact wl_nil (ob4 trivial rfl (by simp only [plus_ne (L := L) (i := 5) (j := 8) rfl, hl8, cond_true, cond_false]; exact S))
       | false =>
        simp only [hl8, cond_true, cond_false] at hT
        replace S : St A N w v [oK (some ⟨b4, 0, none⟩) a_0 r35.1, oB b9 T_Nd (Nd.C r5.2), oB b2 T_Term (Term.C (⟨a2.kind, a2.name, a2.other, a2.form, s_2⟩ : Term))] [oDTerm s33 ((at_ PTerm.z a2.sub 0).sub), fS 2 Hyp.C s_1 a1, oDTerm s_2 a2.sub, oEt, oCl s_2.blk (s_2.off + Int.toNat 1 * 5) (Term.C (⟨(at_ PTerm.z a2.sub 1).kind, (at_ PTerm.z a2.sub 1).name, (at_ PTerm.z a2.sub 1).other, (at_ PTerm.z a2.sub 1).form, s39⟩ : Term)), oDTerm s39 ((at_ PTerm.z a2.sub 1).sub)] := hT
        refine wd (does_load_agg ag_Term hv4 (S.cl 4) (Term.len _)) ?_
        exact wl_nil (ob4 trivial rfl (by simp only [plus_ne (L := L) (i := 5) (j := 8) rfl, hl8, cond_true, cond_false]; exact S))
      ·rintro L g v hL hcl hclo hT 
       have hl8 : L 8 = false := by cases h : L 8 with | false => rfl | true => exact absurd (hclo 8 6 h (by kernel_rfl)) (by rw [hL]; decide)
       simp only [hl8, cond_true, cond_false] at hT
       replace S : St A N w v [oK (some ⟨b4, 0, none⟩) a_0 r35.1, oB b9 T_Nd (Nd.C r5.2), oB b2 T_Term (Term.C (⟨a2.kind, a2.name, a2.other, a2.form, s_2⟩ : Term))] [oDTerm s33 ((at_ PTerm.z a2.sub 0).sub), fS 2 Hyp.C s_1 a1, oDTerm s_2 a2.sub, oEt, oCl s_2.blk (s_2.off + Int.toNat 1 * 5) (Term.C (⟨(at_ PTerm.z a2.sub 1).kind, (at_ PTerm.z a2.sub 1).name, (at_ PTerm.z a2.sub 1).other, (at_ PTerm.z a2.sub 1).form, s39⟩ : Term)), oDTerm s39 ((at_ PTerm.z a2.sub 1).sub)] := hT
       refine wd (does_mv_p rfl) ?_
       exact wl_nil (ob4 trivial rfl (by simp only [plus_ne (L := L) (i := 6) (j := 8) rfl, hl8, cond_true, cond_false]; exact S))
      ·rintro L g v hL hcl hclo hT 
       have hl8 : L 8 = false := by cases h : L 8 with | false => rfl | true => exact absurd (hclo 8 7 h (by kernel_rfl)) (by rw [hL]; decide)
       simp only [hl8, cond_true, cond_false] at hT
       replace S : St A N w v [oK (some ⟨b4, 0, none⟩) a_0 r35.1, oB b9 T_Nd (Nd.C r5.2), oB b2 T_Term (Term.C (⟨a2.kind, a2.name, a2.other, a2.form, s_2⟩ : Term))] [oDTerm s33 ((at_ PTerm.z a2.sub 0).sub), fS 2 Hyp.C s_1 a1, oDTerm s_2 a2.sub, oEt, oCl s_2.blk (s_2.off + Int.toNat 1 * 5) (Term.C (⟨(at_ PTerm.z a2.sub 1).kind, (at_ PTerm.z a2.sub 1).name, (at_ PTerm.z a2.sub 1).other, (at_ PTerm.z a2.sub 1).form, s39⟩ : Term)), oDTerm s39 ((at_ PTerm.z a2.sub 1).sub)] := hT
       refine wd (does_mv_i rfl) ?_
       exact wl_nil (ob4 trivial rfl (by simp only [plus_ne (L := L) (i := 7) (j := 8) rfl, hl8, cond_true, cond_false]; exact S))
      ·rintro L g v hL hcl hclo hT hv6 hv7
       have hl8 : L 8 = false := hL
       simp only [hl8, cond_true, cond_false] at hT
       replace S : St A N w v [oK (some ⟨b4, 0, none⟩) a_0 r35.1, oB b9 T_Nd (Nd.C r5.2), oB b2 T_Term (Term.C (⟨a2.kind, a2.name, a2.other, a2.form, s_2⟩ : Term))] [oDTerm s33 ((at_ PTerm.z a2.sub 0).sub), fS 2 Hyp.C s_1 a1, oDTerm s_2 a2.sub, oEt, oCl s_2.blk (s_2.off + Int.toNat 1 * 5) (Term.C (⟨(at_ PTerm.z a2.sub 1).kind, (at_ PTerm.z a2.sub 1).name, (at_ PTerm.z a2.sub 1).other, (at_ PTerm.z a2.sub 1).form, s39⟩ : Term)), oDTerm s39 ((at_ PTerm.z a2.sub 1).sub)] := hT
       obtain ⟨B47, MB47, SB47, back⟩ := S.calln 1 ((.nil))
       refine wl_call (does_callg ca_hilbert_maker_node (cons2 hv6 (cons2 hv7 rfl))) (by decide) (hilbert_maker_node_st SB47 er40) ?_
       rintro _ w46 ⟨rfl, S2⟩
       replace S := back _ _ _ _ S2 rfl
       clear back S2 SB47
       exact wl_nil (ob4 trivial rfl (by simp only [plus_self (L := L) (i := 8), cond_true, cond_false]; exact S))
      ·rintro L g v hL hcl hclo hT hv8
       have hl8 : L 8 = true := hcl 8 (by kernel_rfl)
       simp only [hl8, cond_true, cond_false] at hT
       replace S : St A N w v [oK (some ⟨b4, 0, none⟩) a_0 r40.1, oB b9 T_Nd (Nd.C r5.2), oB b2 T_Term (Term.C (⟨a2.kind, a2.name, a2.other, a2.form, s_2⟩ : Term))] [oDTerm s33 ((at_ PTerm.z a2.sub 0).sub), fS 2 Hyp.C s_1 a1, oDTerm s_2 a2.sub, oEt, oCl s_2.blk (s_2.off + Int.toNat 1 * 5) (Term.C (⟨(at_ PTerm.z a2.sub 1).kind, (at_ PTerm.z a2.sub 1).name, (at_ PTerm.z a2.sub 1).other, (at_ PTerm.z a2.sub 1).form, s39⟩ : Term)), oDTerm s39 ((at_ PTerm.z a2.sub 1).sub)] := hT
       refine wd (does_field fv_Nd_l on_int hv8 (Nd.get_l _)) ?_
       exact wl_nil (ob4 trivial rfl (by simp only [plus_ne (L := L) (i := 9) (j := 8) rfl, hl8, cond_true, cond_false]; exact S))
      rintro L g w48 hLm hT hv49_0 hv49_1 hv49_2 hv49_3 hv49_4 hv49_5 hv49_6 hv49_7 hv49_8 hv49_9
      have hLt : ∀ j, j < 10 → L j = true := fun j hj => by rw [hLm]; exact decide_eq_true hj
      simp only [hLt 8 (by decide), cond_true] at hT
      replace S : St A N w w48 [oK (some ⟨b4, 0, none⟩) a_0 r40.1, oB b9 T_Nd (Nd.C r5.2), oB b2 T_Term (Term.C (⟨a2.kind, a2.name, a2.other, a2.form, s_2⟩ : Term))] [oDTerm s33 ((at_ PTerm.z a2.sub 0).sub), fS 2 Hyp.C s_1 a1, oDTerm s_2 a2.sub, oEt, oCl s_2.blk (s_2.off + Int.toNat 1 * 5) (Term.C (⟨(at_ PTerm.z a2.sub 1).kind, (at_ PTerm.z a2.sub 1).name, (at_ PTerm.z a2.sub 1).other, (at_ PTerm.z a2.sub 1).form, s39⟩ : Term)), oDTerm s39 ((at_ PTerm.z a2.sub 1).sub)] := hT
      replace S := S
      obtain ⟨r50, er50, H⟩ := bind_ex H
      obtain ⟨B52, MB52, SB52, back⟩ := S.calln 1 ((.z 1 rfl (.z 5 rfl (.z 3 rfl .nil))))
      refine wl_call (does_callg ca_hilbert_maker_part (cons2 hv49_0 (cons2 hv49_1 (cons2 hv49_5 (cons2 hv49_9 rfl))))) (by decide) (hilbert_maker_part_gst hrec_hilbert_compile (a2 := (at_ PTerm.z a2.sub 1)) SB52 er50) ?_
      rintro _ w51 ⟨rfl, S2⟩
      replace S := back _ _ _ _ S2 rfl
      clear back S2 SB52
      refine wd (does_as_i rfl) (wl_nil (wc_region (wd (does_mv_p rfl) (wd (does_mv_i rfl) (wd (does_mv_i rfl) ?_)))))
      obtain ⟨r53, er53, H⟩ := bind_ex H
      obtain ⟨B55, MB55, SB55, back⟩ := S.calln 1 ((.nil))
      refine wl_call (does_call ca_hilbert_maker_mp) (by decide) (hilbert_maker_mp_st SB55 er53) ?_
      rintro _ w54 ⟨rfl, S2⟩
      replace S := back _ _ _ _ S2 rfl
      clear back S2 SB55
      refine wl_nil ?_
      replace S := S.arr [1, 0, 2] [1, 2, 3]
      obtain rfl := Option.some.inj H
      exact ⟨rfl, ((((((((((((((((((((((((((((Dif.refl _ _).upd rfl _).upd rfl _).upd rfl _).upd rfl _).upd rfl _).upd rfl _).upd rfl _).upd rfl _).upd rfl _).upd rfl _).upd rfl _).upd rfl _).upd rfl _).upd rfl _).upd rfl _).upd rfl _).upd rfl _).upd rfl _).upd rfl _).upd rfl _).mask rfl _).upd rfl _).upd rfl _).upd rfl _).upd rfl _).upd rfl _).upd rfl _), S⟩
     ·replace H := if_f hc31 H
      refine wc_seq (wc_region (wd (does_eq rfl rfl) (wd (does_as_b rfl) (wl_nil ?_))))
      refine wc_if rfl (fun hc56 => ?_) (fun hc56 => ?_)
      ·replace H := if_t hc56 H
       refine wc_seq ?_
       refine wc_quiet 8 (Ext w10) hmix (by kernel_rfl) (by kernel_rfl) (Ext.drawn _) (wq_does (fun v K => does_mv_p rfl) (wq_does (fun v K => does_mv_l rfl) (wq_does (fun v K => does_fieldAddr fl_Term_sub rfl (o' := 4) rfl) (wq_does (fun v K => does_load on_L_api_Term rfl (((S.ext K).blk 2).cell (Term.get_sub _))) ?_))))
       obtain ⟨hi57, H⟩ := chk_ex H
       refine wq_does (fun v K => does_indexF sl_L_api_Term rfl rfl ((S.ext K).onZ 1) (inb_ex hi57).1 (inb_ex hi57).2) ?_
       obtain ⟨s58, hc59, S⟩ := S.viewTerm 1 (inb_ex hi57)
       replace S := S
       refine wq_does (fun v K => does_load_agg ag_Term rfl (hc59.chg K (fun x => x)) (Term.len _)) (wq_does (fun v K => does_fieldAddr fl_Nd_l rfl (o' := 2) rfl) (wq_does (fun v K => does_load on_int rfl (((S.ext K).blk 0).cell (Nd.get_l _))) ?_))
       refine wq_nil fun w60 K => ?_
       replace S := S.ext K
       clear K
       obtain ⟨r61, er61, H⟩ := bind_ex H
       replace S := S.front 1
       obtain ⟨B63, MB63, SB63, back⟩ := S.calln 1 ((.z 1 rfl (.z 0 rfl (.z 3 rfl .nil))))
       refine wl_call (does_call ca_hilbert_maker_part) (by decide) (hilbert_maker_part_gst hrec_hilbert_compile (a2 := (at_ PTerm.z a2.sub 0)) SB63 er61) ?_
       rintro _ w62 ⟨rfl, S2⟩
       replace S := back _ _ _ _ S2 rfl
       clear back S2 SB63
       refine wd (does_as_i rfl) (wl_nil (wc_seq ?_))
       refine wc_quiet 8 (Ext w62) hmix (by kernel_rfl) (by kernel_rfl) (Ext.drawn _) (wq_does (fun v K => does_mv_p rfl) (wq_does (fun v K => does_mv_l rfl) (wq_does (fun v K => does_fieldAddr fl_Term_sub rfl (o' := 4) rfl) (wq_does (fun v K => does_load on_L_api_Term rfl (((S.ext K).blk 2).cell (Term.get_sub _))) ?_))))
       obtain ⟨hi64, H⟩ := chk_ex H
       refine wq_does (fun v K => does_indexF sl_L_api_Term rfl rfl ((S.ext K).onZ 2) (inb_ex hi64).1 (inb_ex hi64).2) ?_
       obtain ⟨s65, hc66, S⟩ := S.viewTerm 2 (inb_ex hi64)
       replace S := S
       refine wq_does (fun v K => does_load_agg ag_Term rfl (hc66.chg K (fun x => x)) (Term.len _)) (wq_does (fun v K => does_fieldAddr fl_Nd_r rfl (o' := 3) rfl) (wq_does (fun v K => does_load on_int rfl (((S.ext K).blk 1).cell (Nd.get_r _))) ?_))
       refine wq_nil fun w67 K => ?_
       replace S := S.ext K
       clear K
       obtain ⟨r68, er68, H⟩ := bind_ex H
       obtain ⟨B70, MB70, SB70, back⟩ := S.calln 1 ((.z 2 rfl (.z 0 rfl (.z 4 rfl .nil))))
       refine wl_call (does_call ca_hilbert_maker_part) (by decide) (hilbert_maker_part_gst hrec_hilbert_compile (a2 := (at_ PTerm.z a2.sub 1)) SB70 er68) ?_
       rintro _ w69 ⟨rfl, S2⟩
       replace S := back _ _ _ _ S2 rfl
       clear back S2 SB70
       refine wd (does_as_i rfl) (wl_nil (wc_seq ?_))
       obtain ⟨r71, er71, H⟩ := bind_ex H
       obtain ⟨r74, er74, H⟩ := bind_ex H
       refine wc_draw5 10 ⟨fun _ _ => True, fun _ _ _ => True, fun i v _ => match i with
        | 0 => v = Value.pointer (some ⟨b4, 0, none⟩)
        | 1 => v = Value.pointer (some ⟨b4, 0, none⟩)
        | 2 => v = Value.pointer (some ⟨b9, 2, none⟩)
        | 3 => v = Value.int .i64 r5.2.l
        | 4 => v = Value.pointer (some ⟨b4, 0, none⟩)
        | 5 => v = Value.pointer (some ⟨b9, 3, none⟩)
        | 6 => v = Value.int .i64 r5.2.r
        | 7 => v = Value.int .i64 a3
        | 8 => v = Value.int .i64 r71.2
        | 9 => v = Value.int .i64 r74.2
        | _ => True⟩ (fun L g v => bif L 9 then (St A N w v [oK (some ⟨b4, 0, none⟩) a_0 r74.1, oB b9 T_Nd (Nd.C r5.2), oB b2 T_Term (Term.C (⟨a2.kind, a2.name, a2.other, a2.form, s_2⟩ : Term))] [oDTerm s65 ((at_ PTerm.z a2.sub 1).sub), oDTerm s58 ((at_ PTerm.z a2.sub 0).sub), fS 2 Hyp.C s_1 a1, oDTerm s_2 a2.sub, oEt]) else bif L 8 then (St A N w v [oK (some ⟨b4, 0, none⟩) a_0 r71.1, oB b9 T_Nd (Nd.C r5.2), oB b2 T_Term (Term.C (⟨a2.kind, a2.name, a2.other, a2.form, s_2⟩ : Term))] [oDTerm s65 ((at_ PTerm.z a2.sub 1).sub), oDTerm s58 ((at_ PTerm.z a2.sub 0).sub), fS 2 Hyp.C s_1 a1, oDTerm s_2 a2.sub, oEt]) else (St A N w v [oK (some ⟨b4, 0, none⟩) a_0 r68.1, oB b9 T_Nd (Nd.C r5.2), oB b2 T_Term (Term.C (⟨a2.kind, a2.name, a2.other, a2.form, s_2⟩ : Term))] [oDTerm s65 ((at_ PTerm.z a2.sub 1).sub), oDTerm s58 ((at_ PTerm.z a2.sub 0).sub), fS 2 Hyp.C s_1 a1, oDTerm s_2 a2.sub, oEt])) hmix (by kernel_rfl) (fun _ _ _ _ _ _ _ hv => hv) (fun g => S.ext (Ext.drawn _)) ⟨?_, ?_, ?_, ?_, ?_, ?_, ?_, ?_, ?_, ?_, trivial⟩ ?_
       ·rintro L g v hL hcl hclo hT 
        cases hl9 : L 9 with
        | true =>
         simp only [hl9, cond_true, cond_false] at hT
         replace S : St A N w v [oK (some ⟨b4, 0, none⟩) a_0 r74.1, oB b9 T_Nd (Nd.C r5.2), oB b2 T_Term (Term.C (⟨a2.kind, a2.name, a2.other, a2.form, s_2⟩ : Term))] [oDTerm s65 ((at_ PTerm.z a2.sub 1).sub), oDTerm s58 ((at_ PTerm.z a2.sub 0).sub), fS 2 Hyp.C s_1 a1, oDTerm s_2 a2.sub, oEt] := hT
         refine wd (does_mv_p rfl) ?_
         exact wl_nil (ob4 trivial rfl (by simp only [plus_ne (L := L) (i := 0) (j := 8) rfl, plus_ne (L := L) (i := 0) (j := 9) rfl, hl9, cond_true, cond_false]; exact S))
        | false =>
         cases hl8 : L 8 with
         | true =>
          simp only [hl8, hl9, cond_true, cond_false] at hT
          replace S : St A N w v [oK (some ⟨b4, 0, none⟩) a_0 r71.1, oB b9 T_Nd (Nd.C r5.2), oB b2 T_Term (Term.C (⟨a2.kind, a2.name, a2.other, a2.form, s_2⟩ : Term))] [oDTerm s65 ((at_ PTerm.z a2.sub 1).sub), oDTerm s58 ((at_ PTerm.z a2.sub 0).sub), fS 2 Hyp.C s_1 a1, oDTerm s_2 a2.sub, oEt] := hT
          refine wd (does_mv_p rfl) ?_
          exact wl_nil (ob4 trivial rfl (by simp only [plus_ne (L := L) (i := 0) (j := 8) rfl, plus_ne (L := L) (i := 0) (j := 9) rfl, hl8, hl9, cond_true, cond_false]; exact S))
         | false =>
          simp only [hl8, hl9, cond_true, cond_false] at hT
          replace S : St A N w v [oK (some ⟨b4, 0, none⟩) a_0 r68.1, oB b9 T_Nd (Nd.C r5.2), oB b2 T_Term (Term.C (⟨a2.kind, a2.name, a2.other, a2.form, s_2⟩ : Term))] [oDTerm s65 ((at_ PTerm.z a2.sub 1).sub), oDTerm s58 ((at_ PTerm.z a2.sub 0).sub), fS 2 Hyp.C s_1 a1, oDTerm s_2 a2.sub, oEt] := hT
          refine wd (does_mv_p rfl) ?_
          exact wl_nil (ob4 trivial rfl (by simp only [plus_ne (L := L) (i := 0) (j := 8) rfl, plus_ne (L := L) (i := 0) (j := 9) rfl, hl8, hl9, cond_true, cond_false]; exact S))
       ·rintro L g v hL hcl hclo hT 
        have hl9 : L 9 = false := by cases h : L 9 with | false => rfl | true => exact absurd (hclo 9 1 h (by kernel_rfl)) (by rw [hL]; decide)
        cases hl8 : L 8 with
        | true =>
         simp only [hl8, hl9, cond_true, cond_false] at hT
         replace S : St A N w v [oK (some ⟨b4, 0, none⟩) a_0 r71.1, oB b9 T_Nd (Nd.C r5.2), oB b2 T_Term (Term.C (⟨a2.kind, a2.name, a2.other, a2.form, s_2⟩ : Term))] [oDTerm s65 ((at_ PTerm.z a2.sub 1).sub), oDTerm s58 ((at_ PTerm.z a2.sub 0).sub), fS 2 Hyp.C s_1 a1, oDTerm s_2 a2.sub, oEt] := hT
         refine wd (does_mv_p rfl) ?_
         exact wl_nil (ob4 trivial rfl (by simp only [plus_ne (L := L) (i := 1) (j := 8) rfl, plus_ne (L := L) (i := 1) (j := 9) rfl, hl8, hl9, cond_true, cond_false]; exact S))
        | false =>
         simp only [hl8, hl9, cond_true, cond_false] at hT
         replace S : St A N w v [oK (some ⟨b4, 0, none⟩) a_0 r68.1, oB b9 T_Nd (Nd.C r5.2), oB b2 T_Term (Term.C (⟨a2.kind, a2.name, a2.other, a2.form, s_2⟩ : Term))] [oDTerm s65 ((at_ PTerm.z a2.sub 1).sub), oDTerm s58 ((at_ PTerm.z a2.sub 0).sub), fS 2 Hyp.C s_1 a1, oDTerm s_2 a2.sub, oEt] := hT
         refine wd (does_mv_p rfl) ?_
         exact wl_nil (ob4 trivial rfl (by simp only [plus_ne (L := L) (i := 1) (j := 8) rfl, plus_ne (L := L) (i := 1) (j := 9) rfl, hl8, hl9, cond_true, cond_false]; exact S))
       ·rintro L g v hL hcl hclo hT 
        have hl9 : L 9 = false := by cases h : L 9 with | false => rfl | true => exact absurd (hclo 9 2 h (by kernel_rfl)) (by rw [hL]; decide)
        cases hl8 : L 8 with
        | true =>
         simp only [hl8, hl9, cond_true, cond_false] at hT
         replace S : St A N w v [oK (some ⟨b4, 0, none⟩) a_0 r71.1, oB b9 T_Nd (Nd.C r5.2), oB b2 T_Term (Term.C (⟨a2.kind, a2.name, a2.other, a2.form, s_2⟩ : Term))] [oDTerm s65 ((at_ PTerm.z a2.sub 1).sub), oDTerm s58 ((at_ PTerm.z a2.sub 0).sub), fS 2 Hyp.C s_1 a1, oDTerm s_2 a2.sub, oEt] := hT
         refine wd (does_fieldAddr fl_Nd_l rfl (o' := 2) rfl) ?_
         exact wl_nil (ob4 trivial rfl (by simp only [plus_ne (L := L) (i := 2) (j := 8) rfl, plus_ne (L := L) (i := 2) (j := 9) rfl, hl8, hl9, cond_true, cond_false]; exact S))
        | false =>
         simp only [hl8, hl9, cond_true, cond_false] at hT
         replace S : St A N w v [oK (some ⟨b4, 0, none⟩) a_0 r68.1, oB b9 T_Nd (Nd.C r5.2), oB b2 T_Term (Term.C (⟨a2.kind, a2.name, a2.other, a2.form, s_2⟩ : Term))] [oDTerm s65 ((at_ PTerm.z a2.sub 1).sub), oDTerm s58 ((at_ PTerm.z a2.sub 0).sub), fS 2 Hyp.C s_1 a1, oDTerm s_2 a2.sub, oEt] := hT
         refine wd (does_fieldAddr fl_Nd_l rfl (o' := 2) rfl) ?_
         exact wl_nil (ob4 trivial rfl (by simp only [plus_ne (L := L) (i := 2) (j := 8) rfl, plus_ne (L := L) (i := 2) (j := 9) rfl, hl8, hl9, cond_true, cond_false]; exact S))
       ·rintro L g v hL hcl hclo hT hv2
        have hl9 : L 9 = false := by cases h : L 9 with | false => rfl | true => exact absurd (hclo 9 3 h (by kernel_rfl)) (by rw [hL]; decide)
        cases hl8 : L 8 with
        | true =>
         simp only [hl8, hl9, cond_true, cond_false] at hT
         replace S : St A N w v [oK (some ⟨b4, 0, none⟩) a_0 r71.1, oB b9 T_Nd (Nd.C r5.2), oB b2 T_Term (Term.C (⟨a2.kind, a2.name, a2.other, a2.form, s_2⟩ : Term))] [oDTerm s65 ((at_ PTerm.z a2.sub 1).sub), oDTerm s58 ((at_ PTerm.z a2.sub 0).sub), fS 2 Hyp.C s_1 a1, oDTerm s_2 a2.sub, oEt] := hT
         refine wd (does_load on_int hv2 ((S.blk 1).cell (Nd.get_l _))) ?_
         exact wl_nil (ob4 trivial rfl (by simp only [plus_ne (L := L) (i := 3) (j := 8) rfl, plus_ne (L := L) (i := 3) (j := 9) rfl, hl8, hl9, cond_true, cond_false]; exact S))
        | false =>
         simp only [hl8, hl9, cond_true, cond_false] at hT
         replace S : St A N w v [oK (some ⟨b4, 0, none⟩) a_0 r68.1, oB b9 T_Nd (Nd.C r5.2), oB b2 T_Term (Term.C (⟨a2.kind, a2.name, a2.other, a2.form, s_2⟩ : Term))] [oDTerm s65 ((at_ PTerm.z a2.sub 1).sub), oDTerm s58 ((at_ PTerm.z a2.sub 0).sub), fS 2 Hyp.C s_1 a1, oDTerm s_2 a2.sub, oEt] := hT
         refine wd (does_load on_int hv2 ((S.blk 1).cell (Nd.get_l _))) ?_
         exact wl_nil (ob4 trivial rfl (by simp only [plus_ne (L := L) (i := 3) (j := 8) rfl, plus_ne (L := L) (i := 3) (j := 9) rfl, hl8, hl9, cond_true, cond_false]; exact S))
       ·rintro L g v hL hcl hclo hT 
        have hl8 : L 8 = false := by cases h : L 8 with | false => rfl | true => exact absurd (hclo 8 4 h (by kernel_rfl)) (by rw [hL]; decide)
        have hl9 : L 9 = false := by cases h : L 9 with | false => rfl | true => exact absurd (hclo 9 4 h (by kernel_rfl)) (by rw [hL]; decide)
        simp only [hl8, hl9, cond_true, cond_false] at hT
        replace S : St A N w v [oK (some ⟨b4, 0, none⟩) a_0 r68.1, oB b9 T_Nd (Nd.C r5.2), oB b2 T_Term (Term.C (⟨a2.kind, a2.name, a2.other, a2.form, s_2⟩ : Term))] [oDTerm s65 ((at_ PTerm.z a2.sub 1).sub), oDTerm s58 ((at_ PTerm.z a2.sub 0).sub), fS 2 Hyp.C s_1 a1, oDTerm s_2 a2.sub, oEt] := hT
        refine wd (does_mv_p rfl) ?_
        exact wl_nil (ob4 trivial rfl (by simp only [plus_ne (L := L) (i := 4) (j := 8) rfl, plus_ne (L := L) (i := 4) (j := 9) rfl, hl8, hl9, cond_true, cond_false]; exact S))
       ·rintro L g v hL hcl hclo hT 
        have hl8 : L 8 = false := by cases h : L 8 with | false => rfl | true => exact absurd (hclo 8 5 h (by kernel_rfl)) (by rw [hL]; decide)
        have hl9 : L 9 = false := by cases h : L 9 with | false => rfl | true => exact absurd (hclo 9 5 h (by kernel_rfl)) (by rw [hL]; decide)
        simp only [hl8, hl9, cond_true, cond_false] at hT
        replace S : St A N w v [oK (some ⟨b4, 0, none⟩) a_0 r68.1, oB b9 T_Nd (Nd.C r5.2), oB b2 T_Term (Term.C (⟨a2.kind, a2.name, a2.other, a2.form, s_2⟩ : Term))] [oDTerm s65 ((at_ PTerm.z a2.sub 1).sub), oDTerm s58 ((at_ PTerm.z a2.sub 0).sub), fS 2 Hyp.C s_1 a1, oDTerm s_2 a2.sub, oEt] := hT
        refine wd (does_fieldAddr fl_Nd_r rfl (o' := 3) rfl) ?_
        exact wl_nil (ob4 trivial rfl (by simp only [plus_ne (L := L) (i := 5) (j := 8) rfl, plus_ne (L := L) (i := 5) (j := 9) rfl, hl8, hl9, cond_true, cond_false]; exact S))
       ·rintro L g v hL hcl hclo hT hv5
        have hl8 : L 8 = false := by cases h : L 8 with | false => rfl | true => exact absurd (hclo 8 6 h (by kernel_rfl)) (by rw [hL]; decide)
        have hl9 : L 9 = false := by cases h : L 9 with | false => rfl | true => exact absurd (hclo 9 6 h (by kernel_rfl)) (by rw [hL]; decide)
        simp only [hl8, hl9, cond_true, cond_false] at hT
        replace S : St A N w v [oK (some ⟨b4, 0, none⟩) a_0 r68.1, oB b9 T_Nd (Nd.C r5.2), oB b2 T_Term (Term.C (⟨a2.kind, a2.name, a2.other, a2.form, s_2⟩ : Term))] [oDTerm s65 ((at_ PTerm.z a2.sub 1).sub), oDTerm s58 ((at_ PTerm.z a2.sub 0).sub), fS 2 Hyp.C s_1 a1, oDTerm s_2 a2.sub, oEt] := hT
        refine wd (does_load on_int hv5 ((S.blk 1).cell (Nd.get_r _))) ?_
        exact wl_nil (ob4 trivial rfl (by simp only [plus_ne (L := L) (i := 6) (j := 8) rfl, plus_ne (L := L) (i := 6) (j := 9) rfl, hl8, hl9, cond_true, cond_false]; exact S))
       ·rintro L g v hL hcl hclo hT 
        have hl8 : L 8 = false := by cases h : L 8 with | false => rfl | true => exact absurd (hclo 8 7 h (by kernel_rfl)) (by rw [hL]; decide)
        have hl9 : L 9 = false := by cases h : L 9 with | false => rfl | true => exact absurd (hclo 9 7 h (by kernel_rfl)) (by rw [hL]; decide)
        simp only [hl8, hl9, cond_true, cond_false] at hT
        replace S : St A N w v [oK (some ⟨b4, 0, none⟩) a_0 r68.1, oB b9 T_Nd (Nd.C r5.2), oB b2 T_Term (Term.C (⟨a2.kind, a2.name, a2.other, a2.form, s_2⟩ : Term))] [oDTerm s65 ((at_ PTerm.z a2.sub 1).sub), oDTerm s58 ((at_ PTerm.z a2.sub 0).sub), fS 2 Hyp.C s_1 a1, oDTerm s_2 a2.sub, oEt] := hT
        refine wd (does_mv_i rfl) ?_
        exact wl_nil (ob4 trivial rfl (by simp only [plus_ne (L := L) (i := 7) (j := 8) rfl, plus_ne (L := L) (i := 7) (j := 9) rfl, hl8, hl9, cond_true, cond_false]; exact S))
       ·rintro L g v hL hcl hclo hT hv4 hv6 hv7
        have hl8 : L 8 = false := hL
        have hl9 : L 9 = false := by cases h : L 9 with | false => rfl | true => exact absurd (hclo 9 8 h (by kernel_rfl)) (by rw [hL]; decide)
        simp only [hl8, hl9, cond_true, cond_false] at hT
        replace S : St A N w v [oK (some ⟨b4, 0, none⟩) a_0 r68.1, oB b9 T_Nd (Nd.C r5.2), oB b2 T_Term (Term.C (⟨a2.kind, a2.name, a2.other, a2.form, s_2⟩ : Term))] [oDTerm s65 ((at_ PTerm.z a2.sub 1).sub), oDTerm s58 ((at_ PTerm.z a2.sub 0).sub), fS 2 Hyp.C s_1 a1, oDTerm s_2 a2.sub, oEt] := hT
        obtain ⟨B79, MB79, SB79, back⟩ := S.calln 1 ((.nil))
        refine wl_call (does_callg ca_hilbert_maker_imp (cons2 hv4 (cons2 hv6 (cons2 hv7 rfl)))) (by decide) (hilbert_maker_imp_st SB79 er71) ?_
        rintro _ w78 ⟨rfl, S2⟩
        replace S := back _ _ _ _ S2 rfl
        clear back S2 SB79
        exact wl_nil (ob4 trivial rfl (by simp only [plus_ne (L := L) (i := 8) (j := 9) rfl, plus_self (L := L) (i := 8), hl9, cond_true, cond_false]; exact S))
       ·rintro L g v hL hcl hclo hT hv1 hv3 hv8
        have hl8 : L 8 = true := hcl 8 (by kernel_rfl)
        have hl9 : L 9 = false := hL
        simp only [hl8, hl9, cond_true, cond_false] at hT
        replace S : St A N w v [oK (some ⟨b4, 0, none⟩) a_0 r71.1, oB b9 T_Nd (Nd.C r5.2), oB b2 T_Term (Term.C (⟨a2.kind, a2.name, a2.other, a2.form, s_2⟩ : Term))] [oDTerm s65 ((at_ PTerm.z a2.sub 1).sub), oDTerm s58 ((at_ PTerm.z a2.sub 0).sub), fS 2 Hyp.C s_1 a1, oDTerm s_2 a2.sub, oEt] := hT
        obtain ⟨B82, MB82, SB82, back⟩ := S.calln 1 ((.nil))
        refine wl_call (does_callg ca_hilbert_maker_imp (cons2 hv1 (cons2 hv3 (cons2 hv8 rfl)))) (by decide) (hilbert_maker_imp_st SB82 er74) ?_
        rintro _ w81 ⟨rfl, S2⟩
        replace S := back _ _ _ _ S2 rfl
        clear back S2 SB82
        exact wl_nil (ob4 trivial rfl (by simp only [plus_ne (L := L) (i := 9) (j := 8) rfl, plus_self (L := L) (i := 9), cond_true, cond_false]; exact S))
       rintro L g w83 hLm hT hv84_0 hv84_1 hv84_2 hv84_3 hv84_4 hv84_5 hv84_6 hv84_7 hv84_8 hv84_9
       have hLt : ∀ j, j < 10 → L j = true := fun j hj => by rw [hLm]; exact decide_eq_true hj
       simp only [hLt 9 (by decide), cond_true] at hT
       replace S : St A N w w83 [oK (some ⟨b4, 0, none⟩) a_0 r74.1, oB b9 T_Nd (Nd.C r5.2), oB b2 T_Term (Term.C (⟨a2.kind, a2.name, a2.other, a2.form, s_2⟩ : Term))] [oDTerm s65 ((at_ PTerm.z a2.sub 1).sub), oDTerm s58 ((at_ PTerm.z a2.sub 0).sub), fS 2 Hyp.C s_1 a1, oDTerm s_2 a2.sub, oEt] := hT
       replace S := S
       obtain ⟨r85, er85, H⟩ := bind_ex H
       obtain ⟨B87, MB87, SB87, back⟩ := S.calln 1 ((.nil))
       refine wl_call (does_callg ca_hilbert_maker_axiom (cons2 hv84_0 (cons2 rfl (cons2 hv84_9 rfl)))) (by decide) (hilbert_maker_axiom_st SB87 er85) ?_
       rintro _ w86 ⟨rfl, S2⟩
       replace S := back _ _ _ _ S2 rfl
       clear back S2 SB87
       refine wd (does_as_i rfl) (wl_nil (wc_region (wd (does_mv_p rfl) (wd (does_mv_p rfl) (wd (does_mv_i rfl) ?_)))))
       refine wd (does_mv_i rfl) ?_
       obtain ⟨r88, er88, H⟩ := bind_ex H
       obtain ⟨B90, MB90, SB90, back⟩ := S.calln 1 ((.nil))
       refine wl_call (does_call ca_hilbert_maker_mp) (by decide) (hilbert_maker_mp_st SB90 er88) ?_
       rintro _ w89 ⟨rfl, S2⟩
       replace S := back _ _ _ _ S2 rfl
       clear back S2 SB90
       refine wd (does_mv_i rfl) ?_
       obtain ⟨r91, er91, H⟩ := bind_ex H
       obtain ⟨B93, MB93, SB93, back⟩ := S.calln 1 ((.nil))
       refine wl_call (does_call ca_hilbert_maker_mp) (by decide) (hilbert_maker_mp_st SB93 er91) ?_
       rintro _ w92 ⟨rfl, S2⟩
       replace S := back _ _ _ _ S2 rfl
       clear back S2 SB93
       refine wl_nil ?_
       replace S := S.arr [1, 0, 2] [2, 3, 4]
       obtain rfl := Option.some.inj H
       exact ⟨rfl, (((((((((((((((((((((((((((((((((((((((((Dif.refl _ _).upd rfl _).upd rfl _).upd rfl _).upd rfl _).upd rfl _).upd rfl _).upd rfl _).upd rfl _).upd rfl _).upd rfl _).upd rfl _).upd rfl _).upd rfl _).upd rfl _).upd rfl _).upd rfl _).upd rfl _).upd rfl _).upd rfl _).upd rfl _).upd rfl _).upd rfl _).upd rfl _).upd rfl _).upd rfl _).upd rfl _).upd rfl _).upd rfl _).upd rfl _).upd rfl _).mask rfl _).upd rfl _).upd rfl _).upd rfl _).upd rfl _).upd rfl _).upd rfl _).upd rfl _).upd rfl _).upd rfl _), S⟩
      ·replace H := if_f hc56 H
       refine wc_seq (wc_region (wd (does_eq rfl rfl) (wd (does_as_b rfl) (wl_nil ?_))))
       refine wc_if rfl (fun hc94 => ?_) (fun hc94 => ?_)
       ·replace H := if_t hc94 H
        refine wc_region (wd (does_mv_p rfl) (wd (does_mv_l rfl) (wd (does_load_agg ag_Term rfl ((S.blk 2).all _ (Term.len _)) (Term.len _)) (wd (does_mv_i rfl) ?_))))
        obtain ⟨r95, er95, H⟩ := bind_ex H
        replace S := S.front 1
        obtain ⟨B97, MB97, SB97, back⟩ := S.calln 1 ((.z 0 rfl (.z 1 rfl (.z 2 rfl .nil))))
        refine wl_call (does_call ca_hilbert_maker_unary) (by decide) (hilbert_maker_unary_gst hrec_hilbert_compile (a2 := a2) SB97 er95) ?_
        rintro _ w96 ⟨rfl, S2⟩
        replace S := back _ _ _ _ S2 rfl
        clear back S2 SB97
        refine wl_nil ?_
        replace S := S.arr [1, 0, 2] [0, 1, 2]
        obtain rfl := Option.some.inj H
        exact ⟨rfl, ((((((((((((((((((Dif.refl _ _).upd rfl _).upd rfl _).upd rfl _).upd rfl _).upd rfl _).upd rfl _).upd rfl _).upd rfl _).upd rfl _).upd rfl _).upd rfl _).upd rfl _).upd rfl _).upd rfl _).upd rfl _).upd rfl _).upd rfl _), S⟩
       ·replace H := if_f hc94 H
        refine wc_seq (wc_region (wd (does_eq rfl rfl) (wd (does_as_b rfl) (wl_nil ?_))))
        refine wc_if rfl (fun hc98 => ?_) (fun hc98 => ?_)
        ·replace H := if_t hc98 H
         refine wc_region (wd (does_mv_p rfl) (wd (does_mv_l rfl) (wd (does_load_agg ag_Term rfl ((S.blk 2).all _ (Term.len _)) (Term.len _)) (wd (does_mv_i rfl) ?_))))
         obtain ⟨r99, er99, H⟩ := bind_ex H
         replace S := S.front 1
         obtain ⟨B101, MB101, SB101, back⟩ := S.calln 1 ((.z 0 rfl (.z 1 rfl (.z 2 rfl .nil))))
         refine wl_call (does_call ca_hilbert_maker_unary) (by decide) (hilbert_maker_unary_gst hrec_hilbert_compile (a2 := a2) SB101 er99) ?_
         rintro _ w100 ⟨rfl, S2⟩
         replace S := back _ _ _ _ S2 rfl
         clear back S2 SB101
         refine wl_nil ?_
         replace S := S.arr [1, 0, 2] [0, 1, 2]
         obtain rfl := Option.some.inj H
         exact ⟨rfl, ((((((((((((((((((((Dif.refl _ _).upd rfl _).upd rfl _).upd rfl _).upd rfl _).upd rfl _).upd rfl _).upd rfl _).upd rfl _).upd rfl _).upd rfl _).upd rfl _).upd rfl _).upd rfl _).upd rfl _).upd rfl _).upd rfl _).upd rfl _).upd rfl _).upd rfl _), S⟩
        ·replace H := if_f hc98 H
         refine wc_seq (wc_region (wd (does_eq rfl rfl) (wd (does_as_b rfl) (wl_nil ?_))))
         refine wc_if rfl (fun hc102 => ?_) (fun hc102 => ?_)
         ·replace H := if_t hc102 H
          refine wc_region (wd (does_mv_p rfl) (wd (does_mv_l rfl) (wd (does_load_agg ag_Term rfl ((S.blk 2).all _ (Term.len _)) (Term.len _)) (wd (does_mv_i rfl) ?_))))
          obtain ⟨r103, er103, H⟩ := bind_ex H
          replace S := S.front 1
          obtain ⟨B105, MB105, SB105, back⟩ := S.calln 1 ((.z 0 rfl (.z 1 rfl (.z 2 rfl .nil))))
          refine wl_call (does_call ca_hilbert_maker_unary) (by decide) (hilbert_maker_unary_gst hrec_hilbert_compile (a2 := a2) SB105 er103) ?_
          rintro _ w104 ⟨rfl, S2⟩
          replace S := back _ _ _ _ S2 rfl
          clear back S2 SB105
          refine wl_nil ?_
          replace S := S.arr [1, 0, 2] [0, 1, 2]
          obtain rfl := Option.some.inj H
          exact ⟨rfl, ((((((((((((((((((((((Dif.refl _ _).upd rfl _).upd rfl _).upd rfl _).upd rfl _).upd rfl _).upd rfl _).upd rfl _).upd rfl _).upd rfl _).upd rfl _).upd rfl _).upd rfl _).upd rfl _).upd rfl _).upd rfl _).upd rfl _).upd rfl _).upd rfl _).upd rfl _).upd rfl _).upd rfl _), S⟩
         ·replace H := if_f hc102 H
          refine wc_seq (wc_region (wd (does_eq rfl rfl) (wd (does_as_b rfl) (wl_nil ?_))))
          refine wc_if rfl (fun hc106 => ?_) (fun hc106 => ?_)
          ·replace H := if_t hc106 H
           refine wc_seq ?_
           refine wc_quiet 8 (Ext w10) hmix (by kernel_rfl) (by kernel_rfl) (Ext.drawn _) (wq_does (fun v K => does_mv_p rfl) (wq_does (fun v K => does_mv_l rfl) (wq_does (fun v K => does_fieldAddr fl_Term_sub rfl (o' := 4) rfl) (wq_does (fun v K => does_load on_L_api_Term rfl (((S.ext K).blk 2).cell (Term.get_sub _))) ?_))))
           obtain ⟨hi107, H⟩ := chk_ex H
           refine wq_does (fun v K => does_indexF sl_L_api_Term rfl rfl ((S.ext K).onZ 1) (inb_ex hi107).1 (inb_ex hi107).2) ?_
           obtain ⟨s108, hc109, S⟩ := S.viewTerm 1 (inb_ex hi107)
           replace S := S
           refine wq_does (fun v K => does_load_agg ag_Term rfl (hc109.chg K (fun x => x)) (Term.len _)) (wq_does (fun v K => does_fieldAddr fl_Nd_l rfl (o' := 2) rfl) (wq_does (fun v K => does_load on_int rfl (((S.ext K).blk 0).cell (Nd.get_l _))) ?_))
           refine wq_nil fun w110 K => ?_
           replace S := S.ext K
           clear K
           obtain ⟨r111, er111, H⟩ := bind_ex H
           replace S := S.front 1
           obtain ⟨B113, MB113, SB113, back⟩ := S.calln 1 ((.z 1 rfl (.z 0 rfl (.z 3 rfl .nil))))
           refine wl_call (does_call ca_hilbert_maker_part) (by decide) (hilbert_maker_part_gst hrec_hilbert_compile (a2 := (at_ PTerm.z a2.sub 0)) SB113 er111) ?_
           rintro _ w112 ⟨rfl, S2⟩
           replace S := back _ _ _ _ S2 rfl
           clear back S2 SB113
           refine wd (does_as_i rfl) (wl_nil (wc_region (wd (does_mv_p rfl) (wd (does_mv_p rfl) (wd (does_mv_p rfl) ?_)))))
           refine wd (does_fieldAddr fl_Nd_l rfl (o' := 2) rfl) (wd (does_load on_int rfl ((S.blk 1).cell (Nd.get_l _))) (wd (does_mv_i rfl) ?_))
           obtain ⟨r114, er114, H⟩ := bind_ex H
           obtain ⟨B116, MB116, SB116, back⟩ := S.calln 1 ((.nil))
           refine wl_call (does_call ca_hilbert_maker_imp) (by decide) (hilbert_maker_imp_st SB116 er114) ?_
           rintro _ w115 ⟨rfl, S2⟩
           replace S := back _ _ _ _ S2 rfl
           clear back S2 SB116
           obtain ⟨r117, er117, H⟩ := bind_ex H
           obtain ⟨B119, MB119, SB119, back⟩ := S.calln 1 ((.nil))
           refine wl_call (does_call ca_hilbert_maker_axiom) (by decide) (hilbert_maker_axiom_st SB119 er117) ?_
           rintro _ w118 ⟨rfl, S2⟩
           replace S := back _ _ _ _ S2 rfl
           clear back S2 SB119
           refine wd (does_mv_i rfl) ?_
           obtain ⟨r120, er120, H⟩ := bind_ex H
           obtain ⟨B122, MB122, SB122, back⟩ := S.calln 1 ((.nil))
           refine wl_call (does_call ca_hilbert_maker_mp) (by decide) (hilbert_maker_mp_st SB122 er120) ?_
           rintro _ w121 ⟨rfl, S2⟩
           replace S := back _ _ _ _ S2 rfl
           clear back S2 SB122
           refine wl_nil ?_
           replace S := S.arr [1, 0, 2] [1, 2, 3]
           obtain rfl := Option.some.inj H
           exact ⟨rfl, (((((((((((((((((((((((((((((((((((((((Dif.refl _ _).upd rfl _).upd rfl _).upd rfl _).upd rfl _).upd rfl _).upd rfl _).upd rfl _).upd rfl _).upd rfl _).upd rfl _).upd rfl _).upd rfl _).upd rfl _).upd rfl _).upd rfl _).upd rfl _).upd rfl _).upd rfl _).upd rfl _).upd rfl _).upd rfl _).upd rfl _).upd rfl _).upd rfl _).upd rfl _).upd rfl _).upd rfl _).upd rfl _).upd rfl _).upd rfl _).upd rfl _).upd rfl _).upd rfl _).upd rfl _).upd rfl _).upd rfl _).upd rfl _).upd rfl _), S⟩
          ·replace H := if_f hc106 H
           refine wc_seq (wc_region (wd (does_eq rfl rfl) (wd (does_as_b rfl) (wl_nil ?_))))
           refine wc_if rfl (fun hc123 => ?_) (fun hc123 => ?_)
           ·replace H := if_t hc123 H
            refine wc_seq ?_
            refine wc_quiet 8 (Ext w10) hmix (by kernel_rfl) (by kernel_rfl) (Ext.drawn _) (wq_does (fun v K => does_mv_p rfl) (wq_does (fun v K => does_mv_l rfl) (wq_does (fun v K => does_fieldAddr fl_Term_sub rfl (o' := 4) rfl) (wq_does (fun v K => does_load on_L_api_Term rfl (((S.ext K).blk 2).cell (Term.get_sub _))) ?_))))
            obtain ⟨hi124, H⟩ := chk_ex H
            refine wq_does (fun v K => does_indexF sl_L_api_Term rfl rfl ((S.ext K).onZ 1) (inb_ex hi124).1 (inb_ex hi124).2) ?_
            obtain ⟨s125, hc126, S⟩ := S.viewTerm 1 (inb_ex hi124)
            replace S := S
            refine wq_does (fun v K => does_load_agg ag_Term rfl (hc126.chg K (fun x => x)) (Term.len _)) (wq_does (fun v K => does_fieldAddr fl_Nd_r rfl (o' := 3) rfl) (wq_does (fun v K => does_load on_int rfl (((S.ext K).blk 0).cell (Nd.get_r _))) ?_))
            refine wq_nil fun w127 K => ?_
            replace S := S.ext K
            clear K
            obtain ⟨r128, er128, H⟩ := bind_ex H
            replace S := S.front 1
            obtain ⟨B130, MB130, SB130, back⟩ := S.calln 1 ((.z 1 rfl (.z 0 rfl (.z 3 rfl .nil))))
            refine wl_call (does_call ca_hilbert_maker_part) (by decide) (hilbert_maker_part_gst hrec_hilbert_compile (a2 := (at_ PTerm.z a2.sub 0)) SB130 er128) ?_
            rintro _ w129 ⟨rfl, S2⟩
            replace S := back _ _ _ _ S2 rfl
            clear back S2 SB130
            refine wd (does_as_i rfl) (wl_nil (wc_region (wd (does_mv_p rfl) (wd (does_mv_p rfl) (wd (does_mv_p rfl) ?_)))))
            refine wd (does_fieldAddr fl_Nd_r rfl (o' := 3) rfl) (wd (does_load on_int rfl ((S.blk 1).cell (Nd.get_r _))) (wd (does_mv_i rfl) ?_))
            obtain ⟨r131, er131, H⟩ := bind_ex H
            obtain ⟨B133, MB133, SB133, back⟩ := S.calln 1 ((.nil))
            refine wl_call (does_call ca_hilbert_maker_imp) (by decide) (hilbert_maker_imp_st SB133 er131) ?_
            rintro _ w132 ⟨rfl, S2⟩
            replace S := back _ _ _ _ S2 rfl
            clear back S2 SB133
            obtain ⟨r134, er134, H⟩ := bind_ex H
            obtain ⟨B136, MB136, SB136, back⟩ := S.calln 1 ((.nil))
            refine wl_call (does_call ca_hilbert_maker_axiom) (by decide) (hilbert_maker_axiom_st SB136 er134) ?_
            rintro _ w135 ⟨rfl, S2⟩
            replace S := back _ _ _ _ S2 rfl
            clear back S2 SB136
            refine wd (does_mv_i rfl) ?_
            obtain ⟨r137, er137, H⟩ := bind_ex H
            obtain ⟨B139, MB139, SB139, back⟩ := S.calln 1 ((.nil))
            refine wl_call (does_call ca_hilbert_maker_mp) (by decide) (hilbert_maker_mp_st SB139 er137) ?_
            rintro _ w138 ⟨rfl, S2⟩
            replace S := back _ _ _ _ S2 rfl
            clear back S2 SB139
            refine wl_nil ?_
            replace S := S.arr [1, 0, 2] [1, 2, 3]
            obtain rfl := Option.some.inj H
            exact ⟨rfl, (((((((((((((((((((((((((((((((((((((((((Dif.refl _ _).upd rfl _).upd rfl _).upd rfl _).upd rfl _).upd rfl _).upd rfl _).upd rfl _).upd rfl _).upd rfl _).upd rfl _).upd rfl _).upd rfl _).upd rfl _).upd rfl _).upd rfl _).upd rfl _).upd rfl _).upd rfl _).upd rfl _).upd rfl _).upd rfl _).upd rfl _).upd rfl _).upd rfl _).upd rfl _).upd rfl _).upd rfl _).upd rfl _).upd rfl _).upd rfl _).upd rfl _).upd rfl _).upd rfl _).upd rfl _).upd rfl _).upd rfl _).upd rfl _).upd rfl _).upd rfl _).upd rfl _), S⟩
           ·replace H := if_f hc123 H
            refine wc_seq (wc_region (wd (does_eq rfl rfl) (wd (does_as_b rfl) (wl_nil ?_))))
            refine wc_if rfl (fun hc140 => ?_) (fun hc140 => ?_)
            ·replace H := if_t hc140 H
             refine wc_seq (wc_region (wd (does_mv_p rfl) (wd (does_mv_l rfl) (wd (does_fieldAddr fl_Term_sub rfl (o' := 4) rfl) (wd (does_load on_L_api_Term rfl ((S.blk 2).cell (Term.get_sub _))) ?_)))))
             obtain ⟨hi141, H⟩ := chk_ex H
             refine wd (does_indexF sl_L_api_Term rfl rfl (S.onZ 1) (inb_ex hi141).1 (inb_ex hi141).2) ?_
             obtain ⟨s142, hc143, S⟩ := S.viewTerm 1 (inb_ex hi141)
             replace S := S
             refine wd (does_load_agg ag_Term rfl hc143 (Term.len _)) ?_
             obtain ⟨r144, er144, H⟩ := bind_ex H
             replace S := S.front 1
             obtain ⟨B146, MB146, SB146, back⟩ := S.calln 1 ((.z 1 rfl (.z 0 rfl (.z 3 rfl .nil))))
             refine wl_call (does_call ca_hilbert_maker_told) (by decide) (hilbert_maker_told_gst hrec_hilbert_compile (a2 := (at_ PTerm.z a2.sub 0)) SB146 er144) ?_
             rintro _ w145 ⟨rfl, S2⟩
             replace S := back _ _ _ _ S2 rfl
             clear back S2 SB146
             refine wd (does_mv_t rfl) (wd (does_extract rfl rfl) (wd (does_extract rfl rfl) (wd (does_as_i rfl) (wd (does_as_i rfl) (wl_nil (wc_seq (wc_region ?_)))))))
             refine wd (does_mv_p rfl) (wd (does_mv_i rfl) ?_)
             obtain ⟨r147, er147, H⟩ := bind_ex H
             obtain ⟨B149, MB149, SB149, back⟩ := S.calln 1 ((.nil))
             refine wl_call (does_call ca_hilbert_maker_node) (by decide) (hilbert_maker_node_st SB149 er147) ?_
             rintro _ w148 ⟨rfl, S2⟩
             replace S := back _ _ _ _ S2 rfl
             clear back S2 SB149
             refine wl_alloc ze_Nd (by decide) fun b151 w150 hw150 => ?_
             replace S := S.new hw150
             refine wl_store_agg ag_Nd rfl rfl (S.blk 0) (Nd.len _) (by rw [Nd.len]; decide) (Nd.one _) (store_all (Nd.len _)) fun w152 B hw152 zw152 => ?_
             replace S := S.store 0 B hw152
             clear B
             refine wl_nil (wc_seq ?_)
             refine wc_quiet 11 (Ext w152) hmix (by kernel_rfl) (by kernel_rfl) (Ext.drawn _) (wq_does (fun v K => does_mv_p rfl) (wq_does (fun v K => does_mv_l rfl) (wq_does (fun v K => does_fieldAddr fl_Term_name rfl (o' := 1) rfl) (wq_does (fun v K => does_load on_string rfl (((S.ext K).blk 3).cell (Term.get_name _))) (wq_does (fun v K => does_fieldAddr fl_Nd_l rfl (o' := 2) rfl) ?_)))))
             refine wq_does (fun v K => does_load on_int rfl (((S.ext K).blk 0).cell (Nd.get_l _))) (wq_does (fun v K => does_fieldAddr fl_Term_sub rfl (o' := 4) rfl) (wq_does (fun v K => does_load on_L_api_Term rfl (((S.ext K).blk 3).cell (Term.get_sub _))) ?_))
             obtain ⟨hi153, H⟩ := chk_ex H
             refine wq_does (fun v K => does_indexF sl_L_api_Term rfl rfl ((S.ext K).onZ 2) (inb_ex hi153).1 (inb_ex hi153).2) ?_
             obtain ⟨s154, hc155, S⟩ := S.viewTerm 2 (inb_ex hi153)
             replace S := S
             refine wq_does (fun v K => does_load_agg ag_Term rfl (hc155.chg K (fun x => x)) (Term.len _)) (wq_does (fun v K => does_mv_i rfl) ?_)
             refine wq_nil fun w156 K => ?_
             replace S := S.ext K
             clear K
             obtain ⟨r157, er157, H⟩ := bind_ex H
             replace S := S.front 1
             obtain ⟨B159, MB159, SB159, back⟩ := S.calln 1 ((.z 2 rfl (.z 0 rfl (.z 4 rfl .nil))))
             refine wl_call (does_call ca_hilbert_maker_under) (by decide) (hilbert_maker_under_gst hrec_hilbert_compile (a4 := (at_ PTerm.z a2.sub 1)) SB159 er157) ?_
             rintro _ w158 ⟨rfl, S2⟩
             replace S := back _ _ _ _ S2 rfl
             clear back S2 SB159
             refine wd (does_as_i rfl) (wl_nil (wc_seq ?_))
             refine wc_quiet 11 (Ext w158) hmix (by kernel_rfl) (by kernel_rfl) (Ext.drawn _) (wq_does (fun v K => does_mv_p rfl) (wq_does (fun v K => does_mv_l rfl) (wq_does (fun v K => does_fieldAddr fl_Term_other rfl (o' := 2) rfl) (wq_does (fun v K => does_load on_string rfl (((S.ext K).blk 3).cell (Term.get_other _))) (wq_does (fun v K => does_fieldAddr fl_Nd_r rfl (o' := 3) rfl) ?_)))))
             refine wq_does (fun v K => does_load on_int rfl (((S.ext K).blk 1).cell (Nd.get_r _))) (wq_does (fun v K => does_fieldAddr fl_Term_sub rfl (o' := 4) rfl) (wq_does (fun v K => does_load on_L_api_Term rfl (((S.ext K).blk 3).cell (Term.get_sub _))) ?_))
             obtain ⟨hi160, H⟩ := chk_ex H
             refine wq_does (fun v K => does_indexF sl_L_api_Term rfl rfl ((S.ext K).onZ 3) (inb_ex hi160).1 (inb_ex hi160).2) ?_
             obtain ⟨s161, hc162, S⟩ := S.viewTerm 3 (inb_ex hi160)
             replace S := S
             refine wq_does (fun v K => does_load_agg ag_Term rfl (hc162.chg K (fun x => x)) (Term.len _)) (wq_does (fun v K => does_mv_i rfl) ?_)
             refine wq_nil fun w163 K => ?_
             replace S := S.ext K
             clear K
             obtain ⟨r164, er164, H⟩ := bind_ex H
             obtain ⟨B166, MB166, SB166, back⟩ := S.calln 1 ((.z 3 rfl (.z 0 rfl (.z 5 rfl .nil))))
             refine wl_call (does_call ca_hilbert_maker_under) (by decide) (hilbert_maker_under_gst hrec_hilbert_compile (a4 := (at_ PTerm.z a2.sub 2)) SB166 er164) ?_
             rintro _ w165 ⟨rfl, S2⟩
             replace S := back _ _ _ _ S2 rfl
             clear back S2 SB166
             refine wd (does_as_i rfl) (wl_nil (wc_seq ?_))
             obtain ⟨r167, er167, H⟩ := bind_ex H
             refine wc_draw5 9 ⟨fun _ _ => True, fun _ _ _ => True, fun i v _ => match i with
              | 0 => v = Value.pointer (some ⟨b4, 0, none⟩)
              | 1 => v = Value.pointer (some ⟨b151, 2, none⟩)
              | 2 => v = Value.int .i64 r147.2.l
              | 3 => v = Value.int .i64 a3
              | 4 => v = Value.int .i64 r167.2
              | 5 => v = Value.pointer (some ⟨b4, 0, none⟩)
              | 6 => v = Value.pointer (some ⟨b151, 3, none⟩)
              | 7 => v = Value.int .i64 r147.2.r
              | 8 => v = Value.int .i64 a3
              | _ => True⟩ (fun L g v => bif L 4 then (St A N w v [oK (some ⟨b4, 0, none⟩) a_0 r167.1, oB b151 T_Nd (Nd.C r147.2), oB b9 T_Nd (Nd.C r5.2), oB b2 T_Term (Term.C (⟨a2.kind, a2.name, a2.other, a2.form, s_2⟩ : Term))] [oDTerm s161 ((at_ PTerm.z a2.sub 2).sub), oDTerm s154 ((at_ PTerm.z a2.sub 1).sub), oDTerm s142 ((at_ PTerm.z a2.sub 0).sub), fS 2 Hyp.C s_1 a1, oDTerm s_2 a2.sub, oEt]) else (St A N w v [oK (some ⟨b4, 0, none⟩) a_0 r164.1, oB b151 T_Nd (Nd.C r147.2), oB b9 T_Nd (Nd.C r5.2), oB b2 T_Term (Term.C (⟨a2.kind, a2.name, a2.other, a2.form, s_2⟩ : Term))] [oDTerm s161 ((at_ PTerm.z a2.sub 2).sub), oDTerm s154 ((at_ PTerm.z a2.sub 1).sub), oDTerm s142 ((at_ PTerm.z a2.sub 0).sub), fS 2 Hyp.C s_1 a1, oDTerm s_2 a2.sub, oEt])) hmix (by kernel_rfl) (fun _ _ _ _ _ _ _ hv => hv) (fun g => S.ext (Ext.drawn _)) ⟨?_, ?_, ?_, ?_, ?_, ?_, ?_, ?_, ?_, trivial⟩ ?_
             ·rintro L g v hL hcl hclo hT 
              have hl4 : L 4 = false := by cases h : L 4 with | false => rfl | true => exact absurd (hclo 4 0 h (by kernel_rfl)) (by rw [hL]; decide)
              simp only [hl4, cond_true, cond_false] at hT
              replace S : St A N w v [oK (some ⟨b4, 0, none⟩) a_0 r164.1, oB b151 T_Nd (Nd.C r147.2), oB b9 T_Nd (Nd.C r5.2), oB b2 T_Term (Term.C (⟨a2.kind, a2.name, a2.other, a2.form, s_2⟩ : Term))] [oDTerm s161 ((at_ PTerm.z a2.sub 2).sub), oDTerm s154 ((at_ PTerm.z a2.sub 1).sub), oDTerm s142 ((at_ PTerm.z a2.sub 0).sub), fS 2 Hyp.C s_1 a1, oDTerm s_2 a2.sub, oEt] := hT
              refine wd (does_mv_p rfl) ?_
              exact wl_nil (ob4 trivial rfl (by simp only [plus_ne (L := L) (i := 0) (j := 4) rfl, hl4, cond_true, cond_false]; exact S))
             ·rintro L g v hL hcl hclo hT 
              have hl4 : L 4 = false := by cases h : L 4 with | false => rfl | true => exact absurd (hclo 4 1 h (by kernel_rfl)) (by rw [hL]; decide)
              simp only [hl4, cond_true, cond_false] at hT
              replace S : St A N w v [oK (some ⟨b4, 0, none⟩) a_0 r164.1, oB b151 T_Nd (Nd.C r147.2), oB b9 T_Nd (Nd.C r5.2), oB b2 T_Term (Term.C (⟨a2.kind, a2.name, a2.other, a2.form, s_2⟩ : Term))] [oDTerm s161 ((at_ PTerm.z a2.sub 2).sub), oDTerm s154 ((at_ PTerm.z a2.sub 1).sub), oDTerm s142 ((at_ PTerm.z a2.sub 0).sub), fS 2 Hyp.C s_1 a1, oDTerm s_2 a2.sub, oEt] := hT
              refine wd (does_fieldAddr fl_Nd_l rfl (o' := 2) rfl) ?_
              exact wl_nil (ob4 trivial rfl (by simp only [plus_ne (L := L) (i := 1) (j := 4) rfl, hl4, cond_true, cond_false]; exact S))
             ·rintro L g v hL hcl hclo hT hv1
              have hl4 : L 4 = false := by cases h : L 4 with | false => rfl | true => exact absurd (hclo 4 2 h (by kernel_rfl)) (by rw [hL]; decide)
              simp only [hl4, cond_true, cond_false] at hT
              replace S : St A N w v [oK (some ⟨b4, 0, none⟩) a_0 r164.1, oB b151 T_Nd (Nd.C r147.2), oB b9 T_Nd (Nd.C r5.2), oB b2 T_Term (Term.C (⟨a2.kind, a2.name, a2.other, a2.form, s_2⟩ : Term))] [oDTerm s161 ((at_ PTerm.z a2.sub 2).sub), oDTerm s154 ((at_ PTerm.z a2.sub 1).sub), oDTerm s142 ((at_ PTerm.z a2.sub 0).sub), fS 2 Hyp.C s_1 a1, oDTerm s_2 a2.sub, oEt] := hT
              refine wd (does_load on_int hv1 ((S.blk 1).cell (Nd.get_l _))) ?_
              exact wl_nil (ob4 trivial rfl (by simp only [plus_ne (L := L) (i := 2) (j := 4) rfl, hl4, cond_true, cond_false]; exact S))
             ·rintro L g v hL hcl hclo hT 
              have hl4 : L 4 = false := by cases h : L 4 with | false => rfl | true => exact absurd (hclo 4 3 h (by kernel_rfl)) (by rw [hL]; decide)
              simp only [hl4, cond_true, cond_false] at hT
              replace S : St A N w v [oK (some ⟨b4, 0, none⟩) a_0 r164.1, oB b151 T_Nd (Nd.C r147.2), oB b9 T_Nd (Nd.C r5.2), oB b2 T_Term (Term.C (⟨a2.kind, a2.name, a2.other, a2.form, s_2⟩ : Term))] [oDTerm s161 ((at_ PTerm.z a2.sub 2).sub), oDTerm s154 ((at_ PTerm.z a2.sub 1).sub), oDTerm s142 ((at_ PTerm.z a2.sub 0).sub), fS 2 Hyp.C s_1 a1, oDTerm s_2 a2.sub, oEt] := hT
              refine wd (does_mv_i rfl) ?_
              exact wl_nil (ob4 trivial rfl (by simp only [plus_ne (L := L) (i := 3) (j := 4) rfl, hl4, cond_true, cond_false]; exact S))
             ·rintro L g v hL hcl hclo hT hv0 hv2 hv3
              have hl4 : L 4 = false := hL
              simp only [hl4, cond_true, cond_false] at hT
              replace S : St A N w v [oK (some ⟨b4, 0, none⟩) a_0 r164.1, oB b151 T_Nd (Nd.C r147.2), oB b9 T_Nd (Nd.C r5.2), oB b2 T_Term (Term.C (⟨a2.kind, a2.name, a2.other, a2.form, s_2⟩ : Term))] [oDTerm s161 ((at_ PTerm.z a2.sub 2).sub), oDTerm s154 ((at_ PTerm.z a2.sub 1).sub), oDTerm s142 ((at_ PTerm.z a2.sub 0).sub), fS 2 Hyp.C s_1 a1, oDTerm s_2 a2.sub, oEt] := hT
              obtain ⟨B172, MB172, SB172, back⟩ := S.calln 1 ((.nil))
              refine wl_call (does_callg ca_hilbert_maker_imp (cons2 hv0 (cons2 hv2 (cons2 hv3 rfl)))) (by decide) (hilbert_maker_imp_st SB172 er167) ?_
              rintro _ w171 ⟨rfl, S2⟩
              replace S := back _ _ _ _ S2 rfl
              clear back S2 SB172
              exact wl_nil (ob4 trivial rfl (by simp only [plus_self (L := L) (i := 4), cond_true, cond_false]; exact S))
             ·rintro L g v hL hcl hclo hT 
              cases hl4 : L 4 with
              | true =>
               simp only [hl4, cond_true, cond_false] at hT
               replace S : St A N w v [oK (some ⟨b4, 0, none⟩) a_0 r167.1, oB b151 T_Nd (Nd.C r147.2), oB b9 T_Nd (Nd.C r5.2), oB b2 T_Term (Term.C (⟨a2.kind, a2.name, a2.other, a2.form, s_2⟩ : Term))] [oDTerm s161 ((at_ PTerm.z a2.sub 2).sub), oDTerm s154 ((at_ PTerm.z a2.sub 1).sub), oDTerm s142 ((at_ PTerm.z a2.sub 0).sub), fS 2 Hyp.C s_1 a1, oDTerm s_2 a2.sub, oEt] := hT
               refine wd (does_mv_p rfl) ?_
               exact wl_nil (ob4 trivial rfl (by simp only [plus_ne (L := L) (i := 5) (j := 4) rfl, hl4, cond_true, cond_false]; exact S))
              | false =>
               simp only [hl4, cond_true, cond_false] at hT
               replace S : St A N w v [oK (some ⟨b4, 0, none⟩) a_0 r164.1, oB b151 T_Nd (Nd.C r147.2), oB b9 T_Nd (Nd.C r5.2), oB b2 T_Term (Term.C (⟨a2.kind, a2.name, a2.other, a2.form, s_2⟩ : Term))] [oDTerm s161 ((at_ PTerm.z a2.sub 2).sub), oDTerm s154 ((at_ PTerm.z a2.sub 1).sub), oDTerm s142 ((at_ PTerm.z a2.sub 0).sub), fS 2 Hyp.C s_1 a1, oDTerm s_2 a2.sub, oEt] := hT
               refine wd (does_mv_p rfl) ?_
               exact wl_nil (ob4 trivial rfl (by simp only [plus_ne (L := L) (i := 5) (j := 4) rfl, hl4, cond_true, cond_false]; exact S))
             ·rintro L g v hL hcl hclo hT 
              cases hl4 : L 4 with
              | true =>
               simp only [hl4, cond_true, cond_false] at hT
               replace S : St A N w v [oK (some ⟨b4, 0, none⟩) a_0 r167.1, oB b151 T_Nd (Nd.C r147.2), oB b9 T_Nd (Nd.C r5.2), oB b2 T_Term (Term.C (⟨a2.kind, a2.name, a2.other, a2.form, s_2⟩ : Term))] [oDTerm s161 ((at_ PTerm.z a2.sub 2).sub), oDTerm s154 ((at_ PTerm.z a2.sub 1).sub), oDTerm s142 ((at_ PTerm.z a2.sub 0).sub), fS 2 Hyp.C s_1 a1, oDTerm s_2 a2.sub, oEt] := hT
               refine wd (does_fieldAddr fl_Nd_r rfl (o' := 3) rfl) ?_
               exact wl_nil (ob4 trivial rfl (by simp only [plus_ne (L := L) (i := 6) (j := 4) rfl, hl4, cond_true, cond_false]; exact S))
              | false =>
               simp only [hl4, cond_true, cond_false] at hT
               replace S : St A N w v [oK (some ⟨b4, 0, none⟩) a_0 r164.1, oB b151 T_Nd (Nd.C r147.2), oB b9 T_Nd (Nd.C r5.2), oB b2 T_Term (Term.C (⟨a2.kind, a2.name, a2.other, a2.form, s_2⟩ : Term))] [oDTerm s161 ((at_ PTerm.z a2.sub 2).sub), oDTerm s154 ((at_ PTerm.z a2.sub 1).sub), oDTerm s142 ((at_ PTerm.z a2.sub 0).sub), fS 2 Hyp.C s_1 a1, oDTerm s_2 a2.sub, oEt] := hT
               refine wd (does_fieldAddr fl_Nd_r rfl (o' := 3) rfl) ?_
               exact wl_nil (ob4 trivial rfl (by simp only [plus_ne (L := L) (i := 6) (j := 4) rfl, hl4, cond_true, cond_false]; exact S))
             ·rintro L g v hL hcl hclo hT hv6
              cases hl4 : L 4 with
              | true =>
               simp only [hl4, cond_true, cond_false] at hT
               replace S : St A N w v [oK (some ⟨b4, 0, none⟩) a_0 r167.1, oB b151 T_Nd (Nd.C r147.2), oB b9 T_Nd (Nd.C r5.2), oB b2 T_Term (Term.C (⟨a2.kind, a2.name, a2.other, a2.form, s_2⟩ : Term))] [oDTerm s161 ((at_ PTerm.z a2.sub 2).sub), oDTerm s154 ((at_ PTerm.z a2.sub 1).sub), oDTerm s142 ((at_ PTerm.z a2.sub 0).sub), fS 2 Hyp.C s_1 a1, oDTerm s_2 a2.sub, oEt] := hT
               refine wd (does_load on_int hv6 ((S.blk 1).cell (Nd.get_r _))) ?_
               exact wl_nil (ob4 trivial rfl (by simp only [plus_ne (L := L) (i := 7) (j := 4) rfl, hl4, cond_true, cond_false]; exact S))
              | false =>
               simp only [hl4, cond_true, cond_false] at hT
               replace S : St A N w v [oK (some ⟨b4, 0, none⟩) a_0 r164.1, oB b151 T_Nd (Nd.C r147.2), oB b9 T_Nd (Nd.C r5.2), oB b2 T_Term (Term.C (⟨a2.kind, a2.name, a2.other, a2.form, s_2⟩ : Term))] [oDTerm s161 ((at_ PTerm.z a2.sub 2).sub), oDTerm s154 ((at_ PTerm.z a2.sub 1).sub), oDTerm s142 ((at_ PTerm.z a2.sub 0).sub), fS 2 Hyp.C s_1 a1, oDTerm s_2 a2.sub, oEt] := hT
               refine wd (does_load on_int hv6 ((S.blk 1).cell (Nd.get_r _))) ?_
               exact wl_nil (ob4 trivial rfl (by simp only [plus_ne (L := L) (i := 7) (j := 4) rfl, hl4, cond_true, cond_false]; exact S))
             ·rintro L g v hL hcl hclo hT 
              cases hl4 : L 4 with
              | true =>
               simp only [hl4, cond_true, cond_false] at hT
               replace S : St A N w v [oK (some ⟨b4, 0, none⟩) a_0 r167.1, oB b151 T_Nd (Nd.C r147.2), oB b9 T_Nd (Nd.C r5.2), oB b2 T_Term (Term.C (⟨a2.kind, a2.name, a2.other, a2.form, s_2⟩ : Term))] [oDTerm s161 ((at_ PTerm.z a2.sub 2).sub), oDTerm s154 ((at_ PTerm.z a2.sub 1).sub), oDTerm s142 ((at_ PTerm.z a2.sub 0).sub), fS 2 Hyp.C s_1 a1, oDTerm s_2 a2.sub, oEt] := hT
               refine wd (does_mv_i rfl) ?_
               exact wl_nil (ob4 trivial rfl (by simp only [plus_ne (L := L) (i := 8) (j := 4) rfl, hl4, cond_true, cond_false]; exact S))
              | false =>
               simp only [hl4, cond_true, cond_false] at hT
               replace S : St A N w v [oK (some ⟨b4, 0, none⟩) a_0 r164.1, oB b151 T_Nd (Nd.C r147.2), oB b9 T_Nd (Nd.C r5.2), oB b2 T_Term (Term.C (⟨a2.kind, a2.name, a2.other, a2.form, s_2⟩ : Term))] [oDTerm s161 ((at_ PTerm.z a2.sub 2).sub), oDTerm s154 ((at_ PTerm.z a2.sub 1).sub), oDTerm s142 ((at_ PTerm.z a2.sub 0).sub), fS 2 Hyp.C s_1 a1, oDTerm s_2 a2.sub, oEt] := hT
               refine wd (does_mv_i rfl) ?_
               exact wl_nil (ob4 trivial rfl (by simp only [plus_ne (L := L) (i := 8) (j := 4) rfl, hl4, cond_true, cond_false]; exact S))
             rintro L g w173 hLm hT hv174_0 hv174_1 hv174_2 hv174_3 hv174_4 hv174_5 hv174_6 hv174_7 hv174_8
             have hLt : ∀ j, j < 9 → L j = true := fun j hj => by rw [hLm]; exact decide_eq_true hj
             simp only [hLt 4 (by decide), cond_true] at hT
             replace S : St A N w w173 [oK (some ⟨b4, 0, none⟩) a_0 r167.1, oB b151 T_Nd (Nd.C r147.2), oB b9 T_Nd (Nd.C r5.2), oB b2 T_Term (Term.C (⟨a2.kind, a2.name, a2.other, a2.form, s_2⟩ : Term))] [oDTerm s161 ((at_ PTerm.z a2.sub 2).sub), oDTerm s154 ((at_ PTerm.z a2.sub 1).sub), oDTerm s142 ((at_ PTerm.z a2.sub 0).sub), fS 2 Hyp.C s_1 a1, oDTerm s_2 a2.sub, oEt] := hT
             replace S := S
             obtain ⟨r175, er175, H⟩ := bind_ex H
             obtain ⟨B177, MB177, SB177, back⟩ := S.calln 1 ((.nil))
             refine wl_call (does_callg ca_hilbert_maker_imp (cons2 hv174_5 (cons2 hv174_7 (cons2 hv174_8 rfl)))) (by decide) (hilbert_maker_imp_st SB177 er175) ?_
             rintro _ w176 ⟨rfl, S2⟩
             replace S := back _ _ _ _ S2 rfl
             clear back S2 SB177
             refine wd (does_as_i hv174_4) (wd (does_as_i rfl) (wl_nil (wc_seq (wc_region (wd (does_mv_p rfl) (wd (does_mv_p rfl) ?_))))))
             refine wd (does_mv_i rfl) (wd (does_mv_p rfl) (wd (does_mv_i rfl) (wd (does_mv_p rfl) (wd (does_mv_i rfl) (wd (does_mv_i rfl) ?_)))))
             obtain ⟨r178, er178, H⟩ := bind_ex H
             obtain ⟨B180, MB180, SB180, back⟩ := S.calln 1 ((.nil))
             refine wl_call (does_call ca_hilbert_maker_imp) (by decide) (hilbert_maker_imp_st SB180 er178) ?_
             rintro _ w179 ⟨rfl, S2⟩
             replace S := back _ _ _ _ S2 rfl
             clear back S2 SB180
             obtain ⟨r181, er181, H⟩ := bind_ex H
             obtain ⟨B183, MB183, SB183, back⟩ := S.calln 1 ((.nil))
             refine wl_call (does_call ca_hilbert_maker_imp) (by decide) (hilbert_maker_imp_st SB183 er181) ?_
             rintro _ w182 ⟨rfl, S2⟩
             replace S := back _ _ _ _ S2 rfl
             clear back S2 SB183
             obtain ⟨r184, er184, H⟩ := bind_ex H
             obtain ⟨B186, MB186, SB186, back⟩ := S.calln 1 ((.nil))
             refine wl_call (does_call ca_hilbert_maker_imp) (by decide) (hilbert_maker_imp_st SB186 er184) ?_
             rintro _ w185 ⟨rfl, S2⟩
             replace S := back _ _ _ _ S2 rfl
             clear back S2 SB186
             obtain ⟨r187, er187, H⟩ := bind_ex H
             obtain ⟨B189, MB189, SB189, back⟩ := S.calln 1 ((.nil))
             refine wl_call (does_call ca_hilbert_maker_axiom) (by decide) (hilbert_maker_axiom_st SB189 er187) ?_
             rintro _ w188 ⟨rfl, S2⟩
             replace S := back _ _ _ _ S2 rfl
             clear back S2 SB189
             refine wd (does_as_i rfl) (wl_nil (wc_region (wd (does_mv_p rfl) (wd (does_mv_p rfl) (wd (does_mv_p rfl) ?_)))))
             refine wd (does_mv_i rfl) (wd (does_mv_i rfl) ?_)
             obtain ⟨r190, er190, H⟩ := bind_ex H
             obtain ⟨B192, MB192, SB192, back⟩ := S.calln 1 ((.nil))
             refine wl_call (does_call ca_hilbert_maker_mp) (by decide) (hilbert_maker_mp_st SB192 er190) ?_
             rintro _ w191 ⟨rfl, S2⟩
             replace S := back _ _ _ _ S2 rfl
             clear back S2 SB192
             refine wd (does_mv_i rfl) ?_
             obtain ⟨r193, er193, H⟩ := bind_ex H
             obtain ⟨B195, MB195, SB195, back⟩ := S.calln 1 ((.nil))
             refine wl_call (does_call ca_hilbert_maker_mp) (by decide) (hilbert_maker_mp_st SB195 er193) ?_
             rintro _ w194 ⟨rfl, S2⟩
             replace S := back _ _ _ _ S2 rfl
             clear back S2 SB195
             refine wd (does_mv_i rfl) ?_
             obtain ⟨r196, er196, H⟩ := bind_ex H
             obtain ⟨B198, MB198, SB198, back⟩ := S.calln 1 ((.nil))
             refine wl_call (does_call ca_hilbert_maker_mp) (by decide) (hilbert_maker_mp_st SB198 er196) ?_
             rintro _ w197 ⟨rfl, S2⟩
             replace S := back _ _ _ _ S2 rfl
             clear back S2 SB198
             refine wl_nil ?_
             replace S := S.arr [2, 0, 3] [3, 4, 5]
             obtain rfl := Option.some.inj H
             exact ⟨rfl, ((((((((((((((((((((((((((((((((((((((((((((((((((((((((((((((((((((((((((((((((((((((((((((Dif.refl _ _).upd rfl _).upd rfl _).upd rfl _).upd rfl _).upd rfl _).upd rfl _).upd rfl _).upd rfl _).upd rfl _).upd rfl _).upd rfl _).upd rfl _).upd rfl _).upd rfl _).upd rfl _).upd rfl _).upd rfl _).upd rfl _).upd rfl _).upd rfl _).upd rfl _).upd rfl _).upd rfl _).upd rfl _).upd rfl _).upd rfl _).upd rfl _).upd rfl _).upd rfl _).upd rfl _).upd rfl _).upd rfl _).upd rfl _).upd rfl _).upd rfl _).upd rfl _).upd rfl _).upd rfl _).upd rfl _).upd rfl _).upd rfl _).upd rfl _).upd rfl _).upd rfl _).upd rfl _).upd rfl _).upd rfl _).upd rfl _).upd rfl _).upd rfl _).upd rfl _).upd rfl _).upd rfl _).upd rfl _).upd rfl _).upd rfl _).upd rfl _).upd rfl _).upd rfl _).upd rfl _).upd rfl _).upd rfl _).upd rfl _).upd rfl _).mask rfl _).upd rfl _).upd rfl _).upd rfl _).upd rfl _).upd rfl _).upd rfl _).upd rfl _).upd rfl _).upd rfl _).upd rfl _).upd rfl _).upd rfl _).upd rfl _).upd rfl _).upd rfl _).upd rfl _).upd rfl _).upd rfl _).upd rfl _).upd rfl _).upd rfl _).upd rfl _).upd rfl _).upd rfl _).upd rfl _).upd rfl _), S⟩
            ·replace H := if_f hc140 H
             refine wc_seq (wc_region (wd (does_eq rfl rfl) (wd (does_as_b rfl) (wl_nil ?_))))
             refine wc_if rfl (fun hc199 => ?_) (fun hc199 => ?_)
             ·replace H := if_t hc199 H
              refine wc_seq (wc_region (wd (does_mv_p rfl) (wd (does_mv_l rfl) (wd (does_fieldAddr fl_Term_sub rfl (o' := 4) rfl) (wd (does_load on_L_api_Term rfl ((S.blk 2).cell (Term.get_sub _))) ?_)))))
              obtain ⟨hi200, H⟩ := chk_ex H
              refine wd (does_indexF sl_L_api_Term rfl rfl (S.onZ 1) (inb_ex hi200).1 (inb_ex hi200).2) ?_
              obtain ⟨s201, hc202, S⟩ := S.viewTerm 1 (inb_ex hi200)
              replace S := S
              refine wd (does_load_agg ag_Term rfl hc202 (Term.len _)) ?_
              obtain ⟨r203, er203, H⟩ := bind_ex H
              replace S := S.front 1
              obtain ⟨B205, MB205, SB205, back⟩ := S.calln 1 ((.z 1 rfl (.z 0 rfl (.z 3 rfl .nil))))
              refine wl_call (does_call ca_hilbert_maker_told) (by decide) (hilbert_maker_told_gst hrec_hilbert_compile (a2 := (at_ PTerm.z a2.sub 0)) SB205 er203) ?_
              rintro _ w204 ⟨rfl, S2⟩
              replace S := back _ _ _ _ S2 rfl
              clear back S2 SB205
              refine wd (does_mv_t rfl) (wd (does_extract rfl rfl) (wd (does_extract rfl rfl) (wd (does_as_i rfl) (wd (does_as_i rfl) (wl_nil ?_)))))
              obtain ⟨hi206, H⟩ := chk_ex H
              obtain ⟨r208, er208, H⟩ := bind_ex H
              obtain ⟨s207, S⟩ := S.viewTermC 2 (inb_ex hi206)
              replace S := S.zs [2, 3, 4, 5, 0, 1]
              refine wc_draw5 13 ⟨fun _ _ => True, fun _ _ _ => True, fun i v _ => match i with
               | 0 => v = Value.pointer (some ⟨b4, 0, none⟩)
               | 1 => v = Value.pointer (some ⟨b4, 0, none⟩)
               | 2 => v = s_1.v
               | 3 => v = Value.pointer (some ⟨b2, 1, none⟩)
               | 4 => v = Value.string a2.name
               | 5 => v = Value.int .i64 r203.2.1
               | 6 => v = Value.pointer (some ⟨b2, 4, none⟩)
               | 7 => v = s_2.v
               | 8 => v = Value.pointer (some ⟨s_2.blk, s_2.off + Int.toNat 1 * 5, none⟩)
               | 9 => v = Value.agg (Term.C (⟨(at_ PTerm.z a2.sub 1).kind, (at_ PTerm.z a2.sub 1).name, (at_ PTerm.z a2.sub 1).other, (at_ PTerm.z a2.sub 1).form, s207⟩ : Term)).toArray
               | 10 => v = Value.int .i64 a3
               | 11 => v = Value.int .i64 r208.2
               | 12 => v = Value.int .i64 r203.2.2
               | _ => True⟩ (fun L g v => bif L 11 then (St A N w v [oK (some ⟨b4, 0, none⟩) a_0 r208.1, oB b9 T_Nd (Nd.C r5.2), oB b2 T_Term (Term.C (⟨a2.kind, a2.name, a2.other, a2.form, s_2⟩ : Term))] [oDTerm s201 ((at_ PTerm.z a2.sub 0).sub), fS 2 Hyp.C s_1 a1, oDTerm s_2 a2.sub, oEt, oCl s_2.blk (s_2.off + Int.toNat 1 * 5) (Term.C (⟨(at_ PTerm.z a2.sub 1).kind, (at_ PTerm.z a2.sub 1).name, (at_ PTerm.z a2.sub 1).other, (at_ PTerm.z a2.sub 1).form, s207⟩ : Term)), oDTerm s207 ((at_ PTerm.z a2.sub 1).sub)]) else (St A N w v [oK (some ⟨b4, 0, none⟩) a_0 r203.1, oB b9 T_Nd (Nd.C r5.2), oB b2 T_Term (Term.C (⟨a2.kind, a2.name, a2.other, a2.form, s_2⟩ : Term))] [oDTerm s201 ((at_ PTerm.z a2.sub 0).sub), fS 2 Hyp.C s_1 a1, oDTerm s_2 a2.sub, oEt, oCl s_2.blk (s_2.off + Int.toNat 1 * 5) (Term.C (⟨(at_ PTerm.z a2.sub 1).kind, (at_ PTerm.z a2.sub 1).name, (at_ PTerm.z a2.sub 1).other, (at_ PTerm.z a2.sub 1).form, s207⟩ : Term)), oDTerm s207 ((at_ PTerm.z a2.sub 1).sub)])) hmix (by kernel_rfl) (fun _ _ _ _ _ _ _ hv => hv) (fun g => S.ext (Ext.drawn _)) ⟨?_, ?_, ?_, ?_, ?_, ?_, ?_, ?_, ?_, ?_, ?_, ?_, ?_, trivial⟩ ?_
              ·rintro L g v hL hcl hclo hT 
               cases hl11 : L 11 with
               | true =>
                simp only [hl11, cond_true, cond_false] at hT
                replace S : St A N w v [oK (some ⟨b4, 0, none⟩) a_0 r208.1, oB b9 T_Nd (Nd.C r5.2), oB b2 T_Term (Term.C (⟨a2.kind, a2.name, a2.other, a2.form, s_2⟩ : Term))] [oDTerm s201 ((at_ PTerm.z a2.sub 0).sub), fS 2 Hyp.C s_1 a1, oDTerm s_2 a2.sub, oEt, oCl s_2.blk (s_2.off + Int.toNat 1 * 5) (Term.C (⟨(at_ PTerm.z a2.sub 1).kind, (at_ PTerm.z a2.sub 1).name, (at_ PTerm.z a2.sub 1).other, (at_ PTerm.z a2.sub 1).form, s207⟩ : Term)), oDTerm s207 ((at_ PTerm.z a2.sub 1).sub)] := hT
                refine wd (does_mv_p rfl) ?_
                exact wl_nil (ob4 trivial rfl (by simp only [plus_ne (L := L) (i := 0) (j := 11) rfl, hl11, cond_true, cond_false]; exact S))
               | false =>
                simp only [hl11, cond_true, cond_false] at hT
                replace S : St A N w v [oK (some ⟨b4, 0, none⟩) a_0 r203.1, oB b9 T_Nd (Nd.C r5.2), oB b2 T_Term (Term.C (⟨a2.kind, a2.name, a2.other, a2.form, s_2⟩ : Term))] [oDTerm s201 ((at_ PTerm.z a2.sub 0).sub), fS 2 Hyp.C s_1 a1, oDTerm s_2 a2.sub, oEt, oCl s_2.blk (s_2.off + Int.toNat 1 * 5) (Term.C (⟨(at_ PTerm.z a2.sub 1).kind, (at_ PTerm.z a2.sub 1).name, (at_ PTerm.z a2.sub 1).other, (at_ PTerm.z a2.sub 1).form, s207⟩ : Term)), oDTerm s207 ((at_ PTerm.z a2.sub 1).sub)] := hT
                refine wd (does_mv_p rfl) ?_
                exact wl_nil (ob4 trivial rfl (by simp only [plus_ne (L := L) (i := 0) (j := 11) rfl, hl11, cond_true, cond_false]; exact S))
              ·rintro L g v hL hcl hclo hT 
               have hl11 : L 11 = false := by cases h : L 11 with | false => rfl | true => exact absurd (hclo 11 1 h (by kernel_rfl)) (by rw [hL]; decide)
               simp only [hl11, cond_true, cond_false] at hT
               replace S : St A N w v [oK (some ⟨b4, 0, none⟩) a_0 r203.1, oB b9 T_Nd (Nd.C r5.2), oB b2 T_Term (Term.C (⟨a2.kind, a2.name, a2.other, a2.form, s_2⟩ : Term))] [oDTerm s201 ((at_ PTerm.z a2.sub 0).sub), fS 2 Hyp.C s_1 a1, oDTerm s_2 a2.sub, oEt, oCl s_2.blk (s_2.off + Int.toNat 1 * 5) (Term.C (⟨(at_ PTerm.z a2.sub 1).kind, (at_ PTerm.z a2.sub 1).name, (at_ PTerm.z a2.sub 1).other, (at_ PTerm.z a2.sub 1).form, s207⟩ : Term)), oDTerm s207 ((at_ PTerm.z a2.sub 1).sub)] := hT
               refine wd (does_mv_p rfl) ?_
               exact wl_nil (ob4 trivial rfl (by simp only [plus_ne (L := L) (i := 1) (j := 11) rfl, hl11, cond_true, cond_false]; exact S))
              ·rintro L g v hL hcl hclo hT 
               have hl11 : L 11 = false := by cases h : L 11 with | false => rfl | true => exact absurd (hclo 11 2 h (by kernel_rfl)) (by rw [hL]; decide)
               simp only [hl11, cond_true, cond_false] at hT
               replace S : St A N w v [oK (some ⟨b4, 0, none⟩) a_0 r203.1, oB b9 T_Nd (Nd.C r5.2), oB b2 T_Term (Term.C (⟨a2.kind, a2.name, a2.other, a2.form, s_2⟩ : Term))] [oDTerm s201 ((at_ PTerm.z a2.sub 0).sub), fS 2 Hyp.C s_1 a1, oDTerm s_2 a2.sub, oEt, oCl s_2.blk (s_2.off + Int.toNat 1 * 5) (Term.C (⟨(at_ PTerm.z a2.sub 1).kind, (at_ PTerm.z a2.sub 1).name, (at_ PTerm.z a2.sub 1).other, (at_ PTerm.z a2.sub 1).form, s207⟩ : Term)), oDTerm s207 ((at_ PTerm.z a2.sub 1).sub)] := hT
               refine wd (does_mv_l rfl) ?_
               exact wl_nil (ob4 trivial rfl (by simp only [plus_ne (L := L) (i := 2) (j := 11) rfl, hl11, cond_true, cond_false]; exact S))
              ·rintro L g v hL hcl hclo hT 
               have hl11 : L 11 = false := by cases h : L 11 with | false => rfl | true => exact absurd (hclo 11 3 h (by kernel_rfl)) (by rw [hL]; decide)
               simp only [hl11, cond_true, cond_false] at hT
               replace S : St A N w v [oK (some ⟨b4, 0, none⟩) a_0 r203.1, oB b9 T_Nd (Nd.C r5.2), oB b2 T_Term (Term.C (⟨a2.kind, a2.name, a2.other, a2.form, s_2⟩ : Term))] [oDTerm s201 ((at_ PTerm.z a2.sub 0).sub), fS 2 Hyp.C s_1 a1, oDTerm s_2 a2.sub, oEt, oCl s_2.blk (s_2.off + Int.toNat 1 * 5) (Term.C (⟨(at_ PTerm.z a2.sub 1).kind, (at_ PTerm.z a2.sub 1).name, (at_ PTerm.z a2.sub 1).other, (at_ PTerm.z a2.sub 1).form, s207⟩ : Term)), oDTerm s207 ((at_ PTerm.z a2.sub 1).sub)] := hT
               refine wd (does_fieldAddr fl_Term_name rfl (o' := 1) rfl) ?_
               exact wl_nil (ob4 trivial rfl (by simp only [plus_ne (L := L) (i := 3) (j := 11) rfl, hl11, cond_true, cond_false]; exact S))
              ·rintro L g v hL hcl hclo hT hv3
               have hl11 : L 11 = false := by cases h : L 11 with | false => rfl | true => exact absurd (hclo 11 4 h (by kernel_rfl)) (by rw [hL]; decide)
               simp only [hl11, cond_true, cond_false] at hT
               replace S : St A N w v [oK (some ⟨b4, 0, none⟩) a_0 r203.1, oB b9 T_Nd (Nd.C r5.2), oB b2 T_Term (Term.C (⟨a2.kind, a2.name, a2.other, a2.form, s_2⟩ : Term))] [oDTerm s201 ((at_ PTerm.z a2.sub 0).sub), fS 2 Hyp.C s_1 a1, oDTerm s_2 a2.sub, oEt, oCl s_2.blk (s_2.off + Int.toNat 1 * 5) (Term.C (⟨(at_ PTerm.z a2.sub 1).kind, (at_ PTerm.z a2.sub 1).name, (at_ PTerm.z a2.sub 1).other, (at_ PTerm.z a2.sub 1).form, s207⟩ : Term)), oDTerm s207 ((at_ PTerm.z a2.sub 1).sub)] := hT
               refine wd (does_load on_string hv3 ((S.blk 2).cell (Term.get_name _))) ?_
               exact wl_nil (ob4 trivial rfl (by simp only [plus_ne (L := L) (i := 4) (j := 11) rfl, hl11, cond_true, cond_false]; exact S))
              ·rintro L g v hL hcl hclo hT 
               have hl11 : L 11 = false := by cases h : L 11 with | false => rfl | true => exact absurd (hclo 11 5 h (by kernel_rfl)) (by rw [hL]; decide)
               simp only [hl11, cond_true, cond_false] at hT
               replace S : St A N w v [oK (some ⟨b4, 0, none⟩) a_0 r203.1, oB b9 T_Nd (Nd.C r5.2), oB b2 T_Term (Term.C (⟨a2.kind, a2.name, a2.other, a2.form, s_2⟩ : Term))] [oDTerm s201 ((at_ PTerm.z a2.sub 0).sub), fS 2 Hyp.C s_1 a1, oDTerm s_2 a2.sub, oEt, oCl s_2.blk (s_2.off + Int.toNat 1 * 5) (Term.C (⟨(at_ PTerm.z a2.sub 1).kind, (at_ PTerm.z a2.sub 1).name, (at_ PTerm.z a2.sub 1).other, (at_ PTerm.z a2.sub 1).form, s207⟩ : Term)), oDTerm s207 ((at_ PTerm.z a2.sub 1).sub)] := hT
               refine wd (does_mv_i rfl) ?_
               exact wl_nil (ob4 trivial rfl (by simp only [plus_ne (L := L) (i := 5) (j := 11) rfl, hl11, cond_true, cond_false]; exact S))
              ·rintro L g v hL hcl hclo hT 
               have hl11 : L 11 = false := by cases h : L 11 with | false => rfl | true => exact absurd (hclo 11 6 h (by kernel_rfl)) (by rw [hL]; decide)
               simp only [hl11, cond_true, cond_false] at hT
               replace S : St A N w v [oK (some ⟨b4, 0, none⟩) a_0 r203.1, oB b9 T_Nd (Nd.C r5.2), oB b2 T_Term (Term.C (⟨a2.kind, a2.name, a2.other, a2.form, s_2⟩ : Term))] [oDTerm s201 ((at_ PTerm.z a2.sub 0).sub), fS 2 Hyp.C s_1 a1, oDTerm s_2 a2.sub, oEt, oCl s_2.blk (s_2.off + Int.toNat 1 * 5) (Term.C (⟨(at_ PTerm.z a2.sub 1).kind, (at_ PTerm.z a2.sub 1).name, (at_ PTerm.z a2.sub 1).other, (at_ PTerm.z a2.sub 1).form, s207⟩ : Term)), oDTerm s207 ((at_ PTerm.z a2.sub 1).sub)] := hT
               refine wd (does_fieldAddr fl_Term_sub rfl (o' := 4) rfl) ?_
               exact wl_nil (ob4 trivial rfl (by simp only [plus_ne (L := L) (i := 6) (j := 11) rfl, hl11, cond_true, cond_false]; exact S))
              ·rintro L g v hL hcl hclo hT hv6
               have hl11 : L 11 = false := by cases h : L 11 with | false => rfl | true => exact absurd (hclo 11 7 h (by kernel_rfl)) (by rw [hL]; decide)
               simp only [hl11, cond_true, cond_false] at hT
               replace S : St A N w v [oK (some ⟨b4, 0, none⟩) a_0 r203.1, oB b9 T_Nd (Nd.C r5.2), oB b2 T_Term (Term.C (⟨a2.kind, a2.name, a2.other, a2.form, s_2⟩ : Term))] [oDTerm s201 ((at_ PTerm.z a2.sub 0).sub), fS 2 Hyp.C s_1 a1, oDTerm s_2 a2.sub, oEt, oCl s_2.blk (s_2.off + Int.toNat 1 * 5) (Term.C (⟨(at_ PTerm.z a2.sub 1).kind, (at_ PTerm.z a2.sub 1).name, (at_ PTerm.z a2.sub 1).other, (at_ PTerm.z a2.sub 1).form, s207⟩ : Term)), oDTerm s207 ((at_ PTerm.z a2.sub 1).sub)] := hT
               refine wd (does_load on_L_api_Term hv6 ((S.blk 2).cell (Term.get_sub _))) ?_
               exact wl_nil (ob4 trivial rfl (by simp only [plus_ne (L := L) (i := 7) (j := 11) rfl, hl11, cond_true, cond_false]; exact S))
              ·rintro L g v hL hcl hclo hT hv7
               have hl11 : L 11 = false := by cases h : L 11 with | false => rfl | true => exact absurd (hclo 11 8 h (by kernel_rfl)) (by rw [hL]; decide)
               simp only [hl11, cond_true, cond_false] at hT
               replace S : St A N w v [oK (some ⟨b4, 0, none⟩) a_0 r203.1, oB b9 T_Nd (Nd.C r5.2), oB b2 T_Term (Term.C (⟨a2.kind, a2.name, a2.other, a2.form, s_2⟩ : Term))] [oDTerm s201 ((at_ PTerm.z a2.sub 0).sub), fS 2 Hyp.C s_1 a1, oDTerm s_2 a2.sub, oEt, oCl s_2.blk (s_2.off + Int.toNat 1 * 5) (Term.C (⟨(at_ PTerm.z a2.sub 1).kind, (at_ PTerm.z a2.sub 1).name, (at_ PTerm.z a2.sub 1).other, (at_ PTerm.z a2.sub 1).form, s207⟩ : Term)), oDTerm s207 ((at_ PTerm.z a2.sub 1).sub)] := hT
               refine wd (does_indexF sl_L_api_Term hv7 rfl (S.onZ 2) (inb_ex hi206).1 (inb_ex hi206).2) ?_
               exact wl_nil (ob4 trivial rfl (by simp only [plus_ne (L := L) (i := 8) (j := 11) rfl, hl11, cond_true, cond_false]; exact S))
              ·rintro L g v hL hcl hclo hT hv8
               have hl11 : L 11 = false := by cases h : L 11 with | false => rfl | true => exact absurd (hclo 11 9 h (by kernel_rfl)) (by rw [hL]; decide)
               simp only [hl11, cond_true, cond_false] at hT
               replace S : St A N w v [oK (some ⟨b4, 0, none⟩) a_0 r203.1, oB b9 T_Nd (Nd.C r5.2), oB b2 T_Term (Term.C (⟨a2.kind, a2.name, a2.other, a2.form, s_2⟩ : Term))] [oDTerm s201 ((at_ PTerm.z a2.sub 0).sub), fS 2 Hyp.C s_1 a1, oDTerm s_2 a2.sub, oEt, oCl s_2.blk (s_2.off + Int.toNat 1 * 5) (Term.C (⟨(at_ PTerm.z a2.sub 1).kind, (at_ PTerm.z a2.sub 1).name, (at_ PTerm.z a2.sub 1).other, (at_ PTerm.z a2.sub 1).form, s207⟩ : Term)), oDTerm s207 ((at_ PTerm.z a2.sub 1).sub)] := hT
               refine wd (does_load_agg ag_Term hv8 (S.cl 4) (Term.len _)) ?_
               exact wl_nil (ob4 trivial rfl (by simp only [plus_ne (L := L) (i := 9) (j := 11) rfl, hl11, cond_true, cond_false]; exact S))
              ·rintro L g v hL hcl hclo hT 
               have hl11 : L 11 = false := by cases h : L 11 with | false => rfl | true => exact absurd (hclo 11 10 h (by kernel_rfl)) (by rw [hL]; decide)
               simp only [hl11, cond_true, cond_false] at hT
               replace S : St A N w v [oK (some ⟨b4, 0, none⟩) a_0 r203.1, oB b9 T_Nd (Nd.C r5.2), oB b2 T_Term (Term.C (⟨a2.kind, a2.name, a2.other, a2.form, s_2⟩ : Term))] [oDTerm s201 ((at_ PTerm.z a2.sub 0).sub), fS 2 Hyp.C s_1 a1, oDTerm s_2 a2.sub, oEt, oCl s_2.blk (s_2.off + Int.toNat 1 * 5) (Term.C (⟨(at_ PTerm.z a2.sub 1).kind, (at_ PTerm.z a2.sub 1).name, (at_ PTerm.z a2.sub 1).other, (at_ PTerm.z a2.sub 1).form, s207⟩ : Term)), oDTerm s207 ((at_ PTerm.z a2.sub 1).sub)] := hT
               refine wd (does_mv_i rfl) ?_
               exact wl_nil (ob4 trivial rfl (by simp only [plus_ne (L := L) (i := 10) (j := 11) rfl, hl11, cond_true, cond_false]; exact S))
              ·rintro L g v hL hcl hclo hT hv1 hv2 hv4 hv5 hv9 hv10
               have hl11 : L 11 = false := hL
               simp only [hl11, cond_true, cond_false] at hT
               replace S : St A N w v [oK (some ⟨b4, 0, none⟩) a_0 r203.1, oB b9 T_Nd (Nd.C r5.2), oB b2 T_Term (Term.C (⟨a2.kind, a2.name, a2.other, a2.form, s_2⟩ : Term))] [oDTerm s201 ((at_ PTerm.z a2.sub 0).sub), fS 2 Hyp.C s_1 a1, oDTerm s_2 a2.sub, oEt, oCl s_2.blk (s_2.off + Int.toNat 1 * 5) (Term.C (⟨(at_ PTerm.z a2.sub 1).kind, (at_ PTerm.z a2.sub 1).name, (at_ PTerm.z a2.sub 1).other, (at_ PTerm.z a2.sub 1).form, s207⟩ : Term)), oDTerm s207 ((at_ PTerm.z a2.sub 1).sub)] := hT
               obtain ⟨B214, MB214, SB214, back⟩ := S.calln 1 ((.z 1 rfl (.z 5 rfl (.z 3 rfl .nil))))
               refine wl_call (does_callg ca_hilbert_maker_under (cons2 hv1 (cons2 hv2 (cons2 hv4 (cons2 hv5 (cons2 hv9 (cons2 hv10 rfl))))))) (by decide) (hilbert_maker_under_gst hrec_hilbert_compile (a4 := (at_ PTerm.z a2.sub 1)) SB214 er208) ?_
               rintro _ w213 ⟨rfl, S2⟩
               replace S := back _ _ _ _ S2 rfl
               clear back S2 SB214
               exact wl_nil (ob4 trivial rfl (by simp only [plus_self (L := L) (i := 11), cond_true, cond_false]; exact S))
              ·rintro L g v hL hcl hclo hT 
               cases hl11 : L 11 with
               | true =>
                simp only [hl11, cond_true, cond_false] at hT
                replace S : St A N w v [oK (some ⟨b4, 0, none⟩) a_0 r208.1, oB b9 T_Nd (Nd.C r5.2), oB b2 T_Term (Term.C (⟨a2.kind, a2.name, a2.other, a2.form, s_2⟩ : Term))] [oDTerm s201 ((at_ PTerm.z a2.sub 0).sub), fS 2 Hyp.C s_1 a1, oDTerm s_2 a2.sub, oEt, oCl s_2.blk (s_2.off + Int.toNat 1 * 5) (Term.C (⟨(at_ PTerm.z a2.sub 1).kind, (at_ PTerm.z a2.sub 1).name, (at_ PTerm.z a2.sub 1).other, (at_ PTerm.z a2.sub 1).form, s207⟩ : Term)), oDTerm s207 ((at_ PTerm.z a2.sub 1).sub)] := hT
                refine wd (does_mv_i rfl) ?_
                exact wl_nil (ob4 trivial rfl (by simp only [plus_ne (L := L) (i := 12) (j := 11) rfl, hl11, cond_true, cond_false]; exact S))
               | false =>
                simp only [hl11, cond_true, cond_false] at hT
                replace S : St A N w v [oK (some ⟨b4, 0, none⟩) a_0 r203.1, oB b9 T_Nd (Nd.C r5.2), oB b2 T_Term (Term.C (⟨a2.kind, a2.name, a2.other, a2.form, s_2⟩ : Term))] [oDTerm s201 ((at_ PTerm.z a2.sub 0).sub), fS 2 Hyp.C s_1 a1, oDTerm s_2 a2.sub, oEt, oCl s_2.blk (s_2.off + Int.toNat 1 * 5) (Term.C (⟨(at_ PTerm.z a2.sub 1).kind, (at_ PTerm.z a2.sub 1).name, (at_ PTerm.z a2.sub 1).other, (at_ PTerm.z a2.sub 1).form, s207⟩ : Term)), oDTerm s207 ((at_ PTerm.z a2.sub 1).sub)] := hT
                refine wd (does_mv_i rfl) ?_
                exact wl_nil (ob4 trivial rfl (by simp only [plus_ne (L := L) (i := 12) (j := 11) rfl, hl11, cond_true, cond_false]; exact S))
              rintro L g w215 hLm hT hv216_0 hv216_1 hv216_2 hv216_3 hv216_4 hv216_5 hv216_6 hv216_7 hv216_8 hv216_9 hv216_10 hv216_11 hv216_12
              have hLt : ∀ j, j < 13 → L j = true := fun j hj => by rw [hLm]; exact decide_eq_true hj
              simp only [hLt 11 (by decide), cond_true] at hT
              replace S : St A N w w215 [oK (some ⟨b4, 0, none⟩) a_0 r208.1, oB b9 T_Nd (Nd.C r5.2), oB b2 T_Term (Term.C (⟨a2.kind, a2.name, a2.other, a2.form, s_2⟩ : Term))] [oDTerm s201 ((at_ PTerm.z a2.sub 0).sub), fS 2 Hyp.C s_1 a1, oDTerm s_2 a2.sub, oEt, oCl s_2.blk (s_2.off + Int.toNat 1 * 5) (Term.C (⟨(at_ PTerm.z a2.sub 1).kind, (at_ PTerm.z a2.sub 1).name, (at_ PTerm.z a2.sub 1).other, (at_ PTerm.z a2.sub 1).form, s207⟩ : Term)), oDTerm s207 ((at_ PTerm.z a2.sub 1).sub)] := hT
              replace S := S
              obtain ⟨r217, er217, H⟩ := bind_ex H
              obtain ⟨B219, MB219, SB219, back⟩ := S.calln 1 ((.nil))
              refine wl_call (does_callg ca_hilbert_maker_mp (cons2 hv216_0 (cons2 hv216_11 (cons2 hv216_12 rfl)))) (by decide) (hilbert_maker_mp_st SB219 er217) ?_
              rintro _ w218 ⟨rfl, S2⟩
              replace S := back _ _ _ _ S2 rfl
              clear back S2 SB219
              refine wl_nil ?_
              replace S := S.arr [1, 0, 2] [1, 2, 3]
              obtain rfl := Option.some.inj H
              exact ⟨rfl, (((((((((((((((((((((((((((((((((((((((Dif.refl _ _).upd rfl _).upd rfl _).upd rfl _).upd rfl _).upd rfl _).upd rfl _).upd rfl _).upd rfl _).upd rfl _).upd rfl _).upd rfl _).upd rfl _).upd rfl _).upd rfl _).upd rfl _).upd rfl _).upd rfl _).upd rfl _).upd rfl _).upd rfl _).upd rfl _).upd rfl _).upd rfl _).upd rfl _).upd rfl _).upd rfl _).upd rfl _).upd rfl _).upd rfl _).upd rfl _).upd rfl _).upd rfl _).upd rfl _).upd rfl _).upd rfl _).upd rfl _).mask rfl _).upd rfl _), S⟩
             ·replace H := if_f hc199 H
              refine wc_skip ?_
              obtain rfl := Option.some.inj H
              exact ⟨rfl, (((((((((((((((((((((((((Dif.refl _ _).upd rfl _).upd rfl _).upd rfl _).upd rfl _).upd rfl _).upd rfl _).upd rfl _).upd rfl _).upd rfl _).upd rfl _).upd rfl _).upd rfl _).upd rfl _).upd rfl _).upd rfl _).upd rfl _).upd rfl _).upd rfl _).upd rfl _).upd rfl _).upd rfl _).upd rfl _).upd rfl _).upd rfl _), S⟩
 rintro g220 u221 S
 have H := Ho11
 refine wc_seq ?_
 obtain ⟨p222, s224, hp223, S⟩ := S.open_oK 1
 replace S := S
 refine wc_quiet 9 (Ext u221) hmix (by kernel_rfl) (by kernel_rfl) (Ext.drawn _) (wq_does (fun v K => does_mv_p rfl) (wq_does (fun v K => does_nilCheck (congrArg Value.pointer hp223)) (wq_does (fun v K => does_fieldAddr fl_Maker_l rfl (o' := 1) rfl) (wq_does (fun v K => does_load on_L_api_Line rfl (((S.ext K).blk 0).cell (Maker.get_l _))) (wq_does (fun v K => does_mv_p rfl) ?_)))))
 refine wq_does (fun v K => does_nilCheck (congrArg Value.pointer hp223)) (wq_does (fun v K => does_fieldAddr fl_Maker_bad rfl (o' := 2) rfl) (wq_does (fun v K => does_load on_api_Errno rfl (((S.ext K).blk 0).cell (Maker.get_bad _))) (wq_does (fun v K => does_as_l rfl) ?_)))
 refine wq_nil fun w225 K => ?_
 replace S := S.ext K
 clear K
 refine wd (does_as_i rfl) (wl_nil (wc_ret ?_))
 refine ⟨_, (rets2 (retOne_tmp rfl) (retOne_tmp rfl)), ?_⟩
 replace S := S.arr [1, 2] []
 obtain rfl := Option.some.inj H
 exact ⟨s224, rfl, S⟩
theorem hilbert_compile_st {A : Nat → Prop} {N : Oth} {w : World} {a0 : Tb} {a_0 : Option Addr} {a1 : List Hyp} {s_1 : SlV} {a2 : PTerm} {s_2 : SlV} {a3 : Int} (S : St A N w w [oT a_0 a0] [fS 2 Hyp.C s_1 a1, oDTerm s_2 a2.sub, oEt]) {k : Nat} {r : Tb × List Ln × Int} (H : hilbert_compile.f k a0 a1 a2 a3 = some r) :
  Calls PP F_hilbert_compile #[.pointer a_0, s_1.v, .agg (Term.C (⟨a2.kind, a2.name, a2.other, a2.form, s_2⟩ : Term)).toArray, .int .i64 a3] w fun e w' => ∃ v, e = .returned v ∧ (∃ so0 : SlV, v = .tuple #[so0.v, .int .i64 r.2.2] ∧ St A N w w' [oT a_0 r.1, oS T_Ln 4 Ln.C so0 r.2.1] []) := by
 have main : ∀ (k : Nat) {A : Nat → Prop} {N : Oth} {w : World} {a0 : Tb} {a_0 : Option Addr} {a1 : List Hyp} {s_1 : SlV} {a2 : PTerm} {s_2 : SlV} {a3 : Int} (S : St A N w w [oT a_0 a0] [fS 2 Hyp.C s_1 a1, oDTerm s_2 a2.sub, oEt]) {r : Tb × List Ln × Int} (H : hilbert_compile.f k a0 a1 a2 a3 = some r), Calls PP F_hilbert_compile #[.pointer a_0, s_1.v, .agg (Term.C (⟨a2.kind, a2.name, a2.other, a2.form, s_2⟩ : Term)).toArray, .int .i64 a3] w fun e w' => ∃ v, e = .returned v ∧ (∃ so0 : SlV, v = .tuple #[so0.v, .int .i64 r.2.2] ∧ St A N w w' [oT a_0 r.1, oS T_Ln 4 Ln.C so0 r.2.1] []) := by
  intro k
  induction k with
  | zero => intro A N w a0 a_0 a1 s_1 a2 s_2 a3 S r H; cases H
  | succ k ih => intro A N w a0 a_0 a1 s_1 a2 s_2 a3 S r H; exact hilbert_compile_gst ih S H
 exact main k S H
theorem hilbert_Compile_st {A : Nat → Prop} {N : Oth} {w : World} {a0 : Tb} {a_0 : Option Addr} {a1 : List Hyp} {s_1 : SlV} {a2 : PTerm} {s_2 : SlV} {a3 : Int} (S : St A N w w [oT a_0 a0] [fS 2 Hyp.C s_1 a1, oDTerm s_2 a2.sub, oEt]) {k : Nat} {r : Tb × List Ln × Int} (H : hilbert_Compile.f k a0 a1 a2 a3 = some r) :
  Calls PP F_hilbert_Compile #[.pointer a_0, s_1.v, .agg (Term.C (⟨a2.kind, a2.name, a2.other, a2.form, s_2⟩ : Term)).toArray, .int .i64 a3] w fun e w' => ∃ v, e = .returned v ∧ (∃ so0 : SlV, v = .tuple #[so0.v, .int .i64 r.2.2] ∧ St A N w w' [oT a_0 r.1, oS T_Ln 4 Ln.C so0 r.2.1] []) := by
 unfold hilbert_Compile.f at H
 refine calls_of_wc (n := 40) fn_hilbert_Compile rfl rfl (by simp) (wc_seq (wc_region ?_))
 refine wl_box_agg rfl (by decide) fun b2 w1 hw1 => ?_
 replace S := S.new hw1
 refine wd (does_as_nil) (wd (does_as_i rfl) (wl_nil (wc_seq (wc_seq (wc_region (wd (does_mv_p rfl) (wd (does_mv_l rfl) ?_)))))))
 refine wd (does_load_agg ag_Term rfl ((S.blk 0).all _ (Term.len _)) (Term.len _)) (wd (does_mv_i rfl) ?_)
 obtain ⟨r3, er3, H⟩ := bind_ex H
 obtain ⟨B5, MB5, SB5, back⟩ := S.calln 0 ((.o 1 rfl (.z 0 rfl (.z 1 rfl (.z 2 rfl .nil)))))
 refine wl_call (does_call ca_types_Check) (by decide) (types_Check_st (a2 := a2) SB5 er3) ?_
 rintro _ w4 ⟨rfl, S2⟩
 replace S := back _ _ _ _ S2 rfl
 clear back S2 SB5
 refine wd (does_as_i rfl) (wl_nil (wc_seq (wc_region (wd (does_mv_i rfl) (wd (does_ne rfl rfl) (wl_nil ?_))))))
 refine wc_if rfl (fun hc6 => ?_) (fun hc6 => ?_)
 ·replace H := if_t hc6 H
  refine wc_seq (wc_region (wd (does_mv_i rfl) (wd (does_as_nil) (wd (does_as_i rfl) (wl_nil (wc_ret ?_))))))
  replace S := S.nil T_Ln 4 Ln.C
  refine ⟨_, (rets2 (retOne_tmp rfl) (retOne_tmp rfl)), ?_⟩
  replace S := S.arr [2, 0] []
  obtain rfl := Option.some.inj H
  exact ⟨SlV.nil, rfl, S⟩
 replace H := if_f hc6 H
 refine wc_skip (wc_seq (wc_region (wd (does_mv_p rfl) ?_)))
 obtain ⟨r7, er7, H⟩ := bind_ex H
 obtain ⟨B9, MB9, SB9, back⟩ := S.calln 0 ((.o 1 rfl .nil))
 refine wl_call (does_call ca_formula_Table_Len) (by decide) (formula_Table_Len_st SB9 er7) ?_
 rintro _ w8 ⟨rfl, S2⟩
 replace S := back _ _ _ _ S2 rfl
 clear back S2 SB9
 refine wd (does_as_i rfl) (wl_nil (wc_seq ?_))
 obtain ⟨r10, er10, H⟩ := bind_ex H
 obtain ⟨r14, er14, H⟩ := bind_ex H
 refine wc_draw5 10 ⟨fun _ _ => True, fun _ _ _ => True, fun i v _ => match i with
  | 0 => v = Value.pointer a_0
  | 1 => v = s_1.v
  | 3 => v = Value.agg (Term.C (⟨a2.kind, a2.name, a2.other, a2.form, s_2⟩ : Term)).toArray
  | 4 => v = Value.int .i64 a3
  | 8 => v = Value.int .i64 r14.2.2
  | _ => True⟩ (fun L g v => bif L 5 then (∃ (s13 : SlV) (s17 : SlV), (L 2 = true → g 27 = s13.v) ∧ (L 5 = true → g 30 = Value.tuple #[s17.v, .int .i64 r14.2.2]) ∧ (L 6 = true → g 24 = Value.tuple #[s17.v, .int .i64 r14.2.2]) ∧ (L 7 = true → g 31 = s17.v) ∧ (L 9 = true → g 12 = s17.v) ∧ St A N w v [oT a_0 r14.1, oS T_Ln 4 Ln.C s17 r14.2.1, oS T_Hyp 2 Hyp.C s13 r10, oB b2 T_Term (Term.C (⟨a2.kind, a2.name, a2.other, a2.form, s_2⟩ : Term))] [fS 2 Hyp.C s_1 a1, oDTerm s_2 a2.sub, oEt]) else bif L 2 then (∃ (s13 : SlV), (L 2 = true → g 27 = s13.v) ∧ St A N w v [oS T_Hyp 2 Hyp.C s13 r10, oB b2 T_Term (Term.C (⟨a2.kind, a2.name, a2.other, a2.form, s_2⟩ : Term)), oT a_0 a0] [fS 2 Hyp.C s_1 a1, oDTerm s_2 a2.sub, oEt]) else (St A N w v [oB b2 T_Term (Term.C (⟨a2.kind, a2.name, a2.other, a2.form, s_2⟩ : Term)), oT a_0 a0] [fS 2 Hyp.C s_1 a1, oDTerm s_2 a2.sub, oEt])) hmix (by kernel_rfl) (fun _ _ _ _ _ _ _ hv => hv) (fun g => S.ext (Ext.drawn _)) ⟨?_, ?_, ?_, ?_, ?_, ?_, ?_, ?_, ?_, ?_, trivial⟩ ?_
 ·rintro L g v hL hcl hclo hT 
  have hl5 : L 5 = false := by cases h : L 5 with | false => rfl | true => exact absurd (hclo 5 0 h (by kernel_rfl)) (by rw [hL]; decide)
  cases hl2 : L 2 with
  | true =>
   replace hT : ∃ (s13 : SlV), (L 2 = true → g 27 = s13.v) ∧ St A N w v [oS T_Hyp 2 Hyp.C s13 r10, oB b2 T_Term (Term.C (⟨a2.kind, a2.name, a2.other, a2.form, s_2⟩ : Term)), oT a_0 a0] [fS 2 Hyp.C s_1 a1, oDTerm s_2 a2.sub, oEt] := by simp only [hl2, hl5, cond_true, cond_false] at hT ⊢; exact hT
   obtain ⟨s13, he2, S⟩ := hT
   refine wd (does_mv_p rfl) ?_
   have hT2 : ∃ (s13' : SlV), ((plus L 0) 2 = true → (upd g 25 (Value.pointer a_0)) 27 = s13'.v) ∧ St A N w v [oS T_Hyp 2 Hyp.C s13' r10, oB b2 T_Term (Term.C (⟨a2.kind, a2.name, a2.other, a2.form, s_2⟩ : Term)), oT a_0 a0] [fS 2 Hyp.C s_1 a1, oDTerm s_2 a2.sub, oEt] := ⟨s13, fun h => by rw [upd_other _ _ _ _ (by decide)]; exact he2 (by rw [plus_ne rfl] at h; exact h), S⟩
   exact wl_nil (ob4 trivial rfl (by simp only [plus_ne (L := L) (i := 0) (j := 2) rfl, plus_ne (L := L) (i := 0) (j := 5) rfl, hl2, hl5, cond_true, cond_false] at hT2 ⊢; exact hT2))
  | false =>
   simp only [hl2, hl5, cond_true, cond_false] at hT
   replace S : St A N w v [oB b2 T_Term (Term.C (⟨a2.kind, a2.name, a2.other, a2.form, s_2⟩ : Term)), oT a_0 a0] [fS 2 Hyp.C s_1 a1, oDTerm s_2 a2.sub, oEt] := hT
   refine wd (does_mv_p rfl) ?_
   exact wl_nil (ob4 trivial rfl (by simp only [plus_ne (L := L) (i := 0) (j := 2) rfl, plus_ne (L := L) (i := 0) (j := 5) rfl, hl2, hl5, cond_true, cond_false]; exact S))
 ·rintro L g v hL hcl hclo hT 
  have hl2 : L 2 = false := by cases h : L 2 with | false => rfl | true => exact absurd (hclo 2 1 h (by kernel_rfl)) (by rw [hL]; decide)
  have hl5 : L 5 = false := by cases h : L 5 with | false => rfl | true => exact absurd (hclo 5 1 h (by kernel_rfl)) (by rw [hL]; decide)
  simp only [hl2, hl5, cond_true, cond_false] at hT
  replace S : St A N w v [oB b2 T_Term (Term.C (⟨a2.kind, a2.name, a2.other, a2.form, s_2⟩ : Term)), oT a_0 a0] [fS 2 Hyp.C s_1 a1, oDTerm s_2 a2.sub, oEt] := hT
  refine wd (does_mv_l rfl) ?_
  exact wl_nil (ob4 trivial rfl (by simp only [plus_ne (L := L) (i := 1) (j := 2) rfl, plus_ne (L := L) (i := 1) (j := 5) rfl, hl2, hl5, cond_true, cond_false]; exact S))
 ·rintro L g v hL hcl hclo hT hv1
  have hl2 : L 2 = false := hL
  have hl5 : L 5 = false := by cases h : L 5 with | false => rfl | true => exact absurd (hclo 5 2 h (by kernel_rfl)) (by rw [hL]; decide)
  simp only [hl2, hl5, cond_true, cond_false] at hT
  replace S : St A N w v [oB b2 T_Term (Term.C (⟨a2.kind, a2.name, a2.other, a2.form, s_2⟩ : Term)), oT a_0 a0] [fS 2 Hyp.C s_1 a1, oDTerm s_2 a2.sub, oEt] := hT
  obtain ⟨B20, MB20, SB20, back⟩ := S.calln 0 ((.z 0 rfl .nil))
  refine wl_call (does_callg ca_slices_Clone_api_Hyp_api_Hyp (cons2 hv1 rfl)) (by decide) (slices_Clone_api_Hyp_api_Hyp_st SB20 er10) ?_
  rintro _ w19 ⟨s13, rfl, S2⟩
  replace S := back _ _ _ _ S2 rfl
  clear back S2 SB20
  have hT2 : ∃ (s13' : SlV), ((plus L 2) 2 = true → (upd g 27 (s13.v)) 27 = s13'.v) ∧ St A N w w19 [oS T_Hyp 2 Hyp.C s13' r10, oB b2 T_Term (Term.C (⟨a2.kind, a2.name, a2.other, a2.form, s_2⟩ : Term)), oT a_0 a0] [fS 2 Hyp.C s_1 a1, oDTerm s_2 a2.sub, oEt] := ⟨s13, fun _ => upd_same _ _ _, S⟩
  exact wl_nil (ob4 trivial trivial (by simp only [plus_ne (L := L) (i := 2) (j := 5) rfl, plus_self (L := L) (i := 2), hl5, cond_true, cond_false] at hT2 ⊢; exact hT2))
 ·rintro L g v hL hcl hclo hT 
  have hl5 : L 5 = false := by cases h : L 5 with | false => rfl | true => exact absurd (hclo 5 3 h (by kernel_rfl)) (by rw [hL]; decide)
  cases hl2 : L 2 with
  | true =>
   replace hT : ∃ (s13 : SlV), (L 2 = true → g 27 = s13.v) ∧ St A N w v [oS T_Hyp 2 Hyp.C s13 r10, oB b2 T_Term (Term.C (⟨a2.kind, a2.name, a2.other, a2.form, s_2⟩ : Term)), oT a_0 a0] [fS 2 Hyp.C s_1 a1, oDTerm s_2 a2.sub, oEt] := by simp only [hl2, hl5, cond_true, cond_false] at hT ⊢; exact hT
   obtain ⟨s13, he2, S⟩ := hT
   refine wd (does_load_agg ag_Term rfl ((S.blk 1).all _ (Term.len _)) (Term.len _)) ?_
   have hT2 : ∃ (s13' : SlV), ((plus L 3) 2 = true → (upd g 28 (Value.agg (Term.C (⟨a2.kind, a2.name, a2.other, a2.form, s_2⟩ : Term)).toArray)) 27 = s13'.v) ∧ St A N w v [oS T_Hyp 2 Hyp.C s13' r10, oB b2 T_Term (Term.C (⟨a2.kind, a2.name, a2.other, a2.form, s_2⟩ : Term)), oT a_0 a0] [fS 2 Hyp.C s_1 a1, oDTerm s_2 a2.sub, oEt] := ⟨s13, fun h => by rw [upd_other _ _ _ _ (by decide)]; exact he2 (by rw [plus_ne rfl] at h; exact h), S⟩
   exact wl_nil (ob4 trivial rfl (by simp only [plus_ne (L := L) (i := 3) (j := 2) rfl, plus_ne (L := L) (i := 3) (j := 5) rfl, hl2, hl5, cond_true, cond_false] at hT2 ⊢; exact hT2))
  | false =>
   simp only [hl2, hl5, cond_true, cond_false] at hT
   replace S : St A N w v [oB b2 T_Term (Term.C (⟨a2.kind, a2.name, a2.other, a2.form, s_2⟩ : Term)), oT a_0 a0] [fS 2 Hyp.C s_1 a1, oDTerm s_2 a2.sub, oEt] := hT
   refine wd (does_load_agg ag_Term rfl ((S.blk 0).all _ (Term.len _)) (Term.len _)) ?_
   exact wl_nil (ob4 trivial rfl (by simp only [plus_ne (L := L) (i := 3) (j := 2) rfl, plus_ne (L := L) (i := 3) (j := 5) rfl, hl2, hl5, cond_true, cond_false]; exact S))
 ·rintro L g v hL hcl hclo hT 
  have hl5 : L 5 = false := by cases h : L 5 with | false => rfl | true => exact absurd (hclo 5 4 h (by kernel_rfl)) (by rw [hL]; decide)
  cases hl2 : L 2 with
  | true =>
   replace hT : ∃ (s13 : SlV), (L 2 = true → g 27 = s13.v) ∧ St A N w v [oS T_Hyp 2 Hyp.C s13 r10, oB b2 T_Term (Term.C (⟨a2.kind, a2.name, a2.other, a2.form, s_2⟩ : Term)), oT a_0 a0] [fS 2 Hyp.C s_1 a1, oDTerm s_2 a2.sub, oEt] := by simp only [hl2, hl5, cond_true, cond_false] at hT ⊢; exact hT
   obtain ⟨s13, he2, S⟩ := hT
   refine wd (does_mv_i rfl) ?_
   have hT2 : ∃ (s13' : SlV), ((plus L 4) 2 = true → (upd g 29 (Value.int .i64 a3)) 27 = s13'.v) ∧ St A N w v [oS T_Hyp 2 Hyp.C s13' r10, oB b2 T_Term (Term.C (⟨a2.kind, a2.name, a2.other, a2.form, s_2⟩ : Term)), oT a_0 a0] [fS 2 Hyp.C s_1 a1, oDTerm s_2 a2.sub, oEt] := ⟨s13, fun h => by rw [upd_other _ _ _ _ (by decide)]; exact he2 (by rw [plus_ne rfl] at h; exact h), S⟩
   exact wl_nil (ob4 trivial rfl (by simp only [plus_ne (L := L) (i := 4) (j := 2) rfl, plus_ne (L := L) (i := 4) (j := 5) rfl, hl2, hl5, cond_true, cond_false] at hT2 ⊢; exact hT2))
  | false =>
   simp only [hl2, hl5, cond_true, cond_false] at hT
   replace S : St A N w v [oB b2 T_Term (Term.C (⟨a2.kind, a2.name, a2.other, a2.form, s_2⟩ : Term)), oT a_0 a0] [fS 2 Hyp.C s_1 a1, oDTerm s_2 a2.sub, oEt] := hT
   refine wd (does_mv_i rfl) ?_
   exact wl_nil (ob4 trivial rfl (by simp only [plus_ne (L := L) (i := 4) (j := 2) rfl, plus_ne (L := L) (i := 4) (j := 5) rfl, hl2, hl5, cond_true, cond_false]; exact S))
 ·rintro L g v hL hcl hclo hT hv0 hv2 hv3 hv4
  have hl2 : L 2 = true := hcl 2 (by kernel_rfl)
  have hl5 : L 5 = false := hL
  replace hT : ∃ (s13 : SlV), (L 2 = true → g 27 = s13.v) ∧ St A N w v [oS T_Hyp 2 Hyp.C s13 r10, oB b2 T_Term (Term.C (⟨a2.kind, a2.name, a2.other, a2.form, s_2⟩ : Term)), oT a_0 a0] [fS 2 Hyp.C s_1 a1, oDTerm s_2 a2.sub, oEt] := by simp only [hl2, hl5, cond_true, cond_false] at hT ⊢; exact hT
  obtain ⟨s13, he2, S⟩ := hT
  replace S := S.front 2
  obtain ⟨B23, MB23, SB23, back⟩ := S.calln 1 ((.s 0 rfl (.z 1 rfl (.z 2 rfl .nil))))
  refine wl_call (does_callg ca_hilbert_compile (cons2 hv0 (cons2 (he2 (hcl 2 (by kernel_rfl))) (cons2 hv3 (cons2 hv4 rfl))))) (by decide) (hilbert_compile_st (a2 := a2) SB23 er14) ?_
  rintro _ w22 ⟨s17, rfl, S2⟩
  replace S := back _ _ _ _ S2 rfl
  clear back S2 SB23
  have hT2 : ∃ (s13' : SlV) (s17' : SlV), ((plus L 5) 2 = true → (upd g 30 (Value.tuple #[s17.v, .int .i64 r14.2.2])) 27 = s13'.v) ∧ ((plus L 5) 5 = true → (upd g 30 (Value.tuple #[s17.v, .int .i64 r14.2.2])) 30 = Value.tuple #[s17'.v, .int .i64 r14.2.2]) ∧ ((plus L 5) 6 = true → (upd g 30 (Value.tuple #[s17.v, .int .i64 r14.2.2])) 24 = Value.tuple #[s17'.v, .int .i64 r14.2.2]) ∧ ((plus L 5) 7 = true → (upd g 30 (Value.tuple #[s17.v, .int .i64 r14.2.2])) 31 = s17'.v) ∧ ((plus L 5) 9 = true → (upd g 30 (Value.tuple #[s17.v, .int .i64 r14.2.2])) 12 = s17'.v) ∧ St A N w w22 [oT a_0 r14.1, oS T_Ln 4 Ln.C s17' r14.2.1, oS T_Hyp 2 Hyp.C s13' r10, oB b2 T_Term (Term.C (⟨a2.kind, a2.name, a2.other, a2.form, s_2⟩ : Term))] [fS 2 Hyp.C s_1 a1, oDTerm s_2 a2.sub, oEt] := ⟨s13, s17, fun h => by rw [upd_other _ _ _ _ (by decide)]; exact he2 (by rw [plus_ne rfl] at h; exact h), fun _ => upd_same _ _ _, fun h => absurd (hclo 6 5 (by rw [plus_ne rfl] at h; exact h) (by kernel_rfl)) (by rw [hL]; decide), fun h => absurd (hclo 7 5 (by rw [plus_ne rfl] at h; exact h) (by kernel_rfl)) (by rw [hL]; decide), fun h => absurd (hclo 9 5 (by rw [plus_ne rfl] at h; exact h) (by kernel_rfl)) (by rw [hL]; decide), S⟩
  exact wl_nil (ob4 trivial trivial (by simp only [plus_ne (L := L) (i := 5) (j := 2) rfl, plus_self (L := L) (i := 5), cond_true, cond_false] at hT2 ⊢; exact hT2))
 ·rintro L g v hL hcl hclo hT hv5
  have hl5 : L 5 = true := hcl 5 (by kernel_rfl)
  replace hT : ∃ (s13 : SlV) (s17 : SlV), (L 2 = true → g 27 = s13.v) ∧ (L 5 = true → g 30 = Value.tuple #[s17.v, .int .i64 r14.2.2]) ∧ (L 6 = true → g 24 = Value.tuple #[s17.v, .int .i64 r14.2.2]) ∧ (L 7 = true → g 31 = s17.v) ∧ (L 9 = true → g 12 = s17.v) ∧ St A N w v [oT a_0 r14.1, oS T_Ln 4 Ln.C s17 r14.2.1, oS T_Hyp 2 Hyp.C s13 r10, oB b2 T_Term (Term.C (⟨a2.kind, a2.name, a2.other, a2.form, s_2⟩ : Term))] [fS 2 Hyp.C s_1 a1, oDTerm s_2 a2.sub, oEt] := by simp only [hl5, cond_true, cond_false] at hT ⊢; exact hT
  obtain ⟨s13, s17, he2, he5, he6, he7, he9, S⟩ := hT
  refine wd (does_mv_t (he5 (hcl 5 (by kernel_rfl)))) ?_
  have hT2 : ∃ (s13' : SlV) (s17' : SlV), ((plus L 6) 2 = true → (upd g 24 (Value.tuple #[s17.v, .int .i64 r14.2.2])) 27 = s13'.v) ∧ ((plus L 6) 5 = true → (upd g 24 (Value.tuple #[s17.v, .int .i64 r14.2.2])) 30 = Value.tuple #[s17'.v, .int .i64 r14.2.2]) ∧ ((plus L 6) 6 = true → (upd g 24 (Value.tuple #[s17.v, .int .i64 r14.2.2])) 24 = Value.tuple #[s17'.v, .int .i64 r14.2.2]) ∧ ((plus L 6) 7 = true → (upd g 24 (Value.tuple #[s17.v, .int .i64 r14.2.2])) 31 = s17'.v) ∧ ((plus L 6) 9 = true → (upd g 24 (Value.tuple #[s17.v, .int .i64 r14.2.2])) 12 = s17'.v) ∧ St A N w v [oT a_0 r14.1, oS T_Ln 4 Ln.C s17' r14.2.1, oS T_Hyp 2 Hyp.C s13' r10, oB b2 T_Term (Term.C (⟨a2.kind, a2.name, a2.other, a2.form, s_2⟩ : Term))] [fS 2 Hyp.C s_1 a1, oDTerm s_2 a2.sub, oEt] := ⟨s13, s17, fun h => by rw [upd_other _ _ _ _ (by decide)]; exact he2 (by rw [plus_ne rfl] at h; exact h), fun h => by rw [upd_other _ _ _ _ (by decide)]; exact he5 (by rw [plus_ne rfl] at h; exact h), fun _ => upd_same _ _ _, fun h => by rw [upd_other _ _ _ _ (by decide)]; exact he7 (by rw [plus_ne rfl] at h; exact h), fun h => by rw [upd_other _ _ _ _ (by decide)]; exact he9 (by rw [plus_ne rfl] at h; exact h), S⟩
  exact wl_nil (ob4 trivial trivial (by simp only [plus_ne (L := L) (i := 6) (j := 2) rfl, plus_ne (L := L) (i := 6) (j := 5) rfl, hl5, cond_true, cond_false] at hT2 ⊢; exact hT2))
 ·rintro L g v hL hcl hclo hT hv6
  have hl5 : L 5 = true := hcl 5 (by kernel_rfl)
  replace hT : ∃ (s13 : SlV) (s17 : SlV), (L 2 = true → g 27 = s13.v) ∧ (L 5 = true → g 30 = Value.tuple #[s17.v, .int .i64 r14.2.2]) ∧ (L 6 = true → g 24 = Value.tuple #[s17.v, .int .i64 r14.2.2]) ∧ (L 7 = true → g 31 = s17.v) ∧ (L 9 = true → g 12 = s17.v) ∧ St A N w v [oT a_0 r14.1, oS T_Ln 4 Ln.C s17 r14.2.1, oS T_Hyp 2 Hyp.C s13 r10, oB b2 T_Term (Term.C (⟨a2.kind, a2.name, a2.other, a2.form, s_2⟩ : Term))] [fS 2 Hyp.C s_1 a1, oDTerm s_2 a2.sub, oEt] := by simp only [hl5, cond_true, cond_false] at hT ⊢; exact hT
  obtain ⟨s13, s17, he2, he5, he6, he7, he9, S⟩ := hT
  refine wd (does_extract (he6 (hcl 6 (by kernel_rfl))) rfl) ?_
  have hT2 : ∃ (s13' : SlV) (s17' : SlV), ((plus L 7) 2 = true → (upd g 31 (s17.v)) 27 = s13'.v) ∧ ((plus L 7) 5 = true → (upd g 31 (s17.v)) 30 = Value.tuple #[s17'.v, .int .i64 r14.2.2]) ∧ ((plus L 7) 6 = true → (upd g 31 (s17.v)) 24 = Value.tuple #[s17'.v, .int .i64 r14.2.2]) ∧ ((plus L 7) 7 = true → (upd g 31 (s17.v)) 31 = s17'.v) ∧ ((plus L 7) 9 = true → (upd g 31 (s17.v)) 12 = s17'.v) ∧ St A N w v [oT a_0 r14.1, oS T_Ln 4 Ln.C s17' r14.2.1, oS T_Hyp 2 Hyp.C s13' r10, oB b2 T_Term (Term.C (⟨a2.kind, a2.name, a2.other, a2.form, s_2⟩ : Term))] [fS 2 Hyp.C s_1 a1, oDTerm s_2 a2.sub, oEt] := ⟨s13, s17, fun h => by rw [upd_other _ _ _ _ (by decide)]; exact he2 (by rw [plus_ne rfl] at h; exact h), fun h => by rw [upd_other _ _ _ _ (by decide)]; exact he5 (by rw [plus_ne rfl] at h; exact h), fun h => by rw [upd_other _ _ _ _ (by decide)]; exact he6 (by rw [plus_ne rfl] at h; exact h), fun _ => upd_same _ _ _, fun h => by rw [upd_other _ _ _ _ (by decide)]; exact he9 (by rw [plus_ne rfl] at h; exact h), S⟩
  exact wl_nil (ob4 trivial trivial (by simp only [plus_ne (L := L) (i := 7) (j := 2) rfl, plus_ne (L := L) (i := 7) (j := 5) rfl, hl5, cond_true, cond_false] at hT2 ⊢; exact hT2))
 ·rintro L g v hL hcl hclo hT hv6
  have hl5 : L 5 = true := hcl 5 (by kernel_rfl)
  replace hT : ∃ (s13 : SlV) (s17 : SlV), (L 2 = true → g 27 = s13.v) ∧ (L 5 = true → g 30 = Value.tuple #[s17.v, .int .i64 r14.2.2]) ∧ (L 6 = true → g 24 = Value.tuple #[s17.v, .int .i64 r14.2.2]) ∧ (L 7 = true → g 31 = s17.v) ∧ (L 9 = true → g 12 = s17.v) ∧ St A N w v [oT a_0 r14.1, oS T_Ln 4 Ln.C s17 r14.2.1, oS T_Hyp 2 Hyp.C s13 r10, oB b2 T_Term (Term.C (⟨a2.kind, a2.name, a2.other, a2.form, s_2⟩ : Term))] [fS 2 Hyp.C s_1 a1, oDTerm s_2 a2.sub, oEt] := by simp only [hl5, cond_true, cond_false] at hT ⊢; exact hT
  obtain ⟨s13, s17, he2, he5, he6, he7, he9, S⟩ := hT
  refine wd (does_extract (he6 (hcl 6 (by kernel_rfl))) rfl) ?_
  have hT2 : ∃ (s13' : SlV) (s17' : SlV), ((plus L 8) 2 = true → (upd g 32 (Value.int .i64 r14.2.2)) 27 = s13'.v) ∧ ((plus L 8) 5 = true → (upd g 32 (Value.int .i64 r14.2.2)) 30 = Value.tuple #[s17'.v, .int .i64 r14.2.2]) ∧ ((plus L 8) 6 = true → (upd g 32 (Value.int .i64 r14.2.2)) 24 = Value.tuple #[s17'.v, .int .i64 r14.2.2]) ∧ ((plus L 8) 7 = true → (upd g 32 (Value.int .i64 r14.2.2)) 31 = s17'.v) ∧ ((plus L 8) 9 = true → (upd g 32 (Value.int .i64 r14.2.2)) 12 = s17'.v) ∧ St A N w v [oT a_0 r14.1, oS T_Ln 4 Ln.C s17' r14.2.1, oS T_Hyp 2 Hyp.C s13' r10, oB b2 T_Term (Term.C (⟨a2.kind, a2.name, a2.other, a2.form, s_2⟩ : Term))] [fS 2 Hyp.C s_1 a1, oDTerm s_2 a2.sub, oEt] := ⟨s13, s17, fun h => by rw [upd_other _ _ _ _ (by decide)]; exact he2 (by rw [plus_ne rfl] at h; exact h), fun h => by rw [upd_other _ _ _ _ (by decide)]; exact he5 (by rw [plus_ne rfl] at h; exact h), fun h => by rw [upd_other _ _ _ _ (by decide)]; exact he6 (by rw [plus_ne rfl] at h; exact h), fun h => by rw [upd_other _ _ _ _ (by decide)]; exact he7 (by rw [plus_ne rfl] at h; exact h), fun h => by rw [upd_other _ _ _ _ (by decide)]; exact he9 (by rw [plus_ne rfl] at h; exact h), S⟩
  exact wl_nil (ob4 trivial rfl (by simp only [plus_ne (L := L) (i := 8) (j := 2) rfl, plus_ne (L := L) (i := 8) (j := 5) rfl, hl5, cond_true, cond_false] at hT2 ⊢; exact hT2))
 ·rintro L g v hL hcl hclo hT hv7
  have hl5 : L 5 = true := hcl 5 (by kernel_rfl)
  replace hT : ∃ (s13 : SlV) (s17 : SlV), (L 2 = true → g 27 = s13.v) ∧ (L 5 = true → g 30 = Value.tuple #[s17.v, .int .i64 r14.2.2]) ∧ (L 6 = true → g 24 = Value.tuple #[s17.v, .int .i64 r14.2.2]) ∧ (L 7 = true → g 31 = s17.v) ∧ (L 9 = true → g 12 = s17.v) ∧ St A N w v [oT a_0 r14.1, oS T_Ln 4 Ln.C s17 r14.2.1, oS T_Hyp 2 Hyp.C s13 r10, oB b2 T_Term (Term.C (⟨a2.kind, a2.name, a2.other, a2.form, s_2⟩ : Term))] [fS 2 Hyp.C s_1 a1, oDTerm s_2 a2.sub, oEt] := by simp only [hl5, cond_true, cond_false] at hT ⊢; exact hT
  obtain ⟨s13, s17, he2, he5, he6, he7, he9, S⟩ := hT
  refine wd (does_as_l (he7 (hcl 7 (by kernel_rfl)))) ?_
  have hT2 : ∃ (s13' : SlV) (s17' : SlV), ((plus L 9) 2 = true → (upd g 12 (s17.v)) 27 = s13'.v) ∧ ((plus L 9) 5 = true → (upd g 12 (s17.v)) 30 = Value.tuple #[s17'.v, .int .i64 r14.2.2]) ∧ ((plus L 9) 6 = true → (upd g 12 (s17.v)) 24 = Value.tuple #[s17'.v, .int .i64 r14.2.2]) ∧ ((plus L 9) 7 = true → (upd g 12 (s17.v)) 31 = s17'.v) ∧ ((plus L 9) 9 = true → (upd g 12 (s17.v)) 12 = s17'.v) ∧ St A N w v [oT a_0 r14.1, oS T_Ln 4 Ln.C s17' r14.2.1, oS T_Hyp 2 Hyp.C s13' r10, oB b2 T_Term (Term.C (⟨a2.kind, a2.name, a2.other, a2.form, s_2⟩ : Term))] [fS 2 Hyp.C s_1 a1, oDTerm s_2 a2.sub, oEt] := ⟨s13, s17, fun h => by rw [upd_other _ _ _ _ (by decide)]; exact he2 (by rw [plus_ne rfl] at h; exact h), fun h => by rw [upd_other _ _ _ _ (by decide)]; exact he5 (by rw [plus_ne rfl] at h; exact h), fun h => by rw [upd_other _ _ _ _ (by decide)]; exact he6 (by rw [plus_ne rfl] at h; exact h), fun h => by rw [upd_other _ _ _ _ (by decide)]; exact he7 (by rw [plus_ne rfl] at h; exact h), fun _ => upd_same _ _ _, S⟩
  exact wl_nil (ob4 trivial trivial (by simp only [plus_ne (L := L) (i := 9) (j := 2) rfl, plus_ne (L := L) (i := 9) (j := 5) rfl, hl5, cond_true, cond_false] at hT2 ⊢; exact hT2))
 rintro L g w24 hLm hT hv25_0 hv25_1 _ hv25_3 hv25_4 _ _ _ hv25_8 _
 have hLt : ∀ j, j < 10 → L j = true := fun j hj => by rw [hLm]; exact decide_eq_true hj
 replace hT : ∃ (s13 : SlV) (s17 : SlV), (L 2 = true → g 27 = s13.v) ∧ (L 5 = true → g 30 = Value.tuple #[s17.v, .int .i64 r14.2.2]) ∧ (L 6 = true → g 24 = Value.tuple #[s17.v, .int .i64 r14.2.2]) ∧ (L 7 = true → g 31 = s17.v) ∧ (L 9 = true → g 12 = s17.v) ∧ St A N w w24 [oT a_0 r14.1, oS T_Ln 4 Ln.C s17 r14.2.1, oS T_Hyp 2 Hyp.C s13 r10, oB b2 T_Term (Term.C (⟨a2.kind, a2.name, a2.other, a2.form, s_2⟩ : Term))] [fS 2 Hyp.C s_1 a1, oDTerm s_2 a2.sub, oEt] := by simp only [hLt 5 (by decide), cond_true] at hT ⊢; exact hT
 obtain ⟨s13, s17, he2, he5, he6, he7, he9, S⟩ := hT
 have hv25_2 := he2 (hLt 2 (by decide))
 have hv25_5 := he5 (hLt 5 (by decide))
 have hv25_6 := he6 (hLt 6 (by decide))
 have hv25_7 := he7 (hLt 7 (by decide))
 have hv25_9 := he9 (hLt 9 (by decide))
 replace S := S
 refine wd (does_as_i hv25_8) (wl_nil (wc_seq (wc_region (wd (does_mv_p rfl) (wd (does_mv_i rfl) (wd (does_mv_l hv25_9) ?_))))))
 refine wd (does_mv_i rfl) ?_
 obtain ⟨r26, er26, H⟩ := bind_ex H
 replace S := (S.front 1).front 1
 obtain ⟨B28, MB28, SB28, back⟩ := S.calln 2 ((.nil))
 refine wl_call (does_call ca_hilbert_kept) (by decide) (hilbert_kept_st SB28 er26) ?_
 rintro _ w27 ⟨s29, rfl, S2⟩
 replace S := back _ _ _ _ S2 rfl
 clear back S2 SB28
 refine wd (does_extract rfl rfl) (wd (does_extract rfl rfl) (wd (does_as_l rfl) (wd (does_as_i rfl) (wl_nil (wc_ret ?_)))))
 refine ⟨_, (rets2 (retOne_tmp rfl) (retOne_tmp rfl)), ?_⟩
 replace S := S.arr [0, 1] []
 obtain rfl := Option.some.inj H
 exact ⟨s29, rfl, S⟩
end Go.Proofs.YtflieamjacclnaaGreatDoor
end
section
namespace Go.Proofs.YtflieamjacclnaaGreatDoor
open Go.RowKit
namespace Gw
def Made {γ : Type} (L : Nat → Bool) (g : Fr) (Z : List OA) (j : Nat) (d : Tmp) (val : γ → Value) (ps : γ → List OA) : Prop := L j = true → ∃ c : γ, g d = val c ∧ ∀ z ∈ ps c, z ∈ Z
section
variable {γ : Type} {L : Nat → Bool} {g : Fr} {Z Z' : List OA} {i j : Nat} {d e : Tmp} {x : Value} {val : γ → Value} {ps : γ → List OA}
theorem Made.no : Made (fun _ => false) g Z j d val ps := fun h => by cases h
theorem Made.keep (h : Made L g Z j d val ps) (h1 : Nat.beq j i = false) (h2 : Nat.beq d e = false) (hs : ∀ z ∈ Z, z ∈ Z') : Made (plus L i) (upd g e x) Z' j d val ps := fun hl => by
 rw [plus_ne h1] at hl
 obtain ⟨c, hc, hp⟩ := h hl
 exact ⟨c, by rw [upd_other _ _ _ _ (by intro q; rw [q] at h2; simp at h2)]; exact hc, fun z hz => hs z (hp z hz)⟩
theorem Made.one (c : γ) (hp : ∀ z ∈ ps c, z ∈ Z') : Made (plus L i) (upd g d (val c)) Z' i d val ps := fun _ => ⟨c, upd_same _ _ _, hp⟩
theorem zs_nil : ∀ z ∈ ([] : List OA), z ∈ Z := fun _ h => by cases h
theorem zs_cons {a : OA} {l : List OA} (h : a ∈ Z) (hl : ∀ z ∈ l, z ∈ Z) : ∀ z ∈ a :: l, z ∈ Z := fun z hz => (List.mem_cons.1 hz).elim (fun e => e ▸ h) (hl z)
theorem zs_app {l1 l2 : List OA} (h : ∀ z ∈ l1, z ∈ Z) (hl : ∀ z ∈ l2, z ∈ Z) : ∀ z ∈ l1 ++ l2, z ∈ Z := fun z hz => (List.mem_append.1 hz).elim (h z) (hl z)
theorem St.zneed {A : Nat → Prop} {N : Oth} {w0 w : World} {L Z Z1 : List OA} (h : St A N w0 w L Z) (hz : ∀ z ∈ Z1, z ∈ Z) : St A N w0 w L (Z1 ++ Z) := h.pickZ fun z q => (List.mem_append.1 q).elim (hz z) id
theorem does_callvg {P : Program} {f : Fr} {w : World} {dd : Option Tmp} {ty : TypeId} {pos : String} {af : Array Edge} {gd : Option (Nat × Bool)} {c : Operand} {k : FuncId} {fi ca : Array Value} {xs : Array Operand} {ats : Array TypeId} {l : List Value} (hg : Callable P k) (hv : evF f c = .func (.func k) fi ca) (hx : xs.toList.map (evF f) = l) : Enters P ⟨dd, .call ⟨.value c, xs, ats⟩, ty, pos, af, gd⟩ f w k (fi.toList ++ l ++ ca.toList).toArray := hx ▸ does_callv hg hv
end
end Gw
end Go.Proofs.YtflieamjacclnaaGreatDoor
end
