/- Texts put together: Chapter 16, parts of terms: the walks. Printed by pp.py, a program of mine. Chapter 16, the heads: the walks. Printed by pp.py, a program of mine. Chapter 16, tables of rows: the walks. Printed by pp.py, a program of mine. Chapter 16, HilbertIs: the walks. Printed by pp.py, a program of mine. Chapter 16, HilbertChecks: the walks. Printed by pp.py, a program of mine. Chapter 16, the document's deduction: the walks. Printed by pp.py, a program of mine. Tables out of rows, the program's and the document's: the plain law (out of chapter 09's). Chapter 16, plain: which formulas are axioms, told once for the program and for the document. Chapter 16, the plain law: HilbertIs. Chapter 16, plain: which lines are right, what Check answers, told once for the program and for the document. -/
import Derived.Test.YtflieamjacclnaaGreatDoorMHD4
set_option linter.unusedVariables false
set_option linter.unusedSimpArgs false
section
namespace Go.Proofs.YtflieamjacclnaaGreatDoor
open Gw Go.RowKit
set_option maxHeartbeats 4000000
set_option maxRecDepth 20000
theorem octet_Dec_st {A:Nat→Prop} {N:Oth} {w:World} {a0:Int} (S:St A N w w [] [oPw]) {r:ByteArray} (H:octet_Dec.f a0=some r) :
  Calls PP F_octet_Dec #[.int .i64 a0] w fun e w' => ∃ v,e = .returned v∧(v = .string r∧St A N w w' [] []):=by
 unfold octet_Dec.f at H
 refine zA (n:=5) fn_octet_Dec rfl rfl (by simp) (zd (za (wd (yQ rfl) (zb (zd (za (wd (zf rfl) ?_)))))))
 obtain ⟨r1,er1,H⟩ := zq H
 obtain ⟨B3,MB3,SB3,back⟩ := S.calln 0 ((.z 0 rfl .nil))
 refine zu (zp ca_strconv_Itoa) (by decide) (strconv_Itoa_st SB3 er1) ?_
 rintro _ w2 ⟨rfl,S2⟩
 replace S:=back _ _ _ _ S2 rfl
 clear back S2 SB3
 refine wd (yQ rfl) (zb (zx ?_))
 refine ⟨_,(zV (zg rfl)),?_⟩
 replace S:=S.arr [] []
 obtain rfl:=Option.some.inj H
 exact ⟨rfl,S⟩
theorem uS {A:Nat→Prop} {N:Oth} {w:World} {a0:Int} (S:St A N w w [] [oPw]) {r:ByteArray} (H:hilbert_Term_1.f a0=some r) :
  Calls PP xA #[.int .i64 a0] w fun e w' => ∃ v,e = .returned v∧(v = .string r∧St A N w w' [] []):=by
 unfold hilbert_Term_1.f at H
 refine zA (n:=6) fn_hilbert_Term_1 rfl rfl (by simp) (zd (za (wd (yQ rfl) (zb (zd (za (wd (zf rfl) ?_)))))))
 obtain ⟨r1,er1,H⟩ := zq H
 obtain ⟨B3,MB3,SB3,back⟩ := S.calln 0 ((.z 0 rfl .nil))
 refine zu (zp ca_octet_Dec) (by decide) (octet_Dec_st SB3 er1) ?_
 rintro _ w2 ⟨rfl,S2⟩
 replace S:=back _ _ _ _ S2 rfl
 clear back S2 SB3
 obtain ⟨hs4,H⟩ := xi H
 refine wd (does_concat rfl rfl (of_decide_eq_true hs4)) (wd (yQ rfl) (zb (zx ?_)))
 refine ⟨_,(zV (zg rfl)),?_⟩
 replace S:=S.arr [] []
 obtain rfl:=Option.some.inj H
 exact ⟨rfl,S⟩
theorem vu {A:Nat→Prop} {N:Oth} {w:World} {a0:ByteArray} (S:St A N w w [] []) {r:PTerm} (H:hilbert_v.f a0=some r) :
  Calls PP F_hilbert_v #[.string a0] w fun e w' => ∃ v,e = .returned v∧(∃ so0:SlV,v = .agg (Term.C (⟨r.kind,r.name,r.other,r.form,so0⟩ : Term)).toArray∧St A N w w' [] [zy so0 r.sub]):=by
 unfold hilbert_v.f at H
 refine zA (n:=5) fn_hilbert_v rfl rfl (by simp) (zd (za ?_))
 refine xe jp (by decide) fun b2 w1 hw1=>?_
 replace S:=S.new hw1
 refine zb (zd (za (wd (xB rfl) (wd (Does.to (v' := .agg (Term.C (⟨1,a0,ByteArray.empty,0,SlV.nil⟩ : Term)).toArray) (xJ (vs:=[(0,.int .i64 1),(1,.string a0)]) jK (yw rfl (yw rfl rfl)) (Bld.one rfl rfl (by rw [Term.len]; decide) (Term.set_kind _ _) (Bld.one rfl rfl (by rw [Term.len]; decide) (Term.set_name _ _) Bld.nil))) rfl) ?_))))
 refine zM zO rfl rfl (S.blk 0) (Term.len _) (by rw [Term.len]; decide) (Term.one _) (zZ (Term.len _)) fun w3 B hw3 zw3=>?_
 replace S:=S.store 0 B hw3
 clear B
 refine zb (zx ?_)
 replace S:=S.nilTm
 refine ⟨_,(zV (xV zO rfl ((S.blk 0).all _ (Term.len _)) (Term.len _))),?_⟩
 replace S:=S.arr [] [0]
 obtain rfl:=Option.some.inj H
 exact ⟨SlV.nil,rfl,S⟩
theorem xT {A:Nat→Prop} {N:Oth} {w:World} {a0:Int} {a1:List PTerm} {s_1:SlV} (S:St A N w w [] [zy s_1 a1]) {r:PTerm} (H:hilbert_node.f a0 a1=some r) :
  Calls PP F_hilbert_node #[.int .i64 a0,s_1.v] w fun e w' => ∃ v,e = .returned v∧(∃ so0:SlV,v = .agg (Term.C (⟨r.kind,r.name,r.other,r.form,so0⟩ : Term)).toArray∧St A N w w' [] [zy so0 r.sub]):=by
 unfold hilbert_node.f at H
 refine zA (n:=8) fn_hilbert_node rfl rfl (by simp) (zd (za ?_))
 refine xe jp (by decide) fun b2 w1 hw1=>?_
 replace S:=S.new hw1
 refine zb (zd (za (wd (zf rfl) (wd (zz rfl) (wd (Does.to (v' := .agg (Term.C (⟨a0,ByteArray.empty,ByteArray.empty,0,s_1⟩ : Term)).toArray) (xJ (vs:=[(0,.int .i64 a0),(4,s_1.v)]) jK (yw rfl (yw rfl rfl)) (Bld.one rfl rfl (by rw [Term.len]; decide) (Term.set_kind _ _) (Bld.one rfl (SlV.one _ _ rfl) (by rw [Term.len]; decide) (Term.set_sub _ _) Bld.nil))) rfl) ?_)))))
 refine zM zO rfl rfl (S.blk 0) (Term.len _) (by rw [Term.len]; decide) (Term.one _) (zZ (Term.len _)) fun w3 B hw3 zw3=>?_
 replace S:=S.store 0 B hw3
 clear B
 refine zb (zx ?_)
 refine ⟨_,(zV (xV zO rfl ((S.blk 0).all _ (Term.len _)) (Term.len _))),?_⟩
 replace S:=S.arr [] [0]
 obtain rfl:=Option.some.inj H
 exact ⟨s_1,rfl,S⟩
theorem yZ {A:Nat→Prop} {N:Oth} {w:World} {a0:PTerm} {s_0:SlV} {a1:List ByteArray} {s_1:SlV} (S:St A N w w [] [zy s_0 a0.sub,fS 1 SC s_1 a1]) {r:PTerm} (H:hilbert_fun.f a0 a1=some r) :
  Calls PP F_hilbert_fun #[.agg (Term.C (⟨a0.kind,a0.name,a0.other,a0.form,s_0⟩ : Term)).toArray,s_1.v] w fun e w' => ∃ v,e = .returned v∧(∃ so0:SlV,v = .agg (Term.C (⟨r.kind,r.name,r.other,r.form,so0⟩ : Term)).toArray∧St A N w w' [] [zy so0 r.sub]):=by
 unfold hilbert_fun.f at H
 refine zA (n:=16) fn_hilbert_fun rfl rfl (by simp) (zd (za ?_))
 refine z7 rfl (by decide) fun b2 w1 hw1=>?_
 replace S:=S.new hw1
 refine xe jp (by decide) fun b4 w3 hw3=>?_
 replace S:=S.new hw3
 refine zb (zd (zd (za (wd (zz rfl) ?_))))
 refine zu (zp kf) (by decide) (kb _ s_1) ?_
 rintro _ w5 ⟨c6,rfl,Bc6,hc6,Ec6⟩
 replace S:=S.addZ (b:=oB c6 T_L_string [s_1.v]) (G:=(· = c6)) Ec6 ⟨Bc6,fun _=>Iff.rfl⟩ (fun i hi=>by rw [hi]; exact hc6)
 refine zb ?_
 refine zQ ?_
 replace S:=S.nilTm
 obtain ⟨o7,e7,Ho7⟩ := zq H
 clear H
 refine wc_rangeSt2 (xs:=bwd a1) (enc:=fun (x:Int × ByteArray)=>Value.int .i64 x.1) (enc2:=fun (x:Int × ByteArray)=>Value.string x.2) (bd:=(fun (x:Int × ByteArray) (s:PTerm)=>hilbert_fun.b0 x.1 x.2 s)) (L:=(fun (s:PTerm) (c:SlV)=>[oB b4 zD (Term.C (⟨0,ByteArray.empty,ByteArray.empty,0,SlV.nil⟩ : Term)),oB b2 zD (Term.C (⟨s.kind,s.name,s.other,s.form,c⟩ : Term))])) (Lr:=(fun (_:Empty) (_:Unit)=>[])) (Zf:=(fun (s:PTerm) (c:SlV)=>[zy SlV.nil ([]),oB c6 T_L_string [s_1.v],zy c s.sub,fS 1 SC s_1 a1])) (Zr:=(fun (_:Empty) (_:Unit)=>[])) s_0 false 0 rfl jP (jk (S.len 3) c6) (by decide) (by decide) (fun N' s c W h=>⟨h.blkZ 1,h.rd 3⟩) S e7 ?_ ?_ ?_ ?_
 ·rintro ⟨i7,y7⟩ x7_0 s8 q7 N7 rd u7 H S
  replace S:=S
  refine za (wd (yQ rfl) (zb ?_))
  refine ⟨rfl,_,_,S,fun M7 v7 S=>?_⟩
  replace S:=S
  replace H:hilbert_fun.b0  i7 y7 x7_0=some q7:=H
  unfold hilbert_fun.b0 at H
  try dsimp only at H
  refine zQ (za (wd (xB rfl) (wd (zo zO rfl ((S.blk 1).all _ (Term.len _)) (Term.len _)) ?_)))
  refine xK (C:=Term.C) (l:=[(⟨x7_0.kind,x7_0.name,x7_0.other,x7_0.form,s8⟩ : Term)]) (vs:=[.agg (Term.C (⟨x7_0.kind,x7_0.name,x7_0.other,x7_0.form,s8⟩ : Term)).toArray]) zY vO.zero rfl rfl (fun a _=>Term.len a) (by decide) rfl (by decide) fun b10 w9 s11 hBw9 hw9=>?_
  replace S:=((S.lit hBw9 hw9 (by simp)).bigTm).consTm (x:=x7_0) 2
  replace S:=(S.frzTm 0 0).zs [0,2,3,4,5]
  refine wd (Does.to (v' := .agg (Term.C (⟨2,y7,ByteArray.empty,0,s11⟩ : Term)).toArray) (xJ (vs:=[(0,.int .i64 2),(1,.string y7),(4,s11.v)]) jK (yw rfl (yw rfl (yw rfl rfl))) (Bld.one rfl rfl (by rw [Term.len]; decide) (Term.set_kind _ _) (Bld.one rfl rfl (by rw [Term.len]; decide) (Term.set_name _ _) (Bld.one rfl (SlV.one _ _ rfl) (by rw [Term.len]; decide) (Term.set_sub _ _) Bld.nil)))) rfl) ?_
  refine zM zO rfl rfl (S.blk 1) (Term.len _) (by rw [Term.len]; decide) (Term.one _) (zZ (Term.len _)) fun w12 B hw12 zw12=>?_
  replace S:=S.store 1 B hw12
  clear B
  refine zb ?_
  replace S:=S.arr [1,0] [1,2,0,4]
  obtain rfl:=Option.some.inj H
  exact ⟨_,rfl,s11,S⟩
 ·rintro s7 s14 B7 w13 rfl S hB7
  replace S:=S
  have H:=Ho7
  dsimp only [fin] at H
  refine zd (za (wd (zo zO rfl ((S.blk 1).all _ (Term.len _)) (Term.len _)) ?_))
  refine zM zO rfl rfl (S.blk 0) (Term.len _) (by rw [Term.len]; decide) (Term.one _) (zZ (Term.len _)) fun w15 B hw15 zw15=>?_
  replace S:=S.store 0 B hw15
  clear B
  refine zb (zx ?_)
  refine end1 (.inl rfl) (S.take hB7).1 fun w16 hcw16=>?_
  replace S:=(S.take hB7).2 _ hcw16
  refine ⟨_,(zV (xV zO rfl ((S.blk 0).all _ (Term.len _)) (Term.len _))),?_⟩
  replace S:=S.arr [] [2]
  obtain rfl:=Option.some.inj H
  exact ⟨s14,rfl,S⟩
 ·intro r; exact r.elim
 ·intro h; cases h
theorem hilbert_axiom_st {A:Nat→Prop} {N:Oth} {w:World} {a0:Int} (S:St A N w w [] []) {r:PTerm} (H:hilbert_axiom.f a0=some r) :
  Calls PP F_hilbert_axiom #[.int .i64 a0] w fun e w' => ∃ v,e = .returned v∧(∃ so0:SlV,v = .agg (Term.C (⟨r.kind,r.name,r.other,r.form,so0⟩ : Term)).toArray∧St A N w w' [] [zy so0 r.sub]):=by
 unfold hilbert_axiom.f at H
 refine zA (n:=89) fn_hilbert_axiom rfl rfl (by simp) (zd (za ?_))
 refine xe jp (by decide) fun b2 w1 hw1=>?_
 replace S:=S.new hw1
 refine zb (zd (za ?_))
 obtain ⟨r3,er3,H⟩ := zq H
 obtain ⟨B5,MB5,SB5,back⟩ := S.sub [] [] [oB b2 zD (Term.C (⟨0,ByteArray.empty,ByteArray.empty,0,SlV.nil⟩ : Term))]
 refine zu (zp vv) (by decide) (vu SB5 er3) ?_
 rintro _ w4 ⟨s6,rfl,S2⟩
 replace S:=back _ _ _ _ _ S2 rfl rfl
 clear back S2 SB5
 obtain ⟨r7,er7,H⟩ := zq H
 obtain ⟨B9,MB9,SB9,back⟩ := S.sub [] [] [oB b2 zD (Term.C (⟨0,ByteArray.empty,ByteArray.empty,0,SlV.nil⟩ : Term))]
 refine zu (zp vv) (by decide) (vu SB9 er7) ?_
 rintro _ w8 ⟨s10,rfl,S2⟩
 replace S:=back _ _ _ _ _ S2 rfl rfl
 clear back S2 SB9
 obtain ⟨r11,er11,H⟩ := zq H
 obtain ⟨B13,MB13,SB13,back⟩ := S.sub [] [] [oB b2 zD (Term.C (⟨0,ByteArray.empty,ByteArray.empty,0,SlV.nil⟩ : Term))]
 refine zu (zp vv) (by decide) (vu SB13 er11) ?_
 rintro _ w12 ⟨s14,rfl,S2⟩
 replace S:=back _ _ _ _ _ S2 rfl rfl
 clear back S2 SB13
 refine xe jp (by decide) fun b16 w15 hw15=>?_
 replace S:=S.new hw15
 refine xe jp (by decide) fun b18 w17 hw17=>?_
 replace S:=S.new hw17
 refine xe jp (by decide) fun b20 w19 hw19=>?_
 replace S:=S.new hw19
 refine zM zO rfl rfl (S.blk 2) (Term.len _) (by rw [Term.len]; decide) (Term.one _) (zZ (Term.len _)) fun w21 B hw21 zw21=>?_
 replace S:=S.store 2 B hw21
 clear B
 refine zM zO rfl rfl (S.blk 2) (Term.len _) (by rw [Term.len]; decide) (Term.one _) (zZ (Term.len _)) fun w22 B hw22 zw22=>?_
 replace S:=S.store 2 B hw22
 clear B
 refine zM zO rfl rfl (S.blk 2) (Term.len _) (by rw [Term.len]; decide) (Term.one _) (zZ (Term.len _)) fun w23 B hw23 zw23=>?_
 replace S:=S.store 2 B hw23
 clear B
 refine zb (zd (zd (za (wd (zf rfl) (zb ?_)))))
 refine zQ (zd (za (wd (zR rfl rfl) (wd (zm rfl) (zb ?_)))))
 refine zH rfl (fun hc24=>?_) (fun hc24=>?_)
 ·replace H:=if_t hc24 H
  refine zd (za (wd (zo zO rfl ((S.blk 2).all _ (Term.len _)) (Term.len _)) ?_))
  refine xK (C:=SC) (l:=[(⟨#[97]⟩ : ByteArray),(⟨#[98]⟩ : ByteArray)]) (vs:=[.string (⟨#[97]⟩ : ByteArray),.string (⟨#[98]⟩ : ByteArray)]) yO uJ.zero rfl rfl (fun _ _=>rfl) (by decide) rfl (by decide) fun b26 w25 s27 hBw25 hw25=>?_
  replace S:=S.lit hBw25 hw25 (by simp)
  obtain ⟨r28,er28,H⟩ := zq H
  replace S:=S.frzS 0
  obtain ⟨B30,MB30,SB30,back⟩ := S.sub [3,0] [] [oB b20 zD (Term.C (⟨r11.kind,r11.name,r11.other,r11.form,s14⟩ : Term)),oB b18 zD (Term.C (⟨r7.kind,r7.name,r7.other,r7.form,s10⟩ : Term)),oB b16 zD (Term.C (⟨r3.kind,r3.name,r3.other,r3.form,s6⟩ : Term)),oB b2 zD (Term.C (⟨0,ByteArray.empty,ByteArray.empty,0,SlV.nil⟩ : Term))]
  refine zu (zp y0) (by decide) (yZ (a0:=r3) SB30 er28) ?_
  rintro _ w29 ⟨s31,rfl,S2⟩
  replace S:=back _ _ _ _ _ S2 rfl rfl
  clear back S2 SB30
  refine zM zO rfl rfl (S.blk 3) (Term.len _) (by rw [Term.len]; decide) (Term.one _) (zZ (Term.len _)) fun w32 B hw32 zw32=>?_
  replace S:=S.store 3 B hw32
  clear B
  refine zb (zx ?_)
  refine ⟨_,(zV (xV zO rfl ((S.blk 0).all _ (Term.len _)) (Term.len _))),?_⟩
  replace S:=S.arr [] [0]
  obtain rfl:=Option.some.inj H
  exact ⟨s31,rfl,S⟩
 replace H:=if_f hc24 H
 refine zd (za (wd (zR rfl rfl) (wd (zm rfl) (zb ?_))))
 refine zH rfl (fun hc33=>?_) (fun hc33=>?_)
 ·replace H:=if_t hc33 H
  refine zd ?_
  obtain ⟨r37,er37,H⟩ := zq H
  obtain ⟨r44,er44,H⟩ := zq H
  obtain ⟨r51,er51,H⟩ := zq H
  refine uo 11 ⟨fun _ _=>True,fun _ _ _=>True,fun i v _=>match i with
   | 0=>v=Value.agg (Term.C (⟨r3.kind,r3.name,r3.other,r3.form,s6⟩ : Term)).toArray
   | 1=>v=Value.agg (Term.C (⟨r11.kind,r11.name,r11.other,r11.form,s14⟩ : Term)).toArray
   | 4=>v=Value.agg (Term.C (⟨r7.kind,r7.name,r7.other,r7.form,s10⟩ : Term)).toArray
   | 5=>v=Value.agg (Term.C (⟨r11.kind,r11.name,r11.other,r11.form,s14⟩ : Term)).toArray
   | _=>True⟩ (fun L g v => ∃ s57:SlV,∃ O59:List OA,∃ Z58:List OA,(∀ z ∈ [zy s14 r11.sub,zy s10 r7.sub,zy s6 r3.sub],z ∈ Z58)∧Made L g Z58 2 20 (fun (c:SlV)=>c.v) (fun (c:SlV)=>[zy c ([r3,r11])])∧Made L g Z58 3 21 (fun (c:SlV)=>Value.agg (Term.C (⟨r37.kind,r37.name,r37.other,r37.form,c⟩ : Term)).toArray) (fun (c:SlV)=>[zy c r37.sub])∧Made L g Z58 6 24 (fun (c:SlV)=>c.v) (fun (c:SlV)=>[zy c ([r7,r11])])∧Made L g Z58 7 25 (fun (c:SlV)=>Value.agg (Term.C (⟨r44.kind,r44.name,r44.other,r44.form,c⟩ : Term)).toArray) (fun (c:SlV)=>[zy c r44.sub])∧Made L g Z58 8 26 (fun (c:SlV)=>c.v) (fun (c:SlV)=>[zy c ([r37,r44])])∧Made L g Z58 9 27 (fun (c:SlV)=>Value.agg (Term.C (⟨r51.kind,r51.name,r51.other,r51.form,c⟩ : Term)).toArray) (fun (c:SlV)=>[zy c r51.sub])∧(L 10=true→g 28=s57.v)∧O59=((bif L 10 then [oS T_string 1 SC s57 ([(⟨#[97]⟩ : ByteArray),(⟨#[98]⟩ : ByteArray),(⟨#[99]⟩ : ByteArray)])] else []) ++ [oB b20 zD (Term.C (⟨r11.kind,r11.name,r11.other,r11.form,s14⟩ : Term)),oB b18 zD (Term.C (⟨r7.kind,r7.name,r7.other,r7.form,s10⟩ : Term)),oB b16 zD (Term.C (⟨r3.kind,r3.name,r3.other,r3.form,s6⟩ : Term)),oB b2 zD (Term.C (⟨0,ByteArray.empty,ByteArray.empty,0,SlV.nil⟩ : Term))])∧St A N w v O59 Z58) hmix (by kernel_rfl) (fun _ _ _ _ _ _ _ hv=>hv) (fun g=>⟨SlV.nil,_,_,fun _ h=>h,Made.no,Made.no,Made.no,Made.no,Made.no,Made.no,(fun h=>by cases h),rfl,S.ext (Ext.drawn _)⟩) ⟨?_,?_,?_,?_,?_,?_,?_,?_,?_,?_,?_,trivial⟩ ?_
  ·rintro L g v hL hcl hclo ⟨s57,O59,Z58,hZ,hm2,hm3,hm6,hm7,hm8,hm9,hk10,hO,S⟩ 
   have SR:St A N w v [oB b20 zD (Term.C (⟨r11.kind,r11.name,r11.other,r11.form,s14⟩ : Term)),oB b18 zD (Term.C (⟨r7.kind,r7.name,r7.other,r7.form,s10⟩ : Term)),oB b16 zD (Term.C (⟨r3.kind,r3.name,r3.other,r3.form,s6⟩ : Term)),oB b2 zD (Term.C (⟨0,ByteArray.empty,ByteArray.empty,0,SlV.nil⟩ : Term))] (zy s14 r11.sub :: zy s10 r7.sub :: zy s6 r3.sub :: Z58):=by
    have S2:=S.zneed hZ
    rw [hO] at S2
    exact S2.drops
   refine wd (zo zO rfl ((SR.blk 2).all _ (Term.len _)) (Term.len _)) ?_
   exact zb (ob4 trivial rfl ⟨s57,O59,Z58,hZ,hm2.keep rfl rfl tl0,hm3.keep rfl rfl tl0,hm6.keep rfl rfl tl0,hm7.keep rfl rfl tl0,hm8.keep rfl rfl tl0,hm9.keep rfl rfl tl0,(fun h=>by rw [zF _ _ _ _ (by decide)]; exact hk10 (by rw [zn rfl] at h; exact h)),by rw [hO]; simp only [zn (L:=L) (i:=0) (j:=10) rfl],S⟩)
  ·rintro L g v hL hcl hclo ⟨s57,O59,Z58,hZ,hm2,hm3,hm6,hm7,hm8,hm9,hk10,hO,S⟩ 
   have SR:St A N w v [oB b20 zD (Term.C (⟨r11.kind,r11.name,r11.other,r11.form,s14⟩ : Term)),oB b18 zD (Term.C (⟨r7.kind,r7.name,r7.other,r7.form,s10⟩ : Term)),oB b16 zD (Term.C (⟨r3.kind,r3.name,r3.other,r3.form,s6⟩ : Term)),oB b2 zD (Term.C (⟨0,ByteArray.empty,ByteArray.empty,0,SlV.nil⟩ : Term))] (zy s14 r11.sub :: zy s10 r7.sub :: zy s6 r3.sub :: Z58):=by
    have S2:=S.zneed hZ
    rw [hO] at S2
    exact S2.drops
   refine wd (zo zO rfl ((SR.blk 0).all _ (Term.len _)) (Term.len _)) ?_
   exact zb (ob4 trivial rfl ⟨s57,O59,Z58,hZ,hm2.keep rfl rfl tl0,hm3.keep rfl rfl tl0,hm6.keep rfl rfl tl0,hm7.keep rfl rfl tl0,hm8.keep rfl rfl tl0,hm9.keep rfl rfl tl0,(fun h=>by rw [zF _ _ _ _ (by decide)]; exact hk10 (by rw [zn rfl] at h; exact h)),by rw [hO]; simp only [zn (L:=L) (i:=1) (j:=10) rfl],S⟩)
  ·rintro L g v hL hcl hclo ⟨s57,O59,Z58,hZ,hm2,hm3,hm6,hm7,hm8,hm9,hk10,hO,S⟩ hv0 hv1
   replace S:=(S.zneed hZ)
   refine xK (C:=Term.C) (l:=[(⟨r3.kind,r3.name,r3.other,r3.form,s6⟩ : Term),(⟨r11.kind,r11.name,r11.other,r11.form,s14⟩ : Term)]) (vs:=[.agg (Term.C (⟨r3.kind,r3.name,r3.other,r3.form,s6⟩ : Term)).toArray,.agg (Term.C (⟨r11.kind,r11.name,r11.other,r11.form,s14⟩ : Term)).toArray]) zY vO.zero (yw hv0 (yw hv1 rfl)) rfl (fun a _=>Term.len a) (by decide) rfl (by decide) fun b61 w60 s62 hBw60 hw60=>?_
   replace S:=((S.lit hBw60 hw60 (by simp)).bigTm).consTm (x:=r11) 0
   replace S:=(S.consTm (x:=r3) 2).frzTm 0 0
   exact zb (ob4 trivial trivial ⟨s57,O59,_,(fun z h=>tl5 z (hZ z h)),Made.one (val:=(fun (c:SlV)=>c.v)) (ps:=(fun (c:SlV)=>[zy c ([r3,r11])])) s62 (ui List.mem_cons_self jD),hm3.keep rfl rfl tl5,hm6.keep rfl rfl tl5,hm7.keep rfl rfl tl5,hm8.keep rfl rfl tl5,hm9.keep rfl rfl tl5,(fun h=>by rw [zF _ _ _ _ (by decide)]; exact hk10 (by rw [zn rfl] at h; exact h)),by rw [hO]; simp only [zn (L:=L) (i:=2) (j:=10) rfl],S⟩)
  ·rintro L g v hL hcl hclo ⟨s57,O59,Z58,hZ,hm2,hm3,hm6,hm7,hm8,hm9,hk10,hO,S⟩ _
   obtain ⟨s36,he2,hp2⟩ := hm2 (hcl 2 (by kernel_rfl))
   replace S:=(S.zneed (y6 (l1:=[zy s36 ([r3,r11])]) hp2 hZ))
   obtain ⟨B65,MB65,SB65,back⟩ := S.sub [0] [] (O59)
   refine zu (zP xU (zS rfl (zS he2 rfl))) (by decide) (xT SB65 er37) ?_
   rintro _ w64 ⟨s66,rfl,S2⟩
   replace S:=back _ _ _ _ _ S2 rfl rfl
   clear back S2 SB65
   exact zb (ob4 trivial trivial ⟨s57,O59,_,(fun z h=>tl5 z (hZ z h)),hm2.keep rfl rfl tl5,Made.one (val:=(fun (c:SlV)=>Value.agg (Term.C (⟨r37.kind,r37.name,r37.other,r37.form,c⟩ : Term)).toArray)) (ps:=(fun (c:SlV)=>[zy c r37.sub])) s66 (ui List.mem_cons_self jD),hm6.keep rfl rfl tl5,hm7.keep rfl rfl tl5,hm8.keep rfl rfl tl5,hm9.keep rfl rfl tl5,(fun h=>by rw [zF _ _ _ _ (by decide)]; exact hk10 (by rw [zn rfl] at h; exact h)),by rw [hO]; simp only [zn (L:=L) (i:=3) (j:=10) rfl],S⟩)
  ·rintro L g v hL hcl hclo ⟨s57,O59,Z58,hZ,hm2,hm3,hm6,hm7,hm8,hm9,hk10,hO,S⟩ 
   have SR:St A N w v [oB b20 zD (Term.C (⟨r11.kind,r11.name,r11.other,r11.form,s14⟩ : Term)),oB b18 zD (Term.C (⟨r7.kind,r7.name,r7.other,r7.form,s10⟩ : Term)),oB b16 zD (Term.C (⟨r3.kind,r3.name,r3.other,r3.form,s6⟩ : Term)),oB b2 zD (Term.C (⟨0,ByteArray.empty,ByteArray.empty,0,SlV.nil⟩ : Term))] (zy s14 r11.sub :: zy s10 r7.sub :: zy s6 r3.sub :: Z58):=by
    have S2:=S.zneed hZ
    rw [hO] at S2
    exact S2.drops
   refine wd (zo zO rfl ((SR.blk 1).all _ (Term.len _)) (Term.len _)) ?_
   exact zb (ob4 trivial rfl ⟨s57,O59,Z58,hZ,hm2.keep rfl rfl tl0,hm3.keep rfl rfl tl0,hm6.keep rfl rfl tl0,hm7.keep rfl rfl tl0,hm8.keep rfl rfl tl0,hm9.keep rfl rfl tl0,(fun h=>by rw [zF _ _ _ _ (by decide)]; exact hk10 (by rw [zn rfl] at h; exact h)),by rw [hO]; simp only [zn (L:=L) (i:=4) (j:=10) rfl],S⟩)
  ·rintro L g v hL hcl hclo ⟨s57,O59,Z58,hZ,hm2,hm3,hm6,hm7,hm8,hm9,hk10,hO,S⟩ 
   have SR:St A N w v [oB b20 zD (Term.C (⟨r11.kind,r11.name,r11.other,r11.form,s14⟩ : Term)),oB b18 zD (Term.C (⟨r7.kind,r7.name,r7.other,r7.form,s10⟩ : Term)),oB b16 zD (Term.C (⟨r3.kind,r3.name,r3.other,r3.form,s6⟩ : Term)),oB b2 zD (Term.C (⟨0,ByteArray.empty,ByteArray.empty,0,SlV.nil⟩ : Term))] (zy s14 r11.sub :: zy s10 r7.sub :: zy s6 r3.sub :: Z58):=by
    have S2:=S.zneed hZ
    rw [hO] at S2
    exact S2.drops
   refine wd (zo zO rfl ((SR.blk 0).all _ (Term.len _)) (Term.len _)) ?_
   exact zb (ob4 trivial rfl ⟨s57,O59,Z58,hZ,hm2.keep rfl rfl tl0,hm3.keep rfl rfl tl0,hm6.keep rfl rfl tl0,hm7.keep rfl rfl tl0,hm8.keep rfl rfl tl0,hm9.keep rfl rfl tl0,(fun h=>by rw [zF _ _ _ _ (by decide)]; exact hk10 (by rw [zn rfl] at h; exact h)),by rw [hO]; simp only [zn (L:=L) (i:=5) (j:=10) rfl],S⟩)
  ·rintro L g v hL hcl hclo ⟨s57,O59,Z58,hZ,hm2,hm3,hm6,hm7,hm8,hm9,hk10,hO,S⟩ hv4 hv5
   replace S:=(S.zneed hZ)
   refine xK (C:=Term.C) (l:=[(⟨r7.kind,r7.name,r7.other,r7.form,s10⟩ : Term),(⟨r11.kind,r11.name,r11.other,r11.form,s14⟩ : Term)]) (vs:=[.agg (Term.C (⟨r7.kind,r7.name,r7.other,r7.form,s10⟩ : Term)).toArray,.agg (Term.C (⟨r11.kind,r11.name,r11.other,r11.form,s14⟩ : Term)).toArray]) zY vO.zero (yw hv4 (yw hv5 rfl)) rfl (fun a _=>Term.len a) (by decide) rfl (by decide) fun b68 w67 s69 hBw67 hw67=>?_
   replace S:=((S.lit hBw67 hw67 (by simp)).bigTm).consTm (x:=r11) 0
   replace S:=(S.consTm (x:=r7) 1).frzTm 0 0
   exact zb (ob4 trivial trivial ⟨s57,O59,_,(fun z h=>tl5 z (hZ z h)),hm2.keep rfl rfl tl5,hm3.keep rfl rfl tl5,Made.one (val:=(fun (c:SlV)=>c.v)) (ps:=(fun (c:SlV)=>[zy c ([r7,r11])])) s69 (ui List.mem_cons_self jD),hm7.keep rfl rfl tl5,hm8.keep rfl rfl tl5,hm9.keep rfl rfl tl5,(fun h=>by rw [zF _ _ _ _ (by decide)]; exact hk10 (by rw [zn rfl] at h; exact h)),by rw [hO]; simp only [zn (L:=L) (i:=6) (j:=10) rfl],S⟩)
  ·rintro L g v hL hcl hclo ⟨s57,O59,Z58,hZ,hm2,hm3,hm6,hm7,hm8,hm9,hk10,hO,S⟩ _
   obtain ⟨s43,he6,hp6⟩ := hm6 (hcl 6 (by kernel_rfl))
   replace S:=(S.zneed (y6 (l1:=[zy s43 ([r7,r11])]) hp6 hZ))
   obtain ⟨B72,MB72,SB72,back⟩ := S.sub [0] [] (O59)
   refine zu (zP xU (zS rfl (zS he6 rfl))) (by decide) (xT SB72 er44) ?_
   rintro _ w71 ⟨s73,rfl,S2⟩
   replace S:=back _ _ _ _ _ S2 rfl rfl
   clear back S2 SB72
   exact zb (ob4 trivial trivial ⟨s57,O59,_,(fun z h=>tl5 z (hZ z h)),hm2.keep rfl rfl tl5,hm3.keep rfl rfl tl5,hm6.keep rfl rfl tl5,Made.one (val:=(fun (c:SlV)=>Value.agg (Term.C (⟨r44.kind,r44.name,r44.other,r44.form,c⟩ : Term)).toArray)) (ps:=(fun (c:SlV)=>[zy c r44.sub])) s73 (ui List.mem_cons_self jD),hm8.keep rfl rfl tl5,hm9.keep rfl rfl tl5,(fun h=>by rw [zF _ _ _ _ (by decide)]; exact hk10 (by rw [zn rfl] at h; exact h)),by rw [hO]; simp only [zn (L:=L) (i:=7) (j:=10) rfl],S⟩)
  ·rintro L g v hL hcl hclo ⟨s57,O59,Z58,hZ,hm2,hm3,hm6,hm7,hm8,hm9,hk10,hO,S⟩ _ _
   obtain ⟨s40,he3,hp3⟩ := hm3 (hcl 3 (by kernel_rfl))
   obtain ⟨s47,he7,hp7⟩ := hm7 (hcl 7 (by kernel_rfl))
   replace S:=(S.zneed (y6 (l1:=[zy s40 r37.sub]) hp3 (y6 (l1:=[zy s47 r44.sub]) hp7 hZ)))
   refine xK (C:=Term.C) (l:=[(⟨r37.kind,r37.name,r37.other,r37.form,s40⟩ : Term),(⟨r44.kind,r44.name,r44.other,r44.form,s47⟩ : Term)]) (vs:=[.agg (Term.C (⟨r37.kind,r37.name,r37.other,r37.form,s40⟩ : Term)).toArray,.agg (Term.C (⟨r44.kind,r44.name,r44.other,r44.form,s47⟩ : Term)).toArray]) zY vO.zero (yw he3 (yw he7 rfl)) rfl (fun a _=>Term.len a) (by decide) rfl (by decide) fun b75 w74 s76 hBw74 hw74=>?_
   replace S:=((S.lit hBw74 hw74 (by simp)).bigTm).consTm (x:=r44) 1
   replace S:=(S.consTm (x:=r37) 0).frzTm 0 0
   exact zb (ob4 trivial trivial ⟨s57,O59,_,(fun z h=>tl7 z (hZ z h)),hm2.keep rfl rfl tl7,hm3.keep rfl rfl tl7,hm6.keep rfl rfl tl7,hm7.keep rfl rfl tl7,Made.one (val:=(fun (c:SlV)=>c.v)) (ps:=(fun (c:SlV)=>[zy c ([r37,r44])])) s76 (ui List.mem_cons_self jD),hm9.keep rfl rfl tl7,(fun h=>by rw [zF _ _ _ _ (by decide)]; exact hk10 (by rw [zn rfl] at h; exact h)),by rw [hO]; simp only [zn (L:=L) (i:=8) (j:=10) rfl],S⟩)
  ·rintro L g v hL hcl hclo ⟨s57,O59,Z58,hZ,hm2,hm3,hm6,hm7,hm8,hm9,hk10,hO,S⟩ _
   obtain ⟨s50,he8,hp8⟩ := hm8 (hcl 8 (by kernel_rfl))
   replace S:=(S.zneed (y6 (l1:=[zy s50 ([r37,r44])]) hp8 hZ))
   obtain ⟨B79,MB79,SB79,back⟩ := S.sub [0] [] (O59)
   refine zu (zP xU (zS rfl (zS he8 rfl))) (by decide) (xT SB79 er51) ?_
   rintro _ w78 ⟨s80,rfl,S2⟩
   replace S:=back _ _ _ _ _ S2 rfl rfl
   clear back S2 SB79
   exact zb (ob4 trivial trivial ⟨s57,O59,_,(fun z h=>tl5 z (hZ z h)),hm2.keep rfl rfl tl5,hm3.keep rfl rfl tl5,hm6.keep rfl rfl tl5,hm7.keep rfl rfl tl5,hm8.keep rfl rfl tl5,Made.one (val:=(fun (c:SlV)=>Value.agg (Term.C (⟨r51.kind,r51.name,r51.other,r51.form,c⟩ : Term)).toArray)) (ps:=(fun (c:SlV)=>[zy c r51.sub])) s80 (ui List.mem_cons_self jD),(fun h=>by rw [zF _ _ _ _ (by decide)]; exact hk10 (by rw [zn rfl] at h; exact h)),by rw [hO]; simp only [zn (L:=L) (i:=9) (j:=10) rfl],S⟩)
  ·rintro L g v hL hcl hclo ⟨s57,O59,Z58,hZ,hm2,hm3,hm6,hm7,hm8,hm9,hk10,hO,S⟩ 
   have hl10:L 10=false:=hL
   have hOP : ∃ P Y,P=[]∧Y=[oB b20 zD (Term.C (⟨r11.kind,r11.name,r11.other,r11.form,s14⟩ : Term)),oB b18 zD (Term.C (⟨r7.kind,r7.name,r7.other,r7.form,s10⟩ : Term)),oB b16 zD (Term.C (⟨r3.kind,r3.name,r3.other,r3.form,s6⟩ : Term)),oB b2 zD (Term.C (⟨0,ByteArray.empty,ByteArray.empty,0,SlV.nil⟩ : Term))]∧O59=P ++ ([] ++ Y):=⟨_,_,rfl,rfl,by rw [hO]; simp only [hl10,cond_true,cond_false,List.nil_append,List.append_assoc,List.cons_append]⟩
   obtain ⟨P,Y,hP,hY,hPY⟩ := hOP
   rw [hPY] at S
   replace S:=(S.zneed hZ)
   refine xK (C:=SC) (l:=[(⟨#[97]⟩ : ByteArray),(⟨#[98]⟩ : ByteArray),(⟨#[99]⟩ : ByteArray)]) (vs:=[.string (⟨#[97]⟩ : ByteArray),.string (⟨#[98]⟩ : ByteArray),.string (⟨#[99]⟩ : ByteArray)]) yO uJ.zero rfl rfl (fun _ _=>rfl) (by decide) rfl (by decide) fun b82 w81 s83 hBw81 hw81=>?_
   replace S:=S.lit hBw81 hw81 (by simp)
   refine zb (ob4 trivial trivial ⟨s83,P ++ ([oS T_string 1 SC s83 ([(⟨#[97]⟩ : ByteArray),(⟨#[98]⟩ : ByteArray),(⟨#[99]⟩ : ByteArray)])] ++ Y),_,(fun z h=>tl3 z (hZ z h)),hm2.keep rfl rfl tl3,hm3.keep rfl rfl tl3,hm6.keep rfl rfl tl3,hm7.keep rfl rfl tl3,hm8.keep rfl rfl tl3,hm9.keep rfl rfl tl3,(fun _=>upd_same _ _ _),?_,S.ins (P:=[oS T_string 1 SC s83 ([(⟨#[97]⟩ : ByteArray),(⟨#[98]⟩ : ByteArray),(⟨#[99]⟩ : ByteArray)])])⟩)
   rw [hP,hY]; simp only [yW (L:=L) (i:=10),cond_true,cond_false,List.nil_append,List.append_assoc,List.cons_append]
  rintro L g w84 hLm ⟨s57,O59,Z58,hZ,hm2,hm3,hm6,hm7,hm8,hm9,hk10,hO,S⟩ hv85_0 hv85_1 _ _ hv85_4 hv85_5 _ _ _ _ _
  have hLt : ∀ j,j < 11→L j=true:=fun j hj=>by rw [hLm]; exact decide_eq_true hj
  obtain ⟨s36,hv85_2,hp2⟩ := hm2 (hLt 2 (by decide))
  obtain ⟨s40,hv85_3,hp3⟩ := hm3 (hLt 3 (by decide))
  obtain ⟨s43,hv85_6,hp6⟩ := hm6 (hLt 6 (by decide))
  obtain ⟨s47,hv85_7,hp7⟩ := hm7 (hLt 7 (by decide))
  obtain ⟨s50,hv85_8,hp8⟩ := hm8 (hLt 8 (by decide))
  obtain ⟨s54,hv85_9,hp9⟩ := hm9 (hLt 9 (by decide))
  have hv85_10:=hk10 (hLt 10 (by decide))
  simp only [hLt 10 (by decide),cond_true,List.nil_append,List.cons_append] at hO
  rw [hO] at S
  replace S:=S.pickZ (y6 (l1:=[zy s36 ([r3,r11])]) hp2 (y6 (l1:=[zy s40 r37.sub]) hp3 (y6 (l1:=[zy s43 ([r7,r11])]) hp6 (y6 (l1:=[zy s47 r44.sub]) hp7 (y6 (l1:=[zy s50 ([r37,r44])]) hp8 (y6 (l1:=[zy s54 r51.sub]) hp9 hZ))))))
  clear hp2 hp3 hp6 hp7 hp8 hp9 hZ hm2 hm3 hm6 hm7 hm8 hm9
  obtain ⟨r86,er86,H⟩ := zq H
  replace S:=S.frzS 0
  obtain ⟨B88,MB88,SB88,back⟩ := S.sub [6,0] [] [oB b20 zD (Term.C (⟨r11.kind,r11.name,r11.other,r11.form,s14⟩ : Term)),oB b18 zD (Term.C (⟨r7.kind,r7.name,r7.other,r7.form,s10⟩ : Term)),oB b16 zD (Term.C (⟨r3.kind,r3.name,r3.other,r3.form,s6⟩ : Term)),oB b2 zD (Term.C (⟨0,ByteArray.empty,ByteArray.empty,0,SlV.nil⟩ : Term))]
  refine zu (zP y0 (zS hv85_9 (zS hv85_10 rfl))) (by decide) (yZ (a0:=r51) SB88 er86) ?_
  rintro _ w87 ⟨s89,rfl,S2⟩
  replace S:=back _ _ _ _ _ S2 rfl rfl
  clear back S2 SB88
  refine zM zO rfl rfl (S.blk 3) (Term.len _) (by rw [Term.len]; decide) (Term.one _) (zZ (Term.len _)) fun w90 B hw90 zw90=>?_
  replace S:=S.store 3 B hw90
  clear B
  refine zb (zx ?_)
  refine ⟨_,(zV (xV zO rfl ((S.blk 0).all _ (Term.len _)) (Term.len _))),?_⟩
  replace S:=S.arr [] [0]
  obtain rfl:=Option.some.inj H
  exact ⟨s89,rfl,S⟩
 replace H:=if_f hc33 H
 refine zd (za (wd (zR rfl rfl) (wd (zm rfl) (zb ?_))))
 refine zH rfl (fun hc91=>?_) (fun hc91=>?_)
 ·replace H:=if_t hc91 H
  refine zd (za (wd (zo zO rfl ((S.blk 2).all _ (Term.len _)) (Term.len _)) ?_))
  refine xK (C:=Term.C) (l:=[(⟨r3.kind,r3.name,r3.other,r3.form,s6⟩ : Term)]) (vs:=[.agg (Term.C (⟨r3.kind,r3.name,r3.other,r3.form,s6⟩ : Term)).toArray]) zY vO.zero rfl rfl (fun a _=>Term.len a) (by decide) rfl (by decide) fun b93 w92 s94 hBw92 hw92=>?_
  replace S:=((S.lit hBw92 hw92 (by simp)).bigTm).consTm (x:=r3) 2
  replace S:=(S.frzTm 0 0).zs [0,2,3,4]
  obtain ⟨r95,er95,H⟩ := zq H
  obtain ⟨B97,MB97,SB97,back⟩ := S.sub [0] [] [oB b20 zD (Term.C (⟨r11.kind,r11.name,r11.other,r11.form,s14⟩ : Term)),oB b18 zD (Term.C (⟨r7.kind,r7.name,r7.other,r7.form,s10⟩ : Term)),oB b16 zD (Term.C (⟨r3.kind,r3.name,r3.other,r3.form,s6⟩ : Term)),oB b2 zD (Term.C (⟨0,ByteArray.empty,ByteArray.empty,0,SlV.nil⟩ : Term))]
  refine zu (zp xU) (by decide) (xT SB97 er95) ?_
  rintro _ w96 ⟨s98,rfl,S2⟩
  replace S:=back _ _ _ _ _ S2 rfl rfl
  clear back S2 SB97
  refine xK (C:=SC) (l:=[(⟨#[97]⟩ : ByteArray)]) (vs:=[.string (⟨#[97]⟩ : ByteArray)]) yO uJ.zero rfl rfl (fun _ _=>rfl) (by decide) rfl (by decide) fun b100 w99 s101 hBw99 hw99=>?_
  replace S:=S.lit hBw99 hw99 (by simp)
  obtain ⟨r102,er102,H⟩ := zq H
  replace S:=S.frzS 0
  obtain ⟨B104,MB104,SB104,back⟩ := S.sub [1,0] [] [oB b20 zD (Term.C (⟨r11.kind,r11.name,r11.other,r11.form,s14⟩ : Term)),oB b18 zD (Term.C (⟨r7.kind,r7.name,r7.other,r7.form,s10⟩ : Term)),oB b16 zD (Term.C (⟨r3.kind,r3.name,r3.other,r3.form,s6⟩ : Term)),oB b2 zD (Term.C (⟨0,ByteArray.empty,ByteArray.empty,0,SlV.nil⟩ : Term))]
  refine zu (zp y0) (by decide) (yZ (a0:=r95) SB104 er102) ?_
  rintro _ w103 ⟨s105,rfl,S2⟩
  replace S:=back _ _ _ _ _ S2 rfl rfl
  clear back S2 SB104
  refine zM zO rfl rfl (S.blk 3) (Term.len _) (by rw [Term.len]; decide) (Term.one _) (zZ (Term.len _)) fun w106 B hw106 zw106=>?_
  replace S:=S.store 3 B hw106
  clear B
  refine zb (zx ?_)
  refine ⟨_,(zV (xV zO rfl ((S.blk 0).all _ (Term.len _)) (Term.len _))),?_⟩
  replace S:=S.arr [] [0]
  obtain rfl:=Option.some.inj H
  exact ⟨s105,rfl,S⟩
 replace H:=if_f hc91 H
 refine zd (za (wd (zR rfl rfl) (wd (zm rfl) (zb ?_))))
 refine zH rfl (fun hc107=>?_) (fun hc107=>?_)
 ·replace H:=if_t hc107 H
  refine zd (za (wd (zo zO rfl ((S.blk 2).all _ (Term.len _)) (Term.len _)) ?_))
  refine xK (C:=Term.C) (l:=[(⟨r3.kind,r3.name,r3.other,r3.form,s6⟩ : Term)]) (vs:=[.agg (Term.C (⟨r3.kind,r3.name,r3.other,r3.form,s6⟩ : Term)).toArray]) zY vO.zero rfl rfl (fun a _=>Term.len a) (by decide) rfl (by decide) fun b109 w108 s110 hBw108 hw108=>?_
  replace S:=((S.lit hBw108 hw108 (by simp)).bigTm).consTm (x:=r3) 2
  replace S:=(S.frzTm 0 0).zs [0,2,3,4]
  obtain ⟨r111,er111,H⟩ := zq H
  obtain ⟨B113,MB113,SB113,back⟩ := S.sub [0] [] [oB b20 zD (Term.C (⟨r11.kind,r11.name,r11.other,r11.form,s14⟩ : Term)),oB b18 zD (Term.C (⟨r7.kind,r7.name,r7.other,r7.form,s10⟩ : Term)),oB b16 zD (Term.C (⟨r3.kind,r3.name,r3.other,r3.form,s6⟩ : Term)),oB b2 zD (Term.C (⟨0,ByteArray.empty,ByteArray.empty,0,SlV.nil⟩ : Term))]
  refine zu (zp xU) (by decide) (xT SB113 er111) ?_
  rintro _ w112 ⟨s114,rfl,S2⟩
  replace S:=back _ _ _ _ _ S2 rfl rfl
  clear back S2 SB113
  refine xK (C:=SC) (l:=[(⟨#[97]⟩ : ByteArray)]) (vs:=[.string (⟨#[97]⟩ : ByteArray)]) yO uJ.zero rfl rfl (fun _ _=>rfl) (by decide) rfl (by decide) fun b116 w115 s117 hBw115 hw115=>?_
  replace S:=S.lit hBw115 hw115 (by simp)
  obtain ⟨r118,er118,H⟩ := zq H
  replace S:=S.frzS 0
  obtain ⟨B120,MB120,SB120,back⟩ := S.sub [1,0] [] [oB b20 zD (Term.C (⟨r11.kind,r11.name,r11.other,r11.form,s14⟩ : Term)),oB b18 zD (Term.C (⟨r7.kind,r7.name,r7.other,r7.form,s10⟩ : Term)),oB b16 zD (Term.C (⟨r3.kind,r3.name,r3.other,r3.form,s6⟩ : Term)),oB b2 zD (Term.C (⟨0,ByteArray.empty,ByteArray.empty,0,SlV.nil⟩ : Term))]
  refine zu (zp y0) (by decide) (yZ (a0:=r111) SB120 er118) ?_
  rintro _ w119 ⟨s121,rfl,S2⟩
  replace S:=back _ _ _ _ _ S2 rfl rfl
  clear back S2 SB120
  refine zM zO rfl rfl (S.blk 3) (Term.len _) (by rw [Term.len]; decide) (Term.one _) (zZ (Term.len _)) fun w122 B hw122 zw122=>?_
  replace S:=S.store 3 B hw122
  clear B
  refine zb (zx ?_)
  refine ⟨_,(zV (xV zO rfl ((S.blk 0).all _ (Term.len _)) (Term.len _))),?_⟩
  replace S:=S.arr [] [0]
  obtain rfl:=Option.some.inj H
  exact ⟨s121,rfl,S⟩
 replace H:=if_f hc107 H
 refine zd (za (wd (zR rfl rfl) (wd (zm rfl) (zb ?_))))
 refine zH rfl (fun hc123=>?_) (fun hc123=>?_)
 ·replace H:=if_t hc123 H
  refine zd (za (wd (zo zO rfl ((S.blk 2).all _ (Term.len _)) (Term.len _)) (wd (zo zO rfl ((S.blk 1).all _ (Term.len _)) (Term.len _)) ?_)))
  refine xK (C:=Term.C) (l:=[(⟨r3.kind,r3.name,r3.other,r3.form,s6⟩ : Term),(⟨r7.kind,r7.name,r7.other,r7.form,s10⟩ : Term)]) (vs:=[.agg (Term.C (⟨r3.kind,r3.name,r3.other,r3.form,s6⟩ : Term)).toArray,.agg (Term.C (⟨r7.kind,r7.name,r7.other,r7.form,s10⟩ : Term)).toArray]) zY vO.zero rfl rfl (fun a _=>Term.len a) (by decide) rfl (by decide) fun b125 w124 s126 hBw124 hw124=>?_
  replace S:=((S.lit hBw124 hw124 (by simp)).bigTm).consTm (x:=r7) 1
  replace S:=((S.consTm (x:=r3) 2).frzTm 0 0).zs [0,2,3,4]
  obtain ⟨r127,er127,H⟩ := zq H
  obtain ⟨B129,MB129,SB129,back⟩ := S.sub [0] [] [oB b20 zD (Term.C (⟨r11.kind,r11.name,r11.other,r11.form,s14⟩ : Term)),oB b18 zD (Term.C (⟨r7.kind,r7.name,r7.other,r7.form,s10⟩ : Term)),oB b16 zD (Term.C (⟨r3.kind,r3.name,r3.other,r3.form,s6⟩ : Term)),oB b2 zD (Term.C (⟨0,ByteArray.empty,ByteArray.empty,0,SlV.nil⟩ : Term))]
  refine zu (zp xU) (by decide) (xT SB129 er127) ?_
  rintro _ w128 ⟨s130,rfl,S2⟩
  replace S:=back _ _ _ _ _ S2 rfl rfl
  clear back S2 SB129
  refine xK (C:=SC) (l:=[(⟨#[97]⟩ : ByteArray),(⟨#[98]⟩ : ByteArray)]) (vs:=[.string (⟨#[97]⟩ : ByteArray),.string (⟨#[98]⟩ : ByteArray)]) yO uJ.zero rfl rfl (fun _ _=>rfl) (by decide) rfl (by decide) fun b132 w131 s133 hBw131 hw131=>?_
  replace S:=S.lit hBw131 hw131 (by simp)
  obtain ⟨r134,er134,H⟩ := zq H
  replace S:=S.frzS 0
  obtain ⟨B136,MB136,SB136,back⟩ := S.sub [1,0] [] [oB b20 zD (Term.C (⟨r11.kind,r11.name,r11.other,r11.form,s14⟩ : Term)),oB b18 zD (Term.C (⟨r7.kind,r7.name,r7.other,r7.form,s10⟩ : Term)),oB b16 zD (Term.C (⟨r3.kind,r3.name,r3.other,r3.form,s6⟩ : Term)),oB b2 zD (Term.C (⟨0,ByteArray.empty,ByteArray.empty,0,SlV.nil⟩ : Term))]
  refine zu (zp y0) (by decide) (yZ (a0:=r127) SB136 er134) ?_
  rintro _ w135 ⟨s137,rfl,S2⟩
  replace S:=back _ _ _ _ _ S2 rfl rfl
  clear back S2 SB136
  refine zM zO rfl rfl (S.blk 3) (Term.len _) (by rw [Term.len]; decide) (Term.one _) (zZ (Term.len _)) fun w138 B hw138 zw138=>?_
  replace S:=S.store 3 B hw138
  clear B
  refine zb (zx ?_)
  refine ⟨_,(zV (xV zO rfl ((S.blk 0).all _ (Term.len _)) (Term.len _))),?_⟩
  replace S:=S.arr [] [0]
  obtain rfl:=Option.some.inj H
  exact ⟨s137,rfl,S⟩
 replace H:=if_f hc123 H
 refine zd (za (wd (zR rfl rfl) (wd (zm rfl) (zb ?_))))
 refine zH rfl (fun hc139=>?_) (fun hc139=>?_)
 ·replace H:=if_t hc139 H
  refine zd (za (wd (zo zO rfl ((S.blk 2).all _ (Term.len _)) (Term.len _)) ?_))
  refine xK (C:=Term.C) (l:=[(⟨r3.kind,r3.name,r3.other,r3.form,s6⟩ : Term)]) (vs:=[.agg (Term.C (⟨r3.kind,r3.name,r3.other,r3.form,s6⟩ : Term)).toArray]) zY vO.zero rfl rfl (fun a _=>Term.len a) (by decide) rfl (by decide) fun b141 w140 s142 hBw140 hw140=>?_
  replace S:=((S.lit hBw140 hw140 (by simp)).bigTm).consTm (x:=r3) 2
  replace S:=(S.frzTm 0 0).zs [0,2,3,4]
  obtain ⟨r143,er143,H⟩ := zq H
  obtain ⟨B145,MB145,SB145,back⟩ := S.sub [0] [] [oB b20 zD (Term.C (⟨r11.kind,r11.name,r11.other,r11.form,s14⟩ : Term)),oB b18 zD (Term.C (⟨r7.kind,r7.name,r7.other,r7.form,s10⟩ : Term)),oB b16 zD (Term.C (⟨r3.kind,r3.name,r3.other,r3.form,s6⟩ : Term)),oB b2 zD (Term.C (⟨0,ByteArray.empty,ByteArray.empty,0,SlV.nil⟩ : Term))]
  refine zu (zp xU) (by decide) (xT SB145 er143) ?_
  rintro _ w144 ⟨s146,rfl,S2⟩
  replace S:=back _ _ _ _ _ S2 rfl rfl
  clear back S2 SB145
  refine xK (C:=SC) (l:=[(⟨#[97]⟩ : ByteArray)]) (vs:=[.string (⟨#[97]⟩ : ByteArray)]) yO uJ.zero rfl rfl (fun _ _=>rfl) (by decide) rfl (by decide) fun b148 w147 s149 hBw147 hw147=>?_
  replace S:=S.lit hBw147 hw147 (by simp)
  obtain ⟨r150,er150,H⟩ := zq H
  replace S:=S.frzS 0
  obtain ⟨B152,MB152,SB152,back⟩ := S.sub [1,0] [] [oB b20 zD (Term.C (⟨r11.kind,r11.name,r11.other,r11.form,s14⟩ : Term)),oB b18 zD (Term.C (⟨r7.kind,r7.name,r7.other,r7.form,s10⟩ : Term)),oB b16 zD (Term.C (⟨r3.kind,r3.name,r3.other,r3.form,s6⟩ : Term)),oB b2 zD (Term.C (⟨0,ByteArray.empty,ByteArray.empty,0,SlV.nil⟩ : Term))]
  refine zu (zp y0) (by decide) (yZ (a0:=r143) SB152 er150) ?_
  rintro _ w151 ⟨s153,rfl,S2⟩
  replace S:=back _ _ _ _ _ S2 rfl rfl
  clear back S2 SB152
  refine zM zO rfl rfl (S.blk 3) (Term.len _) (by rw [Term.len]; decide) (Term.one _) (zZ (Term.len _)) fun w154 B hw154 zw154=>?_
  replace S:=S.store 3 B hw154
  clear B
  refine zb (zx ?_)
  refine ⟨_,(zV (xV zO rfl ((S.blk 0).all _ (Term.len _)) (Term.len _))),?_⟩
  replace S:=S.arr [] [0]
  obtain rfl:=Option.some.inj H
  exact ⟨s153,rfl,S⟩
 replace H:=if_f hc139 H
 refine zd (za (wd (zR rfl rfl) (wd (zm rfl) (zb ?_))))
 refine zH rfl (fun hc155=>?_) (fun hc155=>?_)
 ·replace H:=if_t hc155 H
  refine zd (za (wd (zo zO rfl ((S.blk 2).all _ (Term.len _)) (Term.len _)) ?_))
  refine xK (C:=Term.C) (l:=[(⟨r3.kind,r3.name,r3.other,r3.form,s6⟩ : Term)]) (vs:=[.agg (Term.C (⟨r3.kind,r3.name,r3.other,r3.form,s6⟩ : Term)).toArray]) zY vO.zero rfl rfl (fun a _=>Term.len a) (by decide) rfl (by decide) fun b157 w156 s158 hBw156 hw156=>?_
  replace S:=((S.lit hBw156 hw156 (by simp)).bigTm).consTm (x:=r3) 2
  replace S:=(S.frzTm 0 0).zs [0,2,3,4]
  obtain ⟨r159,er159,H⟩ := zq H
  obtain ⟨B161,MB161,SB161,back⟩ := S.sub [0] [] [oB b20 zD (Term.C (⟨r11.kind,r11.name,r11.other,r11.form,s14⟩ : Term)),oB b18 zD (Term.C (⟨r7.kind,r7.name,r7.other,r7.form,s10⟩ : Term)),oB b16 zD (Term.C (⟨r3.kind,r3.name,r3.other,r3.form,s6⟩ : Term)),oB b2 zD (Term.C (⟨0,ByteArray.empty,ByteArray.empty,0,SlV.nil⟩ : Term))]
  refine zu (zp xU) (by decide) (xT SB161 er159) ?_
  rintro _ w160 ⟨s162,rfl,S2⟩
  replace S:=back _ _ _ _ _ S2 rfl rfl
  clear back S2 SB161
  refine xK (C:=SC) (l:=[(⟨#[97]⟩ : ByteArray)]) (vs:=[.string (⟨#[97]⟩ : ByteArray)]) yO uJ.zero rfl rfl (fun _ _=>rfl) (by decide) rfl (by decide) fun b164 w163 s165 hBw163 hw163=>?_
  replace S:=S.lit hBw163 hw163 (by simp)
  obtain ⟨r166,er166,H⟩ := zq H
  replace S:=S.frzS 0
  obtain ⟨B168,MB168,SB168,back⟩ := S.sub [1,0] [] [oB b20 zD (Term.C (⟨r11.kind,r11.name,r11.other,r11.form,s14⟩ : Term)),oB b18 zD (Term.C (⟨r7.kind,r7.name,r7.other,r7.form,s10⟩ : Term)),oB b16 zD (Term.C (⟨r3.kind,r3.name,r3.other,r3.form,s6⟩ : Term)),oB b2 zD (Term.C (⟨0,ByteArray.empty,ByteArray.empty,0,SlV.nil⟩ : Term))]
  refine zu (zp y0) (by decide) (yZ (a0:=r159) SB168 er166) ?_
  rintro _ w167 ⟨s169,rfl,S2⟩
  replace S:=back _ _ _ _ _ S2 rfl rfl
  clear back S2 SB168
  refine zM zO rfl rfl (S.blk 3) (Term.len _) (by rw [Term.len]; decide) (Term.one _) (zZ (Term.len _)) fun w170 B hw170 zw170=>?_
  replace S:=S.store 3 B hw170
  clear B
  refine zb (zx ?_)
  refine ⟨_,(zV (xV zO rfl ((S.blk 0).all _ (Term.len _)) (Term.len _))),?_⟩
  replace S:=S.arr [] [0]
  obtain rfl:=Option.some.inj H
  exact ⟨s169,rfl,S⟩
 replace H:=if_f hc155 H
 refine zd (za (wd (zR rfl rfl) (wd (zm rfl) (zb ?_))))
 refine zH rfl (fun hc171=>?_) (fun hc171=>?_)
 ·replace H:=if_t hc171 H
  refine zd ?_
  obtain ⟨r172,er172,H⟩ := zq H
  obtain ⟨r179,er179,H⟩ := zq H
  obtain ⟨r183,er183,H⟩ := zq H
  obtain ⟨r190,er190,H⟩ := zq H
  obtain ⟨r197,er197,H⟩ := zq H
  refine uo 12 ⟨fun _ _=>True,fun _ _ _=>True,fun i v _=>match i with
   | 0=>v=Value.agg (Term.C (⟨r11.kind,r11.name,r11.other,r11.form,s14⟩ : Term)).toArray
   | 1=>v=Value.agg (Term.C (⟨r3.kind,r3.name,r3.other,r3.form,s6⟩ : Term)).toArray
   | 5=>v=Value.agg (Term.C (⟨r7.kind,r7.name,r7.other,r7.form,s10⟩ : Term)).toArray
   | _=>True⟩ (fun L g v => ∃ b202:Nat,∃ O204:List OA,∃ Z203:List OA,(∀ z ∈ [zy s14 r11.sub,zy s10 r7.sub,zy s6 r3.sub],z ∈ Z203)∧Made L g Z203 2 70 (fun (c:SlV)=>Value.agg (Term.C (⟨r172.kind,r172.name,r172.other,r172.form,c⟩ : Term)).toArray) (fun (c:SlV)=>[zy c r172.sub])∧Made L g Z203 3 71 (fun (c:SlV)=>c.v) (fun (c:SlV)=>[zy c ([r3,r172])])∧Made L g Z203 4 72 (fun (c:SlV)=>Value.agg (Term.C (⟨r179.kind,r179.name,r179.other,r179.form,c⟩ : Term)).toArray) (fun (c:SlV)=>[zy c r179.sub])∧Made L g Z203 6 74 (fun (c:SlV)=>Value.agg (Term.C (⟨r183.kind,r183.name,r183.other,r183.form,c⟩ : Term)).toArray) (fun (c:SlV)=>[zy c r183.sub])∧Made L g Z203 7 75 (fun (c:SlV)=>c.v) (fun (c:SlV)=>[zy c ([r7,r183])])∧Made L g Z203 8 76 (fun (c:SlV)=>Value.agg (Term.C (⟨r190.kind,r190.name,r190.other,r190.form,c⟩ : Term)).toArray) (fun (c:SlV)=>[zy c r190.sub])∧Made L g Z203 9 77 (fun (c:SlV)=>c.v) (fun (c:SlV)=>[zy c ([r11,r179,r190])])∧Made L g Z203 10 78 (fun (c:SlV)=>Value.agg (Term.C (⟨r197.kind,r197.name,r197.other,r197.form,c⟩ : Term)).toArray) (fun (c:SlV)=>[zy c r197.sub])∧(L 11=true→g 6=Value.pointer (some ⟨b202,0,none⟩))∧O204=((bif L 11 then [oB b202 zD (Term.C (⟨0,ByteArray.empty,ByteArray.empty,0,SlV.nil⟩ : Term))] else []) ++ [oB b20 zD (Term.C (⟨r11.kind,r11.name,r11.other,r11.form,s14⟩ : Term)),oB b18 zD (Term.C (⟨r7.kind,r7.name,r7.other,r7.form,s10⟩ : Term)),oB b16 zD (Term.C (⟨r3.kind,r3.name,r3.other,r3.form,s6⟩ : Term)),oB b2 zD (Term.C (⟨0,ByteArray.empty,ByteArray.empty,0,SlV.nil⟩ : Term))])∧St A N w v O204 Z203) hmix (by kernel_rfl) (fun _ _ _ _ _ _ _ hv=>hv) (fun g=>⟨0,_,_,fun _ h=>h,Made.no,Made.no,Made.no,Made.no,Made.no,Made.no,Made.no,Made.no,(fun h=>by cases h),rfl,S.ext (Ext.drawn _)⟩) ⟨?_,?_,?_,?_,?_,?_,?_,?_,?_,?_,?_,?_,trivial⟩ ?_
  ·rintro L g v hL hcl hclo ⟨b202,O204,Z203,hZ,hm2,hm3,hm4,hm6,hm7,hm8,hm9,hm10,hk11,hO,S⟩ 
   have SR:St A N w v [oB b20 zD (Term.C (⟨r11.kind,r11.name,r11.other,r11.form,s14⟩ : Term)),oB b18 zD (Term.C (⟨r7.kind,r7.name,r7.other,r7.form,s10⟩ : Term)),oB b16 zD (Term.C (⟨r3.kind,r3.name,r3.other,r3.form,s6⟩ : Term)),oB b2 zD (Term.C (⟨0,ByteArray.empty,ByteArray.empty,0,SlV.nil⟩ : Term))] (zy s14 r11.sub :: zy s10 r7.sub :: zy s6 r3.sub :: Z203):=by
    have S2:=S.zneed hZ
    rw [hO] at S2
    exact S2.drops
   refine wd (zo zO rfl ((SR.blk 0).all _ (Term.len _)) (Term.len _)) ?_
   exact zb (ob4 trivial rfl ⟨b202,O204,Z203,hZ,hm2.keep rfl rfl tl0,hm3.keep rfl rfl tl0,hm4.keep rfl rfl tl0,hm6.keep rfl rfl tl0,hm7.keep rfl rfl tl0,hm8.keep rfl rfl tl0,hm9.keep rfl rfl tl0,hm10.keep rfl rfl tl0,(fun h=>by rw [zF _ _ _ _ (by decide)]; exact hk11 (by rw [zn rfl] at h; exact h)),by rw [hO]; simp only [zn (L:=L) (i:=0) (j:=11) rfl],S⟩)
  ·rintro L g v hL hcl hclo ⟨b202,O204,Z203,hZ,hm2,hm3,hm4,hm6,hm7,hm8,hm9,hm10,hk11,hO,S⟩ 
   have SR:St A N w v [oB b20 zD (Term.C (⟨r11.kind,r11.name,r11.other,r11.form,s14⟩ : Term)),oB b18 zD (Term.C (⟨r7.kind,r7.name,r7.other,r7.form,s10⟩ : Term)),oB b16 zD (Term.C (⟨r3.kind,r3.name,r3.other,r3.form,s6⟩ : Term)),oB b2 zD (Term.C (⟨0,ByteArray.empty,ByteArray.empty,0,SlV.nil⟩ : Term))] (zy s14 r11.sub :: zy s10 r7.sub :: zy s6 r3.sub :: Z203):=by
    have S2:=S.zneed hZ
    rw [hO] at S2
    exact S2.drops
   refine wd (zo zO rfl ((SR.blk 2).all _ (Term.len _)) (Term.len _)) ?_
   exact zb (ob4 trivial rfl ⟨b202,O204,Z203,hZ,hm2.keep rfl rfl tl0,hm3.keep rfl rfl tl0,hm4.keep rfl rfl tl0,hm6.keep rfl rfl tl0,hm7.keep rfl rfl tl0,hm8.keep rfl rfl tl0,hm9.keep rfl rfl tl0,hm10.keep rfl rfl tl0,(fun h=>by rw [zF _ _ _ _ (by decide)]; exact hk11 (by rw [zn rfl] at h; exact h)),by rw [hO]; simp only [zn (L:=L) (i:=1) (j:=11) rfl],S⟩)
  ·rintro L g v hL hcl hclo ⟨b202,O204,Z203,hZ,hm2,hm3,hm4,hm6,hm7,hm8,hm9,hm10,hk11,hO,S⟩ 
   replace S:=(S.zneed hZ)
   obtain ⟨B207,MB207,SB207,back⟩ := S.sub [] [] (O204)
   refine zu (zp vv) (by decide) (vu SB207 er172) ?_
   rintro _ w206 ⟨s208,rfl,S2⟩
   replace S:=back _ _ _ _ _ S2 rfl rfl
   clear back S2 SB207
   exact zb (ob4 trivial trivial ⟨b202,O204,_,(fun z h=>tl4 z (hZ z h)),Made.one (val:=(fun (c:SlV)=>Value.agg (Term.C (⟨r172.kind,r172.name,r172.other,r172.form,c⟩ : Term)).toArray)) (ps:=(fun (c:SlV)=>[zy c r172.sub])) s208 (ui List.mem_cons_self jD),hm3.keep rfl rfl tl4,hm4.keep rfl rfl tl4,hm6.keep rfl rfl tl4,hm7.keep rfl rfl tl4,hm8.keep rfl rfl tl4,hm9.keep rfl rfl tl4,hm10.keep rfl rfl tl4,(fun h=>by rw [zF _ _ _ _ (by decide)]; exact hk11 (by rw [zn rfl] at h; exact h)),by rw [hO]; simp only [zn (L:=L) (i:=2) (j:=11) rfl],S⟩)
  ·rintro L g v hL hcl hclo ⟨b202,O204,Z203,hZ,hm2,hm3,hm4,hm6,hm7,hm8,hm9,hm10,hk11,hO,S⟩ hv1 _
   obtain ⟨s175,he2,hp2⟩ := hm2 (hcl 2 (by kernel_rfl))
   replace S:=(S.zneed (y6 (l1:=[zy s175 r172.sub]) hp2 hZ))
   refine xK (C:=Term.C) (l:=[(⟨r3.kind,r3.name,r3.other,r3.form,s6⟩ : Term),(⟨r172.kind,r172.name,r172.other,r172.form,s175⟩ : Term)]) (vs:=[.agg (Term.C (⟨r3.kind,r3.name,r3.other,r3.form,s6⟩ : Term)).toArray,.agg (Term.C (⟨r172.kind,r172.name,r172.other,r172.form,s175⟩ : Term)).toArray]) zY vO.zero (yw hv1 (yw he2 rfl)) rfl (fun a _=>Term.len a) (by decide) rfl (by decide) fun b210 w209 s211 hBw209 hw209=>?_
   replace S:=((S.lit hBw209 hw209 (by simp)).bigTm).consTm (x:=r172) 0
   replace S:=(S.consTm (x:=r3) 3).frzTm 0 0
   exact zb (ob4 trivial trivial ⟨b202,O204,_,(fun z h=>tl6 z (hZ z h)),hm2.keep rfl rfl tl6,Made.one (val:=(fun (c:SlV)=>c.v)) (ps:=(fun (c:SlV)=>[zy c ([r3,r172])])) s211 (ui List.mem_cons_self jD),hm4.keep rfl rfl tl6,hm6.keep rfl rfl tl6,hm7.keep rfl rfl tl6,hm8.keep rfl rfl tl6,hm9.keep rfl rfl tl6,hm10.keep rfl rfl tl6,(fun h=>by rw [zF _ _ _ _ (by decide)]; exact hk11 (by rw [zn rfl] at h; exact h)),by rw [hO]; simp only [zn (L:=L) (i:=3) (j:=11) rfl],S⟩)
  ·rintro L g v hL hcl hclo ⟨b202,O204,Z203,hZ,hm2,hm3,hm4,hm6,hm7,hm8,hm9,hm10,hk11,hO,S⟩ _
   obtain ⟨s178,he3,hp3⟩ := hm3 (hcl 3 (by kernel_rfl))
   replace S:=(S.zneed (y6 (l1:=[zy s178 ([r3,r172])]) hp3 hZ))
   obtain ⟨B214,MB214,SB214,back⟩ := S.sub [0] [] (O204)
   refine zu (zP xU (zS rfl (zS he3 rfl))) (by decide) (xT SB214 er179) ?_
   rintro _ w213 ⟨s215,rfl,S2⟩
   replace S:=back _ _ _ _ _ S2 rfl rfl
   clear back S2 SB214
   exact zb (ob4 trivial trivial ⟨b202,O204,_,(fun z h=>tl5 z (hZ z h)),hm2.keep rfl rfl tl5,hm3.keep rfl rfl tl5,Made.one (val:=(fun (c:SlV)=>Value.agg (Term.C (⟨r179.kind,r179.name,r179.other,r179.form,c⟩ : Term)).toArray)) (ps:=(fun (c:SlV)=>[zy c r179.sub])) s215 (ui List.mem_cons_self jD),hm6.keep rfl rfl tl5,hm7.keep rfl rfl tl5,hm8.keep rfl rfl tl5,hm9.keep rfl rfl tl5,hm10.keep rfl rfl tl5,(fun h=>by rw [zF _ _ _ _ (by decide)]; exact hk11 (by rw [zn rfl] at h; exact h)),by rw [hO]; simp only [zn (L:=L) (i:=4) (j:=11) rfl],S⟩)
  ·rintro L g v hL hcl hclo ⟨b202,O204,Z203,hZ,hm2,hm3,hm4,hm6,hm7,hm8,hm9,hm10,hk11,hO,S⟩ 
   have SR:St A N w v [oB b20 zD (Term.C (⟨r11.kind,r11.name,r11.other,r11.form,s14⟩ : Term)),oB b18 zD (Term.C (⟨r7.kind,r7.name,r7.other,r7.form,s10⟩ : Term)),oB b16 zD (Term.C (⟨r3.kind,r3.name,r3.other,r3.form,s6⟩ : Term)),oB b2 zD (Term.C (⟨0,ByteArray.empty,ByteArray.empty,0,SlV.nil⟩ : Term))] (zy s14 r11.sub :: zy s10 r7.sub :: zy s6 r3.sub :: Z203):=by
    have S2:=S.zneed hZ
    rw [hO] at S2
    exact S2.drops
   refine wd (zo zO rfl ((SR.blk 1).all _ (Term.len _)) (Term.len _)) ?_
   exact zb (ob4 trivial rfl ⟨b202,O204,Z203,hZ,hm2.keep rfl rfl tl0,hm3.keep rfl rfl tl0,hm4.keep rfl rfl tl0,hm6.keep rfl rfl tl0,hm7.keep rfl rfl tl0,hm8.keep rfl rfl tl0,hm9.keep rfl rfl tl0,hm10.keep rfl rfl tl0,(fun h=>by rw [zF _ _ _ _ (by decide)]; exact hk11 (by rw [zn rfl] at h; exact h)),by rw [hO]; simp only [zn (L:=L) (i:=5) (j:=11) rfl],S⟩)
  ·rintro L g v hL hcl hclo ⟨b202,O204,Z203,hZ,hm2,hm3,hm4,hm6,hm7,hm8,hm9,hm10,hk11,hO,S⟩ 
   replace S:=(S.zneed hZ)
   obtain ⟨B218,MB218,SB218,back⟩ := S.sub [] [] (O204)
   refine zu (zp vv) (by decide) (vu SB218 er183) ?_
   rintro _ w217 ⟨s219,rfl,S2⟩
   replace S:=back _ _ _ _ _ S2 rfl rfl
   clear back S2 SB218
   exact zb (ob4 trivial trivial ⟨b202,O204,_,(fun z h=>tl4 z (hZ z h)),hm2.keep rfl rfl tl4,hm3.keep rfl rfl tl4,hm4.keep rfl rfl tl4,Made.one (val:=(fun (c:SlV)=>Value.agg (Term.C (⟨r183.kind,r183.name,r183.other,r183.form,c⟩ : Term)).toArray)) (ps:=(fun (c:SlV)=>[zy c r183.sub])) s219 (ui List.mem_cons_self jD),hm7.keep rfl rfl tl4,hm8.keep rfl rfl tl4,hm9.keep rfl rfl tl4,hm10.keep rfl rfl tl4,(fun h=>by rw [zF _ _ _ _ (by decide)]; exact hk11 (by rw [zn rfl] at h; exact h)),by rw [hO]; simp only [zn (L:=L) (i:=6) (j:=11) rfl],S⟩)
  ·rintro L g v hL hcl hclo ⟨b202,O204,Z203,hZ,hm2,hm3,hm4,hm6,hm7,hm8,hm9,hm10,hk11,hO,S⟩ hv5 _
   obtain ⟨s186,he6,hp6⟩ := hm6 (hcl 6 (by kernel_rfl))
   replace S:=(S.zneed (y6 (l1:=[zy s186 r183.sub]) hp6 hZ))
   refine xK (C:=Term.C) (l:=[(⟨r7.kind,r7.name,r7.other,r7.form,s10⟩ : Term),(⟨r183.kind,r183.name,r183.other,r183.form,s186⟩ : Term)]) (vs:=[.agg (Term.C (⟨r7.kind,r7.name,r7.other,r7.form,s10⟩ : Term)).toArray,.agg (Term.C (⟨r183.kind,r183.name,r183.other,r183.form,s186⟩ : Term)).toArray]) zY vO.zero (yw hv5 (yw he6 rfl)) rfl (fun a _=>Term.len a) (by decide) rfl (by decide) fun b221 w220 s222 hBw220 hw220=>?_
   replace S:=((S.lit hBw220 hw220 (by simp)).bigTm).consTm (x:=r183) 0
   replace S:=(S.consTm (x:=r7) 2).frzTm 0 0
   exact zb (ob4 trivial trivial ⟨b202,O204,_,(fun z h=>tl6 z (hZ z h)),hm2.keep rfl rfl tl6,hm3.keep rfl rfl tl6,hm4.keep rfl rfl tl6,hm6.keep rfl rfl tl6,Made.one (val:=(fun (c:SlV)=>c.v)) (ps:=(fun (c:SlV)=>[zy c ([r7,r183])])) s222 (ui List.mem_cons_self jD),hm8.keep rfl rfl tl6,hm9.keep rfl rfl tl6,hm10.keep rfl rfl tl6,(fun h=>by rw [zF _ _ _ _ (by decide)]; exact hk11 (by rw [zn rfl] at h; exact h)),by rw [hO]; simp only [zn (L:=L) (i:=7) (j:=11) rfl],S⟩)
  ·rintro L g v hL hcl hclo ⟨b202,O204,Z203,hZ,hm2,hm3,hm4,hm6,hm7,hm8,hm9,hm10,hk11,hO,S⟩ _
   obtain ⟨s189,he7,hp7⟩ := hm7 (hcl 7 (by kernel_rfl))
   replace S:=(S.zneed (y6 (l1:=[zy s189 ([r7,r183])]) hp7 hZ))
   obtain ⟨B225,MB225,SB225,back⟩ := S.sub [0] [] (O204)
   refine zu (zP xU (zS rfl (zS he7 rfl))) (by decide) (xT SB225 er190) ?_
   rintro _ w224 ⟨s226,rfl,S2⟩
   replace S:=back _ _ _ _ _ S2 rfl rfl
   clear back S2 SB225
   exact zb (ob4 trivial trivial ⟨b202,O204,_,(fun z h=>tl5 z (hZ z h)),hm2.keep rfl rfl tl5,hm3.keep rfl rfl tl5,hm4.keep rfl rfl tl5,hm6.keep rfl rfl tl5,hm7.keep rfl rfl tl5,Made.one (val:=(fun (c:SlV)=>Value.agg (Term.C (⟨r190.kind,r190.name,r190.other,r190.form,c⟩ : Term)).toArray)) (ps:=(fun (c:SlV)=>[zy c r190.sub])) s226 (ui List.mem_cons_self jD),hm9.keep rfl rfl tl5,hm10.keep rfl rfl tl5,(fun h=>by rw [zF _ _ _ _ (by decide)]; exact hk11 (by rw [zn rfl] at h; exact h)),by rw [hO]; simp only [zn (L:=L) (i:=8) (j:=11) rfl],S⟩)
  ·rintro L g v hL hcl hclo ⟨b202,O204,Z203,hZ,hm2,hm3,hm4,hm6,hm7,hm8,hm9,hm10,hk11,hO,S⟩ hv0 _ _
   obtain ⟨s182,he4,hp4⟩ := hm4 (hcl 4 (by kernel_rfl))
   obtain ⟨s193,he8,hp8⟩ := hm8 (hcl 8 (by kernel_rfl))
   replace S:=(S.zneed (y6 (l1:=[zy s182 r179.sub]) hp4 (y6 (l1:=[zy s193 r190.sub]) hp8 hZ)))
   refine xK (C:=Term.C) (l:=[(⟨r11.kind,r11.name,r11.other,r11.form,s14⟩ : Term),(⟨r179.kind,r179.name,r179.other,r179.form,s182⟩ : Term),(⟨r190.kind,r190.name,r190.other,r190.form,s193⟩ : Term)]) (vs:=[.agg (Term.C (⟨r11.kind,r11.name,r11.other,r11.form,s14⟩ : Term)).toArray,.agg (Term.C (⟨r179.kind,r179.name,r179.other,r179.form,s182⟩ : Term)).toArray,.agg (Term.C (⟨r190.kind,r190.name,r190.other,r190.form,s193⟩ : Term)).toArray]) zY vO.zero (yw hv0 (yw he4 (yw he8 rfl))) rfl (fun a _=>Term.len a) (by decide) rfl (by decide) fun b228 w227 s229 hBw227 hw227=>?_
   replace S:=((S.lit hBw227 hw227 (by simp)).bigTm).consTm (x:=r190) 1
   replace S:=((S.consTm (x:=r179) 0).consTm (x:=r11) 2).frzTm 0 0
   exact zb (ob4 trivial trivial ⟨b202,O204,_,(fun z h=>tl7 z (hZ z h)),hm2.keep rfl rfl tl7,hm3.keep rfl rfl tl7,hm4.keep rfl rfl tl7,hm6.keep rfl rfl tl7,hm7.keep rfl rfl tl7,hm8.keep rfl rfl tl7,Made.one (val:=(fun (c:SlV)=>c.v)) (ps:=(fun (c:SlV)=>[zy c ([r11,r179,r190])])) s229 (ui List.mem_cons_self jD),hm10.keep rfl rfl tl7,(fun h=>by rw [zF _ _ _ _ (by decide)]; exact hk11 (by rw [zn rfl] at h; exact h)),by rw [hO]; simp only [zn (L:=L) (i:=9) (j:=11) rfl],S⟩)
  ·rintro L g v hL hcl hclo ⟨b202,O204,Z203,hZ,hm2,hm3,hm4,hm6,hm7,hm8,hm9,hm10,hk11,hO,S⟩ _
   obtain ⟨s196,he9,hp9⟩ := hm9 (hcl 9 (by kernel_rfl))
   replace S:=(S.zneed (y6 (l1:=[zy s196 ([r11,r179,r190])]) hp9 hZ))
   obtain ⟨B232,MB232,SB232,back⟩ := S.sub [0] [] (O204)
   refine zu (zP xU (zS rfl (zS he9 rfl))) (by decide) (xT SB232 er197) ?_
   rintro _ w231 ⟨s233,rfl,S2⟩
   replace S:=back _ _ _ _ _ S2 rfl rfl
   clear back S2 SB232
   exact zb (ob4 trivial trivial ⟨b202,O204,_,(fun z h=>tl5 z (hZ z h)),hm2.keep rfl rfl tl5,hm3.keep rfl rfl tl5,hm4.keep rfl rfl tl5,hm6.keep rfl rfl tl5,hm7.keep rfl rfl tl5,hm8.keep rfl rfl tl5,hm9.keep rfl rfl tl5,Made.one (val:=(fun (c:SlV)=>Value.agg (Term.C (⟨r197.kind,r197.name,r197.other,r197.form,c⟩ : Term)).toArray)) (ps:=(fun (c:SlV)=>[zy c r197.sub])) s233 (ui List.mem_cons_self jD),(fun h=>by rw [zF _ _ _ _ (by decide)]; exact hk11 (by rw [zn rfl] at h; exact h)),by rw [hO]; simp only [zn (L:=L) (i:=10) (j:=11) rfl],S⟩)
  ·rintro L g v hL hcl hclo ⟨b202,O204,Z203,hZ,hm2,hm3,hm4,hm6,hm7,hm8,hm9,hm10,hk11,hO,S⟩ 
   have hl11:L 11=false:=hL
   have hOP : ∃ P Y,P=[]∧Y=[oB b20 zD (Term.C (⟨r11.kind,r11.name,r11.other,r11.form,s14⟩ : Term)),oB b18 zD (Term.C (⟨r7.kind,r7.name,r7.other,r7.form,s10⟩ : Term)),oB b16 zD (Term.C (⟨r3.kind,r3.name,r3.other,r3.form,s6⟩ : Term)),oB b2 zD (Term.C (⟨0,ByteArray.empty,ByteArray.empty,0,SlV.nil⟩ : Term))]∧O204=P ++ ([] ++ Y):=⟨_,_,rfl,rfl,by rw [hO]; simp only [hl11,cond_true,cond_false,List.nil_append,List.append_assoc,List.cons_append]⟩
   obtain ⟨P,Y,hP,hY,hPY⟩ := hOP
   rw [hPY] at S
   replace S:=S
   refine xe jp (by decide) fun b235 w234 hw234=>?_
   replace S:=S.new hw234
   refine zb (ob4 trivial trivial ⟨b235,P ++ ([oB b235 zD (Term.C (⟨0,ByteArray.empty,ByteArray.empty,0,SlV.nil⟩ : Term))] ++ Y),_,hZ,hm2.keep rfl rfl tl0,hm3.keep rfl rfl tl0,hm4.keep rfl rfl tl0,hm6.keep rfl rfl tl0,hm7.keep rfl rfl tl0,hm8.keep rfl rfl tl0,hm9.keep rfl rfl tl0,hm10.keep rfl rfl tl0,(fun _=>upd_same _ _ _),?_,S.ins (P:=[oB b235 zD (Term.C (⟨0,ByteArray.empty,ByteArray.empty,0,SlV.nil⟩ : Term))])⟩)
   rw [hP,hY]; simp only [yW (L:=L) (i:=11),cond_true,cond_false,List.nil_append,List.append_assoc,List.cons_append]
  rintro L g w236 hLm ⟨b202,O204,Z203,hZ,hm2,hm3,hm4,hm6,hm7,hm8,hm9,hm10,hk11,hO,S⟩ hv237_0 hv237_1 _ _ _ hv237_5 _ _ _ _ _ _
  have hLt : ∀ j,j < 12→L j=true:=fun j hj=>by rw [hLm]; exact decide_eq_true hj
  obtain ⟨s175,hv237_2,hp2⟩ := hm2 (hLt 2 (by decide))
  obtain ⟨s178,hv237_3,hp3⟩ := hm3 (hLt 3 (by decide))
  obtain ⟨s182,hv237_4,hp4⟩ := hm4 (hLt 4 (by decide))
  obtain ⟨s186,hv237_6,hp6⟩ := hm6 (hLt 6 (by decide))
  obtain ⟨s189,hv237_7,hp7⟩ := hm7 (hLt 7 (by decide))
  obtain ⟨s193,hv237_8,hp8⟩ := hm8 (hLt 8 (by decide))
  obtain ⟨s196,hv237_9,hp9⟩ := hm9 (hLt 9 (by decide))
  obtain ⟨s200,hv237_10,hp10⟩ := hm10 (hLt 10 (by decide))
  have hv237_11:=hk11 (hLt 11 (by decide))
  simp only [hLt 11 (by decide),cond_true,List.nil_append,List.cons_append] at hO
  rw [hO] at S
  replace S:=S.pickZ (y6 (l1:=[zy s175 r172.sub]) hp2 (y6 (l1:=[zy s178 ([r3,r172])]) hp3 (y6 (l1:=[zy s182 r179.sub]) hp4 (y6 (l1:=[zy s186 r183.sub]) hp6 (y6 (l1:=[zy s189 ([r7,r183])]) hp7 (y6 (l1:=[zy s193 r190.sub]) hp8 (y6 (l1:=[zy s196 ([r11,r179,r190])]) hp9 (y6 (l1:=[zy s200 r197.sub]) hp10 hZ))))))))
  clear hp2 hp3 hp4 hp6 hp7 hp8 hp9 hp10 hZ hm2 hm3 hm4 hm6 hm7 hm8 hm9 hm10
  refine zM zO hv237_11 hv237_10 (S.blk 0) (Term.len _) (by rw [Term.len]; decide) (Term.one _) (zZ (Term.len _)) fun w238 B hw238 zw238=>?_
  replace S:=S.store 0 B hw238
  clear B
  refine zb (zd (za (wd (ze yI hv237_11 (o':=1) rfl) ?_)))
  refine yD xv rfl rfl (S.blk 0) (by rw [Term.len]; decide) rfl (Term.set_name _ _) fun w239 B hw239 zw239=>?_
  replace S:=S.store 0 B hw239
  clear B
  refine wd (ze ue hv237_11 (o':=2) rfl) ?_
  refine yD xv rfl rfl (S.blk 0) (by rw [Term.len]; decide) rfl (Term.set_other _ _) fun w240 B hw240 zw240=>?_
  replace S:=S.store 0 B hw240
  clear B
  refine zb (zd (za (wd (zo zO hv237_11 ((S.blk 0).all _ (Term.len _)) (Term.len _)) ?_)))
  refine xK (C:=SC) (l:=[(⟨#[97]⟩ : ByteArray),(⟨#[98]⟩ : ByteArray),(⟨#[99]⟩ : ByteArray)]) (vs:=[.string (⟨#[97]⟩ : ByteArray),.string (⟨#[98]⟩ : ByteArray),.string (⟨#[99]⟩ : ByteArray)]) yO uJ.zero rfl rfl (fun _ _=>rfl) (by decide) rfl (by decide) fun b242 w241 s243 hBw241 hw241=>?_
  replace S:=S.lit hBw241 hw241 (by simp)
  obtain ⟨r244,er244,H⟩ := zq H
  replace S:=S.frzS 0
  obtain ⟨B246,MB246,SB246,back⟩ := S.sub [8,0] [] [oB b202 zD (Term.C (⟨r197.kind,(⟨#[100]⟩ : ByteArray),(⟨#[101]⟩ : ByteArray),r197.form,s200⟩ : Term)),oB b20 zD (Term.C (⟨r11.kind,r11.name,r11.other,r11.form,s14⟩ : Term)),oB b18 zD (Term.C (⟨r7.kind,r7.name,r7.other,r7.form,s10⟩ : Term)),oB b16 zD (Term.C (⟨r3.kind,r3.name,r3.other,r3.form,s6⟩ : Term)),oB b2 zD (Term.C (⟨0,ByteArray.empty,ByteArray.empty,0,SlV.nil⟩ : Term))]
  refine zu (zp y0) (by decide) (yZ (a0:=(⟨r197.kind,(⟨#[100]⟩ : ByteArray),(⟨#[101]⟩ : ByteArray),r197.form,r197.sub⟩ : PTerm)) SB246 er244) ?_
  rintro _ w245 ⟨s247,rfl,S2⟩
  replace S:=back _ _ _ _ _ S2 rfl rfl
  clear back S2 SB246
  refine zM zO rfl rfl (S.blk 4) (Term.len _) (by rw [Term.len]; decide) (Term.one _) (zZ (Term.len _)) fun w248 B hw248 zw248=>?_
  replace S:=S.store 4 B hw248
  clear B
  refine zb (zx ?_)
  refine ⟨_,(zV (xV zO rfl ((S.blk 0).all _ (Term.len _)) (Term.len _))),?_⟩
  replace S:=S.arr [] [0]
  obtain rfl:=Option.some.inj H
  exact ⟨s247,rfl,S⟩
 replace H:=if_f hc171 H
 refine zB (zd (za (wd (zo zO rfl ((S.blk 2).all _ (Term.len _)) (Term.len _)) ?_)))
 refine xK (C:=Term.C) (l:=[(⟨r3.kind,r3.name,r3.other,r3.form,s6⟩ : Term)]) (vs:=[.agg (Term.C (⟨r3.kind,r3.name,r3.other,r3.form,s6⟩ : Term)).toArray]) zY vO.zero rfl rfl (fun a _=>Term.len a) (by decide) rfl (by decide) fun b250 w249 s251 hBw249 hw249=>?_
 replace S:=((S.lit hBw249 hw249 (by simp)).bigTm).consTm (x:=r3) 2
 replace S:=(S.frzTm 0 0).zs [0,2,3,4]
 obtain ⟨r252,er252,H⟩ := zq H
 obtain ⟨B254,MB254,SB254,back⟩ := S.sub [0] [] [oB b20 zD (Term.C (⟨r11.kind,r11.name,r11.other,r11.form,s14⟩ : Term)),oB b18 zD (Term.C (⟨r7.kind,r7.name,r7.other,r7.form,s10⟩ : Term)),oB b16 zD (Term.C (⟨r3.kind,r3.name,r3.other,r3.form,s6⟩ : Term)),oB b2 zD (Term.C (⟨0,ByteArray.empty,ByteArray.empty,0,SlV.nil⟩ : Term))]
 refine zu (zp xU) (by decide) (xT SB254 er252) ?_
 rintro _ w253 ⟨s255,rfl,S2⟩
 replace S:=back _ _ _ _ _ S2 rfl rfl
 clear back S2 SB254
 refine xK (C:=SC) (l:=[(⟨#[97]⟩ : ByteArray)]) (vs:=[.string (⟨#[97]⟩ : ByteArray)]) yO uJ.zero rfl rfl (fun _ _=>rfl) (by decide) rfl (by decide) fun b257 w256 s258 hBw256 hw256=>?_
 replace S:=S.lit hBw256 hw256 (by simp)
 obtain ⟨r259,er259,H⟩ := zq H
 replace S:=S.frzS 0
 obtain ⟨B261,MB261,SB261,back⟩ := S.sub [1,0] [] [oB b20 zD (Term.C (⟨r11.kind,r11.name,r11.other,r11.form,s14⟩ : Term)),oB b18 zD (Term.C (⟨r7.kind,r7.name,r7.other,r7.form,s10⟩ : Term)),oB b16 zD (Term.C (⟨r3.kind,r3.name,r3.other,r3.form,s6⟩ : Term)),oB b2 zD (Term.C (⟨0,ByteArray.empty,ByteArray.empty,0,SlV.nil⟩ : Term))]
 refine zu (zp y0) (by decide) (yZ (a0:=r252) SB261 er259) ?_
 rintro _ w260 ⟨s262,rfl,S2⟩
 replace S:=back _ _ _ _ _ S2 rfl rfl
 clear back S2 SB261
 refine zM zO rfl rfl (S.blk 3) (Term.len _) (by rw [Term.len]; decide) (Term.one _) (zZ (Term.len _)) fun w263 B hw263 zw263=>?_
 replace S:=S.store 3 B hw263
 clear B
 refine zb (zx ?_)
 refine ⟨_,(zV (xV zO rfl ((S.blk 0).all _ (Term.len _)) (Term.len _))),?_⟩
 replace S:=S.arr [] [0]
 obtain rfl:=Option.some.inj H
 exact ⟨s262,rfl,S⟩
theorem hilbert_Term_st {A:Nat→Prop} {N:Oth} {w:World} {a0:Tb} {a_0:Option Addr} {a1:List Int} {s_1:SlV} {a2:List Ln} {s_2:SlV} (S:St A N w w [oT a_0 a0] [fS 1 IC s_1 a1,fS 4 Ln.C s_2 a2,oPw]) {k:Nat} {r:Tb × PTerm × Int} (H:hilbert_Term.f k a0 a1 a2=some r) :
  Calls PP F_hilbert_Term #[.pointer a_0,s_1.v,s_2.v] w fun e w' => ∃ v,e = .returned v∧(∃ so0:SlV,v = .tuple #[.agg (Term.C (⟨r.2.1.kind,r.2.1.name,r.2.1.other,r.2.1.form,so0⟩ : Term)).toArray,.int .i64 r.2.2]∧St A N w w' [oT a_0 r.1] [zy so0 r.2.1.sub]):=by
 unfold hilbert_Term.f at H
 refine zA (n:=84) fn_hilbert_Term rfl rfl (by simp) (zd (za ?_))
 refine xe jp (by decide) fun b2 w1 hw1=>?_
 replace S:=S.new hw1
 refine wd (zh rfl) (zb (zd (zd (za (wd (zj rfl) (wd (zz rfl) (wd (zz rfl) ?_)))))))
 obtain ⟨r3,er3,H⟩ := zq H
 replace S:=S.front 1
 obtain ⟨B5,MB5,SB5,back⟩ := S.calln 1 ((.z 0 rfl (.z 1 rfl .nil)))
 refine zu (zp jj) (by decide) (jo SB5 er3) ?_
 rintro _ w4 ⟨rfl,S2⟩
 replace S:=back _ _ _ _ S2 rfl
 clear back S2 SB5
 refine wd (zh rfl) (zb (zd (za (wd (zf rfl) (wd (xh rfl rfl) (zb ?_))))))
 refine zH rfl (fun hc6=>?_) (fun hc6=>?_)
 ·replace H:=if_t hc6 H
  refine zd (za (wd (Does.to (v' := .agg (Term.C (⟨0,ByteArray.empty,ByteArray.empty,0,SlV.nil⟩ : Term)).toArray) (xJ (vs:=[]) jK rfl Bld.nil) rfl) (wd (zf rfl) ?_)))
  refine zM zO rfl rfl (S.blk 1) (Term.len _) (by rw [Term.len]; decide) (Term.one _) (zZ (Term.len _)) fun w7 B hw7 zw7=>?_
  replace S:=S.store 1 B hw7
  clear B
  refine wd (zh rfl) (zb (zx ?_))
  replace S:=S.nilTm
  refine ⟨_,(xp (xV zO rfl ((S.blk 0).all _ (Term.len _)) (Term.len _)) (zg rfl)),?_⟩
  replace S:=S.arr [1] [0]
  obtain rfl:=Option.some.inj H
  exact ⟨SlV.nil,rfl,S⟩
 replace H:=if_f hc6 H
 refine zB (zd (zd (za (wd (zz rfl) (wd (xa zU rfl (S.rd 1)) (wd (kX rfl rfl) (zb ?_)))))))
 refine zH rfl (fun hc8=>?_) (fun hc8=>?_)
 ·replace H:=if_t hc8 H
  refine zd (za (wd (Does.to (v' := .agg (Term.C (⟨0,ByteArray.empty,ByteArray.empty,0,SlV.nil⟩ : Term)).toArray) (xJ (vs:=[]) jK rfl Bld.nil) rfl) ?_))
  refine zM zO rfl rfl (S.blk 1) (Term.len _) (by rw [Term.len]; decide) (Term.one _) (zZ (Term.len _)) fun w9 B hw9 zw9=>?_
  replace S:=S.store 1 B hw9
  clear B
  refine wd (zh rfl) (zb (zx ?_))
  replace S:=S.nilTm
  refine ⟨_,(xp (xV zO rfl ((S.blk 0).all _ (Term.len _)) (Term.len _)) (zg rfl)),?_⟩
  replace S:=S.arr [1] [0]
  obtain rfl:=Option.some.inj H
  exact ⟨SlV.nil,rfl,S⟩
 replace H:=if_f hc8 H
 refine zB (zd (za ?_))
 refine xe ze_func_int_string (by decide) fun b11 w10 hw10=>?_
 replace S:=S.new hw10
 refine yD vI rfl rfl (S.blk 0) (by simp) rfl rfl fun w12 B hw12 zw12=>?_
 replace S:=S.store 0 B hw12
 clear B
 refine zb (zd (za (wd (zi vI rfl ((S.blk 0).cell rfl)) (wd (zz rfl) (wd (xa zU rfl (S.rd 1)) (wd (jH rfl rfl) ?_))))))
 obtain ⟨r13,er13,H⟩ := zq H
 obtain ⟨B15,MB15,SB15,back⟩ := S.calln 0 ((.z 2 rfl .nil))
 refine zu (kK uT rfl) (by decide) (uS SB15 er13) ?_
 rintro _ w14 ⟨rfl,S2⟩
 replace S:=back _ _ _ _ S2 rfl
 clear back S2 SB15
 obtain ⟨r16,er16,H⟩ := zq H
 obtain ⟨B18,MB18,SB18,back⟩ := S.sub [] [] [oB b11 yc [.func (.func xA) #[] #[]],oT a_0 r3.1,oB b2 zD (Term.C (⟨0,ByteArray.empty,ByteArray.empty,0,SlV.nil⟩ : Term))]
 refine zu (zp vv) (by decide) (vu SB18 er16) ?_
 rintro _ w17 ⟨s19,rfl,S2⟩
 replace S:=back _ _ _ _ _ S2 rfl rfl
 clear back S2 SB18
 refine xe jp (by decide) fun b21 w20 hw20=>?_
 replace S:=S.new hw20
 refine zM zO rfl rfl (S.blk 0) (Term.len _) (by rw [Term.len]; decide) (Term.one _) (zZ (Term.len _)) fun w22 B hw22 zw22=>?_
 replace S:=S.store 0 B hw22
 clear B
 refine zb (zd (zd (za (wd (zz rfl) ?_))))
 refine zu (zp jB) (by decide) (jA _ s_2) ?_
 rintro _ w23 ⟨c24,rfl,Bc24,hc24,Ec24⟩
 replace S:=S.addZ (b:=oB c24 yF [s_2.v]) (G:=(· = c24)) Ec24 ⟨Bc24,fun _=>Iff.rfl⟩ (fun i hi=>by rw [hi]; exact hc24)
 refine zb ?_
 refine zQ ?_
 replace S:=S.nilTm
 obtain ⟨o25,e25,Ho25⟩ := zq H
 clear H
 refine wc_rangeSt2 (xs:=bwd a2) (enc:=fun (x:Int × Ln)=>Value.int .i64 x.1) (enc2:=fun (x:Int × Ln)=>Value.agg (Ln.C x.2).toArray) (bd:=(fun (x:Int × Ln) (s:PTerm)=>hilbert_Term.b0 x.1 x.2 s)) (L:=(fun (s:PTerm) (c:SlV)=>[oB b21 zD (Term.C (⟨s.kind,s.name,s.other,s.form,c⟩ : Term)),oB b11 yc [.func (.func xA) #[] #[]],oT a_0 r3.1,oB b2 zD (Term.C (⟨0,ByteArray.empty,ByteArray.empty,0,SlV.nil⟩ : Term))])) (Lr:=(fun (_:Empty) (_:Unit)=>[])) (Zf:=(fun (s:PTerm) (c:SlV)=>[zy SlV.nil ([]),oB c24 yF [s_2.v],zy c s.sub,fS 1 IC s_1 a1,fS 4 Ln.C s_2 a2,oPw])) (Zr:=(fun (_:Empty) (_:Unit)=>[])) s19 false 0 rfl ji (uH (S.len 4) c24) (by decide) (by decide) (fun N' s c W h=>⟨h.blkZ 1,h.rd 4⟩) S e25 ?_ ?_ ?_ ?_
 ·rintro ⟨i25,y25⟩ x25_0 s26 q25 N25 rd u25 H S
  replace S:=S
  refine zd (za (wd (zh rfl) (zb (za ?_))))
  refine xe ze_Ln (by decide) fun b28 w27 hw27=>?_
  replace S:=S.new hw27
  refine zM j0 rfl rfl (S.blk 0) (Ln.len _) (by rw [Ln.len]; decide) (Ln.one _) (zZ (Ln.len _)) fun w29 B hw29 zw29=>?_
  replace S:=S.store 0 B hw29
  clear B
  refine zb ?_
  refine ⟨rfl,_,_,S,fun M25 v25 S=>?_⟩
  replace S:=S
  replace H:hilbert_Term.b0  i25 y25 x25_0=some q25:=H
  unfold hilbert_Term.b0 at H
  try dsimp only at H
  refine zQ (zd (za ?_))
  refine xe jp (by decide) fun b31 w30 hw30=>?_
  replace S:=S.new hw30
  refine zb (zd (zd (za (wd (ze vn rfl (o':=0) rfl) (wd (zi x6 rfl ((S.blk 1).cell (Ln.get_kind _))) (zb ?_))))))
  replace S:=S.nilTm
  obtain ⟨o32,e32,Ho32⟩ := zq H
  replace H:=e32; clear e32
  refine xY [38,39,40,41,42,43,44,45,46,47,48,49,50,51,52,53,54,55,56,57,58,59,60,61,62,63,64,65,66] (fun fr W => ∃ s33:SlV,St A M25 w W [oB b31 zD (Term.C (⟨o32.kind,o32.name,o32.other,o32.form,s33⟩ : Term)),oB b28 T_Ln (Ln.C y25),oB b21 zD (Term.C (⟨x25_0.kind,x25_0.name,x25_0.other,x25_0.form,s26⟩ : Term)),oB b11 yc [.func (.func xA) #[] #[]],oT a_0 r3.1,oB b2 zD (Term.C (⟨0,ByteArray.empty,ByteArray.empty,0,SlV.nil⟩ : Term))] [zy s33 o32.sub,zy SlV.nil ([]),oB c24 yF [s_2.v],zy s26 x25_0.sub,fS 1 IC s_1 a1,fS 4 Ln.C s_2 a2,oPw]) ?_ ?_
  ·refine zQ (zd (za (wd (zR rfl rfl) (wd (zm rfl) (zb ?_)))))
   refine zH rfl (fun hc34=>?_) (fun hc34=>?_)
   ·replace H:=if_t hc34 H
    refine za (wd (ze xG rfl (o':=1) rfl) (wd (zi zJ rfl ((S.blk 1).cell (Ln.get_form _))) ?_))
    obtain ⟨r35,er35,H⟩ := zq H
    obtain ⟨B37,MB37,SB37,back⟩ := S.calln 0 ((.z 6 rfl .nil))
    refine zu (zp ca_octet_Dec) (by decide) (octet_Dec_st SB37 er35) ?_
    rintro _ w36 ⟨rfl,S2⟩
    replace S:=back _ _ _ _ S2 rfl
    clear back S2 SB37
    obtain ⟨hs38,H⟩ := xi H
    refine wd (does_concat rfl rfl (of_decide_eq_true hs38)) ?_
    obtain ⟨r39,er39,H⟩ := zq H
    obtain ⟨B41,MB41,SB41,back⟩ := S.sub [] [] [oB b31 zD (Term.C (⟨0,ByteArray.empty,ByteArray.empty,0,SlV.nil⟩ : Term)),oB b28 T_Ln (Ln.C y25),oB b21 zD (Term.C (⟨x25_0.kind,x25_0.name,x25_0.other,x25_0.form,s26⟩ : Term)),oB b11 yc [.func (.func xA) #[] #[]],oT a_0 r3.1,oB b2 zD (Term.C (⟨0,ByteArray.empty,ByteArray.empty,0,SlV.nil⟩ : Term))]
    refine zu (zp vv) (by decide) (vu SB41 er39) ?_
    rintro _ w40 ⟨s42,rfl,S2⟩
    replace S:=back _ _ _ _ _ S2 rfl rfl
    clear back S2 SB41
    refine zM zO rfl rfl (S.blk 0) (Term.len _) (by rw [Term.len]; decide) (Term.one _) (zZ (Term.len _)) fun w43 B hw43 zw43=>?_
    replace S:=S.store 0 B hw43
    clear B
    refine zb ?_
    replace S:=S.arr [0,1,2,3,4,5] [0,2,3,4,5,6,7]
    obtain rfl:=Option.some.inj H
    exact ⟨rfl,((((((((Dif.refl _ _).upd rfl _).upd rfl _).upd rfl _).upd rfl _).upd rfl _).upd rfl _).upd rfl _),s42,S⟩
   ·replace H:=if_f hc34 H
    refine zd (za (wd (zR rfl rfl) (wd (zm rfl) (zb ?_))))
    refine zH rfl (fun hc44=>?_) (fun hc44=>?_)
    ·replace H:=if_t hc44 H
     obtain ⟨r47,er47,H⟩ := zq H
     obtain ⟨r50,er50,H⟩ := zq H
     refine uo 8 ⟨fun _ _=>True,fun _ _ _=>True,fun i v _=>match i with
      | 0=>v=Value.func (.func xA) #[] #[]
      | 1=>v=Value.pointer (some ⟨b28,2,none⟩)
      | 2=>v=Value.int .i64 y25.a
      | 3=>v=Value.string r47
      | 5=>v=Value.func (.func xA) #[] #[]
      | 6=>v=Value.pointer (some ⟨b28,3,none⟩)
      | 7=>v=Value.int .i64 y25.b
      | _=>True⟩ (fun L g v => ∃ Z54:List OA,(∀ z ∈ [zy SlV.nil ([]),zy SlV.nil ([]),oB c24 yF [s_2.v],zy s26 x25_0.sub,fS 1 IC s_1 a1,fS 4 Ln.C s_2 a2,oPw],z ∈ Z54)∧Made L g Z54 4 59 (fun (c:SlV)=>Value.agg (Term.C (⟨r50.kind,r50.name,r50.other,r50.form,c⟩ : Term)).toArray) (fun (c:SlV)=>[zy c r50.sub])∧St A M25 w v [oB b31 zD (Term.C (⟨0,ByteArray.empty,ByteArray.empty,0,SlV.nil⟩ : Term)),oB b28 T_Ln (Ln.C y25),oB b21 zD (Term.C (⟨x25_0.kind,x25_0.name,x25_0.other,x25_0.form,s26⟩ : Term)),oB b11 yc [.func (.func xA) #[] #[]],oT a_0 r3.1,oB b2 zD (Term.C (⟨0,ByteArray.empty,ByteArray.empty,0,SlV.nil⟩ : Term))] Z54) hmix (by kernel_rfl) (fun _ _ _ _ _ _ _ hv=>hv) (fun g=>⟨_,fun _ h=>h,Made.no,S.ext (Ext.drawn _)⟩) ⟨?_,?_,?_,?_,?_,?_,?_,?_,trivial⟩ ?_
     ·rintro L g v hL hcl hclo ⟨Z54,hZ,hm4,S⟩ 
      refine wd (zi vI rfl ((S.blk 3).cell rfl)) ?_
      exact zb (ob4 trivial rfl ⟨_,hZ,hm4.keep rfl rfl tl0,S⟩)
     ·rintro L g v hL hcl hclo ⟨Z54,hZ,hm4,S⟩ 
      refine wd (ze jn rfl (o':=2) rfl) ?_
      exact zb (ob4 trivial rfl ⟨_,hZ,hm4.keep rfl rfl tl0,S⟩)
     ·rintro L g v hL hcl hclo ⟨Z54,hZ,hm4,S⟩ hv1
      refine wd (zi zJ hv1 ((S.blk 1).cell (Ln.get_a _))) ?_
      exact zb (ob4 trivial rfl ⟨_,hZ,hm4.keep rfl rfl tl0,S⟩)
     ·rintro L g v hL hcl hclo ⟨Z54,hZ,hm4,S⟩ hv0 hv2
      replace S:=(S.zneed hZ)
      obtain ⟨B58,MB58,SB58,back⟩ := S.calln 0 ((.z 6 rfl .nil))
      refine zu (does_callvg uT hv0 (zS hv2 rfl)) (by decide) (uS SB58 er47) ?_
      rintro _ w57 ⟨rfl,S2⟩
      replace S:=back _ _ _ _ S2 rfl
      clear back S2 SB58
      exact zb (ob4 trivial rfl ⟨_,(fun z h=>tl7 z (hZ z h)),hm4.keep rfl rfl tl7,S⟩)
     ·rintro L g v hL hcl hclo ⟨Z54,hZ,hm4,S⟩ hv3
      replace S:=(S.zneed hZ)
      obtain ⟨B61,MB61,SB61,back⟩ := S.sub [] [] [oB b31 zD (Term.C (⟨0,ByteArray.empty,ByteArray.empty,0,SlV.nil⟩ : Term)),oB b28 T_Ln (Ln.C y25),oB b21 zD (Term.C (⟨x25_0.kind,x25_0.name,x25_0.other,x25_0.form,s26⟩ : Term)),oB b11 yc [.func (.func xA) #[] #[]],oT a_0 r3.1,oB b2 zD (Term.C (⟨0,ByteArray.empty,ByteArray.empty,0,SlV.nil⟩ : Term))]
      refine zu (zP vv (zS hv3 rfl)) (by decide) (vu SB61 er50) ?_
      rintro _ w60 ⟨s62,rfl,S2⟩
      replace S:=back _ _ _ _ _ S2 rfl rfl
      clear back S2 SB61
      exact zb (ob4 trivial trivial ⟨_,(fun z h=>tl8 z (hZ z h)),Made.one (val:=(fun (c:SlV)=>Value.agg (Term.C (⟨r50.kind,r50.name,r50.other,r50.form,c⟩ : Term)).toArray)) (ps:=(fun (c:SlV)=>[zy c r50.sub])) s62 (ui List.mem_cons_self jD),S⟩)
     ·rintro L g v hL hcl hclo ⟨Z54,hZ,hm4,S⟩ 
      refine wd (zi vI rfl ((S.blk 3).cell rfl)) ?_
      exact zb (ob4 trivial rfl ⟨_,hZ,hm4.keep rfl rfl tl0,S⟩)
     ·rintro L g v hL hcl hclo ⟨Z54,hZ,hm4,S⟩ 
      refine wd (ze uj rfl (o':=3) rfl) ?_
      exact zb (ob4 trivial rfl ⟨_,hZ,hm4.keep rfl rfl tl0,S⟩)
     ·rintro L g v hL hcl hclo ⟨Z54,hZ,hm4,S⟩ hv6
      refine wd (zi zJ hv6 ((S.blk 1).cell (Ln.get_b _))) ?_
      exact zb (ob4 trivial rfl ⟨_,hZ,hm4.keep rfl rfl tl0,S⟩)
     rintro L g w63 hLm ⟨Z54,hZ,hm4,S⟩ hv64_0 hv64_1 hv64_2 hv64_3 _ hv64_5 hv64_6 hv64_7
     have hLt : ∀ j,j < 8→L j=true:=fun j hj=>by rw [hLm]; exact decide_eq_true hj
     obtain ⟨s53,hv64_4,hp4⟩ := hm4 (hLt 4 (by decide))
     replace S:=S.pickZ (y6 (l1:=[zy s53 r50.sub]) hp4 hZ)
     clear hp4 hZ hm4
     obtain ⟨r65,er65,H⟩ := zq H
     obtain ⟨B67,MB67,SB67,back⟩ := S.calln 0 ((.z 7 rfl .nil))
     refine zu (does_callvg uT hv64_5 (zS hv64_7 rfl)) (by decide) (uS SB67 er65) ?_
     rintro _ w66 ⟨rfl,S2⟩
     replace S:=back _ _ _ _ S2 rfl
     clear back S2 SB67
     obtain ⟨r68,er68,H⟩ := zq H
     obtain ⟨B70,MB70,SB70,back⟩ := S.sub [] [] [oB b31 zD (Term.C (⟨0,ByteArray.empty,ByteArray.empty,0,SlV.nil⟩ : Term)),oB b28 T_Ln (Ln.C y25),oB b21 zD (Term.C (⟨x25_0.kind,x25_0.name,x25_0.other,x25_0.form,s26⟩ : Term)),oB b11 yc [.func (.func xA) #[] #[]],oT a_0 r3.1,oB b2 zD (Term.C (⟨0,ByteArray.empty,ByteArray.empty,0,SlV.nil⟩ : Term))]
     refine zu (zp vv) (by decide) (vu SB70 er68) ?_
     rintro _ w69 ⟨s71,rfl,S2⟩
     replace S:=back _ _ _ _ _ S2 rfl rfl
     clear back S2 SB70
     refine xK (C:=Term.C) (l:=[(⟨r50.kind,r50.name,r50.other,r50.form,s53⟩ : Term),(⟨r68.kind,r68.name,r68.other,r68.form,s71⟩ : Term)]) (vs:=[.agg (Term.C (⟨r50.kind,r50.name,r50.other,r50.form,s53⟩ : Term)).toArray,.agg (Term.C (⟨r68.kind,r68.name,r68.other,r68.form,s71⟩ : Term)).toArray]) zY vO.zero (yw hv64_4 (yw rfl rfl)) rfl (fun a _=>Term.len a) (by decide) rfl (by decide) fun b73 w72 s74 hBw72 hw72=>?_
     replace S:=((S.lit hBw72 hw72 (by simp)).bigTm).consTm (x:=r68) 0
     replace S:=((S.consTm (x:=r50) 1).frzTm 0 0).zs [0,2,3,4,5,6,7,8,9,10]
     obtain ⟨r75,er75,H⟩ := zq H
     obtain ⟨B77,MB77,SB77,back⟩ := S.sub [0] [] [oB b31 zD (Term.C (⟨0,ByteArray.empty,ByteArray.empty,0,SlV.nil⟩ : Term)),oB b28 T_Ln (Ln.C y25),oB b21 zD (Term.C (⟨x25_0.kind,x25_0.name,x25_0.other,x25_0.form,s26⟩ : Term)),oB b11 yc [.func (.func xA) #[] #[]],oT a_0 r3.1,oB b2 zD (Term.C (⟨0,ByteArray.empty,ByteArray.empty,0,SlV.nil⟩ : Term))]
     refine zu (zp xU) (by decide) (xT SB77 er75) ?_
     rintro _ w76 ⟨s78,rfl,S2⟩
     replace S:=back _ _ _ _ _ S2 rfl rfl
     clear back S2 SB77
     refine zM zO rfl rfl (S.blk 0) (Term.len _) (by rw [Term.len]; decide) (Term.one _) (zZ (Term.len _)) fun w79 B hw79 zw79=>?_
     replace S:=S.store 0 B hw79
     clear B
     refine zb ?_
     replace S:=S.arr [0,1,2,3,4,5] [0,5,6,7,8,9,10]
     obtain rfl:=Option.some.inj H
     exact ⟨rfl,((((((((((Dif.refl _ _).upd rfl _).upd rfl _).upd rfl _).upd rfl _).mask rfl _).upd rfl _).upd rfl _).upd rfl _).upd rfl _),s78,S⟩
    ·replace H:=if_f hc44 H
     refine zd (za (wd (ze vn rfl (o':=0) rfl) (wd (zi x6 rfl ((S.blk 1).cell (Ln.get_kind _))) ?_)))
     obtain ⟨r80,er80,H⟩ := zq H
     obtain ⟨B82,MB82,SB82,back⟩ := S.sub [] [] [oB b31 zD (Term.C (⟨0,ByteArray.empty,ByteArray.empty,0,SlV.nil⟩ : Term)),oB b28 T_Ln (Ln.C y25),oB b21 zD (Term.C (⟨x25_0.kind,x25_0.name,x25_0.other,x25_0.form,s26⟩ : Term)),oB b11 yc [.func (.func xA) #[] #[]],oT a_0 r3.1,oB b2 zD (Term.C (⟨0,ByteArray.empty,ByteArray.empty,0,SlV.nil⟩ : Term))]
     refine zu (zp ca_hilbert_axiom) (by decide) (hilbert_axiom_st SB82 er80) ?_
     rintro _ w81 ⟨s83,rfl,S2⟩
     replace S:=back _ _ _ _ _ S2 rfl rfl
     clear back S2 SB82
     refine xK (C:=Term.C) (l:=[(⟨r80.kind,r80.name,r80.other,r80.form,s83⟩ : Term)]) (vs:=[.agg (Term.C (⟨r80.kind,r80.name,r80.other,r80.form,s83⟩ : Term)).toArray]) zY vO.zero rfl rfl (fun a _=>Term.len a) (by decide) rfl (by decide) fun b85 w84 s86 hBw84 hw84=>?_
     replace S:=((S.lit hBw84 hw84 (by simp)).bigTm).consTm (x:=r80) 0
     replace S:=(S.frzTm 0 0).zs [0,2,3,4,5,6,7,8,9]
     obtain ⟨r87,er87,H⟩ := zq H
     obtain ⟨B89,MB89,SB89,back⟩ := S.sub [0] [] [oB b31 zD (Term.C (⟨0,ByteArray.empty,ByteArray.empty,0,SlV.nil⟩ : Term)),oB b28 T_Ln (Ln.C y25),oB b21 zD (Term.C (⟨x25_0.kind,x25_0.name,x25_0.other,x25_0.form,s26⟩ : Term)),oB b11 yc [.func (.func xA) #[] #[]],oT a_0 r3.1,oB b2 zD (Term.C (⟨0,ByteArray.empty,ByteArray.empty,0,SlV.nil⟩ : Term))]
     refine zu (zp xU) (by decide) (xT SB89 er87) ?_
     rintro _ w88 ⟨s90,rfl,S2⟩
     replace S:=back _ _ _ _ _ S2 rfl rfl
     clear back S2 SB89
     refine zM zO rfl rfl (S.blk 0) (Term.len _) (by rw [Term.len]; decide) (Term.one _) (zZ (Term.len _)) fun w91 B hw91 zw91=>?_
     replace S:=S.store 0 B hw91
     clear B
     refine zb (za (wd (ze xG rfl (o':=1) rfl) (wd (zi zJ rfl ((S.blk 1).cell (Ln.get_form _))) (wd (ze vw rfl (o':=3) rfl) ?_))))
     refine yD zJ rfl rfl (S.blk 0) (by rw [Term.len]; decide) rfl (Term.set_form _ _) fun w92 B hw92 zw92=>?_
     replace S:=S.store 0 B hw92
     clear B
     refine zb ?_
     replace S:=S.arr [0,1,2,3,4,5] [0,4,5,6,7,8,9]
     obtain rfl:=Option.some.inj H
     exact ⟨rfl,(((((((((((((Dif.refl _ _).upd rfl _).upd rfl _).upd rfl _).upd rfl _).upd rfl _).upd rfl _).upd rfl _).upd rfl _).upd rfl _).upd rfl _).upd rfl _).upd rfl _),s90,S⟩
  rintro g93 u94 ⟨s33,S⟩
  have H:=Ho32
  obtain ⟨r96,er96,H⟩ := zq H
  refine uo 6 ⟨fun _ _=>True,fun _ _ _=>True,fun i v _=>match i with
   | 0=>v=Value.func (.func xA) #[] #[]
   | 1=>v=Value.int .i64 i25
   | 2=>v=Value.string r96
   | 3=>v=Value.agg (Term.C (⟨o32.kind,o32.name,o32.other,o32.form,s33⟩ : Term)).toArray
   | 4=>v=Value.agg (Term.C (⟨x25_0.kind,x25_0.name,x25_0.other,x25_0.form,s26⟩ : Term)).toArray
   | _=>True⟩ (fun L g v => ∃ Z102:List OA,(∀ z ∈ [zy s33 o32.sub,zy SlV.nil ([]),oB c24 yF [s_2.v],zy s26 x25_0.sub,fS 1 IC s_1 a1,fS 4 Ln.C s_2 a2,oPw],z ∈ Z102)∧Made L g Z102 5 72 (fun (c:SlV)=>c.v) (fun (c:SlV)=>[zy c ([o32,x25_0])])∧St A M25 w v [oB b31 zD (Term.C (⟨o32.kind,o32.name,o32.other,o32.form,s33⟩ : Term)),oB b28 T_Ln (Ln.C y25),oB b21 zD (Term.C (⟨x25_0.kind,x25_0.name,x25_0.other,x25_0.form,s26⟩ : Term)),oB b11 yc [.func (.func xA) #[] #[]],oT a_0 r3.1,oB b2 zD (Term.C (⟨0,ByteArray.empty,ByteArray.empty,0,SlV.nil⟩ : Term))] Z102) hmix (by kernel_rfl) (fun _ _ _ _ _ _ _ hv=>hv) (fun g=>⟨_,fun _ h=>h,Made.no,S.ext (Ext.drawn _)⟩) ⟨?_,?_,?_,?_,?_,?_,trivial⟩ ?_
  ·rintro L g v hL hcl hclo ⟨Z102,hZ,hm5,S⟩ 
   refine wd (zi vI rfl ((S.blk 3).cell rfl)) ?_
   exact zb (ob4 trivial rfl ⟨_,hZ,hm5.keep rfl rfl tl0,S⟩)
  ·rintro L g v hL hcl hclo ⟨Z102,hZ,hm5,S⟩ 
   refine wd (zf rfl) ?_
   exact zb (ob4 trivial rfl ⟨_,hZ,hm5.keep rfl rfl tl0,S⟩)
  ·rintro L g v hL hcl hclo ⟨Z102,hZ,hm5,S⟩ hv0 hv1
   replace S:=(S.zneed hZ)
   obtain ⟨B106,MB106,SB106,back⟩ := S.calln 0 ((.z 6 rfl .nil))
   refine zu (does_callvg uT hv0 (zS hv1 rfl)) (by decide) (uS SB106 er96) ?_
   rintro _ w105 ⟨rfl,S2⟩
   replace S:=back _ _ _ _ S2 rfl
   clear back S2 SB106
   exact zb (ob4 trivial rfl ⟨_,(fun z h=>tl7 z (hZ z h)),hm5.keep rfl rfl tl7,S⟩)
  ·rintro L g v hL hcl hclo ⟨Z102,hZ,hm5,S⟩ 
   refine wd (zo zO rfl ((S.blk 0).all _ (Term.len _)) (Term.len _)) ?_
   exact zb (ob4 trivial rfl ⟨_,hZ,hm5.keep rfl rfl tl0,S⟩)
  ·rintro L g v hL hcl hclo ⟨Z102,hZ,hm5,S⟩ 
   refine wd (zo zO rfl ((S.blk 2).all _ (Term.len _)) (Term.len _)) ?_
   exact zb (ob4 trivial rfl ⟨_,hZ,hm5.keep rfl rfl tl0,S⟩)
  ·rintro L g v hL hcl hclo ⟨Z102,hZ,hm5,S⟩ hv3 hv4
   replace S:=(S.zneed hZ)
   refine xK (C:=Term.C) (l:=[(⟨o32.kind,o32.name,o32.other,o32.form,s33⟩ : Term),(⟨x25_0.kind,x25_0.name,x25_0.other,x25_0.form,s26⟩ : Term)]) (vs:=[.agg (Term.C (⟨o32.kind,o32.name,o32.other,o32.form,s33⟩ : Term)).toArray,.agg (Term.C (⟨x25_0.kind,x25_0.name,x25_0.other,x25_0.form,s26⟩ : Term)).toArray]) zY vO.zero (yw hv3 (yw hv4 rfl)) rfl (fun a _=>Term.len a) (by decide) rfl (by decide) fun b108 w107 s109 hBw107 hw107=>?_
   replace S:=((S.lit hBw107 hw107 (by simp)).bigTm).consTm (x:=x25_0) 3
   replace S:=(S.consTm (x:=o32) 0).frzTm 0 0
   exact zb (ob4 trivial trivial ⟨_,(fun z h=>tl9 z (hZ z h)),Made.one (val:=(fun (c:SlV)=>c.v)) (ps:=(fun (c:SlV)=>[zy c ([o32,x25_0])])) s109 (ui List.mem_cons_self jD),S⟩)
  rintro L g w110 hLm ⟨Z102,hZ,hm5,S⟩ hv111_0 hv111_1 hv111_2 hv111_3 hv111_4 _
  have hLt : ∀ j,j < 6→L j=true:=fun j hj=>by rw [hLm]; exact decide_eq_true hj
  obtain ⟨s101,hv111_5,hp5⟩ := hm5 (hLt 5 (by decide))
  replace S:=S.pickZ (y6 (l1:=[zy s101 ([o32,x25_0])]) hp5 hZ)
  clear hp5 hZ hm5
  refine wd (Does.to (v' := .agg (Term.C (⟨12,r96,ByteArray.empty,0,s101⟩ : Term)).toArray) (xJ (vs:=[(0,.int .i64 12),(1,.string r96),(4,s101.v)]) jK (yw rfl (yw hv111_2 (yw hv111_5 rfl))) (Bld.one rfl rfl (by rw [Term.len]; decide) (Term.set_kind _ _) (Bld.one rfl rfl (by rw [Term.len]; decide) (Term.set_name _ _) (Bld.one rfl (SlV.one _ _ rfl) (by rw [Term.len]; decide) (Term.set_sub _ _) Bld.nil)))) rfl) ?_
  refine zM zO rfl rfl (S.blk 2) (Term.len _) (by rw [Term.len]; decide) (Term.one _) (zZ (Term.len _)) fun w112 B hw112 zw112=>?_
  replace S:=S.store 2 B hw112
  clear B
  refine zb ?_
  replace S:=S.arr [0,3,4,5] [2,3,0,5,6,7]
  obtain rfl:=Option.some.inj H
  exact ⟨_,rfl,s101,S⟩
 ·rintro s25 s114 B25 w113 rfl S hB25
  replace S:=S
  have H:=Ho25
  dsimp only [fin] at H
  refine zd (zd (za (wd (zo zO rfl ((S.blk 0).all _ (Term.len _)) (Term.len _)) ?_)))
  obtain ⟨r115,er115,H⟩ := zq H
  obtain ⟨B117,MB117,SB117,back⟩ := S.calln 0 ((.z 2 rfl .nil))
  refine zu (zp ca_term_Size) (by decide) (term_Size_st (a0:=s25) SB117 er115) ?_
  rintro _ w116 ⟨rfl,S2⟩
  replace S:=back _ _ _ _ S2 rfl
  clear back S2 SB117
  refine wd (kX rfl rfl) (wd (zE rfl) ?_)
  refine wg (fun hg=>zo zO rfl ((S.blk 0).all _ (Term.len _)) (Term.len _)) ?_
  obtain ⟨r118,er118,H⟩ := zq H
  refine yp (j:=3) (pol:=false) rfl rfl rfl (by decide) (fun hg=>zP ca_term_Deep (zS (zl hg) rfl)) (by decide) (fun hg=>(have ⟨M,SS⟩ := S.lend ((.z 2 rfl .nil)); quiet (term_Deep_st (a0:=s25) SS (if_t (by simpa using hg) er118)) (fun v w' h=>⟨h.1,_,_,h.2⟩))) fun w119 hw119=>?_
  replace S:=S.ext hw119
  refine wg (fun hg=>kX (zl hg) rfl) (wd (xw rfl (fun hp=>(zl (xn hp)))) (zb ?_))
  refine zH rfl (fun hc120=>?_) (fun hc120=>?_)
  ·replace H:=if_t hc120 H
   refine zd (za (wd (Does.to (v' := .agg (Term.C (⟨0,ByteArray.empty,ByteArray.empty,0,SlV.nil⟩ : Term)).toArray) (xJ (vs:=[]) jK rfl Bld.nil) rfl) ?_))
   refine zM zO rfl rfl (S.blk 3) (Term.len _) (by rw [Term.len]; decide) (Term.one _) (zZ (Term.len _)) fun w121 B hw121 zw121=>?_
   replace S:=S.store 3 B hw121
   clear B
   refine wd (zh rfl) (zb (zx ?_))
   refine end1 (.inl rfl) (S.take hB25).1 fun w122 hcw122=>?_
   replace S:=((S.take hB25).2 _ hcw122).nilTm
   refine ⟨_,(xp (xV zO rfl ((S.blk 0).all _ (Term.len _)) (Term.len _)) (zg rfl)),?_⟩
   replace S:=S.arr [3] [0]
   obtain rfl:=Option.some.inj H
   exact ⟨SlV.nil,rfl,S⟩
  replace H:=if_f hc120 H
  refine zB (zd (za (wd (zo zO rfl ((S.blk 0).all _ (Term.len _)) (Term.len _)) ?_)))
  refine zM zO rfl rfl (S.blk 3) (Term.len _) (by rw [Term.len]; decide) (Term.one _) (zZ (Term.len _)) fun w123 B hw123 zw123=>?_
  replace S:=S.store 3 B hw123
  clear B
  refine wd (zh rfl) (zb (zx ?_))
  refine end1 (.inl rfl) (S.take hB25).1 fun w124 hcw124=>?_
  replace S:=(S.take hB25).2 _ hcw124
  refine ⟨_,(xp (xV zO rfl ((S.blk 0).all _ (Term.len _)) (Term.len _)) (zg rfl)),?_⟩
  replace S:=S.arr [3] [2]
  obtain rfl:=Option.some.inj H
  exact ⟨s114,rfl,S⟩
 ·intro r; exact r.elim
 ·intro h; cases h
end Go.Proofs.YtflieamjacclnaaGreatDoor
end
section
namespace Go.Proofs.YtflieamjacclnaaGreatDoor
open Gw Go.RowKit
set_option maxHeartbeats 4000000
set_option maxRecDepth 20000
theorem formula_Table_Atom_st {A:Nat→Prop} {N:Oth} {w:World} {a0:Tb} {a_0:Option Addr} {a1:ByteArray} (S:St A N w w [oT a_0 a0] []) {r:Tb × Int × Int} (H:formula_Table_Atom.f a0 a1=some r) :
  Calls PP zaf #[.pointer a_0,.string a1] w fun e w' => ∃ v,e = .returned v∧(v = .tuple #[.int .i64 r.2.1,.int .i64 r.2.2]∧St A N w w' [oT a_0 r.1] []):=by
 unfold formula_Table_Atom.f at H
 refine zA (n:=12) fn_formula_Table_Atom rfl rfl (by simp) (zd (za (wd (zh rfl) (wd (zh rfl) (zb (zd (za ?_)))))))
 refine wd (zj rfl) (wd (xB rfl) (wd (yj bu_Nd (Bld.one rfl rfl (by rw [Nd.len]; decide) (Nd.set_kind _ _) (Bld.one rfl rfl (by rw [Nd.len]; decide) (Nd.set_name _ _) Bld.nil))) ?_))
 obtain ⟨r1,er1,H⟩ := zq H
 obtain ⟨B3,MB3,SB3,back⟩ := S.calln 1 ((.nil))
 refine zu (zp vS) (by decide) (ja SB3 er1) ?_
 rintro _ w2 ⟨rfl,S2⟩
 replace S:=back _ _ _ _ S2 rfl
 clear back S2 SB3
 refine wd (zr rfl rfl) (wd (zr rfl rfl) (wd (zh rfl) (wd (zh rfl) (zb (zx ?_)))))
 refine ⟨_,(xp (zg rfl) (zg rfl)),?_⟩
 obtain rfl:=Option.some.inj H
 exact ⟨rfl,S⟩
theorem uD {A:Nat→Prop} {N:Oth} {w:World} {a0:Int} (S:St A N w w [] []) {r:Int} (H:law16_num.f a0=some r) :
  Calls PP F_law16_num #[.int .i64 a0] w fun e w' => ∃ v,e = .returned v∧(v = .int .i64 r∧St A N w w' [] []):=by
 unfold law16_num.f at H
 refine zA (n:=4) fn_law16_num rfl rfl (by simp) (zd (za (wd (zh rfl) (zb (zd (za (wd (zf rfl) ?_)))))))
 refine wd (zh rfl) (zb (zx ?_))
 refine ⟨_,(zV (zg rfl)),?_⟩
 obtain rfl:=Option.some.inj H
 exact ⟨rfl,S⟩
theorem ref12_Same_gst {rec_ref12_Same:PTerm→PTerm→Option Bool} (hrec_ref12_Same : ∀ {A:Nat→Prop} {N:Oth} {w:World} {a0:PTerm} {s_0:SlV} {a1:PTerm} {s_1:SlV} (S:St A N w w [] [zy s_0 a0.sub,zy s_1 a1.sub]) {r:Bool} (H:rec_ref12_Same a0 a1=some r),Calls PP kr #[.agg (Term.C (⟨a0.kind,a0.name,a0.other,a0.form,s_0⟩ : Term)).toArray,.agg (Term.C (⟨a1.kind,a1.name,a1.other,a1.form,s_1⟩ : Term)).toArray] w fun e w' => ∃ v,e = .returned v∧(v = .bool r∧St A N w w' [] [])) {A:Nat→Prop} {N:Oth} {w:World} {a0:PTerm} {s_0:SlV} {a1:PTerm} {s_1:SlV} (S:St A N w w [] [zy s_0 a0.sub,zy s_1 a1.sub]) {k:Nat} {r:Bool} (H:ref12_Same.g rec_ref12_Same k a0 a1=some r) :
  Calls PP kr #[.agg (Term.C (⟨a0.kind,a0.name,a0.other,a0.form,s_0⟩ : Term)).toArray,.agg (Term.C (⟨a1.kind,a1.name,a1.other,a1.form,s_1⟩ : Term)).toArray] w fun e w' => ∃ v,e = .returned v∧(v = .bool r∧St A N w w' [] []):=by
 unfold ref12_Same.g at H
 refine zA (n:=60) fn_ref12_Same rfl rfl (by simp) (zd (za ?_))
 refine z7 rfl (by decide) fun b2 w1 hw1=>?_
 replace S:=S.new hw1
 refine z7 rfl (by decide) fun b4 w3 hw3=>?_
 replace S:=S.new hw3
 refine wd (zm rfl) (zb (zd (zd (za (wd (ze vZ rfl (o':=0) rfl) (wd (zi y3 rfl ((S.blk 1).cell (Term.get_kind _))) (wd (ze vZ rfl (o':=0) rfl) ?_)))))))
 refine wd (zi y3 rfl ((S.blk 0).cell (Term.get_kind _))) (wd (xh rfl rfl) (wd (zE rfl) ?_))
 refine wg (fun hg=>ze yI rfl (o':=1) rfl) ?_
 refine wg (fun hg=>zi xv (zl hg) ((S.blk 1).cell (Term.get_name _))) ?_
 refine wg (fun hg=>ze yI rfl (o':=1) rfl) ?_
 refine wg (fun hg=>zi xv (zl hg) ((S.blk 0).cell (Term.get_name _))) ?_
 refine wg (fun hg=>zaq (zl hg) (zl hg)) (wd (xw rfl (fun hp=>(zl (xn hp)))) (wd (zE rfl) ?_))
 refine wg (fun hg=>ze ue rfl (o':=2) rfl) ?_
 refine wg (fun hg=>zi xv (zl hg) ((S.blk 1).cell (Term.get_other _))) ?_
 refine wg (fun hg=>ze ue rfl (o':=2) rfl) ?_
 refine wg (fun hg=>zi xv (zl hg) ((S.blk 0).cell (Term.get_other _))) ?_
 refine wg (fun hg=>zaq (zl hg) (zl hg)) (wd (xw rfl (fun hp=>(zl (xn hp)))) (wd (zE rfl) ?_))
 refine wg (fun hg=>ze vw rfl (o':=3) rfl) ?_
 refine wg (fun hg=>zi zJ (zl hg) ((S.blk 1).cell (Term.get_form _))) ?_
 refine wg (fun hg=>ze vw rfl (o':=3) rfl) ?_
 refine wg (fun hg=>zi zJ (zl hg) ((S.blk 0).cell (Term.get_form _))) ?_
 refine wg (fun hg=>xh (zl hg) (zl hg)) (wd (xw rfl (fun hp=>(zl (xn hp)))) (wd (zE rfl) ?_))
 refine wg (fun hg=>ze xt rfl (o':=4) rfl) ?_
 refine wg (fun hg=>zi xl (zl hg) ((S.blk 1).cell (Term.get_sub _))) ?_
 refine wg (fun hg=>does_lenF zY (zl hg) (S.onZ 0)) ?_
 refine wg (fun hg=>ze xt rfl (o':=4) rfl) ?_
 refine wg (fun hg=>zi xl (zl hg) ((S.blk 0).cell (Term.get_sub _))) ?_
 refine wg (fun hg=>does_lenF zY (zl hg) (S.onZ 1)) ?_
 refine wg (fun hg=>xh (zl hg) (zl hg)) (wd (xw rfl (fun hp=>(zl (xn hp)))) (zb ?_))
 refine zH rfl (fun hc5=>?_) (fun hc5=>?_)
 ·replace H:=if_t hc5 H
  refine zd (za (wd (zm rfl) (zb (zx ?_))))
  refine ⟨_,(zV (zg rfl)),?_⟩
  replace S:=S.arr [] []
  obtain rfl:=Option.some.inj H
  exact ⟨rfl,S⟩
 replace H:=if_f hc5 H
 refine zB (zd (zd (za (wd (zh rfl) (zb ?_)))))
 obtain ⟨o6,e6,Ho6⟩ := zq H
 clear H
 refine xY [4,5,41,42,43,44,45,46,47,48,49,50,51,52,53,54,55,56,57,58,59] (fun fr W => ∃ s6:Int,o6 = .inl s6∧fr 5 = .int .i64 s6∧St A N w W [oB b4 zD (Term.C (⟨a1.kind,a1.name,a1.other,a1.form,s_1⟩ : Term)),oB b2 zD (Term.C (⟨a0.kind,a0.name,a0.other,a0.form,s_0⟩ : Term))] [zy s_0 a0.sub,zy s_1 a1.sub]) ?_ ?_
 ·refine zQ ?_
  refine xW (α:=Nat × Int) [4,5,41,42,43,44,45,46,47,48,49,50,51,52,53,54,55,56,57,58,59] (fun x fr W=>iter (fun s=>ref12_Same.b0 a0 a1 rec_ref12_Same s) x.1 x.2=some o6∧fr 5 = .int .i64 (x.2)∧St A N w W [oB b4 zD (Term.C (⟨a1.kind,a1.name,a1.other,a1.form,s_1⟩ : Term)),oB b2 zD (Term.C (⟨a0.kind,a0.name,a0.other,a0.form,s_0⟩ : Term))] [zy s_0 a0.sub,zy s_1 a1.sub]) (fun x=>x.1) (k,0) ⟨(by dsimp only; exact e6),rfl,S⟩ ?_
  rintro ⟨m6,x6_0⟩ g6 u6 ⟨e6,q6_5,S⟩
  try dsimp only at e6
  try dsimp only at S
  try dsimp only at q6_5
  obtain ⟨m6,rfl⟩ : ∃ m,m6=m + 1:=⟨m6 - 1,by cases m6 with | zero=>cases e6 | succ m=>rfl⟩
  obtain ⟨q6,H,e6⟩ := iter_s e6
  unfold ref12_Same.b0 at H
  try dsimp only at H
  refine zd (zd (za (wd (zf q6_5) (wd (ze xt rfl (o':=4) rfl) (wd (zi xl rfl ((S.blk 1).cell (Term.get_sub _))) (wd (does_lenF zY rfl (S.onZ 0)) (wd (xM rfl rfl) (zb ?_))))))))
  refine zH rfl (fun hc7=>?_) (fun hc7=>?_)
  rotate_left
  ·replace H:=if_f hc7 H
   refine yn ?_
   obtain rfl:=Option.some.inj H
   exact ⟨rfl,((((((Dif.self _ _ _).upd rfl _).upd rfl _).upd rfl _).upd rfl _).upd rfl _),x6_0,e6,q6_5,S⟩
  replace H:=if_t hc7 H
  refine zB (zd ?_)
  refine zQ (zd ?_)
  refine xL 10 (Ext u6) hmix (by kernel_rfl) (by kernel_rfl) (Ext.drawn _) (zt (fun v K=>ze xt rfl (o':=4) rfl) (zt (fun v K=>zi xl rfl (((S.ext K).blk 1).cell (Term.get_sub _))) (zt (fun v K=>zf q6_5) ?_)))
  obtain ⟨hi8,H⟩ := xi H
  refine zt (fun v K=>does_indexF zY rfl rfl ((S.ext K).onZ 0) (zC hi8).1 (zC hi8).2) ?_
  obtain ⟨s9,hc10,S⟩ := S.viewTerm 0 (zC hi8)
  replace S:=S
  refine zt (fun v K=>zo zO rfl (hc10.chg K (fun x=>x)) (Term.len _)) (zt (fun v K=>ze xt rfl (o':=4) rfl) (zt (fun v K=>zi xl rfl (((S.ext K).blk 0).cell (Term.get_sub _))) (zt (fun v K=>zf q6_5) ?_)))
  obtain ⟨hi11,H⟩ := xi H
  refine zt (fun v K=>does_indexF zY rfl rfl ((S.ext K).onZ 2) (zC hi11).1 (zC hi11).2) ?_
  obtain ⟨s12,hc13,S⟩ := S.viewTerm 2 (zC hi11)
  replace S:=S
  refine zt (fun v K=>zo zO rfl (hc13.chg K (fun x=>x)) (Term.len _)) ?_
  refine yL fun w14 K=>?_
  replace S:=S.ext K
  clear K
  obtain ⟨r15,er15,H⟩ := zq H
  obtain ⟨B17,MB17,SB17,back⟩ := S.calln 0 ((.z 1 rfl (.z 0 rfl .nil)))
  refine zu (zp ca_ref12_Same) (by decide) (hrec_ref12_Same (a0:=(at_ PTerm.z a0.sub x6_0)) (a1:=(at_ PTerm.z a1.sub x6_0)) SB17 er15) ?_
  rintro _ w16 ⟨rfl,S2⟩
  replace S:=back _ _ _ _ S2 rfl
  clear back S2 SB17
  refine wd (xk rfl) (zb ?_)
  refine zH rfl (fun hc18=>?_) (fun hc18=>?_)
  ·replace H:=if_t hc18 H
   refine zd (za (wd (zm rfl) (zb (zx ?_))))
   refine ⟨_,(zV (zg rfl)),?_⟩
   replace S:=S.arr [] []
   obtain rfl:=Option.some.inj H
   obtain rfl:=e6
   obtain rfl:=uG Ho6
   exact ⟨rfl,S⟩
  replace H:=if_f hc18 H
  refine zB (za (wd (zf q6_5) (wd (jI rfl rfl) (wd (zh rfl) (zb ?_)))))
  replace S:=S.arr [0,1] [2,3]
  obtain rfl:=Option.some.inj H
  exact ⟨rfl,(((((((((((((((((((((Dif.self _ _ _).upd rfl _).upd rfl _).upd rfl _).upd rfl _).upd rfl _).upd rfl _).upd rfl _).upd rfl _).upd rfl _).upd rfl _).upd rfl _).upd rfl _).upd rfl _).upd rfl _).upd rfl _).upd rfl _).upd rfl _).upd rfl _).upd rfl _).upd rfl _),(m6,IntKind.i64.wrap (x6_0 + 1)),⟨e6,rfl,S⟩,by dsimp only; omega⟩
 rintro g19 u20 ⟨s6,rfl,p6_5,S⟩
 have H:=Ho6
 dsimp only [aft] at H
 refine zd (za (wd (zm rfl) (zb (zx ?_))))
 refine ⟨_,(zV (zg rfl)),?_⟩
 replace S:=S.arr [] []
 obtain rfl:=Option.some.inj H
 exact ⟨rfl,S⟩
theorem ref12_Same_st {A:Nat→Prop} {N:Oth} {w:World} {a0:PTerm} {s_0:SlV} {a1:PTerm} {s_1:SlV} (S:St A N w w [] [zy s_0 a0.sub,zy s_1 a1.sub]) {k:Nat} {r:Bool} (H:ref12_Same.f k a0 a1=some r) :
  Calls PP kr #[.agg (Term.C (⟨a0.kind,a0.name,a0.other,a0.form,s_0⟩ : Term)).toArray,.agg (Term.C (⟨a1.kind,a1.name,a1.other,a1.form,s_1⟩ : Term)).toArray] w fun e w' => ∃ v,e = .returned v∧(v = .bool r∧St A N w w' [] []):=by
 have main : ∀ (k:Nat) {A:Nat→Prop} {N:Oth} {w:World} {a0:PTerm} {s_0:SlV} {a1:PTerm} {s_1:SlV} (S:St A N w w [] [zy s_0 a0.sub,zy s_1 a1.sub]) {r:Bool} (H:ref12_Same.f k a0 a1=some r),Calls PP kr #[.agg (Term.C (⟨a0.kind,a0.name,a0.other,a0.form,s_0⟩ : Term)).toArray,.agg (Term.C (⟨a1.kind,a1.name,a1.other,a1.form,s_1⟩ : Term)).toArray] w fun e w' => ∃ v,e = .returned v∧(v = .bool r∧St A N w w' [] []):=by
  intro k
  induction k with
  | zero=>intro A N w a0 s_0 a1 s_1 S r H; cases H
  | succ k ih=>intro A N w a0 s_0 a1 s_1 S r H; exact ref12_Same_gst ih S H
 exact main k S H
theorem zaW {A:Nat→Prop} {N:Oth} {w:World} {a0:List Ln} {s_0:SlV} {a1:List Ln} {s_1:SlV} (S:St A N w w [] [fS 4 Ln.C s_0 a0,fS 4 Ln.C s_1 a1]) {r:Bool} (H:ref16_Lines.f a0 a1=some r) :
  Calls PP F_ref16_Lines #[s_0.v,s_1.v] w fun e w' => ∃ v,e = .returned v∧(v = .bool r∧St A N w w' [] []):=by
 unfold ref16_Lines.f at H
 refine zA (n:=26) fn_ref16_Lines rfl rfl (by simp) (zd (za (wd (zm rfl) (zb (zd (zd (za (wd (zz rfl) ?_))))))))
 refine wd (xa zU rfl (S.rd 0)) (wd (zz rfl) (wd (xa zU rfl (S.rd 1)) (wd (xh rfl rfl) (zb ?_))))
 refine zH rfl (fun hc1=>?_) (fun hc1=>?_)
 ·replace H:=if_t hc1 H
  refine zd (za (wd (zm rfl) (zb (zx ?_))))
  refine ⟨_,(zV (zg rfl)),?_⟩
  replace S:=S.arr [] []
  obtain rfl:=Option.some.inj H
  exact ⟨rfl,S⟩
 replace H:=if_f hc1 H
 refine zB (zd (zd (za (wd (zh rfl) (zb ?_)))))
 obtain ⟨o2,e2,Ho2⟩ := zq H
 clear H
 refine xY [4,5,11,12,13,14,15,16,17,18,19,20,21,22,23,24,25] (fun fr W => ∃ s2:Unit,o2 = .inl s2∧St A N w W [] [fS 4 Ln.C s_0 a0,fS 4 Ln.C s_1 a1]) ?_ ?_
 ·refine zQ ?_
  refine xW (α:=Nat × Int × Unit) [4,5,11,12,13,14,15,16,17,18,19,20,21,22,23,24,25] (fun x fr W=>(x.1:Int)=(a0.length:Int) - x.2.1∧0 ≤ x.2.1∧forN (fun i s=>ref16_Lines.b0 a1 a0 i) x.1 x.2.1 x.2.2=some o2∧fr 5 = .int .i64 x.2.1∧St A N w W [] [fS 4 Ln.C s_0 a0,fS 4 Ln.C s_1 a1]) (fun x=>x.1) (((a0.length:Int) - 0).toNat,0,()) ⟨(by dsimp only; have hle:=Int.natCast_nonneg (a0.length); omega),(Int.le_refl _),(by dsimp only; exact e2),rfl,S⟩ ?_
  rintro ⟨m2,i2,_⟩ g2 u2 ⟨hm2,hl2,e2,q2_i,S⟩
  try dsimp only at hm2
  try dsimp only at hl2
  try dsimp only at e2
  try dsimp only at S
  try dsimp only at q2_i
  refine zd (zd (za (wd (zf q2_i) (wd (zz rfl) (wd (xa zU rfl (S.rd 0)) (wd (xM rfl rfl) (zb ?_)))))))
  refine zH rfl (fun hc3=>?_) (fun hc3=>?_)
  rotate_left
  ·refine yn ?_
   have hge:(a0.length:Int) ≤ i2:=Int.not_lt.1 (of_decide_eq_false hc3)
   obtain rfl:m2=0:=by omega
   replace e2:=jy e2
   exact ⟨rfl,(((((Dif.self _ _ _).upd rfl _).upd rfl _).upd rfl _).upd rfl _),(),e2,S⟩
  refine zB ?_
  have hlt2:i2 < (a0.length:Int):=of_decide_eq_true hc3
  obtain ⟨m2,rfl⟩ : ∃ m,m2=m + 1:=⟨m2 - 1,by omega⟩
  obtain ⟨q2,H,e2⟩ := jC e2
  unfold ref16_Lines.b0 at H
  try dsimp only at H
  have hb2:=(S.len 0)
  refine zd ?_
  refine zQ (zd ?_)
  refine xL 8 (Ext u2) hmix (by kernel_rfl) (by kernel_rfl) (Ext.drawn _) (zt (fun v K=>zz rfl) (zt (fun v K=>zf q2_i) (zt (fun v K=>zN zU rfl rfl ((S.ext K).rd 0) (And.intro (show 0 ≤ i2 by omega) (show i2 < (a0.length:Int) from hlt2)).1 (And.intro (show 0 ≤ i2 by omega) (show i2 < (a0.length:Int) from hlt2)).2) (zt (fun v K=>zo j0 rfl (((S.ext K).rd 0).at (xj Ln.z (And.intro (show 0 ≤ i2 by omega) (show i2 < (a0.length:Int) from hlt2)))) (Ln.len _)) (zt (fun v K=>zz rfl) ?_)))))
  refine zt (fun v K=>zf q2_i) ?_
  obtain ⟨hi5,H⟩ := xi H
  refine zt (fun v K=>zN zU rfl rfl ((S.ext K).rd 1) (zC hi5).1 (zC hi5).2) (zt (fun v K=>zo j0 rfl (((S.ext K).rd 1).at (xj Ln.z (zC hi5))) (Ln.len _)) ?_)
  refine yL fun w6 K=>?_
  replace S:=S.ext K
  clear K
  refine wd (does_nev eg_Ln (eq_Ln _ _) (by decide) rfl rfl) (zb ?_)
  refine zH rfl (fun hc7=>?_) (fun hc7=>?_)
  ·replace H:=if_t hc7 H
   refine zd (za (wd (zm rfl) (zb (zx ?_))))
   refine ⟨_,(zV (zg rfl)),?_⟩
   replace S:=S.arr [] []
   obtain rfl:=Option.some.inj H
   obtain rfl:=e2
   obtain rfl:=uG Ho2
   exact ⟨rfl,S⟩
  replace H:=if_f hc7 H
  refine zB (za (wd (zf q2_i) (wd (xI rfl rfl (c:=i2 + 1) rfl (by omega) (by omega)) (wd (zh rfl) (zb ?_)))))
  obtain rfl:=Option.some.inj H
  exact ⟨rfl,(((((((((((((((((Dif.self _ _ _).upd rfl _).upd rfl _).upd rfl _).upd rfl _).upd rfl _).upd rfl _).upd rfl _).upd rfl _).upd rfl _).upd rfl _).upd rfl _).upd rfl _).upd rfl _).upd rfl _).upd rfl _).upd rfl _),(m2,i2 + 1,()),⟨(by dsimp only; omega),(by dsimp only; omega),e2,rfl,S⟩,by dsimp only; omega⟩
 rintro g8 u9 ⟨s2,rfl,S⟩
 have H:=Ho2
 dsimp only [aft] at H
 refine zd (za (wd (zm rfl) (zb (zx ?_))))
 refine ⟨_,(zV (zg rfl)),?_⟩
 replace S:=S.arr [] []
 obtain rfl:=Option.some.inj H
 exact ⟨rfl,S⟩
theorem law16_heads_st {A:Nat→Prop} {N:Oth} {w:World}  (S:St A N w w [] [oEt,oPw]) {k:Nat} {r:Bool} (H:law16_heads.f k  = some r) :
  Calls PP F_law16_heads #[] w fun e w' => ∃ v,e = .returned v∧(v = .bool r∧St A N w w' [] []):=by
 unfold law16_heads.f at H
 refine zA (n:=129) fn_law16_heads rfl rfl (by simp) (zd (za (wd (zm rfl) (zb (zd (za ?_))))))
 obtain ⟨r1,er1,H⟩ := zq H
 obtain ⟨B3,MB3,SB3,back⟩ := S.calln 0 ((.nil))
 refine zu (zp ky) (by decide) (kk SB3 er1) ?_
 rintro _ w2 ⟨a4,rfl,S2⟩
 replace S:=back _ _ _ _ S2 rfl
 clear back S2 SB3
 refine wd (xg rfl) (zb (zd (za (wd (zj rfl) ?_))))
 obtain ⟨r5,er5,H⟩ := zq H
 obtain ⟨B7,MB7,SB7,back⟩ := S.calln 1 ((.nil))
 refine zu (zp ca_formula_Table_Atom) (by decide) (formula_Table_Atom_st SB7 er5) ?_
 rintro _ w6 ⟨rfl,S2⟩
 replace S:=back _ _ _ _ S2 rfl
 clear back S2 SB7
 refine wd (z1 rfl) (wd (zr rfl rfl) (wd (zr rfl rfl) (wd (zh rfl) (wd (zh rfl) (zb (zd (za ?_)))))))
 refine wd (zj rfl) (wd (zf rfl) (wd (zf rfl) ?_))
 obtain ⟨r8,er8,H⟩ := zq H
 obtain ⟨B10,MB10,SB10,back⟩ := S.calln 1 ((.nil))
 refine zu (zp ca_formula_Table_Imp) (by decide) (formula_Table_Imp_st SB10 er8) ?_
 rintro _ w9 ⟨rfl,S2⟩
 replace S:=back _ _ _ _ S2 rfl
 clear back S2 SB10
 refine wd (z1 rfl) (wd (zr rfl rfl) (wd (zr rfl rfl) (wd (zh rfl) (wd (zh rfl) (zb (zd (za ?_)))))))
 refine wd (zj rfl) (wd (zf rfl) ?_)
 refine xK (C:=IC) (l:=[r5.2.1]) (vs:=[.int .i64 r5.2.1]) xx zar.zero rfl rfl (fun _ _=>rfl) (by decide) rfl (by decide) fun b12 w11 s13 hBw11 hw11=>?_
 replace S:=S.lit hBw11 hw11 (by simp)
 refine wd (zf rfl) (wd (yj bu_Ln (Bld.one rfl rfl (by rw [Ln.len]; decide) (Ln.set_kind _ _) (Bld.one rfl rfl (by rw [Ln.len]; decide) (Ln.set_form _ _) Bld.nil))) ?_)
 refine xK (C:=Ln.C) (l:=[{ Ln.z with kind:=10,form:=r5.2.1 }]) (vs:=[.agg (Ln.C ({ Ln.z with kind:=10,form:=r5.2.1 })).toArray]) zU el_Ln.zero rfl rfl (fun a _=>Ln.len a) (by decide) rfl (by decide) fun b15 w14 s16 hBw14 hw14=>?_
 replace S:=S.lit hBw14 hw14 (by simp)
 refine wd (zf rfl) ?_
 obtain ⟨r17,er17,H⟩ := zq H
 replace S:=S.front 2
 obtain ⟨B19,MB19,SB19,back⟩ := S.calln 1 ((.s 1 rfl (.s 0 rfl .nil)))
 refine zu (zp zbv) (by decide) (zbs SB19 er17) ?_
 rintro _ w18 ⟨s20,rfl,S2⟩
 replace S:=back _ _ _ _ S2 rfl
 clear back S2 SB19
 refine wd (z1 rfl) (wd (zr rfl rfl) (wd (zr rfl rfl) (wd (xD rfl) (wd (zh rfl) (zb (zd (za ?_)))))))
 refine wd (zj rfl) (wd (Does.to (v' := .agg (Term.C (⟨1,(⟨#[120]⟩ : ByteArray),ByteArray.empty,0,SlV.nil⟩ : Term)).toArray) (xJ (vs:=[(0,.int .i64 1),(1,.string (⟨#[120]⟩ : ByteArray))]) jK (yw rfl (yw rfl rfl)) (Bld.one rfl rfl (by rw [Term.len]; decide) (Term.set_kind _ _) (Bld.one rfl rfl (by rw [Term.len]; decide) (Term.set_name _ _) Bld.nil))) rfl) ?_)
 replace S:=S.nilTm
 refine xK (C:=Term.C) (l:=[(⟨1,(⟨#[120]⟩ : ByteArray),ByteArray.empty,0,SlV.nil⟩ : Term)]) (vs:=[.agg (Term.C (⟨1,(⟨#[120]⟩ : ByteArray),ByteArray.empty,0,SlV.nil⟩ : Term)).toArray]) zY vO.zero rfl rfl (fun a _=>Term.len a) (by decide) rfl (by decide) fun b22 w21 s23 hBw21 hw21=>?_
 replace S:=((S.lit hBw21 hw21 (by simp)).bigTm).consTm (x:=(⟨1,(⟨#[120]⟩ : ByteArray),ByteArray.empty,0,[]⟩ : PTerm)) 0
 replace S:=(S.frzTm 0 0).zs [0,2,3,4]
 refine wd (Does.to (v' := .agg (Term.C (⟨2,(⟨#[120]⟩ : ByteArray),ByteArray.empty,0,s23⟩ : Term)).toArray) (xJ (vs:=[(0,.int .i64 2),(1,.string (⟨#[120]⟩ : ByteArray)),(4,s23.v)]) jK (yw rfl (yw rfl (yw rfl rfl))) (Bld.one rfl rfl (by rw [Term.len]; decide) (Term.set_kind _ _) (Bld.one rfl rfl (by rw [Term.len]; decide) (Term.set_name _ _) (Bld.one rfl (SlV.one _ _ rfl) (by rw [Term.len]; decide) (Term.set_sub _ _) Bld.nil)))) rfl) (wd (zf rfl) ?_)
 replace S:=S.nilZ 2 Hyp.C
 obtain ⟨r24,er24,H⟩ := zq H
 obtain ⟨B26,MB26,SB26,back⟩ := S.calln 1 ((.z 0 rfl (.z 1 rfl (.z 3 rfl .nil))))
 refine zu (zP ca_hilbert_Compile (zS rfl (zS SlV.nil_eq (zS rfl (zS rfl rfl))))) (by decide) (hilbert_Compile_st (a2:=(⟨2,(⟨#[120]⟩ : ByteArray),ByteArray.empty,0,[(⟨1,(⟨#[120]⟩ : ByteArray),ByteArray.empty,0,[]⟩ : PTerm)]⟩ : PTerm)) SB26 er24) ?_
 rintro _ w25 ⟨s27,rfl,S2⟩
 replace S:=back _ _ _ _ S2 rfl
 clear back S2 SB26
 refine wd (z1 rfl) (wd (zr rfl rfl) (wd (zr rfl rfl) (wd (xD rfl) (wd (zh rfl) (zb (zd (za ?_)))))))
 refine wd (zj rfl) (wd (zz rfl) ?_)
 replace S:=S.nilZ 1 IC
 obtain ⟨r28,er28,H⟩ := zq H
 obtain ⟨B30,MB30,SB30,back⟩ := S.calln 1 ((.z 0 rfl (.s 1 rfl .nil)))
 refine zu (zP ca_hilbert_Tells (zS rfl (zS SlV.nil_eq (zS rfl rfl)))) (by decide) (hilbert_Tells_st SB30 er28) ?_
 rintro _ w29 ⟨rfl,S2⟩
 replace S:=back _ _ _ _ S2 rfl
 clear back S2 SB30
 refine wd (z1 rfl) (wd (zr rfl rfl) (wd (zr rfl rfl) (wd (zh rfl) (wd (zh rfl) (zb (zd (za ?_)))))))
 refine wd (zj rfl) (wd (zf rfl) ?_)
 refine xK (C:=IC) (l:=[r5.2.1]) (vs:=[.int .i64 r5.2.1]) xx zar.zero rfl rfl (fun _ _=>rfl) (by decide) rfl (by decide) fun b32 w31 s33 hBw31 hw31=>?_
 replace S:=S.lit hBw31 hw31 (by simp)
 refine wd (zf rfl) (wd (yj bu_Ln (Bld.one rfl rfl (by rw [Ln.len]; decide) (Ln.set_kind _ _) (Bld.one rfl rfl (by rw [Ln.len]; decide) (Ln.set_form _ _) Bld.nil))) ?_)
 refine xK (C:=Ln.C) (l:=[{ Ln.z with kind:=10,form:=r5.2.1 }]) (vs:=[.agg (Ln.C ({ Ln.z with kind:=10,form:=r5.2.1 })).toArray]) zU el_Ln.zero rfl rfl (fun a _=>Ln.len a) (by decide) rfl (by decide) fun b35 w34 s36 hBw34 hw34=>?_
 replace S:=S.lit hBw34 hw34 (by simp)
 obtain ⟨r37,er37,H⟩ := zq H
 replace S:=(S.frzS 1).frzS 0
 obtain ⟨B39,MB39,SB39,back⟩ := S.sub [1,0,7] [oT a4 r28.1] [oS T_Ln 4 Ln.C s27 r24.2.1,oS T_Ln 4 Ln.C s20 r17.2.1,oS T_Ln 4 Ln.C s16 ([{ Ln.z with kind:=10,form:=r5.2.1 }]),oS xS 1 IC s13 ([r5.2.1])]
 refine zu (zp ca_hilbert_Term) (by decide) (hilbert_Term_st SB39 er37) ?_
 rintro _ w38 ⟨s40,rfl,S2⟩
 replace S:=back _ _ _ _ _ S2 rfl rfl
 clear back S2 SB39
 refine wd (z1 rfl) (wd (zr rfl rfl) (wd (zr rfl rfl) ?_))
 refine xe jp (by decide) fun b42 w41 hw41=>?_
 replace S:=S.new hw41
 refine zM zO rfl rfl (S.blk 0) (Term.len _) (by rw [Term.len]; decide) (Term.one _) (zZ (Term.len _)) fun w43 B hw43 zw43=>?_
 replace S:=S.store 0 B hw43
 clear B
 refine wd (zh rfl) (zb (zd (zd (za (wd (zz rfl) (wd (xa zU rfl (S.rdO 3)) (wd (xh rfl rfl) (zb ?_))))))))
 refine zH rfl (fun hc44=>?_) (fun hc44=>?_)
 ·replace H:=if_t hc44 H
  refine zd (za (wd (zm rfl) (zb (zx ?_))))
  refine ⟨_,(zV (zg rfl)),?_⟩
  replace S:=S.arr [] []
  obtain rfl:=Option.some.inj H
  exact ⟨rfl,S⟩
 replace H:=if_f hc44 H
 refine zB (zd (za (wd (zj rfl) (wd (zz rfl) ?_))))
 obtain ⟨hi45,H⟩ := xi H
 refine wd (zN zU rfl rfl (S.rdO 3) (zC hi45).1 (zC hi45).2) (wd (ze xG rfl (o':=_) rfl) (wd (zi zJ rfl (((S.rdO 3).at (xj Ln.z (zC hi45))).get (Ln.get_form _))) ?_))
 obtain ⟨r46,er46,H⟩ := zq H
 replace S:=S.front 1
 obtain ⟨B48,MB48,SB48,back⟩ := S.calln 1 ((.nil))
 refine zu (zp ca_hilbert_Is) (by decide) (hilbert_Is_st SB48 er46) ?_
 rintro _ w47 ⟨rfl,S2⟩
 replace S:=back _ _ _ _ S2 rfl
 clear back S2 SB48
 refine wd (z1 rfl) (wd (zr rfl rfl) (wd (zr rfl rfl) (wd (zm rfl) (wd (zh rfl) (zb (zd (za ?_)))))))
 refine wd (Does.to (v' := .agg (Term.C (⟨1,(⟨#[104,48]⟩ : ByteArray),ByteArray.empty,0,SlV.nil⟩ : Term)).toArray) (xJ (vs:=[(0,.int .i64 1),(1,.string (⟨#[104,48]⟩ : ByteArray))]) jK (yw rfl (yw rfl rfl)) (Bld.one rfl rfl (by rw [Term.len]; decide) (Term.set_kind _ _) (Bld.one rfl rfl (by rw [Term.len]; decide) (Term.set_name _ _) Bld.nil))) rfl) (wd (Does.to (v' := .agg (Term.C (⟨1,(⟨#[108,48]⟩ : ByteArray),ByteArray.empty,0,SlV.nil⟩ : Term)).toArray) (xJ (vs:=[(0,.int .i64 1),(1,.string (⟨#[108,48]⟩ : ByteArray))]) jK (yw rfl (yw rfl rfl)) (Bld.one rfl rfl (by rw [Term.len]; decide) (Term.set_kind _ _) (Bld.one rfl rfl (by rw [Term.len]; decide) (Term.set_name _ _) Bld.nil))) rfl) ?_)
 replace S:=S.nilTm.nilTm
 refine xK (C:=Term.C) (l:=[(⟨1,(⟨#[104,48]⟩ : ByteArray),ByteArray.empty,0,SlV.nil⟩ : Term),(⟨1,(⟨#[108,48]⟩ : ByteArray),ByteArray.empty,0,SlV.nil⟩ : Term)]) (vs:=[.agg (Term.C (⟨1,(⟨#[104,48]⟩ : ByteArray),ByteArray.empty,0,SlV.nil⟩ : Term)).toArray,.agg (Term.C (⟨1,(⟨#[108,48]⟩ : ByteArray),ByteArray.empty,0,SlV.nil⟩ : Term)).toArray]) zY vO.zero rfl rfl (fun a _=>Term.len a) (by decide) rfl (by decide) fun b50 w49 s51 hBw49 hw49=>?_
 replace S:=((S.lit hBw49 hw49 (by simp)).bigTm).consTm (x:=(⟨1,(⟨#[108,48]⟩ : ByteArray),ByteArray.empty,0,[]⟩ : PTerm)) 0
 replace S:=((S.consTm (x:=(⟨1,(⟨#[104,48]⟩ : ByteArray),ByteArray.empty,0,[]⟩ : PTerm)) 1).frzTm 0 0).zs [0,2,3,4,5,6,7,8,9,10,11,12]
 refine wd (Does.to (v' := .agg (Term.C (⟨12,(⟨#[108,48]⟩ : ByteArray),ByteArray.empty,0,s51⟩ : Term)).toArray) (xJ (vs:=[(0,.int .i64 12),(1,.string (⟨#[108,48]⟩ : ByteArray)),(4,s51.v)]) jK (yw rfl (yw rfl (yw rfl rfl))) (Bld.one rfl rfl (by rw [Term.len]; decide) (Term.set_kind _ _) (Bld.one rfl rfl (by rw [Term.len]; decide) (Term.set_name _ _) (Bld.one rfl (SlV.one _ _ rfl) (by rw [Term.len]; decide) (Term.set_sub _ _) Bld.nil)))) rfl) ?_
 refine xe jp (by decide) fun b53 w52 hw52=>?_
 replace S:=S.new hw52
 refine zM zO rfl rfl (S.blk 0) (Term.len _) (by rw [Term.len]; decide) (Term.one _) (zZ (Term.len _)) fun w54 B hw54 zw54=>?_
 replace S:=S.store 0 B hw54
 clear B
 refine zb (zd (za (wd (zf rfl) ?_)))
 obtain ⟨r55,er55,H⟩ := zq H
 obtain ⟨B57,MB57,SB57,back⟩ := S.calln 0 ((.nil))
 refine zu (zp uy) (by decide) (uD SB57 er55) ?_
 rintro _ w56 ⟨rfl,S2⟩
 replace S:=back _ _ _ _ S2 rfl
 clear back S2 SB57
 refine wd (zR rfl rfl) (wd (zE rfl) ?_)
 refine wg (fun hg=>zf rfl) ?_
 obtain ⟨r58,er58,H⟩ := zq H
 refine yp (j:=3) (pol:=true) rfl rfl rfl (by decide) (fun hg=>zP uy (zS (zl hg) rfl)) (by decide) (fun hg=>(have ⟨M,SS⟩ := S.lend ((.nil)); quiet (uD SS (if_t (by simpa using hg) er58)) (fun v w' h=>⟨h.1,_,_,h.2⟩))) fun w59 hw59=>?_
 replace S:=S.ext hw59
 refine wg (fun hg=>zR (zl hg) rfl) (wd (xc rfl (fun hp=>(zl (xn hp)))) (wd (zE rfl) ?_))
 refine wg (fun hg=>zz rfl) ?_
 refine wg (fun hg=>zz rfl) ?_
 obtain ⟨r60,er60,H⟩ := zq H
 refine yp (j:=8) (pol:=true) rfl rfl rfl (by decide) (fun hg=>zP zbc (zS (zl hg) (zS (zl hg) rfl))) (by decide) (fun hg=>(have ⟨M,SS⟩ := S.lend ((.s 4 rfl (.s 3 rfl .nil))); quiet (zaW SS (if_t (by simpa using hg) er60)) (fun v w' h=>⟨h.1,_,_,h.2⟩))) fun w61 hw61=>?_
 replace S:=S.ext hw61
 refine wd (xc rfl (fun hp=>(zl (xn hp)))) (wd (zE rfl) ?_)
 refine wg (fun hg=>zf rfl) ?_
 obtain ⟨r62,er62,H⟩ := zq H
 refine yp (j:=13) (pol:=true) rfl rfl rfl (by decide) (fun hg=>zP uy (zS (zl hg) rfl)) (by decide) (fun hg=>(have ⟨M,SS⟩ := S.lend ((.nil)); quiet (uD SS (if_t (by simpa using hg) er62)) (fun v w' h=>⟨h.1,_,_,h.2⟩))) fun w63 hw63=>?_
 replace S:=S.ext hw63
 refine wg (fun hg=>zR (zl hg) rfl) (wd (xc rfl (fun hp=>(zl (xn hp)))) (wd (zE rfl) ?_))
 refine wg (fun hg=>zf rfl) ?_
 refine wg (fun hg=>zf rfl) ?_
 refine wg (fun hg=>zR (zl hg) (zl hg)) (wd (xc rfl (fun hp=>(zl (xn hp)))) (wd (zE rfl) ?_))
 refine wg (fun hg=>zf rfl) ?_
 obtain ⟨r64,er64,H⟩ := zq H
 refine yp (j:=23) (pol:=true) rfl rfl rfl (by decide) (fun hg=>zP uy (zS (zl hg) rfl)) (by decide) (fun hg=>(have ⟨M,SS⟩ := S.lend ((.nil)); quiet (uD SS (if_t (by simpa using hg) er64)) (fun v w' h=>⟨h.1,_,_,h.2⟩))) fun w65 hw65=>?_
 replace S:=S.ext hw65
 refine wg (fun hg=>zR (zl hg) rfl) (wd (xc rfl (fun hp=>(zl (xn hp)))) (wd (zE rfl) ?_))
 refine wg (fun hg=>zo zO rfl ((S.blk 2).all _ (Term.len _)) (Term.len _)) ?_
 refine wg (fun hg=>zo zO rfl ((S.blk 0).all _ (Term.len _)) (Term.len _)) ?_
 obtain ⟨r66,er66,H⟩ := zq H
 refine yp (j:=28) (pol:=true) rfl rfl rfl (by decide) (fun hg=>zP ca_ref12_Same (zS (zl hg) (zS (zl hg) rfl))) (by decide) (fun hg=>(have ⟨M,SS⟩ := S.lend ((.z 3 rfl (.z 0 rfl .nil))); quiet (ref12_Same_st (a0:=r37.2.1) (a1:=(⟨12,(⟨#[108,48]⟩ : ByteArray),ByteArray.empty,0,[(⟨1,(⟨#[104,48]⟩ : ByteArray),ByteArray.empty,0,[]⟩ : PTerm),(⟨1,(⟨#[108,48]⟩ : ByteArray),ByteArray.empty,0,[]⟩ : PTerm)]⟩ : PTerm)) SS (if_t (by simpa using hg) er66)) (fun v w' h=>⟨h.1,_,_,h.2⟩))) fun w67 hw67=>?_
 replace S:=S.ext hw67
 refine wd (xc rfl (fun hp=>(zl (xn hp)))) (wd (zE rfl) ?_)
 refine wg (fun hg=>zf rfl) ?_
 obtain ⟨r68,er68,H⟩ := zq H
 refine yp (j:=33) (pol:=true) rfl rfl rfl (by decide) (fun hg=>zP uy (zS (zl hg) rfl)) (by decide) (fun hg=>(have ⟨M,SS⟩ := S.lend ((.nil)); quiet (uD SS (if_t (by simpa using hg) er68)) (fun v w' h=>⟨h.1,_,_,h.2⟩))) fun w69 hw69=>?_
 replace S:=S.ext hw69
 refine wg (fun hg=>zR (zl hg) rfl) (wd (xc rfl (fun hp=>(zl (xn hp)))) (wd (zE rfl) ?_))
 refine wg (fun hg=>zE rfl) (wd (xc rfl (fun hp=>(zl (xn hp)))) (wd (zE rfl) ?_))
 refine wg (fun hg=>zj rfl) ?_
 replace S:=(S.nilZ 1 IC).nilZ 4 Ln.C
 obtain ⟨r70,er70,H⟩ := zq H
 replace S:=S.front 1
 obtain ⟨B72,MB72,SB72,back⟩ := S.calln 1 ((.z 1 rfl (.z 0 rfl .nil)))
 refine wl_gturn (R:=fun W=>St A N w W [oT a4 r70.1,oB b53 zD (Term.C (⟨12,(⟨#[108,48]⟩ : ByteArray),ByteArray.empty,0,s51⟩ : Term)),oB b42 zD (Term.C (⟨r37.2.1.kind,r37.2.1.name,r37.2.1.other,r37.2.1.form,s40⟩ : Term)),oS T_Ln 4 Ln.C s27 r24.2.1,oS T_Ln 4 Ln.C s20 r17.2.1,oS T_Ln 4 Ln.C s16 ([{ Ln.z with kind:=10,form:=r5.2.1 }]),oS xS 1 IC s13 ([r5.2.1])] [fS 4 Ln.C SlV.nil ([]),fS 1 IC SlV.nil ([]),zy s51 ([(⟨1,(⟨#[104,48]⟩ : ByteArray),ByteArray.empty,0,[]⟩ : PTerm),(⟨1,(⟨#[108,48]⟩ : ByteArray),ByteArray.empty,0,[]⟩ : PTerm)]),zy SlV.nil ([]),zy SlV.nil ([]),zy s40 r37.2.1.sub,fS 4 Ln.C s36 ([{ Ln.z with kind:=10,form:=r5.2.1 }]),fS 1 IC s33 ([r5.2.1]),fS 1 IC SlV.nil ([]),fS 2 Hyp.C SlV.nil ([]),zy s23 ([(⟨1,(⟨#[120]⟩ : ByteArray),ByteArray.empty,0,[]⟩ : PTerm)]),zy SlV.nil ([]),oEt,oPw]) (j:=41) (pol:=true) rfl rfl rfl (by decide) (fun hg=>zP jj (zS (zl hg) (zS SlV.nil_eq (zS SlV.nil_eq rfl)))) (by decide) (fun hg=>zaX (jo SB72 (if_t (by simpa using hg) er70)) fun _ _ ⟨hv,S2⟩ => ⟨hv,back _ _ _ _ S2 rfl⟩) (fun hg=>by obtain rfl:=Option.some.inj (if_f (by simpa using hg) er70); exact S) fun w71 S2=>?_
 replace S:St A N w w71 [oT a4 r70.1,oB b53 zD (Term.C (⟨12,(⟨#[108,48]⟩ : ByteArray),ByteArray.empty,0,s51⟩ : Term)),oB b42 zD (Term.C (⟨r37.2.1.kind,r37.2.1.name,r37.2.1.other,r37.2.1.form,s40⟩ : Term)),oS T_Ln 4 Ln.C s27 r24.2.1,oS T_Ln 4 Ln.C s20 r17.2.1,oS T_Ln 4 Ln.C s16 ([{ Ln.z with kind:=10,form:=r5.2.1 }]),oS xS 1 IC s13 ([r5.2.1])] [fS 4 Ln.C SlV.nil ([]),fS 1 IC SlV.nil ([]),zy s51 ([(⟨1,(⟨#[104,48]⟩ : ByteArray),ByteArray.empty,0,[]⟩ : PTerm),(⟨1,(⟨#[108,48]⟩ : ByteArray),ByteArray.empty,0,[]⟩ : PTerm)]),zy SlV.nil ([]),zy SlV.nil ([]),zy s40 r37.2.1.sub,fS 4 Ln.C s36 ([{ Ln.z with kind:=10,form:=r5.2.1 }]),fS 1 IC s33 ([r5.2.1]),fS 1 IC SlV.nil ([]),fS 2 Hyp.C SlV.nil ([]),zy s23 ([(⟨1,(⟨#[120]⟩ : ByteArray),ByteArray.empty,0,[]⟩ : PTerm)]),zy SlV.nil ([]),oEt,oPw]:=S2
 clear back S2 SB72
 obtain ⟨r73,er73,H⟩ := zq H
 refine yp (j:=41) (pol:=true) rfl rfl rfl (by decide) (fun hg=>zP uy (zS (zl hg) rfl)) (by decide) (fun hg=>(have ⟨M,SS⟩ := S.lend ((.nil)); quiet (uD SS (if_t (by simpa using hg) er73)) (fun v w' h=>⟨h.1,_,_,h.2⟩))) fun w74 hw74=>?_
 replace S:=S.ext hw74
 refine wg (fun hg=>zR (zl hg) rfl) (wd (xc rfl (fun hp=>(zl (xn hp)))) (wd (zm rfl) (zb (zx ?_))))
 refine ⟨_,(zV (zg rfl)),?_⟩
 replace S:=S.arr [] []
 obtain rfl:=Option.some.inj H
 exact ⟨rfl,S⟩
end Go.Proofs.YtflieamjacclnaaGreatDoor
end
section
namespace Go.Proofs.YtflieamjacclnaaGreatDoor
open Gw Go.RowKit
set_option maxHeartbeats 4000000
set_option maxRecDepth 20000
theorem law04_Tables_st {A:Nat→Prop} {N:Oth} {w:World} {a0:List Nd} {s_0:SlV} (S:St A N w w [] [fS 4 Nd.C s_0 a0]) {r:Tb × Tb} (H:law04_Tables.f a0=some r) :
  Calls PP F_law04_Tables #[s_0.v] w fun e w' => ∃ v,e = .returned v∧(∃ ao0:Option Addr,∃ ao1:Option Addr,v = .tuple #[.pointer ao0,.pointer ao1]∧St A N w w' [oT ao0 r.1,oR ao1 r.2] []):=by
 unfold law04_Tables.f at H
 refine zA (n:=20) fn_law04_Tables rfl rfl (by simp) ?_
 refine zd (za ?_)
 replace S:St A N w w [oT none none] [fS 4 Nd.C s_0 a0]:=S.add (Ext.refl _) (oT.nil _) (fun _ x=>x.elim)
 refine wd (xg rfl) ?_
 replace S:St A N w w [oR none none,oT none none] [fS 4 Nd.C s_0 a0]:=S.add (Ext.refl _) (oR.nil _) (fun _ x=>x.elim)
 refine wd (xg rfl) ?_
 refine zb ?_
 refine zd (za ?_)
 refine wd (zz rfl) ?_
 obtain ⟨r1,er1,H⟩ := zq H
 obtain ⟨B3,MB3,SB3,back⟩ := S.calln 0 ((.z 0 rfl .nil))
 refine zu (zp ca_law03_Both) (by decide) (law03_Both_st SB3 er1) ?_
 rintro _ w2 ⟨a4,a5,rfl,S2⟩
 replace S:St A N w w2 [oT a4 r1.1,oR a5 r1.2.1,oR none none,oT none none] [fS 4 Nd.C s_0 a0]:=back _ _ _ _ S2 rfl
 clear back S2 SB3
 refine wd (z1 rfl) ?_
 refine wd (zr rfl rfl) ?_
 refine wd (zr rfl rfl) ?_
 refine wd (zr rfl rfl) ?_
 refine wd (xg rfl) ?_
 refine wd (xg rfl) ?_
 refine wd (zm rfl) ?_
 refine zb ?_
 refine zd (zd (za ?_))
 refine wd (zE rfl) ?_
 refine wd (xk rfl) ?_
 refine zb ?_
 refine zH rfl (fun hc6=>?_) (fun hc6=>?_)
 ·replace H:=if_t hc6 H
  refine zd (za ?_)
  obtain ⟨r7,er7,H⟩ := zq H
  obtain ⟨B9,MB9,SB9,back⟩ := S.calln 0 ((.nil))
  refine zu (zp ky) (by decide) (kk SB9 er7) ?_
  rintro _ w8 ⟨a10,rfl,S2⟩
  replace S:St A N w w8 [oT a10 r7,oT a4 r1.1,oR a5 r1.2.1,oR none none,oT none none] [fS 4 Nd.C s_0 a0]:=back _ _ _ _ S2 rfl
  clear back S2 SB9
  refine wd (yj bu_RTab Bld.nil) ?_
  refine z7 rfl (by decide) fun b12 w11 hw11=>?_
  replace S:St A N w w11 [oR (some ⟨b12,0,none⟩) (some []),oT a10 r7,oT a4 r1.1,oR a5 r1.2.1,oR none none,oT none none] [fS 4 Nd.C s_0 a0]:=((S.nil T_Nd 4 Nd.C).new hw11).shutR rfl
  refine wd (xg rfl) ?_
  refine wd (xg rfl) ?_
  refine zb ?_
  refine zx ?_
  refine ⟨_,(xp (zg rfl) (zg rfl)),?_⟩
  replace S:St A N w w11 [oT a10 r7,oR (some ⟨b12,0,none⟩) (some [])] []:=S.arr [1,0] []
  obtain rfl:=Option.some.inj H
  exact ⟨a10,(some ⟨b12,0,none⟩),rfl,S⟩
 replace H:=if_f hc6 H
 refine zB ?_
 refine zd (za ?_)
 refine wd (zj rfl) ?_
 refine wd (zj rfl) ?_
 refine wd (xg rfl) ?_
 refine wd (xg rfl) ?_
 refine zb ?_
 refine zx ?_
 refine ⟨_,(xp (zg rfl) (zg rfl)),?_⟩
 replace S:St A N w w2 [oT a4 r1.1,oR a5 r1.2.1] []:=S.arr [0,1] []
 obtain rfl:=Option.some.inj H
 exact ⟨a4,a5,rfl,S⟩
theorem law04_Same_st {A:Nat→Prop} {N:Oth} {w:World} {a0:Tb} {a_0:Option Addr} {a1:Tb} {a_1:Option Addr} (S:St A N w w [] [oT a_0 a0,oR a_1 a1]) {r:Bool} (H:law04_Same.f a0 a1=some r) :
  Calls PP F_law04_Same #[.pointer a_0,.pointer a_1] w fun e w' => ∃ v,e = .returned v∧(v = .bool r∧St A N w w' [] []):=by
 unfold law04_Same.f at H
 refine zA (n:=8) fn_law04_Same rfl rfl (by simp) ?_
 refine zd (za ?_)
 refine wd (zm rfl) ?_
 refine zb ?_
 refine zd (za ?_)
 refine wd (zj rfl) ?_
 refine wd (zj rfl) ?_
 obtain ⟨r1,er1,H⟩ := zq H
 obtain ⟨B3,MB3,SB3,back⟩ := S.calln 0 ((.z 0 rfl (.z 1 rfl .nil)))
 refine zu (zp ca_law03_Like) (by decide) (law03_Like_st SB3 er1) ?_
 rintro _ w2 ⟨rfl,S2⟩
 replace S:St A N w w2 [] [oT a_0 a0,oR a_1 a1]:=back _ _ _ _ S2 rfl
 clear back S2 SB3
 refine wd (zm rfl) ?_
 refine zb ?_
 refine zx ?_
 refine ⟨_,(zV (zg rfl)),?_⟩
 replace S:St A N w w2 [] []:=S.arr [] []
 obtain rfl:=Option.some.inj H
 exact ⟨rfl,S⟩
end Go.Proofs.YtflieamjacclnaaGreatDoor
end
section
namespace Go.Proofs.YtflieamjacclnaaGreatDoor
open Gw Go.RowKit
set_option maxHeartbeats 4000000
set_option maxRecDepth 20000
theorem ref16_imp_st {A:Nat→Prop} {N:Oth} {w:World} {a0:Tb} {a_0:Option Addr} {a1:Int} (S:St A N w w [] [oR a_0 a0]) {r:Int × Int × Bool} (H:ref16_imp.f a0 a1=some r) :
  Calls PP F_ref16_imp #[.pointer a_0,.int .i64 a1] w fun e w' => ∃ v,e = .returned v∧(v = .tuple #[.int .i64 r.1,.int .i64 r.2.1,.bool r.2.2]∧St A N w w' [] []):=by
 unfold ref16_imp.f at H
 refine zA (n:=22) fn_ref16_imp rfl rfl (by simp) (zd (za (wd (zh rfl) (wd (zh rfl) (wd (zm rfl) (zb (zd (za (wd (zj rfl) ?_)))))))))
 obtain ⟨ht1,H⟩ := xi H
 obtain ⟨p2,s3,hp4,S⟩ := S.seeR 0 ht1
 replace S:=S
 refine wd (zw (congrArg Value.pointer hp4)) (wd (ze xo rfl (o':=0) rfl) (wd (zi zW rfl ((S.blkZ 0).cell (RTab.get_n _))) (wd (zf rfl) ?_)))
 obtain ⟨hi5,H⟩ := xi H
 refine wd (zN zK rfl rfl (S.rd 1) (zC hi5).1 (zC hi5).2) (wd (zo xQ rfl ((S.rd 1).at (xj Nd.z (zC hi5))) (Nd.len _)) ?_)
 refine xe ua (by decide) fun b7 w6 hw6=>?_
 replace S:=S.new hw6
 refine zM xQ rfl rfl (S.blk 0) (Nd.len _) (by rw [Nd.len]; decide) (Nd.one _) (zZ (Nd.len _)) fun w8 B hw8 zw8=>?_
 replace S:=S.store 0 B hw8
 clear B
 replace S:=S.zs [2]
 refine zb (zd ?_)
 refine xL 9 (Ext w8) hmix (by kernel_rfl) (by kernel_rfl) (Ext.drawn _) (zt (fun v K=>ze xX rfl (o':=2) rfl) (zt (fun v K=>zi zJ rfl (((S.ext K).blk 0).cell (Nd.get_l _))) (zt (fun v K=>ze xP rfl (o':=3) rfl) (zt (fun v K=>zi zJ rfl (((S.ext K).blk 0).cell (Nd.get_r _))) (zt (fun v K=>ze yl rfl (o':=0) rfl) (zt (fun v K=>zi xO rfl (((S.ext K).blk 0).cell (Nd.get_kind _))) (zt (fun v K=>zR rfl rfl) (zt (fun v K=>zh rfl) (zt (fun v K=>zh rfl) ?_)))))))))
 refine yL fun w9 K=>?_
 replace S:=S.ext K
 clear K
 refine wd (zm rfl) (zb (zx ?_))
 refine ⟨_,(rets3 (zg rfl) (zg rfl) (zg rfl)),?_⟩
 replace S:=S.arr [] []
 obtain rfl:=Option.some.inj H
 exact ⟨rfl,S⟩
theorem ref16_Is_st {A:Nat→Prop} {N:Oth} {w:World} {a0:Tb} {a_0:Option Addr} {a1:Int} {a2:Int} (S:St A N w w [] [oR a_0 a0]) {r:Bool} (H:ref16_Is.f a0 a1 a2=some r) :
  Calls PP F_ref16_Is #[.pointer a_0,.int .i64 a1,.int .i64 a2] w fun e w' => ∃ v,e = .returned v∧(v = .bool r∧St A N w w' [] []):=by
 unfold ref16_Is.f at H
 refine zA (n:=356) fn_ref16_Is rfl rfl (by simp) (zd (za (wd (zm rfl) (zb (zd (za (wd (zj rfl) (wd (zf rfl) ?_))))))))
 obtain ⟨r1,er1,H⟩ := zq H
 obtain ⟨B3,MB3,SB3,back⟩ := S.calln 0 ((.z 0 rfl .nil))
 refine zu (zp ca_ref16_imp) (by decide) (ref16_imp_st SB3 er1) ?_
 rintro _ w2 ⟨rfl,S2⟩
 replace S:=back _ _ _ _ S2 rfl
 clear back S2 SB3
 refine wd (z1 rfl) (wd (zr rfl rfl) (wd (zr rfl rfl) (wd (zr rfl rfl) (wd (zh rfl) (wd (zh rfl) (wd (zm rfl) (zb (zd (zd (za (wd (zE rfl) (wd (xk rfl) (zb ?_)))))))))))))
 refine zH rfl (fun hc4=>?_) (fun hc4=>?_)
 ·replace H:=if_t hc4 H
  refine zd (za (wd (zm rfl) (zb (zx ?_))))
  refine ⟨_,(zV (zg rfl)),?_⟩
  replace S:=S.arr [] []
  obtain rfl:=Option.some.inj H
  exact ⟨rfl,S⟩
 replace H:=if_f hc4 H
 refine zB (zd (za (wd (zj rfl) (wd (zf rfl) ?_))))
 obtain ⟨r5,er5,H⟩ := zq H
 obtain ⟨B7,MB7,SB7,back⟩ := S.calln 0 ((.z 0 rfl .nil))
 refine zu (zp ca_ref16_imp) (by decide) (ref16_imp_st SB7 er5) ?_
 rintro _ w6 ⟨rfl,S2⟩
 replace S:=back _ _ _ _ S2 rfl
 clear back S2 SB7
 refine wd (z1 rfl) (wd (zr rfl rfl) (wd (zr rfl rfl) (wd (zr rfl rfl) (wd (zh rfl) (wd (zh rfl) (wd (zm rfl) (zb (zd ?_))))))))
 obtain ⟨ht8,H⟩ := xi H
 obtain ⟨p9,s10,hp11,S⟩ := S.seeR 0 ht8
 replace S:=S
 obtain ⟨hi12,H⟩ := xi H
 obtain ⟨hi13,H⟩ := xi H
 refine uo 17 ⟨fun _ _=>True,fun _ _ _=>True,fun i v _=>match i with
  | 0=>v=Value.pointer a_0
  | 1=>v=Value.pointer (some ⟨p9,0,none⟩)
  | 2=>v=Value.pointer (some ⟨p9,0,none⟩)
  | 3=>v=s10.v
  | 4=>v=Value.int .i64 r1.1
  | 5=>v=Value.pointer (some ⟨s10.blk,s10.off + Int.toNat r1.1 * 4,none⟩)
  | 6=>v=Value.agg (Nd.C (at_ Nd.z (a0.getD []) r1.1)).toArray
  | 7=>v=Value.pointer a_0
  | 8=>v=Value.pointer (some ⟨p9,0,none⟩)
  | 9=>v=Value.pointer (some ⟨p9,0,none⟩)
  | 10=>v=s10.v
  | 11=>v=Value.int .i64 r1.2.1
  | 12=>v=Value.pointer (some ⟨s10.blk,s10.off + Int.toNat r1.2.1 * 4,none⟩)
  | 13=>v=Value.agg (Nd.C (at_ Nd.z (a0.getD []) r1.2.1)).toArray
  | _=>True⟩ (fun L g v => ∃ b15:Nat,∃ b17:Nat,∃ O20:List OA,∃ Z19:List OA,(∀ z ∈ [oB p9 vy (RTab.C ⟨s10⟩),fS 4 Nd.C s10 (a0.getD []),oR a_0 a0],z ∈ Z19)∧(L 14=true→g 13=Value.pointer (some ⟨b15,0,none⟩))∧(L 15=true→g 14=Value.pointer (some ⟨b17,0,none⟩))∧O20=((bif L 16 then [oB b15 T_Nd (Nd.C (at_ Nd.z (a0.getD []) r1.1))] else (bif L 14 then [oB b15 T_Nd (Nd.C Nd.z)] else [])) ++ ((bif L 15 then [oB b17 T_Nd (Nd.C Nd.z)] else []) ++ []))∧St A N w v O20 Z19) hmix (by kernel_rfl) (fun _ _ _ _ _ _ _ hv=>hv) (fun g=>⟨0,0,_,_,fun _ h=>h,(fun h=>by cases h),(fun h=>by cases h),rfl,S.ext (Ext.drawn _)⟩) ⟨?_,?_,?_,?_,?_,?_,?_,?_,?_,?_,?_,?_,?_,?_,?_,?_,?_,trivial⟩ ?_
 ·rintro L g v hL hcl hclo ⟨b15,b17,O20,Z19,hZ,hk14,hk15,hO,S⟩ 
  have hl16:L 16=false:=by cases h:L 16 with | false=>rfl | true=>exact absurd (hclo 16 0 h (by kernel_rfl)) (by rw [hL]; decide)
  have SR:St A N w v [] (oB p9 vy (RTab.C ⟨s10⟩) :: fS 4 Nd.C s10 (a0.getD []) :: oR a_0 a0 :: Z19):=by
   have S2:=S.zneed hZ
   rw [hO] at S2
   simp only [hl16,cond_true,cond_false,List.nil_append,List.append_assoc,List.cons_append] at S2
   exact S2.drops.drops
  refine wd (zj rfl) ?_
  exact zb (ob4 trivial rfl ⟨b15,b17,O20,Z19,hZ,(fun h=>by rw [zF _ _ _ _ (by decide)]; exact hk14 (by rw [zn rfl] at h; exact h)),(fun h=>by rw [zF _ _ _ _ (by decide)]; exact hk15 (by rw [zn rfl] at h; exact h)),by rw [hO]; simp only [zn (L:=L) (i:=0) (j:=14) rfl,zn (L:=L) (i:=0) (j:=16) rfl,zn (L:=L) (i:=0) (j:=15) rfl],S⟩)
 ·rintro L g v hL hcl hclo ⟨b15,b17,O20,Z19,hZ,hk14,hk15,hO,S⟩ hv0
  have hl16:L 16=false:=by cases h:L 16 with | false=>rfl | true=>exact absurd (hclo 16 1 h (by kernel_rfl)) (by rw [hL]; decide)
  have SR:St A N w v [] (oB p9 vy (RTab.C ⟨s10⟩) :: fS 4 Nd.C s10 (a0.getD []) :: oR a_0 a0 :: Z19):=by
   have S2:=S.zneed hZ
   rw [hO] at S2
   simp only [hl16,cond_true,cond_false,List.nil_append,List.append_assoc,List.cons_append] at S2
   exact S2.drops.drops
  refine wd (zw ((hv0:_=Value.pointer a_0).trans (congrArg Value.pointer hp11))) ?_
  exact zb (ob4 trivial rfl ⟨b15,b17,O20,Z19,hZ,(fun h=>by rw [zF _ _ _ _ (by decide)]; exact hk14 (by rw [zn rfl] at h; exact h)),(fun h=>by rw [zF _ _ _ _ (by decide)]; exact hk15 (by rw [zn rfl] at h; exact h)),by rw [hO]; simp only [zn (L:=L) (i:=1) (j:=14) rfl,zn (L:=L) (i:=1) (j:=16) rfl,zn (L:=L) (i:=1) (j:=15) rfl],S⟩)
 ·rintro L g v hL hcl hclo ⟨b15,b17,O20,Z19,hZ,hk14,hk15,hO,S⟩ hv1
  have hl16:L 16=false:=by cases h:L 16 with | false=>rfl | true=>exact absurd (hclo 16 2 h (by kernel_rfl)) (by rw [hL]; decide)
  have SR:St A N w v [] (oB p9 vy (RTab.C ⟨s10⟩) :: fS 4 Nd.C s10 (a0.getD []) :: oR a_0 a0 :: Z19):=by
   have S2:=S.zneed hZ
   rw [hO] at S2
   simp only [hl16,cond_true,cond_false,List.nil_append,List.append_assoc,List.cons_append] at S2
   exact S2.drops.drops
  refine wd (ze xo hv1 (o':=0) rfl) ?_
  exact zb (ob4 trivial rfl ⟨b15,b17,O20,Z19,hZ,(fun h=>by rw [zF _ _ _ _ (by decide)]; exact hk14 (by rw [zn rfl] at h; exact h)),(fun h=>by rw [zF _ _ _ _ (by decide)]; exact hk15 (by rw [zn rfl] at h; exact h)),by rw [hO]; simp only [zn (L:=L) (i:=2) (j:=14) rfl,zn (L:=L) (i:=2) (j:=16) rfl,zn (L:=L) (i:=2) (j:=15) rfl],S⟩)
 ·rintro L g v hL hcl hclo ⟨b15,b17,O20,Z19,hZ,hk14,hk15,hO,S⟩ hv2
  have hl16:L 16=false:=by cases h:L 16 with | false=>rfl | true=>exact absurd (hclo 16 3 h (by kernel_rfl)) (by rw [hL]; decide)
  have SR:St A N w v [] (oB p9 vy (RTab.C ⟨s10⟩) :: fS 4 Nd.C s10 (a0.getD []) :: oR a_0 a0 :: Z19):=by
   have S2:=S.zneed hZ
   rw [hO] at S2
   simp only [hl16,cond_true,cond_false,List.nil_append,List.append_assoc,List.cons_append] at S2
   exact S2.drops.drops
  refine wd (zi zW hv2 ((SR.blkZ 0).cell (RTab.get_n _))) ?_
  exact zb (ob4 trivial rfl ⟨b15,b17,O20,Z19,hZ,(fun h=>by rw [zF _ _ _ _ (by decide)]; exact hk14 (by rw [zn rfl] at h; exact h)),(fun h=>by rw [zF _ _ _ _ (by decide)]; exact hk15 (by rw [zn rfl] at h; exact h)),by rw [hO]; simp only [zn (L:=L) (i:=3) (j:=14) rfl,zn (L:=L) (i:=3) (j:=16) rfl,zn (L:=L) (i:=3) (j:=15) rfl],S⟩)
 ·rintro L g v hL hcl hclo ⟨b15,b17,O20,Z19,hZ,hk14,hk15,hO,S⟩ 
  have hl16:L 16=false:=by cases h:L 16 with | false=>rfl | true=>exact absurd (hclo 16 4 h (by kernel_rfl)) (by rw [hL]; decide)
  have SR:St A N w v [] (oB p9 vy (RTab.C ⟨s10⟩) :: fS 4 Nd.C s10 (a0.getD []) :: oR a_0 a0 :: Z19):=by
   have S2:=S.zneed hZ
   rw [hO] at S2
   simp only [hl16,cond_true,cond_false,List.nil_append,List.append_assoc,List.cons_append] at S2
   exact S2.drops.drops
  refine wd (zf rfl) ?_
  exact zb (ob4 trivial rfl ⟨b15,b17,O20,Z19,hZ,(fun h=>by rw [zF _ _ _ _ (by decide)]; exact hk14 (by rw [zn rfl] at h; exact h)),(fun h=>by rw [zF _ _ _ _ (by decide)]; exact hk15 (by rw [zn rfl] at h; exact h)),by rw [hO]; simp only [zn (L:=L) (i:=4) (j:=14) rfl,zn (L:=L) (i:=4) (j:=16) rfl,zn (L:=L) (i:=4) (j:=15) rfl],S⟩)
 ·rintro L g v hL hcl hclo ⟨b15,b17,O20,Z19,hZ,hk14,hk15,hO,S⟩ hv3 hv4
  have hl16:L 16=false:=by cases h:L 16 with | false=>rfl | true=>exact absurd (hclo 16 5 h (by kernel_rfl)) (by rw [hL]; decide)
  have SR:St A N w v [] (oB p9 vy (RTab.C ⟨s10⟩) :: fS 4 Nd.C s10 (a0.getD []) :: oR a_0 a0 :: Z19):=by
   have S2:=S.zneed hZ
   rw [hO] at S2
   simp only [hl16,cond_true,cond_false,List.nil_append,List.append_assoc,List.cons_append] at S2
   exact S2.drops.drops
  refine wd (zN zK hv3 hv4 (SR.rd 1) (zC hi12).1 (zC hi12).2) ?_
  exact zb (ob4 trivial rfl ⟨b15,b17,O20,Z19,hZ,(fun h=>by rw [zF _ _ _ _ (by decide)]; exact hk14 (by rw [zn rfl] at h; exact h)),(fun h=>by rw [zF _ _ _ _ (by decide)]; exact hk15 (by rw [zn rfl] at h; exact h)),by rw [hO]; simp only [zn (L:=L) (i:=5) (j:=14) rfl,zn (L:=L) (i:=5) (j:=16) rfl,zn (L:=L) (i:=5) (j:=15) rfl],S⟩)
 ·rintro L g v hL hcl hclo ⟨b15,b17,O20,Z19,hZ,hk14,hk15,hO,S⟩ hv5
  have hl16:L 16=false:=by cases h:L 16 with | false=>rfl | true=>exact absurd (hclo 16 6 h (by kernel_rfl)) (by rw [hL]; decide)
  have SR:St A N w v [] (oB p9 vy (RTab.C ⟨s10⟩) :: fS 4 Nd.C s10 (a0.getD []) :: oR a_0 a0 :: Z19):=by
   have S2:=S.zneed hZ
   rw [hO] at S2
   simp only [hl16,cond_true,cond_false,List.nil_append,List.append_assoc,List.cons_append] at S2
   exact S2.drops.drops
  refine wd (zo xQ hv5 ((SR.rd 1).at (xj Nd.z (zC hi12))) (Nd.len _)) ?_
  exact zb (ob4 trivial rfl ⟨b15,b17,O20,Z19,hZ,(fun h=>by rw [zF _ _ _ _ (by decide)]; exact hk14 (by rw [zn rfl] at h; exact h)),(fun h=>by rw [zF _ _ _ _ (by decide)]; exact hk15 (by rw [zn rfl] at h; exact h)),by rw [hO]; simp only [zn (L:=L) (i:=6) (j:=14) rfl,zn (L:=L) (i:=6) (j:=16) rfl,zn (L:=L) (i:=6) (j:=15) rfl],S⟩)
 ·rintro L g v hL hcl hclo ⟨b15,b17,O20,Z19,hZ,hk14,hk15,hO,S⟩ 
  have SR:St A N w v [] (oB p9 vy (RTab.C ⟨s10⟩) :: fS 4 Nd.C s10 (a0.getD []) :: oR a_0 a0 :: Z19):=by
   have S2:=S.zneed hZ
   rw [hO] at S2
   exact S2.drops.drops
  refine wd (zj rfl) ?_
  exact zb (ob4 trivial rfl ⟨b15,b17,O20,Z19,hZ,(fun h=>by rw [zF _ _ _ _ (by decide)]; exact hk14 (by rw [zn rfl] at h; exact h)),(fun h=>by rw [zF _ _ _ _ (by decide)]; exact hk15 (by rw [zn rfl] at h; exact h)),by rw [hO]; simp only [zn (L:=L) (i:=7) (j:=14) rfl,zn (L:=L) (i:=7) (j:=16) rfl,zn (L:=L) (i:=7) (j:=15) rfl],S⟩)
 ·rintro L g v hL hcl hclo ⟨b15,b17,O20,Z19,hZ,hk14,hk15,hO,S⟩ hv7
  have SR:St A N w v [] (oB p9 vy (RTab.C ⟨s10⟩) :: fS 4 Nd.C s10 (a0.getD []) :: oR a_0 a0 :: Z19):=by
   have S2:=S.zneed hZ
   rw [hO] at S2
   exact S2.drops.drops
  refine wd (zw ((hv7:_=Value.pointer a_0).trans (congrArg Value.pointer hp11))) ?_
  exact zb (ob4 trivial rfl ⟨b15,b17,O20,Z19,hZ,(fun h=>by rw [zF _ _ _ _ (by decide)]; exact hk14 (by rw [zn rfl] at h; exact h)),(fun h=>by rw [zF _ _ _ _ (by decide)]; exact hk15 (by rw [zn rfl] at h; exact h)),by rw [hO]; simp only [zn (L:=L) (i:=8) (j:=14) rfl,zn (L:=L) (i:=8) (j:=16) rfl,zn (L:=L) (i:=8) (j:=15) rfl],S⟩)
 ·rintro L g v hL hcl hclo ⟨b15,b17,O20,Z19,hZ,hk14,hk15,hO,S⟩ hv8
  have SR:St A N w v [] (oB p9 vy (RTab.C ⟨s10⟩) :: fS 4 Nd.C s10 (a0.getD []) :: oR a_0 a0 :: Z19):=by
   have S2:=S.zneed hZ
   rw [hO] at S2
   exact S2.drops.drops
  refine wd (ze xo hv8 (o':=0) rfl) ?_
  exact zb (ob4 trivial rfl ⟨b15,b17,O20,Z19,hZ,(fun h=>by rw [zF _ _ _ _ (by decide)]; exact hk14 (by rw [zn rfl] at h; exact h)),(fun h=>by rw [zF _ _ _ _ (by decide)]; exact hk15 (by rw [zn rfl] at h; exact h)),by rw [hO]; simp only [zn (L:=L) (i:=9) (j:=14) rfl,zn (L:=L) (i:=9) (j:=16) rfl,zn (L:=L) (i:=9) (j:=15) rfl],S⟩)
 ·rintro L g v hL hcl hclo ⟨b15,b17,O20,Z19,hZ,hk14,hk15,hO,S⟩ hv9
  have SR:St A N w v [] (oB p9 vy (RTab.C ⟨s10⟩) :: fS 4 Nd.C s10 (a0.getD []) :: oR a_0 a0 :: Z19):=by
   have S2:=S.zneed hZ
   rw [hO] at S2
   exact S2.drops.drops
  refine wd (zi zW hv9 ((SR.blkZ 0).cell (RTab.get_n _))) ?_
  exact zb (ob4 trivial rfl ⟨b15,b17,O20,Z19,hZ,(fun h=>by rw [zF _ _ _ _ (by decide)]; exact hk14 (by rw [zn rfl] at h; exact h)),(fun h=>by rw [zF _ _ _ _ (by decide)]; exact hk15 (by rw [zn rfl] at h; exact h)),by rw [hO]; simp only [zn (L:=L) (i:=10) (j:=14) rfl,zn (L:=L) (i:=10) (j:=16) rfl,zn (L:=L) (i:=10) (j:=15) rfl],S⟩)
 ·rintro L g v hL hcl hclo ⟨b15,b17,O20,Z19,hZ,hk14,hk15,hO,S⟩ 
  have SR:St A N w v [] (oB p9 vy (RTab.C ⟨s10⟩) :: fS 4 Nd.C s10 (a0.getD []) :: oR a_0 a0 :: Z19):=by
   have S2:=S.zneed hZ
   rw [hO] at S2
   exact S2.drops.drops
  refine wd (zf rfl) ?_
  exact zb (ob4 trivial rfl ⟨b15,b17,O20,Z19,hZ,(fun h=>by rw [zF _ _ _ _ (by decide)]; exact hk14 (by rw [zn rfl] at h; exact h)),(fun h=>by rw [zF _ _ _ _ (by decide)]; exact hk15 (by rw [zn rfl] at h; exact h)),by rw [hO]; simp only [zn (L:=L) (i:=11) (j:=14) rfl,zn (L:=L) (i:=11) (j:=16) rfl,zn (L:=L) (i:=11) (j:=15) rfl],S⟩)
 ·rintro L g v hL hcl hclo ⟨b15,b17,O20,Z19,hZ,hk14,hk15,hO,S⟩ hv10 hv11
  have SR:St A N w v [] (oB p9 vy (RTab.C ⟨s10⟩) :: fS 4 Nd.C s10 (a0.getD []) :: oR a_0 a0 :: Z19):=by
   have S2:=S.zneed hZ
   rw [hO] at S2
   exact S2.drops.drops
  refine wd (zN zK hv10 hv11 (SR.rd 1) (zC hi13).1 (zC hi13).2) ?_
  exact zb (ob4 trivial rfl ⟨b15,b17,O20,Z19,hZ,(fun h=>by rw [zF _ _ _ _ (by decide)]; exact hk14 (by rw [zn rfl] at h; exact h)),(fun h=>by rw [zF _ _ _ _ (by decide)]; exact hk15 (by rw [zn rfl] at h; exact h)),by rw [hO]; simp only [zn (L:=L) (i:=12) (j:=14) rfl,zn (L:=L) (i:=12) (j:=16) rfl,zn (L:=L) (i:=12) (j:=15) rfl],S⟩)
 ·rintro L g v hL hcl hclo ⟨b15,b17,O20,Z19,hZ,hk14,hk15,hO,S⟩ hv12
  have SR:St A N w v [] (oB p9 vy (RTab.C ⟨s10⟩) :: fS 4 Nd.C s10 (a0.getD []) :: oR a_0 a0 :: Z19):=by
   have S2:=S.zneed hZ
   rw [hO] at S2
   exact S2.drops.drops
  refine wd (zo xQ hv12 ((SR.rd 1).at (xj Nd.z (zC hi13))) (Nd.len _)) ?_
  exact zb (ob4 trivial rfl ⟨b15,b17,O20,Z19,hZ,(fun h=>by rw [zF _ _ _ _ (by decide)]; exact hk14 (by rw [zn rfl] at h; exact h)),(fun h=>by rw [zF _ _ _ _ (by decide)]; exact hk15 (by rw [zn rfl] at h; exact h)),by rw [hO]; simp only [zn (L:=L) (i:=13) (j:=14) rfl,zn (L:=L) (i:=13) (j:=16) rfl,zn (L:=L) (i:=13) (j:=15) rfl],S⟩)
 ·rintro L g v hL hcl hclo ⟨b15,b17,O20,Z19,hZ,hk14,hk15,hO,S⟩ 
  have hl14:L 14=false:=hL
  have hl16:L 16=false:=by cases h:L 16 with | false=>rfl | true=>exact absurd (hclo 16 14 h (by kernel_rfl)) (by rw [hL]; decide)
  have hOP : ∃ P Y,P=[]∧Y=((bif L 15 then [oB b17 T_Nd (Nd.C Nd.z)] else []) ++ [])∧O20=P ++ ([] ++ Y):=⟨_,_,rfl,rfl,by rw [hO]; simp only [hl14,hl16,cond_true,cond_false,List.nil_append,List.append_assoc,List.cons_append]⟩
  obtain ⟨P,Y,hP,hY,hPY⟩ := hOP
  rw [hPY] at S
  replace S:=S
  refine xe ua (by decide) fun b24 w23 hw23=>?_
  replace S:=S.new hw23
  refine zb (ob4 trivial trivial ⟨b24,b17,P ++ ([oB b24 T_Nd (Nd.C Nd.z)] ++ Y),_,hZ,(fun _=>upd_same _ _ _),(fun h=>by rw [zF _ _ _ _ (by decide)]; exact hk15 (by rw [zn rfl] at h; exact h)),?_,S.ins (P:=[oB b24 T_Nd (Nd.C Nd.z)])⟩)
  rw [hP,hY]; simp only [zn (L:=L) (i:=14) (j:=16) rfl,zn (L:=L) (i:=14) (j:=15) rfl,yW (L:=L) (i:=14),hl16,cond_true,cond_false,List.nil_append,List.append_assoc,List.cons_append]
 ·rintro L g v hL hcl hclo ⟨b15,b17,O20,Z19,hZ,hk14,hk15,hO,S⟩ 
  have hl16:L 16=false:=by cases h:L 16 with | false=>rfl | true=>exact absurd (hclo 16 15 h (by kernel_rfl)) (by rw [hL]; decide)
  have hl15:L 15=false:=hL
  have hOP : ∃ P Y,P=(bif L 16 then [oB b15 T_Nd (Nd.C (at_ Nd.z (a0.getD []) r1.1))] else (bif L 14 then [oB b15 T_Nd (Nd.C Nd.z)] else []))∧Y=[]∧O20=P ++ ([] ++ Y):=⟨_,_,rfl,rfl,by rw [hO]; simp only [hl15,cond_true,cond_false,List.nil_append,List.append_assoc,List.cons_append]⟩
  obtain ⟨P,Y,hP,hY,hPY⟩ := hOP
  rw [hPY] at S
  replace S:=S
  refine xe ua (by decide) fun b26 w25 hw25=>?_
  replace S:=S.new hw25
  refine zb (ob4 trivial trivial ⟨b15,b26,P ++ ([oB b26 T_Nd (Nd.C Nd.z)] ++ Y),_,hZ,(fun h=>by rw [zF _ _ _ _ (by decide)]; exact hk14 (by rw [zn rfl] at h; exact h)),(fun _=>upd_same _ _ _),?_,S.ins (P:=[oB b26 T_Nd (Nd.C Nd.z)])⟩)
  rw [hP,hY]; simp only [zn (L:=L) (i:=15) (j:=14) rfl,zn (L:=L) (i:=15) (j:=16) rfl,yW (L:=L) (i:=15),hl16,cond_true,cond_false,List.nil_append,List.append_assoc,List.cons_append]
 ·rintro L g v hL hcl hclo ⟨b15,b17,O20,Z19,hZ,hk14,hk15,hO,S⟩ _ hv6
  have hl14:L 14=true:=hcl 14 (by kernel_rfl)
  have hl16:L 16=false:=hL
  have hl15:L 15=true:=hcl 15 (by kernel_rfl)
  have hOP : ∃ P Y,P=[]∧Y=((bif L 15 then [oB b17 T_Nd (Nd.C Nd.z)] else []) ++ [])∧O20=P ++ ([oB b15 T_Nd (Nd.C Nd.z)] ++ Y):=⟨_,_,rfl,rfl,by rw [hO]; simp only [hl14,hl16,cond_true,cond_false,List.nil_append,List.append_assoc,List.cons_append]⟩
  obtain ⟨P,Y,hP,hY,hPY⟩ := hOP
  rw [hPY] at S
  replace S:=(S.ins.zneed hZ)
  refine zM xQ (hk14 (hcl 14 (by kernel_rfl))) hv6 (S.blk 0) (Nd.len _) (by rw [Nd.len]; decide) (Nd.one _) (zZ (Nd.len _)) fun w27 B hw27 zw27=>?_
  replace S:=S.store 0 B hw27
  clear B
  refine zb (ob40 trivial (fun _=>trivial) ⟨b15,b17,P ++ ([oB b15 T_Nd (Nd.C (at_ Nd.z (a0.getD []) r1.1))] ++ Y),_,(fun z h=>tl3 z (hZ z h)),(fun h=>hk14 (by rw [zn rfl] at h; exact h)),(fun h=>hk15 (by rw [zn rfl] at h; exact h)),?_,S.ins (P:=[oB b15 T_Nd (Nd.C (at_ Nd.z (a0.getD []) r1.1))])⟩)
  rw [hP,hY]; simp only [zn (L:=L) (i:=16) (j:=14) rfl,zn (L:=L) (i:=16) (j:=15) rfl,yW (L:=L) (i:=16),hl14,hl15,cond_true,cond_false,List.nil_append,List.append_assoc,List.cons_append]
 rintro L g w28 hLm ⟨b15,b17,O20,Z19,hZ,hk14,hk15,hO,S⟩ hv29_0 hv29_1 hv29_2 hv29_3 hv29_4 hv29_5 hv29_6 hv29_7 hv29_8 hv29_9 hv29_10 hv29_11 hv29_12 hv29_13 _ _ _
 have hLt : ∀ j,j < 17→L j=true:=fun j hj=>by rw [hLm]; exact decide_eq_true hj
 have hv29_14:=hk14 (hLt 14 (by decide))
 have hv29_15:=hk15 (hLt 15 (by decide))
 simp only [hLt 14 (by decide),hLt 16 (by decide),hLt 15 (by decide),cond_true,List.nil_append,List.cons_append] at hO
 rw [hO] at S
 replace S:=S.pickZ hZ
 clear  hZ 
 refine zM xQ hv29_15 hv29_13 (S.blk 1) (Nd.len _) (by rw [Nd.len]; decide) (Nd.one _) (zZ (Nd.len _)) fun w30 B hw30 zw30=>?_
 replace S:=S.store 1 B hw30
 clear B
 replace S:=S.zs [2]
 refine zb (zd (zd (za (wd (zf rfl) (zb ?_)))))
 refine zQ (zd (za (wd (zR rfl rfl) (wd (zm rfl) (zb ?_)))))
 refine zH rfl (fun hc31=>?_) (fun hc31=>?_)
 ·replace H:=if_t hc31 H
  refine zd (za (wd (zE rfl) (wd (zE rfl) ?_)))
  refine wg (fun hg=>zf rfl) ?_
  refine wg (fun hg=>zf rfl) ?_
  refine wg (fun hg=>zR (zl hg) (zl hg)) (wd (xc rfl (fun hp=>(zl (xn hp)))) (wd (zm rfl) (zb (zx ?_))))
  refine ⟨_,(zV (zg rfl)),?_⟩
  replace S:=S.arr [] []
  obtain rfl:=Option.some.inj H
  exact ⟨rfl,S⟩
 replace H:=if_f hc31 H
 refine zd (za (wd (zR rfl rfl) (wd (zm rfl) (zb ?_))))
 refine zH rfl (fun hc32=>?_) (fun hc32=>?_)
 ·replace H:=if_t hc32 H
  refine zd (zd ?_)
  refine xL 36 (Ext w30) hmix (by kernel_rfl) (by kernel_rfl) (Ext.drawn _) (zt (fun v K=>zE rfl) (zt (fun v K=>xk rfl) (zt (fun v K=>zE rfl) (zG (j:=2) (pol:=false) rfl rfl rfl (fun hg v K=>ze yl hv29_14 (o':=0) rfl) (zG (j:=2) (pol:=false) rfl rfl rfl (fun hg v K=>zi xO (zl hg) (((S.ext K).blk 1).cell (Nd.get_kind _))) (zG (j:=2) (pol:=false) rfl rfl rfl (fun hg v K=>xh (zl hg) rfl) (zt (fun v K=>xw rfl (fun hp=>(zl (xn hp)))) (zt (fun v K=>zE rfl) (zG (j:=7) (pol:=false) rfl rfl rfl (fun hg v K=>zj rfl) ?_)))))))))
  obtain ⟨p33,s34,hp35,S⟩ := S.seeR 0 ht8
  replace S:=S
  refine zG (j:=7) (pol:=false) rfl rfl rfl (fun hg v K=>zw (((zl hg):_=Value.pointer a_0).trans (congrArg Value.pointer hp35))) (zG (j:=7) (pol:=false) rfl rfl rfl (fun hg v K=>ze xo (zl hg) (o':=0) rfl) (zG (j:=7) (pol:=false) rfl rfl rfl (fun hg v K=>zi zW (zl hg) (((S.ext K).blkZ 0).cell (RTab.get_n _))) (zG (j:=7) (pol:=false) rfl rfl rfl (fun hg v K=>ze xP hv29_14 (o':=3) rfl) (zG (j:=7) (pol:=false) rfl rfl rfl (fun hg v K=>zi zJ (zl hg) (((S.ext K).blk 1).cell (Nd.get_r _))) ?_))))
  obtain ⟨hi36,H⟩ := kh H
  refine zG (j:=7) (pol:=false) rfl rfl rfl (fun hg v K=>zN zK (zl hg) (zl hg) ((S.ext K).rd 1) (zC (hi36 (by simpa using hg))).1 (zC (hi36 (by simpa using hg))).2) (zG (j:=7) (pol:=false) rfl rfl rfl (fun hg v K=>ze yl (zl hg) (o':=_) rfl) (zG (j:=7) (pol:=false) rfl rfl rfl (fun hg v K=>zi xO (zl hg) ((((S.ext K).rd 1).at (xj Nd.z (zC (hi36 (by simpa using hg))))).get (Nd.get_kind _))) (zG (j:=7) (pol:=false) rfl rfl rfl (fun hg v K=>xh (zl hg) rfl) (zt (fun v K=>xw rfl (fun hp=>(zl (xn hp)))) (zt (fun v K=>zE rfl) (zG (j:=19) (pol:=false) rfl rfl rfl (fun hg v K=>zj rfl) (zG (j:=19) (pol:=false) rfl rfl rfl (fun hg v K=>zw (((zl hg):_=Value.pointer a_0).trans (congrArg Value.pointer hp35))) (zG (j:=19) (pol:=false) rfl rfl rfl (fun hg v K=>ze xo (zl hg) (o':=0) rfl) (zG (j:=19) (pol:=false) rfl rfl rfl (fun hg v K=>zi zW (zl hg) (((S.ext K).blkZ 0).cell (RTab.get_n _))) (zG (j:=19) (pol:=false) rfl rfl rfl (fun hg v K=>zf rfl) ?_))))))))))
  obtain ⟨hi37,H⟩ := kh H
  refine zG (j:=19) (pol:=false) rfl rfl rfl (fun hg v K=>zN zK (zl hg) (zl hg) ((S.ext K).rd 1) (zC (hi37 (by simpa using hg))).1 (zC (hi37 (by simpa using hg))).2) (zG (j:=19) (pol:=false) rfl rfl rfl (fun hg v K=>ze yl (zl hg) (o':=_) rfl) (zG (j:=19) (pol:=false) rfl rfl rfl (fun hg v K=>zi xO (zl hg) ((((S.ext K).rd 1).at (xj Nd.z (zC (hi37 (by simpa using hg))))).get (Nd.get_kind _))) (zG (j:=19) (pol:=false) rfl rfl rfl (fun hg v K=>xh (zl hg) rfl) (zt (fun v K=>xw rfl (fun hp=>(zl (xn hp)))) (zt (fun v K=>zE rfl) (zG (j:=30) (pol:=false) rfl rfl rfl (fun hg v K=>zj rfl) (zG (j:=30) (pol:=false) rfl rfl rfl (fun hg v K=>zw (((zl hg):_=Value.pointer a_0).trans (congrArg Value.pointer hp35))) (zG (j:=30) (pol:=false) rfl rfl rfl (fun hg v K=>ze xo (zl hg) (o':=0) rfl) (zG (j:=30) (pol:=false) rfl rfl rfl (fun hg v K=>zi zW (zl hg) (((S.ext K).blkZ 0).cell (RTab.get_n _))) (zG (j:=30) (pol:=false) rfl rfl rfl (fun hg v K=>zf rfl) ?_))))))))))
  refine yL fun w38 K=>?_
  replace S:=S.ext K
  clear K
  obtain ⟨hi39,H⟩ := kh H
  refine wg (fun hg=>zN zK (zl hg) (zl hg) (S.rd 1) (zC (hi39 (by simpa using hg))).1 (zC (hi39 (by simpa using hg))).2) ?_
  refine wg (fun hg=>ze yl (zl hg) (o':=_) rfl) ?_
  refine wg (fun hg=>zi xO (zl hg) (((S.rd 1).at (xj Nd.z (zC (hi39 (by simpa using hg))))).get (Nd.get_kind _))) ?_
  refine wg (fun hg=>xh (zl hg) rfl) (wd (xw rfl (fun hp=>(zl (xn hp)))) ?_)
  replace S:=S.zs [2]
  refine zb ?_
  refine zH rfl (fun hc40=>?_) (fun hc40=>?_)
  ·replace H:=if_t hc40 H
   refine zd (za (wd (zm rfl) (zb (zx ?_))))
   refine ⟨_,(zV (zg rfl)),?_⟩
   replace S:=S.arr [] []
   obtain rfl:=Option.some.inj H
   exact ⟨rfl,S⟩
  replace H:=if_f hc40 H
  refine zB (zd ?_)
  refine xL 62 (Ext w38) hmix (by kernel_rfl) (by kernel_rfl) (Ext.drawn _) (zt (fun v K=>zj rfl) ?_)
  obtain ⟨p41,s42,hp43,S⟩ := S.seeR 0 ht8
  replace S:=S
  refine zt (fun v K=>zw (congrArg Value.pointer hp43)) (zt (fun v K=>ze xo rfl (o':=0) rfl) (zt (fun v K=>zi zW rfl (((S.ext K).blkZ 0).cell (RTab.get_n _))) (zt (fun v K=>zf rfl) ?_)))
  obtain ⟨hi44,H⟩ := xi H
  refine zt (fun v K=>zN zK rfl rfl ((S.ext K).rd 1) (zC hi44).1 (zC hi44).2) (zt (fun v K=>ze xX rfl (o':=_) rfl) (zt (fun v K=>zi zJ rfl ((((S.ext K).rd 1).at (xj Nd.z (zC hi44))).get (Nd.get_l _))) (zt (fun v K=>ze xX hv29_14 (o':=2) rfl) (zt (fun v K=>zi zJ rfl (((S.ext K).blk 1).cell (Nd.get_l _))) (zt (fun v K=>zR rfl rfl) (zt (fun v K=>zE rfl) (zG (j:=11) (pol:=true) rfl rfl rfl (fun hg v K=>zj rfl) (zG (j:=11) (pol:=true) rfl rfl rfl (fun hg v K=>zw (((zl hg):_=Value.pointer a_0).trans (congrArg Value.pointer hp43))) (zG (j:=11) (pol:=true) rfl rfl rfl (fun hg v K=>ze xo (zl hg) (o':=0) rfl) (zG (j:=11) (pol:=true) rfl rfl rfl (fun hg v K=>zi zW (zl hg) (((S.ext K).blkZ 0).cell (RTab.get_n _))) (zG (j:=11) (pol:=true) rfl rfl rfl (fun hg v K=>zf rfl) ?_)))))))))))
  obtain ⟨hi45,H⟩ := kh H
  refine zG (j:=11) (pol:=true) rfl rfl rfl (fun hg v K=>zN zK (zl hg) (zl hg) ((S.ext K).rd 1) (zC (hi45 (by simpa using hg))).1 (zC (hi45 (by simpa using hg))).2) (zG (j:=11) (pol:=true) rfl rfl rfl (fun hg v K=>ze xX (zl hg) (o':=_) rfl) (zG (j:=11) (pol:=true) rfl rfl rfl (fun hg v K=>zi zJ (zl hg) ((((S.ext K).rd 1).at (xj Nd.z (zC (hi45 (by simpa using hg))))).get (Nd.get_l _))) (zG (j:=11) (pol:=true) rfl rfl rfl (fun hg v K=>ze xX hv29_14 (o':=2) rfl) (zG (j:=11) (pol:=true) rfl rfl rfl (fun hg v K=>zi zJ (zl hg) (((S.ext K).blk 1).cell (Nd.get_l _))) (zG (j:=11) (pol:=true) rfl rfl rfl (fun hg v K=>zR (zl hg) (zl hg)) (zt (fun v K=>xc rfl (fun hp=>(zl (xn hp)))) (zt (fun v K=>zE rfl) (zG (j:=24) (pol:=true) rfl rfl rfl (fun hg v K=>zj rfl) (zG (j:=24) (pol:=true) rfl rfl rfl (fun hg v K=>zw (((zl hg):_=Value.pointer a_0).trans (congrArg Value.pointer hp43))) (zG (j:=24) (pol:=true) rfl rfl rfl (fun hg v K=>ze xo (zl hg) (o':=0) rfl) (zG (j:=24) (pol:=true) rfl rfl rfl (fun hg v K=>zi zW (zl hg) (((S.ext K).blkZ 0).cell (RTab.get_n _))) (zG (j:=24) (pol:=true) rfl rfl rfl (fun hg v K=>zf rfl) ?_))))))))))))
  obtain ⟨hi46,H⟩ := kh H
  refine zG (j:=24) (pol:=true) rfl rfl rfl (fun hg v K=>zN zK (zl hg) (zl hg) ((S.ext K).rd 1) (zC (hi46 (by simpa using hg))).1 (zC (hi46 (by simpa using hg))).2) (zG (j:=24) (pol:=true) rfl rfl rfl (fun hg v K=>ze xP (zl hg) (o':=_) rfl) (zG (j:=24) (pol:=true) rfl rfl rfl (fun hg v K=>zi zJ (zl hg) ((((S.ext K).rd 1).at (xj Nd.z (zC (hi46 (by simpa using hg))))).get (Nd.get_r _))) (zG (j:=24) (pol:=true) rfl rfl rfl (fun hg v K=>zj rfl) (zG (j:=24) (pol:=true) rfl rfl rfl (fun hg v K=>zw (((zl hg):_=Value.pointer a_0).trans (congrArg Value.pointer hp43))) (zG (j:=24) (pol:=true) rfl rfl rfl (fun hg v K=>ze xo (zl hg) (o':=0) rfl) (zG (j:=24) (pol:=true) rfl rfl rfl (fun hg v K=>zi zW (zl hg) (((S.ext K).blkZ 0).cell (RTab.get_n _))) (zG (j:=24) (pol:=true) rfl rfl rfl (fun hg v K=>ze xP hv29_14 (o':=3) rfl) (zG (j:=24) (pol:=true) rfl rfl rfl (fun hg v K=>zi zJ (zl hg) (((S.ext K).blk 1).cell (Nd.get_r _))) ?_))))))))
  obtain ⟨hi47,H⟩ := kh H
  refine zG (j:=24) (pol:=true) rfl rfl rfl (fun hg v K=>zN zK (zl hg) (zl hg) ((S.ext K).rd 1) (zC (hi47 (by simpa using hg))).1 (zC (hi47 (by simpa using hg))).2) (zG (j:=24) (pol:=true) rfl rfl rfl (fun hg v K=>ze xX (zl hg) (o':=_) rfl) (zG (j:=24) (pol:=true) rfl rfl rfl (fun hg v K=>zi zJ (zl hg) ((((S.ext K).rd 1).at (xj Nd.z (zC (hi47 (by simpa using hg))))).get (Nd.get_l _))) (zG (j:=24) (pol:=true) rfl rfl rfl (fun hg v K=>zR (zl hg) (zl hg)) (zt (fun v K=>xc rfl (fun hp=>(zl (xn hp)))) (zt (fun v K=>zE rfl) (zG (j:=44) (pol:=true) rfl rfl rfl (fun hg v K=>zj rfl) (zG (j:=44) (pol:=true) rfl rfl rfl (fun hg v K=>zw (((zl hg):_=Value.pointer a_0).trans (congrArg Value.pointer hp43))) (zG (j:=44) (pol:=true) rfl rfl rfl (fun hg v K=>ze xo (zl hg) (o':=0) rfl) (zG (j:=44) (pol:=true) rfl rfl rfl (fun hg v K=>zi zW (zl hg) (((S.ext K).blkZ 0).cell (RTab.get_n _))) (zG (j:=44) (pol:=true) rfl rfl rfl (fun hg v K=>zf rfl) ?_))))))))))
  obtain ⟨hi48,H⟩ := kh H
  refine zG (j:=44) (pol:=true) rfl rfl rfl (fun hg v K=>zN zK (zl hg) (zl hg) ((S.ext K).rd 1) (zC (hi48 (by simpa using hg))).1 (zC (hi48 (by simpa using hg))).2) (zG (j:=44) (pol:=true) rfl rfl rfl (fun hg v K=>ze xP (zl hg) (o':=_) rfl) (zG (j:=44) (pol:=true) rfl rfl rfl (fun hg v K=>zi zJ (zl hg) ((((S.ext K).rd 1).at (xj Nd.z (zC (hi48 (by simpa using hg))))).get (Nd.get_r _))) (zG (j:=44) (pol:=true) rfl rfl rfl (fun hg v K=>zj rfl) (zG (j:=44) (pol:=true) rfl rfl rfl (fun hg v K=>zw (((zl hg):_=Value.pointer a_0).trans (congrArg Value.pointer hp43))) (zG (j:=44) (pol:=true) rfl rfl rfl (fun hg v K=>ze xo (zl hg) (o':=0) rfl) (zG (j:=44) (pol:=true) rfl rfl rfl (fun hg v K=>zi zW (zl hg) (((S.ext K).blkZ 0).cell (RTab.get_n _))) (zG (j:=44) (pol:=true) rfl rfl rfl (fun hg v K=>ze xP hv29_14 (o':=3) rfl) (zG (j:=44) (pol:=true) rfl rfl rfl (fun hg v K=>zi zJ (zl hg) (((S.ext K).blk 1).cell (Nd.get_r _))) ?_))))))))
  obtain ⟨hi49,H⟩ := kh H
  refine zG (j:=44) (pol:=true) rfl rfl rfl (fun hg v K=>zN zK (zl hg) (zl hg) ((S.ext K).rd 1) (zC (hi49 (by simpa using hg))).1 (zC (hi49 (by simpa using hg))).2) (zG (j:=44) (pol:=true) rfl rfl rfl (fun hg v K=>ze xP (zl hg) (o':=_) rfl) (zG (j:=44) (pol:=true) rfl rfl rfl (fun hg v K=>zi zJ (zl hg) ((((S.ext K).rd 1).at (xj Nd.z (zC (hi49 (by simpa using hg))))).get (Nd.get_r _))) ?_))
  refine yL fun w50 K=>?_
  replace S:=S.ext K
  clear K
  refine wg (fun hg=>zR (zl hg) (zl hg)) (wd (xc rfl (fun hp=>(zl (xn hp)))) (wd (zm rfl) ?_))
  replace S:=S.zs [2]
  refine zb (zx ?_)
  refine ⟨_,(zV (zg rfl)),?_⟩
  replace S:=S.arr [] []
  obtain rfl:=Option.some.inj H
  exact ⟨rfl,S⟩
 replace H:=if_f hc32 H
 refine zd (za (wd (zR rfl rfl) (wd (zm rfl) (zb ?_))))
 refine zH rfl (fun hc51=>?_) (fun hc51=>?_)
 ·replace H:=if_t hc51 H
  refine zd (za (wd (ze yl hv29_14 (o':=0) rfl) (wd (zi xO rfl ((S.blk 1).cell (Nd.get_kind _))) (wd (zR rfl rfl) (wd (zE rfl) ?_)))))
  refine wg (fun hg=>ze xX hv29_14 (o':=2) rfl) ?_
  refine wg (fun hg=>zi zJ (zl hg) ((S.blk 1).cell (Nd.get_l _))) ?_
  refine wg (fun hg=>zf rfl) ?_
  refine wg (fun hg=>zR (zl hg) (zl hg)) (wd (xc rfl (fun hp=>(zl (xn hp)))) (wd (zm rfl) (zb (zx ?_))))
  refine ⟨_,(zV (zg rfl)),?_⟩
  replace S:=S.arr [] []
  obtain rfl:=Option.some.inj H
  exact ⟨rfl,S⟩
 replace H:=if_f hc51 H
 refine zd (za (wd (zR rfl rfl) (wd (zm rfl) (zb ?_))))
 refine zH rfl (fun hc52=>?_) (fun hc52=>?_)
 ·replace H:=if_t hc52 H
  refine zd (za (wd (ze yl hv29_14 (o':=0) rfl) (wd (zi xO rfl ((S.blk 1).cell (Nd.get_kind _))) (wd (zR rfl rfl) (wd (zE rfl) ?_)))))
  refine wg (fun hg=>ze xP hv29_14 (o':=3) rfl) ?_
  refine wg (fun hg=>zi zJ (zl hg) ((S.blk 1).cell (Nd.get_r _))) ?_
  refine wg (fun hg=>zf rfl) ?_
  refine wg (fun hg=>zR (zl hg) (zl hg)) (wd (xc rfl (fun hp=>(zl (xn hp)))) (wd (zm rfl) (zb (zx ?_))))
  refine ⟨_,(zV (zg rfl)),?_⟩
  replace S:=S.arr [] []
  obtain rfl:=Option.some.inj H
  exact ⟨rfl,S⟩
 replace H:=if_f hc52 H
 refine zd (za (wd (zR rfl rfl) (wd (zm rfl) (zb ?_))))
 refine zH rfl (fun hc53=>?_) (fun hc53=>?_)
 ·replace H:=if_t hc53 H
  refine zd (za (wd (zE rfl) (wd (zE rfl) ?_)))
  refine wg (fun hg=>zj rfl) ?_
  obtain ⟨p54,s55,hp56,S⟩ := S.seeR 0 ht8
  replace S:=S
  refine wg (fun hg=>zw (((zl hg):_=Value.pointer a_0).trans (congrArg Value.pointer hp56))) ?_
  refine wg (fun hg=>ze xo (zl hg) (o':=0) rfl) ?_
  refine wg (fun hg=>zi zW (zl hg) ((S.blkZ 0).cell (RTab.get_n _))) ?_
  refine wg (fun hg=>zf rfl) ?_
  obtain ⟨hi57,H⟩ := kh H
  refine wg (fun hg=>zN zK (zl hg) (zl hg) (S.rd 1) (zC (hi57 (by simpa using hg))).1 (zC (hi57 (by simpa using hg))).2) ?_
  refine wg (fun hg=>ze yl (zl hg) (o':=_) rfl) ?_
  refine wg (fun hg=>zi xO (zl hg) (((S.rd 1).at (xj Nd.z (zC (hi57 (by simpa using hg))))).get (Nd.get_kind _))) ?_
  refine wg (fun hg=>zR (zl hg) rfl) (wd (xc rfl (fun hp=>(zl (xn hp)))) (wd (zE rfl) ?_))
  refine wg (fun hg=>zj rfl) ?_
  refine wg (fun hg=>zw (((zl hg):_=Value.pointer a_0).trans (congrArg Value.pointer hp56))) ?_
  refine wg (fun hg=>ze xo (zl hg) (o':=0) rfl) ?_
  refine wg (fun hg=>zi zW (zl hg) ((S.blkZ 0).cell (RTab.get_n _))) ?_
  refine wg (fun hg=>zf rfl) ?_
  obtain ⟨hi58,H⟩ := kh H
  refine wg (fun hg=>zN zK (zl hg) (zl hg) (S.rd 1) (zC (hi58 (by simpa using hg))).1 (zC (hi58 (by simpa using hg))).2) ?_
  refine wg (fun hg=>ze xX (zl hg) (o':=_) rfl) ?_
  refine wg (fun hg=>zi zJ (zl hg) (((S.rd 1).at (xj Nd.z (zC (hi58 (by simpa using hg))))).get (Nd.get_l _))) ?_
  refine wg (fun hg=>zf rfl) ?_
  refine wg (fun hg=>zR (zl hg) (zl hg)) (wd (xc rfl (fun hp=>(zl (xn hp)))) (wd (zE rfl) ?_))
  refine wg (fun hg=>zj rfl) ?_
  refine wg (fun hg=>zw (((zl hg):_=Value.pointer a_0).trans (congrArg Value.pointer hp56))) ?_
  refine wg (fun hg=>ze xo (zl hg) (o':=0) rfl) ?_
  refine wg (fun hg=>zi zW (zl hg) ((S.blkZ 0).cell (RTab.get_n _))) ?_
  refine wg (fun hg=>zf rfl) ?_
  obtain ⟨hi59,H⟩ := kh H
  refine wg (fun hg=>zN zK (zl hg) (zl hg) (S.rd 1) (zC (hi59 (by simpa using hg))).1 (zC (hi59 (by simpa using hg))).2) ?_
  refine wg (fun hg=>ze xP (zl hg) (o':=_) rfl) ?_
  refine wg (fun hg=>zi zJ (zl hg) (((S.rd 1).at (xj Nd.z (zC (hi59 (by simpa using hg))))).get (Nd.get_r _))) ?_
  refine wg (fun hg=>zf rfl) ?_
  refine wg (fun hg=>zR (zl hg) (zl hg)) (wd (xc rfl (fun hp=>(zl (xn hp)))) (wd (zm rfl) ?_))
  replace S:=S.zs [2]
  refine zb (zx ?_)
  refine ⟨_,(zV (zg rfl)),?_⟩
  replace S:=S.arr [] []
  obtain rfl:=Option.some.inj H
  exact ⟨rfl,S⟩
 replace H:=if_f hc53 H
 refine zd (za (wd (zR rfl rfl) (wd (zm rfl) (zb ?_))))
 refine zH rfl (fun hc60=>?_) (fun hc60=>?_)
 ·replace H:=if_t hc60 H
  refine zd (za (wd (ze yl hv29_15 (o':=0) rfl) (wd (zi xO rfl ((S.blk 0).cell (Nd.get_kind _))) (wd (zR rfl rfl) (wd (zE rfl) ?_)))))
  refine wg (fun hg=>ze xX hv29_15 (o':=2) rfl) ?_
  refine wg (fun hg=>zi zJ (zl hg) ((S.blk 0).cell (Nd.get_l _))) ?_
  refine wg (fun hg=>zf rfl) ?_
  refine wg (fun hg=>zR (zl hg) (zl hg)) (wd (xc rfl (fun hp=>(zl (xn hp)))) (wd (zm rfl) (zb (zx ?_))))
  refine ⟨_,(zV (zg rfl)),?_⟩
  replace S:=S.arr [] []
  obtain rfl:=Option.some.inj H
  exact ⟨rfl,S⟩
 replace H:=if_f hc60 H
 refine zd (za (wd (zR rfl rfl) (wd (zm rfl) (zb ?_))))
 refine zH rfl (fun hc61=>?_) (fun hc61=>?_)
 ·replace H:=if_t hc61 H
  refine zd (za (wd (ze yl hv29_15 (o':=0) rfl) (wd (zi xO rfl ((S.blk 0).cell (Nd.get_kind _))) (wd (zR rfl rfl) (wd (zE rfl) ?_)))))
  refine wg (fun hg=>ze xP hv29_15 (o':=3) rfl) ?_
  refine wg (fun hg=>zi zJ (zl hg) ((S.blk 0).cell (Nd.get_r _))) ?_
  refine wg (fun hg=>zf rfl) ?_
  refine wg (fun hg=>zR (zl hg) (zl hg)) (wd (xc rfl (fun hp=>(zl (xn hp)))) (wd (zm rfl) (zb (zx ?_))))
  refine ⟨_,(zV (zg rfl)),?_⟩
  replace S:=S.arr [] []
  obtain rfl:=Option.some.inj H
  exact ⟨rfl,S⟩
 replace H:=if_f hc61 H
 refine zd (za (wd (zR rfl rfl) (wd (zm rfl) (zb ?_))))
 refine zH rfl (fun hc62=>?_) (fun hc62=>?_)
 ·replace H:=if_t hc62 H
  refine zd (zd ?_)
  refine xL 42 (Ext w30) hmix (by kernel_rfl) (by kernel_rfl) (Ext.drawn _) (zt (fun v K=>zE rfl) (zt (fun v K=>xk rfl) (zt (fun v K=>zE rfl) (zG (j:=2) (pol:=false) rfl rfl rfl (fun hg v K=>ze yl hv29_14 (o':=0) rfl) (zG (j:=2) (pol:=false) rfl rfl rfl (fun hg v K=>zi xO (zl hg) (((S.ext K).blk 1).cell (Nd.get_kind _))) (zG (j:=2) (pol:=false) rfl rfl rfl (fun hg v K=>xh (zl hg) rfl) (zt (fun v K=>xw rfl (fun hp=>(zl (xn hp)))) (zt (fun v K=>zE rfl) (zG (j:=7) (pol:=false) rfl rfl rfl (fun hg v K=>zj rfl) ?_)))))))))
  obtain ⟨p63,s64,hp65,S⟩ := S.seeR 0 ht8
  replace S:=S
  refine zG (j:=7) (pol:=false) rfl rfl rfl (fun hg v K=>zw (((zl hg):_=Value.pointer a_0).trans (congrArg Value.pointer hp65))) (zG (j:=7) (pol:=false) rfl rfl rfl (fun hg v K=>ze xo (zl hg) (o':=0) rfl) (zG (j:=7) (pol:=false) rfl rfl rfl (fun hg v K=>zi zW (zl hg) (((S.ext K).blkZ 0).cell (RTab.get_n _))) (zG (j:=7) (pol:=false) rfl rfl rfl (fun hg v K=>zf rfl) ?_)))
  obtain ⟨hi66,H⟩ := kh H
  refine zG (j:=7) (pol:=false) rfl rfl rfl (fun hg v K=>zN zK (zl hg) (zl hg) ((S.ext K).rd 1) (zC (hi66 (by simpa using hg))).1 (zC (hi66 (by simpa using hg))).2) (zG (j:=7) (pol:=false) rfl rfl rfl (fun hg v K=>ze yl (zl hg) (o':=_) rfl) (zG (j:=7) (pol:=false) rfl rfl rfl (fun hg v K=>zi xO (zl hg) ((((S.ext K).rd 1).at (xj Nd.z (zC (hi66 (by simpa using hg))))).get (Nd.get_kind _))) (zG (j:=7) (pol:=false) rfl rfl rfl (fun hg v K=>xh (zl hg) rfl) (zt (fun v K=>xw rfl (fun hp=>(zl (xn hp)))) (zt (fun v K=>zE rfl) (zG (j:=18) (pol:=false) rfl rfl rfl (fun hg v K=>zj rfl) (zG (j:=18) (pol:=false) rfl rfl rfl (fun hg v K=>zw (((zl hg):_=Value.pointer a_0).trans (congrArg Value.pointer hp65))) (zG (j:=18) (pol:=false) rfl rfl rfl (fun hg v K=>ze xo (zl hg) (o':=0) rfl) (zG (j:=18) (pol:=false) rfl rfl rfl (fun hg v K=>zi zW (zl hg) (((S.ext K).blkZ 0).cell (RTab.get_n _))) (zG (j:=18) (pol:=false) rfl rfl rfl (fun hg v K=>zf rfl) ?_))))))))))
  obtain ⟨hi67,H⟩ := kh H
  refine zG (j:=18) (pol:=false) rfl rfl rfl (fun hg v K=>zN zK (zl hg) (zl hg) ((S.ext K).rd 1) (zC (hi67 (by simpa using hg))).1 (zC (hi67 (by simpa using hg))).2) (zG (j:=18) (pol:=false) rfl rfl rfl (fun hg v K=>ze yl (zl hg) (o':=_) rfl) (zG (j:=18) (pol:=false) rfl rfl rfl (fun hg v K=>zi xO (zl hg) ((((S.ext K).rd 1).at (xj Nd.z (zC (hi67 (by simpa using hg))))).get (Nd.get_kind _))) (zG (j:=18) (pol:=false) rfl rfl rfl (fun hg v K=>xh (zl hg) rfl) (zt (fun v K=>xw rfl (fun hp=>(zl (xn hp)))) (zt (fun v K=>zE rfl) (zG (j:=29) (pol:=false) rfl rfl rfl (fun hg v K=>zj rfl) (zG (j:=29) (pol:=false) rfl rfl rfl (fun hg v K=>zw (((zl hg):_=Value.pointer a_0).trans (congrArg Value.pointer hp65))) (zG (j:=29) (pol:=false) rfl rfl rfl (fun hg v K=>ze xo (zl hg) (o':=0) rfl) (zG (j:=29) (pol:=false) rfl rfl rfl (fun hg v K=>zi zW (zl hg) (((S.ext K).blkZ 0).cell (RTab.get_n _))) (zG (j:=29) (pol:=false) rfl rfl rfl (fun hg v K=>zj rfl) (zG (j:=29) (pol:=false) rfl rfl rfl (fun hg v K=>zw (((zl hg):_=Value.pointer a_0).trans (congrArg Value.pointer hp65))) (zG (j:=29) (pol:=false) rfl rfl rfl (fun hg v K=>ze xo (zl hg) (o':=0) rfl) (zG (j:=29) (pol:=false) rfl rfl rfl (fun hg v K=>zi zW (zl hg) (((S.ext K).blkZ 0).cell (RTab.get_n _))) (zG (j:=29) (pol:=false) rfl rfl rfl (fun hg v K=>zf rfl) ?_))))))))))))))
  obtain ⟨hi68,H⟩ := kh H
  refine zG (j:=29) (pol:=false) rfl rfl rfl (fun hg v K=>zN zK (zl hg) (zl hg) ((S.ext K).rd 1) (zC (hi68 (by simpa using hg))).1 (zC (hi68 (by simpa using hg))).2) (zG (j:=29) (pol:=false) rfl rfl rfl (fun hg v K=>ze xX (zl hg) (o':=_) rfl) (zG (j:=29) (pol:=false) rfl rfl rfl (fun hg v K=>zi zJ (zl hg) ((((S.ext K).rd 1).at (xj Nd.z (zC (hi68 (by simpa using hg))))).get (Nd.get_l _))) ?_))
  refine yL fun w69 K=>?_
  replace S:=S.ext K
  clear K
  obtain ⟨hi70,H⟩ := kh H
  refine wg (fun hg=>zN zK (zl hg) (zl hg) (S.rd 1) (zC (hi70 (by simpa using hg))).1 (zC (hi70 (by simpa using hg))).2) ?_
  refine wg (fun hg=>ze yl (zl hg) (o':=_) rfl) ?_
  refine wg (fun hg=>zi xO (zl hg) (((S.rd 1).at (xj Nd.z (zC (hi70 (by simpa using hg))))).get (Nd.get_kind _))) ?_
  refine wg (fun hg=>xh (zl hg) rfl) (wd (xw rfl (fun hp=>(zl (xn hp)))) ?_)
  replace S:=S.zs [2]
  refine zb ?_
  refine zH rfl (fun hc71=>?_) (fun hc71=>?_)
  ·replace H:=if_t hc71 H
   refine zd (za (wd (zm rfl) (zb (zx ?_))))
   refine ⟨_,(zV (zg rfl)),?_⟩
   replace S:=S.arr [] []
   obtain rfl:=Option.some.inj H
   exact ⟨rfl,S⟩
  replace H:=if_f hc71 H
  refine zB (zd ?_)
  obtain ⟨p72,s73,hp74,S⟩ := S.seeR 0 ht8
  replace S:=S
  obtain ⟨hi75,H⟩ := xi H
  obtain ⟨hi76,H⟩ := xi H
  refine zbk 15 [14]
   (fun i v u=>match i with
   | 14 => ∃ b,v=Value.pointer (some ⟨b,0,none⟩)∧Blk u b T_Nd (Nd.C Nd.z)∧w69.heap.size ≤ b
   | _=>True) hmix (by kernel_rfl) (by kernel_rfl) ?_ ?_
  ·intro i v u u' hi hx hv
   match i,hv with
   | 14,⟨b,e1,hb,hl⟩ => exact ⟨b,e1,hb.ext hx,hl⟩
   | 0,_=>exact trivial
   | 1,_=>exact trivial
   | 2,_=>exact trivial
   | 3,_=>exact trivial
   | 4,_=>exact trivial
   | 5,_=>exact trivial
   | 6,_=>exact trivial
   | 7,_=>exact trivial
   | 8,_=>exact trivial
   | 9,_=>exact trivial
   | 10,_=>exact trivial
   | 11,_=>exact trivial
   | 12,_=>exact trivial
   | 13,_=>exact trivial
   | _ + 15,_=>exact trivial
  refine zX (fun v K=>zj rfl) rfl (zX (fun v K=>zw (congrArg Value.pointer hp74)) rfl (zX (fun v K=>ze xo rfl (o':=0) rfl) rfl (zX (fun v K=>zi zW rfl (((S.ext K).blkZ 0).cell (RTab.get_n _))) rfl (zX (fun v K=>zj rfl) rfl (zX (fun v K=>zw (congrArg Value.pointer hp74)) rfl (zX (fun v K=>ze xo rfl (o':=0) rfl) rfl (zX (fun v K=>zi zW rfl (((S.ext K).blkZ 0).cell (RTab.get_n _))) rfl (zX (fun v K=>zf rfl) rfl (zX (fun v K=>zN zK rfl rfl ((S.ext K).rd 1) (zC hi75).1 (zC hi75).2) rfl (zX (fun v K=>ze xX rfl (o':=_) rfl) rfl (zX (fun v K=>zi zJ rfl ((((S.ext K).rd 1).at (xj Nd.z (zC hi75))).get (Nd.get_l _))) rfl (zX (fun v K=>zN zK rfl rfl ((S.ext K).rd 1) (zC hi76).1 (zC hi76).2) rfl (zX (fun v K=>zo xQ rfl (((S.ext K).rd 1).at (xj Nd.z (zC hi76))) (Nd.len _)) rfl ?_)))))))))))))
  refine wm_new (fun g v K G=>(have ⟨v',hd,hn⟩ := does_allocN ua; ⟨_,v',hd,hn.ext,_,rfl,hn.blk,K.size⟩)) rfl ?_
  refine uO fun g w78 K hV=>?_
  obtain ⟨b77,hv7914,hb14,hf14⟩ := hV 14 rfl (by decide)
  replace S:=S.newAt K hb14 hf14
  clear K hV
  refine zM xQ hv7914 rfl (S.blk 0) (Nd.len _) (by rw [Nd.len]; decide) (Nd.one _) (zZ (Nd.len _)) fun w80 B hw80 zw80=>?_
  replace S:=S.store 0 B hw80
  clear B
  replace S:=S.zs [2]
  refine zb (zd ?_)
  refine xL 42 (Ext w80) hmix (by kernel_rfl) (by kernel_rfl) (Ext.drawn _) (zt (fun v K=>ze xX hv7914 (o':=2) rfl) (zt (fun v K=>zi zJ rfl (((S.ext K).blk 0).cell (Nd.get_l _))) (zt (fun v K=>ze xX hv29_14 (o':=2) rfl) (zt (fun v K=>zi zJ rfl (((S.ext K).blk 2).cell (Nd.get_l _))) (zt (fun v K=>zR rfl rfl) (zt (fun v K=>zE rfl) (zG (j:=5) (pol:=true) rfl rfl rfl (fun hg v K=>ze xP hv7914 (o':=3) rfl) (zG (j:=5) (pol:=true) rfl rfl rfl (fun hg v K=>zi zJ (zl hg) (((S.ext K).blk 0).cell (Nd.get_r _))) (zG (j:=5) (pol:=true) rfl rfl rfl (fun hg v K=>zj rfl) ?_)))))))))
  obtain ⟨p81,s82,hp83,S⟩ := S.seeR 0 ht8
  replace S:=S
  refine zG (j:=5) (pol:=true) rfl rfl rfl (fun hg v K=>zw (((zl hg):_=Value.pointer a_0).trans (congrArg Value.pointer hp83))) (zG (j:=5) (pol:=true) rfl rfl rfl (fun hg v K=>ze xo (zl hg) (o':=0) rfl) (zG (j:=5) (pol:=true) rfl rfl rfl (fun hg v K=>zi zW (zl hg) (((S.ext K).blkZ 0).cell (RTab.get_n _))) (zG (j:=5) (pol:=true) rfl rfl rfl (fun hg v K=>zf rfl) ?_)))
  obtain ⟨hi84,H⟩ := kh H
  refine zG (j:=5) (pol:=true) rfl rfl rfl (fun hg v K=>zN zK (zl hg) (zl hg) ((S.ext K).rd 1) (zC (hi84 (by simpa using hg))).1 (zC (hi84 (by simpa using hg))).2) (zG (j:=5) (pol:=true) rfl rfl rfl (fun hg v K=>ze xX (zl hg) (o':=_) rfl) (zG (j:=5) (pol:=true) rfl rfl rfl (fun hg v K=>zi zJ (zl hg) ((((S.ext K).rd 1).at (xj Nd.z (zC (hi84 (by simpa using hg))))).get (Nd.get_l _))) (zG (j:=5) (pol:=true) rfl rfl rfl (fun hg v K=>zR (zl hg) (zl hg)) (zt (fun v K=>xc rfl (fun hp=>(zl (xn hp)))) (zt (fun v K=>zE rfl) (zG (j:=18) (pol:=true) rfl rfl rfl (fun hg v K=>zj rfl) (zG (j:=18) (pol:=true) rfl rfl rfl (fun hg v K=>zw (((zl hg):_=Value.pointer a_0).trans (congrArg Value.pointer hp83))) (zG (j:=18) (pol:=true) rfl rfl rfl (fun hg v K=>ze xo (zl hg) (o':=0) rfl) (zG (j:=18) (pol:=true) rfl rfl rfl (fun hg v K=>zi zW (zl hg) (((S.ext K).blkZ 0).cell (RTab.get_n _))) (zG (j:=18) (pol:=true) rfl rfl rfl (fun hg v K=>zf rfl) ?_))))))))))
  obtain ⟨hi85,H⟩ := kh H
  refine zG (j:=18) (pol:=true) rfl rfl rfl (fun hg v K=>zN zK (zl hg) (zl hg) ((S.ext K).rd 1) (zC (hi85 (by simpa using hg))).1 (zC (hi85 (by simpa using hg))).2) (zG (j:=18) (pol:=true) rfl rfl rfl (fun hg v K=>ze xP (zl hg) (o':=_) rfl) (zG (j:=18) (pol:=true) rfl rfl rfl (fun hg v K=>zi zJ (zl hg) ((((S.ext K).rd 1).at (xj Nd.z (zC (hi85 (by simpa using hg))))).get (Nd.get_r _))) (zG (j:=18) (pol:=true) rfl rfl rfl (fun hg v K=>ze xP hv29_14 (o':=3) rfl) (zG (j:=18) (pol:=true) rfl rfl rfl (fun hg v K=>zi zJ (zl hg) (((S.ext K).blk 2).cell (Nd.get_r _))) (zG (j:=18) (pol:=true) rfl rfl rfl (fun hg v K=>zR (zl hg) (zl hg)) (zt (fun v K=>xc rfl (fun hp=>(zl (xn hp)))) (zt (fun v K=>zE rfl) (zG (j:=31) (pol:=true) rfl rfl rfl (fun hg v K=>zj rfl) (zG (j:=31) (pol:=true) rfl rfl rfl (fun hg v K=>zw (((zl hg):_=Value.pointer a_0).trans (congrArg Value.pointer hp83))) (zG (j:=31) (pol:=true) rfl rfl rfl (fun hg v K=>ze xo (zl hg) (o':=0) rfl) (zG (j:=31) (pol:=true) rfl rfl rfl (fun hg v K=>zi zW (zl hg) (((S.ext K).blkZ 0).cell (RTab.get_n _))) (zG (j:=31) (pol:=true) rfl rfl rfl (fun hg v K=>zf rfl) ?_))))))))))))
  obtain ⟨hi86,H⟩ := kh H
  refine zG (j:=31) (pol:=true) rfl rfl rfl (fun hg v K=>zN zK (zl hg) (zl hg) ((S.ext K).rd 1) (zC (hi86 (by simpa using hg))).1 (zC (hi86 (by simpa using hg))).2) (zG (j:=31) (pol:=true) rfl rfl rfl (fun hg v K=>ze xP (zl hg) (o':=_) rfl) (zG (j:=31) (pol:=true) rfl rfl rfl (fun hg v K=>zi zJ (zl hg) ((((S.ext K).rd 1).at (xj Nd.z (zC (hi86 (by simpa using hg))))).get (Nd.get_r _))) (zG (j:=31) (pol:=true) rfl rfl rfl (fun hg v K=>ze xP hv29_14 (o':=3) rfl) (zG (j:=31) (pol:=true) rfl rfl rfl (fun hg v K=>zi zJ (zl hg) (((S.ext K).blk 2).cell (Nd.get_r _))) ?_))))
  refine yL fun w87 K=>?_
  replace S:=S.ext K
  clear K
  refine wg (fun hg=>zR (zl hg) (zl hg)) (wd (xc rfl (fun hp=>(zl (xn hp)))) (wd (zm rfl) ?_))
  replace S:=S.zs [2]
  refine zb (zx ?_)
  refine ⟨_,(zV (zg rfl)),?_⟩
  replace S:=S.arr [] []
  obtain rfl:=Option.some.inj H
  exact ⟨rfl,S⟩
 replace H:=if_f hc62 H
 refine zd (za (wd (zR rfl rfl) (wd (zm rfl) (zb ?_))))
 refine zH rfl (fun hc88=>?_) (fun hc88=>?_)
 ·replace H:=if_t hc88 H
  refine zd (za (wd (ze yl hv29_14 (o':=0) rfl) (wd (zi xO rfl ((S.blk 1).cell (Nd.get_kind _))) (wd (zR rfl rfl) (wd (zm rfl) (zb (zx ?_)))))))
  refine ⟨_,(zV (zg rfl)),?_⟩
  replace S:=S.arr [] []
  obtain rfl:=Option.some.inj H
  exact ⟨rfl,S⟩
 replace H:=if_f hc88 H
 refine zB (zd (za (wd (zm rfl) (zb (zx ?_)))))
 refine ⟨_,(zV (zg rfl)),?_⟩
 replace S:=S.arr [] []
 obtain rfl:=Option.some.inj H
 exact ⟨rfl,S⟩
end Go.Proofs.YtflieamjacclnaaGreatDoor
end
section
namespace Go.Proofs.YtflieamjacclnaaGreatDoor
open Gw Go.RowKit
set_option maxHeartbeats 4000000
set_option maxRecDepth 20000
theorem ref16_right_st {A:Nat→Prop} {N:Oth} {w:World} {a0:Tb} {a_0:Option Addr} {a1:List Int} {s_1:SlV} {a2:List Ln} {s_2:SlV} {a3:Int} (S:St A N w w [] [oR a_0 a0,fS 1 IC s_1 a1,fS 4 Ln.C s_2 a2]) {r:Bool} (H:ref16_right.f a0 a1 a2 a3=some r) :
  Calls PP F_ref16_right #[.pointer a_0,s_1.v,s_2.v,.int .i64 a3] w fun e w' => ∃ v,e = .returned v∧(v = .bool r∧St A N w w' [] []):=by
 unfold ref16_right.f at H
 refine zA (n:=100) fn_ref16_right rfl rfl (by simp) (zd (za (wd (zm rfl) (zb (zd (za (wd (zz rfl) ?_)))))))
 refine wd (zf rfl) ?_
 obtain ⟨hi1,H⟩ := xi H
 refine wd (zN zU rfl rfl (S.rd 2) (zC hi1).1 (zC hi1).2) (wd (zo j0 rfl ((S.rd 2).at (xj Ln.z (zC hi1))) (Ln.len _)) ?_)
 refine xe ze_Ln (by decide) fun b3 w2 hw2=>?_
 replace S:=S.new hw2
 refine zM j0 rfl rfl (S.blk 0) (Ln.len _) (by rw [Ln.len]; decide) (Ln.one _) (zZ (Ln.len _)) fun w4 B hw4 zw4=>?_
 replace S:=S.store 0 B hw4
 clear B
 refine zb (zd (zd (za (wd (ze vn rfl (o':=0) rfl) (wd (zi x6 rfl ((S.blk 0).cell (Ln.get_kind _))) (wd (zR rfl rfl) (zb ?_)))))))
 refine zH rfl (fun hc5=>?_) (fun hc5=>?_)
 ·replace H:=if_t hc5 H
  refine zd (zd (za (wd (ze jn rfl (o':=2) rfl) (wd (zi zJ rfl ((S.blk 0).cell (Ln.get_a _))) (wd (xM rfl rfl) (wd (zE rfl) ?_))))))
  refine wg (fun hg=>ze jn rfl (o':=2) rfl) ?_
  refine wg (fun hg=>zi zJ (zl hg) ((S.blk 0).cell (Ln.get_a _))) ?_
  refine wg (fun hg=>zf rfl) ?_
  refine wg (fun hg=>vq (zl hg) (zl hg)) (wd (xw rfl (fun hp=>(zl (xn hp)))) (wd (zE rfl) ?_))
  refine wg (fun hg=>ze uj rfl (o':=3) rfl) ?_
  refine wg (fun hg=>zi zJ (zl hg) ((S.blk 0).cell (Ln.get_b _))) ?_
  refine wg (fun hg=>xM (zl hg) rfl) (wd (xw rfl (fun hp=>(zl (xn hp)))) (wd (zE rfl) ?_))
  refine wg (fun hg=>ze uj rfl (o':=3) rfl) ?_
  refine wg (fun hg=>zi zJ (zl hg) ((S.blk 0).cell (Ln.get_b _))) ?_
  refine wg (fun hg=>zf rfl) ?_
  refine wg (fun hg=>vq (zl hg) (zl hg)) (wd (xw rfl (fun hp=>(zl (xn hp)))) (zb ?_))
  refine zH rfl (fun hc6=>?_) (fun hc6=>?_)
  ·replace H:=if_t hc6 H
   refine zd (za (wd (zm rfl) (zb (zx ?_))))
   refine ⟨_,(zV (zg rfl)),?_⟩
   replace S:=S.arr [] []
   obtain rfl:=Option.some.inj H
   exact ⟨rfl,S⟩
  replace H:=if_f hc6 H
  refine zB (zd (za (wd (zj rfl) (wd (zz rfl) (wd (ze jn rfl (o':=2) rfl) (wd (zi zJ rfl ((S.blk 0).cell (Ln.get_a _))) ?_))))))
  obtain ⟨hi7,H⟩ := xi H
  refine wd (zN zU rfl rfl (S.rd 2) (zC hi7).1 (zC hi7).2) (wd (ze xG rfl (o':=_) rfl) (wd (zi zJ rfl (((S.rd 2).at (xj Ln.z (zC hi7))).get (Ln.get_form _))) ?_))
  obtain ⟨r8,er8,H⟩ := zq H
  obtain ⟨B10,MB10,SB10,back⟩ := S.calln 0 ((.z 0 rfl .nil))
  refine zu (zp ca_ref16_imp) (by decide) (ref16_imp_st SB10 er8) ?_
  rintro _ w9 ⟨rfl,S2⟩
  replace S:=back _ _ _ _ S2 rfl
  clear back S2 SB10
  refine wd (z1 rfl) (wd (zr rfl rfl) (wd (zr rfl rfl) (wd (zr rfl rfl) (wd (zh rfl) (wd (zh rfl) ?_)))))
  refine wd (zm rfl) (zb (zd (za (wd (zE rfl) (wd (zE rfl) ?_)))))
  refine wg (fun hg=>zf rfl) ?_
  refine wg (fun hg=>zz rfl) ?_
  refine wg (fun hg=>ze uj rfl (o':=3) rfl) ?_
  refine wg (fun hg=>zi zJ (zl hg) ((S.blk 0).cell (Ln.get_b _))) ?_
  obtain ⟨hi11,H⟩ := kh H
  refine wg (fun hg=>zN zU (zl hg) (zl hg) (S.rd 2) (zC (hi11 (by simpa using hg))).1 (zC (hi11 (by simpa using hg))).2) ?_
  refine wg (fun hg=>ze xG (zl hg) (o':=_) rfl) ?_
  refine wg (fun hg=>zi zJ (zl hg) (((S.rd 2).at (xj Ln.z (zC (hi11 (by simpa using hg))))).get (Ln.get_form _))) ?_
  refine wg (fun hg=>zR (zl hg) (zl hg)) (wd (xc rfl (fun hp=>(zl (xn hp)))) (wd (zE rfl) ?_))
  refine wg (fun hg=>zf rfl) ?_
  refine wg (fun hg=>ze xG rfl (o':=1) rfl) ?_
  refine wg (fun hg=>zi zJ (zl hg) ((S.blk 0).cell (Ln.get_form _))) ?_
  refine wg (fun hg=>zR (zl hg) (zl hg)) (wd (xc rfl (fun hp=>(zl (xn hp)))) (wd (zm rfl) (zb (zx ?_))))
  refine ⟨_,(zV (zg rfl)),?_⟩
  replace S:=S.arr [] []
  obtain rfl:=Option.some.inj H
  exact ⟨rfl,S⟩
 replace H:=if_f hc5 H
 refine zB (zd (zd (za (wd (ze jn rfl (o':=2) rfl) (wd (zi zJ rfl ((S.blk 0).cell (Ln.get_a _))) (wd (xh rfl rfl) (wd (zE rfl) ?_)))))))
 refine wg (fun hg=>ze uj rfl (o':=3) rfl) ?_
 refine wg (fun hg=>zi zJ (zl hg) ((S.blk 0).cell (Ln.get_b _))) ?_
 refine wg (fun hg=>xh (zl hg) rfl) (wd (xw rfl (fun hp=>(zl (xn hp)))) (zb ?_))
 refine zH rfl (fun hc12=>?_) (fun hc12=>?_)
 ·replace H:=if_t hc12 H
  refine zd (za (wd (zm rfl) (zb (zx ?_))))
  refine ⟨_,(zV (zg rfl)),?_⟩
  replace S:=S.arr [] []
  obtain rfl:=Option.some.inj H
  exact ⟨rfl,S⟩
 replace H:=if_f hc12 H
 refine zB (zd (zd (za (wd (ze vn rfl (o':=0) rfl) (wd (zi x6 rfl ((S.blk 0).cell (Ln.get_kind _))) (wd (xh rfl rfl) (zb ?_)))))))
 refine zH rfl (fun hc13=>?_) (fun hc13=>?_)
 ·replace H:=if_t hc13 H
  refine zd (za (wd (zj rfl) (wd (ze vn rfl (o':=0) rfl) (wd (zi x6 rfl ((S.blk 0).cell (Ln.get_kind _))) (wd (ze xG rfl (o':=1) rfl) (wd (zi zJ rfl ((S.blk 0).cell (Ln.get_form _))) ?_))))))
  obtain ⟨r14,er14,H⟩ := zq H
  obtain ⟨B16,MB16,SB16,back⟩ := S.calln 0 ((.z 0 rfl .nil))
  refine zu (zp ca_ref16_Is) (by decide) (ref16_Is_st SB16 er14) ?_
  rintro _ w15 ⟨rfl,S2⟩
  replace S:=back _ _ _ _ S2 rfl
  clear back S2 SB16
  refine wd (zm rfl) (zb (zx ?_))
  refine ⟨_,(zV (zg rfl)),?_⟩
  replace S:=S.arr [] []
  obtain rfl:=Option.some.inj H
  exact ⟨rfl,S⟩
 replace H:=if_f hc13 H
 refine zB (zd (zd (za (wd (zh rfl) (zb ?_)))))
 obtain ⟨o17,e17,Ho17⟩ := zq H
 clear H
 refine xY [8,13,87,88,89,90,91,92,93,94,95,96,97,98,99] (fun fr W => ∃ s17:Unit,o17 = .inl s17∧St A N w W [oB b3 T_Ln (Ln.C (at_ Ln.z a2 a3))] [oR a_0 a0,fS 1 IC s_1 a1,fS 4 Ln.C s_2 a2]) ?_ ?_
 ·refine zQ ?_
  refine xW (α:=Nat × Int × Unit) [8,13,87,88,89,90,91,92,93,94,95,96,97,98,99] (fun x fr W=>(x.1:Int)=(a1.length:Int) - x.2.1∧0 ≤ x.2.1∧forN (fun i s=>ref16_right.b0 a1 a2 a3 i) x.1 x.2.1 x.2.2=some o17∧fr 13 = .int .i64 x.2.1∧St A N w W [oB b3 T_Ln (Ln.C (at_ Ln.z a2 a3))] [oR a_0 a0,fS 1 IC s_1 a1,fS 4 Ln.C s_2 a2]) (fun x=>x.1) (((a1.length:Int) - 0).toNat,0,()) ⟨(by dsimp only; have hle:=Int.natCast_nonneg (a1.length); omega),(Int.le_refl _),(by dsimp only; exact e17),rfl,S⟩ ?_
  rintro ⟨m17,i17,_⟩ g17 u17 ⟨hm17,hl17,e17,q17_i,S⟩
  try dsimp only at hm17
  try dsimp only at hl17
  try dsimp only at e17
  try dsimp only at S
  try dsimp only at q17_i
  refine zd (zd (za (wd (zf q17_i) (wd (zz rfl) (wd (xa xx rfl (S.rd 1)) (wd (xM rfl rfl) (zb ?_)))))))
  refine zH rfl (fun hc18=>?_) (fun hc18=>?_)
  rotate_left
  ·refine yn ?_
   have hge:(a1.length:Int) ≤ i17:=Int.not_lt.1 (of_decide_eq_false hc18)
   obtain rfl:m17=0:=by omega
   replace e17:=jy e17
   exact ⟨rfl,(((((Dif.self _ _ _).upd rfl _).upd rfl _).upd rfl _).upd rfl _),(),e17,S⟩
  refine zB ?_
  have hlt17:i17 < (a1.length:Int):=of_decide_eq_true hc18
  obtain ⟨m17,rfl⟩ : ∃ m,m17=m + 1:=⟨m17 - 1,by omega⟩
  obtain ⟨q17,H,e17⟩ := jC e17
  unfold ref16_right.b0 at H
  try dsimp only at H
  have hb17:=(S.len 1)
  refine zd ?_
  refine zQ (zd ?_)
  refine xL 6 (Ext u17) hmix (by kernel_rfl) (by kernel_rfl) (Ext.drawn _) (zt (fun v K=>zz rfl) (zt (fun v K=>zf q17_i) (zt (fun v K=>zN xx rfl rfl ((S.ext K).rd 1) (And.intro (show 0 ≤ i17 by omega) (show i17 < (a1.length:Int) from hlt17)).1 (And.intro (show 0 ≤ i17 by omega) (show i17 < (a1.length:Int) from hlt17)).2) (zt (fun v K=>zi zJ rfl (((S.ext K).rd 1).one (xj (0:Int) (And.intro (show 0 ≤ i17 by omega) (show i17 < (a1.length:Int) from hlt17))) rfl)) (zt (fun v K=>ze xG rfl (o':=1) rfl) ?_)))))
  refine zt (fun v K=>zi zJ rfl (((S.ext K).blk 0).cell (Ln.get_form _))) ?_
  refine yL fun w20 K=>?_
  replace S:=S.ext K
  clear K
  refine wd (zR rfl rfl) (zb ?_)
  refine zH rfl (fun hc21=>?_) (fun hc21=>?_)
  ·replace H:=if_t hc21 H
   refine zd (za (wd (zm rfl) (zb (zx ?_))))
   refine ⟨_,(zV (zg rfl)),?_⟩
   replace S:=S.arr [] []
   obtain rfl:=Option.some.inj H
   obtain rfl:=e17
   obtain rfl:=uG Ho17
   exact ⟨rfl,S⟩
  replace H:=if_f hc21 H
  refine zB (za (wd (zf q17_i) (wd (xI rfl rfl (c:=i17 + 1) rfl (by omega) (by omega)) (wd (zh rfl) (zb ?_)))))
  obtain rfl:=Option.some.inj H
  exact ⟨rfl,(by repeat first | exact Dif.refl _ _ | exact Dif.self _ _ _ | refine Dif.upd ?_ rfl _ | refine Dif.mask ?_ rfl _),(m17,i17 + 1,()),⟨(by dsimp only; omega),(by dsimp only; omega),e17,rfl,S⟩,by dsimp only; omega⟩
 rintro g22 u23 ⟨s17,rfl,S⟩
 have H:=Ho17
 dsimp only [aft] at H
 refine zd (za (wd (zm rfl) (zb (zx ?_))))
 refine ⟨_,(zV (zg rfl)),?_⟩
 replace S:=S.arr [] []
 obtain rfl:=Option.some.inj H
 exact ⟨rfl,S⟩
theorem ref16_Check_st {A:Nat→Prop} {N:Oth} {w:World} {a0:Tb} {a_0:Option Addr} {a1:List Int} {s_1:SlV} {a2:List Ln} {s_2:SlV} (S:St A N w w [] [oR a_0 a0,fS 1 IC s_1 a1,fS 4 Ln.C s_2 a2]) {r:Int} (H:ref16_Check.f a0 a1 a2=some r) :
  Calls PP F_ref16_Check #[.pointer a_0,s_1.v,s_2.v] w fun e w' => ∃ v,e = .returned v∧(v = .int .i64 r∧St A N w w' [] []):=by
 unfold ref16_Check.f at H
 refine zA (n:=52) fn_ref16_Check rfl rfl (by simp) (zd (za (wd (zh rfl) (zb (zd (zd (za (wd (zh rfl) (zb ?_)))))))))
 obtain ⟨o1,e1,Ho1⟩ := zq H
 clear H
 refine xY [6,7,10,11,12,13,14,15,16,17,18,19,20,21,22] (fun fr W => ∃ s1:Unit,o1 = .inl s1∧St A N w W [] [oR a_0 a0,fS 1 IC s_1 a1,fS 4 Ln.C s_2 a2]) ?_ ?_
 ·refine zQ ?_
  refine xW (α:=Nat × Int × Unit) [6,7,10,11,12,13,14,15,16,17,18,19,20,21,22] (fun x fr W=>(x.1:Int)=(a1.length:Int) - x.2.1∧0 ≤ x.2.1∧forN (fun i s=>ref16_Check.b0 a0 a1 i) x.1 x.2.1 x.2.2=some o1∧fr 7 = .int .i64 x.2.1∧St A N w W [] [oR a_0 a0,fS 1 IC s_1 a1,fS 4 Ln.C s_2 a2]) (fun x=>x.1) (((a1.length:Int) - 0).toNat,0,()) ⟨(by dsimp only; have hle:=Int.natCast_nonneg (a1.length); omega),(Int.le_refl _),(by dsimp only; exact e1),rfl,S⟩ ?_
  rintro ⟨m1,i1,_⟩ g1 u1 ⟨hm1,hl1,e1,q1_i,S⟩
  try dsimp only at hm1
  try dsimp only at hl1
  try dsimp only at e1
  try dsimp only at S
  try dsimp only at q1_i
  refine zd (zd (za (wd (zf q1_i) (wd (zz rfl) (wd (xa xx rfl (S.rd 1)) (wd (xM rfl rfl) (zb ?_)))))))
  refine zH rfl (fun hc2=>?_) (fun hc2=>?_)
  rotate_left
  ·refine yn ?_
   have hge:(a1.length:Int) ≤ i1:=Int.not_lt.1 (of_decide_eq_false hc2)
   obtain rfl:m1=0:=by omega
   replace e1:=jy e1
   exact ⟨rfl,(((((Dif.self _ _ _).upd rfl _).upd rfl _).upd rfl _).upd rfl _),(),e1,S⟩
  refine zB ?_
  have hlt1:i1 < (a1.length:Int):=of_decide_eq_true hc2
  obtain ⟨m1,rfl⟩ : ∃ m,m1=m + 1:=⟨m1 - 1,by omega⟩
  obtain ⟨q1,H,e1⟩ := jC e1
  unfold ref16_Check.b0 at H
  try dsimp only at H
  have hb1:=(S.len 1)
  refine zd ?_
  refine zQ (zd (za (wd (zj rfl) (wd (zz rfl) (wd (zf q1_i) (wd (zN xx rfl rfl (S.rd 1) (And.intro (show 0 ≤ i1 by omega) (show i1 < (a1.length:Int) from hlt1)).1 (And.intro (show 0 ≤ i1 by omega) (show i1 < (a1.length:Int) from hlt1)).2) ?_))))))
  refine wd (zi zJ rfl ((S.rd 1).one (xj (0:Int) (And.intro (show 0 ≤ i1 by omega) (show i1 < (a1.length:Int) from hlt1))) rfl)) ?_
  obtain ⟨r4,er4,H⟩ := zq H
  obtain ⟨B6,MB6,SB6,back⟩ := S.calln 0 ((.z 0 rfl .nil))
  refine zu (zp jd) (by decide) (jg SB6 er4) ?_
  rintro _ w5 ⟨rfl,S2⟩
  replace S:=back _ _ _ _ S2 rfl
  clear back S2 SB6
  refine wd (xk rfl) (zb ?_)
  refine zH rfl (fun hc7=>?_) (fun hc7=>?_)
  ·replace H:=if_t hc7 H
   refine zd (za (wd (zh rfl) (zb (zx ?_))))
   refine ⟨_,(zV (zg rfl)),?_⟩
   replace S:=S.arr [] []
   obtain rfl:=Option.some.inj H
   obtain rfl:=e1
   obtain rfl:=uG Ho1
   exact ⟨rfl,S⟩
  replace H:=if_f hc7 H
  refine zB (za (wd (zf q1_i) (wd (xI rfl rfl (c:=i1 + 1) rfl (by omega) (by omega)) (wd (zh rfl) (zb ?_)))))
  obtain rfl:=Option.some.inj H
  exact ⟨rfl,(by repeat first | exact Dif.refl _ _ | exact Dif.self _ _ _ | refine Dif.upd ?_ rfl _ | refine Dif.mask ?_ rfl _),(m1,i1 + 1,()),⟨(by dsimp only; omega),(by dsimp only; omega),e1,rfl,S⟩,by dsimp only; omega⟩
 rintro g8 u9 ⟨s1,rfl,S⟩
 have H:=Ho1
 dsimp only [aft] at H
 refine zd (zd (za (wd (zh rfl) (zb ?_))))
 obtain ⟨o10,e10,Ho10⟩ := zq H
 clear H
 refine xY [6,8,23,24,25,26,27,28,29,30,31,32,33,34,35,36] (fun fr W => ∃ s10:Unit,o10 = .inl s10∧St A N w W [] [oR a_0 a0,fS 1 IC s_1 a1,fS 4 Ln.C s_2 a2]) ?_ ?_
 ·refine zQ ?_
  refine xW (α:=Nat × Int × Unit) [6,8,23,24,25,26,27,28,29,30,31,32,33,34,35,36] (fun x fr W=>(x.1:Int)=(a2.length:Int) - x.2.1∧0 ≤ x.2.1∧forN (fun i s=>ref16_Check.b1 a0 a2 i) x.1 x.2.1 x.2.2=some o10∧fr 8 = .int .i64 x.2.1∧St A N w W [] [oR a_0 a0,fS 1 IC s_1 a1,fS 4 Ln.C s_2 a2]) (fun x=>x.1) (((a2.length:Int) - 0).toNat,0,()) ⟨(by dsimp only; have hle:=Int.natCast_nonneg (a2.length); omega),(Int.le_refl _),(by dsimp only; exact e10),rfl,S⟩ ?_
  rintro ⟨m10,i10,_⟩ g10 u10 ⟨hm10,hl10,e10,q10_i,S⟩
  try dsimp only at hm10
  try dsimp only at hl10
  try dsimp only at e10
  try dsimp only at S
  try dsimp only at q10_i
  refine zd (zd (za (wd (zf q10_i) (wd (zz rfl) (wd (xa zU rfl (S.rd 2)) (wd (xM rfl rfl) (zb ?_)))))))
  refine zH rfl (fun hc11=>?_) (fun hc11=>?_)
  rotate_left
  ·refine yn ?_
   have hge:(a2.length:Int) ≤ i10:=Int.not_lt.1 (of_decide_eq_false hc11)
   obtain rfl:m10=0:=by omega
   replace e10:=jy e10
   exact ⟨rfl,(((((Dif.self _ _ _).upd rfl _).upd rfl _).upd rfl _).upd rfl _),(),e10,S⟩
  refine zB ?_
  have hlt10:i10 < (a2.length:Int):=of_decide_eq_true hc11
  obtain ⟨m10,rfl⟩ : ∃ m,m10=m + 1:=⟨m10 - 1,by omega⟩
  obtain ⟨q10,H,e10⟩ := jC e10
  unfold ref16_Check.b1 at H
  try dsimp only at H
  have hb10:=(S.len 2)
  refine zd ?_
  refine zQ (zd (za (wd (zj rfl) (wd (zz rfl) (wd (zf q10_i) (wd (zN zU rfl rfl (S.rd 2) (And.intro (show 0 ≤ i10 by omega) (show i10 < (a2.length:Int) from hlt10)).1 (And.intro (show 0 ≤ i10 by omega) (show i10 < (a2.length:Int) from hlt10)).2) ?_))))))
  refine wd (ze xG rfl (o':=_) rfl) (wd (zi zJ rfl (((S.rd 2).at (xj Ln.z (And.intro (show 0 ≤ i10 by omega) (show i10 < (a2.length:Int) from hlt10)))).get (Ln.get_form _))) ?_)
  obtain ⟨r13,er13,H⟩ := zq H
  obtain ⟨B15,MB15,SB15,back⟩ := S.calln 0 ((.z 0 rfl .nil))
  refine zu (zp jd) (by decide) (jg SB15 er13) ?_
  rintro _ w14 ⟨rfl,S2⟩
  replace S:=back _ _ _ _ S2 rfl
  clear back S2 SB15
  refine wd (xk rfl) (zb ?_)
  refine zH rfl (fun hc16=>?_) (fun hc16=>?_)
  ·replace H:=if_t hc16 H
   refine zd (za (wd (zh rfl) (zb (zx ?_))))
   refine ⟨_,(zV (zg rfl)),?_⟩
   replace S:=S.arr [] []
   obtain rfl:=Option.some.inj H
   obtain rfl:=e10
   obtain rfl:=uG Ho10
   exact ⟨rfl,S⟩
  replace H:=if_f hc16 H
  refine zB (za (wd (zf q10_i) (wd (xI rfl rfl (c:=i10 + 1) rfl (by omega) (by omega)) (wd (zh rfl) (zb ?_)))))
  obtain rfl:=Option.some.inj H
  exact ⟨rfl,(by repeat first | exact Dif.refl _ _ | exact Dif.self _ _ _ | refine Dif.upd ?_ rfl _ | refine Dif.mask ?_ rfl _),(m10,i10 + 1,()),⟨(by dsimp only; omega),(by dsimp only; omega),e10,rfl,S⟩,by dsimp only; omega⟩
 rintro g17 u18 ⟨s10,rfl,S⟩
 have H:=Ho10
 dsimp only [aft] at H
 refine zd (zd (za (wd (zh rfl) (zb ?_))))
 obtain ⟨o19,e19,Ho19⟩ := zq H
 clear H
 refine xY [6,9,37,38,39,40,41,42,43,44,45,46,47,48] (fun fr W => ∃ s19:Unit,o19 = .inl s19∧St A N w W [] [oR a_0 a0,fS 1 IC s_1 a1,fS 4 Ln.C s_2 a2]) ?_ ?_
 ·refine zQ ?_
  refine xW (α:=Nat × Int × Unit) [6,9,37,38,39,40,41,42,43,44,45,46,47,48] (fun x fr W=>(x.1:Int)=(a2.length:Int) - x.2.1∧0 ≤ x.2.1∧forN (fun i s=>ref16_Check.b2 a0 a1 a2 i) x.1 x.2.1 x.2.2=some o19∧fr 9 = .int .i64 x.2.1∧St A N w W [] [oR a_0 a0,fS 1 IC s_1 a1,fS 4 Ln.C s_2 a2]) (fun x=>x.1) (((a2.length:Int) - 0).toNat,0,()) ⟨(by dsimp only; have hle:=Int.natCast_nonneg (a2.length); omega),(Int.le_refl _),(by dsimp only; exact e19),rfl,S⟩ ?_
  rintro ⟨m19,i19,_⟩ g19 u19 ⟨hm19,hl19,e19,q19_i,S⟩
  try dsimp only at hm19
  try dsimp only at hl19
  try dsimp only at e19
  try dsimp only at S
  try dsimp only at q19_i
  refine zd (zd (za (wd (zf q19_i) (wd (zz rfl) (wd (xa zU rfl (S.rd 2)) (wd (xM rfl rfl) (zb ?_)))))))
  refine zH rfl (fun hc20=>?_) (fun hc20=>?_)
  rotate_left
  ·refine yn ?_
   have hge:(a2.length:Int) ≤ i19:=Int.not_lt.1 (of_decide_eq_false hc20)
   obtain rfl:m19=0:=by omega
   replace e19:=jy e19
   exact ⟨rfl,(((((Dif.self _ _ _).upd rfl _).upd rfl _).upd rfl _).upd rfl _),(),e19,S⟩
  refine zB ?_
  have hlt19:i19 < (a2.length:Int):=of_decide_eq_true hc20
  obtain ⟨m19,rfl⟩ : ∃ m,m19=m + 1:=⟨m19 - 1,by omega⟩
  obtain ⟨q19,H,e19⟩ := jC e19
  unfold ref16_Check.b2 at H
  try dsimp only at H
  have hb19:=(S.len 2)
  refine zd ?_
  refine zQ (zd (za (wd (zj rfl) (wd (zz rfl) (wd (zz rfl) (wd (zf q19_i) ?_))))))
  obtain ⟨r21,er21,H⟩ := zq H
  obtain ⟨B23,MB23,SB23,back⟩ := S.calln 0 ((.z 0 rfl (.z 1 rfl (.z 2 rfl .nil))))
  refine zu (zp ca_ref16_right) (by decide) (ref16_right_st SB23 er21) ?_
  rintro _ w22 ⟨rfl,S2⟩
  replace S:=back _ _ _ _ S2 rfl
  clear back S2 SB23
  refine wd (xk rfl) (zb ?_)
  refine zH rfl (fun hc24=>?_) (fun hc24=>?_)
  ·replace H:=if_t hc24 H
   refine zd (za (wd (zh rfl) (zb (zx ?_))))
   refine ⟨_,(zV (zg rfl)),?_⟩
   replace S:=S.arr [] []
   obtain rfl:=Option.some.inj H
   obtain rfl:=e19
   obtain rfl:=uG Ho19
   exact ⟨rfl,S⟩
  replace H:=if_f hc24 H
  refine zB (za (wd (zf q19_i) (wd (xI rfl rfl (c:=i19 + 1) rfl (by omega) (by omega)) (wd (zh rfl) (zb ?_)))))
  obtain rfl:=Option.some.inj H
  exact ⟨rfl,(by repeat first | exact Dif.refl _ _ | exact Dif.self _ _ _ | refine Dif.upd ?_ rfl _ | refine Dif.mask ?_ rfl _),(m19,i19 + 1,()),⟨(by dsimp only; omega),(by dsimp only; omega),e19,rfl,S⟩,by dsimp only; omega⟩
 rintro g25 u26 ⟨s19,rfl,S⟩
 have H:=Ho19
 dsimp only [aft] at H
 refine zd (zd (za (wd (zz rfl) (wd (xa zU rfl (S.rd 2)) (wd (zR rfl rfl) (zb ?_))))))
 refine zH rfl (fun hc27=>?_) (fun hc27=>?_)
 ·replace H:=if_t hc27 H
  refine zd (za (wd (zh rfl) (zb (zx ?_))))
  refine ⟨_,(zV (zg rfl)),?_⟩
  replace S:=S.arr [] []
  obtain rfl:=Option.some.inj H
  exact ⟨rfl,S⟩
 replace H:=if_f hc27 H
 refine zB (zd (za (wd (zh rfl) (zb (zx ?_)))))
 refine ⟨_,(zV (zg rfl)),?_⟩
 replace S:=S.arr [] []
 obtain rfl:=Option.some.inj H
 exact ⟨rfl,S⟩
end Go.Proofs.YtflieamjacclnaaGreatDoor
end
section
namespace Go.Proofs.YtflieamjacclnaaGreatDoor
open Gw Go.RowKit
set_option maxHeartbeats 4000000
set_option maxRecDepth 20000
theorem ref03_T_Two_st {A:Nat→Prop} {N:Oth} {w:World} {a0:Tb} {a_0:Option Addr} {a1:Int} {a2:Int} {a3:Int} (S:St A N w w [oR a_0 a0] []) {r:Tb × Int × Int} (H:ref03_T_Two.f a0 a1 a2 a3=some r) :
  Calls PP F_ref03_T_Two #[.pointer a_0,.int .i64 a1,.int .i64 a2,.int .i64 a3] w fun e w' => ∃ v,e = .returned v∧(v = .tuple #[.int .i64 r.2.1,.int .i64 r.2.2]∧St A N w w' [oR a_0 r.1] []):=by
 unfold ref03_T_Two.f at H
 refine zA (n:=18) fn_ref03_T_Two rfl rfl (by simp) (zd (za (wd (zh rfl) (wd (zh rfl) (zb (zd (za ?_)))))))
 refine wd (zj rfl) (wd (zf rfl) (wd (zf rfl) (wd (zf rfl) (wd (yj bu_Nd (Bld.one rfl rfl (by rw [Nd.len]; decide) (Nd.set_kind _ _) (Bld.one rfl rfl (by rw [Nd.len]; decide) (Nd.set_l _ _) (Bld.one rfl rfl (by rw [Nd.len]; decide) (Nd.set_r _ _) Bld.nil)))) ?_))))
 obtain ⟨r1,er1,H⟩ := zq H
 obtain ⟨B3,MB3,SB3,back⟩ := S.calln 1 ((.nil))
 refine zu (zp ca_ref03_T_Put) (by decide) (ref03_T_Put_st SB3 er1) ?_
 rintro _ w2 ⟨rfl,S2⟩
 replace S:=back _ _ _ _ S2 rfl
 clear back S2 SB3
 refine wd (zr rfl rfl) (wd (zr rfl rfl) (wd (zh rfl) (wd (zh rfl) (zb (zx ?_)))))
 refine ⟨_,(xp (zg rfl) (zg rfl)),?_⟩
 obtain rfl:=Option.some.inj H
 exact ⟨rfl,S⟩
theorem ref16_maker_two_st {A:Nat→Prop} {N:Oth} {w:World} {a0:PRMaker} {a_0:Option Addr} {g_0_1:Option Addr} {a1:Int} {a2:Int} {a3:Int} (S:St A N w w [oRK a_0 g_0_1 a0] []) {r:PRMaker × Int} (H:ref16_maker_two.f a0 a1 a2 a3=some r) :
  Calls PP zbn #[.pointer a_0,.int .i64 a1,.int .i64 a2,.int .i64 a3] w fun e w' => ∃ v,e = .returned v∧(v = .int .i64 r.2∧St A N w w' [oRK a_0 g_0_1 r.1] []):=by
 unfold ref16_maker_two.f at H
 refine zA (n:=32) fn_ref16_maker_two rfl rfl (by simp) (zd (za (wd (zh rfl) (zb (zd (zd (za (wd (zj rfl) ?_))))))))
 obtain ⟨p1,s3,hp2,S⟩ := S.open_oRK 0
 replace S:=S
 refine wd (zw (congrArg Value.pointer hp2)) (wd (ze vE rfl (o':=2) rfl) (wd (zi zJ rfl ((S.blk 0).cell (RMaker.get_bad _))) (wd (xh rfl rfl) ?_)))
 replace S:=((S.front 2).front 2).front 2
 replace S:=S.shut_oRK hp2
 refine zb ?_
 refine zH rfl (fun hc4=>?_) (fun hc4=>?_)
 ·replace H:=if_t hc4 H
  refine zd (za (wd (zh rfl) (zb (zx ?_))))
  refine ⟨_,(zV (zg rfl)),?_⟩
  obtain rfl:=Option.some.inj H
  exact ⟨rfl,S⟩
 replace H:=if_f hc4 H
 refine zB (zd (za (wd (zj rfl) ?_)))
 obtain ⟨p5,s7,hp6,S⟩ := S.open_oRK 0
 replace S:=S
 refine wd (zw (congrArg Value.pointer hp6)) (wd (ze fl_RMaker_t rfl (o':=0) rfl) (wd (zi on_Two rfl ((S.blk 0).cell (RMaker.get_t _))) (wd (zf rfl) (wd (zf rfl) (wd (zf rfl) ?_)))))
 obtain ⟨r8,er8,H⟩ := zq H
 replace S:=S.front 1
 obtain ⟨B10,MB10,SB10,back⟩ := S.calln 1 ((.nil))
 refine zu (zp ca_ref03_T_Two) (by decide) (ref03_T_Two_st SB10 er8) ?_
 rintro _ w9 ⟨rfl,S2⟩
 replace S:=back _ _ _ _ S2 rfl
 clear back S2 SB10
 refine wd (z1 rfl) (wd (zr rfl rfl) (wd (zr rfl rfl) (wd (zh rfl) (wd (zh rfl) ?_))))
 replace S:=((S.front 2).front 1).front 2
 replace S:=S.shut_oRK hp6
 refine zb (zd (za (wd (zj rfl) (wd (zf rfl) ?_))))
 obtain ⟨p11,s13,hp12,S⟩ := S.open_oRK 0
 replace S:=S
 refine wd (zw (congrArg Value.pointer hp12)) (wd (ze vE rfl (o':=2) rfl) ?_)
 refine yD zJ rfl rfl (S.blk 0) (by rw [RMaker.len]; decide) rfl (RMaker.set_bad _ _) fun w14 B hw14 zw14=>?_
 replace S:=S.store 0 B hw14
 clear B
 replace S:=((S.front 2).front 2).front 2
 replace S:=S.shut_oRK hp12
 refine zb (zd (za (wd (zf rfl) (wd (zh rfl) (zb (zx ?_))))))
 refine ⟨_,(zV (zg rfl)),?_⟩
 obtain rfl:=Option.some.inj H
 exact ⟨rfl,S⟩
theorem yf {A:Nat→Prop} {N:Oth} {w:World} {a0:PRMaker} {a_0:Option Addr} {g_0_1:Option Addr} {a1:Int} {a2:Int} (S:St A N w w [oRK a_0 g_0_1 a0] []) {r:PRMaker × Int} (H:ref16_maker_imp.f a0 a1 a2=some r) :
  Calls PP zbx #[.pointer a_0,.int .i64 a1,.int .i64 a2] w fun e w' => ∃ v,e = .returned v∧(v = .int .i64 r.2∧St A N w w' [oRK a_0 g_0_1 r.1] []):=by
 unfold ref16_maker_imp.f at H
 refine zA (n:=11) fn_ref16_maker_imp rfl rfl (by simp) (zd (za (wd (zh rfl) (zb (zd (za (wd (zj rfl) ?_)))))))
 refine wd (zf rfl) (wd (zf rfl) ?_)
 obtain ⟨r1,er1,H⟩ := zq H
 obtain ⟨B3,MB3,SB3,back⟩ := S.calln 1 ((.nil))
 refine zu (zp ca_ref16_maker_two) (by decide) (ref16_maker_two_st SB3 er1) ?_
 rintro _ w2 ⟨rfl,S2⟩
 replace S:=back _ _ _ _ S2 rfl
 clear back S2 SB3
 refine wd (zh rfl) (zb (zx ?_))
 refine ⟨_,(zV (zg rfl)),?_⟩
 obtain rfl:=Option.some.inj H
 exact ⟨rfl,S⟩
theorem uF {A:Nat→Prop} {N:Oth} {w:World} {a0:PRMaker} {a_0:Option Addr} {g_0_1:Option Addr} {a1:Int} {a2:Int} {a3:Int} {a4:Int} (S:St A N w w [oRK a_0 g_0_1 a0] []) {r:PRMaker × Int} (H:ref16_maker_put.f a0 a1 a2 a3 a4=some r) :
  Calls PP zbq #[.pointer a_0,.int .i64 a1,.int .i64 a2,.int .i64 a3,.int .i64 a4] w fun e w' => ∃ v,e = .returned v∧(v = .int .i64 r.2∧St A N w w' [oRK a_0 g_0_1 r.1] []):=by
 unfold ref16_maker_put.f at H
 refine zA (n:=52) fn_ref16_maker_put rfl rfl (by simp) (zd (za (wd (zh rfl) (zb (zd (zd (za (wd (zj rfl) ?_))))))))
 obtain ⟨p1,s3,hp2,S⟩ := S.open_oRK 0
 replace S:=S
 refine wd (zw (congrArg Value.pointer hp2)) (wd (ze vE rfl (o':=2) rfl) (wd (zi zJ rfl ((S.blk 0).cell (RMaker.get_bad _))) (wd (zR rfl rfl) (wd (zE rfl) ?_))))
 refine wg (fun hg=>zj rfl) ?_
 refine wg (fun hg=>zw (((zl hg):_=Value.pointer a_0).trans (congrArg Value.pointer hp2))) ?_
 refine wg (fun hg=>ze jX (zl hg) (o':=1) rfl) ?_
 refine wg (fun hg=>zi xN (zl hg) ((S.blk 0).cell (RMaker.get_l _))) ?_
 refine wg (fun hg=>xa zU (zl hg) (S.rdO 2)) ?_
 refine wg (fun hg=>vq (zl hg) rfl) (wd (xc rfl (fun hp=>(zl (xn hp)))) ?_)
 replace S:=((S.front 2).front 2).front 2
 replace S:=S.shut_oRK hp2
 refine zb ?_
 obtain ⟨o4,e4,Ho4⟩ := zq H
 replace H:=e4; clear e4
 refine xY [24,25,26] (fun fr W=>St A N w W [oRK a_0 g_0_1 o4] []) ?_ ?_
 ·refine zH rfl (fun hc5=>?_) (fun hc5=>?_)
  ·replace H:=if_t hc5 H
   refine za (wd (zj rfl) ?_)
   obtain ⟨p6,s8,hp7,S⟩ := S.open_oRK 0
   replace S:=S
   refine wd (zw (congrArg Value.pointer hp7)) (wd (ze vE rfl (o':=2) rfl) ?_)
   refine yD zJ rfl rfl (S.blk 0) (by rw [RMaker.len]; decide) rfl (RMaker.set_bad _ _) fun w9 B hw9 zw9=>?_
   replace S:=S.store 0 B hw9
   clear B
   replace S:=((S.front 2).front 2).front 2
   replace S:=S.shut_oRK hp7
   refine zb ?_
   obtain rfl:=Option.some.inj H
   exact ⟨rfl,((((Dif.refl _ _).upd rfl _).upd rfl _).upd rfl _),S⟩
  ·replace H:=if_f hc5 H
   refine zB ?_
   obtain rfl:=Option.some.inj H
   exact ⟨rfl,(Dif.refl _ _),S⟩
 rintro g10 u11 S
 have H:=Ho4
 refine zd (zd (za (wd (zj rfl) ?_)))
 obtain ⟨p12,s14,hp13,S⟩ := S.open_oRK 0
 replace S:=S
 refine wd (zw (congrArg Value.pointer hp13)) (wd (ze vE rfl (o':=2) rfl) (wd (zi zJ rfl ((S.blk 0).cell (RMaker.get_bad _))) (wd (xh rfl rfl) ?_)))
 replace S:=((S.front 2).front 2).front 2
 replace S:=S.shut_oRK hp13
 refine zb ?_
 refine zH rfl (fun hc15=>?_) (fun hc15=>?_)
 ·replace H:=if_t hc15 H
  refine zd (za (wd (zh rfl) (zb (zx ?_))))
  refine ⟨_,(zV (zg rfl)),?_⟩
  obtain rfl:=Option.some.inj H
  exact ⟨rfl,S⟩
 replace H:=if_f hc15 H
 refine zB (zd (za (wd (zj rfl) (wd (zj rfl) ?_))))
 obtain ⟨p16,s18,hp17,S⟩ := S.open_oRK 0
 replace S:=S
 refine wd (zw (congrArg Value.pointer hp17)) (wd (ze jX rfl (o':=1) rfl) (wd (zi xN rfl ((S.blk 0).cell (RMaker.get_l _))) (wd (zf rfl) (wd (zf rfl) (wd (zf rfl) ?_)))))
 refine wd (zf rfl) (wd (yj bu_Ln (Bld.one rfl rfl (by rw [Ln.len]; decide) (Ln.set_kind _ _) (Bld.one rfl rfl (by rw [Ln.len]; decide) (Ln.set_form _ _) (Bld.one rfl rfl (by rw [Ln.len]; decide) (Ln.set_a _ _) (Bld.one rfl rfl (by rw [Ln.len]; decide) (Ln.set_b _ _) Bld.nil))))) ?_)
 refine xK (C:=Ln.C) (l:=[(⟨a1,a2,a3,a4⟩ : Ln)]) (vs:=[.agg (Ln.C (⟨a1,a2,a3,a4⟩ : Ln)).toArray]) zU el_Ln.zero rfl rfl (fun a _=>Ln.len a) (by decide) rfl (by decide) fun b20 w19 s21 hBw19 hw19=>?_
 replace S:=S.lit hBw19 hw19 (by simp)
 obtain ⟨ha24,H⟩ := xi H
 have ha24:=of_decide_eq_true ha24
 refine wl_appends (C:=Ln.C) zU el_Ln rfl rfl (S.sl 3) (S.rdO 0) (by simp) (fun a _=>Ln.one a) ha24 (by omega) (by decide) fun s23 w22 O hw22 gw22=>?_
 replace S:=S.push 3 O (by first | (simp; done) | (simp; omega)) hw22 gw22
 clear O
 refine wd (zw (congrArg Value.pointer hp17)) (wd (ze jX rfl (o':=1) rfl) ?_)
 refine yD xN rfl rfl (S.blk 2) (by rw [RMaker.len]; decide) (SlV.one _ _ rfl) (RMaker.set_l _ _) fun w25 B hw25 zw25=>?_
 replace S:=S.store 2 B hw25
 clear B
 replace S:=((S.front 1).front 3).front 2
 replace S:=S.shut_oRK hp17
 refine zb (zd (za (wd (zj rfl) ?_)))
 obtain ⟨p26,s28,hp27,S⟩ := S.open_oRK 0
 replace S:=S
 refine wd (zw (congrArg Value.pointer hp27)) (wd (ze jX rfl (o':=1) rfl) (wd (zi xN rfl ((S.blk 0).cell (RMaker.get_l _))) (wd (xa zU rfl (S.rdO 2)) (wd (jH rfl rfl) (wd (zh rfl) ?_)))))
 replace S:=((S.front 2).front 2).front 2
 replace S:=S.shut_oRK hp27
 refine zb (zx ?_)
 refine ⟨_,(zV (zg rfl)),?_⟩
 replace S:=S.arr [0] []
 obtain rfl:=Option.some.inj H
 exact ⟨rfl,S⟩
theorem vU {A:Nat→Prop} {N:Oth} {w:World} {a0:PRMaker} {a_0:Option Addr} {g_0_1:Option Addr} {a1:Int} {a2:Int} (S:St A N w w [oRK a_0 g_0_1 a0] []) {r:PRMaker × Int} (H:ref16_maker_mp.f a0 a1 a2=some r) :
  Calls PP zbT #[.pointer a_0,.int .i64 a1,.int .i64 a2] w fun e w' => ∃ v,e = .returned v∧(v = .int .i64 r.2∧St A N w w' [oRK a_0 g_0_1 r.1] []):=by
 unfold ref16_maker_mp.f at H
 refine zA (n:=34) fn_ref16_maker_mp rfl rfl (by simp) (zd (za (wd (zh rfl) (zb (zd (zd (za (wd (zj rfl) ?_))))))))
 obtain ⟨p1,s3,hp2,S⟩ := S.open_oRK 0
 replace S:=S
 refine wd (zw (congrArg Value.pointer hp2)) (wd (ze vE rfl (o':=2) rfl) (wd (zi zJ rfl ((S.blk 0).cell (RMaker.get_bad _))) (wd (xh rfl rfl) ?_)))
 replace S:=((S.front 2).front 2).front 2
 replace S:=S.shut_oRK hp2
 refine zb ?_
 refine zH rfl (fun hc4=>?_) (fun hc4=>?_)
 ·replace H:=if_t hc4 H
  refine zd (za (wd (zh rfl) (zb (zx ?_))))
  refine ⟨_,(zV (zg rfl)),?_⟩
  obtain rfl:=Option.some.inj H
  exact ⟨rfl,S⟩
 replace H:=if_f hc4 H
 refine zB (zd ?_)
 obtain ⟨p5,s7,hp6,S⟩ := S.open_oRK 0
 replace S:=S
 refine xL 21 (Ext w) hmix (by kernel_rfl) (by kernel_rfl) (Ext.drawn _) (zt (fun v K=>zj rfl) (zt (fun v K=>zj rfl) (zt (fun v K=>zw (congrArg Value.pointer hp6)) (zt (fun v K=>ze fl_RMaker_t rfl (o':=0) rfl) (zt (fun v K=>zi on_Two rfl (((S.ext K).blk 0).cell (RMaker.get_t _))) ?_)))))
 obtain ⟨ht8,H⟩ := xi H
 obtain ⟨p9,s10,hp11,S⟩ := S.openR 1 ht8
 replace S:=S
 refine zt (fun v K=>zw (congrArg Value.pointer hp11)) (zt (fun v K=>ze xo rfl (o':=0) rfl) (zt (fun v K=>zi zW rfl (((S.ext K).blk 0).cell (RTab.get_n _))) (zt (fun v K=>zj rfl) (zt (fun v K=>zw (congrArg Value.pointer hp6)) (zt (fun v K=>ze jX rfl (o':=1) rfl) ?_)))))
 refine zt (fun v K=>zi xN rfl (((S.ext K).blk 2).cell (RMaker.get_l _))) (zt (fun v K=>zf rfl) ?_)
 obtain ⟨hi12,H⟩ := xi H
 refine zt (fun v K=>zN zU rfl rfl ((S.ext K).rdO 3) (zC hi12).1 (zC hi12).2) (zt (fun v K=>ze xG rfl (o':=_) rfl) (zt (fun v K=>zi zJ rfl ((((S.ext K).rdO 3).at (xj Ln.z (zC hi12))).get (Ln.get_form _))) ?_))
 obtain ⟨hi13,H⟩ := xi H
 refine zt (fun v K=>zN zK rfl rfl ((S.ext K).rdO 1) (zC hi13).1 (zC hi13).2) (zt (fun v K=>ze xP rfl (o':=_) rfl) (zt (fun v K=>zi zJ rfl ((((S.ext K).rdO 1).at (xj Nd.z (zC hi13))).get (Nd.get_r _))) (zt (fun v K=>zf rfl) (zt (fun v K=>zf rfl) ?_))))
 refine yL fun w14 K=>?_
 replace S:=S.ext K
 clear K
 replace S:=((S.front 1).front 1).shutR hp11
 replace S:=((S.front 2).front 1).front 2
 replace S:=S.shut_oRK hp6
 obtain ⟨r15,er15,H⟩ := zq H
 obtain ⟨B17,MB17,SB17,back⟩ := S.calln 1 ((.nil))
 refine zu (zp uu) (by decide) (uF SB17 er15) ?_
 rintro _ w16 ⟨rfl,S2⟩
 replace S:=back _ _ _ _ S2 rfl
 clear back S2 SB17
 refine wd (zh rfl) (zb (zx ?_))
 refine ⟨_,(zV (zg rfl)),?_⟩
 obtain rfl:=Option.some.inj H
 exact ⟨rfl,S⟩
theorem zbQ {A:Nat→Prop} {N:Oth} {w:World} {a0:PRMaker} {a_0:Option Addr} {g_0_1:Option Addr} {a1:Int} {a2:Int} {a3:Int} (S:St A N w w [oRK a_0 g_0_1 a0] []) {r:PRMaker × Int} (H:ref16_maker_s.f a0 a1 a2 a3=some r) :
  Calls PP F_ref16_maker_s #[.pointer a_0,.int .i64 a1,.int .i64 a2,.int .i64 a3] w fun e w' => ∃ v,e = .returned v∧(v = .int .i64 r.2∧St A N w w' [oRK a_0 g_0_1 r.1] []):=by
 unfold ref16_maker_s.f at H
 refine zA (n:=36) fn_ref16_maker_s rfl rfl (by simp) (zd (za (wd (zh rfl) (zb (zd (za (wd (zj rfl) ?_)))))))
 refine wd (zf rfl) (wd (zj rfl) (wd (zf rfl) (wd (zf rfl) ?_)))
 obtain ⟨r1,er1,H⟩ := zq H
 obtain ⟨B3,MB3,SB3,back⟩ := S.calln 1 ((.nil))
 refine zu (zp ye) (by decide) (yf SB3 er1) ?_
 rintro _ w2 ⟨rfl,S2⟩
 replace S:=back _ _ _ _ S2 rfl
 clear back S2 SB3
 obtain ⟨r4,er4,H⟩ := zq H
 obtain ⟨B6,MB6,SB6,back⟩ := S.calln 1 ((.nil))
 refine zu (zp ye) (by decide) (yf SB6 er4) ?_
 rintro _ w5 ⟨rfl,S2⟩
 replace S:=back _ _ _ _ S2 rfl
 clear back S2 SB6
 refine wd (zh rfl) (zb (zd (za (wd (zj rfl) (wd (zf rfl) (wd (zf rfl) ?_))))))
 obtain ⟨r7,er7,H⟩ := zq H
 obtain ⟨B9,MB9,SB9,back⟩ := S.calln 1 ((.nil))
 refine zu (zp ye) (by decide) (yf SB9 er7) ?_
 rintro _ w8 ⟨rfl,S2⟩
 replace S:=back _ _ _ _ S2 rfl
 clear back S2 SB9
 refine wd (zh rfl) (zb (zd (za (wd (zj rfl) (wd (zf rfl) (wd (zf rfl) ?_))))))
 obtain ⟨r10,er10,H⟩ := zq H
 obtain ⟨B12,MB12,SB12,back⟩ := S.calln 1 ((.nil))
 refine zu (zp ye) (by decide) (yf SB12 er10) ?_
 rintro _ w11 ⟨rfl,S2⟩
 replace S:=back _ _ _ _ S2 rfl
 clear back S2 SB12
 refine wd (zh rfl) (zb (zd (za (wd (zj rfl) (wd (zj rfl) (wd (zf rfl) ?_))))))
 refine wd (zj rfl) (wd (zf rfl) (wd (zf rfl) ?_))
 obtain ⟨r13,er13,H⟩ := zq H
 obtain ⟨B15,MB15,SB15,back⟩ := S.calln 1 ((.nil))
 refine zu (zp ye) (by decide) (yf SB15 er13) ?_
 rintro _ w14 ⟨rfl,S2⟩
 replace S:=back _ _ _ _ S2 rfl
 clear back S2 SB15
 obtain ⟨r16,er16,H⟩ := zq H
 obtain ⟨B18,MB18,SB18,back⟩ := S.calln 1 ((.nil))
 refine zu (zp ye) (by decide) (yf SB18 er16) ?_
 rintro _ w17 ⟨rfl,S2⟩
 replace S:=back _ _ _ _ S2 rfl
 clear back S2 SB18
 obtain ⟨r19,er19,H⟩ := zq H
 obtain ⟨B21,MB21,SB21,back⟩ := S.calln 1 ((.nil))
 refine zu (zp uu) (by decide) (uF SB21 er19) ?_
 rintro _ w20 ⟨rfl,S2⟩
 replace S:=back _ _ _ _ S2 rfl
 clear back S2 SB21
 refine wd (zh rfl) (zb (zx ?_))
 refine ⟨_,(zV (zg rfl)),?_⟩
 obtain rfl:=Option.some.inj H
 exact ⟨rfl,S⟩
theorem kM {A:Nat→Prop} {N:Oth} {w:World} {a0:PRMaker} {a_0:Option Addr} {g_0_1:Option Addr} {a1:Int} {a2:Int} (S:St A N w w [oRK a_0 g_0_1 a0] []) {r:PRMaker × Int} (H:ref16_maker_k.f a0 a1 a2=some r) :
  Calls PP F_ref16_maker_k #[.pointer a_0,.int .i64 a1,.int .i64 a2] w fun e w' => ∃ v,e = .returned v∧(v = .int .i64 r.2∧St A N w w' [oRK a_0 g_0_1 r.1] []):=by
 unfold ref16_maker_k.f at H
 refine zA (n:=16) fn_ref16_maker_k rfl rfl (by simp) (zd (za (wd (zh rfl) (zb (zd (za (wd (zj rfl) ?_)))))))
 refine wd (zj rfl) (wd (zf rfl) (wd (zj rfl) (wd (zf rfl) (wd (zf rfl) ?_))))
 obtain ⟨r1,er1,H⟩ := zq H
 obtain ⟨B3,MB3,SB3,back⟩ := S.calln 1 ((.nil))
 refine zu (zp ye) (by decide) (yf SB3 er1) ?_
 rintro _ w2 ⟨rfl,S2⟩
 replace S:=back _ _ _ _ S2 rfl
 clear back S2 SB3
 obtain ⟨r4,er4,H⟩ := zq H
 obtain ⟨B6,MB6,SB6,back⟩ := S.calln 1 ((.nil))
 refine zu (zp ye) (by decide) (yf SB6 er4) ?_
 rintro _ w5 ⟨rfl,S2⟩
 replace S:=back _ _ _ _ S2 rfl
 clear back S2 SB6
 obtain ⟨r7,er7,H⟩ := zq H
 obtain ⟨B9,MB9,SB9,back⟩ := S.calln 1 ((.nil))
 refine zu (zp uu) (by decide) (uF SB9 er7) ?_
 rintro _ w8 ⟨rfl,S2⟩
 replace S:=back _ _ _ _ S2 rfl
 clear back S2 SB9
 refine wd (zh rfl) (zb (zx ?_))
 refine ⟨_,(zV (zg rfl)),?_⟩
 obtain rfl:=Option.some.inj H
 exact ⟨rfl,S⟩
theorem ref16_deduce_st {A:Nat→Prop} {N:Oth} {w:World} {a0:Tb} {a_0:Option Addr} {a1:List Ln} {s_1:SlV} {a2:Int} (S:St A N w w [oR a_0 a0] [fS 4 Ln.C s_1 a1]) {k:Nat} {r:Tb × List Ln × Int} (H:ref16_deduce.f k a0 a1 a2=some r) :
  Calls PP F_ref16_deduce #[.pointer a_0,s_1.v,.int .i64 a2] w fun e w' => ∃ v,e = .returned v∧(∃ so0:SlV,v = .tuple #[so0.v,.int .i64 r.2.2]∧St A N w w' [oR a_0 r.1,oS T_Ln 4 Ln.C so0 r.2.1] []):=by
 unfold ref16_deduce.f at H
 refine zA (n:=138) fn_ref16_deduce rfl rfl (by simp) (zd (za (wd (xm) (wd (zh rfl) (zb (zd (za ?_)))))))
 refine wd (zj rfl) (wd (Does.to (v' := .agg (RMaker.C (⟨a_0,SlV.nil,0⟩ : RMaker)).toArray) (xJ (vs:=[(0,.pointer a_0)]) bu_RMaker (yw rfl rfl) (Bld.one rfl rfl (by rw [RMaker.len]; decide) (RMaker.set_t _ _) Bld.nil)) rfl) ?_)
 refine z7 rfl (by decide) fun b2 w1 hw1=>?_
 replace S:=((S.new hw1).nil T_Ln 4 Ln.C).front 2
 replace S:=(S.front 2).shut_oRK rfl
 refine wd (xg rfl) (zb (zd (za (wd (zz rfl) (wd (xa zU rfl (S.rd 0)) ?_)))))
 obtain ⟨hm6,H⟩ := xi H
 have hm6:=of_decide_eq_true hm6
 refine wl_make1 (C:=IC) (z:=(0:Int)) xx zar zv_int rfl rfl rfl rfl hm6.1 (by omega) hm6.2 (by decide) fun b4 w3 s5 hBw3 hw3=>?_
 replace S:=S.lit hBw3 hw3 (by rw [List.length_replicate]; omega)
 refine wd (xD rfl) (zb (zd (zd (za (wd (zh rfl) (zb ?_))))))
 obtain ⟨o7,e7,Ho7⟩ := zq H
 clear H
 refine xY [10,11,12,13,14,15,16,17,18,19,26,27,28,29,30,31,32,33,34,35,36,37,38,39,40,41,42,43,44,45,46,47,48,49,50,51,52,53,54,55,56,57,58,59,60,61,62,63,64,65,66,67,68,69,70,71,72,73,74,75,76,77,78,79,80,81,82,83,84,85,86,87,88,89,90,91,92,93,94,95,96,97,98,99,100,101,102,103,104,105,106,107,108,109,110,111,112,113,114,115,116,117,118,119,120,121,122,123,124,125,126,127,128,129] (fun fr W => ∃ s7:Int × List Int × PRMaker,o7 = .inl s7∧fr 10 = .int .i64 s7.1∧St A N w W [oS xS 1 IC s5 s7.2.1,oRK (some ⟨b2,0,none⟩) a_0 s7.2.2] [fS 4 Ln.C s_1 a1]) ?_ ?_
 ·refine zQ ?_
  refine xW (α:=Nat × (Int × List Int × PRMaker)) [10,11,12,13,14,15,16,17,18,19,26,27,28,29,30,31,32,33,34,35,36,37,38,39,40,41,42,43,44,45,46,47,48,49,50,51,52,53,54,55,56,57,58,59,60,61,62,63,64,65,66,67,68,69,70,71,72,73,74,75,76,77,78,79,80,81,82,83,84,85,86,87,88,89,90,91,92,93,94,95,96,97,98,99,100,101,102,103,104,105,106,107,108,109,110,111,112,113,114,115,116,117,118,119,120,121,122,123,124,125,126,127,128,129] (fun x fr W=>iter (fun s=>ref16_deduce.b0 a1 a2 s.1 s.2.1 s.2.2) x.1 x.2=some o7∧fr 10 = .int .i64 (x.2.1)∧St A N w W [oS xS 1 IC s5 (x.2.2.1),oRK (some ⟨b2,0,none⟩) a_0 (x.2.2.2)] [fS 4 Ln.C s_1 a1]) (fun x=>x.1) (k,(0,List.replicate ((a1.length:Int)).toNat (0:Int),(⟨a0,([]:List Ln),0⟩ : PRMaker))) ⟨(by dsimp only; exact e7),rfl,S⟩ ?_
  rintro ⟨m7,⟨x7_0,x7_1,x7_2⟩⟩ g7 u7 ⟨e7,q7_10,S⟩
  try dsimp only at e7
  try dsimp only at S
  try dsimp only at q7_10
  obtain ⟨m7,rfl⟩ : ∃ m,m7=m + 1:=⟨m7 - 1,by cases m7 with | zero=>cases e7 | succ m=>rfl⟩
  obtain ⟨q7,H,e7⟩ := iter_s e7
  unfold ref16_deduce.b0 at H
  try dsimp only at H
  refine zd (zd (za (wd (zf q7_10) (wd (zz rfl) (wd (xa zU rfl (S.rd 0)) (wd (xM rfl rfl) (wd (zE rfl) ?_)))))))
  refine wg (fun hg=>zj rfl) ?_
  obtain ⟨p8,s10,hp9,S⟩ := S.open_oRK 1
  replace S:=S
  refine wg (fun hg=>zw (((zl hg):_=Value.pointer (some ⟨b2,0,none⟩)).trans (congrArg Value.pointer hp9))) ?_
  refine wg (fun hg=>ze vE (zl hg) (o':=2) rfl) ?_
  refine wg (fun hg=>zi zJ (zl hg) ((S.blk 0).cell (RMaker.get_bad _))) ?_
  refine wg (fun hg=>zR (zl hg) rfl) (wd (xc rfl (fun hp=>(zl (xn hp)))) ?_)
  replace S:=((S.front 2).front 2).front 2
  replace S:=S.shut_oRK hp9
  refine zb ?_
  refine zH rfl (fun hc11=>?_) (fun hc11=>?_)
  rotate_left
  ·replace H:=if_f hc11 H
   refine yn ?_
   replace S:=S.arr [1,0] [0]
   obtain rfl:=Option.some.inj H
   exact ⟨rfl,((((((((((((Dif.self _ _ _).upd rfl _).upd rfl _).upd rfl _).upd rfl _).upd rfl _).upd rfl _).upd rfl _).upd rfl _).upd rfl _).upd rfl _).upd rfl _),(x7_0,x7_1,x7_2),e7,q7_10,S⟩
  replace H:=if_t hc11 H
  refine zB (zd ?_)
  refine zQ (zd (za (wd (zz rfl) (wd (zf q7_10) ?_))))
  obtain ⟨hi12,H⟩ := xi H
  refine wd (zN zU rfl rfl (S.rd 0) (zC hi12).1 (zC hi12).2) (wd (zo j0 rfl ((S.rd 0).at (xj Ln.z (zC hi12))) (Ln.len _)) ?_)
  refine xe ze_Ln (by decide) fun b14 w13 hw13=>?_
  replace S:=S.new hw13
  refine zM j0 rfl rfl (S.blk 0) (Ln.len _) (by rw [Ln.len]; decide) (Ln.one _) (zZ (Ln.len _)) fun w15 B hw15 zw15=>?_
  replace S:=S.store 0 B hw15
  clear B
  refine zb ?_
  refine zQ (zd (za (wd (ze xG rfl (o':=1) rfl) (wd (zi zJ rfl ((S.blk 0).cell (Ln.get_form _))) (wd (zf rfl) (wd (zR rfl rfl) ?_))))))
  refine wd (zm rfl) (zb ?_)
  refine zH rfl (fun hc16=>?_) (fun hc16=>?_)
  ·replace H:=if_t hc16 H
   refine zd (za (wd (zj rfl) (wd (zf rfl) (wd (zj rfl) (wd (zf rfl) (wd (zf rfl) ?_))))))
   obtain ⟨r17,er17,H⟩ := zq H
   replace S:=S.front 1
   obtain ⟨B19,MB19,SB19,back⟩ := S.calln 1 ((.nil))
   refine zu (zp ye) (by decide) (yf SB19 er17) ?_
   rintro _ w18 ⟨rfl,S2⟩
   replace S:=back _ _ _ _ S2 rfl
   clear back S2 SB19
   refine wd (zf rfl) ?_
   obtain ⟨r20,er20,H⟩ := zq H
   obtain ⟨B22,MB22,SB22,back⟩ := S.calln 1 ((.nil))
   refine zu (zp zbM) (by decide) (zbQ SB22 er20) ?_
   rintro _ w21 ⟨rfl,S2⟩
   replace S:=back _ _ _ _ S2 rfl
   clear back S2 SB22
   refine wd (zh rfl) (zb (zd (za (wd (zj rfl) (wd (zf rfl) (wd (zj rfl) ?_))))))
   refine wd (zf rfl) (wd (zf rfl) ?_)
   obtain ⟨r23,er23,H⟩ := zq H
   obtain ⟨B25,MB25,SB25,back⟩ := S.calln 1 ((.nil))
   refine zu (zp ye) (by decide) (yf SB25 er23) ?_
   rintro _ w24 ⟨rfl,S2⟩
   replace S:=back _ _ _ _ S2 rfl
   clear back S2 SB25
   obtain ⟨r26,er26,H⟩ := zq H
   obtain ⟨B28,MB28,SB28,back⟩ := S.calln 1 ((.nil))
   refine zu (zp kO) (by decide) (kM SB28 er26) ?_
   rintro _ w27 ⟨rfl,S2⟩
   replace S:=back _ _ _ _ S2 rfl
   clear back S2 SB28
   refine wd (zh rfl) (zb (zd (za (wd (zj rfl) (wd (zf rfl) (wd (zf rfl) ?_))))))
   obtain ⟨r29,er29,H⟩ := zq H
   obtain ⟨B31,MB31,SB31,back⟩ := S.calln 1 ((.nil))
   refine zu (zp vX) (by decide) (vU SB31 er29) ?_
   rintro _ w30 ⟨rfl,S2⟩
   replace S:=back _ _ _ _ S2 rfl
   clear back S2 SB31
   refine wd (zh rfl) (zb (zd (za (wd (zj rfl) (wd (zf rfl) (wd (zf rfl) ?_))))))
   obtain ⟨r32,er32,H⟩ := zq H
   obtain ⟨B34,MB34,SB34,back⟩ := S.calln 1 ((.nil))
   refine zu (zp kO) (by decide) (kM SB34 er32) ?_
   rintro _ w33 ⟨rfl,S2⟩
   replace S:=back _ _ _ _ S2 rfl
   clear back S2 SB34
   refine wd (zh rfl) (zb (za (wd (zz rfl) (wd (zf q7_10) (wd (zj rfl) ?_)))))
   refine wd (zf rfl) (wd (zf rfl) ?_)
   obtain ⟨r35,er35,H⟩ := zq H
   obtain ⟨B37,MB37,SB37,back⟩ := S.calln 1 ((.nil))
   refine zu (zp vX) (by decide) (vU SB37 er35) ?_
   rintro _ w36 ⟨rfl,S2⟩
   replace S:=back _ _ _ _ S2 rfl
   clear back S2 SB37
   obtain ⟨hi38,H⟩ := xi H
   refine wd (zN xx rfl rfl (S.rdO 2) (zC hi38).1 (zC hi38).2) ?_
   refine jY (C:=IC) (a:=r35.2) zJ rfl rfl (S.sl 2) (zC hi38) rfl rfl fun w39 O hw39=>?_
   have hlw39:=S.lenO 2
   replace S:=S.push 2 O (by rw [List.length_set]; exact hlw39) hw39 (fun i hi => .inl hi)
   clear O
   refine zb (za (wd (zf q7_10) (wd (jI rfl rfl) (wd (zh rfl) (zb ?_)))))
   replace S:=S.arr [0,1] [0]
   obtain rfl:=Option.some.inj H
   exact ⟨rfl,(by repeat first | exact Dif.refl _ _ | exact Dif.self _ _ _ | refine Dif.upd ?_ rfl _ | refine Dif.mask ?_ rfl _),(m7,(IntKind.i64.wrap (x7_0 + 1),x7_1.set (x7_0).toNat r35.2,r35.1)),⟨e7,rfl,S⟩,by dsimp only; omega⟩
  ·replace H:=if_f hc16 H
   refine zd (za (wd (ze vn rfl (o':=0) rfl) (wd (zi x6 rfl ((S.blk 0).cell (Ln.get_kind _))) (wd (xh rfl rfl) (wd (zm rfl) (zb ?_))))))
   refine zH rfl (fun hc40=>?_) (fun hc40=>?_)
   ·replace H:=if_t hc40 H
    refine zd (za (wd (zj rfl) (wd (ze vn rfl (o':=0) rfl) (wd (zi x6 rfl ((S.blk 0).cell (Ln.get_kind _))) (wd (ze xG rfl (o':=1) rfl) (wd (zi zJ rfl ((S.blk 0).cell (Ln.get_form _))) ?_))))))
    obtain ⟨r41,er41,H⟩ := zq H
    replace S:=S.front 1
    obtain ⟨B43,MB43,SB43,back⟩ := S.calln 1 ((.nil))
    refine zu (zp uu) (by decide) (uF SB43 er41) ?_
    rintro _ w42 ⟨rfl,S2⟩
    replace S:=back _ _ _ _ S2 rfl
    clear back S2 SB43
    refine wd (zh rfl) (zb (zd (za (wd (zj rfl) (wd (ze xG rfl (o':=1) rfl) (wd (zi zJ rfl ((S.blk 1).cell (Ln.get_form _))) ?_))))))
    refine wd (zf rfl) ?_
    obtain ⟨r44,er44,H⟩ := zq H
    obtain ⟨B46,MB46,SB46,back⟩ := S.calln 1 ((.nil))
    refine zu (zp kO) (by decide) (kM SB46 er44) ?_
    rintro _ w45 ⟨rfl,S2⟩
    replace S:=back _ _ _ _ S2 rfl
    clear back S2 SB46
    refine wd (zh rfl) (zb (za (wd (zz rfl) (wd (zf q7_10) (wd (zj rfl) ?_)))))
    refine wd (zf rfl) (wd (zf rfl) ?_)
    obtain ⟨r47,er47,H⟩ := zq H
    obtain ⟨B49,MB49,SB49,back⟩ := S.calln 1 ((.nil))
    refine zu (zp vX) (by decide) (vU SB49 er47) ?_
    rintro _ w48 ⟨rfl,S2⟩
    replace S:=back _ _ _ _ S2 rfl
    clear back S2 SB49
    obtain ⟨hi50,H⟩ := xi H
    refine wd (zN xx rfl rfl (S.rdO 2) (zC hi50).1 (zC hi50).2) ?_
    refine jY (C:=IC) (a:=r47.2) zJ rfl rfl (S.sl 2) (zC hi50) rfl rfl fun w51 O hw51=>?_
    have hlw51:=S.lenO 2
    replace S:=S.push 2 O (by rw [List.length_set]; exact hlw51) hw51 (fun i hi => .inl hi)
    clear O
    refine zb (za (wd (zf q7_10) (wd (jI rfl rfl) (wd (zh rfl) (zb ?_)))))
    replace S:=S.arr [0,1] [0]
    obtain rfl:=Option.some.inj H
    exact ⟨rfl,(by repeat first | exact Dif.refl _ _ | exact Dif.self _ _ _ | refine Dif.upd ?_ rfl _ | refine Dif.mask ?_ rfl _),(m7,(IntKind.i64.wrap (x7_0 + 1),x7_1.set (x7_0).toNat r47.2,r47.1)),⟨e7,rfl,S⟩,by dsimp only; omega⟩
   ·replace H:=if_f hc40 H
    refine zd ?_
    refine xL 10 (Ext w15) hmix (by kernel_rfl) (by kernel_rfl) (Ext.drawn _) (zt (fun v K=>zj rfl) (zt (fun v K=>zf rfl) (zt (fun v K=>zz rfl) (zt (fun v K=>ze uj rfl (o':=3) rfl) (zt (fun v K=>zi zJ rfl (((S.ext K).blk 0).cell (Ln.get_b _))) ?_)))))
    obtain ⟨hi52,H⟩ := xi H
    refine zt (fun v K=>zN zU rfl rfl ((S.ext K).rd 0) (zC hi52).1 (zC hi52).2) (zt (fun v K=>ze xG rfl (o':=_) rfl) (zt (fun v K=>zi zJ rfl ((((S.ext K).rd 0).at (xj Ln.z (zC hi52))).get (Ln.get_form _))) (zt (fun v K=>ze xG rfl (o':=1) rfl) (zt (fun v K=>zi zJ rfl (((S.ext K).blk 0).cell (Ln.get_form _))) ?_))))
    refine yL fun w53 K=>?_
    replace S:=S.ext K
    clear K
    obtain ⟨r54,er54,H⟩ := zq H
    replace S:=S.front 1
    obtain ⟨B56,MB56,SB56,back⟩ := S.calln 1 ((.nil))
    refine zu (zp zbM) (by decide) (zbQ SB56 er54) ?_
    rintro _ w55 ⟨rfl,S2⟩
    replace S:=back _ _ _ _ S2 rfl
    clear back S2 SB56
    refine wd (zh rfl) (zb (zd (za (wd (zj rfl) (wd (zf rfl) (wd (zz rfl) ?_))))))
    refine wd (ze jn rfl (o':=2) rfl) (wd (zi zJ rfl ((S.blk 1).cell (Ln.get_a _))) ?_)
    obtain ⟨hi57,H⟩ := xi H
    refine wd (zN xx rfl rfl (S.rdO 2) (zC hi57).1 (zC hi57).2) (wd (zi zJ rfl ((S.rdO 2).one (xj (0:Int) (zC hi57)) rfl)) ?_)
    obtain ⟨r58,er58,H⟩ := zq H
    obtain ⟨B60,MB60,SB60,back⟩ := S.calln 1 ((.nil))
    refine zu (zp vX) (by decide) (vU SB60 er58) ?_
    rintro _ w59 ⟨rfl,S2⟩
    replace S:=back _ _ _ _ S2 rfl
    clear back S2 SB60
    refine wd (zh rfl) (zb (za (wd (zz rfl) (wd (zf q7_10) (wd (zj rfl) ?_)))))
    refine wd (zf rfl) (wd (zz rfl) (wd (ze uj rfl (o':=3) rfl) (wd (zi zJ rfl ((S.blk 1).cell (Ln.get_b _))) ?_)))
    obtain ⟨hi61,H⟩ := xi H
    refine wd (zN xx rfl rfl (S.rdO 2) (zC hi61).1 (zC hi61).2) (wd (zi zJ rfl ((S.rdO 2).one (xj (0:Int) (zC hi61)) rfl)) ?_)
    obtain ⟨r62,er62,H⟩ := zq H
    obtain ⟨B64,MB64,SB64,back⟩ := S.calln 1 ((.nil))
    refine zu (zp vX) (by decide) (vU SB64 er62) ?_
    rintro _ w63 ⟨rfl,S2⟩
    replace S:=back _ _ _ _ S2 rfl
    clear back S2 SB64
    obtain ⟨hi65,H⟩ := xi H
    refine wd (zN xx rfl rfl (S.rdO 2) (zC hi65).1 (zC hi65).2) ?_
    refine jY (C:=IC) (a:=r62.2) zJ rfl rfl (S.sl 2) (zC hi65) rfl rfl fun w66 O hw66=>?_
    have hlw66:=S.lenO 2
    replace S:=S.push 2 O (by rw [List.length_set]; exact hlw66) hw66 (fun i hi => .inl hi)
    clear O
    refine zb (za (wd (zf q7_10) (wd (jI rfl rfl) (wd (zh rfl) (zb ?_)))))
    replace S:=S.arr [0,1] [0]
    obtain rfl:=Option.some.inj H
    exact ⟨rfl,(by repeat first | exact Dif.refl _ _ | exact Dif.self _ _ _ | refine Dif.upd ?_ rfl _ | refine Dif.mask ?_ rfl _),(m7,(IntKind.i64.wrap (x7_0 + 1),x7_1.set (x7_0).toNat r62.2,r62.1)),⟨e7,rfl,S⟩,by dsimp only; omega⟩
 rintro g67 u68 ⟨s7,rfl,p7_10,S⟩
 have H:=Ho7
 dsimp only [aft] at H
 refine zd ?_
 obtain ⟨p69,s71,hp70,S⟩ := S.open_oRK 1
 replace S:=S
 refine xL 9 (Ext u68) hmix (by kernel_rfl) (by kernel_rfl) (Ext.drawn _) (zt (fun v K=>zj rfl) (zt (fun v K=>zw (congrArg Value.pointer hp70)) (zt (fun v K=>ze jX rfl (o':=1) rfl) (zt (fun v K=>zi xN rfl (((S.ext K).blk 0).cell (RMaker.get_l _))) (zt (fun v K=>zj rfl) ?_)))))
 refine zt (fun v K=>zw (congrArg Value.pointer hp70)) (zt (fun v K=>ze vE rfl (o':=2) rfl) (zt (fun v K=>zi zJ rfl (((S.ext K).blk 0).cell (RMaker.get_bad _))) (zt (fun v K=>xD rfl) ?_)))
 refine yL fun w72 K=>?_
 replace S:=S.ext K
 clear K
 refine wd (zh rfl) (zb (zx ?_))
 refine ⟨_,(xp (zg rfl) (zg rfl)),?_⟩
 replace S:=S.arr [1,2] []
 obtain rfl:=Option.some.inj H
 exact ⟨s71,rfl,S⟩
theorem ref03_T_Cut_st {A:Nat→Prop} {N:Oth} {w:World} {a0:Tb} {a_0:Option Addr} {a1:Int} (S:St A N w w [oR a_0 a0] []) {r:Tb × Int} (H:ref03_T_Cut.f a0 a1=some r) :
  Calls PP F_ref03_T_Cut #[.pointer a_0,.int .i64 a1] w fun e w' => ∃ v,e = .returned v∧(v = .int .i64 r.2∧St A N w w' [oR a_0 r.1] []):=by
 unfold ref03_T_Cut.f at H
 refine zA (n:=26) fn_ref03_T_Cut rfl rfl (by simp) (zd (za (wd (zh rfl) (zb (zd (zd (za (wd (zf rfl) ?_))))))))
 refine wd (xM rfl rfl) (wd (zE rfl) ?_)
 refine wg (fun hg=>zf rfl) ?_
 refine wg (fun hg=>zj rfl) ?_
 obtain ⟨ht1,H⟩ := xi H
 obtain ⟨p2,s3,hp4,S⟩ := S.openR 0 ht1
 replace S:=S
 refine wg (fun hg=>zw (((zl hg):_=Value.pointer a_0).trans (congrArg Value.pointer hp4))) ?_
 refine wg (fun hg=>ze xo (zl hg) (o':=0) rfl) ?_
 refine wg (fun hg=>zi zW (zl hg) ((S.blk 0).cell (RTab.get_n _))) ?_
 refine wg (fun hg=>xa zK (zl hg) (S.rdO 1)) ?_
 refine wg (fun hg=>kX (zl hg) (zl hg)) (wd (xw rfl (fun hp=>(zl (xn hp)))) ?_)
 replace S:=((S.front 1).front 1).shutR hp4
 refine zb ?_
 refine zH rfl (fun hc5=>?_) (fun hc5=>?_)
 ·replace H:=if_t hc5 H
  refine zd (za (wd (zh rfl) (zb (zx ?_))))
  refine ⟨_,(zV (zg rfl)),?_⟩
  obtain rfl:=Option.some.inj H
  exact ⟨rfl,S⟩
 replace H:=if_f hc5 H
 refine zB (zd (za (wd (zj rfl) (wd (zj rfl) ?_))))
 obtain ⟨p6,s7,hp8,S⟩ := S.openR 0 rfl
 replace S:St A N w w [oB p6 vy (RTab.C ⟨s7⟩),oS T_Nd 4 Nd.C s7 (a0.getD [])] []:=S
 refine wd (zw (congrArg Value.pointer hp8)) (wd (ze xo rfl (o':=0) rfl) (wd (zi zW rfl ((S.blk 0).cell (RTab.get_n _))) (wd (zf rfl) (wd (zf rfl) ?_))))
 obtain ⟨hs9,H⟩ := xi H
 have hs9:=of_decide_eq_true hs9
 refine wd (does_clip zK rfl rfl rfl (S.sl 1) hs9) ?_
 have hlhs9:=S.lenO 1
 replace S:St A N w w [oS T_Nd 4 Nd.C (⟨s7.p,(a1).toNat,(a1).toNat⟩ : SlV) ((a0.getD []).take (a1).toNat),oB p6 vy (RTab.C ⟨s7⟩)] []:=S.push (s:=s7) 1 (Own.preL (S.sl 1) hs9 (Nat.le_refl _) (Own.clip (S.sl 1) hs9)) (by simp only [List.length_take]; omega) (Chg.refl _ _) (fun _ hi => .inl hi)
 refine wd (zw (congrArg Value.pointer hp8)) (wd (ze xo rfl (o':=0) rfl) ?_)
 refine yD zW rfl rfl (S.blk 1) (by rw [RTab.len]; decide) (SlV.one _ _ rfl) (RTab.set_n _ _) fun w10 B hw10 zw10=>?_
 replace S:=S.store 1 B hw10
 clear B
 replace S:=((S.front 1).front 1).shutR hp8
 refine zb (zd (za (wd (zh rfl) (zb (zx ?_)))))
 refine ⟨_,(zV (zg rfl)),?_⟩
 obtain rfl:=Option.some.inj H
 exact ⟨rfl,S⟩
theorem ref16_Deduce_st {A:Nat→Prop} {N:Oth} {w:World} {a0:Tb} {a_0:Option Addr} {a1:List Int} {s_1:SlV} {a2:List Ln} {s_2:SlV} {a3:Int} (S:St A N w w [oR a_0 a0] [fS 1 IC s_1 a1,fS 4 Ln.C s_2 a2]) {k:Nat} {r:Tb × List Ln × Int} (H:ref16_Deduce.f k a0 a1 a2 a3=some r) :
  Calls PP F_ref16_Deduce #[.pointer a_0,s_1.v,s_2.v,.int .i64 a3] w fun e w' => ∃ v,e = .returned v∧(∃ so0:SlV,v = .tuple #[so0.v,.int .i64 r.2.2]∧St A N w w' [oR a_0 r.1,oS T_Ln 4 Ln.C so0 r.2.1] []):=by
 unfold ref16_Deduce.f at H
 refine zA (n:=43) fn_ref16_Deduce rfl rfl (by simp) (zd (za (wd (xm) (wd (zh rfl) (zb (zd (zd (za ?_))))))))
 refine wd (zj rfl) (wd (zf rfl) ?_)
 obtain ⟨r1,er1,H⟩ := zq H
 obtain ⟨B3,MB3,SB3,back⟩ := S.calln 0 ((.o 0 rfl .nil))
 refine zu (zp jd) (by decide) (jg SB3 er1) ?_
 rintro _ w2 ⟨rfl,S2⟩
 replace S:=back _ _ _ _ S2 rfl
 clear back S2 SB3
 refine wd (xk rfl) (zb ?_)
 refine zH rfl (fun hc4=>?_) (fun hc4=>?_)
 ·replace H:=if_t hc4 H
  refine zd (za (wd (xm) (wd (zh rfl) (zb (zx ?_)))))
  replace S:=S.nil T_Ln 4 Ln.C
  refine ⟨_,(xp (zg rfl) (zg rfl)),?_⟩
  replace S:=S.arr [1,0] []
  obtain rfl:=Option.some.inj H
  exact ⟨SlV.nil,rfl,S⟩
 replace H:=if_f hc4 H
 refine zB (zd (za (wd (zj rfl) (wd (zz rfl) (wd (zz rfl) ?_)))))
 obtain ⟨r5,er5,H⟩ := zq H
 obtain ⟨B7,MB7,SB7,back⟩ := S.calln 0 ((.o 0 rfl (.z 0 rfl (.z 1 rfl .nil))))
 refine zu (zp ca_ref16_Check) (by decide) (ref16_Check_st SB7 er5) ?_
 rintro _ w6 ⟨rfl,S2⟩
 replace S:=back _ _ _ _ S2 rfl
 clear back S2 SB7
 refine wd (zh rfl) (zb (zd (zd (za (wd (zf rfl) (wd (xh rfl rfl) (zb ?_)))))))
 refine zH rfl (fun hc8=>?_) (fun hc8=>?_)
 ·replace H:=if_t hc8 H
  refine zd (za (wd (zf rfl) (wd (xm) (wd (zh rfl) (zb (zx ?_))))))
  replace S:=S.nil T_Ln 4 Ln.C
  refine ⟨_,(xp (zg rfl) (zg rfl)),?_⟩
  replace S:=S.arr [1,0] []
  obtain rfl:=Option.some.inj H
  exact ⟨SlV.nil,rfl,S⟩
 replace H:=if_f hc8 H
 refine zB (zd (za (wd (zj rfl) ?_)))
 obtain ⟨ht9,H⟩ := xi H
 obtain ⟨p10,s11,hp12,S⟩ := S.openR 0 ht9
 replace S:=S
 refine wd (zw (congrArg Value.pointer hp12)) (wd (ze xo rfl (o':=0) rfl) (wd (zi zW rfl ((S.blk 0).cell (RTab.get_n _))) (wd (xa zK rfl (S.rdO 1)) (wd (zh rfl) ?_))))
 replace S:=((S.front 1).front 1).shutR hp12
 refine zb (zd (za (wd (zj rfl) (wd (zz rfl) (wd (zf rfl) ?_)))))
 obtain ⟨r13,er13,H⟩ := zq H
 obtain ⟨B15,MB15,SB15,back⟩ := S.calln 1 ((.z 1 rfl .nil))
 refine zu (zp ca_ref16_deduce) (by decide) (ref16_deduce_st SB15 er13) ?_
 rintro _ w14 ⟨s16,rfl,S2⟩
 replace S:=back _ _ _ _ S2 rfl
 clear back S2 SB15
 refine wd (z1 rfl) (wd (zr rfl rfl) (wd (zr rfl rfl) (wd (xD rfl) (wd (zh rfl) (zb (zd (zd (za ?_))))))))
 refine wd (zf rfl) (wd (xh rfl rfl) (zb ?_))
 refine zH rfl (fun hc17=>?_) (fun hc17=>?_)
 ·replace H:=if_t hc17 H
  refine zd (za (wd (zj rfl) (wd (zf rfl) ?_)))
  obtain ⟨r18,er18,H⟩ := zq H
  obtain ⟨B20,MB20,SB20,back⟩ := S.calln 1 ((.nil))
  refine zu (zp ca_ref03_T_Cut) (by decide) (ref03_T_Cut_st SB20 er18) ?_
  rintro _ w19 ⟨rfl,S2⟩
  replace S:=back _ _ _ _ S2 rfl
  clear back S2 SB20
  refine zb (zd (za (wd (zf rfl) (wd (xm) (wd (zh rfl) (zb (zx ?_)))))))
  replace S:=S.nil T_Ln 4 Ln.C
  refine ⟨_,(xp (zg rfl) (zg rfl)),?_⟩
  replace S:=S.arr [1,0] []
  obtain rfl:=Option.some.inj H
  exact ⟨SlV.nil,rfl,S⟩
 replace H:=if_f hc17 H
 refine zB (zd (za (wd (zz rfl) (wd (xD rfl) (wd (zh rfl) (zb (zx ?_)))))))
 refine ⟨_,(xp (zg rfl) (zg rfl)),?_⟩
 replace S:=S.arr [0,1] []
 obtain rfl:=Option.some.inj H
 exact ⟨s16,rfl,S⟩
theorem zbZ {A:Nat→Prop} {N:Oth} {w:World} {a0:List Nd} {s_0:SlV} {a1:List Int} {s_1:SlV} {a2:List Ln} {s_2:SlV} {a3:Int} (S:St A N w w [] [fS 4 Nd.C s_0 a0,fS 1 IC s_1 a1,fS 4 Ln.C s_2 a2,oEt,oPw]) {k:Nat} {r:Bool} (H:law16_HilbertDeduces.f k a0 a1 a2 a3=some r) :
  Calls PP yv #[s_0.v,s_1.v,s_2.v,.int .i64 a3] w fun e w' => ∃ v,e = .returned v∧(v = .bool r∧St A N w w' [] []):=by
 unfold law16_HilbertDeduces.f at H
 refine zA (n:=62) vi rfl rfl (by simp) (zd (za (wd (zm rfl) (zb (zd (za (wd (zz rfl) ?_)))))))
 obtain ⟨r1,er1,H⟩ := zq H
 obtain ⟨B3,MB3,SB3,back⟩ := S.calln 0 ((.z 0 rfl .nil))
 refine zu (zp ca_law04_Tables) (by decide) (law04_Tables_st SB3 er1) ?_
 rintro _ w2 ⟨a4,a5,rfl,S2⟩
 replace S:=back _ _ _ _ S2 rfl
 clear back S2 SB3
 refine wd (z1 rfl) (wd (zr rfl rfl) (wd (zr rfl rfl) (wd (xg rfl) (wd (xg rfl) (zb (zd (za ?_)))))))
 refine xK (C:=Ln.C) (l:=([]:List Ln)) (vs:=[]) zU el_Ln.zero rfl rfl (fun a _=>Ln.len a) (by decide) rfl (by decide) fun b7 w6 s8 hBw6 hw6=>?_
 replace S:=S.lit hBw6 hw6 (by simp)
 refine wd (zz rfl) ?_
 obtain ⟨ha11,H⟩ := xi H
 have ha11:=of_decide_eq_true ha11
 refine wl_appendm (C:=Ln.C) zU el_Ln rfl rfl (S.sl 0) (S.rd 2) Ln.one ha11 (by omega) (by decide) fun s10 w9 O hw9 gw9=>?_
 replace S:=S.push 0 O (by first | (simp; done) | (simp; omega)) hw9 gw9
 clear O
 refine wd (xD rfl) (zb (zd (za (wd (zj rfl) (wd (zz rfl) (wd (zz rfl) ?_))))))
 refine wd (zf rfl) ?_
 obtain ⟨r12,er12,H⟩ := zq H
 replace S:=S.front 1
 obtain ⟨B14,MB14,SB14,back⟩ := S.calln 1 ((.z 1 rfl (.s 0 rfl .nil)))
 refine zu (zp zbv) (by decide) (zbs SB14 er12) ?_
 rintro _ w13 ⟨s15,rfl,S2⟩
 replace S:=back _ _ _ _ S2 rfl
 clear back S2 SB14
 refine wd (z1 rfl) (wd (zr rfl rfl) (wd (zr rfl rfl) (wd (xD rfl) (wd (zh rfl) (zb (zd (za ?_)))))))
 refine wd (zj rfl) (wd (zz rfl) (wd (zz rfl) (wd (zf rfl) ?_)))
 obtain ⟨r16,er16,H⟩ := zq H
 replace S:=S.front 3
 obtain ⟨B18,MB18,SB18,back⟩ := S.calln 1 ((.z 1 rfl (.z 2 rfl .nil)))
 refine zu (zp ca_ref16_Deduce) (by decide) (ref16_Deduce_st SB18 er16) ?_
 rintro _ w17 ⟨s19,rfl,S2⟩
 replace S:=back _ _ _ _ S2 rfl
 clear back S2 SB18
 refine wd (z1 rfl) (wd (zr rfl rfl) (wd (zr rfl rfl) (wd (xD rfl) (wd (zh rfl) (zb (zd (za ?_)))))))
 refine wd (zz rfl) (wd (zz rfl) ?_)
 obtain ⟨r20,er20,H⟩ := zq H
 obtain ⟨B22,MB22,SB22,back⟩ := S.calln 0 ((.s 3 rfl (.s 1 rfl .nil)))
 refine zu (zp zbc) (by decide) (zaW SB22 er20) ?_
 rintro _ w21 ⟨rfl,S2⟩
 replace S:=back _ _ _ _ S2 rfl
 clear back S2 SB22
 refine wd (zE rfl) ?_
 refine wg (fun hg=>zf rfl) ?_
 obtain ⟨r23,er23,H⟩ := zq H
 refine yp (j:=3) (pol:=true) rfl rfl rfl (by decide) (fun hg=>zP uy (zS (zl hg) rfl)) (by decide) (fun hg=>(have ⟨M,SS⟩ := S.lend ((.nil)); quiet (uD SS (if_t (by simpa using hg) er23)) (fun v w' h=>⟨h.1,_,_,h.2⟩))) fun w24 hw24=>?_
 replace S:=S.ext hw24
 refine wg (fun hg=>zf rfl) ?_
 refine wg (fun hg=>zR (zl hg) (zl hg)) (wd (xc rfl (fun hp=>(zl (xn hp)))) (wd (zE rfl) ?_))
 refine wg (fun hg=>zz rfl) ?_
 refine wg (fun hg=>zz rfl) ?_
 obtain ⟨r25,er25,H⟩ := zq H
 refine yp (j:=9) (pol:=true) rfl rfl rfl (by decide) (fun hg=>zP zbc (zS (zl hg) (zS (zl hg) rfl))) (by decide) (fun hg=>(have ⟨M,SS⟩ := S.lend ((.s 4 rfl (.z 2 rfl .nil))); quiet (zaW SS (if_t (by simpa using hg) er25)) (fun v w' h=>⟨h.1,_,_,h.2⟩))) fun w26 hw26=>?_
 replace S:=S.ext hw26
 refine wd (xc rfl (fun hp=>(zl (xn hp)))) (wd (zE rfl) ?_)
 refine wg (fun hg=>zj rfl) ?_
 refine wg (fun hg=>zj rfl) ?_
 obtain ⟨r27,er27,H⟩ := zq H
 refine yp (j:=14) (pol:=true) rfl rfl rfl (by decide) (fun hg=>zP ca_law04_Same (zS (zl hg) (zS (zl hg) rfl))) (by decide) (fun hg=>(have ⟨M,SS⟩ := S.lend ((.o 2 rfl (.o 0 rfl .nil))); quiet (law04_Same_st SS (if_t (by simpa using hg) er27)) (fun v w' h=>⟨h.1,_,_,h.2⟩))) fun w28 hw28=>?_
 replace S:=S.ext hw28
 refine wd (xc rfl (fun hp=>(zl (xn hp)))) (wd (zE rfl) ?_)
 obtain ⟨r29,er29,H⟩ := zq H
 refine yp (j:=19) (pol:=true) rfl rfl rfl (by decide) (fun hg=>zP ca_law16_heads rfl) (by decide) (fun hg=>(have ⟨M,SS⟩ := S.lend ((.z 3 rfl (.z 4 rfl .nil))); quiet (law16_heads_st SS (if_t (by simpa using hg) er29)) (fun v w' h=>⟨h.1,_,_,h.2⟩))) fun w30 hw30=>?_
 replace S:=S.ext hw30
 refine wd (xc rfl (fun hp=>(zl (xn hp)))) (wd (zm rfl) (zb (zx ?_)))
 refine ⟨_,(zV (zg rfl)),?_⟩
 replace S:=S.arr [] []
 obtain rfl:=Option.some.inj H
 exact ⟨rfl,S⟩
end Go.Proofs.YtflieamjacclnaaGreatDoor
end
section
namespace Go.Proofs.YtflieamjacclnaaGreatDoor
open Gw
theorem zaI {σ ρ:Type} {b:Int→σ→Option (Stp σ ρ)} {p:Nat→Bool} {r:Nat→ρ} : ∀ (n i:Nat) (s:σ),(∀ j:Nat,i ≤ j→j < i + n→b j s=some (if p j then .ret (r j) else .go s))→forN b n i s=some (match (List.range' i n).find? p with | some j => .inr (r j) | none => .inl s)
 | 0,i,s,_=>rfl
 | n + 1,i,s,h=>by
  rw [forN,h i (Nat.le_refl _) (by omega),List.range'_succ]
  cases hp:p i with
  | true=>simp [hp,List.find?_cons]
  | false =>
   have:=zaI n (i + 1) s fun j h1 h2=>h j (by omega) (by omega)
   simpa [hp,List.find?_cons] using this
abbrev nd (M:List Nd) (i:Int):Nd:=(zap M i).1
structure Wf (M:List Nd):Prop where
 len:M.length ≤ 1024
 nodup:M.Nodup
 kind : ∀ i:Int,inb i M.length=true→(nd M i).kind=1∨(nd M i).kind=2∨(nd M i).kind=3∨(nd M i).kind=4∨(nd M i).kind=5
 kids : ∀ i:Int,inb i M.length=true→(nd M i).kind=3∨(nd M i).kind=4∨(nd M i).kind=5→(0 ≤ (nd M i).l∧(nd M i).l < i)∧0 ≤ (nd M i).r∧(nd M i).r < i
 fits : ∀ (j:Nat) (n:Nd),M[j]? = some n→y2 (M.take j) n=0
theorem Wf.left {M:List Nd} (h:Wf M) {i:Int} (hi:inb i M.length=true) (hk:(nd M i).kind=3∨(nd M i).kind=4∨(nd M i).kind=5):inb (nd M i).l M.length=true:=by
 have h1:=h.kids i hi hk
 have h2:=zC hi
 simp only [inb,Bool.and_eq_true,decide_eq_true_eq]; omega
theorem Wf.right {M:List Nd} (h:Wf M) {i:Int} (hi:inb i M.length=true) (hk:(nd M i).kind=3∨(nd M i).kind=4∨(nd M i).kind=5):inb (nd M i).r M.length=true:=by
 have h1:=h.kids i hi hk
 have h2:=zC hi
 simp only [inb,Bool.and_eq_true,decide_eq_true_eq]; omega
theorem Wf.bare {M:List Nd} (h:Wf M) {i:Int} (hi:inb i M.length=true) (hk:(nd M i).kind=3∨(nd M i).kind=4∨(nd M i).kind=5):(nd M i).name=⟨#[]⟩ := by
 have h1:=zC hi
 have h2:i.toNat < M.length:=by omega
 have e:nd M i=M[i.toNat]:=by
  unfold nd zap vm
  rw [if_pos (by simp; omega)]
  simp [List.getD_eq_getElem?_getD,h2]
 have h3:=h.fits i.toNat _ (List.getElem?_eq_getElem h2)
 rw [← e] at h3
 unfold y2 at h3
 rw [if_neg (by omega),if_neg (by omega),if_pos hk] at h3
 split at h3
 ·simp at h3
 ·rename_i hh
  simp only [not_or,Decidable.not_not] at hh
  exact hh.1.1
theorem find_congr {α:Type} {p q:α→Bool} : ∀ {l:List α},(∀ x ∈ l,p x=q x)→l.find? p=l.find? q
 | [],_=>rfl
 | x :: l,h=>by
  rw [List.find?_cons,List.find?_cons,h x (by simp),find_congr fun y hy=>h y (by simp [hy])]
theorem any_find {α:Type} {p:α→Bool} : ∀ (l:List α),l.any p=(l.find? p).isSome
 | []=>rfl
 | x :: l=>by
  rw [List.any_cons,List.find?_cons,any_find l]
  cases p x <;> rfl
theorem inb_nat (j n:Nat):inb (j:Int) n=decide (j < n):=by
 unfold inb
 rw [decide_eq_true (show 0 ≤ (j:Int) by omega),Bool.true_and,decide_eq_decide]
 omega
theorem wrap_small {n:Int} (h:0 ≤ n∧n < 9223372036854775808):IntKind.i64.wrap n=n:=by
 exact IntWalk.i64_in _ ⟨by omega,by omega⟩
theorem idx_find (n:Nd) : ∀ (N:List Nd) (s:Nat),(List.range' s N.length).find? (fun k=>decide (N.getD (k - s) Nd.z=n))=(N.idxOf? n).map (· + s)
 | [],s=>rfl
 | a :: N,s=>by
  rw [List.length_cons,List.range'_succ,List.find?_cons,List.idxOf?_cons]
  by_cases h:a=n
  ·simp [h]
  ·have h1:(a == n)=false:=by simpa using h
   have h2:(List.range' (s + 1) N.length).find? (fun k=>decide ((a :: N).getD (k - s) Nd.z=n))=(List.range' (s + 1) N.length).find? (fun k=>decide (N.getD (k - (s + 1)) Nd.z=n)):=find_congr fun k hk=>by
    have hk:=(List.mem_range'_1.1 hk).1
    rw [show k - s=(k - (s + 1)) + 1 by omega]; simp
   simp only [Nat.sub_self,List.getD_cons_zero,h,decide_false,h1,h2,idx_find n N (s + 1)]
   cases N.idxOf? n with
   | none=>rfl
   | some k=>simp; omega
theorem docFind (N:List Nd) (n:Nd):ref03_T_Find.f (some N) n=some (match N.idxOf? n with | some k=>((k:Int),true) | none=>(0,false)):=by
 unfold ref03_T_Find.f
 have h1:=zaI (b:=fun i s=>ref03_T_Find.b0 (some N) n i) (p:=fun k=>decide (N.getD k Nd.z=n)) (r:=fun k=>((k:Int),true)) N.length 0 () (by
  intro k _ hk
  unfold ref03_T_Find.b0 at_
  rw [Int.toNat_natCast,Option.getD_some]
  split <;> rfl)
 have e0:(((N.length:Nat):Int) - 0).toNat=N.length:=by omega
 simp only [Option.isSome_some,Option.getD_some,chk,if_true,e0]
 rw [show (0:Int)=((0:Nat):Int) from rfl,h1]
 have h2:=idx_find n N 0
 simp only [Nat.sub_zero,Nat.add_zero] at h2
 rw [h2]
 cases N.idxOf? n <;> rfl
theorem bind_eq {α β:Type} {x:Option α} {y:α} {f:α→Option β} {r:Option β} (hx:x=some y) (h:f y=r):x.bind f=r:=by rw [hx]; exact h
theorem docPut {N:List Nd} {n:Nd} (hN:N.length ≤ 1024) (hn:n.name.size < 9223372036854775808):ref03_T_Put.f (some N) n=some (some (putS N n).1,(putS N n).2.1,(putS N n).2.2):=by
 have hrow : ∀ i:Int,ref03_T_Has.f (some N) i=some (vm N i):=fun i=>by simp [ref03_T_Has.f,chk,vm]
 have hend:((ref03_T_Find.f (some N) n).bind fun r25=>if r25.2 then some (some N,r25.1,0) else chk (some N).isSome (if decide (1024 ≤ ((((some N).getD []).length:Nat):Int)) then some ((some ((some N).getD [])),0,30) else chk (decide ((((some N).getD []).length + 1) * 40 ≤ 140737488355328)) (some ((some (((some N).getD []) ++ [n])),IntKind.i64.wrap (((((some N).getD []) ++ [n]).length:Int) - 1),0)))) =
   (match N.idxOf? n with | some k=>some (some N,(k:Int),(0:Int)) | none=>if 1024 ≤ N.length then some (some N,0,30) else some (some (N ++ [n]),(N.length:Int),0)):=by
  rw [docFind]
  cases N.idxOf? n with
  | some k=>rfl
  | none =>
   simp only [Option.bind_some,Bool.false_eq_true,if_false,Option.isSome_some,Option.getD_some,chk,if_true,decide_eq_true_eq]
   by_cases h:1024 ≤ N.length
   ·have h1:(1024:Int) ≤ (N.length:Int):=by omega
    simp only [h,h1,if_true]
   ·have h1:¬ (1024:Int) ≤ (N.length:Int):=by omega
    have h2:(N.length + 1) * 40 ≤ 140737488355328:=by omega
    have h3:IntKind.i64.wrap (((N ++ [n]).length:Int) - 1)=(N.length:Int):=by
     rw [wrap_small (by simp; omega)]; simp
    simp only [h,h1,h2,h3,if_true,if_false]
 unfold ref03_T_Put.f
 refine bind_eq (y:=if y2 N n=0 then .inl (some N) else .inr (some N,0,y2 N n)) ?_ ?_
 ·unfold y2
  simp only [hrow,ref03_Word.f,hn,chk,decide_true,if_true,Option.bind_some]
  by_cases k1:n.kind=1
  ·simp only [k1,decide_true,if_true]
   by_cases hl:n.l=0
   ·by_cases hr:n.r=0
    ·by_cases hw:isWord n.name <;> simp [hl,hr,hw]
    ·simp [hl,hr]
   ·simp [hl]
  by_cases k2:n.kind=2
  ·have e:(n={ Nd.z with kind:=2 })↔(n.name=⟨#[]⟩ ∧ n.l=0∧n.r=0):=by
    constructor
    ·intro h; rw [h]; exact ⟨rfl,rfl,rfl⟩
    ·rintro ⟨h1,h2,h3⟩
     obtain ⟨a,b,c,d⟩ := n
     simp only at k2 h1 h2 h3
     subst k2 h1 h2 h3; rfl
   simp only [k2,decide_true,if_true,show ¬ ((2:Int)=1) by decide,decide_false,Bool.false_eq_true,if_false,e]
   by_cases hm:n.name=⟨#[]⟩
   ·by_cases hl:n.l=0
    ·by_cases hr:n.r=0 <;> simp [hm,hl,hr]
    ·simp [hm,hl]
   ·simp [hm]
  by_cases k3:n.kind=3∨n.kind=4∨n.kind=5
  ·have ho:((if decide (n.kind=3)=true then some (decide (n.kind=3)) else if decide (n.kind=4)=true then some (decide (n.kind=4)) else some (decide (n.kind=5))):Option Bool)=some true:=by
    rcases k3 with k | k | k <;> simp [k]
   simp only [k1,k2,k3,decide_false,Bool.false_eq_true,if_false,if_true]
   simp only [decide_eq_true_eq] at ho ⊢
   rw [ho]
   simp only [Option.bind_some,if_true]
   by_cases hm:n.name=⟨#[]⟩
   ·cases hl:vm N n.l with
    | false=>simp [hm,hl]
    | true=>cases hr:vm N n.r <;> simp [hm,hl,hr]
   ·simp [hm]
  ·have ho:((if decide (n.kind=3)=true then some (decide (n.kind=3)) else if decide (n.kind=4)=true then some (decide (n.kind=4)) else some (decide (n.kind=5))):Option Bool)=some false:=by
    simp only [not_or] at k3; simp [k3.1,k3.2.1,k3.2.2]
   simp only [k1,k2,k3,decide_false,Bool.false_eq_true,if_false,if_true]
   simp only [decide_eq_true_eq] at ho ⊢
   rw [ho]
   simp
 ·by_cases hf:y2 N n=0
  ·rw [if_pos hf]
   refine Eq.trans (show _=_ from hend) ?_
   unfold putS
   rw [if_pos hf]
   cases N.idxOf? n with
   | some k=>rfl
   | none =>
    by_cases h:1024 ≤ N.length
    ·simp only [if_pos h]
    ·simp only [if_neg h]
  ·rw [if_neg hf,put_bad hf]; rfl
theorem progPut {N:List Nd} {n:Nd} (hn:n.name.size < 9223372036854775808):formula_Table_Put.f (some N) n=some (some (putS N n).1,(putS N n).2.1,(putS N n).2.2):=by
 simp [formula_Table_Put.f,chk,hn]
theorem rows_take {M:List Nd} {i:Nat} (hi:i < M.length):at_ Nd.z M i=M[i]:=by
 unfold at_; rw [Int.toNat_natCast,List.getD_eq_getElem?_getD,List.getElem?_eq_getElem hi]; rfl
theorem wf_push {N:List Nd} {n:Nd} (h:Wf N) (hf:y2 N n=0) (hl:N.length < 1024) (hnew:n ∉ N):Wf (N ++ [n]):=by
 have hnd : ∀ i:Int,inb i N.length=true→nd (N ++ [n]) i=nd N i:=by
  intro i hi
  have h1:=zC hi
  unfold nd zap vm
  have h2:i.toNat < N.length:=by omega
  rw [if_pos (by simp; omega),if_pos (by simp; omega)]
  simp only
  rw [List.getD_eq_getElem?_getD,List.getElem?_append_left h2,← List.getD_eq_getElem?_getD]
 have hlast:nd (N ++ [n]) N.length=n:=by
  unfold nd zap vm
  rw [if_pos (by simp; omega)]
  simp
 have hsplit : ∀ i:Int,inb i (N ++ [n]).length=true→inb i N.length=true∨i=N.length:=by
  intro i hi
  have:=zC hi
  simp at this
  simp only [inb,Bool.and_eq_true,decide_eq_true_eq]; omega
 have hkind:n.kind=1∨n.kind=2∨n.kind=3∨n.kind=4∨n.kind=5:=by
  unfold y2 at hf
  by_cases k1:n.kind=1
  ·exact .inl k1
  by_cases k2:n.kind=2
  ·exact .inr (.inl k2)
  by_cases k3:n.kind=3∨n.kind=4∨n.kind=5
  ·exact .inr (.inr k3)
  ·simp [k1,k2,k3] at hf
 refine ⟨by simp; omega,by rw [List.nodup_append]; exact ⟨h.nodup,by simp,fun a ha b hb e=>hnew (by rw [← List.mem_singleton.1 hb,← e]; exact ha)⟩,fun i hi=>?_,fun i hi hk=>?_,fun j m hm=>?_⟩
 ·rcases hsplit i hi with h1 | rfl
  ·rw [hnd i h1]; exact h.kind i h1
  ·rw [hlast]; exact hkind
 ·rcases hsplit i hi with h1 | rfl
  ·rw [hnd i h1] at hk ⊢; exact h.kids i h1 hk
  ·rw [hlast] at hk ⊢
   unfold y2 at hf
   have k1:¬ n.kind=1:=by omega
   have k2:¬ n.kind=2:=by omega
   rw [if_neg k1,if_neg k2,if_pos hk] at hf
   split at hf
   ·simp at hf
   ·rename_i hh
    simp only [not_or,Bool.not_eq_false] at hh
    obtain ⟨⟨_,h1⟩,h2⟩ := hh
    simp only [vm,Bool.and_eq_true,decide_eq_true_eq] at h1 h2
    exact ⟨h1,h2⟩
 ·by_cases hj:j < N.length
  ·rw [List.getElem?_append_left hj] at hm
   rw [List.take_append_of_le_length (by omega)]; exact h.fits j m hm
  ·have hj2:j < (N ++ [n]).length:=(List.getElem?_eq_some_iff.1 hm).1
   have e:j=N.length:=by simp at hj2; omega
   subst e
   simp at hm
   subst hm
   simpa using hf
theorem from_some {rows:List Nd} (hn : ∀ n ∈ rows,n.name.size < 9223372036854775808) : ∃ r:Tb × Int,ref03_From.f rows=some r∧formula_From.f rows=some r∧(r.2=0→r.1=some rows∧Wf rows):=by
 have hstep : ∀ (N:List Nd) (i:Nat),i < rows.length→N.length ≤ 1024→ref03_From.b0 rows i (some N)=some (if (putS N (at_ Nd.z rows i)).2.2 ≠ 0 then .ret (none,(putS N (at_ Nd.z rows i)).2.2) else if (putS N (at_ Nd.z rows i)).2.1 ≠ i then .ret (none,31) else .go (some (putS N (at_ Nd.z rows i)).1)) ∧
   formula_From.b0 rows i (some N)=ref03_From.b0 rows i (some N):=by
  intro N i hi hN
  have hm:(at_ Nd.z rows i).name.size < 9223372036854775808:=by rw [rows_take hi]; exact hn _ (List.getElem_mem hi)
  have h1:ref03_From.b0 rows i (some N)=some (if (putS N (at_ Nd.z rows i)).2.2 ≠ 0 then .ret (none,(putS N (at_ Nd.z rows i)).2.2) else if (putS N (at_ Nd.z rows i)).2.1 ≠ i then .ret (none,31) else .go (some (putS N (at_ Nd.z rows i)).1)):=by
   unfold ref03_From.b0
   rw [docPut hN hm]
   simp only [Option.bind_some,decide_eq_true_eq]
   split
   ·rfl
   ·split <;> rfl
  refine ⟨h1,?_⟩
  rw [h1]
  unfold formula_From.b0
  rw [progPut hm]
  simp only [Option.bind_some]
  by_cases e:(putS N (at_ Nd.z rows i)).2.2=0
  ·by_cases e2:(putS N (at_ Nd.z rows i)).2.1=i
   ·simp [e,e2]
   ·simp [e,e2]
  ·simp [e]
 have main : ∀ (n i:Nat),i + n=rows.length→i ≤ 1024→Wf (rows.take i) → ∃ o,forN (fun j s=>ref03_From.b0 rows j s) n i (some (rows.take i))=some o∧forN (fun j s=>formula_From.b0 rows j s) n i (some (rows.take i))=some o ∧
   ((∃ e,e ≠ 0∧o = .inr (none,e))∨(o = .inl (some rows)∧Wf rows)):=by
  intro n
  induction n with
  | zero =>
   intro i hi _ hw
   rw [List.take_of_length_le (by omega)] at hw ⊢
   exact ⟨_,rfl,rfl,.inr ⟨rfl,hw⟩⟩
  | succ n ih =>
   intro i hi hle hw
   have hil:i < rows.length:=by omega
   have hlen:(rows.take i).length=i:=by simp; omega
   obtain ⟨h1,h2⟩ := hstep (rows.take i) i hil (by omega)
   simp only [forN]
   rw [h2,h1]
   by_cases e:(putS (rows.take i) (at_ Nd.z rows i)).2.2=0
   ·by_cases e2:(putS (rows.take i) (at_ Nd.z rows i)).2.1=i
    ·simp only [e,e2,ne_eq,not_true_eq_false,if_false,Option.bind_some]
     have hput:y2 (rows.take i) (at_ Nd.z rows i)=0∧i < 1024∧at_ Nd.z rows i ∉ rows.take i∧(putS (rows.take i) (at_ Nd.z rows i)).1=rows.take i ++ [at_ Nd.z rows i]:=by
      by_cases hf:y2 (rows.take i) (at_ Nd.z rows i)=0
      ·cases hk:(rows.take i).idxOf? (at_ Nd.z rows i) with
       | some k =>
        rw [put_old hf hk] at e2
        have:k < (rows.take i).length:=by
         have:=List.idxOf?_eq_some_iff.1 hk
         exact this.1
        simp only at e2; omega
       | none =>
        by_cases hl:1024 ≤ (rows.take i).length
        ·rw [put_full hf hk hl] at e; simp at e
        ·rw [put_new hf hk hl]
         exact ⟨hf,by omega,List.idxOf?_eq_none_iff.1 hk,rfl⟩
      ·rw [put_bad hf] at e; exact absurd e hf
     obtain ⟨hf,hlt,hnew,hp⟩ := hput
     have ht:rows.take i ++ [at_ Nd.z rows i]=rows.take (i + 1):=by
      rw [rows_take hil,List.take_succ_eq_append_getElem hil]
     rw [hp,ht]
     have:=ih (i + 1) (by omega) (by omega) (by rw [← ht]; exact wf_push hw hf (by omega) hnew)
     simpa using this
    ·simp only [e,e2,ne_eq,not_true_eq_false,not_false_eq_true,if_false,if_true,Option.bind_some]
     exact ⟨_,rfl,rfl,.inl ⟨31,by decide,rfl⟩⟩
   ·simp only [e,ne_eq,not_false_eq_true,if_true,Option.bind_some]
    exact ⟨_,rfl,rfl,.inl ⟨_,e,rfl⟩⟩
 have e0:(((rows.length:Nat):Int) - 0).toNat=rows.length:=by omega
 obtain ⟨o,h1,h2,h3⟩ := main rows.length 0 (by omega) (by omega) ⟨by simp,by simp,fun i hi=>absurd (zC hi) (by simp),fun i hi=>absurd (zC hi) (by simp),fun j n h=>by simp at h⟩
 unfold ref03_From.f formula_From.f formula_New.f
 rw [e0]
 simp only [Option.bind_some]
 rw [show (0:Int)=((0:Nat):Int) from rfl]
 rw [List.take_zero] at h1 h2
 rw [h1,h2]
 rcases h3 with ⟨e,he,rfl⟩ | ⟨rfl,hw⟩
 ·exact ⟨_,rfl,rfl,fun q=>absurd q he⟩
 ·exact ⟨_,rfl,rfl,fun _=>⟨rfl,hw⟩⟩
theorem same_self (l:List Nd):ref03_Same.f l l=some true:=by
 unfold ref03_Same.f
 have h1:=zaI (b:=fun i s=>ref03_Same.b0 l l i) (p:=fun _=>false) (r:=fun _=>false) l.length 0 () (by
  intro k _ hk
  unfold ref03_Same.b0
  rw [inb_nat]
  simp [chk]
  omega)
 have e0:(((l.length:Nat):Int) - 0).toNat=l.length:=by omega
 rw [e0,show (0:Int)=((0:Nat):Int) from rfl,h1,show (List.range' 0 l.length).find? (fun _=>false)=none from List.find?_eq_none.2 (by simp),if_neg (by simp)]
 rfl
theorem like_self (M:List Nd):law03_Like.f (some M) (some M)=some true:=by
 simp [law03_Like.f,chk,formula_Table_Rows.f,same_self,formula_Table_Len.f]
theorem both_some {rows:List Nd} (hn : ∀ n ∈ rows,n.name.size < 9223372036854775808) (hl:rows.length * 40 ≤ 140737488355328):law03_Both.f rows=some (none,none,false)∨(law03_Both.f rows=some (some rows,some rows,true)∧Wf rows):=by
 obtain ⟨r,h1,h2,h3⟩ := from_some hn
 have hc:(([]:List Nd).length + rows.length) * 40 ≤ 140737488355328:=by rw [List.length_nil,Nat.zero_add]; exact hl
 unfold law03_Both.f
 rw [chk,if_pos (decide_eq_true hc),h1]
 simp only [Option.bind_some,List.nil_append,h2]
 by_cases e:r.2=0
 ·obtain ⟨h4,hw⟩ := h3 e
  exact .inr ⟨by rw [h4]; simp [e],hw⟩
 ·exact .inl (by simp [e])
end Go.Proofs.YtflieamjacclnaaGreatDoor
end
section
namespace Go.Proofs.YtflieamjacclnaaGreatDoor
open Gw
inductive Pt where
 | v (c:UInt8)
 | bot
 | bin (k:Int) (a b:Pt)
namespace Pt
def enc:Pt→List UInt8
 | v c=>[c]
 | bot=>[48]
 | bin k a b=>(if k=5 then 62 else if k=3 then 38 else 124) :: (a.enc ++ b.enc)
def ok:Pt→Prop
 | v c=>c.toNat ≠ 62∧c.toNat ≠ 38∧c.toNat ≠ 124∧c.toNat ≠ 48
 | bot=>True
 | bin k a b=>(k=5∨k=3∨k=4)∧a.ok∧b.ok
def dep:Pt→Nat
 | v _=>1
 | bot=>1
 | bin _ a b=>1 + max a.dep b.dep
end Pt
def yk (M:List Nd):Pt→Int→List (Int × Int)→List (Int × Int) × Bool
 | .v c,id,s=>(Gw.ins (c.toNat:Int) id s,!(Gw.look (c.toNat:Int) s).isSome || decide ((Gw.look (c.toNat:Int) s).getD 0=id))
 | .bot,id,s=>(s,decide ((nd M id).kind=2))
 | .bin k a b,id,s=>if (nd M id).kind ≠ k then (s,false) else if (yk M a (nd M id).l s).2 then yk M b (nd M id).r (yk M a (nd M id).l s).1 else ((yk M a (nd M id).l s).1,false)
theorem sb_cons (c:UInt8) (l:List UInt8):sb ⟨(c :: l).toArray⟩ 0=(c.toNat:Int):=by
 unfold sb
 rw [show (⟨(c :: l).toArray⟩ : ByteArray)[0]? = some c from rfl]
 rfl
theorem sfrom_cons (c:UInt8) (l:List UInt8):sfrom ⟨(c :: l).toArray⟩ 1=⟨l.toArray⟩ := by
 unfold sfrom
 apply ByteArray.ext
 rw [ByteArray.data_extract]
 apply Array.toList_inj.1
 simp [ByteArray.size]
theorem size_cons (c:UInt8) (l:List UInt8):(⟨(c :: l).toArray⟩ : ByteArray).size=l.length + 1:=by simp [ByteArray.size]
theorem node_of (M:List Nd) (i:Int):(formula_Table_Node.f (some M) i)=some (zap M i):=rfl
theorem pat_some (M:List Nd) : ∀ (p:Pt),p.ok → ∀ (k:Nat),p.dep ≤ k → ∀ (id:Int) (s:List (Int × Int)) (rest:List UInt8),∃ q,hilbert_pattern_is.f k ⟨some M,s⟩ id ⟨(p.enc ++ rest).toArray⟩ = some q∧q.1.t=some M∧q.2.2=(yk M p id s).2∧((yk M p id s).2=true→q.1.seen=(yk M p id s).1∧q.2.1=⟨rest.toArray⟩)
 | .v c,hp,k,hk,id,s,rest=>by
  obtain ⟨k,rfl⟩ : ∃ k',k=k' + 1:=⟨k - 1,by simp only [Pt.dep] at hk; omega⟩
  obtain ⟨h1,h2,h3,h4⟩ := hp
  have e:(Pt.v c).enc ++ rest=c :: rest:=rfl
  rw [e]
  refine ⟨(⟨some M,(yk M (.v c) id s).1⟩,⟨rest.toArray⟩,(yk M (.v c) id s).2),?_,rfl,rfl,fun _=>⟨rfl,rfl⟩⟩
  show hilbert_pattern_is.g _ _ _ _=_
  unfold hilbert_pattern_is.g
  simp only [sb_cons,sfrom_cons,size_cons,node_of,chk,inb,Option.bind_some]
  have n1:¬ ((c.toNat:Int)=62):=by omega
  have n2:¬ ((c.toNat:Int)=38):=by omega
  have n3:¬ ((c.toNat:Int)=124):=by omega
  have n4:¬ ((c.toNat:Int)=48):=by omega
  simp [n1,n2,n3,n4,aft,yk]
  omega
 | .bot,hp,k,hk,id,s,rest=>by
  obtain ⟨k,rfl⟩ : ∃ k',k=k' + 1:=⟨k - 1,by simp only [Pt.dep] at hk; omega⟩
  have e:Pt.bot.enc ++ rest=48 :: rest:=rfl
  rw [e]
  refine ⟨(⟨some M,s⟩,⟨rest.toArray⟩,(yk M .bot id s).2),?_,rfl,rfl,fun _=>⟨rfl,rfl⟩⟩
  show hilbert_pattern_is.g _ _ _ _=_
  unfold hilbert_pattern_is.g
  simp only [sb_cons,sfrom_cons,size_cons,node_of,chk,inb,Option.bind_some]
  simp [aft,yk]
  omega
 | .bin kd a b,hp,k,hk,id,s,rest=>by
  obtain ⟨k,rfl⟩ : ∃ k',k=k' + 1:=⟨k - 1,by simp only [Pt.dep] at hk; omega⟩
  obtain ⟨h1,ha,hb⟩ := hp
  have hk1:a.dep ≤ k:=by simp only [Pt.dep] at hk; omega
  have hk2:b.dep ≤ k:=by simp only [Pt.dep] at hk; omega
  have e:(Pt.bin kd a b).enc ++ rest=(if kd=5 then 62 else if kd=3 then 38 else 124) :: (a.enc ++ (b.enc ++ rest)):=by simp [Pt.enc,List.append_assoc]
  rw [e]
  have hq : ∃ q,hilbert_pattern_is.g (hilbert_pattern_is.f k) ⟨some M,s⟩ id ⟨((if kd=5 then 62 else if kd=3 then 38 else 124:UInt8) :: (a.enc ++ (b.enc ++ rest))).toArray⟩ = (if decide ((nd M id).kind ≠ kd) then some (⟨some M,s⟩,⟨#[]⟩,false) else (hilbert_pattern_is.f k ⟨some M,s⟩ (nd M id).l ⟨(a.enc ++ (b.enc ++ rest)).toArray⟩).bind fun r29=>if !r29.2.2 then some (r29.1,(⟨#[]⟩ : ByteArray),false) else (hilbert_pattern_is.f k r29.1 (nd M id).r r29.2.1).bind fun r33=>some (r33.1,r33.2.1,r33.2.2))∧q=():=by
   refine ⟨(),?_,rfl⟩
   unfold hilbert_pattern_is.g
   simp only [sb_cons,sfrom_cons,size_cons,node_of,chk,inb,Option.bind_some]
   rcases h1 with rfl | rfl | rfl <;> simp [aft,nd] <;> rw [if_pos (by omega),if_pos (by omega)]
  obtain ⟨_,hq,_⟩ := hq
  show ∃ q,hilbert_pattern_is.g _ _ _ _=_∧_
  rw [hq]
  by_cases hkd:(nd M id).kind=kd
  ·simp only [hkd,ne_eq,not_true_eq_false,decide_false,Bool.false_eq_true,if_false]
   obtain ⟨q1,e1,t1,o1,m1⟩ := pat_some M a ha k hk1 (nd M id).l s (b.enc ++ rest)
   rw [e1]
   simp only [Option.bind_some]
   cases hm:(yk M a (nd M id).l s).2 with
   | false =>
    rw [hm] at o1
    refine ⟨(q1.1,⟨#[]⟩,false),by simp [o1],t1,by simp [yk,hkd,hm],fun h=>?_⟩
    simp [yk,hkd,hm] at h
   | true =>
    rw [hm] at o1
    obtain ⟨m2,m3⟩ := m1 hm
    obtain ⟨q2,e2,t2,o2,m4⟩ := pat_some M b hb k hk2 (nd M id).r (yk M a (nd M id).l s).1 rest
    have e3:q1.1=⟨some M,(yk M a (nd M id).l s).1⟩ := by cases h:q1.1; simp_all
    refine ⟨q2,by rw [o1,e3,m3,e2]; rfl,t2,?_,fun h=>?_⟩
    ·rw [o2]; simp [yk,hkd,hm]
    ·have:=m4 (by simpa [yk,hkd,hm] using h)
     simpa [yk,hkd,hm] using this
  ·refine ⟨(⟨some M,s⟩,⟨#[]⟩,false),by simp [hkd],rfl,by simp [yk,hkd],fun h=>?_⟩
   simp [yk,hkd] at h
abbrev vA:Pt := .v 65
abbrev vB:Pt := .v 66
abbrev vC:Pt := .v 67
def schT (k:Int):Pt :=
 if k=1 then .bin 5 vA (.bin 5 vB vA) else if k=2 then .bin 5 (.bin 5 vA (.bin 5 vB vC)) (.bin 5 (.bin 5 vA vB) (.bin 5 vA vC))
 else if k=3 then .bin 5 (.bin 3 vA vB) vA else if k=4 then .bin 5 (.bin 3 vA vB) vB else if k=5 then .bin 5 vA (.bin 5 vB (.bin 3 vA vB))
 else if k=6 then .bin 5 vA (.bin 4 vA vB) else if k=7 then .bin 5 vB (.bin 4 vA vB) else if k=8 then .bin 5 (.bin 5 vA vC) (.bin 5 (.bin 5 vB vC) (.bin 5 (.bin 4 vA vB) vC))
 else .bin 5 .bot vA
def axS (M:List Nd) (k i:Int):Bool :=
 let n:=nd M i; let x:=nd M n.l; let y:=nd M n.r; let b:=nd M y.l; let c:=nd M y.r
 decide (n.kind=5) &&
 (if k=1 then decide (y.kind=5) && decide (y.r=n.l)
  else if k=2 then decide (y.kind=5) && decide (x.kind=5) && decide ((nd M x.r).kind=5) && decide (b.kind=5) && decide (c.kind=5) && decide (b.l=x.l) && decide (c.l=x.l) && decide (b.r=(nd M x.r).l) && decide (c.r=(nd M x.r).r)
  else if k=3 then decide (x.kind=3) && decide (x.l=n.r)
  else if k=4 then decide (x.kind=3) && decide (x.r=n.r)
  else if k=5 then decide (y.kind=5) && decide (c.kind=3) && decide (c.l=n.l) && decide (c.r=y.l)
  else if k=6 then decide (y.kind=4) && decide (y.l=n.l)
  else if k=7 then decide (y.kind=4) && decide (y.r=n.l)
  else if k=8 then decide (y.kind=5) && decide (x.kind=5) && decide (b.kind=5) && decide (c.kind=5) && decide ((nd M c.l).kind=4) && decide ((nd M c.l).l=x.l) && decide ((nd M c.l).r=b.l) && decide (b.r=x.r) && decide (c.r=x.r)
  else if k=9 then decide (x.kind=2)
  else false)
theorem match_1 (M:List Nd) (i:Int):(yk M (schT 1) i []).2=axS M 1 i:=by
 simp only [schT,axS,yk,if_true,  if_false]
 by_cases h0:(nd M i).kind=5
 rotate_left
 ·simp [h0]
 by_cases c0:(nd M (nd M i).r).kind=5
 rotate_left
 ·simp [Gw.ins,Gw.look,h0,c0] <;> grind
 simp [Gw.ins,Gw.look,h0,c0]
 try grind
theorem match_2 (M:List Nd) (i:Int):(yk M (schT 2) i []).2=axS M 2 i:=by
 simp only [schT,axS,yk,if_true,show ¬ ((2:Int)=1) by decide,if_false]
 by_cases h0:(nd M i).kind=5
 rotate_left
 ·simp [h0]
 by_cases c0:(nd M (nd M i).l).kind=5
 rotate_left
 ·simp [Gw.ins,Gw.look,h0,c0] <;> grind
 by_cases c1:(nd M (nd M (nd M i).l).r).kind=5
 rotate_left
 ·simp [Gw.ins,Gw.look,h0,c0,c1] <;> grind
 by_cases c2:(nd M (nd M i).r).kind=5
 rotate_left
 ·simp [Gw.ins,Gw.look,h0,c0,c1,c2] <;> grind
 by_cases c3:(nd M (nd M (nd M i).r).l).kind=5
 rotate_left
 ·simp [Gw.ins,Gw.look,h0,c0,c1,c2,c3] <;> grind
 by_cases c4:(nd M (nd M i).l).l=(nd M (nd M (nd M i).r).l).l
 rotate_left
 ·have d4:¬ ((nd M (nd M (nd M i).r).l).l=(nd M (nd M i).l).l):=fun h=>c4 (Eq.symm h); simp [Gw.ins,Gw.look,h0,c0,c1,c2,c3,c4,d4] <;> grind
 by_cases c5:(nd M (nd M (nd M i).l).r).l=(nd M (nd M (nd M i).r).l).r
 rotate_left
 ·have d5:¬ ((nd M (nd M (nd M i).r).l).r=(nd M (nd M (nd M i).l).r).l):=fun h=>c5 (Eq.symm h); simp [Gw.ins,Gw.look,h0,c0,c1,c2,c3,c4,c5,d5] <;> grind
 by_cases c6:(nd M (nd M (nd M i).r).r).kind=5
 rotate_left
 ·simp [Gw.ins,Gw.look,h0,c0,c1,c2,c3,c4,c5,c6] <;> grind
 by_cases c7:(nd M (nd M i).l).l=(nd M (nd M (nd M i).r).r).l
 rotate_left
 ·have d7:¬ ((nd M (nd M (nd M i).r).r).l=(nd M (nd M i).l).l):=fun h=>c7 (Eq.symm h); simp [Gw.ins,Gw.look,h0,c0,c1,c2,c3,c4,c5,c6,c7,d7] <;> grind
 simp [Gw.ins,Gw.look,h0,c0,c1,c2,c3,c4,c5,c6,c7]
 try grind
theorem match_3 (M:List Nd) (i:Int):(yk M (schT 3) i []).2=axS M 3 i:=by
 simp only [schT,axS,yk,if_true,show ¬ ((3:Int)=1) by decide,show ¬ ((3:Int)=2) by decide,if_false]
 by_cases h0:(nd M i).kind=5
 rotate_left
 ·simp [h0]
 by_cases c0:(nd M (nd M i).l).kind=3
 rotate_left
 ·simp [Gw.ins,Gw.look,h0,c0] <;> grind
 simp [Gw.ins,Gw.look,h0,c0]
 try grind
theorem match_4 (M:List Nd) (i:Int):(yk M (schT 4) i []).2=axS M 4 i:=by
 simp only [schT,axS,yk,if_true,show ¬ ((4:Int)=1) by decide,show ¬ ((4:Int)=2) by decide,show ¬ ((4:Int)=3) by decide,if_false]
 by_cases h0:(nd M i).kind=5
 rotate_left
 ·simp [h0]
 by_cases c0:(nd M (nd M i).l).kind=3
 rotate_left
 ·simp [Gw.ins,Gw.look,h0,c0] <;> grind
 simp [Gw.ins,Gw.look,h0,c0]
 try grind
theorem match_5 (M:List Nd) (i:Int):(yk M (schT 5) i []).2=axS M 5 i:=by
 simp only [schT,axS,yk,if_true,show ¬ ((5:Int)=1) by decide,show ¬ ((5:Int)=2) by decide,show ¬ ((5:Int)=3) by decide,show ¬ ((5:Int)=4) by decide,if_false]
 by_cases h0:(nd M i).kind=5
 rotate_left
 ·simp [h0]
 by_cases c0:(nd M (nd M i).r).kind=5
 rotate_left
 ·simp [Gw.ins,Gw.look,h0,c0] <;> grind
 by_cases c1:(nd M (nd M (nd M i).r).r).kind=3
 rotate_left
 ·simp [Gw.ins,Gw.look,h0,c0,c1] <;> grind
 simp [Gw.ins,Gw.look,h0,c0,c1]
 try grind
theorem match_6 (M:List Nd) (i:Int):(yk M (schT 6) i []).2=axS M 6 i:=by
 simp only [schT,axS,yk,if_true,show ¬ ((6:Int)=1) by decide,show ¬ ((6:Int)=2) by decide,show ¬ ((6:Int)=3) by decide,show ¬ ((6:Int)=4) by decide,show ¬ ((6:Int)=5) by decide,if_false]
 by_cases h0:(nd M i).kind=5
 rotate_left
 ·simp [h0]
 by_cases c0:(nd M (nd M i).r).kind=4
 rotate_left
 ·simp [Gw.ins,Gw.look,h0,c0] <;> grind
 simp [Gw.ins,Gw.look,h0,c0]
 try grind
theorem match_7 (M:List Nd) (i:Int):(yk M (schT 7) i []).2=axS M 7 i:=by
 simp only [schT,axS,yk,if_true,show ¬ ((7:Int)=1) by decide,show ¬ ((7:Int)=2) by decide,show ¬ ((7:Int)=3) by decide,show ¬ ((7:Int)=4) by decide,show ¬ ((7:Int)=5) by decide,show ¬ ((7:Int)=6) by decide,if_false]
 by_cases h0:(nd M i).kind=5
 rotate_left
 ·simp [h0]
 by_cases c0:(nd M (nd M i).r).kind=4
 rotate_left
 ·simp [Gw.ins,Gw.look,h0,c0] <;> grind
 simp [Gw.ins,Gw.look,h0,c0]
 try grind
theorem match_8 (M:List Nd) (i:Int):(yk M (schT 8) i []).2=axS M 8 i:=by
 simp only [schT,axS,yk,if_true,show ¬ ((8:Int)=1) by decide,show ¬ ((8:Int)=2) by decide,show ¬ ((8:Int)=3) by decide,show ¬ ((8:Int)=4) by decide,show ¬ ((8:Int)=5) by decide,show ¬ ((8:Int)=6) by decide,show ¬ ((8:Int)=7) by decide,if_false]
 by_cases h0:(nd M i).kind=5
 rotate_left
 ·simp [h0]
 by_cases c0:(nd M (nd M i).l).kind=5
 rotate_left
 ·simp [Gw.ins,Gw.look,h0,c0] <;> grind
 by_cases c1:(nd M (nd M i).r).kind=5
 rotate_left
 ·simp [Gw.ins,Gw.look,h0,c0,c1] <;> grind
 by_cases c2:(nd M (nd M (nd M i).r).l).kind=5
 rotate_left
 ·simp [Gw.ins,Gw.look,h0,c0,c1,c2] <;> grind
 by_cases c3:(nd M (nd M i).l).r=(nd M (nd M (nd M i).r).l).r
 rotate_left
 ·have d3:¬ ((nd M (nd M (nd M i).r).l).r=(nd M (nd M i).l).r):=fun h=>c3 (Eq.symm h); simp [Gw.ins,Gw.look,h0,c0,c1,c2,c3,d3] <;> grind
 by_cases c4:(nd M (nd M (nd M i).r).r).kind=5
 rotate_left
 ·simp [Gw.ins,Gw.look,h0,c0,c1,c2,c3,c4] <;> grind
 by_cases c5:(nd M (nd M (nd M (nd M i).r).r).l).kind=4
 rotate_left
 ·simp [Gw.ins,Gw.look,h0,c0,c1,c2,c3,c4,c5] <;> grind
 by_cases c6:(nd M (nd M i).l).l=(nd M (nd M (nd M (nd M i).r).r).l).l
 rotate_left
 ·have d6:¬ ((nd M (nd M (nd M (nd M i).r).r).l).l=(nd M (nd M i).l).l):=fun h=>c6 (Eq.symm h); simp [Gw.ins,Gw.look,h0,c0,c1,c2,c3,c4,c5,c6,d6] <;> grind
 by_cases c7:(nd M (nd M (nd M i).r).l).l=(nd M (nd M (nd M (nd M i).r).r).l).r
 rotate_left
 ·have d7:¬ ((nd M (nd M (nd M (nd M i).r).r).l).r=(nd M (nd M (nd M i).r).l).l):=fun h=>c7 (Eq.symm h); simp [Gw.ins,Gw.look,h0,c0,c1,c2,c3,c4,c5,c6,c7,d7] <;> grind
 simp [Gw.ins,Gw.look,h0,c0,c1,c2,c3,c4,c5,c6,c7]
 try grind
theorem match_9 (M:List Nd) (i:Int):(yk M (schT 9) i []).2=axS M 9 i:=by
 simp only [schT,axS,yk,if_true,show ¬ ((9:Int)=1) by decide,show ¬ ((9:Int)=2) by decide,show ¬ ((9:Int)=3) by decide,show ¬ ((9:Int)=4) by decide,show ¬ ((9:Int)=5) by decide,show ¬ ((9:Int)=6) by decide,show ¬ ((9:Int)=7) by decide,show ¬ ((9:Int)=8) by decide,if_false]
 by_cases h0:(nd M i).kind=5
 rotate_left
 ·simp [h0]
 by_cases c0:(nd M (nd M i).l).kind=2
 rotate_left
 ·simp [Gw.ins,Gw.look,h0,c0] <;> grind
 simp [Gw.ins,Gw.look,h0,c0]
 try grind
theorem match_ax (M:List Nd) (k i:Int) (hk:1 ≤ k∧k ≤ 9):(yk M (schT k) i []).2=axS M k i:=by
 have h:k=1∨k=2∨k=3∨k=4∨k=5∨k=6∨k=7∨k=8∨k=9:=by omega
 rcases h with rfl | rfl | rfl | rfl | rfl | rfl | rfl | rfl | rfl
 ·exact match_1 M i
 ·exact match_2 M i
 ·exact match_3 M i
 ·exact match_4 M i
 ·exact match_5 M i
 ·exact match_6 M i
 ·exact match_7 M i
 ·exact match_8 M i
 ·exact match_9 M i
theorem sch_enc (k:Int) (hk:1 ≤ k∧k ≤ 9):hilbert_scheme.f k=some ⟨((schT k).enc ++ []).toArray⟩ ∧ (schT k).ok∧(schT k).dep ≤ 10∧(⟨((schT k).enc ++ []).toArray⟩ : ByteArray) ≠ ⟨#[]⟩ := by
 have h:k=1∨k=2∨k=3∨k=4∨k=5∨k=6∨k=7∨k=8∨k=9:=by omega
 rcases h with rfl | rfl | rfl | rfl | rfl | rfl | rfl | rfl | rfl <;> refine ⟨rfl,?_,by decide,by decide⟩ <;> simp [schT,Pt.ok]
theorem fits_ax {M:List Nd} {K:Nat} (hK:10 ≤ K) (k i:Int):hilbert_fits.f K (some M) k i=some (some M,axS M k i):=by
 unfold hilbert_fits.f
 by_cases hk:1 ≤ k∧k ≤ 9
 ·obtain ⟨h1,h2,h3,h4⟩ := sch_enc k hk
  rw [h1,Option.bind_some,if_neg (by simpa using h4)]
  obtain ⟨q,e1,e2,e3,_⟩ := pat_some M (schT k) h2 K (by omega) i [] []
  rw [e1,Option.bind_some,e2,e3,match_ax M k i hk]
 ·have h1:hilbert_scheme.f k=some ⟨#[]⟩ := by
   unfold hilbert_scheme.f
   by_cases h0:k=0
   ·subst h0; rfl
   ·rw [if_pos (by simp; omega)]
  have h2:axS M k i=false:=by
   unfold axS
   simp [show ¬ k=1 by omega,show ¬ k=2 by omega,show ¬ k=3 by omega,show ¬ k=4 by omega,show ¬ k=5 by omega,show ¬ k=6 by omega,show ¬ k=7 by omega,show ¬ k=8 by omega,show ¬ k=9 by omega]
  rw [h1,h2]; rfl
theorem has1_loop (n:Int) : ∀ (l:List Int),slices_ContainsFunc_int_int__hilbert_has_1.f l n=some (l.any fun i=>decide (i < 0) || decide (n ≤ i)):=by
 intro l
 unfold slices_ContainsFunc_int_int__hilbert_has_1.f slices_IndexFunc_int_int__hilbert_has_1.f
 have h1:=zaI (b:=fun i s=>slices_IndexFunc_int_int__hilbert_has_1.b0 l n i) (p:=fun j=>decide (l.getD j 0 < 0) || decide (n ≤ l.getD j 0)) (r:=fun j=>(j:Int)) l.length 0 () (by
  intro j _ hj
  unfold slices_IndexFunc_int_int__hilbert_has_1.b0 hilbert_has_1.f at_
  rw [Int.toNat_natCast]
  simp only [Option.bind_some]
  split <;> rfl)
 have e0:(((l.length:Nat):Int) - 0).toNat=l.length:=by omega
 rw [e0,show forN (fun i s=>slices_IndexFunc_int_int__hilbert_has_1.b0 l n i) l.length 0 ()=_ from h1,any_find]
 cases hq:(List.range' 0 l.length).find? (fun j=>decide (l.getD j 0 < 0) || decide (n ≤ l.getD j 0)) with
 | none =>
  have:l.find? (fun i=>decide (i < 0) || decide (n ≤ i))=none:=by
   rw [List.find?_eq_none] at hq ⊢
   intro x hx
   obtain ⟨j,hj,rfl⟩ := List.mem_iff_getElem.1 hx
   have:=hq j (by simp; omega)
   simpa [List.getD_eq_getElem?_getD,hj] using this
  rw [this]; rfl
 | some j =>
  have h2:=List.find?_some hq
  have h3:=List.mem_of_find?_eq_some hq
  have hj:j < l.length:=by simpa using h3
  have:(l.find? (fun i=>decide (i < 0) || decide (n ≤ i))).isSome=true:=by
   rw [List.find?_isSome]
   exact ⟨l[j],List.getElem_mem hj,by simpa [List.getD_eq_getElem?_getD,hj] using h2⟩
  rw [this]
  simp [aft]
theorem has_some16 {M:List Nd} (hM:M.Nodup) (l:List Int):hilbert_has.f (some M) l=some (if l.all (fun i=>inb i M.length) then 0 else 31):=by
 have h1:formula_Table_Copy.f (some M)=some (some M):=by simp [formula_Table_Copy.f,chk,hM]
 unfold hilbert_has.f
 rw [h1]
 simp only [Option.bind_some,Option.isNone_some,Bool.false_eq_true,if_false,formula_Table_Len.f,Option.map_some,has1_loop]
 have h2:(l.any fun i=>decide (i < 0) || decide ((M.length:Int) ≤ i)) = !l.all fun i=>inb i M.length:=by
  rw [List.not_all_eq_any_not]
  congr 1; funext i
  unfold inb
  by_cases a:0 ≤ i <;> by_cases b:i < (M.length:Int) <;> simp [a,b] <;> omega
 rw [h2]
 cases l.all fun i=>inb i M.length <;> rfl
theorem zbL {M:List Nd} {i:Int} (h:inb i M.length=true):at_ Nd.z M i=nd M i:=by
 have:=zC h
 unfold at_ nd zap vm
 rw [if_pos (by simp; omega)]
end Go.Proofs.YtflieamjacclnaaGreatDoor
end
section
namespace Go.Proofs.YtflieamjacclnaaGreatDoor
open Gw
theorem wf_nil:Wf []:=⟨by simp,by simp,fun i hi=>absurd (zC hi) (by simp),fun i hi=>absurd (zC hi) (by simp),fun j n h=>by simp at h⟩
theorem tables16 {rows:List Nd} (hn : ∀ n ∈ rows,n.name.size < 9223372036854775808) (hl:rows.length * 40 ≤ 140737488355328) : ∃ M,law04_Tables.f rows=some (some M,some M)∧Wf M∧(M=rows∨M=[]):=by
 unfold law04_Tables.f
 rcases both_some hn hl with h | ⟨h,hw⟩
 ·exact ⟨[],by rw [h]; rfl,wf_nil,.inr rfl⟩
 ·exact ⟨rows,by rw [h]; rfl,hw,.inl rfl⟩
theorem impD16 {M:List Nd} {i:Int} (hi:inb i M.length=true):ref16_imp.f (some M) i=some ((nd M i).l,(nd M i).r,decide ((nd M i).kind=5)):=by
 unfold ref16_imp.f
 simp only [Option.isSome_some,Option.getD_some,chk,hi,if_true,zbL hi]
theorem Wf.l5 {M:List Nd} (h:Wf M) {i:Int} (hi:inb i M.length=true) (k:(nd M i).kind=5):inb (nd M i).l M.length=true:=h.left hi (.inr (.inr k))
theorem Wf.r5 {M:List Nd} (h:Wf M) {i:Int} (hi:inb i M.length=true) (k:(nd M i).kind=5):inb (nd M i).r M.length=true:=h.right hi (.inr (.inr k))
theorem docIs {M:List Nd} (hw:Wf M) {k i:Int} (hi:inb i M.length=true):ref16_Is.f (some M) k i=some (axS M k i):=by
 unfold ref16_Is.f
 rw [impD16 hi]
 simp only [Option.bind_some,Option.isSome_some,Option.getD_some]
 by_cases k0:(nd M i).kind=5
 rotate_left
 ·simp [k0,axS]
 have ha:=hw.l5 hi k0
 have hr:=hw.r5 hi k0
 rw [impD16 hr]
 simp only [k0,decide_true,Bool.not_true,Bool.false_eq_true,if_false,Option.bind_some,chk,if_true,ha,hr,zbL ha,zbL hr]
 unfold axS
 simp only [k0,decide_true,Bool.true_and]
 by_cases c1:k=1
 ·simp [c1]
 by_cases c2:k=2
 ·subst c2
  simp only [decide_false,Bool.false_eq_true,if_false,if_true,decide_true,show ¬ ((2:Int)=1) by decide]
  by_cases d1:(nd M (nd M i).r).kind=5
  rotate_left
  ·simp [d1]
  by_cases d2:(nd M (nd M i).l).kind=5
  rotate_left
  ·simp [d1,d2]
  have h1:=hw.r5 ha d2
  have h2:=hw.l5 hr d1
  have h3:=hw.r5 hr d1
  simp only [h1,h2,h3,zbL h1,zbL h2,zbL h3,Bool.or_true,if_true,decide_true,d1,d2,ne_eq,not_true_eq_false,decide_false,Bool.not_true,Bool.false_or,Bool.true_and]
  by_cases d3:(nd M (nd M (nd M i).l).r).kind=5 <;> by_cases d4:(nd M (nd M (nd M i).r).l).kind=5 <;> by_cases d5:(nd M (nd M (nd M i).r).r).kind=5 <;> simp [d3,d4,d5,Bool.and_assoc]
 by_cases c3:k=3
 ·simp [c3]
 by_cases c4:k=4
 ·simp [c4]
 by_cases c5:k=5
 ·subst c5
  simp only [decide_false,Bool.false_eq_true,if_false,if_true,decide_true,show ¬ ((5:Int)=1) by decide,show ¬ ((5:Int)=2) by decide,show ¬ ((5:Int)=3) by decide,show ¬ ((5:Int)=4) by decide]
  by_cases d1:(nd M (nd M i).r).kind=5
  rotate_left
  ·simp [d1]
  have h3:=hw.r5 hr d1
  simp [h3,zbL h3,d1,Bool.and_assoc]
 by_cases c6:k=6
 ·simp [c6]
 by_cases c7:k=7
 ·simp [c7]
 by_cases c8:k=8
 ·subst c8
  simp only [decide_false,Bool.false_eq_true,if_false,if_true,decide_true,show ¬ ((8:Int)=1) by decide,show ¬ ((8:Int)=2) by decide,show ¬ ((8:Int)=3) by decide,show ¬ ((8:Int)=4) by decide,show ¬ ((8:Int)=5) by decide,show ¬ ((8:Int)=6) by decide,show ¬ ((8:Int)=7) by decide]
  by_cases d1:(nd M (nd M i).r).kind=5
  rotate_left
  ·simp [d1]
  by_cases d2:(nd M (nd M i).l).kind=5
  rotate_left
  ·simp [d1,d2]
  have h2:=hw.l5 hr d1
  have h3:=hw.r5 hr d1
  simp only [h2,h3,zbL h2,zbL h3,Bool.or_true,if_true,decide_true,d1,d2,ne_eq,not_true_eq_false,decide_false,Bool.not_true,Bool.false_or,Bool.true_and]
  by_cases d3:(nd M (nd M (nd M i).r).r).kind=5
  rotate_left
  ·by_cases d4:(nd M (nd M (nd M i).r).l).kind=5 <;> simp [d3,d4]
  have h4:=hw.l5 h3 d3
  by_cases d4:(nd M (nd M (nd M i).r).l).kind=5 <;> by_cases d5:(nd M (nd M (nd M (nd M i).r).r).l).kind=4 <;> simp [d3,d4,d5,h4,zbL h4,Bool.and_assoc]
 by_cases c9:k=9
 ·simp [c9]
 simp [c1,c2,c3,c4,c5,c6,c7,c8,c9]
end Go.Proofs.YtflieamjacclnaaGreatDoor
end
section
namespace Go.Proofs.YtflieamjacclnaaGreatDoor
open Gw
def yY (M:List Nd) (hyps:List Int) (ls:List Ln) (i:Int):Bool :=
 let x:=at_ Ln.z ls i
 if x.kind=11 then decide (0 ≤ x.a) && decide (x.a < i) && decide (0 ≤ x.b) && decide (x.b < i) && decide ((nd M (at_ Ln.z ls x.a).form).kind=5) && decide ((nd M (at_ Ln.z ls x.a).form).l=(at_ Ln.z ls x.b).form) && decide ((nd M (at_ Ln.z ls x.a).form).r=x.form)
 else decide (x.a=0) && decide (x.b=0) && (if x.kind=10 then hyps.any (fun h=>decide (h=x.form)) else axS M x.kind x.form)
def jz (M:List Nd) (ls:List Ln):Bool:=ls.all fun x=>inb x.form M.length
def zbJ (M:List Nd) (hyps:List Int) (ls:List Ln):Int :=
 if hyps.all (fun h=>inb h M.length) && jz M ls then (if (List.range' 0 ls.length).all (fun j=>yY M hyps ls j) && !ls.isEmpty then 0 else 160) else 31
theorem zaB {M:List Nd} {ls:List Ln} (h:jz M ls=true) {j:Int} (hj:inb j ls.length=true):inb (at_ Ln.z ls j).form M.length=true:=by
 have h1:=zC hj
 have h2:at_ Ln.z ls j=ls[j.toNat]'(by omega):=by
  unfold at_; rw [List.getD_eq_getElem?_getD,List.getElem?_eq_getElem (by omega)]; rfl
 rw [h2]
 exact List.all_eq_true.1 h _ (List.getElem_mem _)
theorem yV {i:Int} {n:Nat} (h0:0 ≤ i) (h1:i < n):inb i n=true:=by simp [inb,h0,h1]
theorem right_prog {M:List Nd} (hw:Wf M) {K:Nat} (hK:10 ≤ K) {hyps:List Int} {m:List (Int × Int)} (hm : ∀ h,(0 < (Gw.look h m).getD 0)↔h ∈ hyps) {ls:List Ln} (hf:jz M ls=true) {i:Int} (hi:inb i ls.length=true) :
  hilbert_right.f K (some M) m ls i=some (some M,yY M hyps ls i):=by
 have h1:=zC hi
 unfold hilbert_right.f yY
 generalize hx:at_ Ln.z ls i=x
 simp only [chk,hi,if_true]
 by_cases k:x.kind=11
 ·simp only [k,ne_eq,not_true_eq_false,decide_false,Bool.false_eq_true,if_false,if_true]
  have hmin:(if x.b < x.a then x.b else x.a) < 0↔(x.a < 0∨x.b < 0):=by split <;> omega
  have hmax:i ≤ (if x.a < x.b then x.b else x.a)↔(i ≤ x.a∨i ≤ x.b):=by split <;> omega
  by_cases hc:0 ≤ x.a∧x.a < i∧0 ≤ x.b∧x.b < i
  ·have e1:(decide ((if x.b < x.a then x.b else x.a) < 0) || decide (i ≤ if x.a < x.b then x.b else x.a))=false:=by
    rw [decide_eq_false (by rw [hmin]; omega),decide_eq_false (by rw [hmax]; omega)]; rfl
   have e2:inb x.a ls.length=true:=yV hc.1 (by omega)
   have e3:inb x.b ls.length=true:=yV hc.2.2.1 (by omega)
   rw [e1]
   simp only [Bool.false_eq_true,if_false,e2,e3,if_true,node_of,Option.bind_some]
   have e4:=zaB hf e2
   have e5:decide ((zap M (at_ Ln.z ls x.a).form).1={ Nd.z with kind:=5,l:=(at_ Ln.z ls x.b).form,r:=x.form })=(decide ((nd M (at_ Ln.z ls x.a).form).kind=5) && decide ((nd M (at_ Ln.z ls x.a).form).l=(at_ Ln.z ls x.b).form) && decide ((nd M (at_ Ln.z ls x.a).form).r=x.form)):=by
    show decide (nd M (at_ Ln.z ls x.a).form=_)=_
    by_cases k5:(nd M (at_ Ln.z ls x.a).form).kind=5
    ·have hb:=hw.bare e4 (.inr (.inr k5))
     cases hn:nd M (at_ Ln.z ls x.a).form with
     | mk kd nm l r =>
      rw [hn] at hb k5
      simp only at hb k5
      subst hb k5
      have:({ Nd.z with kind:=5,l:=(at_ Ln.z ls x.b).form,r:=x.form }:Nd)=⟨5,⟨#[]⟩,(at_ Ln.z ls x.b).form,x.form⟩ := rfl
      rw [this]
      simp [Nd.mk.injEq]
    ·have:¬ nd M (at_ Ln.z ls x.a).form={ Nd.z with kind:=5,l:=(at_ Ln.z ls x.b).form,r:=x.form }:=fun e=>k5 (by rw [e])
     simp [this,k5]
   rw [e5]
   simp [hc]
  ·have e1:(decide ((if x.b < x.a then x.b else x.a) < 0) || decide (i ≤ if x.a < x.b then x.b else x.a))=true:=by
    rw [Bool.or_eq_true,decide_eq_true_eq,decide_eq_true_eq,hmin,hmax]; omega
   rw [e1]
   have e2:(decide (0 ≤ x.a) && decide (x.a < i) && decide (0 ≤ x.b) && decide (x.b < i))=false:=by
    rw [Bool.eq_false_iff]
    simp only [ne_eq,Bool.and_eq_true,decide_eq_true_eq,not_and]; omega
   simp [e2]
 ·simp only [k,ne_eq,not_false_eq_true,decide_true,if_true,if_false]
  by_cases k10:x.kind=10
  ·have e9:axS M 10 x.form=false:=by simp [axS]
   have e8:hyps.any (fun h=>decide (h=x.form))=decide (x.form ∈ hyps):=by
    rw [Bool.eq_iff_iff,List.any_eq_true]
    simp only [decide_eq_true_eq]
    exact ⟨fun ⟨y,h,e⟩ => e ▸ h,fun h=>⟨_,h,rfl⟩⟩
   simp only [k10,decide_true,Bool.true_and,if_true,e8]
   by_cases hp:x.form ∈ hyps
   ·have:=(hm x.form).2 hp
    simp [this,hp]
   ·have:¬ 0 < (Gw.look x.form m).getD 0:=fun q=>hp ((hm _).1 q)
    simp [this,hp,fits_ax hK,e9]
  ·simp [k10,fits_ax hK]
theorem right_doc {M:List Nd} (hw:Wf M) {hyps:List Int} {ls:List Ln} (hf:jz M ls=true) {i:Int} (hi:inb i ls.length=true) :
  ref16_right.f (some M) hyps ls i=some (yY M hyps ls i):=by
 have h1:=zC hi
 have hfi:=zaB hf hi
 unfold ref16_right.f yY
 generalize hx:at_ Ln.z ls i=x at *
 simp only [chk,hi,if_true]
 by_cases k:x.kind=11
 ·simp only [k,decide_true,if_true]
  by_cases hc:0 ≤ x.a∧x.a < i∧0 ≤ x.b∧x.b < i
  ·have e2:inb x.a ls.length=true:=yV hc.1 (by omega)
   have e3:inb x.b ls.length=true:=yV hc.2.2.1 (by omega)
   have n1:¬ x.a < 0:=by omega
   have n2:¬ i ≤ x.a:=by omega
   have n3:¬ x.b < 0:=by omega
   have n4:¬ i ≤ x.b:=by omega
   simp [n1,n2,n3,n4,e2,e3,hc,impD16 (zaB hf e2)]
  ·have e1:((decide (x.a < 0) || decide (i ≤ x.a)) || decide (x.b < 0) || decide (i ≤ x.b))=true:=by
    simp only [Bool.or_eq_true,decide_eq_true_eq]; omega
   have e2:(decide (0 ≤ x.a) && decide (x.a < i) && decide (0 ≤ x.b) && decide (x.b < i))=false:=by
    rw [Bool.eq_false_iff]
    simp only [ne_eq,Bool.and_eq_true,decide_eq_true_eq,not_and]; omega
   simp [e1,e2]
 ·simp only [k,decide_false,Bool.false_eq_true,if_false]
  by_cases ha:x.a=0
  rotate_left
  ·simp [ha]
  by_cases hb:x.b=0
  rotate_left
  ·simp [hb]
  simp only [ha,hb,ne_eq,not_true_eq_false,decide_false,Bool.or_self,Bool.false_eq_true,if_false,decide_true,Bool.true_and]
  by_cases k10:x.kind=10
  ·simp only [k10,not_true_eq_false,decide_false,Bool.false_eq_true,if_false,if_true]
   have h2:=zaI (b:=fun j s=>ref16_right.b0 hyps ls i j) (p:=fun j=>decide (hyps.getD j 0=x.form)) (r:=fun _=>true) hyps.length 0 () (by
    intro j _ hj
    unfold ref16_right.b0
    rw [hx]
    unfold at_
    rw [Int.toNat_natCast]
    split <;> rfl)
   have e0:(((hyps.length:Nat):Int) - 0).toNat=hyps.length:=by omega
   rw [e0,show forN (fun j s=>ref16_right.b0 hyps ls i j) hyps.length 0 ()=_ from h2]
   have e1:hyps.any (fun h=>decide (h=x.form))=((List.range' 0 hyps.length).find? (fun j=>decide (hyps.getD j 0=x.form))).isSome:=by
    rw [Bool.eq_iff_iff,List.any_eq_true,List.find?_isSome]
    constructor
    ·rintro ⟨h,hh,he⟩
     obtain ⟨j,hj,rfl⟩ := List.mem_iff_getElem.1 hh
     exact ⟨j,by simp; omega,by simpa [List.getD_eq_getElem?_getD,hj] using he⟩
    ·rintro ⟨j,hj,he⟩
     have hj:j < hyps.length:=by simpa using hj
     exact ⟨hyps[j],List.getElem_mem hj,by simpa [List.getD_eq_getElem?_getD,hj] using he⟩
   rw [e1]
   cases (List.range' 0 hyps.length).find? (fun j=>decide (hyps.getD j 0=x.form)) <;> rfl
  ·simp [k10,docIs hw hfi]
theorem all_range {α:Type} {d:α} {p:α→Bool} (l:List α):l.all p=(List.range' 0 l.length).all fun j=>p (l.getD j d):=by
 rw [Bool.eq_iff_iff,List.all_eq_true,List.all_eq_true]
 constructor
 ·intro h j hj
  have hj:j < l.length:=by simpa using hj
  rw [List.getD_eq_getElem?_getD,List.getElem?_eq_getElem hj]
  exact h _ (List.getElem_mem hj)
 ·intro h x hx
  obtain ⟨j,hj,rfl⟩ := List.mem_iff_getElem.1 hx
  have:=h j (by simp; omega)
  rwa [List.getD_eq_getElem?_getD,List.getElem?_eq_getElem hj] at this
theorem find_all {α:Type} {p:α→Bool} (l:List α):(l.find? fun x => !p x).isSome = !l.all p:=by
 rw [List.not_all_eq_any_not,any_find]
theorem zbW {σ ρ:Type} {b:Int→σ→Option (Stp σ ρ)} {p:Nat→Bool} {r:ρ} (n:Nat) (s:σ) (h : ∀ j:Nat,j < n→b j s=some (if p j then .go s else .ret r)):forN b n 0 s=some (if (List.range' 0 n).all p then .inl s else .inr r):=by
 have h1:=zaI (b:=b) (p:=fun j => !p j) (r:=fun _=>r) n 0 s (by
  intro j _ hj
  rw [h j (by omega)]
  cases p j <;> rfl)
 rw [show forN b n 0 s=_ from h1]
 have h2:=find_all (p:=p) (List.range' 0 n)
 cases hq:(List.range' 0 n).find? (fun x => !p x) with
 | none=>rw [hq] at h2; rw [show (List.range' 0 n).all p=true by simpa using h2]; rfl
 | some j=>rw [hq] at h2; rw [show (List.range' 0 n).all p=false by simpa using h2]; rfl
theorem count_map {m:List (Int × Int)} (h v x:Int):(Gw.look x (Gw.ins h v m)).getD 0=if x=h then v else (Gw.look x m).getD 0:=by
 induction m with
 | nil=>by_cases e:x=h <;> simp [Gw.ins,Gw.look,e]
 | cons q m ih =>
  obtain ⟨k,w⟩ := q
  unfold Gw.ins
  by_cases e:h=k
  ·subst e
   by_cases e2:x=h
   ·simp [Gw.look,e2]
   ·simp [Gw.look,e2]
  ·rw [if_neg e]
   unfold Gw.look
   by_cases e2:x=k
   ·subst e2; simp [Ne.symm (a:=h) e]
   ·simp [e2,ih]
theorem hyps_map (hyps:List Int) : ∀ (n i:Nat) (m:List (Int × Int)),i + n=hyps.length→hyps.length < 4611686018427387904→(∀ x,(Gw.look x m).getD 0=((hyps.take i).count x:Int)) →
  ∃ m',forS (fun i s=>hilbert_Check.b1 hyps i s) n i m=some m' ∧ ∀ x,(Gw.look x m').getD 0=(hyps.count x:Int)
 | 0,i,m,hi,hb,h=>⟨m,rfl,fun x=>by rw [h,List.take_of_length_le (by omega)]⟩
 | n + 1,i,m,hi,hb,h=>by
  have hil:i < hyps.length:=by omega
  have he:at_ (0:Int) hyps (i:Int)=hyps[i]:=by
   unfold at_; rw [Int.toNat_natCast,List.getD_eq_getElem?_getD,List.getElem?_eq_getElem hil]; rfl
  simp only [forS,hilbert_Check.b1,Option.bind_some]
  refine hyps_map hyps n (i + 1) _ (by omega) hb fun x=>?_
  rw [he,count_map,h,List.take_succ_eq_append_getElem hil,List.count_append]
  have hc:(hyps.take i).count hyps[i] ≤ hyps.length:=Nat.le_trans List.count_le_length (by simp; omega)
  by_cases e:x=hyps[i]
  ·subst e
   rw [if_pos rfl,wrap_small ⟨by omega,by omega⟩]
   simp
  ·rw [if_neg e,h]
   simp [List.count_singleton,Ne.symm (a:=x) e]
theorem CheckH_some {M:List Nd} (hw:Wf M) {K:Nat} (hK:10 ≤ K) {hyps:List Int} (hb:hyps.length < 4611686018427387904) (ls:List Ln):hilbert_Check.f K (some M) hyps ls=some (some M,zbJ M hyps ls):=by
 unfold hilbert_Check.f zbJ
 rw [has_some16 hw.nodup]
 cases ha:hyps.all (fun h=>inb h M.length) with
 | false=>simp
 | true =>
  simp only [if_true,Option.bind_some,ne_eq,not_true_eq_false,decide_false,Bool.false_eq_true,if_false,Bool.true_and]
  have e0:(((ls.length:Nat):Int) - 0).toNat=ls.length:=by omega
  have e1:(((hyps.length:Nat):Int) - 0).toNat=hyps.length:=by omega
  rw [e0,e1]
  have h1:=zbW (b:=fun i s=>hilbert_Check.b0 (some M) ls i) (p:=fun j=>inb (ls.getD j Ln.z).form M.length) (r:=((some M:Tb),(31:Int))) ls.length () (by
   intro j hj
   unfold hilbert_Check.b0 at_
   rw [Int.toNat_natCast,has_some16 hw.nodup]
   simp only [List.all_cons,List.all_nil,Bool.and_true,Option.bind_some]
   cases inb (ls.getD j Ln.z).form M.length <;> rfl)
  rw [h1]
  have hfe:jz M ls=(List.range' 0 ls.length).all fun j=>inb (ls.getD j Ln.z).form M.length:=all_range (d:=Ln.z) ls
  rw [← hfe]
  cases hf:jz M ls with
  | false=>simp [aft]
  | true =>
   simp only [if_true,Option.bind_some,aft]
   obtain ⟨m,h2,h3⟩ := hyps_map hyps hyps.length 0 [] (by omega) hb (fun x=>by simp [Gw.look])
   rw [show forS (fun i s=>hilbert_Check.b1 hyps i s) hyps.length 0 ([]:List (Int × Int))=some m from h2]
   simp only [Option.bind_some]
   have hm : ∀ h,(0 < (Gw.look h m).getD 0)↔h ∈ hyps:=fun h=>by
    rw [h3]
    rw [← List.count_pos_iff]; omega
   have h4:=zbW (b:=fun i s=>hilbert_Check.b2 K m ls i s) (p:=fun j=>yY M hyps ls j) (r:=((some M:Tb),(160:Int))) ls.length (some M) (by
    intro j hj
    unfold hilbert_Check.b2
    rw [right_prog hw hK hm hf (yV (by omega) (by omega))]
    simp only [Option.bind_some]
    cases yY M hyps ls j <;> rfl)
   rw [h4]
   cases hr:(List.range' 0 ls.length).all (fun j=>yY M hyps ls j) with
   | false=>simp [aft]
   | true =>
    simp only [if_true,Option.bind_some,aft]
    cases ls with
    | nil=>simp
    | cons x l=>simp; omega
theorem CheckH_doc {M:List Nd} (hw:Wf M) (hyps:List Int) (ls:List Ln):ref16_Check.f (some M) hyps ls=some (zbJ M hyps ls):=by
 unfold ref16_Check.f zbJ
 have e0:(((ls.length:Nat):Int) - 0).toNat=ls.length:=by omega
 have e1:(((hyps.length:Nat):Int) - 0).toNat=hyps.length:=by omega
 rw [e0,e1]
 have hh : ∀ i,ref03_T_Has.f (some M) i=some (inb i M.length):=fun i=>by simp [ref03_T_Has.f,chk,inb]
 have h0:=zbW (b:=fun i s=>ref16_Check.b0 (some M) hyps i) (p:=fun j=>inb (hyps.getD j 0) M.length) (r:=(31:Int)) hyps.length () (by
  intro j hj
  unfold ref16_Check.b0 at_
  rw [Int.toNat_natCast,hh]
  simp only [Option.bind_some]
  cases inb (hyps.getD j 0) M.length <;> rfl)
 rw [h0,← all_range (d:=(0:Int)) (p:=fun h=>inb h M.length) hyps]
 cases ha:hyps.all (fun h=>inb h M.length) with
 | false=>simp [aft]
 | true =>
  simp only [if_true,Option.bind_some,aft,Bool.true_and]
  have h1:=zbW (b:=fun i s=>ref16_Check.b1 (some M) ls i) (p:=fun j=>inb (ls.getD j Ln.z).form M.length) (r:=(31:Int)) ls.length () (by
   intro j hj
   unfold ref16_Check.b1 at_
   rw [Int.toNat_natCast,hh]
   simp only [Option.bind_some]
   cases inb (ls.getD j Ln.z).form M.length <;> rfl)
  rw [h1]
  have hfe:jz M ls=(List.range' 0 ls.length).all fun j=>inb (ls.getD j Ln.z).form M.length:=all_range (d:=Ln.z) ls
  rw [← hfe]
  cases hf:jz M ls with
  | false=>simp [aft]
  | true =>
   simp only [if_true,Option.bind_some,aft]
   have h4:=zbW (b:=fun i s=>ref16_Check.b2 (some M) hyps ls i) (p:=fun j=>yY M hyps ls j) (r:=(160:Int)) ls.length () (by
    intro j hj
    unfold ref16_Check.b2
    rw [right_doc hw hf (yV (by omega) (by omega))]
    simp only [Option.bind_some]
    cases yY M hyps ls j <;> rfl)
   rw [h4]
   cases hr:(List.range' 0 ls.length).all (fun j=>yY M hyps ls j) with
   | false=>simp [aft]
   | true =>
    simp only [if_true,Option.bind_some,aft]
    cases ls with
    | nil=>simp
    | cons x l=>simp; omega
theorem lines_self (l:List Ln):ref16_Lines.f l l=some true:=by
 unfold ref16_Lines.f
 have h1:=zbW (b:=fun i s=>ref16_Lines.b0 l l i) (p:=fun _=>true) (r:=false) l.length () (by
  intro j hj
  unfold ref16_Lines.b0
  rw [chk,if_pos (yV (by omega) (by omega))]
  simp)
 have e0:(((l.length:Nat):Int) - 0).toNat=l.length:=by omega
 rw [e0,h1]
 simp [aft]
end Go.Proofs.YtflieamjacclnaaGreatDoor
end
