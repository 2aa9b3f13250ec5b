/- Texts put together. -/
import Derived.Test.YtflieamjacclnaaGreatDoorMHY4
import Derived.Laws.BytesArg
set_option linter.unusedVariables false
set_option linter.unusedSimpArgs false
namespace Go.Proofs.YtflieamjacclnaaGreatDoor
section
open Gw Go.RowKit
set_option maxHeartbeats 4000000
set_option maxRecDepth 20000
variable {A:Nat→Prop} {N:Oth} {w:World}
theorem octet_Dec_st {a0:Int} (S:St A N w w [] [oPw]) {r:ByteArray} (H:zdg.f a0=some r) :
  Calls PP F_octet_Dec #[.int .i64 a0] w fun e w' => ∃ v,e = .returned v∧(v = .string r∧St A N w w' [] []):=by
 unfold zdg.f at H
 refine zz (n:=5) fn_octet_Dec rfl rfl zbx (zd (za (wd (yj rfl) (zb (zd (za (wd (zh rfl) ?_)))))))
 obtain ⟨r1,er1,H⟩ := zt H
 obtain ⟨B3,MB3,SB3,back⟩ := S.calln 0 ((.z 0 rfl .nil))
 refine zu (zq ca_strconv_Itoa) zbv (strconv_Itoa_st SB3 er1) ?_
 rintro _ w2 ⟨rfl,S2⟩
 replace S:=back _ _ _ _ S2 rfl
 clear back S2 SB3
 refine wd (yj rfl) (zb (zy ?_))
 refine ⟨_,(zS (zg rfl)),?_⟩
 replace S:=S.arr [] []
 obtain rfl:=zbz H
 exact ⟨rfl,S⟩
theorem uN {a0:Int} (S:St A N w w [] [oPw]) {r:ByteArray} (H:zdh.f a0=some r) :
  Calls PP xB #[.int .i64 a0] w fun e w' => ∃ v,e = .returned v∧(v = .string r∧St A N w w' [] []):=by
 unfold zdh.f at H
 refine zz (n:=6) fn_hilbert_Term_1 rfl rfl zbx (zd (za (wd (yj rfl) (zb (zd (za (wd (zh rfl) ?_)))))))
 obtain ⟨r1,er1,H⟩ := zt H
 obtain ⟨B3,MB3,SB3,back⟩ := S.calln 0 ((.z 0 rfl .nil))
 refine zu (zq ca_octet_Dec) zbv (octet_Dec_st SB3 er1) ?_
 rintro _ w2 ⟨rfl,S2⟩
 replace S:=back _ _ _ _ S2 rfl
 clear back S2 SB3
 obtain ⟨hs4,H⟩ := xm H
 refine wd (vX rfl rfl (of_decide_eq_true hs4)) (wd (yj rfl) (zb (zy ?_)))
 refine ⟨_,(zS (zg rfl)),?_⟩
 replace S:=S.arr [] []
 obtain rfl:=zbz H
 exact ⟨rfl,S⟩
theorem vD {a0:ByteArray} (S:St A N w w [] []) {r:PTerm} (H:zdi.f a0=some r) :
  Calls PP F_hilbert_v #[.string a0] w fun e w' => ∃ v,e = .returned v∧(∃ so0:SlV,v = .agg (Term.C (⟨r.kind,r.name,r.other,r.form,so0⟩ : Term)).toArray∧St A N w w' [] [zf so0 r.sub]):=by
 unfold zdi.f at H
 refine zz (n:=5) fn_hilbert_v rfl rfl zbx (zd (za ?_))
 refine xa y6 zbv fun b2 w1 hw1=>?_
 replace S:=S.new hw1
 refine zb (zd (za (wd (xr rfl) (wd (Does.to (v' := .agg (Term.C (⟨1,a0,ByteArray.empty,0,SlV.nil⟩ : Term)).toArray) (xo (vs:=[(0,.int .i64 1),(1,.string a0)]) y3 (xJ rfl (xJ rfl rfl)) (Bld.one rfl rfl (by rw [Term.len]; decide) (Term.set_kind _ _) (Bld.one rfl rfl (by rw [Term.len]; decide) (Term.set_name _ _) Bld.nil))) rfl) ?_))))
 refine zF zE rfl rfl (S.blk 0) (Term.len _) (by rw [Term.len]; decide) (Term.one _) (zV (Term.len _)) fun w3 B hw3 zw3=>?_
 replace S:=S.store 0 B hw3
 clear B
 refine zb (zy ?_)
 replace S:=S.nilTm
 refine ⟨_,(zS (xl zE rfl ((S.blk 0).all _ (Term.len _)) (Term.len _))),?_⟩
 replace S:=S.arr [] [0]
 obtain rfl:=zbz H
 exact ⟨SlV.nil,rfl,S⟩
theorem xW {a0:Int} {a1:List PTerm} {s_1:SlV} (S:St A N w w [] [zf s_1 a1]) {r:PTerm} (H:zdj.f a0 a1=some r) :
  Calls PP F_hilbert_node #[.int .i64 a0,s_1.v] w fun e w' => ∃ v,e = .returned v∧(∃ so0:SlV,v = .agg (Term.C (⟨r.kind,r.name,r.other,r.form,so0⟩ : Term)).toArray∧St A N w w' [] [zf so0 r.sub]):=by
 unfold zdj.f at H
 refine zz (n:=8) fn_hilbert_node rfl rfl zbx (zd (za ?_))
 refine xa y6 zbv fun b2 w1 hw1=>?_
 replace S:=S.new hw1
 refine zb (zd (za (wd (zh rfl) (wd (zC rfl) (wd (Does.to (v' := .agg (Term.C (⟨a0,ByteArray.empty,ByteArray.empty,0,s_1⟩ : Term)).toArray) (xo (vs:=[(0,.int .i64 a0),(4,s_1.v)]) y3 (xJ rfl (xJ rfl rfl)) (Bld.one rfl rfl (by rw [Term.len]; decide) (Term.set_kind _ _) (Bld.one rfl (SlV.one _ _ rfl) (by rw [Term.len]; decide) (Term.set_sub _ _) Bld.nil))) rfl) ?_)))))
 refine zF zE rfl rfl (S.blk 0) (Term.len _) (by rw [Term.len]; decide) (Term.one _) (zV (Term.len _)) fun w3 B hw3 zw3=>?_
 replace S:=S.store 0 B hw3
 clear B
 refine zb (zy ?_)
 refine ⟨_,(zS (xl zE rfl ((S.blk 0).all _ (Term.len _)) (Term.len _))),?_⟩
 replace S:=S.arr [] [0]
 obtain rfl:=zbz H
 exact ⟨s_1,rfl,S⟩
theorem y5 {a0:PTerm} {s_0:SlV} {a1:List ByteArray} {s_1:SlV} (S:St A N w w [] [zf s_0 a0.sub,fS 1 SC s_1 a1]) {r:PTerm} (H:zdk.f a0 a1=some r) :
  Calls PP F_hilbert_fun #[.agg (Term.C (⟨a0.kind,a0.name,a0.other,a0.form,s_0⟩ : Term)).toArray,s_1.v] w fun e w' => ∃ v,e = .returned v∧(∃ so0:SlV,v = .agg (Term.C (⟨r.kind,r.name,r.other,r.form,so0⟩ : Term)).toArray∧St A N w w' [] [zf so0 r.sub]):=by
 unfold zdk.f at H
 refine zz (n:=16) fn_hilbert_fun rfl rfl zbx (zd (za ?_))
 refine z1 rfl zbv fun b2 w1 hw1=>?_
 replace S:=S.new hw1
 refine xa y6 zbv fun b4 w3 hw3=>?_
 replace S:=S.new hw3
 refine zb (zd (zd (za (wd (zC rfl) ?_))))
 refine zu (zq j3) zbv (ki _ s_1) ?_
 rintro _ w5 ⟨c6,rfl,Bc6,hc6,Ec6⟩
 replace S:=S.addZ (b:=oB c6 T_L_string [s_1.v]) (G:=(· = c6)) Ec6 ⟨Bc6,fun _=>Iff.rfl⟩ (fun i hi=>by rw [hi]; exact hc6)
 refine zb ?_
 refine zO ?_
 replace S:=S.nilTm
 obtain ⟨o7,e7,Ho7⟩ := zt H
 clear H
 refine wc_rangeSt2 (xs:=bwd a1) (enc:=fun (x:Int × ByteArray)=>Value.int .i64 x.1) (enc2:=fun (x:Int × ByteArray)=>Value.string x.2) (bd:=(fun (x:Int × ByteArray) (s:PTerm)=>zdk.b0 x.1 x.2 s)) (L:=(fun (s:PTerm) (c:SlV)=>[oB b4 zk (Term.C (⟨0,ByteArray.empty,ByteArray.empty,0,SlV.nil⟩ : Term)),oB b2 zk (Term.C (⟨s.kind,s.name,s.other,s.form,c⟩ : Term))])) (Lr:=(fun (_:Empty) (_:Unit)=>[])) (Zf:=(fun (s:PTerm) (c:SlV)=>[zf SlV.nil ([]),oB c6 T_L_string [s_1.v],zf c s.sub,fS 1 SC s_1 a1])) (Zr:=(fun (_:Empty) (_:Unit)=>[])) s_0 false 0 rfl jH (jj (S.len 3) c6) zbv zbv (fun N' s c W h=>⟨h.blkZ 1,h.rd 3⟩) S e7 ?_ ?_ ?_ ?_
 ·rintro ⟨i7,y7⟩ x7_0 s8 q7 N7 rd u7 H S
  replace S:=S
  refine za (wd (yj rfl) (zb ?_))
  refine ⟨rfl,_,_,S,fun M7 v7 S=>?_⟩
  replace S:=S
  replace H:zdk.b0  i7 y7 x7_0=some q7:=H
  unfold zdk.b0 at H
  try dsimp only at H
  refine zO (za (wd (xr rfl) (wd (zp zE rfl ((S.blk 1).all _ (Term.len _)) (Term.len _)) ?_)))
  refine xy (C:=Term.C) (l:=[(⟨x7_0.kind,x7_0.name,x7_0.other,x7_0.form,s8⟩ : Term)]) (vs:=[.agg (Term.C (⟨x7_0.kind,x7_0.name,x7_0.other,x7_0.form,s8⟩ : Term)).toArray]) zR yW.zero rfl rfl (fun a _=>Term.len a) zbv rfl zbv fun b10 w9 s11 hBw9 hw9=>?_
  replace S:=((S.lit hBw9 hw9 zbx).bigTm).consTm (x:=x7_0) 2
  replace S:=(S.frzTm 0 0).zs [0,2,3,4,5]
  refine wd (Does.to (v' := .agg (Term.C (⟨2,y7,ByteArray.empty,0,s11⟩ : Term)).toArray) (xo (vs:=[(0,.int .i64 2),(1,.string y7),(4,s11.v)]) y3 (xJ rfl (xJ rfl (xJ rfl rfl))) (Bld.one rfl rfl (by rw [Term.len]; decide) (Term.set_kind _ _) (Bld.one rfl rfl (by rw [Term.len]; decide) (Term.set_name _ _) (Bld.one rfl (SlV.one _ _ rfl) (by rw [Term.len]; decide) (Term.set_sub _ _) Bld.nil)))) rfl) ?_
  refine zF zE rfl rfl (S.blk 1) (Term.len _) (by rw [Term.len]; decide) (Term.one _) (zV (Term.len _)) fun w12 B hw12 zw12=>?_
  replace S:=S.store 1 B hw12
  clear B
  refine zb ?_
  replace S:=S.arr [1,0] [1,2,0,4]
  obtain rfl:=zbz H
  exact ⟨_,rfl,s11,S⟩
 ·rintro s7 s14 B7 w13 rfl S hB7
  replace S:=S
  have H:=Ho7
  dsimp only [fin] at H
  refine zd (za (wd (zp zE rfl ((S.blk 1).all _ (Term.len _)) (Term.len _)) ?_))
  refine zF zE rfl rfl (S.blk 0) (Term.len _) (by rw [Term.len]; decide) (Term.one _) (zV (Term.len _)) fun w15 B hw15 zw15=>?_
  replace S:=S.store 0 B hw15
  clear B
  refine zb (zy ?_)
  refine end1 (.inl rfl) (S.take hB7).1 fun w16 hcw16=>?_
  replace S:=(S.take hB7).2 _ hcw16
  refine ⟨_,(zS (xl zE rfl ((S.blk 0).all _ (Term.len _)) (Term.len _))),?_⟩
  replace S:=S.arr [] [2]
  obtain rfl:=zbz H
  exact ⟨s14,rfl,S⟩
 ·intro r; exact r.elim
 ·intro h; cases h
theorem hilbert_axiom_st {a0:Int} (S:St A N w w [] []) {r:PTerm} (H:zdl.f a0=some r) :
  Calls PP F_hilbert_axiom #[.int .i64 a0] w fun e w' => ∃ v,e = .returned v∧(∃ so0:SlV,v = .agg (Term.C (⟨r.kind,r.name,r.other,r.form,so0⟩ : Term)).toArray∧St A N w w' [] [zf so0 r.sub]):=by
 unfold zdl.f at H
 refine zz (n:=89) fn_hilbert_axiom rfl rfl zbx (zd (za ?_))
 refine xa y6 zbv fun b2 w1 hw1=>?_
 replace S:=S.new hw1
 refine zb (zd (za ?_))
 obtain ⟨r3,er3,H⟩ := zt H
 obtain ⟨B5,MB5,SB5,back⟩ := S.sub [] [] [oB b2 zk (Term.C (⟨0,ByteArray.empty,ByteArray.empty,0,SlV.nil⟩ : Term))]
 refine zu (zq vy) zbv (vD SB5 er3) ?_
 rintro _ w4 ⟨s6,rfl,S2⟩
 replace S:=back _ _ _ _ _ S2 rfl rfl
 clear back S2 SB5
 obtain ⟨r7,er7,H⟩ := zt H
 obtain ⟨B9,MB9,SB9,back⟩ := S.sub [] [] [oB b2 zk (Term.C (⟨0,ByteArray.empty,ByteArray.empty,0,SlV.nil⟩ : Term))]
 refine zu (zq vy) zbv (vD SB9 er7) ?_
 rintro _ w8 ⟨s10,rfl,S2⟩
 replace S:=back _ _ _ _ _ S2 rfl rfl
 clear back S2 SB9
 obtain ⟨r11,er11,H⟩ := zt H
 obtain ⟨B13,MB13,SB13,back⟩ := S.sub [] [] [oB b2 zk (Term.C (⟨0,ByteArray.empty,ByteArray.empty,0,SlV.nil⟩ : Term))]
 refine zu (zq vy) zbv (vD SB13 er11) ?_
 rintro _ w12 ⟨s14,rfl,S2⟩
 replace S:=back _ _ _ _ _ S2 rfl rfl
 clear back S2 SB13
 refine xa y6 zbv fun b16 w15 hw15=>?_
 replace S:=S.new hw15
 refine xa y6 zbv fun b18 w17 hw17=>?_
 replace S:=S.new hw17
 refine xa y6 zbv fun b20 w19 hw19=>?_
 replace S:=S.new hw19
 refine zF zE rfl rfl (S.blk 2) (Term.len _) (by rw [Term.len]; decide) (Term.one _) (zV (Term.len _)) fun w21 B hw21 zw21=>?_
 replace S:=S.store 2 B hw21
 clear B
 refine zF zE rfl rfl (S.blk 2) (Term.len _) (by rw [Term.len]; decide) (Term.one _) (zV (Term.len _)) fun w22 B hw22 zw22=>?_
 replace S:=S.store 2 B hw22
 clear B
 refine zF zE rfl rfl (S.blk 2) (Term.len _) (by rw [Term.len]; decide) (Term.one _) (zV (Term.len _)) fun w23 B hw23 zw23=>?_
 replace S:=S.store 2 B hw23
 clear B
 refine zb (zd (zd (za (wd (zh rfl) (zb ?_)))))
 refine zO (zd (za (wd (zL rfl rfl) (wd (zn rfl) (zb ?_)))))
 refine zH rfl (fun hc24=>?_) (fun hc24=>?_)
 ·replace H:=if_t hc24 H
  refine zd (za (wd (zp zE rfl ((S.blk 2).all _ (Term.len _)) (Term.len _)) ?_))
  refine xy (C:=SC) (l:=[(⟨#[97]⟩ : ByteArray),(⟨#[98]⟩ : ByteArray)]) (vs:=[.string (⟨#[97]⟩ : ByteArray),.string (⟨#[98]⟩ : ByteArray)]) yQ uC.zero rfl rfl (fun _ _=>rfl) zbv rfl zbv fun b26 w25 s27 hBw25 hw25=>?_
  replace S:=S.lit hBw25 hw25 zbx
  obtain ⟨r28,er28,H⟩ := zt H
  replace S:=S.frzS 0
  obtain ⟨B30,MB30,SB30,back⟩ := S.sub [3,0] [] [oB b20 zk (Term.C (⟨r11.kind,r11.name,r11.other,r11.form,s14⟩ : Term)),oB b18 zk (Term.C (⟨r7.kind,r7.name,r7.other,r7.form,s10⟩ : Term)),oB b16 zk (Term.C (⟨r3.kind,r3.name,r3.other,r3.form,s6⟩ : Term)),oB b2 zk (Term.C (⟨0,ByteArray.empty,ByteArray.empty,0,SlV.nil⟩ : Term))]
  refine zu (zq y4) zbv (y5 (a0:=r3) SB30 er28) ?_
  rintro _ w29 ⟨s31,rfl,S2⟩
  replace S:=back _ _ _ _ _ S2 rfl rfl
  clear back S2 SB30
  refine zF zE rfl rfl (S.blk 3) (Term.len _) (by rw [Term.len]; decide) (Term.one _) (zV (Term.len _)) fun w32 B hw32 zw32=>?_
  replace S:=S.store 3 B hw32
  clear B
  refine zb (zy ?_)
  refine ⟨_,(zS (xl zE rfl ((S.blk 0).all _ (Term.len _)) (Term.len _))),?_⟩
  replace S:=S.arr [] [0]
  obtain rfl:=zbz H
  exact ⟨s31,rfl,S⟩
 replace H:=if_f hc24 H
 refine zd (za (wd (zL rfl rfl) (wd (zn rfl) (zb ?_))))
 refine zH rfl (fun hc33=>?_) (fun hc33=>?_)
 ·replace H:=if_t hc33 H
  refine zd ?_
  obtain ⟨r37,er37,H⟩ := zt H
  obtain ⟨r44,er44,H⟩ := zt H
  obtain ⟨r51,er51,H⟩ := zt H
  refine vw 11 ⟨fun _ _=>True,fun _ _ _=>True,fun i v _=>match i with
   | 0=>v=Value.agg (Term.C (⟨r3.kind,r3.name,r3.other,r3.form,s6⟩ : Term)).toArray
   | 1=>v=Value.agg (Term.C (⟨r11.kind,r11.name,r11.other,r11.form,s14⟩ : Term)).toArray
   | 4=>v=Value.agg (Term.C (⟨r7.kind,r7.name,r7.other,r7.form,s10⟩ : Term)).toArray
   | 5=>v=Value.agg (Term.C (⟨r11.kind,r11.name,r11.other,r11.form,s14⟩ : Term)).toArray
   | _=>True⟩ (fun L g v => ∃ s57:SlV,∃ O59:List OA,∃ Z58:List OA,(∀ z ∈ [zf s14 r11.sub,zf s10 r7.sub,zf s6 r3.sub],z ∈ Z58)∧Made L g Z58 2 20 (fun (c:SlV)=>c.v) (fun (c:SlV)=>[zf c ([r3,r11])])∧Made L g Z58 3 21 (fun (c:SlV)=>Value.agg (Term.C (⟨r37.kind,r37.name,r37.other,r37.form,c⟩ : Term)).toArray) (fun (c:SlV)=>[zf c r37.sub])∧Made L g Z58 6 24 (fun (c:SlV)=>c.v) (fun (c:SlV)=>[zf c ([r7,r11])])∧Made L g Z58 7 25 (fun (c:SlV)=>Value.agg (Term.C (⟨r44.kind,r44.name,r44.other,r44.form,c⟩ : Term)).toArray) (fun (c:SlV)=>[zf c r44.sub])∧Made L g Z58 8 26 (fun (c:SlV)=>c.v) (fun (c:SlV)=>[zf c ([r37,r44])])∧Made L g Z58 9 27 (fun (c:SlV)=>Value.agg (Term.C (⟨r51.kind,r51.name,r51.other,r51.form,c⟩ : Term)).toArray) (fun (c:SlV)=>[zf c r51.sub])∧(L 10=true→g 28=s57.v)∧O59=((bif L 10 then [oS T_string 1 SC s57 ([(⟨#[97]⟩ : ByteArray),(⟨#[98]⟩ : ByteArray),(⟨#[99]⟩ : ByteArray)])] else []) ++ [oB b20 zk (Term.C (⟨r11.kind,r11.name,r11.other,r11.form,s14⟩ : Term)),oB b18 zk (Term.C (⟨r7.kind,r7.name,r7.other,r7.form,s10⟩ : Term)),oB b16 zk (Term.C (⟨r3.kind,r3.name,r3.other,r3.form,s6⟩ : Term)),oB b2 zk (Term.C (⟨0,ByteArray.empty,ByteArray.empty,0,SlV.nil⟩ : Term))])∧St A N w v O59 Z58) hmix zby (fun _ _ _ _ _ _ _ hv=>hv) (fun g=>⟨SlV.nil,_,_,fun _ h=>h,Made.no,Made.no,Made.no,Made.no,Made.no,Made.no,(fun h=>by cases h),rfl,S.ext (Ext.drawn _)⟩) ⟨?_,?_,?_,?_,?_,?_,?_,?_,?_,?_,?_,trivial⟩ ?_
  ·rintro L g v hL hcl hclo ⟨s57,O59,Z58,hZ,hm2,hm3,hm6,hm7,hm8,hm9,hk10,hO,S⟩ 
   have SR:St A N w v [oB b20 zk (Term.C (⟨r11.kind,r11.name,r11.other,r11.form,s14⟩ : Term)),oB b18 zk (Term.C (⟨r7.kind,r7.name,r7.other,r7.form,s10⟩ : Term)),oB b16 zk (Term.C (⟨r3.kind,r3.name,r3.other,r3.form,s6⟩ : Term)),oB b2 zk (Term.C (⟨0,ByteArray.empty,ByteArray.empty,0,SlV.nil⟩ : Term))] (zf s14 r11.sub :: zf s10 r7.sub :: zf s6 r3.sub :: Z58):=by
    have S2:=S.zneed hZ
    rw [hO] at S2
    exact S2.drops
   refine wd (zp zE rfl ((SR.blk 2).all _ (Term.len _)) (Term.len _)) ?_
   exact zb (ob4 trivial rfl ⟨s57,O59,Z58,hZ,hm2.keep rfl rfl tl0,hm3.keep rfl rfl tl0,hm6.keep rfl rfl tl0,hm7.keep rfl rfl tl0,hm8.keep rfl rfl tl0,hm9.keep rfl rfl tl0,(fun h=>by rw [zG _ _ _ _ zbv]; exact hk10 (by rw [zr rfl] at h; exact h)),by rw [hO]; simp only [zr (L:=L) (i:=0) (j:=10) rfl],S⟩)
  ·rintro L g v hL hcl hclo ⟨s57,O59,Z58,hZ,hm2,hm3,hm6,hm7,hm8,hm9,hk10,hO,S⟩ 
   have SR:St A N w v [oB b20 zk (Term.C (⟨r11.kind,r11.name,r11.other,r11.form,s14⟩ : Term)),oB b18 zk (Term.C (⟨r7.kind,r7.name,r7.other,r7.form,s10⟩ : Term)),oB b16 zk (Term.C (⟨r3.kind,r3.name,r3.other,r3.form,s6⟩ : Term)),oB b2 zk (Term.C (⟨0,ByteArray.empty,ByteArray.empty,0,SlV.nil⟩ : Term))] (zf s14 r11.sub :: zf s10 r7.sub :: zf s6 r3.sub :: Z58):=by
    have S2:=S.zneed hZ
    rw [hO] at S2
    exact S2.drops
   refine wd (zp zE rfl ((SR.blk 0).all _ (Term.len _)) (Term.len _)) ?_
   exact zb (ob4 trivial rfl ⟨s57,O59,Z58,hZ,hm2.keep rfl rfl tl0,hm3.keep rfl rfl tl0,hm6.keep rfl rfl tl0,hm7.keep rfl rfl tl0,hm8.keep rfl rfl tl0,hm9.keep rfl rfl tl0,(fun h=>by rw [zG _ _ _ _ zbv]; exact hk10 (by rw [zr rfl] at h; exact h)),by rw [hO]; simp only [zr (L:=L) (i:=1) (j:=10) rfl],S⟩)
  ·rintro L g v hL hcl hclo ⟨s57,O59,Z58,hZ,hm2,hm3,hm6,hm7,hm8,hm9,hk10,hO,S⟩ hv0 hv1
   replace S:=(S.zneed hZ)
   refine xy (C:=Term.C) (l:=[(⟨r3.kind,r3.name,r3.other,r3.form,s6⟩ : Term),(⟨r11.kind,r11.name,r11.other,r11.form,s14⟩ : Term)]) (vs:=[.agg (Term.C (⟨r3.kind,r3.name,r3.other,r3.form,s6⟩ : Term)).toArray,.agg (Term.C (⟨r11.kind,r11.name,r11.other,r11.form,s14⟩ : Term)).toArray]) zR yW.zero (xJ hv0 (xJ hv1 rfl)) rfl (fun a _=>Term.len a) zbv rfl zbv fun b61 w60 s62 hBw60 hw60=>?_
   replace S:=((S.lit hBw60 hw60 zbx).bigTm).consTm (x:=r11) 0
   replace S:=(S.consTm (x:=r3) 2).frzTm 0 0
   exact zb (ob4 trivial trivial ⟨s57,O59,_,(fun z h=>tl5 z (hZ z h)),Made.one (val:=(fun (c:SlV)=>c.v)) (ps:=(fun (c:SlV)=>[zf c ([r3,r11])])) s62 (vr List.mem_cons_self uk),hm3.keep rfl rfl tl5,hm6.keep rfl rfl tl5,hm7.keep rfl rfl tl5,hm8.keep rfl rfl tl5,hm9.keep rfl rfl tl5,(fun h=>by rw [zG _ _ _ _ zbv]; exact hk10 (by rw [zr rfl] at h; exact h)),by rw [hO]; simp only [zr (L:=L) (i:=2) (j:=10) rfl],S⟩)
  ·rintro L g v hL hcl hclo ⟨s57,O59,Z58,hZ,hm2,hm3,hm6,hm7,hm8,hm9,hk10,hO,S⟩ _
   obtain ⟨s36,he2,hp2⟩ := hm2 (hcl 2 zby)
   replace S:=(S.zneed (yO (l1:=[zf s36 ([r3,r11])]) hp2 hZ))
   obtain ⟨B65,MB65,SB65,back⟩ := S.sub [0] [] (O59)
   refine zu (zN xV (zT rfl (zT he2 rfl))) zbv (xW SB65 er37) ?_
   rintro _ w64 ⟨s66,rfl,S2⟩
   replace S:=back _ _ _ _ _ S2 rfl rfl
   clear back S2 SB65
   exact zb (ob4 trivial trivial ⟨s57,O59,_,(fun z h=>tl5 z (hZ z h)),hm2.keep rfl rfl tl5,Made.one (val:=(fun (c:SlV)=>Value.agg (Term.C (⟨r37.kind,r37.name,r37.other,r37.form,c⟩ : Term)).toArray)) (ps:=(fun (c:SlV)=>[zf c r37.sub])) s66 (vr List.mem_cons_self uk),hm6.keep rfl rfl tl5,hm7.keep rfl rfl tl5,hm8.keep rfl rfl tl5,hm9.keep rfl rfl tl5,(fun h=>by rw [zG _ _ _ _ zbv]; exact hk10 (by rw [zr rfl] at h; exact h)),by rw [hO]; simp only [zr (L:=L) (i:=3) (j:=10) rfl],S⟩)
  ·rintro L g v hL hcl hclo ⟨s57,O59,Z58,hZ,hm2,hm3,hm6,hm7,hm8,hm9,hk10,hO,S⟩ 
   have SR:St A N w v [oB b20 zk (Term.C (⟨r11.kind,r11.name,r11.other,r11.form,s14⟩ : Term)),oB b18 zk (Term.C (⟨r7.kind,r7.name,r7.other,r7.form,s10⟩ : Term)),oB b16 zk (Term.C (⟨r3.kind,r3.name,r3.other,r3.form,s6⟩ : Term)),oB b2 zk (Term.C (⟨0,ByteArray.empty,ByteArray.empty,0,SlV.nil⟩ : Term))] (zf s14 r11.sub :: zf s10 r7.sub :: zf s6 r3.sub :: Z58):=by
    have S2:=S.zneed hZ
    rw [hO] at S2
    exact S2.drops
   refine wd (zp zE rfl ((SR.blk 1).all _ (Term.len _)) (Term.len _)) ?_
   exact zb (ob4 trivial rfl ⟨s57,O59,Z58,hZ,hm2.keep rfl rfl tl0,hm3.keep rfl rfl tl0,hm6.keep rfl rfl tl0,hm7.keep rfl rfl tl0,hm8.keep rfl rfl tl0,hm9.keep rfl rfl tl0,(fun h=>by rw [zG _ _ _ _ zbv]; exact hk10 (by rw [zr rfl] at h; exact h)),by rw [hO]; simp only [zr (L:=L) (i:=4) (j:=10) rfl],S⟩)
  ·rintro L g v hL hcl hclo ⟨s57,O59,Z58,hZ,hm2,hm3,hm6,hm7,hm8,hm9,hk10,hO,S⟩ 
   have SR:St A N w v [oB b20 zk (Term.C (⟨r11.kind,r11.name,r11.other,r11.form,s14⟩ : Term)),oB b18 zk (Term.C (⟨r7.kind,r7.name,r7.other,r7.form,s10⟩ : Term)),oB b16 zk (Term.C (⟨r3.kind,r3.name,r3.other,r3.form,s6⟩ : Term)),oB b2 zk (Term.C (⟨0,ByteArray.empty,ByteArray.empty,0,SlV.nil⟩ : Term))] (zf s14 r11.sub :: zf s10 r7.sub :: zf s6 r3.sub :: Z58):=by
    have S2:=S.zneed hZ
    rw [hO] at S2
    exact S2.drops
   refine wd (zp zE rfl ((SR.blk 0).all _ (Term.len _)) (Term.len _)) ?_
   exact zb (ob4 trivial rfl ⟨s57,O59,Z58,hZ,hm2.keep rfl rfl tl0,hm3.keep rfl rfl tl0,hm6.keep rfl rfl tl0,hm7.keep rfl rfl tl0,hm8.keep rfl rfl tl0,hm9.keep rfl rfl tl0,(fun h=>by rw [zG _ _ _ _ zbv]; exact hk10 (by rw [zr rfl] at h; exact h)),by rw [hO]; simp only [zr (L:=L) (i:=5) (j:=10) rfl],S⟩)
  ·rintro L g v hL hcl hclo ⟨s57,O59,Z58,hZ,hm2,hm3,hm6,hm7,hm8,hm9,hk10,hO,S⟩ hv4 hv5
   replace S:=(S.zneed hZ)
   refine xy (C:=Term.C) (l:=[(⟨r7.kind,r7.name,r7.other,r7.form,s10⟩ : Term),(⟨r11.kind,r11.name,r11.other,r11.form,s14⟩ : Term)]) (vs:=[.agg (Term.C (⟨r7.kind,r7.name,r7.other,r7.form,s10⟩ : Term)).toArray,.agg (Term.C (⟨r11.kind,r11.name,r11.other,r11.form,s14⟩ : Term)).toArray]) zR yW.zero (xJ hv4 (xJ hv5 rfl)) rfl (fun a _=>Term.len a) zbv rfl zbv fun b68 w67 s69 hBw67 hw67=>?_
   replace S:=((S.lit hBw67 hw67 zbx).bigTm).consTm (x:=r11) 0
   replace S:=(S.consTm (x:=r7) 1).frzTm 0 0
   exact zb (ob4 trivial trivial ⟨s57,O59,_,(fun z h=>tl5 z (hZ z h)),hm2.keep rfl rfl tl5,hm3.keep rfl rfl tl5,Made.one (val:=(fun (c:SlV)=>c.v)) (ps:=(fun (c:SlV)=>[zf c ([r7,r11])])) s69 (vr List.mem_cons_self uk),hm7.keep rfl rfl tl5,hm8.keep rfl rfl tl5,hm9.keep rfl rfl tl5,(fun h=>by rw [zG _ _ _ _ zbv]; exact hk10 (by rw [zr rfl] at h; exact h)),by rw [hO]; simp only [zr (L:=L) (i:=6) (j:=10) rfl],S⟩)
  ·rintro L g v hL hcl hclo ⟨s57,O59,Z58,hZ,hm2,hm3,hm6,hm7,hm8,hm9,hk10,hO,S⟩ _
   obtain ⟨s43,he6,hp6⟩ := hm6 (hcl 6 zby)
   replace S:=(S.zneed (yO (l1:=[zf s43 ([r7,r11])]) hp6 hZ))
   obtain ⟨B72,MB72,SB72,back⟩ := S.sub [0] [] (O59)
   refine zu (zN xV (zT rfl (zT he6 rfl))) zbv (xW SB72 er44) ?_
   rintro _ w71 ⟨s73,rfl,S2⟩
   replace S:=back _ _ _ _ _ S2 rfl rfl
   clear back S2 SB72
   exact zb (ob4 trivial trivial ⟨s57,O59,_,(fun z h=>tl5 z (hZ z h)),hm2.keep rfl rfl tl5,hm3.keep rfl rfl tl5,hm6.keep rfl rfl tl5,Made.one (val:=(fun (c:SlV)=>Value.agg (Term.C (⟨r44.kind,r44.name,r44.other,r44.form,c⟩ : Term)).toArray)) (ps:=(fun (c:SlV)=>[zf c r44.sub])) s73 (vr List.mem_cons_self uk),hm8.keep rfl rfl tl5,hm9.keep rfl rfl tl5,(fun h=>by rw [zG _ _ _ _ zbv]; exact hk10 (by rw [zr rfl] at h; exact h)),by rw [hO]; simp only [zr (L:=L) (i:=7) (j:=10) rfl],S⟩)
  ·rintro L g v hL hcl hclo ⟨s57,O59,Z58,hZ,hm2,hm3,hm6,hm7,hm8,hm9,hk10,hO,S⟩ _ _
   obtain ⟨s40,he3,hp3⟩ := hm3 (hcl 3 zby)
   obtain ⟨s47,he7,hp7⟩ := hm7 (hcl 7 zby)
   replace S:=(S.zneed (yO (l1:=[zf s40 r37.sub]) hp3 (yO (l1:=[zf s47 r44.sub]) hp7 hZ)))
   refine xy (C:=Term.C) (l:=[(⟨r37.kind,r37.name,r37.other,r37.form,s40⟩ : Term),(⟨r44.kind,r44.name,r44.other,r44.form,s47⟩ : Term)]) (vs:=[.agg (Term.C (⟨r37.kind,r37.name,r37.other,r37.form,s40⟩ : Term)).toArray,.agg (Term.C (⟨r44.kind,r44.name,r44.other,r44.form,s47⟩ : Term)).toArray]) zR yW.zero (xJ he3 (xJ he7 rfl)) rfl (fun a _=>Term.len a) zbv rfl zbv fun b75 w74 s76 hBw74 hw74=>?_
   replace S:=((S.lit hBw74 hw74 zbx).bigTm).consTm (x:=r44) 1
   replace S:=(S.consTm (x:=r37) 0).frzTm 0 0
   exact zb (ob4 trivial trivial ⟨s57,O59,_,(fun z h=>tl7 z (hZ z h)),hm2.keep rfl rfl tl7,hm3.keep rfl rfl tl7,hm6.keep rfl rfl tl7,hm7.keep rfl rfl tl7,Made.one (val:=(fun (c:SlV)=>c.v)) (ps:=(fun (c:SlV)=>[zf c ([r37,r44])])) s76 (vr List.mem_cons_self uk),hm9.keep rfl rfl tl7,(fun h=>by rw [zG _ _ _ _ zbv]; exact hk10 (by rw [zr rfl] at h; exact h)),by rw [hO]; simp only [zr (L:=L) (i:=8) (j:=10) rfl],S⟩)
  ·rintro L g v hL hcl hclo ⟨s57,O59,Z58,hZ,hm2,hm3,hm6,hm7,hm8,hm9,hk10,hO,S⟩ _
   obtain ⟨s50,he8,hp8⟩ := hm8 (hcl 8 zby)
   replace S:=(S.zneed (yO (l1:=[zf s50 ([r37,r44])]) hp8 hZ))
   obtain ⟨B79,MB79,SB79,back⟩ := S.sub [0] [] (O59)
   refine zu (zN xV (zT rfl (zT he8 rfl))) zbv (xW SB79 er51) ?_
   rintro _ w78 ⟨s80,rfl,S2⟩
   replace S:=back _ _ _ _ _ S2 rfl rfl
   clear back S2 SB79
   exact zb (ob4 trivial trivial ⟨s57,O59,_,(fun z h=>tl5 z (hZ z h)),hm2.keep rfl rfl tl5,hm3.keep rfl rfl tl5,hm6.keep rfl rfl tl5,hm7.keep rfl rfl tl5,hm8.keep rfl rfl tl5,Made.one (val:=(fun (c:SlV)=>Value.agg (Term.C (⟨r51.kind,r51.name,r51.other,r51.form,c⟩ : Term)).toArray)) (ps:=(fun (c:SlV)=>[zf c r51.sub])) s80 (vr List.mem_cons_self uk),(fun h=>by rw [zG _ _ _ _ zbv]; exact hk10 (by rw [zr rfl] at h; exact h)),by rw [hO]; simp only [zr (L:=L) (i:=9) (j:=10) rfl],S⟩)
  ·rintro L g v hL hcl hclo ⟨s57,O59,Z58,hZ,hm2,hm3,hm6,hm7,hm8,hm9,hk10,hO,S⟩ 
   have hl10:L 10=false:=hL
   have hOP : ∃ P Y,P=[]∧Y=[oB b20 zk (Term.C (⟨r11.kind,r11.name,r11.other,r11.form,s14⟩ : Term)),oB b18 zk (Term.C (⟨r7.kind,r7.name,r7.other,r7.form,s10⟩ : Term)),oB b16 zk (Term.C (⟨r3.kind,r3.name,r3.other,r3.form,s6⟩ : Term)),oB b2 zk (Term.C (⟨0,ByteArray.empty,ByteArray.empty,0,SlV.nil⟩ : Term))]∧O59=P ++ ([] ++ Y):=⟨_,_,rfl,rfl,by rw [hO]; simp only [hl10,cond_true,cond_false,List.nil_append,List.append_assoc,List.cons_append]⟩
   obtain ⟨P,Y,hP,hY,hPY⟩ := hOP
   rw [hPY] at S
   replace S:=(S.zneed hZ)
   refine xy (C:=SC) (l:=[(⟨#[97]⟩ : ByteArray),(⟨#[98]⟩ : ByteArray),(⟨#[99]⟩ : ByteArray)]) (vs:=[.string (⟨#[97]⟩ : ByteArray),.string (⟨#[98]⟩ : ByteArray),.string (⟨#[99]⟩ : ByteArray)]) yQ uC.zero rfl rfl (fun _ _=>rfl) zbv rfl zbv fun b82 w81 s83 hBw81 hw81=>?_
   replace S:=S.lit hBw81 hw81 zbx
   refine zb (ob4 trivial trivial ⟨s83,P ++ ([oS T_string 1 SC s83 ([(⟨#[97]⟩ : ByteArray),(⟨#[98]⟩ : ByteArray),(⟨#[99]⟩ : ByteArray)])] ++ Y),_,(fun z h=>tl3 z (hZ z h)),hm2.keep rfl rfl tl3,hm3.keep rfl rfl tl3,hm6.keep rfl rfl tl3,hm7.keep rfl rfl tl3,hm8.keep rfl rfl tl3,hm9.keep rfl rfl tl3,(fun _=>upd_same _ _ _),?_,S.ins (P:=[oS T_string 1 SC s83 ([(⟨#[97]⟩ : ByteArray),(⟨#[98]⟩ : ByteArray),(⟨#[99]⟩ : ByteArray)])])⟩)
   rw [hP,hY]; simp only [yY (L:=L) (i:=10),cond_true,cond_false,List.nil_append,List.append_assoc,List.cons_append]
  rintro L g w84 hLm ⟨s57,O59,Z58,hZ,hm2,hm3,hm6,hm7,hm8,hm9,hk10,hO,S⟩ hv85_0 hv85_1 _ _ hv85_4 hv85_5 _ _ _ _ _
  have hLt : ∀ j,j < 11→L j=true:=fun j hj=>by rw [hLm]; exact decide_eq_true hj
  obtain ⟨s36,hv85_2,hp2⟩ := hm2 (hLt 2 zbv)
  obtain ⟨s40,hv85_3,hp3⟩ := hm3 (hLt 3 zbv)
  obtain ⟨s43,hv85_6,hp6⟩ := hm6 (hLt 6 zbv)
  obtain ⟨s47,hv85_7,hp7⟩ := hm7 (hLt 7 zbv)
  obtain ⟨s50,hv85_8,hp8⟩ := hm8 (hLt 8 zbv)
  obtain ⟨s54,hv85_9,hp9⟩ := hm9 (hLt 9 zbv)
  have hv85_10:=hk10 (hLt 10 zbv)
  simp only [hLt 10 zbv,cond_true,List.nil_append,List.cons_append] at hO
  rw [hO] at S
  replace S:=S.pickZ (yO (l1:=[zf s36 ([r3,r11])]) hp2 (yO (l1:=[zf s40 r37.sub]) hp3 (yO (l1:=[zf s43 ([r7,r11])]) hp6 (yO (l1:=[zf s47 r44.sub]) hp7 (yO (l1:=[zf s50 ([r37,r44])]) hp8 (yO (l1:=[zf s54 r51.sub]) hp9 hZ))))))
  clear hp2 hp3 hp6 hp7 hp8 hp9 hZ hm2 hm3 hm6 hm7 hm8 hm9
  obtain ⟨r86,er86,H⟩ := zt H
  replace S:=S.frzS 0
  obtain ⟨B88,MB88,SB88,back⟩ := S.sub [6,0] [] [oB b20 zk (Term.C (⟨r11.kind,r11.name,r11.other,r11.form,s14⟩ : Term)),oB b18 zk (Term.C (⟨r7.kind,r7.name,r7.other,r7.form,s10⟩ : Term)),oB b16 zk (Term.C (⟨r3.kind,r3.name,r3.other,r3.form,s6⟩ : Term)),oB b2 zk (Term.C (⟨0,ByteArray.empty,ByteArray.empty,0,SlV.nil⟩ : Term))]
  refine zu (zN y4 (zT hv85_9 (zT hv85_10 rfl))) zbv (y5 (a0:=r51) SB88 er86) ?_
  rintro _ w87 ⟨s89,rfl,S2⟩
  replace S:=back _ _ _ _ _ S2 rfl rfl
  clear back S2 SB88
  refine zF zE rfl rfl (S.blk 3) (Term.len _) (by rw [Term.len]; decide) (Term.one _) (zV (Term.len _)) fun w90 B hw90 zw90=>?_
  replace S:=S.store 3 B hw90
  clear B
  refine zb (zy ?_)
  refine ⟨_,(zS (xl zE rfl ((S.blk 0).all _ (Term.len _)) (Term.len _))),?_⟩
  replace S:=S.arr [] [0]
  obtain rfl:=zbz H
  exact ⟨s89,rfl,S⟩
 replace H:=if_f hc33 H
 refine zd (za (wd (zL rfl rfl) (wd (zn rfl) (zb ?_))))
 refine zH rfl (fun hc91=>?_) (fun hc91=>?_)
 ·replace H:=if_t hc91 H
  refine zd (za (wd (zp zE rfl ((S.blk 2).all _ (Term.len _)) (Term.len _)) ?_))
  refine xy (C:=Term.C) (l:=[(⟨r3.kind,r3.name,r3.other,r3.form,s6⟩ : Term)]) (vs:=[.agg (Term.C (⟨r3.kind,r3.name,r3.other,r3.form,s6⟩ : Term)).toArray]) zR yW.zero rfl rfl (fun a _=>Term.len a) zbv rfl zbv fun b93 w92 s94 hBw92 hw92=>?_
  replace S:=((S.lit hBw92 hw92 zbx).bigTm).consTm (x:=r3) 2
  replace S:=(S.frzTm 0 0).zs [0,2,3,4]
  obtain ⟨r95,er95,H⟩ := zt H
  obtain ⟨B97,MB97,SB97,back⟩ := S.sub [0] [] [oB b20 zk (Term.C (⟨r11.kind,r11.name,r11.other,r11.form,s14⟩ : Term)),oB b18 zk (Term.C (⟨r7.kind,r7.name,r7.other,r7.form,s10⟩ : Term)),oB b16 zk (Term.C (⟨r3.kind,r3.name,r3.other,r3.form,s6⟩ : Term)),oB b2 zk (Term.C (⟨0,ByteArray.empty,ByteArray.empty,0,SlV.nil⟩ : Term))]
  refine zu (zq xV) zbv (xW SB97 er95) ?_
  rintro _ w96 ⟨s98,rfl,S2⟩
  replace S:=back _ _ _ _ _ S2 rfl rfl
  clear back S2 SB97
  refine xy (C:=SC) (l:=[(⟨#[97]⟩ : ByteArray)]) (vs:=[.string (⟨#[97]⟩ : ByteArray)]) yQ uC.zero rfl rfl (fun _ _=>rfl) zbv rfl zbv fun b100 w99 s101 hBw99 hw99=>?_
  replace S:=S.lit hBw99 hw99 zbx
  obtain ⟨r102,er102,H⟩ := zt H
  replace S:=S.frzS 0
  obtain ⟨B104,MB104,SB104,back⟩ := S.sub [1,0] [] [oB b20 zk (Term.C (⟨r11.kind,r11.name,r11.other,r11.form,s14⟩ : Term)),oB b18 zk (Term.C (⟨r7.kind,r7.name,r7.other,r7.form,s10⟩ : Term)),oB b16 zk (Term.C (⟨r3.kind,r3.name,r3.other,r3.form,s6⟩ : Term)),oB b2 zk (Term.C (⟨0,ByteArray.empty,ByteArray.empty,0,SlV.nil⟩ : Term))]
  refine zu (zq y4) zbv (y5 (a0:=r95) SB104 er102) ?_
  rintro _ w103 ⟨s105,rfl,S2⟩
  replace S:=back _ _ _ _ _ S2 rfl rfl
  clear back S2 SB104
  refine zF zE rfl rfl (S.blk 3) (Term.len _) (by rw [Term.len]; decide) (Term.one _) (zV (Term.len _)) fun w106 B hw106 zw106=>?_
  replace S:=S.store 3 B hw106
  clear B
  refine zb (zy ?_)
  refine ⟨_,(zS (xl zE rfl ((S.blk 0).all _ (Term.len _)) (Term.len _))),?_⟩
  replace S:=S.arr [] [0]
  obtain rfl:=zbz H
  exact ⟨s105,rfl,S⟩
 replace H:=if_f hc91 H
 refine zd (za (wd (zL rfl rfl) (wd (zn rfl) (zb ?_))))
 refine zH rfl (fun hc107=>?_) (fun hc107=>?_)
 ·replace H:=if_t hc107 H
  refine zd (za (wd (zp zE rfl ((S.blk 2).all _ (Term.len _)) (Term.len _)) ?_))
  refine xy (C:=Term.C) (l:=[(⟨r3.kind,r3.name,r3.other,r3.form,s6⟩ : Term)]) (vs:=[.agg (Term.C (⟨r3.kind,r3.name,r3.other,r3.form,s6⟩ : Term)).toArray]) zR yW.zero rfl rfl (fun a _=>Term.len a) zbv rfl zbv fun b109 w108 s110 hBw108 hw108=>?_
  replace S:=((S.lit hBw108 hw108 zbx).bigTm).consTm (x:=r3) 2
  replace S:=(S.frzTm 0 0).zs [0,2,3,4]
  obtain ⟨r111,er111,H⟩ := zt H
  obtain ⟨B113,MB113,SB113,back⟩ := S.sub [0] [] [oB b20 zk (Term.C (⟨r11.kind,r11.name,r11.other,r11.form,s14⟩ : Term)),oB b18 zk (Term.C (⟨r7.kind,r7.name,r7.other,r7.form,s10⟩ : Term)),oB b16 zk (Term.C (⟨r3.kind,r3.name,r3.other,r3.form,s6⟩ : Term)),oB b2 zk (Term.C (⟨0,ByteArray.empty,ByteArray.empty,0,SlV.nil⟩ : Term))]
  refine zu (zq xV) zbv (xW SB113 er111) ?_
  rintro _ w112 ⟨s114,rfl,S2⟩
  replace S:=back _ _ _ _ _ S2 rfl rfl
  clear back S2 SB113
  refine xy (C:=SC) (l:=[(⟨#[97]⟩ : ByteArray)]) (vs:=[.string (⟨#[97]⟩ : ByteArray)]) yQ uC.zero rfl rfl (fun _ _=>rfl) zbv rfl zbv fun b116 w115 s117 hBw115 hw115=>?_
  replace S:=S.lit hBw115 hw115 zbx
  obtain ⟨r118,er118,H⟩ := zt H
  replace S:=S.frzS 0
  obtain ⟨B120,MB120,SB120,back⟩ := S.sub [1,0] [] [oB b20 zk (Term.C (⟨r11.kind,r11.name,r11.other,r11.form,s14⟩ : Term)),oB b18 zk (Term.C (⟨r7.kind,r7.name,r7.other,r7.form,s10⟩ : Term)),oB b16 zk (Term.C (⟨r3.kind,r3.name,r3.other,r3.form,s6⟩ : Term)),oB b2 zk (Term.C (⟨0,ByteArray.empty,ByteArray.empty,0,SlV.nil⟩ : Term))]
  refine zu (zq y4) zbv (y5 (a0:=r111) SB120 er118) ?_
  rintro _ w119 ⟨s121,rfl,S2⟩
  replace S:=back _ _ _ _ _ S2 rfl rfl
  clear back S2 SB120
  refine zF zE rfl rfl (S.blk 3) (Term.len _) (by rw [Term.len]; decide) (Term.one _) (zV (Term.len _)) fun w122 B hw122 zw122=>?_
  replace S:=S.store 3 B hw122
  clear B
  refine zb (zy ?_)
  refine ⟨_,(zS (xl zE rfl ((S.blk 0).all _ (Term.len _)) (Term.len _))),?_⟩
  replace S:=S.arr [] [0]
  obtain rfl:=zbz H
  exact ⟨s121,rfl,S⟩
 replace H:=if_f hc107 H
 refine zd (za (wd (zL rfl rfl) (wd (zn rfl) (zb ?_))))
 refine zH rfl (fun hc123=>?_) (fun hc123=>?_)
 ·replace H:=if_t hc123 H
  refine zd (za (wd (zp zE rfl ((S.blk 2).all _ (Term.len _)) (Term.len _)) (wd (zp zE rfl ((S.blk 1).all _ (Term.len _)) (Term.len _)) ?_)))
  refine xy (C:=Term.C) (l:=[(⟨r3.kind,r3.name,r3.other,r3.form,s6⟩ : Term),(⟨r7.kind,r7.name,r7.other,r7.form,s10⟩ : Term)]) (vs:=[.agg (Term.C (⟨r3.kind,r3.name,r3.other,r3.form,s6⟩ : Term)).toArray,.agg (Term.C (⟨r7.kind,r7.name,r7.other,r7.form,s10⟩ : Term)).toArray]) zR yW.zero rfl rfl (fun a _=>Term.len a) zbv rfl zbv fun b125 w124 s126 hBw124 hw124=>?_
  replace S:=((S.lit hBw124 hw124 zbx).bigTm).consTm (x:=r7) 1
  replace S:=((S.consTm (x:=r3) 2).frzTm 0 0).zs [0,2,3,4]
  obtain ⟨r127,er127,H⟩ := zt H
  obtain ⟨B129,MB129,SB129,back⟩ := S.sub [0] [] [oB b20 zk (Term.C (⟨r11.kind,r11.name,r11.other,r11.form,s14⟩ : Term)),oB b18 zk (Term.C (⟨r7.kind,r7.name,r7.other,r7.form,s10⟩ : Term)),oB b16 zk (Term.C (⟨r3.kind,r3.name,r3.other,r3.form,s6⟩ : Term)),oB b2 zk (Term.C (⟨0,ByteArray.empty,ByteArray.empty,0,SlV.nil⟩ : Term))]
  refine zu (zq xV) zbv (xW SB129 er127) ?_
  rintro _ w128 ⟨s130,rfl,S2⟩
  replace S:=back _ _ _ _ _ S2 rfl rfl
  clear back S2 SB129
  refine xy (C:=SC) (l:=[(⟨#[97]⟩ : ByteArray),(⟨#[98]⟩ : ByteArray)]) (vs:=[.string (⟨#[97]⟩ : ByteArray),.string (⟨#[98]⟩ : ByteArray)]) yQ uC.zero rfl rfl (fun _ _=>rfl) zbv rfl zbv fun b132 w131 s133 hBw131 hw131=>?_
  replace S:=S.lit hBw131 hw131 zbx
  obtain ⟨r134,er134,H⟩ := zt H
  replace S:=S.frzS 0
  obtain ⟨B136,MB136,SB136,back⟩ := S.sub [1,0] [] [oB b20 zk (Term.C (⟨r11.kind,r11.name,r11.other,r11.form,s14⟩ : Term)),oB b18 zk (Term.C (⟨r7.kind,r7.name,r7.other,r7.form,s10⟩ : Term)),oB b16 zk (Term.C (⟨r3.kind,r3.name,r3.other,r3.form,s6⟩ : Term)),oB b2 zk (Term.C (⟨0,ByteArray.empty,ByteArray.empty,0,SlV.nil⟩ : Term))]
  refine zu (zq y4) zbv (y5 (a0:=r127) SB136 er134) ?_
  rintro _ w135 ⟨s137,rfl,S2⟩
  replace S:=back _ _ _ _ _ S2 rfl rfl
  clear back S2 SB136
  refine zF zE rfl rfl (S.blk 3) (Term.len _) (by rw [Term.len]; decide) (Term.one _) (zV (Term.len _)) fun w138 B hw138 zw138=>?_
  replace S:=S.store 3 B hw138
  clear B
  refine zb (zy ?_)
  refine ⟨_,(zS (xl zE rfl ((S.blk 0).all _ (Term.len _)) (Term.len _))),?_⟩
  replace S:=S.arr [] [0]
  obtain rfl:=zbz H
  exact ⟨s137,rfl,S⟩
 replace H:=if_f hc123 H
 refine zd (za (wd (zL rfl rfl) (wd (zn rfl) (zb ?_))))
 refine zH rfl (fun hc139=>?_) (fun hc139=>?_)
 ·replace H:=if_t hc139 H
  refine zd (za (wd (zp zE rfl ((S.blk 2).all _ (Term.len _)) (Term.len _)) ?_))
  refine xy (C:=Term.C) (l:=[(⟨r3.kind,r3.name,r3.other,r3.form,s6⟩ : Term)]) (vs:=[.agg (Term.C (⟨r3.kind,r3.name,r3.other,r3.form,s6⟩ : Term)).toArray]) zR yW.zero rfl rfl (fun a _=>Term.len a) zbv rfl zbv fun b141 w140 s142 hBw140 hw140=>?_
  replace S:=((S.lit hBw140 hw140 zbx).bigTm).consTm (x:=r3) 2
  replace S:=(S.frzTm 0 0).zs [0,2,3,4]
  obtain ⟨r143,er143,H⟩ := zt H
  obtain ⟨B145,MB145,SB145,back⟩ := S.sub [0] [] [oB b20 zk (Term.C (⟨r11.kind,r11.name,r11.other,r11.form,s14⟩ : Term)),oB b18 zk (Term.C (⟨r7.kind,r7.name,r7.other,r7.form,s10⟩ : Term)),oB b16 zk (Term.C (⟨r3.kind,r3.name,r3.other,r3.form,s6⟩ : Term)),oB b2 zk (Term.C (⟨0,ByteArray.empty,ByteArray.empty,0,SlV.nil⟩ : Term))]
  refine zu (zq xV) zbv (xW SB145 er143) ?_
  rintro _ w144 ⟨s146,rfl,S2⟩
  replace S:=back _ _ _ _ _ S2 rfl rfl
  clear back S2 SB145
  refine xy (C:=SC) (l:=[(⟨#[97]⟩ : ByteArray)]) (vs:=[.string (⟨#[97]⟩ : ByteArray)]) yQ uC.zero rfl rfl (fun _ _=>rfl) zbv rfl zbv fun b148 w147 s149 hBw147 hw147=>?_
  replace S:=S.lit hBw147 hw147 zbx
  obtain ⟨r150,er150,H⟩ := zt H
  replace S:=S.frzS 0
  obtain ⟨B152,MB152,SB152,back⟩ := S.sub [1,0] [] [oB b20 zk (Term.C (⟨r11.kind,r11.name,r11.other,r11.form,s14⟩ : Term)),oB b18 zk (Term.C (⟨r7.kind,r7.name,r7.other,r7.form,s10⟩ : Term)),oB b16 zk (Term.C (⟨r3.kind,r3.name,r3.other,r3.form,s6⟩ : Term)),oB b2 zk (Term.C (⟨0,ByteArray.empty,ByteArray.empty,0,SlV.nil⟩ : Term))]
  refine zu (zq y4) zbv (y5 (a0:=r143) SB152 er150) ?_
  rintro _ w151 ⟨s153,rfl,S2⟩
  replace S:=back _ _ _ _ _ S2 rfl rfl
  clear back S2 SB152
  refine zF zE rfl rfl (S.blk 3) (Term.len _) (by rw [Term.len]; decide) (Term.one _) (zV (Term.len _)) fun w154 B hw154 zw154=>?_
  replace S:=S.store 3 B hw154
  clear B
  refine zb (zy ?_)
  refine ⟨_,(zS (xl zE rfl ((S.blk 0).all _ (Term.len _)) (Term.len _))),?_⟩
  replace S:=S.arr [] [0]
  obtain rfl:=zbz H
  exact ⟨s153,rfl,S⟩
 replace H:=if_f hc139 H
 refine zd (za (wd (zL rfl rfl) (wd (zn rfl) (zb ?_))))
 refine zH rfl (fun hc155=>?_) (fun hc155=>?_)
 ·replace H:=if_t hc155 H
  refine zd (za (wd (zp zE rfl ((S.blk 2).all _ (Term.len _)) (Term.len _)) ?_))
  refine xy (C:=Term.C) (l:=[(⟨r3.kind,r3.name,r3.other,r3.form,s6⟩ : Term)]) (vs:=[.agg (Term.C (⟨r3.kind,r3.name,r3.other,r3.form,s6⟩ : Term)).toArray]) zR yW.zero rfl rfl (fun a _=>Term.len a) zbv rfl zbv fun b157 w156 s158 hBw156 hw156=>?_
  replace S:=((S.lit hBw156 hw156 zbx).bigTm).consTm (x:=r3) 2
  replace S:=(S.frzTm 0 0).zs [0,2,3,4]
  obtain ⟨r159,er159,H⟩ := zt H
  obtain ⟨B161,MB161,SB161,back⟩ := S.sub [0] [] [oB b20 zk (Term.C (⟨r11.kind,r11.name,r11.other,r11.form,s14⟩ : Term)),oB b18 zk (Term.C (⟨r7.kind,r7.name,r7.other,r7.form,s10⟩ : Term)),oB b16 zk (Term.C (⟨r3.kind,r3.name,r3.other,r3.form,s6⟩ : Term)),oB b2 zk (Term.C (⟨0,ByteArray.empty,ByteArray.empty,0,SlV.nil⟩ : Term))]
  refine zu (zq xV) zbv (xW SB161 er159) ?_
  rintro _ w160 ⟨s162,rfl,S2⟩
  replace S:=back _ _ _ _ _ S2 rfl rfl
  clear back S2 SB161
  refine xy (C:=SC) (l:=[(⟨#[97]⟩ : ByteArray)]) (vs:=[.string (⟨#[97]⟩ : ByteArray)]) yQ uC.zero rfl rfl (fun _ _=>rfl) zbv rfl zbv fun b164 w163 s165 hBw163 hw163=>?_
  replace S:=S.lit hBw163 hw163 zbx
  obtain ⟨r166,er166,H⟩ := zt H
  replace S:=S.frzS 0
  obtain ⟨B168,MB168,SB168,back⟩ := S.sub [1,0] [] [oB b20 zk (Term.C (⟨r11.kind,r11.name,r11.other,r11.form,s14⟩ : Term)),oB b18 zk (Term.C (⟨r7.kind,r7.name,r7.other,r7.form,s10⟩ : Term)),oB b16 zk (Term.C (⟨r3.kind,r3.name,r3.other,r3.form,s6⟩ : Term)),oB b2 zk (Term.C (⟨0,ByteArray.empty,ByteArray.empty,0,SlV.nil⟩ : Term))]
  refine zu (zq y4) zbv (y5 (a0:=r159) SB168 er166) ?_
  rintro _ w167 ⟨s169,rfl,S2⟩
  replace S:=back _ _ _ _ _ S2 rfl rfl
  clear back S2 SB168
  refine zF zE rfl rfl (S.blk 3) (Term.len _) (by rw [Term.len]; decide) (Term.one _) (zV (Term.len _)) fun w170 B hw170 zw170=>?_
  replace S:=S.store 3 B hw170
  clear B
  refine zb (zy ?_)
  refine ⟨_,(zS (xl zE rfl ((S.blk 0).all _ (Term.len _)) (Term.len _))),?_⟩
  replace S:=S.arr [] [0]
  obtain rfl:=zbz H
  exact ⟨s169,rfl,S⟩
 replace H:=if_f hc155 H
 refine zd (za (wd (zL rfl rfl) (wd (zn rfl) (zb ?_))))
 refine zH rfl (fun hc171=>?_) (fun hc171=>?_)
 ·replace H:=if_t hc171 H
  refine zd ?_
  obtain ⟨r172,er172,H⟩ := zt H
  obtain ⟨r179,er179,H⟩ := zt H
  obtain ⟨r183,er183,H⟩ := zt H
  obtain ⟨r190,er190,H⟩ := zt H
  obtain ⟨r197,er197,H⟩ := zt H
  refine vw 12 ⟨fun _ _=>True,fun _ _ _=>True,fun i v _=>match i with
   | 0=>v=Value.agg (Term.C (⟨r11.kind,r11.name,r11.other,r11.form,s14⟩ : Term)).toArray
   | 1=>v=Value.agg (Term.C (⟨r3.kind,r3.name,r3.other,r3.form,s6⟩ : Term)).toArray
   | 5=>v=Value.agg (Term.C (⟨r7.kind,r7.name,r7.other,r7.form,s10⟩ : Term)).toArray
   | _=>True⟩ (fun L g v => ∃ b202:Nat,∃ O204:List OA,∃ Z203:List OA,(∀ z ∈ [zf s14 r11.sub,zf s10 r7.sub,zf s6 r3.sub],z ∈ Z203)∧Made L g Z203 2 70 (fun (c:SlV)=>Value.agg (Term.C (⟨r172.kind,r172.name,r172.other,r172.form,c⟩ : Term)).toArray) (fun (c:SlV)=>[zf c r172.sub])∧Made L g Z203 3 71 (fun (c:SlV)=>c.v) (fun (c:SlV)=>[zf c ([r3,r172])])∧Made L g Z203 4 72 (fun (c:SlV)=>Value.agg (Term.C (⟨r179.kind,r179.name,r179.other,r179.form,c⟩ : Term)).toArray) (fun (c:SlV)=>[zf c r179.sub])∧Made L g Z203 6 74 (fun (c:SlV)=>Value.agg (Term.C (⟨r183.kind,r183.name,r183.other,r183.form,c⟩ : Term)).toArray) (fun (c:SlV)=>[zf c r183.sub])∧Made L g Z203 7 75 (fun (c:SlV)=>c.v) (fun (c:SlV)=>[zf c ([r7,r183])])∧Made L g Z203 8 76 (fun (c:SlV)=>Value.agg (Term.C (⟨r190.kind,r190.name,r190.other,r190.form,c⟩ : Term)).toArray) (fun (c:SlV)=>[zf c r190.sub])∧Made L g Z203 9 77 (fun (c:SlV)=>c.v) (fun (c:SlV)=>[zf c ([r11,r179,r190])])∧Made L g Z203 10 78 (fun (c:SlV)=>Value.agg (Term.C (⟨r197.kind,r197.name,r197.other,r197.form,c⟩ : Term)).toArray) (fun (c:SlV)=>[zf c r197.sub])∧(L 11=true→g 6=Value.pointer (some ⟨b202,0,none⟩))∧O204=((bif L 11 then [oB b202 zk (Term.C (⟨0,ByteArray.empty,ByteArray.empty,0,SlV.nil⟩ : Term))] else []) ++ [oB b20 zk (Term.C (⟨r11.kind,r11.name,r11.other,r11.form,s14⟩ : Term)),oB b18 zk (Term.C (⟨r7.kind,r7.name,r7.other,r7.form,s10⟩ : Term)),oB b16 zk (Term.C (⟨r3.kind,r3.name,r3.other,r3.form,s6⟩ : Term)),oB b2 zk (Term.C (⟨0,ByteArray.empty,ByteArray.empty,0,SlV.nil⟩ : Term))])∧St A N w v O204 Z203) hmix zby (fun _ _ _ _ _ _ _ hv=>hv) (fun g=>⟨0,_,_,fun _ h=>h,Made.no,Made.no,Made.no,Made.no,Made.no,Made.no,Made.no,Made.no,(fun h=>by cases h),rfl,S.ext (Ext.drawn _)⟩) ⟨?_,?_,?_,?_,?_,?_,?_,?_,?_,?_,?_,?_,trivial⟩ ?_
  ·rintro L g v hL hcl hclo ⟨b202,O204,Z203,hZ,hm2,hm3,hm4,hm6,hm7,hm8,hm9,hm10,hk11,hO,S⟩ 
   have SR:St A N w v [oB b20 zk (Term.C (⟨r11.kind,r11.name,r11.other,r11.form,s14⟩ : Term)),oB b18 zk (Term.C (⟨r7.kind,r7.name,r7.other,r7.form,s10⟩ : Term)),oB b16 zk (Term.C (⟨r3.kind,r3.name,r3.other,r3.form,s6⟩ : Term)),oB b2 zk (Term.C (⟨0,ByteArray.empty,ByteArray.empty,0,SlV.nil⟩ : Term))] (zf s14 r11.sub :: zf s10 r7.sub :: zf s6 r3.sub :: Z203):=by
    have S2:=S.zneed hZ
    rw [hO] at S2
    exact S2.drops
   refine wd (zp zE rfl ((SR.blk 0).all _ (Term.len _)) (Term.len _)) ?_
   exact zb (ob4 trivial rfl ⟨b202,O204,Z203,hZ,hm2.keep rfl rfl tl0,hm3.keep rfl rfl tl0,hm4.keep rfl rfl tl0,hm6.keep rfl rfl tl0,hm7.keep rfl rfl tl0,hm8.keep rfl rfl tl0,hm9.keep rfl rfl tl0,hm10.keep rfl rfl tl0,(fun h=>by rw [zG _ _ _ _ zbv]; exact hk11 (by rw [zr rfl] at h; exact h)),by rw [hO]; simp only [zr (L:=L) (i:=0) (j:=11) rfl],S⟩)
  ·rintro L g v hL hcl hclo ⟨b202,O204,Z203,hZ,hm2,hm3,hm4,hm6,hm7,hm8,hm9,hm10,hk11,hO,S⟩ 
   have SR:St A N w v [oB b20 zk (Term.C (⟨r11.kind,r11.name,r11.other,r11.form,s14⟩ : Term)),oB b18 zk (Term.C (⟨r7.kind,r7.name,r7.other,r7.form,s10⟩ : Term)),oB b16 zk (Term.C (⟨r3.kind,r3.name,r3.other,r3.form,s6⟩ : Term)),oB b2 zk (Term.C (⟨0,ByteArray.empty,ByteArray.empty,0,SlV.nil⟩ : Term))] (zf s14 r11.sub :: zf s10 r7.sub :: zf s6 r3.sub :: Z203):=by
    have S2:=S.zneed hZ
    rw [hO] at S2
    exact S2.drops
   refine wd (zp zE rfl ((SR.blk 2).all _ (Term.len _)) (Term.len _)) ?_
   exact zb (ob4 trivial rfl ⟨b202,O204,Z203,hZ,hm2.keep rfl rfl tl0,hm3.keep rfl rfl tl0,hm4.keep rfl rfl tl0,hm6.keep rfl rfl tl0,hm7.keep rfl rfl tl0,hm8.keep rfl rfl tl0,hm9.keep rfl rfl tl0,hm10.keep rfl rfl tl0,(fun h=>by rw [zG _ _ _ _ zbv]; exact hk11 (by rw [zr rfl] at h; exact h)),by rw [hO]; simp only [zr (L:=L) (i:=1) (j:=11) rfl],S⟩)
  ·rintro L g v hL hcl hclo ⟨b202,O204,Z203,hZ,hm2,hm3,hm4,hm6,hm7,hm8,hm9,hm10,hk11,hO,S⟩ 
   replace S:=(S.zneed hZ)
   obtain ⟨B207,MB207,SB207,back⟩ := S.sub [] [] (O204)
   refine zu (zq vy) zbv (vD SB207 er172) ?_
   rintro _ w206 ⟨s208,rfl,S2⟩
   replace S:=back _ _ _ _ _ S2 rfl rfl
   clear back S2 SB207
   exact zb (ob4 trivial trivial ⟨b202,O204,_,(fun z h=>tl4 z (hZ z h)),Made.one (val:=(fun (c:SlV)=>Value.agg (Term.C (⟨r172.kind,r172.name,r172.other,r172.form,c⟩ : Term)).toArray)) (ps:=(fun (c:SlV)=>[zf c r172.sub])) s208 (vr List.mem_cons_self uk),hm3.keep rfl rfl tl4,hm4.keep rfl rfl tl4,hm6.keep rfl rfl tl4,hm7.keep rfl rfl tl4,hm8.keep rfl rfl tl4,hm9.keep rfl rfl tl4,hm10.keep rfl rfl tl4,(fun h=>by rw [zG _ _ _ _ zbv]; exact hk11 (by rw [zr rfl] at h; exact h)),by rw [hO]; simp only [zr (L:=L) (i:=2) (j:=11) rfl],S⟩)
  ·rintro L g v hL hcl hclo ⟨b202,O204,Z203,hZ,hm2,hm3,hm4,hm6,hm7,hm8,hm9,hm10,hk11,hO,S⟩ hv1 _
   obtain ⟨s175,he2,hp2⟩ := hm2 (hcl 2 zby)
   replace S:=(S.zneed (yO (l1:=[zf s175 r172.sub]) hp2 hZ))
   refine xy (C:=Term.C) (l:=[(⟨r3.kind,r3.name,r3.other,r3.form,s6⟩ : Term),(⟨r172.kind,r172.name,r172.other,r172.form,s175⟩ : Term)]) (vs:=[.agg (Term.C (⟨r3.kind,r3.name,r3.other,r3.form,s6⟩ : Term)).toArray,.agg (Term.C (⟨r172.kind,r172.name,r172.other,r172.form,s175⟩ : Term)).toArray]) zR yW.zero (xJ hv1 (xJ he2 rfl)) rfl (fun a _=>Term.len a) zbv rfl zbv fun b210 w209 s211 hBw209 hw209=>?_
   replace S:=((S.lit hBw209 hw209 zbx).bigTm).consTm (x:=r172) 0
   replace S:=(S.consTm (x:=r3) 3).frzTm 0 0
   exact zb (ob4 trivial trivial ⟨b202,O204,_,(fun z h=>tl6 z (hZ z h)),hm2.keep rfl rfl tl6,Made.one (val:=(fun (c:SlV)=>c.v)) (ps:=(fun (c:SlV)=>[zf c ([r3,r172])])) s211 (vr List.mem_cons_self uk),hm4.keep rfl rfl tl6,hm6.keep rfl rfl tl6,hm7.keep rfl rfl tl6,hm8.keep rfl rfl tl6,hm9.keep rfl rfl tl6,hm10.keep rfl rfl tl6,(fun h=>by rw [zG _ _ _ _ zbv]; exact hk11 (by rw [zr rfl] at h; exact h)),by rw [hO]; simp only [zr (L:=L) (i:=3) (j:=11) rfl],S⟩)
  ·rintro L g v hL hcl hclo ⟨b202,O204,Z203,hZ,hm2,hm3,hm4,hm6,hm7,hm8,hm9,hm10,hk11,hO,S⟩ _
   obtain ⟨s178,he3,hp3⟩ := hm3 (hcl 3 zby)
   replace S:=(S.zneed (yO (l1:=[zf s178 ([r3,r172])]) hp3 hZ))
   obtain ⟨B214,MB214,SB214,back⟩ := S.sub [0] [] (O204)
   refine zu (zN xV (zT rfl (zT he3 rfl))) zbv (xW SB214 er179) ?_
   rintro _ w213 ⟨s215,rfl,S2⟩
   replace S:=back _ _ _ _ _ S2 rfl rfl
   clear back S2 SB214
   exact zb (ob4 trivial trivial ⟨b202,O204,_,(fun z h=>tl5 z (hZ z h)),hm2.keep rfl rfl tl5,hm3.keep rfl rfl tl5,Made.one (val:=(fun (c:SlV)=>Value.agg (Term.C (⟨r179.kind,r179.name,r179.other,r179.form,c⟩ : Term)).toArray)) (ps:=(fun (c:SlV)=>[zf c r179.sub])) s215 (vr List.mem_cons_self uk),hm6.keep rfl rfl tl5,hm7.keep rfl rfl tl5,hm8.keep rfl rfl tl5,hm9.keep rfl rfl tl5,hm10.keep rfl rfl tl5,(fun h=>by rw [zG _ _ _ _ zbv]; exact hk11 (by rw [zr rfl] at h; exact h)),by rw [hO]; simp only [zr (L:=L) (i:=4) (j:=11) rfl],S⟩)
  ·rintro L g v hL hcl hclo ⟨b202,O204,Z203,hZ,hm2,hm3,hm4,hm6,hm7,hm8,hm9,hm10,hk11,hO,S⟩ 
   have SR:St A N w v [oB b20 zk (Term.C (⟨r11.kind,r11.name,r11.other,r11.form,s14⟩ : Term)),oB b18 zk (Term.C (⟨r7.kind,r7.name,r7.other,r7.form,s10⟩ : Term)),oB b16 zk (Term.C (⟨r3.kind,r3.name,r3.other,r3.form,s6⟩ : Term)),oB b2 zk (Term.C (⟨0,ByteArray.empty,ByteArray.empty,0,SlV.nil⟩ : Term))] (zf s14 r11.sub :: zf s10 r7.sub :: zf s6 r3.sub :: Z203):=by
    have S2:=S.zneed hZ
    rw [hO] at S2
    exact S2.drops
   refine wd (zp zE rfl ((SR.blk 1).all _ (Term.len _)) (Term.len _)) ?_
   exact zb (ob4 trivial rfl ⟨b202,O204,Z203,hZ,hm2.keep rfl rfl tl0,hm3.keep rfl rfl tl0,hm4.keep rfl rfl tl0,hm6.keep rfl rfl tl0,hm7.keep rfl rfl tl0,hm8.keep rfl rfl tl0,hm9.keep rfl rfl tl0,hm10.keep rfl rfl tl0,(fun h=>by rw [zG _ _ _ _ zbv]; exact hk11 (by rw [zr rfl] at h; exact h)),by rw [hO]; simp only [zr (L:=L) (i:=5) (j:=11) rfl],S⟩)
  ·rintro L g v hL hcl hclo ⟨b202,O204,Z203,hZ,hm2,hm3,hm4,hm6,hm7,hm8,hm9,hm10,hk11,hO,S⟩ 
   replace S:=(S.zneed hZ)
   obtain ⟨B218,MB218,SB218,back⟩ := S.sub [] [] (O204)
   refine zu (zq vy) zbv (vD SB218 er183) ?_
   rintro _ w217 ⟨s219,rfl,S2⟩
   replace S:=back _ _ _ _ _ S2 rfl rfl
   clear back S2 SB218
   exact zb (ob4 trivial trivial ⟨b202,O204,_,(fun z h=>tl4 z (hZ z h)),hm2.keep rfl rfl tl4,hm3.keep rfl rfl tl4,hm4.keep rfl rfl tl4,Made.one (val:=(fun (c:SlV)=>Value.agg (Term.C (⟨r183.kind,r183.name,r183.other,r183.form,c⟩ : Term)).toArray)) (ps:=(fun (c:SlV)=>[zf c r183.sub])) s219 (vr List.mem_cons_self uk),hm7.keep rfl rfl tl4,hm8.keep rfl rfl tl4,hm9.keep rfl rfl tl4,hm10.keep rfl rfl tl4,(fun h=>by rw [zG _ _ _ _ zbv]; exact hk11 (by rw [zr rfl] at h; exact h)),by rw [hO]; simp only [zr (L:=L) (i:=6) (j:=11) rfl],S⟩)
  ·rintro L g v hL hcl hclo ⟨b202,O204,Z203,hZ,hm2,hm3,hm4,hm6,hm7,hm8,hm9,hm10,hk11,hO,S⟩ hv5 _
   obtain ⟨s186,he6,hp6⟩ := hm6 (hcl 6 zby)
   replace S:=(S.zneed (yO (l1:=[zf s186 r183.sub]) hp6 hZ))
   refine xy (C:=Term.C) (l:=[(⟨r7.kind,r7.name,r7.other,r7.form,s10⟩ : Term),(⟨r183.kind,r183.name,r183.other,r183.form,s186⟩ : Term)]) (vs:=[.agg (Term.C (⟨r7.kind,r7.name,r7.other,r7.form,s10⟩ : Term)).toArray,.agg (Term.C (⟨r183.kind,r183.name,r183.other,r183.form,s186⟩ : Term)).toArray]) zR yW.zero (xJ hv5 (xJ he6 rfl)) rfl (fun a _=>Term.len a) zbv rfl zbv fun b221 w220 s222 hBw220 hw220=>?_
   replace S:=((S.lit hBw220 hw220 zbx).bigTm).consTm (x:=r183) 0
   replace S:=(S.consTm (x:=r7) 2).frzTm 0 0
   exact zb (ob4 trivial trivial ⟨b202,O204,_,(fun z h=>tl6 z (hZ z h)),hm2.keep rfl rfl tl6,hm3.keep rfl rfl tl6,hm4.keep rfl rfl tl6,hm6.keep rfl rfl tl6,Made.one (val:=(fun (c:SlV)=>c.v)) (ps:=(fun (c:SlV)=>[zf c ([r7,r183])])) s222 (vr List.mem_cons_self uk),hm8.keep rfl rfl tl6,hm9.keep rfl rfl tl6,hm10.keep rfl rfl tl6,(fun h=>by rw [zG _ _ _ _ zbv]; exact hk11 (by rw [zr rfl] at h; exact h)),by rw [hO]; simp only [zr (L:=L) (i:=7) (j:=11) rfl],S⟩)
  ·rintro L g v hL hcl hclo ⟨b202,O204,Z203,hZ,hm2,hm3,hm4,hm6,hm7,hm8,hm9,hm10,hk11,hO,S⟩ _
   obtain ⟨s189,he7,hp7⟩ := hm7 (hcl 7 zby)
   replace S:=(S.zneed (yO (l1:=[zf s189 ([r7,r183])]) hp7 hZ))
   obtain ⟨B225,MB225,SB225,back⟩ := S.sub [0] [] (O204)
   refine zu (zN xV (zT rfl (zT he7 rfl))) zbv (xW SB225 er190) ?_
   rintro _ w224 ⟨s226,rfl,S2⟩
   replace S:=back _ _ _ _ _ S2 rfl rfl
   clear back S2 SB225
   exact zb (ob4 trivial trivial ⟨b202,O204,_,(fun z h=>tl5 z (hZ z h)),hm2.keep rfl rfl tl5,hm3.keep rfl rfl tl5,hm4.keep rfl rfl tl5,hm6.keep rfl rfl tl5,hm7.keep rfl rfl tl5,Made.one (val:=(fun (c:SlV)=>Value.agg (Term.C (⟨r190.kind,r190.name,r190.other,r190.form,c⟩ : Term)).toArray)) (ps:=(fun (c:SlV)=>[zf c r190.sub])) s226 (vr List.mem_cons_self uk),hm9.keep rfl rfl tl5,hm10.keep rfl rfl tl5,(fun h=>by rw [zG _ _ _ _ zbv]; exact hk11 (by rw [zr rfl] at h; exact h)),by rw [hO]; simp only [zr (L:=L) (i:=8) (j:=11) rfl],S⟩)
  ·rintro L g v hL hcl hclo ⟨b202,O204,Z203,hZ,hm2,hm3,hm4,hm6,hm7,hm8,hm9,hm10,hk11,hO,S⟩ hv0 _ _
   obtain ⟨s182,he4,hp4⟩ := hm4 (hcl 4 zby)
   obtain ⟨s193,he8,hp8⟩ := hm8 (hcl 8 zby)
   replace S:=(S.zneed (yO (l1:=[zf s182 r179.sub]) hp4 (yO (l1:=[zf s193 r190.sub]) hp8 hZ)))
   refine xy (C:=Term.C) (l:=[(⟨r11.kind,r11.name,r11.other,r11.form,s14⟩ : Term),(⟨r179.kind,r179.name,r179.other,r179.form,s182⟩ : Term),(⟨r190.kind,r190.name,r190.other,r190.form,s193⟩ : Term)]) (vs:=[.agg (Term.C (⟨r11.kind,r11.name,r11.other,r11.form,s14⟩ : Term)).toArray,.agg (Term.C (⟨r179.kind,r179.name,r179.other,r179.form,s182⟩ : Term)).toArray,.agg (Term.C (⟨r190.kind,r190.name,r190.other,r190.form,s193⟩ : Term)).toArray]) zR yW.zero (xJ hv0 (xJ he4 (xJ he8 rfl))) rfl (fun a _=>Term.len a) zbv rfl zbv fun b228 w227 s229 hBw227 hw227=>?_
   replace S:=((S.lit hBw227 hw227 zbx).bigTm).consTm (x:=r190) 1
   replace S:=((S.consTm (x:=r179) 0).consTm (x:=r11) 2).frzTm 0 0
   exact zb (ob4 trivial trivial ⟨b202,O204,_,(fun z h=>tl7 z (hZ z h)),hm2.keep rfl rfl tl7,hm3.keep rfl rfl tl7,hm4.keep rfl rfl tl7,hm6.keep rfl rfl tl7,hm7.keep rfl rfl tl7,hm8.keep rfl rfl tl7,Made.one (val:=(fun (c:SlV)=>c.v)) (ps:=(fun (c:SlV)=>[zf c ([r11,r179,r190])])) s229 (vr List.mem_cons_self uk),hm10.keep rfl rfl tl7,(fun h=>by rw [zG _ _ _ _ zbv]; exact hk11 (by rw [zr rfl] at h; exact h)),by rw [hO]; simp only [zr (L:=L) (i:=9) (j:=11) rfl],S⟩)
  ·rintro L g v hL hcl hclo ⟨b202,O204,Z203,hZ,hm2,hm3,hm4,hm6,hm7,hm8,hm9,hm10,hk11,hO,S⟩ _
   obtain ⟨s196,he9,hp9⟩ := hm9 (hcl 9 zby)
   replace S:=(S.zneed (yO (l1:=[zf s196 ([r11,r179,r190])]) hp9 hZ))
   obtain ⟨B232,MB232,SB232,back⟩ := S.sub [0] [] (O204)
   refine zu (zN xV (zT rfl (zT he9 rfl))) zbv (xW SB232 er197) ?_
   rintro _ w231 ⟨s233,rfl,S2⟩
   replace S:=back _ _ _ _ _ S2 rfl rfl
   clear back S2 SB232
   exact zb (ob4 trivial trivial ⟨b202,O204,_,(fun z h=>tl5 z (hZ z h)),hm2.keep rfl rfl tl5,hm3.keep rfl rfl tl5,hm4.keep rfl rfl tl5,hm6.keep rfl rfl tl5,hm7.keep rfl rfl tl5,hm8.keep rfl rfl tl5,hm9.keep rfl rfl tl5,Made.one (val:=(fun (c:SlV)=>Value.agg (Term.C (⟨r197.kind,r197.name,r197.other,r197.form,c⟩ : Term)).toArray)) (ps:=(fun (c:SlV)=>[zf c r197.sub])) s233 (vr List.mem_cons_self uk),(fun h=>by rw [zG _ _ _ _ zbv]; exact hk11 (by rw [zr rfl] at h; exact h)),by rw [hO]; simp only [zr (L:=L) (i:=10) (j:=11) rfl],S⟩)
  ·rintro L g v hL hcl hclo ⟨b202,O204,Z203,hZ,hm2,hm3,hm4,hm6,hm7,hm8,hm9,hm10,hk11,hO,S⟩ 
   have hl11:L 11=false:=hL
   have hOP : ∃ P Y,P=[]∧Y=[oB b20 zk (Term.C (⟨r11.kind,r11.name,r11.other,r11.form,s14⟩ : Term)),oB b18 zk (Term.C (⟨r7.kind,r7.name,r7.other,r7.form,s10⟩ : Term)),oB b16 zk (Term.C (⟨r3.kind,r3.name,r3.other,r3.form,s6⟩ : Term)),oB b2 zk (Term.C (⟨0,ByteArray.empty,ByteArray.empty,0,SlV.nil⟩ : Term))]∧O204=P ++ ([] ++ Y):=⟨_,_,rfl,rfl,by rw [hO]; simp only [hl11,cond_true,cond_false,List.nil_append,List.append_assoc,List.cons_append]⟩
   obtain ⟨P,Y,hP,hY,hPY⟩ := hOP
   rw [hPY] at S
   replace S:=S
   refine xa y6 zbv fun b235 w234 hw234=>?_
   replace S:=S.new hw234
   refine zb (ob4 trivial trivial ⟨b235,P ++ ([oB b235 zk (Term.C (⟨0,ByteArray.empty,ByteArray.empty,0,SlV.nil⟩ : Term))] ++ Y),_,hZ,hm2.keep rfl rfl tl0,hm3.keep rfl rfl tl0,hm4.keep rfl rfl tl0,hm6.keep rfl rfl tl0,hm7.keep rfl rfl tl0,hm8.keep rfl rfl tl0,hm9.keep rfl rfl tl0,hm10.keep rfl rfl tl0,(fun _=>upd_same _ _ _),?_,S.ins (P:=[oB b235 zk (Term.C (⟨0,ByteArray.empty,ByteArray.empty,0,SlV.nil⟩ : Term))])⟩)
   rw [hP,hY]; simp only [yY (L:=L) (i:=11),cond_true,cond_false,List.nil_append,List.append_assoc,List.cons_append]
  rintro L g w236 hLm ⟨b202,O204,Z203,hZ,hm2,hm3,hm4,hm6,hm7,hm8,hm9,hm10,hk11,hO,S⟩ hv237_0 hv237_1 _ _ _ hv237_5 _ _ _ _ _ _
  have hLt : ∀ j,j < 12→L j=true:=fun j hj=>by rw [hLm]; exact decide_eq_true hj
  obtain ⟨s175,hv237_2,hp2⟩ := hm2 (hLt 2 zbv)
  obtain ⟨s178,hv237_3,hp3⟩ := hm3 (hLt 3 zbv)
  obtain ⟨s182,hv237_4,hp4⟩ := hm4 (hLt 4 zbv)
  obtain ⟨s186,hv237_6,hp6⟩ := hm6 (hLt 6 zbv)
  obtain ⟨s189,hv237_7,hp7⟩ := hm7 (hLt 7 zbv)
  obtain ⟨s193,hv237_8,hp8⟩ := hm8 (hLt 8 zbv)
  obtain ⟨s196,hv237_9,hp9⟩ := hm9 (hLt 9 zbv)
  obtain ⟨s200,hv237_10,hp10⟩ := hm10 (hLt 10 zbv)
  have hv237_11:=hk11 (hLt 11 zbv)
  simp only [hLt 11 zbv,cond_true,List.nil_append,List.cons_append] at hO
  rw [hO] at S
  replace S:=S.pickZ (yO (l1:=[zf s175 r172.sub]) hp2 (yO (l1:=[zf s178 ([r3,r172])]) hp3 (yO (l1:=[zf s182 r179.sub]) hp4 (yO (l1:=[zf s186 r183.sub]) hp6 (yO (l1:=[zf s189 ([r7,r183])]) hp7 (yO (l1:=[zf s193 r190.sub]) hp8 (yO (l1:=[zf s196 ([r11,r179,r190])]) hp9 (yO (l1:=[zf s200 r197.sub]) hp10 hZ))))))))
  clear hp2 hp3 hp4 hp6 hp7 hp8 hp9 hp10 hZ hm2 hm3 hm4 hm6 hm7 hm8 hm9 hm10
  refine zF zE hv237_11 hv237_10 (S.blk 0) (Term.len _) (by rw [Term.len]; decide) (Term.one _) (zV (Term.len _)) fun w238 B hw238 zw238=>?_
  replace S:=S.store 0 B hw238
  clear B
  refine zb (zd (za (wd (ze yw hv237_11 (o':=1) rfl) ?_)))
  refine yZ xt rfl rfl (S.blk 0) (by rw [Term.len]; decide) rfl (Term.set_name _ _) fun w239 B hw239 zw239=>?_
  replace S:=S.store 0 B hw239
  clear B
  refine wd (ze vg hv237_11 (o':=2) rfl) ?_
  refine yZ xt rfl rfl (S.blk 0) (by rw [Term.len]; decide) rfl (Term.set_other _ _) fun w240 B hw240 zw240=>?_
  replace S:=S.store 0 B hw240
  clear B
  refine zb (zd (za (wd (zp zE hv237_11 ((S.blk 0).all _ (Term.len _)) (Term.len _)) ?_)))
  refine xy (C:=SC) (l:=[(⟨#[97]⟩ : ByteArray),(⟨#[98]⟩ : ByteArray),(⟨#[99]⟩ : ByteArray)]) (vs:=[.string (⟨#[97]⟩ : ByteArray),.string (⟨#[98]⟩ : ByteArray),.string (⟨#[99]⟩ : ByteArray)]) yQ uC.zero rfl rfl (fun _ _=>rfl) zbv rfl zbv fun b242 w241 s243 hBw241 hw241=>?_
  replace S:=S.lit hBw241 hw241 zbx
  obtain ⟨r244,er244,H⟩ := zt H
  replace S:=S.frzS 0
  obtain ⟨B246,MB246,SB246,back⟩ := S.sub [8,0] [] [oB b202 zk (Term.C (⟨r197.kind,(⟨#[100]⟩ : ByteArray),(⟨#[101]⟩ : ByteArray),r197.form,s200⟩ : Term)),oB b20 zk (Term.C (⟨r11.kind,r11.name,r11.other,r11.form,s14⟩ : Term)),oB b18 zk (Term.C (⟨r7.kind,r7.name,r7.other,r7.form,s10⟩ : Term)),oB b16 zk (Term.C (⟨r3.kind,r3.name,r3.other,r3.form,s6⟩ : Term)),oB b2 zk (Term.C (⟨0,ByteArray.empty,ByteArray.empty,0,SlV.nil⟩ : Term))]
  refine zu (zq y4) zbv (y5 (a0:=(⟨r197.kind,(⟨#[100]⟩ : ByteArray),(⟨#[101]⟩ : ByteArray),r197.form,r197.sub⟩ : PTerm)) SB246 er244) ?_
  rintro _ w245 ⟨s247,rfl,S2⟩
  replace S:=back _ _ _ _ _ S2 rfl rfl
  clear back S2 SB246
  refine zF zE rfl rfl (S.blk 4) (Term.len _) (by rw [Term.len]; decide) (Term.one _) (zV (Term.len _)) fun w248 B hw248 zw248=>?_
  replace S:=S.store 4 B hw248
  clear B
  refine zb (zy ?_)
  refine ⟨_,(zS (xl zE rfl ((S.blk 0).all _ (Term.len _)) (Term.len _))),?_⟩
  replace S:=S.arr [] [0]
  obtain rfl:=zbz H
  exact ⟨s247,rfl,S⟩
 replace H:=if_f hc171 H
 refine zA (zd (za (wd (zp zE rfl ((S.blk 2).all _ (Term.len _)) (Term.len _)) ?_)))
 refine xy (C:=Term.C) (l:=[(⟨r3.kind,r3.name,r3.other,r3.form,s6⟩ : Term)]) (vs:=[.agg (Term.C (⟨r3.kind,r3.name,r3.other,r3.form,s6⟩ : Term)).toArray]) zR yW.zero rfl rfl (fun a _=>Term.len a) zbv rfl zbv fun b250 w249 s251 hBw249 hw249=>?_
 replace S:=((S.lit hBw249 hw249 zbx).bigTm).consTm (x:=r3) 2
 replace S:=(S.frzTm 0 0).zs [0,2,3,4]
 obtain ⟨r252,er252,H⟩ := zt H
 obtain ⟨B254,MB254,SB254,back⟩ := S.sub [0] [] [oB b20 zk (Term.C (⟨r11.kind,r11.name,r11.other,r11.form,s14⟩ : Term)),oB b18 zk (Term.C (⟨r7.kind,r7.name,r7.other,r7.form,s10⟩ : Term)),oB b16 zk (Term.C (⟨r3.kind,r3.name,r3.other,r3.form,s6⟩ : Term)),oB b2 zk (Term.C (⟨0,ByteArray.empty,ByteArray.empty,0,SlV.nil⟩ : Term))]
 refine zu (zq xV) zbv (xW SB254 er252) ?_
 rintro _ w253 ⟨s255,rfl,S2⟩
 replace S:=back _ _ _ _ _ S2 rfl rfl
 clear back S2 SB254
 refine xy (C:=SC) (l:=[(⟨#[97]⟩ : ByteArray)]) (vs:=[.string (⟨#[97]⟩ : ByteArray)]) yQ uC.zero rfl rfl (fun _ _=>rfl) zbv rfl zbv fun b257 w256 s258 hBw256 hw256=>?_
 replace S:=S.lit hBw256 hw256 zbx
 obtain ⟨r259,er259,H⟩ := zt H
 replace S:=S.frzS 0
 obtain ⟨B261,MB261,SB261,back⟩ := S.sub [1,0] [] [oB b20 zk (Term.C (⟨r11.kind,r11.name,r11.other,r11.form,s14⟩ : Term)),oB b18 zk (Term.C (⟨r7.kind,r7.name,r7.other,r7.form,s10⟩ : Term)),oB b16 zk (Term.C (⟨r3.kind,r3.name,r3.other,r3.form,s6⟩ : Term)),oB b2 zk (Term.C (⟨0,ByteArray.empty,ByteArray.empty,0,SlV.nil⟩ : Term))]
 refine zu (zq y4) zbv (y5 (a0:=r252) SB261 er259) ?_
 rintro _ w260 ⟨s262,rfl,S2⟩
 replace S:=back _ _ _ _ _ S2 rfl rfl
 clear back S2 SB261
 refine zF zE rfl rfl (S.blk 3) (Term.len _) (by rw [Term.len]; decide) (Term.one _) (zV (Term.len _)) fun w263 B hw263 zw263=>?_
 replace S:=S.store 3 B hw263
 clear B
 refine zb (zy ?_)
 refine ⟨_,(zS (xl zE rfl ((S.blk 0).all _ (Term.len _)) (Term.len _))),?_⟩
 replace S:=S.arr [] [0]
 obtain rfl:=zbz H
 exact ⟨s262,rfl,S⟩
theorem hilbert_Term_st {a0:Tb} {a_0:Option Addr} {a1:List Int} {s_1:SlV} {a2:List Ln} {s_2:SlV} (S:St A N w w [oT a_0 a0] [fS 1 IC s_1 a1,fS 4 Ln.C s_2 a2,oPw]) {k:Nat} {r:Tb × PTerm × Int} (H:zdm.f k a0 a1 a2=some r) :
  Calls PP F_hilbert_Term #[.pointer a_0,s_1.v,s_2.v] w fun e w' => ∃ v,e = .returned v∧(∃ so0:SlV,v = .tuple #[.agg (Term.C (⟨r.2.1.kind,r.2.1.name,r.2.1.other,r.2.1.form,so0⟩ : Term)).toArray,.int .i64 r.2.2]∧St A N w w' [oT a_0 r.1] [zf so0 r.2.1.sub]):=by
 unfold zdm.f at H
 refine zz (n:=84) fn_hilbert_Term rfl rfl zbx (zd (za ?_))
 refine xa y6 zbv fun b2 w1 hw1=>?_
 replace S:=S.new hw1
 refine wd (zi rfl) (zb (zd (zd (za (wd (zo rfl) (wd (zC rfl) (wd (zC rfl) ?_)))))))
 obtain ⟨r3,er3,H⟩ := zt H
 replace S:=S.front 1
 obtain ⟨B5,MB5,SB5,back⟩ := S.calln 1 ((.z 0 rfl (.z 1 rfl .nil)))
 refine zu (zq jc) zbv (jh SB5 er3) ?_
 rintro _ w4 ⟨rfl,S2⟩
 replace S:=back _ _ _ _ S2 rfl
 clear back S2 SB5
 refine wd (zi rfl) (zb (zd (za (wd (zh rfl) (wd (xj rfl rfl) (zb ?_))))))
 refine zH rfl (fun hc6=>?_) (fun hc6=>?_)
 ·replace H:=if_t hc6 H
  refine zd (za (wd (Does.to (v' := .agg (Term.C (⟨0,ByteArray.empty,ByteArray.empty,0,SlV.nil⟩ : Term)).toArray) (xo (vs:=[]) y3 rfl Bld.nil) rfl) (wd (zh rfl) ?_)))
  refine zF zE rfl rfl (S.blk 1) (Term.len _) (by rw [Term.len]; decide) (Term.one _) (zV (Term.len _)) fun w7 B hw7 zw7=>?_
  replace S:=S.store 1 B hw7
  clear B
  refine wd (zi rfl) (zb (zy ?_))
  replace S:=S.nilTm
  refine ⟨_,(xx (xl zE rfl ((S.blk 0).all _ (Term.len _)) (Term.len _)) (zg rfl)),?_⟩
  replace S:=S.arr [1] [0]
  obtain rfl:=zbz H
  exact ⟨SlV.nil,rfl,S⟩
 replace H:=if_f hc6 H
 refine zA (zd (zd (za (wd (zC rfl) (wd (xd zY rfl (S.rd 1)) (wd (uM rfl rfl) (zb ?_)))))))
 refine zH rfl (fun hc8=>?_) (fun hc8=>?_)
 ·replace H:=if_t hc8 H
  refine zd (za (wd (Does.to (v' := .agg (Term.C (⟨0,ByteArray.empty,ByteArray.empty,0,SlV.nil⟩ : Term)).toArray) (xo (vs:=[]) y3 rfl Bld.nil) rfl) ?_))
  refine zF zE rfl rfl (S.blk 1) (Term.len _) (by rw [Term.len]; decide) (Term.one _) (zV (Term.len _)) fun w9 B hw9 zw9=>?_
  replace S:=S.store 1 B hw9
  clear B
  refine wd (zi rfl) (zb (zy ?_))
  replace S:=S.nilTm
  refine ⟨_,(xx (xl zE rfl ((S.blk 0).all _ (Term.len _)) (Term.len _)) (zg rfl)),?_⟩
  replace S:=S.arr [1] [0]
  obtain rfl:=zbz H
  exact ⟨SlV.nil,rfl,S⟩
 replace H:=if_f hc8 H
 refine zA (zd (za ?_))
 refine xa ze_func_int_string zbv fun b11 w10 hw10=>?_
 replace S:=S.new hw10
 refine yZ vJ rfl rfl (S.blk 0) zbx rfl rfl fun w12 B hw12 zw12=>?_
 replace S:=S.store 0 B hw12
 clear B
 refine zb (zd (za (wd (zj vJ rfl ((S.blk 0).cell rfl)) (wd (zC rfl) (wd (xd zY rfl (S.rd 1)) (wd (ug rfl rfl) ?_))))))
 obtain ⟨r13,er13,H⟩ := zt H
 obtain ⟨B15,MB15,SB15,back⟩ := S.calln 0 ((.z 2 rfl .nil))
 refine zu (kA uL rfl) zbv (uN SB15 er13) ?_
 rintro _ w14 ⟨rfl,S2⟩
 replace S:=back _ _ _ _ S2 rfl
 clear back S2 SB15
 obtain ⟨r16,er16,H⟩ := zt H
 obtain ⟨B18,MB18,SB18,back⟩ := S.sub [] [] [oB b11 x9 [.func (.func xB) #[] #[]],oT a_0 r3.1,oB b2 zk (Term.C (⟨0,ByteArray.empty,ByteArray.empty,0,SlV.nil⟩ : Term))]
 refine zu (zq vy) zbv (vD SB18 er16) ?_
 rintro _ w17 ⟨s19,rfl,S2⟩
 replace S:=back _ _ _ _ _ S2 rfl rfl
 clear back S2 SB18
 refine xa y6 zbv fun b21 w20 hw20=>?_
 replace S:=S.new hw20
 refine zF zE rfl rfl (S.blk 0) (Term.len _) (by rw [Term.len]; decide) (Term.one _) (zV (Term.len _)) fun w22 B hw22 zw22=>?_
 replace S:=S.store 0 B hw22
 clear B
 refine zb (zd (zd (za (wd (zC rfl) ?_))))
 refine zu (zq jo) zbv (jt _ s_2) ?_
 rintro _ w23 ⟨c24,rfl,Bc24,hc24,Ec24⟩
 replace S:=S.addZ (b:=oB c24 yH [s_2.v]) (G:=(· = c24)) Ec24 ⟨Bc24,fun _=>Iff.rfl⟩ (fun i hi=>by rw [hi]; exact hc24)
 refine zb ?_
 refine zO ?_
 replace S:=S.nilTm
 obtain ⟨o25,e25,Ho25⟩ := zt H
 clear H
 refine wc_rangeSt2 (xs:=bwd a2) (enc:=fun (x:Int × Ln)=>Value.int .i64 x.1) (enc2:=fun (x:Int × Ln)=>Value.agg (Ln.C x.2).toArray) (bd:=(fun (x:Int × Ln) (s:PTerm)=>zdm.b0 x.1 x.2 s)) (L:=(fun (s:PTerm) (c:SlV)=>[oB b21 zk (Term.C (⟨s.kind,s.name,s.other,s.form,c⟩ : Term)),oB b11 x9 [.func (.func xB) #[] #[]],oT a_0 r3.1,oB b2 zk (Term.C (⟨0,ByteArray.empty,ByteArray.empty,0,SlV.nil⟩ : Term))])) (Lr:=(fun (_:Empty) (_:Unit)=>[])) (Zf:=(fun (s:PTerm) (c:SlV)=>[zf SlV.nil ([]),oB c24 yH [s_2.v],zf c s.sub,fS 1 IC s_1 a1,fS 4 Ln.C s_2 a2,oPw])) (Zr:=(fun (_:Empty) (_:Unit)=>[])) s19 false 0 rfl uV (uB (S.len 4) c24) zbv zbv (fun N' s c W h=>⟨h.blkZ 1,h.rd 4⟩) S e25 ?_ ?_ ?_ ?_
 ·rintro ⟨i25,y25⟩ x25_0 s26 q25 N25 rd u25 H S
  replace S:=S
  refine zd (za (wd (zi rfl) (zb (za ?_))))
  refine xa ze_Ln zbv fun b28 w27 hw27=>?_
  replace S:=S.new hw27
  refine zF jM rfl rfl (S.blk 0) (Ln.len _) (by rw [Ln.len]; decide) (Ln.one _) (zV (Ln.len _)) fun w29 B hw29 zw29=>?_
  replace S:=S.store 0 B hw29
  clear B
  refine zb ?_
  refine ⟨rfl,_,_,S,fun M25 v25 S=>?_⟩
  replace S:=S
  replace H:zdm.b0  i25 y25 x25_0=some q25:=H
  unfold zdm.b0 at H
  try dsimp only at H
  refine zO (zd (za ?_))
  refine xa y6 zbv fun b31 w30 hw30=>?_
  replace S:=S.new hw30
  refine zb (zd (zd (za (wd (ze vt rfl (o':=0) rfl) (wd (zj x7 rfl ((S.blk 1).cell (Ln.get_kind _))) (zb ?_))))))
  replace S:=S.nilTm
  obtain ⟨o32,e32,Ho32⟩ := zt H
  replace H:=e32; clear e32
  refine xO [38,39,40,41,42,43,44,45,46,47,48,49,50,51,52,53,54,55,56,57,58,59,60,61,62,63,64,65,66] (fun fr W => ∃ s33:SlV,St A M25 w W [oB b31 zk (Term.C (⟨o32.kind,o32.name,o32.other,o32.form,s33⟩ : Term)),oB b28 T_Ln (Ln.C y25),oB b21 zk (Term.C (⟨x25_0.kind,x25_0.name,x25_0.other,x25_0.form,s26⟩ : Term)),oB b11 x9 [.func (.func xB) #[] #[]],oT a_0 r3.1,oB b2 zk (Term.C (⟨0,ByteArray.empty,ByteArray.empty,0,SlV.nil⟩ : Term))] [zf s33 o32.sub,zf SlV.nil ([]),oB c24 yH [s_2.v],zf s26 x25_0.sub,fS 1 IC s_1 a1,fS 4 Ln.C s_2 a2,oPw]) ?_ ?_
  ·refine zO (zd (za (wd (zL rfl rfl) (wd (zn rfl) (zb ?_)))))
   refine zH rfl (fun hc34=>?_) (fun hc34=>?_)
   ·replace H:=if_t hc34 H
    refine za (wd (ze xX rfl (o':=1) rfl) (wd (zj zQ rfl ((S.blk 1).cell (Ln.get_form _))) ?_))
    obtain ⟨r35,er35,H⟩ := zt H
    obtain ⟨B37,MB37,SB37,back⟩ := S.calln 0 ((.z 6 rfl .nil))
    refine zu (zq ca_octet_Dec) zbv (octet_Dec_st SB37 er35) ?_
    rintro _ w36 ⟨rfl,S2⟩
    replace S:=back _ _ _ _ S2 rfl
    clear back S2 SB37
    obtain ⟨hs38,H⟩ := xm H
    refine wd (vX rfl rfl (of_decide_eq_true hs38)) ?_
    obtain ⟨r39,er39,H⟩ := zt H
    obtain ⟨B41,MB41,SB41,back⟩ := S.sub [] [] [oB b31 zk (Term.C (⟨0,ByteArray.empty,ByteArray.empty,0,SlV.nil⟩ : Term)),oB b28 T_Ln (Ln.C y25),oB b21 zk (Term.C (⟨x25_0.kind,x25_0.name,x25_0.other,x25_0.form,s26⟩ : Term)),oB b11 x9 [.func (.func xB) #[] #[]],oT a_0 r3.1,oB b2 zk (Term.C (⟨0,ByteArray.empty,ByteArray.empty,0,SlV.nil⟩ : Term))]
    refine zu (zq vy) zbv (vD SB41 er39) ?_
    rintro _ w40 ⟨s42,rfl,S2⟩
    replace S:=back _ _ _ _ _ S2 rfl rfl
    clear back S2 SB41
    refine zF zE rfl rfl (S.blk 0) (Term.len _) (by rw [Term.len]; decide) (Term.one _) (zV (Term.len _)) fun w43 B hw43 zw43=>?_
    replace S:=S.store 0 B hw43
    clear B
    refine zb ?_
    replace S:=S.arr [0,1,2,3,4,5] [0,2,3,4,5,6,7]
    obtain rfl:=zbz H
    exact ⟨rfl,((((((((Dif.refl _ _).upd rfl _).upd rfl _).upd rfl _).upd rfl _).upd rfl _).upd rfl _).upd rfl _),s42,S⟩
   ·replace H:=if_f hc34 H
    refine zd (za (wd (zL rfl rfl) (wd (zn rfl) (zb ?_))))
    refine zH rfl (fun hc44=>?_) (fun hc44=>?_)
    ·replace H:=if_t hc44 H
     obtain ⟨r47,er47,H⟩ := zt H
     obtain ⟨r50,er50,H⟩ := zt H
     refine vw 8 ⟨fun _ _=>True,fun _ _ _=>True,fun i v _=>match i with
      | 0=>v=Value.func (.func xB) #[] #[]
      | 1=>v=Value.pointer (some ⟨b28,2,none⟩)
      | 2=>v=Value.int .i64 y25.a
      | 3=>v=Value.string r47
      | 5=>v=Value.func (.func xB) #[] #[]
      | 6=>v=Value.pointer (some ⟨b28,3,none⟩)
      | 7=>v=Value.int .i64 y25.b
      | _=>True⟩ (fun L g v => ∃ Z54:List OA,(∀ z ∈ [zf SlV.nil ([]),zf SlV.nil ([]),oB c24 yH [s_2.v],zf s26 x25_0.sub,fS 1 IC s_1 a1,fS 4 Ln.C s_2 a2,oPw],z ∈ Z54)∧Made L g Z54 4 59 (fun (c:SlV)=>Value.agg (Term.C (⟨r50.kind,r50.name,r50.other,r50.form,c⟩ : Term)).toArray) (fun (c:SlV)=>[zf c r50.sub])∧St A M25 w v [oB b31 zk (Term.C (⟨0,ByteArray.empty,ByteArray.empty,0,SlV.nil⟩ : Term)),oB b28 T_Ln (Ln.C y25),oB b21 zk (Term.C (⟨x25_0.kind,x25_0.name,x25_0.other,x25_0.form,s26⟩ : Term)),oB b11 x9 [.func (.func xB) #[] #[]],oT a_0 r3.1,oB b2 zk (Term.C (⟨0,ByteArray.empty,ByteArray.empty,0,SlV.nil⟩ : Term))] Z54) hmix zby (fun _ _ _ _ _ _ _ hv=>hv) (fun g=>⟨_,fun _ h=>h,Made.no,S.ext (Ext.drawn _)⟩) ⟨?_,?_,?_,?_,?_,?_,?_,?_,trivial⟩ ?_
     ·rintro L g v hL hcl hclo ⟨Z54,hZ,hm4,S⟩ 
      refine wd (zj vJ rfl ((S.blk 3).cell rfl)) ?_
      exact zb (ob4 trivial rfl ⟨_,hZ,hm4.keep rfl rfl tl0,S⟩)
     ·rintro L g v hL hcl hclo ⟨Z54,hZ,hm4,S⟩ 
      refine wd (ze jf rfl (o':=2) rfl) ?_
      exact zb (ob4 trivial rfl ⟨_,hZ,hm4.keep rfl rfl tl0,S⟩)
     ·rintro L g v hL hcl hclo ⟨Z54,hZ,hm4,S⟩ hv1
      refine wd (zj zQ hv1 ((S.blk 1).cell (Ln.get_a _))) ?_
      exact zb (ob4 trivial rfl ⟨_,hZ,hm4.keep rfl rfl tl0,S⟩)
     ·rintro L g v hL hcl hclo ⟨Z54,hZ,hm4,S⟩ hv0 hv2
      replace S:=(S.zneed hZ)
      obtain ⟨B58,MB58,SB58,back⟩ := S.calln 0 ((.z 6 rfl .nil))
      refine zu (does_callvg uL hv0 (zT hv2 rfl)) zbv (uN SB58 er47) ?_
      rintro _ w57 ⟨rfl,S2⟩
      replace S:=back _ _ _ _ S2 rfl
      clear back S2 SB58
      exact zb (ob4 trivial rfl ⟨_,(fun z h=>tl7 z (hZ z h)),hm4.keep rfl rfl tl7,S⟩)
     ·rintro L g v hL hcl hclo ⟨Z54,hZ,hm4,S⟩ hv3
      replace S:=(S.zneed hZ)
      obtain ⟨B61,MB61,SB61,back⟩ := S.sub [] [] [oB b31 zk (Term.C (⟨0,ByteArray.empty,ByteArray.empty,0,SlV.nil⟩ : Term)),oB b28 T_Ln (Ln.C y25),oB b21 zk (Term.C (⟨x25_0.kind,x25_0.name,x25_0.other,x25_0.form,s26⟩ : Term)),oB b11 x9 [.func (.func xB) #[] #[]],oT a_0 r3.1,oB b2 zk (Term.C (⟨0,ByteArray.empty,ByteArray.empty,0,SlV.nil⟩ : Term))]
      refine zu (zN vy (zT hv3 rfl)) zbv (vD SB61 er50) ?_
      rintro _ w60 ⟨s62,rfl,S2⟩
      replace S:=back _ _ _ _ _ S2 rfl rfl
      clear back S2 SB61
      exact zb (ob4 trivial trivial ⟨_,(fun z h=>tl8 z (hZ z h)),Made.one (val:=(fun (c:SlV)=>Value.agg (Term.C (⟨r50.kind,r50.name,r50.other,r50.form,c⟩ : Term)).toArray)) (ps:=(fun (c:SlV)=>[zf c r50.sub])) s62 (vr List.mem_cons_self uk),S⟩)
     ·rintro L g v hL hcl hclo ⟨Z54,hZ,hm4,S⟩ 
      refine wd (zj vJ rfl ((S.blk 3).cell rfl)) ?_
      exact zb (ob4 trivial rfl ⟨_,hZ,hm4.keep rfl rfl tl0,S⟩)
     ·rintro L g v hL hcl hclo ⟨Z54,hZ,hm4,S⟩ 
      refine wd (ze uv rfl (o':=3) rfl) ?_
      exact zb (ob4 trivial rfl ⟨_,hZ,hm4.keep rfl rfl tl0,S⟩)
     ·rintro L g v hL hcl hclo ⟨Z54,hZ,hm4,S⟩ hv6
      refine wd (zj zQ hv6 ((S.blk 1).cell (Ln.get_b _))) ?_
      exact zb (ob4 trivial rfl ⟨_,hZ,hm4.keep rfl rfl tl0,S⟩)
     rintro L g w63 hLm ⟨Z54,hZ,hm4,S⟩ hv64_0 hv64_1 hv64_2 hv64_3 _ hv64_5 hv64_6 hv64_7
     have hLt : ∀ j,j < 8→L j=true:=fun j hj=>by rw [hLm]; exact decide_eq_true hj
     obtain ⟨s53,hv64_4,hp4⟩ := hm4 (hLt 4 zbv)
     replace S:=S.pickZ (yO (l1:=[zf s53 r50.sub]) hp4 hZ)
     clear hp4 hZ hm4
     obtain ⟨r65,er65,H⟩ := zt H
     obtain ⟨B67,MB67,SB67,back⟩ := S.calln 0 ((.z 7 rfl .nil))
     refine zu (does_callvg uL hv64_5 (zT hv64_7 rfl)) zbv (uN SB67 er65) ?_
     rintro _ w66 ⟨rfl,S2⟩
     replace S:=back _ _ _ _ S2 rfl
     clear back S2 SB67
     obtain ⟨r68,er68,H⟩ := zt H
     obtain ⟨B70,MB70,SB70,back⟩ := S.sub [] [] [oB b31 zk (Term.C (⟨0,ByteArray.empty,ByteArray.empty,0,SlV.nil⟩ : Term)),oB b28 T_Ln (Ln.C y25),oB b21 zk (Term.C (⟨x25_0.kind,x25_0.name,x25_0.other,x25_0.form,s26⟩ : Term)),oB b11 x9 [.func (.func xB) #[] #[]],oT a_0 r3.1,oB b2 zk (Term.C (⟨0,ByteArray.empty,ByteArray.empty,0,SlV.nil⟩ : Term))]
     refine zu (zq vy) zbv (vD SB70 er68) ?_
     rintro _ w69 ⟨s71,rfl,S2⟩
     replace S:=back _ _ _ _ _ S2 rfl rfl
     clear back S2 SB70
     refine xy (C:=Term.C) (l:=[(⟨r50.kind,r50.name,r50.other,r50.form,s53⟩ : Term),(⟨r68.kind,r68.name,r68.other,r68.form,s71⟩ : Term)]) (vs:=[.agg (Term.C (⟨r50.kind,r50.name,r50.other,r50.form,s53⟩ : Term)).toArray,.agg (Term.C (⟨r68.kind,r68.name,r68.other,r68.form,s71⟩ : Term)).toArray]) zR yW.zero (xJ hv64_4 (xJ rfl rfl)) rfl (fun a _=>Term.len a) zbv rfl zbv fun b73 w72 s74 hBw72 hw72=>?_
     replace S:=((S.lit hBw72 hw72 zbx).bigTm).consTm (x:=r68) 0
     replace S:=((S.consTm (x:=r50) 1).frzTm 0 0).zs [0,2,3,4,5,6,7,8,9,10]
     obtain ⟨r75,er75,H⟩ := zt H
     obtain ⟨B77,MB77,SB77,back⟩ := S.sub [0] [] [oB b31 zk (Term.C (⟨0,ByteArray.empty,ByteArray.empty,0,SlV.nil⟩ : Term)),oB b28 T_Ln (Ln.C y25),oB b21 zk (Term.C (⟨x25_0.kind,x25_0.name,x25_0.other,x25_0.form,s26⟩ : Term)),oB b11 x9 [.func (.func xB) #[] #[]],oT a_0 r3.1,oB b2 zk (Term.C (⟨0,ByteArray.empty,ByteArray.empty,0,SlV.nil⟩ : Term))]
     refine zu (zq xV) zbv (xW SB77 er75) ?_
     rintro _ w76 ⟨s78,rfl,S2⟩
     replace S:=back _ _ _ _ _ S2 rfl rfl
     clear back S2 SB77
     refine zF zE rfl rfl (S.blk 0) (Term.len _) (by rw [Term.len]; decide) (Term.one _) (zV (Term.len _)) fun w79 B hw79 zw79=>?_
     replace S:=S.store 0 B hw79
     clear B
     refine zb ?_
     replace S:=S.arr [0,1,2,3,4,5] [0,5,6,7,8,9,10]
     obtain rfl:=zbz H
     exact ⟨rfl,((((((((((Dif.refl _ _).upd rfl _).upd rfl _).upd rfl _).upd rfl _).mask rfl _).upd rfl _).upd rfl _).upd rfl _).upd rfl _),s78,S⟩
    ·replace H:=if_f hc44 H
     refine zd (za (wd (ze vt rfl (o':=0) rfl) (wd (zj x7 rfl ((S.blk 1).cell (Ln.get_kind _))) ?_)))
     obtain ⟨r80,er80,H⟩ := zt H
     obtain ⟨B82,MB82,SB82,back⟩ := S.sub [] [] [oB b31 zk (Term.C (⟨0,ByteArray.empty,ByteArray.empty,0,SlV.nil⟩ : Term)),oB b28 T_Ln (Ln.C y25),oB b21 zk (Term.C (⟨x25_0.kind,x25_0.name,x25_0.other,x25_0.form,s26⟩ : Term)),oB b11 x9 [.func (.func xB) #[] #[]],oT a_0 r3.1,oB b2 zk (Term.C (⟨0,ByteArray.empty,ByteArray.empty,0,SlV.nil⟩ : Term))]
     refine zu (zq ca_hilbert_axiom) zbv (hilbert_axiom_st SB82 er80) ?_
     rintro _ w81 ⟨s83,rfl,S2⟩
     replace S:=back _ _ _ _ _ S2 rfl rfl
     clear back S2 SB82
     refine xy (C:=Term.C) (l:=[(⟨r80.kind,r80.name,r80.other,r80.form,s83⟩ : Term)]) (vs:=[.agg (Term.C (⟨r80.kind,r80.name,r80.other,r80.form,s83⟩ : Term)).toArray]) zR yW.zero rfl rfl (fun a _=>Term.len a) zbv rfl zbv fun b85 w84 s86 hBw84 hw84=>?_
     replace S:=((S.lit hBw84 hw84 zbx).bigTm).consTm (x:=r80) 0
     replace S:=(S.frzTm 0 0).zs [0,2,3,4,5,6,7,8,9]
     obtain ⟨r87,er87,H⟩ := zt H
     obtain ⟨B89,MB89,SB89,back⟩ := S.sub [0] [] [oB b31 zk (Term.C (⟨0,ByteArray.empty,ByteArray.empty,0,SlV.nil⟩ : Term)),oB b28 T_Ln (Ln.C y25),oB b21 zk (Term.C (⟨x25_0.kind,x25_0.name,x25_0.other,x25_0.form,s26⟩ : Term)),oB b11 x9 [.func (.func xB) #[] #[]],oT a_0 r3.1,oB b2 zk (Term.C (⟨0,ByteArray.empty,ByteArray.empty,0,SlV.nil⟩ : Term))]
     refine zu (zq xV) zbv (xW SB89 er87) ?_
     rintro _ w88 ⟨s90,rfl,S2⟩
     replace S:=back _ _ _ _ _ S2 rfl rfl
     clear back S2 SB89
     refine zF zE rfl rfl (S.blk 0) (Term.len _) (by rw [Term.len]; decide) (Term.one _) (zV (Term.len _)) fun w91 B hw91 zw91=>?_
     replace S:=S.store 0 B hw91
     clear B
     refine zb (za (wd (ze xX rfl (o':=1) rfl) (wd (zj zQ rfl ((S.blk 1).cell (Ln.get_form _))) (wd (ze yX rfl (o':=3) rfl) ?_))))
     refine yZ zQ rfl rfl (S.blk 0) (by rw [Term.len]; decide) rfl (Term.set_form _ _) fun w92 B hw92 zw92=>?_
     replace S:=S.store 0 B hw92
     clear B
     refine zb ?_
     replace S:=S.arr [0,1,2,3,4,5] [0,4,5,6,7,8,9]
     obtain rfl:=zbz H
     exact ⟨rfl,(((((((((((((Dif.refl _ _).upd rfl _).upd rfl _).upd rfl _).upd rfl _).upd rfl _).upd rfl _).upd rfl _).upd rfl _).upd rfl _).upd rfl _).upd rfl _).upd rfl _),s90,S⟩
  rintro g93 u94 ⟨s33,S⟩
  have H:=Ho32
  obtain ⟨r96,er96,H⟩ := zt H
  refine vw 6 ⟨fun _ _=>True,fun _ _ _=>True,fun i v _=>match i with
   | 0=>v=Value.func (.func xB) #[] #[]
   | 1=>v=Value.int .i64 i25
   | 2=>v=Value.string r96
   | 3=>v=Value.agg (Term.C (⟨o32.kind,o32.name,o32.other,o32.form,s33⟩ : Term)).toArray
   | 4=>v=Value.agg (Term.C (⟨x25_0.kind,x25_0.name,x25_0.other,x25_0.form,s26⟩ : Term)).toArray
   | _=>True⟩ (fun L g v => ∃ Z102:List OA,(∀ z ∈ [zf s33 o32.sub,zf SlV.nil ([]),oB c24 yH [s_2.v],zf s26 x25_0.sub,fS 1 IC s_1 a1,fS 4 Ln.C s_2 a2,oPw],z ∈ Z102)∧Made L g Z102 5 72 (fun (c:SlV)=>c.v) (fun (c:SlV)=>[zf c ([o32,x25_0])])∧St A M25 w v [oB b31 zk (Term.C (⟨o32.kind,o32.name,o32.other,o32.form,s33⟩ : Term)),oB b28 T_Ln (Ln.C y25),oB b21 zk (Term.C (⟨x25_0.kind,x25_0.name,x25_0.other,x25_0.form,s26⟩ : Term)),oB b11 x9 [.func (.func xB) #[] #[]],oT a_0 r3.1,oB b2 zk (Term.C (⟨0,ByteArray.empty,ByteArray.empty,0,SlV.nil⟩ : Term))] Z102) hmix zby (fun _ _ _ _ _ _ _ hv=>hv) (fun g=>⟨_,fun _ h=>h,Made.no,S.ext (Ext.drawn _)⟩) ⟨?_,?_,?_,?_,?_,?_,trivial⟩ ?_
  ·rintro L g v hL hcl hclo ⟨Z102,hZ,hm5,S⟩ 
   refine wd (zj vJ rfl ((S.blk 3).cell rfl)) ?_
   exact zb (ob4 trivial rfl ⟨_,hZ,hm5.keep rfl rfl tl0,S⟩)
  ·rintro L g v hL hcl hclo ⟨Z102,hZ,hm5,S⟩ 
   refine wd (zh rfl) ?_
   exact zb (ob4 trivial rfl ⟨_,hZ,hm5.keep rfl rfl tl0,S⟩)
  ·rintro L g v hL hcl hclo ⟨Z102,hZ,hm5,S⟩ hv0 hv1
   replace S:=(S.zneed hZ)
   obtain ⟨B106,MB106,SB106,back⟩ := S.calln 0 ((.z 6 rfl .nil))
   refine zu (does_callvg uL hv0 (zT hv1 rfl)) zbv (uN SB106 er96) ?_
   rintro _ w105 ⟨rfl,S2⟩
   replace S:=back _ _ _ _ S2 rfl
   clear back S2 SB106
   exact zb (ob4 trivial rfl ⟨_,(fun z h=>tl7 z (hZ z h)),hm5.keep rfl rfl tl7,S⟩)
  ·rintro L g v hL hcl hclo ⟨Z102,hZ,hm5,S⟩ 
   refine wd (zp zE rfl ((S.blk 0).all _ (Term.len _)) (Term.len _)) ?_
   exact zb (ob4 trivial rfl ⟨_,hZ,hm5.keep rfl rfl tl0,S⟩)
  ·rintro L g v hL hcl hclo ⟨Z102,hZ,hm5,S⟩ 
   refine wd (zp zE rfl ((S.blk 2).all _ (Term.len _)) (Term.len _)) ?_
   exact zb (ob4 trivial rfl ⟨_,hZ,hm5.keep rfl rfl tl0,S⟩)
  ·rintro L g v hL hcl hclo ⟨Z102,hZ,hm5,S⟩ hv3 hv4
   replace S:=(S.zneed hZ)
   refine xy (C:=Term.C) (l:=[(⟨o32.kind,o32.name,o32.other,o32.form,s33⟩ : Term),(⟨x25_0.kind,x25_0.name,x25_0.other,x25_0.form,s26⟩ : Term)]) (vs:=[.agg (Term.C (⟨o32.kind,o32.name,o32.other,o32.form,s33⟩ : Term)).toArray,.agg (Term.C (⟨x25_0.kind,x25_0.name,x25_0.other,x25_0.form,s26⟩ : Term)).toArray]) zR yW.zero (xJ hv3 (xJ hv4 rfl)) rfl (fun a _=>Term.len a) zbv rfl zbv fun b108 w107 s109 hBw107 hw107=>?_
   replace S:=((S.lit hBw107 hw107 zbx).bigTm).consTm (x:=x25_0) 3
   replace S:=(S.consTm (x:=o32) 0).frzTm 0 0
   exact zb (ob4 trivial trivial ⟨_,(fun z h=>tl9 z (hZ z h)),Made.one (val:=(fun (c:SlV)=>c.v)) (ps:=(fun (c:SlV)=>[zf c ([o32,x25_0])])) s109 (vr List.mem_cons_self uk),S⟩)
  rintro L g w110 hLm ⟨Z102,hZ,hm5,S⟩ hv111_0 hv111_1 hv111_2 hv111_3 hv111_4 _
  have hLt : ∀ j,j < 6→L j=true:=fun j hj=>by rw [hLm]; exact decide_eq_true hj
  obtain ⟨s101,hv111_5,hp5⟩ := hm5 (hLt 5 zbv)
  replace S:=S.pickZ (yO (l1:=[zf s101 ([o32,x25_0])]) hp5 hZ)
  clear hp5 hZ hm5
  refine wd (Does.to (v' := .agg (Term.C (⟨12,r96,ByteArray.empty,0,s101⟩ : Term)).toArray) (xo (vs:=[(0,.int .i64 12),(1,.string r96),(4,s101.v)]) y3 (xJ rfl (xJ hv111_2 (xJ hv111_5 rfl))) (Bld.one rfl rfl (by rw [Term.len]; decide) (Term.set_kind _ _) (Bld.one rfl rfl (by rw [Term.len]; decide) (Term.set_name _ _) (Bld.one rfl (SlV.one _ _ rfl) (by rw [Term.len]; decide) (Term.set_sub _ _) Bld.nil)))) rfl) ?_
  refine zF zE rfl rfl (S.blk 2) (Term.len _) (by rw [Term.len]; decide) (Term.one _) (zV (Term.len _)) fun w112 B hw112 zw112=>?_
  replace S:=S.store 2 B hw112
  clear B
  refine zb ?_
  replace S:=S.arr [0,3,4,5] [2,3,0,5,6,7]
  obtain rfl:=zbz H
  exact ⟨_,rfl,s101,S⟩
 ·rintro s25 s114 B25 w113 rfl S hB25
  replace S:=S
  have H:=Ho25
  dsimp only [fin] at H
  refine zd (zd (za (wd (zp zE rfl ((S.blk 0).all _ (Term.len _)) (Term.len _)) ?_)))
  obtain ⟨r115,er115,H⟩ := zt H
  obtain ⟨B117,MB117,SB117,back⟩ := S.calln 0 ((.z 2 rfl .nil))
  refine zu (zq ca_term_Size) zbv (term_Size_st (a0:=s25) SB117 er115) ?_
  rintro _ w116 ⟨rfl,S2⟩
  replace S:=back _ _ _ _ S2 rfl
  clear back S2 SB117
  refine wd (uM rfl rfl) (wd (zD rfl) ?_)
  refine wg (fun hg=>zp zE rfl ((S.blk 0).all _ (Term.len _)) (Term.len _)) ?_
  obtain ⟨r118,er118,H⟩ := zt H
  refine yk (j:=3) (pol:=false) rfl rfl rfl zbv (fun hg=>zN ca_term_Deep (zT (zm hg) rfl)) zbv (fun hg=>(have ⟨M,SS⟩ := S.lend ((.z 2 rfl .nil)); quiet (term_Deep_st (a0:=s25) SS (if_t (by simpa using hg) er118)) (fun v w' h=>⟨h.1,_,_,h.2⟩))) fun w119 hw119=>?_
  replace S:=S.ext hw119
  refine wg (fun hg=>uM (zm hg) rfl) (wd (xq rfl (fun hp=>(zm (xk hp)))) (zb ?_))
  refine zH rfl (fun hc120=>?_) (fun hc120=>?_)
  ·replace H:=if_t hc120 H
   refine zd (za (wd (Does.to (v' := .agg (Term.C (⟨0,ByteArray.empty,ByteArray.empty,0,SlV.nil⟩ : Term)).toArray) (xo (vs:=[]) y3 rfl Bld.nil) rfl) ?_))
   refine zF zE rfl rfl (S.blk 3) (Term.len _) (by rw [Term.len]; decide) (Term.one _) (zV (Term.len _)) fun w121 B hw121 zw121=>?_
   replace S:=S.store 3 B hw121
   clear B
   refine wd (zi rfl) (zb (zy ?_))
   refine end1 (.inl rfl) (S.take hB25).1 fun w122 hcw122=>?_
   replace S:=((S.take hB25).2 _ hcw122).nilTm
   refine ⟨_,(xx (xl zE rfl ((S.blk 0).all _ (Term.len _)) (Term.len _)) (zg rfl)),?_⟩
   replace S:=S.arr [3] [0]
   obtain rfl:=zbz H
   exact ⟨SlV.nil,rfl,S⟩
  replace H:=if_f hc120 H
  refine zA (zd (za (wd (zp zE rfl ((S.blk 0).all _ (Term.len _)) (Term.len _)) ?_)))
  refine zF zE rfl rfl (S.blk 3) (Term.len _) (by rw [Term.len]; decide) (Term.one _) (zV (Term.len _)) fun w123 B hw123 zw123=>?_
  replace S:=S.store 3 B hw123
  clear B
  refine wd (zi rfl) (zb (zy ?_))
  refine end1 (.inl rfl) (S.take hB25).1 fun w124 hcw124=>?_
  replace S:=(S.take hB25).2 _ hcw124
  refine ⟨_,(xx (xl zE rfl ((S.blk 0).all _ (Term.len _)) (Term.len _)) (zg rfl)),?_⟩
  replace S:=S.arr [3] [2]
  obtain rfl:=zbz H
  exact ⟨s114,rfl,S⟩
 ·intro r; exact r.elim
 ·intro h; cases h
end
section
open Gw Go.RowKit
set_option maxHeartbeats 4000000
set_option maxRecDepth 20000
variable {A:Nat→Prop} {N:Oth} {w:World}
theorem formula_Table_Atom_st {a0:Tb} {a_0:Option Addr} {a1:ByteArray} (S:St A N w w [oT a_0 a0] []) {r:Tb × Int × Int} (H:zdn.f a0 a1=some r) :
  Calls PP kL #[.pointer a_0,.string a1] w fun e w' => ∃ v,e = .returned v∧(v = .tuple #[.int .i64 r.2.1,.int .i64 r.2.2]∧St A N w w' [oT a_0 r.1] []):=by
 unfold zdn.f at H
 refine zz (n:=12) fn_formula_Table_Atom rfl rfl zbx (zd (za (wd (zi rfl) (wd (zi rfl) (zb (zd (za ?_)))))))
 refine wd (zo rfl) (wd (xr rfl) (wd (yE bu_Nd (Bld.one rfl rfl (by rw [Nd.len]; decide) (Nd.set_kind _ _) (Bld.one rfl rfl (by rw [Nd.len]; decide) (Nd.set_name _ _) Bld.nil))) ?_))
 obtain ⟨r1,er1,H⟩ := zt H
 obtain ⟨B3,MB3,SB3,back⟩ := S.calln 1 ((.nil))
 refine zu (zq vW) zbv (uZ SB3 er1) ?_
 rintro _ w2 ⟨rfl,S2⟩
 replace S:=back _ _ _ _ S2 rfl
 clear back S2 SB3
 refine wd (zw rfl rfl) (wd (zw rfl rfl) (wd (zi rfl) (wd (zi rfl) (zb (zy ?_)))))
 refine ⟨_,(xx (zg rfl) (zg rfl)),?_⟩
 obtain rfl:=zbz H
 exact ⟨rfl,S⟩
theorem uy {a0:Int} (S:St A N w w [] []) {r:Int} (H:zdo.f a0=some r) :
  Calls PP F_law16_num #[.int .i64 a0] w fun e w' => ∃ v,e = .returned v∧(v = .int .i64 r∧St A N w w' [] []):=by
 unfold zdo.f at H
 refine zz (n:=4) fn_law16_num rfl rfl zbx (zd (za (wd (zi rfl) (zb (zd (za (wd (zh rfl) ?_)))))))
 refine wd (zi rfl) (zb (zy ?_))
 refine ⟨_,(zS (zg rfl)),?_⟩
 obtain rfl:=zbz H
 exact ⟨rfl,S⟩
theorem ref12_Same_gst {zdS:PTerm→PTerm→Option Bool} (zdI : ∀ {A:Nat→Prop} {N:Oth} {w:World} {a0:PTerm} {s_0:SlV} {a1:PTerm} {s_1:SlV} (S:St A N w w [] [zf s_0 a0.sub,zf s_1 a1.sub]) {r:Bool} (H:zdS a0 a1=some r),Calls PP jU #[.agg (Term.C (⟨a0.kind,a0.name,a0.other,a0.form,s_0⟩ : Term)).toArray,.agg (Term.C (⟨a1.kind,a1.name,a1.other,a1.form,s_1⟩ : Term)).toArray] w fun e w' => ∃ v,e = .returned v∧(v = .bool r∧St A N w w' [] [])) {A:Nat→Prop} {N:Oth} {w:World} {a0:PTerm} {s_0:SlV} {a1:PTerm} {s_1:SlV} (S:St A N w w [] [zf s_0 a0.sub,zf s_1 a1.sub]) {k:Nat} {r:Bool} (H:zdp.g zdS k a0 a1=some r) :
  Calls PP jU #[.agg (Term.C (⟨a0.kind,a0.name,a0.other,a0.form,s_0⟩ : Term)).toArray,.agg (Term.C (⟨a1.kind,a1.name,a1.other,a1.form,s_1⟩ : Term)).toArray] w fun e w' => ∃ v,e = .returned v∧(v = .bool r∧St A N w w' [] []):=by
 unfold zdp.g at H
 refine zz (n:=60) fn_ref12_Same rfl rfl zbx (zd (za ?_))
 refine z1 rfl zbv fun b2 w1 hw1=>?_
 replace S:=S.new hw1
 refine z1 rfl zbv fun b4 w3 hw3=>?_
 replace S:=S.new hw3
 refine wd (zn rfl) (zb (zd (zd (za (wd (ze yc rfl (o':=0) rfl) (wd (zj xG rfl ((S.blk 1).cell (Term.get_kind _))) (wd (ze yc rfl (o':=0) rfl) ?_)))))))
 refine wd (zj xG rfl ((S.blk 0).cell (Term.get_kind _))) (wd (xj rfl rfl) (wd (zD rfl) ?_))
 refine wg (fun hg=>ze yw rfl (o':=1) rfl) ?_
 refine wg (fun hg=>zj xt (zm hg) ((S.blk 1).cell (Term.get_name _))) ?_
 refine wg (fun hg=>ze yw rfl (o':=1) rfl) ?_
 refine wg (fun hg=>zj xt (zm hg) ((S.blk 0).cell (Term.get_name _))) ?_
 refine wg (fun hg=>jz (zm hg) (zm hg)) (wd (xq rfl (fun hp=>(zm (xk hp)))) (wd (zD rfl) ?_))
 refine wg (fun hg=>ze vg rfl (o':=2) rfl) ?_
 refine wg (fun hg=>zj xt (zm hg) ((S.blk 1).cell (Term.get_other _))) ?_
 refine wg (fun hg=>ze vg rfl (o':=2) rfl) ?_
 refine wg (fun hg=>zj xt (zm hg) ((S.blk 0).cell (Term.get_other _))) ?_
 refine wg (fun hg=>jz (zm hg) (zm hg)) (wd (xq rfl (fun hp=>(zm (xk hp)))) (wd (zD rfl) ?_))
 refine wg (fun hg=>ze yX rfl (o':=3) rfl) ?_
 refine wg (fun hg=>zj zQ (zm hg) ((S.blk 1).cell (Term.get_form _))) ?_
 refine wg (fun hg=>ze yX rfl (o':=3) rfl) ?_
 refine wg (fun hg=>zj zQ (zm hg) ((S.blk 0).cell (Term.get_form _))) ?_
 refine wg (fun hg=>xj (zm hg) (zm hg)) (wd (xq rfl (fun hp=>(zm (xk hp)))) (wd (zD rfl) ?_))
 refine wg (fun hg=>ze xn rfl (o':=4) rfl) ?_
 refine wg (fun hg=>zj xb (zm hg) ((S.blk 1).cell (Term.get_sub _))) ?_
 refine wg (fun hg=>does_lenF zR (zm hg) (S.onZ 0)) ?_
 refine wg (fun hg=>ze xn rfl (o':=4) rfl) ?_
 refine wg (fun hg=>zj xb (zm hg) ((S.blk 0).cell (Term.get_sub _))) ?_
 refine wg (fun hg=>does_lenF zR (zm hg) (S.onZ 1)) ?_
 refine wg (fun hg=>xj (zm hg) (zm hg)) (wd (xq rfl (fun hp=>(zm (xk hp)))) (zb ?_))
 refine zH rfl (fun hc5=>?_) (fun hc5=>?_)
 ·replace H:=if_t hc5 H
  refine zd (za (wd (zn rfl) (zb (zy ?_))))
  refine ⟨_,(zS (zg rfl)),?_⟩
  replace S:=S.arr [] []
  obtain rfl:=zbz H
  exact ⟨rfl,S⟩
 replace H:=if_f hc5 H
 refine zA (zd (zd (za (wd (zi rfl) (zb ?_)))))
 obtain ⟨o6,e6,Ho6⟩ := zt H
 clear H
 refine xO [4,5,41,42,43,44,45,46,47,48,49,50,51,52,53,54,55,56,57,58,59] (fun fr W => ∃ s6:Int,o6 = .inl s6∧fr 5 = .int .i64 s6∧St A N w W [oB b4 zk (Term.C (⟨a1.kind,a1.name,a1.other,a1.form,s_1⟩ : Term)),oB b2 zk (Term.C (⟨a0.kind,a0.name,a0.other,a0.form,s_0⟩ : Term))] [zf s_0 a0.sub,zf s_1 a1.sub]) ?_ ?_
 ·refine zO ?_
  refine xN (α:=Nat × Int) [4,5,41,42,43,44,45,46,47,48,49,50,51,52,53,54,55,56,57,58,59] (fun x fr W=>iter (fun s=>zdp.b0 a0 a1 zdS s) x.1 x.2=some o6∧fr 5 = .int .i64 (x.2)∧St A N w W [oB b4 zk (Term.C (⟨a1.kind,a1.name,a1.other,a1.form,s_1⟩ : Term)),oB b2 zk (Term.C (⟨a0.kind,a0.name,a0.other,a0.form,s_0⟩ : Term))] [zf s_0 a0.sub,zf s_1 a1.sub]) (fun x=>x.1) (k,0) ⟨(by dsimp only; exact e6),rfl,S⟩ ?_
  rintro ⟨m6,x6_0⟩ g6 u6 ⟨e6,q6_5,S⟩
  try dsimp only at e6
  try dsimp only at S
  try dsimp only at q6_5
  obtain ⟨m6,rfl⟩ : ∃ m,m6=m + 1:=⟨m6 - 1,by cases m6 with | zero=>cases e6 | succ m=>rfl⟩
  obtain ⟨q6,H,e6⟩ := iter_s e6
  unfold zdp.b0 at H
  try dsimp only at H
  refine zd (zd (za (wd (zh q6_5) (wd (ze xn rfl (o':=4) rfl) (wd (zj xb rfl ((S.blk 1).cell (Term.get_sub _))) (wd (does_lenF zR rfl (S.onZ 0)) (wd (xK rfl rfl) (zb ?_))))))))
  refine zH rfl (fun hc7=>?_) (fun hc7=>?_)
  rotate_left
  ·replace H:=if_f hc7 H
   refine xZ ?_
   obtain rfl:=zbz H
   exact ⟨rfl,((((((Dif.self _ _ _).upd rfl _).upd rfl _).upd rfl _).upd rfl _).upd rfl _),x6_0,e6,q6_5,S⟩
  replace H:=if_t hc7 H
  refine zA (zd ?_)
  refine zO (zd ?_)
  refine xU 10 (Ext u6) hmix zby zby (Ext.drawn _) (zx (fun v K=>ze xn rfl (o':=4) rfl) (zx (fun v K=>zj xb rfl (((S.ext K).blk 1).cell (Term.get_sub _))) (zx (fun v K=>zh q6_5) ?_)))
  obtain ⟨hi8,H⟩ := xm H
  refine zx (fun v K=>does_indexF zR rfl rfl ((S.ext K).onZ 0) (zI hi8).1 (zI hi8).2) ?_
  obtain ⟨s9,hc10,S⟩ := S.viewTerm 0 (zI hi8)
  replace S:=S
  refine zx (fun v K=>zp zE rfl (hc10.chg K (fun x=>x)) (Term.len _)) (zx (fun v K=>ze xn rfl (o':=4) rfl) (zx (fun v K=>zj xb rfl (((S.ext K).blk 0).cell (Term.get_sub _))) (zx (fun v K=>zh q6_5) ?_)))
  obtain ⟨hi11,H⟩ := xm H
  refine zx (fun v K=>does_indexF zR rfl rfl ((S.ext K).onZ 2) (zI hi11).1 (zI hi11).2) ?_
  obtain ⟨s12,hc13,S⟩ := S.viewTerm 2 (zI hi11)
  replace S:=S
  refine zx (fun v K=>zp zE rfl (hc13.chg K (fun x=>x)) (Term.len _)) ?_
  refine yV fun w14 K=>?_
  replace S:=S.ext K
  clear K
  obtain ⟨r15,er15,H⟩ := zt H
  obtain ⟨B17,MB17,SB17,back⟩ := S.calln 0 ((.z 1 rfl (.z 0 rfl .nil)))
  refine zu (zq zbb) zbv (zdI (a0:=(at_ PTerm.z a0.sub x6_0)) (a1:=(at_ PTerm.z a1.sub x6_0)) SB17 er15) ?_
  rintro _ w16 ⟨rfl,S2⟩
  replace S:=back _ _ _ _ S2 rfl
  clear back S2 SB17
  refine wd (xh rfl) (zb ?_)
  refine zH rfl (fun hc18=>?_) (fun hc18=>?_)
  ·replace H:=if_t hc18 H
   refine zd (za (wd (zn rfl) (zb (zy ?_))))
   refine ⟨_,(zS (zg rfl)),?_⟩
   replace S:=S.arr [] []
   obtain rfl:=zbz H
   obtain rfl:=e6
   obtain rfl:=un Ho6
   exact ⟨rfl,S⟩
  replace H:=if_f hc18 H
  refine zA (za (wd (zh q6_5) (wd (uf rfl rfl) (wd (zi rfl) (zb ?_)))))
  replace S:=S.arr [0,1] [2,3]
  obtain rfl:=zbz H
  exact ⟨rfl,(((((((((((((((((((((Dif.self _ _ _).upd rfl _).upd rfl _).upd rfl _).upd rfl _).upd rfl _).upd rfl _).upd rfl _).upd rfl _).upd rfl _).upd rfl _).upd rfl _).upd rfl _).upd rfl _).upd rfl _).upd rfl _).upd rfl _).upd rfl _).upd rfl _).upd rfl _).upd rfl _),(m6,IntKind.i64.wrap (x6_0 + 1)),⟨e6,rfl,S⟩,by dsimp only; omega⟩
 rintro g19 u20 ⟨s6,rfl,p6_5,S⟩
 have H:=Ho6
 dsimp only [aft] at H
 refine zd (za (wd (zn rfl) (zb (zy ?_))))
 refine ⟨_,(zS (zg rfl)),?_⟩
 replace S:=S.arr [] []
 obtain rfl:=zbz H
 exact ⟨rfl,S⟩
theorem ref12_Same_st {a0:PTerm} {s_0:SlV} {a1:PTerm} {s_1:SlV} (S:St A N w w [] [zf s_0 a0.sub,zf s_1 a1.sub]) {k:Nat} {r:Bool} (H:zdp.f k a0 a1=some r) :
  Calls PP jU #[.agg (Term.C (⟨a0.kind,a0.name,a0.other,a0.form,s_0⟩ : Term)).toArray,.agg (Term.C (⟨a1.kind,a1.name,a1.other,a1.form,s_1⟩ : Term)).toArray] w fun e w' => ∃ v,e = .returned v∧(v = .bool r∧St A N w w' [] []):=by
 have main : ∀ (k:Nat) {A:Nat→Prop} {N:Oth} {w:World} {a0:PTerm} {s_0:SlV} {a1:PTerm} {s_1:SlV} (S:St A N w w [] [zf s_0 a0.sub,zf s_1 a1.sub]) {r:Bool} (H:zdp.f k a0 a1=some r),Calls PP jU #[.agg (Term.C (⟨a0.kind,a0.name,a0.other,a0.form,s_0⟩ : Term)).toArray,.agg (Term.C (⟨a1.kind,a1.name,a1.other,a1.form,s_1⟩ : Term)).toArray] w fun e w' => ∃ v,e = .returned v∧(v = .bool r∧St A N w w' [] []):=by
  intro k
  induction k with
  | zero=>intro A N w a0 s_0 a1 s_1 S r H; cases H
  | succ k ih=>intro A N w a0 s_0 a1 s_1 S r H; exact ref12_Same_gst ih S H
 exact main k S H
theorem ref16_Lines_st {a0:List Ln} {s_0:SlV} {a1:List Ln} {s_1:SlV} (S:St A N w w [] [fS 4 Ln.C s_0 a0,fS 4 Ln.C s_1 a1]) {r:Bool} (H:zdq.f a0 a1=some r) :
  Calls PP F_ref16_Lines #[s_0.v,s_1.v] w fun e w' => ∃ v,e = .returned v∧(v = .bool r∧St A N w w' [] []):=by
 unfold zdq.f at H
 refine zz (n:=26) fn_ref16_Lines rfl rfl zbx (zd (za (wd (zn rfl) (zb (zd (zd (za (wd (zC rfl) ?_))))))))
 refine wd (xd zY rfl (S.rd 0)) (wd (zC rfl) (wd (xd zY rfl (S.rd 1)) (wd (xj rfl rfl) (zb ?_))))
 refine zH rfl (fun hc1=>?_) (fun hc1=>?_)
 ·replace H:=if_t hc1 H
  refine zd (za (wd (zn rfl) (zb (zy ?_))))
  refine ⟨_,(zS (zg rfl)),?_⟩
  replace S:=S.arr [] []
  obtain rfl:=zbz H
  exact ⟨rfl,S⟩
 replace H:=if_f hc1 H
 refine zA (zd (zd (za (wd (zi rfl) (zb ?_)))))
 obtain ⟨o2,e2,Ho2⟩ := zt H
 clear H
 refine xO [4,5,11,12,13,14,15,16,17,18,19,20,21,22,23,24,25] (fun fr W => ∃ s2:Unit,o2 = .inl s2∧St A N w W [] [fS 4 Ln.C s_0 a0,fS 4 Ln.C s_1 a1]) ?_ ?_
 ·refine zO ?_
  refine xN (α:=Nat × Int × Unit) [4,5,11,12,13,14,15,16,17,18,19,20,21,22,23,24,25] (fun x fr W=>(x.1:Int)=(a0.length:Int) - x.2.1∧0 ≤ x.2.1∧forN (fun i s=>zdq.b0 a1 a0 i) x.1 x.2.1 x.2.2=some o2∧fr 5 = .int .i64 x.2.1∧St A N w W [] [fS 4 Ln.C s_0 a0,fS 4 Ln.C s_1 a1]) (fun x=>x.1) (((a0.length:Int) - 0).toNat,0,()) ⟨(by dsimp only; have hle:=Int.natCast_nonneg (a0.length); omega),(Int.le_refl _),(by dsimp only; exact e2),rfl,S⟩ ?_
  rintro ⟨m2,i2,_⟩ g2 u2 ⟨hm2,hl2,e2,q2_i,S⟩
  try dsimp only at hm2
  try dsimp only at hl2
  try dsimp only at e2
  try dsimp only at S
  try dsimp only at q2_i
  refine zd (zd (za (wd (zh q2_i) (wd (zC rfl) (wd (xd zY rfl (S.rd 0)) (wd (xK rfl rfl) (zb ?_)))))))
  refine zH rfl (fun hc3=>?_) (fun hc3=>?_)
  rotate_left
  ·refine xZ ?_
   have hge:(a0.length:Int) ≤ i2:=Int.not_lt.1 (of_decide_eq_false hc3)
   obtain rfl:m2=0:=by omega
   replace e2:=jr e2
   exact ⟨rfl,(((((Dif.self _ _ _).upd rfl _).upd rfl _).upd rfl _).upd rfl _),(),e2,S⟩
  refine zA ?_
  have hlt2:i2 < (a0.length:Int):=of_decide_eq_true hc3
  obtain ⟨m2,rfl⟩ : ∃ m,m2=m + 1:=⟨m2 - 1,by omega⟩
  obtain ⟨q2,H,e2⟩ := js e2
  unfold zdq.b0 at H
  try dsimp only at H
  have hb2:=(S.len 0)
  refine zd ?_
  refine zO (zd ?_)
  refine xU 8 (Ext u2) hmix zby zby (Ext.drawn _) (zx (fun v K=>zC rfl) (zx (fun v K=>zh q2_i) (zx (fun v K=>zW zY rfl rfl ((S.ext K).rd 0) (And.intro (show 0 ≤ i2 by omega) (show i2 < (a0.length:Int) from hlt2)).1 (And.intro (show 0 ≤ i2 by omega) (show i2 < (a0.length:Int) from hlt2)).2) (zx (fun v K=>zp jM rfl (((S.ext K).rd 0).at (xp Ln.z (And.intro (show 0 ≤ i2 by omega) (show i2 < (a0.length:Int) from hlt2)))) (Ln.len _)) (zx (fun v K=>zC rfl) ?_)))))
  refine zx (fun v K=>zh q2_i) ?_
  obtain ⟨hi5,H⟩ := xm H
  refine zx (fun v K=>zW zY rfl rfl ((S.ext K).rd 1) (zI hi5).1 (zI hi5).2) (zx (fun v K=>zp jM rfl (((S.ext K).rd 1).at (xp Ln.z (zI hi5))) (Ln.len _)) ?_)
  refine yV fun w6 K=>?_
  replace S:=S.ext K
  clear K
  refine wd (does_nev eg_Ln (eq_Ln _ _) zbv rfl rfl) (zb ?_)
  refine zH rfl (fun hc7=>?_) (fun hc7=>?_)
  ·replace H:=if_t hc7 H
   refine zd (za (wd (zn rfl) (zb (zy ?_))))
   refine ⟨_,(zS (zg rfl)),?_⟩
   replace S:=S.arr [] []
   obtain rfl:=zbz H
   obtain rfl:=e2
   obtain rfl:=un Ho2
   exact ⟨rfl,S⟩
  replace H:=if_f hc7 H
  refine zA (za (wd (zh q2_i) (wd (xM rfl rfl (c:=i2 + 1) rfl zbw zbw) (wd (zi rfl) (zb ?_)))))
  obtain rfl:=zbz H
  exact ⟨rfl,(((((((((((((((((Dif.self _ _ _).upd rfl _).upd rfl _).upd rfl _).upd rfl _).upd rfl _).upd rfl _).upd rfl _).upd rfl _).upd rfl _).upd rfl _).upd rfl _).upd rfl _).upd rfl _).upd rfl _).upd rfl _).upd rfl _),(m2,i2 + 1,()),⟨(by dsimp only; omega),(by dsimp only; omega),e2,rfl,S⟩,by dsimp only; omega⟩
 rintro g8 u9 ⟨s2,rfl,S⟩
 have H:=Ho2
 dsimp only [aft] at H
 refine zd (za (wd (zn rfl) (zb (zy ?_))))
 refine ⟨_,(zS (zg rfl)),?_⟩
 replace S:=S.arr [] []
 obtain rfl:=zbz H
 exact ⟨rfl,S⟩
theorem law16_heads_st  (S:St A N w w [] [oEt,oPw]) {k:Nat} {r:Bool} (H:zdr.f k  = some r) :
  Calls PP F_law16_heads #[] w fun e w' => ∃ v,e = .returned v∧(v = .bool r∧St A N w w' [] []):=by
 unfold zdr.f at H
 refine zz (n:=129) fn_law16_heads rfl rfl zbx (zd (za (wd (zn rfl) (zb (zd (za ?_))))))
 obtain ⟨r1,er1,H⟩ := zt H
 obtain ⟨B3,MB3,SB3,back⟩ := S.calln 0 ((.nil))
 refine zu (zq jY) zbv (j9 SB3 er1) ?_
 rintro _ w2 ⟨a4,rfl,S2⟩
 replace S:=back _ _ _ _ S2 rfl
 clear back S2 SB3
 refine wd (xi rfl) (zb (zd (za (wd (zo rfl) ?_))))
 obtain ⟨r5,er5,H⟩ := zt H
 obtain ⟨B7,MB7,SB7,back⟩ := S.calln 1 ((.nil))
 refine zu (zq ca_formula_Table_Atom) zbv (formula_Table_Atom_st SB7 er5) ?_
 rintro _ w6 ⟨rfl,S2⟩
 replace S:=back _ _ _ _ S2 rfl
 clear back S2 SB7
 refine wd (z7 rfl) (wd (zw rfl rfl) (wd (zw rfl rfl) (wd (zi rfl) (wd (zi rfl) (zb (zd (za ?_)))))))
 refine wd (zo rfl) (wd (zh rfl) (wd (zh rfl) ?_))
 obtain ⟨r8,er8,H⟩ := zt H
 obtain ⟨B10,MB10,SB10,back⟩ := S.calln 1 ((.nil))
 refine zu (zq ca_formula_Table_Imp) zbv (formula_Table_Imp_st SB10 er8) ?_
 rintro _ w9 ⟨rfl,S2⟩
 replace S:=back _ _ _ _ S2 rfl
 clear back S2 SB10
 refine wd (z7 rfl) (wd (zw rfl rfl) (wd (zw rfl rfl) (wd (zi rfl) (wd (zi rfl) (zb (zd (za ?_)))))))
 refine wd (zo rfl) (wd (zh rfl) ?_)
 refine xy (C:=IC) (l:=[r5.2.1]) (vs:=[.int .i64 r5.2.1]) xR zaD.zero rfl rfl (fun _ _=>rfl) zbv rfl zbv fun b12 w11 s13 hBw11 hw11=>?_
 replace S:=S.lit hBw11 hw11 zbx
 refine wd (zh rfl) (wd (yE bu_Ln (Bld.one rfl rfl (by rw [Ln.len]; decide) (Ln.set_kind _ _) (Bld.one rfl rfl (by rw [Ln.len]; decide) (Ln.set_form _ _) Bld.nil))) ?_)
 refine xy (C:=Ln.C) (l:=[{ Ln.z with kind:=10,form:=r5.2.1 }]) (vs:=[.agg (Ln.C ({ Ln.z with kind:=10,form:=r5.2.1 })).toArray]) zY el_Ln.zero rfl rfl (fun a _=>Ln.len a) zbv rfl zbv fun b15 w14 s16 hBw14 hw14=>?_
 replace S:=S.lit hBw14 hw14 zbx
 refine wd (zh rfl) ?_
 obtain ⟨r17,er17,H⟩ := zt H
 replace S:=S.front 2
 obtain ⟨B19,MB19,SB19,back⟩ := S.calln 1 ((.s 1 rfl (.s 0 rfl .nil)))
 refine zu (zq ca_hilbert_Deduce) zbv (hilbert_Deduce_st SB19 er17) ?_
 rintro _ w18 ⟨s20,rfl,S2⟩
 replace S:=back _ _ _ _ S2 rfl
 clear back S2 SB19
 refine wd (z7 rfl) (wd (zw rfl rfl) (wd (zw rfl rfl) (wd (x6 rfl) (wd (zi rfl) (zb (zd (za ?_)))))))
 refine wd (zo rfl) (wd (Does.to (v' := .agg (Term.C (⟨1,(⟨#[120]⟩ : ByteArray),ByteArray.empty,0,SlV.nil⟩ : Term)).toArray) (xo (vs:=[(0,.int .i64 1),(1,.string (⟨#[120]⟩ : ByteArray))]) y3 (xJ rfl (xJ rfl rfl)) (Bld.one rfl rfl (by rw [Term.len]; decide) (Term.set_kind _ _) (Bld.one rfl rfl (by rw [Term.len]; decide) (Term.set_name _ _) Bld.nil))) rfl) ?_)
 replace S:=S.nilTm
 refine xy (C:=Term.C) (l:=[(⟨1,(⟨#[120]⟩ : ByteArray),ByteArray.empty,0,SlV.nil⟩ : Term)]) (vs:=[.agg (Term.C (⟨1,(⟨#[120]⟩ : ByteArray),ByteArray.empty,0,SlV.nil⟩ : Term)).toArray]) zR yW.zero rfl rfl (fun a _=>Term.len a) zbv rfl zbv fun b22 w21 s23 hBw21 hw21=>?_
 replace S:=((S.lit hBw21 hw21 zbx).bigTm).consTm (x:=(⟨1,(⟨#[120]⟩ : ByteArray),ByteArray.empty,0,[]⟩ : PTerm)) 0
 replace S:=(S.frzTm 0 0).zs [0,2,3,4]
 refine wd (Does.to (v' := .agg (Term.C (⟨2,(⟨#[120]⟩ : ByteArray),ByteArray.empty,0,s23⟩ : Term)).toArray) (xo (vs:=[(0,.int .i64 2),(1,.string (⟨#[120]⟩ : ByteArray)),(4,s23.v)]) y3 (xJ rfl (xJ rfl (xJ rfl rfl))) (Bld.one rfl rfl (by rw [Term.len]; decide) (Term.set_kind _ _) (Bld.one rfl rfl (by rw [Term.len]; decide) (Term.set_name _ _) (Bld.one rfl (SlV.one _ _ rfl) (by rw [Term.len]; decide) (Term.set_sub _ _) Bld.nil)))) rfl) (wd (zh rfl) ?_)
 replace S:=S.nilZ 2 Hyp.C
 obtain ⟨r24,er24,H⟩ := zt H
 obtain ⟨B26,MB26,SB26,back⟩ := S.calln 1 ((.z 0 rfl (.z 1 rfl (.z 3 rfl .nil))))
 refine zu (zN ca_hilbert_Compile (zT rfl (zT SlV.nil_eq (zT rfl (zT rfl rfl))))) zbv (hilbert_Compile_st (a2:=(⟨2,(⟨#[120]⟩ : ByteArray),ByteArray.empty,0,[(⟨1,(⟨#[120]⟩ : ByteArray),ByteArray.empty,0,[]⟩ : PTerm)]⟩ : PTerm)) SB26 er24) ?_
 rintro _ w25 ⟨s27,rfl,S2⟩
 replace S:=back _ _ _ _ S2 rfl
 clear back S2 SB26
 refine wd (z7 rfl) (wd (zw rfl rfl) (wd (zw rfl rfl) (wd (x6 rfl) (wd (zi rfl) (zb (zd (za ?_)))))))
 refine wd (zo rfl) (wd (zC rfl) ?_)
 replace S:=S.nilZ 1 IC
 obtain ⟨r28,er28,H⟩ := zt H
 obtain ⟨B30,MB30,SB30,back⟩ := S.calln 1 ((.z 0 rfl (.s 1 rfl .nil)))
 refine zu (zN ca_hilbert_Tells (zT rfl (zT SlV.nil_eq (zT rfl rfl)))) zbv (hilbert_Tells_st SB30 er28) ?_
 rintro _ w29 ⟨rfl,S2⟩
 replace S:=back _ _ _ _ S2 rfl
 clear back S2 SB30
 refine wd (z7 rfl) (wd (zw rfl rfl) (wd (zw rfl rfl) (wd (zi rfl) (wd (zi rfl) (zb (zd (za ?_)))))))
 refine wd (zo rfl) (wd (zh rfl) ?_)
 refine xy (C:=IC) (l:=[r5.2.1]) (vs:=[.int .i64 r5.2.1]) xR zaD.zero rfl rfl (fun _ _=>rfl) zbv rfl zbv fun b32 w31 s33 hBw31 hw31=>?_
 replace S:=S.lit hBw31 hw31 zbx
 refine wd (zh rfl) (wd (yE bu_Ln (Bld.one rfl rfl (by rw [Ln.len]; decide) (Ln.set_kind _ _) (Bld.one rfl rfl (by rw [Ln.len]; decide) (Ln.set_form _ _) Bld.nil))) ?_)
 refine xy (C:=Ln.C) (l:=[{ Ln.z with kind:=10,form:=r5.2.1 }]) (vs:=[.agg (Ln.C ({ Ln.z with kind:=10,form:=r5.2.1 })).toArray]) zY el_Ln.zero rfl rfl (fun a _=>Ln.len a) zbv rfl zbv fun b35 w34 s36 hBw34 hw34=>?_
 replace S:=S.lit hBw34 hw34 zbx
 obtain ⟨r37,er37,H⟩ := zt H
 replace S:=(S.frzS 1).frzS 0
 obtain ⟨B39,MB39,SB39,back⟩ := S.sub [1,0,7] [oT a4 r28.1] [oS T_Ln 4 Ln.C s27 r24.2.1,oS T_Ln 4 Ln.C s20 r17.2.1,oS T_Ln 4 Ln.C s16 ([{ Ln.z with kind:=10,form:=r5.2.1 }]),oS yg 1 IC s13 ([r5.2.1])]
 refine zu (zq ca_hilbert_Term) zbv (hilbert_Term_st SB39 er37) ?_
 rintro _ w38 ⟨s40,rfl,S2⟩
 replace S:=back _ _ _ _ _ S2 rfl rfl
 clear back S2 SB39
 refine wd (z7 rfl) (wd (zw rfl rfl) (wd (zw rfl rfl) ?_))
 refine xa y6 zbv fun b42 w41 hw41=>?_
 replace S:=S.new hw41
 refine zF zE rfl rfl (S.blk 0) (Term.len _) (by rw [Term.len]; decide) (Term.one _) (zV (Term.len _)) fun w43 B hw43 zw43=>?_
 replace S:=S.store 0 B hw43
 clear B
 refine wd (zi rfl) (zb (zd (zd (za (wd (zC rfl) (wd (xd zY rfl (S.rdO 3)) (wd (xj rfl rfl) (zb ?_))))))))
 refine zH rfl (fun hc44=>?_) (fun hc44=>?_)
 ·replace H:=if_t hc44 H
  refine zd (za (wd (zn rfl) (zb (zy ?_))))
  refine ⟨_,(zS (zg rfl)),?_⟩
  replace S:=S.arr [] []
  obtain rfl:=zbz H
  exact ⟨rfl,S⟩
 replace H:=if_f hc44 H
 refine zA (zd (za (wd (zo rfl) (wd (zC rfl) ?_))))
 obtain ⟨hi45,H⟩ := xm H
 refine wd (zW zY rfl rfl (S.rdO 3) (zI hi45).1 (zI hi45).2) (wd (ze xX rfl (o':=_) rfl) (wd (zj zQ rfl (((S.rdO 3).at (xp Ln.z (zI hi45))).get (Ln.get_form _))) ?_))
 obtain ⟨r46,er46,H⟩ := zt H
 replace S:=S.front 1
 obtain ⟨B48,MB48,SB48,back⟩ := S.calln 1 ((.nil))
 refine zu (zq ca_hilbert_Is) zbv (hilbert_Is_st SB48 er46) ?_
 rintro _ w47 ⟨rfl,S2⟩
 replace S:=back _ _ _ _ S2 rfl
 clear back S2 SB48
 refine wd (z7 rfl) (wd (zw rfl rfl) (wd (zw rfl rfl) (wd (zn rfl) (wd (zi rfl) (zb (zd (za ?_)))))))
 refine wd (Does.to (v' := .agg (Term.C (⟨1,(⟨#[104,48]⟩ : ByteArray),ByteArray.empty,0,SlV.nil⟩ : Term)).toArray) (xo (vs:=[(0,.int .i64 1),(1,.string (⟨#[104,48]⟩ : ByteArray))]) y3 (xJ rfl (xJ rfl rfl)) (Bld.one rfl rfl (by rw [Term.len]; decide) (Term.set_kind _ _) (Bld.one rfl rfl (by rw [Term.len]; decide) (Term.set_name _ _) Bld.nil))) rfl) (wd (Does.to (v' := .agg (Term.C (⟨1,(⟨#[108,48]⟩ : ByteArray),ByteArray.empty,0,SlV.nil⟩ : Term)).toArray) (xo (vs:=[(0,.int .i64 1),(1,.string (⟨#[108,48]⟩ : ByteArray))]) y3 (xJ rfl (xJ rfl rfl)) (Bld.one rfl rfl (by rw [Term.len]; decide) (Term.set_kind _ _) (Bld.one rfl rfl (by rw [Term.len]; decide) (Term.set_name _ _) Bld.nil))) rfl) ?_)
 replace S:=S.nilTm.nilTm
 refine xy (C:=Term.C) (l:=[(⟨1,(⟨#[104,48]⟩ : ByteArray),ByteArray.empty,0,SlV.nil⟩ : Term),(⟨1,(⟨#[108,48]⟩ : ByteArray),ByteArray.empty,0,SlV.nil⟩ : Term)]) (vs:=[.agg (Term.C (⟨1,(⟨#[104,48]⟩ : ByteArray),ByteArray.empty,0,SlV.nil⟩ : Term)).toArray,.agg (Term.C (⟨1,(⟨#[108,48]⟩ : ByteArray),ByteArray.empty,0,SlV.nil⟩ : Term)).toArray]) zR yW.zero rfl rfl (fun a _=>Term.len a) zbv rfl zbv fun b50 w49 s51 hBw49 hw49=>?_
 replace S:=((S.lit hBw49 hw49 zbx).bigTm).consTm (x:=(⟨1,(⟨#[108,48]⟩ : ByteArray),ByteArray.empty,0,[]⟩ : PTerm)) 0
 replace S:=((S.consTm (x:=(⟨1,(⟨#[104,48]⟩ : ByteArray),ByteArray.empty,0,[]⟩ : PTerm)) 1).frzTm 0 0).zs [0,2,3,4,5,6,7,8,9,10,11,12]
 refine wd (Does.to (v' := .agg (Term.C (⟨12,(⟨#[108,48]⟩ : ByteArray),ByteArray.empty,0,s51⟩ : Term)).toArray) (xo (vs:=[(0,.int .i64 12),(1,.string (⟨#[108,48]⟩ : ByteArray)),(4,s51.v)]) y3 (xJ rfl (xJ rfl (xJ rfl rfl))) (Bld.one rfl rfl (by rw [Term.len]; decide) (Term.set_kind _ _) (Bld.one rfl rfl (by rw [Term.len]; decide) (Term.set_name _ _) (Bld.one rfl (SlV.one _ _ rfl) (by rw [Term.len]; decide) (Term.set_sub _ _) Bld.nil)))) rfl) ?_
 refine xa y6 zbv fun b53 w52 hw52=>?_
 replace S:=S.new hw52
 refine zF zE rfl rfl (S.blk 0) (Term.len _) (by rw [Term.len]; decide) (Term.one _) (zV (Term.len _)) fun w54 B hw54 zw54=>?_
 replace S:=S.store 0 B hw54
 clear B
 refine zb (zd (za (wd (zh rfl) ?_)))
 obtain ⟨r55,er55,H⟩ := zt H
 obtain ⟨B57,MB57,SB57,back⟩ := S.calln 0 ((.nil))
 refine zu (zq uu) zbv (uy SB57 er55) ?_
 rintro _ w56 ⟨rfl,S2⟩
 replace S:=back _ _ _ _ S2 rfl
 clear back S2 SB57
 refine wd (zL rfl rfl) (wd (zD rfl) ?_)
 refine wg (fun hg=>zh rfl) ?_
 obtain ⟨r58,er58,H⟩ := zt H
 refine yk (j:=3) (pol:=true) rfl rfl rfl zbv (fun hg=>zN uu (zT (zm hg) rfl)) zbv (fun hg=>(have ⟨M,SS⟩ := S.lend ((.nil)); quiet (uy SS (if_t (by simpa using hg) er58)) (fun v w' h=>⟨h.1,_,_,h.2⟩))) fun w59 hw59=>?_
 replace S:=S.ext hw59
 refine wg (fun hg=>zL (zm hg) rfl) (wd (xc rfl (fun hp=>(zm (xk hp)))) (wd (zD rfl) ?_))
 refine wg (fun hg=>zC rfl) ?_
 refine wg (fun hg=>zC rfl) ?_
 obtain ⟨r60,er60,H⟩ := zt H
 refine yk (j:=8) (pol:=true) rfl rfl rfl zbv (fun hg=>zN ca_ref16_Lines (zT (zm hg) (zT (zm hg) rfl))) zbv (fun hg=>(have ⟨M,SS⟩ := S.lend ((.s 4 rfl (.s 3 rfl .nil))); quiet (ref16_Lines_st SS (if_t (by simpa using hg) er60)) (fun v w' h=>⟨h.1,_,_,h.2⟩))) fun w61 hw61=>?_
 replace S:=S.ext hw61
 refine wd (xc rfl (fun hp=>(zm (xk hp)))) (wd (zD rfl) ?_)
 refine wg (fun hg=>zh rfl) ?_
 obtain ⟨r62,er62,H⟩ := zt H
 refine yk (j:=13) (pol:=true) rfl rfl rfl zbv (fun hg=>zN uu (zT (zm hg) rfl)) zbv (fun hg=>(have ⟨M,SS⟩ := S.lend ((.nil)); quiet (uy SS (if_t (by simpa using hg) er62)) (fun v w' h=>⟨h.1,_,_,h.2⟩))) fun w63 hw63=>?_
 replace S:=S.ext hw63
 refine wg (fun hg=>zL (zm hg) rfl) (wd (xc rfl (fun hp=>(zm (xk hp)))) (wd (zD rfl) ?_))
 refine wg (fun hg=>zh rfl) ?_
 refine wg (fun hg=>zh rfl) ?_
 refine wg (fun hg=>zL (zm hg) (zm hg)) (wd (xc rfl (fun hp=>(zm (xk hp)))) (wd (zD rfl) ?_))
 refine wg (fun hg=>zh rfl) ?_
 obtain ⟨r64,er64,H⟩ := zt H
 refine yk (j:=23) (pol:=true) rfl rfl rfl zbv (fun hg=>zN uu (zT (zm hg) rfl)) zbv (fun hg=>(have ⟨M,SS⟩ := S.lend ((.nil)); quiet (uy SS (if_t (by simpa using hg) er64)) (fun v w' h=>⟨h.1,_,_,h.2⟩))) fun w65 hw65=>?_
 replace S:=S.ext hw65
 refine wg (fun hg=>zL (zm hg) rfl) (wd (xc rfl (fun hp=>(zm (xk hp)))) (wd (zD rfl) ?_))
 refine wg (fun hg=>zp zE rfl ((S.blk 2).all _ (Term.len _)) (Term.len _)) ?_
 refine wg (fun hg=>zp zE rfl ((S.blk 0).all _ (Term.len _)) (Term.len _)) ?_
 obtain ⟨r66,er66,H⟩ := zt H
 refine yk (j:=28) (pol:=true) rfl rfl rfl zbv (fun hg=>zN zbb (zT (zm hg) (zT (zm hg) rfl))) zbv (fun hg=>(have ⟨M,SS⟩ := S.lend ((.z 3 rfl (.z 0 rfl .nil))); quiet (ref12_Same_st (a0:=r37.2.1) (a1:=(⟨12,(⟨#[108,48]⟩ : ByteArray),ByteArray.empty,0,[(⟨1,(⟨#[104,48]⟩ : ByteArray),ByteArray.empty,0,[]⟩ : PTerm),(⟨1,(⟨#[108,48]⟩ : ByteArray),ByteArray.empty,0,[]⟩ : PTerm)]⟩ : PTerm)) SS (if_t (by simpa using hg) er66)) (fun v w' h=>⟨h.1,_,_,h.2⟩))) fun w67 hw67=>?_
 replace S:=S.ext hw67
 refine wd (xc rfl (fun hp=>(zm (xk hp)))) (wd (zD rfl) ?_)
 refine wg (fun hg=>zh rfl) ?_
 obtain ⟨r68,er68,H⟩ := zt H
 refine yk (j:=33) (pol:=true) rfl rfl rfl zbv (fun hg=>zN uu (zT (zm hg) rfl)) zbv (fun hg=>(have ⟨M,SS⟩ := S.lend ((.nil)); quiet (uy SS (if_t (by simpa using hg) er68)) (fun v w' h=>⟨h.1,_,_,h.2⟩))) fun w69 hw69=>?_
 replace S:=S.ext hw69
 refine wg (fun hg=>zL (zm hg) rfl) (wd (xc rfl (fun hp=>(zm (xk hp)))) (wd (zD rfl) ?_))
 refine wg (fun hg=>zD rfl) (wd (xc rfl (fun hp=>(zm (xk hp)))) (wd (zD rfl) ?_))
 refine wg (fun hg=>zo rfl) ?_
 replace S:=(S.nilZ 1 IC).nilZ 4 Ln.C
 obtain ⟨r70,er70,H⟩ := zt H
 replace S:=S.front 1
 obtain ⟨B72,MB72,SB72,back⟩ := S.calln 1 ((.z 1 rfl (.z 0 rfl .nil)))
 refine wl_gturn (R:=fun W=>St A N w W [oT a4 r70.1,oB b53 zk (Term.C (⟨12,(⟨#[108,48]⟩ : ByteArray),ByteArray.empty,0,s51⟩ : Term)),oB b42 zk (Term.C (⟨r37.2.1.kind,r37.2.1.name,r37.2.1.other,r37.2.1.form,s40⟩ : Term)),oS T_Ln 4 Ln.C s27 r24.2.1,oS T_Ln 4 Ln.C s20 r17.2.1,oS T_Ln 4 Ln.C s16 ([{ Ln.z with kind:=10,form:=r5.2.1 }]),oS yg 1 IC s13 ([r5.2.1])] [fS 4 Ln.C SlV.nil ([]),fS 1 IC SlV.nil ([]),zf s51 ([(⟨1,(⟨#[104,48]⟩ : ByteArray),ByteArray.empty,0,[]⟩ : PTerm),(⟨1,(⟨#[108,48]⟩ : ByteArray),ByteArray.empty,0,[]⟩ : PTerm)]),zf SlV.nil ([]),zf SlV.nil ([]),zf s40 r37.2.1.sub,fS 4 Ln.C s36 ([{ Ln.z with kind:=10,form:=r5.2.1 }]),fS 1 IC s33 ([r5.2.1]),fS 1 IC SlV.nil ([]),fS 2 Hyp.C SlV.nil ([]),zf s23 ([(⟨1,(⟨#[120]⟩ : ByteArray),ByteArray.empty,0,[]⟩ : PTerm)]),zf SlV.nil ([]),oEt,oPw]) (j:=41) (pol:=true) rfl rfl rfl zbv (fun hg=>zN jc (zT (zm hg) (zT SlV.nil_eq (zT SlV.nil_eq rfl)))) zbv (fun hg=>zaC (jh SB72 (if_t (by simpa using hg) er70)) fun _ _ ⟨hv,S2⟩ => ⟨hv,back _ _ _ _ S2 rfl⟩) (fun hg=>by obtain rfl:=zbz (if_f (by simpa using hg) er70); exact S) fun w71 S2=>?_
 replace S:St A N w w71 [oT a4 r70.1,oB b53 zk (Term.C (⟨12,(⟨#[108,48]⟩ : ByteArray),ByteArray.empty,0,s51⟩ : Term)),oB b42 zk (Term.C (⟨r37.2.1.kind,r37.2.1.name,r37.2.1.other,r37.2.1.form,s40⟩ : Term)),oS T_Ln 4 Ln.C s27 r24.2.1,oS T_Ln 4 Ln.C s20 r17.2.1,oS T_Ln 4 Ln.C s16 ([{ Ln.z with kind:=10,form:=r5.2.1 }]),oS yg 1 IC s13 ([r5.2.1])] [fS 4 Ln.C SlV.nil ([]),fS 1 IC SlV.nil ([]),zf s51 ([(⟨1,(⟨#[104,48]⟩ : ByteArray),ByteArray.empty,0,[]⟩ : PTerm),(⟨1,(⟨#[108,48]⟩ : ByteArray),ByteArray.empty,0,[]⟩ : PTerm)]),zf SlV.nil ([]),zf SlV.nil ([]),zf s40 r37.2.1.sub,fS 4 Ln.C s36 ([{ Ln.z with kind:=10,form:=r5.2.1 }]),fS 1 IC s33 ([r5.2.1]),fS 1 IC SlV.nil ([]),fS 2 Hyp.C SlV.nil ([]),zf s23 ([(⟨1,(⟨#[120]⟩ : ByteArray),ByteArray.empty,0,[]⟩ : PTerm)]),zf SlV.nil ([]),oEt,oPw]:=S2
 clear back S2 SB72
 obtain ⟨r73,er73,H⟩ := zt H
 refine yk (j:=41) (pol:=true) rfl rfl rfl zbv (fun hg=>zN uu (zT (zm hg) rfl)) zbv (fun hg=>(have ⟨M,SS⟩ := S.lend ((.nil)); quiet (uy SS (if_t (by simpa using hg) er73)) (fun v w' h=>⟨h.1,_,_,h.2⟩))) fun w74 hw74=>?_
 replace S:=S.ext hw74
 refine wg (fun hg=>zL (zm hg) rfl) (wd (xc rfl (fun hp=>(zm (xk hp)))) (wd (zn rfl) (zb (zy ?_))))
 refine ⟨_,(zS (zg rfl)),?_⟩
 replace S:=S.arr [] []
 obtain rfl:=zbz H
 exact ⟨rfl,S⟩
end
section
open Gw Go.RowKit
set_option maxHeartbeats 4000000
set_option maxRecDepth 20000
theorem law04_Tables_st {A:Nat→Prop} {N:Oth} {w:World} {a0:List Nd} {s_0:SlV} (S:St A N w w [] [fS 4 Nd.C s_0 a0]) {r:Tb × Tb} (H:zds.f a0=some r) :
  Calls PP F_law04_Tables #[s_0.v] w fun e w' => ∃ v,e = .returned v∧(∃ ao0:Option Addr,∃ ao1:Option Addr,v = .tuple #[.pointer ao0,.pointer ao1]∧St A N w w' [oT ao0 r.1,oR ao1 r.2] []):=by
 unfold zds.f at H
 refine zz (n:=20) fn_law04_Tables rfl rfl zbx ?_
 refine zd (za ?_)
 replace S:St A N w w [oT none none] [fS 4 Nd.C s_0 a0]:=S.add (Ext.refl _) (oT.nil _) (fun _ x=>x.elim)
 refine wd (xi rfl) ?_
 replace S:St A N w w [oR none none,oT none none] [fS 4 Nd.C s_0 a0]:=S.add (Ext.refl _) (oR.nil _) (fun _ x=>x.elim)
 refine wd (xi rfl) ?_
 refine zb ?_
 refine zd (za ?_)
 refine wd (zC rfl) ?_
 obtain ⟨r1,er1,H⟩ := zt H
 obtain ⟨B3,MB3,SB3,back⟩ := S.calln 0 ((.z 0 rfl .nil))
 refine zu (zq ca_law03_Both) zbv (law03_Both_st SB3 er1) ?_
 rintro _ w2 ⟨a4,a5,rfl,S2⟩
 replace S:St A N w w2 [oT a4 r1.1,oR a5 r1.2.1,oR none none,oT none none] [fS 4 Nd.C s_0 a0]:=back _ _ _ _ S2 rfl
 clear back S2 SB3
 refine wd (z7 rfl) ?_
 refine wd (zw rfl rfl) ?_
 refine wd (zw rfl rfl) ?_
 refine wd (zw rfl rfl) ?_
 refine wd (xi rfl) ?_
 refine wd (xi rfl) ?_
 refine wd (zn rfl) ?_
 refine zb ?_
 refine zd (zd (za ?_))
 refine wd (zD rfl) ?_
 refine wd (xh rfl) ?_
 refine zb ?_
 refine zH rfl (fun hc6=>?_) (fun hc6=>?_)
 ·replace H:=if_t hc6 H
  refine zd (za ?_)
  obtain ⟨r7,er7,H⟩ := zt H
  obtain ⟨B9,MB9,SB9,back⟩ := S.calln 0 ((.nil))
  refine zu (zq jY) zbv (j9 SB9 er7) ?_
  rintro _ w8 ⟨a10,rfl,S2⟩
  replace S:St A N w w8 [oT a10 r7,oT a4 r1.1,oR a5 r1.2.1,oR none none,oT none none] [fS 4 Nd.C s_0 a0]:=back _ _ _ _ S2 rfl
  clear back S2 SB9
  refine wd (yE bu_RTab Bld.nil) ?_
  refine z1 rfl zbv fun b12 w11 hw11=>?_
  replace S:St A N w w11 [oR (some ⟨b12,0,none⟩) (some []),oT a10 r7,oT a4 r1.1,oR a5 r1.2.1,oR none none,oT none none] [fS 4 Nd.C s_0 a0]:=((S.nil T_Nd 4 Nd.C).new hw11).shutR rfl
  refine wd (xi rfl) ?_
  refine wd (xi rfl) ?_
  refine zb ?_
  refine zy ?_
  refine ⟨_,(xx (zg rfl) (zg rfl)),?_⟩
  replace S:St A N w w11 [oT a10 r7,oR (some ⟨b12,0,none⟩) (some [])] []:=S.arr [1,0] []
  obtain rfl:=zbz H
  exact ⟨a10,(some ⟨b12,0,none⟩),rfl,S⟩
 replace H:=if_f hc6 H
 refine zA ?_
 refine zd (za ?_)
 refine wd (zo rfl) ?_
 refine wd (zo rfl) ?_
 refine wd (xi rfl) ?_
 refine wd (xi rfl) ?_
 refine zb ?_
 refine zy ?_
 refine ⟨_,(xx (zg rfl) (zg rfl)),?_⟩
 replace S:St A N w w2 [oT a4 r1.1,oR a5 r1.2.1] []:=S.arr [0,1] []
 obtain rfl:=zbz H
 exact ⟨a4,a5,rfl,S⟩
theorem law04_Same_st {A:Nat→Prop} {N:Oth} {w:World} {a0:Tb} {a_0:Option Addr} {a1:Tb} {a_1:Option Addr} (S:St A N w w [] [oT a_0 a0,oR a_1 a1]) {r:Bool} (H:zdt.f a0 a1=some r) :
  Calls PP F_law04_Same #[.pointer a_0,.pointer a_1] w fun e w' => ∃ v,e = .returned v∧(v = .bool r∧St A N w w' [] []):=by
 unfold zdt.f at H
 refine zz (n:=8) fn_law04_Same rfl rfl zbx ?_
 refine zd (za ?_)
 refine wd (zn rfl) ?_
 refine zb ?_
 refine zd (za ?_)
 refine wd (zo rfl) ?_
 refine wd (zo rfl) ?_
 obtain ⟨r1,er1,H⟩ := zt H
 obtain ⟨B3,MB3,SB3,back⟩ := S.calln 0 ((.z 0 rfl (.z 1 rfl .nil)))
 refine zu (zq ca_law03_Like) zbv (law03_Like_st SB3 er1) ?_
 rintro _ w2 ⟨rfl,S2⟩
 replace S:St A N w w2 [] [oT a_0 a0,oR a_1 a1]:=back _ _ _ _ S2 rfl
 clear back S2 SB3
 refine wd (zn rfl) ?_
 refine zb ?_
 refine zy ?_
 refine ⟨_,(zS (zg rfl)),?_⟩
 replace S:St A N w w2 [] []:=S.arr [] []
 obtain rfl:=zbz H
 exact ⟨rfl,S⟩
end
section
open Gw Go.RowKit
set_option maxHeartbeats 4000000
set_option maxRecDepth 20000
theorem ref16_imp_st {A:Nat→Prop} {N:Oth} {w:World} {a0:Tb} {a_0:Option Addr} {a1:Int} (S:St A N w w [] [oR a_0 a0]) {r:Int × Int × Bool} (H:zdu.f a0 a1=some r) :
  Calls PP F_ref16_imp #[.pointer a_0,.int .i64 a1] w fun e w' => ∃ v,e = .returned v∧(v = .tuple #[.int .i64 r.1,.int .i64 r.2.1,.bool r.2.2]∧St A N w w' [] []):=by
 unfold zdu.f at H
 refine zz (n:=22) fn_ref16_imp rfl rfl zbx (zd (za (wd (zi rfl) (wd (zi rfl) (wd (zn rfl) (zb (zd (za (wd (zo rfl) ?_)))))))))
 obtain ⟨ht1,H⟩ := xm H
 obtain ⟨p2,s3,hp4,S⟩ := S.seeR 0 ht1
 replace S:=S
 refine wd (zB (congrArg Value.pointer hp4)) (wd (ze xC rfl (o':=0) rfl) (wd (zj zZ rfl ((S.blkZ 0).cell (RTab.get_n _))) (wd (zh rfl) ?_)))
 obtain ⟨hi5,H⟩ := xm H
 refine wd (zW zP rfl rfl (S.rd 1) (zI hi5).1 (zI hi5).2) (wd (zp xQ rfl ((S.rd 1).at (xp Nd.z (zI hi5))) (Nd.len _)) ?_)
 refine xa v6 zbv fun b7 w6 hw6=>?_
 replace S:=S.new hw6
 refine zF xQ rfl rfl (S.blk 0) (Nd.len _) (by rw [Nd.len]; decide) (Nd.one _) (zV (Nd.len _)) fun w8 B hw8 zw8=>?_
 replace S:=S.store 0 B hw8
 clear B
 replace S:=S.zs [2]
 refine zb (zd ?_)
 refine xU 9 (Ext w8) hmix zby zby (Ext.drawn _) (zx (fun v K=>ze xY rfl (o':=2) rfl) (zx (fun v K=>zj zQ rfl (((S.ext K).blk 0).cell (Nd.get_l _))) (zx (fun v K=>ze xS rfl (o':=3) rfl) (zx (fun v K=>zj zQ rfl (((S.ext K).blk 0).cell (Nd.get_r _))) (zx (fun v K=>ze yo rfl (o':=0) rfl) (zx (fun v K=>zj xP rfl (((S.ext K).blk 0).cell (Nd.get_kind _))) (zx (fun v K=>zL rfl rfl) (zx (fun v K=>zi rfl) (zx (fun v K=>zi rfl) ?_)))))))))
 refine yV fun w9 K=>?_
 replace S:=S.ext K
 clear K
 refine wd (zn rfl) (zb (zy ?_))
 refine ⟨_,(rets3 (zg rfl) (zg rfl) (zg rfl)),?_⟩
 replace S:=S.arr [] []
 obtain rfl:=zbz H
 exact ⟨rfl,S⟩
theorem ref16_Is_st {A:Nat→Prop} {N:Oth} {w:World} {a0:Tb} {a_0:Option Addr} {a1:Int} {a2:Int} (S:St A N w w [] [oR a_0 a0]) {r:Bool} (H:zdv.f a0 a1 a2=some r) :
  Calls PP F_ref16_Is #[.pointer a_0,.int .i64 a1,.int .i64 a2] w fun e w' => ∃ v,e = .returned v∧(v = .bool r∧St A N w w' [] []):=by
 unfold zdv.f at H
 refine zz (n:=356) fn_ref16_Is rfl rfl zbx (zd (za (wd (zn rfl) (zb (zd (za (wd (zo rfl) (wd (zh rfl) ?_))))))))
 obtain ⟨r1,er1,H⟩ := zt H
 obtain ⟨B3,MB3,SB3,back⟩ := S.calln 0 ((.z 0 rfl .nil))
 refine zu (zq ca_ref16_imp) zbv (ref16_imp_st SB3 er1) ?_
 rintro _ w2 ⟨rfl,S2⟩
 replace S:=back _ _ _ _ S2 rfl
 clear back S2 SB3
 refine wd (z7 rfl) (wd (zw rfl rfl) (wd (zw rfl rfl) (wd (zw rfl rfl) (wd (zi rfl) (wd (zi rfl) (wd (zn rfl) (zb (zd (zd (za (wd (zD rfl) (wd (xh rfl) (zb ?_)))))))))))))
 refine zH rfl (fun hc4=>?_) (fun hc4=>?_)
 ·replace H:=if_t hc4 H
  refine zd (za (wd (zn rfl) (zb (zy ?_))))
  refine ⟨_,(zS (zg rfl)),?_⟩
  replace S:=S.arr [] []
  obtain rfl:=zbz H
  exact ⟨rfl,S⟩
 replace H:=if_f hc4 H
 refine zA (zd (za (wd (zo rfl) (wd (zh rfl) ?_))))
 obtain ⟨r5,er5,H⟩ := zt H
 obtain ⟨B7,MB7,SB7,back⟩ := S.calln 0 ((.z 0 rfl .nil))
 refine zu (zq ca_ref16_imp) zbv (ref16_imp_st SB7 er5) ?_
 rintro _ w6 ⟨rfl,S2⟩
 replace S:=back _ _ _ _ S2 rfl
 clear back S2 SB7
 refine wd (z7 rfl) (wd (zw rfl rfl) (wd (zw rfl rfl) (wd (zw rfl rfl) (wd (zi rfl) (wd (zi rfl) (wd (zn rfl) (zb (zd ?_))))))))
 obtain ⟨ht8,H⟩ := xm H
 obtain ⟨p9,s10,hp11,S⟩ := S.seeR 0 ht8
 replace S:=S
 obtain ⟨hi12,H⟩ := xm H
 obtain ⟨hi13,H⟩ := xm H
 refine vw 17 ⟨fun _ _=>True,fun _ _ _=>True,fun i v _=>match i with
  | 0=>v=Value.pointer a_0
  | 1=>v=Value.pointer (some ⟨p9,0,none⟩)
  | 2=>v=Value.pointer (some ⟨p9,0,none⟩)
  | 3=>v=s10.v
  | 4=>v=Value.int .i64 r1.1
  | 5=>v=Value.pointer (some ⟨s10.blk,s10.off + Int.toNat r1.1 * 4,none⟩)
  | 6=>v=Value.agg (Nd.C (at_ Nd.z (a0.getD []) r1.1)).toArray
  | 7=>v=Value.pointer a_0
  | 8=>v=Value.pointer (some ⟨p9,0,none⟩)
  | 9=>v=Value.pointer (some ⟨p9,0,none⟩)
  | 10=>v=s10.v
  | 11=>v=Value.int .i64 r1.2.1
  | 12=>v=Value.pointer (some ⟨s10.blk,s10.off + Int.toNat r1.2.1 * 4,none⟩)
  | 13=>v=Value.agg (Nd.C (at_ Nd.z (a0.getD []) r1.2.1)).toArray
  | _=>True⟩ (fun L g v => ∃ b15:Nat,∃ b17:Nat,∃ O20:List OA,∃ Z19:List OA,(∀ z ∈ [oB p9 vR (RTab.C ⟨s10⟩),fS 4 Nd.C s10 (a0.getD []),oR a_0 a0],z ∈ Z19)∧(L 14=true→g 13=Value.pointer (some ⟨b15,0,none⟩))∧(L 15=true→g 14=Value.pointer (some ⟨b17,0,none⟩))∧O20=((bif L 16 then [oB b15 T_Nd (Nd.C (at_ Nd.z (a0.getD []) r1.1))] else (bif L 14 then [oB b15 T_Nd (Nd.C Nd.z)] else [])) ++ ((bif L 15 then [oB b17 T_Nd (Nd.C Nd.z)] else []) ++ []))∧St A N w v O20 Z19) hmix zby (fun _ _ _ _ _ _ _ hv=>hv) (fun g=>⟨0,0,_,_,fun _ h=>h,(fun h=>by cases h),(fun h=>by cases h),rfl,S.ext (Ext.drawn _)⟩) ⟨?_,?_,?_,?_,?_,?_,?_,?_,?_,?_,?_,?_,?_,?_,?_,?_,?_,trivial⟩ ?_
 ·rintro L g v hL hcl hclo ⟨b15,b17,O20,Z19,hZ,hk14,hk15,hO,S⟩ 
  have hl16:L 16=false:=by cases h:L 16 with | false=>rfl | true=>exact absurd (hclo 16 0 h zby) (by rw [hL]; decide)
  have SR:St A N w v [] (oB p9 vR (RTab.C ⟨s10⟩) :: fS 4 Nd.C s10 (a0.getD []) :: oR a_0 a0 :: Z19):=by
   have S2:=S.zneed hZ
   rw [hO] at S2
   simp only [hl16,cond_true,cond_false,List.nil_append,List.append_assoc,List.cons_append] at S2
   exact S2.drops.drops
  refine wd (zo rfl) ?_
  exact zb (ob4 trivial rfl ⟨b15,b17,O20,Z19,hZ,(fun h=>by rw [zG _ _ _ _ zbv]; exact hk14 (by rw [zr rfl] at h; exact h)),(fun h=>by rw [zG _ _ _ _ zbv]; exact hk15 (by rw [zr rfl] at h; exact h)),by rw [hO]; simp only [zr (L:=L) (i:=0) (j:=14) rfl,zr (L:=L) (i:=0) (j:=16) rfl,zr (L:=L) (i:=0) (j:=15) rfl],S⟩)
 ·rintro L g v hL hcl hclo ⟨b15,b17,O20,Z19,hZ,hk14,hk15,hO,S⟩ hv0
  have hl16:L 16=false:=by cases h:L 16 with | false=>rfl | true=>exact absurd (hclo 16 1 h zby) (by rw [hL]; decide)
  have SR:St A N w v [] (oB p9 vR (RTab.C ⟨s10⟩) :: fS 4 Nd.C s10 (a0.getD []) :: oR a_0 a0 :: Z19):=by
   have S2:=S.zneed hZ
   rw [hO] at S2
   simp only [hl16,cond_true,cond_false,List.nil_append,List.append_assoc,List.cons_append] at S2
   exact S2.drops.drops
  refine wd (zB ((hv0:_=Value.pointer a_0).trans (congrArg Value.pointer hp11))) ?_
  exact zb (ob4 trivial rfl ⟨b15,b17,O20,Z19,hZ,(fun h=>by rw [zG _ _ _ _ zbv]; exact hk14 (by rw [zr rfl] at h; exact h)),(fun h=>by rw [zG _ _ _ _ zbv]; exact hk15 (by rw [zr rfl] at h; exact h)),by rw [hO]; simp only [zr (L:=L) (i:=1) (j:=14) rfl,zr (L:=L) (i:=1) (j:=16) rfl,zr (L:=L) (i:=1) (j:=15) rfl],S⟩)
 ·rintro L g v hL hcl hclo ⟨b15,b17,O20,Z19,hZ,hk14,hk15,hO,S⟩ hv1
  have hl16:L 16=false:=by cases h:L 16 with | false=>rfl | true=>exact absurd (hclo 16 2 h zby) (by rw [hL]; decide)
  have SR:St A N w v [] (oB p9 vR (RTab.C ⟨s10⟩) :: fS 4 Nd.C s10 (a0.getD []) :: oR a_0 a0 :: Z19):=by
   have S2:=S.zneed hZ
   rw [hO] at S2
   simp only [hl16,cond_true,cond_false,List.nil_append,List.append_assoc,List.cons_append] at S2
   exact S2.drops.drops
  refine wd (ze xC hv1 (o':=0) rfl) ?_
  exact zb (ob4 trivial rfl ⟨b15,b17,O20,Z19,hZ,(fun h=>by rw [zG _ _ _ _ zbv]; exact hk14 (by rw [zr rfl] at h; exact h)),(fun h=>by rw [zG _ _ _ _ zbv]; exact hk15 (by rw [zr rfl] at h; exact h)),by rw [hO]; simp only [zr (L:=L) (i:=2) (j:=14) rfl,zr (L:=L) (i:=2) (j:=16) rfl,zr (L:=L) (i:=2) (j:=15) rfl],S⟩)
 ·rintro L g v hL hcl hclo ⟨b15,b17,O20,Z19,hZ,hk14,hk15,hO,S⟩ hv2
  have hl16:L 16=false:=by cases h:L 16 with | false=>rfl | true=>exact absurd (hclo 16 3 h zby) (by rw [hL]; decide)
  have SR:St A N w v [] (oB p9 vR (RTab.C ⟨s10⟩) :: fS 4 Nd.C s10 (a0.getD []) :: oR a_0 a0 :: Z19):=by
   have S2:=S.zneed hZ
   rw [hO] at S2
   simp only [hl16,cond_true,cond_false,List.nil_append,List.append_assoc,List.cons_append] at S2
   exact S2.drops.drops
  refine wd (zj zZ hv2 ((SR.blkZ 0).cell (RTab.get_n _))) ?_
  exact zb (ob4 trivial rfl ⟨b15,b17,O20,Z19,hZ,(fun h=>by rw [zG _ _ _ _ zbv]; exact hk14 (by rw [zr rfl] at h; exact h)),(fun h=>by rw [zG _ _ _ _ zbv]; exact hk15 (by rw [zr rfl] at h; exact h)),by rw [hO]; simp only [zr (L:=L) (i:=3) (j:=14) rfl,zr (L:=L) (i:=3) (j:=16) rfl,zr (L:=L) (i:=3) (j:=15) rfl],S⟩)
 ·rintro L g v hL hcl hclo ⟨b15,b17,O20,Z19,hZ,hk14,hk15,hO,S⟩ 
  have hl16:L 16=false:=by cases h:L 16 with | false=>rfl | true=>exact absurd (hclo 16 4 h zby) (by rw [hL]; decide)
  have SR:St A N w v [] (oB p9 vR (RTab.C ⟨s10⟩) :: fS 4 Nd.C s10 (a0.getD []) :: oR a_0 a0 :: Z19):=by
   have S2:=S.zneed hZ
   rw [hO] at S2
   simp only [hl16,cond_true,cond_false,List.nil_append,List.append_assoc,List.cons_append] at S2
   exact S2.drops.drops
  refine wd (zh rfl) ?_
  exact zb (ob4 trivial rfl ⟨b15,b17,O20,Z19,hZ,(fun h=>by rw [zG _ _ _ _ zbv]; exact hk14 (by rw [zr rfl] at h; exact h)),(fun h=>by rw [zG _ _ _ _ zbv]; exact hk15 (by rw [zr rfl] at h; exact h)),by rw [hO]; simp only [zr (L:=L) (i:=4) (j:=14) rfl,zr (L:=L) (i:=4) (j:=16) rfl,zr (L:=L) (i:=4) (j:=15) rfl],S⟩)
 ·rintro L g v hL hcl hclo ⟨b15,b17,O20,Z19,hZ,hk14,hk15,hO,S⟩ hv3 hv4
  have hl16:L 16=false:=by cases h:L 16 with | false=>rfl | true=>exact absurd (hclo 16 5 h zby) (by rw [hL]; decide)
  have SR:St A N w v [] (oB p9 vR (RTab.C ⟨s10⟩) :: fS 4 Nd.C s10 (a0.getD []) :: oR a_0 a0 :: Z19):=by
   have S2:=S.zneed hZ
   rw [hO] at S2
   simp only [hl16,cond_true,cond_false,List.nil_append,List.append_assoc,List.cons_append] at S2
   exact S2.drops.drops
  refine wd (zW zP hv3 hv4 (SR.rd 1) (zI hi12).1 (zI hi12).2) ?_
  exact zb (ob4 trivial rfl ⟨b15,b17,O20,Z19,hZ,(fun h=>by rw [zG _ _ _ _ zbv]; exact hk14 (by rw [zr rfl] at h; exact h)),(fun h=>by rw [zG _ _ _ _ zbv]; exact hk15 (by rw [zr rfl] at h; exact h)),by rw [hO]; simp only [zr (L:=L) (i:=5) (j:=14) rfl,zr (L:=L) (i:=5) (j:=16) rfl,zr (L:=L) (i:=5) (j:=15) rfl],S⟩)
 ·rintro L g v hL hcl hclo ⟨b15,b17,O20,Z19,hZ,hk14,hk15,hO,S⟩ hv5
  have hl16:L 16=false:=by cases h:L 16 with | false=>rfl | true=>exact absurd (hclo 16 6 h zby) (by rw [hL]; decide)
  have SR:St A N w v [] (oB p9 vR (RTab.C ⟨s10⟩) :: fS 4 Nd.C s10 (a0.getD []) :: oR a_0 a0 :: Z19):=by
   have S2:=S.zneed hZ
   rw [hO] at S2
   simp only [hl16,cond_true,cond_false,List.nil_append,List.append_assoc,List.cons_append] at S2
   exact S2.drops.drops
  refine wd (zp xQ hv5 ((SR.rd 1).at (xp Nd.z (zI hi12))) (Nd.len _)) ?_
  exact zb (ob4 trivial rfl ⟨b15,b17,O20,Z19,hZ,(fun h=>by rw [zG _ _ _ _ zbv]; exact hk14 (by rw [zr rfl] at h; exact h)),(fun h=>by rw [zG _ _ _ _ zbv]; exact hk15 (by rw [zr rfl] at h; exact h)),by rw [hO]; simp only [zr (L:=L) (i:=6) (j:=14) rfl,zr (L:=L) (i:=6) (j:=16) rfl,zr (L:=L) (i:=6) (j:=15) rfl],S⟩)
 ·rintro L g v hL hcl hclo ⟨b15,b17,O20,Z19,hZ,hk14,hk15,hO,S⟩ 
  have SR:St A N w v [] (oB p9 vR (RTab.C ⟨s10⟩) :: fS 4 Nd.C s10 (a0.getD []) :: oR a_0 a0 :: Z19):=by
   have S2:=S.zneed hZ
   rw [hO] at S2
   exact S2.drops.drops
  refine wd (zo rfl) ?_
  exact zb (ob4 trivial rfl ⟨b15,b17,O20,Z19,hZ,(fun h=>by rw [zG _ _ _ _ zbv]; exact hk14 (by rw [zr rfl] at h; exact h)),(fun h=>by rw [zG _ _ _ _ zbv]; exact hk15 (by rw [zr rfl] at h; exact h)),by rw [hO]; simp only [zr (L:=L) (i:=7) (j:=14) rfl,zr (L:=L) (i:=7) (j:=16) rfl,zr (L:=L) (i:=7) (j:=15) rfl],S⟩)
 ·rintro L g v hL hcl hclo ⟨b15,b17,O20,Z19,hZ,hk14,hk15,hO,S⟩ hv7
  have SR:St A N w v [] (oB p9 vR (RTab.C ⟨s10⟩) :: fS 4 Nd.C s10 (a0.getD []) :: oR a_0 a0 :: Z19):=by
   have S2:=S.zneed hZ
   rw [hO] at S2
   exact S2.drops.drops
  refine wd (zB ((hv7:_=Value.pointer a_0).trans (congrArg Value.pointer hp11))) ?_
  exact zb (ob4 trivial rfl ⟨b15,b17,O20,Z19,hZ,(fun h=>by rw [zG _ _ _ _ zbv]; exact hk14 (by rw [zr rfl] at h; exact h)),(fun h=>by rw [zG _ _ _ _ zbv]; exact hk15 (by rw [zr rfl] at h; exact h)),by rw [hO]; simp only [zr (L:=L) (i:=8) (j:=14) rfl,zr (L:=L) (i:=8) (j:=16) rfl,zr (L:=L) (i:=8) (j:=15) rfl],S⟩)
 ·rintro L g v hL hcl hclo ⟨b15,b17,O20,Z19,hZ,hk14,hk15,hO,S⟩ hv8
  have SR:St A N w v [] (oB p9 vR (RTab.C ⟨s10⟩) :: fS 4 Nd.C s10 (a0.getD []) :: oR a_0 a0 :: Z19):=by
   have S2:=S.zneed hZ
   rw [hO] at S2
   exact S2.drops.drops
  refine wd (ze xC hv8 (o':=0) rfl) ?_
  exact zb (ob4 trivial rfl ⟨b15,b17,O20,Z19,hZ,(fun h=>by rw [zG _ _ _ _ zbv]; exact hk14 (by rw [zr rfl] at h; exact h)),(fun h=>by rw [zG _ _ _ _ zbv]; exact hk15 (by rw [zr rfl] at h; exact h)),by rw [hO]; simp only [zr (L:=L) (i:=9) (j:=14) rfl,zr (L:=L) (i:=9) (j:=16) rfl,zr (L:=L) (i:=9) (j:=15) rfl],S⟩)
 ·rintro L g v hL hcl hclo ⟨b15,b17,O20,Z19,hZ,hk14,hk15,hO,S⟩ hv9
  have SR:St A N w v [] (oB p9 vR (RTab.C ⟨s10⟩) :: fS 4 Nd.C s10 (a0.getD []) :: oR a_0 a0 :: Z19):=by
   have S2:=S.zneed hZ
   rw [hO] at S2
   exact S2.drops.drops
  refine wd (zj zZ hv9 ((SR.blkZ 0).cell (RTab.get_n _))) ?_
  exact zb (ob4 trivial rfl ⟨b15,b17,O20,Z19,hZ,(fun h=>by rw [zG _ _ _ _ zbv]; exact hk14 (by rw [zr rfl] at h; exact h)),(fun h=>by rw [zG _ _ _ _ zbv]; exact hk15 (by rw [zr rfl] at h; exact h)),by rw [hO]; simp only [zr (L:=L) (i:=10) (j:=14) rfl,zr (L:=L) (i:=10) (j:=16) rfl,zr (L:=L) (i:=10) (j:=15) rfl],S⟩)
 ·rintro L g v hL hcl hclo ⟨b15,b17,O20,Z19,hZ,hk14,hk15,hO,S⟩ 
  have SR:St A N w v [] (oB p9 vR (RTab.C ⟨s10⟩) :: fS 4 Nd.C s10 (a0.getD []) :: oR a_0 a0 :: Z19):=by
   have S2:=S.zneed hZ
   rw [hO] at S2
   exact S2.drops.drops
  refine wd (zh rfl) ?_
  exact zb (ob4 trivial rfl ⟨b15,b17,O20,Z19,hZ,(fun h=>by rw [zG _ _ _ _ zbv]; exact hk14 (by rw [zr rfl] at h; exact h)),(fun h=>by rw [zG _ _ _ _ zbv]; exact hk15 (by rw [zr rfl] at h; exact h)),by rw [hO]; simp only [zr (L:=L) (i:=11) (j:=14) rfl,zr (L:=L) (i:=11) (j:=16) rfl,zr (L:=L) (i:=11) (j:=15) rfl],S⟩)
 ·rintro L g v hL hcl hclo ⟨b15,b17,O20,Z19,hZ,hk14,hk15,hO,S⟩ hv10 hv11
  have SR:St A N w v [] (oB p9 vR (RTab.C ⟨s10⟩) :: fS 4 Nd.C s10 (a0.getD []) :: oR a_0 a0 :: Z19):=by
   have S2:=S.zneed hZ
   rw [hO] at S2
   exact S2.drops.drops
  refine wd (zW zP hv10 hv11 (SR.rd 1) (zI hi13).1 (zI hi13).2) ?_
  exact zb (ob4 trivial rfl ⟨b15,b17,O20,Z19,hZ,(fun h=>by rw [zG _ _ _ _ zbv]; exact hk14 (by rw [zr rfl] at h; exact h)),(fun h=>by rw [zG _ _ _ _ zbv]; exact hk15 (by rw [zr rfl] at h; exact h)),by rw [hO]; simp only [zr (L:=L) (i:=12) (j:=14) rfl,zr (L:=L) (i:=12) (j:=16) rfl,zr (L:=L) (i:=12) (j:=15) rfl],S⟩)
 ·rintro L g v hL hcl hclo ⟨b15,b17,O20,Z19,hZ,hk14,hk15,hO,S⟩ hv12
  have SR:St A N w v [] (oB p9 vR (RTab.C ⟨s10⟩) :: fS 4 Nd.C s10 (a0.getD []) :: oR a_0 a0 :: Z19):=by
   have S2:=S.zneed hZ
   rw [hO] at S2
   exact S2.drops.drops
  refine wd (zp xQ hv12 ((SR.rd 1).at (xp Nd.z (zI hi13))) (Nd.len _)) ?_
  exact zb (ob4 trivial rfl ⟨b15,b17,O20,Z19,hZ,(fun h=>by rw [zG _ _ _ _ zbv]; exact hk14 (by rw [zr rfl] at h; exact h)),(fun h=>by rw [zG _ _ _ _ zbv]; exact hk15 (by rw [zr rfl] at h; exact h)),by rw [hO]; simp only [zr (L:=L) (i:=13) (j:=14) rfl,zr (L:=L) (i:=13) (j:=16) rfl,zr (L:=L) (i:=13) (j:=15) rfl],S⟩)
 ·rintro L g v hL hcl hclo ⟨b15,b17,O20,Z19,hZ,hk14,hk15,hO,S⟩ 
  have hl14:L 14=false:=hL
  have hl16:L 16=false:=by cases h:L 16 with | false=>rfl | true=>exact absurd (hclo 16 14 h zby) (by rw [hL]; decide)
  have hOP : ∃ P Y,P=[]∧Y=((bif L 15 then [oB b17 T_Nd (Nd.C Nd.z)] else []) ++ [])∧O20=P ++ ([] ++ Y):=⟨_,_,rfl,rfl,by rw [hO]; simp only [hl14,hl16,cond_true,cond_false,List.nil_append,List.append_assoc,List.cons_append]⟩
  obtain ⟨P,Y,hP,hY,hPY⟩ := hOP
  rw [hPY] at S
  replace S:=S
  refine xa v6 zbv fun b24 w23 hw23=>?_
  replace S:=S.new hw23
  refine zb (ob4 trivial trivial ⟨b24,b17,P ++ ([oB b24 T_Nd (Nd.C Nd.z)] ++ Y),_,hZ,(fun _=>upd_same _ _ _),(fun h=>by rw [zG _ _ _ _ zbv]; exact hk15 (by rw [zr rfl] at h; exact h)),?_,S.ins (P:=[oB b24 T_Nd (Nd.C Nd.z)])⟩)
  rw [hP,hY]; simp only [zr (L:=L) (i:=14) (j:=16) rfl,zr (L:=L) (i:=14) (j:=15) rfl,yY (L:=L) (i:=14),hl16,cond_true,cond_false,List.nil_append,List.append_assoc,List.cons_append]
 ·rintro L g v hL hcl hclo ⟨b15,b17,O20,Z19,hZ,hk14,hk15,hO,S⟩ 
  have hl16:L 16=false:=by cases h:L 16 with | false=>rfl | true=>exact absurd (hclo 16 15 h zby) (by rw [hL]; decide)
  have hl15:L 15=false:=hL
  have hOP : ∃ P Y,P=(bif L 16 then [oB b15 T_Nd (Nd.C (at_ Nd.z (a0.getD []) r1.1))] else (bif L 14 then [oB b15 T_Nd (Nd.C Nd.z)] else []))∧Y=[]∧O20=P ++ ([] ++ Y):=⟨_,_,rfl,rfl,by rw [hO]; simp only [hl15,cond_true,cond_false,List.nil_append,List.append_assoc,List.cons_append]⟩
  obtain ⟨P,Y,hP,hY,hPY⟩ := hOP
  rw [hPY] at S
  replace S:=S
  refine xa v6 zbv fun b26 w25 hw25=>?_
  replace S:=S.new hw25
  refine zb (ob4 trivial trivial ⟨b15,b26,P ++ ([oB b26 T_Nd (Nd.C Nd.z)] ++ Y),_,hZ,(fun h=>by rw [zG _ _ _ _ zbv]; exact hk14 (by rw [zr rfl] at h; exact h)),(fun _=>upd_same _ _ _),?_,S.ins (P:=[oB b26 T_Nd (Nd.C Nd.z)])⟩)
  rw [hP,hY]; simp only [zr (L:=L) (i:=15) (j:=14) rfl,zr (L:=L) (i:=15) (j:=16) rfl,yY (L:=L) (i:=15),hl16,cond_true,cond_false,List.nil_append,List.append_assoc,List.cons_append]
 ·rintro L g v hL hcl hclo ⟨b15,b17,O20,Z19,hZ,hk14,hk15,hO,S⟩ _ hv6
  have hl14:L 14=true:=hcl 14 zby
  have hl16:L 16=false:=hL
  have hl15:L 15=true:=hcl 15 zby
  have hOP : ∃ P Y,P=[]∧Y=((bif L 15 then [oB b17 T_Nd (Nd.C Nd.z)] else []) ++ [])∧O20=P ++ ([oB b15 T_Nd (Nd.C Nd.z)] ++ Y):=⟨_,_,rfl,rfl,by rw [hO]; simp only [hl14,hl16,cond_true,cond_false,List.nil_append,List.append_assoc,List.cons_append]⟩
  obtain ⟨P,Y,hP,hY,hPY⟩ := hOP
  rw [hPY] at S
  replace S:=(S.ins.zneed hZ)
  refine zF xQ (hk14 (hcl 14 zby)) hv6 (S.blk 0) (Nd.len _) (by rw [Nd.len]; decide) (Nd.one _) (zV (Nd.len _)) fun w27 B hw27 zw27=>?_
  replace S:=S.store 0 B hw27
  clear B
  refine zb (ob40 trivial (fun _=>trivial) ⟨b15,b17,P ++ ([oB b15 T_Nd (Nd.C (at_ Nd.z (a0.getD []) r1.1))] ++ Y),_,(fun z h=>tl3 z (hZ z h)),(fun h=>hk14 (by rw [zr rfl] at h; exact h)),(fun h=>hk15 (by rw [zr rfl] at h; exact h)),?_,S.ins (P:=[oB b15 T_Nd (Nd.C (at_ Nd.z (a0.getD []) r1.1))])⟩)
  rw [hP,hY]; simp only [zr (L:=L) (i:=16) (j:=14) rfl,zr (L:=L) (i:=16) (j:=15) rfl,yY (L:=L) (i:=16),hl14,hl15,cond_true,cond_false,List.nil_append,List.append_assoc,List.cons_append]
 rintro L g w28 hLm ⟨b15,b17,O20,Z19,hZ,hk14,hk15,hO,S⟩ hv29_0 hv29_1 hv29_2 hv29_3 hv29_4 hv29_5 hv29_6 hv29_7 hv29_8 hv29_9 hv29_10 hv29_11 hv29_12 hv29_13 _ _ _
 have hLt : ∀ j,j < 17→L j=true:=fun j hj=>by rw [hLm]; exact decide_eq_true hj
 have hv29_14:=hk14 (hLt 14 zbv)
 have hv29_15:=hk15 (hLt 15 zbv)
 simp only [hLt 14 zbv,hLt 16 zbv,hLt 15 zbv,cond_true,List.nil_append,List.cons_append] at hO
 rw [hO] at S
 replace S:=S.pickZ hZ
 clear  hZ 
 refine zF xQ hv29_15 hv29_13 (S.blk 1) (Nd.len _) (by rw [Nd.len]; decide) (Nd.one _) (zV (Nd.len _)) fun w30 B hw30 zw30=>?_
 replace S:=S.store 1 B hw30
 clear B
 replace S:=S.zs [2]
 refine zb (zd (zd (za (wd (zh rfl) (zb ?_)))))
 refine zO (zd (za (wd (zL rfl rfl) (wd (zn rfl) (zb ?_)))))
 refine zH rfl (fun hc31=>?_) (fun hc31=>?_)
 ·replace H:=if_t hc31 H
  refine zd (za (wd (zD rfl) (wd (zD rfl) ?_)))
  refine wg (fun hg=>zh rfl) ?_
  refine wg (fun hg=>zh rfl) ?_
  refine wg (fun hg=>zL (zm hg) (zm hg)) (wd (xc rfl (fun hp=>(zm (xk hp)))) (wd (zn rfl) (zb (zy ?_))))
  refine ⟨_,(zS (zg rfl)),?_⟩
  replace S:=S.arr [] []
  obtain rfl:=zbz H
  exact ⟨rfl,S⟩
 replace H:=if_f hc31 H
 refine zd (za (wd (zL rfl rfl) (wd (zn rfl) (zb ?_))))
 refine zH rfl (fun hc32=>?_) (fun hc32=>?_)
 ·replace H:=if_t hc32 H
  refine zd (zd ?_)
  refine xU 36 (Ext w30) hmix zby zby (Ext.drawn _) (zx (fun v K=>zD rfl) (zx (fun v K=>xh rfl) (zx (fun v K=>zD rfl) (zJ (j:=2) (pol:=false) rfl rfl rfl (fun hg v K=>ze yo hv29_14 (o':=0) rfl) (zJ (j:=2) (pol:=false) rfl rfl rfl (fun hg v K=>zj xP (zm hg) (((S.ext K).blk 1).cell (Nd.get_kind _))) (zJ (j:=2) (pol:=false) rfl rfl rfl (fun hg v K=>xj (zm hg) rfl) (zx (fun v K=>xq rfl (fun hp=>(zm (xk hp)))) (zx (fun v K=>zD rfl) (zJ (j:=7) (pol:=false) rfl rfl rfl (fun hg v K=>zo rfl) ?_)))))))))
  obtain ⟨p33,s34,hp35,S⟩ := S.seeR 0 ht8
  replace S:=S
  refine zJ (j:=7) (pol:=false) rfl rfl rfl (fun hg v K=>zB (((zm hg):_=Value.pointer a_0).trans (congrArg Value.pointer hp35))) (zJ (j:=7) (pol:=false) rfl rfl rfl (fun hg v K=>ze xC (zm hg) (o':=0) rfl) (zJ (j:=7) (pol:=false) rfl rfl rfl (fun hg v K=>zj zZ (zm hg) (((S.ext K).blkZ 0).cell (RTab.get_n _))) (zJ (j:=7) (pol:=false) rfl rfl rfl (fun hg v K=>ze xS hv29_14 (o':=3) rfl) (zJ (j:=7) (pol:=false) rfl rfl rfl (fun hg v K=>zj zQ (zm hg) (((S.ext K).blk 1).cell (Nd.get_r _))) ?_))))
  obtain ⟨hi36,H⟩ := j4 H
  refine zJ (j:=7) (pol:=false) rfl rfl rfl (fun hg v K=>zW zP (zm hg) (zm hg) ((S.ext K).rd 1) (zI (hi36 (by simpa using hg))).1 (zI (hi36 (by simpa using hg))).2) (zJ (j:=7) (pol:=false) rfl rfl rfl (fun hg v K=>ze yo (zm hg) (o':=_) rfl) (zJ (j:=7) (pol:=false) rfl rfl rfl (fun hg v K=>zj xP (zm hg) ((((S.ext K).rd 1).at (xp Nd.z (zI (hi36 (by simpa using hg))))).get (Nd.get_kind _))) (zJ (j:=7) (pol:=false) rfl rfl rfl (fun hg v K=>xj (zm hg) rfl) (zx (fun v K=>xq rfl (fun hp=>(zm (xk hp)))) (zx (fun v K=>zD rfl) (zJ (j:=19) (pol:=false) rfl rfl rfl (fun hg v K=>zo rfl) (zJ (j:=19) (pol:=false) rfl rfl rfl (fun hg v K=>zB (((zm hg):_=Value.pointer a_0).trans (congrArg Value.pointer hp35))) (zJ (j:=19) (pol:=false) rfl rfl rfl (fun hg v K=>ze xC (zm hg) (o':=0) rfl) (zJ (j:=19) (pol:=false) rfl rfl rfl (fun hg v K=>zj zZ (zm hg) (((S.ext K).blkZ 0).cell (RTab.get_n _))) (zJ (j:=19) (pol:=false) rfl rfl rfl (fun hg v K=>zh rfl) ?_))))))))))
  obtain ⟨hi37,H⟩ := j4 H
  refine zJ (j:=19) (pol:=false) rfl rfl rfl (fun hg v K=>zW zP (zm hg) (zm hg) ((S.ext K).rd 1) (zI (hi37 (by simpa using hg))).1 (zI (hi37 (by simpa using hg))).2) (zJ (j:=19) (pol:=false) rfl rfl rfl (fun hg v K=>ze yo (zm hg) (o':=_) rfl) (zJ (j:=19) (pol:=false) rfl rfl rfl (fun hg v K=>zj xP (zm hg) ((((S.ext K).rd 1).at (xp Nd.z (zI (hi37 (by simpa using hg))))).get (Nd.get_kind _))) (zJ (j:=19) (pol:=false) rfl rfl rfl (fun hg v K=>xj (zm hg) rfl) (zx (fun v K=>xq rfl (fun hp=>(zm (xk hp)))) (zx (fun v K=>zD rfl) (zJ (j:=30) (pol:=false) rfl rfl rfl (fun hg v K=>zo rfl) (zJ (j:=30) (pol:=false) rfl rfl rfl (fun hg v K=>zB (((zm hg):_=Value.pointer a_0).trans (congrArg Value.pointer hp35))) (zJ (j:=30) (pol:=false) rfl rfl rfl (fun hg v K=>ze xC (zm hg) (o':=0) rfl) (zJ (j:=30) (pol:=false) rfl rfl rfl (fun hg v K=>zj zZ (zm hg) (((S.ext K).blkZ 0).cell (RTab.get_n _))) (zJ (j:=30) (pol:=false) rfl rfl rfl (fun hg v K=>zh rfl) ?_))))))))))
  refine yV fun w38 K=>?_
  replace S:=S.ext K
  clear K
  obtain ⟨hi39,H⟩ := j4 H
  refine wg (fun hg=>zW zP (zm hg) (zm hg) (S.rd 1) (zI (hi39 (by simpa using hg))).1 (zI (hi39 (by simpa using hg))).2) ?_
  refine wg (fun hg=>ze yo (zm hg) (o':=_) rfl) ?_
  refine wg (fun hg=>zj xP (zm hg) (((S.rd 1).at (xp Nd.z (zI (hi39 (by simpa using hg))))).get (Nd.get_kind _))) ?_
  refine wg (fun hg=>xj (zm hg) rfl) (wd (xq rfl (fun hp=>(zm (xk hp)))) ?_)
  replace S:=S.zs [2]
  refine zb ?_
  refine zH rfl (fun hc40=>?_) (fun hc40=>?_)
  ·replace H:=if_t hc40 H
   refine zd (za (wd (zn rfl) (zb (zy ?_))))
   refine ⟨_,(zS (zg rfl)),?_⟩
   replace S:=S.arr [] []
   obtain rfl:=zbz H
   exact ⟨rfl,S⟩
  replace H:=if_f hc40 H
  refine zA (zd ?_)
  refine xU 62 (Ext w38) hmix zby zby (Ext.drawn _) (zx (fun v K=>zo rfl) ?_)
  obtain ⟨p41,s42,hp43,S⟩ := S.seeR 0 ht8
  replace S:=S
  refine zx (fun v K=>zB (congrArg Value.pointer hp43)) (zx (fun v K=>ze xC rfl (o':=0) rfl) (zx (fun v K=>zj zZ rfl (((S.ext K).blkZ 0).cell (RTab.get_n _))) (zx (fun v K=>zh rfl) ?_)))
  obtain ⟨hi44,H⟩ := xm H
  refine zx (fun v K=>zW zP rfl rfl ((S.ext K).rd 1) (zI hi44).1 (zI hi44).2) (zx (fun v K=>ze xY rfl (o':=_) rfl) (zx (fun v K=>zj zQ rfl ((((S.ext K).rd 1).at (xp Nd.z (zI hi44))).get (Nd.get_l _))) (zx (fun v K=>ze xY hv29_14 (o':=2) rfl) (zx (fun v K=>zj zQ rfl (((S.ext K).blk 1).cell (Nd.get_l _))) (zx (fun v K=>zL rfl rfl) (zx (fun v K=>zD rfl) (zJ (j:=11) (pol:=true) rfl rfl rfl (fun hg v K=>zo rfl) (zJ (j:=11) (pol:=true) rfl rfl rfl (fun hg v K=>zB (((zm hg):_=Value.pointer a_0).trans (congrArg Value.pointer hp43))) (zJ (j:=11) (pol:=true) rfl rfl rfl (fun hg v K=>ze xC (zm hg) (o':=0) rfl) (zJ (j:=11) (pol:=true) rfl rfl rfl (fun hg v K=>zj zZ (zm hg) (((S.ext K).blkZ 0).cell (RTab.get_n _))) (zJ (j:=11) (pol:=true) rfl rfl rfl (fun hg v K=>zh rfl) ?_)))))))))))
  obtain ⟨hi45,H⟩ := j4 H
  refine zJ (j:=11) (pol:=true) rfl rfl rfl (fun hg v K=>zW zP (zm hg) (zm hg) ((S.ext K).rd 1) (zI (hi45 (by simpa using hg))).1 (zI (hi45 (by simpa using hg))).2) (zJ (j:=11) (pol:=true) rfl rfl rfl (fun hg v K=>ze xY (zm hg) (o':=_) rfl) (zJ (j:=11) (pol:=true) rfl rfl rfl (fun hg v K=>zj zQ (zm hg) ((((S.ext K).rd 1).at (xp Nd.z (zI (hi45 (by simpa using hg))))).get (Nd.get_l _))) (zJ (j:=11) (pol:=true) rfl rfl rfl (fun hg v K=>ze xY hv29_14 (o':=2) rfl) (zJ (j:=11) (pol:=true) rfl rfl rfl (fun hg v K=>zj zQ (zm hg) (((S.ext K).blk 1).cell (Nd.get_l _))) (zJ (j:=11) (pol:=true) rfl rfl rfl (fun hg v K=>zL (zm hg) (zm hg)) (zx (fun v K=>xc rfl (fun hp=>(zm (xk hp)))) (zx (fun v K=>zD rfl) (zJ (j:=24) (pol:=true) rfl rfl rfl (fun hg v K=>zo rfl) (zJ (j:=24) (pol:=true) rfl rfl rfl (fun hg v K=>zB (((zm hg):_=Value.pointer a_0).trans (congrArg Value.pointer hp43))) (zJ (j:=24) (pol:=true) rfl rfl rfl (fun hg v K=>ze xC (zm hg) (o':=0) rfl) (zJ (j:=24) (pol:=true) rfl rfl rfl (fun hg v K=>zj zZ (zm hg) (((S.ext K).blkZ 0).cell (RTab.get_n _))) (zJ (j:=24) (pol:=true) rfl rfl rfl (fun hg v K=>zh rfl) ?_))))))))))))
  obtain ⟨hi46,H⟩ := j4 H
  refine zJ (j:=24) (pol:=true) rfl rfl rfl (fun hg v K=>zW zP (zm hg) (zm hg) ((S.ext K).rd 1) (zI (hi46 (by simpa using hg))).1 (zI (hi46 (by simpa using hg))).2) (zJ (j:=24) (pol:=true) rfl rfl rfl (fun hg v K=>ze xS (zm hg) (o':=_) rfl) (zJ (j:=24) (pol:=true) rfl rfl rfl (fun hg v K=>zj zQ (zm hg) ((((S.ext K).rd 1).at (xp Nd.z (zI (hi46 (by simpa using hg))))).get (Nd.get_r _))) (zJ (j:=24) (pol:=true) rfl rfl rfl (fun hg v K=>zo rfl) (zJ (j:=24) (pol:=true) rfl rfl rfl (fun hg v K=>zB (((zm hg):_=Value.pointer a_0).trans (congrArg Value.pointer hp43))) (zJ (j:=24) (pol:=true) rfl rfl rfl (fun hg v K=>ze xC (zm hg) (o':=0) rfl) (zJ (j:=24) (pol:=true) rfl rfl rfl (fun hg v K=>zj zZ (zm hg) (((S.ext K).blkZ 0).cell (RTab.get_n _))) (zJ (j:=24) (pol:=true) rfl rfl rfl (fun hg v K=>ze xS hv29_14 (o':=3) rfl) (zJ (j:=24) (pol:=true) rfl rfl rfl (fun hg v K=>zj zQ (zm hg) (((S.ext K).blk 1).cell (Nd.get_r _))) ?_))))))))
  obtain ⟨hi47,H⟩ := j4 H
  refine zJ (j:=24) (pol:=true) rfl rfl rfl (fun hg v K=>zW zP (zm hg) (zm hg) ((S.ext K).rd 1) (zI (hi47 (by simpa using hg))).1 (zI (hi47 (by simpa using hg))).2) (zJ (j:=24) (pol:=true) rfl rfl rfl (fun hg v K=>ze xY (zm hg) (o':=_) rfl) (zJ (j:=24) (pol:=true) rfl rfl rfl (fun hg v K=>zj zQ (zm hg) ((((S.ext K).rd 1).at (xp Nd.z (zI (hi47 (by simpa using hg))))).get (Nd.get_l _))) (zJ (j:=24) (pol:=true) rfl rfl rfl (fun hg v K=>zL (zm hg) (zm hg)) (zx (fun v K=>xc rfl (fun hp=>(zm (xk hp)))) (zx (fun v K=>zD rfl) (zJ (j:=44) (pol:=true) rfl rfl rfl (fun hg v K=>zo rfl) (zJ (j:=44) (pol:=true) rfl rfl rfl (fun hg v K=>zB (((zm hg):_=Value.pointer a_0).trans (congrArg Value.pointer hp43))) (zJ (j:=44) (pol:=true) rfl rfl rfl (fun hg v K=>ze xC (zm hg) (o':=0) rfl) (zJ (j:=44) (pol:=true) rfl rfl rfl (fun hg v K=>zj zZ (zm hg) (((S.ext K).blkZ 0).cell (RTab.get_n _))) (zJ (j:=44) (pol:=true) rfl rfl rfl (fun hg v K=>zh rfl) ?_))))))))))
  obtain ⟨hi48,H⟩ := j4 H
  refine zJ (j:=44) (pol:=true) rfl rfl rfl (fun hg v K=>zW zP (zm hg) (zm hg) ((S.ext K).rd 1) (zI (hi48 (by simpa using hg))).1 (zI (hi48 (by simpa using hg))).2) (zJ (j:=44) (pol:=true) rfl rfl rfl (fun hg v K=>ze xS (zm hg) (o':=_) rfl) (zJ (j:=44) (pol:=true) rfl rfl rfl (fun hg v K=>zj zQ (zm hg) ((((S.ext K).rd 1).at (xp Nd.z (zI (hi48 (by simpa using hg))))).get (Nd.get_r _))) (zJ (j:=44) (pol:=true) rfl rfl rfl (fun hg v K=>zo rfl) (zJ (j:=44) (pol:=true) rfl rfl rfl (fun hg v K=>zB (((zm hg):_=Value.pointer a_0).trans (congrArg Value.pointer hp43))) (zJ (j:=44) (pol:=true) rfl rfl rfl (fun hg v K=>ze xC (zm hg) (o':=0) rfl) (zJ (j:=44) (pol:=true) rfl rfl rfl (fun hg v K=>zj zZ (zm hg) (((S.ext K).blkZ 0).cell (RTab.get_n _))) (zJ (j:=44) (pol:=true) rfl rfl rfl (fun hg v K=>ze xS hv29_14 (o':=3) rfl) (zJ (j:=44) (pol:=true) rfl rfl rfl (fun hg v K=>zj zQ (zm hg) (((S.ext K).blk 1).cell (Nd.get_r _))) ?_))))))))
  obtain ⟨hi49,H⟩ := j4 H
  refine zJ (j:=44) (pol:=true) rfl rfl rfl (fun hg v K=>zW zP (zm hg) (zm hg) ((S.ext K).rd 1) (zI (hi49 (by simpa using hg))).1 (zI (hi49 (by simpa using hg))).2) (zJ (j:=44) (pol:=true) rfl rfl rfl (fun hg v K=>ze xS (zm hg) (o':=_) rfl) (zJ (j:=44) (pol:=true) rfl rfl rfl (fun hg v K=>zj zQ (zm hg) ((((S.ext K).rd 1).at (xp Nd.z (zI (hi49 (by simpa using hg))))).get (Nd.get_r _))) ?_))
  refine yV fun w50 K=>?_
  replace S:=S.ext K
  clear K
  refine wg (fun hg=>zL (zm hg) (zm hg)) (wd (xc rfl (fun hp=>(zm (xk hp)))) (wd (zn rfl) ?_))
  replace S:=S.zs [2]
  refine zb (zy ?_)
  refine ⟨_,(zS (zg rfl)),?_⟩
  replace S:=S.arr [] []
  obtain rfl:=zbz H
  exact ⟨rfl,S⟩
 replace H:=if_f hc32 H
 refine zd (za (wd (zL rfl rfl) (wd (zn rfl) (zb ?_))))
 refine zH rfl (fun hc51=>?_) (fun hc51=>?_)
 ·replace H:=if_t hc51 H
  refine zd (za (wd (ze yo hv29_14 (o':=0) rfl) (wd (zj xP rfl ((S.blk 1).cell (Nd.get_kind _))) (wd (zL rfl rfl) (wd (zD rfl) ?_)))))
  refine wg (fun hg=>ze xY hv29_14 (o':=2) rfl) ?_
  refine wg (fun hg=>zj zQ (zm hg) ((S.blk 1).cell (Nd.get_l _))) ?_
  refine wg (fun hg=>zh rfl) ?_
  refine wg (fun hg=>zL (zm hg) (zm hg)) (wd (xc rfl (fun hp=>(zm (xk hp)))) (wd (zn rfl) (zb (zy ?_))))
  refine ⟨_,(zS (zg rfl)),?_⟩
  replace S:=S.arr [] []
  obtain rfl:=zbz H
  exact ⟨rfl,S⟩
 replace H:=if_f hc51 H
 refine zd (za (wd (zL rfl rfl) (wd (zn rfl) (zb ?_))))
 refine zH rfl (fun hc52=>?_) (fun hc52=>?_)
 ·replace H:=if_t hc52 H
  refine zd (za (wd (ze yo hv29_14 (o':=0) rfl) (wd (zj xP rfl ((S.blk 1).cell (Nd.get_kind _))) (wd (zL rfl rfl) (wd (zD rfl) ?_)))))
  refine wg (fun hg=>ze xS hv29_14 (o':=3) rfl) ?_
  refine wg (fun hg=>zj zQ (zm hg) ((S.blk 1).cell (Nd.get_r _))) ?_
  refine wg (fun hg=>zh rfl) ?_
  refine wg (fun hg=>zL (zm hg) (zm hg)) (wd (xc rfl (fun hp=>(zm (xk hp)))) (wd (zn rfl) (zb (zy ?_))))
  refine ⟨_,(zS (zg rfl)),?_⟩
  replace S:=S.arr [] []
  obtain rfl:=zbz H
  exact ⟨rfl,S⟩
 replace H:=if_f hc52 H
 refine zd (za (wd (zL rfl rfl) (wd (zn rfl) (zb ?_))))
 refine zH rfl (fun hc53=>?_) (fun hc53=>?_)
 ·replace H:=if_t hc53 H
  refine zd (za (wd (zD rfl) (wd (zD rfl) ?_)))
  refine wg (fun hg=>zo rfl) ?_
  obtain ⟨p54,s55,hp56,S⟩ := S.seeR 0 ht8
  replace S:=S
  refine wg (fun hg=>zB (((zm hg):_=Value.pointer a_0).trans (congrArg Value.pointer hp56))) ?_
  refine wg (fun hg=>ze xC (zm hg) (o':=0) rfl) ?_
  refine wg (fun hg=>zj zZ (zm hg) ((S.blkZ 0).cell (RTab.get_n _))) ?_
  refine wg (fun hg=>zh rfl) ?_
  obtain ⟨hi57,H⟩ := j4 H
  refine wg (fun hg=>zW zP (zm hg) (zm hg) (S.rd 1) (zI (hi57 (by simpa using hg))).1 (zI (hi57 (by simpa using hg))).2) ?_
  refine wg (fun hg=>ze yo (zm hg) (o':=_) rfl) ?_
  refine wg (fun hg=>zj xP (zm hg) (((S.rd 1).at (xp Nd.z (zI (hi57 (by simpa using hg))))).get (Nd.get_kind _))) ?_
  refine wg (fun hg=>zL (zm hg) rfl) (wd (xc rfl (fun hp=>(zm (xk hp)))) (wd (zD rfl) ?_))
  refine wg (fun hg=>zo rfl) ?_
  refine wg (fun hg=>zB (((zm hg):_=Value.pointer a_0).trans (congrArg Value.pointer hp56))) ?_
  refine wg (fun hg=>ze xC (zm hg) (o':=0) rfl) ?_
  refine wg (fun hg=>zj zZ (zm hg) ((S.blkZ 0).cell (RTab.get_n _))) ?_
  refine wg (fun hg=>zh rfl) ?_
  obtain ⟨hi58,H⟩ := j4 H
  refine wg (fun hg=>zW zP (zm hg) (zm hg) (S.rd 1) (zI (hi58 (by simpa using hg))).1 (zI (hi58 (by simpa using hg))).2) ?_
  refine wg (fun hg=>ze xY (zm hg) (o':=_) rfl) ?_
  refine wg (fun hg=>zj zQ (zm hg) (((S.rd 1).at (xp Nd.z (zI (hi58 (by simpa using hg))))).get (Nd.get_l _))) ?_
  refine wg (fun hg=>zh rfl) ?_
  refine wg (fun hg=>zL (zm hg) (zm hg)) (wd (xc rfl (fun hp=>(zm (xk hp)))) (wd (zD rfl) ?_))
  refine wg (fun hg=>zo rfl) ?_
  refine wg (fun hg=>zB (((zm hg):_=Value.pointer a_0).trans (congrArg Value.pointer hp56))) ?_
  refine wg (fun hg=>ze xC (zm hg) (o':=0) rfl) ?_
  refine wg (fun hg=>zj zZ (zm hg) ((S.blkZ 0).cell (RTab.get_n _))) ?_
  refine wg (fun hg=>zh rfl) ?_
  obtain ⟨hi59,H⟩ := j4 H
  refine wg (fun hg=>zW zP (zm hg) (zm hg) (S.rd 1) (zI (hi59 (by simpa using hg))).1 (zI (hi59 (by simpa using hg))).2) ?_
  refine wg (fun hg=>ze xS (zm hg) (o':=_) rfl) ?_
  refine wg (fun hg=>zj zQ (zm hg) (((S.rd 1).at (xp Nd.z (zI (hi59 (by simpa using hg))))).get (Nd.get_r _))) ?_
  refine wg (fun hg=>zh rfl) ?_
  refine wg (fun hg=>zL (zm hg) (zm hg)) (wd (xc rfl (fun hp=>(zm (xk hp)))) (wd (zn rfl) ?_))
  replace S:=S.zs [2]
  refine zb (zy ?_)
  refine ⟨_,(zS (zg rfl)),?_⟩
  replace S:=S.arr [] []
  obtain rfl:=zbz H
  exact ⟨rfl,S⟩
 replace H:=if_f hc53 H
 refine zd (za (wd (zL rfl rfl) (wd (zn rfl) (zb ?_))))
 refine zH rfl (fun hc60=>?_) (fun hc60=>?_)
 ·replace H:=if_t hc60 H
  refine zd (za (wd (ze yo hv29_15 (o':=0) rfl) (wd (zj xP rfl ((S.blk 0).cell (Nd.get_kind _))) (wd (zL rfl rfl) (wd (zD rfl) ?_)))))
  refine wg (fun hg=>ze xY hv29_15 (o':=2) rfl) ?_
  refine wg (fun hg=>zj zQ (zm hg) ((S.blk 0).cell (Nd.get_l _))) ?_
  refine wg (fun hg=>zh rfl) ?_
  refine wg (fun hg=>zL (zm hg) (zm hg)) (wd (xc rfl (fun hp=>(zm (xk hp)))) (wd (zn rfl) (zb (zy ?_))))
  refine ⟨_,(zS (zg rfl)),?_⟩
  replace S:=S.arr [] []
  obtain rfl:=zbz H
  exact ⟨rfl,S⟩
 replace H:=if_f hc60 H
 refine zd (za (wd (zL rfl rfl) (wd (zn rfl) (zb ?_))))
 refine zH rfl (fun hc61=>?_) (fun hc61=>?_)
 ·replace H:=if_t hc61 H
  refine zd (za (wd (ze yo hv29_15 (o':=0) rfl) (wd (zj xP rfl ((S.blk 0).cell (Nd.get_kind _))) (wd (zL rfl rfl) (wd (zD rfl) ?_)))))
  refine wg (fun hg=>ze xS hv29_15 (o':=3) rfl) ?_
  refine wg (fun hg=>zj zQ (zm hg) ((S.blk 0).cell (Nd.get_r _))) ?_
  refine wg (fun hg=>zh rfl) ?_
  refine wg (fun hg=>zL (zm hg) (zm hg)) (wd (xc rfl (fun hp=>(zm (xk hp)))) (wd (zn rfl) (zb (zy ?_))))
  refine ⟨_,(zS (zg rfl)),?_⟩
  replace S:=S.arr [] []
  obtain rfl:=zbz H
  exact ⟨rfl,S⟩
 replace H:=if_f hc61 H
 refine zd (za (wd (zL rfl rfl) (wd (zn rfl) (zb ?_))))
 refine zH rfl (fun hc62=>?_) (fun hc62=>?_)
 ·replace H:=if_t hc62 H
  refine zd (zd ?_)
  refine xU 42 (Ext w30) hmix zby zby (Ext.drawn _) (zx (fun v K=>zD rfl) (zx (fun v K=>xh rfl) (zx (fun v K=>zD rfl) (zJ (j:=2) (pol:=false) rfl rfl rfl (fun hg v K=>ze yo hv29_14 (o':=0) rfl) (zJ (j:=2) (pol:=false) rfl rfl rfl (fun hg v K=>zj xP (zm hg) (((S.ext K).blk 1).cell (Nd.get_kind _))) (zJ (j:=2) (pol:=false) rfl rfl rfl (fun hg v K=>xj (zm hg) rfl) (zx (fun v K=>xq rfl (fun hp=>(zm (xk hp)))) (zx (fun v K=>zD rfl) (zJ (j:=7) (pol:=false) rfl rfl rfl (fun hg v K=>zo rfl) ?_)))))))))
  obtain ⟨p63,s64,hp65,S⟩ := S.seeR 0 ht8
  replace S:=S
  refine zJ (j:=7) (pol:=false) rfl rfl rfl (fun hg v K=>zB (((zm hg):_=Value.pointer a_0).trans (congrArg Value.pointer hp65))) (zJ (j:=7) (pol:=false) rfl rfl rfl (fun hg v K=>ze xC (zm hg) (o':=0) rfl) (zJ (j:=7) (pol:=false) rfl rfl rfl (fun hg v K=>zj zZ (zm hg) (((S.ext K).blkZ 0).cell (RTab.get_n _))) (zJ (j:=7) (pol:=false) rfl rfl rfl (fun hg v K=>zh rfl) ?_)))
  obtain ⟨hi66,H⟩ := j4 H
  refine zJ (j:=7) (pol:=false) rfl rfl rfl (fun hg v K=>zW zP (zm hg) (zm hg) ((S.ext K).rd 1) (zI (hi66 (by simpa using hg))).1 (zI (hi66 (by simpa using hg))).2) (zJ (j:=7) (pol:=false) rfl rfl rfl (fun hg v K=>ze yo (zm hg) (o':=_) rfl) (zJ (j:=7) (pol:=false) rfl rfl rfl (fun hg v K=>zj xP (zm hg) ((((S.ext K).rd 1).at (xp Nd.z (zI (hi66 (by simpa using hg))))).get (Nd.get_kind _))) (zJ (j:=7) (pol:=false) rfl rfl rfl (fun hg v K=>xj (zm hg) rfl) (zx (fun v K=>xq rfl (fun hp=>(zm (xk hp)))) (zx (fun v K=>zD rfl) (zJ (j:=18) (pol:=false) rfl rfl rfl (fun hg v K=>zo rfl) (zJ (j:=18) (pol:=false) rfl rfl rfl (fun hg v K=>zB (((zm hg):_=Value.pointer a_0).trans (congrArg Value.pointer hp65))) (zJ (j:=18) (pol:=false) rfl rfl rfl (fun hg v K=>ze xC (zm hg) (o':=0) rfl) (zJ (j:=18) (pol:=false) rfl rfl rfl (fun hg v K=>zj zZ (zm hg) (((S.ext K).blkZ 0).cell (RTab.get_n _))) (zJ (j:=18) (pol:=false) rfl rfl rfl (fun hg v K=>zh rfl) ?_))))))))))
  obtain ⟨hi67,H⟩ := j4 H
  refine zJ (j:=18) (pol:=false) rfl rfl rfl (fun hg v K=>zW zP (zm hg) (zm hg) ((S.ext K).rd 1) (zI (hi67 (by simpa using hg))).1 (zI (hi67 (by simpa using hg))).2) (zJ (j:=18) (pol:=false) rfl rfl rfl (fun hg v K=>ze yo (zm hg) (o':=_) rfl) (zJ (j:=18) (pol:=false) rfl rfl rfl (fun hg v K=>zj xP (zm hg) ((((S.ext K).rd 1).at (xp Nd.z (zI (hi67 (by simpa using hg))))).get (Nd.get_kind _))) (zJ (j:=18) (pol:=false) rfl rfl rfl (fun hg v K=>xj (zm hg) rfl) (zx (fun v K=>xq rfl (fun hp=>(zm (xk hp)))) (zx (fun v K=>zD rfl) (zJ (j:=29) (pol:=false) rfl rfl rfl (fun hg v K=>zo rfl) (zJ (j:=29) (pol:=false) rfl rfl rfl (fun hg v K=>zB (((zm hg):_=Value.pointer a_0).trans (congrArg Value.pointer hp65))) (zJ (j:=29) (pol:=false) rfl rfl rfl (fun hg v K=>ze xC (zm hg) (o':=0) rfl) (zJ (j:=29) (pol:=false) rfl rfl rfl (fun hg v K=>zj zZ (zm hg) (((S.ext K).blkZ 0).cell (RTab.get_n _))) (zJ (j:=29) (pol:=false) rfl rfl rfl (fun hg v K=>zo rfl) (zJ (j:=29) (pol:=false) rfl rfl rfl (fun hg v K=>zB (((zm hg):_=Value.pointer a_0).trans (congrArg Value.pointer hp65))) (zJ (j:=29) (pol:=false) rfl rfl rfl (fun hg v K=>ze xC (zm hg) (o':=0) rfl) (zJ (j:=29) (pol:=false) rfl rfl rfl (fun hg v K=>zj zZ (zm hg) (((S.ext K).blkZ 0).cell (RTab.get_n _))) (zJ (j:=29) (pol:=false) rfl rfl rfl (fun hg v K=>zh rfl) ?_))))))))))))))
  obtain ⟨hi68,H⟩ := j4 H
  refine zJ (j:=29) (pol:=false) rfl rfl rfl (fun hg v K=>zW zP (zm hg) (zm hg) ((S.ext K).rd 1) (zI (hi68 (by simpa using hg))).1 (zI (hi68 (by simpa using hg))).2) (zJ (j:=29) (pol:=false) rfl rfl rfl (fun hg v K=>ze xY (zm hg) (o':=_) rfl) (zJ (j:=29) (pol:=false) rfl rfl rfl (fun hg v K=>zj zQ (zm hg) ((((S.ext K).rd 1).at (xp Nd.z (zI (hi68 (by simpa using hg))))).get (Nd.get_l _))) ?_))
  refine yV fun w69 K=>?_
  replace S:=S.ext K
  clear K
  obtain ⟨hi70,H⟩ := j4 H
  refine wg (fun hg=>zW zP (zm hg) (zm hg) (S.rd 1) (zI (hi70 (by simpa using hg))).1 (zI (hi70 (by simpa using hg))).2) ?_
  refine wg (fun hg=>ze yo (zm hg) (o':=_) rfl) ?_
  refine wg (fun hg=>zj xP (zm hg) (((S.rd 1).at (xp Nd.z (zI (hi70 (by simpa using hg))))).get (Nd.get_kind _))) ?_
  refine wg (fun hg=>xj (zm hg) rfl) (wd (xq rfl (fun hp=>(zm (xk hp)))) ?_)
  replace S:=S.zs [2]
  refine zb ?_
  refine zH rfl (fun hc71=>?_) (fun hc71=>?_)
  ·replace H:=if_t hc71 H
   refine zd (za (wd (zn rfl) (zb (zy ?_))))
   refine ⟨_,(zS (zg rfl)),?_⟩
   replace S:=S.arr [] []
   obtain rfl:=zbz H
   exact ⟨rfl,S⟩
  replace H:=if_f hc71 H
  refine zA (zd ?_)
  obtain ⟨p72,s73,hp74,S⟩ := S.seeR 0 ht8
  replace S:=S
  obtain ⟨hi75,H⟩ := xm H
  obtain ⟨hi76,H⟩ := xm H
  refine zaV 15 [14]
   (fun i v u=>match i with
   | 14 => ∃ b,v=Value.pointer (some ⟨b,0,none⟩)∧Blk u b T_Nd (Nd.C Nd.z)∧w69.heap.size ≤ b
   | _=>True) hmix zby zby ?_ ?_
  ·intro i v u u' hi hx hv
   match i,hv with
   | 14,⟨b,e1,hb,hl⟩ => exact ⟨b,e1,hb.ext hx,hl⟩
   | 0,_=>exact trivial
   | 1,_=>exact trivial
   | 2,_=>exact trivial
   | 3,_=>exact trivial
   | 4,_=>exact trivial
   | 5,_=>exact trivial
   | 6,_=>exact trivial
   | 7,_=>exact trivial
   | 8,_=>exact trivial
   | 9,_=>exact trivial
   | 10,_=>exact trivial
   | 11,_=>exact trivial
   | 12,_=>exact trivial
   | 13,_=>exact trivial
   | _ + 15,_=>exact trivial
  refine zX (fun v K=>zo rfl) rfl (zX (fun v K=>zB (congrArg Value.pointer hp74)) rfl (zX (fun v K=>ze xC rfl (o':=0) rfl) rfl (zX (fun v K=>zj zZ rfl (((S.ext K).blkZ 0).cell (RTab.get_n _))) rfl (zX (fun v K=>zo rfl) rfl (zX (fun v K=>zB (congrArg Value.pointer hp74)) rfl (zX (fun v K=>ze xC rfl (o':=0) rfl) rfl (zX (fun v K=>zj zZ rfl (((S.ext K).blkZ 0).cell (RTab.get_n _))) rfl (zX (fun v K=>zh rfl) rfl (zX (fun v K=>zW zP rfl rfl ((S.ext K).rd 1) (zI hi75).1 (zI hi75).2) rfl (zX (fun v K=>ze xY rfl (o':=_) rfl) rfl (zX (fun v K=>zj zQ rfl ((((S.ext K).rd 1).at (xp Nd.z (zI hi75))).get (Nd.get_l _))) rfl (zX (fun v K=>zW zP rfl rfl ((S.ext K).rd 1) (zI hi76).1 (zI hi76).2) rfl (zX (fun v K=>zp xQ rfl (((S.ext K).rd 1).at (xp Nd.z (zI hi76))) (Nd.len _)) rfl ?_)))))))))))))
  refine wm_new (fun g v K G=>(have ⟨v',hd,hn⟩ := does_allocN v6; ⟨_,v',hd,hn.ext,_,rfl,hn.blk,K.size⟩)) rfl ?_
  refine uJ fun g w78 K hV=>?_
  obtain ⟨b77,hv7914,hb14,hf14⟩ := hV 14 rfl zbv
  replace S:=S.newAt K hb14 hf14
  clear K hV
  refine zF xQ hv7914 rfl (S.blk 0) (Nd.len _) (by rw [Nd.len]; decide) (Nd.one _) (zV (Nd.len _)) fun w80 B hw80 zw80=>?_
  replace S:=S.store 0 B hw80
  clear B
  replace S:=S.zs [2]
  refine zb (zd ?_)
  refine xU 42 (Ext w80) hmix zby zby (Ext.drawn _) (zx (fun v K=>ze xY hv7914 (o':=2) rfl) (zx (fun v K=>zj zQ rfl (((S.ext K).blk 0).cell (Nd.get_l _))) (zx (fun v K=>ze xY hv29_14 (o':=2) rfl) (zx (fun v K=>zj zQ rfl (((S.ext K).blk 2).cell (Nd.get_l _))) (zx (fun v K=>zL rfl rfl) (zx (fun v K=>zD rfl) (zJ (j:=5) (pol:=true) rfl rfl rfl (fun hg v K=>ze xS hv7914 (o':=3) rfl) (zJ (j:=5) (pol:=true) rfl rfl rfl (fun hg v K=>zj zQ (zm hg) (((S.ext K).blk 0).cell (Nd.get_r _))) (zJ (j:=5) (pol:=true) rfl rfl rfl (fun hg v K=>zo rfl) ?_)))))))))
  obtain ⟨p81,s82,hp83,S⟩ := S.seeR 0 ht8
  replace S:=S
  refine zJ (j:=5) (pol:=true) rfl rfl rfl (fun hg v K=>zB (((zm hg):_=Value.pointer a_0).trans (congrArg Value.pointer hp83))) (zJ (j:=5) (pol:=true) rfl rfl rfl (fun hg v K=>ze xC (zm hg) (o':=0) rfl) (zJ (j:=5) (pol:=true) rfl rfl rfl (fun hg v K=>zj zZ (zm hg) (((S.ext K).blkZ 0).cell (RTab.get_n _))) (zJ (j:=5) (pol:=true) rfl rfl rfl (fun hg v K=>zh rfl) ?_)))
  obtain ⟨hi84,H⟩ := j4 H
  refine zJ (j:=5) (pol:=true) rfl rfl rfl (fun hg v K=>zW zP (zm hg) (zm hg) ((S.ext K).rd 1) (zI (hi84 (by simpa using hg))).1 (zI (hi84 (by simpa using hg))).2) (zJ (j:=5) (pol:=true) rfl rfl rfl (fun hg v K=>ze xY (zm hg) (o':=_) rfl) (zJ (j:=5) (pol:=true) rfl rfl rfl (fun hg v K=>zj zQ (zm hg) ((((S.ext K).rd 1).at (xp Nd.z (zI (hi84 (by simpa using hg))))).get (Nd.get_l _))) (zJ (j:=5) (pol:=true) rfl rfl rfl (fun hg v K=>zL (zm hg) (zm hg)) (zx (fun v K=>xc rfl (fun hp=>(zm (xk hp)))) (zx (fun v K=>zD rfl) (zJ (j:=18) (pol:=true) rfl rfl rfl (fun hg v K=>zo rfl) (zJ (j:=18) (pol:=true) rfl rfl rfl (fun hg v K=>zB (((zm hg):_=Value.pointer a_0).trans (congrArg Value.pointer hp83))) (zJ (j:=18) (pol:=true) rfl rfl rfl (fun hg v K=>ze xC (zm hg) (o':=0) rfl) (zJ (j:=18) (pol:=true) rfl rfl rfl (fun hg v K=>zj zZ (zm hg) (((S.ext K).blkZ 0).cell (RTab.get_n _))) (zJ (j:=18) (pol:=true) rfl rfl rfl (fun hg v K=>zh rfl) ?_))))))))))
  obtain ⟨hi85,H⟩ := j4 H
  refine zJ (j:=18) (pol:=true) rfl rfl rfl (fun hg v K=>zW zP (zm hg) (zm hg) ((S.ext K).rd 1) (zI (hi85 (by simpa using hg))).1 (zI (hi85 (by simpa using hg))).2) (zJ (j:=18) (pol:=true) rfl rfl rfl (fun hg v K=>ze xS (zm hg) (o':=_) rfl) (zJ (j:=18) (pol:=true) rfl rfl rfl (fun hg v K=>zj zQ (zm hg) ((((S.ext K).rd 1).at (xp Nd.z (zI (hi85 (by simpa using hg))))).get (Nd.get_r _))) (zJ (j:=18) (pol:=true) rfl rfl rfl (fun hg v K=>ze xS hv29_14 (o':=3) rfl) (zJ (j:=18) (pol:=true) rfl rfl rfl (fun hg v K=>zj zQ (zm hg) (((S.ext K).blk 2).cell (Nd.get_r _))) (zJ (j:=18) (pol:=true) rfl rfl rfl (fun hg v K=>zL (zm hg) (zm hg)) (zx (fun v K=>xc rfl (fun hp=>(zm (xk hp)))) (zx (fun v K=>zD rfl) (zJ (j:=31) (pol:=true) rfl rfl rfl (fun hg v K=>zo rfl) (zJ (j:=31) (pol:=true) rfl rfl rfl (fun hg v K=>zB (((zm hg):_=Value.pointer a_0).trans (congrArg Value.pointer hp83))) (zJ (j:=31) (pol:=true) rfl rfl rfl (fun hg v K=>ze xC (zm hg) (o':=0) rfl) (zJ (j:=31) (pol:=true) rfl rfl rfl (fun hg v K=>zj zZ (zm hg) (((S.ext K).blkZ 0).cell (RTab.get_n _))) (zJ (j:=31) (pol:=true) rfl rfl rfl (fun hg v K=>zh rfl) ?_))))))))))))
  obtain ⟨hi86,H⟩ := j4 H
  refine zJ (j:=31) (pol:=true) rfl rfl rfl (fun hg v K=>zW zP (zm hg) (zm hg) ((S.ext K).rd 1) (zI (hi86 (by simpa using hg))).1 (zI (hi86 (by simpa using hg))).2) (zJ (j:=31) (pol:=true) rfl rfl rfl (fun hg v K=>ze xS (zm hg) (o':=_) rfl) (zJ (j:=31) (pol:=true) rfl rfl rfl (fun hg v K=>zj zQ (zm hg) ((((S.ext K).rd 1).at (xp Nd.z (zI (hi86 (by simpa using hg))))).get (Nd.get_r _))) (zJ (j:=31) (pol:=true) rfl rfl rfl (fun hg v K=>ze xS hv29_14 (o':=3) rfl) (zJ (j:=31) (pol:=true) rfl rfl rfl (fun hg v K=>zj zQ (zm hg) (((S.ext K).blk 2).cell (Nd.get_r _))) ?_))))
  refine yV fun w87 K=>?_
  replace S:=S.ext K
  clear K
  refine wg (fun hg=>zL (zm hg) (zm hg)) (wd (xc rfl (fun hp=>(zm (xk hp)))) (wd (zn rfl) ?_))
  replace S:=S.zs [2]
  refine zb (zy ?_)
  refine ⟨_,(zS (zg rfl)),?_⟩
  replace S:=S.arr [] []
  obtain rfl:=zbz H
  exact ⟨rfl,S⟩
 replace H:=if_f hc62 H
 refine zd (za (wd (zL rfl rfl) (wd (zn rfl) (zb ?_))))
 refine zH rfl (fun hc88=>?_) (fun hc88=>?_)
 ·replace H:=if_t hc88 H
  refine zd (za (wd (ze yo hv29_14 (o':=0) rfl) (wd (zj xP rfl ((S.blk 1).cell (Nd.get_kind _))) (wd (zL rfl rfl) (wd (zn rfl) (zb (zy ?_)))))))
  refine ⟨_,(zS (zg rfl)),?_⟩
  replace S:=S.arr [] []
  obtain rfl:=zbz H
  exact ⟨rfl,S⟩
 replace H:=if_f hc88 H
 refine zA (zd (za (wd (zn rfl) (zb (zy ?_)))))
 refine ⟨_,(zS (zg rfl)),?_⟩
 replace S:=S.arr [] []
 obtain rfl:=zbz H
 exact ⟨rfl,S⟩
end
section
open Gw Go.RowKit
set_option maxHeartbeats 4000000
set_option maxRecDepth 20000
theorem ref16_right_st {A:Nat→Prop} {N:Oth} {w:World} {a0:Tb} {a_0:Option Addr} {a1:List Int} {s_1:SlV} {a2:List Ln} {s_2:SlV} {a3:Int} (S:St A N w w [] [oR a_0 a0,fS 1 IC s_1 a1,fS 4 Ln.C s_2 a2]) {r:Bool} (H:zdw.f a0 a1 a2 a3=some r) :
  Calls PP F_ref16_right #[.pointer a_0,s_1.v,s_2.v,.int .i64 a3] w fun e w' => ∃ v,e = .returned v∧(v = .bool r∧St A N w w' [] []):=by
 unfold zdw.f at H
 refine zz (n:=100) fn_ref16_right rfl rfl zbx (zd (za (wd (zn rfl) (zb (zd (za (wd (zC rfl) ?_)))))))
 refine wd (zh rfl) ?_
 obtain ⟨hi1,H⟩ := xm H
 refine wd (zW zY rfl rfl (S.rd 2) (zI hi1).1 (zI hi1).2) (wd (zp jM rfl ((S.rd 2).at (xp Ln.z (zI hi1))) (Ln.len _)) ?_)
 refine xa ze_Ln zbv fun b3 w2 hw2=>?_
 replace S:=S.new hw2
 refine zF jM rfl rfl (S.blk 0) (Ln.len _) (by rw [Ln.len]; decide) (Ln.one _) (zV (Ln.len _)) fun w4 B hw4 zw4=>?_
 replace S:=S.store 0 B hw4
 clear B
 refine zb (zd (zd (za (wd (ze vt rfl (o':=0) rfl) (wd (zj x7 rfl ((S.blk 0).cell (Ln.get_kind _))) (wd (zL rfl rfl) (zb ?_)))))))
 refine zH rfl (fun hc5=>?_) (fun hc5=>?_)
 ·replace H:=if_t hc5 H
  refine zd (zd (za (wd (ze jf rfl (o':=2) rfl) (wd (zj zQ rfl ((S.blk 0).cell (Ln.get_a _))) (wd (xK rfl rfl) (wd (zD rfl) ?_))))))
  refine wg (fun hg=>ze jf rfl (o':=2) rfl) ?_
  refine wg (fun hg=>zj zQ (zm hg) ((S.blk 0).cell (Ln.get_a _))) ?_
  refine wg (fun hg=>zh rfl) ?_
  refine wg (fun hg=>vm (zm hg) (zm hg)) (wd (xq rfl (fun hp=>(zm (xk hp)))) (wd (zD rfl) ?_))
  refine wg (fun hg=>ze uv rfl (o':=3) rfl) ?_
  refine wg (fun hg=>zj zQ (zm hg) ((S.blk 0).cell (Ln.get_b _))) ?_
  refine wg (fun hg=>xK (zm hg) rfl) (wd (xq rfl (fun hp=>(zm (xk hp)))) (wd (zD rfl) ?_))
  refine wg (fun hg=>ze uv rfl (o':=3) rfl) ?_
  refine wg (fun hg=>zj zQ (zm hg) ((S.blk 0).cell (Ln.get_b _))) ?_
  refine wg (fun hg=>zh rfl) ?_
  refine wg (fun hg=>vm (zm hg) (zm hg)) (wd (xq rfl (fun hp=>(zm (xk hp)))) (zb ?_))
  refine zH rfl (fun hc6=>?_) (fun hc6=>?_)
  ·replace H:=if_t hc6 H
   refine zd (za (wd (zn rfl) (zb (zy ?_))))
   refine ⟨_,(zS (zg rfl)),?_⟩
   replace S:=S.arr [] []
   obtain rfl:=zbz H
   exact ⟨rfl,S⟩
  replace H:=if_f hc6 H
  refine zA (zd (za (wd (zo rfl) (wd (zC rfl) (wd (ze jf rfl (o':=2) rfl) (wd (zj zQ rfl ((S.blk 0).cell (Ln.get_a _))) ?_))))))
  obtain ⟨hi7,H⟩ := xm H
  refine wd (zW zY rfl rfl (S.rd 2) (zI hi7).1 (zI hi7).2) (wd (ze xX rfl (o':=_) rfl) (wd (zj zQ rfl (((S.rd 2).at (xp Ln.z (zI hi7))).get (Ln.get_form _))) ?_))
  obtain ⟨r8,er8,H⟩ := zt H
  obtain ⟨B10,MB10,SB10,back⟩ := S.calln 0 ((.z 0 rfl .nil))
  refine zu (zq ca_ref16_imp) zbv (ref16_imp_st SB10 er8) ?_
  rintro _ w9 ⟨rfl,S2⟩
  replace S:=back _ _ _ _ S2 rfl
  clear back S2 SB10
  refine wd (z7 rfl) (wd (zw rfl rfl) (wd (zw rfl rfl) (wd (zw rfl rfl) (wd (zi rfl) (wd (zi rfl) ?_)))))
  refine wd (zn rfl) (zb (zd (za (wd (zD rfl) (wd (zD rfl) ?_)))))
  refine wg (fun hg=>zh rfl) ?_
  refine wg (fun hg=>zC rfl) ?_
  refine wg (fun hg=>ze uv rfl (o':=3) rfl) ?_
  refine wg (fun hg=>zj zQ (zm hg) ((S.blk 0).cell (Ln.get_b _))) ?_
  obtain ⟨hi11,H⟩ := j4 H
  refine wg (fun hg=>zW zY (zm hg) (zm hg) (S.rd 2) (zI (hi11 (by simpa using hg))).1 (zI (hi11 (by simpa using hg))).2) ?_
  refine wg (fun hg=>ze xX (zm hg) (o':=_) rfl) ?_
  refine wg (fun hg=>zj zQ (zm hg) (((S.rd 2).at (xp Ln.z (zI (hi11 (by simpa using hg))))).get (Ln.get_form _))) ?_
  refine wg (fun hg=>zL (zm hg) (zm hg)) (wd (xc rfl (fun hp=>(zm (xk hp)))) (wd (zD rfl) ?_))
  refine wg (fun hg=>zh rfl) ?_
  refine wg (fun hg=>ze xX rfl (o':=1) rfl) ?_
  refine wg (fun hg=>zj zQ (zm hg) ((S.blk 0).cell (Ln.get_form _))) ?_
  refine wg (fun hg=>zL (zm hg) (zm hg)) (wd (xc rfl (fun hp=>(zm (xk hp)))) (wd (zn rfl) (zb (zy ?_))))
  refine ⟨_,(zS (zg rfl)),?_⟩
  replace S:=S.arr [] []
  obtain rfl:=zbz H
  exact ⟨rfl,S⟩
 replace H:=if_f hc5 H
 refine zA (zd (zd (za (wd (ze jf rfl (o':=2) rfl) (wd (zj zQ rfl ((S.blk 0).cell (Ln.get_a _))) (wd (xj rfl rfl) (wd (zD rfl) ?_)))))))
 refine wg (fun hg=>ze uv rfl (o':=3) rfl) ?_
 refine wg (fun hg=>zj zQ (zm hg) ((S.blk 0).cell (Ln.get_b _))) ?_
 refine wg (fun hg=>xj (zm hg) rfl) (wd (xq rfl (fun hp=>(zm (xk hp)))) (zb ?_))
 refine zH rfl (fun hc12=>?_) (fun hc12=>?_)
 ·replace H:=if_t hc12 H
  refine zd (za (wd (zn rfl) (zb (zy ?_))))
  refine ⟨_,(zS (zg rfl)),?_⟩
  replace S:=S.arr [] []
  obtain rfl:=zbz H
  exact ⟨rfl,S⟩
 replace H:=if_f hc12 H
 refine zA (zd (zd (za (wd (ze vt rfl (o':=0) rfl) (wd (zj x7 rfl ((S.blk 0).cell (Ln.get_kind _))) (wd (xj rfl rfl) (zb ?_)))))))
 refine zH rfl (fun hc13=>?_) (fun hc13=>?_)
 ·replace H:=if_t hc13 H
  refine zd (za (wd (zo rfl) (wd (ze vt rfl (o':=0) rfl) (wd (zj x7 rfl ((S.blk 0).cell (Ln.get_kind _))) (wd (ze xX rfl (o':=1) rfl) (wd (zj zQ rfl ((S.blk 0).cell (Ln.get_form _))) ?_))))))
  obtain ⟨r14,er14,H⟩ := zt H
  obtain ⟨B16,MB16,SB16,back⟩ := S.calln 0 ((.z 0 rfl .nil))
  refine zu (zq ca_ref16_Is) zbv (ref16_Is_st SB16 er14) ?_
  rintro _ w15 ⟨rfl,S2⟩
  replace S:=back _ _ _ _ S2 rfl
  clear back S2 SB16
  refine wd (zn rfl) (zb (zy ?_))
  refine ⟨_,(zS (zg rfl)),?_⟩
  replace S:=S.arr [] []
  obtain rfl:=zbz H
  exact ⟨rfl,S⟩
 replace H:=if_f hc13 H
 refine zA (zd (zd (za (wd (zi rfl) (zb ?_)))))
 obtain ⟨o17,e17,Ho17⟩ := zt H
 clear H
 refine xO [8,13,87,88,89,90,91,92,93,94,95,96,97,98,99] (fun fr W => ∃ s17:Unit,o17 = .inl s17∧St A N w W [oB b3 T_Ln (Ln.C (at_ Ln.z a2 a3))] [oR a_0 a0,fS 1 IC s_1 a1,fS 4 Ln.C s_2 a2]) ?_ ?_
 ·refine zO ?_
  refine xN (α:=Nat × Int × Unit) [8,13,87,88,89,90,91,92,93,94,95,96,97,98,99] (fun x fr W=>(x.1:Int)=(a1.length:Int) - x.2.1∧0 ≤ x.2.1∧forN (fun i s=>zdw.b0 a1 a2 a3 i) x.1 x.2.1 x.2.2=some o17∧fr 13 = .int .i64 x.2.1∧St A N w W [oB b3 T_Ln (Ln.C (at_ Ln.z a2 a3))] [oR a_0 a0,fS 1 IC s_1 a1,fS 4 Ln.C s_2 a2]) (fun x=>x.1) (((a1.length:Int) - 0).toNat,0,()) ⟨(by dsimp only; have hle:=Int.natCast_nonneg (a1.length); omega),(Int.le_refl _),(by dsimp only; exact e17),rfl,S⟩ ?_
  rintro ⟨m17,i17,_⟩ g17 u17 ⟨hm17,hl17,e17,q17_i,S⟩
  try dsimp only at hm17
  try dsimp only at hl17
  try dsimp only at e17
  try dsimp only at S
  try dsimp only at q17_i
  refine zd (zd (za (wd (zh q17_i) (wd (zC rfl) (wd (xd xR rfl (S.rd 1)) (wd (xK rfl rfl) (zb ?_)))))))
  refine zH rfl (fun hc18=>?_) (fun hc18=>?_)
  rotate_left
  ·refine xZ ?_
   have hge:(a1.length:Int) ≤ i17:=Int.not_lt.1 (of_decide_eq_false hc18)
   obtain rfl:m17=0:=by omega
   replace e17:=jr e17
   exact ⟨rfl,(((((Dif.self _ _ _).upd rfl _).upd rfl _).upd rfl _).upd rfl _),(),e17,S⟩
  refine zA ?_
  have hlt17:i17 < (a1.length:Int):=of_decide_eq_true hc18
  obtain ⟨m17,rfl⟩ : ∃ m,m17=m + 1:=⟨m17 - 1,by omega⟩
  obtain ⟨q17,H,e17⟩ := js e17
  unfold zdw.b0 at H
  try dsimp only at H
  have hb17:=(S.len 1)
  refine zd ?_
  refine zO (zd ?_)
  refine xU 6 (Ext u17) hmix zby zby (Ext.drawn _) (zx (fun v K=>zC rfl) (zx (fun v K=>zh q17_i) (zx (fun v K=>zW xR rfl rfl ((S.ext K).rd 1) (And.intro (show 0 ≤ i17 by omega) (show i17 < (a1.length:Int) from hlt17)).1 (And.intro (show 0 ≤ i17 by omega) (show i17 < (a1.length:Int) from hlt17)).2) (zx (fun v K=>zj zQ rfl (((S.ext K).rd 1).one (xp (0:Int) (And.intro (show 0 ≤ i17 by omega) (show i17 < (a1.length:Int) from hlt17))) rfl)) (zx (fun v K=>ze xX rfl (o':=1) rfl) ?_)))))
  refine zx (fun v K=>zj zQ rfl (((S.ext K).blk 0).cell (Ln.get_form _))) ?_
  refine yV fun w20 K=>?_
  replace S:=S.ext K
  clear K
  refine wd (zL rfl rfl) (zb ?_)
  refine zH rfl (fun hc21=>?_) (fun hc21=>?_)
  ·replace H:=if_t hc21 H
   refine zd (za (wd (zn rfl) (zb (zy ?_))))
   refine ⟨_,(zS (zg rfl)),?_⟩
   replace S:=S.arr [] []
   obtain rfl:=zbz H
   obtain rfl:=e17
   obtain rfl:=un Ho17
   exact ⟨rfl,S⟩
  replace H:=if_f hc21 H
  refine zA (za (wd (zh q17_i) (wd (xM rfl rfl (c:=i17 + 1) rfl zbw zbw) (wd (zi rfl) (zb ?_)))))
  obtain rfl:=zbz H
  exact ⟨rfl,(by repeat first | exact Dif.refl _ _ | exact Dif.self _ _ _ | refine Dif.upd ?_ rfl _ | refine Dif.mask ?_ rfl _),(m17,i17 + 1,()),⟨(by dsimp only; omega),(by dsimp only; omega),e17,rfl,S⟩,by dsimp only; omega⟩
 rintro g22 u23 ⟨s17,rfl,S⟩
 have H:=Ho17
 dsimp only [aft] at H
 refine zd (za (wd (zn rfl) (zb (zy ?_))))
 refine ⟨_,(zS (zg rfl)),?_⟩
 replace S:=S.arr [] []
 obtain rfl:=zbz H
 exact ⟨rfl,S⟩
theorem ref16_Check_st {A:Nat→Prop} {N:Oth} {w:World} {a0:Tb} {a_0:Option Addr} {a1:List Int} {s_1:SlV} {a2:List Ln} {s_2:SlV} (S:St A N w w [] [oR a_0 a0,fS 1 IC s_1 a1,fS 4 Ln.C s_2 a2]) {r:Int} (H:zdx.f a0 a1 a2=some r) :
  Calls PP F_ref16_Check #[.pointer a_0,s_1.v,s_2.v] w fun e w' => ∃ v,e = .returned v∧(v = .int .i64 r∧St A N w w' [] []):=by
 unfold zdx.f at H
 refine zz (n:=52) fn_ref16_Check rfl rfl zbx (zd (za (wd (zi rfl) (zb (zd (zd (za (wd (zi rfl) (zb ?_)))))))))
 obtain ⟨o1,e1,Ho1⟩ := zt H
 clear H
 refine xO [6,7,10,11,12,13,14,15,16,17,18,19,20,21,22] (fun fr W => ∃ s1:Unit,o1 = .inl s1∧St A N w W [] [oR a_0 a0,fS 1 IC s_1 a1,fS 4 Ln.C s_2 a2]) ?_ ?_
 ·refine zO ?_
  refine xN (α:=Nat × Int × Unit) [6,7,10,11,12,13,14,15,16,17,18,19,20,21,22] (fun x fr W=>(x.1:Int)=(a1.length:Int) - x.2.1∧0 ≤ x.2.1∧forN (fun i s=>zdx.b0 a0 a1 i) x.1 x.2.1 x.2.2=some o1∧fr 7 = .int .i64 x.2.1∧St A N w W [] [oR a_0 a0,fS 1 IC s_1 a1,fS 4 Ln.C s_2 a2]) (fun x=>x.1) (((a1.length:Int) - 0).toNat,0,()) ⟨(by dsimp only; have hle:=Int.natCast_nonneg (a1.length); omega),(Int.le_refl _),(by dsimp only; exact e1),rfl,S⟩ ?_
  rintro ⟨m1,i1,_⟩ g1 u1 ⟨hm1,hl1,e1,q1_i,S⟩
  try dsimp only at hm1
  try dsimp only at hl1
  try dsimp only at e1
  try dsimp only at S
  try dsimp only at q1_i
  refine zd (zd (za (wd (zh q1_i) (wd (zC rfl) (wd (xd xR rfl (S.rd 1)) (wd (xK rfl rfl) (zb ?_)))))))
  refine zH rfl (fun hc2=>?_) (fun hc2=>?_)
  rotate_left
  ·refine xZ ?_
   have hge:(a1.length:Int) ≤ i1:=Int.not_lt.1 (of_decide_eq_false hc2)
   obtain rfl:m1=0:=by omega
   replace e1:=jr e1
   exact ⟨rfl,(((((Dif.self _ _ _).upd rfl _).upd rfl _).upd rfl _).upd rfl _),(),e1,S⟩
  refine zA ?_
  have hlt1:i1 < (a1.length:Int):=of_decide_eq_true hc2
  obtain ⟨m1,rfl⟩ : ∃ m,m1=m + 1:=⟨m1 - 1,by omega⟩
  obtain ⟨q1,H,e1⟩ := js e1
  unfold zdx.b0 at H
  try dsimp only at H
  have hb1:=(S.len 1)
  refine zd ?_
  refine zO (zd (za (wd (zo rfl) (wd (zC rfl) (wd (zh q1_i) (wd (zW xR rfl rfl (S.rd 1) (And.intro (show 0 ≤ i1 by omega) (show i1 < (a1.length:Int) from hlt1)).1 (And.intro (show 0 ≤ i1 by omega) (show i1 < (a1.length:Int) from hlt1)).2) ?_))))))
  refine wd (zj zQ rfl ((S.rd 1).one (xp (0:Int) (And.intro (show 0 ≤ i1 by omega) (show i1 < (a1.length:Int) from hlt1))) rfl)) ?_
  obtain ⟨r4,er4,H⟩ := zt H
  obtain ⟨B6,MB6,SB6,back⟩ := S.calln 0 ((.z 0 rfl .nil))
  refine zu (zq j1) zbv (kg SB6 er4) ?_
  rintro _ w5 ⟨rfl,S2⟩
  replace S:=back _ _ _ _ S2 rfl
  clear back S2 SB6
  refine wd (xh rfl) (zb ?_)
  refine zH rfl (fun hc7=>?_) (fun hc7=>?_)
  ·replace H:=if_t hc7 H
   refine zd (za (wd (zi rfl) (zb (zy ?_))))
   refine ⟨_,(zS (zg rfl)),?_⟩
   replace S:=S.arr [] []
   obtain rfl:=zbz H
   obtain rfl:=e1
   obtain rfl:=un Ho1
   exact ⟨rfl,S⟩
  replace H:=if_f hc7 H
  refine zA (za (wd (zh q1_i) (wd (xM rfl rfl (c:=i1 + 1) rfl zbw zbw) (wd (zi rfl) (zb ?_)))))
  obtain rfl:=zbz H
  exact ⟨rfl,(by repeat first | exact Dif.refl _ _ | exact Dif.self _ _ _ | refine Dif.upd ?_ rfl _ | refine Dif.mask ?_ rfl _),(m1,i1 + 1,()),⟨(by dsimp only; omega),(by dsimp only; omega),e1,rfl,S⟩,by dsimp only; omega⟩
 rintro g8 u9 ⟨s1,rfl,S⟩
 have H:=Ho1
 dsimp only [aft] at H
 refine zd (zd (za (wd (zi rfl) (zb ?_))))
 obtain ⟨o10,e10,Ho10⟩ := zt H
 clear H
 refine xO [6,8,23,24,25,26,27,28,29,30,31,32,33,34,35,36] (fun fr W => ∃ s10:Unit,o10 = .inl s10∧St A N w W [] [oR a_0 a0,fS 1 IC s_1 a1,fS 4 Ln.C s_2 a2]) ?_ ?_
 ·refine zO ?_
  refine xN (α:=Nat × Int × Unit) [6,8,23,24,25,26,27,28,29,30,31,32,33,34,35,36] (fun x fr W=>(x.1:Int)=(a2.length:Int) - x.2.1∧0 ≤ x.2.1∧forN (fun i s=>zdx.b1 a0 a2 i) x.1 x.2.1 x.2.2=some o10∧fr 8 = .int .i64 x.2.1∧St A N w W [] [oR a_0 a0,fS 1 IC s_1 a1,fS 4 Ln.C s_2 a2]) (fun x=>x.1) (((a2.length:Int) - 0).toNat,0,()) ⟨(by dsimp only; have hle:=Int.natCast_nonneg (a2.length); omega),(Int.le_refl _),(by dsimp only; exact e10),rfl,S⟩ ?_
  rintro ⟨m10,i10,_⟩ g10 u10 ⟨hm10,hl10,e10,q10_i,S⟩
  try dsimp only at hm10
  try dsimp only at hl10
  try dsimp only at e10
  try dsimp only at S
  try dsimp only at q10_i
  refine zd (zd (za (wd (zh q10_i) (wd (zC rfl) (wd (xd zY rfl (S.rd 2)) (wd (xK rfl rfl) (zb ?_)))))))
  refine zH rfl (fun hc11=>?_) (fun hc11=>?_)
  rotate_left
  ·refine xZ ?_
   have hge:(a2.length:Int) ≤ i10:=Int.not_lt.1 (of_decide_eq_false hc11)
   obtain rfl:m10=0:=by omega
   replace e10:=jr e10
   exact ⟨rfl,(((((Dif.self _ _ _).upd rfl _).upd rfl _).upd rfl _).upd rfl _),(),e10,S⟩
  refine zA ?_
  have hlt10:i10 < (a2.length:Int):=of_decide_eq_true hc11
  obtain ⟨m10,rfl⟩ : ∃ m,m10=m + 1:=⟨m10 - 1,by omega⟩
  obtain ⟨q10,H,e10⟩ := js e10
  unfold zdx.b1 at H
  try dsimp only at H
  have hb10:=(S.len 2)
  refine zd ?_
  refine zO (zd (za (wd (zo rfl) (wd (zC rfl) (wd (zh q10_i) (wd (zW zY rfl rfl (S.rd 2) (And.intro (show 0 ≤ i10 by omega) (show i10 < (a2.length:Int) from hlt10)).1 (And.intro (show 0 ≤ i10 by omega) (show i10 < (a2.length:Int) from hlt10)).2) ?_))))))
  refine wd (ze xX rfl (o':=_) rfl) (wd (zj zQ rfl (((S.rd 2).at (xp Ln.z (And.intro (show 0 ≤ i10 by omega) (show i10 < (a2.length:Int) from hlt10)))).get (Ln.get_form _))) ?_)
  obtain ⟨r13,er13,H⟩ := zt H
  obtain ⟨B15,MB15,SB15,back⟩ := S.calln 0 ((.z 0 rfl .nil))
  refine zu (zq j1) zbv (kg SB15 er13) ?_
  rintro _ w14 ⟨rfl,S2⟩
  replace S:=back _ _ _ _ S2 rfl
  clear back S2 SB15
  refine wd (xh rfl) (zb ?_)
  refine zH rfl (fun hc16=>?_) (fun hc16=>?_)
  ·replace H:=if_t hc16 H
   refine zd (za (wd (zi rfl) (zb (zy ?_))))
   refine ⟨_,(zS (zg rfl)),?_⟩
   replace S:=S.arr [] []
   obtain rfl:=zbz H
   obtain rfl:=e10
   obtain rfl:=un Ho10
   exact ⟨rfl,S⟩
  replace H:=if_f hc16 H
  refine zA (za (wd (zh q10_i) (wd (xM rfl rfl (c:=i10 + 1) rfl zbw zbw) (wd (zi rfl) (zb ?_)))))
  obtain rfl:=zbz H
  exact ⟨rfl,(by repeat first | exact Dif.refl _ _ | exact Dif.self _ _ _ | refine Dif.upd ?_ rfl _ | refine Dif.mask ?_ rfl _),(m10,i10 + 1,()),⟨(by dsimp only; omega),(by dsimp only; omega),e10,rfl,S⟩,by dsimp only; omega⟩
 rintro g17 u18 ⟨s10,rfl,S⟩
 have H:=Ho10
 dsimp only [aft] at H
 refine zd (zd (za (wd (zi rfl) (zb ?_))))
 obtain ⟨o19,e19,Ho19⟩ := zt H
 clear H
 refine xO [6,9,37,38,39,40,41,42,43,44,45,46,47,48] (fun fr W => ∃ s19:Unit,o19 = .inl s19∧St A N w W [] [oR a_0 a0,fS 1 IC s_1 a1,fS 4 Ln.C s_2 a2]) ?_ ?_
 ·refine zO ?_
  refine xN (α:=Nat × Int × Unit) [6,9,37,38,39,40,41,42,43,44,45,46,47,48] (fun x fr W=>(x.1:Int)=(a2.length:Int) - x.2.1∧0 ≤ x.2.1∧forN (fun i s=>zdx.b2 a0 a1 a2 i) x.1 x.2.1 x.2.2=some o19∧fr 9 = .int .i64 x.2.1∧St A N w W [] [oR a_0 a0,fS 1 IC s_1 a1,fS 4 Ln.C s_2 a2]) (fun x=>x.1) (((a2.length:Int) - 0).toNat,0,()) ⟨(by dsimp only; have hle:=Int.natCast_nonneg (a2.length); omega),(Int.le_refl _),(by dsimp only; exact e19),rfl,S⟩ ?_
  rintro ⟨m19,i19,_⟩ g19 u19 ⟨hm19,hl19,e19,q19_i,S⟩
  try dsimp only at hm19
  try dsimp only at hl19
  try dsimp only at e19
  try dsimp only at S
  try dsimp only at q19_i
  refine zd (zd (za (wd (zh q19_i) (wd (zC rfl) (wd (xd zY rfl (S.rd 2)) (wd (xK rfl rfl) (zb ?_)))))))
  refine zH rfl (fun hc20=>?_) (fun hc20=>?_)
  rotate_left
  ·refine xZ ?_
   have hge:(a2.length:Int) ≤ i19:=Int.not_lt.1 (of_decide_eq_false hc20)
   obtain rfl:m19=0:=by omega
   replace e19:=jr e19
   exact ⟨rfl,(((((Dif.self _ _ _).upd rfl _).upd rfl _).upd rfl _).upd rfl _),(),e19,S⟩
  refine zA ?_
  have hlt19:i19 < (a2.length:Int):=of_decide_eq_true hc20
  obtain ⟨m19,rfl⟩ : ∃ m,m19=m + 1:=⟨m19 - 1,by omega⟩
  obtain ⟨q19,H,e19⟩ := js e19
  unfold zdx.b2 at H
  try dsimp only at H
  have hb19:=(S.len 2)
  refine zd ?_
  refine zO (zd (za (wd (zo rfl) (wd (zC rfl) (wd (zC rfl) (wd (zh q19_i) ?_))))))
  obtain ⟨r21,er21,H⟩ := zt H
  obtain ⟨B23,MB23,SB23,back⟩ := S.calln 0 ((.z 0 rfl (.z 1 rfl (.z 2 rfl .nil))))
  refine zu (zq ca_ref16_right) zbv (ref16_right_st SB23 er21) ?_
  rintro _ w22 ⟨rfl,S2⟩
  replace S:=back _ _ _ _ S2 rfl
  clear back S2 SB23
  refine wd (xh rfl) (zb ?_)
  refine zH rfl (fun hc24=>?_) (fun hc24=>?_)
  ·replace H:=if_t hc24 H
   refine zd (za (wd (zi rfl) (zb (zy ?_))))
   refine ⟨_,(zS (zg rfl)),?_⟩
   replace S:=S.arr [] []
   obtain rfl:=zbz H
   obtain rfl:=e19
   obtain rfl:=un Ho19
   exact ⟨rfl,S⟩
  replace H:=if_f hc24 H
  refine zA (za (wd (zh q19_i) (wd (xM rfl rfl (c:=i19 + 1) rfl zbw zbw) (wd (zi rfl) (zb ?_)))))
  obtain rfl:=zbz H
  exact ⟨rfl,(by repeat first | exact Dif.refl _ _ | exact Dif.self _ _ _ | refine Dif.upd ?_ rfl _ | refine Dif.mask ?_ rfl _),(m19,i19 + 1,()),⟨(by dsimp only; omega),(by dsimp only; omega),e19,rfl,S⟩,by dsimp only; omega⟩
 rintro g25 u26 ⟨s19,rfl,S⟩
 have H:=Ho19
 dsimp only [aft] at H
 refine zd (zd (za (wd (zC rfl) (wd (xd zY rfl (S.rd 2)) (wd (zL rfl rfl) (zb ?_))))))
 refine zH rfl (fun hc27=>?_) (fun hc27=>?_)
 ·replace H:=if_t hc27 H
  refine zd (za (wd (zi rfl) (zb (zy ?_))))
  refine ⟨_,(zS (zg rfl)),?_⟩
  replace S:=S.arr [] []
  obtain rfl:=zbz H
  exact ⟨rfl,S⟩
 replace H:=if_f hc27 H
 refine zA (zd (za (wd (zi rfl) (zb (zy ?_)))))
 refine ⟨_,(zS (zg rfl)),?_⟩
 replace S:=S.arr [] []
 obtain rfl:=zbz H
 exact ⟨rfl,S⟩
end
section
namespace Gw
open Go.RowKit
theorem does_bytes {P:Program} {f:Fr} {w:World} {d:Option Tmp} {ty:TypeId} {pos:String} {af:Array Edge} {gd:Option (Nat × Bool)} {x:Operand} {t u e:TypeId} {s:SlV} {l:List Int} (ht:P.underlying t=some (.slice e)) (he:P.underlying e=some (.int .u8)) (hu:P.underlying u=some .string) (hx:evF f x=s.v) (hl:l ≠ []) (hS:Sl w 1 s (l.map (ic .u8))) :
  Does P ⟨d,.convert t u x,ty,pos,af,gd⟩ f w (.string (strOfNums l)) w:=by
 have hp:s.p=some ⟨s.blk,s.off,none⟩ := by
  cases l with
  | nil=>exact absurd rfl hl
  | cons a l=>exact (hS.cells 0 _ rfl).1
 have h:=run_convert_bytes_arg (P:=P) w t e ht he s.blk s.off s.n s.c l (by rw [hS.len,List.length_map]) (fun i hi=>by
  have hi':i < l.length:=by rw [hS.len,List.length_map] at hi; exact hi
  have:=(hS.cells i (ic .u8 l[i]) (by rw [List.getElem?_map,List.getElem?_eq_getElem hi']; rfl)).2 0 (.int .u8 l[i]) rfl
  rw [Nat.mul_one,Nat.add_zero] at this
  rw [this,List.getD_eq_getElem?_getD,List.getElem?_eq_getElem hi']; rfl) u hu
 simp only [Does,execOp,hx,SlV.eq,hp,Sem.run_bind,h,Result.andThen_ok,Sem.run_pure]
end Gw
end
section
open Gw Go.RowKit
set_option maxHeartbeats 4000000
set_option maxRecDepth 20000
theorem kf {A:Nat→Prop} {N:Oth} {w:World} {a0:Int} (S:St A N w w [] []) {k:Nat} {r:ByteArray} (H:zdy.f k a0=some r) :
  Calls PP F_ref01_Dec #[.int .i64 a0] w fun e w' => ∃ v,e = .returned v∧(v = .string r∧St A N w w' [] []):=by
 unfold zdy.f at H
 refine zz (n:=31) fn_ref01_Dec rfl rfl zbx ?_
 refine zd (za ?_)
 refine wd (yj rfl) ?_
 refine zb ?_
 refine zd (za ?_)
 refine wd (zh rfl) ?_
 refine wd (does_conv un_int un_uint64 rfl) ?_
 refine wd (zi rfl) ?_
 refine zb ?_
 refine zd (za ?_)
 refine wd (yj rfl) ?_
 refine zb ?_
 refine zd (zd (za ?_))
 refine wd (zh rfl) ?_
 refine wd (xK rfl rfl) ?_
 refine zb ?_
 obtain ⟨o1,e1,Ho1⟩ := zt H
 replace H:=e1; clear e1
 refine xO [3,4,10,11] (fun fr W=>fr 3 = .int .u64 o1.1∧fr 4 = .string o1.2∧St A N w W [] []) ?_ ?_
 ·refine zH rfl (fun hc2=>?_) (fun hc2=>?_)
  ·replace H:=if_t hc2 H
   refine zd (za ?_)
   refine wd (zh rfl) ?_
   refine wd (ug rfl rfl) ?_
   refine wd (zi rfl) ?_
   refine zb ?_
   refine za ?_
   refine wd (yj rfl) ?_
   refine zb ?_
   obtain rfl:=zbz H
   exact ⟨rfl,(((((Dif.refl _ _).upd rfl _).upd rfl _).upd rfl _).upd rfl _),rfl,rfl,S⟩
  ·replace H:=if_f hc2 H
   refine zA ?_
   obtain rfl:=zbz H
   exact ⟨rfl,(Dif.refl _ _),rfl,rfl,S⟩
 rintro g3 u4 ⟨p1_3,p1_4,S⟩
 have H:=Ho1
 refine zd (za ?_)
 refine wd (yj rfl) ?_
 refine zb ?_
 refine zd ?_
 obtain ⟨o5,e5,Ho5⟩ := zt H
 clear H
 refine xO [3,5,12,13,14,15,16,17,18,19,20,21,22,23,24,25,26,27] (fun fr W => ∃ s5:Int × ByteArray,o5 = .inl s5∧fr 3 = .int .u64 s5.1∧fr 5 = .string s5.2∧St A N w W [] []) ?_ ?_
 ·refine zO ?_
  refine xN (α:=Nat × (Int × ByteArray)) [3,5,12,13,14,15,16,17,18,19,20,21,22,23,24,25,26,27] (fun x fr W=>iter (fun s=>zdy.b0 s.1 s.2) x.1 x.2=some o5∧fr 3 = .int .u64 (x.2.1)∧fr 5 = .string (x.2.2)∧St A N w W [] []) (fun x=>x.1) (k,(o1.1,(⟨#[]⟩ : ByteArray))) ⟨(by dsimp only; exact e5),p1_3,rfl,S⟩ ?_
  rintro ⟨m5,⟨x5_0,x5_1⟩⟩ g5 u5 ⟨e5,q5_3,q5_5,S⟩
  try dsimp only at e5
  try dsimp only at S
  try dsimp only at q5_3
  try dsimp only at q5_5
  obtain ⟨m5,rfl⟩ : ∃ m,m5=m + 1:=⟨m5 - 1,by cases m5 with | zero=>cases e5 | succ m=>rfl⟩
  obtain ⟨q5,H,e5⟩ := iter_s e5
  unfold zdy.b0 at H
  try dsimp only at H
  refine zd (zd (za ?_))
  refine wd (zh q5_3) ?_
  refine wd (uM rfl rfl) ?_
  refine wd (zD rfl) ?_
  refine zU (j:=2) (pol:=false) rfl rfl rfl zbv (fun hg=>xr q5_5) zbv ?_
  refine zU (j:=2) (pol:=false) rfl rfl rfl zbv (fun hg=>vk (zm hg) rfl) zbv ?_
  refine wd (xq rfl (fun hp=>(zm (xk hp)))) ?_
  refine zb ?_
  refine zH rfl (fun hc6=>?_) (fun hc6=>?_)
  rotate_left
  ·replace H:=if_f hc6 H
   refine xZ ?_
   obtain rfl:=zbz H
   exact ⟨rfl,(((((((Dif.self _ _ _).upd rfl _).upd rfl _).upd rfl _).upd rfl _).upd rfl _).upd rfl _),(x5_0,x5_1),e5,q5_3,q5_5,S⟩
  replace H:=if_t hc6 H
  refine zA ?_
  refine zO ?_
  refine zd (za ?_)
  refine wd (zh q5_3) ?_
  refine wd (does_rem rfl rfl zbv) ?_
  refine wd (uf rfl rfl) ?_
  refine wd (does_conv un_uint64 un_uint8 rfl) ?_
  refine xy (C:=(ic .u8)) (l:=[IntKind.u8.wrap (IntKind.u64.wrap (48 + (Int.tmod x5_0 10)))]) (vs:=[.int .u8 (IntKind.u8.wrap (IntKind.u64.wrap (48 + (Int.tmod x5_0 10))))]) sl_L_uint8 el_uint8.zero rfl rfl (fun _ _=>rfl) zbv rfl zbv fun b9 w8 s10 hBw8 hw8=>?_
  replace S:St A N w w8 [oS T_uint8 1 (ic .u8) s10 ([IntKind.u8.wrap (IntKind.u64.wrap (48 + (Int.tmod x5_0 10)))])] []:=S.lit hBw8 hw8 zbx
  refine wd (does_bytes sl_L_uint8.1 un_uint8 y8 rfl (List.cons_ne_nil _ _) (S.rdO 0).sl) ?_
  refine wd (xr q5_5) ?_
  obtain ⟨hs11,H⟩ := xm H
  refine wd (vX rfl rfl (of_decide_eq_true hs11)) ?_
  refine wd (yj rfl) ?_
  refine zb ?_
  refine za ?_
  refine wd (zh q5_3) ?_
  refine wd (does_quo rfl rfl zbv) ?_
  refine wd (zi rfl) ?_
  refine zb ?_
  replace S:St A N w w8 [] []:=S.arr [] []
  obtain rfl:=zbz H
  exact ⟨rfl,(((((((((((((((((((Dif.self _ _ _).upd rfl _).upd rfl _).upd rfl _).upd rfl _).upd rfl _).upd rfl _).upd rfl _).upd rfl _).upd rfl _).upd rfl _).upd rfl _).upd rfl _).upd rfl _).upd rfl _).upd rfl _).upd rfl _).upd rfl _).upd rfl _),(m5,(IntKind.u64.wrap (Int.tdiv x5_0 10),(strOfNums ([IntKind.u8.wrap (IntKind.u64.wrap (48 + (Int.tmod x5_0 10)))])) ++ x5_1)),⟨e5,rfl,rfl,S⟩,by dsimp only; omega⟩
 rintro g13 u14 ⟨s5,rfl,p5_3,p5_5,S⟩
 have H:=Ho5
 dsimp only [aft] at H
 refine zd (za ?_)
 refine wd (xr p1_4) ?_
 refine wd (xr p5_5) ?_
 obtain ⟨hs15,H⟩ := xm H
 refine wd (vX rfl rfl (of_decide_eq_true hs15)) ?_
 refine wd (yj rfl) ?_
 refine zb ?_
 refine zy ?_
 refine ⟨_,(zS (zg rfl)),?_⟩
 obtain rfl:=zbz H
 exact ⟨rfl,S⟩
end
section
open Gw Go.RowKit
set_option maxHeartbeats 4000000
set_option maxRecDepth 20000
variable {A:Nat→Prop} {N:Oth} {w:World}
theorem yi {a0:ByteArray} (S:St A N w w [] []) {r:PTerm} (H:zdz.f a0=some r) :
  Calls PP F_ref16_v #[.string a0] w fun e w' => ∃ v,e = .returned v∧(∃ so0:SlV,v = .agg (Term.C (⟨r.kind,r.name,r.other,r.form,so0⟩ : Term)).toArray∧St A N w w' [] [zf so0 r.sub]):=by
 unfold zdz.f at H
 refine zz (n:=5) fn_ref16_v rfl rfl zbx ?_
 refine zd (za ?_)
 refine xa y6 zbv fun b2 w1 hw1=>?_
 replace S:St A N w w1 [oB b2 zk (Term.C (⟨0,ByteArray.empty,ByteArray.empty,0,SlV.nil⟩ : Term))] []:=S.new hw1
 refine zb ?_
 refine zd (za ?_)
 refine wd (xr rfl) ?_
 refine wd (Does.to (v' := .agg (Term.C (⟨1,a0,ByteArray.empty,0,SlV.nil⟩ : Term)).toArray) (xo (vs:=[(0,.int .i64 1),(1,.string a0)]) y3 (xJ rfl (xJ rfl rfl)) (Bld.one rfl rfl (by rw [Term.len]; decide) (Term.set_kind _ _) (Bld.one rfl rfl (by rw [Term.len]; decide) (Term.set_name _ _) Bld.nil))) rfl) ?_
 refine zF zE rfl rfl (S.blk 0) (Term.len _) (by rw [Term.len]; decide) (Term.one _) (zV (Term.len _)) fun w3 B hw3 zw3=>?_
 replace S:St A N w w3 [oB b2 zk (Term.C (⟨1,a0,ByteArray.empty,0,SlV.nil⟩ : Term))] []:=S.store 0 B hw3
 clear B
 refine zb ?_
 refine zy ?_
 replace S:St A N w w3 [oB b2 zk (Term.C (⟨1,a0,ByteArray.empty,0,SlV.nil⟩ : Term))] [zf SlV.nil ([])]:=S.nilTm
 refine ⟨_,(zS (xl zE rfl ((S.blk 0).all _ (Term.len _)) (Term.len _))),?_⟩
 replace S:St A N w w3 [] [zf SlV.nil ([])]:=S.arr [] [0]
 obtain rfl:=zbz H
 exact ⟨SlV.nil,rfl,S⟩
theorem yz {a0:ByteArray} {a1:PTerm} {s_1:SlV} (S:St A N w w [] [zf s_1 a1.sub]) {r:PTerm} (H:zdA.f a0 a1=some r) :
  Calls PP F_ref16_fun #[.string a0,.agg (Term.C (⟨a1.kind,a1.name,a1.other,a1.form,s_1⟩ : Term)).toArray] w fun e w' => ∃ v,e = .returned v∧(∃ so0:SlV,v = .agg (Term.C (⟨r.kind,r.name,r.other,r.form,so0⟩ : Term)).toArray∧St A N w w' [] [zf so0 r.sub]):=by
 unfold zdA.f at H
 refine zz (n:=9) fn_ref16_fun rfl rfl zbx ?_
 refine zd (za ?_)
 refine z1 rfl zbv fun b2 w1 hw1=>?_
 replace S:St A N w w1 [oB b2 zk (Term.C (⟨a1.kind,a1.name,a1.other,a1.form,s_1⟩ : Term))] [zf s_1 a1.sub]:=S.new hw1
 refine xa y6 zbv fun b4 w3 hw3=>?_
 replace S:St A N w w3 [oB b4 zk (Term.C (⟨0,ByteArray.empty,ByteArray.empty,0,SlV.nil⟩ : Term)),oB b2 zk (Term.C (⟨a1.kind,a1.name,a1.other,a1.form,s_1⟩ : Term))] [zf s_1 a1.sub]:=S.new hw3
 refine zb ?_
 refine zd (za ?_)
 refine wd (xr rfl) ?_
 refine wd (zp zE rfl ((S.blk 1).all _ (Term.len _)) (Term.len _)) ?_
 refine xy (C:=Term.C) (l:=[(⟨a1.kind,a1.name,a1.other,a1.form,s_1⟩ : Term)]) (vs:=[.agg (Term.C (⟨a1.kind,a1.name,a1.other,a1.form,s_1⟩ : Term)).toArray]) zR yW.zero rfl rfl (fun a _=>Term.len a) zbv rfl zbv fun b6 w5 s7 hBw5 hw5=>?_
 replace S:St A N w w5 [oS zk 5 Term.C s7 ([(⟨a1.kind,a1.name,a1.other,a1.form,s_1⟩ : Term)]),oB b4 zk (Term.C (⟨0,ByteArray.empty,ByteArray.empty,0,SlV.nil⟩ : Term)),oB b2 zk (Term.C (⟨a1.kind,a1.name,a1.other,a1.form,s_1⟩ : Term))] [zf s_1 a1.sub]:=S.lit hBw5 hw5 zbx
 replace S:St A N w w5 [oS zk 5 Term.C s7 ([(⟨a1.kind,a1.name,a1.other,a1.form,s_1⟩ : Term)]),oB b4 zk (Term.C (⟨0,ByteArray.empty,ByteArray.empty,0,SlV.nil⟩ : Term)),oB b2 zk (Term.C (⟨a1.kind,a1.name,a1.other,a1.form,s_1⟩ : Term))] [bigA y2 ([]:List Term) ([]:List PTerm),zf s_1 a1.sub]:=S.bigTm
 replace S:St A N w w5 [oS zk 5 Term.C s7 ([(⟨a1.kind,a1.name,a1.other,a1.form,s_1⟩ : Term)]),oB b4 zk (Term.C (⟨0,ByteArray.empty,ByteArray.empty,0,SlV.nil⟩ : Term)),oB b2 zk (Term.C (⟨a1.kind,a1.name,a1.other,a1.form,s_1⟩ : Term))] [bigA y2 [(⟨a1.kind,a1.name,a1.other,a1.form,s_1⟩ : Term)] [a1],zf s_1 a1.sub]:=S.consTm (x:=a1) 0
 replace S:St A N w w5 [oB b4 zk (Term.C (⟨0,ByteArray.empty,ByteArray.empty,0,SlV.nil⟩ : Term)),oB b2 zk (Term.C (⟨a1.kind,a1.name,a1.other,a1.form,s_1⟩ : Term))] [zf s7 ([a1]),bigA y2 [(⟨a1.kind,a1.name,a1.other,a1.form,s_1⟩ : Term)] [a1],zf s_1 a1.sub]:=S.frzTm 0 0
 replace S:St A N w w5 [oB b4 zk (Term.C (⟨0,ByteArray.empty,ByteArray.empty,0,SlV.nil⟩ : Term)),oB b2 zk (Term.C (⟨a1.kind,a1.name,a1.other,a1.form,s_1⟩ : Term))] [zf s7 ([a1]),zf s_1 a1.sub]:=S.zs [0,2]
 refine wd (Does.to (v' := .agg (Term.C (⟨2,a0,ByteArray.empty,0,s7⟩ : Term)).toArray) (xo (vs:=[(0,.int .i64 2),(1,.string a0),(4,s7.v)]) y3 (xJ rfl (xJ rfl (xJ rfl rfl))) (Bld.one rfl rfl (by rw [Term.len]; decide) (Term.set_kind _ _) (Bld.one rfl rfl (by rw [Term.len]; decide) (Term.set_name _ _) (Bld.one rfl (SlV.one _ _ rfl) (by rw [Term.len]; decide) (Term.set_sub _ _) Bld.nil)))) rfl) ?_
 refine zF zE rfl rfl (S.blk 0) (Term.len _) (by rw [Term.len]; decide) (Term.one _) (zV (Term.len _)) fun w8 B hw8 zw8=>?_
 replace S:St A N w w8 [oB b4 zk (Term.C (⟨2,a0,ByteArray.empty,0,s7⟩ : Term)),oB b2 zk (Term.C (⟨a1.kind,a1.name,a1.other,a1.form,s_1⟩ : Term))] [zf s7 ([a1]),zf s_1 a1.sub]:=S.store 0 B hw8
 clear B
 refine zb ?_
 refine zy ?_
 refine ⟨_,(zS (xl zE rfl ((S.blk 0).all _ (Term.len _)) (Term.len _))),?_⟩
 replace S:St A N w w8 [] [zf s7 ([a1])]:=S.arr [] [0]
 obtain rfl:=zbz H
 exact ⟨s7,rfl,S⟩
theorem ji {a0:PTerm} {s_0:SlV} {a1:PTerm} {s_1:SlV} (S:St A N w w [] [zf s_0 a0.sub,zf s_1 a1.sub]) {r:PTerm} (H:zdB.f a0 a1=some r) :
  Calls PP F_ref16_app #[.agg (Term.C (⟨a0.kind,a0.name,a0.other,a0.form,s_0⟩ : Term)).toArray,.agg (Term.C (⟨a1.kind,a1.name,a1.other,a1.form,s_1⟩ : Term)).toArray] w fun e w' => ∃ v,e = .returned v∧(∃ so0:SlV,v = .agg (Term.C (⟨r.kind,r.name,r.other,r.form,so0⟩ : Term)).toArray∧St A N w w' [] [zf so0 r.sub]):=by
 unfold zdB.f at H
 refine zz (n:=9) fn_ref16_app rfl rfl zbx ?_
 refine zd (za ?_)
 refine z1 rfl zbv fun b2 w1 hw1=>?_
 replace S:St A N w w1 [oB b2 zk (Term.C (⟨a0.kind,a0.name,a0.other,a0.form,s_0⟩ : Term))] [zf s_0 a0.sub,zf s_1 a1.sub]:=S.new hw1
 refine z1 rfl zbv fun b4 w3 hw3=>?_
 replace S:St A N w w3 [oB b4 zk (Term.C (⟨a1.kind,a1.name,a1.other,a1.form,s_1⟩ : Term)),oB b2 zk (Term.C (⟨a0.kind,a0.name,a0.other,a0.form,s_0⟩ : Term))] [zf s_0 a0.sub,zf s_1 a1.sub]:=S.new hw3
 refine xa y6 zbv fun b6 w5 hw5=>?_
 replace S:St A N w w5 [oB b6 zk (Term.C (⟨0,ByteArray.empty,ByteArray.empty,0,SlV.nil⟩ : Term)),oB b4 zk (Term.C (⟨a1.kind,a1.name,a1.other,a1.form,s_1⟩ : Term)),oB b2 zk (Term.C (⟨a0.kind,a0.name,a0.other,a0.form,s_0⟩ : Term))] [zf s_0 a0.sub,zf s_1 a1.sub]:=S.new hw5
 refine zb ?_
 refine zd (za ?_)
 refine wd (zp zE rfl ((S.blk 2).all _ (Term.len _)) (Term.len _)) ?_
 refine wd (zp zE rfl ((S.blk 1).all _ (Term.len _)) (Term.len _)) ?_
 refine xy (C:=Term.C) (l:=[(⟨a0.kind,a0.name,a0.other,a0.form,s_0⟩ : Term),(⟨a1.kind,a1.name,a1.other,a1.form,s_1⟩ : Term)]) (vs:=[.agg (Term.C (⟨a0.kind,a0.name,a0.other,a0.form,s_0⟩ : Term)).toArray,.agg (Term.C (⟨a1.kind,a1.name,a1.other,a1.form,s_1⟩ : Term)).toArray]) zR yW.zero rfl rfl (fun a _=>Term.len a) zbv rfl zbv fun b8 w7 s9 hBw7 hw7=>?_
 replace S:St A N w w7 [oS zk 5 Term.C s9 ([(⟨a0.kind,a0.name,a0.other,a0.form,s_0⟩ : Term),(⟨a1.kind,a1.name,a1.other,a1.form,s_1⟩ : Term)]),oB b6 zk (Term.C (⟨0,ByteArray.empty,ByteArray.empty,0,SlV.nil⟩ : Term)),oB b4 zk (Term.C (⟨a1.kind,a1.name,a1.other,a1.form,s_1⟩ : Term)),oB b2 zk (Term.C (⟨a0.kind,a0.name,a0.other,a0.form,s_0⟩ : Term))] [zf s_0 a0.sub,zf s_1 a1.sub]:=S.lit hBw7 hw7 zbx
 replace S:St A N w w7 [oS zk 5 Term.C s9 ([(⟨a0.kind,a0.name,a0.other,a0.form,s_0⟩ : Term),(⟨a1.kind,a1.name,a1.other,a1.form,s_1⟩ : Term)]),oB b6 zk (Term.C (⟨0,ByteArray.empty,ByteArray.empty,0,SlV.nil⟩ : Term)),oB b4 zk (Term.C (⟨a1.kind,a1.name,a1.other,a1.form,s_1⟩ : Term)),oB b2 zk (Term.C (⟨a0.kind,a0.name,a0.other,a0.form,s_0⟩ : Term))] [bigA y2 ([]:List Term) ([]:List PTerm),zf s_0 a0.sub,zf s_1 a1.sub]:=S.bigTm
 replace S:St A N w w7 [oS zk 5 Term.C s9 ([(⟨a0.kind,a0.name,a0.other,a0.form,s_0⟩ : Term),(⟨a1.kind,a1.name,a1.other,a1.form,s_1⟩ : Term)]),oB b6 zk (Term.C (⟨0,ByteArray.empty,ByteArray.empty,0,SlV.nil⟩ : Term)),oB b4 zk (Term.C (⟨a1.kind,a1.name,a1.other,a1.form,s_1⟩ : Term)),oB b2 zk (Term.C (⟨a0.kind,a0.name,a0.other,a0.form,s_0⟩ : Term))] [bigA y2 [(⟨a1.kind,a1.name,a1.other,a1.form,s_1⟩ : Term)] [a1],zf s_0 a0.sub,zf s_1 a1.sub]:=S.consTm (x:=a1) 1
 replace S:St A N w w7 [oS zk 5 Term.C s9 ([(⟨a0.kind,a0.name,a0.other,a0.form,s_0⟩ : Term),(⟨a1.kind,a1.name,a1.other,a1.form,s_1⟩ : Term)]),oB b6 zk (Term.C (⟨0,ByteArray.empty,ByteArray.empty,0,SlV.nil⟩ : Term)),oB b4 zk (Term.C (⟨a1.kind,a1.name,a1.other,a1.form,s_1⟩ : Term)),oB b2 zk (Term.C (⟨a0.kind,a0.name,a0.other,a0.form,s_0⟩ : Term))] [bigA y2 [(⟨a0.kind,a0.name,a0.other,a0.form,s_0⟩ : Term),(⟨a1.kind,a1.name,a1.other,a1.form,s_1⟩ : Term)] [a0,a1],zf s_0 a0.sub,zf s_1 a1.sub]:=S.consTm (x:=a0) 0
 replace S:St A N w w7 [oB b6 zk (Term.C (⟨0,ByteArray.empty,ByteArray.empty,0,SlV.nil⟩ : Term)),oB b4 zk (Term.C (⟨a1.kind,a1.name,a1.other,a1.form,s_1⟩ : Term)),oB b2 zk (Term.C (⟨a0.kind,a0.name,a0.other,a0.form,s_0⟩ : Term))] [zf s9 ([a0,a1]),bigA y2 [(⟨a0.kind,a0.name,a0.other,a0.form,s_0⟩ : Term),(⟨a1.kind,a1.name,a1.other,a1.form,s_1⟩ : Term)] [a0,a1],zf s_0 a0.sub,zf s_1 a1.sub]:=S.frzTm 0 0
 replace S:St A N w w7 [oB b6 zk (Term.C (⟨0,ByteArray.empty,ByteArray.empty,0,SlV.nil⟩ : Term)),oB b4 zk (Term.C (⟨a1.kind,a1.name,a1.other,a1.form,s_1⟩ : Term)),oB b2 zk (Term.C (⟨a0.kind,a0.name,a0.other,a0.form,s_0⟩ : Term))] [zf s9 ([a0,a1]),zf s_0 a0.sub,zf s_1 a1.sub]:=S.zs [0,2,3]
 refine wd (Does.to (v' := .agg (Term.C (⟨3,ByteArray.empty,ByteArray.empty,0,s9⟩ : Term)).toArray) (xo (vs:=[(0,.int .i64 3),(4,s9.v)]) y3 (xJ rfl (xJ rfl rfl)) (Bld.one rfl rfl (by rw [Term.len]; decide) (Term.set_kind _ _) (Bld.one rfl (SlV.one _ _ rfl) (by rw [Term.len]; decide) (Term.set_sub _ _) Bld.nil))) rfl) ?_
 refine zF zE rfl rfl (S.blk 0) (Term.len _) (by rw [Term.len]; decide) (Term.one _) (zV (Term.len _)) fun w10 B hw10 zw10=>?_
 replace S:St A N w w10 [oB b6 zk (Term.C (⟨3,ByteArray.empty,ByteArray.empty,0,s9⟩ : Term)),oB b4 zk (Term.C (⟨a1.kind,a1.name,a1.other,a1.form,s_1⟩ : Term)),oB b2 zk (Term.C (⟨a0.kind,a0.name,a0.other,a0.form,s_0⟩ : Term))] [zf s9 ([a0,a1]),zf s_0 a0.sub,zf s_1 a1.sub]:=S.store 0 B hw10
 clear B
 refine zb ?_
 refine zy ?_
 refine ⟨_,(zS (xl zE rfl ((S.blk 0).all _ (Term.len _)) (Term.len _))),?_⟩
 replace S:St A N w w10 [] [zf s9 ([a0,a1])]:=S.arr [] [0]
 obtain rfl:=zbz H
 exact ⟨s9,rfl,S⟩
theorem kh {a0:Int} {a1:PTerm} {s_1:SlV} (S:St A N w w [] [zf s_1 a1.sub]) {r:PTerm} (H:zdC.f a0 a1=some r) :
  Calls PP F_ref16_one #[.int .i64 a0,.agg (Term.C (⟨a1.kind,a1.name,a1.other,a1.form,s_1⟩ : Term)).toArray] w fun e w' => ∃ v,e = .returned v∧(∃ so0:SlV,v = .agg (Term.C (⟨r.kind,r.name,r.other,r.form,so0⟩ : Term)).toArray∧St A N w w' [] [zf so0 r.sub]):=by
 unfold zdC.f at H
 refine zz (n:=9) fn_ref16_one rfl rfl zbx ?_
 refine zd (za ?_)
 refine z1 rfl zbv fun b2 w1 hw1=>?_
 replace S:St A N w w1 [oB b2 zk (Term.C (⟨a1.kind,a1.name,a1.other,a1.form,s_1⟩ : Term))] [zf s_1 a1.sub]:=S.new hw1
 refine xa y6 zbv fun b4 w3 hw3=>?_
 replace S:St A N w w3 [oB b4 zk (Term.C (⟨0,ByteArray.empty,ByteArray.empty,0,SlV.nil⟩ : Term)),oB b2 zk (Term.C (⟨a1.kind,a1.name,a1.other,a1.form,s_1⟩ : Term))] [zf s_1 a1.sub]:=S.new hw3
 refine zb ?_
 refine zd (za ?_)
 refine wd (zh rfl) ?_
 refine wd (zp zE rfl ((S.blk 1).all _ (Term.len _)) (Term.len _)) ?_
 refine xy (C:=Term.C) (l:=[(⟨a1.kind,a1.name,a1.other,a1.form,s_1⟩ : Term)]) (vs:=[.agg (Term.C (⟨a1.kind,a1.name,a1.other,a1.form,s_1⟩ : Term)).toArray]) zR yW.zero rfl rfl (fun a _=>Term.len a) zbv rfl zbv fun b6 w5 s7 hBw5 hw5=>?_
 replace S:St A N w w5 [oS zk 5 Term.C s7 ([(⟨a1.kind,a1.name,a1.other,a1.form,s_1⟩ : Term)]),oB b4 zk (Term.C (⟨0,ByteArray.empty,ByteArray.empty,0,SlV.nil⟩ : Term)),oB b2 zk (Term.C (⟨a1.kind,a1.name,a1.other,a1.form,s_1⟩ : Term))] [zf s_1 a1.sub]:=S.lit hBw5 hw5 zbx
 replace S:St A N w w5 [oS zk 5 Term.C s7 ([(⟨a1.kind,a1.name,a1.other,a1.form,s_1⟩ : Term)]),oB b4 zk (Term.C (⟨0,ByteArray.empty,ByteArray.empty,0,SlV.nil⟩ : Term)),oB b2 zk (Term.C (⟨a1.kind,a1.name,a1.other,a1.form,s_1⟩ : Term))] [bigA y2 ([]:List Term) ([]:List PTerm),zf s_1 a1.sub]:=S.bigTm
 replace S:St A N w w5 [oS zk 5 Term.C s7 ([(⟨a1.kind,a1.name,a1.other,a1.form,s_1⟩ : Term)]),oB b4 zk (Term.C (⟨0,ByteArray.empty,ByteArray.empty,0,SlV.nil⟩ : Term)),oB b2 zk (Term.C (⟨a1.kind,a1.name,a1.other,a1.form,s_1⟩ : Term))] [bigA y2 [(⟨a1.kind,a1.name,a1.other,a1.form,s_1⟩ : Term)] [a1],zf s_1 a1.sub]:=S.consTm (x:=a1) 0
 replace S:St A N w w5 [oB b4 zk (Term.C (⟨0,ByteArray.empty,ByteArray.empty,0,SlV.nil⟩ : Term)),oB b2 zk (Term.C (⟨a1.kind,a1.name,a1.other,a1.form,s_1⟩ : Term))] [zf s7 ([a1]),bigA y2 [(⟨a1.kind,a1.name,a1.other,a1.form,s_1⟩ : Term)] [a1],zf s_1 a1.sub]:=S.frzTm 0 0
 replace S:St A N w w5 [oB b4 zk (Term.C (⟨0,ByteArray.empty,ByteArray.empty,0,SlV.nil⟩ : Term)),oB b2 zk (Term.C (⟨a1.kind,a1.name,a1.other,a1.form,s_1⟩ : Term))] [zf s7 ([a1]),zf s_1 a1.sub]:=S.zs [0,2]
 refine wd (Does.to (v' := .agg (Term.C (⟨a0,ByteArray.empty,ByteArray.empty,0,s7⟩ : Term)).toArray) (xo (vs:=[(0,.int .i64 a0),(4,s7.v)]) y3 (xJ rfl (xJ rfl rfl)) (Bld.one rfl rfl (by rw [Term.len]; decide) (Term.set_kind _ _) (Bld.one rfl (SlV.one _ _ rfl) (by rw [Term.len]; decide) (Term.set_sub _ _) Bld.nil))) rfl) ?_
 refine zF zE rfl rfl (S.blk 0) (Term.len _) (by rw [Term.len]; decide) (Term.one _) (zV (Term.len _)) fun w8 B hw8 zw8=>?_
 replace S:St A N w w8 [oB b4 zk (Term.C (⟨a0,ByteArray.empty,ByteArray.empty,0,s7⟩ : Term)),oB b2 zk (Term.C (⟨a1.kind,a1.name,a1.other,a1.form,s_1⟩ : Term))] [zf s7 ([a1]),zf s_1 a1.sub]:=S.store 0 B hw8
 clear B
 refine zb ?_
 refine zy ?_
 refine ⟨_,(zS (xl zE rfl ((S.blk 0).all _ (Term.len _)) (Term.len _))),?_⟩
 replace S:St A N w w8 [] [zf s7 ([a1])]:=S.arr [] [0]
 obtain rfl:=zbz H
 exact ⟨s7,rfl,S⟩
theorem ref16_axiom_st {a0:Int} (S:St A N w w [] []) {r:PTerm} (H:zdD.f a0=some r) :
  Calls PP F_ref16_axiom #[.int .i64 a0] w fun e w' => ∃ v,e = .returned v∧(∃ so0:SlV,v = .agg (Term.C (⟨r.kind,r.name,r.other,r.form,so0⟩ : Term)).toArray∧St A N w w' [] [zf so0 r.sub]):=by
 unfold zdD.f at H
 refine zz (n:=66) fn_ref16_axiom rfl rfl zbx ?_
 refine zd (za ?_)
 refine xa y6 zbv fun b2 w1 hw1=>?_
 replace S:St A N w w1 [oB b2 zk (Term.C (⟨0,ByteArray.empty,ByteArray.empty,0,SlV.nil⟩ : Term))] []:=S.new hw1
 refine zb ?_
 refine zd (zd (za ?_))
 refine wd (zh rfl) ?_
 refine zb ?_
 refine zO ?_
 refine zd (za ?_)
 refine wd (zL rfl rfl) ?_
 refine wd (zn rfl) ?_
 refine zb ?_
 refine zH rfl (fun hc3=>?_) (fun hc3=>?_)
 ·replace H:=if_t hc3 H
  refine zd (za ?_)
  obtain ⟨r4,er4,H⟩ := zt H
  obtain ⟨B6,MB6,SB6,back⟩ := S.sub [] [] [oB b2 zk (Term.C (⟨0,ByteArray.empty,ByteArray.empty,0,SlV.nil⟩ : Term))]
  refine zu (zq yh) zbv (yi SB6 er4) ?_
  rintro _ w5 ⟨s7,rfl,S2⟩
  replace S:St A N w w5 [oB b2 zk (Term.C (⟨0,ByteArray.empty,ByteArray.empty,0,SlV.nil⟩ : Term))] [zf s7 r4.sub]:=back _ _ _ _ _ S2 rfl rfl
  clear back S2 SB6
  obtain ⟨r8,er8,H⟩ := zt H
  obtain ⟨B10,MB10,SB10,back⟩ := S.sub [0] [] [oB b2 zk (Term.C (⟨0,ByteArray.empty,ByteArray.empty,0,SlV.nil⟩ : Term))]
  refine zu (zq yv) zbv (yz (a1:=r4) SB10 er8) ?_
  rintro _ w9 ⟨s11,rfl,S2⟩
  replace S:St A N w w9 [oB b2 zk (Term.C (⟨0,ByteArray.empty,ByteArray.empty,0,SlV.nil⟩ : Term))] [zf s11 r8.sub,zf s7 r4.sub]:=back _ _ _ _ _ S2 rfl rfl
  clear back S2 SB10
  obtain ⟨r12,er12,H⟩ := zt H
  obtain ⟨B14,MB14,SB14,back⟩ := S.sub [0] [] [oB b2 zk (Term.C (⟨0,ByteArray.empty,ByteArray.empty,0,SlV.nil⟩ : Term))]
  refine zu (zq yv) zbv (yz (a1:=r8) SB14 er12) ?_
  rintro _ w13 ⟨s15,rfl,S2⟩
  replace S:St A N w w13 [oB b2 zk (Term.C (⟨0,ByteArray.empty,ByteArray.empty,0,SlV.nil⟩ : Term))] [zf s15 r12.sub,zf s11 r8.sub,zf s7 r4.sub]:=back _ _ _ _ _ S2 rfl rfl
  clear back S2 SB14
  refine zF zE rfl rfl (S.blk 0) (Term.len _) (by rw [Term.len]; decide) (Term.one _) (zV (Term.len _)) fun w16 B hw16 zw16=>?_
  replace S:St A N w w16 [oB b2 zk (Term.C (⟨r12.kind,r12.name,r12.other,r12.form,s15⟩ : Term))] [zf s15 r12.sub,zf s11 r8.sub,zf s7 r4.sub]:=S.store 0 B hw16
  clear B
  refine zb ?_
  refine zy ?_
  refine ⟨_,(zS (xl zE rfl ((S.blk 0).all _ (Term.len _)) (Term.len _))),?_⟩
  replace S:St A N w w16 [] [zf s15 r12.sub]:=S.arr [] [0]
  obtain rfl:=zbz H
  exact ⟨s15,rfl,S⟩
 replace H:=if_f hc3 H
 refine zd (za ?_)
 refine wd (zL rfl rfl) ?_
 refine wd (zn rfl) ?_
 refine zb ?_
 refine zH rfl (fun hc17=>?_) (fun hc17=>?_)
 ·replace H:=if_t hc17 H
  refine zd (za ?_)
  obtain ⟨r18,er18,H⟩ := zt H
  obtain ⟨B20,MB20,SB20,back⟩ := S.sub [] [] [oB b2 zk (Term.C (⟨0,ByteArray.empty,ByteArray.empty,0,SlV.nil⟩ : Term))]
  refine zu (zq yh) zbv (yi SB20 er18) ?_
  rintro _ w19 ⟨s21,rfl,S2⟩
  replace S:St A N w w19 [oB b2 zk (Term.C (⟨0,ByteArray.empty,ByteArray.empty,0,SlV.nil⟩ : Term))] [zf s21 r18.sub]:=back _ _ _ _ _ S2 rfl rfl
  clear back S2 SB20
  obtain ⟨r22,er22,H⟩ := zt H
  obtain ⟨B24,MB24,SB24,back⟩ := S.sub [] [] [oB b2 zk (Term.C (⟨0,ByteArray.empty,ByteArray.empty,0,SlV.nil⟩ : Term))]
  refine zu (zq yh) zbv (yi SB24 er22) ?_
  rintro _ w23 ⟨s25,rfl,S2⟩
  replace S:St A N w w23 [oB b2 zk (Term.C (⟨0,ByteArray.empty,ByteArray.empty,0,SlV.nil⟩ : Term))] [zf s25 r22.sub,zf s21 r18.sub]:=back _ _ _ _ _ S2 rfl rfl
  clear back S2 SB24
  obtain ⟨r26,er26,H⟩ := zt H
  obtain ⟨B28,MB28,SB28,back⟩ := S.sub [1,0] [] [oB b2 zk (Term.C (⟨0,ByteArray.empty,ByteArray.empty,0,SlV.nil⟩ : Term))]
  refine zu (zq jd) zbv (ji (a0:=r18) (a1:=r22) SB28 er26) ?_
  rintro _ w27 ⟨s29,rfl,S2⟩
  replace S:St A N w w27 [oB b2 zk (Term.C (⟨0,ByteArray.empty,ByteArray.empty,0,SlV.nil⟩ : Term))] [zf s29 r26.sub,zf s25 r22.sub,zf s21 r18.sub]:=back _ _ _ _ _ S2 rfl rfl
  clear back S2 SB28
  obtain ⟨r30,er30,H⟩ := zt H
  obtain ⟨B32,MB32,SB32,back⟩ := S.sub [] [] [oB b2 zk (Term.C (⟨0,ByteArray.empty,ByteArray.empty,0,SlV.nil⟩ : Term))]
  refine zu (zq yh) zbv (yi SB32 er30) ?_
  rintro _ w31 ⟨s33,rfl,S2⟩
  replace S:St A N w w31 [oB b2 zk (Term.C (⟨0,ByteArray.empty,ByteArray.empty,0,SlV.nil⟩ : Term))] [zf s33 r30.sub,zf s29 r26.sub,zf s25 r22.sub,zf s21 r18.sub]:=back _ _ _ _ _ S2 rfl rfl
  clear back S2 SB32
  obtain ⟨r34,er34,H⟩ := zt H
  obtain ⟨B36,MB36,SB36,back⟩ := S.sub [] [] [oB b2 zk (Term.C (⟨0,ByteArray.empty,ByteArray.empty,0,SlV.nil⟩ : Term))]
  refine zu (zq yh) zbv (yi SB36 er34) ?_
  rintro _ w35 ⟨s37,rfl,S2⟩
  replace S:St A N w w35 [oB b2 zk (Term.C (⟨0,ByteArray.empty,ByteArray.empty,0,SlV.nil⟩ : Term))] [zf s37 r34.sub,zf s33 r30.sub,zf s29 r26.sub,zf s25 r22.sub,zf s21 r18.sub]:=back _ _ _ _ _ S2 rfl rfl
  clear back S2 SB36
  obtain ⟨r38,er38,H⟩ := zt H
  obtain ⟨B40,MB40,SB40,back⟩ := S.sub [1,0] [] [oB b2 zk (Term.C (⟨0,ByteArray.empty,ByteArray.empty,0,SlV.nil⟩ : Term))]
  refine zu (zq jd) zbv (ji (a0:=r30) (a1:=r34) SB40 er38) ?_
  rintro _ w39 ⟨s41,rfl,S2⟩
  replace S:St A N w w39 [oB b2 zk (Term.C (⟨0,ByteArray.empty,ByteArray.empty,0,SlV.nil⟩ : Term))] [zf s41 r38.sub,zf s37 r34.sub,zf s33 r30.sub,zf s29 r26.sub,zf s25 r22.sub,zf s21 r18.sub]:=back _ _ _ _ _ S2 rfl rfl
  clear back S2 SB40
  obtain ⟨r42,er42,H⟩ := zt H
  obtain ⟨B44,MB44,SB44,back⟩ := S.sub [3,0] [] [oB b2 zk (Term.C (⟨0,ByteArray.empty,ByteArray.empty,0,SlV.nil⟩ : Term))]
  refine zu (zq jd) zbv (ji (a0:=r26) (a1:=r38) SB44 er42) ?_
  rintro _ w43 ⟨s45,rfl,S2⟩
  replace S:St A N w w43 [oB b2 zk (Term.C (⟨0,ByteArray.empty,ByteArray.empty,0,SlV.nil⟩ : Term))] [zf s45 r42.sub,zf s41 r38.sub,zf s37 r34.sub,zf s33 r30.sub,zf s29 r26.sub,zf s25 r22.sub,zf s21 r18.sub]:=back _ _ _ _ _ S2 rfl rfl
  clear back S2 SB44
  obtain ⟨r46,er46,H⟩ := zt H
  obtain ⟨B48,MB48,SB48,back⟩ := S.sub [0] [] [oB b2 zk (Term.C (⟨0,ByteArray.empty,ByteArray.empty,0,SlV.nil⟩ : Term))]
  refine zu (zq yv) zbv (yz (a1:=r42) SB48 er46) ?_
  rintro _ w47 ⟨s49,rfl,S2⟩
  replace S:St A N w w47 [oB b2 zk (Term.C (⟨0,ByteArray.empty,ByteArray.empty,0,SlV.nil⟩ : Term))] [zf s49 r46.sub,zf s45 r42.sub,zf s41 r38.sub,zf s37 r34.sub,zf s33 r30.sub,zf s29 r26.sub,zf s25 r22.sub,zf s21 r18.sub]:=back _ _ _ _ _ S2 rfl rfl
  clear back S2 SB48
  obtain ⟨r50,er50,H⟩ := zt H
  obtain ⟨B52,MB52,SB52,back⟩ := S.sub [0] [] [oB b2 zk (Term.C (⟨0,ByteArray.empty,ByteArray.empty,0,SlV.nil⟩ : Term))]
  refine zu (zq yv) zbv (yz (a1:=r46) SB52 er50) ?_
  rintro _ w51 ⟨s53,rfl,S2⟩
  replace S:St A N w w51 [oB b2 zk (Term.C (⟨0,ByteArray.empty,ByteArray.empty,0,SlV.nil⟩ : Term))] [zf s53 r50.sub,zf s49 r46.sub,zf s45 r42.sub,zf s41 r38.sub,zf s37 r34.sub,zf s33 r30.sub,zf s29 r26.sub,zf s25 r22.sub,zf s21 r18.sub]:=back _ _ _ _ _ S2 rfl rfl
  clear back S2 SB52
  obtain ⟨r54,er54,H⟩ := zt H
  obtain ⟨B56,MB56,SB56,back⟩ := S.sub [0] [] [oB b2 zk (Term.C (⟨0,ByteArray.empty,ByteArray.empty,0,SlV.nil⟩ : Term))]
  refine zu (zq yv) zbv (yz (a1:=r50) SB56 er54) ?_
  rintro _ w55 ⟨s57,rfl,S2⟩
  replace S:St A N w w55 [oB b2 zk (Term.C (⟨0,ByteArray.empty,ByteArray.empty,0,SlV.nil⟩ : Term))] [zf s57 r54.sub,zf s53 r50.sub,zf s49 r46.sub,zf s45 r42.sub,zf s41 r38.sub,zf s37 r34.sub,zf s33 r30.sub,zf s29 r26.sub,zf s25 r22.sub,zf s21 r18.sub]:=back _ _ _ _ _ S2 rfl rfl
  clear back S2 SB56
  refine zF zE rfl rfl (S.blk 0) (Term.len _) (by rw [Term.len]; decide) (Term.one _) (zV (Term.len _)) fun w58 B hw58 zw58=>?_
  replace S:St A N w w58 [oB b2 zk (Term.C (⟨r54.kind,r54.name,r54.other,r54.form,s57⟩ : Term))] [zf s57 r54.sub,zf s53 r50.sub,zf s49 r46.sub,zf s45 r42.sub,zf s41 r38.sub,zf s37 r34.sub,zf s33 r30.sub,zf s29 r26.sub,zf s25 r22.sub,zf s21 r18.sub]:=S.store 0 B hw58
  clear B
  refine zb ?_
  refine zy ?_
  refine ⟨_,(zS (xl zE rfl ((S.blk 0).all _ (Term.len _)) (Term.len _))),?_⟩
  replace S:St A N w w58 [] [zf s57 r54.sub]:=S.arr [] [0]
  obtain rfl:=zbz H
  exact ⟨s57,rfl,S⟩
 replace H:=if_f hc17 H
 refine zd (za ?_)
 refine wd (zL rfl rfl) ?_
 refine wd (zn rfl) ?_
 refine zb ?_
 refine zH rfl (fun hc59=>?_) (fun hc59=>?_)
 ·replace H:=if_t hc59 H
  refine zd (za ?_)
  obtain ⟨r60,er60,H⟩ := zt H
  obtain ⟨B62,MB62,SB62,back⟩ := S.sub [] [] [oB b2 zk (Term.C (⟨0,ByteArray.empty,ByteArray.empty,0,SlV.nil⟩ : Term))]
  refine zu (zq yh) zbv (yi SB62 er60) ?_
  rintro _ w61 ⟨s63,rfl,S2⟩
  replace S:St A N w w61 [oB b2 zk (Term.C (⟨0,ByteArray.empty,ByteArray.empty,0,SlV.nil⟩ : Term))] [zf s63 r60.sub]:=back _ _ _ _ _ S2 rfl rfl
  clear back S2 SB62
  obtain ⟨r64,er64,H⟩ := zt H
  obtain ⟨B66,MB66,SB66,back⟩ := S.sub [0] [] [oB b2 zk (Term.C (⟨0,ByteArray.empty,ByteArray.empty,0,SlV.nil⟩ : Term))]
  refine zu (zq j2) zbv (kh (a1:=r60) SB66 er64) ?_
  rintro _ w65 ⟨s67,rfl,S2⟩
  replace S:St A N w w65 [oB b2 zk (Term.C (⟨0,ByteArray.empty,ByteArray.empty,0,SlV.nil⟩ : Term))] [zf s67 r64.sub,zf s63 r60.sub]:=back _ _ _ _ _ S2 rfl rfl
  clear back S2 SB66
  obtain ⟨r68,er68,H⟩ := zt H
  obtain ⟨B70,MB70,SB70,back⟩ := S.sub [0] [] [oB b2 zk (Term.C (⟨0,ByteArray.empty,ByteArray.empty,0,SlV.nil⟩ : Term))]
  refine zu (zq yv) zbv (yz (a1:=r64) SB70 er68) ?_
  rintro _ w69 ⟨s71,rfl,S2⟩
  replace S:St A N w w69 [oB b2 zk (Term.C (⟨0,ByteArray.empty,ByteArray.empty,0,SlV.nil⟩ : Term))] [zf s71 r68.sub,zf s67 r64.sub,zf s63 r60.sub]:=back _ _ _ _ _ S2 rfl rfl
  clear back S2 SB70
  refine zF zE rfl rfl (S.blk 0) (Term.len _) (by rw [Term.len]; decide) (Term.one _) (zV (Term.len _)) fun w72 B hw72 zw72=>?_
  replace S:St A N w w72 [oB b2 zk (Term.C (⟨r68.kind,r68.name,r68.other,r68.form,s71⟩ : Term))] [zf s71 r68.sub,zf s67 r64.sub,zf s63 r60.sub]:=S.store 0 B hw72
  clear B
  refine zb ?_
  refine zy ?_
  refine ⟨_,(zS (xl zE rfl ((S.blk 0).all _ (Term.len _)) (Term.len _))),?_⟩
  replace S:St A N w w72 [] [zf s71 r68.sub]:=S.arr [] [0]
  obtain rfl:=zbz H
  exact ⟨s71,rfl,S⟩
 replace H:=if_f hc59 H
 refine zd (za ?_)
 refine wd (zL rfl rfl) ?_
 refine wd (zn rfl) ?_
 refine zb ?_
 refine zH rfl (fun hc73=>?_) (fun hc73=>?_)
 ·replace H:=if_t hc73 H
  refine zd (za ?_)
  obtain ⟨r74,er74,H⟩ := zt H
  obtain ⟨B76,MB76,SB76,back⟩ := S.sub [] [] [oB b2 zk (Term.C (⟨0,ByteArray.empty,ByteArray.empty,0,SlV.nil⟩ : Term))]
  refine zu (zq yh) zbv (yi SB76 er74) ?_
  rintro _ w75 ⟨s77,rfl,S2⟩
  replace S:St A N w w75 [oB b2 zk (Term.C (⟨0,ByteArray.empty,ByteArray.empty,0,SlV.nil⟩ : Term))] [zf s77 r74.sub]:=back _ _ _ _ _ S2 rfl rfl
  clear back S2 SB76
  obtain ⟨r78,er78,H⟩ := zt H
  obtain ⟨B80,MB80,SB80,back⟩ := S.sub [0] [] [oB b2 zk (Term.C (⟨0,ByteArray.empty,ByteArray.empty,0,SlV.nil⟩ : Term))]
  refine zu (zq j2) zbv (kh (a1:=r74) SB80 er78) ?_
  rintro _ w79 ⟨s81,rfl,S2⟩
  replace S:St A N w w79 [oB b2 zk (Term.C (⟨0,ByteArray.empty,ByteArray.empty,0,SlV.nil⟩ : Term))] [zf s81 r78.sub,zf s77 r74.sub]:=back _ _ _ _ _ S2 rfl rfl
  clear back S2 SB80
  obtain ⟨r82,er82,H⟩ := zt H
  obtain ⟨B84,MB84,SB84,back⟩ := S.sub [0] [] [oB b2 zk (Term.C (⟨0,ByteArray.empty,ByteArray.empty,0,SlV.nil⟩ : Term))]
  refine zu (zq yv) zbv (yz (a1:=r78) SB84 er82) ?_
  rintro _ w83 ⟨s85,rfl,S2⟩
  replace S:St A N w w83 [oB b2 zk (Term.C (⟨0,ByteArray.empty,ByteArray.empty,0,SlV.nil⟩ : Term))] [zf s85 r82.sub,zf s81 r78.sub,zf s77 r74.sub]:=back _ _ _ _ _ S2 rfl rfl
  clear back S2 SB84
  refine zF zE rfl rfl (S.blk 0) (Term.len _) (by rw [Term.len]; decide) (Term.one _) (zV (Term.len _)) fun w86 B hw86 zw86=>?_
  replace S:St A N w w86 [oB b2 zk (Term.C (⟨r82.kind,r82.name,r82.other,r82.form,s85⟩ : Term))] [zf s85 r82.sub,zf s81 r78.sub,zf s77 r74.sub]:=S.store 0 B hw86
  clear B
  refine zb ?_
  refine zy ?_
  refine ⟨_,(zS (xl zE rfl ((S.blk 0).all _ (Term.len _)) (Term.len _))),?_⟩
  replace S:St A N w w86 [] [zf s85 r82.sub]:=S.arr [] [0]
  obtain rfl:=zbz H
  exact ⟨s85,rfl,S⟩
 replace H:=if_f hc73 H
 refine zd (za ?_)
 refine wd (zL rfl rfl) ?_
 refine wd (zn rfl) ?_
 refine zb ?_
 refine zH rfl (fun hc87=>?_) (fun hc87=>?_)
 ·replace H:=if_t hc87 H
  refine zd (za ?_)
  obtain ⟨r88,er88,H⟩ := zt H
  obtain ⟨B90,MB90,SB90,back⟩ := S.sub [] [] [oB b2 zk (Term.C (⟨0,ByteArray.empty,ByteArray.empty,0,SlV.nil⟩ : Term))]
  refine zu (zq yh) zbv (yi SB90 er88) ?_
  rintro _ w89 ⟨s91,rfl,S2⟩
  replace S:St A N w w89 [oB b2 zk (Term.C (⟨0,ByteArray.empty,ByteArray.empty,0,SlV.nil⟩ : Term))] [zf s91 r88.sub]:=back _ _ _ _ _ S2 rfl rfl
  clear back S2 SB90
  obtain ⟨r92,er92,H⟩ := zt H
  obtain ⟨B94,MB94,SB94,back⟩ := S.sub [] [] [oB b2 zk (Term.C (⟨0,ByteArray.empty,ByteArray.empty,0,SlV.nil⟩ : Term))]
  refine zu (zq yh) zbv (yi SB94 er92) ?_
  rintro _ w93 ⟨s95,rfl,S2⟩
  replace S:St A N w w93 [oB b2 zk (Term.C (⟨0,ByteArray.empty,ByteArray.empty,0,SlV.nil⟩ : Term))] [zf s95 r92.sub,zf s91 r88.sub]:=back _ _ _ _ _ S2 rfl rfl
  clear back S2 SB94
  refine xy (C:=Term.C) (l:=[(⟨r88.kind,r88.name,r88.other,r88.form,s91⟩ : Term),(⟨r92.kind,r92.name,r92.other,r92.form,s95⟩ : Term)]) (vs:=[.agg (Term.C (⟨r88.kind,r88.name,r88.other,r88.form,s91⟩ : Term)).toArray,.agg (Term.C (⟨r92.kind,r92.name,r92.other,r92.form,s95⟩ : Term)).toArray]) zR yW.zero rfl rfl (fun a _=>Term.len a) zbv rfl zbv fun b97 w96 s98 hBw96 hw96=>?_
  replace S:St A N w w96 [oS zk 5 Term.C s98 ([(⟨r88.kind,r88.name,r88.other,r88.form,s91⟩ : Term),(⟨r92.kind,r92.name,r92.other,r92.form,s95⟩ : Term)]),oB b2 zk (Term.C (⟨0,ByteArray.empty,ByteArray.empty,0,SlV.nil⟩ : Term))] [zf s95 r92.sub,zf s91 r88.sub]:=S.lit hBw96 hw96 zbx
  replace S:St A N w w96 [oS zk 5 Term.C s98 ([(⟨r88.kind,r88.name,r88.other,r88.form,s91⟩ : Term),(⟨r92.kind,r92.name,r92.other,r92.form,s95⟩ : Term)]),oB b2 zk (Term.C (⟨0,ByteArray.empty,ByteArray.empty,0,SlV.nil⟩ : Term))] [bigA y2 ([]:List Term) ([]:List PTerm),zf s95 r92.sub,zf s91 r88.sub]:=S.bigTm
  replace S:St A N w w96 [oS zk 5 Term.C s98 ([(⟨r88.kind,r88.name,r88.other,r88.form,s91⟩ : Term),(⟨r92.kind,r92.name,r92.other,r92.form,s95⟩ : Term)]),oB b2 zk (Term.C (⟨0,ByteArray.empty,ByteArray.empty,0,SlV.nil⟩ : Term))] [bigA y2 [(⟨r92.kind,r92.name,r92.other,r92.form,s95⟩ : Term)] [r92],zf s95 r92.sub,zf s91 r88.sub]:=S.consTm (x:=r92) 0
  replace S:St A N w w96 [oS zk 5 Term.C s98 ([(⟨r88.kind,r88.name,r88.other,r88.form,s91⟩ : Term),(⟨r92.kind,r92.name,r92.other,r92.form,s95⟩ : Term)]),oB b2 zk (Term.C (⟨0,ByteArray.empty,ByteArray.empty,0,SlV.nil⟩ : Term))] [bigA y2 [(⟨r88.kind,r88.name,r88.other,r88.form,s91⟩ : Term),(⟨r92.kind,r92.name,r92.other,r92.form,s95⟩ : Term)] [r88,r92],zf s95 r92.sub,zf s91 r88.sub]:=S.consTm (x:=r88) 1
  replace S:St A N w w96 [oB b2 zk (Term.C (⟨0,ByteArray.empty,ByteArray.empty,0,SlV.nil⟩ : Term))] [zf s98 ([r88,r92]),bigA y2 [(⟨r88.kind,r88.name,r88.other,r88.form,s91⟩ : Term),(⟨r92.kind,r92.name,r92.other,r92.form,s95⟩ : Term)] [r88,r92],zf s95 r92.sub,zf s91 r88.sub]:=S.frzTm 0 0
  replace S:St A N w w96 [oB b2 zk (Term.C (⟨0,ByteArray.empty,ByteArray.empty,0,SlV.nil⟩ : Term))] [zf s98 ([r88,r92]),zf s95 r92.sub,zf s91 r88.sub]:=S.zs [0,2,3]
  refine wd (Does.to (v' := .agg (Term.C (⟨4,ByteArray.empty,ByteArray.empty,0,s98⟩ : Term)).toArray) (xo (vs:=[(0,.int .i64 4),(4,s98.v)]) y3 (xJ rfl (xJ rfl rfl)) (Bld.one rfl rfl (by rw [Term.len]; decide) (Term.set_kind _ _) (Bld.one rfl (SlV.one _ _ rfl) (by rw [Term.len]; decide) (Term.set_sub _ _) Bld.nil))) rfl) ?_
  obtain ⟨r99,er99,H⟩ := zt H
  obtain ⟨B101,MB101,SB101,back⟩ := S.sub [0] [] [oB b2 zk (Term.C (⟨0,ByteArray.empty,ByteArray.empty,0,SlV.nil⟩ : Term))]
  refine zu (zq yv) zbv (yz (a1:=(⟨4,ByteArray.empty,ByteArray.empty,0,[r88,r92]⟩ : PTerm)) SB101 er99) ?_
  rintro _ w100 ⟨s102,rfl,S2⟩
  replace S:St A N w w100 [oB b2 zk (Term.C (⟨0,ByteArray.empty,ByteArray.empty,0,SlV.nil⟩ : Term))] [zf s102 r99.sub,zf s98 ([r88,r92]),zf s95 r92.sub,zf s91 r88.sub]:=back _ _ _ _ _ S2 rfl rfl
  clear back S2 SB101
  obtain ⟨r103,er103,H⟩ := zt H
  obtain ⟨B105,MB105,SB105,back⟩ := S.sub [0] [] [oB b2 zk (Term.C (⟨0,ByteArray.empty,ByteArray.empty,0,SlV.nil⟩ : Term))]
  refine zu (zq yv) zbv (yz (a1:=r99) SB105 er103) ?_
  rintro _ w104 ⟨s106,rfl,S2⟩
  replace S:St A N w w104 [oB b2 zk (Term.C (⟨0,ByteArray.empty,ByteArray.empty,0,SlV.nil⟩ : Term))] [zf s106 r103.sub,zf s102 r99.sub,zf s98 ([r88,r92]),zf s95 r92.sub,zf s91 r88.sub]:=back _ _ _ _ _ S2 rfl rfl
  clear back S2 SB105
  refine zF zE rfl rfl (S.blk 0) (Term.len _) (by rw [Term.len]; decide) (Term.one _) (zV (Term.len _)) fun w107 B hw107 zw107=>?_
  replace S:St A N w w107 [oB b2 zk (Term.C (⟨r103.kind,r103.name,r103.other,r103.form,s106⟩ : Term))] [zf s106 r103.sub,zf s102 r99.sub,zf s98 ([r88,r92]),zf s95 r92.sub,zf s91 r88.sub]:=S.store 0 B hw107
  clear B
  refine zb ?_
  refine zy ?_
  refine ⟨_,(zS (xl zE rfl ((S.blk 0).all _ (Term.len _)) (Term.len _))),?_⟩
  replace S:St A N w w107 [] [zf s106 r103.sub]:=S.arr [] [0]
  obtain rfl:=zbz H
  exact ⟨s106,rfl,S⟩
 replace H:=if_f hc87 H
 refine zd (za ?_)
 refine wd (zL rfl rfl) ?_
 refine wd (zn rfl) ?_
 refine zb ?_
 refine zH rfl (fun hc108=>?_) (fun hc108=>?_)
 ·replace H:=if_t hc108 H
  refine zd (za ?_)
  obtain ⟨r109,er109,H⟩ := zt H
  obtain ⟨B111,MB111,SB111,back⟩ := S.sub [] [] [oB b2 zk (Term.C (⟨0,ByteArray.empty,ByteArray.empty,0,SlV.nil⟩ : Term))]
  refine zu (zq yh) zbv (yi SB111 er109) ?_
  rintro _ w110 ⟨s112,rfl,S2⟩
  replace S:St A N w w110 [oB b2 zk (Term.C (⟨0,ByteArray.empty,ByteArray.empty,0,SlV.nil⟩ : Term))] [zf s112 r109.sub]:=back _ _ _ _ _ S2 rfl rfl
  clear back S2 SB111
  obtain ⟨r113,er113,H⟩ := zt H
  obtain ⟨B115,MB115,SB115,back⟩ := S.sub [0] [] [oB b2 zk (Term.C (⟨0,ByteArray.empty,ByteArray.empty,0,SlV.nil⟩ : Term))]
  refine zu (zq j2) zbv (kh (a1:=r109) SB115 er113) ?_
  rintro _ w114 ⟨s116,rfl,S2⟩
  replace S:St A N w w114 [oB b2 zk (Term.C (⟨0,ByteArray.empty,ByteArray.empty,0,SlV.nil⟩ : Term))] [zf s116 r113.sub,zf s112 r109.sub]:=back _ _ _ _ _ S2 rfl rfl
  clear back S2 SB115
  obtain ⟨r117,er117,H⟩ := zt H
  obtain ⟨B119,MB119,SB119,back⟩ := S.sub [0] [] [oB b2 zk (Term.C (⟨0,ByteArray.empty,ByteArray.empty,0,SlV.nil⟩ : Term))]
  refine zu (zq yv) zbv (yz (a1:=r113) SB119 er117) ?_
  rintro _ w118 ⟨s120,rfl,S2⟩
  replace S:St A N w w118 [oB b2 zk (Term.C (⟨0,ByteArray.empty,ByteArray.empty,0,SlV.nil⟩ : Term))] [zf s120 r117.sub,zf s116 r113.sub,zf s112 r109.sub]:=back _ _ _ _ _ S2 rfl rfl
  clear back S2 SB119
  refine zF zE rfl rfl (S.blk 0) (Term.len _) (by rw [Term.len]; decide) (Term.one _) (zV (Term.len _)) fun w121 B hw121 zw121=>?_
  replace S:St A N w w121 [oB b2 zk (Term.C (⟨r117.kind,r117.name,r117.other,r117.form,s120⟩ : Term))] [zf s120 r117.sub,zf s116 r113.sub,zf s112 r109.sub]:=S.store 0 B hw121
  clear B
  refine zb ?_
  refine zy ?_
  refine ⟨_,(zS (xl zE rfl ((S.blk 0).all _ (Term.len _)) (Term.len _))),?_⟩
  replace S:St A N w w121 [] [zf s120 r117.sub]:=S.arr [] [0]
  obtain rfl:=zbz H
  exact ⟨s120,rfl,S⟩
 replace H:=if_f hc108 H
 refine zd (za ?_)
 refine wd (zL rfl rfl) ?_
 refine wd (zn rfl) ?_
 refine zb ?_
 refine zH rfl (fun hc122=>?_) (fun hc122=>?_)
 ·replace H:=if_t hc122 H
  refine zd (za ?_)
  obtain ⟨r123,er123,H⟩ := zt H
  obtain ⟨B125,MB125,SB125,back⟩ := S.sub [] [] [oB b2 zk (Term.C (⟨0,ByteArray.empty,ByteArray.empty,0,SlV.nil⟩ : Term))]
  refine zu (zq yh) zbv (yi SB125 er123) ?_
  rintro _ w124 ⟨s126,rfl,S2⟩
  replace S:St A N w w124 [oB b2 zk (Term.C (⟨0,ByteArray.empty,ByteArray.empty,0,SlV.nil⟩ : Term))] [zf s126 r123.sub]:=back _ _ _ _ _ S2 rfl rfl
  clear back S2 SB125
  obtain ⟨r127,er127,H⟩ := zt H
  obtain ⟨B129,MB129,SB129,back⟩ := S.sub [0] [] [oB b2 zk (Term.C (⟨0,ByteArray.empty,ByteArray.empty,0,SlV.nil⟩ : Term))]
  refine zu (zq j2) zbv (kh (a1:=r123) SB129 er127) ?_
  rintro _ w128 ⟨s130,rfl,S2⟩
  replace S:St A N w w128 [oB b2 zk (Term.C (⟨0,ByteArray.empty,ByteArray.empty,0,SlV.nil⟩ : Term))] [zf s130 r127.sub,zf s126 r123.sub]:=back _ _ _ _ _ S2 rfl rfl
  clear back S2 SB129
  obtain ⟨r131,er131,H⟩ := zt H
  obtain ⟨B133,MB133,SB133,back⟩ := S.sub [0] [] [oB b2 zk (Term.C (⟨0,ByteArray.empty,ByteArray.empty,0,SlV.nil⟩ : Term))]
  refine zu (zq yv) zbv (yz (a1:=r127) SB133 er131) ?_
  rintro _ w132 ⟨s134,rfl,S2⟩
  replace S:St A N w w132 [oB b2 zk (Term.C (⟨0,ByteArray.empty,ByteArray.empty,0,SlV.nil⟩ : Term))] [zf s134 r131.sub,zf s130 r127.sub,zf s126 r123.sub]:=back _ _ _ _ _ S2 rfl rfl
  clear back S2 SB133
  refine zF zE rfl rfl (S.blk 0) (Term.len _) (by rw [Term.len]; decide) (Term.one _) (zV (Term.len _)) fun w135 B hw135 zw135=>?_
  replace S:St A N w w135 [oB b2 zk (Term.C (⟨r131.kind,r131.name,r131.other,r131.form,s134⟩ : Term))] [zf s134 r131.sub,zf s130 r127.sub,zf s126 r123.sub]:=S.store 0 B hw135
  clear B
  refine zb ?_
  refine zy ?_
  refine ⟨_,(zS (xl zE rfl ((S.blk 0).all _ (Term.len _)) (Term.len _))),?_⟩
  replace S:St A N w w135 [] [zf s134 r131.sub]:=S.arr [] [0]
  obtain rfl:=zbz H
  exact ⟨s134,rfl,S⟩
 replace H:=if_f hc122 H
 refine zd (za ?_)
 refine wd (zL rfl rfl) ?_
 refine wd (zn rfl) ?_
 refine zb ?_
 refine zH rfl (fun hc136=>?_) (fun hc136=>?_)
 ·replace H:=if_t hc136 H
  refine zd (za ?_)
  obtain ⟨r137,er137,H⟩ := zt H
  obtain ⟨B139,MB139,SB139,back⟩ := S.sub [] [] [oB b2 zk (Term.C (⟨0,ByteArray.empty,ByteArray.empty,0,SlV.nil⟩ : Term))]
  refine zu (zq yh) zbv (yi SB139 er137) ?_
  rintro _ w138 ⟨s140,rfl,S2⟩
  replace S:St A N w w138 [oB b2 zk (Term.C (⟨0,ByteArray.empty,ByteArray.empty,0,SlV.nil⟩ : Term))] [zf s140 r137.sub]:=back _ _ _ _ _ S2 rfl rfl
  clear back S2 SB139
  obtain ⟨r141,er141,H⟩ := zt H
  obtain ⟨B143,MB143,SB143,back⟩ := S.sub [] [] [oB b2 zk (Term.C (⟨0,ByteArray.empty,ByteArray.empty,0,SlV.nil⟩ : Term))]
  refine zu (zq yh) zbv (yi SB143 er141) ?_
  rintro _ w142 ⟨s144,rfl,S2⟩
  replace S:St A N w w142 [oB b2 zk (Term.C (⟨0,ByteArray.empty,ByteArray.empty,0,SlV.nil⟩ : Term))] [zf s144 r141.sub,zf s140 r137.sub]:=back _ _ _ _ _ S2 rfl rfl
  clear back S2 SB143
  obtain ⟨r145,er145,H⟩ := zt H
  obtain ⟨B147,MB147,SB147,back⟩ := S.sub [] [] [oB b2 zk (Term.C (⟨0,ByteArray.empty,ByteArray.empty,0,SlV.nil⟩ : Term))]
  refine zu (zq yh) zbv (yi SB147 er145) ?_
  rintro _ w146 ⟨s148,rfl,S2⟩
  replace S:St A N w w146 [oB b2 zk (Term.C (⟨0,ByteArray.empty,ByteArray.empty,0,SlV.nil⟩ : Term))] [zf s148 r145.sub,zf s144 r141.sub,zf s140 r137.sub]:=back _ _ _ _ _ S2 rfl rfl
  clear back S2 SB147
  obtain ⟨r149,er149,H⟩ := zt H
  obtain ⟨B151,MB151,SB151,back⟩ := S.sub [1,0] [] [oB b2 zk (Term.C (⟨0,ByteArray.empty,ByteArray.empty,0,SlV.nil⟩ : Term))]
  refine zu (zq jd) zbv (ji (a0:=r141) (a1:=r145) SB151 er149) ?_
  rintro _ w150 ⟨s152,rfl,S2⟩
  replace S:St A N w w150 [oB b2 zk (Term.C (⟨0,ByteArray.empty,ByteArray.empty,0,SlV.nil⟩ : Term))] [zf s152 r149.sub,zf s148 r145.sub,zf s144 r141.sub,zf s140 r137.sub]:=back _ _ _ _ _ S2 rfl rfl
  clear back S2 SB151
  obtain ⟨r153,er153,H⟩ := zt H
  obtain ⟨B155,MB155,SB155,back⟩ := S.sub [] [] [oB b2 zk (Term.C (⟨0,ByteArray.empty,ByteArray.empty,0,SlV.nil⟩ : Term))]
  refine zu (zq yh) zbv (yi SB155 er153) ?_
  rintro _ w154 ⟨s156,rfl,S2⟩
  replace S:St A N w w154 [oB b2 zk (Term.C (⟨0,ByteArray.empty,ByteArray.empty,0,SlV.nil⟩ : Term))] [zf s156 r153.sub,zf s152 r149.sub,zf s148 r145.sub,zf s144 r141.sub,zf s140 r137.sub]:=back _ _ _ _ _ S2 rfl rfl
  clear back S2 SB155
  obtain ⟨r157,er157,H⟩ := zt H
  obtain ⟨B159,MB159,SB159,back⟩ := S.sub [] [] [oB b2 zk (Term.C (⟨0,ByteArray.empty,ByteArray.empty,0,SlV.nil⟩ : Term))]
  refine zu (zq yh) zbv (yi SB159 er157) ?_
  rintro _ w158 ⟨s160,rfl,S2⟩
  replace S:St A N w w158 [oB b2 zk (Term.C (⟨0,ByteArray.empty,ByteArray.empty,0,SlV.nil⟩ : Term))] [zf s160 r157.sub,zf s156 r153.sub,zf s152 r149.sub,zf s148 r145.sub,zf s144 r141.sub,zf s140 r137.sub]:=back _ _ _ _ _ S2 rfl rfl
  clear back S2 SB159
  obtain ⟨r161,er161,H⟩ := zt H
  obtain ⟨B163,MB163,SB163,back⟩ := S.sub [1,0] [] [oB b2 zk (Term.C (⟨0,ByteArray.empty,ByteArray.empty,0,SlV.nil⟩ : Term))]
  refine zu (zq jd) zbv (ji (a0:=r153) (a1:=r157) SB163 er161) ?_
  rintro _ w162 ⟨s164,rfl,S2⟩
  replace S:St A N w w162 [oB b2 zk (Term.C (⟨0,ByteArray.empty,ByteArray.empty,0,SlV.nil⟩ : Term))] [zf s164 r161.sub,zf s160 r157.sub,zf s156 r153.sub,zf s152 r149.sub,zf s148 r145.sub,zf s144 r141.sub,zf s140 r137.sub]:=back _ _ _ _ _ S2 rfl rfl
  clear back S2 SB163
  refine xy (C:=Term.C) (l:=[(⟨r137.kind,r137.name,r137.other,r137.form,s140⟩ : Term),(⟨r149.kind,r149.name,r149.other,r149.form,s152⟩ : Term),(⟨r161.kind,r161.name,r161.other,r161.form,s164⟩ : Term)]) (vs:=[.agg (Term.C (⟨r137.kind,r137.name,r137.other,r137.form,s140⟩ : Term)).toArray,.agg (Term.C (⟨r149.kind,r149.name,r149.other,r149.form,s152⟩ : Term)).toArray,.agg (Term.C (⟨r161.kind,r161.name,r161.other,r161.form,s164⟩ : Term)).toArray]) zR yW.zero rfl rfl (fun a _=>Term.len a) zbv rfl zbv fun b166 w165 s167 hBw165 hw165=>?_
  replace S:St A N w w165 [oS zk 5 Term.C s167 ([(⟨r137.kind,r137.name,r137.other,r137.form,s140⟩ : Term),(⟨r149.kind,r149.name,r149.other,r149.form,s152⟩ : Term),(⟨r161.kind,r161.name,r161.other,r161.form,s164⟩ : Term)]),oB b2 zk (Term.C (⟨0,ByteArray.empty,ByteArray.empty,0,SlV.nil⟩ : Term))] [zf s164 r161.sub,zf s160 r157.sub,zf s156 r153.sub,zf s152 r149.sub,zf s148 r145.sub,zf s144 r141.sub,zf s140 r137.sub]:=S.lit hBw165 hw165 zbx
  replace S:St A N w w165 [oS zk 5 Term.C s167 ([(⟨r137.kind,r137.name,r137.other,r137.form,s140⟩ : Term),(⟨r149.kind,r149.name,r149.other,r149.form,s152⟩ : Term),(⟨r161.kind,r161.name,r161.other,r161.form,s164⟩ : Term)]),oB b2 zk (Term.C (⟨0,ByteArray.empty,ByteArray.empty,0,SlV.nil⟩ : Term))] [bigA y2 ([]:List Term) ([]:List PTerm),zf s164 r161.sub,zf s160 r157.sub,zf s156 r153.sub,zf s152 r149.sub,zf s148 r145.sub,zf s144 r141.sub,zf s140 r137.sub]:=S.bigTm
  replace S:St A N w w165 [oS zk 5 Term.C s167 ([(⟨r137.kind,r137.name,r137.other,r137.form,s140⟩ : Term),(⟨r149.kind,r149.name,r149.other,r149.form,s152⟩ : Term),(⟨r161.kind,r161.name,r161.other,r161.form,s164⟩ : Term)]),oB b2 zk (Term.C (⟨0,ByteArray.empty,ByteArray.empty,0,SlV.nil⟩ : Term))] [bigA y2 [(⟨r161.kind,r161.name,r161.other,r161.form,s164⟩ : Term)] [r161],zf s164 r161.sub,zf s160 r157.sub,zf s156 r153.sub,zf s152 r149.sub,zf s148 r145.sub,zf s144 r141.sub,zf s140 r137.sub]:=S.consTm (x:=r161) 0
  replace S:St A N w w165 [oS zk 5 Term.C s167 ([(⟨r137.kind,r137.name,r137.other,r137.form,s140⟩ : Term),(⟨r149.kind,r149.name,r149.other,r149.form,s152⟩ : Term),(⟨r161.kind,r161.name,r161.other,r161.form,s164⟩ : Term)]),oB b2 zk (Term.C (⟨0,ByteArray.empty,ByteArray.empty,0,SlV.nil⟩ : Term))] [bigA y2 [(⟨r149.kind,r149.name,r149.other,r149.form,s152⟩ : Term),(⟨r161.kind,r161.name,r161.other,r161.form,s164⟩ : Term)] [r149,r161],zf s164 r161.sub,zf s160 r157.sub,zf s156 r153.sub,zf s152 r149.sub,zf s148 r145.sub,zf s144 r141.sub,zf s140 r137.sub]:=S.consTm (x:=r149) 3
  replace S:St A N w w165 [oS zk 5 Term.C s167 ([(⟨r137.kind,r137.name,r137.other,r137.form,s140⟩ : Term),(⟨r149.kind,r149.name,r149.other,r149.form,s152⟩ : Term),(⟨r161.kind,r161.name,r161.other,r161.form,s164⟩ : Term)]),oB b2 zk (Term.C (⟨0,ByteArray.empty,ByteArray.empty,0,SlV.nil⟩ : Term))] [bigA y2 [(⟨r137.kind,r137.name,r137.other,r137.form,s140⟩ : Term),(⟨r149.kind,r149.name,r149.other,r149.form,s152⟩ : Term),(⟨r161.kind,r161.name,r161.other,r161.form,s164⟩ : Term)] [r137,r149,r161],zf s164 r161.sub,zf s160 r157.sub,zf s156 r153.sub,zf s152 r149.sub,zf s148 r145.sub,zf s144 r141.sub,zf s140 r137.sub]:=S.consTm (x:=r137) 6
  replace S:St A N w w165 [oB b2 zk (Term.C (⟨0,ByteArray.empty,ByteArray.empty,0,SlV.nil⟩ : Term))] [zf s167 ([r137,r149,r161]),bigA y2 [(⟨r137.kind,r137.name,r137.other,r137.form,s140⟩ : Term),(⟨r149.kind,r149.name,r149.other,r149.form,s152⟩ : Term),(⟨r161.kind,r161.name,r161.other,r161.form,s164⟩ : Term)] [r137,r149,r161],zf s164 r161.sub,zf s160 r157.sub,zf s156 r153.sub,zf s152 r149.sub,zf s148 r145.sub,zf s144 r141.sub,zf s140 r137.sub]:=S.frzTm 0 0
  replace S:St A N w w165 [oB b2 zk (Term.C (⟨0,ByteArray.empty,ByteArray.empty,0,SlV.nil⟩ : Term))] [zf s167 ([r137,r149,r161]),zf s164 r161.sub,zf s160 r157.sub,zf s156 r153.sub,zf s152 r149.sub,zf s148 r145.sub,zf s144 r141.sub,zf s140 r137.sub]:=S.zs [0,2,3,4,5,6,7,8]
  refine wd (Does.to (v' := .agg (Term.C (⟨9,(⟨#[100]⟩ : ByteArray),(⟨#[101]⟩ : ByteArray),0,s167⟩ : Term)).toArray) (xo (vs:=[(0,.int .i64 9),(1,.string (⟨#[100]⟩ : ByteArray)),(2,.string (⟨#[101]⟩ : ByteArray)),(4,s167.v)]) y3 (xJ rfl (xJ rfl (xJ rfl (xJ rfl rfl)))) (Bld.one rfl rfl (by rw [Term.len]; decide) (Term.set_kind _ _) (Bld.one rfl rfl (by rw [Term.len]; decide) (Term.set_name _ _) (Bld.one rfl rfl (by rw [Term.len]; decide) (Term.set_other _ _) (Bld.one rfl (SlV.one _ _ rfl) (by rw [Term.len]; decide) (Term.set_sub _ _) Bld.nil))))) rfl) ?_
  obtain ⟨r168,er168,H⟩ := zt H
  obtain ⟨B170,MB170,SB170,back⟩ := S.sub [0] [] [oB b2 zk (Term.C (⟨0,ByteArray.empty,ByteArray.empty,0,SlV.nil⟩ : Term))]
  refine zu (zq yv) zbv (yz (a1:=(⟨9,(⟨#[100]⟩ : ByteArray),(⟨#[101]⟩ : ByteArray),0,[r137,r149,r161]⟩ : PTerm)) SB170 er168) ?_
  rintro _ w169 ⟨s171,rfl,S2⟩
  replace S:St A N w w169 [oB b2 zk (Term.C (⟨0,ByteArray.empty,ByteArray.empty,0,SlV.nil⟩ : Term))] [zf s171 r168.sub,zf s167 ([r137,r149,r161]),zf s164 r161.sub,zf s160 r157.sub,zf s156 r153.sub,zf s152 r149.sub,zf s148 r145.sub,zf s144 r141.sub,zf s140 r137.sub]:=back _ _ _ _ _ S2 rfl rfl
  clear back S2 SB170
  obtain ⟨r172,er172,H⟩ := zt H
  obtain ⟨B174,MB174,SB174,back⟩ := S.sub [0] [] [oB b2 zk (Term.C (⟨0,ByteArray.empty,ByteArray.empty,0,SlV.nil⟩ : Term))]
  refine zu (zq yv) zbv (yz (a1:=r168) SB174 er172) ?_
  rintro _ w173 ⟨s175,rfl,S2⟩
  replace S:St A N w w173 [oB b2 zk (Term.C (⟨0,ByteArray.empty,ByteArray.empty,0,SlV.nil⟩ : Term))] [zf s175 r172.sub,zf s171 r168.sub,zf s167 ([r137,r149,r161]),zf s164 r161.sub,zf s160 r157.sub,zf s156 r153.sub,zf s152 r149.sub,zf s148 r145.sub,zf s144 r141.sub,zf s140 r137.sub]:=back _ _ _ _ _ S2 rfl rfl
  clear back S2 SB174
  obtain ⟨r176,er176,H⟩ := zt H
  obtain ⟨B178,MB178,SB178,back⟩ := S.sub [0] [] [oB b2 zk (Term.C (⟨0,ByteArray.empty,ByteArray.empty,0,SlV.nil⟩ : Term))]
  refine zu (zq yv) zbv (yz (a1:=r172) SB178 er176) ?_
  rintro _ w177 ⟨s179,rfl,S2⟩
  replace S:St A N w w177 [oB b2 zk (Term.C (⟨0,ByteArray.empty,ByteArray.empty,0,SlV.nil⟩ : Term))] [zf s179 r176.sub,zf s175 r172.sub,zf s171 r168.sub,zf s167 ([r137,r149,r161]),zf s164 r161.sub,zf s160 r157.sub,zf s156 r153.sub,zf s152 r149.sub,zf s148 r145.sub,zf s144 r141.sub,zf s140 r137.sub]:=back _ _ _ _ _ S2 rfl rfl
  clear back S2 SB178
  refine zF zE rfl rfl (S.blk 0) (Term.len _) (by rw [Term.len]; decide) (Term.one _) (zV (Term.len _)) fun w180 B hw180 zw180=>?_
  replace S:St A N w w180 [oB b2 zk (Term.C (⟨r176.kind,r176.name,r176.other,r176.form,s179⟩ : Term))] [zf s179 r176.sub,zf s175 r172.sub,zf s171 r168.sub,zf s167 ([r137,r149,r161]),zf s164 r161.sub,zf s160 r157.sub,zf s156 r153.sub,zf s152 r149.sub,zf s148 r145.sub,zf s144 r141.sub,zf s140 r137.sub]:=S.store 0 B hw180
  clear B
  refine zb ?_
  refine zy ?_
  refine ⟨_,(zS (xl zE rfl ((S.blk 0).all _ (Term.len _)) (Term.len _))),?_⟩
  replace S:St A N w w180 [] [zf s179 r176.sub]:=S.arr [] [0]
  obtain rfl:=zbz H
  exact ⟨s179,rfl,S⟩
 replace H:=if_f hc136 H
 refine zA ?_
 refine zd (za ?_)
 obtain ⟨r181,er181,H⟩ := zt H
 obtain ⟨B183,MB183,SB183,back⟩ := S.sub [] [] [oB b2 zk (Term.C (⟨0,ByteArray.empty,ByteArray.empty,0,SlV.nil⟩ : Term))]
 refine zu (zq yh) zbv (yi SB183 er181) ?_
 rintro _ w182 ⟨s184,rfl,S2⟩
 replace S:St A N w w182 [oB b2 zk (Term.C (⟨0,ByteArray.empty,ByteArray.empty,0,SlV.nil⟩ : Term))] [zf s184 r181.sub]:=back _ _ _ _ _ S2 rfl rfl
 clear back S2 SB183
 obtain ⟨r185,er185,H⟩ := zt H
 obtain ⟨B187,MB187,SB187,back⟩ := S.sub [0] [] [oB b2 zk (Term.C (⟨0,ByteArray.empty,ByteArray.empty,0,SlV.nil⟩ : Term))]
 refine zu (zq j2) zbv (kh (a1:=r181) SB187 er185) ?_
 rintro _ w186 ⟨s188,rfl,S2⟩
 replace S:St A N w w186 [oB b2 zk (Term.C (⟨0,ByteArray.empty,ByteArray.empty,0,SlV.nil⟩ : Term))] [zf s188 r185.sub,zf s184 r181.sub]:=back _ _ _ _ _ S2 rfl rfl
 clear back S2 SB187
 obtain ⟨r189,er189,H⟩ := zt H
 obtain ⟨B191,MB191,SB191,back⟩ := S.sub [0] [] [oB b2 zk (Term.C (⟨0,ByteArray.empty,ByteArray.empty,0,SlV.nil⟩ : Term))]
 refine zu (zq yv) zbv (yz (a1:=r185) SB191 er189) ?_
 rintro _ w190 ⟨s192,rfl,S2⟩
 replace S:St A N w w190 [oB b2 zk (Term.C (⟨0,ByteArray.empty,ByteArray.empty,0,SlV.nil⟩ : Term))] [zf s192 r189.sub,zf s188 r185.sub,zf s184 r181.sub]:=back _ _ _ _ _ S2 rfl rfl
 clear back S2 SB191
 refine zF zE rfl rfl (S.blk 0) (Term.len _) (by rw [Term.len]; decide) (Term.one _) (zV (Term.len _)) fun w193 B hw193 zw193=>?_
 replace S:St A N w w193 [oB b2 zk (Term.C (⟨r189.kind,r189.name,r189.other,r189.form,s192⟩ : Term))] [zf s192 r189.sub,zf s188 r185.sub,zf s184 r181.sub]:=S.store 0 B hw193
 clear B
 refine zb ?_
 refine zy ?_
 refine ⟨_,(zS (xl zE rfl ((S.blk 0).all _ (Term.len _)) (Term.len _))),?_⟩
 replace S:St A N w w193 [] [zf s192 r189.sub]:=S.arr [] [0]
 obtain rfl:=zbz H
 exact ⟨s192,rfl,S⟩
theorem ref16_Term_st {a0:Tb} {a_0:Option Addr} {a1:List Int} {s_1:SlV} {a2:List Ln} {s_2:SlV} (S:St A N w w [oR a_0 a0] [fS 1 IC s_1 a1,fS 4 Ln.C s_2 a2]) {k:Nat} {r:Tb × PTerm × Int} (H:zdE.f k a0 a1 a2=some r) :
  Calls PP F_ref16_Term #[.pointer a_0,s_1.v,s_2.v] w fun e w' => ∃ v,e = .returned v∧(∃ so0:SlV,v = .tuple #[.agg (Term.C (⟨r.2.1.kind,r.2.1.name,r.2.1.other,r.2.1.form,so0⟩ : Term)).toArray,.int .i64 r.2.2]∧St A N w w' [oR a_0 r.1] [zf so0 r.2.1.sub]):=by
 unfold zdE.f at H
 refine zz (n:=83) fn_ref16_Term rfl rfl zbx ?_
 refine zd (za ?_)
 refine xa y6 zbv fun b2 w1 hw1=>?_
 replace S:St A N w w1 [oB b2 zk (Term.C (⟨0,ByteArray.empty,ByteArray.empty,0,SlV.nil⟩ : Term)),oR a_0 a0] [fS 1 IC s_1 a1,fS 4 Ln.C s_2 a2]:=S.new hw1
 refine wd (zi rfl) ?_
 refine zb ?_
 refine zd (za ?_)
 refine wd (zo rfl) ?_
 refine wd (zC rfl) ?_
 refine wd (zC rfl) ?_
 obtain ⟨r3,er3,H⟩ := zt H
 obtain ⟨B5,MB5,SB5,back⟩ := S.calln 0 ((.o 1 rfl (.z 0 rfl (.z 1 rfl .nil))))
 refine zu (zq ca_ref16_Check) zbv (ref16_Check_st SB5 er3) ?_
 rintro _ w4 ⟨rfl,S2⟩
 replace S:St A N w w4 [oB b2 zk (Term.C (⟨0,ByteArray.empty,ByteArray.empty,0,SlV.nil⟩ : Term)),oR a_0 a0] [fS 1 IC s_1 a1,fS 4 Ln.C s_2 a2]:=back _ _ _ _ S2 rfl
 clear back S2 SB5
 refine wd (zi rfl) ?_
 refine zb ?_
 refine zd (zd (za ?_))
 refine wd (zh rfl) ?_
 refine wd (xj rfl rfl) ?_
 refine zb ?_
 refine zH rfl (fun hc6=>?_) (fun hc6=>?_)
 ·replace H:=if_t hc6 H
  refine zd (za ?_)
  refine wd (Does.to (v' := .agg (Term.C (⟨0,ByteArray.empty,ByteArray.empty,0,SlV.nil⟩ : Term)).toArray) (xo (vs:=[]) y3 rfl Bld.nil) rfl) ?_
  refine wd (zh rfl) ?_
  refine zF zE rfl rfl (S.blk 0) (Term.len _) (by rw [Term.len]; decide) (Term.one _) (zV (Term.len _)) fun w7 B hw7 zw7=>?_
  replace S:St A N w w7 [oB b2 zk (Term.C (⟨0,ByteArray.empty,ByteArray.empty,0,SlV.nil⟩ : Term)),oR a_0 a0] [fS 1 IC s_1 a1,fS 4 Ln.C s_2 a2]:=S.store 0 B hw7
  clear B
  refine wd (zi rfl) ?_
  refine zb ?_
  refine zy ?_
  replace S:St A N w w7 [oB b2 zk (Term.C (⟨0,ByteArray.empty,ByteArray.empty,0,SlV.nil⟩ : Term)),oR a_0 a0] [zf SlV.nil ([]),fS 1 IC s_1 a1,fS 4 Ln.C s_2 a2]:=S.nilTm
  refine ⟨_,(xx (xl zE rfl ((S.blk 0).all _ (Term.len _)) (Term.len _)) (zg rfl)),?_⟩
  replace S:St A N w w7 [oR a_0 a0] [zf SlV.nil ([])]:=S.arr [1] [0]
  obtain rfl:=zbz H
  exact ⟨SlV.nil,rfl,S⟩
 replace H:=if_f hc6 H
 refine zA ?_
 refine zd (zd (za ?_))
 refine wd (zC rfl) ?_
 refine wd (xd zY rfl (S.rd 1)) ?_
 refine wd (uM rfl rfl) ?_
 refine zb ?_
 refine zH rfl (fun hc8=>?_) (fun hc8=>?_)
 ·replace H:=if_t hc8 H
  refine zd (za ?_)
  refine wd (Does.to (v' := .agg (Term.C (⟨0,ByteArray.empty,ByteArray.empty,0,SlV.nil⟩ : Term)).toArray) (xo (vs:=[]) y3 rfl Bld.nil) rfl) ?_
  refine zF zE rfl rfl (S.blk 0) (Term.len _) (by rw [Term.len]; decide) (Term.one _) (zV (Term.len _)) fun w9 B hw9 zw9=>?_
  replace S:St A N w w9 [oB b2 zk (Term.C (⟨0,ByteArray.empty,ByteArray.empty,0,SlV.nil⟩ : Term)),oR a_0 a0] [fS 1 IC s_1 a1,fS 4 Ln.C s_2 a2]:=S.store 0 B hw9
  clear B
  refine wd (zi rfl) ?_
  refine zb ?_
  refine zy ?_
  replace S:St A N w w9 [oB b2 zk (Term.C (⟨0,ByteArray.empty,ByteArray.empty,0,SlV.nil⟩ : Term)),oR a_0 a0] [zf SlV.nil ([]),fS 1 IC s_1 a1,fS 4 Ln.C s_2 a2]:=S.nilTm
  refine ⟨_,(xx (xl zE rfl ((S.blk 0).all _ (Term.len _)) (Term.len _)) (zg rfl)),?_⟩
  replace S:St A N w w9 [oR a_0 a0] [zf SlV.nil ([])]:=S.arr [1] [0]
  obtain rfl:=zbz H
  exact ⟨SlV.nil,rfl,S⟩
 replace H:=if_f hc8 H
 refine zA ?_
 refine zd (za ?_)
 refine wd (zC rfl) ?_
 refine wd (xd zY rfl (S.rd 1)) ?_
 refine wd (ug rfl rfl) ?_
 obtain ⟨r10,er10,H⟩ := zt H
 obtain ⟨B12,MB12,SB12,back⟩ := S.calln 0 ((.nil))
 refine zu (zq j0) zbv (kf SB12 er10) ?_
 rintro _ w11 ⟨rfl,S2⟩
 replace S:St A N w w11 [oB b2 zk (Term.C (⟨0,ByteArray.empty,ByteArray.empty,0,SlV.nil⟩ : Term)),oR a_0 a0] [fS 1 IC s_1 a1,fS 4 Ln.C s_2 a2]:=back _ _ _ _ S2 rfl
 clear back S2 SB12
 obtain ⟨hs13,H⟩ := xm H
 refine wd (vX rfl rfl (of_decide_eq_true hs13)) ?_
 obtain ⟨r14,er14,H⟩ := zt H
 obtain ⟨B16,MB16,SB16,back⟩ := S.sub [] [] [oB b2 zk (Term.C (⟨0,ByteArray.empty,ByteArray.empty,0,SlV.nil⟩ : Term)),oR a_0 a0]
 refine zu (zq yh) zbv (yi SB16 er14) ?_
 rintro _ w15 ⟨s17,rfl,S2⟩
 replace S:St A N w w15 [oB b2 zk (Term.C (⟨0,ByteArray.empty,ByteArray.empty,0,SlV.nil⟩ : Term)),oR a_0 a0] [zf s17 r14.sub,fS 1 IC s_1 a1,fS 4 Ln.C s_2 a2]:=back _ _ _ _ _ S2 rfl rfl
 clear back S2 SB16
 refine xa y6 zbv fun b19 w18 hw18=>?_
 replace S:St A N w w18 [oB b19 zk (Term.C (⟨0,ByteArray.empty,ByteArray.empty,0,SlV.nil⟩ : Term)),oB b2 zk (Term.C (⟨0,ByteArray.empty,ByteArray.empty,0,SlV.nil⟩ : Term)),oR a_0 a0] [zf s17 r14.sub,fS 1 IC s_1 a1,fS 4 Ln.C s_2 a2]:=S.new hw18
 refine zF zE rfl rfl (S.blk 0) (Term.len _) (by rw [Term.len]; decide) (Term.one _) (zV (Term.len _)) fun w20 B hw20 zw20=>?_
 replace S:St A N w w20 [oB b19 zk (Term.C (⟨r14.kind,r14.name,r14.other,r14.form,s17⟩ : Term)),oB b2 zk (Term.C (⟨0,ByteArray.empty,ByteArray.empty,0,SlV.nil⟩ : Term)),oR a_0 a0] [zf s17 r14.sub,fS 1 IC s_1 a1,fS 4 Ln.C s_2 a2]:=S.store 0 B hw20
 clear B
 refine zb ?_
 refine zd (zd (za ?_))
 refine wd (zC rfl) ?_
 refine wd (xd zY rfl (S.rd 2)) ?_
 refine wd (ug rfl rfl) ?_
 refine wd (zi rfl) ?_
 refine zb ?_
 replace S:St A N w w20 [oB b19 zk (Term.C (⟨r14.kind,r14.name,r14.other,r14.form,s17⟩ : Term)),oB b2 zk (Term.C (⟨0,ByteArray.empty,ByteArray.empty,0,SlV.nil⟩ : Term)),oR a_0 a0] [zf SlV.nil ([]),zf s17 r14.sub,fS 1 IC s_1 a1,fS 4 Ln.C s_2 a2]:=S.nilTm
 obtain ⟨o21,e21,Ho21⟩ := zt H
 clear H
 refine xO [10,11,12,34,35,36,37,38,39,40,41,42,43,44,45,46,47,48,49,50,51,52,53,54,55,56,57,58,59,60,61,62,63,64,65,66,67,68,69,70,71,72,73,74,75,76,77] (fun fr W => ∃ s21:Int × PTerm,o21 = .inl s21 ∧ ∃ s22:SlV,fr 10 = .int .i64 s21.1∧St A N w W [oB b19 zk (Term.C (⟨s21.2.kind,s21.2.name,s21.2.other,s21.2.form,s22⟩ : Term)),oB b2 zk (Term.C (⟨0,ByteArray.empty,ByteArray.empty,0,SlV.nil⟩ : Term)),oR a_0 a0] [zf SlV.nil ([]),zf s22 s21.2.sub,fS 1 IC s_1 a1,fS 4 Ln.C s_2 a2]) ?_ ?_
 ·refine zO ?_
  refine xN (α:=Nat × (Int × PTerm)) [10,11,12,34,35,36,37,38,39,40,41,42,43,44,45,46,47,48,49,50,51,52,53,54,55,56,57,58,59,60,61,62,63,64,65,66,67,68,69,70,71,72,73,74,75,76,77] (fun x fr W=>iter (fun s=>zdE.b0 a2 k s.1 s.2) x.1 x.2=some o21 ∧ ∃ s23:SlV,fr 10 = .int .i64 (x.2.1)∧St A N w W [oB b19 zk (Term.C (⟨(x.2.2).kind,(x.2.2).name,(x.2.2).other,(x.2.2).form,s23⟩ : Term)),oB b2 zk (Term.C (⟨0,ByteArray.empty,ByteArray.empty,0,SlV.nil⟩ : Term)),oR a_0 a0] [zf SlV.nil ([]),zf s23 ((x.2.2).sub),fS 1 IC s_1 a1,fS 4 Ln.C s_2 a2]) (fun x=>x.1) (k,(IntKind.i64.wrap ((a2.length:Int) - 1),r14)) ⟨(by dsimp only; exact e21),s17,rfl,S⟩ ?_
  rintro ⟨m21,⟨x21_0,x21_1⟩⟩ g21 u21 ⟨e21,s24,q21_10,S⟩
  try dsimp only at e21
  try dsimp only at S
  try dsimp only at q21_10
  obtain ⟨m21,rfl⟩ : ∃ m,m21=m + 1:=⟨m21 - 1,by cases m21 with | zero=>cases e21 | succ m=>rfl⟩
  obtain ⟨q21,H,e21⟩ := iter_s e21
  unfold zdE.b0 at H
  try dsimp only at H
  refine zd (zd (za ?_))
  refine wd (zh q21_10) ?_
  refine wd (vm rfl rfl) ?_
  refine zb ?_
  refine zH rfl (fun hc25=>?_) (fun hc25=>?_)
  rotate_left
  ·replace H:=if_f hc25 H
   refine xZ ?_
   obtain rfl:=zbz H
   exact ⟨rfl,(((Dif.self _ _ _).upd rfl _).upd rfl _),(x21_0,x21_1),e21,s24,q21_10,S⟩
  replace H:=if_t hc25 H
  refine zA ?_
  refine zd ?_
  refine zO ?_
  refine zd (za ?_)
  refine wd (zC rfl) ?_
  refine wd (zh q21_10) ?_
  obtain ⟨hi26,H⟩ := xm H
  refine wd (zW zY rfl rfl (S.rd 3) (zI hi26).1 (zI hi26).2) ?_
  refine wd (zp jM rfl ((S.rd 3).at (xp Ln.z (zI hi26))) (Ln.len _)) ?_
  refine xa ze_Ln zbv fun b28 w27 hw27=>?_
  replace S:St A N w w27 [oB b28 T_Ln (Ln.C Ln.z),oB b19 zk (Term.C (⟨x21_1.kind,x21_1.name,x21_1.other,x21_1.form,s24⟩ : Term)),oB b2 zk (Term.C (⟨0,ByteArray.empty,ByteArray.empty,0,SlV.nil⟩ : Term)),oR a_0 a0] [zf SlV.nil ([]),zf s24 x21_1.sub,fS 1 IC s_1 a1,fS 4 Ln.C s_2 a2]:=S.new hw27
  refine zF jM rfl rfl (S.blk 0) (Ln.len _) (by rw [Ln.len]; decide) (Ln.one _) (zV (Ln.len _)) fun w29 B hw29 zw29=>?_
  replace S:St A N w w29 [oB b28 T_Ln (Ln.C (at_ Ln.z a2 x21_0)),oB b19 zk (Term.C (⟨x21_1.kind,x21_1.name,x21_1.other,x21_1.form,s24⟩ : Term)),oB b2 zk (Term.C (⟨0,ByteArray.empty,ByteArray.empty,0,SlV.nil⟩ : Term)),oR a_0 a0] [zf SlV.nil ([]),zf s24 x21_1.sub,fS 1 IC s_1 a1,fS 4 Ln.C s_2 a2]:=S.store 0 B hw29
  clear B
  refine zb ?_
  refine zd (za ?_)
  refine xa y6 zbv fun b31 w30 hw30=>?_
  replace S:St A N w w30 [oB b31 zk (Term.C (⟨0,ByteArray.empty,ByteArray.empty,0,SlV.nil⟩ : Term)),oB b28 T_Ln (Ln.C (at_ Ln.z a2 x21_0)),oB b19 zk (Term.C (⟨x21_1.kind,x21_1.name,x21_1.other,x21_1.form,s24⟩ : Term)),oB b2 zk (Term.C (⟨0,ByteArray.empty,ByteArray.empty,0,SlV.nil⟩ : Term)),oR a_0 a0] [zf SlV.nil ([]),zf s24 x21_1.sub,fS 1 IC s_1 a1,fS 4 Ln.C s_2 a2]:=S.new hw30
  refine zb ?_
  refine zd (zd (za ?_))
  refine wd (ze vt rfl (o':=0) rfl) ?_
  refine wd (zj x7 rfl ((S.blk 1).cell (Ln.get_kind _))) ?_
  refine zb ?_
  replace S:St A N w w30 [oB b31 zk (Term.C (⟨0,ByteArray.empty,ByteArray.empty,0,SlV.nil⟩ : Term)),oB b28 T_Ln (Ln.C (at_ Ln.z a2 x21_0)),oB b19 zk (Term.C (⟨x21_1.kind,x21_1.name,x21_1.other,x21_1.form,s24⟩ : Term)),oB b2 zk (Term.C (⟨0,ByteArray.empty,ByteArray.empty,0,SlV.nil⟩ : Term)),oR a_0 a0] [zf SlV.nil ([]),zf SlV.nil ([]),zf s24 x21_1.sub,fS 1 IC s_1 a1,fS 4 Ln.C s_2 a2]:=S.nilTm
  obtain ⟨o32,e32,Ho32⟩ := zt H
  replace H:=e32; clear e32
  refine xO [44,45,46,47,48,49,50,51,52,53,54,55,56,57,58,59,60,61,62,63,64,65,66,67,68,69,70] (fun fr W => ∃ s33:SlV,St A N w W [oB b31 zk (Term.C (⟨o32.kind,o32.name,o32.other,o32.form,s33⟩ : Term)),oB b28 T_Ln (Ln.C (at_ Ln.z a2 x21_0)),oB b19 zk (Term.C (⟨x21_1.kind,x21_1.name,x21_1.other,x21_1.form,s24⟩ : Term)),oB b2 zk (Term.C (⟨0,ByteArray.empty,ByteArray.empty,0,SlV.nil⟩ : Term)),oR a_0 a0] [zf s33 o32.sub,zf SlV.nil ([]),zf s24 x21_1.sub,fS 1 IC s_1 a1,fS 4 Ln.C s_2 a2]) ?_ ?_
  ·refine zO ?_
   refine zd (za ?_)
   refine wd (zL rfl rfl) ?_
   refine wd (zn rfl) ?_
   refine zb ?_
   refine zH rfl (fun hc34=>?_) (fun hc34=>?_)
   ·replace H:=if_t hc34 H
    refine za ?_
    refine wd (ze xX rfl (o':=1) rfl) ?_
    refine wd (zj zQ rfl ((S.blk 1).cell (Ln.get_form _))) ?_
    obtain ⟨r35,er35,H⟩ := zt H
    obtain ⟨B37,MB37,SB37,back⟩ := S.calln 0 ((.nil))
    refine zu (zq j0) zbv (kf SB37 er35) ?_
    rintro _ w36 ⟨rfl,S2⟩
    replace S:St A N w w36 [oB b31 zk (Term.C (⟨0,ByteArray.empty,ByteArray.empty,0,SlV.nil⟩ : Term)),oB b28 T_Ln (Ln.C (at_ Ln.z a2 x21_0)),oB b19 zk (Term.C (⟨x21_1.kind,x21_1.name,x21_1.other,x21_1.form,s24⟩ : Term)),oB b2 zk (Term.C (⟨0,ByteArray.empty,ByteArray.empty,0,SlV.nil⟩ : Term)),oR a_0 a0] [zf SlV.nil ([]),zf SlV.nil ([]),zf s24 x21_1.sub,fS 1 IC s_1 a1,fS 4 Ln.C s_2 a2]:=back _ _ _ _ S2 rfl
    clear back S2 SB37
    obtain ⟨hs38,H⟩ := xm H
    refine wd (vX rfl rfl (of_decide_eq_true hs38)) ?_
    obtain ⟨r39,er39,H⟩ := zt H
    obtain ⟨B41,MB41,SB41,back⟩ := S.sub [] [] [oB b31 zk (Term.C (⟨0,ByteArray.empty,ByteArray.empty,0,SlV.nil⟩ : Term)),oB b28 T_Ln (Ln.C (at_ Ln.z a2 x21_0)),oB b19 zk (Term.C (⟨x21_1.kind,x21_1.name,x21_1.other,x21_1.form,s24⟩ : Term)),oB b2 zk (Term.C (⟨0,ByteArray.empty,ByteArray.empty,0,SlV.nil⟩ : Term)),oR a_0 a0]
    refine zu (zq yh) zbv (yi SB41 er39) ?_
    rintro _ w40 ⟨s42,rfl,S2⟩
    replace S:St A N w w40 [oB b31 zk (Term.C (⟨0,ByteArray.empty,ByteArray.empty,0,SlV.nil⟩ : Term)),oB b28 T_Ln (Ln.C (at_ Ln.z a2 x21_0)),oB b19 zk (Term.C (⟨x21_1.kind,x21_1.name,x21_1.other,x21_1.form,s24⟩ : Term)),oB b2 zk (Term.C (⟨0,ByteArray.empty,ByteArray.empty,0,SlV.nil⟩ : Term)),oR a_0 a0] [zf s42 r39.sub,zf SlV.nil ([]),zf SlV.nil ([]),zf s24 x21_1.sub,fS 1 IC s_1 a1,fS 4 Ln.C s_2 a2]:=back _ _ _ _ _ S2 rfl rfl
    clear back S2 SB41
    refine zF zE rfl rfl (S.blk 0) (Term.len _) (by rw [Term.len]; decide) (Term.one _) (zV (Term.len _)) fun w43 B hw43 zw43=>?_
    replace S:St A N w w43 [oB b31 zk (Term.C (⟨r39.kind,r39.name,r39.other,r39.form,s42⟩ : Term)),oB b28 T_Ln (Ln.C (at_ Ln.z a2 x21_0)),oB b19 zk (Term.C (⟨x21_1.kind,x21_1.name,x21_1.other,x21_1.form,s24⟩ : Term)),oB b2 zk (Term.C (⟨0,ByteArray.empty,ByteArray.empty,0,SlV.nil⟩ : Term)),oR a_0 a0] [zf s42 r39.sub,zf SlV.nil ([]),zf SlV.nil ([]),zf s24 x21_1.sub,fS 1 IC s_1 a1,fS 4 Ln.C s_2 a2]:=S.store 0 B hw43
    clear B
    refine zb ?_
    replace S:St A N w w43 [oB b31 zk (Term.C (⟨r39.kind,r39.name,r39.other,r39.form,s42⟩ : Term)),oB b28 T_Ln (Ln.C (at_ Ln.z a2 x21_0)),oB b19 zk (Term.C (⟨x21_1.kind,x21_1.name,x21_1.other,x21_1.form,s24⟩ : Term)),oB b2 zk (Term.C (⟨0,ByteArray.empty,ByteArray.empty,0,SlV.nil⟩ : Term)),oR a_0 a0] [zf s42 r39.sub,zf SlV.nil ([]),zf s24 x21_1.sub,fS 1 IC s_1 a1,fS 4 Ln.C s_2 a2]:=S.arr [0,1,2,3,4] [0,2,3,4,5]
    obtain rfl:=zbz H
    exact ⟨rfl,((((((((Dif.refl _ _).upd rfl _).upd rfl _).upd rfl _).upd rfl _).upd rfl _).upd rfl _).upd rfl _),s42,S⟩
   ·replace H:=if_f hc34 H
    refine zd (za ?_)
    refine wd (zL rfl rfl) ?_
    refine wd (zn rfl) ?_
    refine zb ?_
    refine zH rfl (fun hc44=>?_) (fun hc44=>?_)
    ·replace H:=if_t hc44 H
     obtain ⟨r48,er48,H⟩ := zt H
     obtain ⟨hs51,H⟩ := xm H
     obtain ⟨r52,er52,H⟩ := zt H
     refine vw 7 ⟨fun _ _=>True,fun _ _ _=>True,fun i v _=>match i with
      | 0=>v=Value.pointer (some ⟨b28,2,none⟩)
      | 1=>v=Value.int .i64 ((at_ Ln.z a2 x21_0).a)
      | 2=>v=Value.string r48
      | 3=>v=Value.string ((⟨#[108]⟩ : ByteArray) ++ r48)
      | 5=>v=Value.pointer (some ⟨b28,3,none⟩)
      | 6=>v=Value.int .i64 ((at_ Ln.z a2 x21_0).b)
      | _=>True⟩ (fun L g v => ∃ Z56:List OA,(∀ z ∈ [zf SlV.nil ([]),zf SlV.nil ([]),zf s24 x21_1.sub,fS 1 IC s_1 a1,fS 4 Ln.C s_2 a2],z ∈ Z56)∧Made L g Z56 4 64 (fun (c:SlV)=>Value.agg (Term.C (⟨r52.kind,r52.name,r52.other,r52.form,c⟩ : Term)).toArray) (fun (c:SlV)=>[zf c r52.sub])∧St A N w v [oB b31 zk (Term.C (⟨0,ByteArray.empty,ByteArray.empty,0,SlV.nil⟩ : Term)),oB b28 T_Ln (Ln.C (at_ Ln.z a2 x21_0)),oB b19 zk (Term.C (⟨x21_1.kind,x21_1.name,x21_1.other,x21_1.form,s24⟩ : Term)),oB b2 zk (Term.C (⟨0,ByteArray.empty,ByteArray.empty,0,SlV.nil⟩ : Term)),oR a_0 a0] Z56) hmix zby (fun _ _ _ _ _ _ _ hv=>hv) (fun g=>⟨_,fun _ h=>h,Made.no,S.ext (Ext.drawn _)⟩) ⟨?_,?_,?_,?_,?_,?_,?_,trivial⟩ ?_
     ·rintro L g v hL hcl hclo ⟨Z56,hZ,hm4,S⟩ 
      refine wd (ze jf rfl (o':=2) rfl) ?_
      exact zb (ob4 trivial rfl ⟨_,hZ,hm4.keep rfl rfl tl0,S⟩)
     ·rintro L g v hL hcl hclo ⟨Z56,hZ,hm4,S⟩ hv0
      refine wd (zj zQ hv0 ((S.blk 1).cell (Ln.get_a _))) ?_
      exact zb (ob4 trivial rfl ⟨_,hZ,hm4.keep rfl rfl tl0,S⟩)
     ·rintro L g v hL hcl hclo ⟨Z56,hZ,hm4,S⟩ hv1
      replace S:=S.zneed hZ
      replace S:St A N w v [oB b31 zk (Term.C (⟨0,ByteArray.empty,ByteArray.empty,0,SlV.nil⟩ : Term)),oB b28 T_Ln (Ln.C (at_ Ln.z a2 x21_0)),oB b19 zk (Term.C (⟨x21_1.kind,x21_1.name,x21_1.other,x21_1.form,s24⟩ : Term)),oB b2 zk (Term.C (⟨0,ByteArray.empty,ByteArray.empty,0,SlV.nil⟩ : Term)),oR a_0 a0] (zf SlV.nil ([]) :: zf SlV.nil ([]) :: zf s24 x21_1.sub :: fS 1 IC s_1 a1 :: fS 4 Ln.C s_2 a2 :: Z56):=S
      obtain ⟨B60,MB60,SB60,back⟩ := S.calln 0 ((.nil))
      refine zu (zN j0 (zT hv1 rfl)) zbv (kf SB60 er48) ?_
      rintro _ w59 ⟨rfl,S2⟩
      replace S:St A N w w59 [oB b31 zk (Term.C (⟨0,ByteArray.empty,ByteArray.empty,0,SlV.nil⟩ : Term)),oB b28 T_Ln (Ln.C (at_ Ln.z a2 x21_0)),oB b19 zk (Term.C (⟨x21_1.kind,x21_1.name,x21_1.other,x21_1.form,s24⟩ : Term)),oB b2 zk (Term.C (⟨0,ByteArray.empty,ByteArray.empty,0,SlV.nil⟩ : Term)),oR a_0 a0] (zf SlV.nil ([]) :: zf SlV.nil ([]) :: zf s24 x21_1.sub :: fS 1 IC s_1 a1 :: fS 4 Ln.C s_2 a2 :: Z56):=back _ _ _ _ S2 rfl
      clear back S2 SB60
      exact zb (ob4 trivial rfl ⟨_,(fun z h=>tl5 z (hZ z h)),hm4.keep rfl rfl tl5,S⟩)
     ·rintro L g v hL hcl hclo ⟨Z56,hZ,hm4,S⟩ hv2
      refine wd (vX rfl hv2 (of_decide_eq_true hs51)) ?_
      exact zb (ob4 trivial rfl ⟨_,hZ,hm4.keep rfl rfl tl0,S⟩)
     ·rintro L g v hL hcl hclo ⟨Z56,hZ,hm4,S⟩ hv3
      replace S:=S.zneed hZ
      replace S:St A N w v [oB b31 zk (Term.C (⟨0,ByteArray.empty,ByteArray.empty,0,SlV.nil⟩ : Term)),oB b28 T_Ln (Ln.C (at_ Ln.z a2 x21_0)),oB b19 zk (Term.C (⟨x21_1.kind,x21_1.name,x21_1.other,x21_1.form,s24⟩ : Term)),oB b2 zk (Term.C (⟨0,ByteArray.empty,ByteArray.empty,0,SlV.nil⟩ : Term)),oR a_0 a0] (zf SlV.nil ([]) :: zf SlV.nil ([]) :: zf s24 x21_1.sub :: fS 1 IC s_1 a1 :: fS 4 Ln.C s_2 a2 :: Z56):=S
      obtain ⟨B64,MB64,SB64,back⟩ := S.sub [] [] [oB b31 zk (Term.C (⟨0,ByteArray.empty,ByteArray.empty,0,SlV.nil⟩ : Term)),oB b28 T_Ln (Ln.C (at_ Ln.z a2 x21_0)),oB b19 zk (Term.C (⟨x21_1.kind,x21_1.name,x21_1.other,x21_1.form,s24⟩ : Term)),oB b2 zk (Term.C (⟨0,ByteArray.empty,ByteArray.empty,0,SlV.nil⟩ : Term)),oR a_0 a0]
      refine zu (zN yh (zT hv3 rfl)) zbv (yi SB64 er52) ?_
      rintro _ w63 ⟨s65,rfl,S2⟩
      replace S:St A N w w63 [oB b31 zk (Term.C (⟨0,ByteArray.empty,ByteArray.empty,0,SlV.nil⟩ : Term)),oB b28 T_Ln (Ln.C (at_ Ln.z a2 x21_0)),oB b19 zk (Term.C (⟨x21_1.kind,x21_1.name,x21_1.other,x21_1.form,s24⟩ : Term)),oB b2 zk (Term.C (⟨0,ByteArray.empty,ByteArray.empty,0,SlV.nil⟩ : Term)),oR a_0 a0] (zf s65 r52.sub :: zf SlV.nil ([]) :: zf SlV.nil ([]) :: zf s24 x21_1.sub :: fS 1 IC s_1 a1 :: fS 4 Ln.C s_2 a2 :: Z56):=back _ _ _ _ _ S2 rfl rfl
      clear back S2 SB64
      exact zb (ob4 trivial trivial ⟨_,(fun z h=>tl6 z (hZ z h)),Made.one (val:=(fun (c:SlV)=>Value.agg (Term.C (⟨r52.kind,r52.name,r52.other,r52.form,c⟩ : Term)).toArray)) (ps:=(fun (c:SlV)=>[zf c r52.sub])) s65 (vr List.mem_cons_self uk),S⟩)
     ·rintro L g v hL hcl hclo ⟨Z56,hZ,hm4,S⟩ 
      refine wd (ze uv rfl (o':=3) rfl) ?_
      exact zb (ob4 trivial rfl ⟨_,hZ,hm4.keep rfl rfl tl0,S⟩)
     ·rintro L g v hL hcl hclo ⟨Z56,hZ,hm4,S⟩ hv5
      refine wd (zj zQ hv5 ((S.blk 1).cell (Ln.get_b _))) ?_
      exact zb (ob4 trivial rfl ⟨_,hZ,hm4.keep rfl rfl tl0,S⟩)
     rintro L g w66 hLm ⟨Z56,hZ,hm4,S⟩ hv67_0 hv67_1 hv67_2 hv67_3 _ hv67_5 hv67_6
     have hLt : ∀ j,j < 7→L j=true:=fun j hj=>by rw [hLm]; exact decide_eq_true hj
     obtain ⟨s55,hv67_4,hp4⟩ := hm4 (hLt 4 zbv)
     replace S:St A N w w66 [oB b31 zk (Term.C (⟨0,ByteArray.empty,ByteArray.empty,0,SlV.nil⟩ : Term)),oB b28 T_Ln (Ln.C (at_ Ln.z a2 x21_0)),oB b19 zk (Term.C (⟨x21_1.kind,x21_1.name,x21_1.other,x21_1.form,s24⟩ : Term)),oB b2 zk (Term.C (⟨0,ByteArray.empty,ByteArray.empty,0,SlV.nil⟩ : Term)),oR a_0 a0] [zf s55 r52.sub,zf SlV.nil ([]),zf SlV.nil ([]),zf s24 x21_1.sub,fS 1 IC s_1 a1,fS 4 Ln.C s_2 a2]:=S.pickZ (yO (l1:=[zf s55 r52.sub]) hp4 hZ)
     clear hp4 hZ hm4
     obtain ⟨r68,er68,H⟩ := zt H
     obtain ⟨B70,MB70,SB70,back⟩ := S.calln 0 ((.nil))
     refine zu (zN j0 (zT hv67_6 rfl)) zbv (kf SB70 er68) ?_
     rintro _ w69 ⟨rfl,S2⟩
     replace S:St A N w w69 [oB b31 zk (Term.C (⟨0,ByteArray.empty,ByteArray.empty,0,SlV.nil⟩ : Term)),oB b28 T_Ln (Ln.C (at_ Ln.z a2 x21_0)),oB b19 zk (Term.C (⟨x21_1.kind,x21_1.name,x21_1.other,x21_1.form,s24⟩ : Term)),oB b2 zk (Term.C (⟨0,ByteArray.empty,ByteArray.empty,0,SlV.nil⟩ : Term)),oR a_0 a0] [zf s55 r52.sub,zf SlV.nil ([]),zf SlV.nil ([]),zf s24 x21_1.sub,fS 1 IC s_1 a1,fS 4 Ln.C s_2 a2]:=back _ _ _ _ S2 rfl
     clear back S2 SB70
     obtain ⟨hs71,H⟩ := xm H
     refine wd (vX rfl rfl (of_decide_eq_true hs71)) ?_
     obtain ⟨r72,er72,H⟩ := zt H
     obtain ⟨B74,MB74,SB74,back⟩ := S.sub [] [] [oB b31 zk (Term.C (⟨0,ByteArray.empty,ByteArray.empty,0,SlV.nil⟩ : Term)),oB b28 T_Ln (Ln.C (at_ Ln.z a2 x21_0)),oB b19 zk (Term.C (⟨x21_1.kind,x21_1.name,x21_1.other,x21_1.form,s24⟩ : Term)),oB b2 zk (Term.C (⟨0,ByteArray.empty,ByteArray.empty,0,SlV.nil⟩ : Term)),oR a_0 a0]
     refine zu (zq yh) zbv (yi SB74 er72) ?_
     rintro _ w73 ⟨s75,rfl,S2⟩
     replace S:St A N w w73 [oB b31 zk (Term.C (⟨0,ByteArray.empty,ByteArray.empty,0,SlV.nil⟩ : Term)),oB b28 T_Ln (Ln.C (at_ Ln.z a2 x21_0)),oB b19 zk (Term.C (⟨x21_1.kind,x21_1.name,x21_1.other,x21_1.form,s24⟩ : Term)),oB b2 zk (Term.C (⟨0,ByteArray.empty,ByteArray.empty,0,SlV.nil⟩ : Term)),oR a_0 a0] [zf s75 r72.sub,zf s55 r52.sub,zf SlV.nil ([]),zf SlV.nil ([]),zf s24 x21_1.sub,fS 1 IC s_1 a1,fS 4 Ln.C s_2 a2]:=back _ _ _ _ _ S2 rfl rfl
     clear back S2 SB74
     obtain ⟨r76,er76,H⟩ := zt H
     obtain ⟨B78,MB78,SB78,back⟩ := S.sub [1,0] [] [oB b31 zk (Term.C (⟨0,ByteArray.empty,ByteArray.empty,0,SlV.nil⟩ : Term)),oB b28 T_Ln (Ln.C (at_ Ln.z a2 x21_0)),oB b19 zk (Term.C (⟨x21_1.kind,x21_1.name,x21_1.other,x21_1.form,s24⟩ : Term)),oB b2 zk (Term.C (⟨0,ByteArray.empty,ByteArray.empty,0,SlV.nil⟩ : Term)),oR a_0 a0]
     refine zu (zN jd (zT hv67_4 (zT rfl rfl))) zbv (ji (a0:=r52) (a1:=r72) SB78 er76) ?_
     rintro _ w77 ⟨s79,rfl,S2⟩
     replace S:St A N w w77 [oB b31 zk (Term.C (⟨0,ByteArray.empty,ByteArray.empty,0,SlV.nil⟩ : Term)),oB b28 T_Ln (Ln.C (at_ Ln.z a2 x21_0)),oB b19 zk (Term.C (⟨x21_1.kind,x21_1.name,x21_1.other,x21_1.form,s24⟩ : Term)),oB b2 zk (Term.C (⟨0,ByteArray.empty,ByteArray.empty,0,SlV.nil⟩ : Term)),oR a_0 a0] [zf s79 r76.sub,zf s75 r72.sub,zf s55 r52.sub,zf SlV.nil ([]),zf SlV.nil ([]),zf s24 x21_1.sub,fS 1 IC s_1 a1,fS 4 Ln.C s_2 a2]:=back _ _ _ _ _ S2 rfl rfl
     clear back S2 SB78
     refine zF zE rfl rfl (S.blk 0) (Term.len _) (by rw [Term.len]; decide) (Term.one _) (zV (Term.len _)) fun w80 B hw80 zw80=>?_
     replace S:St A N w w80 [oB b31 zk (Term.C (⟨r76.kind,r76.name,r76.other,r76.form,s79⟩ : Term)),oB b28 T_Ln (Ln.C (at_ Ln.z a2 x21_0)),oB b19 zk (Term.C (⟨x21_1.kind,x21_1.name,x21_1.other,x21_1.form,s24⟩ : Term)),oB b2 zk (Term.C (⟨0,ByteArray.empty,ByteArray.empty,0,SlV.nil⟩ : Term)),oR a_0 a0] [zf s79 r76.sub,zf s75 r72.sub,zf s55 r52.sub,zf SlV.nil ([]),zf SlV.nil ([]),zf s24 x21_1.sub,fS 1 IC s_1 a1,fS 4 Ln.C s_2 a2]:=S.store 0 B hw80
     clear B
     refine zb ?_
     replace S:St A N w w80 [oB b31 zk (Term.C (⟨r76.kind,r76.name,r76.other,r76.form,s79⟩ : Term)),oB b28 T_Ln (Ln.C (at_ Ln.z a2 x21_0)),oB b19 zk (Term.C (⟨x21_1.kind,x21_1.name,x21_1.other,x21_1.form,s24⟩ : Term)),oB b2 zk (Term.C (⟨0,ByteArray.empty,ByteArray.empty,0,SlV.nil⟩ : Term)),oR a_0 a0] [zf s79 r76.sub,zf SlV.nil ([]),zf s24 x21_1.sub,fS 1 IC s_1 a1,fS 4 Ln.C s_2 a2]:=S.arr [0,1,2,3,4] [0,4,5,6,7]
     obtain rfl:=zbz H
     exact ⟨rfl,((((((((((Dif.refl _ _).upd rfl _).upd rfl _).upd rfl _).upd rfl _).mask rfl _).upd rfl _).upd rfl _).upd rfl _).upd rfl _),s79,S⟩
    ·replace H:=if_f hc44 H
     obtain ⟨r82,er82,H⟩ := zt H
     refine vw 6 ⟨fun _ _=>True,fun _ _ _=>True,fun i v _=>match i with
      | 0=>v=Value.pointer (some ⟨b28,1,none⟩)
      | 1=>v=Value.int .i64 ((at_ Ln.z a2 x21_0).form)
      | 2=>v=Value.pointer (some ⟨b28,0,none⟩)
      | 3=>v=Value.int .i64 ((at_ Ln.z a2 x21_0).kind)
      | _=>True⟩ (fun L g v => ∃ Z89:List OA,(∀ z ∈ [zf SlV.nil ([]),zf SlV.nil ([]),zf s24 x21_1.sub,fS 1 IC s_1 a1,fS 4 Ln.C s_2 a2],z ∈ Z89)∧Made L g Z89 4 48 (fun (c:SlV)=>Value.agg (Term.C (⟨r82.kind,r82.name,r82.other,r82.form,c⟩ : Term)).toArray) (fun (c:SlV)=>[zf c r82.sub])∧Made L g Z89 5 49 (fun (c:SlV)=>c.v) (fun (c:SlV)=>[zf c ([r82])])∧St A N w v [oB b31 zk (Term.C (⟨0,ByteArray.empty,ByteArray.empty,0,SlV.nil⟩ : Term)),oB b28 T_Ln (Ln.C (at_ Ln.z a2 x21_0)),oB b19 zk (Term.C (⟨x21_1.kind,x21_1.name,x21_1.other,x21_1.form,s24⟩ : Term)),oB b2 zk (Term.C (⟨0,ByteArray.empty,ByteArray.empty,0,SlV.nil⟩ : Term)),oR a_0 a0] Z89) hmix zby (fun _ _ _ _ _ _ _ hv=>hv) (fun g=>⟨_,fun _ h=>h,Made.no,Made.no,S.ext (Ext.drawn _)⟩) ⟨?_,?_,?_,?_,?_,?_,trivial⟩ ?_
     ·rintro L g v hL hcl hclo ⟨Z89,hZ,hm4,hm5,S⟩ 
      refine wd (ze xX rfl (o':=1) rfl) ?_
      exact zb (ob4 trivial rfl ⟨_,hZ,hm4.keep rfl rfl tl0,hm5.keep rfl rfl tl0,S⟩)
     ·rintro L g v hL hcl hclo ⟨Z89,hZ,hm4,hm5,S⟩ hv0
      refine wd (zj zQ hv0 ((S.blk 1).cell (Ln.get_form _))) ?_
      exact zb (ob4 trivial rfl ⟨_,hZ,hm4.keep rfl rfl tl0,hm5.keep rfl rfl tl0,S⟩)
     ·rintro L g v hL hcl hclo ⟨Z89,hZ,hm4,hm5,S⟩ 
      refine wd (ze vt rfl (o':=0) rfl) ?_
      exact zb (ob4 trivial rfl ⟨_,hZ,hm4.keep rfl rfl tl0,hm5.keep rfl rfl tl0,S⟩)
     ·rintro L g v hL hcl hclo ⟨Z89,hZ,hm4,hm5,S⟩ hv2
      refine wd (zj x7 hv2 ((S.blk 1).cell (Ln.get_kind _))) ?_
      exact zb (ob4 trivial rfl ⟨_,hZ,hm4.keep rfl rfl tl0,hm5.keep rfl rfl tl0,S⟩)
     ·rintro L g v hL hcl hclo ⟨Z89,hZ,hm4,hm5,S⟩ hv3
      replace S:=S.zneed hZ
      replace S:St A N w v [oB b31 zk (Term.C (⟨0,ByteArray.empty,ByteArray.empty,0,SlV.nil⟩ : Term)),oB b28 T_Ln (Ln.C (at_ Ln.z a2 x21_0)),oB b19 zk (Term.C (⟨x21_1.kind,x21_1.name,x21_1.other,x21_1.form,s24⟩ : Term)),oB b2 zk (Term.C (⟨0,ByteArray.empty,ByteArray.empty,0,SlV.nil⟩ : Term)),oR a_0 a0] (zf SlV.nil ([]) :: zf SlV.nil ([]) :: zf s24 x21_1.sub :: fS 1 IC s_1 a1 :: fS 4 Ln.C s_2 a2 :: Z89):=S
      obtain ⟨B93,MB93,SB93,back⟩ := S.sub [] [] [oB b31 zk (Term.C (⟨0,ByteArray.empty,ByteArray.empty,0,SlV.nil⟩ : Term)),oB b28 T_Ln (Ln.C (at_ Ln.z a2 x21_0)),oB b19 zk (Term.C (⟨x21_1.kind,x21_1.name,x21_1.other,x21_1.form,s24⟩ : Term)),oB b2 zk (Term.C (⟨0,ByteArray.empty,ByteArray.empty,0,SlV.nil⟩ : Term)),oR a_0 a0]
      refine zu (zN ca_ref16_axiom (zT hv3 rfl)) zbv (ref16_axiom_st SB93 er82) ?_
      rintro _ w92 ⟨s94,rfl,S2⟩
      replace S:St A N w w92 [oB b31 zk (Term.C (⟨0,ByteArray.empty,ByteArray.empty,0,SlV.nil⟩ : Term)),oB b28 T_Ln (Ln.C (at_ Ln.z a2 x21_0)),oB b19 zk (Term.C (⟨x21_1.kind,x21_1.name,x21_1.other,x21_1.form,s24⟩ : Term)),oB b2 zk (Term.C (⟨0,ByteArray.empty,ByteArray.empty,0,SlV.nil⟩ : Term)),oR a_0 a0] (zf s94 r82.sub :: zf SlV.nil ([]) :: zf SlV.nil ([]) :: zf s24 x21_1.sub :: fS 1 IC s_1 a1 :: fS 4 Ln.C s_2 a2 :: Z89):=back _ _ _ _ _ S2 rfl rfl
      clear back S2 SB93
      exact zb (ob4 trivial trivial ⟨_,(fun z h=>tl6 z (hZ z h)),Made.one (val:=(fun (c:SlV)=>Value.agg (Term.C (⟨r82.kind,r82.name,r82.other,r82.form,c⟩ : Term)).toArray)) (ps:=(fun (c:SlV)=>[zf c r82.sub])) s94 (vr List.mem_cons_self uk),hm5.keep rfl rfl tl6,S⟩)
     ·rintro L g v hL hcl hclo ⟨Z89,hZ,hm4,hm5,S⟩ _
      obtain ⟨s85,he4,hp4⟩ := hm4 (hcl 4 zby)
      replace S:=S.zneed (yO (l1:=[zf s85 r82.sub]) hp4 hZ)
      replace S:St A N w v [oB b31 zk (Term.C (⟨0,ByteArray.empty,ByteArray.empty,0,SlV.nil⟩ : Term)),oB b28 T_Ln (Ln.C (at_ Ln.z a2 x21_0)),oB b19 zk (Term.C (⟨x21_1.kind,x21_1.name,x21_1.other,x21_1.form,s24⟩ : Term)),oB b2 zk (Term.C (⟨0,ByteArray.empty,ByteArray.empty,0,SlV.nil⟩ : Term)),oR a_0 a0] (zf s85 r82.sub :: zf SlV.nil ([]) :: zf SlV.nil ([]) :: zf s24 x21_1.sub :: fS 1 IC s_1 a1 :: fS 4 Ln.C s_2 a2 :: Z89):=S
      refine xy (C:=Term.C) (l:=[(⟨r82.kind,r82.name,r82.other,r82.form,s85⟩ : Term)]) (vs:=[.agg (Term.C (⟨r82.kind,r82.name,r82.other,r82.form,s85⟩ : Term)).toArray]) zR yW.zero (xJ he4 rfl) rfl (fun a _=>Term.len a) zbv rfl zbv fun b96 w95 s97 hBw95 hw95=>?_
      replace S:St A N w w95 [oS zk 5 Term.C s97 ([(⟨r82.kind,r82.name,r82.other,r82.form,s85⟩ : Term)]),oB b31 zk (Term.C (⟨0,ByteArray.empty,ByteArray.empty,0,SlV.nil⟩ : Term)),oB b28 T_Ln (Ln.C (at_ Ln.z a2 x21_0)),oB b19 zk (Term.C (⟨x21_1.kind,x21_1.name,x21_1.other,x21_1.form,s24⟩ : Term)),oB b2 zk (Term.C (⟨0,ByteArray.empty,ByteArray.empty,0,SlV.nil⟩ : Term)),oR a_0 a0] (zf s85 r82.sub :: zf SlV.nil ([]) :: zf SlV.nil ([]) :: zf s24 x21_1.sub :: fS 1 IC s_1 a1 :: fS 4 Ln.C s_2 a2 :: Z89):=S.lit hBw95 hw95 zbx
      replace S:St A N w w95 [oS zk 5 Term.C s97 ([(⟨r82.kind,r82.name,r82.other,r82.form,s85⟩ : Term)]),oB b31 zk (Term.C (⟨0,ByteArray.empty,ByteArray.empty,0,SlV.nil⟩ : Term)),oB b28 T_Ln (Ln.C (at_ Ln.z a2 x21_0)),oB b19 zk (Term.C (⟨x21_1.kind,x21_1.name,x21_1.other,x21_1.form,s24⟩ : Term)),oB b2 zk (Term.C (⟨0,ByteArray.empty,ByteArray.empty,0,SlV.nil⟩ : Term)),oR a_0 a0] (bigA y2 ([]:List Term) ([]:List PTerm) :: zf s85 r82.sub :: zf SlV.nil ([]) :: zf SlV.nil ([]) :: zf s24 x21_1.sub :: fS 1 IC s_1 a1 :: fS 4 Ln.C s_2 a2 :: Z89):=S.bigTm
      replace S:St A N w w95 [oS zk 5 Term.C s97 ([(⟨r82.kind,r82.name,r82.other,r82.form,s85⟩ : Term)]),oB b31 zk (Term.C (⟨0,ByteArray.empty,ByteArray.empty,0,SlV.nil⟩ : Term)),oB b28 T_Ln (Ln.C (at_ Ln.z a2 x21_0)),oB b19 zk (Term.C (⟨x21_1.kind,x21_1.name,x21_1.other,x21_1.form,s24⟩ : Term)),oB b2 zk (Term.C (⟨0,ByteArray.empty,ByteArray.empty,0,SlV.nil⟩ : Term)),oR a_0 a0] (bigA y2 [(⟨r82.kind,r82.name,r82.other,r82.form,s85⟩ : Term)] [r82] :: zf s85 r82.sub :: zf SlV.nil ([]) :: zf SlV.nil ([]) :: zf s24 x21_1.sub :: fS 1 IC s_1 a1 :: fS 4 Ln.C s_2 a2 :: Z89):=S.consTm (x:=r82) 0
      replace S:St A N w w95 [oB b31 zk (Term.C (⟨0,ByteArray.empty,ByteArray.empty,0,SlV.nil⟩ : Term)),oB b28 T_Ln (Ln.C (at_ Ln.z a2 x21_0)),oB b19 zk (Term.C (⟨x21_1.kind,x21_1.name,x21_1.other,x21_1.form,s24⟩ : Term)),oB b2 zk (Term.C (⟨0,ByteArray.empty,ByteArray.empty,0,SlV.nil⟩ : Term)),oR a_0 a0] (zf s97 ([r82]) :: bigA y2 [(⟨r82.kind,r82.name,r82.other,r82.form,s85⟩ : Term)] [r82] :: zf s85 r82.sub :: zf SlV.nil ([]) :: zf SlV.nil ([]) :: zf s24 x21_1.sub :: fS 1 IC s_1 a1 :: fS 4 Ln.C s_2 a2 :: Z89):=S.frzTm 0 0
      exact zb (ob4 trivial trivial ⟨_,(fun z h=>tl8 z (hZ z h)),hm4.keep rfl rfl tl8,Made.one (val:=(fun (c:SlV)=>c.v)) (ps:=(fun (c:SlV)=>[zf c ([r82])])) s97 (vr List.mem_cons_self uk),S⟩)
     rintro L g w98 hLm ⟨Z89,hZ,hm4,hm5,S⟩ hv99_0 hv99_1 hv99_2 hv99_3 _ _
     have hLt : ∀ j,j < 6→L j=true:=fun j hj=>by rw [hLm]; exact decide_eq_true hj
     obtain ⟨s85,hv99_4,hp4⟩ := hm4 (hLt 4 zbv)
     obtain ⟨s88,hv99_5,hp5⟩ := hm5 (hLt 5 zbv)
     replace S:St A N w w98 [oB b31 zk (Term.C (⟨0,ByteArray.empty,ByteArray.empty,0,SlV.nil⟩ : Term)),oB b28 T_Ln (Ln.C (at_ Ln.z a2 x21_0)),oB b19 zk (Term.C (⟨x21_1.kind,x21_1.name,x21_1.other,x21_1.form,s24⟩ : Term)),oB b2 zk (Term.C (⟨0,ByteArray.empty,ByteArray.empty,0,SlV.nil⟩ : Term)),oR a_0 a0] [zf s85 r82.sub,zf s88 ([r82]),zf SlV.nil ([]),zf SlV.nil ([]),zf s24 x21_1.sub,fS 1 IC s_1 a1,fS 4 Ln.C s_2 a2]:=S.pickZ (yO (l1:=[zf s85 r82.sub]) hp4 (yO (l1:=[zf s88 ([r82])]) hp5 hZ))
     clear hp4 hp5 hZ hm4 hm5
     refine wd (Does.to (v' := .agg (Term.C (⟨11,ByteArray.empty,ByteArray.empty,(at_ Ln.z a2 x21_0).form,s88⟩ : Term)).toArray) (xo (vs:=[(0,.int .i64 11),(3,.int .i64 ((at_ Ln.z a2 x21_0).form)),(4,s88.v)]) y3 (xJ rfl (xJ hv99_1 (xJ hv99_5 rfl))) (Bld.one rfl rfl (by rw [Term.len]; decide) (Term.set_kind _ _) (Bld.one rfl rfl (by rw [Term.len]; decide) (Term.set_form _ _) (Bld.one rfl (SlV.one _ _ rfl) (by rw [Term.len]; decide) (Term.set_sub _ _) Bld.nil)))) rfl) ?_
     refine zF zE rfl rfl (S.blk 0) (Term.len _) (by rw [Term.len]; decide) (Term.one _) (zV (Term.len _)) fun w100 B hw100 zw100=>?_
     replace S:St A N w w100 [oB b31 zk (Term.C (⟨11,ByteArray.empty,ByteArray.empty,(at_ Ln.z a2 x21_0).form,s88⟩ : Term)),oB b28 T_Ln (Ln.C (at_ Ln.z a2 x21_0)),oB b19 zk (Term.C (⟨x21_1.kind,x21_1.name,x21_1.other,x21_1.form,s24⟩ : Term)),oB b2 zk (Term.C (⟨0,ByteArray.empty,ByteArray.empty,0,SlV.nil⟩ : Term)),oR a_0 a0] [zf s85 r82.sub,zf s88 ([r82]),zf SlV.nil ([]),zf SlV.nil ([]),zf s24 x21_1.sub,fS 1 IC s_1 a1,fS 4 Ln.C s_2 a2]:=S.store 0 B hw100
     clear B
     refine zb ?_
     replace S:St A N w w100 [oB b31 zk (Term.C (⟨11,ByteArray.empty,ByteArray.empty,(at_ Ln.z a2 x21_0).form,s88⟩ : Term)),oB b28 T_Ln (Ln.C (at_ Ln.z a2 x21_0)),oB b19 zk (Term.C (⟨x21_1.kind,x21_1.name,x21_1.other,x21_1.form,s24⟩ : Term)),oB b2 zk (Term.C (⟨0,ByteArray.empty,ByteArray.empty,0,SlV.nil⟩ : Term)),oR a_0 a0] [zf s88 ([r82]),zf SlV.nil ([]),zf s24 x21_1.sub,fS 1 IC s_1 a1,fS 4 Ln.C s_2 a2]:=S.arr [0,1,2,3,4] [1,3,4,5,6]
     obtain rfl:=zbz H
     exact ⟨rfl,(((((((Dif.refl _ _).upd rfl _).upd rfl _).upd rfl _).upd rfl _).mask rfl _).upd rfl _),s88,S⟩
  rintro g101 u102 ⟨s33,S⟩
  have H:=Ho32
  obtain ⟨r105,er105,H⟩ := zt H
  obtain ⟨hs108,H⟩ := xm H
  refine vw 6 ⟨fun _ _=>True,fun _ _ _=>True,fun i v _=>match i with
   | 0=>v=Value.int .i64 x21_0
   | 1=>v=Value.string r105
   | 2=>v=Value.string ((⟨#[108]⟩ : ByteArray) ++ r105)
   | 3=>v=Value.agg (Term.C (⟨o32.kind,o32.name,o32.other,o32.form,s33⟩ : Term)).toArray
   | 4=>v=Value.agg (Term.C (⟨x21_1.kind,x21_1.name,x21_1.other,x21_1.form,s24⟩ : Term)).toArray
   | _=>True⟩ (fun L g v => ∃ Z112:List OA,(∀ z ∈ [zf s33 o32.sub,zf SlV.nil ([]),zf s24 x21_1.sub,fS 1 IC s_1 a1,fS 4 Ln.C s_2 a2],z ∈ Z112)∧Made L g Z112 5 76 (fun (c:SlV)=>c.v) (fun (c:SlV)=>[zf c ([o32,x21_1])])∧St A N w v [oB b31 zk (Term.C (⟨o32.kind,o32.name,o32.other,o32.form,s33⟩ : Term)),oB b28 T_Ln (Ln.C (at_ Ln.z a2 x21_0)),oB b19 zk (Term.C (⟨x21_1.kind,x21_1.name,x21_1.other,x21_1.form,s24⟩ : Term)),oB b2 zk (Term.C (⟨0,ByteArray.empty,ByteArray.empty,0,SlV.nil⟩ : Term)),oR a_0 a0] Z112) hmix zby (fun _ _ _ _ _ _ _ hv=>hv) (fun g=>⟨_,fun _ h=>h,Made.no,S.ext (Ext.drawn _)⟩) ⟨?_,?_,?_,?_,?_,?_,trivial⟩ ?_
  ·rintro L g v hL hcl hclo ⟨Z112,hZ,hm5,S⟩ 
   refine wd (zh q21_10) ?_
   exact zb (ob4 trivial rfl ⟨_,hZ,hm5.keep rfl rfl tl0,S⟩)
  ·rintro L g v hL hcl hclo ⟨Z112,hZ,hm5,S⟩ hv0
   replace S:=S.zneed hZ
   replace S:St A N w v [oB b31 zk (Term.C (⟨o32.kind,o32.name,o32.other,o32.form,s33⟩ : Term)),oB b28 T_Ln (Ln.C (at_ Ln.z a2 x21_0)),oB b19 zk (Term.C (⟨x21_1.kind,x21_1.name,x21_1.other,x21_1.form,s24⟩ : Term)),oB b2 zk (Term.C (⟨0,ByteArray.empty,ByteArray.empty,0,SlV.nil⟩ : Term)),oR a_0 a0] (zf s33 o32.sub :: zf SlV.nil ([]) :: zf s24 x21_1.sub :: fS 1 IC s_1 a1 :: fS 4 Ln.C s_2 a2 :: Z112):=S
   obtain ⟨B116,MB116,SB116,back⟩ := S.calln 0 ((.nil))
   refine zu (zN j0 (zT hv0 rfl)) zbv (kf SB116 er105) ?_
   rintro _ w115 ⟨rfl,S2⟩
   replace S:St A N w w115 [oB b31 zk (Term.C (⟨o32.kind,o32.name,o32.other,o32.form,s33⟩ : Term)),oB b28 T_Ln (Ln.C (at_ Ln.z a2 x21_0)),oB b19 zk (Term.C (⟨x21_1.kind,x21_1.name,x21_1.other,x21_1.form,s24⟩ : Term)),oB b2 zk (Term.C (⟨0,ByteArray.empty,ByteArray.empty,0,SlV.nil⟩ : Term)),oR a_0 a0] (zf s33 o32.sub :: zf SlV.nil ([]) :: zf s24 x21_1.sub :: fS 1 IC s_1 a1 :: fS 4 Ln.C s_2 a2 :: Z112):=back _ _ _ _ S2 rfl
   clear back S2 SB116
   exact zb (ob4 trivial rfl ⟨_,(fun z h=>tl5 z (hZ z h)),hm5.keep rfl rfl tl5,S⟩)
  ·rintro L g v hL hcl hclo ⟨Z112,hZ,hm5,S⟩ hv1
   refine wd (vX rfl hv1 (of_decide_eq_true hs108)) ?_
   exact zb (ob4 trivial rfl ⟨_,hZ,hm5.keep rfl rfl tl0,S⟩)
  ·rintro L g v hL hcl hclo ⟨Z112,hZ,hm5,S⟩ 
   refine wd (zp zE rfl ((S.blk 0).all _ (Term.len _)) (Term.len _)) ?_
   exact zb (ob4 trivial rfl ⟨_,hZ,hm5.keep rfl rfl tl0,S⟩)
  ·rintro L g v hL hcl hclo ⟨Z112,hZ,hm5,S⟩ 
   refine wd (zp zE rfl ((S.blk 2).all _ (Term.len _)) (Term.len _)) ?_
   exact zb (ob4 trivial rfl ⟨_,hZ,hm5.keep rfl rfl tl0,S⟩)
  ·rintro L g v hL hcl hclo ⟨Z112,hZ,hm5,S⟩ hv3 hv4
   replace S:=S.zneed hZ
   replace S:St A N w v [oB b31 zk (Term.C (⟨o32.kind,o32.name,o32.other,o32.form,s33⟩ : Term)),oB b28 T_Ln (Ln.C (at_ Ln.z a2 x21_0)),oB b19 zk (Term.C (⟨x21_1.kind,x21_1.name,x21_1.other,x21_1.form,s24⟩ : Term)),oB b2 zk (Term.C (⟨0,ByteArray.empty,ByteArray.empty,0,SlV.nil⟩ : Term)),oR a_0 a0] (zf s33 o32.sub :: zf SlV.nil ([]) :: zf s24 x21_1.sub :: fS 1 IC s_1 a1 :: fS 4 Ln.C s_2 a2 :: Z112):=S
   refine xy (C:=Term.C) (l:=[(⟨o32.kind,o32.name,o32.other,o32.form,s33⟩ : Term),(⟨x21_1.kind,x21_1.name,x21_1.other,x21_1.form,s24⟩ : Term)]) (vs:=[.agg (Term.C (⟨o32.kind,o32.name,o32.other,o32.form,s33⟩ : Term)).toArray,.agg (Term.C (⟨x21_1.kind,x21_1.name,x21_1.other,x21_1.form,s24⟩ : Term)).toArray]) zR yW.zero (xJ hv3 (xJ hv4 rfl)) rfl (fun a _=>Term.len a) zbv rfl zbv fun b119 w118 s120 hBw118 hw118=>?_
   replace S:St A N w w118 [oS zk 5 Term.C s120 ([(⟨o32.kind,o32.name,o32.other,o32.form,s33⟩ : Term),(⟨x21_1.kind,x21_1.name,x21_1.other,x21_1.form,s24⟩ : Term)]),oB b31 zk (Term.C (⟨o32.kind,o32.name,o32.other,o32.form,s33⟩ : Term)),oB b28 T_Ln (Ln.C (at_ Ln.z a2 x21_0)),oB b19 zk (Term.C (⟨x21_1.kind,x21_1.name,x21_1.other,x21_1.form,s24⟩ : Term)),oB b2 zk (Term.C (⟨0,ByteArray.empty,ByteArray.empty,0,SlV.nil⟩ : Term)),oR a_0 a0] (zf s33 o32.sub :: zf SlV.nil ([]) :: zf s24 x21_1.sub :: fS 1 IC s_1 a1 :: fS 4 Ln.C s_2 a2 :: Z112):=S.lit hBw118 hw118 zbx
   replace S:St A N w w118 [oS zk 5 Term.C s120 ([(⟨o32.kind,o32.name,o32.other,o32.form,s33⟩ : Term),(⟨x21_1.kind,x21_1.name,x21_1.other,x21_1.form,s24⟩ : Term)]),oB b31 zk (Term.C (⟨o32.kind,o32.name,o32.other,o32.form,s33⟩ : Term)),oB b28 T_Ln (Ln.C (at_ Ln.z a2 x21_0)),oB b19 zk (Term.C (⟨x21_1.kind,x21_1.name,x21_1.other,x21_1.form,s24⟩ : Term)),oB b2 zk (Term.C (⟨0,ByteArray.empty,ByteArray.empty,0,SlV.nil⟩ : Term)),oR a_0 a0] (bigA y2 ([]:List Term) ([]:List PTerm) :: zf s33 o32.sub :: zf SlV.nil ([]) :: zf s24 x21_1.sub :: fS 1 IC s_1 a1 :: fS 4 Ln.C s_2 a2 :: Z112):=S.bigTm
   replace S:St A N w w118 [oS zk 5 Term.C s120 ([(⟨o32.kind,o32.name,o32.other,o32.form,s33⟩ : Term),(⟨x21_1.kind,x21_1.name,x21_1.other,x21_1.form,s24⟩ : Term)]),oB b31 zk (Term.C (⟨o32.kind,o32.name,o32.other,o32.form,s33⟩ : Term)),oB b28 T_Ln (Ln.C (at_ Ln.z a2 x21_0)),oB b19 zk (Term.C (⟨x21_1.kind,x21_1.name,x21_1.other,x21_1.form,s24⟩ : Term)),oB b2 zk (Term.C (⟨0,ByteArray.empty,ByteArray.empty,0,SlV.nil⟩ : Term)),oR a_0 a0] (bigA y2 [(⟨x21_1.kind,x21_1.name,x21_1.other,x21_1.form,s24⟩ : Term)] [x21_1] :: zf s33 o32.sub :: zf SlV.nil ([]) :: zf s24 x21_1.sub :: fS 1 IC s_1 a1 :: fS 4 Ln.C s_2 a2 :: Z112):=S.consTm (x:=x21_1) 2
   replace S:St A N w w118 [oS zk 5 Term.C s120 ([(⟨o32.kind,o32.name,o32.other,o32.form,s33⟩ : Term),(⟨x21_1.kind,x21_1.name,x21_1.other,x21_1.form,s24⟩ : Term)]),oB b31 zk (Term.C (⟨o32.kind,o32.name,o32.other,o32.form,s33⟩ : Term)),oB b28 T_Ln (Ln.C (at_ Ln.z a2 x21_0)),oB b19 zk (Term.C (⟨x21_1.kind,x21_1.name,x21_1.other,x21_1.form,s24⟩ : Term)),oB b2 zk (Term.C (⟨0,ByteArray.empty,ByteArray.empty,0,SlV.nil⟩ : Term)),oR a_0 a0] (bigA y2 [(⟨o32.kind,o32.name,o32.other,o32.form,s33⟩ : Term),(⟨x21_1.kind,x21_1.name,x21_1.other,x21_1.form,s24⟩ : Term)] [o32,x21_1] :: zf s33 o32.sub :: zf SlV.nil ([]) :: zf s24 x21_1.sub :: fS 1 IC s_1 a1 :: fS 4 Ln.C s_2 a2 :: Z112):=S.consTm (x:=o32) 0
   replace S:St A N w w118 [oB b31 zk (Term.C (⟨o32.kind,o32.name,o32.other,o32.form,s33⟩ : Term)),oB b28 T_Ln (Ln.C (at_ Ln.z a2 x21_0)),oB b19 zk (Term.C (⟨x21_1.kind,x21_1.name,x21_1.other,x21_1.form,s24⟩ : Term)),oB b2 zk (Term.C (⟨0,ByteArray.empty,ByteArray.empty,0,SlV.nil⟩ : Term)),oR a_0 a0] (zf s120 ([o32,x21_1]) :: bigA y2 [(⟨o32.kind,o32.name,o32.other,o32.form,s33⟩ : Term),(⟨x21_1.kind,x21_1.name,x21_1.other,x21_1.form,s24⟩ : Term)] [o32,x21_1] :: zf s33 o32.sub :: zf SlV.nil ([]) :: zf s24 x21_1.sub :: fS 1 IC s_1 a1 :: fS 4 Ln.C s_2 a2 :: Z112):=S.frzTm 0 0
   exact zb (ob4 trivial trivial ⟨_,(fun z h=>tl7 z (hZ z h)),Made.one (val:=(fun (c:SlV)=>c.v)) (ps:=(fun (c:SlV)=>[zf c ([o32,x21_1])])) s120 (vr List.mem_cons_self uk),S⟩)
  rintro L g w121 hLm ⟨Z112,hZ,hm5,S⟩ hv122_0 hv122_1 hv122_2 hv122_3 hv122_4 _
  have hLt : ∀ j,j < 6→L j=true:=fun j hj=>by rw [hLm]; exact decide_eq_true hj
  obtain ⟨s111,hv122_5,hp5⟩ := hm5 (hLt 5 zbv)
  replace S:St A N w w121 [oB b31 zk (Term.C (⟨o32.kind,o32.name,o32.other,o32.form,s33⟩ : Term)),oB b28 T_Ln (Ln.C (at_ Ln.z a2 x21_0)),oB b19 zk (Term.C (⟨x21_1.kind,x21_1.name,x21_1.other,x21_1.form,s24⟩ : Term)),oB b2 zk (Term.C (⟨0,ByteArray.empty,ByteArray.empty,0,SlV.nil⟩ : Term)),oR a_0 a0] [zf s111 ([o32,x21_1]),zf s33 o32.sub,zf SlV.nil ([]),zf s24 x21_1.sub,fS 1 IC s_1 a1,fS 4 Ln.C s_2 a2]:=S.pickZ (yO (l1:=[zf s111 ([o32,x21_1])]) hp5 hZ)
  clear hp5 hZ hm5
  refine wd (Does.to (v' := .agg (Term.C (⟨12,(⟨#[108]⟩ : ByteArray) ++ r105,ByteArray.empty,0,s111⟩ : Term)).toArray) (xo (vs:=[(0,.int .i64 12),(1,.string ((⟨#[108]⟩ : ByteArray) ++ r105)),(4,s111.v)]) y3 (xJ rfl (xJ hv122_2 (xJ hv122_5 rfl))) (Bld.one rfl rfl (by rw [Term.len]; decide) (Term.set_kind _ _) (Bld.one rfl rfl (by rw [Term.len]; decide) (Term.set_name _ _) (Bld.one rfl (SlV.one _ _ rfl) (by rw [Term.len]; decide) (Term.set_sub _ _) Bld.nil)))) rfl) ?_
  refine zF zE rfl rfl (S.blk 2) (Term.len _) (by rw [Term.len]; decide) (Term.one _) (zV (Term.len _)) fun w123 B hw123 zw123=>?_
  replace S:St A N w w123 [oB b19 zk (Term.C (⟨12,(⟨#[108]⟩ : ByteArray) ++ r105,ByteArray.empty,0,s111⟩ : Term)),oB b31 zk (Term.C (⟨o32.kind,o32.name,o32.other,o32.form,s33⟩ : Term)),oB b28 T_Ln (Ln.C (at_ Ln.z a2 x21_0)),oB b2 zk (Term.C (⟨0,ByteArray.empty,ByteArray.empty,0,SlV.nil⟩ : Term)),oR a_0 a0] [zf s111 ([o32,x21_1]),zf s33 o32.sub,zf SlV.nil ([]),zf s24 x21_1.sub,fS 1 IC s_1 a1,fS 4 Ln.C s_2 a2]:=S.store 2 B hw123
  clear B
  refine zb ?_
  refine za ?_
  refine wd (zh q21_10) ?_
  refine wd (ug rfl rfl) ?_
  refine wd (zi rfl) ?_
  refine zb ?_
  replace S:St A N w w123 [oB b19 zk (Term.C (⟨12,(⟨#[108]⟩ : ByteArray) ++ r105,ByteArray.empty,0,s111⟩ : Term)),oB b2 zk (Term.C (⟨0,ByteArray.empty,ByteArray.empty,0,SlV.nil⟩ : Term)),oR a_0 a0] [zf SlV.nil ([]),zf s111 ([o32,x21_1]),fS 1 IC s_1 a1,fS 4 Ln.C s_2 a2]:=S.arr [0,3,4] [2,0,4,5]
  obtain rfl:=zbz H
  exact ⟨rfl,(((((((((((((((((Dif.self _ _ _).upd rfl _).upd rfl _).upd rfl _).upd rfl _).upd rfl _).upd rfl _).upd rfl _).upd rfl _).upd rfl _).upd rfl _).mask rfl _).mask rfl _).upd rfl _).upd rfl _).upd rfl _).upd rfl _),(m21,(IntKind.i64.wrap (x21_0 - 1),(⟨12,(⟨#[108]⟩ : ByteArray) ++ r105,ByteArray.empty,0,[o32,x21_1]⟩ : PTerm))),⟨e21,s111,rfl,S⟩,by dsimp only; omega⟩
 rintro g124 u125 ⟨s21,rfl,s22,p21_10,S⟩
 have H:=Ho21
 dsimp only [aft] at H
 refine zd (zd (za ?_))
 refine wd (zp zE rfl ((S.blk 0).all _ (Term.len _)) (Term.len _)) ?_
 obtain ⟨r126,er126,H⟩ := zt H
 obtain ⟨B128,MB128,SB128,back⟩ := S.calln 0 ((.z 1 rfl .nil))
 refine zu (zq ca_ref12_Check) zbv (ref12_Check_st (a0:=s21.2) SB128 er126) ?_
 rintro _ w127 ⟨rfl,S2⟩
 replace S:St A N w w127 [oB b19 zk (Term.C (⟨s21.2.kind,s21.2.name,s21.2.other,s21.2.form,s22⟩ : Term)),oB b2 zk (Term.C (⟨0,ByteArray.empty,ByteArray.empty,0,SlV.nil⟩ : Term)),oR a_0 a0] [zf SlV.nil ([]),zf s22 s21.2.sub,fS 1 IC s_1 a1,fS 4 Ln.C s_2 a2]:=back _ _ _ _ S2 rfl
 clear back S2 SB128
 refine wd (xj rfl rfl) ?_
 refine zb ?_
 refine zH rfl (fun hc129=>?_) (fun hc129=>?_)
 ·replace H:=if_t hc129 H
  refine zd (za ?_)
  refine wd (Does.to (v' := .agg (Term.C (⟨0,ByteArray.empty,ByteArray.empty,0,SlV.nil⟩ : Term)).toArray) (xo (vs:=[]) y3 rfl Bld.nil) rfl) ?_
  refine zF zE rfl rfl (S.blk 1) (Term.len _) (by rw [Term.len]; decide) (Term.one _) (zV (Term.len _)) fun w130 B hw130 zw130=>?_
  replace S:St A N w w130 [oB b2 zk (Term.C (⟨0,ByteArray.empty,ByteArray.empty,0,SlV.nil⟩ : Term)),oB b19 zk (Term.C (⟨s21.2.kind,s21.2.name,s21.2.other,s21.2.form,s22⟩ : Term)),oR a_0 a0] [zf SlV.nil ([]),zf s22 s21.2.sub,fS 1 IC s_1 a1,fS 4 Ln.C s_2 a2]:=S.store 1 B hw130
  clear B
  refine wd (zi rfl) ?_
  refine zb ?_
  refine zy ?_
  replace S:St A N w w130 [oB b2 zk (Term.C (⟨0,ByteArray.empty,ByteArray.empty,0,SlV.nil⟩ : Term)),oB b19 zk (Term.C (⟨s21.2.kind,s21.2.name,s21.2.other,s21.2.form,s22⟩ : Term)),oR a_0 a0] [zf SlV.nil ([]),zf SlV.nil ([]),zf s22 s21.2.sub,fS 1 IC s_1 a1,fS 4 Ln.C s_2 a2]:=S.nilTm
  refine ⟨_,(xx (xl zE rfl ((S.blk 0).all _ (Term.len _)) (Term.len _)) (zg rfl)),?_⟩
  replace S:St A N w w130 [oR a_0 a0] [zf SlV.nil ([])]:=S.arr [2] [0]
  obtain rfl:=zbz H
  exact ⟨SlV.nil,rfl,S⟩
 replace H:=if_f hc129 H
 refine zA ?_
 refine zd (za ?_)
 refine wd (zp zE rfl ((S.blk 0).all _ (Term.len _)) (Term.len _)) ?_
 refine zF zE rfl rfl (S.blk 1) (Term.len _) (by rw [Term.len]; decide) (Term.one _) (zV (Term.len _)) fun w131 B hw131 zw131=>?_
 replace S:St A N w w131 [oB b2 zk (Term.C (⟨s21.2.kind,s21.2.name,s21.2.other,s21.2.form,s22⟩ : Term)),oB b19 zk (Term.C (⟨s21.2.kind,s21.2.name,s21.2.other,s21.2.form,s22⟩ : Term)),oR a_0 a0] [zf SlV.nil ([]),zf s22 s21.2.sub,fS 1 IC s_1 a1,fS 4 Ln.C s_2 a2]:=S.store 1 B hw131
 clear B
 refine wd (zi rfl) ?_
 refine zb ?_
 refine zy ?_
 refine ⟨_,(xx (xl zE rfl ((S.blk 0).all _ (Term.len _)) (Term.len _)) (zg rfl)),?_⟩
 replace S:St A N w w131 [oR a_0 a0] [zf s22 s21.2.sub]:=S.arr [2] [1]
 obtain rfl:=zbz H
 exact ⟨s22,rfl,S⟩
theorem law16_HilbertTerms_st {a0:List Nd} {s_0:SlV} {a1:List Int} {s_1:SlV} {a2:List Ln} {s_2:SlV} (S:St A N w w [] [fS 4 Nd.C s_0 a0,fS 1 IC s_1 a1,fS 4 Ln.C s_2 a2,oEt,oPw]) {k:Nat} {r:Bool} (H:zdF.f k a0 a1 a2=some r) :
  Calls PP yI #[s_0.v,s_1.v,s_2.v] w fun e w' => ∃ v,e = .returned v∧(v = .bool r∧St A N w w' [] []):=by
 unfold zdF.f at H
 refine zz (n:=51) vO rfl rfl zbx ?_
 refine zd (za ?_)
 refine wd (zn rfl) ?_
 refine zb ?_
 refine zd (za ?_)
 refine wd (zC rfl) ?_
 obtain ⟨r1,er1,H⟩ := zt H
 obtain ⟨B3,MB3,SB3,back⟩ := S.calln 0 ((.z 0 rfl .nil))
 refine zu (zq ca_law04_Tables) zbv (law04_Tables_st SB3 er1) ?_
 rintro _ w2 ⟨a4,a5,rfl,S2⟩
 replace S:St A N w w2 [oT a4 r1.1,oR a5 r1.2] [fS 4 Nd.C s_0 a0,fS 1 IC s_1 a1,fS 4 Ln.C s_2 a2,oEt,oPw]:=back _ _ _ _ S2 rfl
 clear back S2 SB3
 refine wd (z7 rfl) ?_
 refine wd (zw rfl rfl) ?_
 refine wd (zw rfl rfl) ?_
 refine wd (xi rfl) ?_
 refine wd (xi rfl) ?_
 refine zb ?_
 refine zd (za ?_)
 refine wd (zo rfl) ?_
 refine wd (zC rfl) ?_
 refine xy (C:=Ln.C) (l:=([]:List Ln)) (vs:=[]) zY el_Ln.zero rfl rfl (fun a _=>Ln.len a) zbv rfl zbv fun b7 w6 s8 hBw6 hw6=>?_
 replace S:St A N w w6 [oS T_Ln 4 Ln.C s8 ([]:List Ln),oT a4 r1.1,oR a5 r1.2] [fS 4 Nd.C s_0 a0,fS 1 IC s_1 a1,fS 4 Ln.C s_2 a2,oEt,oPw]:=S.lit hBw6 hw6 zbx
 refine wd (zC rfl) ?_
 obtain ⟨ha11,H⟩ := xm H
 have ha11:=of_decide_eq_true ha11
 refine wl_appendm (C:=Ln.C) zY el_Ln rfl rfl (S.sl 0) (S.rd 2) Ln.one ha11 zbw zbv fun s10 w9 O hw9 gw9=>?_
 replace S:St A N w w9 [oS T_Ln 4 Ln.C s10 (([]:List Ln) ++ a2),oT a4 r1.1,oR a5 r1.2] [fS 4 Nd.C s_0 a0,fS 1 IC s_1 a1,fS 4 Ln.C s_2 a2,oEt,oPw]:=S.push 0 O (by first | (simp; done) | (simp; omega)) hw9 gw9
 clear O
 obtain ⟨r12,er12,H⟩ := zt H
 replace S:St A N w w9 [oT a4 r1.1,oR a5 r1.2] [fS 4 Ln.C s10 (([]:List Ln) ++ a2),fS 4 Nd.C s_0 a0,fS 1 IC s_1 a1,fS 4 Ln.C s_2 a2,oEt,oPw]:=S.frzS 0
 obtain ⟨B14,MB14,SB14,back⟩ := S.sub [2,0,5] [oT a4 r1.1] [oR a5 r1.2]
 refine zu (zq ca_hilbert_Term) zbv (hilbert_Term_st SB14 er12) ?_
 rintro _ w13 ⟨s15,rfl,S2⟩
 replace S:St A N w w13 [oT a4 r12.1,oR a5 r1.2] [zf s15 r12.2.1.sub,fS 4 Ln.C s10 (([]:List Ln) ++ a2),fS 4 Nd.C s_0 a0,fS 1 IC s_1 a1,fS 4 Ln.C s_2 a2,oEt,oPw]:=back _ _ _ _ _ S2 rfl rfl
 clear back S2 SB14
 refine wd (z7 rfl) ?_
 refine wd (zw rfl rfl) ?_
 refine wd (zw rfl rfl) ?_
 refine xa y6 zbv fun b17 w16 hw16=>?_
 replace S:St A N w w16 [oB b17 zk (Term.C (⟨0,ByteArray.empty,ByteArray.empty,0,SlV.nil⟩ : Term)),oT a4 r12.1,oR a5 r1.2] [zf s15 r12.2.1.sub,fS 4 Ln.C s10 (([]:List Ln) ++ a2),fS 4 Nd.C s_0 a0,fS 1 IC s_1 a1,fS 4 Ln.C s_2 a2,oEt,oPw]:=S.new hw16
 refine zF zE rfl rfl (S.blk 0) (Term.len _) (by rw [Term.len]; decide) (Term.one _) (zV (Term.len _)) fun w18 B hw18 zw18=>?_
 replace S:St A N w w18 [oB b17 zk (Term.C (⟨r12.2.1.kind,r12.2.1.name,r12.2.1.other,r12.2.1.form,s15⟩ : Term)),oT a4 r12.1,oR a5 r1.2] [zf s15 r12.2.1.sub,fS 4 Ln.C s10 (([]:List Ln) ++ a2),fS 4 Nd.C s_0 a0,fS 1 IC s_1 a1,fS 4 Ln.C s_2 a2,oEt,oPw]:=S.store 0 B hw18
 clear B
 refine wd (zi rfl) ?_
 refine zb ?_
 refine zd (za ?_)
 refine wd (zo rfl) ?_
 refine wd (zC rfl) ?_
 refine wd (zC rfl) ?_
 obtain ⟨r19,er19,H⟩ := zt H
 replace S:St A N w w18 [oR a5 r1.2,oB b17 zk (Term.C (⟨r12.2.1.kind,r12.2.1.name,r12.2.1.other,r12.2.1.form,s15⟩ : Term)),oT a4 r12.1] [zf s15 r12.2.1.sub,fS 4 Ln.C s10 (([]:List Ln) ++ a2),fS 4 Nd.C s_0 a0,fS 1 IC s_1 a1,fS 4 Ln.C s_2 a2,oEt,oPw]:=S.front 2
 obtain ⟨B21,MB21,SB21,back⟩ := S.sub [3,4] [oR a5 r1.2] [oB b17 zk (Term.C (⟨r12.2.1.kind,r12.2.1.name,r12.2.1.other,r12.2.1.form,s15⟩ : Term)),oT a4 r12.1]
 refine zu (zq ca_ref16_Term) zbv (ref16_Term_st SB21 er19) ?_
 rintro _ w20 ⟨s22,rfl,S2⟩
 replace S:St A N w w20 [oR a5 r19.1,oB b17 zk (Term.C (⟨r12.2.1.kind,r12.2.1.name,r12.2.1.other,r12.2.1.form,s15⟩ : Term)),oT a4 r12.1] [zf s22 r19.2.1.sub,zf s15 r12.2.1.sub,fS 4 Ln.C s10 (([]:List Ln) ++ a2),fS 4 Nd.C s_0 a0,fS 1 IC s_1 a1,fS 4 Ln.C s_2 a2,oEt,oPw]:=back _ _ _ _ _ S2 rfl rfl
 clear back S2 SB21
 refine wd (z7 rfl) ?_
 refine wd (zw rfl rfl) ?_
 refine wd (zw rfl rfl) ?_
 refine xa y6 zbv fun b24 w23 hw23=>?_
 replace S:St A N w w23 [oB b24 zk (Term.C (⟨0,ByteArray.empty,ByteArray.empty,0,SlV.nil⟩ : Term)),oR a5 r19.1,oB b17 zk (Term.C (⟨r12.2.1.kind,r12.2.1.name,r12.2.1.other,r12.2.1.form,s15⟩ : Term)),oT a4 r12.1] [zf s22 r19.2.1.sub,zf s15 r12.2.1.sub,fS 4 Ln.C s10 (([]:List Ln) ++ a2),fS 4 Nd.C s_0 a0,fS 1 IC s_1 a1,fS 4 Ln.C s_2 a2,oEt,oPw]:=S.new hw23
 refine zF zE rfl rfl (S.blk 0) (Term.len _) (by rw [Term.len]; decide) (Term.one _) (zV (Term.len _)) fun w25 B hw25 zw25=>?_
 replace S:St A N w w25 [oB b24 zk (Term.C (⟨r19.2.1.kind,r19.2.1.name,r19.2.1.other,r19.2.1.form,s22⟩ : Term)),oR a5 r19.1,oB b17 zk (Term.C (⟨r12.2.1.kind,r12.2.1.name,r12.2.1.other,r12.2.1.form,s15⟩ : Term)),oT a4 r12.1] [zf s22 r19.2.1.sub,zf s15 r12.2.1.sub,fS 4 Ln.C s10 (([]:List Ln) ++ a2),fS 4 Nd.C s_0 a0,fS 1 IC s_1 a1,fS 4 Ln.C s_2 a2,oEt,oPw]:=S.store 0 B hw25
 clear B
 refine wd (zi rfl) ?_
 refine zb ?_
 refine zd (za ?_)
 refine wd (zp zE rfl ((S.blk 2).all _ (Term.len _)) (Term.len _)) ?_
 refine wd (zp zE rfl ((S.blk 0).all _ (Term.len _)) (Term.len _)) ?_
 obtain ⟨r26,er26,H⟩ := zt H
 obtain ⟨B28,MB28,SB28,back⟩ := S.calln 0 ((.z 1 rfl (.z 0 rfl .nil)))
 refine zu (zq zbb) zbv (ref12_Same_st (a0:=r12.2.1) (a1:=r19.2.1) SB28 er26) ?_
 rintro _ w27 ⟨rfl,S2⟩
 replace S:St A N w w27 [oB b24 zk (Term.C (⟨r19.2.1.kind,r19.2.1.name,r19.2.1.other,r19.2.1.form,s22⟩ : Term)),oR a5 r19.1,oB b17 zk (Term.C (⟨r12.2.1.kind,r12.2.1.name,r12.2.1.other,r12.2.1.form,s15⟩ : Term)),oT a4 r12.1] [zf s22 r19.2.1.sub,zf s15 r12.2.1.sub,fS 4 Ln.C s10 (([]:List Ln) ++ a2),fS 4 Nd.C s_0 a0,fS 1 IC s_1 a1,fS 4 Ln.C s_2 a2,oEt,oPw]:=back _ _ _ _ S2 rfl
 clear back S2 SB28
 refine wd (zD rfl) ?_
 refine zU (j:=3) (pol:=true) rfl rfl rfl zbv (fun hg=>zh rfl) zbv ?_
 obtain ⟨r29,er29,H⟩ := zt H
 refine yk (j:=3) (pol:=true) rfl rfl rfl zbv (fun hg=>zN uu (zT (zm hg) rfl)) zbv (fun hg=>(have ⟨M,SS⟩ := S.lend ((.nil)); quiet (uy SS (if_t (by simpa using hg) er29)) (fun v w' h=>⟨h.1,_,_,h.2⟩))) fun w30 hw30=>?_
 replace S:=S.ext hw30
 refine zU (j:=3) (pol:=true) rfl rfl rfl zbv (fun hg=>zh rfl) zbv ?_
 refine zU (j:=3) (pol:=true) rfl rfl rfl zbv (fun hg=>zL (zm hg) (zm hg)) zbv ?_
 refine wd (xc rfl (fun hp=>(zm (xk hp)))) ?_
 refine wd (zD rfl) ?_
 refine zU (j:=9) (pol:=true) rfl rfl rfl zbv (fun hg=>zo rfl) zbv ?_
 refine zU (j:=9) (pol:=true) rfl rfl rfl zbv (fun hg=>zo rfl) zbv ?_
 obtain ⟨r31,er31,H⟩ := zt H
 refine yk (j:=9) (pol:=true) rfl rfl rfl zbv (fun hg=>zN ca_law04_Same (zT (zm hg) (zT (zm hg) rfl))) zbv (fun hg=>(have ⟨M,SS⟩ := S.lend ((.o 3 rfl (.o 1 rfl .nil))); quiet (law04_Same_st SS (if_t (by simpa using hg) er31)) (fun v w' h=>⟨h.1,_,_,h.2⟩))) fun w32 hw32=>?_
 replace S:=S.ext hw32
 refine wd (xc rfl (fun hp=>(zm (xk hp)))) ?_
 refine wd (zD rfl) ?_
 obtain ⟨r33,er33,H⟩ := zt H
 refine yk (j:=14) (pol:=true) rfl rfl rfl zbv (fun hg=>zN ca_law16_heads rfl) zbv (fun hg=>(have ⟨M,SS⟩ := S.lend ((.z 6 rfl (.z 7 rfl .nil))); quiet (law16_heads_st SS (if_t (by simpa using hg) er33)) (fun v w' h=>⟨h.1,_,_,h.2⟩))) fun w34 hw34=>?_
 replace S:=S.ext hw34
 refine wd (xc rfl (fun hp=>(zm (xk hp)))) ?_
 refine wd (zn rfl) ?_
 refine zb ?_
 refine zy ?_
 refine ⟨_,(zS (zg rfl)),?_⟩
 replace S:St A N w w34 [] []:=S.arr [] []
 obtain rfl:=zbz H
 exact ⟨rfl,S⟩
end
end Go.Proofs.YtflieamjacclnaaGreatDoor
