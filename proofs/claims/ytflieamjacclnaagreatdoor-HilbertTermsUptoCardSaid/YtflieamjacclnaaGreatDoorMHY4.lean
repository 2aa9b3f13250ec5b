/- Texts put together. -/
import Derived.Test.YtflieamjacclnaaGreatDoorMHY3
set_option linter.unusedVariables false
set_option linter.unusedSimpArgs false
namespace Go.Proofs.YtflieamjacclnaaGreatDoor
section
open Gw Go.RowKit
set_option maxHeartbeats 4000000
set_option maxRecDepth 20000
theorem types_at_st {A:Nat→Prop} {N:Oth} {w:World} {a0:Int} {a1:Option (Int × List Int)} {v_1:Value} (S:St A N w w [oE v_1 a1] [oEt]) {r:(Option (Int × List Int))} (H:zcL.f a0 a1=some r) :
  Calls PP F_types_at #[.int .i64 a0,v_1] w fun e w' => ∃ v,e = .returned v∧(∃ vo0:Value,v=vo0∧St A N w w' [oE vo0 r] []):=by
 unfold zcL.f at H
 refine zz (n:=20) fn_types_at rfl rfl zbx ?_
 rcases a1 with _ | ⟨c0,up0⟩
 ·obtain rfl:=S.seeE 0
  replace S:=S
  refine zd (za (wd (zM rfl) (zb (zd (za ?_)))))
  refine xa uA zbv fun b2 w1 hw1=>?_
  replace S:=S.new hw1
  refine zb (zd (zd (za (wd (xg rfl) (wd (does_mkIface zby rfl) ?_)))))
  refine zu (zN zag (zT rfl (zT rfl rfl))) zbv (errors_As_no _ _) ?_
  rintro _ w3 ⟨rfl,hx⟩
  replace S:=S.ext hx
  clear hx
  refine zb ?_
  refine kj rfl (zA (zd (za (wd (xg rfl) (wd (zM rfl) (zb (zy ?_)))))))
  refine ⟨_,(zS (zg rfl)),?_⟩
  replace S:=S.arr [1] []
  obtain rfl:=zbz H
  exact ⟨.nilIface,rfl,S⟩
 ·obtain ⟨b0,s0,rfl,S⟩ := S.openE 0
  replace S:=S
  refine zd (za (wd (zM rfl) (zb (zd (za ?_)))))
  refine xa uA zbv fun b6 w5 hw5=>?_
  replace S:=S.new hw5
  refine zb (zd (zd (za (wd (xg rfl) (wd (does_mkIface zby rfl) ?_)))))
  refine zu (zN zag (zT rfl (zT rfl rfl))) zbv (errors_As_yes _ (S.et 0) (S.blk 0)) ?_
  rintro _ w7 ⟨rfl,hc,hb⟩
  replace S:=S.store 0 hb hc
  clear hc hb
  refine zb ?_
  refine zaW rfl ?_
  obtain ⟨ha9,H⟩ := xm H
  have ha9:=of_decide_eq_true ha9
  have hSO:=S.sl 2
  have hSlt:=hSO.lt
  have SH : ∀ v,Chg s0.fp w7 v→St A (N.or s0.fp) w v [oB b6 T_P_types_refusal [.pointer (some ⟨b0,0,none⟩)],oB b0 zao (Refusal.C (⟨c0,s0⟩ : Refusal))] [oEt]:=fun v hc=>S.away 2 (hc:=hc)
  refine wc_draw 8 ⟨fun L v=>Chg s0.fp w7 v∧(L 7=false→Ext w7 v),fun L a b=>Chg s0.fp a b∧(L 7=true→Ext a b),fun i v u=>match i with
   | 0=>v=Value.pointer (some ⟨b0,0,none⟩)
   | 1=>v=Value.pointer (some ⟨b0,0,none⟩)
   | 2=>v=Value.pointer (some ⟨b0,0,none⟩)
   | 3=>v=Value.pointer (some ⟨b0,1,none⟩)
   | 4=>v=s0.v
   | 5=>v=Value.int .i64 a0
   | 6 => ∃ b sl,v=SlV.v sl∧sl=⟨some ⟨b,0,none⟩,1,1⟩ ∧ Blk u b yg (IC a0)∧¬ s0.fp b
   | 7 => ∃ s',v=SlV.v s'∧Own u 0 yg 1 s' ((up0 ++ [a0]).map IC) ∧ ∀ i,s'.fp i→s0.fp i∨w7.heap.size ≤ i
   | _=>True⟩ hmix zby ?_ ⟨(Ext.drawn _).mono (fun _ _ x=>x.elim),fun _=>Ext.drawn _⟩ ⟨?_,?_,?_,?_,?_,?_,?_,?_,trivial⟩ ?_
  ·intro L i v a b hLi hle hv
   match i,hLi,hv with
   | 0,_,hv=>exact hv
   | 1,_,hv=>exact hv
   | 2,_,hv=>exact hv
   | 3,_,hv=>exact hv
   | 4,_,hv=>exact hv
   | 5,_,hv=>exact hv
   | 6,_,⟨b,sl,e1,e2,hb,hn⟩ => exact ⟨b,sl,e1,e2,hb.chg hle.1 hn,hn⟩
   | 7,hLi,⟨s',e1,ho,hg⟩ => exact ⟨s',e1,ho.ext (hle.2 hLi),hg⟩
   | _ + 8,_,_=>exact trivial
  ·rintro L g v hL hT 
   refine wd (zj vI rfl (((SH v hT.1).blk 0).cell rfl)) (zb (ob ⟨hT.1,fun h=>hT.2 h⟩ ⟨Chg.refl _ _,fun _=>Ext.refl _⟩ rfl))
  ·rintro L g v hL hT 
   refine wd (zj vI rfl (((SH v hT.1).blk 0).cell rfl)) (zb (ob ⟨hT.1,fun h=>hT.2 h⟩ ⟨Chg.refl _ _,fun _=>Ext.refl _⟩ rfl))
  ·rintro L g v hL hT hv1
   refine wd (zB hv1) (zb (ob ⟨hT.1,fun h=>hT.2 h⟩ ⟨Chg.refl _ _,fun _=>Ext.refl _⟩ rfl))
  ·rintro L g v hL hT hv2
   refine wd (ze j7 hv2 (o':=1) rfl) (zb (ob ⟨hT.1,fun h=>hT.2 h⟩ ⟨Chg.refl _ _,fun _=>Ext.refl _⟩ rfl))
  ·rintro L g v hL hT hv3
   refine wd (zj on_L_int hv3 (((SH v hT.1).blk 1).cell (Refusal.get_up_ _))) (zb (ob ⟨hT.1,fun h=>hT.2 h⟩ ⟨Chg.refl _ _,fun _=>Ext.refl _⟩ rfl))
  ·rintro L g v hL hT 
   refine wd (zh rfl) (zb (ob ⟨hT.1,fun h=>hT.2 h⟩ ⟨Chg.refl _ _,fun _=>Ext.refl _⟩ rfl))
  ·rintro L g v hL hT hv5
   refine wl_lit1 xR zaD.zero hv5 rfl rfl zbv zbv fun b v' sl hn hq=>zb (ob ⟨hT.1.thenExt hn.ext,fun h=>(hT.2 h).trans hn.ext⟩ ⟨hn.ext.mono (fun _ _ x=>x.elim),fun _=>hn.ext⟩ ⟨b,sl,rfl,hq,hn.blk,fun e=>by have:=hSlt _ e; have:=hn.at_; have:=hT.1.size; omega⟩)
  ·rintro L g v hL hT hv4 ⟨b,sl,hv6,hq,hb,hnb⟩
   refine wl_push (C:=IC) xR zaD hv4 hv6 (hSO.ext (hT.2 hL)) hb hq rfl (fun v hv=>by rw [List.mem_singleton.1 hv]; rfl) ha9 zbw zbv fun s' v' ho hc hg=>zb (ob ⟨hT.1.trans hc,fun h=>(by cases h)⟩ ⟨hc,fun h=>(by rw [hL] at h; cases h)⟩ ⟨s',rfl,ho,fun i e=>(hg i e).imp id (fun h=>Nat.le_trans hT.1.size h)⟩)
  rintro L g w10 hLm hT hv12_0 hv12_1 hv12_2 hv12_3 hv12_4 hv12_5 ⟨b,sl,hv12_6,hq,hb,hnb⟩ ⟨s11,hv12_7,O,gO⟩
  replace S:=S.push 2 O (by rw [List.length_append,List.length_singleton]; omega) hT.1 gO
  clear O gO SH hSO hSlt
  refine wd (zB hv12_0) (wd (ze j7 rfl (o':=1) rfl) ?_)
  refine yZ on_L_int rfl hv12_7 (S.blk 2) (by rw [Refusal.len]; decide) (SlV.one _ _ rfl) (Refusal.set_up_ _ _) fun w13 B hw13 zw13=>?_
  replace S:=S.store 2 B hw13
  clear B
  refine zb (zd (za (wd (xg rfl) (wd (zM rfl) (zb (zy ?_))))))
  replace S:=((S.front 1).front 1).mkE
  refine ⟨_,(zS (zg rfl)),?_⟩
  replace S:=S.arr [0] []
  obtain rfl:=zbz H
  exact ⟨(.iface x8 (.pointer (some ⟨b0,0,none⟩))),rfl,S⟩
theorem types_code_st {A:Nat→Prop} {N:Oth} {w:World} {a0:Option (Int × List Int)} {v_0:Value} (S:St A N w w [oE v_0 a0] [oEt]) {r:List Int × Int} (H:zcM.f a0=some r) :
  Calls PP F_types_code #[v_0] w fun e w' => ∃ v,e = .returned v∧(∃ so0:SlV,v = .tuple #[so0.v,.int .i64 r.2]∧St A N w w' [oS yg 1 IC so0 r.1] []):=by
 unfold zcM.f at H
 refine zz (n:=22) fn_types_code rfl rfl zbx ?_
 rcases a0 with _ | ⟨c0,up0⟩
 ·obtain rfl:=S.seeE 0
  replace S:=S
  refine zd (za (wd (xw) (wd (zi rfl) (zb (zd (za ?_))))))
  refine xa uA zbv fun b2 w1 hw1=>?_
  replace S:=S.new hw1
  refine zb (zd (zd (za (wd (xg rfl) (wd (does_mkIface zby rfl) ?_)))))
  refine zu (zN zag (zT rfl (zT rfl rfl))) zbv (errors_As_no _ _) ?_
  rintro _ w3 ⟨rfl,hx⟩
  replace S:=S.ext hx
  clear hx
  refine wd (xh rfl) (zb ?_)
  refine zaW rfl (zd (za (wd (xw) (wd (zi rfl) (zb (zy ?_))))))
  replace S:=S.nil yg 1 IC
  refine ⟨_,(xx (zg rfl) (zg rfl)),?_⟩
  replace S:=S.arr [0] []
  obtain rfl:=zbz H
  exact ⟨SlV.nil,rfl,S⟩
 ·obtain ⟨b0,s0,rfl,S⟩ := S.openE 0
  replace S:=S
  refine zd (za (wd (xw) (wd (zi rfl) (zb (zd (za ?_))))))
  refine xa uA zbv fun b6 w5 hw5=>?_
  replace S:=S.new hw5
  refine zb (zd (zd (za (wd (xg rfl) (wd (does_mkIface zby rfl) ?_)))))
  refine zu (zN zag (zT rfl (zT rfl rfl))) zbv (errors_As_yes _ (S.et 0) (S.blk 0)) ?_
  rintro _ w7 ⟨rfl,hc,hb⟩
  replace S:=S.store 0 hb hc
  clear hc hb
  refine wd (xh rfl) (zb ?_)
  refine kj rfl (zA (zd (za (wd (zj vI rfl ((S.blk 0).cell rfl)) (wd (zB rfl) (wd (ze j7 rfl (o':=1) rfl) ?_))))))
  refine wd (zj on_L_int rfl ((S.blk 1).cell (Refusal.get_up_ _))) ?_
  obtain ⟨r9,er9,H⟩ := zt H
  replace S:=S.front 2
  obtain ⟨B11,MB11,SB11,back⟩ := S.calln 1 ((.nil))
  refine zu (zq zaJ) zbv (zaN SB11 er9) ?_
  rintro _ w10 ⟨rfl,S2⟩
  replace S:=back _ _ _ _ S2 rfl
  clear back S2 SB11
  refine zb (zd ?_)
  refine xU 9 (Ext w10) hmix zby zby (Ext.drawn _) (zx (fun v K=>zj vI rfl (((S.ext K).blk 1).cell rfl)) (zx (fun v K=>zB rfl) (zx (fun v K=>ze j7 rfl (o':=1) rfl) (zx (fun v K=>zj on_L_int rfl (((S.ext K).blk 2).cell (Refusal.get_up_ _))) (zx (fun v K=>zj vI rfl (((S.ext K).blk 1).cell rfl)) ?_)))))
  refine zx (fun v K=>zB rfl) (zx (fun v K=>ze fl_Refusal_code rfl (o':=0) rfl) (zx (fun v K=>zj yf rfl (((S.ext K).blk 2).cell (Refusal.get_code _))) (zx (fun v K=>x6 rfl) ?_)))
  refine yV fun w12 K=>?_
  replace S:=S.ext K
  clear K
  refine wd (zi rfl) (zb (zy ?_))
  refine ⟨_,(xx (zg rfl) (zg rfl)),?_⟩
  replace S:=S.arr [0] []
  obtain rfl:=zbz H
  exact ⟨s0,rfl,S⟩
end
section
open Gw Go.RowKit
set_option maxHeartbeats 4000000
set_option maxRecDepth 20000
variable {A:Nat→Prop} {N:Oth} {w:World}
theorem vP {a0:PChecker} {a_0:Option Addr} {a1:Int} {a2:Int} (S:St A N w w [] [oT a_0 a0.t]) {r:Nd × (Option (Int × List Int))} (H:zcN.f a0 a1 a2=some r) :
  Calls PP kW #[.agg (Checker.C (⟨a_0⟩ : Checker)).toArray,.int .i64 a1,.int .i64 a2] w fun e w' => ∃ v,e = .returned v∧(∃ vo0:Value,v = .tuple #[.agg (Nd.C r.1).toArray,vo0]∧St A N w w' [oE vo0 r.2] []):=by
 unfold zcN.f at H
 refine zz (n:=26) fn_types_checker_node rfl rfl zbx (zd (za ?_))
 refine z1 rfl zbv fun b2 w1 hw1=>?_
 replace S:=S.new hw1
 refine xa v6 zbv fun b4 w3 hw3=>?_
 replace S:=S.new hw3
 refine wd (zM rfl) (zb (zd (za (wd (ze fl_Checker_t rfl (o':=0) rfl) (wd (zj xI rfl ((S.blk 1).cell (Checker.get_t _))) (wd (zh rfl) ?_))))))
 obtain ⟨r5,er5,H⟩ := zt H
 obtain ⟨B7,MB7,SB7,back⟩ := S.calln 0 ((.z 0 rfl .nil))
 refine zu (zq yC) zbv (yF SB7 er5) ?_
 rintro _ w6 ⟨rfl,S2⟩
 replace S:=back _ _ _ _ S2 rfl
 clear back S2 SB7
 refine wd (z7 rfl) (wd (zw rfl rfl) (wd (zw rfl rfl) ?_))
 refine xa v6 zbv fun b9 w8 hw8=>?_
 replace S:=S.new hw8
 refine zF xQ rfl rfl (S.blk 0) (Nd.len _) (by rw [Nd.len]; decide) (Nd.one _) (zV (Nd.len _)) fun w10 B hw10 zw10=>?_
 replace S:=S.store 0 B hw10
 clear B
 refine wd (zn rfl) (zb (zd (zd (za (wd (ze yo rfl (o':=0) rfl) (wd (zj xP rfl ((S.blk 0).cell (Nd.get_kind _))) (wd (zh rfl) (wd (xj rfl rfl) (zb ?_)))))))))
 refine zH rfl (fun hc11=>?_) (fun hc11=>?_)
 ·replace H:=if_t hc11 H
  refine zd (za (wd (zp xQ rfl ((S.blk 0).all _ (Nd.len _)) (Nd.len _)) (wd (Does.to (v' := .agg (Refusal.C (⟨130,SlV.nil⟩ : Refusal)).toArray) (xo (vs:=[(0,.int .i64 130)]) kx (xJ rfl rfl) (Bld.one rfl rfl (by rw [Refusal.len]; decide) (Refusal.set_code _ _) Bld.nil)) rfl) ?_)))
  refine z1 rfl zbv fun b13 w12 hw12=>?_
  replace S:=S.new hw12
  refine wd (does_makeInterface rfl) ?_
  replace S:=((S.nil yg 1 IC).front 1).mkE
  refine zF xQ rfl rfl (S.blk 2) (Nd.len _) (by rw [Nd.len]; decide) (Nd.one _) (zV (Nd.len _)) fun w14 B hw14 zw14=>?_
  replace S:=S.store 2 B hw14
  clear B
  refine wd (zM rfl) (zb (zy ?_))
  refine ⟨_,(xx (xl xQ rfl ((S.blk 0).all _ (Nd.len _)) (Nd.len _)) (zg rfl)),?_⟩
  replace S:=S.arr [1] []
  obtain rfl:=zbz H
  exact ⟨(.iface x8 (.pointer (some ⟨b13,0,none⟩))),rfl,S⟩
 replace H:=if_f hc11 H
 refine zA (zd (za (wd (zp xQ rfl ((S.blk 0).all _ (Nd.len _)) (Nd.len _)) ?_)))
 refine zF xQ rfl rfl (S.blk 1) (Nd.len _) (by rw [Nd.len]; decide) (Nd.one _) (zV (Nd.len _)) fun w15 B hw15 zw15=>?_
 replace S:=S.store 1 B hw15
 clear B
 refine wd (zM rfl) (zb (zy ?_))
 replace S:=S.nilE
 refine ⟨_,(xx (xl xQ rfl ((S.blk 1).all _ (Nd.len _)) (Nd.len _)) (zg rfl)),?_⟩
 replace S:=S.arr [0] []
 obtain rfl:=zbz H
 exact ⟨.nilIface,rfl,S⟩
theorem yM {zdZ:PChecker→PTerm→(List (ByteArray × Int))→Option (Int × (Option (Int × List Int)))} (zdP : ∀ {A:Nat→Prop} {N:Oth} {w:World} {a0:PChecker} {a_0:Option Addr} {a1:PTerm} {s_1:SlV} {a2:List (ByteArray × Int)} {a_2:Option Addr} (S:St A N w w [] [oT a_0 a0.t,zf s_1 a1.sub,yl a_2 a2,oEt]) {r:Int × (Option (Int × List Int))} (H:zdZ a0 a1 a2=some r),Calls PP yr #[.agg (Checker.C (⟨a_0⟩ : Checker)).toArray,.agg (Term.C (⟨a1.kind,a1.name,a1.other,a1.form,s_1⟩ : Term)).toArray,.pointer a_2] w fun e w' => ∃ v,e = .returned v∧(∃ vo0:Value,v = .tuple #[.int .i64 r.1,vo0]∧St A N w w' [oE vo0 r.2] [])) {A:Nat→Prop} {N:Oth} {w:World} {a0:PChecker} {a_0:Option Addr} {a1:PTerm} {s_1:SlV} {a2:Int} {a3:List (ByteArray × Int)} {a_3:Option Addr} (S:St A N w w [] [oT a_0 a0.t,zf s_1 a1.sub,yl a_3 a3,oEt]) {r:Int × (Option (Int × List Int))} (H:zcO.g zdZ a0 a1 a2 a3=some r) :
  Calls PP kX #[.agg (Checker.C (⟨a_0⟩ : Checker)).toArray,.agg (Term.C (⟨a1.kind,a1.name,a1.other,a1.form,s_1⟩ : Term)).toArray,.int .i64 a2,.pointer a_3] w fun e w' => ∃ v,e = .returned v∧(∃ vo0:Value,v = .tuple #[.int .i64 r.1,vo0]∧St A N w w' [oE vo0 r.2] []):=by
 unfold zcO.g at H
 refine zz (n:=27) fn_types_checker_part rfl rfl zbx (zd (za ?_))
 refine z1 rfl zbv fun b2 w1 hw1=>?_
 replace S:=S.new hw1
 refine z1 rfl zbv fun b4 w3 hw3=>?_
 replace S:=S.new hw3
 refine wd (zi rfl) (wd (zM rfl) (zb (zd ?_)))
 refine wc_ws hmix fun w10 K=>?_
 replace S:=S.ext K
 clear K
 obtain ⟨hi11,H⟩ := xm H
 obtain ⟨s12,hc13,S⟩ := S.viewTerm 1 (zI hi11)
 replace S:=S.zs [1,2,3,4,0]
 refine kI 0 7 [] zby zbv zby
  (V:=fun i v u=>match i with
  | _=>True) ?_ ?_
 ·intro i v u u' hi hx hv
  match i,hv with
  | _,_=>exact trivial
 refine zX (fun v K=>zp xz rfl (((S.ext K).blk 1).all _ (Checker.len _)) (Checker.len _)) rfl (zX (fun v K=>ze xn rfl (o':=4) rfl) rfl (zX (fun v K=>zj xb rfl (((S.ext K).blk 0).cell (Term.get_sub _))) rfl (zX (fun v K=>zh rfl) rfl (zX (fun v K=>does_indexF zR rfl rfl ((S.ext K).onZ 1) (zI hi11).1 (zI hi11).2) rfl (zX (fun v K=>zp zE rfl (hc13.chg K (fun x=>x)) (Term.len _)) rfl (zX (fun v K=>zo rfl) rfl ?_))))))
 refine uJ fun g w14 K hV=>?_
 replace S:=S.ext K
 clear K hV
 refine ws_chain 7 9 zby zbv ?_
 obtain ⟨r16,er16,H⟩ := zt H
 obtain ⟨B18,MB18,SB18,back⟩ := S.calln 0 ((.z 0 rfl (.z 4 rfl (.z 2 rfl (.z 3 rfl .nil)))))
 refine zu (zq uG) zbv (zdP (a0:=a0) (a1:=(at_ PTerm.z a1.sub a2)) SB18 er16) ?_
 rintro _ w17 ⟨v19,rfl,S2⟩
 replace S:=back _ _ _ _ S2 rfl
 clear back S2 SB18
 refine wd (z7 rfl) (zb ⟨rfl,?_⟩)
 refine kI 9 12 [] zby zbv zby
  (V:=fun i v u=>match i with
  | _=>True) ?_ ?_
 ·intro i v u u' hi hx hv
  match i,hv with
  | _,_=>exact trivial
 refine zX (fun v K=>zw rfl rfl) rfl (zX (fun v K=>zw rfl rfl) rfl (zX (fun v K=>zi rfl) rfl ?_))
 refine uJ fun g w20 K hV=>?_
 replace S:=S.ext K
 clear K hV
 refine ws_tail 12 zby zbv (wd (zM rfl) (zb (zd (za (wd (zh rfl) (wd (zh rfl) (wd (xg rfl) ?_)))))))
 obtain ⟨r22,er22,H⟩ := zt H
 obtain ⟨B24,MB24,SB24,back⟩ := S.calln 1 ((.z 3 rfl .nil))
 refine zu (zq ca_types_at) zbv (types_at_st (a1:=r16.2) SB24 er22) ?_
 rintro v25 w23 ⟨_,rfl,S2⟩
 replace S:=back _ _ _ _ S2 rfl
 clear back S2 SB24
 refine wd (zi rfl) (wd (zM rfl) (zb (zy ?_)))
 refine ⟨_,(xx (zg rfl) (zg rfl)),?_⟩
 replace S:=S.arr [0] []
 obtain rfl:=zbz H
 exact ⟨v25,rfl,S⟩
theorem xH {zdY:PChecker→PTerm→(List (ByteArray × Int))→Int→Option (Option (Int × List Int))} (zdO : ∀ {A:Nat→Prop} {N:Oth} {w:World} {a0:PChecker} {a_0:Option Addr} {a1:PTerm} {s_1:SlV} {a2:List (ByteArray × Int)} {a_2:Option Addr} {a3:Int} (S:St A N w w [] [oT a_0 a0.t,zf s_1 a1.sub,yl a_2 a2,oEt]) {r:(Option (Int × List Int))} (H:zdY a0 a1 a2 a3=some r),Calls PP yn #[.agg (Checker.C (⟨a_0⟩ : Checker)).toArray,.agg (Term.C (⟨a1.kind,a1.name,a1.other,a1.form,s_1⟩ : Term)).toArray,.pointer a_2,.int .i64 a3] w fun e w' => ∃ v,e = .returned v∧(∃ vo0:Value,v=vo0∧St A N w w' [oE vo0 r] [])) {A:Nat→Prop} {N:Oth} {w:World} {a0:PChecker} {a_0:Option Addr} {a1:PTerm} {s_1:SlV} {a2:Int} {a3:List (ByteArray × Int)} {a_3:Option Addr} {a4:Int} (S:St A N w w [] [oT a_0 a0.t,zf s_1 a1.sub,yl a_3 a3,oEt]) {r:(Option (Int × List Int))} (H:zcP.g zdY a0 a1 a2 a3 a4=some r) :
  Calls PP ku #[.agg (Checker.C (⟨a_0⟩ : Checker)).toArray,.agg (Term.C (⟨a1.kind,a1.name,a1.other,a1.form,s_1⟩ : Term)).toArray,.int .i64 a2,.pointer a_3,.int .i64 a4] w fun e w' => ∃ v,e = .returned v∧(∃ vo0:Value,v=vo0∧St A N w w' [oE vo0 r] []):=by
 unfold zcP.g at H
 refine zz (n:=22) fn_types_checker_check rfl rfl zbx (zd (za ?_))
 refine z1 rfl zbv fun b2 w1 hw1=>?_
 replace S:=S.new hw1
 refine z1 rfl zbv fun b4 w3 hw3=>?_
 replace S:=S.new hw3
 refine wd (zM rfl) (zb (zd ?_))
 obtain ⟨hi5,H⟩ := xm H
 obtain ⟨s6,hc7,S⟩ := S.viewTerm 1 (zI hi5)
 replace S:=S.zs [1,2,3,4,0]
 obtain ⟨r8,er8,H⟩ := zt H
 refine zaV 10 [9]
  (fun i v u=>match i with
  | 9 => ∃ v9:Value,v=v9 ∧ ∃ F,(oE v9 r8).holds u F ∧ ∀ i,F i→w3.heap.size ≤ i
  | _=>True) hmix zby zby ?_ ?_
 ·intro i v u u' hi hx hv
  match i,hv with
  | 9,⟨b,e1,F,hb,hl⟩ => exact ⟨b,e1,F,OA.loc _ hb hx (fun _ _ x=>x),hl⟩
  | 0,_=>exact trivial
  | 1,_=>exact trivial
  | 2,_=>exact trivial
  | 3,_=>exact trivial
  | 4,_=>exact trivial
  | 5,_=>exact trivial
  | 6,_=>exact trivial
  | 7,_=>exact trivial
  | 8,_=>exact trivial
  | _ + 10,_=>exact trivial
 refine zX (fun v K=>zh rfl) rfl (zX (fun v K=>zp xz rfl (((S.ext K).blk 1).all _ (Checker.len _)) (Checker.len _)) rfl (zX (fun v K=>ze xn rfl (o':=4) rfl) rfl (zX (fun v K=>zj xb rfl (((S.ext K).blk 0).cell (Term.get_sub _))) rfl (zX (fun v K=>zh rfl) rfl (zX (fun v K=>does_indexF zR rfl rfl ((S.ext K).onZ 1) (zI hi5).1 (zI hi5).2) rfl (zX (fun v K=>zp zE rfl (hc7.chg K (fun x=>x)) (Term.len _)) rfl (zX (fun v K=>zo rfl) rfl (zX (fun v K=>zh rfl) rfl ?_))))))))
 refine vL (fun g v K G=>(have ⟨M,SS⟩ := (S.ext K).lend ((.z 0 rfl (.z 4 rfl (.z 2 rfl (.z 3 rfl .nil))))); ⟨_,_,zN jy (zT rfl (zT rfl (zT rfl (zT rfl rfl)))),newc (zdO (a0:=a0) (a1:=(at_ PTerm.z a1.sub a2)) SS er8) fun _ _ ⟨v9,hv,h⟩ => ⟨h.frame,v9,hv,h.newP.elim fun F hF=>⟨F,hF.1,fun i hi=>by have:=hF.2 i hi; have:=K.size; omega⟩⟩⟩)) rfl ?_
 refine uJ fun g w10 K hV=>?_
 obtain ⟨v9,hv119,F9,hb9,hf9⟩ := hV 9 rfl zbv
 replace S:=S.add (b:=oE v9 r8) K hb9 hf9
 clear K hV
 obtain ⟨r12,er12,H⟩ := zt H
 obtain ⟨B14,MB14,SB14,back⟩ := S.calln 1 ((.z 3 rfl .nil))
 refine zu (zN ca_types_at (zT rfl (zT hv119 rfl))) zbv (types_at_st (a1:=r8) SB14 er12) ?_
 rintro v15 w13 ⟨_,rfl,S2⟩
 replace S:=back _ _ _ _ S2 rfl
 clear back S2 SB14
 refine wd (zM rfl) (zb (zy ?_))
 refine ⟨_,(zS (zg rfl)),?_⟩
 replace S:=S.arr [0] []
 obtain rfl:=zbz H
 exact ⟨v15,rfl,S⟩
theorem yL {zdZ:PChecker→PTerm→(List (ByteArray × Int))→Option (Int × (Option (Int × List Int)))} (zdP : ∀ {A:Nat→Prop} {N:Oth} {w:World} {a0:PChecker} {a_0:Option Addr} {a1:PTerm} {s_1:SlV} {a2:List (ByteArray × Int)} {a_2:Option Addr} (S:St A N w w [] [oT a_0 a0.t,zf s_1 a1.sub,yl a_2 a2,oEt]) {r:Int × (Option (Int × List Int))} (H:zdZ a0 a1 a2=some r),Calls PP yr #[.agg (Checker.C (⟨a_0⟩ : Checker)).toArray,.agg (Term.C (⟨a1.kind,a1.name,a1.other,a1.form,s_1⟩ : Term)).toArray,.pointer a_2] w fun e w' => ∃ v,e = .returned v∧(∃ vo0:Value,v = .tuple #[.int .i64 r.1,vo0]∧St A N w w' [oE vo0 r.2] [])) {A:Nat→Prop} {N:Oth} {w:World} {a0:PChecker} {a_0:Option Addr} {a1:PTerm} {s_1:SlV} {a2:List (ByteArray × Int)} {a_2:Option Addr} {a3:Int} (S:St A N w w [] [oT a_0 a0.t,zf s_1 a1.sub,yl a_2 a2,oEt]) {r:Nd × (Option (Int × List Int))} (H:zcQ.g zdZ a0 a1 a2 a3=some r) :
  Calls PP kV #[.agg (Checker.C (⟨a_0⟩ : Checker)).toArray,.agg (Term.C (⟨a1.kind,a1.name,a1.other,a1.form,s_1⟩ : Term)).toArray,.pointer a_2,.int .i64 a3] w fun e w' => ∃ v,e = .returned v∧(∃ vo0:Value,v = .tuple #[.agg (Nd.C r.1).toArray,vo0]∧St A N w w' [oE vo0 r.2] []):=by
 unfold zcQ.g at H
 refine zz (n:=29) fn_types_checker_head rfl rfl zbx (zd (za ?_))
 refine z1 rfl zbv fun b2 w1 hw1=>?_
 replace S:=S.new hw1
 refine z1 rfl zbv fun b4 w3 hw3=>?_
 replace S:=S.new hw3
 refine xa v6 zbv fun b6 w5 hw5=>?_
 replace S:=S.new hw5
 refine wd (zM rfl) (zb (zd (za (wd (zp xz rfl ((S.blk 2).all _ (Checker.len _)) (Checker.len _)) (wd (zp zE rfl ((S.blk 1).all _ (Term.len _)) (Term.len _)) (wd (zo rfl) ?_))))))
 obtain ⟨r7,er7,H⟩ := zt H
 obtain ⟨B9,MB9,SB9,back⟩ := S.calln 0 ((.z 0 rfl (.z 1 rfl (.z 2 rfl (.z 3 rfl .nil)))))
 refine zu (zq yS) zbv (yM zdP (a0:=a0) (a1:=a1) SB9 er7) ?_
 rintro _ w8 ⟨v10,rfl,S2⟩
 replace S:=back _ _ _ _ S2 rfl
 clear back S2 SB9
 refine wd (z7 rfl) (wd (zw rfl rfl) (wd (zw rfl rfl) (wd (zi rfl) (wd (zM rfl) (zb (zd (zd (za (wd (xg rfl) (wd (does_neE vZ rfl rfl (S.onO 0)) (zb ?_)))))))))))
 refine zH rfl (fun hc11=>?_) (fun hc11=>?_)
 ·replace H:=if_t hc11 H
  refine zd (za (wd (yE bu_Nd Bld.nil) (wd (xg rfl) ?_)))
  refine zF xQ rfl rfl (S.blk 1) (Nd.len _) (by rw [Nd.len]; decide) (Nd.one _) (zV (Nd.len _)) fun w12 B hw12 zw12=>?_
  replace S:=S.store 1 B hw12
  clear B
  refine wd (zM rfl) (zb (zy ?_))
  refine ⟨_,(xx (xl xQ rfl ((S.blk 0).all _ (Nd.len _)) (Nd.len _)) (zg rfl)),?_⟩
  replace S:=S.arr [1] []
  obtain rfl:=zbz H
  exact ⟨v10,rfl,S⟩
 replace H:=if_f hc11 H
 refine zA (zd (za (wd (zp xz rfl ((S.blk 3).all _ (Checker.len _)) (Checker.len _)) (wd (zh rfl) (wd (zh rfl) ?_)))))
 obtain ⟨r13,er13,H⟩ := zt H
 obtain ⟨B15,MB15,SB15,back⟩ := S.calln 0 ((.z 0 rfl .nil))
 refine zu (zq vN) zbv (vP (a0:=a0) SB15 er13) ?_
 rintro _ w14 ⟨v16,rfl,S2⟩
 replace S:=back _ _ _ _ S2 rfl
 clear back S2 SB15
 refine wd (zw rfl rfl) (wd (zw rfl rfl) ?_)
 refine zF xQ rfl rfl (S.blk 2) (Nd.len _) (by rw [Nd.len]; decide) (Nd.one _) (zV (Nd.len _)) fun w17 B hw17 zw17=>?_
 replace S:=S.store 2 B hw17
 clear B
 refine wd (zM rfl) (zb (zy ?_))
 refine ⟨_,(xx (xl xQ rfl ((S.blk 0).all _ (Nd.len _)) (Nd.len _)) (zg rfl)),?_⟩
 replace S:=S.arr [1] []
 obtain rfl:=zbz H
 exact ⟨v16,rfl,S⟩
theorem types_checker_told_gst {zdZ:PChecker→PTerm→(List (ByteArray × Int))→Option (Int × (Option (Int × List Int)))} (zdP : ∀ {A:Nat→Prop} {N:Oth} {w:World} {a0:PChecker} {a_0:Option Addr} {a1:PTerm} {s_1:SlV} {a2:List (ByteArray × Int)} {a_2:Option Addr} (S:St A N w w [] [oT a_0 a0.t,zf s_1 a1.sub,yl a_2 a2,oEt]) {r:Int × (Option (Int × List Int))} (H:zdZ a0 a1 a2=some r),Calls PP yr #[.agg (Checker.C (⟨a_0⟩ : Checker)).toArray,.agg (Term.C (⟨a1.kind,a1.name,a1.other,a1.form,s_1⟩ : Term)).toArray,.pointer a_2] w fun e w' => ∃ v,e = .returned v∧(∃ vo0:Value,v = .tuple #[.int .i64 r.1,vo0]∧St A N w w' [oE vo0 r.2] [])) {zdY:PChecker→PTerm→(List (ByteArray × Int))→Int→Option (Option (Int × List Int))} (zdO : ∀ {A:Nat→Prop} {N:Oth} {w:World} {a0:PChecker} {a_0:Option Addr} {a1:PTerm} {s_1:SlV} {a2:List (ByteArray × Int)} {a_2:Option Addr} {a3:Int} (S:St A N w w [] [oT a_0 a0.t,zf s_1 a1.sub,yl a_2 a2,oEt]) {r:(Option (Int × List Int))} (H:zdY a0 a1 a2 a3=some r),Calls PP yn #[.agg (Checker.C (⟨a_0⟩ : Checker)).toArray,.agg (Term.C (⟨a1.kind,a1.name,a1.other,a1.form,s_1⟩ : Term)).toArray,.pointer a_2,.int .i64 a3] w fun e w' => ∃ v,e = .returned v∧(∃ vo0:Value,v=vo0∧St A N w w' [oE vo0 r] [])) {A:Nat→Prop} {N:Oth} {w:World} {a0:PChecker} {a_0:Option Addr} {a1:PTerm} {s_1:SlV} {a2:List (ByteArray × Int)} {a_2:Option Addr} (S:St A N w w [] [oT a_0 a0.t,zf s_1 a1.sub,yl a_2 a2,oEt]) {r:Int × (Option (Int × List Int))} (H:zcR.g zdZ zdY a0 a1 a2=some r) :
  Calls PP yr #[.agg (Checker.C (⟨a_0⟩ : Checker)).toArray,.agg (Term.C (⟨a1.kind,a1.name,a1.other,a1.form,s_1⟩ : Term)).toArray,.pointer a_2] w fun e w' => ∃ v,e = .returned v∧(∃ vo0:Value,v = .tuple #[.int .i64 r.1,vo0]∧St A N w w' [oE vo0 r.2] []):=by
 unfold zcR.g at H
 refine zz (n:=175) fn_types_checker_told rfl rfl zbx (zd (za ?_))
 refine z1 rfl zbv fun b2 w1 hw1=>?_
 replace S:=S.new hw1
 refine z1 rfl zbv fun b4 w3 hw3=>?_
 replace S:=S.new hw3
 refine wd (zi rfl) (wd (zM rfl) (zb (zd (zd (za (wd (ze yc rfl (o':=0) rfl) (wd (zj xG rfl ((S.blk 0).cell (Term.get_kind _))) (zb ?_))))))))
 refine zO (zd (za (wd (zL rfl rfl) (wd (zn rfl) (zb ?_)))))
 refine zH rfl (fun hc5=>?_) (fun hc5=>?_)
 ·replace H:=if_t hc5 H
  refine zd (za (wd (zo rfl) (wd (ze yw rfl (o':=1) rfl) (wd (zj xt rfl ((S.blk 0).cell (Term.get_name _))) ?_))))
  obtain ⟨r6,er6,H⟩ := zt H
  obtain ⟨B8,MB8,SB8,back⟩ := S.calln 0 ((.z 2 rfl .nil))
  refine zu (zq ca_types_scope_find) zbv (types_scope_find_st SB8 er6) ?_
  rintro _ w7 ⟨v9,rfl,S2⟩
  replace S:=back _ _ _ _ S2 rfl
  clear back S2 SB8
  refine wd (zw rfl rfl) (wd (zw rfl rfl) (wd (zi rfl) (wd (zM rfl) (zb (zy ?_)))))
  refine ⟨_,(xx (zg rfl) (zg rfl)),?_⟩
  replace S:=S.arr [0] []
  obtain rfl:=zbz H
  exact ⟨v9,rfl,S⟩
 replace H:=if_f hc5 H
 refine zd (za (wd (zL rfl rfl) (wd (zn rfl) (zb ?_))))
 refine zH rfl (fun hc10=>?_) (fun hc10=>?_)
 ·replace H:=if_t hc10 H
  refine zd (za (wd (zp xz rfl ((S.blk 1).all _ (Checker.len _)) (Checker.len _)) (wd (zp zE rfl ((S.blk 0).all _ (Term.len _)) (Term.len _)) (wd (zo rfl) ?_))))
  obtain ⟨r11,er11,H⟩ := zt H
  obtain ⟨B13,MB13,SB13,back⟩ := S.calln 0 ((.z 0 rfl (.z 1 rfl (.z 2 rfl (.z 3 rfl .nil)))))
  refine zu (zq yR) zbv (yL zdP (a0:=a0) (a1:=a1) SB13 er11) ?_
  rintro _ w12 ⟨v14,rfl,S2⟩
  replace S:=back _ _ _ _ S2 rfl
  clear back S2 SB13
  refine wd (z7 rfl) (wd (zw rfl rfl) (wd (zw rfl rfl) ?_))
  refine xa v6 zbv fun b16 w15 hw15=>?_
  replace S:=S.new hw15
  refine zF xQ rfl rfl (S.blk 0) (Nd.len _) (by rw [Nd.len]; decide) (Nd.one _) (zV (Nd.len _)) fun w17 B hw17 zw17=>?_
  replace S:=S.store 0 B hw17
  clear B
  refine wd (zM rfl) (zb (zd (zd (za (wd (xg rfl) (wd (does_neE vZ rfl rfl (S.onO 1)) (zb ?_)))))))
  refine zH rfl (fun hc18=>?_) (fun hc18=>?_)
  ·replace H:=if_t hc18 H
   refine zd (za (wd (xg rfl) (wd (zi rfl) (wd (zM rfl) (zb (zy ?_))))))
   refine ⟨_,(xx (zg rfl) (zg rfl)),?_⟩
   replace S:=S.arr [1] []
   obtain rfl:=zbz H
   exact ⟨v14,rfl,S⟩
  replace H:=if_f hc18 H
  refine zA (zd ?_)
  obtain ⟨r19,er19,H⟩ := zt H
  refine zaV 8 [7]
   (fun i v u=>match i with
   | 7 => ∃ v20:Value,v=v20 ∧ ∃ F,(oE v20 r19).holds u F ∧ ∀ i,F i→w17.heap.size ≤ i
   | _=>True) hmix zby zby ?_ ?_
  ·intro i v u u' hi hx hv
   match i,hv with
   | 7,⟨b,e1,F,hb,hl⟩ => exact ⟨b,e1,F,OA.loc _ hb hx (fun _ _ x=>x),hl⟩
   | 0,_=>exact trivial
   | 1,_=>exact trivial
   | 2,_=>exact trivial
   | 3,_=>exact trivial
   | 4,_=>exact trivial
   | 5,_=>exact trivial
   | 6,_=>exact trivial
   | _ + 8,_=>exact trivial
  refine zX (fun v K=>ze xS rfl (o':=3) rfl) rfl (zX (fun v K=>zj zQ rfl (((S.ext K).blk 0).cell (Nd.get_r _))) rfl (zX (fun v K=>zp xz rfl (((S.ext K).blk 3).all _ (Checker.len _)) (Checker.len _)) rfl (zX (fun v K=>zp zE rfl (((S.ext K).blk 2).all _ (Term.len _)) (Term.len _)) rfl (zX (fun v K=>zo rfl) rfl (zX (fun v K=>ze xY rfl (o':=2) rfl) rfl (zX (fun v K=>zj zQ rfl (((S.ext K).blk 0).cell (Nd.get_l _))) rfl ?_))))))
  refine vL (fun g v K G=>(have ⟨M,SS⟩ := (S.ext K).lend ((.z 0 rfl (.z 1 rfl (.z 2 rfl (.z 3 rfl .nil))))); ⟨_,_,zN xL (zT rfl (zT rfl (zT rfl (zT rfl (zT rfl rfl))))),newc (xH zdO (a0:=a0) (a1:=a1) SS er19) fun _ _ ⟨v20,hv,h⟩ => ⟨h.frame,v20,hv,h.newP.elim fun F hF=>⟨F,hF.1,fun i hi=>by have:=hF.2 i hi; have:=K.size; omega⟩⟩⟩)) rfl ?_
  refine uJ fun g w21 K hV=>?_
  obtain ⟨v20,hv227,F7,hb7,hf7⟩ := hV 7 rfl zbv
  replace S:=S.add (b:=oE v20 r19) K hb7 hf7
  clear K hV
  refine wd (zi rfl) (wd (zM hv227) (zb (zy ?_)))
  refine ⟨_,(xx (zg rfl) (zg rfl)),?_⟩
  replace S:=S.arr [0] []
  obtain rfl:=zbz H
  exact ⟨v20,rfl,S⟩
 replace H:=if_f hc10 H
 refine zd (za (wd (zL rfl rfl) (wd (zn rfl) (zb ?_))))
 refine zH rfl (fun hc23=>?_) (fun hc23=>?_)
 ·replace H:=if_t hc23 H
  refine zd (za (wd (zp xz rfl ((S.blk 1).all _ (Checker.len _)) (Checker.len _)) (wd (zp zE rfl ((S.blk 0).all _ (Term.len _)) (Term.len _)) (wd (zo rfl) ?_))))
  obtain ⟨r24,er24,H⟩ := zt H
  obtain ⟨B26,MB26,SB26,back⟩ := S.calln 0 ((.z 0 rfl (.z 1 rfl (.z 2 rfl (.z 3 rfl .nil)))))
  refine zu (zq yR) zbv (yL zdP (a0:=a0) (a1:=a1) SB26 er24) ?_
  rintro _ w25 ⟨v27,rfl,S2⟩
  replace S:=back _ _ _ _ S2 rfl
  clear back S2 SB26
  refine wd (z7 rfl) (wd (zw rfl rfl) (wd (zw rfl rfl) ?_))
  refine xa v6 zbv fun b29 w28 hw28=>?_
  replace S:=S.new hw28
  refine zF xQ rfl rfl (S.blk 0) (Nd.len _) (by rw [Nd.len]; decide) (Nd.one _) (zV (Nd.len _)) fun w30 B hw30 zw30=>?_
  replace S:=S.store 0 B hw30
  clear B
  refine wd (zM rfl) (zb (zd (za (wd (ze xY rfl (o':=2) rfl) (wd (zj zQ rfl ((S.blk 0).cell (Nd.get_l _))) (wd (xg rfl) (wd (zi rfl) (wd (zM rfl) (zb (zy ?_))))))))))
  refine ⟨_,(xx (zg rfl) (zg rfl)),?_⟩
  replace S:=S.arr [1] []
  obtain rfl:=zbz H
  exact ⟨v27,rfl,S⟩
 replace H:=if_f hc23 H
 refine zd (za (wd (zL rfl rfl) (wd (zn rfl) (zb ?_))))
 refine zH rfl (fun hc31=>?_) (fun hc31=>?_)
 ·replace H:=if_t hc31 H
  refine zd (za (wd (zp xz rfl ((S.blk 1).all _ (Checker.len _)) (Checker.len _)) (wd (zp zE rfl ((S.blk 0).all _ (Term.len _)) (Term.len _)) (wd (zo rfl) ?_))))
  obtain ⟨r32,er32,H⟩ := zt H
  obtain ⟨B34,MB34,SB34,back⟩ := S.calln 0 ((.z 0 rfl (.z 1 rfl (.z 2 rfl (.z 3 rfl .nil)))))
  refine zu (zq yR) zbv (yL zdP (a0:=a0) (a1:=a1) SB34 er32) ?_
  rintro _ w33 ⟨v35,rfl,S2⟩
  replace S:=back _ _ _ _ S2 rfl
  clear back S2 SB34
  refine wd (z7 rfl) (wd (zw rfl rfl) (wd (zw rfl rfl) ?_))
  refine xa v6 zbv fun b37 w36 hw36=>?_
  replace S:=S.new hw36
  refine zF xQ rfl rfl (S.blk 0) (Nd.len _) (by rw [Nd.len]; decide) (Nd.one _) (zV (Nd.len _)) fun w38 B hw38 zw38=>?_
  replace S:=S.store 0 B hw38
  clear B
  refine wd (zM rfl) (zb (zd (za (wd (ze xS rfl (o':=3) rfl) (wd (zj zQ rfl ((S.blk 0).cell (Nd.get_r _))) (wd (xg rfl) (wd (zi rfl) (wd (zM rfl) (zb (zy ?_))))))))))
  refine ⟨_,(xx (zg rfl) (zg rfl)),?_⟩
  replace S:=S.arr [1] []
  obtain rfl:=zbz H
  exact ⟨v35,rfl,S⟩
 replace H:=if_f hc31 H
 refine zd (za (wd (zL rfl rfl) (wd (zn rfl) (zb ?_))))
 refine zH rfl (fun hc39=>?_) (fun hc39=>?_)
 ·replace H:=if_t hc39 H
  refine zd (zd (za (wd (ze fl_Checker_t rfl (o':=0) rfl) (wd (zj xI rfl ((S.blk 1).cell (Checker.get_t _))) (wd (ze yX rfl (o':=3) rfl) (wd (zj zQ rfl ((S.blk 0).cell (Term.get_form _))) ?_))))))
  obtain ⟨r40,er40,H⟩ := zt H
  obtain ⟨B42,MB42,SB42,back⟩ := S.calln 0 ((.z 0 rfl .nil))
  refine zu (zq yC) zbv (yF SB42 er40) ?_
  rintro _ w41 ⟨rfl,S2⟩
  replace S:=back _ _ _ _ S2 rfl
  clear back S2 SB42
  refine wd (z7 rfl) (wd (zw rfl rfl) (wd (zw rfl rfl) ?_))
  refine xa v6 zbv fun b44 w43 hw43=>?_
  replace S:=S.new hw43
  refine zF xQ rfl rfl (S.blk 0) (Nd.len _) (by rw [Nd.len]; decide) (Nd.one _) (zV (Nd.len _)) fun w45 B hw45 zw45=>?_
  replace S:=S.store 0 B hw45
  clear B
  refine wd (zn rfl) (zb (zd (za (wd (zD rfl) (wd (xh rfl) (zb ?_))))))
  refine zH rfl (fun hc46=>?_) (fun hc46=>?_)
  ·replace H:=if_t hc46 H
   refine zd (za (wd (Does.to (v' := .agg (Refusal.C (⟨31,SlV.nil⟩ : Refusal)).toArray) (xo (vs:=[(0,.int .i64 31)]) kx (xJ rfl rfl) (Bld.one rfl rfl (by rw [Refusal.len]; decide) (Refusal.set_code _ _) Bld.nil)) rfl) ?_))
   refine z1 rfl zbv fun b48 w47 hw47=>?_
   replace S:=S.new hw47
   refine wd (does_makeInterface rfl) ?_
   replace S:=((S.nil yg 1 IC).front 1).mkE
   refine wd (zi rfl) (wd (zM rfl) (zb (zy ?_)))
   refine ⟨_,(xx (zg rfl) (zg rfl)),?_⟩
   replace S:=S.arr [0] []
   obtain rfl:=zbz H
   exact ⟨(.iface x8 (.pointer (some ⟨b48,0,none⟩))),rfl,S⟩
  replace H:=if_f hc46 H
  refine zA (zd ?_)
  obtain ⟨r49,er49,H⟩ := zt H
  refine zaV 8 [7]
   (fun i v u=>match i with
   | 7 => ∃ v50:Value,v=v50 ∧ ∃ F,(oE v50 r49).holds u F ∧ ∀ i,F i→w45.heap.size ≤ i
   | _=>True) hmix zby zby ?_ ?_
  ·intro i v u u' hi hx hv
   match i,hv with
   | 7,⟨b,e1,F,hb,hl⟩ => exact ⟨b,e1,F,OA.loc _ hb hx (fun _ _ x=>x),hl⟩
   | 0,_=>exact trivial
   | 1,_=>exact trivial
   | 2,_=>exact trivial
   | 3,_=>exact trivial
   | 4,_=>exact trivial
   | 5,_=>exact trivial
   | 6,_=>exact trivial
   | _ + 8,_=>exact trivial
  refine zX (fun v K=>ze yX rfl (o':=3) rfl) rfl (zX (fun v K=>zj zQ rfl (((S.ext K).blk 1).cell (Term.get_form _))) rfl (zX (fun v K=>zp xz rfl (((S.ext K).blk 2).all _ (Checker.len _)) (Checker.len _)) rfl (zX (fun v K=>zp zE rfl (((S.ext K).blk 1).all _ (Term.len _)) (Term.len _)) rfl (zX (fun v K=>zo rfl) rfl (zX (fun v K=>ze yX rfl (o':=3) rfl) rfl (zX (fun v K=>zj zQ rfl (((S.ext K).blk 1).cell (Term.get_form _))) rfl ?_))))))
  refine vL (fun g v K G=>(have ⟨M,SS⟩ := (S.ext K).lend ((.z 0 rfl (.z 1 rfl (.z 2 rfl (.z 3 rfl .nil))))); ⟨_,_,zN xL (zT rfl (zT rfl (zT rfl (zT rfl (zT rfl rfl))))),newc (xH zdO (a0:=a0) (a1:=a1) SS er49) fun _ _ ⟨v50,hv,h⟩ => ⟨h.frame,v50,hv,h.newP.elim fun F hF=>⟨F,hF.1,fun i hi=>by have:=hF.2 i hi; have:=K.size; omega⟩⟩⟩)) rfl ?_
  refine uJ fun g w51 K hV=>?_
  obtain ⟨v50,hv527,F7,hb7,hf7⟩ := hV 7 rfl zbv
  replace S:=S.add (b:=oE v50 r49) K hb7 hf7
  clear K hV
  refine wd (zi rfl) (wd (zM hv527) (zb (zy ?_)))
  refine ⟨_,(xx (zg rfl) (zg rfl)),?_⟩
  replace S:=S.arr [0] []
  obtain rfl:=zbz H
  exact ⟨v50,rfl,S⟩
 replace H:=if_f hc39 H
 refine zd (za (wd (zL rfl rfl) (wd (zn rfl) (zb ?_))))
 refine zH rfl (fun hc53=>?_) (fun hc53=>?_)
 ·replace H:=if_t hc53 H
  refine zd (za (wd (zp xz rfl ((S.blk 1).all _ (Checker.len _)) (Checker.len _)) (wd (zp zE rfl ((S.blk 0).all _ (Term.len _)) (Term.len _)) (wd (zo rfl) ?_))))
  obtain ⟨r54,er54,H⟩ := zt H
  obtain ⟨B56,MB56,SB56,back⟩ := S.calln 0 ((.z 0 rfl (.z 1 rfl (.z 2 rfl (.z 3 rfl .nil)))))
  refine zu (zq yS) zbv (yM zdP (a0:=a0) (a1:=a1) SB56 er54) ?_
  rintro _ w55 ⟨v57,rfl,S2⟩
  replace S:=back _ _ _ _ S2 rfl
  clear back S2 SB56
  refine wd (z7 rfl) (wd (zw rfl rfl) (wd (zw rfl rfl) (wd (zi rfl) (wd (zM rfl) (zb (zd (zd (za (wd (xg rfl) (wd (does_neE vZ rfl rfl (S.onO 0)) (zb ?_)))))))))))
  refine zH rfl (fun hc58=>?_) (fun hc58=>?_)
  ·replace H:=if_t hc58 H
   refine zd (za (wd (xg rfl) (wd (zi rfl) (wd (zM rfl) (zb (zy ?_))))))
   refine ⟨_,(xx (zg rfl) (zg rfl)),?_⟩
   replace S:=S.arr [0] []
   obtain rfl:=zbz H
   exact ⟨v57,rfl,S⟩
  replace H:=if_f hc58 H
  refine zA (zd ?_)
  refine wc_ws hmix fun w62 K=>?_
  replace S:=S.ext K
  clear K
  refine kI 0 7 [6] zby zbv zby
   (V:=fun i v u=>match i with
   | 6 => ∃ b:Nat,v=Value.pointer (some ⟨b,0,none⟩)∧Blk u b uq (Scope.C ⟨a1.name,r54.1,a_2⟩)∧w62.heap.size ≤ b
   | _=>True) ?_ ?_
  ·intro i v u u' hi hx hv
   match i,hv with
   | 6,⟨b,e1,hb,hl⟩ => exact ⟨b,e1,hb.ext hx,hl⟩
   | 0,_=>exact trivial
   | 1,_=>exact trivial
   | 2,_=>exact trivial
   | 3,_=>exact trivial
   | 4,_=>exact trivial
   | 5,_=>exact trivial
   | _ + 7,_=>exact trivial
  refine zX (fun v K=>zp xz rfl (((S.ext K).blk 2).all _ (Checker.len _)) (Checker.len _)) rfl (zX (fun v K=>zp zE rfl (((S.ext K).blk 1).all _ (Term.len _)) (Term.len _)) rfl (zX (fun v K=>zo rfl) rfl (zX (fun v K=>ze yw rfl (o':=1) rfl) rfl (zX (fun v K=>zj xt rfl (((S.ext K).blk 1).cell (Term.get_name _))) rfl (zX (fun v K=>zh rfl) rfl ?_)))))
  refine vL (fun g v K G=>⟨_,_,zN yA (zT rfl (zT rfl (zT rfl rfl))),newc (yB _ _ _ _) fun _ _ ⟨b,hv,hx,hb,hl⟩ => ⟨hx,b,hv,hb,by have:=K.size; omega⟩⟩) rfl ?_
  refine uJ fun g w64 K hV=>?_
  obtain ⟨b63,hv656,hb6,hf6⟩ := hV 6 rfl zbv
  replace S:=(S.newAt K hb6 hf6).pushScope 0 2
  clear K hV
  refine ws_chain 7 8 zby zbv ?_
  obtain ⟨r66,er66,H⟩ := zt H
  obtain ⟨B68,MB68,SB68,back⟩ := S.calln 0 ((.z 1 rfl (.z 2 rfl (.z 0 rfl (.z 4 rfl .nil)))))
  refine zu (zN yS (zT rfl (zT rfl (zT rfl (zT hv656 rfl))))) zbv (yM zdP (a0:=a0) (a1:=a1) SB68 er66) ?_
  rintro _ w67 ⟨v69,rfl,S2⟩
  replace S:=back _ _ _ _ S2 rfl
  clear back S2 SB68
  refine zb ⟨rfl,?_⟩
  refine kI 8 10 [] zby zbv zby
   (V:=fun i v u=>match i with
   | _=>True) ?_ ?_
  ·intro i v u u' hi hx hv
   match i,hv with
   | _,_=>exact trivial
  refine zX (fun v K=>zw rfl rfl) rfl (zX (fun v K=>zw rfl rfl) rfl ?_)
  refine uJ fun g w70 K hV=>?_
  replace S:=S.ext K
  clear K hV
  refine ws_tail 10 zby zbv (wd (zi rfl) (wd (zM rfl) (zb (zy ?_))))
  refine ⟨_,(xx (zg rfl) (zg rfl)),?_⟩
  replace S:=S.arr [0] []
  obtain rfl:=zbz H
  exact ⟨v69,rfl,S⟩
 replace H:=if_f hc53 H
 refine zd (za (wd (zL rfl rfl) (wd (zn rfl) (zb ?_))))
 refine zH rfl (fun hc72=>?_) (fun hc72=>?_)
 ·replace H:=if_t hc72 H
  refine zd (za (wd (zp xz rfl ((S.blk 1).all _ (Checker.len _)) (Checker.len _)) (wd (zp zE rfl ((S.blk 0).all _ (Term.len _)) (Term.len _)) (wd (zo rfl) ?_))))
  obtain ⟨r73,er73,H⟩ := zt H
  obtain ⟨B75,MB75,SB75,back⟩ := S.calln 0 ((.z 0 rfl (.z 1 rfl (.z 2 rfl (.z 3 rfl .nil)))))
  refine zu (zq yR) zbv (yL zdP (a0:=a0) (a1:=a1) SB75 er73) ?_
  rintro _ w74 ⟨v76,rfl,S2⟩
  replace S:=back _ _ _ _ S2 rfl
  clear back S2 SB75
  refine wd (z7 rfl) (wd (zw rfl rfl) (wd (zw rfl rfl) ?_))
  refine xa v6 zbv fun b78 w77 hw77=>?_
  replace S:=S.new hw77
  refine zF xQ rfl rfl (S.blk 0) (Nd.len _) (by rw [Nd.len]; decide) (Nd.one _) (zV (Nd.len _)) fun w79 B hw79 zw79=>?_
  replace S:=S.store 0 B hw79
  clear B
  refine wd (zM rfl) (zb (zd (zd (za (wd (xg rfl) (wd (does_neE vZ rfl rfl (S.onO 1)) (zb ?_)))))))
  refine zH rfl (fun hc80=>?_) (fun hc80=>?_)
  ·replace H:=if_t hc80 H
   refine zd (za (wd (xg rfl) (wd (zi rfl) (wd (zM rfl) (zb (zy ?_))))))
   refine ⟨_,(xx (zg rfl) (zg rfl)),?_⟩
   replace S:=S.arr [1] []
   obtain rfl:=zbz H
   exact ⟨v76,rfl,S⟩
  replace H:=if_f hc80 H
  refine zA (zd ?_)
  refine wc_ws hmix fun w84 K=>?_
  replace S:=S.ext K
  clear K
  refine kI 0 8 [7] zby zbv zby
   (V:=fun i v u=>match i with
   | 7 => ∃ b:Nat,v=Value.pointer (some ⟨b,0,none⟩)∧Blk u b uq (Scope.C ⟨a1.name,r73.1.l,a_2⟩)∧w84.heap.size ≤ b
   | _=>True) ?_ ?_
  ·intro i v u u' hi hx hv
   match i,hv with
   | 7,⟨b,e1,hb,hl⟩ => exact ⟨b,e1,hb.ext hx,hl⟩
   | 0,_=>exact trivial
   | 1,_=>exact trivial
   | 2,_=>exact trivial
   | 3,_=>exact trivial
   | 4,_=>exact trivial
   | 5,_=>exact trivial
   | 6,_=>exact trivial
   | _ + 8,_=>exact trivial
  refine zX (fun v K=>zp xz rfl (((S.ext K).blk 3).all _ (Checker.len _)) (Checker.len _)) rfl (zX (fun v K=>zp zE rfl (((S.ext K).blk 2).all _ (Term.len _)) (Term.len _)) rfl (zX (fun v K=>zo rfl) rfl (zX (fun v K=>ze yw rfl (o':=1) rfl) rfl (zX (fun v K=>zj xt rfl (((S.ext K).blk 2).cell (Term.get_name _))) rfl (zX (fun v K=>ze xY rfl (o':=2) rfl) rfl (zX (fun v K=>zj zQ rfl (((S.ext K).blk 0).cell (Nd.get_l _))) rfl ?_))))))
  refine vL (fun g v K G=>⟨_,_,zN yA (zT rfl (zT rfl (zT rfl rfl))),newc (yB _ _ _ _) fun _ _ ⟨b,hv,hx,hb,hl⟩ => ⟨hx,b,hv,hb,by have:=K.size; omega⟩⟩) rfl ?_
  refine uJ fun g w86 K hV=>?_
  obtain ⟨b85,hv877,hb7,hf7⟩ := hV 7 rfl zbv
  replace S:=(S.newAt K hb7 hf7).pushScope 0 2
  clear K hV
  refine ws_chain 8 10 zby zbv ?_
  obtain ⟨r88,er88,H⟩ := zt H
  obtain ⟨B90,MB90,SB90,back⟩ := S.calln 0 ((.z 1 rfl (.z 2 rfl (.z 0 rfl (.z 4 rfl .nil)))))
  refine zu (zN yS (zT rfl (zT rfl (zT rfl (zT hv877 rfl))))) zbv (yM zdP (a0:=a0) (a1:=a1) SB90 er88) ?_
  rintro _ w89 ⟨v91,rfl,S2⟩
  replace S:=back _ _ _ _ S2 rfl
  clear back S2 SB90
  refine wd (z7 rfl) (zb ⟨rfl,?_⟩)
  refine kI 10 13 [] zby zbv zby
   (V:=fun i v u=>match i with
   | _=>True) ?_ ?_
  ·intro i v u u' hi hx hv
   match i,hv with
   | _,_=>exact trivial
  refine zX (fun v K=>zw rfl rfl) rfl (zX (fun v K=>zw rfl rfl) rfl (zX (fun v K=>zi rfl) rfl ?_))
  refine uJ fun g w92 K hV=>?_
  replace S:=S.ext K
  clear K hV
  refine ws_tail 13 zby zbv (wd (zM rfl) (zb (zd (zd (za (wd (xg rfl) (wd (does_neE vZ rfl rfl (S.onO 0)) (zb ?_))))))))
  refine zH rfl (fun hc94=>?_) (fun hc94=>?_)
  ·replace H:=if_t hc94 H
   refine zd (za (wd (xg rfl) (wd (zi rfl) (wd (zM rfl) (zb (zy ?_))))))
   refine ⟨_,(xx (zg rfl) (zg rfl)),?_⟩
   replace S:=S.arr [0] []
   obtain rfl:=zbz H
   exact ⟨v91,rfl,S⟩
  replace H:=if_f hc94 H
  refine zA (zd ?_)
  refine wc_ws hmix fun w98 K=>?_
  replace S:=S.ext K
  clear K
  refine kI 0 8 [7] zby zbv zby
   (V:=fun i v u=>match i with
   | 7 => ∃ b:Nat,v=Value.pointer (some ⟨b,0,none⟩)∧Blk u b uq (Scope.C ⟨a1.other,r73.1.r,a_2⟩)∧w98.heap.size ≤ b
   | _=>True) ?_ ?_
  ·intro i v u u' hi hx hv
   match i,hv with
   | 7,⟨b,e1,hb,hl⟩ => exact ⟨b,e1,hb.ext hx,hl⟩
   | 0,_=>exact trivial
   | 1,_=>exact trivial
   | 2,_=>exact trivial
   | 3,_=>exact trivial
   | 4,_=>exact trivial
   | 5,_=>exact trivial
   | 6,_=>exact trivial
   | _ + 8,_=>exact trivial
  refine zX (fun v K=>zp xz rfl (((S.ext K).blk 4).all _ (Checker.len _)) (Checker.len _)) rfl (zX (fun v K=>zp zE rfl (((S.ext K).blk 3).all _ (Term.len _)) (Term.len _)) rfl (zX (fun v K=>zo rfl) rfl (zX (fun v K=>ze vg rfl (o':=2) rfl) rfl (zX (fun v K=>zj xt rfl (((S.ext K).blk 3).cell (Term.get_other _))) rfl (zX (fun v K=>ze xS rfl (o':=3) rfl) rfl (zX (fun v K=>zj zQ rfl (((S.ext K).blk 1).cell (Nd.get_r _))) rfl ?_))))))
  refine vL (fun g v K G=>⟨_,_,zN yA (zT rfl (zT rfl (zT rfl rfl))),newc (yB _ _ _ _) fun _ _ ⟨b,hv,hx,hb,hl⟩ => ⟨hx,b,hv,hb,by have:=K.size; omega⟩⟩) rfl ?_
  refine uJ fun g w100 K hV=>?_
  obtain ⟨b99,hv1017,hb7,hf7⟩ := hV 7 rfl zbv
  replace S:=(S.newAt K hb7 hf7).pushScope 0 3
  clear K hV
  refine ws_chain 8 10 zby zbv ?_
  obtain ⟨r102,er102,H⟩ := zt H
  obtain ⟨B104,MB104,SB104,back⟩ := S.calln 0 ((.z 2 rfl (.z 3 rfl (.z 0 rfl (.z 5 rfl .nil)))))
  refine zu (zN yS (zT rfl (zT rfl (zT rfl (zT hv1017 rfl))))) zbv (yM zdP (a0:=a0) (a1:=a1) SB104 er102) ?_
  rintro _ w103 ⟨v105,rfl,S2⟩
  replace S:=back _ _ _ _ S2 rfl
  clear back S2 SB104
  refine wd (z7 rfl) (zb ⟨rfl,?_⟩)
  refine kI 10 13 [] zby zbv zby
   (V:=fun i v u=>match i with
   | _=>True) ?_ ?_
  ·intro i v u u' hi hx hv
   match i,hv with
   | _,_=>exact trivial
  refine zX (fun v K=>zw rfl rfl) rfl (zX (fun v K=>zw rfl rfl) rfl (zX (fun v K=>zi rfl) rfl ?_))
  refine uJ fun g w106 K hV=>?_
  replace S:=S.ext K
  clear K hV
  refine ws_tail 13 zby zbv (wd (zM rfl) (zb (zd (zd (za (wd (xg rfl) (wd (does_eqE vZ rfl rfl (S.onO 0)) (wd (zD rfl) ?_))))))))
  refine wg (fun hg=>zh rfl) ?_
  refine wg (fun hg=>zh rfl) ?_
  refine wg (fun hg=>xj (zm hg) (zm hg)) (wd (xc rfl (fun hp=>(zm (xk hp)))) (zb ?_))
  refine zH rfl (fun hc108=>?_) (fun hc108=>?_)
  ·replace H:=if_t hc108 H
   refine za (wd (Does.to (v' := .agg (Refusal.C (⟨130,SlV.nil⟩ : Refusal)).toArray) (xo (vs:=[(0,.int .i64 130)]) kx (xJ rfl rfl) (Bld.one rfl rfl (by rw [Refusal.len]; decide) (Refusal.set_code _ _) Bld.nil)) rfl) ?_)
   refine z1 rfl zbv fun b110 w109 hw109=>?_
   replace S:=S.new hw109
   refine wd (does_makeInterface rfl) ?_
   replace S:=((S.nil yg 1 IC).front 1).mkE
   refine wd (zM rfl) (zb (zd (za (wd (zh rfl) (wd (xg rfl) (wd (zi rfl) (wd (zM rfl) (zb (zy ?_)))))))))
   refine ⟨_,(xx (zg rfl) (zg rfl)),?_⟩
   replace S:=S.arr [0] []
   obtain rfl:=zbz H
   exact ⟨(.iface x8 (.pointer (some ⟨b110,0,none⟩))),rfl,S⟩
  ·replace H:=if_f hc108 H
   refine zA (zd (za (wd (zh rfl) (wd (xg rfl) (wd (zi rfl) (wd (zM rfl) (zb (zy ?_))))))))
   refine ⟨_,(xx (zg rfl) (zg rfl)),?_⟩
   replace S:=S.arr [0] []
   obtain rfl:=zbz H
   exact ⟨v105,rfl,S⟩
 replace H:=if_f hc72 H
 refine zA (zd (za (wd (Does.to (v' := .agg (Refusal.C (⟨132,SlV.nil⟩ : Refusal)).toArray) (xo (vs:=[(0,.int .i64 132)]) kx (xJ rfl rfl) (Bld.one rfl rfl (by rw [Refusal.len]; decide) (Refusal.set_code _ _) Bld.nil)) rfl) ?_)))
 refine z1 rfl zbv fun b112 w111 hw111=>?_
 replace S:=S.new hw111
 refine wd (does_makeInterface rfl) ?_
 replace S:=((S.nil yg 1 IC).front 1).mkE
 refine wd (zi rfl) (wd (zM rfl) (zb (zy ?_)))
 refine ⟨_,(xx (zg rfl) (zg rfl)),?_⟩
 replace S:=S.arr [0] []
 obtain rfl:=zbz H
 exact ⟨(.iface x8 (.pointer (some ⟨b112,0,none⟩))),rfl,S⟩
theorem zaO {zdZ:PChecker→PTerm→(List (ByteArray × Int))→Option (Int × (Option (Int × List Int)))} (zdP : ∀ {A:Nat→Prop} {N:Oth} {w:World} {a0:PChecker} {a_0:Option Addr} {a1:PTerm} {s_1:SlV} {a2:List (ByteArray × Int)} {a_2:Option Addr} (S:St A N w w [] [oT a_0 a0.t,zf s_1 a1.sub,yl a_2 a2,oEt]) {r:Int × (Option (Int × List Int))} (H:zdZ a0 a1 a2=some r),Calls PP yr #[.agg (Checker.C (⟨a_0⟩ : Checker)).toArray,.agg (Term.C (⟨a1.kind,a1.name,a1.other,a1.form,s_1⟩ : Term)).toArray,.pointer a_2] w fun e w' => ∃ v,e = .returned v∧(∃ vo0:Value,v = .tuple #[.int .i64 r.1,vo0]∧St A N w w' [oE vo0 r.2] [])) {zdY:PChecker→PTerm→(List (ByteArray × Int))→Int→Option (Option (Int × List Int))} (zdO : ∀ {A:Nat→Prop} {N:Oth} {w:World} {a0:PChecker} {a_0:Option Addr} {a1:PTerm} {s_1:SlV} {a2:List (ByteArray × Int)} {a_2:Option Addr} {a3:Int} (S:St A N w w [] [oT a_0 a0.t,zf s_1 a1.sub,yl a_2 a2,oEt]) {r:(Option (Int × List Int))} (H:zdY a0 a1 a2 a3=some r),Calls PP yn #[.agg (Checker.C (⟨a_0⟩ : Checker)).toArray,.agg (Term.C (⟨a1.kind,a1.name,a1.other,a1.form,s_1⟩ : Term)).toArray,.pointer a_2,.int .i64 a3] w fun e w' => ∃ v,e = .returned v∧(∃ vo0:Value,v=vo0∧St A N w w' [oE vo0 r] [])) {A:Nat→Prop} {N:Oth} {w:World} {a0:PChecker} {a_0:Option Addr} {a1:PTerm} {s_1:SlV} {a2:List (ByteArray × Int)} {a_2:Option Addr} {a3:Int} (S:St A N w w [] [oT a_0 a0.t,zf s_1 a1.sub,yl a_2 a2,oEt]) {r:(Option (Int × List Int))} (H:zcS.g zdZ zdY a0 a1 a2 a3=some r) :
  Calls PP yn #[.agg (Checker.C (⟨a_0⟩ : Checker)).toArray,.agg (Term.C (⟨a1.kind,a1.name,a1.other,a1.form,s_1⟩ : Term)).toArray,.pointer a_2,.int .i64 a3] w fun e w' => ∃ v,e = .returned v∧(∃ vo0:Value,v=vo0∧St A N w w' [oE vo0 r] []):=by
 unfold zcS.g at H
 refine zz (n:=186) zbd rfl rfl zbx (zd (za ?_))
 refine z1 rfl zbv fun b2 w1 hw1=>?_
 replace S:=S.new hw1
 refine z1 rfl zbv fun b4 w3 hw3=>?_
 replace S:=S.new hw3
 refine wd (zM rfl) (zb (zd (zd (za (wd (ze yc rfl (o':=0) rfl) (wd (zj xG rfl ((S.blk 0).cell (Term.get_kind _))) (zb ?_)))))))
 refine zO (zd (za (wd (zL rfl rfl) (wd (zn rfl) (zb ?_)))))
 refine zH rfl (fun hc5=>?_) (fun hc5=>?_)
 ·replace H:=if_t hc5 H
  refine zd (za (wd (zp xz rfl ((S.blk 1).all _ (Checker.len _)) (Checker.len _)) (wd (zh rfl) ?_)))
  obtain ⟨r6,er6,H⟩ := zt H
  obtain ⟨B8,MB8,SB8,back⟩ := S.calln 0 ((.z 0 rfl .nil))
  refine zu (zq vN) zbv (vP (a0:=a0) SB8 er6) ?_
  rintro _ w7 ⟨v9,rfl,S2⟩
  replace S:=back _ _ _ _ S2 rfl
  clear back S2 SB8
  refine wd (z7 rfl) (wd (zw rfl rfl) (wd (zw rfl rfl) ?_))
  refine xa v6 zbv fun b11 w10 hw10=>?_
  replace S:=S.new hw10
  refine zF xQ rfl rfl (S.blk 0) (Nd.len _) (by rw [Nd.len]; decide) (Nd.one _) (zV (Nd.len _)) fun w12 B hw12 zw12=>?_
  replace S:=S.store 0 B hw12
  clear B
  refine wd (zM rfl) (zb (zd (zd (za (wd (xg rfl) (wd (does_neE vZ rfl rfl (S.onO 1)) (zb ?_)))))))
  refine zH rfl (fun hc13=>?_) (fun hc13=>?_)
  ·replace H:=if_t hc13 H
   refine zd (za (wd (xg rfl) (wd (zM rfl) (zb (zy ?_)))))
   refine ⟨_,(zS (zg rfl)),?_⟩
   replace S:=S.arr [1] []
   obtain rfl:=zbz H
   exact ⟨v9,rfl,S⟩
  replace H:=if_f hc13 H
  refine zA (zd ?_)
  refine zaV 10 [7]
   (fun i v u=>match i with
   | 7 => ∃ b:Nat,v=Value.pointer (some ⟨b,0,none⟩)∧Blk u b uq (Scope.C ⟨a1.name,r6.1.l,a_2⟩)∧w12.heap.size ≤ b
   | _=>True) hmix zby zby ?_ ?_
  ·intro i v u u' hi hx hv
   match i,hv with
   | 7,⟨b,e1,hb,hl⟩ => exact ⟨b,e1,hb.ext hx,hl⟩
   | 0,_=>exact trivial
   | 1,_=>exact trivial
   | 2,_=>exact trivial
   | 3,_=>exact trivial
   | 4,_=>exact trivial
   | 5,_=>exact trivial
   | 6,_=>exact trivial
   | _ + 8,_=>exact trivial
  refine zX (fun v K=>zp xz rfl (((S.ext K).blk 3).all _ (Checker.len _)) (Checker.len _)) rfl (zX (fun v K=>zp zE rfl (((S.ext K).blk 2).all _ (Term.len _)) (Term.len _)) rfl (zX (fun v K=>zo rfl) rfl (zX (fun v K=>ze yw rfl (o':=1) rfl) rfl (zX (fun v K=>zj xt rfl (((S.ext K).blk 2).cell (Term.get_name _))) rfl (zX (fun v K=>ze xY rfl (o':=2) rfl) rfl (zX (fun v K=>zj zQ rfl (((S.ext K).blk 0).cell (Nd.get_l _))) rfl ?_))))))
  refine vL (fun g v K G=>⟨_,_,zN yA (zT rfl (zT rfl (zT rfl rfl))),newc (yB _ _ _ _) fun _ _ ⟨b,hv,hx,hb,hl⟩ => ⟨hx,b,hv,hb,by have:=K.size; omega⟩⟩) rfl (zX (fun v K=>ze xS rfl (o':=3) rfl) rfl (zX (fun v K=>zj zQ rfl (((S.ext K).blk 0).cell (Nd.get_r _))) rfl ?_))
  refine uJ fun g w15 K hV=>?_
  obtain ⟨b14,hv167,hb7,hf7⟩ := hV 7 rfl zbv
  replace S:=(S.newAt K hb7 hf7).pushScope 0 2
  clear K hV
  obtain ⟨r17,er17,H⟩ := zt H
  obtain ⟨B19,MB19,SB19,back⟩ := S.calln 0 ((.z 1 rfl (.z 2 rfl (.z 0 rfl (.z 4 rfl .nil)))))
  refine zu (zN xL (zT rfl (zT rfl (zT rfl (zT hv167 (zT rfl rfl)))))) zbv (xH zdO (a0:=a0) (a1:=a1) SB19 er17) ?_
  rintro v20 w18 ⟨_,rfl,S2⟩
  replace S:=back _ _ _ _ S2 rfl
  clear back S2 SB19
  refine wd (zM rfl) (zb (zy ?_))
  refine ⟨_,(zS (zg rfl)),?_⟩
  replace S:=S.arr [0] []
  obtain rfl:=zbz H
  exact ⟨v20,rfl,S⟩
 replace H:=if_f hc5 H
 refine zd (za (wd (zL rfl rfl) (wd (zn rfl) (zb ?_))))
 refine zH rfl (fun hc21=>?_) (fun hc21=>?_)
 ·replace H:=if_t hc21 H
  refine zd (za (wd (zp xz rfl ((S.blk 1).all _ (Checker.len _)) (Checker.len _)) (wd (zh rfl) ?_)))
  obtain ⟨r22,er22,H⟩ := zt H
  obtain ⟨B24,MB24,SB24,back⟩ := S.calln 0 ((.z 0 rfl .nil))
  refine zu (zq vN) zbv (vP (a0:=a0) SB24 er22) ?_
  rintro _ w23 ⟨v25,rfl,S2⟩
  replace S:=back _ _ _ _ S2 rfl
  clear back S2 SB24
  refine wd (z7 rfl) (wd (zw rfl rfl) (wd (zw rfl rfl) ?_))
  refine xa v6 zbv fun b27 w26 hw26=>?_
  replace S:=S.new hw26
  refine zF xQ rfl rfl (S.blk 0) (Nd.len _) (by rw [Nd.len]; decide) (Nd.one _) (zV (Nd.len _)) fun w28 B hw28 zw28=>?_
  replace S:=S.store 0 B hw28
  clear B
  refine wd (zM rfl) (zb (zd (zd (za (wd (xg rfl) (wd (does_neE vZ rfl rfl (S.onO 1)) (zb ?_)))))))
  refine zH rfl (fun hc29=>?_) (fun hc29=>?_)
  ·replace H:=if_t hc29 H
   refine zd (za (wd (xg rfl) (wd (zM rfl) (zb (zy ?_)))))
   refine ⟨_,(zS (zg rfl)),?_⟩
   replace S:=S.arr [1] []
   obtain rfl:=zbz H
   exact ⟨v25,rfl,S⟩
  replace H:=if_f hc29 H
  refine zA (zd (zd (za (wd (zp xz rfl ((S.blk 3).all _ (Checker.len _)) (Checker.len _)) (wd (zp zE rfl ((S.blk 2).all _ (Term.len _)) (Term.len _)) (wd (zo rfl) (wd (ze xY rfl (o':=2) rfl) (wd (zj zQ rfl ((S.blk 0).cell (Nd.get_l _))) ?_))))))))
  obtain ⟨r30,er30,H⟩ := zt H
  obtain ⟨B32,MB32,SB32,back⟩ := S.calln 0 ((.z 0 rfl (.z 1 rfl (.z 2 rfl (.z 3 rfl .nil)))))
  refine zu (zq xL) zbv (xH zdO (a0:=a0) (a1:=a1) SB32 er30) ?_
  rintro v33 w31 ⟨_,rfl,S2⟩
  replace S:=back _ _ _ _ S2 rfl
  clear back S2 SB32
  refine wd (zM rfl) (zb (zd (za (wd (xg rfl) (wd (does_neE vZ rfl rfl (S.onO 0)) (zb ?_))))))
  refine zH rfl (fun hc34=>?_) (fun hc34=>?_)
  ·replace H:=if_t hc34 H
   refine zd (za (wd (xg rfl) (wd (zM rfl) (zb (zy ?_)))))
   refine ⟨_,(zS (zg rfl)),?_⟩
   replace S:=S.arr [0] []
   obtain rfl:=zbz H
   exact ⟨v33,rfl,S⟩
  replace H:=if_f hc34 H
  refine zA (zd (za (wd (zp xz rfl ((S.blk 4).all _ (Checker.len _)) (Checker.len _)) (wd (zp zE rfl ((S.blk 3).all _ (Term.len _)) (Term.len _)) (wd (zo rfl) (wd (ze xS rfl (o':=3) rfl) (wd (zj zQ rfl ((S.blk 1).cell (Nd.get_r _))) ?_)))))))
  obtain ⟨r35,er35,H⟩ := zt H
  obtain ⟨B37,MB37,SB37,back⟩ := S.calln 0 ((.z 0 rfl (.z 1 rfl (.z 2 rfl (.z 3 rfl .nil)))))
  refine zu (zq xL) zbv (xH zdO (a0:=a0) (a1:=a1) SB37 er35) ?_
  rintro v38 w36 ⟨_,rfl,S2⟩
  replace S:=back _ _ _ _ S2 rfl
  clear back S2 SB37
  refine wd (zM rfl) (zb (zy ?_))
  refine ⟨_,(zS (zg rfl)),?_⟩
  replace S:=S.arr [0] []
  obtain rfl:=zbz H
  exact ⟨v38,rfl,S⟩
 replace H:=if_f hc21 H
 refine zd (zd (za (wd (zL rfl rfl) (wd (zn rfl) (zb ?_)))))
 obtain ⟨o39,e39,Ho39⟩ := zt H
 replace H:=e39; clear e39
 refine xO [75,77] (fun fr W=>fr 75 = .bool o39∧St A N w W [oB b4 zk (Term.C (⟨a1.kind,a1.name,a1.other,a1.form,s_1⟩ : Term)),oB b2 T_Checker (Checker.C (⟨a_0⟩ : Checker))] [oT a_0 a0.t,zf s_1 a1.sub,yl a_2 a2,oEt]) ?_ ?_
 ·refine zH rfl (fun hc40=>?_) (fun hc40=>?_)
  ·replace H:=if_t hc40 H
   refine zA ?_
   obtain rfl:=zbz H
   exact ⟨rfl,(Dif.refl _ _),rfl,S⟩
  ·replace H:=if_f hc40 H
   refine za (wd (zL rfl rfl) (wd (zn rfl) (zb ?_)))
   obtain rfl:=zbz H
   exact ⟨rfl,(((Dif.refl _ _).upd rfl _).upd rfl _),rfl,S⟩
 rintro g41 u42 ⟨p39_75,S⟩
 have H:=Ho39
 refine zH p39_75 (fun hc43=>?_) (fun hc43=>?_)
 ·replace H:=if_t hc43 H
  refine zd (za (wd (zp xz rfl ((S.blk 1).all _ (Checker.len _)) (Checker.len _)) (wd (zh rfl) ?_)))
  obtain ⟨r44,er44,H⟩ := zt H
  obtain ⟨B46,MB46,SB46,back⟩ := S.calln 0 ((.z 0 rfl .nil))
  refine zu (zq vN) zbv (vP (a0:=a0) SB46 er44) ?_
  rintro _ w45 ⟨v47,rfl,S2⟩
  replace S:=back _ _ _ _ S2 rfl
  clear back S2 SB46
  refine wd (z7 rfl) (wd (zw rfl rfl) (wd (zw rfl rfl) ?_))
  refine xa v6 zbv fun b49 w48 hw48=>?_
  replace S:=S.new hw48
  refine zF xQ rfl rfl (S.blk 0) (Nd.len _) (by rw [Nd.len]; decide) (Nd.one _) (zV (Nd.len _)) fun w50 B hw50 zw50=>?_
  replace S:=S.store 0 B hw50
  clear B
  refine wd (zM rfl) (zb (zd (zd (za (wd (xg rfl) (wd (does_neE vZ rfl rfl (S.onO 1)) (zb ?_)))))))
  refine zH rfl (fun hc51=>?_) (fun hc51=>?_)
  ·replace H:=if_t hc51 H
   refine zd (za (wd (xg rfl) (wd (zM rfl) (zb (zy ?_)))))
   refine ⟨_,(zS (zg rfl)),?_⟩
   replace S:=S.arr [1] []
   obtain rfl:=zbz H
   exact ⟨v47,rfl,S⟩
  replace H:=if_f hc51 H
  refine zA (zd (zd (za (wd (ze yc rfl (o':=0) rfl) (wd (zj xG rfl ((S.blk 2).cell (Term.get_kind _))) (wd (zL rfl rfl) (zb ?_)))))))
  refine zH rfl (fun hc52=>?_) (fun hc52=>?_)
  ·replace H:=if_t hc52 H
   refine zd (za (wd (zp xz rfl ((S.blk 3).all _ (Checker.len _)) (Checker.len _)) (wd (zp zE rfl ((S.blk 2).all _ (Term.len _)) (Term.len _)) (wd (zo rfl) (wd (ze xY rfl (o':=2) rfl) (wd (zj zQ rfl ((S.blk 0).cell (Nd.get_l _))) ?_))))))
   obtain ⟨r53,er53,H⟩ := zt H
   obtain ⟨B55,MB55,SB55,back⟩ := S.calln 0 ((.z 0 rfl (.z 1 rfl (.z 2 rfl (.z 3 rfl .nil)))))
   refine zu (zq xL) zbv (xH zdO (a0:=a0) (a1:=a1) SB55 er53) ?_
   rintro v56 w54 ⟨_,rfl,S2⟩
   replace S:=back _ _ _ _ S2 rfl
   clear back S2 SB55
   refine wd (zM rfl) (zb (zy ?_))
   refine ⟨_,(zS (zg rfl)),?_⟩
   replace S:=S.arr [0] []
   obtain rfl:=zbz H
   exact ⟨v56,rfl,S⟩
  replace H:=if_f hc52 H
  refine zA (zd (za (wd (zp xz rfl ((S.blk 3).all _ (Checker.len _)) (Checker.len _)) (wd (zp zE rfl ((S.blk 2).all _ (Term.len _)) (Term.len _)) (wd (zo rfl) (wd (ze xS rfl (o':=3) rfl) (wd (zj zQ rfl ((S.blk 0).cell (Nd.get_r _))) ?_)))))))
  obtain ⟨r57,er57,H⟩ := zt H
  obtain ⟨B59,MB59,SB59,back⟩ := S.calln 0 ((.z 0 rfl (.z 1 rfl (.z 2 rfl (.z 3 rfl .nil)))))
  refine zu (zq xL) zbv (xH zdO (a0:=a0) (a1:=a1) SB59 er57) ?_
  rintro v60 w58 ⟨_,rfl,S2⟩
  replace S:=back _ _ _ _ S2 rfl
  clear back S2 SB59
  refine wd (zM rfl) (zb (zy ?_))
  refine ⟨_,(zS (zg rfl)),?_⟩
  replace S:=S.arr [0] []
  obtain rfl:=zbz H
  exact ⟨v60,rfl,S⟩
 replace H:=if_f hc43 H
 refine zd (za (wd (zL rfl rfl) (wd (zn rfl) (zb ?_))))
 refine zH rfl (fun hc61=>?_) (fun hc61=>?_)
 ·replace H:=if_t hc61 H
  refine zd (za (wd (zp xz rfl ((S.blk 1).all _ (Checker.len _)) (Checker.len _)) (wd (zp zE rfl ((S.blk 0).all _ (Term.len _)) (Term.len _)) (wd (zo rfl) ?_))))
  obtain ⟨r62,er62,H⟩ := zt H
  obtain ⟨B64,MB64,SB64,back⟩ := S.calln 0 ((.z 0 rfl (.z 1 rfl (.z 2 rfl (.z 3 rfl .nil)))))
  refine zu (zq yR) zbv (yL zdP (a0:=a0) (a1:=a1) SB64 er62) ?_
  rintro _ w63 ⟨v65,rfl,S2⟩
  replace S:=back _ _ _ _ S2 rfl
  clear back S2 SB64
  refine wd (z7 rfl) (wd (zw rfl rfl) (wd (zw rfl rfl) ?_))
  refine xa v6 zbv fun b67 w66 hw66=>?_
  replace S:=S.new hw66
  refine zF xQ rfl rfl (S.blk 0) (Nd.len _) (by rw [Nd.len]; decide) (Nd.one _) (zV (Nd.len _)) fun w68 B hw68 zw68=>?_
  replace S:=S.store 0 B hw68
  clear B
  refine wd (zM rfl) (zb (zd (zd (za (wd (xg rfl) (wd (does_neE vZ rfl rfl (S.onO 1)) (zb ?_)))))))
  refine zH rfl (fun hc69=>?_) (fun hc69=>?_)
  ·replace H:=if_t hc69 H
   refine zd (za (wd (xg rfl) (wd (zM rfl) (zb (zy ?_)))))
   refine ⟨_,(zS (zg rfl)),?_⟩
   replace S:=S.arr [1] []
   obtain rfl:=zbz H
   exact ⟨v65,rfl,S⟩
  replace H:=if_f hc69 H
  refine zA (zd (zd ?_))
  refine zaV 9 [7]
   (fun i v u=>match i with
   | 7 => ∃ b:Nat,v=Value.pointer (some ⟨b,0,none⟩)∧Blk u b uq (Scope.C ⟨a1.name,r62.1.l,a_2⟩)∧w68.heap.size ≤ b
   | _=>True) hmix zby zby ?_ ?_
  ·intro i v u u' hi hx hv
   match i,hv with
   | 7,⟨b,e1,hb,hl⟩ => exact ⟨b,e1,hb.ext hx,hl⟩
   | 0,_=>exact trivial
   | 1,_=>exact trivial
   | 2,_=>exact trivial
   | 3,_=>exact trivial
   | 4,_=>exact trivial
   | 5,_=>exact trivial
   | 6,_=>exact trivial
   | _ + 8,_=>exact trivial
  refine zX (fun v K=>zp xz rfl (((S.ext K).blk 3).all _ (Checker.len _)) (Checker.len _)) rfl (zX (fun v K=>zp zE rfl (((S.ext K).blk 2).all _ (Term.len _)) (Term.len _)) rfl (zX (fun v K=>zo rfl) rfl (zX (fun v K=>ze yw rfl (o':=1) rfl) rfl (zX (fun v K=>zj xt rfl (((S.ext K).blk 2).cell (Term.get_name _))) rfl (zX (fun v K=>ze xY rfl (o':=2) rfl) rfl (zX (fun v K=>zj zQ rfl (((S.ext K).blk 0).cell (Nd.get_l _))) rfl ?_))))))
  refine vL (fun g v K G=>⟨_,_,zN yA (zT rfl (zT rfl (zT rfl rfl))),newc (yB _ _ _ _) fun _ _ ⟨b,hv,hx,hb,hl⟩ => ⟨hx,b,hv,hb,by have:=K.size; omega⟩⟩) rfl (zX (fun v K=>zh rfl) rfl ?_)
  refine uJ fun g w71 K hV=>?_
  obtain ⟨b70,hv727,hb7,hf7⟩ := hV 7 rfl zbv
  replace S:=(S.newAt K hb7 hf7).pushScope 0 2
  clear K hV
  obtain ⟨r73,er73,H⟩ := zt H
  obtain ⟨B75,MB75,SB75,back⟩ := S.calln 0 ((.z 1 rfl (.z 2 rfl (.z 0 rfl (.z 4 rfl .nil)))))
  refine zu (zN xL (zT rfl (zT rfl (zT rfl (zT hv727 (zT rfl rfl)))))) zbv (xH zdO (a0:=a0) (a1:=a1) SB75 er73) ?_
  rintro v76 w74 ⟨_,rfl,S2⟩
  replace S:=back _ _ _ _ S2 rfl
  clear back S2 SB75
  refine wd (zM rfl) (zb (zd (za (wd (xg rfl) (wd (does_neE vZ rfl rfl (S.onO 0)) (zb ?_))))))
  refine zH rfl (fun hc77=>?_) (fun hc77=>?_)
  ·replace H:=if_t hc77 H
   refine zd (za (wd (xg rfl) (wd (zM rfl) (zb (zy ?_)))))
   refine ⟨_,(zS (zg rfl)),?_⟩
   replace S:=S.arr [0] []
   obtain rfl:=zbz H
   exact ⟨v76,rfl,S⟩
  replace H:=if_f hc77 H
  refine zA (zd ?_)
  refine zaV 9 [7]
   (fun i v u=>match i with
   | 7 => ∃ b:Nat,v=Value.pointer (some ⟨b,0,none⟩)∧Blk u b uq (Scope.C ⟨a1.other,r62.1.r,a_2⟩)∧w74.heap.size ≤ b
   | _=>True) hmix zby zby ?_ ?_
  ·intro i v u u' hi hx hv
   match i,hv with
   | 7,⟨b,e1,hb,hl⟩ => exact ⟨b,e1,hb.ext hx,hl⟩
   | 0,_=>exact trivial
   | 1,_=>exact trivial
   | 2,_=>exact trivial
   | 3,_=>exact trivial
   | 4,_=>exact trivial
   | 5,_=>exact trivial
   | 6,_=>exact trivial
   | _ + 8,_=>exact trivial
  refine zX (fun v K=>zp xz rfl (((S.ext K).blk 4).all _ (Checker.len _)) (Checker.len _)) rfl (zX (fun v K=>zp zE rfl (((S.ext K).blk 3).all _ (Term.len _)) (Term.len _)) rfl (zX (fun v K=>zo rfl) rfl (zX (fun v K=>ze vg rfl (o':=2) rfl) rfl (zX (fun v K=>zj xt rfl (((S.ext K).blk 3).cell (Term.get_other _))) rfl (zX (fun v K=>ze xS rfl (o':=3) rfl) rfl (zX (fun v K=>zj zQ rfl (((S.ext K).blk 1).cell (Nd.get_r _))) rfl ?_))))))
  refine vL (fun g v K G=>⟨_,_,zN yA (zT rfl (zT rfl (zT rfl rfl))),newc (yB _ _ _ _) fun _ _ ⟨b,hv,hx,hb,hl⟩ => ⟨hx,b,hv,hb,by have:=K.size; omega⟩⟩) rfl (zX (fun v K=>zh rfl) rfl ?_)
  refine uJ fun g w79 K hV=>?_
  obtain ⟨b78,hv807,hb7,hf7⟩ := hV 7 rfl zbv
  replace S:=(S.newAt K hb7 hf7).pushScope 0 3
  clear K hV
  obtain ⟨r81,er81,H⟩ := zt H
  obtain ⟨B83,MB83,SB83,back⟩ := S.calln 0 ((.z 2 rfl (.z 3 rfl (.z 0 rfl (.z 5 rfl .nil)))))
  refine zu (zN xL (zT rfl (zT rfl (zT rfl (zT hv807 (zT rfl rfl)))))) zbv (xH zdO (a0:=a0) (a1:=a1) SB83 er81) ?_
  rintro v84 w82 ⟨_,rfl,S2⟩
  replace S:=back _ _ _ _ S2 rfl
  clear back S2 SB83
  refine wd (zM rfl) (zb (zy ?_))
  refine ⟨_,(zS (zg rfl)),?_⟩
  replace S:=S.arr [0] []
  obtain rfl:=zbz H
  exact ⟨v84,rfl,S⟩
 replace H:=if_f hc61 H
 refine zd (za (wd (zL rfl rfl) (wd (zn rfl) (zb ?_))))
 refine zH rfl (fun hc85=>?_) (fun hc85=>?_)
 ·replace H:=if_t hc85 H
  refine zd (za (wd (zp xz rfl ((S.blk 1).all _ (Checker.len _)) (Checker.len _)) (wd (zp zE rfl ((S.blk 0).all _ (Term.len _)) (Term.len _)) (wd (zo rfl) ?_))))
  obtain ⟨r86,er86,H⟩ := zt H
  obtain ⟨B88,MB88,SB88,back⟩ := S.calln 0 ((.z 0 rfl (.z 1 rfl (.z 2 rfl (.z 3 rfl .nil)))))
  refine zu (zq yR) zbv (yL zdP (a0:=a0) (a1:=a1) SB88 er86) ?_
  rintro _ w87 ⟨v89,rfl,S2⟩
  replace S:=back _ _ _ _ S2 rfl
  clear back S2 SB88
  refine wd (z7 rfl) (wd (zw rfl rfl) (wd (zw rfl rfl) ?_))
  refine xa v6 zbv fun b91 w90 hw90=>?_
  replace S:=S.new hw90
  refine zF xQ rfl rfl (S.blk 0) (Nd.len _) (by rw [Nd.len]; decide) (Nd.one _) (zV (Nd.len _)) fun w92 B hw92 zw92=>?_
  replace S:=S.store 0 B hw92
  clear B
  refine wd (zM rfl) (zb (zd (za (wd (xg rfl) (wd (zM rfl) (zb (zy ?_)))))))
  refine ⟨_,(zS (zg rfl)),?_⟩
  replace S:=S.arr [1] []
  obtain rfl:=zbz H
  exact ⟨v89,rfl,S⟩
 replace H:=if_f hc85 H
 refine zd (za (wd (zL rfl rfl) (wd (zn rfl) (zb ?_))))
 refine zH rfl (fun hc93=>?_) (fun hc93=>?_)
 ·replace H:=if_t hc93 H
  refine zd (za (wd (zp xz rfl ((S.blk 1).all _ (Checker.len _)) (Checker.len _)) (wd (zp zE rfl ((S.blk 0).all _ (Term.len _)) (Term.len _)) (wd (zo rfl) ?_))))
  obtain ⟨r94,er94,H⟩ := zt H
  obtain ⟨B96,MB96,SB96,back⟩ := S.calln 0 ((.z 0 rfl (.z 1 rfl (.z 2 rfl (.z 3 rfl .nil)))))
  refine zu (zq yS) zbv (yM zdP (a0:=a0) (a1:=a1) SB96 er94) ?_
  rintro _ w95 ⟨v97,rfl,S2⟩
  replace S:=back _ _ _ _ S2 rfl
  clear back S2 SB96
  refine wd (z7 rfl) (wd (zw rfl rfl) (wd (zw rfl rfl) (wd (zi rfl) (wd (zM rfl) (zb (zd (zd (za (wd (xg rfl) (wd (does_neE vZ rfl rfl (S.onO 0)) (zb ?_)))))))))))
  refine zH rfl (fun hc98=>?_) (fun hc98=>?_)
  ·replace H:=if_t hc98 H
   refine zd (za (wd (xg rfl) (wd (zM rfl) (zb (zy ?_)))))
   refine ⟨_,(zS (zg rfl)),?_⟩
   replace S:=S.arr [0] []
   obtain rfl:=zbz H
   exact ⟨v97,rfl,S⟩
  replace H:=if_f hc98 H
  refine zA (zd ?_)
  refine zaV 8 [6]
   (fun i v u=>match i with
   | 6 => ∃ b:Nat,v=Value.pointer (some ⟨b,0,none⟩)∧Blk u b uq (Scope.C ⟨a1.name,r94.1,a_2⟩)∧w95.heap.size ≤ b
   | _=>True) hmix zby zby ?_ ?_
  ·intro i v u u' hi hx hv
   match i,hv with
   | 6,⟨b,e1,hb,hl⟩ => exact ⟨b,e1,hb.ext hx,hl⟩
   | 0,_=>exact trivial
   | 1,_=>exact trivial
   | 2,_=>exact trivial
   | 3,_=>exact trivial
   | 4,_=>exact trivial
   | 5,_=>exact trivial
   | _ + 7,_=>exact trivial
  refine zX (fun v K=>zp xz rfl (((S.ext K).blk 2).all _ (Checker.len _)) (Checker.len _)) rfl (zX (fun v K=>zp zE rfl (((S.ext K).blk 1).all _ (Term.len _)) (Term.len _)) rfl (zX (fun v K=>zo rfl) rfl (zX (fun v K=>ze yw rfl (o':=1) rfl) rfl (zX (fun v K=>zj xt rfl (((S.ext K).blk 1).cell (Term.get_name _))) rfl (zX (fun v K=>zh rfl) rfl ?_)))))
  refine vL (fun g v K G=>⟨_,_,zN yA (zT rfl (zT rfl (zT rfl rfl))),newc (yB _ _ _ _) fun _ _ ⟨b,hv,hx,hb,hl⟩ => ⟨hx,b,hv,hb,by have:=K.size; omega⟩⟩) rfl (zX (fun v K=>zh rfl) rfl ?_)
  refine uJ fun g w100 K hV=>?_
  obtain ⟨b99,hv1016,hb6,hf6⟩ := hV 6 rfl zbv
  replace S:=(S.newAt K hb6 hf6).pushScope 0 2
  clear K hV
  obtain ⟨r102,er102,H⟩ := zt H
  obtain ⟨B104,MB104,SB104,back⟩ := S.calln 0 ((.z 1 rfl (.z 2 rfl (.z 0 rfl (.z 4 rfl .nil)))))
  refine zu (zN xL (zT rfl (zT rfl (zT rfl (zT hv1016 (zT rfl rfl)))))) zbv (xH zdO (a0:=a0) (a1:=a1) SB104 er102) ?_
  rintro v105 w103 ⟨_,rfl,S2⟩
  replace S:=back _ _ _ _ S2 rfl
  clear back S2 SB104
  refine wd (zM rfl) (zb (zy ?_))
  refine ⟨_,(zS (zg rfl)),?_⟩
  replace S:=S.arr [0] []
  obtain rfl:=zbz H
  exact ⟨v105,rfl,S⟩
 replace H:=if_f hc93 H
 refine zA (zd (za (wd (zp xz rfl ((S.blk 1).all _ (Checker.len _)) (Checker.len _)) (wd (zp zE rfl ((S.blk 0).all _ (Term.len _)) (Term.len _)) (wd (zo rfl) ?_)))))
 obtain ⟨r106,er106,H⟩ := zt H
 obtain ⟨B108,MB108,SB108,back⟩ := S.calln 0 ((.z 0 rfl (.z 1 rfl (.z 2 rfl (.z 3 rfl .nil)))))
 refine zu (zq uG) zbv (zdP (a0:=a0) (a1:=a1) SB108 er106) ?_
 rintro _ w107 ⟨v109,rfl,S2⟩
 replace S:=back _ _ _ _ S2 rfl
 clear back S2 SB108
 refine wd (z7 rfl) (wd (zw rfl rfl) (wd (zw rfl rfl) (wd (zi rfl) (wd (zM rfl) (zb (zd (zd (za (wd (xg rfl) (wd (does_eqE vZ rfl rfl (S.onO 0)) (wd (zD rfl) ?_)))))))))))
 refine wg (fun hg=>zh rfl) ?_
 refine wg (fun hg=>zh rfl) ?_
 refine wg (fun hg=>xj (zm hg) (zm hg)) (wd (xc rfl (fun hp=>(zm (xk hp)))) (zb ?_))
 refine zH rfl (fun hc110=>?_) (fun hc110=>?_)
 ·replace H:=if_t hc110 H
  refine za (wd (Does.to (v' := .agg (Refusal.C (⟨130,SlV.nil⟩ : Refusal)).toArray) (xo (vs:=[(0,.int .i64 130)]) kx (xJ rfl rfl) (Bld.one rfl rfl (by rw [Refusal.len]; decide) (Refusal.set_code _ _) Bld.nil)) rfl) ?_)
  refine z1 rfl zbv fun b112 w111 hw111=>?_
  replace S:=S.new hw111
  refine wd (does_makeInterface rfl) ?_
  replace S:=((S.nil yg 1 IC).front 1).mkE
  refine wd (zM rfl) (zb (zd (za (wd (xg rfl) (wd (zM rfl) (zb (zy ?_)))))))
  refine ⟨_,(zS (zg rfl)),?_⟩
  replace S:=S.arr [0] []
  obtain rfl:=zbz H
  exact ⟨(.iface x8 (.pointer (some ⟨b112,0,none⟩))),rfl,S⟩
 ·replace H:=if_f hc110 H
  refine zA (zd (za (wd (xg rfl) (wd (zM rfl) (zb (zy ?_))))))
  refine ⟨_,(zS (zg rfl)),?_⟩
  replace S:=S.arr [0] []
  obtain rfl:=zbz H
  exact ⟨v109,rfl,S⟩
theorem types_tc_both : ∀ (k:Nat),(∀ {A:Nat→Prop} {N:Oth} {w:World} {a0:PChecker} {a_0:Option Addr} {a1:PTerm} {s_1:SlV} {a2:List (ByteArray × Int)} {a_2:Option Addr} (S:St A N w w [] [oT a_0 a0.t,zf s_1 a1.sub,yl a_2 a2,oEt]) {r:Int × (Option (Int × List Int))} (H:zcR.f k a0 a1 a2=some r),Calls PP yr #[.agg (Checker.C (⟨a_0⟩ : Checker)).toArray,.agg (Term.C (⟨a1.kind,a1.name,a1.other,a1.form,s_1⟩ : Term)).toArray,.pointer a_2] w fun e w' => ∃ v,e = .returned v∧(∃ vo0:Value,v = .tuple #[.int .i64 r.1,vo0]∧St A N w w' [oE vo0 r.2] []))∧(∀ {A:Nat→Prop} {N:Oth} {w:World} {a0:PChecker} {a_0:Option Addr} {a1:PTerm} {s_1:SlV} {a2:List (ByteArray × Int)} {a_2:Option Addr} {a3:Int} (S:St A N w w [] [oT a_0 a0.t,zf s_1 a1.sub,yl a_2 a2,oEt]) {r:(Option (Int × List Int))} (H:zcS.f k a0 a1 a2 a3=some r),Calls PP yn #[.agg (Checker.C (⟨a_0⟩ : Checker)).toArray,.agg (Term.C (⟨a1.kind,a1.name,a1.other,a1.form,s_1⟩ : Term)).toArray,.pointer a_2,.int .i64 a3] w fun e w' => ∃ v,e = .returned v∧(∃ vo0:Value,v=vo0∧St A N w w' [oE vo0 r] [])):=by
 intro k
 induction k with
 | zero =>
  refine ⟨?_,?_⟩
  ·intro A N w a0 a_0 a1 s_1 a2 a_2 S r H; cases H
  ·intro A N w a0 a_0 a1 s_1 a2 a_2 a3 S r H; cases H
 | succ k ih =>
  refine ⟨?_,?_⟩
  ·intro A N w a0 a_0 a1 s_1 a2 a_2 S r H; exact types_checker_told_gst ih.1 ih.2 S H
  ·intro A N w a0 a_0 a1 s_1 a2 a_2 a3 S r H; exact zaO ih.1 ih.2 S H
theorem types_checker_told_st {a0:PChecker} {a_0:Option Addr} {a1:PTerm} {s_1:SlV} {a2:List (ByteArray × Int)} {a_2:Option Addr} (S:St A N w w [] [oT a_0 a0.t,zf s_1 a1.sub,yl a_2 a2,oEt]) {k:Nat} {r:Int × (Option (Int × List Int))} (H:zcR.f k a0 a1 a2=some r) :
  Calls PP yr #[.agg (Checker.C (⟨a_0⟩ : Checker)).toArray,.agg (Term.C (⟨a1.kind,a1.name,a1.other,a1.form,s_1⟩ : Term)).toArray,.pointer a_2] w fun e w' => ∃ v,e = .returned v∧(∃ vo0:Value,v = .tuple #[.int .i64 r.1,vo0]∧St A N w w' [oE vo0 r.2] []):=by exact (types_tc_both k).1 S H
theorem zbj {a0:PChecker} {a_0:Option Addr} {a1:PTerm} {s_1:SlV} {a2:List (ByteArray × Int)} {a_2:Option Addr} {a3:Int} (S:St A N w w [] [oT a_0 a0.t,zf s_1 a1.sub,yl a_2 a2,oEt]) {k:Nat} {r:(Option (Int × List Int))} (H:zcS.f k a0 a1 a2 a3=some r) :
  Calls PP yn #[.agg (Checker.C (⟨a_0⟩ : Checker)).toArray,.agg (Term.C (⟨a1.kind,a1.name,a1.other,a1.form,s_1⟩ : Term)).toArray,.pointer a_2,.int .i64 a3] w fun e w' => ∃ v,e = .returned v∧(∃ vo0:Value,v=vo0∧St A N w w' [oE vo0 r] []):=by exact (types_tc_both k).2 S H
theorem types_ahead_st {a0:Tb} {a_0:Option Addr} {a1:List Hyp} {s_1:SlV} {a2:PTerm} {s_2:SlV} {a3:List Int} {s_3:SlV} (S:St A N w w [oS yg 1 IC s_3 a3] [oT a_0 a0,fS 2 Hyp.C s_1 a1,zf s_2 a2.sub]) {k:Nat} {r:(List (ByteArray × Int)) × Int} (H:zcT.f k a0 a1 a2 a3=some r) :
  Calls PP F_types_ahead #[.pointer a_0,s_1.v,.agg (Term.C (⟨a2.kind,a2.name,a2.other,a2.form,s_2⟩ : Term)).toArray,s_3.v] w fun e w' => ∃ v,e = .returned v∧(∃ ao0:Option Addr,v = .tuple #[.pointer ao0,.int .i64 r.2]∧St A N w w' [] [yl ao0 r.1]):=by
 unfold zcT.f at H
 refine zz (n:=63) fn_types_ahead rfl rfl zbx (zd (za ?_))
 refine z1 rfl zbv fun b2 w1 hw1=>?_
 replace S:=S.new hw1
 refine wd (xi rfl) ?_
 replace S:=S.nil_fScopeZ
 refine wd (zi rfl) (zb (zd (zd (za (wd (zo rfl) ?_)))))
 obtain ⟨r3,er3,H⟩ := zt H
 obtain ⟨B5,MB5,SB5,back⟩ := S.calln 0 ((.z 1 rfl .nil))
 refine zu (zq ca_formula_Table_Not) zbv (zbf SB5 rfl er3) ?_
 rintro _ w4 ⟨rfl,S2⟩
 replace S:=back _ _ _ _ S2 rfl
 clear back S2 SB5
 refine wd (z7 rfl) (wd (zw rfl rfl) (wd (zw rfl rfl) (wd (zi rfl) (wd (zi rfl) (zb (zd (za (wd (zh rfl) (wd (zL rfl rfl) (zb ?_))))))))))
 refine zH rfl (fun hc6=>?_) (fun hc6=>?_)
 ·replace H:=if_t hc6 H
  refine zd (za (wd (zh rfl) (wd (xi rfl) ?_)))
  replace S:=S.nil_fScopeZ
  refine wd (zi rfl) (zb (zy ?_))
  refine ⟨_,(xx (zg rfl) (zg rfl)),?_⟩
  replace S:=S.arr [] [0]
  obtain rfl:=zbz H
  exact ⟨none,rfl,S⟩
 replace H:=if_f hc6 H
 refine zA (zd (za (wd (xi rfl) ?_)))
 replace S:=S.nil_fScopeZ
 refine zb (zd (zd (za (wd (zC rfl) (wd (xd vi rfl (S.rd 3)) (wd (zh rfl) (zb ?_)))))))
 obtain ⟨o7,e7,Ho7⟩ := zt H
 clear H
 refine xO [3,12,14,29,30,31,32,33,34,35,36,37,38,39,40,41,42,43,44] (fun fr W => ∃ s8:SlV,∃ a9:Option Addr,fr 3=s8.v∧fr 12 = .pointer a9∧St A N w W [oB b2 zk (Term.C (⟨a2.kind,a2.name,a2.other,a2.form,s_2⟩ : Term)),oS yg 1 IC s8 o7.1] [yl a9 o7.2,yl none ([]:List (ByteArray × Int)),oT a_0 a0,fS 2 Hyp.C s_1 a1,zf s_2 a2.sub]) ?_ ?_
 ·refine zO ?_
  refine xN (α:=Nat × Int × (List Int × (List (ByteArray × Int)))) [3,12,14,29,30,31,32,33,34,35,36,37,38,39,40,41,42,43,44] (fun x fr W=>(x.1:Int)=(a1.length:Int) - x.2.1∧0 ≤ x.2.1∧forS (fun i s=>zcT.b0 a1 i s.1 s.2) x.1 x.2.1 x.2.2=some o7 ∧ ∃ s10:SlV,∃ a11:Option Addr,fr 29 = .int .i64 x.2.1∧fr 3=s10.v∧fr 12 = .pointer a11∧St A N w W [oB b2 zk (Term.C (⟨a2.kind,a2.name,a2.other,a2.form,s_2⟩ : Term)),oS yg 1 IC s10 (x.2.2.1)] [yl a11 (x.2.2.2),yl none ([]:List (ByteArray × Int)),oT a_0 a0,fS 2 Hyp.C s_1 a1,zf s_2 a2.sub]) (fun x=>x.1) (((a1.length:Int) - 0).toNat,0,(a3,([]:List (ByteArray × Int)))) ⟨(by dsimp only; have hle:=Int.natCast_nonneg (a1.length); omega),(Int.le_refl _),(by dsimp only; exact e7),s_3,none,rfl,rfl,rfl,S⟩ ?_
  rintro ⟨m7,i7,⟨x7_0,x7_1⟩⟩ g7 u7 ⟨hm7,hl7,e7,s12,a13,q7_i,q7_3,q7_12,S⟩
  try dsimp only at hm7
  try dsimp only at hl7
  try dsimp only at e7
  try dsimp only at S
  try dsimp only at q7_i
  try dsimp only at q7_3
  try dsimp only at q7_12
  refine zd (za (wd (xK q7_i rfl) (zb (zd ?_))))
  refine zH rfl (fun hc14=>?_) (fun hc14=>?_)
  rotate_left
  ·refine xZ ?_
   have hge:(a1.length:Int) ≤ i7:=Int.not_lt.1 (of_decide_eq_false hc14)
   obtain rfl:m7=0:=by omega
   replace e7:=forS_0 e7
   obtain rfl:=e7
   exact ⟨rfl,((Dif.self _ _ _).upd rfl _),s12,a13,q7_3,q7_12,S⟩
  refine zA ?_
  have hlt7:i7 < (a1.length:Int):=of_decide_eq_true hc14
  obtain ⟨m7,rfl⟩ : ∃ m,m7=m + 1:=⟨m7 - 1,by omega⟩
  obtain ⟨q7,H,e7⟩ := forS_s e7
  unfold zcT.b0 at H
  try dsimp only at H
  have hb7:=(S.len 3)
  refine zd ?_
  refine zO (zd (za (wd (zW vi rfl q7_i (S.rd 3) (And.intro (show 0 ≤ i7 by omega) (show i7 < (a1.length:Int) from hlt7)).1 (And.intro (show 0 ≤ i7 by omega) (show i7 < (a1.length:Int) from hlt7)).2) (wd (zp ag_Hyp rfl ((S.rd 3).at (xp Hyp.z (And.intro (show 0 ≤ i7 by omega) (show i7 < (a1.length:Int) from hlt7)))) (Hyp.len _)) ?_))))
  refine xa ze_Hyp zbv fun b17 w16 hw16=>?_
  replace S:=S.new hw16
  refine zF ag_Hyp rfl rfl (S.blk 0) (Hyp.len _) (by rw [Hyp.len]; decide) (Hyp.one _) (zV (Hyp.len _)) fun w18 B hw18 zw18=>?_
  replace S:=S.store 0 B hw18
  clear B
  refine zb (zd (za (wd (zC q7_3) (wd (ze fl_Hyp_form rfl (o':=1) rfl) (wd (zj zQ rfl ((S.blk 0).cell (Hyp.get_form _))) ?_)))))
  refine xy (C:=IC) (l:=[(at_ Hyp.z a1 i7).form]) (vs:=[.int .i64 ((at_ Hyp.z a1 i7).form)]) xR zaD.zero rfl rfl (fun _ _=>rfl) zbv rfl zbv fun b20 w19 s21 hBw19 hw19=>?_
  replace S:=S.lit hBw19 hw19 zbx
  obtain ⟨ha24,H⟩ := xm H
  have ha24:=of_decide_eq_true ha24
  refine wl_appends (C:=IC) xR zaD rfl rfl (S.sl 3) (S.rdO 0) zbx (fun a _ v hv=>by rw [List.mem_singleton.1 hv]; rfl) ha24 zbw zbv fun s23 w22 O hw22 gw22=>?_
  replace S:=S.push 3 O (by first | (simp; done) | (simp; omega)) hw22 gw22
  clear O
  refine wd (x6 rfl) (zb (za (wd (zo q7_12) (wd (ze fl_Hyp_name rfl (o':=0) rfl) (wd (zj xt rfl ((S.blk 2).cell (Hyp.get_name _))) (wd (ze fl_Hyp_form rfl (o':=1) rfl) (wd (zj zQ rfl ((S.blk 2).cell (Hyp.get_form _))) ?_)))))))
  obtain ⟨r25,er25,H⟩ := zt H
  obtain ⟨B27,MB27,SB27,back⟩ := S.sub [0] [] [oS yg 1 IC s23 (x7_0 ++ [(at_ Hyp.z a1 i7).form]),oS yg 1 IC s21 ([(at_ Hyp.z a1 i7).form]),oB b17 yq (Hyp.C (at_ Hyp.z a1 i7)),oB b2 zk (Term.C (⟨a2.kind,a2.name,a2.other,a2.form,s_2⟩ : Term))]
  refine zu (zq yA) zbv (types_scope_with_st SB27 er25) ?_
  rintro _ w26 ⟨a28,rfl,S2⟩
  replace S:=back _ _ _ _ _ S2 rfl rfl
  clear back S2 SB27
  refine wd (xi rfl) (zb (za (wd (xM q7_i rfl (c:=i7 + 1) rfl zbw zbw) (wd (zh rfl) (zb ?_)))))
  replace S:=S.arr [3,0] [0,2,3,4,5]
  obtain rfl:=zbz H
  exact ⟨rfl,(by repeat first | exact Dif.refl _ _ | exact Dif.self _ _ _ | refine Dif.upd ?_ rfl _ | refine Dif.mask ?_ rfl _),(m7,i7 + 1,(x7_0 ++ [(at_ Hyp.z a1 i7).form],r25)),⟨(by dsimp only; omega),(by dsimp only; omega),e7,s23,a28,rfl,rfl,rfl,S⟩,by dsimp only; omega⟩
 rintro g29 u30 ⟨s8,a9,p7_3,p7_12,S⟩
 have H:=Ho7
 refine zd (zd (za (wd (zC p7_3) (wd (xd xR rfl (S.rdO 1)) (wd (zh rfl) (zb ?_))))))
 obtain ⟨o31,e31,Ho31⟩ := zt H
 clear H
 refine xO [8,9,16,17,18,47,48,49,50,51,52,53,54,55,56,57,58,59] (fun fr W => ∃ s31:Unit,o31 = .inl s31∧St A N w W [oB b2 zk (Term.C (⟨a2.kind,a2.name,a2.other,a2.form,s_2⟩ : Term)),oS yg 1 IC s8 o7.1] [yl a9 o7.2,yl none ([]:List (ByteArray × Int)),oT a_0 a0,fS 2 Hyp.C s_1 a1,zf s_2 a2.sub]) ?_ ?_
 ·refine zO ?_
  refine xN (α:=Nat × Int × Unit) [8,9,16,17,18,47,48,49,50,51,52,53,54,55,56,57,58,59] (fun x fr W=>(x.1:Int)=(o7.1.length:Int) - x.2.1∧0 ≤ x.2.1∧forN (fun i s=>zcT.b1 a0 o7 i) x.1 x.2.1 x.2.2=some o31∧fr 47 = .int .i64 x.2.1∧St A N w W [oB b2 zk (Term.C (⟨a2.kind,a2.name,a2.other,a2.form,s_2⟩ : Term)),oS yg 1 IC s8 o7.1] [yl a9 o7.2,yl none ([]:List (ByteArray × Int)),oT a_0 a0,fS 2 Hyp.C s_1 a1,zf s_2 a2.sub]) (fun x=>x.1) (((o7.1.length:Int) - 0).toNat,0,()) ⟨(by dsimp only; have hle:=Int.natCast_nonneg (o7.1.length); omega),(Int.le_refl _),(by dsimp only; exact e31),rfl,S⟩ ?_
  rintro ⟨m31,i31,_⟩ g31 u31 ⟨hm31,hl31,e31,q31_i,S⟩
  try dsimp only at hm31
  try dsimp only at hl31
  try dsimp only at e31
  try dsimp only at S
  try dsimp only at q31_i
  refine zd (za (wd (xK q31_i rfl) (zb (zd ?_))))
  refine zH rfl (fun hc32=>?_) (fun hc32=>?_)
  rotate_left
  ·refine xZ ?_
   have hge:(o7.1.length:Int) ≤ i31:=Int.not_lt.1 (of_decide_eq_false hc32)
   obtain rfl:m31=0:=by omega
   replace e31:=jr e31
   exact ⟨rfl,((Dif.self _ _ _).upd rfl _),(),e31,S⟩
  refine zA ?_
  have hlt31:i31 < (o7.1.length:Int):=of_decide_eq_true hc32
  obtain ⟨m31,rfl⟩ : ∃ m,m31=m + 1:=⟨m31 - 1,by omega⟩
  obtain ⟨q31,H,e31⟩ := js e31
  unfold zcT.b1 at H
  try dsimp only at H
  have hb31:=(S.lenO 1)
  refine zd ?_
  refine zO (zd (za (wd (zW xR rfl q31_i (S.rdO 1) (And.intro (show 0 ≤ i31 by omega) (show i31 < (o7.1.length:Int) from hlt31)).1 (And.intro (show 0 ≤ i31 by omega) (show i31 < (o7.1.length:Int) from hlt31)).2) (wd (zj zQ rfl ((S.rdO 1).one (xp (0:Int) (And.intro (show 0 ≤ i31 by omega) (show i31 < (o7.1.length:Int) from hlt31))) rfl)) (wd (zi rfl) (zb (zd (za (wd (zo rfl) (wd (zh rfl) ?_))))))))))
  obtain ⟨r34,er34,H⟩ := zt H
  obtain ⟨B36,MB36,SB36,back⟩ := S.calln 0 ((.z 2 rfl .nil))
  refine zu (zq yC) zbv (yF SB36 er34) ?_
  rintro _ w35 ⟨rfl,S2⟩
  replace S:=back _ _ _ _ S2 rfl
  clear back S2 SB36
  refine wd (z7 rfl) (wd (zw rfl rfl) (wd (zw rfl rfl) ?_))
  refine xa v6 zbv fun b38 w37 hw37=>?_
  replace S:=S.new hw37
  refine zF xQ rfl rfl (S.blk 0) (Nd.len _) (by rw [Nd.len]; decide) (Nd.one _) (zV (Nd.len _)) fun w39 B hw39 zw39=>?_
  replace S:=S.store 0 B hw39
  clear B
  refine wd (zn rfl) (zb (zd (za (wd (zD rfl) (wd (xh rfl) (zb ?_))))))
  refine zH rfl (fun hc40=>?_) (fun hc40=>?_)
  ·replace H:=if_t hc40 H
   refine zd (za (wd (xi rfl) ?_))
   replace S:=S.nil_fScopeZ
   refine wd (zi rfl) (zb (zy ?_))
   refine ⟨_,(xx (zg rfl) (zg rfl)),?_⟩
   replace S:=S.arr [] [0]
   obtain rfl:=zbz H
   obtain rfl:=e31
   obtain rfl:=un Ho31
   exact ⟨none,rfl,S⟩
  replace H:=if_f hc40 H
  refine zA (za (wd (xM q31_i rfl (c:=i31 + 1) rfl zbw zbw) (wd (zh rfl) (zb ?_))))
  replace S:=S.arr [1,2] [0,1,2,3,4]
  obtain rfl:=zbz H
  exact ⟨rfl,(by repeat first | exact Dif.refl _ _ | exact Dif.self _ _ _ | refine Dif.upd ?_ rfl _ | refine Dif.mask ?_ rfl _),(m31,i31 + 1,()),⟨(by dsimp only; omega),(by dsimp only; omega),e31,rfl,S⟩,by dsimp only; omega⟩
 rintro g41 u42 ⟨s31,rfl,S⟩
 have H:=Ho31
 dsimp only [aft] at H
 refine zd (za (wd (zo p7_12) (wd (zp zE rfl ((S.blk 0).all _ (Term.len _)) (Term.len _)) ?_)))
 obtain ⟨r43,er43,H⟩ := zt H
 obtain ⟨B45,MB45,SB45,back⟩ := S.calln 0 ((.z 4 rfl .nil))
 refine zu (zq ca_term_Check) zbv (term_Check_st (a0:=a2) SB45 er43) ?_
 rintro _ w44 ⟨rfl,S2⟩
 replace S:=back _ _ _ _ S2 rfl
 clear back S2 SB45
 refine wd (xi rfl) (wd (zi rfl) (zb (zy ?_)))
 refine ⟨_,(xx (zg rfl) (zg rfl)),?_⟩
 replace S:=S.arr [] [0]
 obtain rfl:=zbz H
 exact ⟨a9,rfl,S⟩
theorem types_Where_st {a0:Tb} {a_0:Option Addr} {a1:List Hyp} {s_1:SlV} {a2:PTerm} {s_2:SlV} {a3:Int} (S:St A N w w [] [oT a_0 a0,fS 2 Hyp.C s_1 a1,zf s_2 a2.sub,oEt]) {k:Nat} {r:List Int × Int} (H:zcU.f k a0 a1 a2 a3=some r) :
  Calls PP F_types_Where #[.pointer a_0,s_1.v,.agg (Term.C (⟨a2.kind,a2.name,a2.other,a2.form,s_2⟩ : Term)).toArray,.int .i64 a3] w fun e w' => ∃ v,e = .returned v∧(∃ so0:SlV,v = .tuple #[so0.v,.int .i64 r.2]∧St A N w w' [oS yg 1 IC so0 r.1] []):=by
 unfold zcU.f at H
 refine zz (n:=33) fn_types_Where rfl rfl zbx (zd (za ?_))
 refine z1 rfl zbv fun b2 w1 hw1=>?_
 replace S:=S.new hw1
 refine wd (xw) (wd (zi rfl) (zb (zd (za (wd (zo rfl) (wd (zC rfl) (wd (zp zE rfl ((S.blk 0).all _ (Term.len _)) (Term.len _)) (wd (zh rfl) ?_))))))))
 refine xy (C:=IC) (l:=[a3]) (vs:=[.int .i64 a3]) xR zaD.zero rfl rfl (fun _ _=>rfl) zbv rfl zbv fun b4 w3 s5 hBw3 hw3=>?_
 replace S:=S.lit hBw3 hw3 zbx
 obtain ⟨r6,er6,H⟩ := zt H
 obtain ⟨B8,MB8,SB8,back⟩ := S.sub [0,1,2] [oS yg 1 IC s5 ([a3])] [oB b2 zk (Term.C (⟨a2.kind,a2.name,a2.other,a2.form,s_2⟩ : Term))]
 refine zu (zq ca_types_ahead) zbv (types_ahead_st (a2:=a2) SB8 er6) ?_
 rintro _ w7 ⟨a9,rfl,S2⟩
 replace S:=back _ _ _ _ _ S2 rfl rfl
 clear back S2 SB8
 refine wd (z7 rfl) (wd (zw rfl rfl) (wd (zw rfl rfl) (wd (xi rfl) (wd (zi rfl) (zb (zd (zd (za (wd (zh rfl) (wd (xj rfl rfl) (zb ?_)))))))))))
 refine zH rfl (fun hc10=>?_) (fun hc10=>?_)
 ·replace H:=if_t hc10 H
  refine zd (za (wd (zh rfl) (wd (xw) (wd (zi rfl) (zb (zy ?_))))))
  replace S:=S.nil yg 1 IC
  refine ⟨_,(xx (zg rfl) (zg rfl)),?_⟩
  replace S:=S.arr [0] []
  obtain rfl:=zbz H
  exact ⟨SlV.nil,rfl,S⟩
 replace H:=if_f hc10 H
 refine zA (zd (za (wd (zo rfl) (wd (Does.to (v' := .agg (Checker.C (⟨a_0⟩ : Checker)).toArray) (xo (vs:=[(0,.pointer a_0)]) bu_Checker (xJ rfl rfl) (Bld.one rfl rfl (by rw [Checker.len]; decide) (Checker.set_t _ _) Bld.nil)) rfl) (wd (zp zE rfl ((S.blk 0).all _ (Term.len _)) (Term.len _)) (wd (zo rfl) (wd (zh rfl) ?_)))))))
 obtain ⟨r11,er11,H⟩ := zt H
 obtain ⟨B13,MB13,SB13,back⟩ := S.calln 0 ((.z 1 rfl (.z 3 rfl (.z 0 rfl (.z 4 rfl .nil)))))
 refine zu (zq jy) zbv (zbj (a0:=(⟨a0⟩ : PChecker)) (a1:=a2) SB13 er11) ?_
 rintro v14 w12 ⟨_,rfl,S2⟩
 replace S:=back _ _ _ _ S2 rfl
 clear back S2 SB13
 obtain ⟨r15,er15,H⟩ := zt H
 obtain ⟨B17,MB17,SB17,back⟩ := S.calln 1 ((.z 4 rfl .nil))
 refine zu (zq ca_types_code) zbv (types_code_st (a0:=r11) SB17 er15) ?_
 rintro _ w16 ⟨s18,rfl,S2⟩
 replace S:=back _ _ _ _ S2 rfl
 clear back S2 SB17
 refine wd (zw rfl rfl) (wd (zw rfl rfl) (wd (x6 rfl) (wd (zi rfl) (zb (zy ?_)))))
 refine ⟨_,(xx (zg rfl) (zg rfl)),?_⟩
 replace S:=S.arr [0] []
 obtain rfl:=zbz H
 exact ⟨s18,rfl,S⟩
theorem types_Check_st {a0:Tb} {a_0:Option Addr} {a1:List Hyp} {s_1:SlV} {a2:PTerm} {s_2:SlV} {a3:Int} (S:St A N w w [] [oT a_0 a0,fS 2 Hyp.C s_1 a1,zf s_2 a2.sub,oEt]) {k:Nat} {r:Int} (H:zcV.f k a0 a1 a2 a3=some r) :
  Calls PP F_types_Check #[.pointer a_0,s_1.v,.agg (Term.C (⟨a2.kind,a2.name,a2.other,a2.form,s_2⟩ : Term)).toArray,.int .i64 a3] w fun e w' => ∃ v,e = .returned v∧(v = .int .i64 r∧St A N w w' [] []):=by
 unfold zcV.f at H
 refine zz (n:=20) fn_types_Check rfl rfl zbx (zd (za ?_))
 refine z1 rfl zbv fun b2 w1 hw1=>?_
 replace S:=S.new hw1
 refine wd (zi rfl) (zb (zd (za (wd (zo rfl) (wd (zC rfl) (wd (zp zE rfl ((S.blk 0).all _ (Term.len _)) (Term.len _)) (wd (zh rfl) ?_)))))))
 obtain ⟨r3,er3,H⟩ := zt H
 obtain ⟨B5,MB5,SB5,back⟩ := S.calln 0 ((.z 0 rfl (.z 1 rfl (.z 2 rfl (.z 3 rfl .nil)))))
 refine zu (zq ca_types_Where) zbv (types_Where_st (a2:=a2) SB5 er3) ?_
 rintro _ w4 ⟨s6,rfl,S2⟩
 replace S:=back _ _ _ _ S2 rfl
 clear back S2 SB5
 refine wd (z7 rfl) (wd (zw rfl rfl) (wd (zw rfl rfl) (wd (x6 rfl) (wd (zi rfl) (zb (zd (za (wd (zh rfl) (wd (zi rfl) (zb (zy ?_)))))))))))
 refine ⟨_,(zS (zg rfl)),?_⟩
 replace S:=S.arr [] []
 obtain rfl:=zbz H
 exact ⟨rfl,S⟩
theorem types_Infer_st {a0:Tb} {a_0:Option Addr} {a1:List Hyp} {s_1:SlV} {a2:PTerm} {s_2:SlV} (S:St A N w w [] [oT a_0 a0,fS 2 Hyp.C s_1 a1,zf s_2 a2.sub,oEt]) {k:Nat} {r:Int × Int} (H:zcW.f k a0 a1 a2=some r) :
  Calls PP F_types_Infer #[.pointer a_0,s_1.v,.agg (Term.C (⟨a2.kind,a2.name,a2.other,a2.form,s_2⟩ : Term)).toArray] w fun e w' => ∃ v,e = .returned v∧(v = .tuple #[.int .i64 r.1,.int .i64 r.2]∧St A N w w' [] []):=by
 unfold zcW.f at H
 refine zz (n:=39) fn_types_Infer rfl rfl zbx (zd (za ?_))
 refine z1 rfl zbv fun b2 w1 hw1=>?_
 replace S:=S.new hw1
 refine wd (zi rfl) (wd (zi rfl) (zb (zd (za (wd (zo rfl) (wd (zC rfl) (wd (zp zE rfl ((S.blk 0).all _ (Term.len _)) (Term.len _)) ?_)))))))
 replace S:=S.nil yg 1 IC
 obtain ⟨r3,er3,H⟩ := zt H
 obtain ⟨B5,MB5,SB5,back⟩ := S.sub [0,1,2] [oS yg 1 IC SlV.nil ([]:List Int)] [oB b2 zk (Term.C (⟨a2.kind,a2.name,a2.other,a2.form,s_2⟩ : Term))]
 refine zu (zN ca_types_ahead (zT rfl (zT rfl (zT rfl (zT SlV.nil_eq rfl))))) zbv (types_ahead_st (a2:=a2) SB5 er3) ?_
 rintro _ w4 ⟨a6,rfl,S2⟩
 replace S:=back _ _ _ _ _ S2 rfl rfl
 clear back S2 SB5
 refine wd (z7 rfl) (wd (zw rfl rfl) (wd (zw rfl rfl) (wd (xi rfl) (wd (zi rfl) (zb (zd (zd (za (wd (zh rfl) (wd (xj rfl rfl) (zb ?_)))))))))))
 refine zH rfl (fun hc7=>?_) (fun hc7=>?_)
 ·replace H:=if_t hc7 H
  refine zd (za (wd (zh rfl) (wd (zi rfl) (wd (zi rfl) (zb (zy ?_))))))
  refine ⟨_,(xx (zg rfl) (zg rfl)),?_⟩
  replace S:=S.arr [] []
  obtain rfl:=zbz H
  exact ⟨rfl,S⟩
 replace H:=if_f hc7 H
 refine zA (zd (za (wd (zo rfl) (wd (Does.to (v' := .agg (Checker.C (⟨a_0⟩ : Checker)).toArray) (xo (vs:=[(0,.pointer a_0)]) bu_Checker (xJ rfl rfl) (Bld.one rfl rfl (by rw [Checker.len]; decide) (Checker.set_t _ _) Bld.nil)) rfl) (wd (zp zE rfl ((S.blk 0).all _ (Term.len _)) (Term.len _)) (wd (zo rfl) ?_))))))
 obtain ⟨r8,er8,H⟩ := zt H
 obtain ⟨B10,MB10,SB10,back⟩ := S.calln 0 ((.z 1 rfl (.z 3 rfl (.z 0 rfl (.z 4 rfl .nil)))))
 refine zu (zq uG) zbv (types_checker_told_st (a0:=(⟨a0⟩ : PChecker)) (a1:=a2) SB10 er8) ?_
 rintro _ w9 ⟨v11,rfl,S2⟩
 replace S:=back _ _ _ _ S2 rfl
 clear back S2 SB10
 refine wd (z7 rfl) (wd (zw rfl rfl) (wd (zw rfl rfl) (wd (zi rfl) (wd (zM rfl) (zb (zd (zd (za (wd (xg rfl) ?_)))))))))
 obtain ⟨r12,er12,H⟩ := zt H
 obtain ⟨B14,MB14,SB14,back⟩ := S.calln 1 ((.z 4 rfl .nil))
 refine zu (zq ca_types_code) zbv (types_code_st (a0:=r8.2) SB14 er12) ?_
 rintro _ w13 ⟨s15,rfl,S2⟩
 replace S:=back _ _ _ _ S2 rfl
 clear back S2 SB14
 refine wd (z7 rfl) (wd (zw rfl rfl) (wd (zw rfl rfl) (wd (zi rfl) (zb (zd (za (wd (zh rfl) (wd (xj rfl rfl) (zb ?_)))))))))
 refine zH rfl (fun hc16=>?_) (fun hc16=>?_)
 ·replace H:=if_t hc16 H
  refine zd (za (wd (zh rfl) (wd (zi rfl) (wd (zi rfl) (zb (zy ?_))))))
  refine ⟨_,(xx (zg rfl) (zg rfl)),?_⟩
  replace S:=S.arr [] []
  obtain rfl:=zbz H
  exact ⟨rfl,S⟩
 replace H:=if_f hc16 H
 refine zA (zd (za (wd (zh rfl) (wd (zi rfl) (wd (zi rfl) (zb (zy ?_)))))))
 refine ⟨_,(xx (zg rfl) (zg rfl)),?_⟩
 replace S:=S.arr [] []
 obtain rfl:=zbz H
 exact ⟨rfl,S⟩
end
section
open Gw Go.RowKit
set_option maxHeartbeats 4000000
set_option maxRecDepth 20000
variable {A:Nat→Prop} {N:Oth} {w:World}
theorem hilbert_scope_with_st {a0:List Hyp} {s_0:SlV} {a1:ByteArray} {a2:Int} (S:St A N w w [] [fS 2 Hyp.C s_0 a0]) {r:List Hyp} (H:zcX.f a0 a1 a2=some r) :
  Calls PP kT #[s_0.v,.string a1,.int .i64 a2] w fun e w' => ∃ v,e = .returned v∧(∃ so0:SlV,v=so0.v∧St A N w w' [oS yq 2 Hyp.C so0 r] []):=by
 unfold zcX.f at H
 refine zz (n:=13) fn_hilbert_scope_with rfl rfl zbx (zd (za (wd (xw) (zb (zd (za (wd (zC rfl) (wd (xr rfl) (wd (zh rfl) (wd (yE bu_Hyp (Bld.one rfl rfl (by rw [Hyp.len]; decide) (Hyp.set_name _ _) (Bld.one rfl rfl (by rw [Hyp.len]; decide) (Hyp.set_form _ _) Bld.nil))) ?_))))))))))
 refine xy (C:=Hyp.C) (l:=[(⟨a1,a2⟩ : Hyp)]) (vs:=[.agg (Hyp.C (⟨a1,a2⟩ : Hyp)).toArray]) vi el_Hyp.zero rfl rfl (fun a _=>Hyp.len a) zbv rfl zbv fun b2 w1 s3 hBw1 hw1=>?_
 replace S:=S.lit hBw1 hw1 zbx
 obtain ⟨r4,er4,H⟩ := zt H
 obtain ⟨B6,MB6,SB6,back⟩ := S.calln 0 ((.z 0 rfl (.s 0 rfl .nil)))
 refine zu (zq zaI) zbv (zaM SB6 er4) ?_
 rintro _ w5 ⟨s7,rfl,S2⟩
 replace S:=back _ _ _ _ S2 rfl
 clear back S2 SB6
 refine wd (x6 rfl) (zb (zy ?_))
 refine ⟨_,(zS (zg rfl)),?_⟩
 replace S:=S.arr [0] []
 obtain rfl:=zbz H
 exact ⟨s7,rfl,S⟩
theorem ja {a0:PMaker} {a_0:Option Addr} {g_0_1:Option Addr} {a1:List Ln} {s_1:SlV} {a2:Int} (S:St A N w w [oK a_0 g_0_1 a0] [fS 4 Ln.C s_1 a1]) {r:PMaker × Int} (H:zcY.f a0 a1 a2=some r) :
  Calls PP zac #[.pointer a_0,s_1.v,.int .i64 a2] w fun e w' => ∃ v,e = .returned v∧(v = .int .i64 r.2∧St A N w w' [oK a_0 g_0_1 r.1] []):=by
 unfold zcY.f at H
 refine zz (n:=58) fn_hilbert_maker_add rfl rfl zbx (zd (za (wd (zi rfl) (zb (zd (zd (za (wd (zo rfl) ?_))))))))
 obtain ⟨p1,s3,hp2,S⟩ := S.open_oK 0
 replace S:=S
 refine wd (zB (congrArg Value.pointer hp2)) (wd (ze ym rfl (o':=2) rfl) (wd (zj yf rfl ((S.blk 0).cell (Maker.get_bad _))) (wd (zL rfl rfl) ?_)))
 replace S:=((S.front 2).front 2).front 2
 replace S:=S.shut_oK hp2
 refine zb ?_
 obtain ⟨o4,e4,Ho4⟩ := zt H
 replace H:=e4; clear e4
 refine xO [15,16,17,18] (fun fr W=>St A N w W [oK a_0 g_0_1 o4] [fS 4 Ln.C s_1 a1]) ?_ ?_
 ·refine zH rfl (fun hc5=>?_) (fun hc5=>?_)
  ·replace H:=if_t hc5 H
   refine za (wd (zo rfl) (wd (zh rfl) ?_))
   obtain ⟨p6,s8,hp7,S⟩ := S.open_oK 0
   replace S:=S
   refine wd (zB (congrArg Value.pointer hp7)) (wd (ze ym rfl (o':=2) rfl) ?_)
   refine yZ yf rfl rfl (S.blk 0) (by rw [Maker.len]; decide) rfl (Maker.set_bad _ _) fun w9 B hw9 zw9=>?_
   replace S:=S.store 0 B hw9
   clear B
   replace S:=((S.front 2).front 2).front 2
   replace S:=S.shut_oK hp7
   refine zb ?_
   obtain rfl:=zbz H
   exact ⟨rfl,(((((Dif.refl _ _).upd rfl _).upd rfl _).upd rfl _).upd rfl _),S⟩
  ·replace H:=if_f hc5 H
   refine zA ?_
   obtain rfl:=zbz H
   exact ⟨rfl,(Dif.refl _ _),S⟩
 rintro g10 u11 S
 have H:=Ho4
 refine zd (za (wd (zo rfl) ?_))
 obtain ⟨p12,s14,hp13,S⟩ := S.open_oK 0
 replace S:=S
 refine wd (zB (congrArg Value.pointer hp13)) (wd (ze v8 rfl (o':=1) rfl) (wd (zj yJ rfl ((S.blk 0).cell (Maker.get_l _))) (wd (xd zY rfl (S.rdO 2)) (wd (zi rfl) ?_))))
 replace S:=((S.front 2).front 2).front 2
 replace S:=S.shut_oK hp13
 refine zb (zd (zd (za (wd (zC rfl) (wd (xd zY rfl (S.rd 0)) (wd (zh rfl) (zb ?_)))))))
 obtain ⟨o15,e15,Ho15⟩ := zt H
 clear H
 refine xO [9,26,27,28,29,30,31,32,33,34,35,36,37,38,39,40,41,42,43,44,45,46,47,48,49,50,51] (fun fr W => ∃ s15:PMaker,o15 = .inl s15∧St A N w W [oK a_0 g_0_1 s15] [fS 4 Ln.C s_1 a1]) ?_ ?_
 ·refine zO ?_
  refine xN (α:=Nat × Int × PMaker) [9,26,27,28,29,30,31,32,33,34,35,36,37,38,39,40,41,42,43,44,45,46,47,48,49,50,51] (fun x fr W=>(x.1:Int)=(a1.length:Int) - x.2.1∧0 ≤ x.2.1∧forN (fun i s=>zcY.b0 a1 o4 i s) x.1 x.2.1 x.2.2=some o15∧fr 26 = .int .i64 x.2.1∧St A N w W [oK a_0 g_0_1 (x.2.2)] [fS 4 Ln.C s_1 a1]) (fun x=>x.1) (((a1.length:Int) - 0).toNat,0,o4) ⟨(by dsimp only; have hle:=Int.natCast_nonneg (a1.length); omega),(Int.le_refl _),(by dsimp only; exact e15),rfl,S⟩ ?_
  rintro ⟨m15,i15,x15_0⟩ g15 u15 ⟨hm15,hl15,e15,q15_i,S⟩
  try dsimp only at hm15
  try dsimp only at hl15
  try dsimp only at e15
  try dsimp only at S
  try dsimp only at q15_i
  refine zd (za (wd (xK q15_i rfl) (zb (zd ?_))))
  refine zH rfl (fun hc16=>?_) (fun hc16=>?_)
  rotate_left
  ·refine xZ ?_
   have hge:(a1.length:Int) ≤ i15:=Int.not_lt.1 (of_decide_eq_false hc16)
   obtain rfl:m15=0:=by omega
   replace e15:=jr e15
   exact ⟨rfl,((Dif.self _ _ _).upd rfl _),x15_0,e15,S⟩
  refine zA ?_
  have hlt15:i15 < (a1.length:Int):=of_decide_eq_true hc16
  obtain ⟨m15,rfl⟩ : ∃ m,m15=m + 1:=⟨m15 - 1,by omega⟩
  obtain ⟨q15,H,e15⟩ := js e15
  unfold zcY.b0 at H
  try dsimp only at H
  have hb15:=(S.len 0)
  refine zd ?_
  refine zO (zd (za (wd (zW zY rfl q15_i (S.rd 0) (And.intro (show 0 ≤ i15 by omega) (show i15 < (a1.length:Int) from hlt15)).1 (And.intro (show 0 ≤ i15 by omega) (show i15 < (a1.length:Int) from hlt15)).2) (wd (zp jM rfl ((S.rd 0).at (xp Ln.z (And.intro (show 0 ≤ i15 by omega) (show i15 < (a1.length:Int) from hlt15)))) (Ln.len _)) ?_))))
  refine xa ze_Ln zbv fun b19 w18 hw18=>?_
  replace S:=S.new hw18
  refine zF jM rfl rfl (S.blk 0) (Ln.len _) (by rw [Ln.len]; decide) (Ln.one _) (zV (Ln.len _)) fun w20 B hw20 zw20=>?_
  replace S:=S.store 0 B hw20
  clear B
  refine zb (zd (zd (za (wd (zo rfl) ?_))))
  obtain ⟨p21,s23,hp22,S⟩ := S.open_oK 1
  replace S:=S
  refine wd (zB (congrArg Value.pointer hp22)) (wd (ze ym rfl (o':=2) rfl) (wd (zj yf rfl ((S.blk 0).cell (Maker.get_bad _))) (wd (xj rfl rfl) ?_)))
  replace S:=((S.front 2).front 2).front 2
  replace S:=S.shut_oK hp22
  refine zb ?_
  refine zH rfl (fun hc24=>?_) (fun hc24=>?_)
  ·replace H:=if_t hc24 H
   refine xZ ?_
   replace S:=S.arr [0] [0]
   obtain rfl:=zbz H
   exact ⟨rfl,((((((((((Dif.self _ _ _).upd rfl _).upd rfl _).upd rfl _).upd rfl _).upd rfl _).upd rfl _).upd rfl _).upd rfl _).upd rfl _),x15_0,e15,S⟩
  replace H:=if_f hc24 H
  refine zA (zd (zd (za (wd (ze vt rfl (o':=0) rfl) (wd (zj x7 rfl ((S.blk 1).cell (Ln.get_kind _))) (wd (zL rfl rfl) (zb ?_)))))))
  refine zH rfl (fun hc25=>?_) (fun hc25=>?_)
  ·replace H:=if_t hc25 H
   refine za (wd (ze jf rfl (o':=2) rfl) (wd (zj zQ rfl ((S.blk 1).cell (Ln.get_a _))) (wd (zh rfl) (wd (uf rfl rfl) (wd (ze uv rfl (o':=3) rfl) (wd (zj zQ rfl ((S.blk 1).cell (Ln.get_b _))) (wd (zh rfl) (wd (uf rfl rfl) (wd (ze jf rfl (o':=2) rfl) ?_)))))))))
   refine yZ zQ rfl rfl (S.blk 1) (by rw [Ln.len]; decide) rfl (Ln.set_a _ _) fun w26 B hw26 zw26=>?_
   replace S:=S.store 1 B hw26
   clear B
   refine wd (ze uv rfl (o':=3) rfl) ?_
   refine yZ zQ rfl rfl (S.blk 0) (by rw [Ln.len]; decide) rfl (Ln.set_b _ _) fun w27 B hw27 zw27=>?_
   replace S:=S.store 0 B hw27
   clear B
   refine zb (za (wd (zo rfl) (wd (zp jM rfl ((S.blk 0).all _ (Ln.len _)) (Ln.len _)) ?_)))
   obtain ⟨r28,er28,H⟩ := zt H
   replace S:=S.front 1
   obtain ⟨B30,MB30,SB30,back⟩ := S.calln 1 ((.nil))
   refine zu (zq vc) zbv (vd SB30 er28) ?_
   rintro _ w29 ⟨rfl,S2⟩
   replace S:=back _ _ _ _ S2 rfl
   clear back S2 SB30
   refine zb (za (wd (xM q15_i rfl (c:=i15 + 1) rfl zbw zbw) (wd (zh rfl) (zb ?_))))
   replace S:=S.arr [0] [0]
   obtain rfl:=zbz H
   exact ⟨rfl,(by repeat first | exact Dif.refl _ _ | exact Dif.self _ _ _ | refine Dif.upd ?_ rfl _ | refine Dif.mask ?_ rfl _),(m15,i15 + 1,r28.1),⟨(by dsimp only; omega),(by dsimp only; omega),e15,rfl,S⟩,by dsimp only; omega⟩
  ·replace H:=if_f hc25 H
   refine zA (za (wd (zo rfl) (wd (zp jM rfl ((S.blk 1).all _ (Ln.len _)) (Ln.len _)) ?_)))
   obtain ⟨r31,er31,H⟩ := zt H
   obtain ⟨B33,MB33,SB33,back⟩ := S.calln 1 ((.nil))
   refine zu (zq vc) zbv (vd SB33 er31) ?_
   rintro _ w32 ⟨rfl,S2⟩
   replace S:=back _ _ _ _ S2 rfl
   clear back S2 SB33
   refine zb (za (wd (xM q15_i rfl (c:=i15 + 1) rfl zbw zbw) (wd (zh rfl) (zb ?_))))
   replace S:=S.arr [0] [0]
   obtain rfl:=zbz H
   exact ⟨rfl,(by repeat first | exact Dif.refl _ _ | exact Dif.self _ _ _ | refine Dif.upd ?_ rfl _ | refine Dif.mask ?_ rfl _),(m15,i15 + 1,r31.1),⟨(by dsimp only; omega),(by dsimp only; omega),e15,rfl,S⟩,by dsimp only; omega⟩
 rintro g34 u35 ⟨s15,rfl,S⟩
 have H:=Ho15
 dsimp only [aft] at H
 refine zd (za (wd (zo rfl) ?_))
 obtain ⟨p36,s38,hp37,S⟩ := S.open_oK 0
 replace S:=S
 refine wd (zB (congrArg Value.pointer hp37)) (wd (ze v8 rfl (o':=1) rfl) (wd (zj yJ rfl ((S.blk 0).cell (Maker.get_l _))) (wd (xd zY rfl (S.rdO 2)) (wd (ug rfl rfl) (wd (zi rfl) ?_)))))
 replace S:=((S.front 2).front 2).front 2
 replace S:=S.shut_oK hp37
 refine zb (zy ?_)
 refine ⟨_,(zS (zg rfl)),?_⟩
 replace S:=S.arr [0] []
 obtain rfl:=zbz H
 exact ⟨rfl,S⟩
theorem yy {zdQ:Tb→List Hyp→PTerm→Int→Option (Tb × List Ln × Int)} (zdG : ∀ {A:Nat→Prop} {N:Oth} {w:World} {a0:Tb} {a_0:Option Addr} {a1:List Hyp} {s_1:SlV} {a2:PTerm} {s_2:SlV} {a3:Int} (S:St A N w w [oT a_0 a0] [fS 2 Hyp.C s_1 a1,zf s_2 a2.sub,oEt]) {r:Tb × List Ln × Int} (H:zdQ a0 a1 a2 a3=some r),Calls PP yG #[.pointer a_0,s_1.v,.agg (Term.C (⟨a2.kind,a2.name,a2.other,a2.form,s_2⟩ : Term)).toArray,.int .i64 a3] w fun e w' => ∃ v,e = .returned v∧(∃ so0:SlV,v = .tuple #[so0.v,.int .i64 r.2.2]∧St A N w w' [oT a_0 r.1,oS T_Ln 4 Ln.C so0 r.2.1] [])) {A:Nat→Prop} {N:Oth} {w:World} {a0:PMaker} {a_0:Option Addr} {g_0_1:Option Addr} {a1:List Hyp} {s_1:SlV} {a2:PTerm} {s_2:SlV} {a3:Int} (S:St A N w w [oK a_0 g_0_1 a0] [fS 2 Hyp.C s_1 a1,zf s_2 a2.sub,oEt]) {r:PMaker × Int} (H:zcZ.g zdQ a0 a1 a2 a3=some r) :
  Calls PP kR #[.pointer a_0,s_1.v,.agg (Term.C (⟨a2.kind,a2.name,a2.other,a2.form,s_2⟩ : Term)).toArray,.int .i64 a3] w fun e w' => ∃ v,e = .returned v∧(v = .int .i64 r.2∧St A N w w' [oK a_0 g_0_1 r.1] []):=by
 unfold zcZ.g at H
 refine zz (n:=26) fn_hilbert_maker_part rfl rfl zbx (zd (za ?_))
 refine z1 rfl zbv fun b2 w1 hw1=>?_
 replace S:=S.new hw1
 refine wd (zi rfl) (zb (zd (zd (za (wd (zo rfl) ?_)))))
 obtain ⟨p3,s5,hp4,S⟩ := S.open_oK 1
 replace S:=S
 refine wd (zB (congrArg Value.pointer hp4)) (wd (ze ym rfl (o':=2) rfl) (wd (zj yf rfl ((S.blk 0).cell (Maker.get_bad _))) (wd (xj rfl rfl) ?_)))
 replace S:=((S.front 2).front 2).front 2
 replace S:=S.shut_oK hp4
 refine zb ?_
 refine zH rfl (fun hc6=>?_) (fun hc6=>?_)
 ·replace H:=if_t hc6 H
  refine zd (za (wd (zi rfl) (zb (zy ?_))))
  refine ⟨_,(zS (zg rfl)),?_⟩
  replace S:=S.arr [0] []
  obtain rfl:=zbz H
  exact ⟨rfl,S⟩
 replace H:=if_f hc6 H
 refine zA (zd ?_)
 obtain ⟨p7,s9,hp8,S⟩ := S.open_oK 0
 replace S:=S
 obtain ⟨r10,er10,H⟩ := zt H
 refine vw 11 ⟨fun _ _=>True,fun _ _ _=>True,fun i v _=>match i with
  | 0=>v=Value.pointer a_0
  | 1=>v=Value.pointer a_0
  | 2=>v=Value.pointer (some ⟨p7,0,none⟩)
  | 3=>v=Value.pointer (some ⟨p7,0,none⟩)
  | 4=>v=Value.pointer g_0_1
  | 5=>v=s_1.v
  | 6=>v=Value.agg (Term.C (⟨a2.kind,a2.name,a2.other,a2.form,s_2⟩ : Term)).toArray
  | 7=>v=Value.int .i64 a3
  | 10=>v=Value.int .i64 r10.2.2
  | _=>True⟩ (fun L g v=>bif L 8 then (∃ (s13:SlV),(L 8=true→g 22=Value.tuple #[s13.v,.int .i64 r10.2.2])∧(L 9=true→g 23=s13.v)∧St A N w v [oT g_0_1 r10.1,oS T_Ln 4 Ln.C s13 r10.2.1,oB p7 xE (Maker.C (⟨g_0_1,s9,a0.bad⟩ : Maker)),oS T_Ln 4 Ln.C s9 a0.l,oB b2 zk (Term.C (⟨a2.kind,a2.name,a2.other,a2.form,s_2⟩ : Term))] [fS 2 Hyp.C s_1 a1,zf s_2 a2.sub,oEt]) else (St A N w v [oB p7 xE (Maker.C (⟨g_0_1,s9,a0.bad⟩ : Maker)),oT g_0_1 a0.t,oS T_Ln 4 Ln.C s9 a0.l,oB b2 zk (Term.C (⟨a2.kind,a2.name,a2.other,a2.form,s_2⟩ : Term))] [fS 2 Hyp.C s_1 a1,zf s_2 a2.sub,oEt])) hmix zby (fun _ _ _ _ _ _ _ hv=>hv) (fun g=>S.ext (Ext.drawn _)) ⟨?_,?_,?_,?_,?_,?_,?_,?_,?_,?_,?_,trivial⟩ ?_
 ·rintro L g v hL hcl hclo hT 
  cases hl8:L 8 with
  | true =>
   replace hT : ∃ (s13:SlV),(L 8=true→g 22=Value.tuple #[s13.v,.int .i64 r10.2.2])∧(L 9=true→g 23=s13.v)∧St A N w v [oT g_0_1 r10.1,oS T_Ln 4 Ln.C s13 r10.2.1,oB p7 xE (Maker.C (⟨g_0_1,s9,a0.bad⟩ : Maker)),oS T_Ln 4 Ln.C s9 a0.l,oB b2 zk (Term.C (⟨a2.kind,a2.name,a2.other,a2.form,s_2⟩ : Term))] [fS 2 Hyp.C s_1 a1,zf s_2 a2.sub,oEt]:=by simp only [hl8,cond_true,cond_false] at hT ⊢; exact hT
   obtain ⟨s13,he8,he9,S⟩ := hT
   refine wd (zo rfl) ?_
   have hT2 : ∃ (s13':SlV),((plus L 0) 8=true→(upd g 14 (Value.pointer a_0)) 22=Value.tuple #[s13'.v,.int .i64 r10.2.2])∧((plus L 0) 9=true→(upd g 14 (Value.pointer a_0)) 23=s13'.v)∧St A N w v [oT g_0_1 r10.1,oS T_Ln 4 Ln.C s13' r10.2.1,oB p7 xE (Maker.C (⟨g_0_1,s9,a0.bad⟩ : Maker)),oS T_Ln 4 Ln.C s9 a0.l,oB b2 zk (Term.C (⟨a2.kind,a2.name,a2.other,a2.form,s_2⟩ : Term))] [fS 2 Hyp.C s_1 a1,zf s_2 a2.sub,oEt]:=⟨s13,fun h=>by rw [zG _ _ _ _ zbv]; exact he8 (by rw [zr rfl] at h; exact h),fun h=>by rw [zG _ _ _ _ zbv]; exact he9 (by rw [zr rfl] at h; exact h),S⟩
   exact zb (ob4 trivial rfl (by simp only [zr (L:=L) (i:=0) (j:=8) rfl,hl8,cond_true,cond_false] at hT2 ⊢; exact hT2))
  | false =>
   simp only [hl8,cond_true,cond_false] at hT
   replace S:=hT
   refine wd (zo rfl) ?_
   exact zb (ob4 trivial rfl (by simp only [zr (L:=L) (i:=0) (j:=8) rfl,hl8,cond_true,cond_false]; exact S))
 ·rintro L g v hL hcl hclo hT 
  have hl8:L 8=false:=by cases h:L 8 with | false=>rfl | true=>exact absurd (hclo 8 1 h zby) (by rw [hL]; decide)
  simp only [hl8,cond_true,cond_false] at hT
  replace S:=hT
  refine wd (zo rfl) ?_
  exact zb (ob4 trivial rfl (by simp only [zr (L:=L) (i:=1) (j:=8) rfl,hl8,cond_true,cond_false]; exact S))
 ·rintro L g v hL hcl hclo hT hv1
  have hl8:L 8=false:=by cases h:L 8 with | false=>rfl | true=>exact absurd (hclo 8 2 h zby) (by rw [hL]; decide)
  simp only [hl8,cond_true,cond_false] at hT
  replace S:=hT
  refine wd (zB ((hv1:_=Value.pointer a_0).trans (congrArg Value.pointer hp8))) ?_
  exact zb (ob4 trivial rfl (by simp only [zr (L:=L) (i:=2) (j:=8) rfl,hl8,cond_true,cond_false]; exact S))
 ·rintro L g v hL hcl hclo hT hv2
  have hl8:L 8=false:=by cases h:L 8 with | false=>rfl | true=>exact absurd (hclo 8 3 h zby) (by rw [hL]; decide)
  simp only [hl8,cond_true,cond_false] at hT
  replace S:=hT
  refine wd (ze uX hv2 (o':=0) rfl) ?_
  exact zb (ob4 trivial rfl (by simp only [zr (L:=L) (i:=3) (j:=8) rfl,hl8,cond_true,cond_false]; exact S))
 ·rintro L g v hL hcl hclo hT hv3
  have hl8:L 8=false:=by cases h:L 8 with | false=>rfl | true=>exact absurd (hclo 8 4 h zby) (by rw [hL]; decide)
  simp only [hl8,cond_true,cond_false] at hT
  replace S:=hT
  refine wd (zj xI hv3 ((S.blk 0).cell (Maker.get_t _))) ?_
  exact zb (ob4 trivial rfl (by simp only [zr (L:=L) (i:=4) (j:=8) rfl,hl8,cond_true,cond_false]; exact S))
 ·rintro L g v hL hcl hclo hT 
  have hl8:L 8=false:=by cases h:L 8 with | false=>rfl | true=>exact absurd (hclo 8 5 h zby) (by rw [hL]; decide)
  simp only [hl8,cond_true,cond_false] at hT
  replace S:=hT
  refine wd (zC rfl) ?_
  exact zb (ob4 trivial rfl (by simp only [zr (L:=L) (i:=5) (j:=8) rfl,hl8,cond_true,cond_false]; exact S))
 ·rintro L g v hL hcl hclo hT 
  have hl8:L 8=false:=by cases h:L 8 with | false=>rfl | true=>exact absurd (hclo 8 6 h zby) (by rw [hL]; decide)
  simp only [hl8,cond_true,cond_false] at hT
  replace S:=hT
  refine wd (zp zE rfl ((S.blk 3).all _ (Term.len _)) (Term.len _)) ?_
  exact zb (ob4 trivial rfl (by simp only [zr (L:=L) (i:=6) (j:=8) rfl,hl8,cond_true,cond_false]; exact S))
 ·rintro L g v hL hcl hclo hT 
  have hl8:L 8=false:=by cases h:L 8 with | false=>rfl | true=>exact absurd (hclo 8 7 h zby) (by rw [hL]; decide)
  simp only [hl8,cond_true,cond_false] at hT
  replace S:=hT
  refine wd (zh rfl) ?_
  exact zb (ob4 trivial rfl (by simp only [zr (L:=L) (i:=7) (j:=8) rfl,hl8,cond_true,cond_false]; exact S))
 ·rintro L g v hL hcl hclo hT hv4 hv5 hv6 hv7
  have hl8:L 8=false:=hL
  simp only [hl8,cond_true,cond_false] at hT
  replace S:=hT
  replace S:=S.front 1
  obtain ⟨B16,MB16,SB16,back⟩ := S.calln 1 ((.z 0 rfl (.z 1 rfl (.z 2 rfl .nil))))
  refine zu (zN jF (zT hv4 (zT hv5 (zT hv6 (zT hv7 rfl))))) zbv (zdG (a2:=a2) SB16 er10) ?_
  rintro _ w15 ⟨s13,rfl,S2⟩
  replace S:=back _ _ _ _ S2 rfl
  clear back S2 SB16
  have hT2 : ∃ (s13':SlV),((plus L 8) 8=true→(upd g 22 (Value.tuple #[s13.v,.int .i64 r10.2.2])) 22=Value.tuple #[s13'.v,.int .i64 r10.2.2])∧((plus L 8) 9=true→(upd g 22 (Value.tuple #[s13.v,.int .i64 r10.2.2])) 23=s13'.v)∧St A N w w15 [oT g_0_1 r10.1,oS T_Ln 4 Ln.C s13' r10.2.1,oB p7 xE (Maker.C (⟨g_0_1,s9,a0.bad⟩ : Maker)),oS T_Ln 4 Ln.C s9 a0.l,oB b2 zk (Term.C (⟨a2.kind,a2.name,a2.other,a2.form,s_2⟩ : Term))] [fS 2 Hyp.C s_1 a1,zf s_2 a2.sub,oEt]:=⟨s13,fun _=>upd_same _ _ _,fun h=>absurd (hclo 9 8 (by rw [zr rfl] at h; exact h) zby) (by rw [hL]; decide),S⟩
  exact zb (ob4 trivial trivial (by simp only [yY (L:=L) (i:=8),cond_true,cond_false] at hT2 ⊢; exact hT2))
 ·rintro L g v hL hcl hclo hT hv8
  have hl8:L 8=true:=hcl 8 zby
  replace hT : ∃ (s13:SlV),(L 8=true→g 22=Value.tuple #[s13.v,.int .i64 r10.2.2])∧(L 9=true→g 23=s13.v)∧St A N w v [oT g_0_1 r10.1,oS T_Ln 4 Ln.C s13 r10.2.1,oB p7 xE (Maker.C (⟨g_0_1,s9,a0.bad⟩ : Maker)),oS T_Ln 4 Ln.C s9 a0.l,oB b2 zk (Term.C (⟨a2.kind,a2.name,a2.other,a2.form,s_2⟩ : Term))] [fS 2 Hyp.C s_1 a1,zf s_2 a2.sub,oEt]:=by simp only [hl8,cond_true,cond_false] at hT ⊢; exact hT
  obtain ⟨s13,he8,he9,S⟩ := hT
  refine wd (zw (he8 (hcl 8 zby)) rfl) ?_
  have hT2 : ∃ (s13':SlV),((plus L 9) 8=true→(upd g 23 (s13.v)) 22=Value.tuple #[s13'.v,.int .i64 r10.2.2])∧((plus L 9) 9=true→(upd g 23 (s13.v)) 23=s13'.v)∧St A N w v [oT g_0_1 r10.1,oS T_Ln 4 Ln.C s13' r10.2.1,oB p7 xE (Maker.C (⟨g_0_1,s9,a0.bad⟩ : Maker)),oS T_Ln 4 Ln.C s9 a0.l,oB b2 zk (Term.C (⟨a2.kind,a2.name,a2.other,a2.form,s_2⟩ : Term))] [fS 2 Hyp.C s_1 a1,zf s_2 a2.sub,oEt]:=⟨s13,fun h=>by rw [zG _ _ _ _ zbv]; exact he8 (by rw [zr rfl] at h; exact h),fun _=>upd_same _ _ _,S⟩
  exact zb (ob4 trivial trivial (by simp only [zr (L:=L) (i:=9) (j:=8) rfl,hl8,cond_true,cond_false] at hT2 ⊢; exact hT2))
 ·rintro L g v hL hcl hclo hT hv8
  have hl8:L 8=true:=hcl 8 zby
  replace hT : ∃ (s13:SlV),(L 8=true→g 22=Value.tuple #[s13.v,.int .i64 r10.2.2])∧(L 9=true→g 23=s13.v)∧St A N w v [oT g_0_1 r10.1,oS T_Ln 4 Ln.C s13 r10.2.1,oB p7 xE (Maker.C (⟨g_0_1,s9,a0.bad⟩ : Maker)),oS T_Ln 4 Ln.C s9 a0.l,oB b2 zk (Term.C (⟨a2.kind,a2.name,a2.other,a2.form,s_2⟩ : Term))] [fS 2 Hyp.C s_1 a1,zf s_2 a2.sub,oEt]:=by simp only [hl8,cond_true,cond_false] at hT ⊢; exact hT
  obtain ⟨s13,he8,he9,S⟩ := hT
  refine wd (zw (he8 (hcl 8 zby)) rfl) ?_
  have hT2 : ∃ (s13':SlV),((plus L 10) 8=true→(upd g 24 (Value.int .i64 r10.2.2)) 22=Value.tuple #[s13'.v,.int .i64 r10.2.2])∧((plus L 10) 9=true→(upd g 24 (Value.int .i64 r10.2.2)) 23=s13'.v)∧St A N w v [oT g_0_1 r10.1,oS T_Ln 4 Ln.C s13' r10.2.1,oB p7 xE (Maker.C (⟨g_0_1,s9,a0.bad⟩ : Maker)),oS T_Ln 4 Ln.C s9 a0.l,oB b2 zk (Term.C (⟨a2.kind,a2.name,a2.other,a2.form,s_2⟩ : Term))] [fS 2 Hyp.C s_1 a1,zf s_2 a2.sub,oEt]:=⟨s13,fun h=>by rw [zG _ _ _ _ zbv]; exact he8 (by rw [zr rfl] at h; exact h),fun h=>by rw [zG _ _ _ _ zbv]; exact he9 (by rw [zr rfl] at h; exact h),S⟩
  exact zb (ob4 trivial rfl (by simp only [zr (L:=L) (i:=10) (j:=8) rfl,hl8,cond_true,cond_false] at hT2 ⊢; exact hT2))
 rintro L g w17 hLm hT hv18_0 hv18_1 hv18_2 hv18_3 hv18_4 hv18_5 hv18_6 hv18_7 _ _ hv18_10
 have hLt : ∀ j,j < 11→L j=true:=fun j hj=>by rw [hLm]; exact decide_eq_true hj
 replace hT : ∃ (s13:SlV),(L 8=true→g 22=Value.tuple #[s13.v,.int .i64 r10.2.2])∧(L 9=true→g 23=s13.v)∧St A N w w17 [oT g_0_1 r10.1,oS T_Ln 4 Ln.C s13 r10.2.1,oB p7 xE (Maker.C (⟨g_0_1,s9,a0.bad⟩ : Maker)),oS T_Ln 4 Ln.C s9 a0.l,oB b2 zk (Term.C (⟨a2.kind,a2.name,a2.other,a2.form,s_2⟩ : Term))] [fS 2 Hyp.C s_1 a1,zf s_2 a2.sub,oEt]:=by simp only [hLt 8 zbv,cond_true] at hT ⊢; exact hT
 obtain ⟨s13,he8,he9,S⟩ := hT
 have hv18_8:=he8 (hLt 8 zbv)
 have hv18_9:=he9 (hLt 9 zbv)
 replace S:=((S.front 3).front 1).front 3
 replace S:=S.shut_oK hp8
 obtain ⟨r19,er19,H⟩ := zt H
 obtain ⟨B21,MB21,SB21,back⟩ := S.calln 1 ((.s 0 rfl .nil))
 refine zu (zN uU (zT hv18_0 (zT hv18_9 (zT hv18_10 rfl)))) zbv (ja SB21 er19) ?_
 rintro _ w20 ⟨rfl,S2⟩
 replace S:=back _ _ _ _ S2 rfl
 clear back S2 SB21
 refine wd (zi rfl) (zb (zy ?_))
 refine ⟨_,(zS (zg rfl)),?_⟩
 replace S:=S.arr [0] []
 obtain rfl:=zbz H
 exact ⟨rfl,S⟩
theorem vo {zdQ:Tb→List Hyp→PTerm→Int→Option (Tb × List Ln × Int)} (zdG : ∀ {A:Nat→Prop} {N:Oth} {w:World} {a0:Tb} {a_0:Option Addr} {a1:List Hyp} {s_1:SlV} {a2:PTerm} {s_2:SlV} {a3:Int} (S:St A N w w [oT a_0 a0] [fS 2 Hyp.C s_1 a1,zf s_2 a2.sub,oEt]) {r:Tb × List Ln × Int} (H:zdQ a0 a1 a2 a3=some r),Calls PP yG #[.pointer a_0,s_1.v,.agg (Term.C (⟨a2.kind,a2.name,a2.other,a2.form,s_2⟩ : Term)).toArray,.int .i64 a3] w fun e w' => ∃ v,e = .returned v∧(∃ so0:SlV,v = .tuple #[so0.v,.int .i64 r.2.2]∧St A N w w' [oT a_0 r.1,oS T_Ln 4 Ln.C so0 r.2.1] [])) {A:Nat→Prop} {N:Oth} {w:World} {a0:PMaker} {a_0:Option Addr} {g_0_1:Option Addr} {a1:List Hyp} {s_1:SlV} {a2:ByteArray} {a3:Int} {a4:PTerm} {s_4:SlV} {a5:Int} (S:St A N w w [oK a_0 g_0_1 a0] [fS 2 Hyp.C s_1 a1,zf s_4 a4.sub,oEt]) {r:PMaker × Int} (H:zda.g zdQ a0 a1 a2 a3 a4 a5=some r) :
  Calls PP kr #[.pointer a_0,s_1.v,.string a2,.int .i64 a3,.agg (Term.C (⟨a4.kind,a4.name,a4.other,a4.form,s_4⟩ : Term)).toArray,.int .i64 a5] w fun e w' => ∃ v,e = .returned v∧(v = .int .i64 r.2∧St A N w w' [oK a_0 g_0_1 r.1] []):=by
 unfold zda.g at H
 refine zz (n:=50) fn_hilbert_maker_under rfl rfl zbx (zd (za ?_))
 refine z1 rfl zbv fun b2 w1 hw1=>?_
 replace S:=S.new hw1
 refine wd (zi rfl) (zb (zd (zd (za (wd (zo rfl) ?_)))))
 obtain ⟨p3,s5,hp4,S⟩ := S.open_oK 1
 replace S:=S
 refine wd (zB (congrArg Value.pointer hp4)) (wd (ze ym rfl (o':=2) rfl) (wd (zj yf rfl ((S.blk 0).cell (Maker.get_bad _))) (wd (xj rfl rfl) ?_)))
 replace S:=((S.front 2).front 2).front 2
 replace S:=S.shut_oK hp4
 refine zb ?_
 refine zH rfl (fun hc6=>?_) (fun hc6=>?_)
 ·replace H:=if_t hc6 H
  refine zd (za (wd (zi rfl) (zb (zy ?_))))
  refine ⟨_,(zS (zg rfl)),?_⟩
  replace S:=S.arr [0] []
  obtain rfl:=zbz H
  exact ⟨rfl,S⟩
 replace H:=if_f hc6 H
 refine zA (zd ?_)
 obtain ⟨p7,s9,hp8,S⟩ := S.open_oK 0
 replace S:=S
 obtain ⟨r10,er10,H⟩ := zt H
 obtain ⟨r14,er14,H⟩ := zt H
 refine vw 15 ⟨fun _ _=>True,fun _ _ _=>True,fun i v _=>match i with
  | 0=>v=Value.pointer a_0
  | 1=>v=Value.pointer (some ⟨p7,0,none⟩)
  | 2=>v=Value.pointer (some ⟨p7,0,none⟩)
  | 3=>v=Value.pointer g_0_1
  | 4=>v=s_1.v
  | 5=>v=Value.string a2
  | 6=>v=Value.int .i64 a3
  | 8=>v=Value.agg (Term.C (⟨a4.kind,a4.name,a4.other,a4.form,s_4⟩ : Term)).toArray
  | 9=>v=Value.int .i64 a5
  | 13=>v=Value.int .i64 r14.2.2
  | _=>True⟩ (fun L g v=>bif L 10 then (∃ (s13:SlV) (s17:SlV),(L 7=true→g 28=s13.v)∧(L 10=true→g 31=Value.tuple #[s17.v,.int .i64 r14.2.2])∧(L 11=true→g 20=Value.tuple #[s17.v,.int .i64 r14.2.2])∧(L 12=true→g 32=s17.v)∧(L 14=true→g 13=s17.v)∧St A N w v [oT g_0_1 r14.1,oS T_Ln 4 Ln.C s17 r14.2.1,oS yq 2 Hyp.C s13 r10,oB p7 xE (Maker.C (⟨g_0_1,s9,a0.bad⟩ : Maker)),oS T_Ln 4 Ln.C s9 a0.l,oB b2 zk (Term.C (⟨a4.kind,a4.name,a4.other,a4.form,s_4⟩ : Term))] [fS 2 Hyp.C s_1 a1,zf s_4 a4.sub,oEt]) else bif L 7 then (∃ (s13:SlV),(L 7=true→g 28=s13.v)∧St A N w v [oS yq 2 Hyp.C s13 r10,oB p7 xE (Maker.C (⟨g_0_1,s9,a0.bad⟩ : Maker)),oT g_0_1 a0.t,oS T_Ln 4 Ln.C s9 a0.l,oB b2 zk (Term.C (⟨a4.kind,a4.name,a4.other,a4.form,s_4⟩ : Term))] [fS 2 Hyp.C s_1 a1,zf s_4 a4.sub,oEt]) else (St A N w v [oB p7 xE (Maker.C (⟨g_0_1,s9,a0.bad⟩ : Maker)),oT g_0_1 a0.t,oS T_Ln 4 Ln.C s9 a0.l,oB b2 zk (Term.C (⟨a4.kind,a4.name,a4.other,a4.form,s_4⟩ : Term))] [fS 2 Hyp.C s_1 a1,zf s_4 a4.sub,oEt])) hmix zby (fun _ _ _ _ _ _ _ hv=>hv) (fun g=>S.ext (Ext.drawn _)) ⟨?_,?_,?_,?_,?_,?_,?_,?_,?_,?_,?_,?_,?_,?_,?_,trivial⟩ ?_
 ·rintro L g v hL hcl hclo hT 
  have hl10:L 10=false:=by cases h:L 10 with | false=>rfl | true=>exact absurd (hclo 10 0 h zby) (by rw [hL]; decide)
  cases hl7:L 7 with
  | true =>
   replace hT : ∃ (s13:SlV),(L 7=true→g 28=s13.v)∧St A N w v [oS yq 2 Hyp.C s13 r10,oB p7 xE (Maker.C (⟨g_0_1,s9,a0.bad⟩ : Maker)),oT g_0_1 a0.t,oS T_Ln 4 Ln.C s9 a0.l,oB b2 zk (Term.C (⟨a4.kind,a4.name,a4.other,a4.form,s_4⟩ : Term))] [fS 2 Hyp.C s_1 a1,zf s_4 a4.sub,oEt]:=by simp only [hl7,hl10,cond_true,cond_false] at hT ⊢; exact hT
   obtain ⟨s13,he7,S⟩ := hT
   refine wd (zo rfl) ?_
   have hT2 : ∃ (s13':SlV),((plus L 0) 7=true→(upd g 21 (Value.pointer a_0)) 28=s13'.v)∧St A N w v [oS yq 2 Hyp.C s13' r10,oB p7 xE (Maker.C (⟨g_0_1,s9,a0.bad⟩ : Maker)),oT g_0_1 a0.t,oS T_Ln 4 Ln.C s9 a0.l,oB b2 zk (Term.C (⟨a4.kind,a4.name,a4.other,a4.form,s_4⟩ : Term))] [fS 2 Hyp.C s_1 a1,zf s_4 a4.sub,oEt]:=⟨s13,fun h=>by rw [zG _ _ _ _ zbv]; exact he7 (by rw [zr rfl] at h; exact h),S⟩
   exact zb (ob4 trivial rfl (by simp only [zr (L:=L) (i:=0) (j:=7) rfl,zr (L:=L) (i:=0) (j:=10) rfl,hl7,hl10,cond_true,cond_false] at hT2 ⊢; exact hT2))
  | false =>
   simp only [hl7,hl10,cond_true,cond_false] at hT
   replace S:=hT
   refine wd (zo rfl) ?_
   exact zb (ob4 trivial rfl (by simp only [zr (L:=L) (i:=0) (j:=7) rfl,zr (L:=L) (i:=0) (j:=10) rfl,hl7,hl10,cond_true,cond_false]; exact S))
 ·rintro L g v hL hcl hclo hT hv0
  have hl10:L 10=false:=by cases h:L 10 with | false=>rfl | true=>exact absurd (hclo 10 1 h zby) (by rw [hL]; decide)
  cases hl7:L 7 with
  | true =>
   replace hT : ∃ (s13:SlV),(L 7=true→g 28=s13.v)∧St A N w v [oS yq 2 Hyp.C s13 r10,oB p7 xE (Maker.C (⟨g_0_1,s9,a0.bad⟩ : Maker)),oT g_0_1 a0.t,oS T_Ln 4 Ln.C s9 a0.l,oB b2 zk (Term.C (⟨a4.kind,a4.name,a4.other,a4.form,s_4⟩ : Term))] [fS 2 Hyp.C s_1 a1,zf s_4 a4.sub,oEt]:=by simp only [hl7,hl10,cond_true,cond_false] at hT ⊢; exact hT
   obtain ⟨s13,he7,S⟩ := hT
   refine wd (zB ((hv0:_=Value.pointer a_0).trans (congrArg Value.pointer hp8))) ?_
   have hT2 : ∃ (s13':SlV),((plus L 1) 7=true→(upd g 22 (Value.pointer (some ⟨p7,0,none⟩))) 28=s13'.v)∧St A N w v [oS yq 2 Hyp.C s13' r10,oB p7 xE (Maker.C (⟨g_0_1,s9,a0.bad⟩ : Maker)),oT g_0_1 a0.t,oS T_Ln 4 Ln.C s9 a0.l,oB b2 zk (Term.C (⟨a4.kind,a4.name,a4.other,a4.form,s_4⟩ : Term))] [fS 2 Hyp.C s_1 a1,zf s_4 a4.sub,oEt]:=⟨s13,fun h=>by rw [zG _ _ _ _ zbv]; exact he7 (by rw [zr rfl] at h; exact h),S⟩
   exact zb (ob4 trivial rfl (by simp only [zr (L:=L) (i:=1) (j:=7) rfl,zr (L:=L) (i:=1) (j:=10) rfl,hl7,hl10,cond_true,cond_false] at hT2 ⊢; exact hT2))
  | false =>
   simp only [hl7,hl10,cond_true,cond_false] at hT
   replace S:=hT
   refine wd (zB ((hv0:_=Value.pointer a_0).trans (congrArg Value.pointer hp8))) ?_
   exact zb (ob4 trivial rfl (by simp only [zr (L:=L) (i:=1) (j:=7) rfl,zr (L:=L) (i:=1) (j:=10) rfl,hl7,hl10,cond_true,cond_false]; exact S))
 ·rintro L g v hL hcl hclo hT hv1
  have hl10:L 10=false:=by cases h:L 10 with | false=>rfl | true=>exact absurd (hclo 10 2 h zby) (by rw [hL]; decide)
  cases hl7:L 7 with
  | true =>
   replace hT : ∃ (s13:SlV),(L 7=true→g 28=s13.v)∧St A N w v [oS yq 2 Hyp.C s13 r10,oB p7 xE (Maker.C (⟨g_0_1,s9,a0.bad⟩ : Maker)),oT g_0_1 a0.t,oS T_Ln 4 Ln.C s9 a0.l,oB b2 zk (Term.C (⟨a4.kind,a4.name,a4.other,a4.form,s_4⟩ : Term))] [fS 2 Hyp.C s_1 a1,zf s_4 a4.sub,oEt]:=by simp only [hl7,hl10,cond_true,cond_false] at hT ⊢; exact hT
   obtain ⟨s13,he7,S⟩ := hT
   refine wd (ze uX hv1 (o':=0) rfl) ?_
   have hT2 : ∃ (s13':SlV),((plus L 2) 7=true→(upd g 23 (Value.pointer (some ⟨p7,0,none⟩))) 28=s13'.v)∧St A N w v [oS yq 2 Hyp.C s13' r10,oB p7 xE (Maker.C (⟨g_0_1,s9,a0.bad⟩ : Maker)),oT g_0_1 a0.t,oS T_Ln 4 Ln.C s9 a0.l,oB b2 zk (Term.C (⟨a4.kind,a4.name,a4.other,a4.form,s_4⟩ : Term))] [fS 2 Hyp.C s_1 a1,zf s_4 a4.sub,oEt]:=⟨s13,fun h=>by rw [zG _ _ _ _ zbv]; exact he7 (by rw [zr rfl] at h; exact h),S⟩
   exact zb (ob4 trivial rfl (by simp only [zr (L:=L) (i:=2) (j:=7) rfl,zr (L:=L) (i:=2) (j:=10) rfl,hl7,hl10,cond_true,cond_false] at hT2 ⊢; exact hT2))
  | false =>
   simp only [hl7,hl10,cond_true,cond_false] at hT
   replace S:=hT
   refine wd (ze uX hv1 (o':=0) rfl) ?_
   exact zb (ob4 trivial rfl (by simp only [zr (L:=L) (i:=2) (j:=7) rfl,zr (L:=L) (i:=2) (j:=10) rfl,hl7,hl10,cond_true,cond_false]; exact S))
 ·rintro L g v hL hcl hclo hT hv2
  have hl10:L 10=false:=by cases h:L 10 with | false=>rfl | true=>exact absurd (hclo 10 3 h zby) (by rw [hL]; decide)
  cases hl7:L 7 with
  | true =>
   replace hT : ∃ (s13:SlV),(L 7=true→g 28=s13.v)∧St A N w v [oS yq 2 Hyp.C s13 r10,oB p7 xE (Maker.C (⟨g_0_1,s9,a0.bad⟩ : Maker)),oT g_0_1 a0.t,oS T_Ln 4 Ln.C s9 a0.l,oB b2 zk (Term.C (⟨a4.kind,a4.name,a4.other,a4.form,s_4⟩ : Term))] [fS 2 Hyp.C s_1 a1,zf s_4 a4.sub,oEt]:=by simp only [hl7,hl10,cond_true,cond_false] at hT ⊢; exact hT
   obtain ⟨s13,he7,S⟩ := hT
   refine wd (zj xI hv2 ((S.blk 1).cell (Maker.get_t _))) ?_
   have hT2 : ∃ (s13':SlV),((plus L 3) 7=true→(upd g 24 (Value.pointer g_0_1)) 28=s13'.v)∧St A N w v [oS yq 2 Hyp.C s13' r10,oB p7 xE (Maker.C (⟨g_0_1,s9,a0.bad⟩ : Maker)),oT g_0_1 a0.t,oS T_Ln 4 Ln.C s9 a0.l,oB b2 zk (Term.C (⟨a4.kind,a4.name,a4.other,a4.form,s_4⟩ : Term))] [fS 2 Hyp.C s_1 a1,zf s_4 a4.sub,oEt]:=⟨s13,fun h=>by rw [zG _ _ _ _ zbv]; exact he7 (by rw [zr rfl] at h; exact h),S⟩
   exact zb (ob4 trivial rfl (by simp only [zr (L:=L) (i:=3) (j:=7) rfl,zr (L:=L) (i:=3) (j:=10) rfl,hl7,hl10,cond_true,cond_false] at hT2 ⊢; exact hT2))
  | false =>
   simp only [hl7,hl10,cond_true,cond_false] at hT
   replace S:=hT
   refine wd (zj xI hv2 ((S.blk 0).cell (Maker.get_t _))) ?_
   exact zb (ob4 trivial rfl (by simp only [zr (L:=L) (i:=3) (j:=7) rfl,zr (L:=L) (i:=3) (j:=10) rfl,hl7,hl10,cond_true,cond_false]; exact S))
 ·rintro L g v hL hcl hclo hT 
  have hl7:L 7=false:=by cases h:L 7 with | false=>rfl | true=>exact absurd (hclo 7 4 h zby) (by rw [hL]; decide)
  have hl10:L 10=false:=by cases h:L 10 with | false=>rfl | true=>exact absurd (hclo 10 4 h zby) (by rw [hL]; decide)
  simp only [hl7,hl10,cond_true,cond_false] at hT
  replace S:=hT
  refine wd (zC rfl) ?_
  exact zb (ob4 trivial rfl (by simp only [zr (L:=L) (i:=4) (j:=7) rfl,zr (L:=L) (i:=4) (j:=10) rfl,hl7,hl10,cond_true,cond_false]; exact S))
 ·rintro L g v hL hcl hclo hT 
  have hl7:L 7=false:=by cases h:L 7 with | false=>rfl | true=>exact absurd (hclo 7 5 h zby) (by rw [hL]; decide)
  have hl10:L 10=false:=by cases h:L 10 with | false=>rfl | true=>exact absurd (hclo 10 5 h zby) (by rw [hL]; decide)
  simp only [hl7,hl10,cond_true,cond_false] at hT
  replace S:=hT
  refine wd (xr rfl) ?_
  exact zb (ob4 trivial rfl (by simp only [zr (L:=L) (i:=5) (j:=7) rfl,zr (L:=L) (i:=5) (j:=10) rfl,hl7,hl10,cond_true,cond_false]; exact S))
 ·rintro L g v hL hcl hclo hT 
  have hl7:L 7=false:=by cases h:L 7 with | false=>rfl | true=>exact absurd (hclo 7 6 h zby) (by rw [hL]; decide)
  have hl10:L 10=false:=by cases h:L 10 with | false=>rfl | true=>exact absurd (hclo 10 6 h zby) (by rw [hL]; decide)
  simp only [hl7,hl10,cond_true,cond_false] at hT
  replace S:=hT
  refine wd (zh rfl) ?_
  exact zb (ob4 trivial rfl (by simp only [zr (L:=L) (i:=6) (j:=7) rfl,zr (L:=L) (i:=6) (j:=10) rfl,hl7,hl10,cond_true,cond_false]; exact S))
 ·rintro L g v hL hcl hclo hT hv4 hv5 hv6
  have hl7:L 7=false:=hL
  have hl10:L 10=false:=by cases h:L 10 with | false=>rfl | true=>exact absurd (hclo 10 7 h zby) (by rw [hL]; decide)
  simp only [hl7,hl10,cond_true,cond_false] at hT
  replace S:=hT
  obtain ⟨B20,MB20,SB20,back⟩ := S.calln 0 ((.z 0 rfl .nil))
  refine zu (zN ca_hilbert_scope_with (zT hv4 (zT hv5 (zT hv6 rfl)))) zbv (hilbert_scope_with_st SB20 er10) ?_
  rintro _ w19 ⟨s13,rfl,S2⟩
  replace S:=back _ _ _ _ S2 rfl
  clear back S2 SB20
  have hT2 : ∃ (s13':SlV),((plus L 7) 7=true→(upd g 28 (s13.v)) 28=s13'.v)∧St A N w w19 [oS yq 2 Hyp.C s13' r10,oB p7 xE (Maker.C (⟨g_0_1,s9,a0.bad⟩ : Maker)),oT g_0_1 a0.t,oS T_Ln 4 Ln.C s9 a0.l,oB b2 zk (Term.C (⟨a4.kind,a4.name,a4.other,a4.form,s_4⟩ : Term))] [fS 2 Hyp.C s_1 a1,zf s_4 a4.sub,oEt]:=⟨s13,fun _=>upd_same _ _ _,S⟩
  exact zb (ob4 trivial trivial (by simp only [zr (L:=L) (i:=7) (j:=10) rfl,yY (L:=L) (i:=7),hl10,cond_true,cond_false] at hT2 ⊢; exact hT2))
 ·rintro L g v hL hcl hclo hT 
  have hl10:L 10=false:=by cases h:L 10 with | false=>rfl | true=>exact absurd (hclo 10 8 h zby) (by rw [hL]; decide)
  cases hl7:L 7 with
  | true =>
   replace hT : ∃ (s13:SlV),(L 7=true→g 28=s13.v)∧St A N w v [oS yq 2 Hyp.C s13 r10,oB p7 xE (Maker.C (⟨g_0_1,s9,a0.bad⟩ : Maker)),oT g_0_1 a0.t,oS T_Ln 4 Ln.C s9 a0.l,oB b2 zk (Term.C (⟨a4.kind,a4.name,a4.other,a4.form,s_4⟩ : Term))] [fS 2 Hyp.C s_1 a1,zf s_4 a4.sub,oEt]:=by simp only [hl7,hl10,cond_true,cond_false] at hT ⊢; exact hT
   obtain ⟨s13,he7,S⟩ := hT
   refine wd (zp zE rfl ((S.blk 4).all _ (Term.len _)) (Term.len _)) ?_
   have hT2 : ∃ (s13':SlV),((plus L 8) 7=true→(upd g 29 (Value.agg (Term.C (⟨a4.kind,a4.name,a4.other,a4.form,s_4⟩ : Term)).toArray)) 28=s13'.v)∧St A N w v [oS yq 2 Hyp.C s13' r10,oB p7 xE (Maker.C (⟨g_0_1,s9,a0.bad⟩ : Maker)),oT g_0_1 a0.t,oS T_Ln 4 Ln.C s9 a0.l,oB b2 zk (Term.C (⟨a4.kind,a4.name,a4.other,a4.form,s_4⟩ : Term))] [fS 2 Hyp.C s_1 a1,zf s_4 a4.sub,oEt]:=⟨s13,fun h=>by rw [zG _ _ _ _ zbv]; exact he7 (by rw [zr rfl] at h; exact h),S⟩
   exact zb (ob4 trivial rfl (by simp only [zr (L:=L) (i:=8) (j:=7) rfl,zr (L:=L) (i:=8) (j:=10) rfl,hl7,hl10,cond_true,cond_false] at hT2 ⊢; exact hT2))
  | false =>
   simp only [hl7,hl10,cond_true,cond_false] at hT
   replace S:=hT
   refine wd (zp zE rfl ((S.blk 3).all _ (Term.len _)) (Term.len _)) ?_
   exact zb (ob4 trivial rfl (by simp only [zr (L:=L) (i:=8) (j:=7) rfl,zr (L:=L) (i:=8) (j:=10) rfl,hl7,hl10,cond_true,cond_false]; exact S))
 ·rintro L g v hL hcl hclo hT 
  have hl10:L 10=false:=by cases h:L 10 with | false=>rfl | true=>exact absurd (hclo 10 9 h zby) (by rw [hL]; decide)
  cases hl7:L 7 with
  | true =>
   replace hT : ∃ (s13:SlV),(L 7=true→g 28=s13.v)∧St A N w v [oS yq 2 Hyp.C s13 r10,oB p7 xE (Maker.C (⟨g_0_1,s9,a0.bad⟩ : Maker)),oT g_0_1 a0.t,oS T_Ln 4 Ln.C s9 a0.l,oB b2 zk (Term.C (⟨a4.kind,a4.name,a4.other,a4.form,s_4⟩ : Term))] [fS 2 Hyp.C s_1 a1,zf s_4 a4.sub,oEt]:=by simp only [hl7,hl10,cond_true,cond_false] at hT ⊢; exact hT
   obtain ⟨s13,he7,S⟩ := hT
   refine wd (zh rfl) ?_
   have hT2 : ∃ (s13':SlV),((plus L 9) 7=true→(upd g 30 (Value.int .i64 a5)) 28=s13'.v)∧St A N w v [oS yq 2 Hyp.C s13' r10,oB p7 xE (Maker.C (⟨g_0_1,s9,a0.bad⟩ : Maker)),oT g_0_1 a0.t,oS T_Ln 4 Ln.C s9 a0.l,oB b2 zk (Term.C (⟨a4.kind,a4.name,a4.other,a4.form,s_4⟩ : Term))] [fS 2 Hyp.C s_1 a1,zf s_4 a4.sub,oEt]:=⟨s13,fun h=>by rw [zG _ _ _ _ zbv]; exact he7 (by rw [zr rfl] at h; exact h),S⟩
   exact zb (ob4 trivial rfl (by simp only [zr (L:=L) (i:=9) (j:=7) rfl,zr (L:=L) (i:=9) (j:=10) rfl,hl7,hl10,cond_true,cond_false] at hT2 ⊢; exact hT2))
  | false =>
   simp only [hl7,hl10,cond_true,cond_false] at hT
   replace S:=hT
   refine wd (zh rfl) ?_
   exact zb (ob4 trivial rfl (by simp only [zr (L:=L) (i:=9) (j:=7) rfl,zr (L:=L) (i:=9) (j:=10) rfl,hl7,hl10,cond_true,cond_false]; exact S))
 ·rintro L g v hL hcl hclo hT hv3 hv7 hv8 hv9
  have hl7:L 7=true:=hcl 7 zby
  have hl10:L 10=false:=hL
  replace hT : ∃ (s13:SlV),(L 7=true→g 28=s13.v)∧St A N w v [oS yq 2 Hyp.C s13 r10,oB p7 xE (Maker.C (⟨g_0_1,s9,a0.bad⟩ : Maker)),oT g_0_1 a0.t,oS T_Ln 4 Ln.C s9 a0.l,oB b2 zk (Term.C (⟨a4.kind,a4.name,a4.other,a4.form,s_4⟩ : Term))] [fS 2 Hyp.C s_1 a1,zf s_4 a4.sub,oEt]:=by simp only [hl7,hl10,cond_true,cond_false] at hT ⊢; exact hT
  obtain ⟨s13,he7,S⟩ := hT
  replace S:=S.front 2
  obtain ⟨B23,MB23,SB23,back⟩ := S.calln 1 ((.s 0 rfl (.z 1 rfl (.z 2 rfl .nil))))
  refine zu (zN jF (zT hv3 (zT (he7 (hcl 7 zby)) (zT hv8 (zT hv9 rfl))))) zbv (zdG (a2:=a4) SB23 er14) ?_
  rintro _ w22 ⟨s17,rfl,S2⟩
  replace S:=back _ _ _ _ S2 rfl
  clear back S2 SB23
  have hT2 : ∃ (s13':SlV) (s17':SlV),((plus L 10) 7=true→(upd g 31 (Value.tuple #[s17.v,.int .i64 r14.2.2])) 28=s13'.v)∧((plus L 10) 10=true→(upd g 31 (Value.tuple #[s17.v,.int .i64 r14.2.2])) 31=Value.tuple #[s17'.v,.int .i64 r14.2.2])∧((plus L 10) 11=true→(upd g 31 (Value.tuple #[s17.v,.int .i64 r14.2.2])) 20=Value.tuple #[s17'.v,.int .i64 r14.2.2])∧((plus L 10) 12=true→(upd g 31 (Value.tuple #[s17.v,.int .i64 r14.2.2])) 32=s17'.v)∧((plus L 10) 14=true→(upd g 31 (Value.tuple #[s17.v,.int .i64 r14.2.2])) 13=s17'.v)∧St A N w w22 [oT g_0_1 r14.1,oS T_Ln 4 Ln.C s17' r14.2.1,oS yq 2 Hyp.C s13' r10,oB p7 xE (Maker.C (⟨g_0_1,s9,a0.bad⟩ : Maker)),oS T_Ln 4 Ln.C s9 a0.l,oB b2 zk (Term.C (⟨a4.kind,a4.name,a4.other,a4.form,s_4⟩ : Term))] [fS 2 Hyp.C s_1 a1,zf s_4 a4.sub,oEt]:=⟨s13,s17,fun h=>by rw [zG _ _ _ _ zbv]; exact he7 (by rw [zr rfl] at h; exact h),fun _=>upd_same _ _ _,fun h=>absurd (hclo 11 10 (by rw [zr rfl] at h; exact h) zby) (by rw [hL]; decide),fun h=>absurd (hclo 12 10 (by rw [zr rfl] at h; exact h) zby) (by rw [hL]; decide),fun h=>absurd (hclo 14 10 (by rw [zr rfl] at h; exact h) zby) (by rw [hL]; decide),S⟩
  exact zb (ob4 trivial trivial (by simp only [zr (L:=L) (i:=10) (j:=7) rfl,yY (L:=L) (i:=10),cond_true,cond_false] at hT2 ⊢; exact hT2))
 ·rintro L g v hL hcl hclo hT hv10
  have hl10:L 10=true:=hcl 10 zby
  replace hT : ∃ (s13:SlV) (s17:SlV),(L 7=true→g 28=s13.v)∧(L 10=true→g 31=Value.tuple #[s17.v,.int .i64 r14.2.2])∧(L 11=true→g 20=Value.tuple #[s17.v,.int .i64 r14.2.2])∧(L 12=true→g 32=s17.v)∧(L 14=true→g 13=s17.v)∧St A N w v [oT g_0_1 r14.1,oS T_Ln 4 Ln.C s17 r14.2.1,oS yq 2 Hyp.C s13 r10,oB p7 xE (Maker.C (⟨g_0_1,s9,a0.bad⟩ : Maker)),oS T_Ln 4 Ln.C s9 a0.l,oB b2 zk (Term.C (⟨a4.kind,a4.name,a4.other,a4.form,s_4⟩ : Term))] [fS 2 Hyp.C s_1 a1,zf s_4 a4.sub,oEt]:=by simp only [hl10,cond_true,cond_false] at hT ⊢; exact hT
  obtain ⟨s13,s17,he7,he10,he11,he12,he14,S⟩ := hT
  refine wd (z7 (he10 (hcl 10 zby))) ?_
  have hT2 : ∃ (s13':SlV) (s17':SlV),((plus L 11) 7=true→(upd g 20 (Value.tuple #[s17.v,.int .i64 r14.2.2])) 28=s13'.v)∧((plus L 11) 10=true→(upd g 20 (Value.tuple #[s17.v,.int .i64 r14.2.2])) 31=Value.tuple #[s17'.v,.int .i64 r14.2.2])∧((plus L 11) 11=true→(upd g 20 (Value.tuple #[s17.v,.int .i64 r14.2.2])) 20=Value.tuple #[s17'.v,.int .i64 r14.2.2])∧((plus L 11) 12=true→(upd g 20 (Value.tuple #[s17.v,.int .i64 r14.2.2])) 32=s17'.v)∧((plus L 11) 14=true→(upd g 20 (Value.tuple #[s17.v,.int .i64 r14.2.2])) 13=s17'.v)∧St A N w v [oT g_0_1 r14.1,oS T_Ln 4 Ln.C s17' r14.2.1,oS yq 2 Hyp.C s13' r10,oB p7 xE (Maker.C (⟨g_0_1,s9,a0.bad⟩ : Maker)),oS T_Ln 4 Ln.C s9 a0.l,oB b2 zk (Term.C (⟨a4.kind,a4.name,a4.other,a4.form,s_4⟩ : Term))] [fS 2 Hyp.C s_1 a1,zf s_4 a4.sub,oEt]:=⟨s13,s17,fun h=>by rw [zG _ _ _ _ zbv]; exact he7 (by rw [zr rfl] at h; exact h),fun h=>by rw [zG _ _ _ _ zbv]; exact he10 (by rw [zr rfl] at h; exact h),fun _=>upd_same _ _ _,fun h=>by rw [zG _ _ _ _ zbv]; exact he12 (by rw [zr rfl] at h; exact h),fun h=>by rw [zG _ _ _ _ zbv]; exact he14 (by rw [zr rfl] at h; exact h),S⟩
  exact zb (ob4 trivial trivial (by simp only [zr (L:=L) (i:=11) (j:=7) rfl,zr (L:=L) (i:=11) (j:=10) rfl,hl10,cond_true,cond_false] at hT2 ⊢; exact hT2))
 ·rintro L g v hL hcl hclo hT hv11
  have hl10:L 10=true:=hcl 10 zby
  replace hT : ∃ (s13:SlV) (s17:SlV),(L 7=true→g 28=s13.v)∧(L 10=true→g 31=Value.tuple #[s17.v,.int .i64 r14.2.2])∧(L 11=true→g 20=Value.tuple #[s17.v,.int .i64 r14.2.2])∧(L 12=true→g 32=s17.v)∧(L 14=true→g 13=s17.v)∧St A N w v [oT g_0_1 r14.1,oS T_Ln 4 Ln.C s17 r14.2.1,oS yq 2 Hyp.C s13 r10,oB p7 xE (Maker.C (⟨g_0_1,s9,a0.bad⟩ : Maker)),oS T_Ln 4 Ln.C s9 a0.l,oB b2 zk (Term.C (⟨a4.kind,a4.name,a4.other,a4.form,s_4⟩ : Term))] [fS 2 Hyp.C s_1 a1,zf s_4 a4.sub,oEt]:=by simp only [hl10,cond_true,cond_false] at hT ⊢; exact hT
  obtain ⟨s13,s17,he7,he10,he11,he12,he14,S⟩ := hT
  refine wd (zw (he11 (hcl 11 zby)) rfl) ?_
  have hT2 : ∃ (s13':SlV) (s17':SlV),((plus L 12) 7=true→(upd g 32 (s17.v)) 28=s13'.v)∧((plus L 12) 10=true→(upd g 32 (s17.v)) 31=Value.tuple #[s17'.v,.int .i64 r14.2.2])∧((plus L 12) 11=true→(upd g 32 (s17.v)) 20=Value.tuple #[s17'.v,.int .i64 r14.2.2])∧((plus L 12) 12=true→(upd g 32 (s17.v)) 32=s17'.v)∧((plus L 12) 14=true→(upd g 32 (s17.v)) 13=s17'.v)∧St A N w v [oT g_0_1 r14.1,oS T_Ln 4 Ln.C s17' r14.2.1,oS yq 2 Hyp.C s13' r10,oB p7 xE (Maker.C (⟨g_0_1,s9,a0.bad⟩ : Maker)),oS T_Ln 4 Ln.C s9 a0.l,oB b2 zk (Term.C (⟨a4.kind,a4.name,a4.other,a4.form,s_4⟩ : Term))] [fS 2 Hyp.C s_1 a1,zf s_4 a4.sub,oEt]:=⟨s13,s17,fun h=>by rw [zG _ _ _ _ zbv]; exact he7 (by rw [zr rfl] at h; exact h),fun h=>by rw [zG _ _ _ _ zbv]; exact he10 (by rw [zr rfl] at h; exact h),fun h=>by rw [zG _ _ _ _ zbv]; exact he11 (by rw [zr rfl] at h; exact h),fun _=>upd_same _ _ _,fun h=>by rw [zG _ _ _ _ zbv]; exact he14 (by rw [zr rfl] at h; exact h),S⟩
  exact zb (ob4 trivial trivial (by simp only [zr (L:=L) (i:=12) (j:=7) rfl,zr (L:=L) (i:=12) (j:=10) rfl,hl10,cond_true,cond_false] at hT2 ⊢; exact hT2))
 ·rintro L g v hL hcl hclo hT hv11
  have hl10:L 10=true:=hcl 10 zby
  replace hT : ∃ (s13:SlV) (s17:SlV),(L 7=true→g 28=s13.v)∧(L 10=true→g 31=Value.tuple #[s17.v,.int .i64 r14.2.2])∧(L 11=true→g 20=Value.tuple #[s17.v,.int .i64 r14.2.2])∧(L 12=true→g 32=s17.v)∧(L 14=true→g 13=s17.v)∧St A N w v [oT g_0_1 r14.1,oS T_Ln 4 Ln.C s17 r14.2.1,oS yq 2 Hyp.C s13 r10,oB p7 xE (Maker.C (⟨g_0_1,s9,a0.bad⟩ : Maker)),oS T_Ln 4 Ln.C s9 a0.l,oB b2 zk (Term.C (⟨a4.kind,a4.name,a4.other,a4.form,s_4⟩ : Term))] [fS 2 Hyp.C s_1 a1,zf s_4 a4.sub,oEt]:=by simp only [hl10,cond_true,cond_false] at hT ⊢; exact hT
  obtain ⟨s13,s17,he7,he10,he11,he12,he14,S⟩ := hT
  refine wd (zw (he11 (hcl 11 zby)) rfl) ?_
  have hT2 : ∃ (s13':SlV) (s17':SlV),((plus L 13) 7=true→(upd g 33 (Value.int .i64 r14.2.2)) 28=s13'.v)∧((plus L 13) 10=true→(upd g 33 (Value.int .i64 r14.2.2)) 31=Value.tuple #[s17'.v,.int .i64 r14.2.2])∧((plus L 13) 11=true→(upd g 33 (Value.int .i64 r14.2.2)) 20=Value.tuple #[s17'.v,.int .i64 r14.2.2])∧((plus L 13) 12=true→(upd g 33 (Value.int .i64 r14.2.2)) 32=s17'.v)∧((plus L 13) 14=true→(upd g 33 (Value.int .i64 r14.2.2)) 13=s17'.v)∧St A N w v [oT g_0_1 r14.1,oS T_Ln 4 Ln.C s17' r14.2.1,oS yq 2 Hyp.C s13' r10,oB p7 xE (Maker.C (⟨g_0_1,s9,a0.bad⟩ : Maker)),oS T_Ln 4 Ln.C s9 a0.l,oB b2 zk (Term.C (⟨a4.kind,a4.name,a4.other,a4.form,s_4⟩ : Term))] [fS 2 Hyp.C s_1 a1,zf s_4 a4.sub,oEt]:=⟨s13,s17,fun h=>by rw [zG _ _ _ _ zbv]; exact he7 (by rw [zr rfl] at h; exact h),fun h=>by rw [zG _ _ _ _ zbv]; exact he10 (by rw [zr rfl] at h; exact h),fun h=>by rw [zG _ _ _ _ zbv]; exact he11 (by rw [zr rfl] at h; exact h),fun h=>by rw [zG _ _ _ _ zbv]; exact he12 (by rw [zr rfl] at h; exact h),fun h=>by rw [zG _ _ _ _ zbv]; exact he14 (by rw [zr rfl] at h; exact h),S⟩
  exact zb (ob4 trivial rfl (by simp only [zr (L:=L) (i:=13) (j:=7) rfl,zr (L:=L) (i:=13) (j:=10) rfl,hl10,cond_true,cond_false] at hT2 ⊢; exact hT2))
 ·rintro L g v hL hcl hclo hT hv12
  have hl10:L 10=true:=hcl 10 zby
  replace hT : ∃ (s13:SlV) (s17:SlV),(L 7=true→g 28=s13.v)∧(L 10=true→g 31=Value.tuple #[s17.v,.int .i64 r14.2.2])∧(L 11=true→g 20=Value.tuple #[s17.v,.int .i64 r14.2.2])∧(L 12=true→g 32=s17.v)∧(L 14=true→g 13=s17.v)∧St A N w v [oT g_0_1 r14.1,oS T_Ln 4 Ln.C s17 r14.2.1,oS yq 2 Hyp.C s13 r10,oB p7 xE (Maker.C (⟨g_0_1,s9,a0.bad⟩ : Maker)),oS T_Ln 4 Ln.C s9 a0.l,oB b2 zk (Term.C (⟨a4.kind,a4.name,a4.other,a4.form,s_4⟩ : Term))] [fS 2 Hyp.C s_1 a1,zf s_4 a4.sub,oEt]:=by simp only [hl10,cond_true,cond_false] at hT ⊢; exact hT
  obtain ⟨s13,s17,he7,he10,he11,he12,he14,S⟩ := hT
  refine wd (x6 (he12 (hcl 12 zby))) ?_
  have hT2 : ∃ (s13':SlV) (s17':SlV),((plus L 14) 7=true→(upd g 13 (s17.v)) 28=s13'.v)∧((plus L 14) 10=true→(upd g 13 (s17.v)) 31=Value.tuple #[s17'.v,.int .i64 r14.2.2])∧((plus L 14) 11=true→(upd g 13 (s17.v)) 20=Value.tuple #[s17'.v,.int .i64 r14.2.2])∧((plus L 14) 12=true→(upd g 13 (s17.v)) 32=s17'.v)∧((plus L 14) 14=true→(upd g 13 (s17.v)) 13=s17'.v)∧St A N w v [oT g_0_1 r14.1,oS T_Ln 4 Ln.C s17' r14.2.1,oS yq 2 Hyp.C s13' r10,oB p7 xE (Maker.C (⟨g_0_1,s9,a0.bad⟩ : Maker)),oS T_Ln 4 Ln.C s9 a0.l,oB b2 zk (Term.C (⟨a4.kind,a4.name,a4.other,a4.form,s_4⟩ : Term))] [fS 2 Hyp.C s_1 a1,zf s_4 a4.sub,oEt]:=⟨s13,s17,fun h=>by rw [zG _ _ _ _ zbv]; exact he7 (by rw [zr rfl] at h; exact h),fun h=>by rw [zG _ _ _ _ zbv]; exact he10 (by rw [zr rfl] at h; exact h),fun h=>by rw [zG _ _ _ _ zbv]; exact he11 (by rw [zr rfl] at h; exact h),fun h=>by rw [zG _ _ _ _ zbv]; exact he12 (by rw [zr rfl] at h; exact h),fun _=>upd_same _ _ _,S⟩
  exact zb (ob4 trivial trivial (by simp only [zr (L:=L) (i:=14) (j:=7) rfl,zr (L:=L) (i:=14) (j:=10) rfl,hl10,cond_true,cond_false] at hT2 ⊢; exact hT2))
 rintro L g w24 hLm hT hv25_0 hv25_1 hv25_2 hv25_3 hv25_4 hv25_5 hv25_6 _ hv25_8 hv25_9 _ _ _ hv25_13 _
 have hLt : ∀ j,j < 15→L j=true:=fun j hj=>by rw [hLm]; exact decide_eq_true hj
 replace hT : ∃ (s13:SlV) (s17:SlV),(L 7=true→g 28=s13.v)∧(L 10=true→g 31=Value.tuple #[s17.v,.int .i64 r14.2.2])∧(L 11=true→g 20=Value.tuple #[s17.v,.int .i64 r14.2.2])∧(L 12=true→g 32=s17.v)∧(L 14=true→g 13=s17.v)∧St A N w w24 [oT g_0_1 r14.1,oS T_Ln 4 Ln.C s17 r14.2.1,oS yq 2 Hyp.C s13 r10,oB p7 xE (Maker.C (⟨g_0_1,s9,a0.bad⟩ : Maker)),oS T_Ln 4 Ln.C s9 a0.l,oB b2 zk (Term.C (⟨a4.kind,a4.name,a4.other,a4.form,s_4⟩ : Term))] [fS 2 Hyp.C s_1 a1,zf s_4 a4.sub,oEt]:=by simp only [hLt 10 zbv,cond_true] at hT ⊢; exact hT
 obtain ⟨s13,s17,he7,he10,he11,he12,he14,S⟩ := hT
 have hv25_7:=he7 (hLt 7 zbv)
 have hv25_10:=he10 (hLt 10 zbv)
 have hv25_11:=he11 (hLt 11 zbv)
 have hv25_12:=he12 (hLt 12 zbv)
 have hv25_14:=he14 (hLt 14 zbv)
 replace S:=S
 refine wd (zi hv25_13) ?_
 replace S:=((S.front 4).front 1).front 4
 replace S:=S.shut_oK hp8
 refine zb (zd (zd (za (wd (zh rfl) (wd (zL rfl rfl) (zb ?_))))))
 refine zH rfl (fun hc26=>?_) (fun hc26=>?_)
 ·replace H:=if_t hc26 H
  refine za (wd (zo rfl) ?_)
  obtain ⟨p27,s29,hp28,S⟩ := S.open_oK 0
  replace S:=S
  refine wd (zB (congrArg Value.pointer hp28)) (wd (ze uX rfl (o':=0) rfl) (wd (zj xI rfl ((S.blk 0).cell (Maker.get_t _))) (wd (zC hv25_14) (wd (zh rfl) ?_))))
  obtain ⟨r30,er30,H⟩ := zt H
  replace S:=S.front 1
  obtain ⟨B32,MB32,SB32,back⟩ := S.calln 1 ((.s 2 rfl .nil))
  refine zu (zq zaS) zbv (zaT SB32 er30) ?_
  rintro _ w31 ⟨s33,rfl,S2⟩
  replace S:=back _ _ _ _ S2 rfl
  clear back S2 SB32
  refine wd (z7 rfl) (wd (zw rfl rfl) (wd (zw rfl rfl) (wd (x6 rfl) (wd (zi rfl) ?_))))
  replace S:=((S.front 3).front 1).front 3
  replace S:=S.shut_oK hp28
  refine zb (zd (za (wd (zo rfl) (wd (zC rfl) (wd (zh rfl) ?_)))))
  obtain ⟨r34,er34,H⟩ := zt H
  obtain ⟨B36,MB36,SB36,back⟩ := S.calln 1 ((.s 0 rfl .nil))
  refine zu (zq uU) zbv (ja SB36 er34) ?_
  rintro _ w35 ⟨rfl,S2⟩
  replace S:=back _ _ _ _ S2 rfl
  clear back S2 SB36
  refine wd (zi rfl) (zb (zy ?_))
  refine ⟨_,(zS (zg rfl)),?_⟩
  replace S:=S.arr [0] []
  obtain rfl:=zbz H
  exact ⟨rfl,S⟩
 ·replace H:=if_f hc26 H
  refine zA (zd (za (wd (zo rfl) (wd (zC hv25_14) (wd (zh rfl) ?_)))))
  obtain ⟨r37,er37,H⟩ := zt H
  obtain ⟨B39,MB39,SB39,back⟩ := S.calln 1 ((.s 0 rfl .nil))
  refine zu (zq uU) zbv (ja SB39 er37) ?_
  rintro _ w38 ⟨rfl,S2⟩
  replace S:=back _ _ _ _ S2 rfl
  clear back S2 SB39
  refine wd (zi rfl) (zb (zy ?_))
  refine ⟨_,(zS (zg rfl)),?_⟩
  replace S:=S.arr [0] []
  obtain rfl:=zbz H
  exact ⟨rfl,S⟩
theorem vz {zdQ:Tb→List Hyp→PTerm→Int→Option (Tb × List Ln × Int)} (zdG : ∀ {A:Nat→Prop} {N:Oth} {w:World} {a0:Tb} {a_0:Option Addr} {a1:List Hyp} {s_1:SlV} {a2:PTerm} {s_2:SlV} {a3:Int} (S:St A N w w [oT a_0 a0] [fS 2 Hyp.C s_1 a1,zf s_2 a2.sub,oEt]) {r:Tb × List Ln × Int} (H:zdQ a0 a1 a2 a3=some r),Calls PP yG #[.pointer a_0,s_1.v,.agg (Term.C (⟨a2.kind,a2.name,a2.other,a2.form,s_2⟩ : Term)).toArray,.int .i64 a3] w fun e w' => ∃ v,e = .returned v∧(∃ so0:SlV,v = .tuple #[so0.v,.int .i64 r.2.2]∧St A N w w' [oT a_0 r.1,oS T_Ln 4 Ln.C so0 r.2.1] [])) {A:Nat→Prop} {N:Oth} {w:World} {a0:PMaker} {a_0:Option Addr} {g_0_1:Option Addr} {a1:List Hyp} {s_1:SlV} {a2:PTerm} {s_2:SlV} (S:St A N w w [oK a_0 g_0_1 a0] [fS 2 Hyp.C s_1 a1,zf s_2 a2.sub,oEt]) {k:Nat} {r:PMaker × Int × Int} (H:zdb.g zdQ k a0 a1 a2=some r) :
  Calls PP kS #[.pointer a_0,s_1.v,.agg (Term.C (⟨a2.kind,a2.name,a2.other,a2.form,s_2⟩ : Term)).toArray] w fun e w' => ∃ v,e = .returned v∧(v = .tuple #[.int .i64 r.2.1,.int .i64 r.2.2]∧St A N w w' [oK a_0 g_0_1 r.1] []):=by
 unfold zdb.g at H
 refine zz (n:=31) fn_hilbert_maker_told rfl rfl zbx (zd (za ?_))
 refine z1 rfl zbv fun b2 w1 hw1=>?_
 replace S:=S.new hw1
 refine wd (zi rfl) (wd (zi rfl) (zb (zd (zd (za (wd (zo rfl) ?_))))))
 obtain ⟨p3,s5,hp4,S⟩ := S.open_oK 1
 replace S:=S
 refine wd (zB (congrArg Value.pointer hp4)) (wd (ze ym rfl (o':=2) rfl) (wd (zj yf rfl ((S.blk 0).cell (Maker.get_bad _))) (wd (xj rfl rfl) ?_)))
 replace S:=((S.front 2).front 2).front 2
 replace S:=S.shut_oK hp4
 refine zb ?_
 refine zH rfl (fun hc6=>?_) (fun hc6=>?_)
 ·replace H:=if_t hc6 H
  refine zd (za (wd (zi rfl) (wd (zi rfl) (zb (zy ?_)))))
  refine ⟨_,(xx (zg rfl) (zg rfl)),?_⟩
  replace S:=S.arr [0] []
  obtain rfl:=zbz H
  exact ⟨rfl,S⟩
 replace H:=if_f hc6 H
 refine zA (zd ?_)
 obtain ⟨p7,s9,hp8,S⟩ := S.open_oK 0
 replace S:=S
 refine xU 11 (Ext w1) hmix zby zby (Ext.drawn _) (zx (fun v K=>zo rfl) (zx (fun v K=>zB (congrArg Value.pointer hp8)) (zx (fun v K=>ze uX rfl (o':=0) rfl) (zx (fun v K=>zj xI rfl (((S.ext K).blk 0).cell (Maker.get_t _))) (zx (fun v K=>zC rfl) (zx (fun v K=>zp zE rfl (((S.ext K).blk 3).all _ (Term.len _)) (Term.len _)) ?_))))))
 obtain ⟨r10,er10,H⟩ := zt H
 refine wq_call (fun v=>zq ca_types_Infer) (fun v K=>(have ⟨M,SS⟩ := (S.ext K).lend ((.o 1 rfl (.z 0 rfl (.z 1 rfl (.z 2 rfl .nil))))); quiet (types_Infer_st (a2:=a2) SS er10) (fun v w' h=>⟨h.1,_,_,h.2⟩))) (fun v v' K h=>K.thenExt h) (zx (fun v K=>z7 rfl) (zx (fun v K=>zw rfl rfl) (zx (fun v K=>zw rfl rfl) (zx (fun v K=>zi rfl) ?_))))
 refine yV fun w11 K=>?_
 replace S:=S.ext K
 clear K
 refine wd (zi rfl) ?_
 replace S:=((S.front 2).front 2).front 2
 replace S:=S.shut_oK hp8
 refine zb (zd (za (wd (zh rfl) (wd (zo rfl) (wd (zC rfl) (wd (zp zE rfl ((S.blk 1).all _ (Term.len _)) (Term.len _)) (wd (zh rfl) ?_)))))))
 obtain ⟨r12,er12,H⟩ := zt H
 obtain ⟨B14,MB14,SB14,back⟩ := S.calln 1 ((.z 0 rfl (.z 1 rfl (.z 2 rfl .nil))))
 refine zu (zq yD) zbv (yy zdG (a2:=a2) SB14 er12) ?_
 rintro _ w13 ⟨rfl,S2⟩
 replace S:=back _ _ _ _ S2 rfl
 clear back S2 SB14
 refine wd (zi rfl) (wd (zi rfl) (zb (zy ?_)))
 refine ⟨_,(xx (zg rfl) (zg rfl)),?_⟩
 replace S:=S.arr [0] []
 obtain rfl:=zbz H
 exact ⟨rfl,S⟩
theorem uI {a0:PMaker} {a_0:Option Addr} {g_0_1:Option Addr} {a1:Int} (S:St A N w w [oK a_0 g_0_1 a0] []) {r:PMaker × Nd} (H:zdc.f a0 a1=some r) :
  Calls PP kQ #[.pointer a_0,.int .i64 a1] w fun e w' => ∃ v,e = .returned v∧(v = .agg (Nd.C r.2).toArray∧St A N w w' [oK a_0 g_0_1 r.1] []):=by
 unfold zdc.f at H
 refine zz (n:=17) fn_hilbert_maker_node rfl rfl zbx (zd (za ?_))
 refine xa v6 zbv fun b2 w1 hw1=>?_
 replace S:=S.new hw1
 refine zb (zd (za (wd (zo rfl) ?_)))
 obtain ⟨p3,s5,hp4,S⟩ := S.open_oK 1
 replace S:=S
 refine wd (zB (congrArg Value.pointer hp4)) (wd (ze uX rfl (o':=0) rfl) (wd (zj xI rfl ((S.blk 0).cell (Maker.get_t _))) (wd (zh rfl) ?_)))
 obtain ⟨r6,er6,H⟩ := zt H
 obtain ⟨B8,MB8,SB8,back⟩ := S.calln 0 ((.o 1 rfl .nil))
 refine zu (zq yC) zbv (yF SB8 er6) ?_
 rintro _ w7 ⟨rfl,S2⟩
 replace S:=back _ _ _ _ S2 rfl
 clear back S2 SB8
 refine wd (z7 rfl) (wd (zw rfl rfl) (wd (zw rfl rfl) ?_))
 refine xa v6 zbv fun b10 w9 hw9=>?_
 replace S:=S.new hw9
 refine zF xQ rfl rfl (S.blk 0) (Nd.len _) (by rw [Nd.len]; decide) (Nd.one _) (zV (Nd.len _)) fun w11 B hw11 zw11=>?_
 replace S:=S.store 0 B hw11
 clear B
 refine wd (zn rfl) ?_
 replace S:=((S.front 3).front 3).front 3
 replace S:=S.shut_oK hp4
 refine zb (zd (za (wd (zp xQ rfl ((S.blk 1).all _ (Nd.len _)) (Nd.len _)) ?_)))
 refine zF xQ rfl rfl (S.blk 2) (Nd.len _) (by rw [Nd.len]; decide) (Nd.one _) (zV (Nd.len _)) fun w12 B hw12 zw12=>?_
 replace S:=S.store 2 B hw12
 clear B
 refine zb (zy ?_)
 refine ⟨_,(zS (xl xQ rfl ((S.blk 0).all _ (Nd.len _)) (Nd.len _))),?_⟩
 replace S:=S.arr [1] []
 obtain rfl:=zbz H
 exact ⟨rfl,S⟩
theorem uh {zdQ:Tb→List Hyp→PTerm→Int→Option (Tb × List Ln × Int)} (zdG : ∀ {A:Nat→Prop} {N:Oth} {w:World} {a0:Tb} {a_0:Option Addr} {a1:List Hyp} {s_1:SlV} {a2:PTerm} {s_2:SlV} {a3:Int} (S:St A N w w [oT a_0 a0] [fS 2 Hyp.C s_1 a1,zf s_2 a2.sub,oEt]) {r:Tb × List Ln × Int} (H:zdQ a0 a1 a2 a3=some r),Calls PP yG #[.pointer a_0,s_1.v,.agg (Term.C (⟨a2.kind,a2.name,a2.other,a2.form,s_2⟩ : Term)).toArray,.int .i64 a3] w fun e w' => ∃ v,e = .returned v∧(∃ so0:SlV,v = .tuple #[so0.v,.int .i64 r.2.2]∧St A N w w' [oT a_0 r.1,oS T_Ln 4 Ln.C so0 r.2.1] [])) {A:Nat→Prop} {N:Oth} {w:World} {a0:PMaker} {a_0:Option Addr} {g_0_1:Option Addr} {a1:List Hyp} {s_1:SlV} {a2:PTerm} {s_2:SlV} {a3:Int} {a4:Int} (S:St A N w w [oK a_0 g_0_1 a0] [fS 2 Hyp.C s_1 a1,zf s_2 a2.sub,oEt]) {k:Nat} {r:PMaker} (H:zdd.g zdQ k a0 a1 a2 a3 a4=some r) :
  Calls PP kq #[.pointer a_0,s_1.v,.agg (Term.C (⟨a2.kind,a2.name,a2.other,a2.form,s_2⟩ : Term)).toArray,.int .i64 a3,.int .i64 a4] w fun e w' => ∃ v,e = .returned v∧(v = .tuple #[]∧St A N w w' [oK a_0 g_0_1 r] []):=by
 unfold zdd.g at H
 refine zz (n:=32) fn_hilbert_maker_unary rfl rfl zbx (zd (za ?_))
 refine z1 rfl zbv fun b2 w1 hw1=>?_
 replace S:=S.new hw1
 refine zb (zd (za (wd (zo rfl) (wd (zC rfl) (wd (ze xn rfl (o':=4) rfl) (wd (zj xb rfl ((S.blk 0).cell (Term.get_sub _))) ?_))))))
 obtain ⟨hi3,H⟩ := xm H
 refine wd (does_indexF zR rfl rfl (S.onZ 1) (zI hi3).1 (zI hi3).2) ?_
 obtain ⟨s4,hc5,S⟩ := S.viewTerm 1 (zI hi3)
 replace S:=S
 refine wd (zp zE rfl hc5 (Term.len _)) ?_
 obtain ⟨r6,er6,H⟩ := zt H
 replace S:=S.front 1
 obtain ⟨B8,MB8,SB8,back⟩ := S.calln 1 ((.z 1 rfl (.z 0 rfl (.z 3 rfl .nil))))
 refine zu (zq vM) zbv (vz zdG (a2:=(at_ PTerm.z a2.sub 0)) SB8 er6) ?_
 rintro _ w7 ⟨rfl,S2⟩
 replace S:=back _ _ _ _ S2 rfl
 clear back S2 SB8
 refine wd (z7 rfl) (wd (zw rfl rfl) (wd (zw rfl rfl) (wd (zi rfl) (wd (zi rfl) (zb (za (wd (zo rfl) (wd (zo rfl) (wd (zh rfl) (wd (zo rfl) (wd (zh rfl) (wd (zh rfl) ?_))))))))))))
 obtain ⟨r9,er9,H⟩ := zt H
 obtain ⟨B11,MB11,SB11,back⟩ := S.calln 1 ((.nil))
 refine zu (zq xe) zbv (xf SB11 er9) ?_
 rintro _ w10 ⟨rfl,S2⟩
 replace S:=back _ _ _ _ S2 rfl
 clear back S2 SB11
 obtain ⟨r12,er12,H⟩ := zt H
 obtain ⟨B14,MB14,SB14,back⟩ := S.calln 1 ((.nil))
 refine zu (zq ya) zbv (yd SB14 er12) ?_
 rintro _ w13 ⟨rfl,S2⟩
 replace S:=back _ _ _ _ S2 rfl
 clear back S2 SB14
 refine wd (zh rfl) ?_
 obtain ⟨r15,er15,H⟩ := zt H
 obtain ⟨B17,MB17,SB17,back⟩ := S.calln 1 ((.nil))
 refine zu (zq xu) zbv (xv SB17 er15) ?_
 rintro _ w16 ⟨rfl,S2⟩
 replace S:=back _ _ _ _ S2 rfl
 clear back S2 SB17
 refine zb ?_
 refine ⟨_,rets0,?_⟩
 replace S:=S.arr [0] []
 obtain rfl:=zbz H
 exact ⟨rfl,S⟩
theorem hilbert_compile_gst {zdQ:Tb→List Hyp→PTerm→Int→Option (Tb × List Ln × Int)} (zdG : ∀ {A:Nat→Prop} {N:Oth} {w:World} {a0:Tb} {a_0:Option Addr} {a1:List Hyp} {s_1:SlV} {a2:PTerm} {s_2:SlV} {a3:Int} (S:St A N w w [oT a_0 a0] [fS 2 Hyp.C s_1 a1,zf s_2 a2.sub,oEt]) {r:Tb × List Ln × Int} (H:zdQ a0 a1 a2 a3=some r),Calls PP yG #[.pointer a_0,s_1.v,.agg (Term.C (⟨a2.kind,a2.name,a2.other,a2.form,s_2⟩ : Term)).toArray,.int .i64 a3] w fun e w' => ∃ v,e = .returned v∧(∃ so0:SlV,v = .tuple #[so0.v,.int .i64 r.2.2]∧St A N w w' [oT a_0 r.1,oS T_Ln 4 Ln.C so0 r.2.1] [])) {A:Nat→Prop} {N:Oth} {w:World} {a0:Tb} {a_0:Option Addr} {a1:List Hyp} {s_1:SlV} {a2:PTerm} {s_2:SlV} {a3:Int} (S:St A N w w [oT a_0 a0] [fS 2 Hyp.C s_1 a1,zf s_2 a2.sub,oEt]) {k:Nat} {r:Tb × List Ln × Int} (H:zde.g zdQ k a0 a1 a2 a3=some r) :
  Calls PP yG #[.pointer a_0,s_1.v,.agg (Term.C (⟨a2.kind,a2.name,a2.other,a2.form,s_2⟩ : Term)).toArray,.int .i64 a3] w fun e w' => ∃ v,e = .returned v∧(∃ so0:SlV,v = .tuple #[so0.v,.int .i64 r.2.2]∧St A N w w' [oT a_0 r.1,oS T_Ln 4 Ln.C so0 r.2.1] []):=by
 unfold zde.g at H
 refine zz (n:=301) fn_hilbert_compile rfl rfl zbx (zd (za ?_))
 refine z1 rfl zbv fun b2 w1 hw1=>?_
 replace S:=S.new hw1
 refine wd (xw) (wd (zi rfl) (zb (zd (za (wd (zo rfl) (wd (Does.to (v' := .agg (Maker.C (⟨a_0,SlV.nil,0⟩ : Maker)).toArray) (xo (vs:=[(0,.pointer a_0)]) bu_Maker (xJ rfl rfl) (Bld.one rfl rfl (by rw [Maker.len]; decide) (Maker.set_t _ _) Bld.nil)) rfl) ?_))))))
 refine z1 rfl zbv fun b4 w3 hw3=>?_
 replace S:=((S.new hw3).nil T_Ln 4 Ln.C).front 3
 replace S:=(S.front 2).shut_oK rfl
 refine wd (xi rfl) (zb (zd (za (wd (zo rfl) (wd (zh rfl) ?_)))))
 obtain ⟨r5,er5,H⟩ := zt H
 obtain ⟨B7,MB7,SB7,back⟩ := S.calln 1 ((.nil))
 refine zu (zq uD) zbv (uI SB7 er5) ?_
 rintro _ w6 ⟨rfl,S2⟩
 replace S:=back _ _ _ _ S2 rfl
 clear back S2 SB7
 refine xa v6 zbv fun b9 w8 hw8=>?_
 replace S:=S.new hw8
 refine zF xQ rfl rfl (S.blk 0) (Nd.len _) (by rw [Nd.len]; decide) (Nd.one _) (zV (Nd.len _)) fun w10 B hw10 zw10=>?_
 replace S:=S.store 0 B hw10
 clear B
 refine zb (zd (zd (za (wd (ze yc rfl (o':=0) rfl) (wd (zj xG rfl ((S.blk 2).cell (Term.get_kind _))) (zb ?_))))))
 obtain ⟨o11,e11,Ho11⟩ := zt H
 replace H:=e11; clear e11
 refine xO [12,13,14,15,16,17,18,19,20,21,22,23,24,25,26,27,28,29,38,39,40,41,42,43,44,45,46,47,48,49,50,51,52,53,54,55,56,57,58,59,60,61,62,63,64,65,66,67,68,69,70,71,72,73,74,75,76,77,78,79,80,81,82,83,84,85,86,87,88,89,90,91,92,93,94,95,96,97,98,99,100,101,102,103,104,105,106,107,108,109,110,111,112,113,114,115,116,117,118,119,120,121,122,123,124,125,126,127,128,129,130,131,132,133,134,135,136,137,138,139,140,141,142,143,144,145,146,147,148,149,150,151,152,153,154,155,156,157,158,159,160,161,162,163,164,165,166,167,168,169,170,171,172,173,174,175,176,177,178,179,180,181,182,183,184,185,186,187,188,189,190,191,192,193,194,195,196,197,198,199,200,201,202,203,204,205,206,207,208,209,210,211,212,213,214,215,216,217,218,219,220,221,222,223,224,225,226,227,228,229,230,231,232,233,234,235,236,237,238,239,240,241,242,243,244,245,246,247,248,249,250,251,252,253,254,255,256,257,258,259,260,261,262,263,264,265,266,267,268,269,270,271,272,273,274,275,276,277,278,279,280,281,282,283,284,285,286,287,288,289,290,291,292] (fun fr W=>St A N w W [oB b9 T_Nd (Nd.C r5.2),oK (some ⟨b4,0,none⟩) a_0 o11,oB b2 zk (Term.C (⟨a2.kind,a2.name,a2.other,a2.form,s_2⟩ : Term))] [fS 2 Hyp.C s_1 a1,zf s_2 a2.sub,oEt]) ?_ ?_
 ·refine zO (zd (za (wd (zL rfl rfl) (wd (zn rfl) (zb ?_)))))
  refine zH rfl (fun hc12=>?_) (fun hc12=>?_)
  ·replace H:=if_t hc12 H
   refine za (wd (zo rfl) (wd (zh rfl) ?_))
   obtain ⟨r13,er13,H⟩ := zt H
   replace S:=S.front 1
   obtain ⟨B15,MB15,SB15,back⟩ := S.calln 1 ((.nil))
   refine zu (zq ya) zbv (yd SB15 er13) ?_
   rintro _ w14 ⟨rfl,S2⟩
   replace S:=back _ _ _ _ S2 rfl
   clear back S2 SB15
   refine zb ?_
   replace S:=S.arr [1,0,2] [0,1,2]
   obtain rfl:=zbz H
   exact ⟨rfl,((((((Dif.refl _ _).upd rfl _).upd rfl _).upd rfl _).upd rfl _).upd rfl _),S⟩
  ·replace H:=if_f hc12 H
   refine zd (za (wd (zL rfl rfl) (wd (zn rfl) (zb ?_))))
   refine zH rfl (fun hc16=>?_) (fun hc16=>?_)
   ·replace H:=if_t hc16 H
    refine za (wd (zo rfl) (wd (zC rfl) (wd (ze xn rfl (o':=4) rfl) (wd (zj xb rfl ((S.blk 2).cell (Term.get_sub _))) ?_))))
    obtain ⟨hi17,H⟩ := xm H
    refine wd (does_indexF zR rfl rfl (S.onZ 1) (zI hi17).1 (zI hi17).2) ?_
    obtain ⟨s18,hc19,S⟩ := S.viewTerm 1 (zI hi17)
    replace S:=S
    refine wd (zp zE rfl hc19 (Term.len _)) (wd (zh rfl) ?_)
    obtain ⟨r20,er20,H⟩ := zt H
    replace S:=S.front 1
    obtain ⟨B22,MB22,SB22,back⟩ := S.calln 1 ((.z 1 rfl (.z 0 rfl (.z 3 rfl .nil))))
    refine zu (zq yD) zbv (yy zdG (a2:=(at_ PTerm.z a2.sub 0)) SB22 er20) ?_
    rintro _ w21 ⟨rfl,S2⟩
    replace S:=back _ _ _ _ S2 rfl
    clear back S2 SB22
    refine zb ?_
    replace S:=S.arr [1,0,2] [1,2,3]
    obtain rfl:=zbz H
    exact ⟨rfl,(((((((((((((Dif.refl _ _).upd rfl _).upd rfl _).upd rfl _).upd rfl _).upd rfl _).upd rfl _).upd rfl _).upd rfl _).upd rfl _).upd rfl _).upd rfl _).upd rfl _),S⟩
   ·replace H:=if_f hc16 H
    refine zd (za (wd (zL rfl rfl) (wd (zn rfl) (zb ?_))))
    refine zH rfl (fun hc23=>?_) (fun hc23=>?_)
    ·replace H:=if_t hc23 H
     refine xU 12 (Ext w10) hmix zby zby (Ext.drawn _) (zx (fun v K=>zo rfl) (zx (fun v K=>zC rfl) (zx (fun v K=>ze yw rfl (o':=1) rfl) (zx (fun v K=>zj xt rfl (((S.ext K).blk 2).cell (Term.get_name _))) (zx (fun v K=>ze xY rfl (o':=2) rfl) (zx (fun v K=>zj zQ rfl (((S.ext K).blk 0).cell (Nd.get_l _))) (zx (fun v K=>ze xn rfl (o':=4) rfl) (zx (fun v K=>zj xb rfl (((S.ext K).blk 2).cell (Term.get_sub _))) ?_))))))))
     obtain ⟨hi24,H⟩ := xm H
     refine zx (fun v K=>does_indexF zR rfl rfl ((S.ext K).onZ 1) (zI hi24).1 (zI hi24).2) ?_
     obtain ⟨s25,hc26,S⟩ := S.viewTerm 1 (zI hi24)
     replace S:=S
     refine zx (fun v K=>zp zE rfl (hc26.chg K (fun x=>x)) (Term.len _)) (zx (fun v K=>ze xS rfl (o':=3) rfl) (zx (fun v K=>zj zQ rfl (((S.ext K).blk 0).cell (Nd.get_r _))) ?_))
     refine yV fun w27 K=>?_
     replace S:=S.ext K
     clear K
     obtain ⟨r28,er28,H⟩ := zt H
     replace S:=S.front 1
     obtain ⟨B30,MB30,SB30,back⟩ := S.calln 1 ((.z 1 rfl (.z 0 rfl (.z 3 rfl .nil))))
     refine zu (zq vx) zbv (vo zdG (a4:=(at_ PTerm.z a2.sub 0)) SB30 er28) ?_
     rintro _ w29 ⟨rfl,S2⟩
     replace S:=back _ _ _ _ S2 rfl
     clear back S2 SB30
     refine zb ?_
     replace S:=S.arr [1,0,2] [1,2,3]
     obtain rfl:=zbz H
     exact ⟨rfl,(by repeat first | exact Dif.refl _ _ | exact Dif.self _ _ _ | refine Dif.upd ?_ rfl _ | refine Dif.mask ?_ rfl _),S⟩
    ·replace H:=if_f hc23 H
     refine zd (za (wd (zL rfl rfl) (wd (zn rfl) (zb ?_))))
     refine zH rfl (fun hc31=>?_) (fun hc31=>?_)
     ·replace H:=if_t hc31 H
      refine zd (za (wd (zo rfl) (wd (zC rfl) (wd (ze xn rfl (o':=4) rfl) (wd (zj xb rfl ((S.blk 2).cell (Term.get_sub _))) ?_)))))
      obtain ⟨hi32,H⟩ := xm H
      refine wd (does_indexF zR rfl rfl (S.onZ 1) (zI hi32).1 (zI hi32).2) ?_
      obtain ⟨s33,hc34,S⟩ := S.viewTerm 1 (zI hi32)
      replace S:=S
      refine wd (zp zE rfl hc34 (Term.len _)) ?_
      obtain ⟨r35,er35,H⟩ := zt H
      replace S:=S.front 1
      obtain ⟨B37,MB37,SB37,back⟩ := S.calln 1 ((.z 1 rfl (.z 0 rfl (.z 3 rfl .nil))))
      refine zu (zq vM) zbv (vz zdG (a2:=(at_ PTerm.z a2.sub 0)) SB37 er35) ?_
      rintro _ w36 ⟨rfl,S2⟩
      replace S:=back _ _ _ _ S2 rfl
      clear back S2 SB37
      refine wd (z7 rfl) (wd (zw rfl rfl) (wd (zw rfl rfl) (wd (zi rfl) (wd (zi rfl) (zb (zd ?_))))))
      obtain ⟨hi38,H⟩ := xm H
      obtain ⟨r40,er40,H⟩ := zt H
      obtain ⟨s39,S⟩ := S.viewTermC 2 (zI hi38)
      replace S:=S.zs [2,3,4,5,0,1]
      refine vw 10 ⟨fun _ _=>True,fun _ _ _=>True,fun i v _=>match i with
       | 0=>v=Value.pointer (some ⟨b4,0,none⟩)
       | 1=>v=s_1.v
       | 2=>v=Value.pointer (some ⟨b2,4,none⟩)
       | 3=>v=s_2.v
       | 4=>v=Value.pointer (some ⟨s_2.blk,s_2.off + Int.toNat 1 * 5,none⟩)
       | 5=>v=Value.agg (Term.C (⟨(at_ PTerm.z a2.sub 1).kind,(at_ PTerm.z a2.sub 1).name,(at_ PTerm.z a2.sub 1).other,(at_ PTerm.z a2.sub 1).form,s39⟩ : Term)).toArray
       | 6=>v=Value.pointer (some ⟨b4,0,none⟩)
       | 7=>v=Value.int .i64 r35.2.1
       | 8=>v=Value.agg (Nd.C r40.2).toArray
       | 9=>v=Value.int .i64 r40.2.l
       | _=>True⟩ (fun L g v=>bif L 8 then (St A N w v [oK (some ⟨b4,0,none⟩) a_0 r40.1,oB b9 T_Nd (Nd.C r5.2),oB b2 zk (Term.C (⟨a2.kind,a2.name,a2.other,a2.form,s_2⟩ : Term))] [zf s33 ((at_ PTerm.z a2.sub 0).sub),fS 2 Hyp.C s_1 a1,zf s_2 a2.sub,oEt,oCl s_2.blk (s_2.off + Int.toNat 1 * 5) (Term.C (⟨(at_ PTerm.z a2.sub 1).kind,(at_ PTerm.z a2.sub 1).name,(at_ PTerm.z a2.sub 1).other,(at_ PTerm.z a2.sub 1).form,s39⟩ : Term)),zf s39 ((at_ PTerm.z a2.sub 1).sub)]) else (St A N w v [oK (some ⟨b4,0,none⟩) a_0 r35.1,oB b9 T_Nd (Nd.C r5.2),oB b2 zk (Term.C (⟨a2.kind,a2.name,a2.other,a2.form,s_2⟩ : Term))] [zf s33 ((at_ PTerm.z a2.sub 0).sub),fS 2 Hyp.C s_1 a1,zf s_2 a2.sub,oEt,oCl s_2.blk (s_2.off + Int.toNat 1 * 5) (Term.C (⟨(at_ PTerm.z a2.sub 1).kind,(at_ PTerm.z a2.sub 1).name,(at_ PTerm.z a2.sub 1).other,(at_ PTerm.z a2.sub 1).form,s39⟩ : Term)),zf s39 ((at_ PTerm.z a2.sub 1).sub)])) hmix zby (fun _ _ _ _ _ _ _ hv=>hv) (fun g=>S.ext (Ext.drawn _)) ⟨?_,?_,?_,?_,?_,?_,?_,?_,?_,?_,trivial⟩ ?_
      ·rintro L g v hL hcl hclo hT 
       cases hl8:L 8 with
       | true =>
        simp only [hl8,cond_true,cond_false] at hT
        replace S:=hT
        refine wd (zo rfl) ?_
        exact zb (ob4 trivial rfl (by simp only [zr (L:=L) (i:=0) (j:=8) rfl,hl8,cond_true,cond_false]; exact S))
       | false =>
        simp only [hl8,cond_true,cond_false] at hT
        replace S:=hT
        refine wd (zo rfl) ?_
        exact zb (ob4 trivial rfl (by simp only [zr (L:=L) (i:=0) (j:=8) rfl,hl8,cond_true,cond_false]; exact S))
      ·rintro L g v hL hcl hclo hT 
       cases hl8:L 8 with
       | true =>
        simp only [hl8,cond_true,cond_false] at hT
        replace S:=hT
        refine wd (zC rfl) ?_
        exact zb (ob4 trivial rfl (by simp only [zr (L:=L) (i:=1) (j:=8) rfl,hl8,cond_true,cond_false]; exact S))
       | false =>
        simp only [hl8,cond_true,cond_false] at hT
        replace S:=hT
        refine wd (zC rfl) ?_
        exact zb (ob4 trivial rfl (by simp only [zr (L:=L) (i:=1) (j:=8) rfl,hl8,cond_true,cond_false]; exact S))
      ·rintro L g v hL hcl hclo hT 
       cases hl8:L 8 with
       | true =>
        simp only [hl8,cond_true,cond_false] at hT
        replace S:=hT
        refine wd (ze xn rfl (o':=4) rfl) ?_
        exact zb (ob4 trivial rfl (by simp only [zr (L:=L) (i:=2) (j:=8) rfl,hl8,cond_true,cond_false]; exact S))
       | false =>
        simp only [hl8,cond_true,cond_false] at hT
        replace S:=hT
        refine wd (ze xn rfl (o':=4) rfl) ?_
        exact zb (ob4 trivial rfl (by simp only [zr (L:=L) (i:=2) (j:=8) rfl,hl8,cond_true,cond_false]; exact S))
      ·rintro L g v hL hcl hclo hT hv2
       cases hl8:L 8 with
       | true =>
        simp only [hl8,cond_true,cond_false] at hT
        replace S:=hT
        refine wd (zj xb hv2 ((S.blk 2).cell (Term.get_sub _))) ?_
        exact zb (ob4 trivial rfl (by simp only [zr (L:=L) (i:=3) (j:=8) rfl,hl8,cond_true,cond_false]; exact S))
       | false =>
        simp only [hl8,cond_true,cond_false] at hT
        replace S:=hT
        refine wd (zj xb hv2 ((S.blk 2).cell (Term.get_sub _))) ?_
        exact zb (ob4 trivial rfl (by simp only [zr (L:=L) (i:=3) (j:=8) rfl,hl8,cond_true,cond_false]; exact S))
      ·rintro L g v hL hcl hclo hT hv3
       cases hl8:L 8 with
       | true =>
        simp only [hl8,cond_true,cond_false] at hT
        replace S:=hT
        refine wd (does_indexF zR hv3 rfl (S.onZ 2) (zI hi38).1 (zI hi38).2) ?_
        exact zb (ob4 trivial rfl (by simp only [zr (L:=L) (i:=4) (j:=8) rfl,hl8,cond_true,cond_false]; exact S))
       | false =>
        simp only [hl8,cond_true,cond_false] at hT
        replace S:=hT
        refine wd (does_indexF zR hv3 rfl (S.onZ 2) (zI hi38).1 (zI hi38).2) ?_
        exact zb (ob4 trivial rfl (by simp only [zr (L:=L) (i:=4) (j:=8) rfl,hl8,cond_true,cond_false]; exact S))
      ·rintro L g v hL hcl hclo hT hv4
       cases hl8:L 8 with
       | true =>
        simp only [hl8,cond_true,cond_false] at hT
        replace S:=hT
        refine wd (zp zE hv4 (S.cl 4) (Term.len _)) ?_
        exact zb (ob4 trivial rfl (by simp only [zr (L:=L) (i:=5) (j:=8) rfl,hl8,cond_true,cond_false]; exact S))
       | false =>
        simp only [hl8,cond_true,cond_false] at hT
        replace S:=hT
        refine wd (zp zE hv4 (S.cl 4) (Term.len _)) ?_
        exact zb (ob4 trivial rfl (by simp only [zr (L:=L) (i:=5) (j:=8) rfl,hl8,cond_true,cond_false]; exact S))
      ·rintro L g v hL hcl hclo hT 
       have hl8:L 8=false:=by cases h:L 8 with | false=>rfl | true=>exact absurd (hclo 8 6 h zby) (by rw [hL]; decide)
       simp only [hl8,cond_true,cond_false] at hT
       replace S:=hT
       refine wd (zo rfl) ?_
       exact zb (ob4 trivial rfl (by simp only [zr (L:=L) (i:=6) (j:=8) rfl,hl8,cond_true,cond_false]; exact S))
      ·rintro L g v hL hcl hclo hT 
       have hl8:L 8=false:=by cases h:L 8 with | false=>rfl | true=>exact absurd (hclo 8 7 h zby) (by rw [hL]; decide)
       simp only [hl8,cond_true,cond_false] at hT
       replace S:=hT
       refine wd (zh rfl) ?_
       exact zb (ob4 trivial rfl (by simp only [zr (L:=L) (i:=7) (j:=8) rfl,hl8,cond_true,cond_false]; exact S))
      ·rintro L g v hL hcl hclo hT hv6 hv7
       have hl8:L 8=false:=hL
       simp only [hl8,cond_true,cond_false] at hT
       replace S:=hT
       obtain ⟨B47,MB47,SB47,back⟩ := S.calln 1 ((.nil))
       refine zu (zN uD (zT hv6 (zT hv7 rfl))) zbv (uI SB47 er40) ?_
       rintro _ w46 ⟨rfl,S2⟩
       replace S:=back _ _ _ _ S2 rfl
       clear back S2 SB47
       exact zb (ob4 trivial rfl (by simp only [yY (L:=L) (i:=8),cond_true,cond_false]; exact S))
      ·rintro L g v hL hcl hclo hT hv8
       have hl8:L 8=true:=hcl 8 zby
       simp only [hl8,cond_true,cond_false] at hT
       replace S:=hT
       refine wd (does_field fv_Nd_l zQ hv8 (Nd.get_l _)) ?_
       exact zb (ob4 trivial rfl (by simp only [zr (L:=L) (i:=9) (j:=8) rfl,hl8,cond_true,cond_false]; exact S))
      rintro L g w48 hLm hT hv49_0 hv49_1 hv49_2 hv49_3 hv49_4 hv49_5 hv49_6 hv49_7 hv49_8 hv49_9
      have hLt : ∀ j,j < 10→L j=true:=fun j hj=>by rw [hLm]; exact decide_eq_true hj
      simp only [hLt 8 zbv,cond_true] at hT
      replace S:=hT
      replace S:=S
      obtain ⟨r50,er50,H⟩ := zt H
      obtain ⟨B52,MB52,SB52,back⟩ := S.calln 1 ((.z 1 rfl (.z 5 rfl (.z 3 rfl .nil))))
      refine zu (zN yD (zT hv49_0 (zT hv49_1 (zT hv49_5 (zT hv49_9 rfl))))) zbv (yy zdG (a2:=(at_ PTerm.z a2.sub 1)) SB52 er50) ?_
      rintro _ w51 ⟨rfl,S2⟩
      replace S:=back _ _ _ _ S2 rfl
      clear back S2 SB52
      refine wd (zi rfl) (zb (za (wd (zo rfl) (wd (zh rfl) (wd (zh rfl) ?_)))))
      obtain ⟨r53,er53,H⟩ := zt H
      obtain ⟨B55,MB55,SB55,back⟩ := S.calln 1 ((.nil))
      refine zu (zq xu) zbv (xv SB55 er53) ?_
      rintro _ w54 ⟨rfl,S2⟩
      replace S:=back _ _ _ _ S2 rfl
      clear back S2 SB55
      refine zb ?_
      replace S:=S.arr [1,0,2] [1,2,3]
      obtain rfl:=zbz H
      exact ⟨rfl,(by repeat first | exact Dif.refl _ _ | exact Dif.self _ _ _ | refine Dif.upd ?_ rfl _ | refine Dif.mask ?_ rfl _),S⟩
     ·replace H:=if_f hc31 H
      refine zd (za (wd (zL rfl rfl) (wd (zn rfl) (zb ?_))))
      refine zH rfl (fun hc56=>?_) (fun hc56=>?_)
      ·replace H:=if_t hc56 H
       refine zd ?_
       refine xU 8 (Ext w10) hmix zby zby (Ext.drawn _) (zx (fun v K=>zo rfl) (zx (fun v K=>zC rfl) (zx (fun v K=>ze xn rfl (o':=4) rfl) (zx (fun v K=>zj xb rfl (((S.ext K).blk 2).cell (Term.get_sub _))) ?_))))
       obtain ⟨hi57,H⟩ := xm H
       refine zx (fun v K=>does_indexF zR rfl rfl ((S.ext K).onZ 1) (zI hi57).1 (zI hi57).2) ?_
       obtain ⟨s58,hc59,S⟩ := S.viewTerm 1 (zI hi57)
       replace S:=S
       refine zx (fun v K=>zp zE rfl (hc59.chg K (fun x=>x)) (Term.len _)) (zx (fun v K=>ze xY rfl (o':=2) rfl) (zx (fun v K=>zj zQ rfl (((S.ext K).blk 0).cell (Nd.get_l _))) ?_))
       refine yV fun w60 K=>?_
       replace S:=S.ext K
       clear K
       obtain ⟨r61,er61,H⟩ := zt H
       replace S:=S.front 1
       obtain ⟨B63,MB63,SB63,back⟩ := S.calln 1 ((.z 1 rfl (.z 0 rfl (.z 3 rfl .nil))))
       refine zu (zq yD) zbv (yy zdG (a2:=(at_ PTerm.z a2.sub 0)) SB63 er61) ?_
       rintro _ w62 ⟨rfl,S2⟩
       replace S:=back _ _ _ _ S2 rfl
       clear back S2 SB63
       refine wd (zi rfl) (zb (zd ?_))
       refine xU 8 (Ext w62) hmix zby zby (Ext.drawn _) (zx (fun v K=>zo rfl) (zx (fun v K=>zC rfl) (zx (fun v K=>ze xn rfl (o':=4) rfl) (zx (fun v K=>zj xb rfl (((S.ext K).blk 2).cell (Term.get_sub _))) ?_))))
       obtain ⟨hi64,H⟩ := xm H
       refine zx (fun v K=>does_indexF zR rfl rfl ((S.ext K).onZ 2) (zI hi64).1 (zI hi64).2) ?_
       obtain ⟨s65,hc66,S⟩ := S.viewTerm 2 (zI hi64)
       replace S:=S
       refine zx (fun v K=>zp zE rfl (hc66.chg K (fun x=>x)) (Term.len _)) (zx (fun v K=>ze xS rfl (o':=3) rfl) (zx (fun v K=>zj zQ rfl (((S.ext K).blk 1).cell (Nd.get_r _))) ?_))
       refine yV fun w67 K=>?_
       replace S:=S.ext K
       clear K
       obtain ⟨r68,er68,H⟩ := zt H
       obtain ⟨B70,MB70,SB70,back⟩ := S.calln 1 ((.z 2 rfl (.z 0 rfl (.z 4 rfl .nil))))
       refine zu (zq yD) zbv (yy zdG (a2:=(at_ PTerm.z a2.sub 1)) SB70 er68) ?_
       rintro _ w69 ⟨rfl,S2⟩
       replace S:=back _ _ _ _ S2 rfl
       clear back S2 SB70
       refine wd (zi rfl) (zb (zd ?_))
       obtain ⟨r71,er71,H⟩ := zt H
       obtain ⟨r74,er74,H⟩ := zt H
       refine vw 10 ⟨fun _ _=>True,fun _ _ _=>True,fun i v _=>match i with
        | 0=>v=Value.pointer (some ⟨b4,0,none⟩)
        | 1=>v=Value.pointer (some ⟨b4,0,none⟩)
        | 2=>v=Value.pointer (some ⟨b9,2,none⟩)
        | 3=>v=Value.int .i64 r5.2.l
        | 4=>v=Value.pointer (some ⟨b4,0,none⟩)
        | 5=>v=Value.pointer (some ⟨b9,3,none⟩)
        | 6=>v=Value.int .i64 r5.2.r
        | 7=>v=Value.int .i64 a3
        | 8=>v=Value.int .i64 r71.2
        | 9=>v=Value.int .i64 r74.2
        | _=>True⟩ (fun L g v=>bif L 9 then (St A N w v [oK (some ⟨b4,0,none⟩) a_0 r74.1,oB b9 T_Nd (Nd.C r5.2),oB b2 zk (Term.C (⟨a2.kind,a2.name,a2.other,a2.form,s_2⟩ : Term))] [zf s65 ((at_ PTerm.z a2.sub 1).sub),zf s58 ((at_ PTerm.z a2.sub 0).sub),fS 2 Hyp.C s_1 a1,zf s_2 a2.sub,oEt]) else bif L 8 then (St A N w v [oK (some ⟨b4,0,none⟩) a_0 r71.1,oB b9 T_Nd (Nd.C r5.2),oB b2 zk (Term.C (⟨a2.kind,a2.name,a2.other,a2.form,s_2⟩ : Term))] [zf s65 ((at_ PTerm.z a2.sub 1).sub),zf s58 ((at_ PTerm.z a2.sub 0).sub),fS 2 Hyp.C s_1 a1,zf s_2 a2.sub,oEt]) else (St A N w v [oK (some ⟨b4,0,none⟩) a_0 r68.1,oB b9 T_Nd (Nd.C r5.2),oB b2 zk (Term.C (⟨a2.kind,a2.name,a2.other,a2.form,s_2⟩ : Term))] [zf s65 ((at_ PTerm.z a2.sub 1).sub),zf s58 ((at_ PTerm.z a2.sub 0).sub),fS 2 Hyp.C s_1 a1,zf s_2 a2.sub,oEt])) hmix zby (fun _ _ _ _ _ _ _ hv=>hv) (fun g=>S.ext (Ext.drawn _)) ⟨?_,?_,?_,?_,?_,?_,?_,?_,?_,?_,trivial⟩ ?_
       ·rintro L g v hL hcl hclo hT 
        cases hl9:L 9 with
        | true =>
         simp only [hl9,cond_true,cond_false] at hT
         replace S:=hT
         refine wd (zo rfl) ?_
         exact zb (ob4 trivial rfl (by simp only [zr (L:=L) (i:=0) (j:=8) rfl,zr (L:=L) (i:=0) (j:=9) rfl,hl9,cond_true,cond_false]; exact S))
        | false =>
         cases hl8:L 8 with
         | true =>
          simp only [hl8,hl9,cond_true,cond_false] at hT
          replace S:=hT
          refine wd (zo rfl) ?_
          exact zb (ob4 trivial rfl (by simp only [zr (L:=L) (i:=0) (j:=8) rfl,zr (L:=L) (i:=0) (j:=9) rfl,hl8,hl9,cond_true,cond_false]; exact S))
         | false =>
          simp only [hl8,hl9,cond_true,cond_false] at hT
          replace S:=hT
          refine wd (zo rfl) ?_
          exact zb (ob4 trivial rfl (by simp only [zr (L:=L) (i:=0) (j:=8) rfl,zr (L:=L) (i:=0) (j:=9) rfl,hl8,hl9,cond_true,cond_false]; exact S))
       ·rintro L g v hL hcl hclo hT 
        have hl9:L 9=false:=by cases h:L 9 with | false=>rfl | true=>exact absurd (hclo 9 1 h zby) (by rw [hL]; decide)
        cases hl8:L 8 with
        | true =>
         simp only [hl8,hl9,cond_true,cond_false] at hT
         replace S:=hT
         refine wd (zo rfl) ?_
         exact zb (ob4 trivial rfl (by simp only [zr (L:=L) (i:=1) (j:=8) rfl,zr (L:=L) (i:=1) (j:=9) rfl,hl8,hl9,cond_true,cond_false]; exact S))
        | false =>
         simp only [hl8,hl9,cond_true,cond_false] at hT
         replace S:=hT
         refine wd (zo rfl) ?_
         exact zb (ob4 trivial rfl (by simp only [zr (L:=L) (i:=1) (j:=8) rfl,zr (L:=L) (i:=1) (j:=9) rfl,hl8,hl9,cond_true,cond_false]; exact S))
       ·rintro L g v hL hcl hclo hT 
        have hl9:L 9=false:=by cases h:L 9 with | false=>rfl | true=>exact absurd (hclo 9 2 h zby) (by rw [hL]; decide)
        cases hl8:L 8 with
        | true =>
         simp only [hl8,hl9,cond_true,cond_false] at hT
         replace S:=hT
         refine wd (ze xY rfl (o':=2) rfl) ?_
         exact zb (ob4 trivial rfl (by simp only [zr (L:=L) (i:=2) (j:=8) rfl,zr (L:=L) (i:=2) (j:=9) rfl,hl8,hl9,cond_true,cond_false]; exact S))
        | false =>
         simp only [hl8,hl9,cond_true,cond_false] at hT
         replace S:=hT
         refine wd (ze xY rfl (o':=2) rfl) ?_
         exact zb (ob4 trivial rfl (by simp only [zr (L:=L) (i:=2) (j:=8) rfl,zr (L:=L) (i:=2) (j:=9) rfl,hl8,hl9,cond_true,cond_false]; exact S))
       ·rintro L g v hL hcl hclo hT hv2
        have hl9:L 9=false:=by cases h:L 9 with | false=>rfl | true=>exact absurd (hclo 9 3 h zby) (by rw [hL]; decide)
        cases hl8:L 8 with
        | true =>
         simp only [hl8,hl9,cond_true,cond_false] at hT
         replace S:=hT
         refine wd (zj zQ hv2 ((S.blk 1).cell (Nd.get_l _))) ?_
         exact zb (ob4 trivial rfl (by simp only [zr (L:=L) (i:=3) (j:=8) rfl,zr (L:=L) (i:=3) (j:=9) rfl,hl8,hl9,cond_true,cond_false]; exact S))
        | false =>
         simp only [hl8,hl9,cond_true,cond_false] at hT
         replace S:=hT
         refine wd (zj zQ hv2 ((S.blk 1).cell (Nd.get_l _))) ?_
         exact zb (ob4 trivial rfl (by simp only [zr (L:=L) (i:=3) (j:=8) rfl,zr (L:=L) (i:=3) (j:=9) rfl,hl8,hl9,cond_true,cond_false]; exact S))
       ·rintro L g v hL hcl hclo hT 
        have hl8:L 8=false:=by cases h:L 8 with | false=>rfl | true=>exact absurd (hclo 8 4 h zby) (by rw [hL]; decide)
        have hl9:L 9=false:=by cases h:L 9 with | false=>rfl | true=>exact absurd (hclo 9 4 h zby) (by rw [hL]; decide)
        simp only [hl8,hl9,cond_true,cond_false] at hT
        replace S:=hT
        refine wd (zo rfl) ?_
        exact zb (ob4 trivial rfl (by simp only [zr (L:=L) (i:=4) (j:=8) rfl,zr (L:=L) (i:=4) (j:=9) rfl,hl8,hl9,cond_true,cond_false]; exact S))
       ·rintro L g v hL hcl hclo hT 
        have hl8:L 8=false:=by cases h:L 8 with | false=>rfl | true=>exact absurd (hclo 8 5 h zby) (by rw [hL]; decide)
        have hl9:L 9=false:=by cases h:L 9 with | false=>rfl | true=>exact absurd (hclo 9 5 h zby) (by rw [hL]; decide)
        simp only [hl8,hl9,cond_true,cond_false] at hT
        replace S:=hT
        refine wd (ze xS rfl (o':=3) rfl) ?_
        exact zb (ob4 trivial rfl (by simp only [zr (L:=L) (i:=5) (j:=8) rfl,zr (L:=L) (i:=5) (j:=9) rfl,hl8,hl9,cond_true,cond_false]; exact S))
       ·rintro L g v hL hcl hclo hT hv5
        have hl8:L 8=false:=by cases h:L 8 with | false=>rfl | true=>exact absurd (hclo 8 6 h zby) (by rw [hL]; decide)
        have hl9:L 9=false:=by cases h:L 9 with | false=>rfl | true=>exact absurd (hclo 9 6 h zby) (by rw [hL]; decide)
        simp only [hl8,hl9,cond_true,cond_false] at hT
        replace S:=hT
        refine wd (zj zQ hv5 ((S.blk 1).cell (Nd.get_r _))) ?_
        exact zb (ob4 trivial rfl (by simp only [zr (L:=L) (i:=6) (j:=8) rfl,zr (L:=L) (i:=6) (j:=9) rfl,hl8,hl9,cond_true,cond_false]; exact S))
       ·rintro L g v hL hcl hclo hT 
        have hl8:L 8=false:=by cases h:L 8 with | false=>rfl | true=>exact absurd (hclo 8 7 h zby) (by rw [hL]; decide)
        have hl9:L 9=false:=by cases h:L 9 with | false=>rfl | true=>exact absurd (hclo 9 7 h zby) (by rw [hL]; decide)
        simp only [hl8,hl9,cond_true,cond_false] at hT
        replace S:=hT
        refine wd (zh rfl) ?_
        exact zb (ob4 trivial rfl (by simp only [zr (L:=L) (i:=7) (j:=8) rfl,zr (L:=L) (i:=7) (j:=9) rfl,hl8,hl9,cond_true,cond_false]; exact S))
       ·rintro L g v hL hcl hclo hT hv4 hv6 hv7
        have hl8:L 8=false:=hL
        have hl9:L 9=false:=by cases h:L 9 with | false=>rfl | true=>exact absurd (hclo 9 8 h zby) (by rw [hL]; decide)
        simp only [hl8,hl9,cond_true,cond_false] at hT
        replace S:=hT
        obtain ⟨B79,MB79,SB79,back⟩ := S.calln 1 ((.nil))
        refine zu (zN xe (zT hv4 (zT hv6 (zT hv7 rfl)))) zbv (xf SB79 er71) ?_
        rintro _ w78 ⟨rfl,S2⟩
        replace S:=back _ _ _ _ S2 rfl
        clear back S2 SB79
        exact zb (ob4 trivial rfl (by simp only [zr (L:=L) (i:=8) (j:=9) rfl,yY (L:=L) (i:=8),hl9,cond_true,cond_false]; exact S))
       ·rintro L g v hL hcl hclo hT hv1 hv3 hv8
        have hl8:L 8=true:=hcl 8 zby
        have hl9:L 9=false:=hL
        simp only [hl8,hl9,cond_true,cond_false] at hT
        replace S:=hT
        obtain ⟨B82,MB82,SB82,back⟩ := S.calln 1 ((.nil))
        refine zu (zN xe (zT hv1 (zT hv3 (zT hv8 rfl)))) zbv (xf SB82 er74) ?_
        rintro _ w81 ⟨rfl,S2⟩
        replace S:=back _ _ _ _ S2 rfl
        clear back S2 SB82
        exact zb (ob4 trivial rfl (by simp only [zr (L:=L) (i:=9) (j:=8) rfl,yY (L:=L) (i:=9),cond_true,cond_false]; exact S))
       rintro L g w83 hLm hT hv84_0 hv84_1 hv84_2 hv84_3 hv84_4 hv84_5 hv84_6 hv84_7 hv84_8 hv84_9
       have hLt : ∀ j,j < 10→L j=true:=fun j hj=>by rw [hLm]; exact decide_eq_true hj
       simp only [hLt 9 zbv,cond_true] at hT
       replace S:=hT
       replace S:=S
       obtain ⟨r85,er85,H⟩ := zt H
       obtain ⟨B87,MB87,SB87,back⟩ := S.calln 1 ((.nil))
       refine zu (zN ya (zT hv84_0 (zT rfl (zT hv84_9 rfl)))) zbv (yd SB87 er85) ?_
       rintro _ w86 ⟨rfl,S2⟩
       replace S:=back _ _ _ _ S2 rfl
       clear back S2 SB87
       refine wd (zi rfl) (zb (za (wd (zo rfl) (wd (zo rfl) (wd (zh rfl) (wd (zh rfl) ?_))))))
       obtain ⟨r88,er88,H⟩ := zt H
       obtain ⟨B90,MB90,SB90,back⟩ := S.calln 1 ((.nil))
       refine zu (zq xu) zbv (xv SB90 er88) ?_
       rintro _ w89 ⟨rfl,S2⟩
       replace S:=back _ _ _ _ S2 rfl
       clear back S2 SB90
       refine wd (zh rfl) ?_
       obtain ⟨r91,er91,H⟩ := zt H
       obtain ⟨B93,MB93,SB93,back⟩ := S.calln 1 ((.nil))
       refine zu (zq xu) zbv (xv SB93 er91) ?_
       rintro _ w92 ⟨rfl,S2⟩
       replace S:=back _ _ _ _ S2 rfl
       clear back S2 SB93
       refine zb ?_
       replace S:=S.arr [1,0,2] [2,3,4]
       obtain rfl:=zbz H
       exact ⟨rfl,(by repeat first | exact Dif.refl _ _ | exact Dif.self _ _ _ | refine Dif.upd ?_ rfl _ | refine Dif.mask ?_ rfl _),S⟩
      ·replace H:=if_f hc56 H
       refine zd (za (wd (zL rfl rfl) (wd (zn rfl) (zb ?_))))
       refine zH rfl (fun hc94=>?_) (fun hc94=>?_)
       ·replace H:=if_t hc94 H
        refine za (wd (zo rfl) (wd (zC rfl) (wd (zp zE rfl ((S.blk 2).all _ (Term.len _)) (Term.len _)) (wd (zh rfl) ?_))))
        obtain ⟨r95,er95,H⟩ := zt H
        replace S:=S.front 1
        obtain ⟨B97,MB97,SB97,back⟩ := S.calln 1 ((.z 0 rfl (.z 1 rfl (.z 2 rfl .nil))))
        refine zu (zq ut) zbv (uh zdG (a2:=a2) SB97 er95) ?_
        rintro _ w96 ⟨rfl,S2⟩
        replace S:=back _ _ _ _ S2 rfl
        clear back S2 SB97
        refine zb ?_
        replace S:=S.arr [1,0,2] [0,1,2]
        obtain rfl:=zbz H
        exact ⟨rfl,(by repeat first | exact Dif.refl _ _ | exact Dif.self _ _ _ | refine Dif.upd ?_ rfl _ | refine Dif.mask ?_ rfl _),S⟩
       ·replace H:=if_f hc94 H
        refine zd (za (wd (zL rfl rfl) (wd (zn rfl) (zb ?_))))
        refine zH rfl (fun hc98=>?_) (fun hc98=>?_)
        ·replace H:=if_t hc98 H
         refine za (wd (zo rfl) (wd (zC rfl) (wd (zp zE rfl ((S.blk 2).all _ (Term.len _)) (Term.len _)) (wd (zh rfl) ?_))))
         obtain ⟨r99,er99,H⟩ := zt H
         replace S:=S.front 1
         obtain ⟨B101,MB101,SB101,back⟩ := S.calln 1 ((.z 0 rfl (.z 1 rfl (.z 2 rfl .nil))))
         refine zu (zq ut) zbv (uh zdG (a2:=a2) SB101 er99) ?_
         rintro _ w100 ⟨rfl,S2⟩
         replace S:=back _ _ _ _ S2 rfl
         clear back S2 SB101
         refine zb ?_
         replace S:=S.arr [1,0,2] [0,1,2]
         obtain rfl:=zbz H
         exact ⟨rfl,(by repeat first | exact Dif.refl _ _ | exact Dif.self _ _ _ | refine Dif.upd ?_ rfl _ | refine Dif.mask ?_ rfl _),S⟩
        ·replace H:=if_f hc98 H
         refine zd (za (wd (zL rfl rfl) (wd (zn rfl) (zb ?_))))
         refine zH rfl (fun hc102=>?_) (fun hc102=>?_)
         ·replace H:=if_t hc102 H
          refine za (wd (zo rfl) (wd (zC rfl) (wd (zp zE rfl ((S.blk 2).all _ (Term.len _)) (Term.len _)) (wd (zh rfl) ?_))))
          obtain ⟨r103,er103,H⟩ := zt H
          replace S:=S.front 1
          obtain ⟨B105,MB105,SB105,back⟩ := S.calln 1 ((.z 0 rfl (.z 1 rfl (.z 2 rfl .nil))))
          refine zu (zq ut) zbv (uh zdG (a2:=a2) SB105 er103) ?_
          rintro _ w104 ⟨rfl,S2⟩
          replace S:=back _ _ _ _ S2 rfl
          clear back S2 SB105
          refine zb ?_
          replace S:=S.arr [1,0,2] [0,1,2]
          obtain rfl:=zbz H
          exact ⟨rfl,(by repeat first | exact Dif.refl _ _ | exact Dif.self _ _ _ | refine Dif.upd ?_ rfl _ | refine Dif.mask ?_ rfl _),S⟩
         ·replace H:=if_f hc102 H
          refine zd (za (wd (zL rfl rfl) (wd (zn rfl) (zb ?_))))
          refine zH rfl (fun hc106=>?_) (fun hc106=>?_)
          ·replace H:=if_t hc106 H
           refine zd ?_
           refine xU 8 (Ext w10) hmix zby zby (Ext.drawn _) (zx (fun v K=>zo rfl) (zx (fun v K=>zC rfl) (zx (fun v K=>ze xn rfl (o':=4) rfl) (zx (fun v K=>zj xb rfl (((S.ext K).blk 2).cell (Term.get_sub _))) ?_))))
           obtain ⟨hi107,H⟩ := xm H
           refine zx (fun v K=>does_indexF zR rfl rfl ((S.ext K).onZ 1) (zI hi107).1 (zI hi107).2) ?_
           obtain ⟨s108,hc109,S⟩ := S.viewTerm 1 (zI hi107)
           replace S:=S
           refine zx (fun v K=>zp zE rfl (hc109.chg K (fun x=>x)) (Term.len _)) (zx (fun v K=>ze xY rfl (o':=2) rfl) (zx (fun v K=>zj zQ rfl (((S.ext K).blk 0).cell (Nd.get_l _))) ?_))
           refine yV fun w110 K=>?_
           replace S:=S.ext K
           clear K
           obtain ⟨r111,er111,H⟩ := zt H
           replace S:=S.front 1
           obtain ⟨B113,MB113,SB113,back⟩ := S.calln 1 ((.z 1 rfl (.z 0 rfl (.z 3 rfl .nil))))
           refine zu (zq yD) zbv (yy zdG (a2:=(at_ PTerm.z a2.sub 0)) SB113 er111) ?_
           rintro _ w112 ⟨rfl,S2⟩
           replace S:=back _ _ _ _ S2 rfl
           clear back S2 SB113
           refine wd (zi rfl) (zb (za (wd (zo rfl) (wd (zo rfl) (wd (zo rfl) (wd (ze xY rfl (o':=2) rfl) (wd (zj zQ rfl ((S.blk 1).cell (Nd.get_l _))) (wd (zh rfl) ?_))))))))
           obtain ⟨r114,er114,H⟩ := zt H
           obtain ⟨B116,MB116,SB116,back⟩ := S.calln 1 ((.nil))
           refine zu (zq xe) zbv (xf SB116 er114) ?_
           rintro _ w115 ⟨rfl,S2⟩
           replace S:=back _ _ _ _ S2 rfl
           clear back S2 SB116
           obtain ⟨r117,er117,H⟩ := zt H
           obtain ⟨B119,MB119,SB119,back⟩ := S.calln 1 ((.nil))
           refine zu (zq ya) zbv (yd SB119 er117) ?_
           rintro _ w118 ⟨rfl,S2⟩
           replace S:=back _ _ _ _ S2 rfl
           clear back S2 SB119
           refine wd (zh rfl) ?_
           obtain ⟨r120,er120,H⟩ := zt H
           obtain ⟨B122,MB122,SB122,back⟩ := S.calln 1 ((.nil))
           refine zu (zq xu) zbv (xv SB122 er120) ?_
           rintro _ w121 ⟨rfl,S2⟩
           replace S:=back _ _ _ _ S2 rfl
           clear back S2 SB122
           refine zb ?_
           replace S:=S.arr [1,0,2] [1,2,3]
           obtain rfl:=zbz H
           exact ⟨rfl,(by repeat first | exact Dif.refl _ _ | exact Dif.self _ _ _ | refine Dif.upd ?_ rfl _ | refine Dif.mask ?_ rfl _),S⟩
          ·replace H:=if_f hc106 H
           refine zd (za (wd (zL rfl rfl) (wd (zn rfl) (zb ?_))))
           refine zH rfl (fun hc123=>?_) (fun hc123=>?_)
           ·replace H:=if_t hc123 H
            refine zd ?_
            refine xU 8 (Ext w10) hmix zby zby (Ext.drawn _) (zx (fun v K=>zo rfl) (zx (fun v K=>zC rfl) (zx (fun v K=>ze xn rfl (o':=4) rfl) (zx (fun v K=>zj xb rfl (((S.ext K).blk 2).cell (Term.get_sub _))) ?_))))
            obtain ⟨hi124,H⟩ := xm H
            refine zx (fun v K=>does_indexF zR rfl rfl ((S.ext K).onZ 1) (zI hi124).1 (zI hi124).2) ?_
            obtain ⟨s125,hc126,S⟩ := S.viewTerm 1 (zI hi124)
            replace S:=S
            refine zx (fun v K=>zp zE rfl (hc126.chg K (fun x=>x)) (Term.len _)) (zx (fun v K=>ze xS rfl (o':=3) rfl) (zx (fun v K=>zj zQ rfl (((S.ext K).blk 0).cell (Nd.get_r _))) ?_))
            refine yV fun w127 K=>?_
            replace S:=S.ext K
            clear K
            obtain ⟨r128,er128,H⟩ := zt H
            replace S:=S.front 1
            obtain ⟨B130,MB130,SB130,back⟩ := S.calln 1 ((.z 1 rfl (.z 0 rfl (.z 3 rfl .nil))))
            refine zu (zq yD) zbv (yy zdG (a2:=(at_ PTerm.z a2.sub 0)) SB130 er128) ?_
            rintro _ w129 ⟨rfl,S2⟩
            replace S:=back _ _ _ _ S2 rfl
            clear back S2 SB130
            refine wd (zi rfl) (zb (za (wd (zo rfl) (wd (zo rfl) (wd (zo rfl) (wd (ze xS rfl (o':=3) rfl) (wd (zj zQ rfl ((S.blk 1).cell (Nd.get_r _))) (wd (zh rfl) ?_))))))))
            obtain ⟨r131,er131,H⟩ := zt H
            obtain ⟨B133,MB133,SB133,back⟩ := S.calln 1 ((.nil))
            refine zu (zq xe) zbv (xf SB133 er131) ?_
            rintro _ w132 ⟨rfl,S2⟩
            replace S:=back _ _ _ _ S2 rfl
            clear back S2 SB133
            obtain ⟨r134,er134,H⟩ := zt H
            obtain ⟨B136,MB136,SB136,back⟩ := S.calln 1 ((.nil))
            refine zu (zq ya) zbv (yd SB136 er134) ?_
            rintro _ w135 ⟨rfl,S2⟩
            replace S:=back _ _ _ _ S2 rfl
            clear back S2 SB136
            refine wd (zh rfl) ?_
            obtain ⟨r137,er137,H⟩ := zt H
            obtain ⟨B139,MB139,SB139,back⟩ := S.calln 1 ((.nil))
            refine zu (zq xu) zbv (xv SB139 er137) ?_
            rintro _ w138 ⟨rfl,S2⟩
            replace S:=back _ _ _ _ S2 rfl
            clear back S2 SB139
            refine zb ?_
            replace S:=S.arr [1,0,2] [1,2,3]
            obtain rfl:=zbz H
            exact ⟨rfl,(by repeat first | exact Dif.refl _ _ | exact Dif.self _ _ _ | refine Dif.upd ?_ rfl _ | refine Dif.mask ?_ rfl _),S⟩
           ·replace H:=if_f hc123 H
            refine zd (za (wd (zL rfl rfl) (wd (zn rfl) (zb ?_))))
            refine zH rfl (fun hc140=>?_) (fun hc140=>?_)
            ·replace H:=if_t hc140 H
             refine zd (za (wd (zo rfl) (wd (zC rfl) (wd (ze xn rfl (o':=4) rfl) (wd (zj xb rfl ((S.blk 2).cell (Term.get_sub _))) ?_)))))
             obtain ⟨hi141,H⟩ := xm H
             refine wd (does_indexF zR rfl rfl (S.onZ 1) (zI hi141).1 (zI hi141).2) ?_
             obtain ⟨s142,hc143,S⟩ := S.viewTerm 1 (zI hi141)
             replace S:=S
             refine wd (zp zE rfl hc143 (Term.len _)) ?_
             obtain ⟨r144,er144,H⟩ := zt H
             replace S:=S.front 1
             obtain ⟨B146,MB146,SB146,back⟩ := S.calln 1 ((.z 1 rfl (.z 0 rfl (.z 3 rfl .nil))))
             refine zu (zq vM) zbv (vz zdG (a2:=(at_ PTerm.z a2.sub 0)) SB146 er144) ?_
             rintro _ w145 ⟨rfl,S2⟩
             replace S:=back _ _ _ _ S2 rfl
             clear back S2 SB146
             refine wd (z7 rfl) (wd (zw rfl rfl) (wd (zw rfl rfl) (wd (zi rfl) (wd (zi rfl) (zb (zd (za (wd (zo rfl) (wd (zh rfl) ?_)))))))))
             obtain ⟨r147,er147,H⟩ := zt H
             obtain ⟨B149,MB149,SB149,back⟩ := S.calln 1 ((.nil))
             refine zu (zq uD) zbv (uI SB149 er147) ?_
             rintro _ w148 ⟨rfl,S2⟩
             replace S:=back _ _ _ _ S2 rfl
             clear back S2 SB149
             refine xa v6 zbv fun b151 w150 hw150=>?_
             replace S:=S.new hw150
             refine zF xQ rfl rfl (S.blk 0) (Nd.len _) (by rw [Nd.len]; decide) (Nd.one _) (zV (Nd.len _)) fun w152 B hw152 zw152=>?_
             replace S:=S.store 0 B hw152
             clear B
             refine zb (zd ?_)
             refine xU 11 (Ext w152) hmix zby zby (Ext.drawn _) (zx (fun v K=>zo rfl) (zx (fun v K=>zC rfl) (zx (fun v K=>ze yw rfl (o':=1) rfl) (zx (fun v K=>zj xt rfl (((S.ext K).blk 3).cell (Term.get_name _))) (zx (fun v K=>ze xY rfl (o':=2) rfl) (zx (fun v K=>zj zQ rfl (((S.ext K).blk 0).cell (Nd.get_l _))) (zx (fun v K=>ze xn rfl (o':=4) rfl) (zx (fun v K=>zj xb rfl (((S.ext K).blk 3).cell (Term.get_sub _))) ?_))))))))
             obtain ⟨hi153,H⟩ := xm H
             refine zx (fun v K=>does_indexF zR rfl rfl ((S.ext K).onZ 2) (zI hi153).1 (zI hi153).2) ?_
             obtain ⟨s154,hc155,S⟩ := S.viewTerm 2 (zI hi153)
             replace S:=S
             refine zx (fun v K=>zp zE rfl (hc155.chg K (fun x=>x)) (Term.len _)) (zx (fun v K=>zh rfl) ?_)
             refine yV fun w156 K=>?_
             replace S:=S.ext K
             clear K
             obtain ⟨r157,er157,H⟩ := zt H
             replace S:=S.front 1
             obtain ⟨B159,MB159,SB159,back⟩ := S.calln 1 ((.z 2 rfl (.z 0 rfl (.z 4 rfl .nil))))
             refine zu (zq vx) zbv (vo zdG (a4:=(at_ PTerm.z a2.sub 1)) SB159 er157) ?_
             rintro _ w158 ⟨rfl,S2⟩
             replace S:=back _ _ _ _ S2 rfl
             clear back S2 SB159
             refine wd (zi rfl) (zb (zd ?_))
             refine xU 11 (Ext w158) hmix zby zby (Ext.drawn _) (zx (fun v K=>zo rfl) (zx (fun v K=>zC rfl) (zx (fun v K=>ze vg rfl (o':=2) rfl) (zx (fun v K=>zj xt rfl (((S.ext K).blk 3).cell (Term.get_other _))) (zx (fun v K=>ze xS rfl (o':=3) rfl) (zx (fun v K=>zj zQ rfl (((S.ext K).blk 1).cell (Nd.get_r _))) (zx (fun v K=>ze xn rfl (o':=4) rfl) (zx (fun v K=>zj xb rfl (((S.ext K).blk 3).cell (Term.get_sub _))) ?_))))))))
             obtain ⟨hi160,H⟩ := xm H
             refine zx (fun v K=>does_indexF zR rfl rfl ((S.ext K).onZ 3) (zI hi160).1 (zI hi160).2) ?_
             obtain ⟨s161,hc162,S⟩ := S.viewTerm 3 (zI hi160)
             replace S:=S
             refine zx (fun v K=>zp zE rfl (hc162.chg K (fun x=>x)) (Term.len _)) (zx (fun v K=>zh rfl) ?_)
             refine yV fun w163 K=>?_
             replace S:=S.ext K
             clear K
             obtain ⟨r164,er164,H⟩ := zt H
             obtain ⟨B166,MB166,SB166,back⟩ := S.calln 1 ((.z 3 rfl (.z 0 rfl (.z 5 rfl .nil))))
             refine zu (zq vx) zbv (vo zdG (a4:=(at_ PTerm.z a2.sub 2)) SB166 er164) ?_
             rintro _ w165 ⟨rfl,S2⟩
             replace S:=back _ _ _ _ S2 rfl
             clear back S2 SB166
             refine wd (zi rfl) (zb (zd ?_))
             obtain ⟨r167,er167,H⟩ := zt H
             refine vw 9 ⟨fun _ _=>True,fun _ _ _=>True,fun i v _=>match i with
              | 0=>v=Value.pointer (some ⟨b4,0,none⟩)
              | 1=>v=Value.pointer (some ⟨b151,2,none⟩)
              | 2=>v=Value.int .i64 r147.2.l
              | 3=>v=Value.int .i64 a3
              | 4=>v=Value.int .i64 r167.2
              | 5=>v=Value.pointer (some ⟨b4,0,none⟩)
              | 6=>v=Value.pointer (some ⟨b151,3,none⟩)
              | 7=>v=Value.int .i64 r147.2.r
              | 8=>v=Value.int .i64 a3
              | _=>True⟩ (fun L g v=>bif L 4 then (St A N w v [oK (some ⟨b4,0,none⟩) a_0 r167.1,oB b151 T_Nd (Nd.C r147.2),oB b9 T_Nd (Nd.C r5.2),oB b2 zk (Term.C (⟨a2.kind,a2.name,a2.other,a2.form,s_2⟩ : Term))] [zf s161 ((at_ PTerm.z a2.sub 2).sub),zf s154 ((at_ PTerm.z a2.sub 1).sub),zf s142 ((at_ PTerm.z a2.sub 0).sub),fS 2 Hyp.C s_1 a1,zf s_2 a2.sub,oEt]) else (St A N w v [oK (some ⟨b4,0,none⟩) a_0 r164.1,oB b151 T_Nd (Nd.C r147.2),oB b9 T_Nd (Nd.C r5.2),oB b2 zk (Term.C (⟨a2.kind,a2.name,a2.other,a2.form,s_2⟩ : Term))] [zf s161 ((at_ PTerm.z a2.sub 2).sub),zf s154 ((at_ PTerm.z a2.sub 1).sub),zf s142 ((at_ PTerm.z a2.sub 0).sub),fS 2 Hyp.C s_1 a1,zf s_2 a2.sub,oEt])) hmix zby (fun _ _ _ _ _ _ _ hv=>hv) (fun g=>S.ext (Ext.drawn _)) ⟨?_,?_,?_,?_,?_,?_,?_,?_,?_,trivial⟩ ?_
             ·rintro L g v hL hcl hclo hT 
              have hl4:L 4=false:=by cases h:L 4 with | false=>rfl | true=>exact absurd (hclo 4 0 h zby) (by rw [hL]; decide)
              simp only [hl4,cond_true,cond_false] at hT
              replace S:=hT
              refine wd (zo rfl) ?_
              exact zb (ob4 trivial rfl (by simp only [zr (L:=L) (i:=0) (j:=4) rfl,hl4,cond_true,cond_false]; exact S))
             ·rintro L g v hL hcl hclo hT 
              have hl4:L 4=false:=by cases h:L 4 with | false=>rfl | true=>exact absurd (hclo 4 1 h zby) (by rw [hL]; decide)
              simp only [hl4,cond_true,cond_false] at hT
              replace S:=hT
              refine wd (ze xY rfl (o':=2) rfl) ?_
              exact zb (ob4 trivial rfl (by simp only [zr (L:=L) (i:=1) (j:=4) rfl,hl4,cond_true,cond_false]; exact S))
             ·rintro L g v hL hcl hclo hT hv1
              have hl4:L 4=false:=by cases h:L 4 with | false=>rfl | true=>exact absurd (hclo 4 2 h zby) (by rw [hL]; decide)
              simp only [hl4,cond_true,cond_false] at hT
              replace S:=hT
              refine wd (zj zQ hv1 ((S.blk 1).cell (Nd.get_l _))) ?_
              exact zb (ob4 trivial rfl (by simp only [zr (L:=L) (i:=2) (j:=4) rfl,hl4,cond_true,cond_false]; exact S))
             ·rintro L g v hL hcl hclo hT 
              have hl4:L 4=false:=by cases h:L 4 with | false=>rfl | true=>exact absurd (hclo 4 3 h zby) (by rw [hL]; decide)
              simp only [hl4,cond_true,cond_false] at hT
              replace S:=hT
              refine wd (zh rfl) ?_
              exact zb (ob4 trivial rfl (by simp only [zr (L:=L) (i:=3) (j:=4) rfl,hl4,cond_true,cond_false]; exact S))
             ·rintro L g v hL hcl hclo hT hv0 hv2 hv3
              have hl4:L 4=false:=hL
              simp only [hl4,cond_true,cond_false] at hT
              replace S:=hT
              obtain ⟨B172,MB172,SB172,back⟩ := S.calln 1 ((.nil))
              refine zu (zN xe (zT hv0 (zT hv2 (zT hv3 rfl)))) zbv (xf SB172 er167) ?_
              rintro _ w171 ⟨rfl,S2⟩
              replace S:=back _ _ _ _ S2 rfl
              clear back S2 SB172
              exact zb (ob4 trivial rfl (by simp only [yY (L:=L) (i:=4),cond_true,cond_false]; exact S))
             ·rintro L g v hL hcl hclo hT 
              cases hl4:L 4 with
              | true =>
               simp only [hl4,cond_true,cond_false] at hT
               replace S:=hT
               refine wd (zo rfl) ?_
               exact zb (ob4 trivial rfl (by simp only [zr (L:=L) (i:=5) (j:=4) rfl,hl4,cond_true,cond_false]; exact S))
              | false =>
               simp only [hl4,cond_true,cond_false] at hT
               replace S:=hT
               refine wd (zo rfl) ?_
               exact zb (ob4 trivial rfl (by simp only [zr (L:=L) (i:=5) (j:=4) rfl,hl4,cond_true,cond_false]; exact S))
             ·rintro L g v hL hcl hclo hT 
              cases hl4:L 4 with
              | true =>
               simp only [hl4,cond_true,cond_false] at hT
               replace S:=hT
               refine wd (ze xS rfl (o':=3) rfl) ?_
               exact zb (ob4 trivial rfl (by simp only [zr (L:=L) (i:=6) (j:=4) rfl,hl4,cond_true,cond_false]; exact S))
              | false =>
               simp only [hl4,cond_true,cond_false] at hT
               replace S:=hT
               refine wd (ze xS rfl (o':=3) rfl) ?_
               exact zb (ob4 trivial rfl (by simp only [zr (L:=L) (i:=6) (j:=4) rfl,hl4,cond_true,cond_false]; exact S))
             ·rintro L g v hL hcl hclo hT hv6
              cases hl4:L 4 with
              | true =>
               simp only [hl4,cond_true,cond_false] at hT
               replace S:=hT
               refine wd (zj zQ hv6 ((S.blk 1).cell (Nd.get_r _))) ?_
               exact zb (ob4 trivial rfl (by simp only [zr (L:=L) (i:=7) (j:=4) rfl,hl4,cond_true,cond_false]; exact S))
              | false =>
               simp only [hl4,cond_true,cond_false] at hT
               replace S:=hT
               refine wd (zj zQ hv6 ((S.blk 1).cell (Nd.get_r _))) ?_
               exact zb (ob4 trivial rfl (by simp only [zr (L:=L) (i:=7) (j:=4) rfl,hl4,cond_true,cond_false]; exact S))
             ·rintro L g v hL hcl hclo hT 
              cases hl4:L 4 with
              | true =>
               simp only [hl4,cond_true,cond_false] at hT
               replace S:=hT
               refine wd (zh rfl) ?_
               exact zb (ob4 trivial rfl (by simp only [zr (L:=L) (i:=8) (j:=4) rfl,hl4,cond_true,cond_false]; exact S))
              | false =>
               simp only [hl4,cond_true,cond_false] at hT
               replace S:=hT
               refine wd (zh rfl) ?_
               exact zb (ob4 trivial rfl (by simp only [zr (L:=L) (i:=8) (j:=4) rfl,hl4,cond_true,cond_false]; exact S))
             rintro L g w173 hLm hT hv174_0 hv174_1 hv174_2 hv174_3 hv174_4 hv174_5 hv174_6 hv174_7 hv174_8
             have hLt : ∀ j,j < 9→L j=true:=fun j hj=>by rw [hLm]; exact decide_eq_true hj
             simp only [hLt 4 zbv,cond_true] at hT
             replace S:=hT
             replace S:=S
             obtain ⟨r175,er175,H⟩ := zt H
             obtain ⟨B177,MB177,SB177,back⟩ := S.calln 1 ((.nil))
             refine zu (zN xe (zT hv174_5 (zT hv174_7 (zT hv174_8 rfl)))) zbv (xf SB177 er175) ?_
             rintro _ w176 ⟨rfl,S2⟩
             replace S:=back _ _ _ _ S2 rfl
             clear back S2 SB177
             refine wd (zi hv174_4) (wd (zi rfl) (zb (zd (za (wd (zo rfl) (wd (zo rfl) (wd (zh rfl) (wd (zo rfl) (wd (zh rfl) (wd (zo rfl) (wd (zh rfl) (wd (zh rfl) ?_))))))))))))
             obtain ⟨r178,er178,H⟩ := zt H
             obtain ⟨B180,MB180,SB180,back⟩ := S.calln 1 ((.nil))
             refine zu (zq xe) zbv (xf SB180 er178) ?_
             rintro _ w179 ⟨rfl,S2⟩
             replace S:=back _ _ _ _ S2 rfl
             clear back S2 SB180
             obtain ⟨r181,er181,H⟩ := zt H
             obtain ⟨B183,MB183,SB183,back⟩ := S.calln 1 ((.nil))
             refine zu (zq xe) zbv (xf SB183 er181) ?_
             rintro _ w182 ⟨rfl,S2⟩
             replace S:=back _ _ _ _ S2 rfl
             clear back S2 SB183
             obtain ⟨r184,er184,H⟩ := zt H
             obtain ⟨B186,MB186,SB186,back⟩ := S.calln 1 ((.nil))
             refine zu (zq xe) zbv (xf SB186 er184) ?_
             rintro _ w185 ⟨rfl,S2⟩
             replace S:=back _ _ _ _ S2 rfl
             clear back S2 SB186
             obtain ⟨r187,er187,H⟩ := zt H
             obtain ⟨B189,MB189,SB189,back⟩ := S.calln 1 ((.nil))
             refine zu (zq ya) zbv (yd SB189 er187) ?_
             rintro _ w188 ⟨rfl,S2⟩
             replace S:=back _ _ _ _ S2 rfl
             clear back S2 SB189
             refine wd (zi rfl) (zb (za (wd (zo rfl) (wd (zo rfl) (wd (zo rfl) (wd (zh rfl) (wd (zh rfl) ?_)))))))
             obtain ⟨r190,er190,H⟩ := zt H
             obtain ⟨B192,MB192,SB192,back⟩ := S.calln 1 ((.nil))
             refine zu (zq xu) zbv (xv SB192 er190) ?_
             rintro _ w191 ⟨rfl,S2⟩
             replace S:=back _ _ _ _ S2 rfl
             clear back S2 SB192
             refine wd (zh rfl) ?_
             obtain ⟨r193,er193,H⟩ := zt H
             obtain ⟨B195,MB195,SB195,back⟩ := S.calln 1 ((.nil))
             refine zu (zq xu) zbv (xv SB195 er193) ?_
             rintro _ w194 ⟨rfl,S2⟩
             replace S:=back _ _ _ _ S2 rfl
             clear back S2 SB195
             refine wd (zh rfl) ?_
             obtain ⟨r196,er196,H⟩ := zt H
             obtain ⟨B198,MB198,SB198,back⟩ := S.calln 1 ((.nil))
             refine zu (zq xu) zbv (xv SB198 er196) ?_
             rintro _ w197 ⟨rfl,S2⟩
             replace S:=back _ _ _ _ S2 rfl
             clear back S2 SB198
             refine zb ?_
             replace S:=S.arr [2,0,3] [3,4,5]
             obtain rfl:=zbz H
             exact ⟨rfl,(by repeat first | exact Dif.refl _ _ | exact Dif.self _ _ _ | refine Dif.upd ?_ rfl _ | refine Dif.mask ?_ rfl _),S⟩
            ·replace H:=if_f hc140 H
             refine zd (za (wd (zL rfl rfl) (wd (zn rfl) (zb ?_))))
             refine zH rfl (fun hc199=>?_) (fun hc199=>?_)
             ·replace H:=if_t hc199 H
              refine zd (za (wd (zo rfl) (wd (zC rfl) (wd (ze xn rfl (o':=4) rfl) (wd (zj xb rfl ((S.blk 2).cell (Term.get_sub _))) ?_)))))
              obtain ⟨hi200,H⟩ := xm H
              refine wd (does_indexF zR rfl rfl (S.onZ 1) (zI hi200).1 (zI hi200).2) ?_
              obtain ⟨s201,hc202,S⟩ := S.viewTerm 1 (zI hi200)
              replace S:=S
              refine wd (zp zE rfl hc202 (Term.len _)) ?_
              obtain ⟨r203,er203,H⟩ := zt H
              replace S:=S.front 1
              obtain ⟨B205,MB205,SB205,back⟩ := S.calln 1 ((.z 1 rfl (.z 0 rfl (.z 3 rfl .nil))))
              refine zu (zq vM) zbv (vz zdG (a2:=(at_ PTerm.z a2.sub 0)) SB205 er203) ?_
              rintro _ w204 ⟨rfl,S2⟩
              replace S:=back _ _ _ _ S2 rfl
              clear back S2 SB205
              refine wd (z7 rfl) (wd (zw rfl rfl) (wd (zw rfl rfl) (wd (zi rfl) (wd (zi rfl) (zb ?_)))))
              obtain ⟨hi206,H⟩ := xm H
              obtain ⟨r208,er208,H⟩ := zt H
              obtain ⟨s207,S⟩ := S.viewTermC 2 (zI hi206)
              replace S:=S.zs [2,3,4,5,0,1]
              refine vw 13 ⟨fun _ _=>True,fun _ _ _=>True,fun i v _=>match i with
               | 0=>v=Value.pointer (some ⟨b4,0,none⟩)
               | 1=>v=Value.pointer (some ⟨b4,0,none⟩)
               | 2=>v=s_1.v
               | 3=>v=Value.pointer (some ⟨b2,1,none⟩)
               | 4=>v=Value.string a2.name
               | 5=>v=Value.int .i64 r203.2.1
               | 6=>v=Value.pointer (some ⟨b2,4,none⟩)
               | 7=>v=s_2.v
               | 8=>v=Value.pointer (some ⟨s_2.blk,s_2.off + Int.toNat 1 * 5,none⟩)
               | 9=>v=Value.agg (Term.C (⟨(at_ PTerm.z a2.sub 1).kind,(at_ PTerm.z a2.sub 1).name,(at_ PTerm.z a2.sub 1).other,(at_ PTerm.z a2.sub 1).form,s207⟩ : Term)).toArray
               | 10=>v=Value.int .i64 a3
               | 11=>v=Value.int .i64 r208.2
               | 12=>v=Value.int .i64 r203.2.2
               | _=>True⟩ (fun L g v=>bif L 11 then (St A N w v [oK (some ⟨b4,0,none⟩) a_0 r208.1,oB b9 T_Nd (Nd.C r5.2),oB b2 zk (Term.C (⟨a2.kind,a2.name,a2.other,a2.form,s_2⟩ : Term))] [zf s201 ((at_ PTerm.z a2.sub 0).sub),fS 2 Hyp.C s_1 a1,zf s_2 a2.sub,oEt,oCl s_2.blk (s_2.off + Int.toNat 1 * 5) (Term.C (⟨(at_ PTerm.z a2.sub 1).kind,(at_ PTerm.z a2.sub 1).name,(at_ PTerm.z a2.sub 1).other,(at_ PTerm.z a2.sub 1).form,s207⟩ : Term)),zf s207 ((at_ PTerm.z a2.sub 1).sub)]) else (St A N w v [oK (some ⟨b4,0,none⟩) a_0 r203.1,oB b9 T_Nd (Nd.C r5.2),oB b2 zk (Term.C (⟨a2.kind,a2.name,a2.other,a2.form,s_2⟩ : Term))] [zf s201 ((at_ PTerm.z a2.sub 0).sub),fS 2 Hyp.C s_1 a1,zf s_2 a2.sub,oEt,oCl s_2.blk (s_2.off + Int.toNat 1 * 5) (Term.C (⟨(at_ PTerm.z a2.sub 1).kind,(at_ PTerm.z a2.sub 1).name,(at_ PTerm.z a2.sub 1).other,(at_ PTerm.z a2.sub 1).form,s207⟩ : Term)),zf s207 ((at_ PTerm.z a2.sub 1).sub)])) hmix zby (fun _ _ _ _ _ _ _ hv=>hv) (fun g=>S.ext (Ext.drawn _)) ⟨?_,?_,?_,?_,?_,?_,?_,?_,?_,?_,?_,?_,?_,trivial⟩ ?_
              ·rintro L g v hL hcl hclo hT 
               cases hl11:L 11 with
               | true =>
                simp only [hl11,cond_true,cond_false] at hT
                replace S:=hT
                refine wd (zo rfl) ?_
                exact zb (ob4 trivial rfl (by simp only [zr (L:=L) (i:=0) (j:=11) rfl,hl11,cond_true,cond_false]; exact S))
               | false =>
                simp only [hl11,cond_true,cond_false] at hT
                replace S:=hT
                refine wd (zo rfl) ?_
                exact zb (ob4 trivial rfl (by simp only [zr (L:=L) (i:=0) (j:=11) rfl,hl11,cond_true,cond_false]; exact S))
              ·rintro L g v hL hcl hclo hT 
               have hl11:L 11=false:=by cases h:L 11 with | false=>rfl | true=>exact absurd (hclo 11 1 h zby) (by rw [hL]; decide)
               simp only [hl11,cond_true,cond_false] at hT
               replace S:=hT
               refine wd (zo rfl) ?_
               exact zb (ob4 trivial rfl (by simp only [zr (L:=L) (i:=1) (j:=11) rfl,hl11,cond_true,cond_false]; exact S))
              ·rintro L g v hL hcl hclo hT 
               have hl11:L 11=false:=by cases h:L 11 with | false=>rfl | true=>exact absurd (hclo 11 2 h zby) (by rw [hL]; decide)
               simp only [hl11,cond_true,cond_false] at hT
               replace S:=hT
               refine wd (zC rfl) ?_
               exact zb (ob4 trivial rfl (by simp only [zr (L:=L) (i:=2) (j:=11) rfl,hl11,cond_true,cond_false]; exact S))
              ·rintro L g v hL hcl hclo hT 
               have hl11:L 11=false:=by cases h:L 11 with | false=>rfl | true=>exact absurd (hclo 11 3 h zby) (by rw [hL]; decide)
               simp only [hl11,cond_true,cond_false] at hT
               replace S:=hT
               refine wd (ze yw rfl (o':=1) rfl) ?_
               exact zb (ob4 trivial rfl (by simp only [zr (L:=L) (i:=3) (j:=11) rfl,hl11,cond_true,cond_false]; exact S))
              ·rintro L g v hL hcl hclo hT hv3
               have hl11:L 11=false:=by cases h:L 11 with | false=>rfl | true=>exact absurd (hclo 11 4 h zby) (by rw [hL]; decide)
               simp only [hl11,cond_true,cond_false] at hT
               replace S:=hT
               refine wd (zj xt hv3 ((S.blk 2).cell (Term.get_name _))) ?_
               exact zb (ob4 trivial rfl (by simp only [zr (L:=L) (i:=4) (j:=11) rfl,hl11,cond_true,cond_false]; exact S))
              ·rintro L g v hL hcl hclo hT 
               have hl11:L 11=false:=by cases h:L 11 with | false=>rfl | true=>exact absurd (hclo 11 5 h zby) (by rw [hL]; decide)
               simp only [hl11,cond_true,cond_false] at hT
               replace S:=hT
               refine wd (zh rfl) ?_
               exact zb (ob4 trivial rfl (by simp only [zr (L:=L) (i:=5) (j:=11) rfl,hl11,cond_true,cond_false]; exact S))
              ·rintro L g v hL hcl hclo hT 
               have hl11:L 11=false:=by cases h:L 11 with | false=>rfl | true=>exact absurd (hclo 11 6 h zby) (by rw [hL]; decide)
               simp only [hl11,cond_true,cond_false] at hT
               replace S:=hT
               refine wd (ze xn rfl (o':=4) rfl) ?_
               exact zb (ob4 trivial rfl (by simp only [zr (L:=L) (i:=6) (j:=11) rfl,hl11,cond_true,cond_false]; exact S))
              ·rintro L g v hL hcl hclo hT hv6
               have hl11:L 11=false:=by cases h:L 11 with | false=>rfl | true=>exact absurd (hclo 11 7 h zby) (by rw [hL]; decide)
               simp only [hl11,cond_true,cond_false] at hT
               replace S:=hT
               refine wd (zj xb hv6 ((S.blk 2).cell (Term.get_sub _))) ?_
               exact zb (ob4 trivial rfl (by simp only [zr (L:=L) (i:=7) (j:=11) rfl,hl11,cond_true,cond_false]; exact S))
              ·rintro L g v hL hcl hclo hT hv7
               have hl11:L 11=false:=by cases h:L 11 with | false=>rfl | true=>exact absurd (hclo 11 8 h zby) (by rw [hL]; decide)
               simp only [hl11,cond_true,cond_false] at hT
               replace S:=hT
               refine wd (does_indexF zR hv7 rfl (S.onZ 2) (zI hi206).1 (zI hi206).2) ?_
               exact zb (ob4 trivial rfl (by simp only [zr (L:=L) (i:=8) (j:=11) rfl,hl11,cond_true,cond_false]; exact S))
              ·rintro L g v hL hcl hclo hT hv8
               have hl11:L 11=false:=by cases h:L 11 with | false=>rfl | true=>exact absurd (hclo 11 9 h zby) (by rw [hL]; decide)
               simp only [hl11,cond_true,cond_false] at hT
               replace S:=hT
               refine wd (zp zE hv8 (S.cl 4) (Term.len _)) ?_
               exact zb (ob4 trivial rfl (by simp only [zr (L:=L) (i:=9) (j:=11) rfl,hl11,cond_true,cond_false]; exact S))
              ·rintro L g v hL hcl hclo hT 
               have hl11:L 11=false:=by cases h:L 11 with | false=>rfl | true=>exact absurd (hclo 11 10 h zby) (by rw [hL]; decide)
               simp only [hl11,cond_true,cond_false] at hT
               replace S:=hT
               refine wd (zh rfl) ?_
               exact zb (ob4 trivial rfl (by simp only [zr (L:=L) (i:=10) (j:=11) rfl,hl11,cond_true,cond_false]; exact S))
              ·rintro L g v hL hcl hclo hT hv1 hv2 hv4 hv5 hv9 hv10
               have hl11:L 11=false:=hL
               simp only [hl11,cond_true,cond_false] at hT
               replace S:=hT
               obtain ⟨B214,MB214,SB214,back⟩ := S.calln 1 ((.z 1 rfl (.z 5 rfl (.z 3 rfl .nil))))
               refine zu (zN vx (zT hv1 (zT hv2 (zT hv4 (zT hv5 (zT hv9 (zT hv10 rfl))))))) zbv (vo zdG (a4:=(at_ PTerm.z a2.sub 1)) SB214 er208) ?_
               rintro _ w213 ⟨rfl,S2⟩
               replace S:=back _ _ _ _ S2 rfl
               clear back S2 SB214
               exact zb (ob4 trivial rfl (by simp only [yY (L:=L) (i:=11),cond_true,cond_false]; exact S))
              ·rintro L g v hL hcl hclo hT 
               cases hl11:L 11 with
               | true =>
                simp only [hl11,cond_true,cond_false] at hT
                replace S:=hT
                refine wd (zh rfl) ?_
                exact zb (ob4 trivial rfl (by simp only [zr (L:=L) (i:=12) (j:=11) rfl,hl11,cond_true,cond_false]; exact S))
               | false =>
                simp only [hl11,cond_true,cond_false] at hT
                replace S:=hT
                refine wd (zh rfl) ?_
                exact zb (ob4 trivial rfl (by simp only [zr (L:=L) (i:=12) (j:=11) rfl,hl11,cond_true,cond_false]; exact S))
              rintro L g w215 hLm hT hv216_0 hv216_1 hv216_2 hv216_3 hv216_4 hv216_5 hv216_6 hv216_7 hv216_8 hv216_9 hv216_10 hv216_11 hv216_12
              have hLt : ∀ j,j < 13→L j=true:=fun j hj=>by rw [hLm]; exact decide_eq_true hj
              simp only [hLt 11 zbv,cond_true] at hT
              replace S:=hT
              replace S:=S
              obtain ⟨r217,er217,H⟩ := zt H
              obtain ⟨B219,MB219,SB219,back⟩ := S.calln 1 ((.nil))
              refine zu (zN xu (zT hv216_0 (zT hv216_11 (zT hv216_12 rfl)))) zbv (xv SB219 er217) ?_
              rintro _ w218 ⟨rfl,S2⟩
              replace S:=back _ _ _ _ S2 rfl
              clear back S2 SB219
              refine zb ?_
              replace S:=S.arr [1,0,2] [1,2,3]
              obtain rfl:=zbz H
              exact ⟨rfl,(by repeat first | exact Dif.refl _ _ | exact Dif.self _ _ _ | refine Dif.upd ?_ rfl _ | refine Dif.mask ?_ rfl _),S⟩
             ·replace H:=if_f hc199 H
              refine zA ?_
              obtain rfl:=zbz H
              exact ⟨rfl,(by repeat first | exact Dif.refl _ _ | exact Dif.self _ _ _ | refine Dif.upd ?_ rfl _ | refine Dif.mask ?_ rfl _),S⟩
 rintro g220 u221 S
 have H:=Ho11
 refine zd ?_
 obtain ⟨p222,s224,hp223,S⟩ := S.open_oK 1
 replace S:=S
 refine xU 9 (Ext u221) hmix zby zby (Ext.drawn _) (zx (fun v K=>zo rfl) (zx (fun v K=>zB (congrArg Value.pointer hp223)) (zx (fun v K=>ze v8 rfl (o':=1) rfl) (zx (fun v K=>zj yJ rfl (((S.ext K).blk 0).cell (Maker.get_l _))) (zx (fun v K=>zo rfl) (zx (fun v K=>zB (congrArg Value.pointer hp223)) (zx (fun v K=>ze ym rfl (o':=2) rfl) (zx (fun v K=>zj yf rfl (((S.ext K).blk 0).cell (Maker.get_bad _))) (zx (fun v K=>x6 rfl) ?_)))))))))
 refine yV fun w225 K=>?_
 replace S:=S.ext K
 clear K
 refine wd (zi rfl) (zb (zy ?_))
 refine ⟨_,(xx (zg rfl) (zg rfl)),?_⟩
 replace S:=S.arr [1,2] []
 obtain rfl:=zbz H
 exact ⟨s224,rfl,S⟩
theorem hilbert_compile_st {a0:Tb} {a_0:Option Addr} {a1:List Hyp} {s_1:SlV} {a2:PTerm} {s_2:SlV} {a3:Int} (S:St A N w w [oT a_0 a0] [fS 2 Hyp.C s_1 a1,zf s_2 a2.sub,oEt]) {k:Nat} {r:Tb × List Ln × Int} (H:zde.f k a0 a1 a2 a3=some r) :
  Calls PP yG #[.pointer a_0,s_1.v,.agg (Term.C (⟨a2.kind,a2.name,a2.other,a2.form,s_2⟩ : Term)).toArray,.int .i64 a3] w fun e w' => ∃ v,e = .returned v∧(∃ so0:SlV,v = .tuple #[so0.v,.int .i64 r.2.2]∧St A N w w' [oT a_0 r.1,oS T_Ln 4 Ln.C so0 r.2.1] []):=by
 have main : ∀ (k:Nat) {A:Nat→Prop} {N:Oth} {w:World} {a0:Tb} {a_0:Option Addr} {a1:List Hyp} {s_1:SlV} {a2:PTerm} {s_2:SlV} {a3:Int} (S:St A N w w [oT a_0 a0] [fS 2 Hyp.C s_1 a1,zf s_2 a2.sub,oEt]) {r:Tb × List Ln × Int} (H:zde.f k a0 a1 a2 a3=some r),Calls PP yG #[.pointer a_0,s_1.v,.agg (Term.C (⟨a2.kind,a2.name,a2.other,a2.form,s_2⟩ : Term)).toArray,.int .i64 a3] w fun e w' => ∃ v,e = .returned v∧(∃ so0:SlV,v = .tuple #[so0.v,.int .i64 r.2.2]∧St A N w w' [oT a_0 r.1,oS T_Ln 4 Ln.C so0 r.2.1] []):=by
  intro k
  induction k with
  | zero=>intro A N w a0 a_0 a1 s_1 a2 s_2 a3 S r H; cases H
  | succ k ih=>intro A N w a0 a_0 a1 s_1 a2 s_2 a3 S r H; exact hilbert_compile_gst ih S H
 exact main k S H
theorem hilbert_Compile_st {a0:Tb} {a_0:Option Addr} {a1:List Hyp} {s_1:SlV} {a2:PTerm} {s_2:SlV} {a3:Int} (S:St A N w w [oT a_0 a0] [fS 2 Hyp.C s_1 a1,zf s_2 a2.sub,oEt]) {k:Nat} {r:Tb × List Ln × Int} (H:zdf.f k a0 a1 a2 a3=some r) :
  Calls PP zaP #[.pointer a_0,s_1.v,.agg (Term.C (⟨a2.kind,a2.name,a2.other,a2.form,s_2⟩ : Term)).toArray,.int .i64 a3] w fun e w' => ∃ v,e = .returned v∧(∃ so0:SlV,v = .tuple #[so0.v,.int .i64 r.2.2]∧St A N w w' [oT a_0 r.1,oS T_Ln 4 Ln.C so0 r.2.1] []):=by
 unfold zdf.f at H
 refine zz (n:=40) fn_hilbert_Compile rfl rfl zbx (zd (za ?_))
 refine z1 rfl zbv fun b2 w1 hw1=>?_
 replace S:=S.new hw1
 refine wd (xw) (wd (zi rfl) (zb (zd (zd (za (wd (zo rfl) (wd (zC rfl) (wd (zp zE rfl ((S.blk 0).all _ (Term.len _)) (Term.len _)) (wd (zh rfl) ?_)))))))))
 obtain ⟨r3,er3,H⟩ := zt H
 obtain ⟨B5,MB5,SB5,back⟩ := S.calln 0 ((.o 1 rfl (.z 0 rfl (.z 1 rfl (.z 2 rfl .nil)))))
 refine zu (zq ca_types_Check) zbv (types_Check_st (a2:=a2) SB5 er3) ?_
 rintro _ w4 ⟨rfl,S2⟩
 replace S:=back _ _ _ _ S2 rfl
 clear back S2 SB5
 refine wd (zi rfl) (zb (zd (za (wd (zh rfl) (wd (xj rfl rfl) (zb ?_))))))
 refine zH rfl (fun hc6=>?_) (fun hc6=>?_)
 ·replace H:=if_t hc6 H
  refine zd (za (wd (zh rfl) (wd (xw) (wd (zi rfl) (zb (zy ?_))))))
  replace S:=S.nil T_Ln 4 Ln.C
  refine ⟨_,(xx (zg rfl) (zg rfl)),?_⟩
  replace S:=S.arr [2,0] []
  obtain rfl:=zbz H
  exact ⟨SlV.nil,rfl,S⟩
 replace H:=if_f hc6 H
 refine zA (zd (za (wd (zo rfl) ?_)))
 obtain ⟨r7,er7,H⟩ := zt H
 obtain ⟨B9,MB9,SB9,back⟩ := S.calln 0 ((.o 1 rfl .nil))
 refine zu (zq vV) zbv (vY SB9 er7) ?_
 rintro _ w8 ⟨rfl,S2⟩
 replace S:=back _ _ _ _ S2 rfl
 clear back S2 SB9
 refine wd (zi rfl) (zb (zd ?_))
 obtain ⟨r10,er10,H⟩ := zt H
 obtain ⟨r14,er14,H⟩ := zt H
 refine vw 10 ⟨fun _ _=>True,fun _ _ _=>True,fun i v _=>match i with
  | 0=>v=Value.pointer a_0
  | 1=>v=s_1.v
  | 3=>v=Value.agg (Term.C (⟨a2.kind,a2.name,a2.other,a2.form,s_2⟩ : Term)).toArray
  | 4=>v=Value.int .i64 a3
  | 8=>v=Value.int .i64 r14.2.2
  | _=>True⟩ (fun L g v=>bif L 5 then (∃ (s13:SlV) (s17:SlV),(L 2=true→g 27=s13.v)∧(L 5=true→g 30=Value.tuple #[s17.v,.int .i64 r14.2.2])∧(L 6=true→g 24=Value.tuple #[s17.v,.int .i64 r14.2.2])∧(L 7=true→g 31=s17.v)∧(L 9=true→g 12=s17.v)∧St A N w v [oT a_0 r14.1,oS T_Ln 4 Ln.C s17 r14.2.1,oS yq 2 Hyp.C s13 r10,oB b2 zk (Term.C (⟨a2.kind,a2.name,a2.other,a2.form,s_2⟩ : Term))] [fS 2 Hyp.C s_1 a1,zf s_2 a2.sub,oEt]) else bif L 2 then (∃ (s13:SlV),(L 2=true→g 27=s13.v)∧St A N w v [oS yq 2 Hyp.C s13 r10,oB b2 zk (Term.C (⟨a2.kind,a2.name,a2.other,a2.form,s_2⟩ : Term)),oT a_0 a0] [fS 2 Hyp.C s_1 a1,zf s_2 a2.sub,oEt]) else (St A N w v [oB b2 zk (Term.C (⟨a2.kind,a2.name,a2.other,a2.form,s_2⟩ : Term)),oT a_0 a0] [fS 2 Hyp.C s_1 a1,zf s_2 a2.sub,oEt])) hmix zby (fun _ _ _ _ _ _ _ hv=>hv) (fun g=>S.ext (Ext.drawn _)) ⟨?_,?_,?_,?_,?_,?_,?_,?_,?_,?_,trivial⟩ ?_
 ·rintro L g v hL hcl hclo hT 
  have hl5:L 5=false:=by cases h:L 5 with | false=>rfl | true=>exact absurd (hclo 5 0 h zby) (by rw [hL]; decide)
  cases hl2:L 2 with
  | true =>
   replace hT : ∃ (s13:SlV),(L 2=true→g 27=s13.v)∧St A N w v [oS yq 2 Hyp.C s13 r10,oB b2 zk (Term.C (⟨a2.kind,a2.name,a2.other,a2.form,s_2⟩ : Term)),oT a_0 a0] [fS 2 Hyp.C s_1 a1,zf s_2 a2.sub,oEt]:=by simp only [hl2,hl5,cond_true,cond_false] at hT ⊢; exact hT
   obtain ⟨s13,he2,S⟩ := hT
   refine wd (zo rfl) ?_
   have hT2 : ∃ (s13':SlV),((plus L 0) 2=true→(upd g 25 (Value.pointer a_0)) 27=s13'.v)∧St A N w v [oS yq 2 Hyp.C s13' r10,oB b2 zk (Term.C (⟨a2.kind,a2.name,a2.other,a2.form,s_2⟩ : Term)),oT a_0 a0] [fS 2 Hyp.C s_1 a1,zf s_2 a2.sub,oEt]:=⟨s13,fun h=>by rw [zG _ _ _ _ zbv]; exact he2 (by rw [zr rfl] at h; exact h),S⟩
   exact zb (ob4 trivial rfl (by simp only [zr (L:=L) (i:=0) (j:=2) rfl,zr (L:=L) (i:=0) (j:=5) rfl,hl2,hl5,cond_true,cond_false] at hT2 ⊢; exact hT2))
  | false =>
   simp only [hl2,hl5,cond_true,cond_false] at hT
   replace S:=hT
   refine wd (zo rfl) ?_
   exact zb (ob4 trivial rfl (by simp only [zr (L:=L) (i:=0) (j:=2) rfl,zr (L:=L) (i:=0) (j:=5) rfl,hl2,hl5,cond_true,cond_false]; exact S))
 ·rintro L g v hL hcl hclo hT 
  have hl2:L 2=false:=by cases h:L 2 with | false=>rfl | true=>exact absurd (hclo 2 1 h zby) (by rw [hL]; decide)
  have hl5:L 5=false:=by cases h:L 5 with | false=>rfl | true=>exact absurd (hclo 5 1 h zby) (by rw [hL]; decide)
  simp only [hl2,hl5,cond_true,cond_false] at hT
  replace S:=hT
  refine wd (zC rfl) ?_
  exact zb (ob4 trivial rfl (by simp only [zr (L:=L) (i:=1) (j:=2) rfl,zr (L:=L) (i:=1) (j:=5) rfl,hl2,hl5,cond_true,cond_false]; exact S))
 ·rintro L g v hL hcl hclo hT hv1
  have hl2:L 2=false:=hL
  have hl5:L 5=false:=by cases h:L 5 with | false=>rfl | true=>exact absurd (hclo 5 2 h zby) (by rw [hL]; decide)
  simp only [hl2,hl5,cond_true,cond_false] at hT
  replace S:=hT
  obtain ⟨B20,MB20,SB20,back⟩ := S.calln 0 ((.z 0 rfl .nil))
  refine zu (zN km (zT hv1 rfl)) zbv (ko SB20 er10) ?_
  rintro _ w19 ⟨s13,rfl,S2⟩
  replace S:=back _ _ _ _ S2 rfl
  clear back S2 SB20
  have hT2 : ∃ (s13':SlV),((plus L 2) 2=true→(upd g 27 (s13.v)) 27=s13'.v)∧St A N w w19 [oS yq 2 Hyp.C s13' r10,oB b2 zk (Term.C (⟨a2.kind,a2.name,a2.other,a2.form,s_2⟩ : Term)),oT a_0 a0] [fS 2 Hyp.C s_1 a1,zf s_2 a2.sub,oEt]:=⟨s13,fun _=>upd_same _ _ _,S⟩
  exact zb (ob4 trivial trivial (by simp only [zr (L:=L) (i:=2) (j:=5) rfl,yY (L:=L) (i:=2),hl5,cond_true,cond_false] at hT2 ⊢; exact hT2))
 ·rintro L g v hL hcl hclo hT 
  have hl5:L 5=false:=by cases h:L 5 with | false=>rfl | true=>exact absurd (hclo 5 3 h zby) (by rw [hL]; decide)
  cases hl2:L 2 with
  | true =>
   replace hT : ∃ (s13:SlV),(L 2=true→g 27=s13.v)∧St A N w v [oS yq 2 Hyp.C s13 r10,oB b2 zk (Term.C (⟨a2.kind,a2.name,a2.other,a2.form,s_2⟩ : Term)),oT a_0 a0] [fS 2 Hyp.C s_1 a1,zf s_2 a2.sub,oEt]:=by simp only [hl2,hl5,cond_true,cond_false] at hT ⊢; exact hT
   obtain ⟨s13,he2,S⟩ := hT
   refine wd (zp zE rfl ((S.blk 1).all _ (Term.len _)) (Term.len _)) ?_
   have hT2 : ∃ (s13':SlV),((plus L 3) 2=true→(upd g 28 (Value.agg (Term.C (⟨a2.kind,a2.name,a2.other,a2.form,s_2⟩ : Term)).toArray)) 27=s13'.v)∧St A N w v [oS yq 2 Hyp.C s13' r10,oB b2 zk (Term.C (⟨a2.kind,a2.name,a2.other,a2.form,s_2⟩ : Term)),oT a_0 a0] [fS 2 Hyp.C s_1 a1,zf s_2 a2.sub,oEt]:=⟨s13,fun h=>by rw [zG _ _ _ _ zbv]; exact he2 (by rw [zr rfl] at h; exact h),S⟩
   exact zb (ob4 trivial rfl (by simp only [zr (L:=L) (i:=3) (j:=2) rfl,zr (L:=L) (i:=3) (j:=5) rfl,hl2,hl5,cond_true,cond_false] at hT2 ⊢; exact hT2))
  | false =>
   simp only [hl2,hl5,cond_true,cond_false] at hT
   replace S:=hT
   refine wd (zp zE rfl ((S.blk 0).all _ (Term.len _)) (Term.len _)) ?_
   exact zb (ob4 trivial rfl (by simp only [zr (L:=L) (i:=3) (j:=2) rfl,zr (L:=L) (i:=3) (j:=5) rfl,hl2,hl5,cond_true,cond_false]; exact S))
 ·rintro L g v hL hcl hclo hT 
  have hl5:L 5=false:=by cases h:L 5 with | false=>rfl | true=>exact absurd (hclo 5 4 h zby) (by rw [hL]; decide)
  cases hl2:L 2 with
  | true =>
   replace hT : ∃ (s13:SlV),(L 2=true→g 27=s13.v)∧St A N w v [oS yq 2 Hyp.C s13 r10,oB b2 zk (Term.C (⟨a2.kind,a2.name,a2.other,a2.form,s_2⟩ : Term)),oT a_0 a0] [fS 2 Hyp.C s_1 a1,zf s_2 a2.sub,oEt]:=by simp only [hl2,hl5,cond_true,cond_false] at hT ⊢; exact hT
   obtain ⟨s13,he2,S⟩ := hT
   refine wd (zh rfl) ?_
   have hT2 : ∃ (s13':SlV),((plus L 4) 2=true→(upd g 29 (Value.int .i64 a3)) 27=s13'.v)∧St A N w v [oS yq 2 Hyp.C s13' r10,oB b2 zk (Term.C (⟨a2.kind,a2.name,a2.other,a2.form,s_2⟩ : Term)),oT a_0 a0] [fS 2 Hyp.C s_1 a1,zf s_2 a2.sub,oEt]:=⟨s13,fun h=>by rw [zG _ _ _ _ zbv]; exact he2 (by rw [zr rfl] at h; exact h),S⟩
   exact zb (ob4 trivial rfl (by simp only [zr (L:=L) (i:=4) (j:=2) rfl,zr (L:=L) (i:=4) (j:=5) rfl,hl2,hl5,cond_true,cond_false] at hT2 ⊢; exact hT2))
  | false =>
   simp only [hl2,hl5,cond_true,cond_false] at hT
   replace S:=hT
   refine wd (zh rfl) ?_
   exact zb (ob4 trivial rfl (by simp only [zr (L:=L) (i:=4) (j:=2) rfl,zr (L:=L) (i:=4) (j:=5) rfl,hl2,hl5,cond_true,cond_false]; exact S))
 ·rintro L g v hL hcl hclo hT hv0 hv2 hv3 hv4
  have hl2:L 2=true:=hcl 2 zby
  have hl5:L 5=false:=hL
  replace hT : ∃ (s13:SlV),(L 2=true→g 27=s13.v)∧St A N w v [oS yq 2 Hyp.C s13 r10,oB b2 zk (Term.C (⟨a2.kind,a2.name,a2.other,a2.form,s_2⟩ : Term)),oT a_0 a0] [fS 2 Hyp.C s_1 a1,zf s_2 a2.sub,oEt]:=by simp only [hl2,hl5,cond_true,cond_false] at hT ⊢; exact hT
  obtain ⟨s13,he2,S⟩ := hT
  replace S:=S.front 2
  obtain ⟨B23,MB23,SB23,back⟩ := S.calln 1 ((.s 0 rfl (.z 1 rfl (.z 2 rfl .nil))))
  refine zu (zN jF (zT hv0 (zT (he2 (hcl 2 zby)) (zT hv3 (zT hv4 rfl))))) zbv (hilbert_compile_st (a2:=a2) SB23 er14) ?_
  rintro _ w22 ⟨s17,rfl,S2⟩
  replace S:=back _ _ _ _ S2 rfl
  clear back S2 SB23
  have hT2 : ∃ (s13':SlV) (s17':SlV),((plus L 5) 2=true→(upd g 30 (Value.tuple #[s17.v,.int .i64 r14.2.2])) 27=s13'.v)∧((plus L 5) 5=true→(upd g 30 (Value.tuple #[s17.v,.int .i64 r14.2.2])) 30=Value.tuple #[s17'.v,.int .i64 r14.2.2])∧((plus L 5) 6=true→(upd g 30 (Value.tuple #[s17.v,.int .i64 r14.2.2])) 24=Value.tuple #[s17'.v,.int .i64 r14.2.2])∧((plus L 5) 7=true→(upd g 30 (Value.tuple #[s17.v,.int .i64 r14.2.2])) 31=s17'.v)∧((plus L 5) 9=true→(upd g 30 (Value.tuple #[s17.v,.int .i64 r14.2.2])) 12=s17'.v)∧St A N w w22 [oT a_0 r14.1,oS T_Ln 4 Ln.C s17' r14.2.1,oS yq 2 Hyp.C s13' r10,oB b2 zk (Term.C (⟨a2.kind,a2.name,a2.other,a2.form,s_2⟩ : Term))] [fS 2 Hyp.C s_1 a1,zf s_2 a2.sub,oEt]:=⟨s13,s17,fun h=>by rw [zG _ _ _ _ zbv]; exact he2 (by rw [zr rfl] at h; exact h),fun _=>upd_same _ _ _,fun h=>absurd (hclo 6 5 (by rw [zr rfl] at h; exact h) zby) (by rw [hL]; decide),fun h=>absurd (hclo 7 5 (by rw [zr rfl] at h; exact h) zby) (by rw [hL]; decide),fun h=>absurd (hclo 9 5 (by rw [zr rfl] at h; exact h) zby) (by rw [hL]; decide),S⟩
  exact zb (ob4 trivial trivial (by simp only [zr (L:=L) (i:=5) (j:=2) rfl,yY (L:=L) (i:=5),cond_true,cond_false] at hT2 ⊢; exact hT2))
 ·rintro L g v hL hcl hclo hT hv5
  have hl5:L 5=true:=hcl 5 zby
  replace hT : ∃ (s13:SlV) (s17:SlV),(L 2=true→g 27=s13.v)∧(L 5=true→g 30=Value.tuple #[s17.v,.int .i64 r14.2.2])∧(L 6=true→g 24=Value.tuple #[s17.v,.int .i64 r14.2.2])∧(L 7=true→g 31=s17.v)∧(L 9=true→g 12=s17.v)∧St A N w v [oT a_0 r14.1,oS T_Ln 4 Ln.C s17 r14.2.1,oS yq 2 Hyp.C s13 r10,oB b2 zk (Term.C (⟨a2.kind,a2.name,a2.other,a2.form,s_2⟩ : Term))] [fS 2 Hyp.C s_1 a1,zf s_2 a2.sub,oEt]:=by simp only [hl5,cond_true,cond_false] at hT ⊢; exact hT
  obtain ⟨s13,s17,he2,he5,he6,he7,he9,S⟩ := hT
  refine wd (z7 (he5 (hcl 5 zby))) ?_
  have hT2 : ∃ (s13':SlV) (s17':SlV),((plus L 6) 2=true→(upd g 24 (Value.tuple #[s17.v,.int .i64 r14.2.2])) 27=s13'.v)∧((plus L 6) 5=true→(upd g 24 (Value.tuple #[s17.v,.int .i64 r14.2.2])) 30=Value.tuple #[s17'.v,.int .i64 r14.2.2])∧((plus L 6) 6=true→(upd g 24 (Value.tuple #[s17.v,.int .i64 r14.2.2])) 24=Value.tuple #[s17'.v,.int .i64 r14.2.2])∧((plus L 6) 7=true→(upd g 24 (Value.tuple #[s17.v,.int .i64 r14.2.2])) 31=s17'.v)∧((plus L 6) 9=true→(upd g 24 (Value.tuple #[s17.v,.int .i64 r14.2.2])) 12=s17'.v)∧St A N w v [oT a_0 r14.1,oS T_Ln 4 Ln.C s17' r14.2.1,oS yq 2 Hyp.C s13' r10,oB b2 zk (Term.C (⟨a2.kind,a2.name,a2.other,a2.form,s_2⟩ : Term))] [fS 2 Hyp.C s_1 a1,zf s_2 a2.sub,oEt]:=⟨s13,s17,fun h=>by rw [zG _ _ _ _ zbv]; exact he2 (by rw [zr rfl] at h; exact h),fun h=>by rw [zG _ _ _ _ zbv]; exact he5 (by rw [zr rfl] at h; exact h),fun _=>upd_same _ _ _,fun h=>by rw [zG _ _ _ _ zbv]; exact he7 (by rw [zr rfl] at h; exact h),fun h=>by rw [zG _ _ _ _ zbv]; exact he9 (by rw [zr rfl] at h; exact h),S⟩
  exact zb (ob4 trivial trivial (by simp only [zr (L:=L) (i:=6) (j:=2) rfl,zr (L:=L) (i:=6) (j:=5) rfl,hl5,cond_true,cond_false] at hT2 ⊢; exact hT2))
 ·rintro L g v hL hcl hclo hT hv6
  have hl5:L 5=true:=hcl 5 zby
  replace hT : ∃ (s13:SlV) (s17:SlV),(L 2=true→g 27=s13.v)∧(L 5=true→g 30=Value.tuple #[s17.v,.int .i64 r14.2.2])∧(L 6=true→g 24=Value.tuple #[s17.v,.int .i64 r14.2.2])∧(L 7=true→g 31=s17.v)∧(L 9=true→g 12=s17.v)∧St A N w v [oT a_0 r14.1,oS T_Ln 4 Ln.C s17 r14.2.1,oS yq 2 Hyp.C s13 r10,oB b2 zk (Term.C (⟨a2.kind,a2.name,a2.other,a2.form,s_2⟩ : Term))] [fS 2 Hyp.C s_1 a1,zf s_2 a2.sub,oEt]:=by simp only [hl5,cond_true,cond_false] at hT ⊢; exact hT
  obtain ⟨s13,s17,he2,he5,he6,he7,he9,S⟩ := hT
  refine wd (zw (he6 (hcl 6 zby)) rfl) ?_
  have hT2 : ∃ (s13':SlV) (s17':SlV),((plus L 7) 2=true→(upd g 31 (s17.v)) 27=s13'.v)∧((plus L 7) 5=true→(upd g 31 (s17.v)) 30=Value.tuple #[s17'.v,.int .i64 r14.2.2])∧((plus L 7) 6=true→(upd g 31 (s17.v)) 24=Value.tuple #[s17'.v,.int .i64 r14.2.2])∧((plus L 7) 7=true→(upd g 31 (s17.v)) 31=s17'.v)∧((plus L 7) 9=true→(upd g 31 (s17.v)) 12=s17'.v)∧St A N w v [oT a_0 r14.1,oS T_Ln 4 Ln.C s17' r14.2.1,oS yq 2 Hyp.C s13' r10,oB b2 zk (Term.C (⟨a2.kind,a2.name,a2.other,a2.form,s_2⟩ : Term))] [fS 2 Hyp.C s_1 a1,zf s_2 a2.sub,oEt]:=⟨s13,s17,fun h=>by rw [zG _ _ _ _ zbv]; exact he2 (by rw [zr rfl] at h; exact h),fun h=>by rw [zG _ _ _ _ zbv]; exact he5 (by rw [zr rfl] at h; exact h),fun h=>by rw [zG _ _ _ _ zbv]; exact he6 (by rw [zr rfl] at h; exact h),fun _=>upd_same _ _ _,fun h=>by rw [zG _ _ _ _ zbv]; exact he9 (by rw [zr rfl] at h; exact h),S⟩
  exact zb (ob4 trivial trivial (by simp only [zr (L:=L) (i:=7) (j:=2) rfl,zr (L:=L) (i:=7) (j:=5) rfl,hl5,cond_true,cond_false] at hT2 ⊢; exact hT2))
 ·rintro L g v hL hcl hclo hT hv6
  have hl5:L 5=true:=hcl 5 zby
  replace hT : ∃ (s13:SlV) (s17:SlV),(L 2=true→g 27=s13.v)∧(L 5=true→g 30=Value.tuple #[s17.v,.int .i64 r14.2.2])∧(L 6=true→g 24=Value.tuple #[s17.v,.int .i64 r14.2.2])∧(L 7=true→g 31=s17.v)∧(L 9=true→g 12=s17.v)∧St A N w v [oT a_0 r14.1,oS T_Ln 4 Ln.C s17 r14.2.1,oS yq 2 Hyp.C s13 r10,oB b2 zk (Term.C (⟨a2.kind,a2.name,a2.other,a2.form,s_2⟩ : Term))] [fS 2 Hyp.C s_1 a1,zf s_2 a2.sub,oEt]:=by simp only [hl5,cond_true,cond_false] at hT ⊢; exact hT
  obtain ⟨s13,s17,he2,he5,he6,he7,he9,S⟩ := hT
  refine wd (zw (he6 (hcl 6 zby)) rfl) ?_
  have hT2 : ∃ (s13':SlV) (s17':SlV),((plus L 8) 2=true→(upd g 32 (Value.int .i64 r14.2.2)) 27=s13'.v)∧((plus L 8) 5=true→(upd g 32 (Value.int .i64 r14.2.2)) 30=Value.tuple #[s17'.v,.int .i64 r14.2.2])∧((plus L 8) 6=true→(upd g 32 (Value.int .i64 r14.2.2)) 24=Value.tuple #[s17'.v,.int .i64 r14.2.2])∧((plus L 8) 7=true→(upd g 32 (Value.int .i64 r14.2.2)) 31=s17'.v)∧((plus L 8) 9=true→(upd g 32 (Value.int .i64 r14.2.2)) 12=s17'.v)∧St A N w v [oT a_0 r14.1,oS T_Ln 4 Ln.C s17' r14.2.1,oS yq 2 Hyp.C s13' r10,oB b2 zk (Term.C (⟨a2.kind,a2.name,a2.other,a2.form,s_2⟩ : Term))] [fS 2 Hyp.C s_1 a1,zf s_2 a2.sub,oEt]:=⟨s13,s17,fun h=>by rw [zG _ _ _ _ zbv]; exact he2 (by rw [zr rfl] at h; exact h),fun h=>by rw [zG _ _ _ _ zbv]; exact he5 (by rw [zr rfl] at h; exact h),fun h=>by rw [zG _ _ _ _ zbv]; exact he6 (by rw [zr rfl] at h; exact h),fun h=>by rw [zG _ _ _ _ zbv]; exact he7 (by rw [zr rfl] at h; exact h),fun h=>by rw [zG _ _ _ _ zbv]; exact he9 (by rw [zr rfl] at h; exact h),S⟩
  exact zb (ob4 trivial rfl (by simp only [zr (L:=L) (i:=8) (j:=2) rfl,zr (L:=L) (i:=8) (j:=5) rfl,hl5,cond_true,cond_false] at hT2 ⊢; exact hT2))
 ·rintro L g v hL hcl hclo hT hv7
  have hl5:L 5=true:=hcl 5 zby
  replace hT : ∃ (s13:SlV) (s17:SlV),(L 2=true→g 27=s13.v)∧(L 5=true→g 30=Value.tuple #[s17.v,.int .i64 r14.2.2])∧(L 6=true→g 24=Value.tuple #[s17.v,.int .i64 r14.2.2])∧(L 7=true→g 31=s17.v)∧(L 9=true→g 12=s17.v)∧St A N w v [oT a_0 r14.1,oS T_Ln 4 Ln.C s17 r14.2.1,oS yq 2 Hyp.C s13 r10,oB b2 zk (Term.C (⟨a2.kind,a2.name,a2.other,a2.form,s_2⟩ : Term))] [fS 2 Hyp.C s_1 a1,zf s_2 a2.sub,oEt]:=by simp only [hl5,cond_true,cond_false] at hT ⊢; exact hT
  obtain ⟨s13,s17,he2,he5,he6,he7,he9,S⟩ := hT
  refine wd (x6 (he7 (hcl 7 zby))) ?_
  have hT2 : ∃ (s13':SlV) (s17':SlV),((plus L 9) 2=true→(upd g 12 (s17.v)) 27=s13'.v)∧((plus L 9) 5=true→(upd g 12 (s17.v)) 30=Value.tuple #[s17'.v,.int .i64 r14.2.2])∧((plus L 9) 6=true→(upd g 12 (s17.v)) 24=Value.tuple #[s17'.v,.int .i64 r14.2.2])∧((plus L 9) 7=true→(upd g 12 (s17.v)) 31=s17'.v)∧((plus L 9) 9=true→(upd g 12 (s17.v)) 12=s17'.v)∧St A N w v [oT a_0 r14.1,oS T_Ln 4 Ln.C s17' r14.2.1,oS yq 2 Hyp.C s13' r10,oB b2 zk (Term.C (⟨a2.kind,a2.name,a2.other,a2.form,s_2⟩ : Term))] [fS 2 Hyp.C s_1 a1,zf s_2 a2.sub,oEt]:=⟨s13,s17,fun h=>by rw [zG _ _ _ _ zbv]; exact he2 (by rw [zr rfl] at h; exact h),fun h=>by rw [zG _ _ _ _ zbv]; exact he5 (by rw [zr rfl] at h; exact h),fun h=>by rw [zG _ _ _ _ zbv]; exact he6 (by rw [zr rfl] at h; exact h),fun h=>by rw [zG _ _ _ _ zbv]; exact he7 (by rw [zr rfl] at h; exact h),fun _=>upd_same _ _ _,S⟩
  exact zb (ob4 trivial trivial (by simp only [zr (L:=L) (i:=9) (j:=2) rfl,zr (L:=L) (i:=9) (j:=5) rfl,hl5,cond_true,cond_false] at hT2 ⊢; exact hT2))
 rintro L g w24 hLm hT hv25_0 hv25_1 _ hv25_3 hv25_4 _ _ _ hv25_8 _
 have hLt : ∀ j,j < 10→L j=true:=fun j hj=>by rw [hLm]; exact decide_eq_true hj
 replace hT : ∃ (s13:SlV) (s17:SlV),(L 2=true→g 27=s13.v)∧(L 5=true→g 30=Value.tuple #[s17.v,.int .i64 r14.2.2])∧(L 6=true→g 24=Value.tuple #[s17.v,.int .i64 r14.2.2])∧(L 7=true→g 31=s17.v)∧(L 9=true→g 12=s17.v)∧St A N w w24 [oT a_0 r14.1,oS T_Ln 4 Ln.C s17 r14.2.1,oS yq 2 Hyp.C s13 r10,oB b2 zk (Term.C (⟨a2.kind,a2.name,a2.other,a2.form,s_2⟩ : Term))] [fS 2 Hyp.C s_1 a1,zf s_2 a2.sub,oEt]:=by simp only [hLt 5 zbv,cond_true] at hT ⊢; exact hT
 obtain ⟨s13,s17,he2,he5,he6,he7,he9,S⟩ := hT
 have hv25_2:=he2 (hLt 2 zbv)
 have hv25_5:=he5 (hLt 5 zbv)
 have hv25_6:=he6 (hLt 6 zbv)
 have hv25_7:=he7 (hLt 7 zbv)
 have hv25_9:=he9 (hLt 9 zbv)
 replace S:=S
 refine wd (zi hv25_8) (zb (zd (za (wd (zo rfl) (wd (zh rfl) (wd (zC hv25_9) (wd (zh rfl) ?_)))))))
 obtain ⟨r26,er26,H⟩ := zt H
 replace S:=(S.front 1).front 1
 obtain ⟨B28,MB28,SB28,back⟩ := S.calln 2 ((.nil))
 refine zu (zq ca_hilbert_kept) zbv (hilbert_kept_st SB28 er26) ?_
 rintro _ w27 ⟨s29,rfl,S2⟩
 replace S:=back _ _ _ _ S2 rfl
 clear back S2 SB28
 refine wd (zw rfl rfl) (wd (zw rfl rfl) (wd (x6 rfl) (wd (zi rfl) (zb (zy ?_)))))
 refine ⟨_,(xx (zg rfl) (zg rfl)),?_⟩
 replace S:=S.arr [0,1] []
 obtain rfl:=zbz H
 exact ⟨s29,rfl,S⟩
end
section
open Go.RowKit
namespace Gw
def Made {γ:Type} (L:Nat→Bool) (g:Fr) (Z:List OA) (j:Nat) (d:Tmp) (val:γ→Value) (ps:γ→List OA):Prop:=L j=true → ∃ c:γ,g d=val c ∧ ∀ z ∈ ps c,z ∈ Z
section
variable {γ:Type} {L:Nat→Bool} {g:Fr} {Z Z':List OA} {i j:Nat} {d e:Tmp} {x:Value} {val:γ→Value} {ps:γ→List OA}
theorem Made.no:Made (fun _=>false) g Z j d val ps:=fun h=>by cases h
theorem Made.keep (h:Made L g Z j d val ps) (h1:Nat.beq j i=false) (h2:Nat.beq d e=false) (hs : ∀ z ∈ Z,z ∈ Z'):Made (plus L i) (upd g e x) Z' j d val ps:=fun hl=>by
 rw [zr h1] at hl
 obtain ⟨c,hc,hp⟩ := h hl
 exact ⟨c,by rw [zG _ _ _ _ (by intro q; rw [q] at h2; simp at h2)]; exact hc,fun z hz=>hs z (hp z hz)⟩
theorem Made.one (c:γ) (hp : ∀ z ∈ ps c,z ∈ Z'):Made (plus L i) (upd g d (val c)) Z' i d val ps:=fun _=>⟨c,upd_same _ _ _,hp⟩
theorem uk : ∀ z ∈ ([]:List OA),z ∈ Z:=fun _ h=>by cases h
theorem vr {a:OA} {l:List OA} (h:a ∈ Z) (hl : ∀ z ∈ l,z ∈ Z) : ∀ z ∈ a :: l,z ∈ Z:=fun z hz=>(List.mem_cons.1 hz).elim (fun e=>e ▸ h) (hl z)
theorem yO {l1 l2:List OA} (h : ∀ z ∈ l1,z ∈ Z) (hl : ∀ z ∈ l2,z ∈ Z) : ∀ z ∈ l1 ++ l2,z ∈ Z:=fun z hz=>(List.mem_append.1 hz).elim (h z) (hl z)
theorem tl0 : ∀ z ∈ Z,z ∈ Z:=fun _ h=>h
theorem tl3 {a b c:OA} : ∀ z ∈ Z,z ∈ a :: b :: c :: Z:=fun z q => .tail _ (.tail _ (.tail _ (q)))
theorem tl4 {a b c d:OA} : ∀ z ∈ Z,z ∈ a :: b :: c :: d :: Z:=fun z q => .tail _ (.tail _ (.tail _ (.tail _ (q))))
theorem tl5 {a b c d e:OA} : ∀ z ∈ Z,z ∈ a :: b :: c :: d :: e :: Z:=fun z q => .tail _ (.tail _ (.tail _ (.tail _ (.tail _ (q)))))
theorem tl6 {a b c d e f:OA} : ∀ z ∈ Z,z ∈ a :: b :: c :: d :: e :: f :: Z:=fun z q => .tail _ (.tail _ (.tail _ (.tail _ (.tail _ (.tail _ (q))))))
theorem tl7 {a b c d e f g:OA} : ∀ z ∈ Z,z ∈ a :: b :: c :: d :: e :: f :: g :: Z:=fun z q => .tail _ (.tail _ (.tail _ (.tail _ (.tail _ (.tail _ (.tail _ (q)))))))
theorem tl8 {a b c d e f g h:OA} : ∀ z ∈ Z,z ∈ a :: b :: c :: d :: e :: f :: g :: h :: Z:=fun z q => .tail _ (.tail _ (.tail _ (.tail _ (.tail _ (.tail _ (.tail _ (.tail _ (q))))))))
theorem tl9 {a b c d e f g h i:OA} : ∀ z ∈ Z,z ∈ a :: b :: c :: d :: e :: f :: g :: h :: i :: Z:=fun z q => .tail _ (.tail _ (.tail _ (.tail _ (.tail _ (.tail _ (.tail _ (.tail _ (.tail _ (q)))))))))
theorem St.zneed {A:Nat→Prop} {N:Oth} {w0 w:World} {L Z Z1:List OA} (h:St A N w0 w L Z) (hz : ∀ z ∈ Z1,z ∈ Z):St A N w0 w L (Z1 ++ Z):=h.pickZ fun z q=>(List.mem_append.1 q).elim (hz z) id
theorem Sep.ins {w:World} : ∀ {P X Y:List OA} {U:Nat→Prop},Sep w U (P ++ (X ++ Y))→Sep w U (X ++ (P ++ Y)):=fun {P X Y U} h=>by
 obtain ⟨A1,h1,hP,h2⟩ := Sep.split h
 obtain ⟨A2,h3,hX,hY⟩ := Sep.split h2
 refine Sep.join (A:=A2) (B:=fun i=>U i∧¬ A2 i) hX ?_ (fun i hi=>(h3 i hi).1.1) (fun i hi=>hi.1) (fun i hi q=>q.2 hi)
 refine Sep.join (A:=A1) (B:=fun i=>(U i∧¬ A1 i)∧¬ A2 i) hP hY (fun i hi=>⟨(h1 i hi).1,fun q=>(h3 i q).1.2 hi⟩) (fun i hi=>⟨hi.1.1,hi.2⟩) (fun i hi q=>q.1.2 hi)
theorem St.ins {A:Nat→Prop} {N:Oth} {w0 w:World} {P X Y Z:List OA} (h:St A N w0 w (P ++ (X ++ Y)) Z):St A N w0 w (X ++ (P ++ Y)) Z:=by
 obtain ⟨U,hU,hN,hA,hL,hZ,hW⟩ := h
 exact ⟨U,hU,hN,hA,Sep.ins hL,hZ,hW⟩
theorem St.drops {A:Nat→Prop} {N:Oth} {w0 w:World} {X Y Z:List OA} (h:St A N w0 w (X ++ Y) Z):St A N w0 w Y Z:=by
 obtain ⟨U,hU,hN,hA,hL,hZ,hW⟩ := h
 obtain ⟨A1,h1,hX,hY⟩ := Sep.split hL
 exact ⟨U,hU,hN,hA,hY.mono fun i hi=>hi.1,hZ,hW⟩
theorem does_callvg {P:Program} {f:Fr} {w:World} {dd:Option Tmp} {ty:TypeId} {pos:String} {af:Array Edge} {gd:Option (Nat × Bool)} {c:Operand} {k:FuncId} {fi ca:Array Value} {xs:Array Operand} {ats:Array TypeId} {l:List Value} (hg:zK P k) (hv:evF f c = .func (.func k) fi ca) (hx:xs.toList.map (evF f)=l):Enters P ⟨dd,.call ⟨.value c,xs,ats⟩,ty,pos,af,gd⟩ f w k (fi.toList ++ l ++ ca.toList).toArray:=hx ▸ kA hg hv
end
end Gw
end
end Go.Proofs.YtflieamjacclnaaGreatDoor
