/- Texts put together. -/
import Derived.Test.YtmggdbbmmkkplaaDoorMRN4
set_option linter.unusedVariables false
set_option linter.unusedSimpArgs false
namespace Go.Proofs.YtmggdbbmmkkplaaDoor
section
open Gw
def zac.f (k:Nat)  : Option Bool :=
 (jT.f).bind fun r1=>(k6.f r1 (⟨#[112]⟩ : ByteArray)).bind fun r5=>(jQ.f r5.1 r5.2.1 r5.2.1).bind fun r8=>(k8.f (⟨#[120]⟩ : ByteArray)).bind fun r11=>(k8.f (⟨#[121]⟩ : ByteArray)).bind fun r24=>(kW.f k r8.1 (⟨3,ByteArray.empty,ByteArray.empty,0,[(⟨11,ByteArray.empty,ByteArray.empty,r8.2.1,[(⟨2,(⟨#[120]⟩ : ByteArray),ByteArray.empty,0,[r11]⟩ : PTerm)]⟩ : PTerm),r24]⟩ : PTerm) ([])).bind fun r50=>(kZ.f k r8.1 r50.1).bind fun r57=>(k5.f k r8.1 (⟨3,ByteArray.empty,ByteArray.empty,0,[(⟨11,ByteArray.empty,ByteArray.empty,r8.2.1,[(⟨2,(⟨#[120]⟩ : ByteArray),ByteArray.empty,0,[r11]⟩ : PTerm)]⟩ : PTerm),r24]⟩ : PTerm) 9).bind fun r61=>(kT.f k (⟨3,ByteArray.empty,ByteArray.empty,0,[(⟨11,ByteArray.empty,ByteArray.empty,r8.2.1,[(⟨2,(⟨#[120]⟩ : ByteArray),ByteArray.empty,0,[r11]⟩ : PTerm)]⟩ : PTerm),r24]⟩ : PTerm)).bind fun r68=>(k8.f (⟨#[121]⟩ : ByteArray)).bind fun r75=>(k0.f k r8.1 r75).bind fun r79=>(k8.f (⟨#[121]⟩ : ByteArray)).bind fun r82=>(kW.f k r8.1 r82 ([])).bind fun r86=>(k8.f (⟨#[121]⟩ : ByteArray)).bind fun r93=>(k7.f r50.2).bind fun r130=>chk (decide (r130=0)) ((k9.f k r50.1 (⟨11,ByteArray.empty,ByteArray.empty,r5.2.1,[(⟨11,ByteArray.empty,ByteArray.empty,r5.2.1,[r93]⟩ : PTerm)]⟩ : PTerm)).bind fun r134=>chk ((decide (r130=0)) && r134) ((k7.f r57.2).bind fun r138=>chk (((decide (r130=0)) && r134) && (decide (r138=0))) ((zab.f r57.1 ([([]:List Int),[0]])).bind fun r148=>chk ((((decide (r130=0)) && r134) && (decide (r138=0))) && r148) ((k7.f r61.2.2.2).bind fun r152=>chk (((((decide (r130=0)) && r134) && (decide (r138=0))) && r148) && (decide (r152=0))) (chk ((((((decide (r130=0)) && r134) && (decide (r138=0))) && r148) && (decide (r152=0))) && (decide (r61.2.1=3))) (chk (((((((decide (r130=0)) && r134) && (decide (r138=0))) && r148) && (decide (r152=0))) && (decide (r61.2.1=3))) && r61.2.2.1) ((k8.f (⟨#[121]⟩ : ByteArray)).bind fun r158=>(k9.f k r61.1 r158).bind fun r162=>chk ((((((((decide (r130=0)) && r134) && (decide (r138=0))) && r148) && (decide (r152=0))) && (decide (r61.2.1=3))) && r61.2.2.1) && r162) ((k7.f r68.2).bind fun r166=>chk (((((((((decide (r130=0)) && r134) && (decide (r138=0))) && r148) && (decide (r152=0))) && (decide (r61.2.1=3))) && r61.2.2.1) && r162) && (decide (r166=0))) ((if (((((((((decide (r130=0)) && r134) && (decide (r138=0))) && r148) && (decide (r152=0))) && (decide (r61.2.1=3))) && r61.2.2.1) && r162) && (decide (r166=0))) then k9.f k r68.1 (⟨3,ByteArray.empty,ByteArray.empty,0,[(⟨2,(⟨#[120]⟩ : ByteArray),ByteArray.empty,0,[r11]⟩ : PTerm),r158]⟩ : PTerm) else some false).bind fun r215=>(if ((((((((((decide (r130=0)) && r134) && (decide (r138=0))) && r148) && (decide (r152=0))) && (decide (r61.2.1=3))) && r61.2.2.1) && r162) && (decide (r166=0))) && r215) then k7.f r79.2 else some 0).bind fun r217=>(if ((((((((((((decide (r130=0)) && r134) && (decide (r138=0))) && r148) && (decide (r152=0))) && (decide (r61.2.1=3))) && r61.2.2.1) && r162) && (decide (r166=0))) && r215) && (decide (r217=0))) && r79.1) then k7.f r86.2 else some 0).bind fun r219=>some (((((((((((((decide (r130=0)) && r134) && (decide (r138=0))) && r148) && (decide (r152=0))) && (decide (r61.2.1=3))) && r61.2.2.1) && r162) && (decide (r166=0))) && r215) && (decide (r217=0))) && r79.1) && (decide (r219=140))))))))))))
end
section
open Gw
def zad.f (k:Nat) (a0:Tb) (a1:PTerm) (a2:List Int) (a3:Int):Option Bool :=
 (kZ.f k a0 a1).bind fun r3=>(kW.f k a0 a1 a2).bind fun r7=>(k0.f k a0 a1).bind fun r14=>(k5.f k a0 a1 a3).bind fun r17=>(if ((decide ((r3.1.length:Int)=0)) && (decide (r3.2=1))) then k9.f k r7.1 (⟨0,ByteArray.empty,ByteArray.empty,0,[]⟩ : PTerm) else some false).bind fun r24=>(if ((((((decide ((r3.1.length:Int)=0)) && (decide (r3.2=1))) && r24) && (decide (r7.2=1))) && (!r14.1)) && (decide (r14.2=1))) then k9.f k r17.1 (⟨0,ByteArray.empty,ByteArray.empty,0,[]⟩ : PTerm) else some false).bind fun r26=>some ((((((((((decide ((r3.1.length:Int)=0)) && (decide (r3.2=1))) && r24) && (decide (r7.2=1))) && (!r14.1)) && (decide (r14.2=1))) && r26) && (decide (r17.2.1=0))) && (!r17.2.2.1)) && (decide (r17.2.2.2=1)))
def zae.f (k:Nat) (a0:PTerm) (a1:List Int) (a2:Int):Option Bool :=
 (zad.f k none a0 a1 a2).bind fun r3=>chk r3 ((if r3 then zad.f k none a0 a1 a2 else some false).bind fun r9=>(if (r3 && r9) then zac.f k else some false).bind fun r11=>some ((r3 && r9) && r11))
end
section
open Go.RowKit
namespace Gw
section
variable {P:Program} {rd:Option Nat} {n:Nat} {dm:List Nat} {ops:Array Oper} {Q:Post} {f:Fr} {w:World} {rest:List Oper} {ty:TypeId} {pos:String} {af:Array Edge}
theorem wl_gturn2 {dd:Tmp} {op:Op} {j:Nat} {pol c t:Bool} {v:Value} {oj:Oper} {dj:Tmp} {g:FuncId} {args:Array Value} {R:World→Prop} (hj:ops[j]? = some oj) (hdj:oj.dst=some dj) (ht:f dj=gv c (.bool t)) (hdn:dj < n)
  (he:(c && (t == pol))=true→Enters P ⟨some dd,op,ty,pos,af,some (j,pol)⟩ f w g args) (hd:dd < n)
  (hc:(c && (t == pol))=true→Calls P g args w fun e w' => ∃ v',e = .returned v'∧(v'=v∧R w')) (h0:(c && (t == pol))=false→R w)
  (h : ∀ w',R w'→wl P rd n dm ops rest Q (upd f dd (gv (c && (t == pol)) v)) w'):wl P rd n dm ops (⟨some dd,op,ty,pos,af,some (j,pol)⟩ :: rest) Q f w:=fun a ha=>by
 refine wpListIn_step fun K hK=>?_
 rw [jb ha rfl hj hdj ht hdn]
 cases hcc:(c && (t == pol)) with
 | true =>
  rw [if_pos rfl]
  refine op_wp ha (he hcc) jL (show _∧_ from ⟨fun h=>(by cases h),?_⟩)
  refine CallsIn.mono (show CallsIn (fen rd) _ P g args w _ from callsIn_wide.2 (hc hcc)) ?_
  rintro e w' ⟨v',rfl,rfl,hx⟩
  have h2:=h w' hx
  rw [hcc,zw rfl] at h2
  exact hK _ _ (h2 _ (ha.put hd _))
 | false =>
  rw [if_neg jL]
  have h2:=h w (h0 hcc)
  rw [hcc,gv_f] at h2
  exact ⟨fun _ _=>trivial,hK _ _ (h2 _ (ha.put hd _))⟩
theorem wl_gturn {dd:Tmp} {op:Op} {j:Nat} {pol t:Bool} {v:Value} {oj:Oper} {dj:Tmp} {g:FuncId} {args:Array Value} {R:World→Prop} (hj:ops[j]? = some oj) (hdj:oj.dst=some dj) (ht:f dj = .bool t) (hdn:dj < n)
  (he:(t == pol)=true→Enters P ⟨some dd,op,ty,pos,af,some (j,pol)⟩ f w g args) (hd:dd < n)
  (hc:(t == pol)=true→Calls P g args w fun e w' => ∃ v',e = .returned v'∧(v'=v∧R w')) (h0:(t == pol)=false→R w)
  (h : ∀ w',R w'→wl P rd n dm ops rest Q (upd f dd (gv (t == pol) v)) w'):wl P rd n dm ops (⟨some dd,op,ty,pos,af,some (j,pol)⟩ :: rest) Q f w :=
 wl_gturn2 (c:=true) hj hdj (by rw [ht]; exact gv_t _) hdn he hd hc h0 h
end
end Gw
end
section
open Gw Go.RowKit
set_option maxHeartbeats 4000000
set_option maxRecDepth 20000
variable {A:Nat→Prop} {N:Oth} {w:World}
theorem vd {a0:Tb} {a_0:Option Addr} {g_0_1:Option Addr} {a1:PTerm} {s_1:SlV} (S:St A N w w [] [oMa a_0 g_0_1 true,oT g_0_1 a0,za s_1 a1.sub]) {r:Int × Bool} (H:kQ.f a0 a1=some r) :
  Calls PP uw #[.pointer a_0,.agg (Term.C (⟨a1.kind,a1.name,a1.other,a1.form,s_1⟩ : Term)).toArray] w fun e w' => ∃ v,e = .returned v∧(v = .tuple #[.agg (RRule.C (zx r.1)).toArray,.bool r.2]∧St A N w w' [] []):=by
 unfold kQ.f at H
 refine zE (n:=28) fn_reduce_machine_fits rfl rfl jL ?_
 refine zg (zd ?_)
 refine zQ rfl jJ fun b2 w1 hw1=>?_
 replace S:St A N w w1 [oB b2 zb (Term.C (⟨a1.kind,a1.name,a1.other,a1.form,s_1⟩ : Term))] [oMa a_0 g_0_1 true,oT g_0_1 a0,za s_1 a1.sub]:=S.new hw1
 refine zZ vg jJ fun b4 w3 hw3=>?_
 replace S:St A N w w3 [oB b4 zl (RRule.C (zx 8)),oB b2 zb (Term.C (⟨a1.kind,a1.name,a1.other,a1.form,s_1⟩ : Term))] [oMa a_0 g_0_1 true,oT g_0_1 a0,za s_1 a1.sub]:=S.new hw3
 refine wd (zk rfl) ?_
 refine ze ?_
 refine zg (zg (zd ?_))
 refine wd (zN rfl) ?_
 obtain ⟨p5,s7,hp6,S⟩ := S.see_oMa 0
 replace S:St A N w w3 [oB b4 zl (RRule.C (zx 8)),oB b2 zb (Term.C (⟨a1.kind,a1.name,a1.other,a1.form,s_1⟩ : Term))] [oB p5 xv (Machine.C (⟨g_0_1,s7⟩ : Machine)),fS 2 RRule.C s7 zD,oMa a_0 g_0_1 true,oT g_0_1 a0,za s_1 a1.sub]:=S
 refine wd (xj (congrArg Value.pointer hp6)) ?_
 refine wd (zh fl_Machine_rules rfl (o':=1) rfl) ?_
 refine wd (zt on_L_reduce_rule rfl ((S.blkZ 0).cell (Machine.get_rules _))) ?_
 refine wd (x5 xG rfl (S.rd 1)) ?_
 refine wd (zp rfl) ?_
 replace S:St A N w w3 [oB b4 zl (RRule.C (zx 8)),oB b2 zb (Term.C (⟨a1.kind,a1.name,a1.other,a1.form,s_1⟩ : Term))] [fS 2 RRule.C s7 zD,oMa a_0 g_0_1 true,oT g_0_1 a0,za s_1 a1.sub]:=S.zs [1,2,3,4]
 refine ze ?_
 refine zY ?_
 refine wc_rounds 9 ?_
 refine ut ?_
 refine zg (zd ?_)
 refine wd (xC rfl rfl) ?_
 refine ze ?_
 refine zg ?_
 refine u7 rfl ?_
 refine zI ?_
 refine zg ?_
 refine zY ?_
 refine zg (zd ?_)
 refine wd (xt xG rfl rfl (S.rd 0) jJ jJ) ?_
 refine wd (zi xi rfl ((S.rd 0).at (vy RRule.z (And.intro jJ jJ))) (RRule.len _)) ?_
 refine zZ vg jJ fun b11 w10 hw10=>?_
 replace S:St A N w w10 [oB b11 zl (RRule.C (zx 8)),oB b4 zl (RRule.C (zx 8)),oB b2 zb (Term.C (⟨a1.kind,a1.name,a1.other,a1.form,s_1⟩ : Term))] [fS 2 RRule.C s7 zD,oMa a_0 g_0_1 true,oT g_0_1 a0,za s_1 a1.sub]:=S.new hw10
 refine zy xi rfl rfl (S.blk 0) (RRule.len _) (by rw [RRule.len]; decide) (RRule.one _) (zM (RRule.len _)) fun w12 B hw12 zw12=>?_
 replace S:St A N w w12 [oB b11 zl (RRule.C (zx 0)),oB b4 zl (RRule.C (zx 8)),oB b2 zb (Term.C (⟨a1.kind,a1.name,a1.other,a1.form,s_1⟩ : Term))] [fS 2 RRule.C s7 zD,oMa a_0 g_0_1 true,oT g_0_1 a0,za s_1 a1.sub]:=S.store 0 B hw12
 clear B
 refine ze ?_
 refine zg ?_
 obtain ⟨p13,s15,hp14,S⟩ := S.see_oMa 1
 replace S:St A N w w12 [oB b11 zl (RRule.C (zx 0)),oB b4 zl (RRule.C (zx 8)),oB b2 zb (Term.C (⟨a1.kind,a1.name,a1.other,a1.form,s_1⟩ : Term))] [oB p13 xv (Machine.C (⟨g_0_1,s15⟩ : Machine)),fS 2 RRule.C s15 zD,fS 2 RRule.C s7 zD,oMa a_0 g_0_1 true,oT g_0_1 a0,za s_1 a1.sub]:=S
 refine xV 7 (Ext w12) hmix jM jM (Ext.drawn _) ?_
 refine zL (fun v K=>zh yE rfl (o':=0) rfl) ?_
 refine zL (fun v K=>zt xf rfl (((S.ext K).blk 0).cell (RRule.get_fits _))) ?_
 refine zL (fun v K=>zN rfl) ?_
 refine zL (fun v K=>xj (congrArg Value.pointer hp14)) ?_
 refine zL (fun v K=>zh yB rfl (o':=0) rfl) ?_
 refine zL (fun v K=>zt xq rfl (((S.ext K).blkZ 0).cell (Machine.get_t _))) ?_
 refine zL (fun v K=>zi zq rfl (((S.ext K).blk 2).all _ (Term.len _)) (Term.len _)) ?_
 refine va fun w16 K=>?_
 replace S:=S.ext K
 clear K
 obtain ⟨r17,er17,H⟩ := zB H
 obtain ⟨B19,MB19,SB19,back⟩ := S.calln 0 ((.z 4 rfl (.z 5 rfl .nil)))
 refine zJ (yd ca_reduce_rules_1 rfl) jJ (reduce_rules_1_st (a1:=a1) SB19 er17) ?_
 rintro _ w18 ⟨rfl,S2⟩
 replace S:St A N w w18 [oB b11 zl (RRule.C (zx 0)),oB b4 zl (RRule.C (zx 8)),oB b2 zb (Term.C (⟨a1.kind,a1.name,a1.other,a1.form,s_1⟩ : Term))] [oB p13 xv (Machine.C (⟨g_0_1,s15⟩ : Machine)),fS 2 RRule.C s15 zD,fS 2 RRule.C s7 zD,oMa a_0 g_0_1 true,oT g_0_1 a0,za s_1 a1.sub]:=back _ _ _ _ S2 rfl
 clear back S2 SB19
 replace S:St A N w w18 [oB b11 zl (RRule.C (zx 0)),oB b4 zl (RRule.C (zx 8)),oB b2 zb (Term.C (⟨a1.kind,a1.name,a1.other,a1.form,s_1⟩ : Term))] [fS 2 RRule.C s15 zD,fS 2 RRule.C s7 zD,oMa a_0 g_0_1 true,oT g_0_1 a0,za s_1 a1.sub]:=S.zs [1,2,3,4,5]
 refine ze ?_
 refine zU rfl (fun hc20=>?_) (fun hc20=>?_)
 ·replace H:=if_t hc20 H
  refine zg (zd ?_)
  refine wd (zi xi rfl ((S.blk 0).all _ (RRule.len _)) (RRule.len _)) ?_
  refine zy xi rfl rfl (S.blk 1) (RRule.len _) (by rw [RRule.len]; decide) (RRule.one _) (zM (RRule.len _)) fun w21 B hw21 zw21=>?_
  replace S:St A N w w21 [oB b4 zl (RRule.C (zx 0)),oB b11 zl (RRule.C (zx 0)),oB b2 zb (Term.C (⟨a1.kind,a1.name,a1.other,a1.form,s_1⟩ : Term))] [fS 2 RRule.C s15 zD,fS 2 RRule.C s7 zD,oMa a_0 g_0_1 true,oT g_0_1 a0,za s_1 a1.sub]:=S.store 1 B hw21
  clear B
  refine wd (zk rfl) ?_
  refine ze ?_
  refine zC ?_
  refine ⟨_,(xB (zV xi rfl ((S.blk 0).all _ (RRule.len _)) (RRule.len _)) (zj rfl)),?_⟩
  replace S:St A N w w21 [] []:=S.arr [] []
  obtain rfl:=jN H
  exact ⟨rfl,S⟩
 replace H:=if_f hc20 H
 refine zI ?_
 refine zd ?_
 refine wd (xx rfl rfl (c:=1) rfl jJ jJ) ?_
 refine wd (zp rfl) ?_
 refine ze ?_
 refine ⟨rfl,?_⟩
 refine ut ?_
 refine zg (zd ?_)
 refine wd (xC rfl rfl) ?_
 refine ze ?_
 refine zg ?_
 refine u7 rfl ?_
 refine zI ?_
 refine zg ?_
 refine zY ?_
 refine zg (zd ?_)
 refine wd (xt xG rfl rfl (S.rd 1) jJ jJ) ?_
 refine wd (zi xi rfl ((S.rd 1).at (vy RRule.z (And.intro jJ jJ))) (RRule.len _)) ?_
 refine zZ vg jJ fun b25 w24 hw24=>?_
 replace S:St A N w w24 [oB b25 zl (RRule.C (zx 8)),oB b11 zl (RRule.C (zx 0)),oB b4 zl (RRule.C (zx 8)),oB b2 zb (Term.C (⟨a1.kind,a1.name,a1.other,a1.form,s_1⟩ : Term))] [fS 2 RRule.C s15 zD,fS 2 RRule.C s7 zD,oMa a_0 g_0_1 true,oT g_0_1 a0,za s_1 a1.sub]:=S.new hw24
 refine zy xi rfl rfl (S.blk 0) (RRule.len _) (by rw [RRule.len]; decide) (RRule.one _) (zM (RRule.len _)) fun w26 B hw26 zw26=>?_
 replace S:St A N w w26 [oB b25 zl (RRule.C (zx 1)),oB b11 zl (RRule.C (zx 0)),oB b4 zl (RRule.C (zx 8)),oB b2 zb (Term.C (⟨a1.kind,a1.name,a1.other,a1.form,s_1⟩ : Term))] [fS 2 RRule.C s15 zD,fS 2 RRule.C s7 zD,oMa a_0 g_0_1 true,oT g_0_1 a0,za s_1 a1.sub]:=S.store 0 B hw26
 clear B
 refine ze ?_
 refine zg ?_
 obtain ⟨p27,s29,hp28,S⟩ := S.see_oMa 2
 replace S:St A N w w26 [oB b25 zl (RRule.C (zx 1)),oB b11 zl (RRule.C (zx 0)),oB b4 zl (RRule.C (zx 8)),oB b2 zb (Term.C (⟨a1.kind,a1.name,a1.other,a1.form,s_1⟩ : Term))] [oB p27 xv (Machine.C (⟨g_0_1,s29⟩ : Machine)),fS 2 RRule.C s29 zD,fS 2 RRule.C s15 zD,fS 2 RRule.C s7 zD,oMa a_0 g_0_1 true,oT g_0_1 a0,za s_1 a1.sub]:=S
 refine xV 7 (Ext w26) hmix jM jM (Ext.drawn _) ?_
 refine zL (fun v K=>zh yE rfl (o':=0) rfl) ?_
 refine zL (fun v K=>zt xf rfl (((S.ext K).blk 0).cell (RRule.get_fits _))) ?_
 refine zL (fun v K=>zN rfl) ?_
 refine zL (fun v K=>xj (congrArg Value.pointer hp28)) ?_
 refine zL (fun v K=>zh yB rfl (o':=0) rfl) ?_
 refine zL (fun v K=>zt xq rfl (((S.ext K).blkZ 0).cell (Machine.get_t _))) ?_
 refine zL (fun v K=>zi zq rfl (((S.ext K).blk 3).all _ (Term.len _)) (Term.len _)) ?_
 refine va fun w30 K=>?_
 replace S:=S.ext K
 clear K
 obtain ⟨r31,er31,H⟩ := zB H
 obtain ⟨B33,MB33,SB33,back⟩ := S.calln 0 ((.z 5 rfl (.z 6 rfl .nil)))
 refine zJ (yd ca_reduce_rules_3 rfl) jJ (reduce_rules_3_st (a1:=a1) SB33 er31) ?_
 rintro _ w32 ⟨rfl,S2⟩
 replace S:St A N w w32 [oB b25 zl (RRule.C (zx 1)),oB b11 zl (RRule.C (zx 0)),oB b4 zl (RRule.C (zx 8)),oB b2 zb (Term.C (⟨a1.kind,a1.name,a1.other,a1.form,s_1⟩ : Term))] [oB p27 xv (Machine.C (⟨g_0_1,s29⟩ : Machine)),fS 2 RRule.C s29 zD,fS 2 RRule.C s15 zD,fS 2 RRule.C s7 zD,oMa a_0 g_0_1 true,oT g_0_1 a0,za s_1 a1.sub]:=back _ _ _ _ S2 rfl
 clear back S2 SB33
 replace S:St A N w w32 [oB b25 zl (RRule.C (zx 1)),oB b11 zl (RRule.C (zx 0)),oB b4 zl (RRule.C (zx 8)),oB b2 zb (Term.C (⟨a1.kind,a1.name,a1.other,a1.form,s_1⟩ : Term))] [fS 2 RRule.C s29 zD,fS 2 RRule.C s15 zD,fS 2 RRule.C s7 zD,oMa a_0 g_0_1 true,oT g_0_1 a0,za s_1 a1.sub]:=S.zs [1,2,3,4,5,6]
 refine ze ?_
 refine zU rfl (fun hc34=>?_) (fun hc34=>?_)
 ·replace H:=if_t hc34 H
  refine zg (zd ?_)
  refine wd (zi xi rfl ((S.blk 0).all _ (RRule.len _)) (RRule.len _)) ?_
  refine zy xi rfl rfl (S.blk 2) (RRule.len _) (by rw [RRule.len]; decide) (RRule.one _) (zM (RRule.len _)) fun w35 B hw35 zw35=>?_
  replace S:St A N w w35 [oB b4 zl (RRule.C (zx 1)),oB b25 zl (RRule.C (zx 1)),oB b11 zl (RRule.C (zx 0)),oB b2 zb (Term.C (⟨a1.kind,a1.name,a1.other,a1.form,s_1⟩ : Term))] [fS 2 RRule.C s29 zD,fS 2 RRule.C s15 zD,fS 2 RRule.C s7 zD,oMa a_0 g_0_1 true,oT g_0_1 a0,za s_1 a1.sub]:=S.store 2 B hw35
  clear B
  refine wd (zk rfl) ?_
  refine ze ?_
  refine zC ?_
  refine ⟨_,(xB (zV xi rfl ((S.blk 0).all _ (RRule.len _)) (RRule.len _)) (zj rfl)),?_⟩
  replace S:St A N w w35 [] []:=S.arr [] []
  obtain rfl:=jN H
  exact ⟨rfl,S⟩
 replace H:=if_f hc34 H
 refine zI ?_
 refine zd ?_
 refine wd (xx rfl rfl (c:=2) rfl jJ jJ) ?_
 refine wd (zp rfl) ?_
 refine ze ?_
 refine ⟨rfl,?_⟩
 refine ut ?_
 refine zg (zd ?_)
 refine wd (xC rfl rfl) ?_
 refine ze ?_
 refine zg ?_
 refine u7 rfl ?_
 refine zI ?_
 refine zg ?_
 refine zY ?_
 refine zg (zd ?_)
 refine wd (xt xG rfl rfl (S.rd 2) jJ jJ) ?_
 refine wd (zi xi rfl ((S.rd 2).at (vy RRule.z (And.intro jJ jJ))) (RRule.len _)) ?_
 refine zZ vg jJ fun b39 w38 hw38=>?_
 replace S:St A N w w38 [oB b39 zl (RRule.C (zx 8)),oB b25 zl (RRule.C (zx 1)),oB b11 zl (RRule.C (zx 0)),oB b4 zl (RRule.C (zx 8)),oB b2 zb (Term.C (⟨a1.kind,a1.name,a1.other,a1.form,s_1⟩ : Term))] [fS 2 RRule.C s29 zD,fS 2 RRule.C s15 zD,fS 2 RRule.C s7 zD,oMa a_0 g_0_1 true,oT g_0_1 a0,za s_1 a1.sub]:=S.new hw38
 refine zy xi rfl rfl (S.blk 0) (RRule.len _) (by rw [RRule.len]; decide) (RRule.one _) (zM (RRule.len _)) fun w40 B hw40 zw40=>?_
 replace S:St A N w w40 [oB b39 zl (RRule.C (zx 2)),oB b25 zl (RRule.C (zx 1)),oB b11 zl (RRule.C (zx 0)),oB b4 zl (RRule.C (zx 8)),oB b2 zb (Term.C (⟨a1.kind,a1.name,a1.other,a1.form,s_1⟩ : Term))] [fS 2 RRule.C s29 zD,fS 2 RRule.C s15 zD,fS 2 RRule.C s7 zD,oMa a_0 g_0_1 true,oT g_0_1 a0,za s_1 a1.sub]:=S.store 0 B hw40
 clear B
 refine ze ?_
 refine zg ?_
 obtain ⟨p41,s43,hp42,S⟩ := S.see_oMa 3
 replace S:St A N w w40 [oB b39 zl (RRule.C (zx 2)),oB b25 zl (RRule.C (zx 1)),oB b11 zl (RRule.C (zx 0)),oB b4 zl (RRule.C (zx 8)),oB b2 zb (Term.C (⟨a1.kind,a1.name,a1.other,a1.form,s_1⟩ : Term))] [oB p41 xv (Machine.C (⟨g_0_1,s43⟩ : Machine)),fS 2 RRule.C s43 zD,fS 2 RRule.C s29 zD,fS 2 RRule.C s15 zD,fS 2 RRule.C s7 zD,oMa a_0 g_0_1 true,oT g_0_1 a0,za s_1 a1.sub]:=S
 refine xV 7 (Ext w40) hmix jM jM (Ext.drawn _) ?_
 refine zL (fun v K=>zh yE rfl (o':=0) rfl) ?_
 refine zL (fun v K=>zt xf rfl (((S.ext K).blk 0).cell (RRule.get_fits _))) ?_
 refine zL (fun v K=>zN rfl) ?_
 refine zL (fun v K=>xj (congrArg Value.pointer hp42)) ?_
 refine zL (fun v K=>zh yB rfl (o':=0) rfl) ?_
 refine zL (fun v K=>zt xq rfl (((S.ext K).blkZ 0).cell (Machine.get_t _))) ?_
 refine zL (fun v K=>zi zq rfl (((S.ext K).blk 4).all _ (Term.len _)) (Term.len _)) ?_
 refine va fun w44 K=>?_
 replace S:=S.ext K
 clear K
 obtain ⟨r45,er45,H⟩ := zB H
 obtain ⟨B47,MB47,SB47,back⟩ := S.calln 0 ((.z 6 rfl (.z 7 rfl .nil)))
 refine zJ (yd ca_reduce_rules_5 rfl) jJ (reduce_rules_5_st (a1:=a1) SB47 er45) ?_
 rintro _ w46 ⟨rfl,S2⟩
 replace S:St A N w w46 [oB b39 zl (RRule.C (zx 2)),oB b25 zl (RRule.C (zx 1)),oB b11 zl (RRule.C (zx 0)),oB b4 zl (RRule.C (zx 8)),oB b2 zb (Term.C (⟨a1.kind,a1.name,a1.other,a1.form,s_1⟩ : Term))] [oB p41 xv (Machine.C (⟨g_0_1,s43⟩ : Machine)),fS 2 RRule.C s43 zD,fS 2 RRule.C s29 zD,fS 2 RRule.C s15 zD,fS 2 RRule.C s7 zD,oMa a_0 g_0_1 true,oT g_0_1 a0,za s_1 a1.sub]:=back _ _ _ _ S2 rfl
 clear back S2 SB47
 replace S:St A N w w46 [oB b39 zl (RRule.C (zx 2)),oB b25 zl (RRule.C (zx 1)),oB b11 zl (RRule.C (zx 0)),oB b4 zl (RRule.C (zx 8)),oB b2 zb (Term.C (⟨a1.kind,a1.name,a1.other,a1.form,s_1⟩ : Term))] [fS 2 RRule.C s43 zD,fS 2 RRule.C s29 zD,fS 2 RRule.C s15 zD,fS 2 RRule.C s7 zD,oMa a_0 g_0_1 true,oT g_0_1 a0,za s_1 a1.sub]:=S.zs [1,2,3,4,5,6,7]
 refine ze ?_
 refine zU rfl (fun hc48=>?_) (fun hc48=>?_)
 ·replace H:=if_t hc48 H
  refine zg (zd ?_)
  refine wd (zi xi rfl ((S.blk 0).all _ (RRule.len _)) (RRule.len _)) ?_
  refine zy xi rfl rfl (S.blk 3) (RRule.len _) (by rw [RRule.len]; decide) (RRule.one _) (zM (RRule.len _)) fun w49 B hw49 zw49=>?_
  replace S:St A N w w49 [oB b4 zl (RRule.C (zx 2)),oB b39 zl (RRule.C (zx 2)),oB b25 zl (RRule.C (zx 1)),oB b11 zl (RRule.C (zx 0)),oB b2 zb (Term.C (⟨a1.kind,a1.name,a1.other,a1.form,s_1⟩ : Term))] [fS 2 RRule.C s43 zD,fS 2 RRule.C s29 zD,fS 2 RRule.C s15 zD,fS 2 RRule.C s7 zD,oMa a_0 g_0_1 true,oT g_0_1 a0,za s_1 a1.sub]:=S.store 3 B hw49
  clear B
  refine wd (zk rfl) ?_
  refine ze ?_
  refine zC ?_
  refine ⟨_,(xB (zV xi rfl ((S.blk 0).all _ (RRule.len _)) (RRule.len _)) (zj rfl)),?_⟩
  replace S:St A N w w49 [] []:=S.arr [] []
  obtain rfl:=jN H
  exact ⟨rfl,S⟩
 replace H:=if_f hc48 H
 refine zI ?_
 refine zd ?_
 refine wd (xx rfl rfl (c:=3) rfl jJ jJ) ?_
 refine wd (zp rfl) ?_
 refine ze ?_
 refine ⟨rfl,?_⟩
 refine ut ?_
 refine zg (zd ?_)
 refine wd (xC rfl rfl) ?_
 refine ze ?_
 refine zg ?_
 refine u7 rfl ?_
 refine zI ?_
 refine zg ?_
 refine zY ?_
 refine zg (zd ?_)
 refine wd (xt xG rfl rfl (S.rd 3) jJ jJ) ?_
 refine wd (zi xi rfl ((S.rd 3).at (vy RRule.z (And.intro jJ jJ))) (RRule.len _)) ?_
 refine zZ vg jJ fun b53 w52 hw52=>?_
 replace S:St A N w w52 [oB b53 zl (RRule.C (zx 8)),oB b39 zl (RRule.C (zx 2)),oB b25 zl (RRule.C (zx 1)),oB b11 zl (RRule.C (zx 0)),oB b4 zl (RRule.C (zx 8)),oB b2 zb (Term.C (⟨a1.kind,a1.name,a1.other,a1.form,s_1⟩ : Term))] [fS 2 RRule.C s43 zD,fS 2 RRule.C s29 zD,fS 2 RRule.C s15 zD,fS 2 RRule.C s7 zD,oMa a_0 g_0_1 true,oT g_0_1 a0,za s_1 a1.sub]:=S.new hw52
 refine zy xi rfl rfl (S.blk 0) (RRule.len _) (by rw [RRule.len]; decide) (RRule.one _) (zM (RRule.len _)) fun w54 B hw54 zw54=>?_
 replace S:St A N w w54 [oB b53 zl (RRule.C (zx 3)),oB b39 zl (RRule.C (zx 2)),oB b25 zl (RRule.C (zx 1)),oB b11 zl (RRule.C (zx 0)),oB b4 zl (RRule.C (zx 8)),oB b2 zb (Term.C (⟨a1.kind,a1.name,a1.other,a1.form,s_1⟩ : Term))] [fS 2 RRule.C s43 zD,fS 2 RRule.C s29 zD,fS 2 RRule.C s15 zD,fS 2 RRule.C s7 zD,oMa a_0 g_0_1 true,oT g_0_1 a0,za s_1 a1.sub]:=S.store 0 B hw54
 clear B
 refine ze ?_
 refine zg ?_
 obtain ⟨p55,s57,hp56,S⟩ := S.see_oMa 4
 replace S:St A N w w54 [oB b53 zl (RRule.C (zx 3)),oB b39 zl (RRule.C (zx 2)),oB b25 zl (RRule.C (zx 1)),oB b11 zl (RRule.C (zx 0)),oB b4 zl (RRule.C (zx 8)),oB b2 zb (Term.C (⟨a1.kind,a1.name,a1.other,a1.form,s_1⟩ : Term))] [oB p55 xv (Machine.C (⟨g_0_1,s57⟩ : Machine)),fS 2 RRule.C s57 zD,fS 2 RRule.C s43 zD,fS 2 RRule.C s29 zD,fS 2 RRule.C s15 zD,fS 2 RRule.C s7 zD,oMa a_0 g_0_1 true,oT g_0_1 a0,za s_1 a1.sub]:=S
 refine xV 7 (Ext w54) hmix jM jM (Ext.drawn _) ?_
 refine zL (fun v K=>zh yE rfl (o':=0) rfl) ?_
 refine zL (fun v K=>zt xf rfl (((S.ext K).blk 0).cell (RRule.get_fits _))) ?_
 refine zL (fun v K=>zN rfl) ?_
 refine zL (fun v K=>xj (congrArg Value.pointer hp56)) ?_
 refine zL (fun v K=>zh yB rfl (o':=0) rfl) ?_
 refine zL (fun v K=>zt xq rfl (((S.ext K).blkZ 0).cell (Machine.get_t _))) ?_
 refine zL (fun v K=>zi zq rfl (((S.ext K).blk 5).all _ (Term.len _)) (Term.len _)) ?_
 refine va fun w58 K=>?_
 replace S:=S.ext K
 clear K
 obtain ⟨r59,er59,H⟩ := zB H
 obtain ⟨B61,MB61,SB61,back⟩ := S.calln 0 ((.z 7 rfl (.z 8 rfl .nil)))
 refine zJ (yd ca_reduce_rules_7 rfl) jJ (reduce_rules_7_st (a1:=a1) SB61 er59) ?_
 rintro _ w60 ⟨rfl,S2⟩
 replace S:St A N w w60 [oB b53 zl (RRule.C (zx 3)),oB b39 zl (RRule.C (zx 2)),oB b25 zl (RRule.C (zx 1)),oB b11 zl (RRule.C (zx 0)),oB b4 zl (RRule.C (zx 8)),oB b2 zb (Term.C (⟨a1.kind,a1.name,a1.other,a1.form,s_1⟩ : Term))] [oB p55 xv (Machine.C (⟨g_0_1,s57⟩ : Machine)),fS 2 RRule.C s57 zD,fS 2 RRule.C s43 zD,fS 2 RRule.C s29 zD,fS 2 RRule.C s15 zD,fS 2 RRule.C s7 zD,oMa a_0 g_0_1 true,oT g_0_1 a0,za s_1 a1.sub]:=back _ _ _ _ S2 rfl
 clear back S2 SB61
 replace S:St A N w w60 [oB b53 zl (RRule.C (zx 3)),oB b39 zl (RRule.C (zx 2)),oB b25 zl (RRule.C (zx 1)),oB b11 zl (RRule.C (zx 0)),oB b4 zl (RRule.C (zx 8)),oB b2 zb (Term.C (⟨a1.kind,a1.name,a1.other,a1.form,s_1⟩ : Term))] [fS 2 RRule.C s57 zD,fS 2 RRule.C s43 zD,fS 2 RRule.C s29 zD,fS 2 RRule.C s15 zD,fS 2 RRule.C s7 zD,oMa a_0 g_0_1 true,oT g_0_1 a0,za s_1 a1.sub]:=S.zs [1,2,3,4,5,6,7,8]
 refine ze ?_
 refine zU rfl (fun hc62=>?_) (fun hc62=>?_)
 ·replace H:=if_t hc62 H
  refine zg (zd ?_)
  refine wd (zi xi rfl ((S.blk 0).all _ (RRule.len _)) (RRule.len _)) ?_
  refine zy xi rfl rfl (S.blk 4) (RRule.len _) (by rw [RRule.len]; decide) (RRule.one _) (zM (RRule.len _)) fun w63 B hw63 zw63=>?_
  replace S:St A N w w63 [oB b4 zl (RRule.C (zx 3)),oB b53 zl (RRule.C (zx 3)),oB b39 zl (RRule.C (zx 2)),oB b25 zl (RRule.C (zx 1)),oB b11 zl (RRule.C (zx 0)),oB b2 zb (Term.C (⟨a1.kind,a1.name,a1.other,a1.form,s_1⟩ : Term))] [fS 2 RRule.C s57 zD,fS 2 RRule.C s43 zD,fS 2 RRule.C s29 zD,fS 2 RRule.C s15 zD,fS 2 RRule.C s7 zD,oMa a_0 g_0_1 true,oT g_0_1 a0,za s_1 a1.sub]:=S.store 4 B hw63
  clear B
  refine wd (zk rfl) ?_
  refine ze ?_
  refine zC ?_
  refine ⟨_,(xB (zV xi rfl ((S.blk 0).all _ (RRule.len _)) (RRule.len _)) (zj rfl)),?_⟩
  replace S:St A N w w63 [] []:=S.arr [] []
  obtain rfl:=jN H
  exact ⟨rfl,S⟩
 replace H:=if_f hc62 H
 refine zI ?_
 refine zd ?_
 refine wd (xx rfl rfl (c:=4) rfl jJ jJ) ?_
 refine wd (zp rfl) ?_
 refine ze ?_
 refine ⟨rfl,?_⟩
 refine ut ?_
 refine zg (zd ?_)
 refine wd (xC rfl rfl) ?_
 refine ze ?_
 refine zg ?_
 refine u7 rfl ?_
 refine zI ?_
 refine zg ?_
 refine zY ?_
 refine zg (zd ?_)
 refine wd (xt xG rfl rfl (S.rd 4) jJ jJ) ?_
 refine wd (zi xi rfl ((S.rd 4).at (vy RRule.z (And.intro jJ jJ))) (RRule.len _)) ?_
 refine zZ vg jJ fun b67 w66 hw66=>?_
 replace S:St A N w w66 [oB b67 zl (RRule.C (zx 8)),oB b53 zl (RRule.C (zx 3)),oB b39 zl (RRule.C (zx 2)),oB b25 zl (RRule.C (zx 1)),oB b11 zl (RRule.C (zx 0)),oB b4 zl (RRule.C (zx 8)),oB b2 zb (Term.C (⟨a1.kind,a1.name,a1.other,a1.form,s_1⟩ : Term))] [fS 2 RRule.C s57 zD,fS 2 RRule.C s43 zD,fS 2 RRule.C s29 zD,fS 2 RRule.C s15 zD,fS 2 RRule.C s7 zD,oMa a_0 g_0_1 true,oT g_0_1 a0,za s_1 a1.sub]:=S.new hw66
 refine zy xi rfl rfl (S.blk 0) (RRule.len _) (by rw [RRule.len]; decide) (RRule.one _) (zM (RRule.len _)) fun w68 B hw68 zw68=>?_
 replace S:St A N w w68 [oB b67 zl (RRule.C (zx 4)),oB b53 zl (RRule.C (zx 3)),oB b39 zl (RRule.C (zx 2)),oB b25 zl (RRule.C (zx 1)),oB b11 zl (RRule.C (zx 0)),oB b4 zl (RRule.C (zx 8)),oB b2 zb (Term.C (⟨a1.kind,a1.name,a1.other,a1.form,s_1⟩ : Term))] [fS 2 RRule.C s57 zD,fS 2 RRule.C s43 zD,fS 2 RRule.C s29 zD,fS 2 RRule.C s15 zD,fS 2 RRule.C s7 zD,oMa a_0 g_0_1 true,oT g_0_1 a0,za s_1 a1.sub]:=S.store 0 B hw68
 clear B
 refine ze ?_
 refine zg ?_
 obtain ⟨p69,s71,hp70,S⟩ := S.see_oMa 5
 replace S:St A N w w68 [oB b67 zl (RRule.C (zx 4)),oB b53 zl (RRule.C (zx 3)),oB b39 zl (RRule.C (zx 2)),oB b25 zl (RRule.C (zx 1)),oB b11 zl (RRule.C (zx 0)),oB b4 zl (RRule.C (zx 8)),oB b2 zb (Term.C (⟨a1.kind,a1.name,a1.other,a1.form,s_1⟩ : Term))] [oB p69 xv (Machine.C (⟨g_0_1,s71⟩ : Machine)),fS 2 RRule.C s71 zD,fS 2 RRule.C s57 zD,fS 2 RRule.C s43 zD,fS 2 RRule.C s29 zD,fS 2 RRule.C s15 zD,fS 2 RRule.C s7 zD,oMa a_0 g_0_1 true,oT g_0_1 a0,za s_1 a1.sub]:=S
 refine xV 7 (Ext w68) hmix jM jM (Ext.drawn _) ?_
 refine zL (fun v K=>zh yE rfl (o':=0) rfl) ?_
 refine zL (fun v K=>zt xf rfl (((S.ext K).blk 0).cell (RRule.get_fits _))) ?_
 refine zL (fun v K=>zN rfl) ?_
 refine zL (fun v K=>xj (congrArg Value.pointer hp70)) ?_
 refine zL (fun v K=>zh yB rfl (o':=0) rfl) ?_
 refine zL (fun v K=>zt xq rfl (((S.ext K).blkZ 0).cell (Machine.get_t _))) ?_
 refine zL (fun v K=>zi zq rfl (((S.ext K).blk 6).all _ (Term.len _)) (Term.len _)) ?_
 refine va fun w72 K=>?_
 replace S:=S.ext K
 clear K
 obtain ⟨r73,er73,H⟩ := zB H
 obtain ⟨B75,MB75,SB75,back⟩ := S.calln 0 ((.z 8 rfl (.z 9 rfl .nil)))
 refine zJ (yd ca_reduce_rules_9 rfl) jJ (reduce_rules_9_st (a1:=a1) SB75 er73) ?_
 rintro _ w74 ⟨rfl,S2⟩
 replace S:St A N w w74 [oB b67 zl (RRule.C (zx 4)),oB b53 zl (RRule.C (zx 3)),oB b39 zl (RRule.C (zx 2)),oB b25 zl (RRule.C (zx 1)),oB b11 zl (RRule.C (zx 0)),oB b4 zl (RRule.C (zx 8)),oB b2 zb (Term.C (⟨a1.kind,a1.name,a1.other,a1.form,s_1⟩ : Term))] [oB p69 xv (Machine.C (⟨g_0_1,s71⟩ : Machine)),fS 2 RRule.C s71 zD,fS 2 RRule.C s57 zD,fS 2 RRule.C s43 zD,fS 2 RRule.C s29 zD,fS 2 RRule.C s15 zD,fS 2 RRule.C s7 zD,oMa a_0 g_0_1 true,oT g_0_1 a0,za s_1 a1.sub]:=back _ _ _ _ S2 rfl
 clear back S2 SB75
 replace S:St A N w w74 [oB b67 zl (RRule.C (zx 4)),oB b53 zl (RRule.C (zx 3)),oB b39 zl (RRule.C (zx 2)),oB b25 zl (RRule.C (zx 1)),oB b11 zl (RRule.C (zx 0)),oB b4 zl (RRule.C (zx 8)),oB b2 zb (Term.C (⟨a1.kind,a1.name,a1.other,a1.form,s_1⟩ : Term))] [fS 2 RRule.C s71 zD,fS 2 RRule.C s57 zD,fS 2 RRule.C s43 zD,fS 2 RRule.C s29 zD,fS 2 RRule.C s15 zD,fS 2 RRule.C s7 zD,oMa a_0 g_0_1 true,oT g_0_1 a0,za s_1 a1.sub]:=S.zs [1,2,3,4,5,6,7,8,9]
 refine ze ?_
 refine zU rfl (fun hc76=>?_) (fun hc76=>?_)
 ·replace H:=if_t hc76 H
  refine zg (zd ?_)
  refine wd (zi xi rfl ((S.blk 0).all _ (RRule.len _)) (RRule.len _)) ?_
  refine zy xi rfl rfl (S.blk 5) (RRule.len _) (by rw [RRule.len]; decide) (RRule.one _) (zM (RRule.len _)) fun w77 B hw77 zw77=>?_
  replace S:St A N w w77 [oB b4 zl (RRule.C (zx 4)),oB b67 zl (RRule.C (zx 4)),oB b53 zl (RRule.C (zx 3)),oB b39 zl (RRule.C (zx 2)),oB b25 zl (RRule.C (zx 1)),oB b11 zl (RRule.C (zx 0)),oB b2 zb (Term.C (⟨a1.kind,a1.name,a1.other,a1.form,s_1⟩ : Term))] [fS 2 RRule.C s71 zD,fS 2 RRule.C s57 zD,fS 2 RRule.C s43 zD,fS 2 RRule.C s29 zD,fS 2 RRule.C s15 zD,fS 2 RRule.C s7 zD,oMa a_0 g_0_1 true,oT g_0_1 a0,za s_1 a1.sub]:=S.store 5 B hw77
  clear B
  refine wd (zk rfl) ?_
  refine ze ?_
  refine zC ?_
  refine ⟨_,(xB (zV xi rfl ((S.blk 0).all _ (RRule.len _)) (RRule.len _)) (zj rfl)),?_⟩
  replace S:St A N w w77 [] []:=S.arr [] []
  obtain rfl:=jN H
  exact ⟨rfl,S⟩
 replace H:=if_f hc76 H
 refine zI ?_
 refine zd ?_
 refine wd (xx rfl rfl (c:=5) rfl jJ jJ) ?_
 refine wd (zp rfl) ?_
 refine ze ?_
 refine ⟨rfl,?_⟩
 refine ut ?_
 refine zg (zd ?_)
 refine wd (xC rfl rfl) ?_
 refine ze ?_
 refine zg ?_
 refine u7 rfl ?_
 refine zI ?_
 refine zg ?_
 refine zY ?_
 refine zg (zd ?_)
 refine wd (xt xG rfl rfl (S.rd 5) jJ jJ) ?_
 refine wd (zi xi rfl ((S.rd 5).at (vy RRule.z (And.intro jJ jJ))) (RRule.len _)) ?_
 refine zZ vg jJ fun b81 w80 hw80=>?_
 replace S:St A N w w80 [oB b81 zl (RRule.C (zx 8)),oB b67 zl (RRule.C (zx 4)),oB b53 zl (RRule.C (zx 3)),oB b39 zl (RRule.C (zx 2)),oB b25 zl (RRule.C (zx 1)),oB b11 zl (RRule.C (zx 0)),oB b4 zl (RRule.C (zx 8)),oB b2 zb (Term.C (⟨a1.kind,a1.name,a1.other,a1.form,s_1⟩ : Term))] [fS 2 RRule.C s71 zD,fS 2 RRule.C s57 zD,fS 2 RRule.C s43 zD,fS 2 RRule.C s29 zD,fS 2 RRule.C s15 zD,fS 2 RRule.C s7 zD,oMa a_0 g_0_1 true,oT g_0_1 a0,za s_1 a1.sub]:=S.new hw80
 refine zy xi rfl rfl (S.blk 0) (RRule.len _) (by rw [RRule.len]; decide) (RRule.one _) (zM (RRule.len _)) fun w82 B hw82 zw82=>?_
 replace S:St A N w w82 [oB b81 zl (RRule.C (zx 5)),oB b67 zl (RRule.C (zx 4)),oB b53 zl (RRule.C (zx 3)),oB b39 zl (RRule.C (zx 2)),oB b25 zl (RRule.C (zx 1)),oB b11 zl (RRule.C (zx 0)),oB b4 zl (RRule.C (zx 8)),oB b2 zb (Term.C (⟨a1.kind,a1.name,a1.other,a1.form,s_1⟩ : Term))] [fS 2 RRule.C s71 zD,fS 2 RRule.C s57 zD,fS 2 RRule.C s43 zD,fS 2 RRule.C s29 zD,fS 2 RRule.C s15 zD,fS 2 RRule.C s7 zD,oMa a_0 g_0_1 true,oT g_0_1 a0,za s_1 a1.sub]:=S.store 0 B hw82
 clear B
 refine ze ?_
 refine zg ?_
 obtain ⟨p83,s85,hp84,S⟩ := S.see_oMa 6
 replace S:St A N w w82 [oB b81 zl (RRule.C (zx 5)),oB b67 zl (RRule.C (zx 4)),oB b53 zl (RRule.C (zx 3)),oB b39 zl (RRule.C (zx 2)),oB b25 zl (RRule.C (zx 1)),oB b11 zl (RRule.C (zx 0)),oB b4 zl (RRule.C (zx 8)),oB b2 zb (Term.C (⟨a1.kind,a1.name,a1.other,a1.form,s_1⟩ : Term))] [oB p83 xv (Machine.C (⟨g_0_1,s85⟩ : Machine)),fS 2 RRule.C s85 zD,fS 2 RRule.C s71 zD,fS 2 RRule.C s57 zD,fS 2 RRule.C s43 zD,fS 2 RRule.C s29 zD,fS 2 RRule.C s15 zD,fS 2 RRule.C s7 zD,oMa a_0 g_0_1 true,oT g_0_1 a0,za s_1 a1.sub]:=S
 refine xV 7 (Ext w82) hmix jM jM (Ext.drawn _) ?_
 refine zL (fun v K=>zh yE rfl (o':=0) rfl) ?_
 refine zL (fun v K=>zt xf rfl (((S.ext K).blk 0).cell (RRule.get_fits _))) ?_
 refine zL (fun v K=>zN rfl) ?_
 refine zL (fun v K=>xj (congrArg Value.pointer hp84)) ?_
 refine zL (fun v K=>zh yB rfl (o':=0) rfl) ?_
 refine zL (fun v K=>zt xq rfl (((S.ext K).blkZ 0).cell (Machine.get_t _))) ?_
 refine zL (fun v K=>zi zq rfl (((S.ext K).blk 7).all _ (Term.len _)) (Term.len _)) ?_
 refine va fun w86 K=>?_
 replace S:=S.ext K
 clear K
 obtain ⟨r87,er87,H⟩ := zB H
 obtain ⟨B89,MB89,SB89,back⟩ := S.calln 0 ((.z 9 rfl (.z 10 rfl .nil)))
 refine zJ (yd ca_reduce_rules_11 rfl) jJ (reduce_rules_11_st (a1:=a1) SB89 er87) ?_
 rintro _ w88 ⟨rfl,S2⟩
 replace S:St A N w w88 [oB b81 zl (RRule.C (zx 5)),oB b67 zl (RRule.C (zx 4)),oB b53 zl (RRule.C (zx 3)),oB b39 zl (RRule.C (zx 2)),oB b25 zl (RRule.C (zx 1)),oB b11 zl (RRule.C (zx 0)),oB b4 zl (RRule.C (zx 8)),oB b2 zb (Term.C (⟨a1.kind,a1.name,a1.other,a1.form,s_1⟩ : Term))] [oB p83 xv (Machine.C (⟨g_0_1,s85⟩ : Machine)),fS 2 RRule.C s85 zD,fS 2 RRule.C s71 zD,fS 2 RRule.C s57 zD,fS 2 RRule.C s43 zD,fS 2 RRule.C s29 zD,fS 2 RRule.C s15 zD,fS 2 RRule.C s7 zD,oMa a_0 g_0_1 true,oT g_0_1 a0,za s_1 a1.sub]:=back _ _ _ _ S2 rfl
 clear back S2 SB89
 replace S:St A N w w88 [oB b81 zl (RRule.C (zx 5)),oB b67 zl (RRule.C (zx 4)),oB b53 zl (RRule.C (zx 3)),oB b39 zl (RRule.C (zx 2)),oB b25 zl (RRule.C (zx 1)),oB b11 zl (RRule.C (zx 0)),oB b4 zl (RRule.C (zx 8)),oB b2 zb (Term.C (⟨a1.kind,a1.name,a1.other,a1.form,s_1⟩ : Term))] [fS 2 RRule.C s85 zD,fS 2 RRule.C s71 zD,fS 2 RRule.C s57 zD,fS 2 RRule.C s43 zD,fS 2 RRule.C s29 zD,fS 2 RRule.C s15 zD,fS 2 RRule.C s7 zD,oMa a_0 g_0_1 true,oT g_0_1 a0,za s_1 a1.sub]:=S.zs [1,2,3,4,5,6,7,8,9,10]
 refine ze ?_
 refine zU rfl (fun hc90=>?_) (fun hc90=>?_)
 ·replace H:=if_t hc90 H
  refine zg (zd ?_)
  refine wd (zi xi rfl ((S.blk 0).all _ (RRule.len _)) (RRule.len _)) ?_
  refine zy xi rfl rfl (S.blk 6) (RRule.len _) (by rw [RRule.len]; decide) (RRule.one _) (zM (RRule.len _)) fun w91 B hw91 zw91=>?_
  replace S:St A N w w91 [oB b4 zl (RRule.C (zx 5)),oB b81 zl (RRule.C (zx 5)),oB b67 zl (RRule.C (zx 4)),oB b53 zl (RRule.C (zx 3)),oB b39 zl (RRule.C (zx 2)),oB b25 zl (RRule.C (zx 1)),oB b11 zl (RRule.C (zx 0)),oB b2 zb (Term.C (⟨a1.kind,a1.name,a1.other,a1.form,s_1⟩ : Term))] [fS 2 RRule.C s85 zD,fS 2 RRule.C s71 zD,fS 2 RRule.C s57 zD,fS 2 RRule.C s43 zD,fS 2 RRule.C s29 zD,fS 2 RRule.C s15 zD,fS 2 RRule.C s7 zD,oMa a_0 g_0_1 true,oT g_0_1 a0,za s_1 a1.sub]:=S.store 6 B hw91
  clear B
  refine wd (zk rfl) ?_
  refine ze ?_
  refine zC ?_
  refine ⟨_,(xB (zV xi rfl ((S.blk 0).all _ (RRule.len _)) (RRule.len _)) (zj rfl)),?_⟩
  replace S:St A N w w91 [] []:=S.arr [] []
  obtain rfl:=jN H
  exact ⟨rfl,S⟩
 replace H:=if_f hc90 H
 refine zI ?_
 refine zd ?_
 refine wd (xx rfl rfl (c:=6) rfl jJ jJ) ?_
 refine wd (zp rfl) ?_
 refine ze ?_
 refine ⟨rfl,?_⟩
 refine ut ?_
 refine zg (zd ?_)
 refine wd (xC rfl rfl) ?_
 refine ze ?_
 refine zg ?_
 refine u7 rfl ?_
 refine zI ?_
 refine zg ?_
 refine zY ?_
 refine zg (zd ?_)
 refine wd (xt xG rfl rfl (S.rd 6) jJ jJ) ?_
 refine wd (zi xi rfl ((S.rd 6).at (vy RRule.z (And.intro jJ jJ))) (RRule.len _)) ?_
 refine zZ vg jJ fun b95 w94 hw94=>?_
 replace S:St A N w w94 [oB b95 zl (RRule.C (zx 8)),oB b81 zl (RRule.C (zx 5)),oB b67 zl (RRule.C (zx 4)),oB b53 zl (RRule.C (zx 3)),oB b39 zl (RRule.C (zx 2)),oB b25 zl (RRule.C (zx 1)),oB b11 zl (RRule.C (zx 0)),oB b4 zl (RRule.C (zx 8)),oB b2 zb (Term.C (⟨a1.kind,a1.name,a1.other,a1.form,s_1⟩ : Term))] [fS 2 RRule.C s85 zD,fS 2 RRule.C s71 zD,fS 2 RRule.C s57 zD,fS 2 RRule.C s43 zD,fS 2 RRule.C s29 zD,fS 2 RRule.C s15 zD,fS 2 RRule.C s7 zD,oMa a_0 g_0_1 true,oT g_0_1 a0,za s_1 a1.sub]:=S.new hw94
 refine zy xi rfl rfl (S.blk 0) (RRule.len _) (by rw [RRule.len]; decide) (RRule.one _) (zM (RRule.len _)) fun w96 B hw96 zw96=>?_
 replace S:St A N w w96 [oB b95 zl (RRule.C (zx 6)),oB b81 zl (RRule.C (zx 5)),oB b67 zl (RRule.C (zx 4)),oB b53 zl (RRule.C (zx 3)),oB b39 zl (RRule.C (zx 2)),oB b25 zl (RRule.C (zx 1)),oB b11 zl (RRule.C (zx 0)),oB b4 zl (RRule.C (zx 8)),oB b2 zb (Term.C (⟨a1.kind,a1.name,a1.other,a1.form,s_1⟩ : Term))] [fS 2 RRule.C s85 zD,fS 2 RRule.C s71 zD,fS 2 RRule.C s57 zD,fS 2 RRule.C s43 zD,fS 2 RRule.C s29 zD,fS 2 RRule.C s15 zD,fS 2 RRule.C s7 zD,oMa a_0 g_0_1 true,oT g_0_1 a0,za s_1 a1.sub]:=S.store 0 B hw96
 clear B
 refine ze ?_
 refine zg ?_
 obtain ⟨p97,s99,hp98,S⟩ := S.see_oMa 7
 replace S:St A N w w96 [oB b95 zl (RRule.C (zx 6)),oB b81 zl (RRule.C (zx 5)),oB b67 zl (RRule.C (zx 4)),oB b53 zl (RRule.C (zx 3)),oB b39 zl (RRule.C (zx 2)),oB b25 zl (RRule.C (zx 1)),oB b11 zl (RRule.C (zx 0)),oB b4 zl (RRule.C (zx 8)),oB b2 zb (Term.C (⟨a1.kind,a1.name,a1.other,a1.form,s_1⟩ : Term))] [oB p97 xv (Machine.C (⟨g_0_1,s99⟩ : Machine)),fS 2 RRule.C s99 zD,fS 2 RRule.C s85 zD,fS 2 RRule.C s71 zD,fS 2 RRule.C s57 zD,fS 2 RRule.C s43 zD,fS 2 RRule.C s29 zD,fS 2 RRule.C s15 zD,fS 2 RRule.C s7 zD,oMa a_0 g_0_1 true,oT g_0_1 a0,za s_1 a1.sub]:=S
 refine xV 7 (Ext w96) hmix jM jM (Ext.drawn _) ?_
 refine zL (fun v K=>zh yE rfl (o':=0) rfl) ?_
 refine zL (fun v K=>zt xf rfl (((S.ext K).blk 0).cell (RRule.get_fits _))) ?_
 refine zL (fun v K=>zN rfl) ?_
 refine zL (fun v K=>xj (congrArg Value.pointer hp98)) ?_
 refine zL (fun v K=>zh yB rfl (o':=0) rfl) ?_
 refine zL (fun v K=>zt xq rfl (((S.ext K).blkZ 0).cell (Machine.get_t _))) ?_
 refine zL (fun v K=>zi zq rfl (((S.ext K).blk 8).all _ (Term.len _)) (Term.len _)) ?_
 refine va fun w100 K=>?_
 replace S:=S.ext K
 clear K
 obtain ⟨r101,er101,H⟩ := zB H
 obtain ⟨B103,MB103,SB103,back⟩ := S.calln 0 ((.z 10 rfl (.z 11 rfl .nil)))
 refine zJ (yd ca_reduce_rules_13 rfl) jJ (reduce_rules_13_st (a1:=a1) SB103 er101) ?_
 rintro _ w102 ⟨rfl,S2⟩
 replace S:St A N w w102 [oB b95 zl (RRule.C (zx 6)),oB b81 zl (RRule.C (zx 5)),oB b67 zl (RRule.C (zx 4)),oB b53 zl (RRule.C (zx 3)),oB b39 zl (RRule.C (zx 2)),oB b25 zl (RRule.C (zx 1)),oB b11 zl (RRule.C (zx 0)),oB b4 zl (RRule.C (zx 8)),oB b2 zb (Term.C (⟨a1.kind,a1.name,a1.other,a1.form,s_1⟩ : Term))] [oB p97 xv (Machine.C (⟨g_0_1,s99⟩ : Machine)),fS 2 RRule.C s99 zD,fS 2 RRule.C s85 zD,fS 2 RRule.C s71 zD,fS 2 RRule.C s57 zD,fS 2 RRule.C s43 zD,fS 2 RRule.C s29 zD,fS 2 RRule.C s15 zD,fS 2 RRule.C s7 zD,oMa a_0 g_0_1 true,oT g_0_1 a0,za s_1 a1.sub]:=back _ _ _ _ S2 rfl
 clear back S2 SB103
 replace S:St A N w w102 [oB b95 zl (RRule.C (zx 6)),oB b81 zl (RRule.C (zx 5)),oB b67 zl (RRule.C (zx 4)),oB b53 zl (RRule.C (zx 3)),oB b39 zl (RRule.C (zx 2)),oB b25 zl (RRule.C (zx 1)),oB b11 zl (RRule.C (zx 0)),oB b4 zl (RRule.C (zx 8)),oB b2 zb (Term.C (⟨a1.kind,a1.name,a1.other,a1.form,s_1⟩ : Term))] [fS 2 RRule.C s99 zD,fS 2 RRule.C s85 zD,fS 2 RRule.C s71 zD,fS 2 RRule.C s57 zD,fS 2 RRule.C s43 zD,fS 2 RRule.C s29 zD,fS 2 RRule.C s15 zD,fS 2 RRule.C s7 zD,oMa a_0 g_0_1 true,oT g_0_1 a0,za s_1 a1.sub]:=S.zs [1,2,3,4,5,6,7,8,9,10,11]
 refine ze ?_
 refine zU rfl (fun hc104=>?_) (fun hc104=>?_)
 ·replace H:=if_t hc104 H
  refine zg (zd ?_)
  refine wd (zi xi rfl ((S.blk 0).all _ (RRule.len _)) (RRule.len _)) ?_
  refine zy xi rfl rfl (S.blk 7) (RRule.len _) (by rw [RRule.len]; decide) (RRule.one _) (zM (RRule.len _)) fun w105 B hw105 zw105=>?_
  replace S:St A N w w105 [oB b4 zl (RRule.C (zx 6)),oB b95 zl (RRule.C (zx 6)),oB b81 zl (RRule.C (zx 5)),oB b67 zl (RRule.C (zx 4)),oB b53 zl (RRule.C (zx 3)),oB b39 zl (RRule.C (zx 2)),oB b25 zl (RRule.C (zx 1)),oB b11 zl (RRule.C (zx 0)),oB b2 zb (Term.C (⟨a1.kind,a1.name,a1.other,a1.form,s_1⟩ : Term))] [fS 2 RRule.C s99 zD,fS 2 RRule.C s85 zD,fS 2 RRule.C s71 zD,fS 2 RRule.C s57 zD,fS 2 RRule.C s43 zD,fS 2 RRule.C s29 zD,fS 2 RRule.C s15 zD,fS 2 RRule.C s7 zD,oMa a_0 g_0_1 true,oT g_0_1 a0,za s_1 a1.sub]:=S.store 7 B hw105
  clear B
  refine wd (zk rfl) ?_
  refine ze ?_
  refine zC ?_
  refine ⟨_,(xB (zV xi rfl ((S.blk 0).all _ (RRule.len _)) (RRule.len _)) (zj rfl)),?_⟩
  replace S:St A N w w105 [] []:=S.arr [] []
  obtain rfl:=jN H
  exact ⟨rfl,S⟩
 replace H:=if_f hc104 H
 refine zI ?_
 refine zd ?_
 refine wd (xx rfl rfl (c:=7) rfl jJ jJ) ?_
 refine wd (zp rfl) ?_
 refine ze ?_
 refine ⟨rfl,?_⟩
 refine ut ?_
 refine zg (zd ?_)
 refine wd (xC rfl rfl) ?_
 refine ze ?_
 refine zg ?_
 refine u7 rfl ?_
 refine zI ?_
 refine zg ?_
 refine zY ?_
 refine zg (zd ?_)
 refine wd (xt xG rfl rfl (S.rd 7) jJ jJ) ?_
 refine wd (zi xi rfl ((S.rd 7).at (vy RRule.z (And.intro jJ jJ))) (RRule.len _)) ?_
 refine zZ vg jJ fun b109 w108 hw108=>?_
 replace S:St A N w w108 [oB b109 zl (RRule.C (zx 8)),oB b95 zl (RRule.C (zx 6)),oB b81 zl (RRule.C (zx 5)),oB b67 zl (RRule.C (zx 4)),oB b53 zl (RRule.C (zx 3)),oB b39 zl (RRule.C (zx 2)),oB b25 zl (RRule.C (zx 1)),oB b11 zl (RRule.C (zx 0)),oB b4 zl (RRule.C (zx 8)),oB b2 zb (Term.C (⟨a1.kind,a1.name,a1.other,a1.form,s_1⟩ : Term))] [fS 2 RRule.C s99 zD,fS 2 RRule.C s85 zD,fS 2 RRule.C s71 zD,fS 2 RRule.C s57 zD,fS 2 RRule.C s43 zD,fS 2 RRule.C s29 zD,fS 2 RRule.C s15 zD,fS 2 RRule.C s7 zD,oMa a_0 g_0_1 true,oT g_0_1 a0,za s_1 a1.sub]:=S.new hw108
 refine zy xi rfl rfl (S.blk 0) (RRule.len _) (by rw [RRule.len]; decide) (RRule.one _) (zM (RRule.len _)) fun w110 B hw110 zw110=>?_
 replace S:St A N w w110 [oB b109 zl (RRule.C (zx 7)),oB b95 zl (RRule.C (zx 6)),oB b81 zl (RRule.C (zx 5)),oB b67 zl (RRule.C (zx 4)),oB b53 zl (RRule.C (zx 3)),oB b39 zl (RRule.C (zx 2)),oB b25 zl (RRule.C (zx 1)),oB b11 zl (RRule.C (zx 0)),oB b4 zl (RRule.C (zx 8)),oB b2 zb (Term.C (⟨a1.kind,a1.name,a1.other,a1.form,s_1⟩ : Term))] [fS 2 RRule.C s99 zD,fS 2 RRule.C s85 zD,fS 2 RRule.C s71 zD,fS 2 RRule.C s57 zD,fS 2 RRule.C s43 zD,fS 2 RRule.C s29 zD,fS 2 RRule.C s15 zD,fS 2 RRule.C s7 zD,oMa a_0 g_0_1 true,oT g_0_1 a0,za s_1 a1.sub]:=S.store 0 B hw110
 clear B
 refine ze ?_
 refine zg ?_
 obtain ⟨p111,s113,hp112,S⟩ := S.see_oMa 8
 replace S:St A N w w110 [oB b109 zl (RRule.C (zx 7)),oB b95 zl (RRule.C (zx 6)),oB b81 zl (RRule.C (zx 5)),oB b67 zl (RRule.C (zx 4)),oB b53 zl (RRule.C (zx 3)),oB b39 zl (RRule.C (zx 2)),oB b25 zl (RRule.C (zx 1)),oB b11 zl (RRule.C (zx 0)),oB b4 zl (RRule.C (zx 8)),oB b2 zb (Term.C (⟨a1.kind,a1.name,a1.other,a1.form,s_1⟩ : Term))] [oB p111 xv (Machine.C (⟨g_0_1,s113⟩ : Machine)),fS 2 RRule.C s113 zD,fS 2 RRule.C s99 zD,fS 2 RRule.C s85 zD,fS 2 RRule.C s71 zD,fS 2 RRule.C s57 zD,fS 2 RRule.C s43 zD,fS 2 RRule.C s29 zD,fS 2 RRule.C s15 zD,fS 2 RRule.C s7 zD,oMa a_0 g_0_1 true,oT g_0_1 a0,za s_1 a1.sub]:=S
 refine xV 7 (Ext w110) hmix jM jM (Ext.drawn _) ?_
 refine zL (fun v K=>zh yE rfl (o':=0) rfl) ?_
 refine zL (fun v K=>zt xf rfl (((S.ext K).blk 0).cell (RRule.get_fits _))) ?_
 refine zL (fun v K=>zN rfl) ?_
 refine zL (fun v K=>xj (congrArg Value.pointer hp112)) ?_
 refine zL (fun v K=>zh yB rfl (o':=0) rfl) ?_
 refine zL (fun v K=>zt xq rfl (((S.ext K).blkZ 0).cell (Machine.get_t _))) ?_
 refine zL (fun v K=>zi zq rfl (((S.ext K).blk 9).all _ (Term.len _)) (Term.len _)) ?_
 refine va fun w114 K=>?_
 replace S:=S.ext K
 clear K
 obtain ⟨r115,er115,H⟩ := zB H
 obtain ⟨B117,MB117,SB117,back⟩ := S.calln 0 ((.z 11 rfl (.z 12 rfl .nil)))
 refine zJ (yd ca_reduce_rules_15 rfl) jJ (reduce_rules_15_st (a1:=a1) SB117 er115) ?_
 rintro _ w116 ⟨rfl,S2⟩
 replace S:St A N w w116 [oB b109 zl (RRule.C (zx 7)),oB b95 zl (RRule.C (zx 6)),oB b81 zl (RRule.C (zx 5)),oB b67 zl (RRule.C (zx 4)),oB b53 zl (RRule.C (zx 3)),oB b39 zl (RRule.C (zx 2)),oB b25 zl (RRule.C (zx 1)),oB b11 zl (RRule.C (zx 0)),oB b4 zl (RRule.C (zx 8)),oB b2 zb (Term.C (⟨a1.kind,a1.name,a1.other,a1.form,s_1⟩ : Term))] [oB p111 xv (Machine.C (⟨g_0_1,s113⟩ : Machine)),fS 2 RRule.C s113 zD,fS 2 RRule.C s99 zD,fS 2 RRule.C s85 zD,fS 2 RRule.C s71 zD,fS 2 RRule.C s57 zD,fS 2 RRule.C s43 zD,fS 2 RRule.C s29 zD,fS 2 RRule.C s15 zD,fS 2 RRule.C s7 zD,oMa a_0 g_0_1 true,oT g_0_1 a0,za s_1 a1.sub]:=back _ _ _ _ S2 rfl
 clear back S2 SB117
 replace S:St A N w w116 [oB b109 zl (RRule.C (zx 7)),oB b95 zl (RRule.C (zx 6)),oB b81 zl (RRule.C (zx 5)),oB b67 zl (RRule.C (zx 4)),oB b53 zl (RRule.C (zx 3)),oB b39 zl (RRule.C (zx 2)),oB b25 zl (RRule.C (zx 1)),oB b11 zl (RRule.C (zx 0)),oB b4 zl (RRule.C (zx 8)),oB b2 zb (Term.C (⟨a1.kind,a1.name,a1.other,a1.form,s_1⟩ : Term))] [fS 2 RRule.C s113 zD,fS 2 RRule.C s99 zD,fS 2 RRule.C s85 zD,fS 2 RRule.C s71 zD,fS 2 RRule.C s57 zD,fS 2 RRule.C s43 zD,fS 2 RRule.C s29 zD,fS 2 RRule.C s15 zD,fS 2 RRule.C s7 zD,oMa a_0 g_0_1 true,oT g_0_1 a0,za s_1 a1.sub]:=S.zs [1,2,3,4,5,6,7,8,9,10,11,12]
 refine ze ?_
 refine zU rfl (fun hc118=>?_) (fun hc118=>?_)
 ·replace H:=if_t hc118 H
  refine zg (zd ?_)
  refine wd (zi xi rfl ((S.blk 0).all _ (RRule.len _)) (RRule.len _)) ?_
  refine zy xi rfl rfl (S.blk 8) (RRule.len _) (by rw [RRule.len]; decide) (RRule.one _) (zM (RRule.len _)) fun w119 B hw119 zw119=>?_
  replace S:St A N w w119 [oB b4 zl (RRule.C (zx 7)),oB b109 zl (RRule.C (zx 7)),oB b95 zl (RRule.C (zx 6)),oB b81 zl (RRule.C (zx 5)),oB b67 zl (RRule.C (zx 4)),oB b53 zl (RRule.C (zx 3)),oB b39 zl (RRule.C (zx 2)),oB b25 zl (RRule.C (zx 1)),oB b11 zl (RRule.C (zx 0)),oB b2 zb (Term.C (⟨a1.kind,a1.name,a1.other,a1.form,s_1⟩ : Term))] [fS 2 RRule.C s113 zD,fS 2 RRule.C s99 zD,fS 2 RRule.C s85 zD,fS 2 RRule.C s71 zD,fS 2 RRule.C s57 zD,fS 2 RRule.C s43 zD,fS 2 RRule.C s29 zD,fS 2 RRule.C s15 zD,fS 2 RRule.C s7 zD,oMa a_0 g_0_1 true,oT g_0_1 a0,za s_1 a1.sub]:=S.store 8 B hw119
  clear B
  refine wd (zk rfl) ?_
  refine ze ?_
  refine zC ?_
  refine ⟨_,(xB (zV xi rfl ((S.blk 0).all _ (RRule.len _)) (RRule.len _)) (zj rfl)),?_⟩
  replace S:St A N w w119 [] []:=S.arr [] []
  obtain rfl:=jN H
  exact ⟨rfl,S⟩
 replace H:=if_f hc118 H
 refine zI ?_
 refine zd ?_
 refine wd (xx rfl rfl (c:=8) rfl jJ jJ) ?_
 refine wd (zp rfl) ?_
 refine ze ?_
 refine ⟨rfl,?_⟩
 refine ut ?_
 refine zg (zd ?_)
 refine wd (xC rfl rfl) ?_
 refine ze ?_
 refine zg ?_
 refine wc_false rfl ?_
 refine yu ?_
 refine zg (zd ?_)
 refine wd (vv uf Bld.nil) ?_
 refine zy xi rfl rfl (S.blk 8) (RRule.len _) (by rw [RRule.len]; decide) (RRule.one _) (zM (RRule.len _)) fun w121 B hw121 zw121=>?_
 replace S:St A N w w121 [oB b4 zl (RRule.C (zx 8)),oB b109 zl (RRule.C (zx 7)),oB b95 zl (RRule.C (zx 6)),oB b81 zl (RRule.C (zx 5)),oB b67 zl (RRule.C (zx 4)),oB b53 zl (RRule.C (zx 3)),oB b39 zl (RRule.C (zx 2)),oB b25 zl (RRule.C (zx 1)),oB b11 zl (RRule.C (zx 0)),oB b2 zb (Term.C (⟨a1.kind,a1.name,a1.other,a1.form,s_1⟩ : Term))] [fS 2 RRule.C s113 zD,fS 2 RRule.C s99 zD,fS 2 RRule.C s85 zD,fS 2 RRule.C s71 zD,fS 2 RRule.C s57 zD,fS 2 RRule.C s43 zD,fS 2 RRule.C s29 zD,fS 2 RRule.C s15 zD,fS 2 RRule.C s7 zD,oMa a_0 g_0_1 true,oT g_0_1 a0,za s_1 a1.sub]:=S.store 8 B hw121
 clear B
 refine wd (zk rfl) ?_
 refine ze ?_
 refine zC ?_
 refine ⟨_,(xB (zV xi rfl ((S.blk 0).all _ (RRule.len _)) (RRule.len _)) (zj rfl)),?_⟩
 replace S:St A N w w121 [] []:=S.arr [] []
 obtain rfl:=jN H
 exact ⟨rfl,S⟩
theorem reduce_clone_gst {zas:PTerm→Option PTerm} (zaf : ∀ {A:Nat→Prop} {N:Oth} {w:World} {a0:PTerm} {s_0:SlV} (S:St A N w w [] [za s_0 a0.sub]) {r:PTerm} (H:zas a0=some r),Calls PP vq #[.agg (Term.C (⟨a0.kind,a0.name,a0.other,a0.form,s_0⟩ : Term)).toArray] w fun e w' => ∃ v,e = .returned v∧(∃ so0:SlV,v = .agg (Term.C (⟨r.kind,r.name,r.other,r.form,so0⟩ : Term)).toArray∧St A N w w' [] [za so0 r.sub])) {A:Nat→Prop} {N:Oth} {w:World} {a0:PTerm} {s_0:SlV} (S:St A N w w [] [za s_0 a0.sub]) {r:PTerm} (H:kR.g zas a0=some r) :
  Calls PP vq #[.agg (Term.C (⟨a0.kind,a0.name,a0.other,a0.form,s_0⟩ : Term)).toArray] w fun e w' => ∃ v,e = .returned v∧(∃ so0:SlV,v = .agg (Term.C (⟨r.kind,r.name,r.other,r.form,so0⟩ : Term)).toArray∧St A N w w' [] [za so0 r.sub]):=by
 unfold kR.g at H
 refine zE (n:=26) fn_reduce_clone rfl rfl jL ?_
 refine zg (zd ?_)
 refine zQ rfl jJ fun b2 w1 hw1=>?_
 replace S:St A N w w1 [oB b2 zb (Term.C (⟨a0.kind,a0.name,a0.other,a0.form,s_0⟩ : Term))] [za s_0 a0.sub]:=S.new hw1
 refine zZ xr jJ fun b4 w3 hw3=>?_
 replace S:St A N w w3 [oB b4 zb (Term.C (⟨0,ByteArray.empty,ByteArray.empty,0,SlV.nil⟩ : Term)),oB b2 zb (Term.C (⟨a0.kind,a0.name,a0.other,a0.form,s_0⟩ : Term))] [za s_0 a0.sub]:=S.new hw3
 refine ze ?_
 refine zg (zd ?_)
 refine wd (zh zO rfl (o':=4) rfl) ?_
 refine wd (zt zF rfl ((S.blk 1).cell (Term.get_sub _))) ?_
 obtain ⟨r6,er6,H⟩ := zB H
 obtain ⟨B7,MB7,SB7,back⟩ := S.sub [0] [] [oB b4 zb (Term.C (⟨0,ByteArray.empty,ByteArray.empty,0,SlV.nil⟩ : Term)),oB b2 zb (Term.C (⟨a0.kind,a0.name,a0.other,a0.form,s_0⟩ : Term))]
 refine zJ (zH xY) jJ (x0 SB7 er6) ?_
 rintro _ w5 ⟨s8,m9,rfl,S2⟩
 replace S:St A N w w5 [oS zb 5 Term.C s8 m9,oB b4 zb (Term.C (⟨0,ByteArray.empty,ByteArray.empty,0,SlV.nil⟩ : Term)),oB b2 zb (Term.C (⟨a0.kind,a0.name,a0.other,a0.form,s_0⟩ : Term))] [bigA zK m9 r6,za s_0 a0.sub]:=back _ _ _ _ _ S2 rfl rfl
 clear back S2 SB7
 refine wd (zh zO rfl (o':=4) rfl) ?_
 refine y0 zF rfl rfl (S.blk 2) (by rw [Term.len]; decide) (SlV.one _ _ rfl) (Term.set_sub _ _) fun w10 B hw10 zw10=>?_
 replace S:St A N w w10 [oB b2 zb (Term.C (⟨a0.kind,a0.name,a0.other,a0.form,s8⟩ : Term)),oS zb 5 Term.C s8 m9,oB b4 zb (Term.C (⟨0,ByteArray.empty,ByteArray.empty,0,SlV.nil⟩ : Term))] [bigA zK m9 r6,za s_0 a0.sub]:=S.store 2 B hw10
 clear B
 refine ze ?_
 refine zg (zg (zd ?_))
 refine wd (zh zO rfl (o':=4) rfl) ?_
 refine wd (zt zF rfl ((S.blk 0).cell (Term.get_sub _))) ?_
 refine wd (Does.val (x5 zz rfl (S.rdO 1)) (by rw [(S.lenTm 0)])) ?_
 refine wd (zp rfl) ?_
 refine ze ?_
 replace S:=S.nil zb 5 Term.C
 replace S:St A N w w10 [oS zb 5 Term.C SlV.nil ([]:List Term),oB b2 zb (Term.C (⟨a0.kind,a0.name,a0.other,a0.form,s8⟩ : Term)),oS zb 5 Term.C s8 m9,oB b4 zb (Term.C (⟨0,ByteArray.empty,ByteArray.empty,0,SlV.nil⟩ : Term))] [bigA zK ([]:List Term) ([]:List PTerm),bigA zK m9 r6,za s_0 a0.sub]:=S.bigTm
 have hb11:=(show r6.length ≤ 140737488355328 from (S.lenTm 1) ▸ S.lenO 2)
 obtain ⟨o11,e11,Ho11⟩ := zB H
 clear H
 refine yi [3,11,12,13,14,15,16,17,18,19,20,21,22,23,24] (fun fr W => ∃ s12:SlV,∃ m13:List Term,St A N w W [oS zb 5 Term.C SlV.nil ([]:List Term),oB b2 zb (Term.C (⟨o11.kind,o11.name,o11.other,o11.form,s12⟩ : Term)),oS zb 5 Term.C s12 m13,oB b4 zb (Term.C (⟨0,ByteArray.empty,ByteArray.empty,0,SlV.nil⟩ : Term))] [bigA zK ([]:List Term) ([]:List PTerm),bigA zK m13 o11.sub,za s_0 a0.sub]) ?_ ?_
 ·refine zY ?_
  refine x3 (α:=Nat × Int × PTerm) [3,11,12,13,14,15,16,17,18,19,20,21,22,23,24] (fun x fr W=>(x.1:Int)=(r6.length:Int) - x.2.1∧0 ≤ x.2.1∧forS (fun i s=>kR.b0 zas i s) x.1 x.2.1 x.2.2=some o11 ∧ ∃ s14:SlV,∃ m15:List Term,fr 11 = .int .i64 x.2.1∧St A N w W [oS zb 5 Term.C SlV.nil ([]:List Term),oB b2 zb (Term.C (⟨(x.2.2).kind,(x.2.2).name,(x.2.2).other,(x.2.2).form,s14⟩ : Term)),oS zb 5 Term.C s14 m15,oB b4 zb (Term.C (⟨0,ByteArray.empty,ByteArray.empty,0,SlV.nil⟩ : Term))] [bigA zK ([]:List Term) ([]:List PTerm),bigA zK m15 (x.2.2).sub,za s_0 a0.sub]) (fun x=>x.1) (((r6.length:Int) - 0).toNat,0,(⟨a0.kind,a0.name,a0.other,a0.form,r6⟩ : PTerm)) ⟨(by dsimp only; have hle:=Int.natCast_nonneg (r6.length); omega),(Int.le_refl _),(by dsimp only; exact e11),s8,m9,rfl,S⟩ ?_
  rintro ⟨m11,i11,x11_0⟩ g11 u11 ⟨hm11,hl11,e11,s16,m17,q11_i,S⟩
  try dsimp only at hm11
  try dsimp only at hl11
  try dsimp only at e11
  try dsimp only at S
  try dsimp only at q11_i
  refine zg (zd ?_)
  refine wd (xC q11_i rfl) ?_
  refine ze ?_
  refine zg ?_
  refine zU rfl (fun hc18=>?_) (fun hc18=>?_)
  rotate_left
  ·refine yu ?_
   have hge:(r6.length:Int) ≤ i11:=Int.not_lt.1 (of_decide_eq_false hc18)
   obtain rfl:m11=0:=by omega
   replace e11:=forS_0 e11
   obtain rfl:=e11
   exact ⟨rfl,((Dif.self _ _ _).upd rfl _),s16,m17,S⟩
  refine zI ?_
  have hlt11:i11 < (r6.length:Int):=of_decide_eq_true hc18
  obtain ⟨m11,rfl⟩ : ∃ m,m11=m + 1:=⟨m11 - 1,by omega⟩
  obtain ⟨q11,H,e11⟩ := forS_s e11
  unfold kR.b0 at H
  try dsimp only at H
  refine zg ?_
  refine zY ?_
  refine zg (zd ?_)
  refine wd (zp q11_i) ?_
  refine wd (zn rfl) ?_
  refine ze ?_
  obtain ⟨hi20,H⟩ := xh H
  obtain ⟨r23,er23,H⟩ := zB H
  refine yM 9 ⟨fun _ _=>True,fun _ _ _=>True,fun i v _=>match i with
   | 0=>v=Value.pointer (some ⟨b2,4,none⟩)
   | 1=>v=s16.v
   | 2=>v=Value.int .i64 i11
   | 3=>v=Value.pointer (some ⟨b2,4,none⟩)
   | 4=>v=s16.v
   | 5=>v=Value.int .i64 i11
   | 6=>v=Value.pointer (some ⟨s16.blk,s16.off + Int.toNat i11 * 5,none⟩)
   | _=>True⟩ (fun L g v => ∃ Z27:List OA,(∀ z ∈ [bigA zK ([]:List Term) ([]:List PTerm),bigA zK m17 x11_0.sub,za s_0 a0.sub],z ∈ Z27)∧Made L g Z27 7 21 (fun (c:SlV)=>Value.agg (Term.C (⟨(at_ PTerm.z x11_0.sub i11).kind,(at_ PTerm.z x11_0.sub i11).name,(at_ PTerm.z x11_0.sub i11).other,(at_ PTerm.z x11_0.sub i11).form,c⟩ : Term)).toArray) (fun (c:SlV)=>[za c ((at_ PTerm.z x11_0.sub i11).sub)])∧Made L g Z27 8 22 (fun (c:SlV)=>Value.agg (Term.C (⟨r23.kind,r23.name,r23.other,r23.form,c⟩ : Term)).toArray) (fun (c:SlV)=>[za c r23.sub])∧St A N w v [oS zb 5 Term.C SlV.nil ([]:List Term),oB b2 zb (Term.C (⟨x11_0.kind,x11_0.name,x11_0.other,x11_0.form,s16⟩ : Term)),oS zb 5 Term.C s16 m17,oB b4 zb (Term.C (⟨0,ByteArray.empty,ByteArray.empty,0,SlV.nil⟩ : Term))] Z27) hmix jM (fun _ _ _ _ _ _ _ hv=>hv) (fun g=>⟨_,fun _ h=>h,Made.no,Made.no,S.ext (Ext.drawn _)⟩) ⟨?_,?_,?_,?_,?_,?_,?_,?_,?_,trivial⟩ ?_
  ·rintro L g v hL hcl hclo ⟨Z27,hZ,hm7,hm8,S⟩ 
   refine wd (zh zO rfl (o':=4) rfl) ?_
   exact ze (ob4 trivial rfl ⟨_,hZ,hm7.keep rfl rfl tl0,hm8.keep rfl rfl tl0,S⟩)
  ·rintro L g v hL hcl hclo ⟨Z27,hZ,hm7,hm8,S⟩ hv0
   refine wd (zt zF hv0 ((S.blk 1).cell (Term.get_sub _))) ?_
   exact ze (ob4 trivial rfl ⟨_,hZ,hm7.keep rfl rfl tl0,hm8.keep rfl rfl tl0,S⟩)
  ·rintro L g v hL hcl hclo ⟨Z27,hZ,hm7,hm8,S⟩ 
   refine wd (zp rfl) ?_
   exact ze (ob4 trivial rfl ⟨_,hZ,hm7.keep rfl rfl tl0,hm8.keep rfl rfl tl0,S⟩)
  ·rintro L g v hL hcl hclo ⟨Z27,hZ,hm7,hm8,S⟩ 
   refine wd (zh zO rfl (o':=4) rfl) ?_
   exact ze (ob4 trivial rfl ⟨_,hZ,hm7.keep rfl rfl tl0,hm8.keep rfl rfl tl0,S⟩)
  ·rintro L g v hL hcl hclo ⟨Z27,hZ,hm7,hm8,S⟩ hv3
   refine wd (zt zF hv3 ((S.blk 1).cell (Term.get_sub _))) ?_
   exact ze (ob4 trivial rfl ⟨_,hZ,hm7.keep rfl rfl tl0,hm8.keep rfl rfl tl0,S⟩)
  ·rintro L g v hL hcl hclo ⟨Z27,hZ,hm7,hm8,S⟩ 
   refine wd (zp rfl) ?_
   exact ze (ob4 trivial rfl ⟨_,hZ,hm7.keep rfl rfl tl0,hm8.keep rfl rfl tl0,S⟩)
  ·rintro L g v hL hcl hclo ⟨Z27,hZ,hm7,hm8,S⟩ hv4 hv5
   replace S:=S.zneed hZ
   replace S:St A N w v [oS zb 5 Term.C SlV.nil ([]:List Term),oB b2 zb (Term.C (⟨x11_0.kind,x11_0.name,x11_0.other,x11_0.form,s16⟩ : Term)),oS zb 5 Term.C s16 m17,oB b4 zb (Term.C (⟨0,ByteArray.empty,ByteArray.empty,0,SlV.nil⟩ : Term))] (bigA zK ([]:List Term) ([]:List PTerm) :: bigA zK m17 x11_0.sub :: za s_0 a0.sub :: Z27):=S
   refine wd (xt zz hv4 hv5 (S.rdO 2) (zP hi20).1 (by rw [(S.lenTm 1)]; exact (zP hi20).2)) ?_
   exact ze (ob4 trivial rfl ⟨_,(fun z h=>tl3 z (hZ z h)),hm7.keep rfl rfl tl3,hm8.keep rfl rfl tl3,S⟩)
  ·rintro L g v hL hcl hclo ⟨Z27,hZ,hm7,hm8,S⟩ hv6
   replace S:=S.zneed hZ
   replace S:St A N w v [oS zb 5 Term.C SlV.nil ([]:List Term),oB b2 zb (Term.C (⟨x11_0.kind,x11_0.name,x11_0.other,x11_0.form,s16⟩ : Term)),oS zb 5 Term.C s16 m17,oB b4 zb (Term.C (⟨0,ByteArray.empty,ByteArray.empty,0,SlV.nil⟩ : Term))] (bigA zK ([]:List Term) ([]:List PTerm) :: bigA zK m17 x11_0.sub :: za s_0 a0.sub :: Z27):=S
   obtain ⟨s32,hc33,S⟩ := S.viewH 2 1 (zP hi20)
   replace S:St A N w v [oS zb 5 Term.C SlV.nil ([]:List Term),oB b2 zb (Term.C (⟨x11_0.kind,x11_0.name,x11_0.other,x11_0.form,s16⟩ : Term)),oS zb 5 Term.C s16 m17,oB b4 zb (Term.C (⟨0,ByteArray.empty,ByteArray.empty,0,SlV.nil⟩ : Term))] (za s32 ((at_ PTerm.z x11_0.sub i11).sub) :: bigA zK ([]:List Term) ([]:List PTerm) :: bigA zK m17 x11_0.sub :: za s_0 a0.sub :: Z27):=S
   refine wd (zi zq hv6 hc33 (Term.len _)) ?_
   exact ze (ob4 trivial trivial ⟨_,(fun z h=>tl4 z (hZ z h)),Made.one (val:=(fun (c:SlV)=>Value.agg (Term.C (⟨(at_ PTerm.z x11_0.sub i11).kind,(at_ PTerm.z x11_0.sub i11).name,(at_ PTerm.z x11_0.sub i11).other,(at_ PTerm.z x11_0.sub i11).form,c⟩ : Term)).toArray)) (ps:=(fun (c:SlV)=>[za c ((at_ PTerm.z x11_0.sub i11).sub)])) s32 (xP List.mem_cons_self yf),hm8.keep rfl rfl tl4,S⟩)
  ·rintro L g v hL hcl hclo ⟨Z27,hZ,hm7,hm8,S⟩ _
   obtain ⟨s21,he7,hp7⟩ := hm7 (hcl 7 jM)
   replace S:=S.zneed (xy (l1:=[za s21 ((at_ PTerm.z x11_0.sub i11).sub)]) hp7 hZ)
   replace S:St A N w v [oS zb 5 Term.C SlV.nil ([]:List Term),oB b2 zb (Term.C (⟨x11_0.kind,x11_0.name,x11_0.other,x11_0.form,s16⟩ : Term)),oS zb 5 Term.C s16 m17,oB b4 zb (Term.C (⟨0,ByteArray.empty,ByteArray.empty,0,SlV.nil⟩ : Term))] (za s21 ((at_ PTerm.z x11_0.sub i11).sub) :: bigA zK ([]:List Term) ([]:List PTerm) :: bigA zK m17 x11_0.sub :: za s_0 a0.sub :: Z27):=S
   obtain ⟨B36,MB36,SB36,back⟩ := S.sub [0] [] [oS zb 5 Term.C SlV.nil ([]:List Term),oB b2 zb (Term.C (⟨x11_0.kind,x11_0.name,x11_0.other,x11_0.form,s16⟩ : Term)),oS zb 5 Term.C s16 m17,oB b4 zb (Term.C (⟨0,ByteArray.empty,ByteArray.empty,0,SlV.nil⟩ : Term))]
   refine zJ (zS vP (zX he7 rfl)) jJ (zaf (a0:=(at_ PTerm.z x11_0.sub i11)) SB36 er23) ?_
   rintro _ w35 ⟨s37,rfl,S2⟩
   replace S:St A N w w35 [oS zb 5 Term.C SlV.nil ([]:List Term),oB b2 zb (Term.C (⟨x11_0.kind,x11_0.name,x11_0.other,x11_0.form,s16⟩ : Term)),oS zb 5 Term.C s16 m17,oB b4 zb (Term.C (⟨0,ByteArray.empty,ByteArray.empty,0,SlV.nil⟩ : Term))] (za s37 r23.sub :: za s21 ((at_ PTerm.z x11_0.sub i11).sub) :: bigA zK ([]:List Term) ([]:List PTerm) :: bigA zK m17 x11_0.sub :: za s_0 a0.sub :: Z27):=back _ _ _ _ _ S2 rfl rfl
   clear back S2 SB36
   exact ze (ob4 trivial trivial ⟨_,(fun z h=>tl5 z (hZ z h)),hm7.keep rfl rfl tl5,Made.one (val:=(fun (c:SlV)=>Value.agg (Term.C (⟨r23.kind,r23.name,r23.other,r23.form,c⟩ : Term)).toArray)) (ps:=(fun (c:SlV)=>[za c r23.sub])) s37 (xP List.mem_cons_self yf),S⟩)
  rintro L g w38 hLm ⟨Z27,hZ,hm7,hm8,S⟩ hv39_0 hv39_1 hv39_2 hv39_3 hv39_4 hv39_5 hv39_6 _ _
  have hLt : ∀ j,j < 9→L j=true:=fun j hj=>by rw [hLm]; exact decide_eq_true hj
  obtain ⟨s21,hv39_7,hp7⟩ := hm7 (hLt 7 jJ)
  obtain ⟨s26,hv39_8,hp8⟩ := hm8 (hLt 8 jJ)
  replace S:St A N w w38 [oS zb 5 Term.C SlV.nil ([]:List Term),oB b2 zb (Term.C (⟨x11_0.kind,x11_0.name,x11_0.other,x11_0.form,s16⟩ : Term)),oS zb 5 Term.C s16 m17,oB b4 zb (Term.C (⟨0,ByteArray.empty,ByteArray.empty,0,SlV.nil⟩ : Term))] [za s21 ((at_ PTerm.z x11_0.sub i11).sub),za s26 r23.sub,bigA zK ([]:List Term) ([]:List PTerm),bigA zK m17 x11_0.sub,za s_0 a0.sub]:=S.pickZ (xy (l1:=[za s21 ((at_ PTerm.z x11_0.sub i11).sub)]) hp7 (xy (l1:=[za s26 r23.sub]) hp8 hZ))
  clear hp7 hp8 hZ hm7 hm8
  obtain ⟨hi40,H⟩ := xh H
  refine wd (xt zz hv39_1 hv39_2 (S.rdO 2) (zP hi40).1 (by rw [(S.lenTm 3)]; exact (zP hi40).2)) ?_
  have hlw41:=S.lenO 2
  have hqw41:=(S.lenTm 3)
  refine jc (C:=Term.C) (a:=(⟨r23.kind,r23.name,r23.other,r23.form,s26⟩ : Term)) zq rfl hv39_8 (S.sl 2) ⟨(zP hi40).1,by rw [hqw41]; exact (zP hi40).2⟩ (Term.len _) (Term.one _) fun w41 O hw41=>?_
  replace S:St A N w w41 [oS zb 5 Term.C s16 (m17.set (Int.toNat i11) (⟨r23.kind,r23.name,r23.other,r23.form,s26⟩ : Term)),oS zb 5 Term.C SlV.nil ([]:List Term),oB b2 zb (Term.C (⟨x11_0.kind,x11_0.name,x11_0.other,x11_0.form,s16⟩ : Term)),oB b4 zb (Term.C (⟨0,ByteArray.empty,ByteArray.empty,0,SlV.nil⟩ : Term))] [za s21 ((at_ PTerm.z x11_0.sub i11).sub),za s26 r23.sub,bigA zK ([]:List Term) ([]:List PTerm),bigA zK m17 x11_0.sub,za s_0 a0.sub]:=S.push 2 O (by rw [List.length_set]; exact hlw41) hw41 (fun i hi => .inl hi)
  clear O hlw41 hqw41
  replace S:St A N w w41 [oS zb 5 Term.C s16 (m17.set (Int.toNat i11) (⟨r23.kind,r23.name,r23.other,r23.form,s26⟩ : Term)),oS zb 5 Term.C SlV.nil ([]:List Term),oB b2 zb (Term.C (⟨x11_0.kind,x11_0.name,x11_0.other,x11_0.form,s16⟩ : Term)),oB b4 zb (Term.C (⟨0,ByteArray.empty,ByteArray.empty,0,SlV.nil⟩ : Term))] [bigA zK (m17.set (Int.toNat i11) (⟨r23.kind,r23.name,r23.other,r23.form,s26⟩ : Term)) (x11_0.sub.set (Int.toNat i11) r23),za s21 ((at_ PTerm.z x11_0.sub i11).sub),za s26 r23.sub,bigA zK ([]:List Term) ([]:List PTerm),bigA zK m17 x11_0.sub,za s_0 a0.sub]:=S.setTm (x:=r23) 3 1 (Int.toNat i11)
  refine ze ?_
  refine zd ?_
  refine wd (xx q11_i rfl (c:=i11 + 1) rfl jK jK) ?_
  refine wd (zp rfl) ?_
  refine ze ?_
  replace S:St A N w w41 [oS zb 5 Term.C SlV.nil ([]:List Term),oB b2 zb (Term.C (⟨x11_0.kind,x11_0.name,x11_0.other,x11_0.form,s16⟩ : Term)),oS zb 5 Term.C s16 (m17.set (Int.toNat i11) (⟨r23.kind,r23.name,r23.other,r23.form,s26⟩ : Term)),oB b4 zb (Term.C (⟨0,ByteArray.empty,ByteArray.empty,0,SlV.nil⟩ : Term))] [bigA zK ([]:List Term) ([]:List PTerm),bigA zK (m17.set (Int.toNat i11) (⟨r23.kind,r23.name,r23.other,r23.form,s26⟩ : Term)) (x11_0.sub.set (Int.toNat i11) r23),za s_0 a0.sub]:=S.arr [1,2,0,3] [3,0,5]
  obtain rfl:=jN H
  exact ⟨rfl,((((((((Dif.self _ _ _).upd rfl _).upd rfl _).upd rfl _).mask rfl _).upd rfl _).upd rfl _).upd rfl _),(m11,i11 + 1,(⟨x11_0.kind,x11_0.name,x11_0.other,x11_0.form,x11_0.sub.set (Int.toNat i11) r23⟩ : PTerm)),⟨(by dsimp only; omega),(by dsimp only; omega),e11,s16,m17.set (Int.toNat i11) (⟨r23.kind,r23.name,r23.other,r23.form,s26⟩ : Term),rfl,S⟩,by dsimp only; omega⟩
 rintro g42 u43 ⟨s12,m13,S⟩
 have H:=Ho11
 refine zg (zd ?_)
 replace S:St A N w u43 [oS zb 5 Term.C SlV.nil ([]:List Term),oB b2 zb (Term.C (⟨o11.kind,o11.name,o11.other,o11.form,s12⟩ : Term)),oB b4 zb (Term.C (⟨0,ByteArray.empty,ByteArray.empty,0,SlV.nil⟩ : Term))] [za s12 o11.sub,bigA zK ([]:List Term) ([]:List PTerm),bigA zK m13 o11.sub,za s_0 a0.sub]:=S.frzTm 2 1
 refine wd (zi zq rfl ((S.blk 1).all _ (Term.len _)) (Term.len _)) ?_
 refine zy zq rfl rfl (S.blk 2) (Term.len _) (by rw [Term.len]; decide) (Term.one _) (zM (Term.len _)) fun w44 B hw44 zw44=>?_
 replace S:St A N w w44 [oB b4 zb (Term.C (⟨o11.kind,o11.name,o11.other,o11.form,s12⟩ : Term)),oS zb 5 Term.C SlV.nil ([]:List Term),oB b2 zb (Term.C (⟨o11.kind,o11.name,o11.other,o11.form,s12⟩ : Term))] [za s12 o11.sub,bigA zK ([]:List Term) ([]:List PTerm),bigA zK m13 o11.sub,za s_0 a0.sub]:=S.store 2 B hw44
 clear B
 refine ze ?_
 refine zC ?_
 refine ⟨_,(z1 (zV zq rfl ((S.blk 0).all _ (Term.len _)) (Term.len _))),?_⟩
 replace S:St A N w w44 [] [za s12 o11.sub]:=S.arr [] [0]
 obtain rfl:=jN H
 exact ⟨s12,rfl,S⟩
theorem uU {a0:PTerm} {s_0:SlV} (S:St A N w w [] [za s_0 a0.sub]) {k:Nat} {r:PTerm} (H:kR.f k a0=some r) :
  Calls PP vq #[.agg (Term.C (⟨a0.kind,a0.name,a0.other,a0.form,s_0⟩ : Term)).toArray] w fun e w' => ∃ v,e = .returned v∧(∃ so0:SlV,v = .agg (Term.C (⟨r.kind,r.name,r.other,r.form,so0⟩ : Term)).toArray∧St A N w w' [] [za so0 r.sub]):=by
 have main : ∀ (k:Nat) {A:Nat→Prop} {N:Oth} {w:World} {a0:PTerm} {s_0:SlV} (S:St A N w w [] [za s_0 a0.sub]) {r:PTerm} (H:kR.f k a0=some r),Calls PP vq #[.agg (Term.C (⟨a0.kind,a0.name,a0.other,a0.form,s_0⟩ : Term)).toArray] w fun e w' => ∃ v,e = .returned v∧(∃ so0:SlV,v = .agg (Term.C (⟨r.kind,r.name,r.other,r.form,so0⟩ : Term)).toArray∧St A N w w' [] [za so0 r.sub]):=by
  intro k
  induction k with
  | zero=>intro A N w a0 s_0 S r H; cases H
  | succ k ih=>intro A N w a0 s_0 S r H; exact reduce_clone_gst ih S H
 exact main k S H
theorem reduce_strip_gst {zax:PTerm→Option PTerm} (zak : ∀ {A:Nat→Prop} {N:Oth} {w:World} {a0:PTerm} {s_0:SlV} (S:St A N w w [] [za s_0 a0.sub]) {r:PTerm} (H:zax a0=some r),Calls PP vr #[.agg (Term.C (⟨a0.kind,a0.name,a0.other,a0.form,s_0⟩ : Term)).toArray] w fun e w' => ∃ v,e = .returned v∧(∃ so0:SlV,v = .agg (Term.C (⟨r.kind,r.name,r.other,r.form,so0⟩ : Term)).toArray∧St A N w w' [] [za so0 r.sub])) {A:Nat→Prop} {N:Oth} {w:World} {a0:PTerm} {s_0:SlV} (S:St A N w w [] [za s_0 a0.sub]) {r:PTerm} (H:kS.g zax a0=some r) :
  Calls PP vr #[.agg (Term.C (⟨a0.kind,a0.name,a0.other,a0.form,s_0⟩ : Term)).toArray] w fun e w' => ∃ v,e = .returned v∧(∃ so0:SlV,v = .agg (Term.C (⟨r.kind,r.name,r.other,r.form,so0⟩ : Term)).toArray∧St A N w w' [] [za so0 r.sub]):=by
 unfold kS.g at H
 refine zE (n:=34) fn_reduce_strip rfl rfl jL ?_
 refine zg (zd ?_)
 refine zQ rfl jJ fun b2 w1 hw1=>?_
 replace S:St A N w w1 [oB b2 zb (Term.C (⟨a0.kind,a0.name,a0.other,a0.form,s_0⟩ : Term))] [za s_0 a0.sub]:=S.new hw1
 refine zZ xr jJ fun b4 w3 hw3=>?_
 replace S:St A N w w3 [oB b4 zb (Term.C (⟨0,ByteArray.empty,ByteArray.empty,0,SlV.nil⟩ : Term)),oB b2 zb (Term.C (⟨a0.kind,a0.name,a0.other,a0.form,s_0⟩ : Term))] [za s_0 a0.sub]:=S.new hw3
 refine ze ?_
 refine zg (zg (zd ?_))
 refine wd (zh xl rfl (o':=0) rfl) ?_
 refine wd (zt xd rfl ((S.blk 1).cell (Term.get_kind _))) ?_
 refine wd (xb rfl rfl) ?_
 refine ze ?_
 refine zU rfl (fun hc5=>?_) (fun hc5=>?_)
 ·replace H:=if_t hc5 H
  refine zg (zd ?_)
  refine wd (zh zO rfl (o':=4) rfl) ?_
  refine wd (zt zF rfl ((S.blk 1).cell (Term.get_sub _))) ?_
  obtain ⟨hi6,H⟩ := xh H
  refine wd (does_indexF zz rfl rfl (S.onZ 0) (zP hi6).1 (zP hi6).2) ?_
  obtain ⟨s7,hc8,S⟩ := S.viewTerm 0 (zP hi6)
  replace S:St A N w w3 [oB b4 zb (Term.C (⟨0,ByteArray.empty,ByteArray.empty,0,SlV.nil⟩ : Term)),oB b2 zb (Term.C (⟨a0.kind,a0.name,a0.other,a0.form,s_0⟩ : Term))] [za s7 ((at_ PTerm.z a0.sub 0).sub),za s_0 a0.sub]:=S
  refine wd (zi zq rfl hc8 (Term.len _)) ?_
  obtain ⟨r9,er9,H⟩ := zB H
  obtain ⟨B11,MB11,SB11,back⟩ := S.sub [0] [] [oB b4 zb (Term.C (⟨0,ByteArray.empty,ByteArray.empty,0,SlV.nil⟩ : Term)),oB b2 zb (Term.C (⟨a0.kind,a0.name,a0.other,a0.form,s_0⟩ : Term))]
  refine zJ (zH uS) jJ (zak (a0:=(at_ PTerm.z a0.sub 0)) SB11 er9) ?_
  rintro _ w10 ⟨s12,rfl,S2⟩
  replace S:St A N w w10 [oB b4 zb (Term.C (⟨0,ByteArray.empty,ByteArray.empty,0,SlV.nil⟩ : Term)),oB b2 zb (Term.C (⟨a0.kind,a0.name,a0.other,a0.form,s_0⟩ : Term))] [za s12 r9.sub,za s7 ((at_ PTerm.z a0.sub 0).sub),za s_0 a0.sub]:=back _ _ _ _ _ S2 rfl rfl
  clear back S2 SB11
  refine zy zq rfl rfl (S.blk 0) (Term.len _) (by rw [Term.len]; decide) (Term.one _) (zM (Term.len _)) fun w13 B hw13 zw13=>?_
  replace S:St A N w w13 [oB b4 zb (Term.C (⟨r9.kind,r9.name,r9.other,r9.form,s12⟩ : Term)),oB b2 zb (Term.C (⟨a0.kind,a0.name,a0.other,a0.form,s_0⟩ : Term))] [za s12 r9.sub,za s7 ((at_ PTerm.z a0.sub 0).sub),za s_0 a0.sub]:=S.store 0 B hw13
  clear B
  refine ze ?_
  refine zC ?_
  refine ⟨_,(z1 (zV zq rfl ((S.blk 0).all _ (Term.len _)) (Term.len _))),?_⟩
  replace S:St A N w w13 [] [za s12 r9.sub]:=S.arr [] [0]
  obtain rfl:=jN H
  exact ⟨s12,rfl,S⟩
 replace H:=if_f hc5 H
 refine zI ?_
 refine zg (zd ?_)
 refine wd (zh zO rfl (o':=4) rfl) ?_
 refine wd (zt zF rfl ((S.blk 1).cell (Term.get_sub _))) ?_
 obtain ⟨r15,er15,H⟩ := zB H
 obtain ⟨B16,MB16,SB16,back⟩ := S.sub [0] [] [oB b4 zb (Term.C (⟨0,ByteArray.empty,ByteArray.empty,0,SlV.nil⟩ : Term)),oB b2 zb (Term.C (⟨a0.kind,a0.name,a0.other,a0.form,s_0⟩ : Term))]
 refine zJ (zH xY) jJ (x0 SB16 er15) ?_
 rintro _ w14 ⟨s17,m18,rfl,S2⟩
 replace S:St A N w w14 [oS zb 5 Term.C s17 m18,oB b4 zb (Term.C (⟨0,ByteArray.empty,ByteArray.empty,0,SlV.nil⟩ : Term)),oB b2 zb (Term.C (⟨a0.kind,a0.name,a0.other,a0.form,s_0⟩ : Term))] [bigA zK m18 r15,za s_0 a0.sub]:=back _ _ _ _ _ S2 rfl rfl
 clear back S2 SB16
 refine wd (zh zO rfl (o':=4) rfl) ?_
 refine y0 zF rfl rfl (S.blk 2) (by rw [Term.len]; decide) (SlV.one _ _ rfl) (Term.set_sub _ _) fun w19 B hw19 zw19=>?_
 replace S:St A N w w19 [oB b2 zb (Term.C (⟨a0.kind,a0.name,a0.other,a0.form,s17⟩ : Term)),oS zb 5 Term.C s17 m18,oB b4 zb (Term.C (⟨0,ByteArray.empty,ByteArray.empty,0,SlV.nil⟩ : Term))] [bigA zK m18 r15,za s_0 a0.sub]:=S.store 2 B hw19
 clear B
 refine ze ?_
 refine zg (zg (zd ?_))
 refine wd (zh zO rfl (o':=4) rfl) ?_
 refine wd (zt zF rfl ((S.blk 0).cell (Term.get_sub _))) ?_
 refine wd (Does.val (x5 zz rfl (S.rdO 1)) (by rw [(S.lenTm 0)])) ?_
 refine wd (zp rfl) ?_
 refine ze ?_
 replace S:=S.nil zb 5 Term.C
 replace S:St A N w w19 [oS zb 5 Term.C SlV.nil ([]:List Term),oB b2 zb (Term.C (⟨a0.kind,a0.name,a0.other,a0.form,s17⟩ : Term)),oS zb 5 Term.C s17 m18,oB b4 zb (Term.C (⟨0,ByteArray.empty,ByteArray.empty,0,SlV.nil⟩ : Term))] [bigA zK ([]:List Term) ([]:List PTerm),bigA zK m18 r15,za s_0 a0.sub]:=S.bigTm
 have hb20:=(show r15.length ≤ 140737488355328 from (S.lenTm 1) ▸ S.lenO 2)
 obtain ⟨o20,e20,Ho20⟩ := zB H
 clear H
 refine yi [3,19,20,21,22,23,24,25,26,27,28,29,30,31,32] (fun fr W => ∃ s21:SlV,∃ m22:List Term,St A N w W [oS zb 5 Term.C SlV.nil ([]:List Term),oB b2 zb (Term.C (⟨o20.kind,o20.name,o20.other,o20.form,s21⟩ : Term)),oS zb 5 Term.C s21 m22,oB b4 zb (Term.C (⟨0,ByteArray.empty,ByteArray.empty,0,SlV.nil⟩ : Term))] [bigA zK ([]:List Term) ([]:List PTerm),bigA zK m22 o20.sub,za s_0 a0.sub]) ?_ ?_
 ·refine zY ?_
  refine x3 (α:=Nat × Int × PTerm) [3,19,20,21,22,23,24,25,26,27,28,29,30,31,32] (fun x fr W=>(x.1:Int)=(r15.length:Int) - x.2.1∧0 ≤ x.2.1∧forS (fun i s=>kS.b0 zax i s) x.1 x.2.1 x.2.2=some o20 ∧ ∃ s23:SlV,∃ m24:List Term,fr 19 = .int .i64 x.2.1∧St A N w W [oS zb 5 Term.C SlV.nil ([]:List Term),oB b2 zb (Term.C (⟨(x.2.2).kind,(x.2.2).name,(x.2.2).other,(x.2.2).form,s23⟩ : Term)),oS zb 5 Term.C s23 m24,oB b4 zb (Term.C (⟨0,ByteArray.empty,ByteArray.empty,0,SlV.nil⟩ : Term))] [bigA zK ([]:List Term) ([]:List PTerm),bigA zK m24 (x.2.2).sub,za s_0 a0.sub]) (fun x=>x.1) (((r15.length:Int) - 0).toNat,0,(⟨a0.kind,a0.name,a0.other,a0.form,r15⟩ : PTerm)) ⟨(by dsimp only; have hle:=Int.natCast_nonneg (r15.length); omega),(Int.le_refl _),(by dsimp only; exact e20),s17,m18,rfl,S⟩ ?_
  rintro ⟨m20,i20,x20_0⟩ g20 u20 ⟨hm20,hl20,e20,s25,m26,q20_i,S⟩
  try dsimp only at hm20
  try dsimp only at hl20
  try dsimp only at e20
  try dsimp only at S
  try dsimp only at q20_i
  refine zg (zd ?_)
  refine wd (xC q20_i rfl) ?_
  refine ze ?_
  refine zg ?_
  refine zU rfl (fun hc27=>?_) (fun hc27=>?_)
  rotate_left
  ·refine yu ?_
   have hge:(r15.length:Int) ≤ i20:=Int.not_lt.1 (of_decide_eq_false hc27)
   obtain rfl:m20=0:=by omega
   replace e20:=forS_0 e20
   obtain rfl:=e20
   exact ⟨rfl,((Dif.self _ _ _).upd rfl _),s25,m26,S⟩
  refine zI ?_
  have hlt20:i20 < (r15.length:Int):=of_decide_eq_true hc27
  obtain ⟨m20,rfl⟩ : ∃ m,m20=m + 1:=⟨m20 - 1,by omega⟩
  obtain ⟨q20,H,e20⟩ := forS_s e20
  unfold kS.b0 at H
  try dsimp only at H
  refine zg ?_
  refine zY ?_
  refine zg (zd ?_)
  refine wd (zp q20_i) ?_
  refine wd (zn rfl) ?_
  refine ze ?_
  obtain ⟨hi29,H⟩ := xh H
  obtain ⟨r32,er32,H⟩ := zB H
  refine yM 9 ⟨fun _ _=>True,fun _ _ _=>True,fun i v _=>match i with
   | 0=>v=Value.pointer (some ⟨b2,4,none⟩)
   | 1=>v=s25.v
   | 2=>v=Value.int .i64 i20
   | 3=>v=Value.pointer (some ⟨b2,4,none⟩)
   | 4=>v=s25.v
   | 5=>v=Value.int .i64 i20
   | 6=>v=Value.pointer (some ⟨s25.blk,s25.off + Int.toNat i20 * 5,none⟩)
   | _=>True⟩ (fun L g v => ∃ Z36:List OA,(∀ z ∈ [bigA zK ([]:List Term) ([]:List PTerm),bigA zK m26 x20_0.sub,za s_0 a0.sub],z ∈ Z36)∧Made L g Z36 7 29 (fun (c:SlV)=>Value.agg (Term.C (⟨(at_ PTerm.z x20_0.sub i20).kind,(at_ PTerm.z x20_0.sub i20).name,(at_ PTerm.z x20_0.sub i20).other,(at_ PTerm.z x20_0.sub i20).form,c⟩ : Term)).toArray) (fun (c:SlV)=>[za c ((at_ PTerm.z x20_0.sub i20).sub)])∧Made L g Z36 8 30 (fun (c:SlV)=>Value.agg (Term.C (⟨r32.kind,r32.name,r32.other,r32.form,c⟩ : Term)).toArray) (fun (c:SlV)=>[za c r32.sub])∧St A N w v [oS zb 5 Term.C SlV.nil ([]:List Term),oB b2 zb (Term.C (⟨x20_0.kind,x20_0.name,x20_0.other,x20_0.form,s25⟩ : Term)),oS zb 5 Term.C s25 m26,oB b4 zb (Term.C (⟨0,ByteArray.empty,ByteArray.empty,0,SlV.nil⟩ : Term))] Z36) hmix jM (fun _ _ _ _ _ _ _ hv=>hv) (fun g=>⟨_,fun _ h=>h,Made.no,Made.no,S.ext (Ext.drawn _)⟩) ⟨?_,?_,?_,?_,?_,?_,?_,?_,?_,trivial⟩ ?_
  ·rintro L g v hL hcl hclo ⟨Z36,hZ,hm7,hm8,S⟩ 
   refine wd (zh zO rfl (o':=4) rfl) ?_
   exact ze (ob4 trivial rfl ⟨_,hZ,hm7.keep rfl rfl tl0,hm8.keep rfl rfl tl0,S⟩)
  ·rintro L g v hL hcl hclo ⟨Z36,hZ,hm7,hm8,S⟩ hv0
   refine wd (zt zF hv0 ((S.blk 1).cell (Term.get_sub _))) ?_
   exact ze (ob4 trivial rfl ⟨_,hZ,hm7.keep rfl rfl tl0,hm8.keep rfl rfl tl0,S⟩)
  ·rintro L g v hL hcl hclo ⟨Z36,hZ,hm7,hm8,S⟩ 
   refine wd (zp rfl) ?_
   exact ze (ob4 trivial rfl ⟨_,hZ,hm7.keep rfl rfl tl0,hm8.keep rfl rfl tl0,S⟩)
  ·rintro L g v hL hcl hclo ⟨Z36,hZ,hm7,hm8,S⟩ 
   refine wd (zh zO rfl (o':=4) rfl) ?_
   exact ze (ob4 trivial rfl ⟨_,hZ,hm7.keep rfl rfl tl0,hm8.keep rfl rfl tl0,S⟩)
  ·rintro L g v hL hcl hclo ⟨Z36,hZ,hm7,hm8,S⟩ hv3
   refine wd (zt zF hv3 ((S.blk 1).cell (Term.get_sub _))) ?_
   exact ze (ob4 trivial rfl ⟨_,hZ,hm7.keep rfl rfl tl0,hm8.keep rfl rfl tl0,S⟩)
  ·rintro L g v hL hcl hclo ⟨Z36,hZ,hm7,hm8,S⟩ 
   refine wd (zp rfl) ?_
   exact ze (ob4 trivial rfl ⟨_,hZ,hm7.keep rfl rfl tl0,hm8.keep rfl rfl tl0,S⟩)
  ·rintro L g v hL hcl hclo ⟨Z36,hZ,hm7,hm8,S⟩ hv4 hv5
   replace S:=S.zneed hZ
   replace S:St A N w v [oS zb 5 Term.C SlV.nil ([]:List Term),oB b2 zb (Term.C (⟨x20_0.kind,x20_0.name,x20_0.other,x20_0.form,s25⟩ : Term)),oS zb 5 Term.C s25 m26,oB b4 zb (Term.C (⟨0,ByteArray.empty,ByteArray.empty,0,SlV.nil⟩ : Term))] (bigA zK ([]:List Term) ([]:List PTerm) :: bigA zK m26 x20_0.sub :: za s_0 a0.sub :: Z36):=S
   refine wd (xt zz hv4 hv5 (S.rdO 2) (zP hi29).1 (by rw [(S.lenTm 1)]; exact (zP hi29).2)) ?_
   exact ze (ob4 trivial rfl ⟨_,(fun z h=>tl3 z (hZ z h)),hm7.keep rfl rfl tl3,hm8.keep rfl rfl tl3,S⟩)
  ·rintro L g v hL hcl hclo ⟨Z36,hZ,hm7,hm8,S⟩ hv6
   replace S:=S.zneed hZ
   replace S:St A N w v [oS zb 5 Term.C SlV.nil ([]:List Term),oB b2 zb (Term.C (⟨x20_0.kind,x20_0.name,x20_0.other,x20_0.form,s25⟩ : Term)),oS zb 5 Term.C s25 m26,oB b4 zb (Term.C (⟨0,ByteArray.empty,ByteArray.empty,0,SlV.nil⟩ : Term))] (bigA zK ([]:List Term) ([]:List PTerm) :: bigA zK m26 x20_0.sub :: za s_0 a0.sub :: Z36):=S
   obtain ⟨s41,hc42,S⟩ := S.viewH 2 1 (zP hi29)
   replace S:St A N w v [oS zb 5 Term.C SlV.nil ([]:List Term),oB b2 zb (Term.C (⟨x20_0.kind,x20_0.name,x20_0.other,x20_0.form,s25⟩ : Term)),oS zb 5 Term.C s25 m26,oB b4 zb (Term.C (⟨0,ByteArray.empty,ByteArray.empty,0,SlV.nil⟩ : Term))] (za s41 ((at_ PTerm.z x20_0.sub i20).sub) :: bigA zK ([]:List Term) ([]:List PTerm) :: bigA zK m26 x20_0.sub :: za s_0 a0.sub :: Z36):=S
   refine wd (zi zq hv6 hc42 (Term.len _)) ?_
   exact ze (ob4 trivial trivial ⟨_,(fun z h=>tl4 z (hZ z h)),Made.one (val:=(fun (c:SlV)=>Value.agg (Term.C (⟨(at_ PTerm.z x20_0.sub i20).kind,(at_ PTerm.z x20_0.sub i20).name,(at_ PTerm.z x20_0.sub i20).other,(at_ PTerm.z x20_0.sub i20).form,c⟩ : Term)).toArray)) (ps:=(fun (c:SlV)=>[za c ((at_ PTerm.z x20_0.sub i20).sub)])) s41 (xP List.mem_cons_self yf),hm8.keep rfl rfl tl4,S⟩)
  ·rintro L g v hL hcl hclo ⟨Z36,hZ,hm7,hm8,S⟩ _
   obtain ⟨s30,he7,hp7⟩ := hm7 (hcl 7 jM)
   replace S:=S.zneed (xy (l1:=[za s30 ((at_ PTerm.z x20_0.sub i20).sub)]) hp7 hZ)
   replace S:St A N w v [oS zb 5 Term.C SlV.nil ([]:List Term),oB b2 zb (Term.C (⟨x20_0.kind,x20_0.name,x20_0.other,x20_0.form,s25⟩ : Term)),oS zb 5 Term.C s25 m26,oB b4 zb (Term.C (⟨0,ByteArray.empty,ByteArray.empty,0,SlV.nil⟩ : Term))] (za s30 ((at_ PTerm.z x20_0.sub i20).sub) :: bigA zK ([]:List Term) ([]:List PTerm) :: bigA zK m26 x20_0.sub :: za s_0 a0.sub :: Z36):=S
   obtain ⟨B45,MB45,SB45,back⟩ := S.sub [0] [] [oS zb 5 Term.C SlV.nil ([]:List Term),oB b2 zb (Term.C (⟨x20_0.kind,x20_0.name,x20_0.other,x20_0.form,s25⟩ : Term)),oS zb 5 Term.C s25 m26,oB b4 zb (Term.C (⟨0,ByteArray.empty,ByteArray.empty,0,SlV.nil⟩ : Term))]
   refine zJ (zS uS (zX he7 rfl)) jJ (zak (a0:=(at_ PTerm.z x20_0.sub i20)) SB45 er32) ?_
   rintro _ w44 ⟨s46,rfl,S2⟩
   replace S:St A N w w44 [oS zb 5 Term.C SlV.nil ([]:List Term),oB b2 zb (Term.C (⟨x20_0.kind,x20_0.name,x20_0.other,x20_0.form,s25⟩ : Term)),oS zb 5 Term.C s25 m26,oB b4 zb (Term.C (⟨0,ByteArray.empty,ByteArray.empty,0,SlV.nil⟩ : Term))] (za s46 r32.sub :: za s30 ((at_ PTerm.z x20_0.sub i20).sub) :: bigA zK ([]:List Term) ([]:List PTerm) :: bigA zK m26 x20_0.sub :: za s_0 a0.sub :: Z36):=back _ _ _ _ _ S2 rfl rfl
   clear back S2 SB45
   exact ze (ob4 trivial trivial ⟨_,(fun z h=>tl5 z (hZ z h)),hm7.keep rfl rfl tl5,Made.one (val:=(fun (c:SlV)=>Value.agg (Term.C (⟨r32.kind,r32.name,r32.other,r32.form,c⟩ : Term)).toArray)) (ps:=(fun (c:SlV)=>[za c r32.sub])) s46 (xP List.mem_cons_self yf),S⟩)
  rintro L g w47 hLm ⟨Z36,hZ,hm7,hm8,S⟩ hv48_0 hv48_1 hv48_2 hv48_3 hv48_4 hv48_5 hv48_6 _ _
  have hLt : ∀ j,j < 9→L j=true:=fun j hj=>by rw [hLm]; exact decide_eq_true hj
  obtain ⟨s30,hv48_7,hp7⟩ := hm7 (hLt 7 jJ)
  obtain ⟨s35,hv48_8,hp8⟩ := hm8 (hLt 8 jJ)
  replace S:St A N w w47 [oS zb 5 Term.C SlV.nil ([]:List Term),oB b2 zb (Term.C (⟨x20_0.kind,x20_0.name,x20_0.other,x20_0.form,s25⟩ : Term)),oS zb 5 Term.C s25 m26,oB b4 zb (Term.C (⟨0,ByteArray.empty,ByteArray.empty,0,SlV.nil⟩ : Term))] [za s30 ((at_ PTerm.z x20_0.sub i20).sub),za s35 r32.sub,bigA zK ([]:List Term) ([]:List PTerm),bigA zK m26 x20_0.sub,za s_0 a0.sub]:=S.pickZ (xy (l1:=[za s30 ((at_ PTerm.z x20_0.sub i20).sub)]) hp7 (xy (l1:=[za s35 r32.sub]) hp8 hZ))
  clear hp7 hp8 hZ hm7 hm8
  obtain ⟨hi49,H⟩ := xh H
  refine wd (xt zz hv48_1 hv48_2 (S.rdO 2) (zP hi49).1 (by rw [(S.lenTm 3)]; exact (zP hi49).2)) ?_
  have hlw50:=S.lenO 2
  have hqw50:=(S.lenTm 3)
  refine jc (C:=Term.C) (a:=(⟨r32.kind,r32.name,r32.other,r32.form,s35⟩ : Term)) zq rfl hv48_8 (S.sl 2) ⟨(zP hi49).1,by rw [hqw50]; exact (zP hi49).2⟩ (Term.len _) (Term.one _) fun w50 O hw50=>?_
  replace S:St A N w w50 [oS zb 5 Term.C s25 (m26.set (Int.toNat i20) (⟨r32.kind,r32.name,r32.other,r32.form,s35⟩ : Term)),oS zb 5 Term.C SlV.nil ([]:List Term),oB b2 zb (Term.C (⟨x20_0.kind,x20_0.name,x20_0.other,x20_0.form,s25⟩ : Term)),oB b4 zb (Term.C (⟨0,ByteArray.empty,ByteArray.empty,0,SlV.nil⟩ : Term))] [za s30 ((at_ PTerm.z x20_0.sub i20).sub),za s35 r32.sub,bigA zK ([]:List Term) ([]:List PTerm),bigA zK m26 x20_0.sub,za s_0 a0.sub]:=S.push 2 O (by rw [List.length_set]; exact hlw50) hw50 (fun i hi => .inl hi)
  clear O hlw50 hqw50
  replace S:St A N w w50 [oS zb 5 Term.C s25 (m26.set (Int.toNat i20) (⟨r32.kind,r32.name,r32.other,r32.form,s35⟩ : Term)),oS zb 5 Term.C SlV.nil ([]:List Term),oB b2 zb (Term.C (⟨x20_0.kind,x20_0.name,x20_0.other,x20_0.form,s25⟩ : Term)),oB b4 zb (Term.C (⟨0,ByteArray.empty,ByteArray.empty,0,SlV.nil⟩ : Term))] [bigA zK (m26.set (Int.toNat i20) (⟨r32.kind,r32.name,r32.other,r32.form,s35⟩ : Term)) (x20_0.sub.set (Int.toNat i20) r32),za s30 ((at_ PTerm.z x20_0.sub i20).sub),za s35 r32.sub,bigA zK ([]:List Term) ([]:List PTerm),bigA zK m26 x20_0.sub,za s_0 a0.sub]:=S.setTm (x:=r32) 3 1 (Int.toNat i20)
  refine ze ?_
  refine zd ?_
  refine wd (xx q20_i rfl (c:=i20 + 1) rfl jK jK) ?_
  refine wd (zp rfl) ?_
  refine ze ?_
  replace S:St A N w w50 [oS zb 5 Term.C SlV.nil ([]:List Term),oB b2 zb (Term.C (⟨x20_0.kind,x20_0.name,x20_0.other,x20_0.form,s25⟩ : Term)),oS zb 5 Term.C s25 (m26.set (Int.toNat i20) (⟨r32.kind,r32.name,r32.other,r32.form,s35⟩ : Term)),oB b4 zb (Term.C (⟨0,ByteArray.empty,ByteArray.empty,0,SlV.nil⟩ : Term))] [bigA zK ([]:List Term) ([]:List PTerm),bigA zK (m26.set (Int.toNat i20) (⟨r32.kind,r32.name,r32.other,r32.form,s35⟩ : Term)) (x20_0.sub.set (Int.toNat i20) r32),za s_0 a0.sub]:=S.arr [1,2,0,3] [3,0,5]
  obtain rfl:=jN H
  exact ⟨rfl,((((((((Dif.self _ _ _).upd rfl _).upd rfl _).upd rfl _).mask rfl _).upd rfl _).upd rfl _).upd rfl _),(m20,i20 + 1,(⟨x20_0.kind,x20_0.name,x20_0.other,x20_0.form,x20_0.sub.set (Int.toNat i20) r32⟩ : PTerm)),⟨(by dsimp only; omega),(by dsimp only; omega),e20,s25,m26.set (Int.toNat i20) (⟨r32.kind,r32.name,r32.other,r32.form,s35⟩ : Term),rfl,S⟩,by dsimp only; omega⟩
 rintro g51 u52 ⟨s21,m22,S⟩
 have H:=Ho20
 refine zg (zd ?_)
 replace S:St A N w u52 [oS zb 5 Term.C SlV.nil ([]:List Term),oB b2 zb (Term.C (⟨o20.kind,o20.name,o20.other,o20.form,s21⟩ : Term)),oB b4 zb (Term.C (⟨0,ByteArray.empty,ByteArray.empty,0,SlV.nil⟩ : Term))] [za s21 o20.sub,bigA zK ([]:List Term) ([]:List PTerm),bigA zK m22 o20.sub,za s_0 a0.sub]:=S.frzTm 2 1
 refine wd (zi zq rfl ((S.blk 1).all _ (Term.len _)) (Term.len _)) ?_
 refine zy zq rfl rfl (S.blk 2) (Term.len _) (by rw [Term.len]; decide) (Term.one _) (zM (Term.len _)) fun w53 B hw53 zw53=>?_
 replace S:St A N w w53 [oB b4 zb (Term.C (⟨o20.kind,o20.name,o20.other,o20.form,s21⟩ : Term)),oS zb 5 Term.C SlV.nil ([]:List Term),oB b2 zb (Term.C (⟨o20.kind,o20.name,o20.other,o20.form,s21⟩ : Term))] [za s21 o20.sub,bigA zK ([]:List Term) ([]:List PTerm),bigA zK m22 o20.sub,za s_0 a0.sub]:=S.store 2 B hw53
 clear B
 refine ze ?_
 refine zC ?_
 refine ⟨_,(z1 (zV zq rfl ((S.blk 0).all _ (Term.len _)) (Term.len _))),?_⟩
 replace S:St A N w w53 [] [za s21 o20.sub]:=S.arr [] [0]
 obtain rfl:=jN H
 exact ⟨s21,rfl,S⟩
theorem reduce_strip_st {a0:PTerm} {s_0:SlV} (S:St A N w w [] [za s_0 a0.sub]) {k:Nat} {r:PTerm} (H:kS.f k a0=some r) :
  Calls PP vr #[.agg (Term.C (⟨a0.kind,a0.name,a0.other,a0.form,s_0⟩ : Term)).toArray] w fun e w' => ∃ v,e = .returned v∧(∃ so0:SlV,v = .agg (Term.C (⟨r.kind,r.name,r.other,r.form,so0⟩ : Term)).toArray∧St A N w w' [] [za so0 r.sub]):=by
 have main : ∀ (k:Nat) {A:Nat→Prop} {N:Oth} {w:World} {a0:PTerm} {s_0:SlV} (S:St A N w w [] [za s_0 a0.sub]) {r:PTerm} (H:kS.f k a0=some r),Calls PP vr #[.agg (Term.C (⟨a0.kind,a0.name,a0.other,a0.form,s_0⟩ : Term)).toArray] w fun e w' => ∃ v,e = .returned v∧(∃ so0:SlV,v = .agg (Term.C (⟨r.kind,r.name,r.other,r.form,so0⟩ : Term)).toArray∧St A N w w' [] [za so0 r.sub]):=by
  intro k
  induction k with
  | zero=>intro A N w a0 s_0 S r H; cases H
  | succ k ih=>intro A N w a0 s_0 S r H; exact reduce_strip_gst ih S H
 exact main k S H
theorem reduce_Strip_st {a0:PTerm} {s_0:SlV} (S:St A N w w [] [za s_0 a0.sub]) {k:Nat} {r:PTerm × Int} (H:kT.f k a0=some r) :
  Calls PP F_reduce_Strip #[.agg (Term.C (⟨a0.kind,a0.name,a0.other,a0.form,s_0⟩ : Term)).toArray] w fun e w' => ∃ v,e = .returned v∧(∃ so0:SlV,v = .tuple #[.agg (Term.C (⟨r.1.kind,r.1.name,r.1.other,r.1.form,so0⟩ : Term)).toArray,.int .i64 r.2]∧St A N w w' [] [za so0 r.1.sub]):=by
 unfold kT.f at H
 refine zE (n:=13) fn_reduce_Strip rfl rfl jL ?_
 refine zg (zd ?_)
 refine zQ rfl jJ fun b2 w1 hw1=>?_
 replace S:St A N w w1 [oB b2 zb (Term.C (⟨a0.kind,a0.name,a0.other,a0.form,s_0⟩ : Term))] [za s_0 a0.sub]:=S.new hw1
 refine zZ xr jJ fun b4 w3 hw3=>?_
 replace S:St A N w w3 [oB b4 zb (Term.C (⟨0,ByteArray.empty,ByteArray.empty,0,SlV.nil⟩ : Term)),oB b2 zb (Term.C (⟨a0.kind,a0.name,a0.other,a0.form,s_0⟩ : Term))] [za s_0 a0.sub]:=S.new hw3
 refine wd (zn rfl) ?_
 refine ze ?_
 refine zg (zg (zd ?_))
 refine wd (zi zq rfl ((S.blk 1).all _ (Term.len _)) (Term.len _)) ?_
 obtain ⟨r5,er5,H⟩ := zB H
 obtain ⟨B7,MB7,SB7,back⟩ := S.calln 0 ((.z 0 rfl .nil))
 refine zJ (zH vM) jJ (vO (a0:=a0) SB7 er5) ?_
 rintro _ w6 ⟨rfl,S2⟩
 replace S:St A N w w6 [oB b4 zb (Term.C (⟨0,ByteArray.empty,ByteArray.empty,0,SlV.nil⟩ : Term)),oB b2 zb (Term.C (⟨a0.kind,a0.name,a0.other,a0.form,s_0⟩ : Term))] [za s_0 a0.sub]:=back _ _ _ _ S2 rfl
 clear back S2 SB7
 refine wd (zn rfl) ?_
 refine ze ?_
 refine zg (zd ?_)
 refine wd (zp rfl) ?_
 refine wd (xN rfl rfl) ?_
 refine ze ?_
 refine zU rfl (fun hc8=>?_) (fun hc8=>?_)
 ·replace H:=if_t hc8 H
  refine zg (zd ?_)
  refine wd (Does.to (v' := .agg (Term.C (⟨0,ByteArray.empty,ByteArray.empty,0,SlV.nil⟩ : Term)).toArray) (xg (vs:=[]) xW rfl Bld.nil) rfl) ?_
  refine wd (zp rfl) ?_
  refine zy zq rfl rfl (S.blk 0) (Term.len _) (by rw [Term.len]; decide) (Term.one _) (zM (Term.len _)) fun w9 B hw9 zw9=>?_
  replace S:St A N w w9 [oB b4 zb (Term.C (⟨0,ByteArray.empty,ByteArray.empty,0,SlV.nil⟩ : Term)),oB b2 zb (Term.C (⟨a0.kind,a0.name,a0.other,a0.form,s_0⟩ : Term))] [za s_0 a0.sub]:=S.store 0 B hw9
  clear B
  refine wd (zn rfl) ?_
  refine ze ?_
  refine zC ?_
  replace S:St A N w w9 [oB b4 zb (Term.C (⟨0,ByteArray.empty,ByteArray.empty,0,SlV.nil⟩ : Term)),oB b2 zb (Term.C (⟨a0.kind,a0.name,a0.other,a0.form,s_0⟩ : Term))] [za SlV.nil ([]),za s_0 a0.sub]:=S.nilTm
  refine ⟨_,(xB (zV zq rfl ((S.blk 0).all _ (Term.len _)) (Term.len _)) (zj rfl)),?_⟩
  replace S:St A N w w9 [] [za SlV.nil ([])]:=S.arr [] [0]
  obtain rfl:=jN H
  exact ⟨SlV.nil,rfl,S⟩
 replace H:=if_f hc8 H
 refine zI ?_
 refine zg (zd ?_)
 refine wd (zi zq rfl ((S.blk 1).all _ (Term.len _)) (Term.len _)) ?_
 obtain ⟨r10,er10,H⟩ := zB H
 obtain ⟨B12,MB12,SB12,back⟩ := S.sub [0] [] [oB b4 zb (Term.C (⟨0,ByteArray.empty,ByteArray.empty,0,SlV.nil⟩ : Term)),oB b2 zb (Term.C (⟨a0.kind,a0.name,a0.other,a0.form,s_0⟩ : Term))]
 refine zJ (zH uS) jJ (reduce_strip_st (a0:=a0) SB12 er10) ?_
 rintro _ w11 ⟨s13,rfl,S2⟩
 replace S:St A N w w11 [oB b4 zb (Term.C (⟨0,ByteArray.empty,ByteArray.empty,0,SlV.nil⟩ : Term)),oB b2 zb (Term.C (⟨a0.kind,a0.name,a0.other,a0.form,s_0⟩ : Term))] [za s13 r10.sub,za s_0 a0.sub]:=back _ _ _ _ _ S2 rfl rfl
 clear back S2 SB12
 refine zy zq rfl rfl (S.blk 0) (Term.len _) (by rw [Term.len]; decide) (Term.one _) (zM (Term.len _)) fun w14 B hw14 zw14=>?_
 replace S:St A N w w14 [oB b4 zb (Term.C (⟨r10.kind,r10.name,r10.other,r10.form,s13⟩ : Term)),oB b2 zb (Term.C (⟨a0.kind,a0.name,a0.other,a0.form,s_0⟩ : Term))] [za s13 r10.sub,za s_0 a0.sub]:=S.store 0 B hw14
 clear B
 refine wd (zn rfl) ?_
 refine ze ?_
 refine zC ?_
 refine ⟨_,(xB (zV zq rfl ((S.blk 0).all _ (Term.len _)) (Term.len _)) (zj rfl)),?_⟩
 replace S:St A N w w14 [] [za s13 r10.sub]:=S.arr [] [0]
 obtain rfl:=jN H
 exact ⟨s13,rfl,S⟩
theorem reduce_machine_do_gst {zau:Tb→PTerm→List Int→Option (PTerm × Int)} (zah : ∀ {A:Nat→Prop} {N:Oth} {w:World} {a0:Tb} {a_0:Option Addr} {g_0_1:Option Addr} {a1:PTerm} {s_1:SlV} {a2:List Int} {s_2:SlV} (S:St A N w w [] [oMa a_0 g_0_1 true,oT g_0_1 a0,za s_1 a1.sub,fS 1 IC s_2 a2,oPw]) {r:PTerm × Int} (H:zau a0 a1 a2=some r),Calls PP yy #[.pointer a_0,.agg (Term.C (⟨a1.kind,a1.name,a1.other,a1.form,s_1⟩ : Term)).toArray,s_2.v] w fun e w' => ∃ v,e = .returned v∧(∃ so0:SlV,v = .tuple #[.agg (Term.C (⟨r.1.kind,r.1.name,r.1.other,r.1.form,so0⟩ : Term)).toArray,.int .i64 r.2]∧St A N w w' [] [za so0 r.1.sub])) {A:Nat→Prop} {N:Oth} {w:World} {a0:Tb} {a_0:Option Addr} {g_0_1:Option Addr} {a1:PTerm} {s_1:SlV} {a2:List Int} {s_2:SlV} (S:St A N w w [] [oMa a_0 g_0_1 true,oT g_0_1 a0,za s_1 a1.sub,fS 1 IC s_2 a2,oPw]) {k:Nat} {r:PTerm × Int} (H:kU.g zau k a0 a1 a2=some r) :
  Calls PP yy #[.pointer a_0,.agg (Term.C (⟨a1.kind,a1.name,a1.other,a1.form,s_1⟩ : Term)).toArray,s_2.v] w fun e w' => ∃ v,e = .returned v∧(∃ so0:SlV,v = .tuple #[.agg (Term.C (⟨r.1.kind,r.1.name,r.1.other,r.1.form,so0⟩ : Term)).toArray,.int .i64 r.2]∧St A N w w' [] [za so0 r.1.sub]):=by
 unfold kU.g at H
 refine zE (n:=74) fn_reduce_machine_do rfl rfl jL ?_
 refine zg (zd ?_)
 refine zQ rfl jJ fun b2 w1 hw1=>?_
 replace S:St A N w w1 [oB b2 zb (Term.C (⟨a1.kind,a1.name,a1.other,a1.form,s_1⟩ : Term))] [oMa a_0 g_0_1 true,oT g_0_1 a0,za s_1 a1.sub,fS 1 IC s_2 a2,oPw]:=S.new hw1
 refine zZ xr jJ fun b4 w3 hw3=>?_
 replace S:St A N w w3 [oB b4 zb (Term.C (⟨0,ByteArray.empty,ByteArray.empty,0,SlV.nil⟩ : Term)),oB b2 zb (Term.C (⟨a1.kind,a1.name,a1.other,a1.form,s_1⟩ : Term))] [oMa a_0 g_0_1 true,oT g_0_1 a0,za s_1 a1.sub,fS 1 IC s_2 a2,oPw]:=S.new hw3
 refine wd (zn rfl) ?_
 refine ze ?_
 refine zg (zg (zd ?_))
 refine wd (xa rfl) ?_
 refine wd (x5 xM rfl (S.rd 3)) ?_
 refine wd (xb rfl rfl) ?_
 refine ze ?_
 refine zU rfl (fun hc5=>?_) (fun hc5=>?_)
 ·replace H:=if_t hc5 H
  refine zg (zd ?_)
  refine wd (zN rfl) ?_
  refine wd (zi zq rfl ((S.blk 1).all _ (Term.len _)) (Term.len _)) ?_
  obtain ⟨r6,er6,H⟩ := zB H
  obtain ⟨B8,MB8,SB8,back⟩ := S.calln 0 ((.z 0 rfl (.z 1 rfl (.z 2 rfl .nil))))
  refine zJ (zH vb) jJ (vd (a1:=a1) SB8 er6) ?_
  rintro _ w7 ⟨rfl,S2⟩
  replace S:St A N w w7 [oB b4 zb (Term.C (⟨0,ByteArray.empty,ByteArray.empty,0,SlV.nil⟩ : Term)),oB b2 zb (Term.C (⟨a1.kind,a1.name,a1.other,a1.form,s_1⟩ : Term))] [oMa a_0 g_0_1 true,oT g_0_1 a0,za s_1 a1.sub,fS 1 IC s_2 a2,oPw]:=back _ _ _ _ S2 rfl
  clear back S2 SB8
  refine wd (xn rfl) ?_
  refine wd (zA rfl rfl) ?_
  refine wd (zA rfl rfl) ?_
  refine zZ vg jJ fun b10 w9 hw9=>?_
  replace S:St A N w w9 [oB b10 zl (RRule.C (zx 8)),oB b4 zb (Term.C (⟨0,ByteArray.empty,ByteArray.empty,0,SlV.nil⟩ : Term)),oB b2 zb (Term.C (⟨a1.kind,a1.name,a1.other,a1.form,s_1⟩ : Term))] [oMa a_0 g_0_1 true,oT g_0_1 a0,za s_1 a1.sub,fS 1 IC s_2 a2,oPw]:=S.new hw9
  refine zy xi rfl rfl (S.blk 0) (RRule.len _) (by rw [RRule.len]; decide) (RRule.one _) (zM (RRule.len _)) fun w11 B hw11 zw11=>?_
  replace S:St A N w w11 [oB b10 zl (RRule.C (zx r6.1)),oB b4 zb (Term.C (⟨0,ByteArray.empty,ByteArray.empty,0,SlV.nil⟩ : Term)),oB b2 zb (Term.C (⟨a1.kind,a1.name,a1.other,a1.form,s_1⟩ : Term))] [oMa a_0 g_0_1 true,oT g_0_1 a0,za s_1 a1.sub,fS 1 IC s_2 a2,oPw]:=S.store 0 B hw11
  clear B
  refine wd (zk rfl) ?_
  refine ze ?_
  refine zg (zg (zd ?_))
  refine wd (zG rfl) ?_
  refine wd (xp rfl) ?_
  refine ze ?_
  refine zU rfl (fun hc12=>?_) (fun hc12=>?_)
  ·replace H:=if_t hc12 H
   refine zg (zd ?_)
   refine wd (Does.to (v' := .agg (Term.C (⟨0,ByteArray.empty,ByteArray.empty,0,SlV.nil⟩ : Term)).toArray) (xg (vs:=[]) xW rfl Bld.nil) rfl) ?_
   refine zy zq rfl rfl (S.blk 1) (Term.len _) (by rw [Term.len]; decide) (Term.one _) (zM (Term.len _)) fun w13 B hw13 zw13=>?_
   replace S:St A N w w13 [oB b4 zb (Term.C (⟨0,ByteArray.empty,ByteArray.empty,0,SlV.nil⟩ : Term)),oB b10 zl (RRule.C (zx r6.1)),oB b2 zb (Term.C (⟨a1.kind,a1.name,a1.other,a1.form,s_1⟩ : Term))] [oMa a_0 g_0_1 true,oT g_0_1 a0,za s_1 a1.sub,fS 1 IC s_2 a2,oPw]:=S.store 1 B hw13
   clear B
   refine wd (zn rfl) ?_
   refine ze ?_
   refine zC ?_
   replace S:St A N w w13 [oB b4 zb (Term.C (⟨0,ByteArray.empty,ByteArray.empty,0,SlV.nil⟩ : Term)),oB b10 zl (RRule.C (zx r6.1)),oB b2 zb (Term.C (⟨a1.kind,a1.name,a1.other,a1.form,s_1⟩ : Term))] [za SlV.nil ([]),oMa a_0 g_0_1 true,oT g_0_1 a0,za s_1 a1.sub,fS 1 IC s_2 a2,oPw]:=S.nilTm
   refine ⟨_,(xB (zV zq rfl ((S.blk 0).all _ (Term.len _)) (Term.len _)) (zj rfl)),?_⟩
   replace S:St A N w w13 [] [za SlV.nil ([])]:=S.arr [] [0]
   obtain rfl:=jN H
   exact ⟨SlV.nil,rfl,S⟩
  replace H:=if_f hc12 H
  refine zI ?_
  refine zg ?_
  obtain ⟨p14,s16,hp15,S⟩ := S.see_oMa 0
  replace S:St A N w w11 [oB b10 zl (RRule.C (zx r6.1)),oB b4 zb (Term.C (⟨0,ByteArray.empty,ByteArray.empty,0,SlV.nil⟩ : Term)),oB b2 zb (Term.C (⟨a1.kind,a1.name,a1.other,a1.form,s_1⟩ : Term))] [oB p14 xv (Machine.C (⟨g_0_1,s16⟩ : Machine)),fS 2 RRule.C s16 zD,oMa a_0 g_0_1 true,oT g_0_1 a0,za s_1 a1.sub,fS 1 IC s_2 a2,oPw]:=S
  refine wc_ws hmix fun w18 K=>?_
  replace S:=S.ext K
  clear K
  refine vS 0 7 [] jM jJ jM
   (V:=fun i v u=>match i with
   | _=>True) ?_ ?_
  ·intro i v u u' hi hx hv
   match i,hv with
   | _,_=>exact trivial
  refine xc (fun v K=>zh fl_RRule_does rfl (o':=1) rfl) rfl ?_
  refine xc (fun v K=>zt yJ rfl (((S.ext K).blk 0).cell (RRule.get_does _))) rfl ?_
  refine xc (fun v K=>zN rfl) rfl ?_
  refine xc (fun v K=>xj (congrArg Value.pointer hp15)) rfl ?_
  refine xc (fun v K=>zh yB rfl (o':=0) rfl) rfl ?_
  refine xc (fun v K=>zt xq rfl (((S.ext K).blkZ 0).cell (Machine.get_t _))) rfl ?_
  refine xc (fun v K=>zi zq rfl (((S.ext K).blk 2).all _ (Term.len _)) (Term.len _)) rfl ?_
  refine uY fun g w19 K hV=>?_
  replace S:=S.ext K
  clear K hV
  refine jI 7 8 jM jJ ?_
  obtain ⟨r21,er21,H⟩ := zB H
  obtain ⟨B23,MB23,SB23,back⟩ := S.sub [3,4,6] [] [oB b10 zl (RRule.C (zx r6.1)),oB b4 zb (Term.C (⟨0,ByteArray.empty,ByteArray.empty,0,SlV.nil⟩ : Term)),oB b2 zb (Term.C (⟨a1.kind,a1.name,a1.other,a1.form,s_1⟩ : Term))]
  refine zJ (does_callvg (ca_rule_does r6.1) ((rfl:_=(zx r6.1).does.v).trans (rule_does_v er21)) (zX rfl (zX rfl rfl))) jJ (rule_does_st (a1:=a1) SB23 er21) ?_
  rintro _ w22 ⟨s24,rfl,S2⟩
  replace S:St A N w w22 [oB b10 zl (RRule.C (zx r6.1)),oB b4 zb (Term.C (⟨0,ByteArray.empty,ByteArray.empty,0,SlV.nil⟩ : Term)),oB b2 zb (Term.C (⟨a1.kind,a1.name,a1.other,a1.form,s_1⟩ : Term))] [za s24 r21.1.sub,oB p14 xv (Machine.C (⟨g_0_1,s16⟩ : Machine)),fS 2 RRule.C s16 zD,oMa a_0 g_0_1 true,oT g_0_1 a0,za s_1 a1.sub,fS 1 IC s_2 a2,oPw]:=back _ _ _ _ _ S2 rfl rfl
  clear back S2 SB23
  refine ze ⟨rfl,?_⟩
  refine vS 8 10 [] jM jJ jM
   (V:=fun i v u=>match i with
   | _=>True) ?_ ?_
  ·intro i v u u' hi hx hv
   match i,hv with
   | _,_=>exact trivial
  refine xc (fun v K=>zA rfl rfl) rfl ?_
  refine xc (fun v K=>zA rfl rfl) rfl ?_
  refine uY fun g w25 K hV=>?_
  replace S:=S.ext K
  clear K hV
  refine ws_tail 10 jM jJ ?_
  refine zy zq rfl rfl (S.blk 1) (Term.len _) (by rw [Term.len]; decide) (Term.one _) (zM (Term.len _)) fun w27 B hw27 zw27=>?_
  replace S:St A N w w27 [oB b4 zb (Term.C (⟨r21.1.kind,r21.1.name,r21.1.other,r21.1.form,s24⟩ : Term)),oB b10 zl (RRule.C (zx r6.1)),oB b2 zb (Term.C (⟨a1.kind,a1.name,a1.other,a1.form,s_1⟩ : Term))] [za s24 r21.1.sub,oB p14 xv (Machine.C (⟨g_0_1,s16⟩ : Machine)),fS 2 RRule.C s16 zD,oMa a_0 g_0_1 true,oT g_0_1 a0,za s_1 a1.sub,fS 1 IC s_2 a2,oPw]:=S.store 1 B hw27
  clear B
  refine wd (zn rfl) ?_
  replace S:St A N w w27 [oB b4 zb (Term.C (⟨r21.1.kind,r21.1.name,r21.1.other,r21.1.form,s24⟩ : Term)),oB b10 zl (RRule.C (zx r6.1)),oB b2 zb (Term.C (⟨a1.kind,a1.name,a1.other,a1.form,s_1⟩ : Term))] [za s24 r21.1.sub,fS 2 RRule.C s16 zD,oMa a_0 g_0_1 true,oT g_0_1 a0,za s_1 a1.sub,fS 1 IC s_2 a2,oPw]:=S.zs [0,2,3,4,5,6,7]
  refine ze ?_
  refine zC ?_
  refine ⟨_,(xB (zV zq rfl ((S.blk 0).all _ (Term.len _)) (Term.len _)) (zj rfl)),?_⟩
  replace S:St A N w w27 [] [za s24 r21.1.sub]:=S.arr [] [0]
  obtain rfl:=jN H
  exact ⟨s24,rfl,S⟩
 replace H:=if_f hc5 H
 refine zI ?_
 refine zg (zd ?_)
 refine wd (xa rfl) ?_
 obtain ⟨hi28,H⟩ := xh H
 refine wd (xt xM rfl rfl (S.rd 3) (zP hi28).1 (zP hi28).2) ?_
 refine wd (zt xZ rfl ((S.rd 3).one (vy (0:Int) (zP hi28)) rfl)) ?_
 refine wd (zn rfl) ?_
 refine ze ?_
 refine zg (zg (zd ?_))
 refine wd (zp rfl) ?_
 refine wd (xC rfl rfl) ?_
 refine wd (zG rfl) ?_
 refine zu (j:=2) (pol:=false) rfl rfl rfl jJ (fun hg=>zp rfl) jJ ?_
 refine zu (j:=2) (pol:=false) rfl rfl rfl jJ (fun hg=>zh zO rfl (o':=4) rfl) jJ ?_
 refine zu (j:=2) (pol:=false) rfl rfl rfl jJ (fun hg=>zt zF (zw hg) ((S.blk 1).cell (Term.get_sub _))) jJ ?_
 refine zu (j:=2) (pol:=false) rfl rfl rfl jJ (fun hg=>does_lenF zz (zw hg) (S.onZ 2)) jJ ?_
 refine zu (j:=2) (pol:=false) rfl rfl rfl jJ (fun hg=>jn (zw hg) (zw hg)) jJ ?_
 refine wd (xF rfl (fun hp=>(zw (xu hp)))) ?_
 refine ze ?_
 refine zU rfl (fun hc29=>?_) (fun hc29=>?_)
 ·replace H:=if_t hc29 H
  refine zg (zd ?_)
  refine wd (Does.to (v' := .agg (Term.C (⟨0,ByteArray.empty,ByteArray.empty,0,SlV.nil⟩ : Term)).toArray) (xg (vs:=[]) xW rfl Bld.nil) rfl) ?_
  refine zy zq rfl rfl (S.blk 0) (Term.len _) (by rw [Term.len]; decide) (Term.one _) (zM (Term.len _)) fun w30 B hw30 zw30=>?_
  replace S:St A N w w30 [oB b4 zb (Term.C (⟨0,ByteArray.empty,ByteArray.empty,0,SlV.nil⟩ : Term)),oB b2 zb (Term.C (⟨a1.kind,a1.name,a1.other,a1.form,s_1⟩ : Term))] [oMa a_0 g_0_1 true,oT g_0_1 a0,za s_1 a1.sub,fS 1 IC s_2 a2,oPw]:=S.store 0 B hw30
  clear B
  refine wd (zn rfl) ?_
  refine ze ?_
  refine zC ?_
  replace S:St A N w w30 [oB b4 zb (Term.C (⟨0,ByteArray.empty,ByteArray.empty,0,SlV.nil⟩ : Term)),oB b2 zb (Term.C (⟨a1.kind,a1.name,a1.other,a1.form,s_1⟩ : Term))] [za SlV.nil ([]),oMa a_0 g_0_1 true,oT g_0_1 a0,za s_1 a1.sub,fS 1 IC s_2 a2,oPw]:=S.nilTm
  refine ⟨_,(xB (zV zq rfl ((S.blk 0).all _ (Term.len _)) (Term.len _)) (zj rfl)),?_⟩
  replace S:St A N w w30 [] [za SlV.nil ([])]:=S.arr [] [0]
  obtain rfl:=jN H
  exact ⟨SlV.nil,rfl,S⟩
 replace H:=if_f hc29 H
 refine zI ?_
 refine zg ?_
 obtain ⟨hi35,H⟩ := xh H
 obtain ⟨hs37,H⟩ := xh H
 obtain ⟨r38,er38,H⟩ := zB H
 obtain ⟨s36,S⟩ := S.viewTermC 2 (zP hi35)
 replace S:St A N w w3 [oB b4 zb (Term.C (⟨0,ByteArray.empty,ByteArray.empty,0,SlV.nil⟩ : Term)),oB b2 zb (Term.C (⟨a1.kind,a1.name,a1.other,a1.form,s_1⟩ : Term))] [oCl s_1.blk (s_1.off + Int.toNat (at_ (0:Int) a2 0) * 5) (Term.C (⟨(at_ PTerm.z a1.sub (at_ (0:Int) a2 0)).kind,(at_ PTerm.z a1.sub (at_ (0:Int) a2 0)).name,(at_ PTerm.z a1.sub (at_ (0:Int) a2 0)).other,(at_ PTerm.z a1.sub (at_ (0:Int) a2 0)).form,s36⟩ : Term)),za s36 ((at_ PTerm.z a1.sub (at_ (0:Int) a2 0)).sub),oMa a_0 g_0_1 true,oT g_0_1 a0,za s_1 a1.sub,fS 1 IC s_2 a2,oPw]:=S
 replace S:St A N w w3 [oB b4 zb (Term.C (⟨0,ByteArray.empty,ByteArray.empty,0,SlV.nil⟩ : Term)),oB b2 zb (Term.C (⟨a1.kind,a1.name,a1.other,a1.form,s_1⟩ : Term))] [oMa a_0 g_0_1 true,oT g_0_1 a0,za s_1 a1.sub,fS 1 IC s_2 a2,oPw,oCl s_1.blk (s_1.off + Int.toNat (at_ (0:Int) a2 0) * 5) (Term.C (⟨(at_ PTerm.z a1.sub (at_ (0:Int) a2 0)).kind,(at_ PTerm.z a1.sub (at_ (0:Int) a2 0)).name,(at_ PTerm.z a1.sub (at_ (0:Int) a2 0)).other,(at_ PTerm.z a1.sub (at_ (0:Int) a2 0)).form,s36⟩ : Term)),za s36 ((at_ PTerm.z a1.sub (at_ (0:Int) a2 0)).sub)]:=S.zs [2,3,4,5,6,0,1]
 refine yM 14 ⟨fun _ _=>True,fun _ _ _=>True,fun i v _=>match i with
  | 0=>v=Value.pointer a_0
  | 1=>v=Value.pointer (some ⟨b2,4,none⟩)
  | 2=>v=s_1.v
  | 3=>v=Value.int .i64 (at_ (0:Int) a2 0)
  | 4=>v=Value.pointer (some ⟨s_1.blk,s_1.off + Int.toNat (at_ (0:Int) a2 0) * 5,none⟩)
  | 5=>v=Value.agg (Term.C (⟨(at_ PTerm.z a1.sub (at_ (0:Int) a2 0)).kind,(at_ PTerm.z a1.sub (at_ (0:Int) a2 0)).name,(at_ PTerm.z a1.sub (at_ (0:Int) a2 0)).other,(at_ PTerm.z a1.sub (at_ (0:Int) a2 0)).form,s36⟩ : Term)).toArray
  | 6=>v=s_2.v
  | 11=>v=Value.int .i64 r38.2
  | _=>True⟩ (fun L g v => ∃ b43:Nat,∃ s45:SlV,∃ O47:List OA,∃ Z46:List OA,(∀ z ∈ [oMa a_0 g_0_1 true,oT g_0_1 a0,za s_1 a1.sub,fS 1 IC s_2 a2,oPw,oCl s_1.blk (s_1.off + Int.toNat (at_ (0:Int) a2 0) * 5) (Term.C (⟨(at_ PTerm.z a1.sub (at_ (0:Int) a2 0)).kind,(at_ PTerm.z a1.sub (at_ (0:Int) a2 0)).name,(at_ PTerm.z a1.sub (at_ (0:Int) a2 0)).other,(at_ PTerm.z a1.sub (at_ (0:Int) a2 0)).form,s36⟩ : Term)),za s36 ((at_ PTerm.z a1.sub (at_ (0:Int) a2 0)).sub)],z ∈ Z46)∧Made L g Z46 7 56 (fun (c:Unit)=>(⟨if s_2.c=((1:Int)).toNat then s_2.p else s_2.p.map (·.add (((1:Int)).toNat * 1)),s_2.n - ((1:Int)).toNat,s_2.c - ((1:Int)).toNat⟩ : SlV).v) (fun (c:Unit)=>[fS 1 IC (⟨if s_2.c=((1:Int)).toNat then s_2.p else s_2.p.map (·.add (((1:Int)).toNat * 1)),s_2.n - ((1:Int)).toNat,s_2.c - ((1:Int)).toNat⟩ : SlV) (a2.drop ((1:Int)).toNat)])∧Made L g Z46 8 57 (fun (c:SlV)=>Value.tuple #[.agg (Term.C (⟨r38.1.kind,r38.1.name,r38.1.other,r38.1.form,c⟩ : Term)).toArray,.int .i64 r38.2]) (fun (c:SlV)=>[za c r38.1.sub])∧Made L g Z46 9 48 (fun (c:SlV)=>Value.tuple #[.agg (Term.C (⟨r38.1.kind,r38.1.name,r38.1.other,r38.1.form,c⟩ : Term)).toArray,.int .i64 r38.2]) (fun (c:SlV)=>[za c r38.1.sub])∧Made L g Z46 10 58 (fun (c:SlV)=>Value.agg (Term.C (⟨r38.1.kind,r38.1.name,r38.1.other,r38.1.form,c⟩ : Term)).toArray) (fun (c:SlV)=>[za c r38.1.sub])∧(L 12=true→g 11=Value.pointer (some ⟨b43,0,none⟩))∧(L 13=true → ∀ z ∈ [za s45 r38.1.sub],z ∈ Z46)∧O47=((bif L 13 then [oB b43 zb (Term.C (⟨r38.1.kind,r38.1.name,r38.1.other,r38.1.form,s45⟩ : Term))] else (bif L 12 then [oB b43 zb (Term.C (⟨0,ByteArray.empty,ByteArray.empty,0,SlV.nil⟩ : Term))] else [])) ++ [oB b4 zb (Term.C (⟨0,ByteArray.empty,ByteArray.empty,0,SlV.nil⟩ : Term)),oB b2 zb (Term.C (⟨a1.kind,a1.name,a1.other,a1.form,s_1⟩ : Term))])∧St A N w v O47 Z46) hmix jM (fun _ _ _ _ _ _ _ hv=>hv) (fun g=>⟨0,SlV.nil,_,_,fun _ h=>h,Made.no,Made.no,Made.no,Made.no,(fun h=>by cases h),(fun h=>by cases h),rfl,S.ext (Ext.drawn _)⟩) ⟨?_,?_,?_,?_,?_,?_,?_,?_,?_,?_,?_,?_,?_,?_,trivial⟩ ?_
 ·rintro L g v hL hcl hclo ⟨b43,s45,O47,Z46,hZ,hm7,hm8,hm9,hm10,hk12,hq13,hO,S⟩ 
  have hl13:L 13=false:=by cases h:L 13 with | false=>rfl | true=>exact absurd (hclo 13 0 h jM) (by rw [hL]; decide)
  have SR:St A N w v [oB b4 zb (Term.C (⟨0,ByteArray.empty,ByteArray.empty,0,SlV.nil⟩ : Term)),oB b2 zb (Term.C (⟨a1.kind,a1.name,a1.other,a1.form,s_1⟩ : Term))] (oMa a_0 g_0_1 true :: oT g_0_1 a0 :: za s_1 a1.sub :: fS 1 IC s_2 a2 :: oPw :: oCl s_1.blk (s_1.off + Int.toNat (at_ (0:Int) a2 0) * 5) (Term.C (⟨(at_ PTerm.z a1.sub (at_ (0:Int) a2 0)).kind,(at_ PTerm.z a1.sub (at_ (0:Int) a2 0)).name,(at_ PTerm.z a1.sub (at_ (0:Int) a2 0)).other,(at_ PTerm.z a1.sub (at_ (0:Int) a2 0)).form,s36⟩ : Term)) :: za s36 ((at_ PTerm.z a1.sub (at_ (0:Int) a2 0)).sub) :: Z46):=by
   have S2:=S.zneed hZ
   rw [hO] at S2
   simp only [hl13,cond_true,cond_false,List.nil_append,List.append_assoc,List.cons_append] at S2
   exact S2.drops
  refine wd (zN rfl) ?_
  exact ze (ob4 trivial rfl ⟨b43,s45,O47,Z46,hZ,hm7.keep rfl rfl tl0,hm8.keep rfl rfl tl0,hm9.keep rfl rfl tl0,hm10.keep rfl rfl tl0,(fun h=>by rw [zr _ _ _ _ jJ]; exact hk12 (by rw [zf rfl] at h; exact h)),(fun h z q=>tl0 z (hq13 (by rw [zf rfl] at h; exact h) z q)),by rw [hO]; simp only [zf (L:=L) (i:=0) (j:=12) rfl,zf (L:=L) (i:=0) (j:=13) rfl],S⟩)
 ·rintro L g v hL hcl hclo ⟨b43,s45,O47,Z46,hZ,hm7,hm8,hm9,hm10,hk12,hq13,hO,S⟩ 
  have hl13:L 13=false:=by cases h:L 13 with | false=>rfl | true=>exact absurd (hclo 13 1 h jM) (by rw [hL]; decide)
  have SR:St A N w v [oB b4 zb (Term.C (⟨0,ByteArray.empty,ByteArray.empty,0,SlV.nil⟩ : Term)),oB b2 zb (Term.C (⟨a1.kind,a1.name,a1.other,a1.form,s_1⟩ : Term))] (oMa a_0 g_0_1 true :: oT g_0_1 a0 :: za s_1 a1.sub :: fS 1 IC s_2 a2 :: oPw :: oCl s_1.blk (s_1.off + Int.toNat (at_ (0:Int) a2 0) * 5) (Term.C (⟨(at_ PTerm.z a1.sub (at_ (0:Int) a2 0)).kind,(at_ PTerm.z a1.sub (at_ (0:Int) a2 0)).name,(at_ PTerm.z a1.sub (at_ (0:Int) a2 0)).other,(at_ PTerm.z a1.sub (at_ (0:Int) a2 0)).form,s36⟩ : Term)) :: za s36 ((at_ PTerm.z a1.sub (at_ (0:Int) a2 0)).sub) :: Z46):=by
   have S2:=S.zneed hZ
   rw [hO] at S2
   simp only [hl13,cond_true,cond_false,List.nil_append,List.append_assoc,List.cons_append] at S2
   exact S2.drops
  refine wd (zh zO rfl (o':=4) rfl) ?_
  exact ze (ob4 trivial rfl ⟨b43,s45,O47,Z46,hZ,hm7.keep rfl rfl tl0,hm8.keep rfl rfl tl0,hm9.keep rfl rfl tl0,hm10.keep rfl rfl tl0,(fun h=>by rw [zr _ _ _ _ jJ]; exact hk12 (by rw [zf rfl] at h; exact h)),(fun h z q=>tl0 z (hq13 (by rw [zf rfl] at h; exact h) z q)),by rw [hO]; simp only [zf (L:=L) (i:=1) (j:=12) rfl,zf (L:=L) (i:=1) (j:=13) rfl],S⟩)
 ·rintro L g v hL hcl hclo ⟨b43,s45,O47,Z46,hZ,hm7,hm8,hm9,hm10,hk12,hq13,hO,S⟩ hv1
  have hl13:L 13=false:=by cases h:L 13 with | false=>rfl | true=>exact absurd (hclo 13 2 h jM) (by rw [hL]; decide)
  have SR:St A N w v [oB b4 zb (Term.C (⟨0,ByteArray.empty,ByteArray.empty,0,SlV.nil⟩ : Term)),oB b2 zb (Term.C (⟨a1.kind,a1.name,a1.other,a1.form,s_1⟩ : Term))] (oMa a_0 g_0_1 true :: oT g_0_1 a0 :: za s_1 a1.sub :: fS 1 IC s_2 a2 :: oPw :: oCl s_1.blk (s_1.off + Int.toNat (at_ (0:Int) a2 0) * 5) (Term.C (⟨(at_ PTerm.z a1.sub (at_ (0:Int) a2 0)).kind,(at_ PTerm.z a1.sub (at_ (0:Int) a2 0)).name,(at_ PTerm.z a1.sub (at_ (0:Int) a2 0)).other,(at_ PTerm.z a1.sub (at_ (0:Int) a2 0)).form,s36⟩ : Term)) :: za s36 ((at_ PTerm.z a1.sub (at_ (0:Int) a2 0)).sub) :: Z46):=by
   have S2:=S.zneed hZ
   rw [hO] at S2
   simp only [hl13,cond_true,cond_false,List.nil_append,List.append_assoc,List.cons_append] at S2
   exact S2.drops
  refine wd (zt zF hv1 ((SR.blk 1).cell (Term.get_sub _))) ?_
  exact ze (ob4 trivial rfl ⟨b43,s45,O47,Z46,hZ,hm7.keep rfl rfl tl0,hm8.keep rfl rfl tl0,hm9.keep rfl rfl tl0,hm10.keep rfl rfl tl0,(fun h=>by rw [zr _ _ _ _ jJ]; exact hk12 (by rw [zf rfl] at h; exact h)),(fun h z q=>tl0 z (hq13 (by rw [zf rfl] at h; exact h) z q)),by rw [hO]; simp only [zf (L:=L) (i:=2) (j:=12) rfl,zf (L:=L) (i:=2) (j:=13) rfl],S⟩)
 ·rintro L g v hL hcl hclo ⟨b43,s45,O47,Z46,hZ,hm7,hm8,hm9,hm10,hk12,hq13,hO,S⟩ 
  have hl13:L 13=false:=by cases h:L 13 with | false=>rfl | true=>exact absurd (hclo 13 3 h jM) (by rw [hL]; decide)
  have SR:St A N w v [oB b4 zb (Term.C (⟨0,ByteArray.empty,ByteArray.empty,0,SlV.nil⟩ : Term)),oB b2 zb (Term.C (⟨a1.kind,a1.name,a1.other,a1.form,s_1⟩ : Term))] (oMa a_0 g_0_1 true :: oT g_0_1 a0 :: za s_1 a1.sub :: fS 1 IC s_2 a2 :: oPw :: oCl s_1.blk (s_1.off + Int.toNat (at_ (0:Int) a2 0) * 5) (Term.C (⟨(at_ PTerm.z a1.sub (at_ (0:Int) a2 0)).kind,(at_ PTerm.z a1.sub (at_ (0:Int) a2 0)).name,(at_ PTerm.z a1.sub (at_ (0:Int) a2 0)).other,(at_ PTerm.z a1.sub (at_ (0:Int) a2 0)).form,s36⟩ : Term)) :: za s36 ((at_ PTerm.z a1.sub (at_ (0:Int) a2 0)).sub) :: Z46):=by
   have S2:=S.zneed hZ
   rw [hO] at S2
   simp only [hl13,cond_true,cond_false,List.nil_append,List.append_assoc,List.cons_append] at S2
   exact S2.drops
  refine wd (zp rfl) ?_
  exact ze (ob4 trivial rfl ⟨b43,s45,O47,Z46,hZ,hm7.keep rfl rfl tl0,hm8.keep rfl rfl tl0,hm9.keep rfl rfl tl0,hm10.keep rfl rfl tl0,(fun h=>by rw [zr _ _ _ _ jJ]; exact hk12 (by rw [zf rfl] at h; exact h)),(fun h z q=>tl0 z (hq13 (by rw [zf rfl] at h; exact h) z q)),by rw [hO]; simp only [zf (L:=L) (i:=3) (j:=12) rfl,zf (L:=L) (i:=3) (j:=13) rfl],S⟩)
 ·rintro L g v hL hcl hclo ⟨b43,s45,O47,Z46,hZ,hm7,hm8,hm9,hm10,hk12,hq13,hO,S⟩ hv2 hv3
  have hl13:L 13=false:=by cases h:L 13 with | false=>rfl | true=>exact absurd (hclo 13 4 h jM) (by rw [hL]; decide)
  have SR:St A N w v [oB b4 zb (Term.C (⟨0,ByteArray.empty,ByteArray.empty,0,SlV.nil⟩ : Term)),oB b2 zb (Term.C (⟨a1.kind,a1.name,a1.other,a1.form,s_1⟩ : Term))] (oMa a_0 g_0_1 true :: oT g_0_1 a0 :: za s_1 a1.sub :: fS 1 IC s_2 a2 :: oPw :: oCl s_1.blk (s_1.off + Int.toNat (at_ (0:Int) a2 0) * 5) (Term.C (⟨(at_ PTerm.z a1.sub (at_ (0:Int) a2 0)).kind,(at_ PTerm.z a1.sub (at_ (0:Int) a2 0)).name,(at_ PTerm.z a1.sub (at_ (0:Int) a2 0)).other,(at_ PTerm.z a1.sub (at_ (0:Int) a2 0)).form,s36⟩ : Term)) :: za s36 ((at_ PTerm.z a1.sub (at_ (0:Int) a2 0)).sub) :: Z46):=by
   have S2:=S.zneed hZ
   rw [hO] at S2
   simp only [hl13,cond_true,cond_false,List.nil_append,List.append_assoc,List.cons_append] at S2
   exact S2.drops
  refine wd (does_indexF zz hv2 hv3 (SR.onZ 2) (zP hi35).1 (zP hi35).2) ?_
  exact ze (ob4 trivial rfl ⟨b43,s45,O47,Z46,hZ,hm7.keep rfl rfl tl0,hm8.keep rfl rfl tl0,hm9.keep rfl rfl tl0,hm10.keep rfl rfl tl0,(fun h=>by rw [zr _ _ _ _ jJ]; exact hk12 (by rw [zf rfl] at h; exact h)),(fun h z q=>tl0 z (hq13 (by rw [zf rfl] at h; exact h) z q)),by rw [hO]; simp only [zf (L:=L) (i:=4) (j:=12) rfl,zf (L:=L) (i:=4) (j:=13) rfl],S⟩)
 ·rintro L g v hL hcl hclo ⟨b43,s45,O47,Z46,hZ,hm7,hm8,hm9,hm10,hk12,hq13,hO,S⟩ hv4
  have hl13:L 13=false:=by cases h:L 13 with | false=>rfl | true=>exact absurd (hclo 13 5 h jM) (by rw [hL]; decide)
  have SR:St A N w v [oB b4 zb (Term.C (⟨0,ByteArray.empty,ByteArray.empty,0,SlV.nil⟩ : Term)),oB b2 zb (Term.C (⟨a1.kind,a1.name,a1.other,a1.form,s_1⟩ : Term))] (oMa a_0 g_0_1 true :: oT g_0_1 a0 :: za s_1 a1.sub :: fS 1 IC s_2 a2 :: oPw :: oCl s_1.blk (s_1.off + Int.toNat (at_ (0:Int) a2 0) * 5) (Term.C (⟨(at_ PTerm.z a1.sub (at_ (0:Int) a2 0)).kind,(at_ PTerm.z a1.sub (at_ (0:Int) a2 0)).name,(at_ PTerm.z a1.sub (at_ (0:Int) a2 0)).other,(at_ PTerm.z a1.sub (at_ (0:Int) a2 0)).form,s36⟩ : Term)) :: za s36 ((at_ PTerm.z a1.sub (at_ (0:Int) a2 0)).sub) :: Z46):=by
   have S2:=S.zneed hZ
   rw [hO] at S2
   simp only [hl13,cond_true,cond_false,List.nil_append,List.append_assoc,List.cons_append] at S2
   exact S2.drops
  refine wd (zi zq hv4 (SR.cl 5) (Term.len _)) ?_
  exact ze (ob4 trivial rfl ⟨b43,s45,O47,Z46,hZ,hm7.keep rfl rfl tl0,hm8.keep rfl rfl tl0,hm9.keep rfl rfl tl0,hm10.keep rfl rfl tl0,(fun h=>by rw [zr _ _ _ _ jJ]; exact hk12 (by rw [zf rfl] at h; exact h)),(fun h z q=>tl0 z (hq13 (by rw [zf rfl] at h; exact h) z q)),by rw [hO]; simp only [zf (L:=L) (i:=5) (j:=12) rfl,zf (L:=L) (i:=5) (j:=13) rfl],S⟩)
 ·rintro L g v hL hcl hclo ⟨b43,s45,O47,Z46,hZ,hm7,hm8,hm9,hm10,hk12,hq13,hO,S⟩ 
  have hl13:L 13=false:=by cases h:L 13 with | false=>rfl | true=>exact absurd (hclo 13 6 h jM) (by rw [hL]; decide)
  have SR:St A N w v [oB b4 zb (Term.C (⟨0,ByteArray.empty,ByteArray.empty,0,SlV.nil⟩ : Term)),oB b2 zb (Term.C (⟨a1.kind,a1.name,a1.other,a1.form,s_1⟩ : Term))] (oMa a_0 g_0_1 true :: oT g_0_1 a0 :: za s_1 a1.sub :: fS 1 IC s_2 a2 :: oPw :: oCl s_1.blk (s_1.off + Int.toNat (at_ (0:Int) a2 0) * 5) (Term.C (⟨(at_ PTerm.z a1.sub (at_ (0:Int) a2 0)).kind,(at_ PTerm.z a1.sub (at_ (0:Int) a2 0)).name,(at_ PTerm.z a1.sub (at_ (0:Int) a2 0)).other,(at_ PTerm.z a1.sub (at_ (0:Int) a2 0)).form,s36⟩ : Term)) :: za s36 ((at_ PTerm.z a1.sub (at_ (0:Int) a2 0)).sub) :: Z46):=by
   have S2:=S.zneed hZ
   rw [hO] at S2
   simp only [hl13,cond_true,cond_false,List.nil_append,List.append_assoc,List.cons_append] at S2
   exact S2.drops
  refine wd (xa rfl) ?_
  exact ze (ob4 trivial rfl ⟨b43,s45,O47,Z46,hZ,hm7.keep rfl rfl tl0,hm8.keep rfl rfl tl0,hm9.keep rfl rfl tl0,hm10.keep rfl rfl tl0,(fun h=>by rw [zr _ _ _ _ jJ]; exact hk12 (by rw [zf rfl] at h; exact h)),(fun h z q=>tl0 z (hq13 (by rw [zf rfl] at h; exact h) z q)),by rw [hO]; simp only [zf (L:=L) (i:=6) (j:=12) rfl,zf (L:=L) (i:=6) (j:=13) rfl],S⟩)
 ·rintro L g v hL hcl hclo ⟨b43,s45,O47,Z46,hZ,hm7,hm8,hm9,hm10,hk12,hq13,hO,S⟩ hv6
  have hl13:L 13=false:=by cases h:L 13 with | false=>rfl | true=>exact absurd (hclo 13 7 h jM) (by rw [hL]; decide)
  replace S:=S.zneed hZ
  replace S:St A N w v (O47) (oMa a_0 g_0_1 true :: oT g_0_1 a0 :: za s_1 a1.sub :: fS 1 IC s_2 a2 :: oPw :: oCl s_1.blk (s_1.off + Int.toNat (at_ (0:Int) a2 0) * 5) (Term.C (⟨(at_ PTerm.z a1.sub (at_ (0:Int) a2 0)).kind,(at_ PTerm.z a1.sub (at_ (0:Int) a2 0)).name,(at_ PTerm.z a1.sub (at_ (0:Int) a2 0)).other,(at_ PTerm.z a1.sub (at_ (0:Int) a2 0)).form,s36⟩ : Term)) :: za s36 ((at_ PTerm.z a1.sub (at_ (0:Int) a2 0)).sub) :: Z46):=S
  refine wd (does_suf xM hv6 rfl (S.rd 3) (of_decide_eq_true hs37)) ?_
  replace S:St A N w v (O47) (fS 1 IC (⟨if s_2.c=((1:Int)).toNat then s_2.p else s_2.p.map (·.add (((1:Int)).toNat * 1)),s_2.n - ((1:Int)).toNat,s_2.c - ((1:Int)).toNat⟩ : SlV) (a2.drop ((1:Int)).toNat) :: oMa a_0 g_0_1 true :: oT g_0_1 a0 :: za s_1 a1.sub :: fS 1 IC s_2 a2 :: oPw :: oCl s_1.blk (s_1.off + Int.toNat (at_ (0:Int) a2 0) * 5) (Term.C (⟨(at_ PTerm.z a1.sub (at_ (0:Int) a2 0)).kind,(at_ PTerm.z a1.sub (at_ (0:Int) a2 0)).name,(at_ PTerm.z a1.sub (at_ (0:Int) a2 0)).other,(at_ PTerm.z a1.sub (at_ (0:Int) a2 0)).form,s36⟩ : Term)) :: za s36 ((at_ PTerm.z a1.sub (at_ (0:Int) a2 0)).sub) :: Z46):=S.sufZ 3 (of_decide_eq_true hs37)
  exact ze (ob4 trivial trivial ⟨b43,s45,O47,_,(fun z h=>tl8 z (hZ z h)),Made.one (val:=(fun (c:Unit)=>(⟨if s_2.c=((1:Int)).toNat then s_2.p else s_2.p.map (·.add (((1:Int)).toNat * 1)),s_2.n - ((1:Int)).toNat,s_2.c - ((1:Int)).toNat⟩ : SlV).v)) (ps:=(fun (c:Unit)=>[fS 1 IC (⟨if s_2.c=((1:Int)).toNat then s_2.p else s_2.p.map (·.add (((1:Int)).toNat * 1)),s_2.n - ((1:Int)).toNat,s_2.c - ((1:Int)).toNat⟩ : SlV) (a2.drop ((1:Int)).toNat)])) () (xP List.mem_cons_self yf),hm8.keep rfl rfl tl8,hm9.keep rfl rfl tl8,hm10.keep rfl rfl tl8,(fun h=>by rw [zr _ _ _ _ jJ]; exact hk12 (by rw [zf rfl] at h; exact h)),(fun h z q=>tl8 z (hq13 (by rw [zf rfl] at h; exact h) z q)),by rw [hO]; simp only [zf (L:=L) (i:=7) (j:=12) rfl,zf (L:=L) (i:=7) (j:=13) rfl],S⟩)
 ·rintro L g v hL hcl hclo ⟨b43,s45,O47,Z46,hZ,hm7,hm8,hm9,hm10,hk12,hq13,hO,S⟩ hv0 hv5 _
  obtain ⟨_,he7,hp7⟩ := hm7 (hcl 7 jM)
  have hl13:L 13=false:=by cases h:L 13 with | false=>rfl | true=>exact absurd (hclo 13 8 h jM) (by rw [hL]; decide)
  replace S:=S.zneed (xy (l1:=[fS 1 IC (⟨if s_2.c=((1:Int)).toNat then s_2.p else s_2.p.map (·.add (((1:Int)).toNat * 1)),s_2.n - ((1:Int)).toNat,s_2.c - ((1:Int)).toNat⟩ : SlV) (a2.drop ((1:Int)).toNat)]) hp7 hZ)
  replace S:St A N w v (O47) (fS 1 IC (⟨if s_2.c=((1:Int)).toNat then s_2.p else s_2.p.map (·.add (((1:Int)).toNat * 1)),s_2.n - ((1:Int)).toNat,s_2.c - ((1:Int)).toNat⟩ : SlV) (a2.drop ((1:Int)).toNat) :: oMa a_0 g_0_1 true :: oT g_0_1 a0 :: za s_1 a1.sub :: fS 1 IC s_2 a2 :: oPw :: oCl s_1.blk (s_1.off + Int.toNat (at_ (0:Int) a2 0) * 5) (Term.C (⟨(at_ PTerm.z a1.sub (at_ (0:Int) a2 0)).kind,(at_ PTerm.z a1.sub (at_ (0:Int) a2 0)).name,(at_ PTerm.z a1.sub (at_ (0:Int) a2 0)).other,(at_ PTerm.z a1.sub (at_ (0:Int) a2 0)).form,s36⟩ : Term)) :: za s36 ((at_ PTerm.z a1.sub (at_ (0:Int) a2 0)).sub) :: Z46):=S
  obtain ⟨B52,MB52,SB52,back⟩ := S.sub [1,2,7,0,5] [] (O47)
  refine zJ (zS uM (zX hv0 (zX hv5 (zX he7 rfl)))) jJ (zah (a1:=(at_ PTerm.z a1.sub (at_ (0:Int) a2 0))) SB52 er38) ?_
  rintro _ w51 ⟨s53,rfl,S2⟩
  replace S:St A N w w51 (O47) (za s53 r38.1.sub :: fS 1 IC (⟨if s_2.c=((1:Int)).toNat then s_2.p else s_2.p.map (·.add (((1:Int)).toNat * 1)),s_2.n - ((1:Int)).toNat,s_2.c - ((1:Int)).toNat⟩ : SlV) (a2.drop ((1:Int)).toNat) :: oMa a_0 g_0_1 true :: oT g_0_1 a0 :: za s_1 a1.sub :: fS 1 IC s_2 a2 :: oPw :: oCl s_1.blk (s_1.off + Int.toNat (at_ (0:Int) a2 0) * 5) (Term.C (⟨(at_ PTerm.z a1.sub (at_ (0:Int) a2 0)).kind,(at_ PTerm.z a1.sub (at_ (0:Int) a2 0)).name,(at_ PTerm.z a1.sub (at_ (0:Int) a2 0)).other,(at_ PTerm.z a1.sub (at_ (0:Int) a2 0)).form,s36⟩ : Term)) :: za s36 ((at_ PTerm.z a1.sub (at_ (0:Int) a2 0)).sub) :: Z46):=back _ _ _ _ _ S2 rfl rfl
  clear back S2 SB52
  exact ze (ob4 trivial trivial ⟨b43,s45,O47,_,(fun z h=>tl9 z (hZ z h)),hm7.keep rfl rfl tl9,Made.one (val:=(fun (c:SlV)=>Value.tuple #[.agg (Term.C (⟨r38.1.kind,r38.1.name,r38.1.other,r38.1.form,c⟩ : Term)).toArray,.int .i64 r38.2])) (ps:=(fun (c:SlV)=>[za c r38.1.sub])) s53 (xP List.mem_cons_self yf),hm9.keep rfl rfl tl9,hm10.keep rfl rfl tl9,(fun h=>by rw [zr _ _ _ _ jJ]; exact hk12 (by rw [zf rfl] at h; exact h)),(fun h z q=>tl9 z (hq13 (by rw [zf rfl] at h; exact h) z q)),by rw [hO]; simp only [zf (L:=L) (i:=8) (j:=12) rfl,zf (L:=L) (i:=8) (j:=13) rfl],S⟩)
 ·rintro L g v hL hcl hclo ⟨b43,s45,O47,Z46,hZ,hm7,hm8,hm9,hm10,hk12,hq13,hO,S⟩ _
  obtain ⟨s41,he8,hp8⟩ := hm8 (hcl 8 jM)
  have hl13:L 13=false:=by cases h:L 13 with | false=>rfl | true=>exact absurd (hclo 13 9 h jM) (by rw [hL]; decide)
  replace S:=S.zneed (xy (l1:=[za s41 r38.1.sub]) hp8 hZ)
  replace S:St A N w v (O47) (za s41 r38.1.sub :: oMa a_0 g_0_1 true :: oT g_0_1 a0 :: za s_1 a1.sub :: fS 1 IC s_2 a2 :: oPw :: oCl s_1.blk (s_1.off + Int.toNat (at_ (0:Int) a2 0) * 5) (Term.C (⟨(at_ PTerm.z a1.sub (at_ (0:Int) a2 0)).kind,(at_ PTerm.z a1.sub (at_ (0:Int) a2 0)).name,(at_ PTerm.z a1.sub (at_ (0:Int) a2 0)).other,(at_ PTerm.z a1.sub (at_ (0:Int) a2 0)).form,s36⟩ : Term)) :: za s36 ((at_ PTerm.z a1.sub (at_ (0:Int) a2 0)).sub) :: Z46):=S
  refine wd (xn he8) ?_
  exact ze (ob4 trivial trivial ⟨b43,s45,O47,_,(fun z h=>tl8 z (hZ z h)),hm7.keep rfl rfl tl8,hm8.keep rfl rfl tl8,Made.one (val:=(fun (c:SlV)=>Value.tuple #[.agg (Term.C (⟨r38.1.kind,r38.1.name,r38.1.other,r38.1.form,c⟩ : Term)).toArray,.int .i64 r38.2])) (ps:=(fun (c:SlV)=>[za c r38.1.sub])) s41 (xP List.mem_cons_self yf),hm10.keep rfl rfl tl8,(fun h=>by rw [zr _ _ _ _ jJ]; exact hk12 (by rw [zf rfl] at h; exact h)),(fun h z q=>tl8 z (hq13 (by rw [zf rfl] at h; exact h) z q)),by rw [hO]; simp only [zf (L:=L) (i:=9) (j:=12) rfl,zf (L:=L) (i:=9) (j:=13) rfl],S⟩)
 ·rintro L g v hL hcl hclo ⟨b43,s45,O47,Z46,hZ,hm7,hm8,hm9,hm10,hk12,hq13,hO,S⟩ _
  obtain ⟨s41,he9,hp9⟩ := hm9 (hcl 9 jM)
  have hl13:L 13=false:=by cases h:L 13 with | false=>rfl | true=>exact absurd (hclo 13 10 h jM) (by rw [hL]; decide)
  replace S:=S.zneed (xy (l1:=[za s41 r38.1.sub]) hp9 hZ)
  replace S:St A N w v (O47) (za s41 r38.1.sub :: oMa a_0 g_0_1 true :: oT g_0_1 a0 :: za s_1 a1.sub :: fS 1 IC s_2 a2 :: oPw :: oCl s_1.blk (s_1.off + Int.toNat (at_ (0:Int) a2 0) * 5) (Term.C (⟨(at_ PTerm.z a1.sub (at_ (0:Int) a2 0)).kind,(at_ PTerm.z a1.sub (at_ (0:Int) a2 0)).name,(at_ PTerm.z a1.sub (at_ (0:Int) a2 0)).other,(at_ PTerm.z a1.sub (at_ (0:Int) a2 0)).form,s36⟩ : Term)) :: za s36 ((at_ PTerm.z a1.sub (at_ (0:Int) a2 0)).sub) :: Z46):=S
  refine wd (zA he9 rfl) ?_
  exact ze (ob4 trivial trivial ⟨b43,s45,O47,_,(fun z h=>tl8 z (hZ z h)),hm7.keep rfl rfl tl8,hm8.keep rfl rfl tl8,hm9.keep rfl rfl tl8,Made.one (val:=(fun (c:SlV)=>Value.agg (Term.C (⟨r38.1.kind,r38.1.name,r38.1.other,r38.1.form,c⟩ : Term)).toArray)) (ps:=(fun (c:SlV)=>[za c r38.1.sub])) s41 (xP List.mem_cons_self yf),(fun h=>by rw [zr _ _ _ _ jJ]; exact hk12 (by rw [zf rfl] at h; exact h)),(fun h z q=>tl8 z (hq13 (by rw [zf rfl] at h; exact h) z q)),by rw [hO]; simp only [zf (L:=L) (i:=10) (j:=12) rfl,zf (L:=L) (i:=10) (j:=13) rfl],S⟩)
 ·rintro L g v hL hcl hclo ⟨b43,s45,O47,Z46,hZ,hm7,hm8,hm9,hm10,hk12,hq13,hO,S⟩ _
  obtain ⟨s41,he9,hp9⟩ := hm9 (hcl 9 jM)
  have SR:St A N w v [oB b4 zb (Term.C (⟨0,ByteArray.empty,ByteArray.empty,0,SlV.nil⟩ : Term)),oB b2 zb (Term.C (⟨a1.kind,a1.name,a1.other,a1.form,s_1⟩ : Term))] (za s41 r38.1.sub :: oMa a_0 g_0_1 true :: oT g_0_1 a0 :: za s_1 a1.sub :: fS 1 IC s_2 a2 :: oPw :: oCl s_1.blk (s_1.off + Int.toNat (at_ (0:Int) a2 0) * 5) (Term.C (⟨(at_ PTerm.z a1.sub (at_ (0:Int) a2 0)).kind,(at_ PTerm.z a1.sub (at_ (0:Int) a2 0)).name,(at_ PTerm.z a1.sub (at_ (0:Int) a2 0)).other,(at_ PTerm.z a1.sub (at_ (0:Int) a2 0)).form,s36⟩ : Term)) :: za s36 ((at_ PTerm.z a1.sub (at_ (0:Int) a2 0)).sub) :: Z46):=by
   have S2:=S.zneed (xy (l1:=[za s41 r38.1.sub]) hp9 hZ)
   rw [hO] at S2
   exact S2.drops
  refine wd (zA he9 rfl) ?_
  exact ze (ob4 trivial rfl ⟨b43,s45,O47,Z46,hZ,hm7.keep rfl rfl tl0,hm8.keep rfl rfl tl0,hm9.keep rfl rfl tl0,hm10.keep rfl rfl tl0,(fun h=>by rw [zr _ _ _ _ jJ]; exact hk12 (by rw [zf rfl] at h; exact h)),(fun h z q=>tl0 z (hq13 (by rw [zf rfl] at h; exact h) z q)),by rw [hO]; simp only [zf (L:=L) (i:=11) (j:=12) rfl,zf (L:=L) (i:=11) (j:=13) rfl],S⟩)
 ·rintro L g v hL hcl hclo ⟨b43,s45,O47,Z46,hZ,hm7,hm8,hm9,hm10,hk12,hq13,hO,S⟩ 
  have hl12:L 12=false:=hL
  have hl13:L 13=false:=by cases h:L 13 with | false=>rfl | true=>exact absurd (hclo 13 12 h jM) (by rw [hL]; decide)
  have hOP : ∃ P Y,P=[]∧Y=[oB b4 zb (Term.C (⟨0,ByteArray.empty,ByteArray.empty,0,SlV.nil⟩ : Term)),oB b2 zb (Term.C (⟨a1.kind,a1.name,a1.other,a1.form,s_1⟩ : Term))]∧O47=P ++ ([] ++ Y):=⟨_,_,rfl,rfl,by rw [hO]; simp only [hl12,hl13,cond_true,cond_false,List.nil_append,List.append_assoc,List.cons_append]⟩
  obtain ⟨P,Y,hP,hY,hPY⟩ := hOP
  rw [hPY] at S
  replace S:St A N w v (P ++ Y) Z46:=S
  refine zZ xr jJ fun b55 w54 hw54=>?_
  replace S:St A N w w54 (oB b55 zb (Term.C (⟨0,ByteArray.empty,ByteArray.empty,0,SlV.nil⟩ : Term)) :: (P ++ Y)) (Z46):=S.new hw54
  refine ze (ob4 trivial trivial ⟨b55,s45,P ++ ([oB b55 zb (Term.C (⟨0,ByteArray.empty,ByteArray.empty,0,SlV.nil⟩ : Term))] ++ Y),_,hZ,hm7.keep rfl rfl tl0,hm8.keep rfl rfl tl0,hm9.keep rfl rfl tl0,hm10.keep rfl rfl tl0,(fun _=>upd_same _ _ _),(fun h z q=>tl0 z (hq13 (by rw [zf rfl] at h; exact h) z q)),?_,S.ins (P:=[oB b55 zb (Term.C (⟨0,ByteArray.empty,ByteArray.empty,0,SlV.nil⟩ : Term))])⟩)
  rw [hP,hY]; simp only [zf (L:=L) (i:=12) (j:=13) rfl,xS (L:=L) (i:=12),hl13,cond_true,cond_false,List.nil_append,List.append_assoc,List.cons_append]
 ·rintro L g v hL hcl hclo ⟨b43,s45,O47,Z46,hZ,hm7,hm8,hm9,hm10,hk12,hq13,hO,S⟩ _ _
  obtain ⟨s41,he10,hp10⟩ := hm10 (hcl 10 jM)
  have hl12:L 12=true:=hcl 12 jM
  have hl13:L 13=false:=hL
  have hOP : ∃ P Y,P=[]∧Y=[oB b4 zb (Term.C (⟨0,ByteArray.empty,ByteArray.empty,0,SlV.nil⟩ : Term)),oB b2 zb (Term.C (⟨a1.kind,a1.name,a1.other,a1.form,s_1⟩ : Term))]∧O47=P ++ ([oB b43 zb (Term.C (⟨0,ByteArray.empty,ByteArray.empty,0,SlV.nil⟩ : Term))] ++ Y):=⟨_,_,rfl,rfl,by rw [hO]; simp only [hl12,hl13,cond_true,cond_false,List.nil_append,List.append_assoc,List.cons_append]⟩
  obtain ⟨P,Y,hP,hY,hPY⟩ := hOP
  rw [hPY] at S
  replace S:St A N w v (oB b43 zb (Term.C (⟨0,ByteArray.empty,ByteArray.empty,0,SlV.nil⟩ : Term)) :: (P ++ Y)) Z46:=S.ins
  replace S:=S.zneed (xy (l1:=[za s41 r38.1.sub]) hp10 hZ)
  replace S:St A N w v (oB b43 zb (Term.C (⟨0,ByteArray.empty,ByteArray.empty,0,SlV.nil⟩ : Term)) :: (P ++ Y)) (za s41 r38.1.sub :: oMa a_0 g_0_1 true :: oT g_0_1 a0 :: za s_1 a1.sub :: fS 1 IC s_2 a2 :: oPw :: oCl s_1.blk (s_1.off + Int.toNat (at_ (0:Int) a2 0) * 5) (Term.C (⟨(at_ PTerm.z a1.sub (at_ (0:Int) a2 0)).kind,(at_ PTerm.z a1.sub (at_ (0:Int) a2 0)).name,(at_ PTerm.z a1.sub (at_ (0:Int) a2 0)).other,(at_ PTerm.z a1.sub (at_ (0:Int) a2 0)).form,s36⟩ : Term)) :: za s36 ((at_ PTerm.z a1.sub (at_ (0:Int) a2 0)).sub) :: Z46):=S
  refine zy zq (hk12 (hcl 12 jM)) he10 (S.blk 0) (Term.len _) (by rw [Term.len]; decide) (Term.one _) (zM (Term.len _)) fun w56 B hw56 zw56=>?_
  replace S:St A N w w56 (oB b43 zb (Term.C (⟨r38.1.kind,r38.1.name,r38.1.other,r38.1.form,s41⟩ : Term)) :: (P ++ Y)) (za s41 r38.1.sub :: oMa a_0 g_0_1 true :: oT g_0_1 a0 :: za s_1 a1.sub :: fS 1 IC s_2 a2 :: oPw :: oCl s_1.blk (s_1.off + Int.toNat (at_ (0:Int) a2 0) * 5) (Term.C (⟨(at_ PTerm.z a1.sub (at_ (0:Int) a2 0)).kind,(at_ PTerm.z a1.sub (at_ (0:Int) a2 0)).name,(at_ PTerm.z a1.sub (at_ (0:Int) a2 0)).other,(at_ PTerm.z a1.sub (at_ (0:Int) a2 0)).form,s36⟩ : Term)) :: za s36 ((at_ PTerm.z a1.sub (at_ (0:Int) a2 0)).sub) :: Z46):=S.store 0 B hw56
  clear B
  refine ze (ob40 trivial (fun _=>trivial) ⟨b43,s41,P ++ ([oB b43 zb (Term.C (⟨r38.1.kind,r38.1.name,r38.1.other,r38.1.form,s41⟩ : Term))] ++ Y),_,(fun z h=>tl8 z (hZ z h)),hm7.keep0 rfl tl8,hm8.keep0 rfl tl8,hm9.keep0 rfl tl8,hm10.keep0 rfl tl8,(fun h=>hk12 (by rw [zf rfl] at h; exact h)),(fun _ z q=>tl8 z (hp10 z q)),?_,S.ins (P:=[oB b43 zb (Term.C (⟨r38.1.kind,r38.1.name,r38.1.other,r38.1.form,s41⟩ : Term))])⟩)
  rw [hP,hY]; simp only [zf (L:=L) (i:=13) (j:=12) rfl,xS (L:=L) (i:=13),hl12,cond_true,cond_false,List.nil_append,List.append_assoc,List.cons_append]
 rintro L g w57 hLm ⟨b43,s45,O47,Z46,hZ,hm7,hm8,hm9,hm10,hk12,hq13,hO,S⟩ hv58_0 hv58_1 hv58_2 hv58_3 hv58_4 hv58_5 hv58_6 _ _ _ _ hv58_11 _ _
 have hLt : ∀ j,j < 14→L j=true:=fun j hj=>by rw [hLm]; exact decide_eq_true hj
 obtain ⟨_,hv58_7,hp7⟩ := hm7 (hLt 7 jJ)
 obtain ⟨s41,hv58_10,hp10⟩ := hm10 (hLt 10 jJ)
 have hv58_12:=hk12 (hLt 12 jJ)
 simp only [hLt 12 jJ,hLt 13 jJ,cond_true,List.nil_append,List.cons_append] at hO
 rw [hO] at S
 replace hq13:=hq13 (hLt 13 jJ)
 replace S:St A N w w57 [oB b43 zb (Term.C (⟨r38.1.kind,r38.1.name,r38.1.other,r38.1.form,s45⟩ : Term)),oB b4 zb (Term.C (⟨0,ByteArray.empty,ByteArray.empty,0,SlV.nil⟩ : Term)),oB b2 zb (Term.C (⟨a1.kind,a1.name,a1.other,a1.form,s_1⟩ : Term))] [fS 1 IC (⟨if s_2.c=((1:Int)).toNat then s_2.p else s_2.p.map (·.add (((1:Int)).toNat * 1)),s_2.n - ((1:Int)).toNat,s_2.c - ((1:Int)).toNat⟩ : SlV) (a2.drop ((1:Int)).toNat),za s41 r38.1.sub,za s45 r38.1.sub,oMa a_0 g_0_1 true,oT g_0_1 a0,za s_1 a1.sub,fS 1 IC s_2 a2,oPw,oCl s_1.blk (s_1.off + Int.toNat (at_ (0:Int) a2 0) * 5) (Term.C (⟨(at_ PTerm.z a1.sub (at_ (0:Int) a2 0)).kind,(at_ PTerm.z a1.sub (at_ (0:Int) a2 0)).name,(at_ PTerm.z a1.sub (at_ (0:Int) a2 0)).other,(at_ PTerm.z a1.sub (at_ (0:Int) a2 0)).form,s36⟩ : Term)),za s36 ((at_ PTerm.z a1.sub (at_ (0:Int) a2 0)).sub)]:=S.pickZ (xy (l1:=[fS 1 IC (⟨if s_2.c=((1:Int)).toNat then s_2.p else s_2.p.map (·.add (((1:Int)).toNat * 1)),s_2.n - ((1:Int)).toNat,s_2.c - ((1:Int)).toNat⟩ : SlV) (a2.drop ((1:Int)).toNat)]) hp7 (xy (l1:=[za s41 r38.1.sub]) hp10 (xy (l1:=[za s45 r38.1.sub]) hq13 hZ)))
 clear hp7 hp10 hZ hm7 hm8 hm9 hm10
 refine wd (zn hv58_11) ?_
 refine ze ?_
 refine zg (zg (zd ?_))
 refine wd (zp rfl) ?_
 refine wd (xN rfl rfl) ?_
 refine ze ?_
 refine zU rfl (fun hc59=>?_) (fun hc59=>?_)
 ·replace H:=if_t hc59 H
  refine zg (zd ?_)
  refine wd (Does.to (v' := .agg (Term.C (⟨0,ByteArray.empty,ByteArray.empty,0,SlV.nil⟩ : Term)).toArray) (xg (vs:=[]) xW rfl Bld.nil) rfl) ?_
  refine wd (zp rfl) ?_
  refine zy zq rfl rfl (S.blk 1) (Term.len _) (by rw [Term.len]; decide) (Term.one _) (zM (Term.len _)) fun w60 B hw60 zw60=>?_
  replace S:St A N w w60 [oB b4 zb (Term.C (⟨0,ByteArray.empty,ByteArray.empty,0,SlV.nil⟩ : Term)),oB b43 zb (Term.C (⟨r38.1.kind,r38.1.name,r38.1.other,r38.1.form,s45⟩ : Term)),oB b2 zb (Term.C (⟨a1.kind,a1.name,a1.other,a1.form,s_1⟩ : Term))] [fS 1 IC (⟨if s_2.c=((1:Int)).toNat then s_2.p else s_2.p.map (·.add (((1:Int)).toNat * 1)),s_2.n - ((1:Int)).toNat,s_2.c - ((1:Int)).toNat⟩ : SlV) (a2.drop ((1:Int)).toNat),za s41 r38.1.sub,za s45 r38.1.sub,oMa a_0 g_0_1 true,oT g_0_1 a0,za s_1 a1.sub,fS 1 IC s_2 a2,oPw,oCl s_1.blk (s_1.off + Int.toNat (at_ (0:Int) a2 0) * 5) (Term.C (⟨(at_ PTerm.z a1.sub (at_ (0:Int) a2 0)).kind,(at_ PTerm.z a1.sub (at_ (0:Int) a2 0)).name,(at_ PTerm.z a1.sub (at_ (0:Int) a2 0)).other,(at_ PTerm.z a1.sub (at_ (0:Int) a2 0)).form,s36⟩ : Term)),za s36 ((at_ PTerm.z a1.sub (at_ (0:Int) a2 0)).sub)]:=S.store 1 B hw60
  clear B
  refine wd (zn rfl) ?_
  refine ze ?_
  refine zC ?_
  replace S:St A N w w60 [oB b4 zb (Term.C (⟨0,ByteArray.empty,ByteArray.empty,0,SlV.nil⟩ : Term)),oB b43 zb (Term.C (⟨r38.1.kind,r38.1.name,r38.1.other,r38.1.form,s45⟩ : Term)),oB b2 zb (Term.C (⟨a1.kind,a1.name,a1.other,a1.form,s_1⟩ : Term))] [za SlV.nil ([]),fS 1 IC (⟨if s_2.c=((1:Int)).toNat then s_2.p else s_2.p.map (·.add (((1:Int)).toNat * 1)),s_2.n - ((1:Int)).toNat,s_2.c - ((1:Int)).toNat⟩ : SlV) (a2.drop ((1:Int)).toNat),za s41 r38.1.sub,za s45 r38.1.sub,oMa a_0 g_0_1 true,oT g_0_1 a0,za s_1 a1.sub,fS 1 IC s_2 a2,oPw,oCl s_1.blk (s_1.off + Int.toNat (at_ (0:Int) a2 0) * 5) (Term.C (⟨(at_ PTerm.z a1.sub (at_ (0:Int) a2 0)).kind,(at_ PTerm.z a1.sub (at_ (0:Int) a2 0)).name,(at_ PTerm.z a1.sub (at_ (0:Int) a2 0)).other,(at_ PTerm.z a1.sub (at_ (0:Int) a2 0)).form,s36⟩ : Term)),za s36 ((at_ PTerm.z a1.sub (at_ (0:Int) a2 0)).sub)]:=S.nilTm
  refine ⟨_,(xB (zV zq rfl ((S.blk 0).all _ (Term.len _)) (Term.len _)) (zj rfl)),?_⟩
  replace S:St A N w w60 [] [za SlV.nil ([])]:=S.arr [] [0]
  obtain rfl:=jN H
  exact ⟨SlV.nil,rfl,S⟩
 replace H:=if_f hc59 H
 refine zI ?_
 refine zg (zd ?_)
 refine wd (zh zO rfl (o':=4) rfl) ?_
 refine wd (zt zF rfl ((S.blk 2).cell (Term.get_sub _))) ?_
 obtain ⟨r62,er62,H⟩ := zB H
 obtain ⟨B63,MB63,SB63,back⟩ := S.sub [5] [] [oB b43 zb (Term.C (⟨r38.1.kind,r38.1.name,r38.1.other,r38.1.form,s45⟩ : Term)),oB b4 zb (Term.C (⟨0,ByteArray.empty,ByteArray.empty,0,SlV.nil⟩ : Term)),oB b2 zb (Term.C (⟨a1.kind,a1.name,a1.other,a1.form,s_1⟩ : Term))]
 refine zJ (zH xY) jJ (x0 SB63 er62) ?_
 rintro _ w61 ⟨s64,m65,rfl,S2⟩
 replace S:St A N w w61 [oS zb 5 Term.C s64 m65,oB b43 zb (Term.C (⟨r38.1.kind,r38.1.name,r38.1.other,r38.1.form,s45⟩ : Term)),oB b4 zb (Term.C (⟨0,ByteArray.empty,ByteArray.empty,0,SlV.nil⟩ : Term)),oB b2 zb (Term.C (⟨a1.kind,a1.name,a1.other,a1.form,s_1⟩ : Term))] [bigA zK m65 r62,fS 1 IC (⟨if s_2.c=((1:Int)).toNat then s_2.p else s_2.p.map (·.add (((1:Int)).toNat * 1)),s_2.n - ((1:Int)).toNat,s_2.c - ((1:Int)).toNat⟩ : SlV) (a2.drop ((1:Int)).toNat),za s41 r38.1.sub,za s45 r38.1.sub,oMa a_0 g_0_1 true,oT g_0_1 a0,za s_1 a1.sub,fS 1 IC s_2 a2,oPw,oCl s_1.blk (s_1.off + Int.toNat (at_ (0:Int) a2 0) * 5) (Term.C (⟨(at_ PTerm.z a1.sub (at_ (0:Int) a2 0)).kind,(at_ PTerm.z a1.sub (at_ (0:Int) a2 0)).name,(at_ PTerm.z a1.sub (at_ (0:Int) a2 0)).other,(at_ PTerm.z a1.sub (at_ (0:Int) a2 0)).form,s36⟩ : Term)),za s36 ((at_ PTerm.z a1.sub (at_ (0:Int) a2 0)).sub)]:=back _ _ _ _ _ S2 rfl rfl
 clear back S2 SB63
 refine wd (zh zO rfl (o':=4) rfl) ?_
 refine y0 zF rfl rfl (S.blk 3) (by rw [Term.len]; decide) (SlV.one _ _ rfl) (Term.set_sub _ _) fun w66 B hw66 zw66=>?_
 replace S:St A N w w66 [oB b2 zb (Term.C (⟨a1.kind,a1.name,a1.other,a1.form,s64⟩ : Term)),oS zb 5 Term.C s64 m65,oB b43 zb (Term.C (⟨r38.1.kind,r38.1.name,r38.1.other,r38.1.form,s45⟩ : Term)),oB b4 zb (Term.C (⟨0,ByteArray.empty,ByteArray.empty,0,SlV.nil⟩ : Term))] [bigA zK m65 r62,fS 1 IC (⟨if s_2.c=((1:Int)).toNat then s_2.p else s_2.p.map (·.add (((1:Int)).toNat * 1)),s_2.n - ((1:Int)).toNat,s_2.c - ((1:Int)).toNat⟩ : SlV) (a2.drop ((1:Int)).toNat),za s41 r38.1.sub,za s45 r38.1.sub,oMa a_0 g_0_1 true,oT g_0_1 a0,za s_1 a1.sub,fS 1 IC s_2 a2,oPw,oCl s_1.blk (s_1.off + Int.toNat (at_ (0:Int) a2 0) * 5) (Term.C (⟨(at_ PTerm.z a1.sub (at_ (0:Int) a2 0)).kind,(at_ PTerm.z a1.sub (at_ (0:Int) a2 0)).name,(at_ PTerm.z a1.sub (at_ (0:Int) a2 0)).other,(at_ PTerm.z a1.sub (at_ (0:Int) a2 0)).form,s36⟩ : Term)),za s36 ((at_ PTerm.z a1.sub (at_ (0:Int) a2 0)).sub)]:=S.store 3 B hw66
 clear B
 refine ze ?_
 refine zg (zd ?_)
 refine wd (zh zO rfl (o':=4) rfl) ?_
 refine wd (zt zF rfl ((S.blk 0).cell (Term.get_sub _))) ?_
 refine wd (zp rfl) ?_
 refine wd (zi zq hv58_12 ((S.blk 2).all _ (Term.len _)) (Term.len _)) ?_
 obtain ⟨hi67,H⟩ := xh H
 refine wd (xt zz rfl rfl (S.rdO 1) (zP hi67).1 (by rw [(S.lenTm 0)]; exact (zP hi67).2)) ?_
 have hlw68:=S.lenO 1
 have hqw68:=(S.lenTm 0)
 refine jc (C:=Term.C) (a:=(⟨r38.1.kind,r38.1.name,r38.1.other,r38.1.form,s45⟩ : Term)) zq rfl rfl (S.sl 1) ⟨(zP hi67).1,by rw [hqw68]; exact (zP hi67).2⟩ (Term.len _) (Term.one _) fun w68 O hw68=>?_
 replace S:St A N w w68 [oS zb 5 Term.C s64 (m65.set (Int.toNat (at_ (0:Int) a2 0)) (⟨r38.1.kind,r38.1.name,r38.1.other,r38.1.form,s45⟩ : Term)),oB b2 zb (Term.C (⟨a1.kind,a1.name,a1.other,a1.form,s64⟩ : Term)),oB b43 zb (Term.C (⟨r38.1.kind,r38.1.name,r38.1.other,r38.1.form,s45⟩ : Term)),oB b4 zb (Term.C (⟨0,ByteArray.empty,ByteArray.empty,0,SlV.nil⟩ : Term))] [bigA zK m65 r62,fS 1 IC (⟨if s_2.c=((1:Int)).toNat then s_2.p else s_2.p.map (·.add (((1:Int)).toNat * 1)),s_2.n - ((1:Int)).toNat,s_2.c - ((1:Int)).toNat⟩ : SlV) (a2.drop ((1:Int)).toNat),za s41 r38.1.sub,za s45 r38.1.sub,oMa a_0 g_0_1 true,oT g_0_1 a0,za s_1 a1.sub,fS 1 IC s_2 a2,oPw,oCl s_1.blk (s_1.off + Int.toNat (at_ (0:Int) a2 0) * 5) (Term.C (⟨(at_ PTerm.z a1.sub (at_ (0:Int) a2 0)).kind,(at_ PTerm.z a1.sub (at_ (0:Int) a2 0)).name,(at_ PTerm.z a1.sub (at_ (0:Int) a2 0)).other,(at_ PTerm.z a1.sub (at_ (0:Int) a2 0)).form,s36⟩ : Term)),za s36 ((at_ PTerm.z a1.sub (at_ (0:Int) a2 0)).sub)]:=S.push 1 O (by rw [List.length_set]; exact hlw68) hw68 (fun i hi => .inl hi)
 clear O hlw68 hqw68
 replace S:St A N w w68 [oS zb 5 Term.C s64 (m65.set (Int.toNat (at_ (0:Int) a2 0)) (⟨r38.1.kind,r38.1.name,r38.1.other,r38.1.form,s45⟩ : Term)),oB b2 zb (Term.C (⟨a1.kind,a1.name,a1.other,a1.form,s64⟩ : Term)),oB b43 zb (Term.C (⟨r38.1.kind,r38.1.name,r38.1.other,r38.1.form,s45⟩ : Term)),oB b4 zb (Term.C (⟨0,ByteArray.empty,ByteArray.empty,0,SlV.nil⟩ : Term))] [bigA zK (m65.set (Int.toNat (at_ (0:Int) a2 0)) (⟨r38.1.kind,r38.1.name,r38.1.other,r38.1.form,s45⟩ : Term)) (r62.set (Int.toNat (at_ (0:Int) a2 0)) r38.1),bigA zK m65 r62,fS 1 IC (⟨if s_2.c=((1:Int)).toNat then s_2.p else s_2.p.map (·.add (((1:Int)).toNat * 1)),s_2.n - ((1:Int)).toNat,s_2.c - ((1:Int)).toNat⟩ : SlV) (a2.drop ((1:Int)).toNat),za s41 r38.1.sub,za s45 r38.1.sub,oMa a_0 g_0_1 true,oT g_0_1 a0,za s_1 a1.sub,fS 1 IC s_2 a2,oPw,oCl s_1.blk (s_1.off + Int.toNat (at_ (0:Int) a2 0) * 5) (Term.C (⟨(at_ PTerm.z a1.sub (at_ (0:Int) a2 0)).kind,(at_ PTerm.z a1.sub (at_ (0:Int) a2 0)).name,(at_ PTerm.z a1.sub (at_ (0:Int) a2 0)).other,(at_ PTerm.z a1.sub (at_ (0:Int) a2 0)).form,s36⟩ : Term)),za s36 ((at_ PTerm.z a1.sub (at_ (0:Int) a2 0)).sub)]:=S.setTm (x:=r38.1) 0 3 (Int.toNat (at_ (0:Int) a2 0))
 refine ze ?_
 refine zg (zd ?_)
 replace S:St A N w w68 [oB b2 zb (Term.C (⟨a1.kind,a1.name,a1.other,a1.form,s64⟩ : Term)),oB b43 zb (Term.C (⟨r38.1.kind,r38.1.name,r38.1.other,r38.1.form,s45⟩ : Term)),oB b4 zb (Term.C (⟨0,ByteArray.empty,ByteArray.empty,0,SlV.nil⟩ : Term))] [za s64 (r62.set (Int.toNat (at_ (0:Int) a2 0)) r38.1),bigA zK (m65.set (Int.toNat (at_ (0:Int) a2 0)) (⟨r38.1.kind,r38.1.name,r38.1.other,r38.1.form,s45⟩ : Term)) (r62.set (Int.toNat (at_ (0:Int) a2 0)) r38.1),bigA zK m65 r62,fS 1 IC (⟨if s_2.c=((1:Int)).toNat then s_2.p else s_2.p.map (·.add (((1:Int)).toNat * 1)),s_2.n - ((1:Int)).toNat,s_2.c - ((1:Int)).toNat⟩ : SlV) (a2.drop ((1:Int)).toNat),za s41 r38.1.sub,za s45 r38.1.sub,oMa a_0 g_0_1 true,oT g_0_1 a0,za s_1 a1.sub,fS 1 IC s_2 a2,oPw,oCl s_1.blk (s_1.off + Int.toNat (at_ (0:Int) a2 0) * 5) (Term.C (⟨(at_ PTerm.z a1.sub (at_ (0:Int) a2 0)).kind,(at_ PTerm.z a1.sub (at_ (0:Int) a2 0)).name,(at_ PTerm.z a1.sub (at_ (0:Int) a2 0)).other,(at_ PTerm.z a1.sub (at_ (0:Int) a2 0)).form,s36⟩ : Term)),za s36 ((at_ PTerm.z a1.sub (at_ (0:Int) a2 0)).sub)]:=S.frzTm 0 0
 refine wd (zi zq rfl ((S.blk 0).all _ (Term.len _)) (Term.len _)) ?_
 refine zy zq rfl rfl (S.blk 2) (Term.len _) (by rw [Term.len]; decide) (Term.one _) (zM (Term.len _)) fun w69 B hw69 zw69=>?_
 replace S:St A N w w69 [oB b4 zb (Term.C (⟨a1.kind,a1.name,a1.other,a1.form,s64⟩ : Term)),oB b2 zb (Term.C (⟨a1.kind,a1.name,a1.other,a1.form,s64⟩ : Term)),oB b43 zb (Term.C (⟨r38.1.kind,r38.1.name,r38.1.other,r38.1.form,s45⟩ : Term))] [za s64 (r62.set (Int.toNat (at_ (0:Int) a2 0)) r38.1),bigA zK (m65.set (Int.toNat (at_ (0:Int) a2 0)) (⟨r38.1.kind,r38.1.name,r38.1.other,r38.1.form,s45⟩ : Term)) (r62.set (Int.toNat (at_ (0:Int) a2 0)) r38.1),bigA zK m65 r62,fS 1 IC (⟨if s_2.c=((1:Int)).toNat then s_2.p else s_2.p.map (·.add (((1:Int)).toNat * 1)),s_2.n - ((1:Int)).toNat,s_2.c - ((1:Int)).toNat⟩ : SlV) (a2.drop ((1:Int)).toNat),za s41 r38.1.sub,za s45 r38.1.sub,oMa a_0 g_0_1 true,oT g_0_1 a0,za s_1 a1.sub,fS 1 IC s_2 a2,oPw,oCl s_1.blk (s_1.off + Int.toNat (at_ (0:Int) a2 0) * 5) (Term.C (⟨(at_ PTerm.z a1.sub (at_ (0:Int) a2 0)).kind,(at_ PTerm.z a1.sub (at_ (0:Int) a2 0)).name,(at_ PTerm.z a1.sub (at_ (0:Int) a2 0)).other,(at_ PTerm.z a1.sub (at_ (0:Int) a2 0)).form,s36⟩ : Term)),za s36 ((at_ PTerm.z a1.sub (at_ (0:Int) a2 0)).sub)]:=S.store 2 B hw69
 clear B
 refine wd (zn rfl) ?_
 refine ze ?_
 refine zC ?_
 refine ⟨_,(xB (zV zq rfl ((S.blk 0).all _ (Term.len _)) (Term.len _)) (zj rfl)),?_⟩
 replace S:St A N w w69 [] [za s64 (r62.set (Int.toNat (at_ (0:Int) a2 0)) r38.1)]:=S.arr [] [0]
 obtain rfl:=jN H
 exact ⟨s64,rfl,S⟩
theorem reduce_machine_do_st {a0:Tb} {a_0:Option Addr} {g_0_1:Option Addr} {a1:PTerm} {s_1:SlV} {a2:List Int} {s_2:SlV} (S:St A N w w [] [oMa a_0 g_0_1 true,oT g_0_1 a0,za s_1 a1.sub,fS 1 IC s_2 a2,oPw]) {k:Nat} {r:PTerm × Int} (H:kU.f k a0 a1 a2=some r) :
  Calls PP yy #[.pointer a_0,.agg (Term.C (⟨a1.kind,a1.name,a1.other,a1.form,s_1⟩ : Term)).toArray,s_2.v] w fun e w' => ∃ v,e = .returned v∧(∃ so0:SlV,v = .tuple #[.agg (Term.C (⟨r.1.kind,r.1.name,r.1.other,r.1.form,so0⟩ : Term)).toArray,.int .i64 r.2]∧St A N w w' [] [za so0 r.1.sub]):=by
 have main : ∀ (k:Nat) {A:Nat→Prop} {N:Oth} {w:World} {a0:Tb} {a_0:Option Addr} {g_0_1:Option Addr} {a1:PTerm} {s_1:SlV} {a2:List Int} {s_2:SlV} (S:St A N w w [] [oMa a_0 g_0_1 true,oT g_0_1 a0,za s_1 a1.sub,fS 1 IC s_2 a2,oPw]) {r:PTerm × Int} (H:kU.f k a0 a1 a2=some r),Calls PP yy #[.pointer a_0,.agg (Term.C (⟨a1.kind,a1.name,a1.other,a1.form,s_1⟩ : Term)).toArray,s_2.v] w fun e w' => ∃ v,e = .returned v∧(∃ so0:SlV,v = .tuple #[.agg (Term.C (⟨r.1.kind,r.1.name,r.1.other,r.1.form,so0⟩ : Term)).toArray,.int .i64 r.2]∧St A N w w' [] [za so0 r.1.sub]):=by
  intro k
  induction k with
  | zero=>intro A N w a0 a_0 g_0_1 a1 s_1 a2 s_2 S r H; cases H
  | succ k ih=>intro A N w a0 a_0 g_0_1 a1 s_1 a2 s_2 S r H; exact reduce_machine_do_gst ih S H
 exact main k S H
theorem ur {a0:Tb} {a_0:Option Addr} {g_0_1:Option Addr} {a1:PTerm} {s_1:SlV} {a2:List Int} {s_2:SlV} (S:St A N w w [] [oMa a_0 g_0_1 true,oT g_0_1 a0,za s_1 a1.sub,fS 1 IC s_2 a2,oPw]) {k:Nat} {r:PTerm × Int} (H:kV.f k a0 a1 a2=some r) :
  Calls PP uv #[.pointer a_0,.agg (Term.C (⟨a1.kind,a1.name,a1.other,a1.form,s_1⟩ : Term)).toArray,s_2.v] w fun e w' => ∃ v,e = .returned v∧(∃ so0:SlV,v = .tuple #[.agg (Term.C (⟨r.1.kind,r.1.name,r.1.other,r.1.form,so0⟩ : Term)).toArray,.int .i64 r.2]∧St A N w w' [] [za so0 r.1.sub]):=by
 unfold kV.f at H
 refine zE (n:=30) fn_reduce_machine_done rfl rfl jL ?_
 refine zg (zd ?_)
 refine zQ rfl jJ fun b2 w1 hw1=>?_
 replace S:St A N w w1 [oB b2 zb (Term.C (⟨a1.kind,a1.name,a1.other,a1.form,s_1⟩ : Term))] [oMa a_0 g_0_1 true,oT g_0_1 a0,za s_1 a1.sub,fS 1 IC s_2 a2,oPw]:=S.new hw1
 refine zZ xr jJ fun b4 w3 hw3=>?_
 replace S:St A N w w3 [oB b4 zb (Term.C (⟨0,ByteArray.empty,ByteArray.empty,0,SlV.nil⟩ : Term)),oB b2 zb (Term.C (⟨a1.kind,a1.name,a1.other,a1.form,s_1⟩ : Term))] [oMa a_0 g_0_1 true,oT g_0_1 a0,za s_1 a1.sub,fS 1 IC s_2 a2,oPw]:=S.new hw3
 refine wd (zn rfl) ?_
 refine ze ?_
 refine zg (zd ?_)
 refine wd (zN rfl) ?_
 refine wd (zi zq rfl ((S.blk 1).all _ (Term.len _)) (Term.len _)) ?_
 refine wd (xa rfl) ?_
 obtain ⟨r5,er5,H⟩ := zB H
 obtain ⟨B7,MB7,SB7,back⟩ := S.sub [0,1,2,3,4] [] [oB b4 zb (Term.C (⟨0,ByteArray.empty,ByteArray.empty,0,SlV.nil⟩ : Term)),oB b2 zb (Term.C (⟨a1.kind,a1.name,a1.other,a1.form,s_1⟩ : Term))]
 refine zJ (zH uM) jJ (reduce_machine_do_st (a1:=a1) SB7 er5) ?_
 rintro _ w6 ⟨s8,rfl,S2⟩
 replace S:St A N w w6 [oB b4 zb (Term.C (⟨0,ByteArray.empty,ByteArray.empty,0,SlV.nil⟩ : Term)),oB b2 zb (Term.C (⟨a1.kind,a1.name,a1.other,a1.form,s_1⟩ : Term))] [za s8 r5.1.sub,oMa a_0 g_0_1 true,oT g_0_1 a0,za s_1 a1.sub,fS 1 IC s_2 a2,oPw]:=back _ _ _ _ _ S2 rfl rfl
 clear back S2 SB7
 refine wd (xn rfl) ?_
 refine wd (zA rfl rfl) ?_
 refine wd (zA rfl rfl) ?_
 refine zZ xr jJ fun b10 w9 hw9=>?_
 replace S:St A N w w9 [oB b10 zb (Term.C (⟨0,ByteArray.empty,ByteArray.empty,0,SlV.nil⟩ : Term)),oB b4 zb (Term.C (⟨0,ByteArray.empty,ByteArray.empty,0,SlV.nil⟩ : Term)),oB b2 zb (Term.C (⟨a1.kind,a1.name,a1.other,a1.form,s_1⟩ : Term))] [za s8 r5.1.sub,oMa a_0 g_0_1 true,oT g_0_1 a0,za s_1 a1.sub,fS 1 IC s_2 a2,oPw]:=S.new hw9
 refine zy zq rfl rfl (S.blk 0) (Term.len _) (by rw [Term.len]; decide) (Term.one _) (zM (Term.len _)) fun w11 B hw11 zw11=>?_
 replace S:St A N w w11 [oB b10 zb (Term.C (⟨r5.1.kind,r5.1.name,r5.1.other,r5.1.form,s8⟩ : Term)),oB b4 zb (Term.C (⟨0,ByteArray.empty,ByteArray.empty,0,SlV.nil⟩ : Term)),oB b2 zb (Term.C (⟨a1.kind,a1.name,a1.other,a1.form,s_1⟩ : Term))] [za s8 r5.1.sub,oMa a_0 g_0_1 true,oT g_0_1 a0,za s_1 a1.sub,fS 1 IC s_2 a2,oPw]:=S.store 0 B hw11
 clear B
 refine wd (zn rfl) ?_
 refine ze ?_
 refine zg (zg (zd ?_))
 refine wd (zp rfl) ?_
 refine wd (xb rfl rfl) ?_
 refine wd (zG rfl) ?_
 refine zu (j:=2) (pol:=true) rfl rfl rfl jJ (fun hg=>zi zq rfl ((S.blk 0).all _ (Term.len _)) (Term.len _)) jJ ?_
 obtain ⟨r12,er12,H⟩ := zB H
 refine xH (j:=2) (pol:=true) rfl rfl rfl jJ (fun hg=>zS vM (zX (zw hg) rfl)) jJ (fun hg=>(have ⟨M,SS⟩ := S.lend ((.z 0 rfl .nil)); quiet (vO (a0:=r5.1) SS (if_t (by simpa using hg) er12)) (fun v w' h=>⟨h.1,_,_,h.2⟩))) fun w13 hw13=>?_
 replace S:=S.ext hw13
 refine zu (j:=2) (pol:=true) rfl rfl rfl jJ (fun hg=>xN (zw hg) rfl) jJ ?_
 refine wd (xe rfl (fun hp=>(zw (xu hp)))) ?_
 refine ze ?_
 refine zU rfl (fun hc14=>?_) (fun hc14=>?_)
 ·replace H:=if_t hc14 H
  refine zd ?_
  refine wd (zn rfl) ?_
  refine ze ?_
  refine zg (zg (zd ?_))
  refine wd (zp rfl) ?_
  refine wd (xN rfl rfl) ?_
  refine ze ?_
  refine zU rfl (fun hc15=>?_) (fun hc15=>?_)
  ·replace H:=if_t hc15 H
   refine zg (zd ?_)
   refine wd (Does.to (v' := .agg (Term.C (⟨0,ByteArray.empty,ByteArray.empty,0,SlV.nil⟩ : Term)).toArray) (xg (vs:=[]) xW rfl Bld.nil) rfl) ?_
   refine wd (zp rfl) ?_
   refine zy zq rfl rfl (S.blk 1) (Term.len _) (by rw [Term.len]; decide) (Term.one _) (zM (Term.len _)) fun w16 B hw16 zw16=>?_
   replace S:St A N w w16 [oB b4 zb (Term.C (⟨0,ByteArray.empty,ByteArray.empty,0,SlV.nil⟩ : Term)),oB b10 zb (Term.C (⟨r5.1.kind,r5.1.name,r5.1.other,r5.1.form,s8⟩ : Term)),oB b2 zb (Term.C (⟨a1.kind,a1.name,a1.other,a1.form,s_1⟩ : Term))] [za s8 r5.1.sub,oMa a_0 g_0_1 true,oT g_0_1 a0,za s_1 a1.sub,fS 1 IC s_2 a2,oPw]:=S.store 1 B hw16
   clear B
   refine wd (zn rfl) ?_
   refine ze ?_
   refine zC ?_
   replace S:St A N w w16 [oB b4 zb (Term.C (⟨0,ByteArray.empty,ByteArray.empty,0,SlV.nil⟩ : Term)),oB b10 zb (Term.C (⟨r5.1.kind,r5.1.name,r5.1.other,r5.1.form,s8⟩ : Term)),oB b2 zb (Term.C (⟨a1.kind,a1.name,a1.other,a1.form,s_1⟩ : Term))] [za SlV.nil ([]),za s8 r5.1.sub,oMa a_0 g_0_1 true,oT g_0_1 a0,za s_1 a1.sub,fS 1 IC s_2 a2,oPw]:=S.nilTm
   refine ⟨_,(xB (zV zq rfl ((S.blk 0).all _ (Term.len _)) (Term.len _)) (zj rfl)),?_⟩
   replace S:St A N w w16 [] [za SlV.nil ([])]:=S.arr [] [0]
   obtain rfl:=jN H
   exact ⟨SlV.nil,rfl,S⟩
  replace H:=if_f hc15 H
  refine zI ?_
  refine zg (zd ?_)
  refine wd (zi zq rfl ((S.blk 0).all _ (Term.len _)) (Term.len _)) ?_
  obtain ⟨r17,er17,H⟩ := zB H
  obtain ⟨B19,MB19,SB19,back⟩ := S.sub [0] [] [oB b10 zb (Term.C (⟨r5.1.kind,r5.1.name,r5.1.other,r5.1.form,s8⟩ : Term)),oB b4 zb (Term.C (⟨0,ByteArray.empty,ByteArray.empty,0,SlV.nil⟩ : Term)),oB b2 zb (Term.C (⟨a1.kind,a1.name,a1.other,a1.form,s_1⟩ : Term))]
  refine zJ (zH vP) jJ (uU (a0:=r5.1) SB19 er17) ?_
  rintro _ w18 ⟨s20,rfl,S2⟩
  replace S:St A N w w18 [oB b10 zb (Term.C (⟨r5.1.kind,r5.1.name,r5.1.other,r5.1.form,s8⟩ : Term)),oB b4 zb (Term.C (⟨0,ByteArray.empty,ByteArray.empty,0,SlV.nil⟩ : Term)),oB b2 zb (Term.C (⟨a1.kind,a1.name,a1.other,a1.form,s_1⟩ : Term))] [za s20 r17.sub,za s8 r5.1.sub,oMa a_0 g_0_1 true,oT g_0_1 a0,za s_1 a1.sub,fS 1 IC s_2 a2,oPw]:=back _ _ _ _ _ S2 rfl rfl
  clear back S2 SB19
  refine zy zq rfl rfl (S.blk 1) (Term.len _) (by rw [Term.len]; decide) (Term.one _) (zM (Term.len _)) fun w21 B hw21 zw21=>?_
  replace S:St A N w w21 [oB b4 zb (Term.C (⟨r17.kind,r17.name,r17.other,r17.form,s20⟩ : Term)),oB b10 zb (Term.C (⟨r5.1.kind,r5.1.name,r5.1.other,r5.1.form,s8⟩ : Term)),oB b2 zb (Term.C (⟨a1.kind,a1.name,a1.other,a1.form,s_1⟩ : Term))] [za s20 r17.sub,za s8 r5.1.sub,oMa a_0 g_0_1 true,oT g_0_1 a0,za s_1 a1.sub,fS 1 IC s_2 a2,oPw]:=S.store 1 B hw21
  clear B
  refine wd (zn rfl) ?_
  refine ze ?_
  refine zC ?_
  refine ⟨_,(xB (zV zq rfl ((S.blk 0).all _ (Term.len _)) (Term.len _)) (zj rfl)),?_⟩
  replace S:St A N w w21 [] [za s20 r17.sub]:=S.arr [] [0]
  obtain rfl:=jN H
  exact ⟨s20,rfl,S⟩
 ·replace H:=if_f hc14 H
  refine zI ?_
  refine zg (zg (zd ?_))
  refine wd (zp rfl) ?_
  refine wd (xN rfl rfl) ?_
  refine ze ?_
  refine zU rfl (fun hc22=>?_) (fun hc22=>?_)
  ·replace H:=if_t hc22 H
   refine zg (zd ?_)
   refine wd (Does.to (v' := .agg (Term.C (⟨0,ByteArray.empty,ByteArray.empty,0,SlV.nil⟩ : Term)).toArray) (xg (vs:=[]) xW rfl Bld.nil) rfl) ?_
   refine wd (zp rfl) ?_
   refine zy zq rfl rfl (S.blk 1) (Term.len _) (by rw [Term.len]; decide) (Term.one _) (zM (Term.len _)) fun w23 B hw23 zw23=>?_
   replace S:St A N w w23 [oB b4 zb (Term.C (⟨0,ByteArray.empty,ByteArray.empty,0,SlV.nil⟩ : Term)),oB b10 zb (Term.C (⟨r5.1.kind,r5.1.name,r5.1.other,r5.1.form,s8⟩ : Term)),oB b2 zb (Term.C (⟨a1.kind,a1.name,a1.other,a1.form,s_1⟩ : Term))] [za s8 r5.1.sub,oMa a_0 g_0_1 true,oT g_0_1 a0,za s_1 a1.sub,fS 1 IC s_2 a2,oPw]:=S.store 1 B hw23
   clear B
   refine wd (zn rfl) ?_
   refine ze ?_
   refine zC ?_
   replace S:St A N w w23 [oB b4 zb (Term.C (⟨0,ByteArray.empty,ByteArray.empty,0,SlV.nil⟩ : Term)),oB b10 zb (Term.C (⟨r5.1.kind,r5.1.name,r5.1.other,r5.1.form,s8⟩ : Term)),oB b2 zb (Term.C (⟨a1.kind,a1.name,a1.other,a1.form,s_1⟩ : Term))] [za SlV.nil ([]),za s8 r5.1.sub,oMa a_0 g_0_1 true,oT g_0_1 a0,za s_1 a1.sub,fS 1 IC s_2 a2,oPw]:=S.nilTm
   refine ⟨_,(xB (zV zq rfl ((S.blk 0).all _ (Term.len _)) (Term.len _)) (zj rfl)),?_⟩
   replace S:St A N w w23 [] [za SlV.nil ([])]:=S.arr [] [0]
   obtain rfl:=jN H
   exact ⟨SlV.nil,rfl,S⟩
  replace H:=if_f hc22 H
  refine zI ?_
  refine zg (zd ?_)
  refine wd (zi zq rfl ((S.blk 0).all _ (Term.len _)) (Term.len _)) ?_
  obtain ⟨r24,er24,H⟩ := zB H
  obtain ⟨B26,MB26,SB26,back⟩ := S.sub [0] [] [oB b10 zb (Term.C (⟨r5.1.kind,r5.1.name,r5.1.other,r5.1.form,s8⟩ : Term)),oB b4 zb (Term.C (⟨0,ByteArray.empty,ByteArray.empty,0,SlV.nil⟩ : Term)),oB b2 zb (Term.C (⟨a1.kind,a1.name,a1.other,a1.form,s_1⟩ : Term))]
  refine zJ (zH vP) jJ (uU (a0:=r5.1) SB26 er24) ?_
  rintro _ w25 ⟨s27,rfl,S2⟩
  replace S:St A N w w25 [oB b10 zb (Term.C (⟨r5.1.kind,r5.1.name,r5.1.other,r5.1.form,s8⟩ : Term)),oB b4 zb (Term.C (⟨0,ByteArray.empty,ByteArray.empty,0,SlV.nil⟩ : Term)),oB b2 zb (Term.C (⟨a1.kind,a1.name,a1.other,a1.form,s_1⟩ : Term))] [za s27 r24.sub,za s8 r5.1.sub,oMa a_0 g_0_1 true,oT g_0_1 a0,za s_1 a1.sub,fS 1 IC s_2 a2,oPw]:=back _ _ _ _ _ S2 rfl rfl
  clear back S2 SB26
  refine zy zq rfl rfl (S.blk 1) (Term.len _) (by rw [Term.len]; decide) (Term.one _) (zM (Term.len _)) fun w28 B hw28 zw28=>?_
  replace S:St A N w w28 [oB b4 zb (Term.C (⟨r24.kind,r24.name,r24.other,r24.form,s27⟩ : Term)),oB b10 zb (Term.C (⟨r5.1.kind,r5.1.name,r5.1.other,r5.1.form,s8⟩ : Term)),oB b2 zb (Term.C (⟨a1.kind,a1.name,a1.other,a1.form,s_1⟩ : Term))] [za s27 r24.sub,za s8 r5.1.sub,oMa a_0 g_0_1 true,oT g_0_1 a0,za s_1 a1.sub,fS 1 IC s_2 a2,oPw]:=S.store 1 B hw28
  clear B
  refine wd (zn rfl) ?_
  refine ze ?_
  refine zC ?_
  refine ⟨_,(xB (zV zq rfl ((S.blk 0).all _ (Term.len _)) (Term.len _)) (zj rfl)),?_⟩
  replace S:St A N w w28 [] [za s27 r24.sub]:=S.arr [] [0]
  obtain rfl:=jN H
  exact ⟨s27,rfl,S⟩
theorem reduce_Do_st {a0:Tb} {a_0:Option Addr} {a1:PTerm} {s_1:SlV} {a2:List Int} {s_2:SlV} (S:St A N w w [] [oT a_0 a0,za s_1 a1.sub,fS 1 IC s_2 a2,oPw]) {k:Nat} {r:PTerm × Int} (H:kW.f k a0 a1 a2=some r) :
  Calls PP F_reduce_Do #[.pointer a_0,.agg (Term.C (⟨a1.kind,a1.name,a1.other,a1.form,s_1⟩ : Term)).toArray,s_2.v] w fun e w' => ∃ v,e = .returned v∧(∃ so0:SlV,v = .tuple #[.agg (Term.C (⟨r.1.kind,r.1.name,r.1.other,r.1.form,so0⟩ : Term)).toArray,.int .i64 r.2]∧St A N w w' [] [za so0 r.1.sub]):=by
 unfold kW.f at H
 refine zE (n:=26) fn_reduce_Do rfl rfl jL ?_
 refine zg (zd ?_)
 refine zQ rfl jJ fun b2 w1 hw1=>?_
 replace S:St A N w w1 [oB b2 zb (Term.C (⟨a1.kind,a1.name,a1.other,a1.form,s_1⟩ : Term))] [oT a_0 a0,za s_1 a1.sub,fS 1 IC s_2 a2,oPw]:=S.new hw1
 refine zZ xr jJ fun b4 w3 hw3=>?_
 replace S:St A N w w3 [oB b4 zb (Term.C (⟨0,ByteArray.empty,ByteArray.empty,0,SlV.nil⟩ : Term)),oB b2 zb (Term.C (⟨a1.kind,a1.name,a1.other,a1.form,s_1⟩ : Term))] [oT a_0 a0,za s_1 a1.sub,fS 1 IC s_2 a2,oPw]:=S.new hw3
 refine wd (zn rfl) ?_
 refine ze ?_
 refine zg (zd ?_)
 refine wd (zN rfl) ?_
 refine wd (zi zq rfl ((S.blk 1).all _ (Term.len _)) (Term.len _)) ?_
 obtain ⟨r5,er5,H⟩ := zB H
 obtain ⟨B7,MB7,SB7,back⟩ := S.sub [0,1,3] [] [oB b4 zb (Term.C (⟨0,ByteArray.empty,ByteArray.empty,0,SlV.nil⟩ : Term)),oB b2 zb (Term.C (⟨a1.kind,a1.name,a1.other,a1.form,s_1⟩ : Term))]
 refine zJ (zH uR) jJ (uT (a1:=a1) SB7 er5) ?_
 rintro _ w6 ⟨a8,rfl,S2⟩
 replace S:St A N w w6 [oB b4 zb (Term.C (⟨0,ByteArray.empty,ByteArray.empty,0,SlV.nil⟩ : Term)),oB b2 zb (Term.C (⟨a1.kind,a1.name,a1.other,a1.form,s_1⟩ : Term))] [oMa a8 a_0 r5.1,oT a_0 a0,za s_1 a1.sub,fS 1 IC s_2 a2,oPw]:=back _ _ _ _ _ S2 rfl rfl
 clear back S2 SB7
 refine wd (xn rfl) ?_
 refine wd (zA rfl rfl) ?_
 refine wd (zA rfl rfl) ?_
 refine wd (x4 rfl) ?_
 refine wd (zn rfl) ?_
 refine ze ?_
 refine zg (zg (zd ?_))
 refine wd (zp rfl) ?_
 refine wd (xN rfl rfl) ?_
 refine ze ?_
 refine zU rfl (fun hc9=>?_) (fun hc9=>?_)
 ·replace H:=if_t hc9 H
  refine zg (zd ?_)
  refine wd (Does.to (v' := .agg (Term.C (⟨0,ByteArray.empty,ByteArray.empty,0,SlV.nil⟩ : Term)).toArray) (xg (vs:=[]) xW rfl Bld.nil) rfl) ?_
  refine wd (zp rfl) ?_
  refine zy zq rfl rfl (S.blk 0) (Term.len _) (by rw [Term.len]; decide) (Term.one _) (zM (Term.len _)) fun w10 B hw10 zw10=>?_
  replace S:St A N w w10 [oB b4 zb (Term.C (⟨0,ByteArray.empty,ByteArray.empty,0,SlV.nil⟩ : Term)),oB b2 zb (Term.C (⟨a1.kind,a1.name,a1.other,a1.form,s_1⟩ : Term))] [oMa a8 a_0 r5.1,oT a_0 a0,za s_1 a1.sub,fS 1 IC s_2 a2,oPw]:=S.store 0 B hw10
  clear B
  refine wd (zn rfl) ?_
  refine ze ?_
  refine zC ?_
  replace S:St A N w w10 [oB b4 zb (Term.C (⟨0,ByteArray.empty,ByteArray.empty,0,SlV.nil⟩ : Term)),oB b2 zb (Term.C (⟨a1.kind,a1.name,a1.other,a1.form,s_1⟩ : Term))] [za SlV.nil ([]),oMa a8 a_0 r5.1,oT a_0 a0,za s_1 a1.sub,fS 1 IC s_2 a2,oPw]:=S.nilTm
  refine ⟨_,(xB (zV zq rfl ((S.blk 0).all _ (Term.len _)) (Term.len _)) (zj rfl)),?_⟩
  replace S:St A N w w10 [] [za SlV.nil ([])]:=S.arr [] [0]
  obtain rfl:=jN H
  exact ⟨SlV.nil,rfl,S⟩
 replace H:=if_f hc9 H
 refine zI ?_
 refine zg (zd ?_)
 refine wd (zN rfl) ?_
 refine wd (zi zq rfl ((S.blk 1).all _ (Term.len _)) (Term.len _)) ?_
 refine wd (xa rfl) ?_
 obtain ⟨ht12,H⟩ := xh H
 rw [ht12] at S
 obtain ⟨r11,er11,H⟩ := zB H
 obtain ⟨B14,MB14,SB14,back⟩ := S.sub [0,1,2,3,4] [] [oB b4 zb (Term.C (⟨0,ByteArray.empty,ByteArray.empty,0,SlV.nil⟩ : Term)),oB b2 zb (Term.C (⟨a1.kind,a1.name,a1.other,a1.form,s_1⟩ : Term))]
 refine zJ (zH ui) jJ (ur (a1:=a1) SB14 er11) ?_
 rintro _ w13 ⟨s15,rfl,S2⟩
 replace S:St A N w w13 [oB b4 zb (Term.C (⟨0,ByteArray.empty,ByteArray.empty,0,SlV.nil⟩ : Term)),oB b2 zb (Term.C (⟨a1.kind,a1.name,a1.other,a1.form,s_1⟩ : Term))] [za s15 r11.1.sub,oMa a8 a_0 true,oT a_0 a0,za s_1 a1.sub,fS 1 IC s_2 a2,oPw]:=back _ _ _ _ _ S2 rfl rfl
 clear back S2 SB14
 refine wd (zA rfl rfl) ?_
 refine wd (zA rfl rfl) ?_
 refine zy zq rfl rfl (S.blk 0) (Term.len _) (by rw [Term.len]; decide) (Term.one _) (zM (Term.len _)) fun w16 B hw16 zw16=>?_
 replace S:St A N w w16 [oB b4 zb (Term.C (⟨r11.1.kind,r11.1.name,r11.1.other,r11.1.form,s15⟩ : Term)),oB b2 zb (Term.C (⟨a1.kind,a1.name,a1.other,a1.form,s_1⟩ : Term))] [za s15 r11.1.sub,oMa a8 a_0 true,oT a_0 a0,za s_1 a1.sub,fS 1 IC s_2 a2,oPw]:=S.store 0 B hw16
 clear B
 refine wd (zn rfl) ?_
 refine ze ?_
 refine zC ?_
 refine ⟨_,(xB (zV zq rfl ((S.blk 0).all _ (Term.len _)) (Term.len _)) (zj rfl)),?_⟩
 replace S:St A N w w16 [] [za s15 r11.1.sub]:=S.arr [] [0]
 obtain rfl:=jN H
 exact ⟨s15,rfl,S⟩
theorem reduce_Redexes_1_st {a0:List Int} {s_0:SlV} {a1:List (List Int)} {b_1:Nat} {s_1_1:SlV} (S:St A N w w [oB b_1 zT [s_1_1.v],zm s_1_1 a1] [fS 1 IC s_0 a0]) {r:List (List Int) × Bool} (H:kX.f a0 a1=some r) :
  Calls PP xU #[s_0.v,.pointer (some ⟨b_1,0,none⟩)] w fun e w' => ∃ v,e = .returned v∧(∃ so0:SlV,v = .bool r.2∧St A N w w' [oB b_1 zT [so0.v],zm so0 r.1] []):=by
 unfold kX.f at H
 refine zE (n:=12) fn_reduce_Redexes_1 rfl rfl jL ?_
 refine zg (zd ?_)
 refine wd (zk rfl) ?_
 refine ze ?_
 refine zg ?_
 obtain ⟨r10,er10,H⟩ := zB H
 refine yM 4 ⟨fun _ _=>True,fun _ _ _=>True,fun i v _=>match i with
  | 0=>v=s_1_1.v
  | 1=>v=s_0.v
  | _=>True⟩ (fun L g v=>bif L 3 then (∃ (s13:SlV) (s16:SlV),(L 2=true→g 6=s13.v)∧(L 3=true→g 7=s16.v)∧St A N w v [oS zW 1 LC s16 ([s13]),oS z7 1 IC s13 r10,oB b_1 zT [s_1_1.v],zm s_1_1 a1] [fS 1 IC s_0 a0]) else bif L 2 then (∃ (s13:SlV),(L 2=true→g 6=s13.v)∧St A N w v [oS z7 1 IC s13 r10,oB b_1 zT [s_1_1.v],zm s_1_1 a1] [fS 1 IC s_0 a0]) else (St A N w v [oB b_1 zT [s_1_1.v],zm s_1_1 a1] [fS 1 IC s_0 a0])) hmix jM (fun _ _ _ _ _ _ _ hv=>hv) (fun g=>S.ext (Ext.drawn _)) ⟨?_,?_,?_,?_,trivial⟩ ?_
 ·rintro L g v hL hcl hclo hT 
  cases hl3:L 3 with
  | true =>
   replace hT : ∃ (s13:SlV) (s16:SlV),(L 2=true→g 6=s13.v)∧(L 3=true→g 7=s16.v)∧St A N w v [oS zW 1 LC s16 ([s13]),oS z7 1 IC s13 r10,oB b_1 zT [s_1_1.v],zm s_1_1 a1] [fS 1 IC s_0 a0]:=by simp only [hl3,cond_true,cond_false] at hT ⊢; exact hT
   obtain ⟨s13,s16,he2,he3,S⟩ := hT
   refine wd (zt uC rfl ((S.blk 2).cell rfl)) ?_
   have hT2 : ∃ (s13':SlV) (s16':SlV),((plus L 0) 2=true→(upd g 4 (s_1_1.v)) 6=s13'.v)∧((plus L 0) 3=true→(upd g 4 (s_1_1.v)) 7=s16'.v)∧St A N w v [oS zW 1 LC s16' ([s13']),oS z7 1 IC s13' r10,oB b_1 zT [s_1_1.v],zm s_1_1 a1] [fS 1 IC s_0 a0]:=⟨s13,s16,fun h=>by rw [zr _ _ _ _ jJ]; exact he2 (by rw [zf rfl] at h; exact h),fun h=>by rw [zr _ _ _ _ jJ]; exact he3 (by rw [zf rfl] at h; exact h),S⟩
   exact ze (ob4 trivial rfl (by simp only [zf (L:=L) (i:=0) (j:=2) rfl,zf (L:=L) (i:=0) (j:=3) rfl,hl3,cond_true,cond_false] at hT2 ⊢; exact hT2))
  | false =>
   cases hl2:L 2 with
   | true =>
    replace hT : ∃ (s13:SlV),(L 2=true→g 6=s13.v)∧St A N w v [oS z7 1 IC s13 r10,oB b_1 zT [s_1_1.v],zm s_1_1 a1] [fS 1 IC s_0 a0]:=by simp only [hl2,hl3,cond_true,cond_false] at hT ⊢; exact hT
    obtain ⟨s13,he2,S⟩ := hT
    refine wd (zt uC rfl ((S.blk 1).cell rfl)) ?_
    have hT2 : ∃ (s13':SlV),((plus L 0) 2=true→(upd g 4 (s_1_1.v)) 6=s13'.v)∧St A N w v [oS z7 1 IC s13' r10,oB b_1 zT [s_1_1.v],zm s_1_1 a1] [fS 1 IC s_0 a0]:=⟨s13,fun h=>by rw [zr _ _ _ _ jJ]; exact he2 (by rw [zf rfl] at h; exact h),S⟩
    exact ze (ob4 trivial rfl (by simp only [zf (L:=L) (i:=0) (j:=2) rfl,zf (L:=L) (i:=0) (j:=3) rfl,hl2,hl3,cond_true,cond_false] at hT2 ⊢; exact hT2))
   | false =>
    simp only [hl2,hl3,cond_true,cond_false] at hT
    replace S:St A N w v [oB b_1 zT [s_1_1.v],zm s_1_1 a1] [fS 1 IC s_0 a0]:=hT
    refine wd (zt uC rfl ((S.blk 0).cell rfl)) ?_
    exact ze (ob4 trivial rfl (by simp only [zf (L:=L) (i:=0) (j:=2) rfl,zf (L:=L) (i:=0) (j:=3) rfl,hl2,hl3,cond_true,cond_false]; exact S))
 ·rintro L g v hL hcl hclo hT 
  have hl2:L 2=false:=by cases h:L 2 with | false=>rfl | true=>exact absurd (hclo 2 1 h jM) (by rw [hL]; decide)
  have hl3:L 3=false:=by cases h:L 3 with | false=>rfl | true=>exact absurd (hclo 3 1 h jM) (by rw [hL]; decide)
  simp only [hl2,hl3,cond_true,cond_false] at hT
  replace S:St A N w v [oB b_1 zT [s_1_1.v],zm s_1_1 a1] [fS 1 IC s_0 a0]:=hT
  refine wd (xa rfl) ?_
  exact ze (ob4 trivial rfl (by simp only [zf (L:=L) (i:=1) (j:=2) rfl,zf (L:=L) (i:=1) (j:=3) rfl,hl2,hl3,cond_true,cond_false]; exact S))
 ·rintro L g v hL hcl hclo hT hv1
  have hl2:L 2=false:=hL
  have hl3:L 3=false:=by cases h:L 3 with | false=>rfl | true=>exact absurd (hclo 3 2 h jM) (by rw [hL]; decide)
  simp only [hl2,hl3,cond_true,cond_false] at hT
  replace S:St A N w v [oB b_1 zT [s_1_1.v],zm s_1_1 a1] [fS 1 IC s_0 a0]:=hT
  obtain ⟨B19,MB19,SB19,back⟩ := S.calln 0 ((.z 0 rfl .nil))
  refine zJ (zS vU (zX hv1 rfl)) jJ (vY SB19 er10) ?_
  rintro _ w18 ⟨s13,rfl,S2⟩
  replace S:St A N w w18 [oS z7 1 IC s13 r10,oB b_1 zT [s_1_1.v],zm s_1_1 a1] [fS 1 IC s_0 a0]:=back _ _ _ _ S2 rfl
  clear back S2 SB19
  have hT2 : ∃ (s13':SlV),((plus L 2) 2=true→(upd g 6 (s13.v)) 6=s13'.v)∧St A N w w18 [oS z7 1 IC s13' r10,oB b_1 zT [s_1_1.v],zm s_1_1 a1] [fS 1 IC s_0 a0]:=⟨s13,fun _=>upd_same _ _ _,S⟩
  exact ze (ob4 trivial trivial (by simp only [zf (L:=L) (i:=2) (j:=3) rfl,xS (L:=L) (i:=2),hl3,cond_true,cond_false] at hT2 ⊢; exact hT2))
 ·rintro L g v hL hcl hclo hT hv2
  have hl2:L 2=true:=hcl 2 jM
  have hl3:L 3=false:=hL
  replace hT : ∃ (s13:SlV),(L 2=true→g 6=s13.v)∧St A N w v [oS z7 1 IC s13 r10,oB b_1 zT [s_1_1.v],zm s_1_1 a1] [fS 1 IC s_0 a0]:=by simp only [hl2,hl3,cond_true,cond_false] at hT ⊢; exact hT
  obtain ⟨s13,he2,S⟩ := hT
  refine ve (C:=LC) (l:=[s13]) (vs:=[s13.v]) yL el_L_int.zero (xE (he2 (hcl 2 jM)) rfl) (by simp only [List.map_cons,List.map_nil,SlV.cells,LC]) (fun _ _=>rfl) jJ rfl jJ fun b21 w20 s16 hBw20 hw20=>?_
  replace S:St A N w w20 [oS zW 1 LC s16 ([s13]),oS z7 1 IC s13 r10,oB b_1 zT [s_1_1.v],zm s_1_1 a1] [fS 1 IC s_0 a0]:=S.lit hBw20 hw20 jL
  have hT2 : ∃ (s13':SlV) (s16':SlV),((plus L 3) 2=true→(upd g 7 (s16.v)) 6=s13'.v)∧((plus L 3) 3=true→(upd g 7 (s16.v)) 7=s16'.v)∧St A N w w20 [oS zW 1 LC s16' ([s13']),oS z7 1 IC s13' r10,oB b_1 zT [s_1_1.v],zm s_1_1 a1] [fS 1 IC s_0 a0]:=⟨s13,s16,fun h=>by rw [zr _ _ _ _ jJ]; exact he2 (by rw [zf rfl] at h; exact h),fun _=>upd_same _ _ _,S⟩
  exact ze (ob4 trivial trivial (by simp only [zf (L:=L) (i:=3) (j:=2) rfl,xS (L:=L) (i:=3),cond_true,cond_false] at hT2 ⊢; exact hT2))
 rintro L g w23 hLm hT hv24_0 hv24_1 _ _
 have hLt : ∀ j,j < 4→L j=true:=fun j hj=>by rw [hLm]; exact decide_eq_true hj
 replace hT : ∃ (s13:SlV) (s16:SlV),(L 2=true→g 6=s13.v)∧(L 3=true→g 7=s16.v)∧St A N w w23 [oS zW 1 LC s16 ([s13]),oS z7 1 IC s13 r10,oB b_1 zT [s_1_1.v],zm s_1_1 a1] [fS 1 IC s_0 a0]:=by simp only [hLt 3 jJ,cond_true] at hT ⊢; exact hT
 obtain ⟨s13,s16,he2,he3,S⟩ := hT
 have hv24_2:=he2 (hLt 2 jJ)
 have hv24_3:=he3 (hLt 3 jJ)
 replace S:St A N w w23 [oS zW 1 LC s16 ([s13]),oS z7 1 IC s13 r10,oB b_1 zT [s_1_1.v],zm s_1_1 a1] [fS 1 IC s_0 a0]:=S
 obtain ⟨ha27,H⟩ := xh H
 have ha27:=of_decide_eq_true ha27
 obtain ⟨ms28,S⟩ := S.openD 3
 replace S:St A N w w23 [oS zW 1 LC s_1_1 ms28,big rL_int ms28 a1,oS zW 1 LC s16 ([s13]),oS z7 1 IC s13 r10,oB b_1 zT [s_1_1.v]] [fS 1 IC s_0 a0]:=S
 have hlms28:ms28.length=a1.length:=(S.own 1 rfl).elim fun _ hb=>big_len hb
 rw [← hlms28] at ha27
 refine wl_appends (C:=L_int.C) yL el_L_int hv24_0 hv24_3 (S.sl 0) (S.rdO 2) jL (fun a _=>L_int.one a) ha27 (by first | omega | (simp only [List.length_cons,List.length_nil]; omega)) jJ fun s26 w25 O hw25 gw25=>?_
 replace S:St A N w w25 [oS zW 1 LC s26 (ms28 ++ [s13]),big rL_int ms28 a1,oS zW 1 LC s16 ([s13]),oS z7 1 IC s13 r10,oB b_1 zT [s_1_1.v]] [fS 1 IC s_0 a0]:=S.push 0 O (by first | (simp; done) | (simp; omega) | (simp only [List.length_append]; omega)) hw25 gw25
 clear O
 replace S:=S.front 3
 replace S:=S.front 2
 replace S:=S.front 2
 replace S:St A N w w25 [zm s26 (a1 ++ [r10]),oS zW 1 LC s16 ([s13]),oB b_1 zT [s_1_1.v]] [fS 1 IC s_0 a0]:=St.pushD S
 refine y0 uC rfl rfl (S.blk 2) jL (SlV.one _ _ rfl) rfl fun w29 B hw29 zw29=>?_
 replace S:St A N w w29 [oB b_1 zT [s26.v],zm s26 (a1 ++ [r10]),oS zW 1 LC s16 ([s13])] [fS 1 IC s_0 a0]:=S.store 2 B hw29
 clear B
 refine ze ?_
 refine zg (zd ?_)
 refine wd (zt uC rfl ((S.blk 0).cell rfl)) ?_
 refine wd (ja yL rfl (S.onO 1)) ?_
 refine wd (xC rfl rfl) ?_
 refine wd (zk rfl) ?_
 refine ze ?_
 refine zC ?_
 refine ⟨_,(z1 (zj rfl)),?_⟩
 replace S:St A N w w29 [oB b_1 zT [s26.v],zm s26 (a1 ++ [r10])] []:=S.arr [0,1] []
 obtain rfl:=jN H
 exact ⟨s26,rfl,S⟩
theorem vf {zav:Tb→PTerm→List Int→List (List Int)→Option (List (List Int) × Bool)} (zai : ∀ {A:Nat→Prop} {N:Oth} {w:World} {a0:Tb} {a_0:Option Addr} {g_0_1:Option Addr} {a1:PTerm} {s_1:SlV} {a2:List Int} {s_2:SlV} {a3_0:List (List Int)} {b_3:Nat} {s_3_1:SlV} (S:St A N w w [oB b_3 zT [s_3_1.v],zm s_3_1 a3_0] [oMa a_0 g_0_1 true,oT g_0_1 a0,za s_1 a1.sub,fS 1 IC s_2 a2]) {r:List (List Int) × Bool} (H:zav a0 a1 a2 a3_0=some r),Calls PP xw #[.pointer a_0,.agg (Term.C (⟨a1.kind,a1.name,a1.other,a1.form,s_1⟩ : Term)).toArray,s_2.v,.func (.func xU) #[] #[.pointer (some ⟨b_3,0,none⟩)]] w fun e w' => ∃ v,e = .returned v∧(∃ so0:SlV,v = .bool r.2∧St A N w w' [oB b_3 zT [so0.v],zm so0 r.1] [])) {A:Nat→Prop} {N:Oth} {w:World} {a0:Tb} {a_0:Option Addr} {g_0_1:Option Addr} {a1:PTerm} {s_1:SlV} {a2:List Int} {s_2:SlV} {a3_0:List (List Int)} {b_3:Nat} {s_3_1:SlV} (S:St A N w w [oB b_3 zT [s_3_1.v],zm s_3_1 a3_0] [oMa a_0 g_0_1 true,oT g_0_1 a0,za s_1 a1.sub,fS 1 IC s_2 a2]) {r:List (List Int) × Bool} (H:kY.g zav a0 a1 a2 a3_0=some r) :
  Calls PP xw #[.pointer a_0,.agg (Term.C (⟨a1.kind,a1.name,a1.other,a1.form,s_1⟩ : Term)).toArray,s_2.v,.func (.func xU) #[] #[.pointer (some ⟨b_3,0,none⟩)]] w fun e w' => ∃ v,e = .returned v∧(∃ so0:SlV,v = .bool r.2∧St A N w w' [oB b_3 zT [so0.v],zm so0 r.1] []):=by
 unfold kY.g at H
 refine zE (n:=49) um rfl rfl jL ?_
 refine zg (zd ?_)
 refine zQ rfl jJ fun b2 w1 hw1=>?_
 replace S:St A N w w1 [oB b2 zb (Term.C (⟨a1.kind,a1.name,a1.other,a1.form,s_1⟩ : Term)),oB b_3 zT [s_3_1.v],zm s_3_1 a3_0] [oMa a_0 g_0_1 true,oT g_0_1 a0,za s_1 a1.sub,fS 1 IC s_2 a2]:=S.new hw1
 refine wd (zk rfl) ?_
 refine ze ?_
 refine zg (zg (zd ?_))
 refine wd (zN rfl) ?_
 refine wd (zi zq rfl ((S.blk 0).all _ (Term.len _)) (Term.len _)) ?_
 obtain ⟨r3,er3,H⟩ := zB H
 obtain ⟨B5,MB5,SB5,back⟩ := S.calln 0 ((.z 0 rfl (.z 1 rfl (.z 2 rfl .nil))))
 refine zJ (zH vb) jJ (vd (a1:=a1) SB5 er3) ?_
 rintro _ w4 ⟨rfl,S2⟩
 replace S:St A N w w4 [oB b2 zb (Term.C (⟨a1.kind,a1.name,a1.other,a1.form,s_1⟩ : Term)),oB b_3 zT [s_3_1.v],zm s_3_1 a3_0] [oMa a_0 g_0_1 true,oT g_0_1 a0,za s_1 a1.sub,fS 1 IC s_2 a2]:=back _ _ _ _ S2 rfl
 clear back S2 SB5
 refine wd (xn rfl) ?_
 refine wd (zA rfl rfl) ?_
 refine wd (zA rfl rfl) ?_
 refine zZ vg jJ fun b7 w6 hw6=>?_
 replace S:St A N w w6 [oB b7 zl (RRule.C (zx 8)),oB b2 zb (Term.C (⟨a1.kind,a1.name,a1.other,a1.form,s_1⟩ : Term)),oB b_3 zT [s_3_1.v],zm s_3_1 a3_0] [oMa a_0 g_0_1 true,oT g_0_1 a0,za s_1 a1.sub,fS 1 IC s_2 a2]:=S.new hw6
 refine zy xi rfl rfl (S.blk 0) (RRule.len _) (by rw [RRule.len]; decide) (RRule.one _) (zM (RRule.len _)) fun w8 B hw8 zw8=>?_
 replace S:St A N w w8 [oB b7 zl (RRule.C (zx r3.1)),oB b2 zb (Term.C (⟨a1.kind,a1.name,a1.other,a1.form,s_1⟩ : Term)),oB b_3 zT [s_3_1.v],zm s_3_1 a3_0] [oMa a_0 g_0_1 true,oT g_0_1 a0,za s_1 a1.sub,fS 1 IC s_2 a2]:=S.store 0 B hw8
 clear B
 refine wd (zk rfl) ?_
 refine ze ?_
 refine zg (zd ?_)
 refine wd (zG rfl) ?_
 refine wd (zG rfl) ?_
 refine zu (j:=1) (pol:=true) rfl rfl rfl jJ (fun hg=>vX rfl) jJ ?_
 refine zu (j:=1) (pol:=true) rfl rfl rfl jJ (fun hg=>xa rfl) jJ ?_
 obtain ⟨r9,er9,H⟩ := zB H
 replace S:=S.front 3
 replace S:St A N w w8 [oB b_3 zT [s_3_1.v],zm s_3_1 a3_0,oB b7 zl (RRule.C (zx r3.1)),oB b2 zb (Term.C (⟨a1.kind,a1.name,a1.other,a1.form,s_1⟩ : Term))] [oMa a_0 g_0_1 true,oT g_0_1 a0,za s_1 a1.sub,fS 1 IC s_2 a2]:=S.front 3
 obtain ⟨B11,MB11,SB11,back⟩ := S.calln 2 ((.z 3 rfl .nil))
 refine wl_gturn (R:=fun W => ∃ s12:SlV,St A N w W [oB b_3 zT [s12.v],zm s12 r9.1,oB b7 zl (RRule.C (zx r3.1)),oB b2 zb (Term.C (⟨a1.kind,a1.name,a1.other,a1.form,s_1⟩ : Term))] [oMa a_0 g_0_1 true,oT g_0_1 a0,za s_1 a1.sub,fS 1 IC s_2 a2]) (j:=1) (pol:=true) rfl rfl rfl jJ (fun hg=>does_callvg ca_reduce_Redexes_1 (zw hg) (zX (zw hg) rfl)) jJ (fun hg=>calls_mono (reduce_Redexes_1_st SB11 (if_t (by simpa using hg) er9)) fun _ _ ⟨s12,hv,S2⟩ => ⟨hv,⟨s12,back _ _ _ _ S2 rfl⟩⟩) (fun hg=>by obtain rfl:=jN (if_f (by simpa using hg) er9); exact ⟨s_3_1,S⟩) fun w10 S2=>?_
 obtain ⟨s12,S2⟩ := S2
 replace S:St A N w w10 [oB b_3 zT [s12.v],zm s12 r9.1,oB b7 zl (RRule.C (zx r3.1)),oB b2 zb (Term.C (⟨a1.kind,a1.name,a1.other,a1.form,s_1⟩ : Term))] [oMa a_0 g_0_1 true,oT g_0_1 a0,za s_1 a1.sub,fS 1 IC s_2 a2]:=S2
 clear back S2 SB11
 refine zu (j:=1) (pol:=true) rfl rfl rfl jJ (fun hg=>xp (zw hg)) jJ ?_
 refine wd (xe rfl (fun hp=>(zw (xu hp)))) ?_
 refine ze ?_
 refine zU rfl (fun hc13=>?_) (fun hc13=>?_)
 ·replace H:=if_t hc13 H
  refine zg (zd ?_)
  refine wd (zk rfl) ?_
  refine ze ?_
  refine zC ?_
  refine ⟨_,(z1 (zj rfl)),?_⟩
  replace S:St A N w w10 [oB b_3 zT [s12.v],zm s12 r9.1] []:=S.arr [0,1] []
  obtain rfl:=jN H
  exact ⟨s12,rfl,S⟩
 replace H:=if_f hc13 H
 refine zI ?_
 refine zg (zg (zd ?_))
 refine wd (zh zO rfl (o':=4) rfl) ?_
 refine wd (zt zF rfl ((S.blk 3).cell (Term.get_sub _))) ?_
 refine wd (does_lenF zz rfl (S.onZ 2)) ?_
 refine wd (zp rfl) ?_
 refine ze ?_
 obtain ⟨o14,e14,Ho14⟩ := zB H
 clear H
 refine yi [8,11,12,29,30,31,32,33,34,35,36,37,38,39,40,41,42,43,44,45,46,47,48] (fun fr W => ∃ s14:List (List Int),o14 = .inl s14 ∧ ∃ s15:SlV,St A N w W [oB b_3 zT [s15.v],zm s15 s14,oB b7 zl (RRule.C (zx r3.1)),oB b2 zb (Term.C (⟨a1.kind,a1.name,a1.other,a1.form,s_1⟩ : Term))] [oMa a_0 g_0_1 true,oT g_0_1 a0,za s_1 a1.sub,fS 1 IC s_2 a2]) ?_ ?_
 ·refine zY ?_
  refine x3 (α:=Nat × Int × (List (List Int))) [8,11,12,29,30,31,32,33,34,35,36,37,38,39,40,41,42,43,44,45,46,47,48] (fun x fr W=>(x.1:Int)=(a1.sub.length:Int) - x.2.1∧0 ≤ x.2.1∧forN (fun i s=>kY.b0 a2 zav a0 a1 i s) x.1 x.2.1 x.2.2=some o14 ∧ ∃ s16:SlV,fr 29 = .int .i64 x.2.1∧St A N w W [oB b_3 zT [s16.v],zm s16 (x.2.2),oB b7 zl (RRule.C (zx r3.1)),oB b2 zb (Term.C (⟨a1.kind,a1.name,a1.other,a1.form,s_1⟩ : Term))] [oMa a_0 g_0_1 true,oT g_0_1 a0,za s_1 a1.sub,fS 1 IC s_2 a2]) (fun x=>x.1) (((a1.sub.length:Int) - 0).toNat,0,r9.1) ⟨(by dsimp only; have hle:=Int.natCast_nonneg (a1.sub.length); omega),(Int.le_refl _),(by dsimp only; exact e14),s12,rfl,S⟩ ?_
  rintro ⟨m14,i14,x14_0⟩ g14 u14 ⟨hm14,hl14,e14,s17,q14_i,S⟩
  try dsimp only at hm14
  try dsimp only at hl14
  try dsimp only at e14
  try dsimp only at S
  try dsimp only at q14_i
  refine zg (zd ?_)
  refine wd (xC q14_i rfl) ?_
  refine ze ?_
  refine zg ?_
  refine zU rfl (fun hc18=>?_) (fun hc18=>?_)
  rotate_left
  ·refine yu ?_
   have hge:(a1.sub.length:Int) ≤ i14:=Int.not_lt.1 (of_decide_eq_false hc18)
   obtain rfl:m14=0:=by omega
   replace e14:=forN_0 e14
   exact ⟨rfl,((Dif.self _ _ _).upd rfl _),x14_0,e14,s17,S⟩
  refine zI ?_
  have hlt14:i14 < (a1.sub.length:Int):=of_decide_eq_true hc18
  obtain ⟨m14,rfl⟩ : ∃ m,m14=m + 1:=⟨m14 - 1,by omega⟩
  obtain ⟨q14,H,e14⟩ := forN_s e14
  unfold kY.b0 at H
  try dsimp only at H
  have hb14:=(S.lenFZ 2)
  refine zg ?_
  refine zY ?_
  refine zg (zd ?_)
  refine wd (zp q14_i) ?_
  refine wd (does_indexF zz rfl q14_i (S.onZ 2) (And.intro (show 0 ≤ i14 by omega) (show i14 < (a1.sub.length:Int) from hlt14)).1 (And.intro (show 0 ≤ i14 by omega) (show i14 < (a1.sub.length:Int) from hlt14)).2) ?_
  obtain ⟨s20,hc21,S⟩ := S.viewTerm 2 (And.intro (show 0 ≤ i14 by omega) (show i14 < (a1.sub.length:Int) from hlt14))
  replace S:St A N w u14 [oB b_3 zT [s17.v],zm s17 x14_0,oB b7 zl (RRule.C (zx r3.1)),oB b2 zb (Term.C (⟨a1.kind,a1.name,a1.other,a1.form,s_1⟩ : Term))] [za s20 ((at_ PTerm.z a1.sub i14).sub),oMa a_0 g_0_1 true,oT g_0_1 a0,za s_1 a1.sub,fS 1 IC s_2 a2]:=S
  refine wd (zi zq rfl hc21 (Term.len _)) ?_
  refine zZ xr jJ fun b23 w22 hw22=>?_
  replace S:St A N w w22 [oB b23 zb (Term.C (⟨0,ByteArray.empty,ByteArray.empty,0,SlV.nil⟩ : Term)),oB b_3 zT [s17.v],zm s17 x14_0,oB b7 zl (RRule.C (zx r3.1)),oB b2 zb (Term.C (⟨a1.kind,a1.name,a1.other,a1.form,s_1⟩ : Term))] [za s20 ((at_ PTerm.z a1.sub i14).sub),oMa a_0 g_0_1 true,oT g_0_1 a0,za s_1 a1.sub,fS 1 IC s_2 a2]:=S.new hw22
  refine wd (zn rfl) ?_
  refine zy zq rfl rfl (S.blk 0) (Term.len _) (by rw [Term.len]; decide) (Term.one _) (zM (Term.len _)) fun w24 B hw24 zw24=>?_
  replace S:St A N w w24 [oB b23 zb (Term.C (⟨(at_ PTerm.z a1.sub i14).kind,(at_ PTerm.z a1.sub i14).name,(at_ PTerm.z a1.sub i14).other,(at_ PTerm.z a1.sub i14).form,s20⟩ : Term)),oB b_3 zT [s17.v],zm s17 x14_0,oB b7 zl (RRule.C (zx r3.1)),oB b2 zb (Term.C (⟨a1.kind,a1.name,a1.other,a1.form,s_1⟩ : Term))] [za s20 ((at_ PTerm.z a1.sub i14).sub),oMa a_0 g_0_1 true,oT g_0_1 a0,za s_1 a1.sub,fS 1 IC s_2 a2]:=S.store 0 B hw24
  clear B
  refine ze ?_
  refine zg ?_
  obtain ⟨hs25,H⟩ := xh H
  have hs25:=of_decide_eq_true hs25
  obtain ⟨ha31,H⟩ := xh H
  have ha31:=of_decide_eq_true ha31
  refine yM 12 ⟨fun _ _=>True,fun _ _ _=>True,fun i v _=>match i with
   | 0=>v=Value.pointer a_0
   | 1=>v=Value.agg (Term.C (⟨(at_ PTerm.z a1.sub i14).kind,(at_ PTerm.z a1.sub i14).name,(at_ PTerm.z a1.sub i14).other,(at_ PTerm.z a1.sub i14).form,s20⟩ : Term)).toArray
   | 2=>v=s_2.v
   | 3=>v=s_2.v
   | 4=>v=Value.int .i64 (a2.length:Int)
   | 5=>v=s_2.v
   | 6=>v=Value.int .i64 (a2.length:Int)
   | 8=>v=Value.int .i64 i14
   | 11=>v=Value.func (.func xU) #[] #[.pointer (some ⟨b_3,0,none⟩)]
   | _=>True⟩ (fun L g v => ∃ s30:SlV,∃ O33:List OA,∃ Z32:List OA,(∀ z ∈ [za s20 ((at_ PTerm.z a1.sub i14).sub),oMa a_0 g_0_1 true,oT g_0_1 a0,za s_1 a1.sub,fS 1 IC s_2 a2],z ∈ Z32)∧Made L g Z32 7 41 (fun (c:Unit)=>(⟨s_2.p,Int.toNat (a2.length:Int),Int.toNat (a2.length:Int)⟩ : SlV).v) (fun (c:Unit)=>[fS 1 IC (⟨s_2.p,Int.toNat (a2.length:Int),Int.toNat (a2.length:Int)⟩ : SlV) (a2.take (Int.toNat (a2.length:Int)))])∧Made L g Z32 9 43 (fun (c:SlV)=>c.v) (fun (c:SlV)=>[fS 1 IC c ([i14])])∧(L 10=true→g 44=s30.v)∧O33=((bif L 10 then [oS z7 1 IC s30 ((a2.take (Int.toNat (a2.length:Int))) ++ [i14])] else []) ++ [oB b23 zb (Term.C (⟨(at_ PTerm.z a1.sub i14).kind,(at_ PTerm.z a1.sub i14).name,(at_ PTerm.z a1.sub i14).other,(at_ PTerm.z a1.sub i14).form,s20⟩ : Term)),oB b_3 zT [s17.v],zm s17 x14_0,oB b7 zl (RRule.C (zx r3.1)),oB b2 zb (Term.C (⟨a1.kind,a1.name,a1.other,a1.form,s_1⟩ : Term))])∧St A N w v O33 Z32) hmix jM (fun _ _ _ _ _ _ _ hv=>hv) (fun g=>⟨SlV.nil,_,_,fun _ h=>h,Made.no,Made.no,(fun h=>by cases h),rfl,S.ext (Ext.drawn _)⟩) ⟨?_,?_,?_,?_,?_,?_,?_,?_,?_,?_,?_,?_,trivial⟩ ?_
  ·rintro L g v hL hcl hclo ⟨s30,O33,Z32,hZ,hm7,hm9,hk10,hO,S⟩ 
   have SR:St A N w v [oB b23 zb (Term.C (⟨(at_ PTerm.z a1.sub i14).kind,(at_ PTerm.z a1.sub i14).name,(at_ PTerm.z a1.sub i14).other,(at_ PTerm.z a1.sub i14).form,s20⟩ : Term)),oB b_3 zT [s17.v],zm s17 x14_0,oB b7 zl (RRule.C (zx r3.1)),oB b2 zb (Term.C (⟨a1.kind,a1.name,a1.other,a1.form,s_1⟩ : Term))] (za s20 ((at_ PTerm.z a1.sub i14).sub) :: oMa a_0 g_0_1 true :: oT g_0_1 a0 :: za s_1 a1.sub :: fS 1 IC s_2 a2 :: Z32):=by
    have S2:=S.zneed hZ
    rw [hO] at S2
    exact S2.drops
   refine wd (zN rfl) ?_
   exact ze (ob4 trivial rfl ⟨s30,O33,Z32,hZ,hm7.keep rfl rfl tl0,hm9.keep rfl rfl tl0,(fun h=>by rw [zr _ _ _ _ jJ]; exact hk10 (by rw [zf rfl] at h; exact h)),by rw [hO]; simp only [zf (L:=L) (i:=0) (j:=10) rfl],S⟩)
  ·rintro L g v hL hcl hclo ⟨s30,O33,Z32,hZ,hm7,hm9,hk10,hO,S⟩ 
   have SR:St A N w v [oB b23 zb (Term.C (⟨(at_ PTerm.z a1.sub i14).kind,(at_ PTerm.z a1.sub i14).name,(at_ PTerm.z a1.sub i14).other,(at_ PTerm.z a1.sub i14).form,s20⟩ : Term)),oB b_3 zT [s17.v],zm s17 x14_0,oB b7 zl (RRule.C (zx r3.1)),oB b2 zb (Term.C (⟨a1.kind,a1.name,a1.other,a1.form,s_1⟩ : Term))] (za s20 ((at_ PTerm.z a1.sub i14).sub) :: oMa a_0 g_0_1 true :: oT g_0_1 a0 :: za s_1 a1.sub :: fS 1 IC s_2 a2 :: Z32):=by
    have S2:=S.zneed hZ
    rw [hO] at S2
    exact S2.drops
   refine wd (zi zq rfl ((SR.blk 0).all _ (Term.len _)) (Term.len _)) ?_
   exact ze (ob4 trivial rfl ⟨s30,O33,Z32,hZ,hm7.keep rfl rfl tl0,hm9.keep rfl rfl tl0,(fun h=>by rw [zr _ _ _ _ jJ]; exact hk10 (by rw [zf rfl] at h; exact h)),by rw [hO]; simp only [zf (L:=L) (i:=1) (j:=10) rfl],S⟩)
  ·rintro L g v hL hcl hclo ⟨s30,O33,Z32,hZ,hm7,hm9,hk10,hO,S⟩ 
   have hl10:L 10=false:=by cases h:L 10 with | false=>rfl | true=>exact absurd (hclo 10 2 h jM) (by rw [hL]; decide)
   have SR:St A N w v [oB b23 zb (Term.C (⟨(at_ PTerm.z a1.sub i14).kind,(at_ PTerm.z a1.sub i14).name,(at_ PTerm.z a1.sub i14).other,(at_ PTerm.z a1.sub i14).form,s20⟩ : Term)),oB b_3 zT [s17.v],zm s17 x14_0,oB b7 zl (RRule.C (zx r3.1)),oB b2 zb (Term.C (⟨a1.kind,a1.name,a1.other,a1.form,s_1⟩ : Term))] (za s20 ((at_ PTerm.z a1.sub i14).sub) :: oMa a_0 g_0_1 true :: oT g_0_1 a0 :: za s_1 a1.sub :: fS 1 IC s_2 a2 :: Z32):=by
    have S2:=S.zneed hZ
    rw [hO] at S2
    simp only [hl10,cond_true,cond_false,List.nil_append,List.append_assoc,List.cons_append] at S2
    exact S2
   refine wd (xa rfl) ?_
   exact ze (ob4 trivial rfl ⟨s30,O33,Z32,hZ,hm7.keep rfl rfl tl0,hm9.keep rfl rfl tl0,(fun h=>by rw [zr _ _ _ _ jJ]; exact hk10 (by rw [zf rfl] at h; exact h)),by rw [hO]; simp only [zf (L:=L) (i:=2) (j:=10) rfl],S⟩)
  ·rintro L g v hL hcl hclo ⟨s30,O33,Z32,hZ,hm7,hm9,hk10,hO,S⟩ 
   have hl10:L 10=false:=by cases h:L 10 with | false=>rfl | true=>exact absurd (hclo 10 3 h jM) (by rw [hL]; decide)
   have SR:St A N w v [oB b23 zb (Term.C (⟨(at_ PTerm.z a1.sub i14).kind,(at_ PTerm.z a1.sub i14).name,(at_ PTerm.z a1.sub i14).other,(at_ PTerm.z a1.sub i14).form,s20⟩ : Term)),oB b_3 zT [s17.v],zm s17 x14_0,oB b7 zl (RRule.C (zx r3.1)),oB b2 zb (Term.C (⟨a1.kind,a1.name,a1.other,a1.form,s_1⟩ : Term))] (za s20 ((at_ PTerm.z a1.sub i14).sub) :: oMa a_0 g_0_1 true :: oT g_0_1 a0 :: za s_1 a1.sub :: fS 1 IC s_2 a2 :: Z32):=by
    have S2:=S.zneed hZ
    rw [hO] at S2
    simp only [hl10,cond_true,cond_false,List.nil_append,List.append_assoc,List.cons_append] at S2
    exact S2
   refine wd (xa rfl) ?_
   exact ze (ob4 trivial rfl ⟨s30,O33,Z32,hZ,hm7.keep rfl rfl tl0,hm9.keep rfl rfl tl0,(fun h=>by rw [zr _ _ _ _ jJ]; exact hk10 (by rw [zf rfl] at h; exact h)),by rw [hO]; simp only [zf (L:=L) (i:=3) (j:=10) rfl],S⟩)
  ·rintro L g v hL hcl hclo ⟨s30,O33,Z32,hZ,hm7,hm9,hk10,hO,S⟩ hv3
   have hl10:L 10=false:=by cases h:L 10 with | false=>rfl | true=>exact absurd (hclo 10 4 h jM) (by rw [hL]; decide)
   have SR:St A N w v [oB b23 zb (Term.C (⟨(at_ PTerm.z a1.sub i14).kind,(at_ PTerm.z a1.sub i14).name,(at_ PTerm.z a1.sub i14).other,(at_ PTerm.z a1.sub i14).form,s20⟩ : Term)),oB b_3 zT [s17.v],zm s17 x14_0,oB b7 zl (RRule.C (zx r3.1)),oB b2 zb (Term.C (⟨a1.kind,a1.name,a1.other,a1.form,s_1⟩ : Term))] (za s20 ((at_ PTerm.z a1.sub i14).sub) :: oMa a_0 g_0_1 true :: oT g_0_1 a0 :: za s_1 a1.sub :: fS 1 IC s_2 a2 :: Z32):=by
    have S2:=S.zneed hZ
    rw [hO] at S2
    simp only [hl10,cond_true,cond_false,List.nil_append,List.append_assoc,List.cons_append] at S2
    exact S2
   refine wd (x5 xM hv3 (SR.rd 4)) ?_
   exact ze (ob4 trivial rfl ⟨s30,O33,Z32,hZ,hm7.keep rfl rfl tl0,hm9.keep rfl rfl tl0,(fun h=>by rw [zr _ _ _ _ jJ]; exact hk10 (by rw [zf rfl] at h; exact h)),by rw [hO]; simp only [zf (L:=L) (i:=4) (j:=10) rfl],S⟩)
  ·rintro L g v hL hcl hclo ⟨s30,O33,Z32,hZ,hm7,hm9,hk10,hO,S⟩ 
   have hl10:L 10=false:=by cases h:L 10 with | false=>rfl | true=>exact absurd (hclo 10 5 h jM) (by rw [hL]; decide)
   have SR:St A N w v [oB b23 zb (Term.C (⟨(at_ PTerm.z a1.sub i14).kind,(at_ PTerm.z a1.sub i14).name,(at_ PTerm.z a1.sub i14).other,(at_ PTerm.z a1.sub i14).form,s20⟩ : Term)),oB b_3 zT [s17.v],zm s17 x14_0,oB b7 zl (RRule.C (zx r3.1)),oB b2 zb (Term.C (⟨a1.kind,a1.name,a1.other,a1.form,s_1⟩ : Term))] (za s20 ((at_ PTerm.z a1.sub i14).sub) :: oMa a_0 g_0_1 true :: oT g_0_1 a0 :: za s_1 a1.sub :: fS 1 IC s_2 a2 :: Z32):=by
    have S2:=S.zneed hZ
    rw [hO] at S2
    simp only [hl10,cond_true,cond_false,List.nil_append,List.append_assoc,List.cons_append] at S2
    exact S2
   refine wd (xa rfl) ?_
   exact ze (ob4 trivial rfl ⟨s30,O33,Z32,hZ,hm7.keep rfl rfl tl0,hm9.keep rfl rfl tl0,(fun h=>by rw [zr _ _ _ _ jJ]; exact hk10 (by rw [zf rfl] at h; exact h)),by rw [hO]; simp only [zf (L:=L) (i:=5) (j:=10) rfl],S⟩)
  ·rintro L g v hL hcl hclo ⟨s30,O33,Z32,hZ,hm7,hm9,hk10,hO,S⟩ hv5
   have hl10:L 10=false:=by cases h:L 10 with | false=>rfl | true=>exact absurd (hclo 10 6 h jM) (by rw [hL]; decide)
   have SR:St A N w v [oB b23 zb (Term.C (⟨(at_ PTerm.z a1.sub i14).kind,(at_ PTerm.z a1.sub i14).name,(at_ PTerm.z a1.sub i14).other,(at_ PTerm.z a1.sub i14).form,s20⟩ : Term)),oB b_3 zT [s17.v],zm s17 x14_0,oB b7 zl (RRule.C (zx r3.1)),oB b2 zb (Term.C (⟨a1.kind,a1.name,a1.other,a1.form,s_1⟩ : Term))] (za s20 ((at_ PTerm.z a1.sub i14).sub) :: oMa a_0 g_0_1 true :: oT g_0_1 a0 :: za s_1 a1.sub :: fS 1 IC s_2 a2 :: Z32):=by
    have S2:=S.zneed hZ
    rw [hO] at S2
    simp only [hl10,cond_true,cond_false,List.nil_append,List.append_assoc,List.cons_append] at S2
    exact S2
   refine wd (x5 xM hv5 (SR.rd 4)) ?_
   exact ze (ob4 trivial rfl ⟨s30,O33,Z32,hZ,hm7.keep rfl rfl tl0,hm9.keep rfl rfl tl0,(fun h=>by rw [zr _ _ _ _ jJ]; exact hk10 (by rw [zf rfl] at h; exact h)),by rw [hO]; simp only [zf (L:=L) (i:=6) (j:=10) rfl],S⟩)
  ·rintro L g v hL hcl hclo ⟨s30,O33,Z32,hZ,hm7,hm9,hk10,hO,S⟩ hv2 hv4 hv6
   have hl10:L 10=false:=by cases h:L 10 with | false=>rfl | true=>exact absurd (hclo 10 7 h jM) (by rw [hL]; decide)
   replace S:=S.zneed hZ
   replace S:St A N w v (O33) (za s20 ((at_ PTerm.z a1.sub i14).sub) :: oMa a_0 g_0_1 true :: oT g_0_1 a0 :: za s_1 a1.sub :: fS 1 IC s_2 a2 :: Z32):=S
   have hs34:=hs25
   refine wd (does_clipZ xM hv2 hv4 hv6 (S.rd 4) hs34) ?_
   replace S:St A N w v (O33) (fS 1 IC (⟨s_2.p,Int.toNat (a2.length:Int),Int.toNat (a2.length:Int)⟩ : SlV) (a2.take (Int.toNat (a2.length:Int))) :: za s20 ((at_ PTerm.z a1.sub i14).sub) :: oMa a_0 g_0_1 true :: oT g_0_1 a0 :: za s_1 a1.sub :: fS 1 IC s_2 a2 :: Z32):=S.clipZ 4 hs34
   exact ze (ob4 trivial trivial ⟨s30,O33,_,(fun z h=>tl6 z (hZ z h)),Made.one (val:=(fun (c:Unit)=>(⟨s_2.p,Int.toNat (a2.length:Int),Int.toNat (a2.length:Int)⟩ : SlV).v)) (ps:=(fun (c:Unit)=>[fS 1 IC (⟨s_2.p,Int.toNat (a2.length:Int),Int.toNat (a2.length:Int)⟩ : SlV) (a2.take (Int.toNat (a2.length:Int)))])) () (xP List.mem_cons_self yf),hm9.keep rfl rfl tl6,(fun h=>by rw [zr _ _ _ _ jJ]; exact hk10 (by rw [zf rfl] at h; exact h)),by rw [hO]; simp only [zf (L:=L) (i:=7) (j:=10) rfl],S⟩)
  ·rintro L g v hL hcl hclo ⟨s30,O33,Z32,hZ,hm7,hm9,hk10,hO,S⟩ 
   have hl10:L 10=false:=by cases h:L 10 with | false=>rfl | true=>exact absurd (hclo 10 8 h jM) (by rw [hL]; decide)
   have SR:St A N w v [oB b23 zb (Term.C (⟨(at_ PTerm.z a1.sub i14).kind,(at_ PTerm.z a1.sub i14).name,(at_ PTerm.z a1.sub i14).other,(at_ PTerm.z a1.sub i14).form,s20⟩ : Term)),oB b_3 zT [s17.v],zm s17 x14_0,oB b7 zl (RRule.C (zx r3.1)),oB b2 zb (Term.C (⟨a1.kind,a1.name,a1.other,a1.form,s_1⟩ : Term))] (za s20 ((at_ PTerm.z a1.sub i14).sub) :: oMa a_0 g_0_1 true :: oT g_0_1 a0 :: za s_1 a1.sub :: fS 1 IC s_2 a2 :: Z32):=by
    have S2:=S.zneed hZ
    rw [hO] at S2
    simp only [hl10,cond_true,cond_false,List.nil_append,List.append_assoc,List.cons_append] at S2
    exact S2
   refine wd (zp rfl) ?_
   exact ze (ob4 trivial rfl ⟨s30,O33,Z32,hZ,hm7.keep rfl rfl tl0,hm9.keep rfl rfl tl0,(fun h=>by rw [zr _ _ _ _ jJ]; exact hk10 (by rw [zf rfl] at h; exact h)),by rw [hO]; simp only [zf (L:=L) (i:=8) (j:=10) rfl],S⟩)
  ·rintro L g v hL hcl hclo ⟨s30,O33,Z32,hZ,hm7,hm9,hk10,hO,S⟩ hv8
   have hl10:L 10=false:=by cases h:L 10 with | false=>rfl | true=>exact absurd (hclo 10 9 h jM) (by rw [hL]; decide)
   replace S:=S.zneed hZ
   replace S:St A N w v (O33) (za s20 ((at_ PTerm.z a1.sub i14).sub) :: oMa a_0 g_0_1 true :: oT g_0_1 a0 :: za s_1 a1.sub :: fS 1 IC s_2 a2 :: Z32):=S
   refine ve (C:=IC) (l:=[i14]) (vs:=[.int .i64 i14]) xM el_int.zero (xE hv8 rfl) rfl (fun _ _=>rfl) jJ rfl jJ fun b36 w35 s37 hBw35 hw35=>?_
   replace S:St A N w w35 (oS z7 1 IC s37 ([i14]) :: O33) (za s20 ((at_ PTerm.z a1.sub i14).sub) :: oMa a_0 g_0_1 true :: oT g_0_1 a0 :: za s_1 a1.sub :: fS 1 IC s_2 a2 :: Z32):=S.lit hBw35 hw35 jL
   replace S:St A N w w35 (O33) (fS 1 IC s37 ([i14]) :: za s20 ((at_ PTerm.z a1.sub i14).sub) :: oMa a_0 g_0_1 true :: oT g_0_1 a0 :: za s_1 a1.sub :: fS 1 IC s_2 a2 :: Z32):=S.frzS 0
   exact ze (ob4 trivial trivial ⟨s30,O33,_,(fun z h=>tl6 z (hZ z h)),hm7.keep rfl rfl tl6,Made.one (val:=(fun (c:SlV)=>c.v)) (ps:=(fun (c:SlV)=>[fS 1 IC c ([i14])])) s37 (xP List.mem_cons_self yf),(fun h=>by rw [zr _ _ _ _ jJ]; exact hk10 (by rw [zf rfl] at h; exact h)),by rw [hO]; simp only [zf (L:=L) (i:=9) (j:=10) rfl],S⟩)
  ·rintro L g v hL hcl hclo ⟨s30,O33,Z32,hZ,hm7,hm9,hk10,hO,S⟩ _ _
   obtain ⟨_,he7,hp7⟩ := hm7 (hcl 7 jM)
   obtain ⟨s28,he9,hp9⟩ := hm9 (hcl 9 jM)
   have hl10:L 10=false:=hL
   have hOP : ∃ P Y,P=[]∧Y=[oB b23 zb (Term.C (⟨(at_ PTerm.z a1.sub i14).kind,(at_ PTerm.z a1.sub i14).name,(at_ PTerm.z a1.sub i14).other,(at_ PTerm.z a1.sub i14).form,s20⟩ : Term)),oB b_3 zT [s17.v],zm s17 x14_0,oB b7 zl (RRule.C (zx r3.1)),oB b2 zb (Term.C (⟨a1.kind,a1.name,a1.other,a1.form,s_1⟩ : Term))]∧O33=P ++ ([] ++ Y):=⟨_,_,rfl,rfl,by rw [hO]; simp only [hl10,cond_true,cond_false,List.nil_append,List.append_assoc,List.cons_append]⟩
   obtain ⟨P,Y,hP,hY,hPY⟩ := hOP
   rw [hPY] at S
   replace S:St A N w v (P ++ Y) Z32:=S
   replace S:=S.zneed (xy (l1:=[fS 1 IC (⟨s_2.p,Int.toNat (a2.length:Int),Int.toNat (a2.length:Int)⟩ : SlV) (a2.take (Int.toNat (a2.length:Int)))]) hp7 (xy (l1:=[fS 1 IC s28 ([i14])]) hp9 hZ))
   replace S:St A N w v ((P ++ Y)) (fS 1 IC (⟨s_2.p,Int.toNat (a2.length:Int),Int.toNat (a2.length:Int)⟩ : SlV) (a2.take (Int.toNat (a2.length:Int))) :: fS 1 IC s28 ([i14]) :: za s20 ((at_ PTerm.z a1.sub i14).sub) :: oMa a_0 g_0_1 true :: oT g_0_1 a0 :: za s_1 a1.sub :: fS 1 IC s_2 a2 :: Z32):=S
   have ha40:=ha31
   refine wl_appendZ (C:=IC) xM el_int he7 he9 (S.rd 0) rfl (S.rd 1) jL ha40 jK jJ fun s39 w38 O hw38 gw38=>?_
   replace S:St A N w w38 (oS z7 1 IC s39 ((a2.take (Int.toNat (a2.length:Int))) ++ [i14]) :: (P ++ Y)) (fS 1 IC (⟨s_2.p,Int.toNat (a2.length:Int),Int.toNat (a2.length:Int)⟩ : SlV) (a2.take (Int.toNat (a2.length:Int))) :: fS 1 IC s28 ([i14]) :: za s20 ((at_ PTerm.z a1.sub i14).sub) :: oMa a_0 g_0_1 true :: oT g_0_1 a0 :: za s_1 a1.sub :: fS 1 IC s_2 a2 :: Z32):=S.ownS hw38 O (by first | (simp; done) | (simp; omega) | (simp only [List.length_append]; omega)) gw38
   clear O
   refine ze (ob4 trivial trivial ⟨s39,P ++ ([oS z7 1 IC s39 ((a2.take (Int.toNat (a2.length:Int))) ++ [i14])] ++ Y),_,(fun z h=>tl7 z (hZ z h)),hm7.keep rfl rfl tl7,hm9.keep rfl rfl tl7,(fun _=>upd_same _ _ _),?_,S.ins (P:=[oS z7 1 IC s39 ((a2.take (Int.toNat (a2.length:Int))) ++ [i14])])⟩)
   rw [hP,hY]; simp only [xS (L:=L) (i:=10),cond_true,cond_false,List.nil_append,List.append_assoc,List.cons_append]
  ·rintro L g v hL hcl hclo ⟨s30,O33,Z32,hZ,hm7,hm9,hk10,hO,S⟩ 
   have SR:St A N w v [oB b23 zb (Term.C (⟨(at_ PTerm.z a1.sub i14).kind,(at_ PTerm.z a1.sub i14).name,(at_ PTerm.z a1.sub i14).other,(at_ PTerm.z a1.sub i14).form,s20⟩ : Term)),oB b_3 zT [s17.v],zm s17 x14_0,oB b7 zl (RRule.C (zx r3.1)),oB b2 zb (Term.C (⟨a1.kind,a1.name,a1.other,a1.form,s_1⟩ : Term))] (za s20 ((at_ PTerm.z a1.sub i14).sub) :: oMa a_0 g_0_1 true :: oT g_0_1 a0 :: za s_1 a1.sub :: fS 1 IC s_2 a2 :: Z32):=by
    have S2:=S.zneed hZ
    rw [hO] at S2
    exact S2.drops
   refine wd (vX rfl) ?_
   exact ze (ob4 trivial rfl ⟨s30,O33,Z32,hZ,hm7.keep rfl rfl tl0,hm9.keep rfl rfl tl0,(fun h=>by rw [zr _ _ _ _ jJ]; exact hk10 (by rw [zf rfl] at h; exact h)),by rw [hO]; simp only [zf (L:=L) (i:=11) (j:=10) rfl],S⟩)
  rintro L g w41 hLm ⟨s30,O33,Z32,hZ,hm7,hm9,hk10,hO,S⟩ hv42_0 hv42_1 hv42_2 hv42_3 hv42_4 hv42_5 hv42_6 _ hv42_8 _ _ hv42_11
  have hLt : ∀ j,j < 12→L j=true:=fun j hj=>by rw [hLm]; exact decide_eq_true hj
  obtain ⟨_,hv42_7,hp7⟩ := hm7 (hLt 7 jJ)
  obtain ⟨s28,hv42_9,hp9⟩ := hm9 (hLt 9 jJ)
  have hv42_10:=hk10 (hLt 10 jJ)
  simp only [hLt 10 jJ,cond_true,List.nil_append,List.cons_append] at hO
  rw [hO] at S
  replace S:St A N w w41 [oS z7 1 IC s30 ((a2.take (Int.toNat (a2.length:Int))) ++ [i14]),oB b23 zb (Term.C (⟨(at_ PTerm.z a1.sub i14).kind,(at_ PTerm.z a1.sub i14).name,(at_ PTerm.z a1.sub i14).other,(at_ PTerm.z a1.sub i14).form,s20⟩ : Term)),oB b_3 zT [s17.v],zm s17 x14_0,oB b7 zl (RRule.C (zx r3.1)),oB b2 zb (Term.C (⟨a1.kind,a1.name,a1.other,a1.form,s_1⟩ : Term))] [fS 1 IC (⟨s_2.p,Int.toNat (a2.length:Int),Int.toNat (a2.length:Int)⟩ : SlV) (a2.take (Int.toNat (a2.length:Int))),fS 1 IC s28 ([i14]),za s20 ((at_ PTerm.z a1.sub i14).sub),oMa a_0 g_0_1 true,oT g_0_1 a0,za s_1 a1.sub,fS 1 IC s_2 a2]:=S.pickZ (xy (l1:=[fS 1 IC (⟨s_2.p,Int.toNat (a2.length:Int),Int.toNat (a2.length:Int)⟩ : SlV) (a2.take (Int.toNat (a2.length:Int)))]) hp7 (xy (l1:=[fS 1 IC s28 ([i14])]) hp9 hZ))
  clear hp7 hp9 hZ hm7 hm9
  obtain ⟨r43,er43,H⟩ := zB H
  replace S:=S.front 3
  replace S:St A N w w41 [oB b_3 zT [s17.v],zm s17 x14_0,oS z7 1 IC s30 ((a2.take (Int.toNat (a2.length:Int))) ++ [i14]),oB b23 zb (Term.C (⟨(at_ PTerm.z a1.sub i14).kind,(at_ PTerm.z a1.sub i14).name,(at_ PTerm.z a1.sub i14).other,(at_ PTerm.z a1.sub i14).form,s20⟩ : Term)),oB b7 zl (RRule.C (zx r3.1)),oB b2 zb (Term.C (⟨a1.kind,a1.name,a1.other,a1.form,s_1⟩ : Term))] [fS 1 IC (⟨s_2.p,Int.toNat (a2.length:Int),Int.toNat (a2.length:Int)⟩ : SlV) (a2.take (Int.toNat (a2.length:Int))),fS 1 IC s28 ([i14]),za s20 ((at_ PTerm.z a1.sub i14).sub),oMa a_0 g_0_1 true,oT g_0_1 a0,za s_1 a1.sub,fS 1 IC s_2 a2]:=S.front 3
  obtain ⟨B45,MB45,SB45,back⟩ := S.calln 2 ((.z 3 rfl (.z 4 rfl (.z 2 rfl (.s 0 rfl .nil)))))
  refine zJ (zS yA (zX hv42_0 (zX hv42_1 (zX hv42_10 (zX hv42_11 rfl))))) jJ (zai (a1:=(at_ PTerm.z a1.sub i14)) SB45 er43) ?_
  rintro _ w44 ⟨s46,rfl,S2⟩
  replace S:St A N w w44 [oB b_3 zT [s46.v],zm s46 r43.1,oS z7 1 IC s30 ((a2.take (Int.toNat (a2.length:Int))) ++ [i14]),oB b23 zb (Term.C (⟨(at_ PTerm.z a1.sub i14).kind,(at_ PTerm.z a1.sub i14).name,(at_ PTerm.z a1.sub i14).other,(at_ PTerm.z a1.sub i14).form,s20⟩ : Term)),oB b7 zl (RRule.C (zx r3.1)),oB b2 zb (Term.C (⟨a1.kind,a1.name,a1.other,a1.form,s_1⟩ : Term))] [fS 1 IC (⟨s_2.p,Int.toNat (a2.length:Int),Int.toNat (a2.length:Int)⟩ : SlV) (a2.take (Int.toNat (a2.length:Int))),fS 1 IC s28 ([i14]),za s20 ((at_ PTerm.z a1.sub i14).sub),oMa a_0 g_0_1 true,oT g_0_1 a0,za s_1 a1.sub,fS 1 IC s_2 a2]:=back _ _ _ _ S2 rfl
  clear back S2 SB45
  refine wd (xp rfl) ?_
  refine ze ?_
  refine zU rfl (fun hc47=>?_) (fun hc47=>?_)
  ·replace H:=if_t hc47 H
   refine zg (zd ?_)
   refine wd (zk rfl) ?_
   refine ze ?_
   refine zC ?_
   refine ⟨_,(z1 (zj rfl)),?_⟩
   replace S:St A N w w44 [oB b_3 zT [s46.v],zm s46 r43.1] []:=S.arr [0,1] []
   obtain rfl:=jN H
   obtain rfl:=e14
   obtain rfl:=aft_r Ho14
   exact ⟨s46,rfl,S⟩
  replace H:=if_f hc47 H
  refine zI ?_
  refine zd ?_
  refine wd (xx q14_i rfl (c:=i14 + 1) rfl jK jK) ?_
  refine wd (zp rfl) ?_
  refine ze ?_
  replace S:St A N w w44 [oB b_3 zT [s46.v],zm s46 r43.1,oB b7 zl (RRule.C (zx r3.1)),oB b2 zb (Term.C (⟨a1.kind,a1.name,a1.other,a1.form,s_1⟩ : Term))] [oMa a_0 g_0_1 true,oT g_0_1 a0,za s_1 a1.sub,fS 1 IC s_2 a2]:=S.arr [0,1,4,5] [3,4,5,6]
  obtain rfl:=jN H
  exact ⟨rfl,((((((((((((Dif.self _ _ _).upd rfl _).upd rfl _).upd rfl _).upd rfl _).upd rfl _).upd rfl _).mask rfl _).upd rfl _).upd rfl _).upd rfl _).upd rfl _),(m14,i14 + 1,r43.1),⟨(by dsimp only; omega),(by dsimp only; omega),e14,s46,rfl,S⟩,by dsimp only; omega⟩
 rintro g48 u49 ⟨s14,rfl,s15,S⟩
 have H:=Ho14
 dsimp only [aft] at H
 refine zg (zd ?_)
 refine wd (zk rfl) ?_
 refine ze ?_
 refine zC ?_
 refine ⟨_,(z1 (zj rfl)),?_⟩
 replace S:St A N w u49 [oB b_3 zT [s15.v],zm s15 s14] []:=S.arr [0,1] []
 obtain rfl:=jN H
 exact ⟨s15,rfl,S⟩
theorem vk {a0:Tb} {a_0:Option Addr} {g_0_1:Option Addr} {a1:PTerm} {s_1:SlV} {a2:List Int} {s_2:SlV} {a3_0:List (List Int)} {b_3:Nat} {s_3_1:SlV} (S:St A N w w [oB b_3 zT [s_3_1.v],zm s_3_1 a3_0] [oMa a_0 g_0_1 true,oT g_0_1 a0,za s_1 a1.sub,fS 1 IC s_2 a2]) {k:Nat} {r:List (List Int) × Bool} (H:kY.f k a0 a1 a2 a3_0=some r) :
  Calls PP xw #[.pointer a_0,.agg (Term.C (⟨a1.kind,a1.name,a1.other,a1.form,s_1⟩ : Term)).toArray,s_2.v,.func (.func xU) #[] #[.pointer (some ⟨b_3,0,none⟩)]] w fun e w' => ∃ v,e = .returned v∧(∃ so0:SlV,v = .bool r.2∧St A N w w' [oB b_3 zT [so0.v],zm so0 r.1] []):=by
 have main : ∀ (k:Nat) {A:Nat→Prop} {N:Oth} {w:World} {a0:Tb} {a_0:Option Addr} {g_0_1:Option Addr} {a1:PTerm} {s_1:SlV} {a2:List Int} {s_2:SlV} {a3_0:List (List Int)} {b_3:Nat} {s_3_1:SlV} (S:St A N w w [oB b_3 zT [s_3_1.v],zm s_3_1 a3_0] [oMa a_0 g_0_1 true,oT g_0_1 a0,za s_1 a1.sub,fS 1 IC s_2 a2]) {r:List (List Int) × Bool} (H:kY.f k a0 a1 a2 a3_0=some r),Calls PP xw #[.pointer a_0,.agg (Term.C (⟨a1.kind,a1.name,a1.other,a1.form,s_1⟩ : Term)).toArray,s_2.v,.func (.func xU) #[] #[.pointer (some ⟨b_3,0,none⟩)]] w fun e w' => ∃ v,e = .returned v∧(∃ so0:SlV,v = .bool r.2∧St A N w w' [oB b_3 zT [so0.v],zm so0 r.1] []):=by
  intro k
  induction k with
  | zero=>intro A N w a0 a_0 g_0_1 a1 s_1 a2 s_2 a3_0 b_3 s_3_1 S r H; cases H
  | succ k ih=>intro A N w a0 a_0 g_0_1 a1 s_1 a2 s_2 a3_0 b_3 s_3_1 S r H; exact vf ih S H
 exact main k S H
theorem uo {a0:Tb} {a_0:Option Addr} {a1:PTerm} {s_1:SlV} (S:St A N w w [] [oT a_0 a0,za s_1 a1.sub,oPw]) {k:Nat} {r:List (List Int) × Int} (H:kZ.f k a0 a1=some r) :
  Calls PP jz #[.pointer a_0,.agg (Term.C (⟨a1.kind,a1.name,a1.other,a1.form,s_1⟩ : Term)).toArray] w fun e w' => ∃ v,e = .returned v∧(∃ so0:SlV,v = .tuple #[so0.v,.int .i64 r.2]∧St A N w w' [zm so0 r.1] []):=by
 unfold kZ.f at H
 refine zE (n:=23) fn_reduce_Redexes rfl rfl jL ?_
 refine zg (zd ?_)
 refine zQ rfl jJ fun b2 w1 hw1=>?_
 replace S:St A N w w1 [oB b2 zb (Term.C (⟨a1.kind,a1.name,a1.other,a1.form,s_1⟩ : Term))] [oT a_0 a0,za s_1 a1.sub,oPw]:=S.new hw1
 refine wd (yk) ?_
 refine wd (zn rfl) ?_
 refine ze ?_
 refine zg (zd ?_)
 refine wd (zN rfl) ?_
 refine wd (zi zq rfl ((S.blk 0).all _ (Term.len _)) (Term.len _)) ?_
 obtain ⟨r3,er3,H⟩ := zB H
 obtain ⟨B5,MB5,SB5,back⟩ := S.sub [0,1,2] [] [oB b2 zb (Term.C (⟨a1.kind,a1.name,a1.other,a1.form,s_1⟩ : Term))]
 refine zJ (zH uR) jJ (uT (a1:=a1) SB5 er3) ?_
 rintro _ w4 ⟨a6,rfl,S2⟩
 replace S:St A N w w4 [oB b2 zb (Term.C (⟨a1.kind,a1.name,a1.other,a1.form,s_1⟩ : Term))] [oMa a6 a_0 r3.1,oT a_0 a0,za s_1 a1.sub,oPw]:=back _ _ _ _ _ S2 rfl rfl
 clear back S2 SB5
 refine wd (xn rfl) ?_
 refine wd (zA rfl rfl) ?_
 refine wd (zA rfl rfl) ?_
 refine wd (x4 rfl) ?_
 refine wd (zn rfl) ?_
 refine ze ?_
 refine zg (zg (zd ?_))
 refine wd (zp rfl) ?_
 refine wd (xN rfl rfl) ?_
 refine ze ?_
 refine zU rfl (fun hc7=>?_) (fun hc7=>?_)
 ·replace H:=if_t hc7 H
  refine zg (zd ?_)
  refine wd (zp rfl) ?_
  refine wd (yk) ?_
  refine wd (zn rfl) ?_
  refine ze ?_
  refine zC ?_
  replace S:St A N w w4 [zm SlV.nil ([]:List (List Int)),oB b2 zb (Term.C (⟨a1.kind,a1.name,a1.other,a1.form,s_1⟩ : Term))] [oMa a6 a_0 r3.1,oT a_0 a0,za s_1 a1.sub,oPw]:=S.nilD zW 1 L_int.C rL_int
  refine ⟨_,(xB (zj rfl) (zj rfl)),?_⟩
  replace S:St A N w w4 [zm SlV.nil ([]:List (List Int))] []:=S.arr [0] []
  obtain rfl:=jN H
  exact ⟨SlV.nil,rfl,S⟩
 replace H:=if_f hc7 H
 refine zI ?_
 refine zg (zd ?_)
 refine zZ zs_L_L_int jJ fun b9 w8 hw8=>?_
 replace S:St A N w w8 [oB b9 zT [SlV.nil.v],oB b2 zb (Term.C (⟨a1.kind,a1.name,a1.other,a1.form,s_1⟩ : Term))] [oMa a6 a_0 r3.1,oT a_0 a0,za s_1 a1.sub,oPw]:=S.new hw8
 refine ze ?_
 refine zg (zd ?_)
 refine wd (zN rfl) ?_
 refine wd (zi zq rfl ((S.blk 1).all _ (Term.len _)) (Term.len _)) ?_
 refine wd (does_funcl) ?_
 replace S:St A N w w8 [zm SlV.nil ([]:List (List Int)),oB b9 zT [SlV.nil.v],oB b2 zb (Term.C (⟨a1.kind,a1.name,a1.other,a1.form,s_1⟩ : Term))] [oMa a6 a_0 r3.1,oT a_0 a0,za s_1 a1.sub,oPw]:=S.nilD zW 1 L_int.C rL_int
 obtain ⟨ht11,H⟩ := xh H
 rw [ht11] at S
 replace S:St A N w w8 [zm SlV.nil ([]:List (List Int)),oB b9 zT [SlV.nil.v],oB b2 zb (Term.C (⟨a1.kind,a1.name,a1.other,a1.form,s_1⟩ : Term))] [fS 1 IC SlV.nil ([]),oMa a6 a_0 true,oT a_0 a0,za s_1 a1.sub,oPw]:=S.nilZ 1 IC
 obtain ⟨r10,er10,H⟩ := zB H
 replace S:St A N w w8 [oB b9 zT [SlV.nil.v],zm SlV.nil ([]:List (List Int)),oB b2 zb (Term.C (⟨a1.kind,a1.name,a1.other,a1.form,s_1⟩ : Term))] [fS 1 IC SlV.nil ([]),oMa a6 a_0 true,oT a_0 a0,za s_1 a1.sub,oPw]:=S.front 1
 obtain ⟨B13,MB13,SB13,back⟩ := S.calln 2 ((.z 1 rfl (.z 2 rfl (.z 3 rfl (.z 0 rfl .nil)))))
 refine zJ (zS yA (zX rfl (zX rfl (zX SlV.nil_eq (zX rfl rfl))))) jJ (vk (a1:=a1) SB13 er10) ?_
 rintro _ w12 ⟨s14,rfl,S2⟩
 replace S:St A N w w12 [oB b9 zT [s14.v],zm s14 r10.1,oB b2 zb (Term.C (⟨a1.kind,a1.name,a1.other,a1.form,s_1⟩ : Term))] [fS 1 IC SlV.nil ([]),oMa a6 a_0 true,oT a_0 a0,za s_1 a1.sub,oPw]:=back _ _ _ _ S2 rfl
 clear back S2 SB13
 refine ze ?_
 refine zg (zd ?_)
 refine wd (zt uC rfl ((S.blk 0).cell rfl)) ?_
 refine wd (vV rfl) ?_
 refine wd (zn rfl) ?_
 refine ze ?_
 refine zC ?_
 refine ⟨_,(xB (zj rfl) (zj rfl)),?_⟩
 replace S:St A N w w12 [zm s14 r10.1] []:=S.arr [1] []
 obtain rfl:=jN H
 exact ⟨s14,rfl,S⟩
theorem jF {a0:Tb} {a_0:Option Addr} {a1:PTerm} {s_1:SlV} (S:St A N w w [] [oT a_0 a0,za s_1 a1.sub,oPw]) {k:Nat} {r:Bool × Int} (H:k0.f k a0 a1=some r) :
  Calls PP F_reduce_Normal #[.pointer a_0,.agg (Term.C (⟨a1.kind,a1.name,a1.other,a1.form,s_1⟩ : Term)).toArray] w fun e w' => ∃ v,e = .returned v∧(v = .tuple #[.bool r.1,.int .i64 r.2]∧St A N w w' [] []):=by
 unfold k0.f at H
 refine zE (n:=22) fn_reduce_Normal rfl rfl jL ?_
 refine zg (zd ?_)
 refine zQ rfl jJ fun b2 w1 hw1=>?_
 replace S:St A N w w1 [oB b2 zb (Term.C (⟨a1.kind,a1.name,a1.other,a1.form,s_1⟩ : Term))] [oT a_0 a0,za s_1 a1.sub,oPw]:=S.new hw1
 refine wd (zk rfl) ?_
 refine wd (zn rfl) ?_
 refine ze ?_
 refine zg (zd ?_)
 refine wd (zN rfl) ?_
 refine wd (zi zq rfl ((S.blk 0).all _ (Term.len _)) (Term.len _)) ?_
 obtain ⟨r3,er3,H⟩ := zB H
 obtain ⟨B5,MB5,SB5,back⟩ := S.calln 0 ((.z 0 rfl (.z 1 rfl (.z 2 rfl .nil))))
 refine zJ (zH ug) jJ (uo (a1:=a1) SB5 er3) ?_
 rintro _ w4 ⟨s6,rfl,S2⟩
 replace S:St A N w w4 [zm s6 r3.1,oB b2 zb (Term.C (⟨a1.kind,a1.name,a1.other,a1.form,s_1⟩ : Term))] [oT a_0 a0,za s_1 a1.sub,oPw]:=back _ _ _ _ S2 rfl
 clear back S2 SB5
 refine wd (xn rfl) ?_
 refine wd (zA rfl rfl) ?_
 refine wd (zA rfl rfl) ?_
 refine wd (vV rfl) ?_
 refine wd (zn rfl) ?_
 refine ze ?_
 refine zg (zd ?_)
 refine wd (zp rfl) ?_
 refine wd (xb rfl rfl) ?_
 refine wd (zG rfl) ?_
 refine zu (j:=2) (pol:=true) rfl rfl rfl jJ (fun hg=>xa rfl) jJ ?_
 refine zu (j:=2) (pol:=true) rfl rfl rfl jJ (fun hg=>ja yL (zw hg) (S.onO 0)) jJ ?_
 refine zu (j:=2) (pol:=true) rfl rfl rfl jJ (fun hg=>xb (zw hg) rfl) jJ ?_
 refine wd (xe rfl (fun hp=>(zw (xu hp)))) ?_
 refine wd (zp rfl) ?_
 refine wd (zk rfl) ?_
 refine wd (zn rfl) ?_
 refine ze ?_
 refine zC ?_
 refine ⟨_,(xB (zj rfl) (zj rfl)),?_⟩
 replace S:St A N w w4 [] []:=S.arr [] []
 obtain rfl:=jN H
 exact ⟨rfl,S⟩
theorem reduce_Run_1_st {a0:List Int} {s_0:SlV} {a1:List Int} {b_1:Nat} {s_1_1:SlV} (S:St A N w w [oB b_1 zW [s_1_1.v],oS z7 1 IC s_1_1 a1] [fS 1 IC s_0 a0]) {r:List Int × Bool} (H:k3.f a0 a1=some r) :
  Calls PP yK #[s_0.v,.pointer (some ⟨b_1,0,none⟩)] w fun e w' => ∃ v,e = .returned v∧(∃ so0:SlV,v = .bool r.2∧St A N w w' [oB b_1 zW [so0.v],oS z7 1 IC so0 r.1] []):=by
 unfold k3.f at H
 refine zE (n:=6) fn_reduce_Run_1 rfl rfl jL ?_
 refine zg (zd ?_)
 refine wd (zk rfl) ?_
 refine ze ?_
 refine zg (zd ?_)
 refine wd (xa rfl) ?_
 obtain ⟨r1,er1,H⟩ := zB H
 obtain ⟨B3,MB3,SB3,back⟩ := S.calln 0 ((.z 0 rfl .nil))
 refine zJ (zH vU) jJ (vY SB3 er1) ?_
 rintro _ w2 ⟨s4,rfl,S2⟩
 replace S:St A N w w2 [oS z7 1 IC s4 r1,oB b_1 zW [s_1_1.v],oS z7 1 IC s_1_1 a1] [fS 1 IC s_0 a0]:=back _ _ _ _ S2 rfl
 clear back S2 SB3
 refine y0 on_L_int rfl rfl (S.blk 1) jL (SlV.one _ _ rfl) rfl fun w5 B hw5 zw5=>?_
 replace S:St A N w w5 [oB b_1 zW [s4.v],oS z7 1 IC s4 r1,oS z7 1 IC s_1_1 a1] [fS 1 IC s_0 a0]:=S.store 1 B hw5
 clear B
 refine ze ?_
 refine zg (zd ?_)
 refine wd (zk rfl) ?_
 refine ze ?_
 refine zC ?_
 refine ⟨_,(z1 (zj rfl)),?_⟩
 replace S:St A N w w5 [oB b_1 zW [s4.v],oS z7 1 IC s4 r1] []:=S.arr [0,1] []
 obtain rfl:=jN H
 exact ⟨s4,rfl,S⟩
theorem vD {zaw:Tb→PTerm→List Int→List Int→Option (List Int × Bool)} (zaj : ∀ {A:Nat→Prop} {N:Oth} {w:World} {a0:Tb} {a_0:Option Addr} {g_0_1:Option Addr} {a1:PTerm} {s_1:SlV} {a2:List Int} {s_2:SlV} {a3_0:List Int} {b_3:Nat} {s_3_1:SlV} (S:St A N w w [oB b_3 zW [s_3_1.v],oS z7 1 IC s_3_1 a3_0] [oMa a_0 g_0_1 true,oT g_0_1 a0,za s_1 a1.sub,fS 1 IC s_2 a2]) {r:List Int × Bool} (H:zaw a0 a1 a2 a3_0=some r),Calls PP xw #[.pointer a_0,.agg (Term.C (⟨a1.kind,a1.name,a1.other,a1.form,s_1⟩ : Term)).toArray,s_2.v,.func (.func yK) #[] #[.pointer (some ⟨b_3,0,none⟩)]] w fun e w' => ∃ v,e = .returned v∧(∃ so0:SlV,v = .bool r.2∧St A N w w' [oB b_3 zW [so0.v],oS z7 1 IC so0 r.1] [])) {A:Nat→Prop} {N:Oth} {w:World} {a0:Tb} {a_0:Option Addr} {g_0_1:Option Addr} {a1:PTerm} {s_1:SlV} {a2:List Int} {s_2:SlV} {a3_0:List Int} {b_3:Nat} {s_3_1:SlV} (S:St A N w w [oB b_3 zW [s_3_1.v],oS z7 1 IC s_3_1 a3_0] [oMa a_0 g_0_1 true,oT g_0_1 a0,za s_1 a1.sub,fS 1 IC s_2 a2]) {r:List Int × Bool} (H:k4.g zaw a0 a1 a2 a3_0=some r) :
  Calls PP xw #[.pointer a_0,.agg (Term.C (⟨a1.kind,a1.name,a1.other,a1.form,s_1⟩ : Term)).toArray,s_2.v,.func (.func yK) #[] #[.pointer (some ⟨b_3,0,none⟩)]] w fun e w' => ∃ v,e = .returned v∧(∃ so0:SlV,v = .bool r.2∧St A N w w' [oB b_3 zW [so0.v],oS z7 1 IC so0 r.1] []):=by
 unfold k4.g at H
 refine zE (n:=49) um rfl rfl jL ?_
 refine zg (zd ?_)
 refine zQ rfl jJ fun b2 w1 hw1=>?_
 replace S:St A N w w1 [oB b2 zb (Term.C (⟨a1.kind,a1.name,a1.other,a1.form,s_1⟩ : Term)),oB b_3 zW [s_3_1.v],oS z7 1 IC s_3_1 a3_0] [oMa a_0 g_0_1 true,oT g_0_1 a0,za s_1 a1.sub,fS 1 IC s_2 a2]:=S.new hw1
 refine wd (zk rfl) ?_
 refine ze ?_
 refine zg (zg (zd ?_))
 refine wd (zN rfl) ?_
 refine wd (zi zq rfl ((S.blk 0).all _ (Term.len _)) (Term.len _)) ?_
 obtain ⟨r3,er3,H⟩ := zB H
 obtain ⟨B5,MB5,SB5,back⟩ := S.calln 0 ((.z 0 rfl (.z 1 rfl (.z 2 rfl .nil))))
 refine zJ (zH vb) jJ (vd (a1:=a1) SB5 er3) ?_
 rintro _ w4 ⟨rfl,S2⟩
 replace S:St A N w w4 [oB b2 zb (Term.C (⟨a1.kind,a1.name,a1.other,a1.form,s_1⟩ : Term)),oB b_3 zW [s_3_1.v],oS z7 1 IC s_3_1 a3_0] [oMa a_0 g_0_1 true,oT g_0_1 a0,za s_1 a1.sub,fS 1 IC s_2 a2]:=back _ _ _ _ S2 rfl
 clear back S2 SB5
 refine wd (xn rfl) ?_
 refine wd (zA rfl rfl) ?_
 refine wd (zA rfl rfl) ?_
 refine zZ vg jJ fun b7 w6 hw6=>?_
 replace S:St A N w w6 [oB b7 zl (RRule.C (zx 8)),oB b2 zb (Term.C (⟨a1.kind,a1.name,a1.other,a1.form,s_1⟩ : Term)),oB b_3 zW [s_3_1.v],oS z7 1 IC s_3_1 a3_0] [oMa a_0 g_0_1 true,oT g_0_1 a0,za s_1 a1.sub,fS 1 IC s_2 a2]:=S.new hw6
 refine zy xi rfl rfl (S.blk 0) (RRule.len _) (by rw [RRule.len]; decide) (RRule.one _) (zM (RRule.len _)) fun w8 B hw8 zw8=>?_
 replace S:St A N w w8 [oB b7 zl (RRule.C (zx r3.1)),oB b2 zb (Term.C (⟨a1.kind,a1.name,a1.other,a1.form,s_1⟩ : Term)),oB b_3 zW [s_3_1.v],oS z7 1 IC s_3_1 a3_0] [oMa a_0 g_0_1 true,oT g_0_1 a0,za s_1 a1.sub,fS 1 IC s_2 a2]:=S.store 0 B hw8
 clear B
 refine wd (zk rfl) ?_
 refine ze ?_
 refine zg (zd ?_)
 refine wd (zG rfl) ?_
 refine wd (zG rfl) ?_
 refine zu (j:=1) (pol:=true) rfl rfl rfl jJ (fun hg=>vX rfl) jJ ?_
 refine zu (j:=1) (pol:=true) rfl rfl rfl jJ (fun hg=>xa rfl) jJ ?_
 obtain ⟨r9,er9,H⟩ := zB H
 replace S:=S.front 3
 replace S:St A N w w8 [oB b_3 zW [s_3_1.v],oS z7 1 IC s_3_1 a3_0,oB b7 zl (RRule.C (zx r3.1)),oB b2 zb (Term.C (⟨a1.kind,a1.name,a1.other,a1.form,s_1⟩ : Term))] [oMa a_0 g_0_1 true,oT g_0_1 a0,za s_1 a1.sub,fS 1 IC s_2 a2]:=S.front 3
 obtain ⟨B11,MB11,SB11,back⟩ := S.calln 2 ((.z 3 rfl .nil))
 refine wl_gturn (R:=fun W => ∃ s12:SlV,St A N w W [oB b_3 zW [s12.v],oS z7 1 IC s12 r9.1,oB b7 zl (RRule.C (zx r3.1)),oB b2 zb (Term.C (⟨a1.kind,a1.name,a1.other,a1.form,s_1⟩ : Term))] [oMa a_0 g_0_1 true,oT g_0_1 a0,za s_1 a1.sub,fS 1 IC s_2 a2]) (j:=1) (pol:=true) rfl rfl rfl jJ (fun hg=>does_callvg ca_reduce_Run_1 (zw hg) (zX (zw hg) rfl)) jJ (fun hg=>calls_mono (reduce_Run_1_st SB11 (if_t (by simpa using hg) er9)) fun _ _ ⟨s12,hv,S2⟩ => ⟨hv,⟨s12,back _ _ _ _ S2 rfl⟩⟩) (fun hg=>by obtain rfl:=jN (if_f (by simpa using hg) er9); exact ⟨s_3_1,S⟩) fun w10 S2=>?_
 obtain ⟨s12,S2⟩ := S2
 replace S:St A N w w10 [oB b_3 zW [s12.v],oS z7 1 IC s12 r9.1,oB b7 zl (RRule.C (zx r3.1)),oB b2 zb (Term.C (⟨a1.kind,a1.name,a1.other,a1.form,s_1⟩ : Term))] [oMa a_0 g_0_1 true,oT g_0_1 a0,za s_1 a1.sub,fS 1 IC s_2 a2]:=S2
 clear back S2 SB11
 refine zu (j:=1) (pol:=true) rfl rfl rfl jJ (fun hg=>xp (zw hg)) jJ ?_
 refine wd (xe rfl (fun hp=>(zw (xu hp)))) ?_
 refine ze ?_
 refine zU rfl (fun hc13=>?_) (fun hc13=>?_)
 ·replace H:=if_t hc13 H
  refine zg (zd ?_)
  refine wd (zk rfl) ?_
  refine ze ?_
  refine zC ?_
  refine ⟨_,(z1 (zj rfl)),?_⟩
  replace S:St A N w w10 [oB b_3 zW [s12.v],oS z7 1 IC s12 r9.1] []:=S.arr [0,1] []
  obtain rfl:=jN H
  exact ⟨s12,rfl,S⟩
 replace H:=if_f hc13 H
 refine zI ?_
 refine zg (zg (zd ?_))
 refine wd (zh zO rfl (o':=4) rfl) ?_
 refine wd (zt zF rfl ((S.blk 3).cell (Term.get_sub _))) ?_
 refine wd (does_lenF zz rfl (S.onZ 2)) ?_
 refine wd (zp rfl) ?_
 refine ze ?_
 obtain ⟨o14,e14,Ho14⟩ := zB H
 clear H
 refine yi [8,11,12,29,30,31,32,33,34,35,36,37,38,39,40,41,42,43,44,45,46,47,48] (fun fr W => ∃ s14:List Int,o14 = .inl s14 ∧ ∃ s15:SlV,St A N w W [oB b_3 zW [s15.v],oS z7 1 IC s15 s14,oB b7 zl (RRule.C (zx r3.1)),oB b2 zb (Term.C (⟨a1.kind,a1.name,a1.other,a1.form,s_1⟩ : Term))] [oMa a_0 g_0_1 true,oT g_0_1 a0,za s_1 a1.sub,fS 1 IC s_2 a2]) ?_ ?_
 ·refine zY ?_
  refine x3 (α:=Nat × Int × (List Int)) [8,11,12,29,30,31,32,33,34,35,36,37,38,39,40,41,42,43,44,45,46,47,48] (fun x fr W=>(x.1:Int)=(a1.sub.length:Int) - x.2.1∧0 ≤ x.2.1∧forN (fun i s=>k4.b0 a2 zaw a0 a1 i s) x.1 x.2.1 x.2.2=some o14 ∧ ∃ s16:SlV,fr 29 = .int .i64 x.2.1∧St A N w W [oB b_3 zW [s16.v],oS z7 1 IC s16 (x.2.2),oB b7 zl (RRule.C (zx r3.1)),oB b2 zb (Term.C (⟨a1.kind,a1.name,a1.other,a1.form,s_1⟩ : Term))] [oMa a_0 g_0_1 true,oT g_0_1 a0,za s_1 a1.sub,fS 1 IC s_2 a2]) (fun x=>x.1) (((a1.sub.length:Int) - 0).toNat,0,r9.1) ⟨(by dsimp only; have hle:=Int.natCast_nonneg (a1.sub.length); omega),(Int.le_refl _),(by dsimp only; exact e14),s12,rfl,S⟩ ?_
  rintro ⟨m14,i14,x14_0⟩ g14 u14 ⟨hm14,hl14,e14,s17,q14_i,S⟩
  try dsimp only at hm14
  try dsimp only at hl14
  try dsimp only at e14
  try dsimp only at S
  try dsimp only at q14_i
  refine zg (zd ?_)
  refine wd (xC q14_i rfl) ?_
  refine ze ?_
  refine zg ?_
  refine zU rfl (fun hc18=>?_) (fun hc18=>?_)
  rotate_left
  ·refine yu ?_
   have hge:(a1.sub.length:Int) ≤ i14:=Int.not_lt.1 (of_decide_eq_false hc18)
   obtain rfl:m14=0:=by omega
   replace e14:=forN_0 e14
   exact ⟨rfl,((Dif.self _ _ _).upd rfl _),x14_0,e14,s17,S⟩
  refine zI ?_
  have hlt14:i14 < (a1.sub.length:Int):=of_decide_eq_true hc18
  obtain ⟨m14,rfl⟩ : ∃ m,m14=m + 1:=⟨m14 - 1,by omega⟩
  obtain ⟨q14,H,e14⟩ := forN_s e14
  unfold k4.b0 at H
  try dsimp only at H
  have hb14:=(S.lenFZ 2)
  refine zg ?_
  refine zY ?_
  refine zg (zd ?_)
  refine wd (zp q14_i) ?_
  refine wd (does_indexF zz rfl q14_i (S.onZ 2) (And.intro (show 0 ≤ i14 by omega) (show i14 < (a1.sub.length:Int) from hlt14)).1 (And.intro (show 0 ≤ i14 by omega) (show i14 < (a1.sub.length:Int) from hlt14)).2) ?_
  obtain ⟨s20,hc21,S⟩ := S.viewTerm 2 (And.intro (show 0 ≤ i14 by omega) (show i14 < (a1.sub.length:Int) from hlt14))
  replace S:St A N w u14 [oB b_3 zW [s17.v],oS z7 1 IC s17 x14_0,oB b7 zl (RRule.C (zx r3.1)),oB b2 zb (Term.C (⟨a1.kind,a1.name,a1.other,a1.form,s_1⟩ : Term))] [za s20 ((at_ PTerm.z a1.sub i14).sub),oMa a_0 g_0_1 true,oT g_0_1 a0,za s_1 a1.sub,fS 1 IC s_2 a2]:=S
  refine wd (zi zq rfl hc21 (Term.len _)) ?_
  refine zZ xr jJ fun b23 w22 hw22=>?_
  replace S:St A N w w22 [oB b23 zb (Term.C (⟨0,ByteArray.empty,ByteArray.empty,0,SlV.nil⟩ : Term)),oB b_3 zW [s17.v],oS z7 1 IC s17 x14_0,oB b7 zl (RRule.C (zx r3.1)),oB b2 zb (Term.C (⟨a1.kind,a1.name,a1.other,a1.form,s_1⟩ : Term))] [za s20 ((at_ PTerm.z a1.sub i14).sub),oMa a_0 g_0_1 true,oT g_0_1 a0,za s_1 a1.sub,fS 1 IC s_2 a2]:=S.new hw22
  refine wd (zn rfl) ?_
  refine zy zq rfl rfl (S.blk 0) (Term.len _) (by rw [Term.len]; decide) (Term.one _) (zM (Term.len _)) fun w24 B hw24 zw24=>?_
  replace S:St A N w w24 [oB b23 zb (Term.C (⟨(at_ PTerm.z a1.sub i14).kind,(at_ PTerm.z a1.sub i14).name,(at_ PTerm.z a1.sub i14).other,(at_ PTerm.z a1.sub i14).form,s20⟩ : Term)),oB b_3 zW [s17.v],oS z7 1 IC s17 x14_0,oB b7 zl (RRule.C (zx r3.1)),oB b2 zb (Term.C (⟨a1.kind,a1.name,a1.other,a1.form,s_1⟩ : Term))] [za s20 ((at_ PTerm.z a1.sub i14).sub),oMa a_0 g_0_1 true,oT g_0_1 a0,za s_1 a1.sub,fS 1 IC s_2 a2]:=S.store 0 B hw24
  clear B
  refine ze ?_
  refine zg ?_
  obtain ⟨hs25,H⟩ := xh H
  have hs25:=of_decide_eq_true hs25
  obtain ⟨ha31,H⟩ := xh H
  have ha31:=of_decide_eq_true ha31
  refine yM 12 ⟨fun _ _=>True,fun _ _ _=>True,fun i v _=>match i with
   | 0=>v=Value.pointer a_0
   | 1=>v=Value.agg (Term.C (⟨(at_ PTerm.z a1.sub i14).kind,(at_ PTerm.z a1.sub i14).name,(at_ PTerm.z a1.sub i14).other,(at_ PTerm.z a1.sub i14).form,s20⟩ : Term)).toArray
   | 2=>v=s_2.v
   | 3=>v=s_2.v
   | 4=>v=Value.int .i64 (a2.length:Int)
   | 5=>v=s_2.v
   | 6=>v=Value.int .i64 (a2.length:Int)
   | 8=>v=Value.int .i64 i14
   | 11=>v=Value.func (.func yK) #[] #[.pointer (some ⟨b_3,0,none⟩)]
   | _=>True⟩ (fun L g v => ∃ s30:SlV,∃ O33:List OA,∃ Z32:List OA,(∀ z ∈ [za s20 ((at_ PTerm.z a1.sub i14).sub),oMa a_0 g_0_1 true,oT g_0_1 a0,za s_1 a1.sub,fS 1 IC s_2 a2],z ∈ Z32)∧Made L g Z32 7 41 (fun (c:Unit)=>(⟨s_2.p,Int.toNat (a2.length:Int),Int.toNat (a2.length:Int)⟩ : SlV).v) (fun (c:Unit)=>[fS 1 IC (⟨s_2.p,Int.toNat (a2.length:Int),Int.toNat (a2.length:Int)⟩ : SlV) (a2.take (Int.toNat (a2.length:Int)))])∧Made L g Z32 9 43 (fun (c:SlV)=>c.v) (fun (c:SlV)=>[fS 1 IC c ([i14])])∧(L 10=true→g 44=s30.v)∧O33=((bif L 10 then [oS z7 1 IC s30 ((a2.take (Int.toNat (a2.length:Int))) ++ [i14])] else []) ++ [oB b23 zb (Term.C (⟨(at_ PTerm.z a1.sub i14).kind,(at_ PTerm.z a1.sub i14).name,(at_ PTerm.z a1.sub i14).other,(at_ PTerm.z a1.sub i14).form,s20⟩ : Term)),oB b_3 zW [s17.v],oS z7 1 IC s17 x14_0,oB b7 zl (RRule.C (zx r3.1)),oB b2 zb (Term.C (⟨a1.kind,a1.name,a1.other,a1.form,s_1⟩ : Term))])∧St A N w v O33 Z32) hmix jM (fun _ _ _ _ _ _ _ hv=>hv) (fun g=>⟨SlV.nil,_,_,fun _ h=>h,Made.no,Made.no,(fun h=>by cases h),rfl,S.ext (Ext.drawn _)⟩) ⟨?_,?_,?_,?_,?_,?_,?_,?_,?_,?_,?_,?_,trivial⟩ ?_
  ·rintro L g v hL hcl hclo ⟨s30,O33,Z32,hZ,hm7,hm9,hk10,hO,S⟩ 
   have SR:St A N w v [oB b23 zb (Term.C (⟨(at_ PTerm.z a1.sub i14).kind,(at_ PTerm.z a1.sub i14).name,(at_ PTerm.z a1.sub i14).other,(at_ PTerm.z a1.sub i14).form,s20⟩ : Term)),oB b_3 zW [s17.v],oS z7 1 IC s17 x14_0,oB b7 zl (RRule.C (zx r3.1)),oB b2 zb (Term.C (⟨a1.kind,a1.name,a1.other,a1.form,s_1⟩ : Term))] (za s20 ((at_ PTerm.z a1.sub i14).sub) :: oMa a_0 g_0_1 true :: oT g_0_1 a0 :: za s_1 a1.sub :: fS 1 IC s_2 a2 :: Z32):=by
    have S2:=S.zneed hZ
    rw [hO] at S2
    exact S2.drops
   refine wd (zN rfl) ?_
   exact ze (ob4 trivial rfl ⟨s30,O33,Z32,hZ,hm7.keep rfl rfl tl0,hm9.keep rfl rfl tl0,(fun h=>by rw [zr _ _ _ _ jJ]; exact hk10 (by rw [zf rfl] at h; exact h)),by rw [hO]; simp only [zf (L:=L) (i:=0) (j:=10) rfl],S⟩)
  ·rintro L g v hL hcl hclo ⟨s30,O33,Z32,hZ,hm7,hm9,hk10,hO,S⟩ 
   have SR:St A N w v [oB b23 zb (Term.C (⟨(at_ PTerm.z a1.sub i14).kind,(at_ PTerm.z a1.sub i14).name,(at_ PTerm.z a1.sub i14).other,(at_ PTerm.z a1.sub i14).form,s20⟩ : Term)),oB b_3 zW [s17.v],oS z7 1 IC s17 x14_0,oB b7 zl (RRule.C (zx r3.1)),oB b2 zb (Term.C (⟨a1.kind,a1.name,a1.other,a1.form,s_1⟩ : Term))] (za s20 ((at_ PTerm.z a1.sub i14).sub) :: oMa a_0 g_0_1 true :: oT g_0_1 a0 :: za s_1 a1.sub :: fS 1 IC s_2 a2 :: Z32):=by
    have S2:=S.zneed hZ
    rw [hO] at S2
    exact S2.drops
   refine wd (zi zq rfl ((SR.blk 0).all _ (Term.len _)) (Term.len _)) ?_
   exact ze (ob4 trivial rfl ⟨s30,O33,Z32,hZ,hm7.keep rfl rfl tl0,hm9.keep rfl rfl tl0,(fun h=>by rw [zr _ _ _ _ jJ]; exact hk10 (by rw [zf rfl] at h; exact h)),by rw [hO]; simp only [zf (L:=L) (i:=1) (j:=10) rfl],S⟩)
  ·rintro L g v hL hcl hclo ⟨s30,O33,Z32,hZ,hm7,hm9,hk10,hO,S⟩ 
   have hl10:L 10=false:=by cases h:L 10 with | false=>rfl | true=>exact absurd (hclo 10 2 h jM) (by rw [hL]; decide)
   have SR:St A N w v [oB b23 zb (Term.C (⟨(at_ PTerm.z a1.sub i14).kind,(at_ PTerm.z a1.sub i14).name,(at_ PTerm.z a1.sub i14).other,(at_ PTerm.z a1.sub i14).form,s20⟩ : Term)),oB b_3 zW [s17.v],oS z7 1 IC s17 x14_0,oB b7 zl (RRule.C (zx r3.1)),oB b2 zb (Term.C (⟨a1.kind,a1.name,a1.other,a1.form,s_1⟩ : Term))] (za s20 ((at_ PTerm.z a1.sub i14).sub) :: oMa a_0 g_0_1 true :: oT g_0_1 a0 :: za s_1 a1.sub :: fS 1 IC s_2 a2 :: Z32):=by
    have S2:=S.zneed hZ
    rw [hO] at S2
    simp only [hl10,cond_true,cond_false,List.nil_append,List.append_assoc,List.cons_append] at S2
    exact S2
   refine wd (xa rfl) ?_
   exact ze (ob4 trivial rfl ⟨s30,O33,Z32,hZ,hm7.keep rfl rfl tl0,hm9.keep rfl rfl tl0,(fun h=>by rw [zr _ _ _ _ jJ]; exact hk10 (by rw [zf rfl] at h; exact h)),by rw [hO]; simp only [zf (L:=L) (i:=2) (j:=10) rfl],S⟩)
  ·rintro L g v hL hcl hclo ⟨s30,O33,Z32,hZ,hm7,hm9,hk10,hO,S⟩ 
   have hl10:L 10=false:=by cases h:L 10 with | false=>rfl | true=>exact absurd (hclo 10 3 h jM) (by rw [hL]; decide)
   have SR:St A N w v [oB b23 zb (Term.C (⟨(at_ PTerm.z a1.sub i14).kind,(at_ PTerm.z a1.sub i14).name,(at_ PTerm.z a1.sub i14).other,(at_ PTerm.z a1.sub i14).form,s20⟩ : Term)),oB b_3 zW [s17.v],oS z7 1 IC s17 x14_0,oB b7 zl (RRule.C (zx r3.1)),oB b2 zb (Term.C (⟨a1.kind,a1.name,a1.other,a1.form,s_1⟩ : Term))] (za s20 ((at_ PTerm.z a1.sub i14).sub) :: oMa a_0 g_0_1 true :: oT g_0_1 a0 :: za s_1 a1.sub :: fS 1 IC s_2 a2 :: Z32):=by
    have S2:=S.zneed hZ
    rw [hO] at S2
    simp only [hl10,cond_true,cond_false,List.nil_append,List.append_assoc,List.cons_append] at S2
    exact S2
   refine wd (xa rfl) ?_
   exact ze (ob4 trivial rfl ⟨s30,O33,Z32,hZ,hm7.keep rfl rfl tl0,hm9.keep rfl rfl tl0,(fun h=>by rw [zr _ _ _ _ jJ]; exact hk10 (by rw [zf rfl] at h; exact h)),by rw [hO]; simp only [zf (L:=L) (i:=3) (j:=10) rfl],S⟩)
  ·rintro L g v hL hcl hclo ⟨s30,O33,Z32,hZ,hm7,hm9,hk10,hO,S⟩ hv3
   have hl10:L 10=false:=by cases h:L 10 with | false=>rfl | true=>exact absurd (hclo 10 4 h jM) (by rw [hL]; decide)
   have SR:St A N w v [oB b23 zb (Term.C (⟨(at_ PTerm.z a1.sub i14).kind,(at_ PTerm.z a1.sub i14).name,(at_ PTerm.z a1.sub i14).other,(at_ PTerm.z a1.sub i14).form,s20⟩ : Term)),oB b_3 zW [s17.v],oS z7 1 IC s17 x14_0,oB b7 zl (RRule.C (zx r3.1)),oB b2 zb (Term.C (⟨a1.kind,a1.name,a1.other,a1.form,s_1⟩ : Term))] (za s20 ((at_ PTerm.z a1.sub i14).sub) :: oMa a_0 g_0_1 true :: oT g_0_1 a0 :: za s_1 a1.sub :: fS 1 IC s_2 a2 :: Z32):=by
    have S2:=S.zneed hZ
    rw [hO] at S2
    simp only [hl10,cond_true,cond_false,List.nil_append,List.append_assoc,List.cons_append] at S2
    exact S2
   refine wd (x5 xM hv3 (SR.rd 4)) ?_
   exact ze (ob4 trivial rfl ⟨s30,O33,Z32,hZ,hm7.keep rfl rfl tl0,hm9.keep rfl rfl tl0,(fun h=>by rw [zr _ _ _ _ jJ]; exact hk10 (by rw [zf rfl] at h; exact h)),by rw [hO]; simp only [zf (L:=L) (i:=4) (j:=10) rfl],S⟩)
  ·rintro L g v hL hcl hclo ⟨s30,O33,Z32,hZ,hm7,hm9,hk10,hO,S⟩ 
   have hl10:L 10=false:=by cases h:L 10 with | false=>rfl | true=>exact absurd (hclo 10 5 h jM) (by rw [hL]; decide)
   have SR:St A N w v [oB b23 zb (Term.C (⟨(at_ PTerm.z a1.sub i14).kind,(at_ PTerm.z a1.sub i14).name,(at_ PTerm.z a1.sub i14).other,(at_ PTerm.z a1.sub i14).form,s20⟩ : Term)),oB b_3 zW [s17.v],oS z7 1 IC s17 x14_0,oB b7 zl (RRule.C (zx r3.1)),oB b2 zb (Term.C (⟨a1.kind,a1.name,a1.other,a1.form,s_1⟩ : Term))] (za s20 ((at_ PTerm.z a1.sub i14).sub) :: oMa a_0 g_0_1 true :: oT g_0_1 a0 :: za s_1 a1.sub :: fS 1 IC s_2 a2 :: Z32):=by
    have S2:=S.zneed hZ
    rw [hO] at S2
    simp only [hl10,cond_true,cond_false,List.nil_append,List.append_assoc,List.cons_append] at S2
    exact S2
   refine wd (xa rfl) ?_
   exact ze (ob4 trivial rfl ⟨s30,O33,Z32,hZ,hm7.keep rfl rfl tl0,hm9.keep rfl rfl tl0,(fun h=>by rw [zr _ _ _ _ jJ]; exact hk10 (by rw [zf rfl] at h; exact h)),by rw [hO]; simp only [zf (L:=L) (i:=5) (j:=10) rfl],S⟩)
  ·rintro L g v hL hcl hclo ⟨s30,O33,Z32,hZ,hm7,hm9,hk10,hO,S⟩ hv5
   have hl10:L 10=false:=by cases h:L 10 with | false=>rfl | true=>exact absurd (hclo 10 6 h jM) (by rw [hL]; decide)
   have SR:St A N w v [oB b23 zb (Term.C (⟨(at_ PTerm.z a1.sub i14).kind,(at_ PTerm.z a1.sub i14).name,(at_ PTerm.z a1.sub i14).other,(at_ PTerm.z a1.sub i14).form,s20⟩ : Term)),oB b_3 zW [s17.v],oS z7 1 IC s17 x14_0,oB b7 zl (RRule.C (zx r3.1)),oB b2 zb (Term.C (⟨a1.kind,a1.name,a1.other,a1.form,s_1⟩ : Term))] (za s20 ((at_ PTerm.z a1.sub i14).sub) :: oMa a_0 g_0_1 true :: oT g_0_1 a0 :: za s_1 a1.sub :: fS 1 IC s_2 a2 :: Z32):=by
    have S2:=S.zneed hZ
    rw [hO] at S2
    simp only [hl10,cond_true,cond_false,List.nil_append,List.append_assoc,List.cons_append] at S2
    exact S2
   refine wd (x5 xM hv5 (SR.rd 4)) ?_
   exact ze (ob4 trivial rfl ⟨s30,O33,Z32,hZ,hm7.keep rfl rfl tl0,hm9.keep rfl rfl tl0,(fun h=>by rw [zr _ _ _ _ jJ]; exact hk10 (by rw [zf rfl] at h; exact h)),by rw [hO]; simp only [zf (L:=L) (i:=6) (j:=10) rfl],S⟩)
  ·rintro L g v hL hcl hclo ⟨s30,O33,Z32,hZ,hm7,hm9,hk10,hO,S⟩ hv2 hv4 hv6
   have hl10:L 10=false:=by cases h:L 10 with | false=>rfl | true=>exact absurd (hclo 10 7 h jM) (by rw [hL]; decide)
   replace S:=S.zneed hZ
   replace S:St A N w v (O33) (za s20 ((at_ PTerm.z a1.sub i14).sub) :: oMa a_0 g_0_1 true :: oT g_0_1 a0 :: za s_1 a1.sub :: fS 1 IC s_2 a2 :: Z32):=S
   have hs34:=hs25
   refine wd (does_clipZ xM hv2 hv4 hv6 (S.rd 4) hs34) ?_
   replace S:St A N w v (O33) (fS 1 IC (⟨s_2.p,Int.toNat (a2.length:Int),Int.toNat (a2.length:Int)⟩ : SlV) (a2.take (Int.toNat (a2.length:Int))) :: za s20 ((at_ PTerm.z a1.sub i14).sub) :: oMa a_0 g_0_1 true :: oT g_0_1 a0 :: za s_1 a1.sub :: fS 1 IC s_2 a2 :: Z32):=S.clipZ 4 hs34
   exact ze (ob4 trivial trivial ⟨s30,O33,_,(fun z h=>tl6 z (hZ z h)),Made.one (val:=(fun (c:Unit)=>(⟨s_2.p,Int.toNat (a2.length:Int),Int.toNat (a2.length:Int)⟩ : SlV).v)) (ps:=(fun (c:Unit)=>[fS 1 IC (⟨s_2.p,Int.toNat (a2.length:Int),Int.toNat (a2.length:Int)⟩ : SlV) (a2.take (Int.toNat (a2.length:Int)))])) () (xP List.mem_cons_self yf),hm9.keep rfl rfl tl6,(fun h=>by rw [zr _ _ _ _ jJ]; exact hk10 (by rw [zf rfl] at h; exact h)),by rw [hO]; simp only [zf (L:=L) (i:=7) (j:=10) rfl],S⟩)
  ·rintro L g v hL hcl hclo ⟨s30,O33,Z32,hZ,hm7,hm9,hk10,hO,S⟩ 
   have hl10:L 10=false:=by cases h:L 10 with | false=>rfl | true=>exact absurd (hclo 10 8 h jM) (by rw [hL]; decide)
   have SR:St A N w v [oB b23 zb (Term.C (⟨(at_ PTerm.z a1.sub i14).kind,(at_ PTerm.z a1.sub i14).name,(at_ PTerm.z a1.sub i14).other,(at_ PTerm.z a1.sub i14).form,s20⟩ : Term)),oB b_3 zW [s17.v],oS z7 1 IC s17 x14_0,oB b7 zl (RRule.C (zx r3.1)),oB b2 zb (Term.C (⟨a1.kind,a1.name,a1.other,a1.form,s_1⟩ : Term))] (za s20 ((at_ PTerm.z a1.sub i14).sub) :: oMa a_0 g_0_1 true :: oT g_0_1 a0 :: za s_1 a1.sub :: fS 1 IC s_2 a2 :: Z32):=by
    have S2:=S.zneed hZ
    rw [hO] at S2
    simp only [hl10,cond_true,cond_false,List.nil_append,List.append_assoc,List.cons_append] at S2
    exact S2
   refine wd (zp rfl) ?_
   exact ze (ob4 trivial rfl ⟨s30,O33,Z32,hZ,hm7.keep rfl rfl tl0,hm9.keep rfl rfl tl0,(fun h=>by rw [zr _ _ _ _ jJ]; exact hk10 (by rw [zf rfl] at h; exact h)),by rw [hO]; simp only [zf (L:=L) (i:=8) (j:=10) rfl],S⟩)
  ·rintro L g v hL hcl hclo ⟨s30,O33,Z32,hZ,hm7,hm9,hk10,hO,S⟩ hv8
   have hl10:L 10=false:=by cases h:L 10 with | false=>rfl | true=>exact absurd (hclo 10 9 h jM) (by rw [hL]; decide)
   replace S:=S.zneed hZ
   replace S:St A N w v (O33) (za s20 ((at_ PTerm.z a1.sub i14).sub) :: oMa a_0 g_0_1 true :: oT g_0_1 a0 :: za s_1 a1.sub :: fS 1 IC s_2 a2 :: Z32):=S
   refine ve (C:=IC) (l:=[i14]) (vs:=[.int .i64 i14]) xM el_int.zero (xE hv8 rfl) rfl (fun _ _=>rfl) jJ rfl jJ fun b36 w35 s37 hBw35 hw35=>?_
   replace S:St A N w w35 (oS z7 1 IC s37 ([i14]) :: O33) (za s20 ((at_ PTerm.z a1.sub i14).sub) :: oMa a_0 g_0_1 true :: oT g_0_1 a0 :: za s_1 a1.sub :: fS 1 IC s_2 a2 :: Z32):=S.lit hBw35 hw35 jL
   replace S:St A N w w35 (O33) (fS 1 IC s37 ([i14]) :: za s20 ((at_ PTerm.z a1.sub i14).sub) :: oMa a_0 g_0_1 true :: oT g_0_1 a0 :: za s_1 a1.sub :: fS 1 IC s_2 a2 :: Z32):=S.frzS 0
   exact ze (ob4 trivial trivial ⟨s30,O33,_,(fun z h=>tl6 z (hZ z h)),hm7.keep rfl rfl tl6,Made.one (val:=(fun (c:SlV)=>c.v)) (ps:=(fun (c:SlV)=>[fS 1 IC c ([i14])])) s37 (xP List.mem_cons_self yf),(fun h=>by rw [zr _ _ _ _ jJ]; exact hk10 (by rw [zf rfl] at h; exact h)),by rw [hO]; simp only [zf (L:=L) (i:=9) (j:=10) rfl],S⟩)
  ·rintro L g v hL hcl hclo ⟨s30,O33,Z32,hZ,hm7,hm9,hk10,hO,S⟩ _ _
   obtain ⟨_,he7,hp7⟩ := hm7 (hcl 7 jM)
   obtain ⟨s28,he9,hp9⟩ := hm9 (hcl 9 jM)
   have hl10:L 10=false:=hL
   have hOP : ∃ P Y,P=[]∧Y=[oB b23 zb (Term.C (⟨(at_ PTerm.z a1.sub i14).kind,(at_ PTerm.z a1.sub i14).name,(at_ PTerm.z a1.sub i14).other,(at_ PTerm.z a1.sub i14).form,s20⟩ : Term)),oB b_3 zW [s17.v],oS z7 1 IC s17 x14_0,oB b7 zl (RRule.C (zx r3.1)),oB b2 zb (Term.C (⟨a1.kind,a1.name,a1.other,a1.form,s_1⟩ : Term))]∧O33=P ++ ([] ++ Y):=⟨_,_,rfl,rfl,by rw [hO]; simp only [hl10,cond_true,cond_false,List.nil_append,List.append_assoc,List.cons_append]⟩
   obtain ⟨P,Y,hP,hY,hPY⟩ := hOP
   rw [hPY] at S
   replace S:St A N w v (P ++ Y) Z32:=S
   replace S:=S.zneed (xy (l1:=[fS 1 IC (⟨s_2.p,Int.toNat (a2.length:Int),Int.toNat (a2.length:Int)⟩ : SlV) (a2.take (Int.toNat (a2.length:Int)))]) hp7 (xy (l1:=[fS 1 IC s28 ([i14])]) hp9 hZ))
   replace S:St A N w v ((P ++ Y)) (fS 1 IC (⟨s_2.p,Int.toNat (a2.length:Int),Int.toNat (a2.length:Int)⟩ : SlV) (a2.take (Int.toNat (a2.length:Int))) :: fS 1 IC s28 ([i14]) :: za s20 ((at_ PTerm.z a1.sub i14).sub) :: oMa a_0 g_0_1 true :: oT g_0_1 a0 :: za s_1 a1.sub :: fS 1 IC s_2 a2 :: Z32):=S
   have ha40:=ha31
   refine wl_appendZ (C:=IC) xM el_int he7 he9 (S.rd 0) rfl (S.rd 1) jL ha40 jK jJ fun s39 w38 O hw38 gw38=>?_
   replace S:St A N w w38 (oS z7 1 IC s39 ((a2.take (Int.toNat (a2.length:Int))) ++ [i14]) :: (P ++ Y)) (fS 1 IC (⟨s_2.p,Int.toNat (a2.length:Int),Int.toNat (a2.length:Int)⟩ : SlV) (a2.take (Int.toNat (a2.length:Int))) :: fS 1 IC s28 ([i14]) :: za s20 ((at_ PTerm.z a1.sub i14).sub) :: oMa a_0 g_0_1 true :: oT g_0_1 a0 :: za s_1 a1.sub :: fS 1 IC s_2 a2 :: Z32):=S.ownS hw38 O (by first | (simp; done) | (simp; omega) | (simp only [List.length_append]; omega)) gw38
   clear O
   refine ze (ob4 trivial trivial ⟨s39,P ++ ([oS z7 1 IC s39 ((a2.take (Int.toNat (a2.length:Int))) ++ [i14])] ++ Y),_,(fun z h=>tl7 z (hZ z h)),hm7.keep rfl rfl tl7,hm9.keep rfl rfl tl7,(fun _=>upd_same _ _ _),?_,S.ins (P:=[oS z7 1 IC s39 ((a2.take (Int.toNat (a2.length:Int))) ++ [i14])])⟩)
   rw [hP,hY]; simp only [xS (L:=L) (i:=10),cond_true,cond_false,List.nil_append,List.append_assoc,List.cons_append]
  ·rintro L g v hL hcl hclo ⟨s30,O33,Z32,hZ,hm7,hm9,hk10,hO,S⟩ 
   have SR:St A N w v [oB b23 zb (Term.C (⟨(at_ PTerm.z a1.sub i14).kind,(at_ PTerm.z a1.sub i14).name,(at_ PTerm.z a1.sub i14).other,(at_ PTerm.z a1.sub i14).form,s20⟩ : Term)),oB b_3 zW [s17.v],oS z7 1 IC s17 x14_0,oB b7 zl (RRule.C (zx r3.1)),oB b2 zb (Term.C (⟨a1.kind,a1.name,a1.other,a1.form,s_1⟩ : Term))] (za s20 ((at_ PTerm.z a1.sub i14).sub) :: oMa a_0 g_0_1 true :: oT g_0_1 a0 :: za s_1 a1.sub :: fS 1 IC s_2 a2 :: Z32):=by
    have S2:=S.zneed hZ
    rw [hO] at S2
    exact S2.drops
   refine wd (vX rfl) ?_
   exact ze (ob4 trivial rfl ⟨s30,O33,Z32,hZ,hm7.keep rfl rfl tl0,hm9.keep rfl rfl tl0,(fun h=>by rw [zr _ _ _ _ jJ]; exact hk10 (by rw [zf rfl] at h; exact h)),by rw [hO]; simp only [zf (L:=L) (i:=11) (j:=10) rfl],S⟩)
  rintro L g w41 hLm ⟨s30,O33,Z32,hZ,hm7,hm9,hk10,hO,S⟩ hv42_0 hv42_1 hv42_2 hv42_3 hv42_4 hv42_5 hv42_6 _ hv42_8 _ _ hv42_11
  have hLt : ∀ j,j < 12→L j=true:=fun j hj=>by rw [hLm]; exact decide_eq_true hj
  obtain ⟨_,hv42_7,hp7⟩ := hm7 (hLt 7 jJ)
  obtain ⟨s28,hv42_9,hp9⟩ := hm9 (hLt 9 jJ)
  have hv42_10:=hk10 (hLt 10 jJ)
  simp only [hLt 10 jJ,cond_true,List.nil_append,List.cons_append] at hO
  rw [hO] at S
  replace S:St A N w w41 [oS z7 1 IC s30 ((a2.take (Int.toNat (a2.length:Int))) ++ [i14]),oB b23 zb (Term.C (⟨(at_ PTerm.z a1.sub i14).kind,(at_ PTerm.z a1.sub i14).name,(at_ PTerm.z a1.sub i14).other,(at_ PTerm.z a1.sub i14).form,s20⟩ : Term)),oB b_3 zW [s17.v],oS z7 1 IC s17 x14_0,oB b7 zl (RRule.C (zx r3.1)),oB b2 zb (Term.C (⟨a1.kind,a1.name,a1.other,a1.form,s_1⟩ : Term))] [fS 1 IC (⟨s_2.p,Int.toNat (a2.length:Int),Int.toNat (a2.length:Int)⟩ : SlV) (a2.take (Int.toNat (a2.length:Int))),fS 1 IC s28 ([i14]),za s20 ((at_ PTerm.z a1.sub i14).sub),oMa a_0 g_0_1 true,oT g_0_1 a0,za s_1 a1.sub,fS 1 IC s_2 a2]:=S.pickZ (xy (l1:=[fS 1 IC (⟨s_2.p,Int.toNat (a2.length:Int),Int.toNat (a2.length:Int)⟩ : SlV) (a2.take (Int.toNat (a2.length:Int)))]) hp7 (xy (l1:=[fS 1 IC s28 ([i14])]) hp9 hZ))
  clear hp7 hp9 hZ hm7 hm9
  obtain ⟨r43,er43,H⟩ := zB H
  replace S:=S.front 3
  replace S:St A N w w41 [oB b_3 zW [s17.v],oS z7 1 IC s17 x14_0,oS z7 1 IC s30 ((a2.take (Int.toNat (a2.length:Int))) ++ [i14]),oB b23 zb (Term.C (⟨(at_ PTerm.z a1.sub i14).kind,(at_ PTerm.z a1.sub i14).name,(at_ PTerm.z a1.sub i14).other,(at_ PTerm.z a1.sub i14).form,s20⟩ : Term)),oB b7 zl (RRule.C (zx r3.1)),oB b2 zb (Term.C (⟨a1.kind,a1.name,a1.other,a1.form,s_1⟩ : Term))] [fS 1 IC (⟨s_2.p,Int.toNat (a2.length:Int),Int.toNat (a2.length:Int)⟩ : SlV) (a2.take (Int.toNat (a2.length:Int))),fS 1 IC s28 ([i14]),za s20 ((at_ PTerm.z a1.sub i14).sub),oMa a_0 g_0_1 true,oT g_0_1 a0,za s_1 a1.sub,fS 1 IC s_2 a2]:=S.front 3
  obtain ⟨B45,MB45,SB45,back⟩ := S.calln 2 ((.z 3 rfl (.z 4 rfl (.z 2 rfl (.s 0 rfl .nil)))))
  refine zJ (zS yA (zX hv42_0 (zX hv42_1 (zX hv42_10 (zX hv42_11 rfl))))) jJ (zaj (a1:=(at_ PTerm.z a1.sub i14)) SB45 er43) ?_
  rintro _ w44 ⟨s46,rfl,S2⟩
  replace S:St A N w w44 [oB b_3 zW [s46.v],oS z7 1 IC s46 r43.1,oS z7 1 IC s30 ((a2.take (Int.toNat (a2.length:Int))) ++ [i14]),oB b23 zb (Term.C (⟨(at_ PTerm.z a1.sub i14).kind,(at_ PTerm.z a1.sub i14).name,(at_ PTerm.z a1.sub i14).other,(at_ PTerm.z a1.sub i14).form,s20⟩ : Term)),oB b7 zl (RRule.C (zx r3.1)),oB b2 zb (Term.C (⟨a1.kind,a1.name,a1.other,a1.form,s_1⟩ : Term))] [fS 1 IC (⟨s_2.p,Int.toNat (a2.length:Int),Int.toNat (a2.length:Int)⟩ : SlV) (a2.take (Int.toNat (a2.length:Int))),fS 1 IC s28 ([i14]),za s20 ((at_ PTerm.z a1.sub i14).sub),oMa a_0 g_0_1 true,oT g_0_1 a0,za s_1 a1.sub,fS 1 IC s_2 a2]:=back _ _ _ _ S2 rfl
  clear back S2 SB45
  refine wd (xp rfl) ?_
  refine ze ?_
  refine zU rfl (fun hc47=>?_) (fun hc47=>?_)
  ·replace H:=if_t hc47 H
   refine zg (zd ?_)
   refine wd (zk rfl) ?_
   refine ze ?_
   refine zC ?_
   refine ⟨_,(z1 (zj rfl)),?_⟩
   replace S:St A N w w44 [oB b_3 zW [s46.v],oS z7 1 IC s46 r43.1] []:=S.arr [0,1] []
   obtain rfl:=jN H
   obtain rfl:=e14
   obtain rfl:=aft_r Ho14
   exact ⟨s46,rfl,S⟩
  replace H:=if_f hc47 H
  refine zI ?_
  refine zd ?_
  refine wd (xx q14_i rfl (c:=i14 + 1) rfl jK jK) ?_
  refine wd (zp rfl) ?_
  refine ze ?_
  replace S:St A N w w44 [oB b_3 zW [s46.v],oS z7 1 IC s46 r43.1,oB b7 zl (RRule.C (zx r3.1)),oB b2 zb (Term.C (⟨a1.kind,a1.name,a1.other,a1.form,s_1⟩ : Term))] [oMa a_0 g_0_1 true,oT g_0_1 a0,za s_1 a1.sub,fS 1 IC s_2 a2]:=S.arr [0,1,4,5] [3,4,5,6]
  obtain rfl:=jN H
  exact ⟨rfl,((((((((((((Dif.self _ _ _).upd rfl _).upd rfl _).upd rfl _).upd rfl _).upd rfl _).upd rfl _).mask rfl _).upd rfl _).upd rfl _).upd rfl _).upd rfl _),(m14,i14 + 1,r43.1),⟨(by dsimp only; omega),(by dsimp only; omega),e14,s46,rfl,S⟩,by dsimp only; omega⟩
 rintro g48 u49 ⟨s14,rfl,s15,S⟩
 have H:=Ho14
 dsimp only [aft] at H
 refine zg (zd ?_)
 refine wd (zk rfl) ?_
 refine ze ?_
 refine zC ?_
 refine ⟨_,(z1 (zj rfl)),?_⟩
 replace S:St A N w u49 [oB b_3 zW [s15.v],oS z7 1 IC s15 s14] []:=S.arr [0,1] []
 obtain rfl:=jN H
 exact ⟨s15,rfl,S⟩
theorem vK {a0:Tb} {a_0:Option Addr} {g_0_1:Option Addr} {a1:PTerm} {s_1:SlV} {a2:List Int} {s_2:SlV} {a3_0:List Int} {b_3:Nat} {s_3_1:SlV} (S:St A N w w [oB b_3 zW [s_3_1.v],oS z7 1 IC s_3_1 a3_0] [oMa a_0 g_0_1 true,oT g_0_1 a0,za s_1 a1.sub,fS 1 IC s_2 a2]) {k:Nat} {r:List Int × Bool} (H:k4.f k a0 a1 a2 a3_0=some r) :
  Calls PP xw #[.pointer a_0,.agg (Term.C (⟨a1.kind,a1.name,a1.other,a1.form,s_1⟩ : Term)).toArray,s_2.v,.func (.func yK) #[] #[.pointer (some ⟨b_3,0,none⟩)]] w fun e w' => ∃ v,e = .returned v∧(∃ so0:SlV,v = .bool r.2∧St A N w w' [oB b_3 zW [so0.v],oS z7 1 IC so0 r.1] []):=by
 have main : ∀ (k:Nat) {A:Nat→Prop} {N:Oth} {w:World} {a0:Tb} {a_0:Option Addr} {g_0_1:Option Addr} {a1:PTerm} {s_1:SlV} {a2:List Int} {s_2:SlV} {a3_0:List Int} {b_3:Nat} {s_3_1:SlV} (S:St A N w w [oB b_3 zW [s_3_1.v],oS z7 1 IC s_3_1 a3_0] [oMa a_0 g_0_1 true,oT g_0_1 a0,za s_1 a1.sub,fS 1 IC s_2 a2]) {r:List Int × Bool} (H:k4.f k a0 a1 a2 a3_0=some r),Calls PP xw #[.pointer a_0,.agg (Term.C (⟨a1.kind,a1.name,a1.other,a1.form,s_1⟩ : Term)).toArray,s_2.v,.func (.func yK) #[] #[.pointer (some ⟨b_3,0,none⟩)]] w fun e w' => ∃ v,e = .returned v∧(∃ so0:SlV,v = .bool r.2∧St A N w w' [oB b_3 zW [so0.v],oS z7 1 IC so0 r.1] []):=by
  intro k
  induction k with
  | zero=>intro A N w a0 a_0 g_0_1 a1 s_1 a2 s_2 a3_0 b_3 s_3_1 S r H; cases H
  | succ k ih=>intro A N w a0 a_0 g_0_1 a1 s_1 a2 s_2 a3_0 b_3 s_3_1 S r H; exact vD ih S H
 exact main k S H
theorem reduce_Run_st {a0:Tb} {a_0:Option Addr} {a1:PTerm} {s_1:SlV} {a2:Int} (S:St A N w w [] [oT a_0 a0,za s_1 a1.sub,oPw]) {k:Nat} {r:PTerm × Int × Bool × Int} (H:k5.f k a0 a1 a2=some r) :
  Calls PP F_reduce_Run #[.pointer a_0,.agg (Term.C (⟨a1.kind,a1.name,a1.other,a1.form,s_1⟩ : Term)).toArray,.int .i64 a2] w fun e w' => ∃ v,e = .returned v∧(∃ so0:SlV,v = .tuple #[.agg (Term.C (⟨r.1.kind,r.1.name,r.1.other,r.1.form,so0⟩ : Term)).toArray,.int .i64 r.2.1,.bool r.2.2.1,.int .i64 r.2.2.2]∧St A N w w' [] [za so0 r.1.sub]):=by
 unfold k5.f at H
 refine zE (n:=67) fn_reduce_Run rfl rfl jL ?_
 refine zg (zd ?_)
 refine zQ rfl jJ fun b2 w1 hw1=>?_
 replace S:St A N w w1 [oB b2 zb (Term.C (⟨a1.kind,a1.name,a1.other,a1.form,s_1⟩ : Term))] [oT a_0 a0,za s_1 a1.sub,oPw]:=S.new hw1
 refine zZ xr jJ fun b4 w3 hw3=>?_
 replace S:St A N w w3 [oB b4 zb (Term.C (⟨0,ByteArray.empty,ByteArray.empty,0,SlV.nil⟩ : Term)),oB b2 zb (Term.C (⟨a1.kind,a1.name,a1.other,a1.form,s_1⟩ : Term))] [oT a_0 a0,za s_1 a1.sub,oPw]:=S.new hw3
 refine wd (zn rfl) ?_
 refine wd (zk rfl) ?_
 refine wd (zn rfl) ?_
 refine ze ?_
 refine wc_scope ?_
 refine zg (zd ?_)
 refine wd (zN rfl) ?_
 refine wd (zi zq rfl ((S.blk 1).all _ (Term.len _)) (Term.len _)) ?_
 obtain ⟨r5,er5,H⟩ := zB H
 obtain ⟨B7,MB7,SB7,back⟩ := S.sub [0,1,2] [] [oB b4 zb (Term.C (⟨0,ByteArray.empty,ByteArray.empty,0,SlV.nil⟩ : Term)),oB b2 zb (Term.C (⟨a1.kind,a1.name,a1.other,a1.form,s_1⟩ : Term))]
 refine zJ (zH uR) jJ (uT (a1:=a1) SB7 er5) ?_
 rintro _ w6 ⟨a8,rfl,S2⟩
 replace S:St A N w w6 [oB b4 zb (Term.C (⟨0,ByteArray.empty,ByteArray.empty,0,SlV.nil⟩ : Term)),oB b2 zb (Term.C (⟨a1.kind,a1.name,a1.other,a1.form,s_1⟩ : Term))] [oMa a8 a_0 r5.1,oT a_0 a0,za s_1 a1.sub,oPw]:=back _ _ _ _ _ S2 rfl rfl
 clear back S2 SB7
 refine wd (xn rfl) ?_
 refine wd (zA rfl rfl) ?_
 refine wd (zA rfl rfl) ?_
 refine wd (x4 rfl) ?_
 refine wd (zn rfl) ?_
 refine ze ?_
 refine zg ?_
 refine zY ?_
 refine zg (zd ?_)
 refine wd (zp rfl) ?_
 refine wd (xN rfl rfl) ?_
 refine wd (zk rfl) ?_
 refine ze ?_
 refine zU rfl (fun hc9=>?_) (fun hc9=>?_)
 ·replace H:=if_t hc9 H
  refine zg (zd ?_)
  refine wd (Does.to (v' := .agg (Term.C (⟨0,ByteArray.empty,ByteArray.empty,0,SlV.nil⟩ : Term)).toArray) (xg (vs:=[]) xW rfl Bld.nil) rfl) ?_
  refine wd (zp rfl) ?_
  refine zy zq rfl rfl (S.blk 0) (Term.len _) (by rw [Term.len]; decide) (Term.one _) (zM (Term.len _)) fun w10 B hw10 zw10=>?_
  replace S:St A N w w10 [oB b4 zb (Term.C (⟨0,ByteArray.empty,ByteArray.empty,0,SlV.nil⟩ : Term)),oB b2 zb (Term.C (⟨a1.kind,a1.name,a1.other,a1.form,s_1⟩ : Term))] [oMa a8 a_0 r5.1,oT a_0 a0,za s_1 a1.sub,oPw]:=S.store 0 B hw10
  clear B
  refine wd (zn rfl) ?_
  refine wd (zk rfl) ?_
  refine wd (zn rfl) ?_
  refine ze ?_
  refine zC ?_
  replace S:St A N w w10 [oB b4 zb (Term.C (⟨0,ByteArray.empty,ByteArray.empty,0,SlV.nil⟩ : Term)),oB b2 zb (Term.C (⟨a1.kind,a1.name,a1.other,a1.form,s_1⟩ : Term))] [za SlV.nil ([]),oMa a8 a_0 r5.1,oT a_0 a0,za s_1 a1.sub,oPw]:=S.nilTm
  refine ⟨_,(jr (zV zq rfl ((S.blk 0).all _ (Term.len _)) (Term.len _)) (zj rfl) (zj rfl) (zj rfl)),?_⟩
  replace S:St A N w w10 [] [za SlV.nil ([])]:=S.arr [] [0]
  obtain rfl:=jN H
  exact ⟨SlV.nil,rfl,S⟩
 replace H:=if_f hc9 H
 refine zg (zd ?_)
 refine wd (zp rfl) ?_
 refine wd (xC rfl rfl) ?_
 refine wd (zG rfl) ?_
 refine zu (j:=2) (pol:=false) rfl rfl rfl jJ (fun hg=>zp rfl) jJ ?_
 refine zu (j:=2) (pol:=false) rfl rfl rfl jJ (fun hg=>jo (zw hg) rfl) jJ ?_
 refine wd (xF rfl (fun hp=>(zw (xu hp)))) ?_
 refine wd (zk rfl) ?_
 refine ze ?_
 refine zU rfl (fun hc11=>?_) (fun hc11=>?_)
 ·replace H:=if_t hc11 H
  refine zg (zd ?_)
  refine wd (Does.to (v' := .agg (Term.C (⟨0,ByteArray.empty,ByteArray.empty,0,SlV.nil⟩ : Term)).toArray) (xg (vs:=[]) xW rfl Bld.nil) rfl) ?_
  refine zy zq rfl rfl (S.blk 0) (Term.len _) (by rw [Term.len]; decide) (Term.one _) (zM (Term.len _)) fun w12 B hw12 zw12=>?_
  replace S:St A N w w12 [oB b4 zb (Term.C (⟨0,ByteArray.empty,ByteArray.empty,0,SlV.nil⟩ : Term)),oB b2 zb (Term.C (⟨a1.kind,a1.name,a1.other,a1.form,s_1⟩ : Term))] [oMa a8 a_0 r5.1,oT a_0 a0,za s_1 a1.sub,oPw]:=S.store 0 B hw12
  clear B
  refine wd (zn rfl) ?_
  refine wd (zk rfl) ?_
  refine wd (zn rfl) ?_
  refine ze ?_
  refine zC ?_
  replace S:St A N w w12 [oB b4 zb (Term.C (⟨0,ByteArray.empty,ByteArray.empty,0,SlV.nil⟩ : Term)),oB b2 zb (Term.C (⟨a1.kind,a1.name,a1.other,a1.form,s_1⟩ : Term))] [za SlV.nil ([]),oMa a8 a_0 r5.1,oT a_0 a0,za s_1 a1.sub,oPw]:=S.nilTm
  refine ⟨_,(jr (zV zq rfl ((S.blk 0).all _ (Term.len _)) (Term.len _)) (zj rfl) (zj rfl) (zj rfl)),?_⟩
  replace S:St A N w w12 [] [za SlV.nil ([])]:=S.arr [] [0]
  obtain rfl:=jN H
  exact ⟨SlV.nil,rfl,S⟩
 replace H:=if_f hc11 H
 refine zI ?_
 refine zg (zd ?_)
 refine wd (zi zq rfl ((S.blk 1).all _ (Term.len _)) (Term.len _)) ?_
 obtain ⟨r13,er13,H⟩ := zB H
 obtain ⟨B15,MB15,SB15,back⟩ := S.sub [2] [] [oB b4 zb (Term.C (⟨0,ByteArray.empty,ByteArray.empty,0,SlV.nil⟩ : Term)),oB b2 zb (Term.C (⟨a1.kind,a1.name,a1.other,a1.form,s_1⟩ : Term))]
 refine zJ (zH vP) jJ (uU (a0:=a1) SB15 er13) ?_
 rintro _ w14 ⟨s16,rfl,S2⟩
 replace S:St A N w w14 [oB b4 zb (Term.C (⟨0,ByteArray.empty,ByteArray.empty,0,SlV.nil⟩ : Term)),oB b2 zb (Term.C (⟨a1.kind,a1.name,a1.other,a1.form,s_1⟩ : Term))] [za s16 r13.sub,oMa a8 a_0 r5.1,oT a_0 a0,za s_1 a1.sub,oPw]:=back _ _ _ _ _ S2 rfl rfl
 clear back S2 SB15
 refine zy zq rfl rfl (S.blk 1) (Term.len _) (by rw [Term.len]; decide) (Term.one _) (zM (Term.len _)) fun w17 B hw17 zw17=>?_
 replace S:St A N w w17 [oB b2 zb (Term.C (⟨r13.kind,r13.name,r13.other,r13.form,s16⟩ : Term)),oB b4 zb (Term.C (⟨0,ByteArray.empty,ByteArray.empty,0,SlV.nil⟩ : Term))] [za s16 r13.sub,oMa a8 a_0 r5.1,oT a_0 a0,za s_1 a1.sub,oPw]:=S.store 1 B hw17
 clear B
 refine ze ?_
 refine zg (zd ?_)
 refine wd (zn rfl) ?_
 refine ze ?_
 refine zg ?_
 refine wc_label ?_
 refine zg ?_
 obtain ⟨ht18,H⟩ := xh H
 rw [ht18] at S
 replace S:St A N w w17 [oB b2 zb (Term.C (⟨r13.kind,r13.name,r13.other,r13.form,s16⟩ : Term)),oB b4 zb (Term.C (⟨0,ByteArray.empty,ByteArray.empty,0,SlV.nil⟩ : Term))] [za s16 r13.sub,oMa a8 a_0 true,oT a_0 a0,za s_1 a1.sub,oPw]:=S
 replace S:St A N w w17 [oB b2 zb (Term.C (⟨r13.kind,r13.name,r13.other,r13.form,s16⟩ : Term)),oB b4 zb (Term.C (⟨0,ByteArray.empty,ByteArray.empty,0,SlV.nil⟩ : Term))] [za SlV.nil ([]),za s16 r13.sub,oMa a8 a_0 true,oT a_0 a0,za s_1 a1.sub,oPw]:=S.nilTm
 obtain ⟨o19,e19,Ho19⟩ := zB H
 clear H
 refine yi [7,8,9,12,13,14,15,16,38,39,40,41,42,43,44,45,46,47,48,49,50,51,52,53,54,55,56,57,58,59,60,61,62,63,64] (fun fr W => ∃ s19:Int × PTerm × PTerm,o19 = .inl s19 ∧ ∃ s20:SlV,∃ s21:SlV,fr 12 = .int .i64 s19.1∧St A N w W [oB b2 zb (Term.C (⟨s19.2.1.kind,s19.2.1.name,s19.2.1.other,s19.2.1.form,s20⟩ : Term)),oB b4 zb (Term.C (⟨s19.2.2.kind,s19.2.2.name,s19.2.2.other,s19.2.2.form,s21⟩ : Term))] [za s21 s19.2.2.sub,za s20 s19.2.1.sub,oMa a8 a_0 true,oT a_0 a0,za s_1 a1.sub,oPw]) ?_ ?_
 ·refine zY ?_
  refine x3 (α:=Nat × (Int × PTerm × PTerm)) [7,8,9,12,13,14,15,16,38,39,40,41,42,43,44,45,46,47,48,49,50,51,52,53,54,55,56,57,58,59,60,61,62,63,64] (fun x fr W=>iter (fun s=>k5.b0 k a0 a2 s.1 s.2.1 s.2.2) x.1 x.2=some o19 ∧ ∃ s22:SlV,∃ s23:SlV,fr 12 = .int .i64 (x.2.1)∧St A N w W [oB b2 zb (Term.C (⟨(x.2.2.1).kind,(x.2.2.1).name,(x.2.2.1).other,(x.2.2.1).form,s22⟩ : Term)),oB b4 zb (Term.C (⟨(x.2.2.2).kind,(x.2.2.2).name,(x.2.2.2).other,(x.2.2.2).form,s23⟩ : Term))] [za s23 ((x.2.2.2).sub),za s22 ((x.2.2.1).sub),oMa a8 a_0 true,oT a_0 a0,za s_1 a1.sub,oPw]) (fun x=>x.1) (k,(0,r13,(⟨0,ByteArray.empty,ByteArray.empty,0,[]⟩ : PTerm))) ⟨(by dsimp only; exact e19),s16,SlV.nil,rfl,S⟩ ?_
  rintro ⟨m19,⟨x19_0,x19_1,x19_2⟩⟩ g19 u19 ⟨e19,s24,s25,q19_12,S⟩
  try dsimp only at e19
  try dsimp only at S
  try dsimp only at q19_12
  obtain ⟨m19,rfl⟩ : ∃ m,m19=m + 1:=⟨m19 - 1,by cases m19 with | zero=>cases e19 | succ m=>rfl⟩
  obtain ⟨q19,H,e19⟩ := iter_s e19
  unfold k5.b0 at H
  try dsimp only at H
  refine zY ?_
  refine zg (zd ?_)
  refine zZ zs_L_int jJ fun b27 w26 hw26=>?_
  replace S:St A N w w26 [oB b27 zW [SlV.nil.v],oB b2 zb (Term.C (⟨x19_1.kind,x19_1.name,x19_1.other,x19_1.form,s24⟩ : Term)),oB b4 zb (Term.C (⟨x19_2.kind,x19_2.name,x19_2.other,x19_2.form,s25⟩ : Term))] [za s25 x19_2.sub,za s24 x19_1.sub,oMa a8 a_0 true,oT a_0 a0,za s_1 a1.sub,oPw]:=S.new hw26
  refine ze ?_
  refine zg (zd ?_)
  refine wd (zN rfl) ?_
  refine wd (zi zq rfl ((S.blk 1).all _ (Term.len _)) (Term.len _)) ?_
  refine wd (does_funcl) ?_
  replace S:=S.nil z7 1 IC
  replace S:St A N w w26 [oS z7 1 IC SlV.nil ([]:List Int),oB b27 zW [SlV.nil.v],oB b2 zb (Term.C (⟨x19_1.kind,x19_1.name,x19_1.other,x19_1.form,s24⟩ : Term)),oB b4 zb (Term.C (⟨x19_2.kind,x19_2.name,x19_2.other,x19_2.form,s25⟩ : Term))] [fS 1 IC SlV.nil ([]),za s25 x19_2.sub,za s24 x19_1.sub,oMa a8 a_0 true,oT a_0 a0,za s_1 a1.sub,oPw]:=S.nilZ 1 IC
  obtain ⟨r28,er28,H⟩ := zB H
  replace S:St A N w w26 [oB b27 zW [SlV.nil.v],oS z7 1 IC SlV.nil ([]:List Int),oB b2 zb (Term.C (⟨x19_1.kind,x19_1.name,x19_1.other,x19_1.form,s24⟩ : Term)),oB b4 zb (Term.C (⟨x19_2.kind,x19_2.name,x19_2.other,x19_2.form,s25⟩ : Term))] [fS 1 IC SlV.nil ([]),za s25 x19_2.sub,za s24 x19_1.sub,oMa a8 a_0 true,oT a_0 a0,za s_1 a1.sub,oPw]:=S.front 1
  obtain ⟨B30,MB30,SB30,back⟩ := S.calln 2 ((.z 3 rfl (.z 4 rfl (.z 2 rfl (.z 0 rfl .nil)))))
  refine zJ (zS yA (zX rfl (zX rfl (zX SlV.nil_eq (zX rfl rfl))))) jJ (vK (a1:=x19_1) SB30 er28) ?_
  rintro _ w29 ⟨s31,rfl,S2⟩
  replace S:St A N w w29 [oB b27 zW [s31.v],oS z7 1 IC s31 r28.1,oB b2 zb (Term.C (⟨x19_1.kind,x19_1.name,x19_1.other,x19_1.form,s24⟩ : Term)),oB b4 zb (Term.C (⟨x19_2.kind,x19_2.name,x19_2.other,x19_2.form,s25⟩ : Term))] [fS 1 IC SlV.nil ([]),za s25 x19_2.sub,za s24 x19_1.sub,oMa a8 a_0 true,oT a_0 a0,za s_1 a1.sub,oPw]:=back _ _ _ _ S2 rfl
  clear back S2 SB30
  refine wd (zk rfl) ?_
  refine ze ?_
  refine zg ?_
  refine zY ?_
  refine zg (zd ?_)
  refine wd (zG rfl) ?_
  refine wd (zk rfl) ?_
  refine ze ?_
  refine zU rfl (fun hc32=>?_) (fun hc32=>?_)
  ·replace H:=if_t hc32 H
   refine yu ?_
   replace S:St A N w w29 [oB b2 zb (Term.C (⟨x19_1.kind,x19_1.name,x19_1.other,x19_1.form,s24⟩ : Term)),oB b4 zb (Term.C (⟨x19_2.kind,x19_2.name,x19_2.other,x19_2.form,s25⟩ : Term))] [za s25 x19_2.sub,za s24 x19_1.sub,oMa a8 a_0 true,oT a_0 a0,za s_1 a1.sub,oPw]:=S.arr [2,3] [1,2,3,4,5,6]
   obtain rfl:=jN H
   exact ⟨rfl,(((((((((Dif.self _ _ _).upd rfl _).upd rfl _).upd rfl _).upd rfl _).upd rfl _).upd rfl _).upd rfl _).upd rfl _),(x19_0,x19_1,x19_2),e19,s24,s25,q19_12,S⟩
  replace H:=if_f hc32 H
  refine zg (zd ?_)
  refine wd (zp q19_12) ?_
  refine wd (zp rfl) ?_
  refine wd (xb rfl rfl) ?_
  refine wd (zk rfl) ?_
  refine ze ?_
  refine zU rfl (fun hc33=>?_) (fun hc33=>?_)
  ·replace H:=if_t hc33 H
   refine zg (zd ?_)
   refine wd (zi zq rfl ((S.blk 2).all _ (Term.len _)) (Term.len _)) ?_
   refine wd (zp q19_12) ?_
   refine zy zq rfl rfl (S.blk 3) (Term.len _) (by rw [Term.len]; decide) (Term.one _) (zM (Term.len _)) fun w34 B hw34 zw34=>?_
   replace S:St A N w w34 [oB b4 zb (Term.C (⟨x19_1.kind,x19_1.name,x19_1.other,x19_1.form,s24⟩ : Term)),oB b27 zW [s31.v],oS z7 1 IC s31 r28.1,oB b2 zb (Term.C (⟨x19_1.kind,x19_1.name,x19_1.other,x19_1.form,s24⟩ : Term))] [fS 1 IC SlV.nil ([]),za s25 x19_2.sub,za s24 x19_1.sub,oMa a8 a_0 true,oT a_0 a0,za s_1 a1.sub,oPw]:=S.store 3 B hw34
   clear B
   refine wd (zn rfl) ?_
   refine wd (zk rfl) ?_
   refine wd (zn rfl) ?_
   refine ze ?_
   refine zC ?_
   refine ⟨_,(jr (zV zq rfl ((S.blk 0).all _ (Term.len _)) (Term.len _)) (zj rfl) (zj rfl) (zj rfl)),?_⟩
   replace S:St A N w w34 [] [za s24 x19_1.sub]:=S.arr [] [2]
   obtain rfl:=jN H
   obtain rfl:=e19
   obtain rfl:=aft_r Ho19
   exact ⟨s24,rfl,S⟩
  replace H:=if_f hc33 H
  refine zI ?_
  refine zg (zd ?_)
  refine wd (zN rfl) ?_
  refine wd (zi zq rfl ((S.blk 2).all _ (Term.len _)) (Term.len _)) ?_
  refine wd (zt on_L_int rfl ((S.blk 0).cell rfl)) ?_
  obtain ⟨r35,er35,H⟩ := zB H
  replace S:St A N w w29 [oB b27 zW [s31.v],oB b2 zb (Term.C (⟨x19_1.kind,x19_1.name,x19_1.other,x19_1.form,s24⟩ : Term)),oB b4 zb (Term.C (⟨x19_2.kind,x19_2.name,x19_2.other,x19_2.form,s25⟩ : Term))] [fS 1 IC s31 r28.1,fS 1 IC SlV.nil ([]),za s25 x19_2.sub,za s24 x19_1.sub,oMa a8 a_0 true,oT a_0 a0,za s_1 a1.sub,oPw]:=S.frzS 1
  obtain ⟨B37,MB37,SB37,back⟩ := S.sub [4,5,3,0,7] [] [oB b27 zW [s31.v],oB b2 zb (Term.C (⟨x19_1.kind,x19_1.name,x19_1.other,x19_1.form,s24⟩ : Term)),oB b4 zb (Term.C (⟨x19_2.kind,x19_2.name,x19_2.other,x19_2.form,s25⟩ : Term))]
  refine zJ (zH ui) jJ (ur (a1:=x19_1) SB37 er35) ?_
  rintro _ w36 ⟨s38,rfl,S2⟩
  replace S:St A N w w36 [oB b27 zW [s31.v],oB b2 zb (Term.C (⟨x19_1.kind,x19_1.name,x19_1.other,x19_1.form,s24⟩ : Term)),oB b4 zb (Term.C (⟨x19_2.kind,x19_2.name,x19_2.other,x19_2.form,s25⟩ : Term))] [za s38 r35.1.sub,fS 1 IC s31 r28.1,fS 1 IC SlV.nil ([]),za s25 x19_2.sub,za s24 x19_1.sub,oMa a8 a_0 true,oT a_0 a0,za s_1 a1.sub,oPw]:=back _ _ _ _ _ S2 rfl rfl
  clear back S2 SB37
  refine wd (xn rfl) ?_
  refine wd (zA rfl rfl) ?_
  refine wd (zA rfl rfl) ?_
  refine zZ xr jJ fun b40 w39 hw39=>?_
  replace S:St A N w w39 [oB b40 zb (Term.C (⟨0,ByteArray.empty,ByteArray.empty,0,SlV.nil⟩ : Term)),oB b27 zW [s31.v],oB b2 zb (Term.C (⟨x19_1.kind,x19_1.name,x19_1.other,x19_1.form,s24⟩ : Term)),oB b4 zb (Term.C (⟨x19_2.kind,x19_2.name,x19_2.other,x19_2.form,s25⟩ : Term))] [za s38 r35.1.sub,fS 1 IC s31 r28.1,fS 1 IC SlV.nil ([]),za s25 x19_2.sub,za s24 x19_1.sub,oMa a8 a_0 true,oT a_0 a0,za s_1 a1.sub,oPw]:=S.new hw39
  refine zy zq rfl rfl (S.blk 0) (Term.len _) (by rw [Term.len]; decide) (Term.one _) (zM (Term.len _)) fun w41 B hw41 zw41=>?_
  replace S:St A N w w41 [oB b40 zb (Term.C (⟨r35.1.kind,r35.1.name,r35.1.other,r35.1.form,s38⟩ : Term)),oB b27 zW [s31.v],oB b2 zb (Term.C (⟨x19_1.kind,x19_1.name,x19_1.other,x19_1.form,s24⟩ : Term)),oB b4 zb (Term.C (⟨x19_2.kind,x19_2.name,x19_2.other,x19_2.form,s25⟩ : Term))] [za s38 r35.1.sub,fS 1 IC s31 r28.1,fS 1 IC SlV.nil ([]),za s25 x19_2.sub,za s24 x19_1.sub,oMa a8 a_0 true,oT a_0 a0,za s_1 a1.sub,oPw]:=S.store 0 B hw41
  clear B
  refine wd (zn rfl) ?_
  refine ze ?_
  refine zg (zg (zd ?_))
  refine wd (zp rfl) ?_
  refine wd (xN rfl rfl) ?_
  refine ze ?_
  refine zU rfl (fun hc42=>?_) (fun hc42=>?_)
  ·replace H:=if_t hc42 H
   refine zg (zd ?_)
   refine wd (zi zq rfl ((S.blk 2).all _ (Term.len _)) (Term.len _)) ?_
   refine wd (zp q19_12) ?_
   refine wd (zp rfl) ?_
   refine zy zq rfl rfl (S.blk 3) (Term.len _) (by rw [Term.len]; decide) (Term.one _) (zM (Term.len _)) fun w43 B hw43 zw43=>?_
   replace S:St A N w w43 [oB b4 zb (Term.C (⟨x19_1.kind,x19_1.name,x19_1.other,x19_1.form,s24⟩ : Term)),oB b40 zb (Term.C (⟨r35.1.kind,r35.1.name,r35.1.other,r35.1.form,s38⟩ : Term)),oB b27 zW [s31.v],oB b2 zb (Term.C (⟨x19_1.kind,x19_1.name,x19_1.other,x19_1.form,s24⟩ : Term))] [za s38 r35.1.sub,fS 1 IC s31 r28.1,fS 1 IC SlV.nil ([]),za s25 x19_2.sub,za s24 x19_1.sub,oMa a8 a_0 true,oT a_0 a0,za s_1 a1.sub,oPw]:=S.store 3 B hw43
   clear B
   refine wd (zn rfl) ?_
   refine wd (zk rfl) ?_
   refine wd (zn rfl) ?_
   refine ze ?_
   refine zC ?_
   refine ⟨_,(jr (zV zq rfl ((S.blk 0).all _ (Term.len _)) (Term.len _)) (zj rfl) (zj rfl) (zj rfl)),?_⟩
   replace S:St A N w w43 [] [za s24 x19_1.sub]:=S.arr [] [4]
   obtain rfl:=jN H
   obtain rfl:=e19
   obtain rfl:=aft_r Ho19
   exact ⟨s24,rfl,S⟩
  replace H:=if_f hc42 H
  refine zI ?_
  refine zg (zd ?_)
  refine wd (zi zq rfl ((S.blk 0).all _ (Term.len _)) (Term.len _)) ?_
  refine zy zq rfl rfl (S.blk 2) (Term.len _) (by rw [Term.len]; decide) (Term.one _) (zM (Term.len _)) fun w44 B hw44 zw44=>?_
  replace S:St A N w w44 [oB b2 zb (Term.C (⟨r35.1.kind,r35.1.name,r35.1.other,r35.1.form,s38⟩ : Term)),oB b40 zb (Term.C (⟨r35.1.kind,r35.1.name,r35.1.other,r35.1.form,s38⟩ : Term)),oB b27 zW [s31.v],oB b4 zb (Term.C (⟨x19_2.kind,x19_2.name,x19_2.other,x19_2.form,s25⟩ : Term))] [za s38 r35.1.sub,fS 1 IC s31 r28.1,fS 1 IC SlV.nil ([]),za s25 x19_2.sub,za s24 x19_1.sub,oMa a8 a_0 true,oT a_0 a0,za s_1 a1.sub,oPw]:=S.store 2 B hw44
  clear B
  refine ze ?_
  refine zd ?_
  refine wd (zp q19_12) ?_
  refine wd (vt rfl rfl) ?_
  refine wd (zn rfl) ?_
  refine ze ?_
  replace S:St A N w w44 [oB b2 zb (Term.C (⟨r35.1.kind,r35.1.name,r35.1.other,r35.1.form,s38⟩ : Term)),oB b4 zb (Term.C (⟨x19_2.kind,x19_2.name,x19_2.other,x19_2.form,s25⟩ : Term))] [za s25 x19_2.sub,za s38 r35.1.sub,oMa a8 a_0 true,oT a_0 a0,za s_1 a1.sub,oPw]:=S.arr [0,3] [3,0,5,6,7,8]
  obtain rfl:=jN H
  exact ⟨rfl,((((((((((((((((((((((((((((Dif.self _ _ _).upd rfl _).upd rfl _).upd rfl _).upd rfl _).upd rfl _).upd rfl _).upd rfl _).upd rfl _).upd rfl _).upd rfl _).upd rfl _).upd rfl _).upd rfl _).upd rfl _).upd rfl _).upd rfl _).upd rfl _).upd rfl _).upd rfl _).upd rfl _).upd rfl _).upd rfl _).upd rfl _).upd rfl _).upd rfl _).upd rfl _).upd rfl _),(m19,(IntKind.i64.wrap (x19_0 + 1),r35.1,x19_2)),⟨e19,s38,s25,rfl,S⟩,by dsimp only; omega⟩
 rintro g45 u46 ⟨s19,rfl,s20,s21,p19_12,S⟩
 have H:=Ho19
 dsimp only [aft] at H
 refine zg (zd ?_)
 refine wd (zi zq rfl ((S.blk 0).all _ (Term.len _)) (Term.len _)) ?_
 refine wd (zp p19_12) ?_
 refine zy zq rfl rfl (S.blk 1) (Term.len _) (by rw [Term.len]; decide) (Term.one _) (zM (Term.len _)) fun w47 B hw47 zw47=>?_
 replace S:St A N w w47 [oB b4 zb (Term.C (⟨s19.2.1.kind,s19.2.1.name,s19.2.1.other,s19.2.1.form,s20⟩ : Term)),oB b2 zb (Term.C (⟨s19.2.1.kind,s19.2.1.name,s19.2.1.other,s19.2.1.form,s20⟩ : Term))] [za s21 s19.2.2.sub,za s20 s19.2.1.sub,oMa a8 a_0 true,oT a_0 a0,za s_1 a1.sub,oPw]:=S.store 1 B hw47
 clear B
 refine wd (zn rfl) ?_
 refine wd (zk rfl) ?_
 refine wd (zn rfl) ?_
 refine ze ?_
 refine zC ?_
 refine ⟨_,(jr (zV zq rfl ((S.blk 0).all _ (Term.len _)) (Term.len _)) (zj rfl) (zj rfl) (zj rfl)),?_⟩
 replace S:St A N w w47 [] [za s20 s19.2.1.sub]:=S.arr [] [1]
 obtain rfl:=jN H
 exact ⟨s20,rfl,S⟩
end
section
open Gw Go.RowKit
set_option maxHeartbeats 4000000
set_option maxRecDepth 20000
variable {A:Nat→Prop} {N:Oth} {w:World}
theorem formula_Table_Atom_st {a0:Tb} {a_0:Option Addr} {a1:ByteArray} (S:St A N w w [oT a_0 a0] []) {r:Tb × Int × Int} (H:k6.f a0 a1=some r) :
  Calls PP uH #[.pointer a_0,.string a1] w fun e w' => ∃ v,e = .returned v∧(v = .tuple #[.int .i64 r.2.1,.int .i64 r.2.2]∧St A N w w' [oT a_0 r.1] []):=by
 unfold k6.f at H
 refine zE (n:=12) fn_formula_Table_Atom rfl rfl jL ?_
 refine zg (zd ?_)
 refine wd (zn rfl) ?_
 refine wd (zn rfl) ?_
 refine ze ?_
 refine zg (zd ?_)
 refine wd (zN rfl) ?_
 refine wd (xm rfl) ?_
 refine wd (vv bu_Nd (Bld.one rfl rfl (by rw [Nd.len]; decide) (Nd.set_kind _ _) (Bld.one rfl rfl (by rw [Nd.len]; decide) (Nd.set_name _ _) Bld.nil))) ?_
 obtain ⟨r1,er1,H⟩ := zB H
 obtain ⟨B3,MB3,SB3,back⟩ := S.calln 1 ((.nil))
 refine zJ (zH uL) jJ (formula_Table_Put_st SB3 er1) ?_
 rintro _ w2 ⟨rfl,S2⟩
 replace S:St A N w w2 [oT a_0 r1.1] []:=back _ _ _ _ S2 rfl
 clear back S2 SB3
 refine wd (zA rfl rfl) ?_
 refine wd (zA rfl rfl) ?_
 refine wd (zn rfl) ?_
 refine wd (zn rfl) ?_
 refine ze ?_
 refine zC ?_
 refine ⟨_,(xB (zj rfl) (zj rfl)),?_⟩
 obtain rfl:=jN H
 exact ⟨rfl,S⟩
theorem vB {a0:Int} (S:St A N w w [] []) {r:Int} (H:k7.f a0=some r) :
  Calls PP F_law14_num #[.int .i64 a0] w fun e w' => ∃ v,e = .returned v∧(v = .int .i64 r∧St A N w w' [] []):=by
 unfold k7.f at H
 refine zE (n:=4) fn_law14_num rfl rfl jL ?_
 refine zg (zd ?_)
 refine wd (zn rfl) ?_
 refine ze ?_
 refine zg (zd ?_)
 refine wd (zp rfl) ?_
 refine wd (zn rfl) ?_
 refine ze ?_
 refine zC ?_
 refine ⟨_,(z1 (zj rfl)),?_⟩
 obtain rfl:=jN H
 exact ⟨rfl,S⟩
theorem y2 {a0:ByteArray} (S:St A N w w [] []) {r:PTerm} (H:k8.f a0=some r) :
  Calls PP F_law14_name #[.string a0] w fun e w' => ∃ v,e = .returned v∧(∃ so0:SlV,v = .agg (Term.C (⟨r.kind,r.name,r.other,r.form,so0⟩ : Term)).toArray∧St A N w w' [] [za so0 r.sub]):=by
 unfold k8.f at H
 refine zE (n:=5) fn_law14_name rfl rfl jL ?_
 refine zg (zd ?_)
 refine zZ xr jJ fun b2 w1 hw1=>?_
 replace S:St A N w w1 [oB b2 zb (Term.C (⟨0,ByteArray.empty,ByteArray.empty,0,SlV.nil⟩ : Term))] []:=S.new hw1
 refine ze ?_
 refine zg (zd ?_)
 refine wd (xm rfl) ?_
 refine wd (Does.to (v' := .agg (Term.C (⟨1,a0,ByteArray.empty,0,SlV.nil⟩ : Term)).toArray) (xg (vs:=[(0,.int .i64 1),(1,.string a0)]) xW (xE rfl (xE rfl rfl)) (Bld.one rfl rfl (by rw [Term.len]; decide) (Term.set_kind _ _) (Bld.one rfl rfl (by rw [Term.len]; decide) (Term.set_name _ _) Bld.nil))) rfl) ?_
 refine zy zq rfl rfl (S.blk 0) (Term.len _) (by rw [Term.len]; decide) (Term.one _) (zM (Term.len _)) fun w3 B hw3 zw3=>?_
 replace S:St A N w w3 [oB b2 zb (Term.C (⟨1,a0,ByteArray.empty,0,SlV.nil⟩ : Term))] []:=S.store 0 B hw3
 clear B
 refine ze ?_
 refine zC ?_
 replace S:St A N w w3 [oB b2 zb (Term.C (⟨1,a0,ByteArray.empty,0,SlV.nil⟩ : Term))] [za SlV.nil ([])]:=S.nilTm
 refine ⟨_,(z1 (zV zq rfl ((S.blk 0).all _ (Term.len _)) (Term.len _))),?_⟩
 replace S:St A N w w3 [] [za SlV.nil ([])]:=S.arr [] [0]
 obtain rfl:=jN H
 exact ⟨SlV.nil,rfl,S⟩
theorem ref12_Same_gst {zay:PTerm→PTerm→Option Bool} (zal : ∀ {A:Nat→Prop} {N:Oth} {w:World} {a0:PTerm} {s_0:SlV} {a1:PTerm} {s_1:SlV} (S:St A N w w [] [za s_0 a0.sub,za s_1 a1.sub]) {r:Bool} (H:zay a0 a1=some r),Calls PP v7 #[.agg (Term.C (⟨a0.kind,a0.name,a0.other,a0.form,s_0⟩ : Term)).toArray,.agg (Term.C (⟨a1.kind,a1.name,a1.other,a1.form,s_1⟩ : Term)).toArray] w fun e w' => ∃ v,e = .returned v∧(v = .bool r∧St A N w w' [] [])) {A:Nat→Prop} {N:Oth} {w:World} {a0:PTerm} {s_0:SlV} {a1:PTerm} {s_1:SlV} (S:St A N w w [] [za s_0 a0.sub,za s_1 a1.sub]) {k:Nat} {r:Bool} (H:k9.g zay k a0 a1=some r) :
  Calls PP v7 #[.agg (Term.C (⟨a0.kind,a0.name,a0.other,a0.form,s_0⟩ : Term)).toArray,.agg (Term.C (⟨a1.kind,a1.name,a1.other,a1.form,s_1⟩ : Term)).toArray] w fun e w' => ∃ v,e = .returned v∧(v = .bool r∧St A N w w' [] []):=by
 unfold k9.g at H
 refine zE (n:=60) fn_ref12_Same rfl rfl jL ?_
 refine zg (zd ?_)
 refine zQ rfl jJ fun b2 w1 hw1=>?_
 replace S:St A N w w1 [oB b2 zb (Term.C (⟨a0.kind,a0.name,a0.other,a0.form,s_0⟩ : Term))] [za s_0 a0.sub,za s_1 a1.sub]:=S.new hw1
 refine zQ rfl jJ fun b4 w3 hw3=>?_
 replace S:St A N w w3 [oB b4 zb (Term.C (⟨a1.kind,a1.name,a1.other,a1.form,s_1⟩ : Term)),oB b2 zb (Term.C (⟨a0.kind,a0.name,a0.other,a0.form,s_0⟩ : Term))] [za s_0 a0.sub,za s_1 a1.sub]:=S.new hw3
 refine wd (zk rfl) ?_
 refine ze ?_
 refine zg (zg (zd ?_))
 refine wd (zh xl rfl (o':=0) rfl) ?_
 refine wd (zt xd rfl ((S.blk 1).cell (Term.get_kind _))) ?_
 refine wd (zh xl rfl (o':=0) rfl) ?_
 refine wd (zt xd rfl ((S.blk 0).cell (Term.get_kind _))) ?_
 refine wd (xN rfl rfl) ?_
 refine wd (zG rfl) ?_
 refine zu (j:=5) (pol:=false) rfl rfl rfl jJ (fun hg=>zh xO rfl (o':=1) rfl) jJ ?_
 refine zu (j:=5) (pol:=false) rfl rfl rfl jJ (fun hg=>zt xz (zw hg) ((S.blk 1).cell (Term.get_name _))) jJ ?_
 refine zu (j:=5) (pol:=false) rfl rfl rfl jJ (fun hg=>zh xO rfl (o':=1) rfl) jJ ?_
 refine zu (j:=5) (pol:=false) rfl rfl rfl jJ (fun hg=>zt xz (zw hg) ((S.blk 0).cell (Term.get_name _))) jJ ?_
 refine zu (j:=5) (pol:=false) rfl rfl rfl jJ (fun hg=>uk (zw hg) (zw hg)) jJ ?_
 refine wd (xF rfl (fun hp=>(zw (xu hp)))) ?_
 refine wd (zG rfl) ?_
 refine zu (j:=12) (pol:=false) rfl rfl rfl jJ (fun hg=>zh vj rfl (o':=2) rfl) jJ ?_
 refine zu (j:=12) (pol:=false) rfl rfl rfl jJ (fun hg=>zt xz (zw hg) ((S.blk 1).cell (Term.get_other _))) jJ ?_
 refine zu (j:=12) (pol:=false) rfl rfl rfl jJ (fun hg=>zh vj rfl (o':=2) rfl) jJ ?_
 refine zu (j:=12) (pol:=false) rfl rfl rfl jJ (fun hg=>zt xz (zw hg) ((S.blk 0).cell (Term.get_other _))) jJ ?_
 refine zu (j:=12) (pol:=false) rfl rfl rfl jJ (fun hg=>uk (zw hg) (zw hg)) jJ ?_
 refine wd (xF rfl (fun hp=>(zw (xu hp)))) ?_
 refine wd (zG rfl) ?_
 refine zu (j:=19) (pol:=false) rfl rfl rfl jJ (fun hg=>zh yX rfl (o':=3) rfl) jJ ?_
 refine zu (j:=19) (pol:=false) rfl rfl rfl jJ (fun hg=>zt xZ (zw hg) ((S.blk 1).cell (Term.get_form _))) jJ ?_
 refine zu (j:=19) (pol:=false) rfl rfl rfl jJ (fun hg=>zh yX rfl (o':=3) rfl) jJ ?_
 refine zu (j:=19) (pol:=false) rfl rfl rfl jJ (fun hg=>zt xZ (zw hg) ((S.blk 0).cell (Term.get_form _))) jJ ?_
 refine zu (j:=19) (pol:=false) rfl rfl rfl jJ (fun hg=>xN (zw hg) (zw hg)) jJ ?_
 refine wd (xF rfl (fun hp=>(zw (xu hp)))) ?_
 refine wd (zG rfl) ?_
 refine zu (j:=26) (pol:=false) rfl rfl rfl jJ (fun hg=>zh zO rfl (o':=4) rfl) jJ ?_
 refine zu (j:=26) (pol:=false) rfl rfl rfl jJ (fun hg=>zt zF (zw hg) ((S.blk 1).cell (Term.get_sub _))) jJ ?_
 refine zu (j:=26) (pol:=false) rfl rfl rfl jJ (fun hg=>does_lenF zz (zw hg) (S.onZ 0)) jJ ?_
 refine zu (j:=26) (pol:=false) rfl rfl rfl jJ (fun hg=>zh zO rfl (o':=4) rfl) jJ ?_
 refine zu (j:=26) (pol:=false) rfl rfl rfl jJ (fun hg=>zt zF (zw hg) ((S.blk 0).cell (Term.get_sub _))) jJ ?_
 refine zu (j:=26) (pol:=false) rfl rfl rfl jJ (fun hg=>does_lenF zz (zw hg) (S.onZ 1)) jJ ?_
 refine zu (j:=26) (pol:=false) rfl rfl rfl jJ (fun hg=>xN (zw hg) (zw hg)) jJ ?_
 refine wd (xF rfl (fun hp=>(zw (xu hp)))) ?_
 refine ze ?_
 refine zU rfl (fun hc5=>?_) (fun hc5=>?_)
 ·replace H:=if_t hc5 H
  refine zg (zd ?_)
  refine wd (zk rfl) ?_
  refine ze ?_
  refine zC ?_
  refine ⟨_,(z1 (zj rfl)),?_⟩
  replace S:St A N w w3 [] []:=S.arr [] []
  obtain rfl:=jN H
  exact ⟨rfl,S⟩
 replace H:=if_f hc5 H
 refine zI ?_
 refine zg (zg (zd ?_))
 refine wd (zn rfl) ?_
 refine ze ?_
 obtain ⟨o6,e6,Ho6⟩ := zB H
 clear H
 refine yi [4,5,41,42,43,44,45,46,47,48,49,50,51,52,53,54,55,56,57,58,59] (fun fr W => ∃ s6:Int,o6 = .inl s6∧fr 5 = .int .i64 s6∧St A N w W [oB b4 zb (Term.C (⟨a1.kind,a1.name,a1.other,a1.form,s_1⟩ : Term)),oB b2 zb (Term.C (⟨a0.kind,a0.name,a0.other,a0.form,s_0⟩ : Term))] [za s_0 a0.sub,za s_1 a1.sub]) ?_ ?_
 ·refine zY ?_
  refine x3 (α:=Nat × Int) [4,5,41,42,43,44,45,46,47,48,49,50,51,52,53,54,55,56,57,58,59] (fun x fr W=>iter (fun s=>k9.b0 a0 a1 zay s) x.1 x.2=some o6∧fr 5 = .int .i64 (x.2)∧St A N w W [oB b4 zb (Term.C (⟨a1.kind,a1.name,a1.other,a1.form,s_1⟩ : Term)),oB b2 zb (Term.C (⟨a0.kind,a0.name,a0.other,a0.form,s_0⟩ : Term))] [za s_0 a0.sub,za s_1 a1.sub]) (fun x=>x.1) (k,0) ⟨(by dsimp only; exact e6),rfl,S⟩ ?_
  rintro ⟨m6,x6_0⟩ g6 u6 ⟨e6,q6_5,S⟩
  try dsimp only at e6
  try dsimp only at S
  try dsimp only at q6_5
  obtain ⟨m6,rfl⟩ : ∃ m,m6=m + 1:=⟨m6 - 1,by cases m6 with | zero=>cases e6 | succ m=>rfl⟩
  obtain ⟨q6,H,e6⟩ := iter_s e6
  unfold k9.b0 at H
  try dsimp only at H
  refine zg (zg (zd ?_))
  refine wd (zp q6_5) ?_
  refine wd (zh zO rfl (o':=4) rfl) ?_
  refine wd (zt zF rfl ((S.blk 1).cell (Term.get_sub _))) ?_
  refine wd (does_lenF zz rfl (S.onZ 0)) ?_
  refine wd (xC rfl rfl) ?_
  refine ze ?_
  refine zU rfl (fun hc7=>?_) (fun hc7=>?_)
  rotate_left
  ·replace H:=if_f hc7 H
   refine yu ?_
   obtain rfl:=jN H
   exact ⟨rfl,((((((Dif.self _ _ _).upd rfl _).upd rfl _).upd rfl _).upd rfl _).upd rfl _),x6_0,e6,q6_5,S⟩
  replace H:=if_t hc7 H
  refine zI ?_
  refine zg ?_
  refine zY ?_
  refine zg ?_
  refine xV 10 (Ext u6) hmix jM jM (Ext.drawn _) ?_
  refine zL (fun v K=>zh zO rfl (o':=4) rfl) ?_
  refine zL (fun v K=>zt zF rfl (((S.ext K).blk 1).cell (Term.get_sub _))) ?_
  refine zL (fun v K=>zp q6_5) ?_
  obtain ⟨hi8,H⟩ := xh H
  refine zL (fun v K=>does_indexF zz rfl rfl ((S.ext K).onZ 0) (zP hi8).1 (zP hi8).2) ?_
  obtain ⟨s9,hc10,S⟩ := S.viewTerm 0 (zP hi8)
  replace S:St A N w u6 [oB b4 zb (Term.C (⟨a1.kind,a1.name,a1.other,a1.form,s_1⟩ : Term)),oB b2 zb (Term.C (⟨a0.kind,a0.name,a0.other,a0.form,s_0⟩ : Term))] [za s9 ((at_ PTerm.z a0.sub x6_0).sub),za s_0 a0.sub,za s_1 a1.sub]:=S
  refine zL (fun v K=>zi zq rfl (hc10.chg K (fun x=>x)) (Term.len _)) ?_
  refine zL (fun v K=>zh zO rfl (o':=4) rfl) ?_
  refine zL (fun v K=>zt zF rfl (((S.ext K).blk 0).cell (Term.get_sub _))) ?_
  refine zL (fun v K=>zp q6_5) ?_
  obtain ⟨hi11,H⟩ := xh H
  refine zL (fun v K=>does_indexF zz rfl rfl ((S.ext K).onZ 2) (zP hi11).1 (zP hi11).2) ?_
  obtain ⟨s12,hc13,S⟩ := S.viewTerm 2 (zP hi11)
  replace S:St A N w u6 [oB b4 zb (Term.C (⟨a1.kind,a1.name,a1.other,a1.form,s_1⟩ : Term)),oB b2 zb (Term.C (⟨a0.kind,a0.name,a0.other,a0.form,s_0⟩ : Term))] [za s12 ((at_ PTerm.z a1.sub x6_0).sub),za s9 ((at_ PTerm.z a0.sub x6_0).sub),za s_0 a0.sub,za s_1 a1.sub]:=S
  refine zL (fun v K=>zi zq rfl (hc13.chg K (fun x=>x)) (Term.len _)) ?_
  refine va fun w14 K=>?_
  replace S:=S.ext K
  clear K
  obtain ⟨r15,er15,H⟩ := zB H
  obtain ⟨B17,MB17,SB17,back⟩ := S.calln 0 ((.z 1 rfl (.z 0 rfl .nil)))
  refine zJ (zH vh) jJ (zal (a0:=(at_ PTerm.z a0.sub x6_0)) (a1:=(at_ PTerm.z a1.sub x6_0)) SB17 er15) ?_
  rintro _ w16 ⟨rfl,S2⟩
  replace S:St A N w w16 [oB b4 zb (Term.C (⟨a1.kind,a1.name,a1.other,a1.form,s_1⟩ : Term)),oB b2 zb (Term.C (⟨a0.kind,a0.name,a0.other,a0.form,s_0⟩ : Term))] [za s12 ((at_ PTerm.z a1.sub x6_0).sub),za s9 ((at_ PTerm.z a0.sub x6_0).sub),za s_0 a0.sub,za s_1 a1.sub]:=back _ _ _ _ S2 rfl
  clear back S2 SB17
  refine wd (xp rfl) ?_
  refine ze ?_
  refine zU rfl (fun hc18=>?_) (fun hc18=>?_)
  ·replace H:=if_t hc18 H
   refine zg (zd ?_)
   refine wd (zk rfl) ?_
   refine ze ?_
   refine zC ?_
   refine ⟨_,(z1 (zj rfl)),?_⟩
   replace S:St A N w w16 [] []:=S.arr [] []
   obtain rfl:=jN H
   obtain rfl:=e6
   obtain rfl:=aft_r Ho6
   exact ⟨rfl,S⟩
  replace H:=if_f hc18 H
  refine zI ?_
  refine zd ?_
  refine wd (zp q6_5) ?_
  refine wd (vt rfl rfl) ?_
  refine wd (zn rfl) ?_
  refine ze ?_
  replace S:St A N w w16 [oB b4 zb (Term.C (⟨a1.kind,a1.name,a1.other,a1.form,s_1⟩ : Term)),oB b2 zb (Term.C (⟨a0.kind,a0.name,a0.other,a0.form,s_0⟩ : Term))] [za s_0 a0.sub,za s_1 a1.sub]:=S.arr [0,1] [2,3]
  obtain rfl:=jN H
  exact ⟨rfl,(((((((((((((((((((((Dif.self _ _ _).upd rfl _).upd rfl _).upd rfl _).upd rfl _).upd rfl _).upd rfl _).upd rfl _).upd rfl _).upd rfl _).upd rfl _).upd rfl _).upd rfl _).upd rfl _).upd rfl _).upd rfl _).upd rfl _).upd rfl _).upd rfl _).upd rfl _).upd rfl _),(m6,IntKind.i64.wrap (x6_0 + 1)),⟨e6,rfl,S⟩,by dsimp only; omega⟩
 rintro g19 u20 ⟨s6,rfl,p6_5,S⟩
 have H:=Ho6
 dsimp only [aft] at H
 refine zg (zd ?_)
 refine wd (zk rfl) ?_
 refine ze ?_
 refine zC ?_
 refine ⟨_,(z1 (zj rfl)),?_⟩
 replace S:St A N w u20 [] []:=S.arr [] []
 obtain rfl:=jN H
 exact ⟨rfl,S⟩
theorem vN {a0:PTerm} {s_0:SlV} {a1:PTerm} {s_1:SlV} (S:St A N w w [] [za s_0 a0.sub,za s_1 a1.sub]) {k:Nat} {r:Bool} (H:k9.f k a0 a1=some r) :
  Calls PP v7 #[.agg (Term.C (⟨a0.kind,a0.name,a0.other,a0.form,s_0⟩ : Term)).toArray,.agg (Term.C (⟨a1.kind,a1.name,a1.other,a1.form,s_1⟩ : Term)).toArray] w fun e w' => ∃ v,e = .returned v∧(v = .bool r∧St A N w w' [] []):=by
 have main : ∀ (k:Nat) {A:Nat→Prop} {N:Oth} {w:World} {a0:PTerm} {s_0:SlV} {a1:PTerm} {s_1:SlV} (S:St A N w w [] [za s_0 a0.sub,za s_1 a1.sub]) {r:Bool} (H:k9.f k a0 a1=some r),Calls PP v7 #[.agg (Term.C (⟨a0.kind,a0.name,a0.other,a0.form,s_0⟩ : Term)).toArray,.agg (Term.C (⟨a1.kind,a1.name,a1.other,a1.form,s_1⟩ : Term)).toArray] w fun e w' => ∃ v,e = .returned v∧(v = .bool r∧St A N w w' [] []):=by
  intro k
  induction k with
  | zero=>intro A N w a0 s_0 a1 s_1 S r H; cases H
  | succ k ih=>intro A N w a0 s_0 a1 s_1 S r H; exact ref12_Same_gst ih S H
 exact main k S H
theorem ref03_Ints_st {a0:List Int} {s_0:SlV} {a1:List Int} {s_1:SlV} (S:St A N w w [] [fS 1 IC s_0 a0,fS 1 IC s_1 a1]) {r:Bool} (H:zaa.f a0 a1=some r) :
  Calls PP F_ref03_Ints #[s_0.v,s_1.v] w fun e w' => ∃ v,e = .returned v∧(v = .bool r∧St A N w w' [] []):=by
 unfold zaa.f at H
 refine zE (n:=26) fn_ref03_Ints rfl rfl jL ?_
 refine zg (zd ?_)
 refine wd (zk rfl) ?_
 refine ze ?_
 refine zg (zg (zd ?_))
 refine wd (xa rfl) ?_
 refine wd (x5 xM rfl (S.rd 0)) ?_
 refine wd (xa rfl) ?_
 refine wd (x5 xM rfl (S.rd 1)) ?_
 refine wd (xN rfl rfl) ?_
 refine ze ?_
 refine zU rfl (fun hc1=>?_) (fun hc1=>?_)
 ·replace H:=if_t hc1 H
  refine zg (zd ?_)
  refine wd (zk rfl) ?_
  refine ze ?_
  refine zC ?_
  refine ⟨_,(z1 (zj rfl)),?_⟩
  replace S:St A N w w [] []:=S.arr [] []
  obtain rfl:=jN H
  exact ⟨rfl,S⟩
 replace H:=if_f hc1 H
 refine zI ?_
 refine zg (zg (zd ?_))
 refine wd (zn rfl) ?_
 refine ze ?_
 obtain ⟨o2,e2,Ho2⟩ := zB H
 clear H
 refine yi [4,5,11,12,13,14,15,16,17,18,19,20,21,22,23,24,25] (fun fr W => ∃ s2:Unit,o2 = .inl s2∧St A N w W [] [fS 1 IC s_0 a0,fS 1 IC s_1 a1]) ?_ ?_
 ·refine zY ?_
  refine x3 (α:=Nat × Int × Unit) [4,5,11,12,13,14,15,16,17,18,19,20,21,22,23,24,25] (fun x fr W=>(x.1:Int)=(a0.length:Int) - x.2.1∧0 ≤ x.2.1∧forN (fun i s=>zaa.b0 a1 a0 i) x.1 x.2.1 x.2.2=some o2∧fr 5 = .int .i64 x.2.1∧St A N w W [] [fS 1 IC s_0 a0,fS 1 IC s_1 a1]) (fun x=>x.1) (((a0.length:Int) - 0).toNat,0,()) ⟨(by dsimp only; have hle:=Int.natCast_nonneg (a0.length); omega),(Int.le_refl _),(by dsimp only; exact e2),rfl,S⟩ ?_
  rintro ⟨m2,i2,_⟩ g2 u2 ⟨hm2,hl2,e2,q2_i,S⟩
  try dsimp only at hm2
  try dsimp only at hl2
  try dsimp only at e2
  try dsimp only at S
  try dsimp only at q2_i
  refine zg (zg (zd ?_))
  refine wd (zp q2_i) ?_
  refine wd (xa rfl) ?_
  refine wd (x5 xM rfl (S.rd 0)) ?_
  refine wd (xC rfl rfl) ?_
  refine ze ?_
  refine zU rfl (fun hc3=>?_) (fun hc3=>?_)
  rotate_left
  ·refine yu ?_
   have hge:(a0.length:Int) ≤ i2:=Int.not_lt.1 (of_decide_eq_false hc3)
   obtain rfl:m2=0:=by omega
   replace e2:=forN_0 e2
   exact ⟨rfl,(((((Dif.self _ _ _).upd rfl _).upd rfl _).upd rfl _).upd rfl _),(),e2,S⟩
  refine zI ?_
  have hlt2:i2 < (a0.length:Int):=of_decide_eq_true hc3
  obtain ⟨m2,rfl⟩ : ∃ m,m2=m + 1:=⟨m2 - 1,by omega⟩
  obtain ⟨q2,H,e2⟩ := forN_s e2
  unfold zaa.b0 at H
  try dsimp only at H
  have hb2:=(S.len 0)
  refine zg ?_
  refine zY ?_
  refine zg ?_
  refine xV 8 (Ext u2) hmix jM jM (Ext.drawn _) ?_
  refine zL (fun v K=>xa rfl) ?_
  refine zL (fun v K=>zp q2_i) ?_
  refine zL (fun v K=>xt xM rfl rfl ((S.ext K).rd 0) (And.intro (show 0 ≤ i2 by omega) (show i2 < (a0.length:Int) from hlt2)).1 (And.intro (show 0 ≤ i2 by omega) (show i2 < (a0.length:Int) from hlt2)).2) ?_
  refine zL (fun v K=>zt xZ rfl (((S.ext K).rd 0).one (vy (0:Int) (And.intro (show 0 ≤ i2 by omega) (show i2 < (a0.length:Int) from hlt2))) rfl)) ?_
  refine zL (fun v K=>xa rfl) ?_
  refine zL (fun v K=>zp q2_i) ?_
  obtain ⟨hi5,H⟩ := xh H
  refine zL (fun v K=>xt xM rfl rfl ((S.ext K).rd 1) (zP hi5).1 (zP hi5).2) ?_
  refine zL (fun v K=>zt xZ rfl (((S.ext K).rd 1).one (vy (0:Int) (zP hi5)) rfl)) ?_
  refine va fun w6 K=>?_
  replace S:=S.ext K
  clear K
  refine wd (xN rfl rfl) ?_
  refine ze ?_
  refine zU rfl (fun hc7=>?_) (fun hc7=>?_)
  ·replace H:=if_t hc7 H
   refine zg (zd ?_)
   refine wd (zk rfl) ?_
   refine ze ?_
   refine zC ?_
   refine ⟨_,(z1 (zj rfl)),?_⟩
   replace S:St A N w w6 [] []:=S.arr [] []
   obtain rfl:=jN H
   obtain rfl:=e2
   obtain rfl:=aft_r Ho2
   exact ⟨rfl,S⟩
  replace H:=if_f hc7 H
  refine zI ?_
  refine zd ?_
  refine wd (zp q2_i) ?_
  refine wd (xx rfl rfl (c:=i2 + 1) rfl jK jK) ?_
  refine wd (zn rfl) ?_
  refine ze ?_
  obtain rfl:=jN H
  exact ⟨rfl,(((((((((((((((((Dif.self _ _ _).upd rfl _).upd rfl _).upd rfl _).upd rfl _).upd rfl _).upd rfl _).upd rfl _).upd rfl _).upd rfl _).upd rfl _).upd rfl _).upd rfl _).upd rfl _).upd rfl _).upd rfl _).upd rfl _),(m2,i2 + 1,()),⟨(by dsimp only; omega),(by dsimp only; omega),e2,rfl,S⟩,by dsimp only; omega⟩
 rintro g8 u9 ⟨s2,rfl,S⟩
 have H:=Ho2
 dsimp only [aft] at H
 refine zg (zd ?_)
 refine wd (zk rfl) ?_
 refine ze ?_
 refine zC ?_
 refine ⟨_,(z1 (zj rfl)),?_⟩
 replace S:St A N w u9 [] []:=S.arr [] []
 obtain rfl:=jN H
 exact ⟨rfl,S⟩
theorem ref14_Ways_st {a0:List (List Int)} {s_0:SlV} {a1:List (List Int)} {s_1:SlV} (S:St A N w w [] [zm s_0 a0,zm s_1 a1]) {r:Bool} (H:zab.f a0 a1=some r) :
  Calls PP F_ref14_Ways #[s_0.v,s_1.v] w fun e w' => ∃ v,e = .returned v∧(v = .bool r∧St A N w w' [] []):=by
 unfold zab.f at H
 refine zE (n:=27) fn_ref14_Ways rfl rfl jL ?_
 refine zg (zd ?_)
 refine wd (zk rfl) ?_
 refine ze ?_
 refine zg (zg (zd ?_))
 refine wd (xa rfl) ?_
 refine wd (ja yL rfl (S.onZ 0)) ?_
 refine wd (xa rfl) ?_
 refine wd (ja yL rfl (S.onZ 1)) ?_
 refine wd (xN rfl rfl) ?_
 refine ze ?_
 refine zU rfl (fun hc1=>?_) (fun hc1=>?_)
 ·replace H:=if_t hc1 H
  refine zg (zd ?_)
  refine wd (zk rfl) ?_
  refine ze ?_
  refine zC ?_
  refine ⟨_,(z1 (zj rfl)),?_⟩
  replace S:St A N w w [] []:=S.arr [] []
  obtain rfl:=jN H
  exact ⟨rfl,S⟩
 replace H:=if_f hc1 H
 refine zI ?_
 refine zg (zg (zd ?_))
 refine wd (zn rfl) ?_
 refine ze ?_
 obtain ⟨o2,e2,Ho2⟩ := zB H
 clear H
 refine yi [4,5,11,12,13,14,15,16,17,18,19,20,21,22,23,24,25,26] (fun fr W => ∃ s2:Unit,o2 = .inl s2∧St A N w W [] [zm s_0 a0,zm s_1 a1]) ?_ ?_
 ·refine zY ?_
  refine x3 (α:=Nat × Int × Unit) [4,5,11,12,13,14,15,16,17,18,19,20,21,22,23,24,25,26] (fun x fr W=>(x.1:Int)=(a0.length:Int) - x.2.1∧0 ≤ x.2.1∧forN (fun i s=>zab.b0 a1 a0 i) x.1 x.2.1 x.2.2=some o2∧fr 5 = .int .i64 x.2.1∧St A N w W [] [zm s_0 a0,zm s_1 a1]) (fun x=>x.1) (((a0.length:Int) - 0).toNat,0,()) ⟨(by dsimp only; have hle:=Int.natCast_nonneg (a0.length); omega),(Int.le_refl _),(by dsimp only; exact e2),rfl,S⟩ ?_
  rintro ⟨m2,i2,_⟩ g2 u2 ⟨hm2,hl2,e2,q2_i,S⟩
  try dsimp only at hm2
  try dsimp only at hl2
  try dsimp only at e2
  try dsimp only at S
  try dsimp only at q2_i
  refine zg (zg (zd ?_))
  refine wd (zp q2_i) ?_
  refine wd (xa rfl) ?_
  refine wd (ja yL rfl (S.onZ 0)) ?_
  refine wd (xC rfl rfl) ?_
  refine ze ?_
  refine zU rfl (fun hc3=>?_) (fun hc3=>?_)
  rotate_left
  ·refine yu ?_
   have hge:(a0.length:Int) ≤ i2:=Int.not_lt.1 (of_decide_eq_false hc3)
   obtain rfl:m2=0:=by omega
   replace e2:=forN_0 e2
   exact ⟨rfl,(((((Dif.self _ _ _).upd rfl _).upd rfl _).upd rfl _).upd rfl _),(),e2,S⟩
  refine zI ?_
  have hlt2:i2 < (a0.length:Int):=of_decide_eq_true hc3
  obtain ⟨m2,rfl⟩ : ∃ m,m2=m + 1:=⟨m2 - 1,by omega⟩
  obtain ⟨q2,H,e2⟩ := forN_s e2
  unfold zab.b0 at H
  try dsimp only at H
  have hb2:=(S.lenDZ 0)
  refine zg ?_
  refine zY ?_
  refine zg ?_
  refine xV 8 (Ext u2) hmix jM jM (Ext.drawn _) ?_
  refine zL (fun v K=>xa rfl) ?_
  refine zL (fun v K=>zp q2_i) ?_
  refine zL (fun v K=>does_indexD yL rfl rfl ((S.ext K).onZ 0) (And.intro (show 0 ≤ i2 by omega) (show i2 < (a0.length:Int) from hlt2)).1 (And.intro (show 0 ≤ i2 by omega) (show i2 < (a0.length:Int) from hlt2)).2) ?_
  obtain ⟨s5,hc6,S⟩ := S.viewL_int 0 (And.intro (show 0 ≤ i2 by omega) (show i2 < (a0.length:Int) from hlt2))
  replace S:St A N w u2 [] [fS 1 IC s5 (at_ [] a0 i2),zm s_0 a0,zm s_1 a1]:=S
  refine zL (fun v K=>zt on_L_int rfl ((hc6.chg K (fun x=>x)).get (i:=0) rfl)) ?_
  refine zL (fun v K=>xa rfl) ?_
  refine zL (fun v K=>zp q2_i) ?_
  obtain ⟨hi7,H⟩ := xh H
  refine zL (fun v K=>does_indexD yL rfl rfl ((S.ext K).onZ 2) (zP hi7).1 (zP hi7).2) ?_
  obtain ⟨s8,hc9,S⟩ := S.viewL_int 2 (zP hi7)
  replace S:St A N w u2 [] [fS 1 IC s8 (at_ [] a1 i2),fS 1 IC s5 (at_ [] a0 i2),zm s_0 a0,zm s_1 a1]:=S
  refine zL (fun v K=>zt on_L_int rfl ((hc9.chg K (fun x=>x)).get (i:=0) rfl)) ?_
  refine va fun w10 K=>?_
  replace S:=S.ext K
  clear K
  obtain ⟨r11,er11,H⟩ := zB H
  obtain ⟨B13,MB13,SB13,back⟩ := S.calln 0 ((.z 1 rfl (.z 0 rfl .nil)))
  refine zJ (zH ca_ref03_Ints) jJ (ref03_Ints_st SB13 er11) ?_
  rintro _ w12 ⟨rfl,S2⟩
  replace S:St A N w w12 [] [fS 1 IC s8 (at_ [] a1 i2),fS 1 IC s5 (at_ [] a0 i2),zm s_0 a0,zm s_1 a1]:=back _ _ _ _ S2 rfl
  clear back S2 SB13
  refine wd (xp rfl) ?_
  refine ze ?_
  refine zU rfl (fun hc14=>?_) (fun hc14=>?_)
  ·replace H:=if_t hc14 H
   refine zg (zd ?_)
   refine wd (zk rfl) ?_
   refine ze ?_
   refine zC ?_
   refine ⟨_,(z1 (zj rfl)),?_⟩
   replace S:St A N w w12 [] []:=S.arr [] []
   obtain rfl:=jN H
   obtain rfl:=e2
   obtain rfl:=aft_r Ho2
   exact ⟨rfl,S⟩
  replace H:=if_f hc14 H
  refine zI ?_
  refine zd ?_
  refine wd (zp q2_i) ?_
  refine wd (xx rfl rfl (c:=i2 + 1) rfl jK jK) ?_
  refine wd (zn rfl) ?_
  refine ze ?_
  replace S:St A N w w12 [] [zm s_0 a0,zm s_1 a1]:=S.arr [] [2,3]
  obtain rfl:=jN H
  exact ⟨rfl,((((((((((((((((((Dif.self _ _ _).upd rfl _).upd rfl _).upd rfl _).upd rfl _).upd rfl _).upd rfl _).upd rfl _).upd rfl _).upd rfl _).upd rfl _).upd rfl _).upd rfl _).upd rfl _).upd rfl _).upd rfl _).upd rfl _).upd rfl _),(m2,i2 + 1,()),⟨(by dsimp only; omega),(by dsimp only; omega),e2,rfl,S⟩,by dsimp only; omega⟩
 rintro g15 u16 ⟨s2,rfl,S⟩
 have H:=Ho2
 dsimp only [aft] at H
 refine zg (zd ?_)
 refine wd (zk rfl) ?_
 refine ze ?_
 refine zC ?_
 refine ⟨_,(z1 (zj rfl)),?_⟩
 replace S:St A N w u16 [] []:=S.arr [] []
 obtain rfl:=jN H
 exact ⟨rfl,S⟩
end
end Go.Proofs.YtmggdbbmmkkplaaDoor
