/- Texts put together. -/
import Derived.Test.YtmggdbbmmkkplaaDoorMRN3
set_option linter.unusedVariables false
set_option linter.unusedSimpArgs false
namespace Go.Proofs.YtmggdbbmmkkplaaDoor
section
open Gw Go.RowKit
set_option maxHeartbeats 4000000
set_option maxRecDepth 20000
variable {A:Nat→Prop} {N:Oth} {w:World}
theorem jy {a0:PTerm} {s_0:SlV} {a1:Int} (S:St A N w w [] [za s_0 a0.sub]) {r:ByteArray} (H:kB.f a0 a1=some r) :
  Calls PP F_term_binds #[.agg (Term.C (⟨a0.kind,a0.name,a0.other,a0.form,s_0⟩ : Term)).toArray,.int .i64 a1] w fun e w' => ∃ v,e = .returned v∧(v = .string r∧St A N w w' [] []):=by
 unfold kB.f at H
 refine zE (n:=35) fn_term_binds rfl rfl jL ?_
 refine zg (zd ?_)
 refine zQ rfl jJ fun b2 w1 hw1=>?_
 replace S:St A N w w1 [oB b2 zb (Term.C (⟨a0.kind,a0.name,a0.other,a0.form,s_0⟩ : Term))] [za s_0 a0.sub]:=S.new hw1
 refine wd (vi rfl) ?_
 refine ze ?_
 refine zg ?_
 refine zY ?_
 refine zg (zd ?_)
 refine wd (zh xl rfl (o':=0) rfl) ?_
 refine wd (zt xd rfl ((S.blk 0).cell (Term.get_kind _))) ?_
 refine wd (xb rfl rfl) ?_
 refine wd (zG rfl) ?_
 refine zu (j:=3) (pol:=false) rfl rfl rfl jJ (fun hg=>zp rfl) jJ ?_
 refine zu (j:=3) (pol:=false) rfl rfl rfl jJ (fun hg=>xb (zw hg) rfl) jJ ?_
 refine zu (j:=3) (pol:=false) rfl rfl rfl jJ (fun hg=>zG (zw hg)) jJ ?_
 refine xA (j:=6) (pol:=true) rfl rfl rfl jJ (fun hg=>zh xl rfl (o':=0) rfl) jJ ?_
 refine xA (j:=6) (pol:=true) rfl rfl rfl jJ (fun hg=>zt xd (zw hg) ((S.blk 0).cell (Term.get_kind _))) jJ ?_
 refine xA (j:=6) (pol:=true) rfl rfl rfl jJ (fun hg=>xb (zw hg) rfl) jJ ?_
 refine xA (j:=6) (pol:=true) rfl rfl rfl jJ (fun hg=>zG (zw hg)) jJ ?_
 refine xA (j:=10) (pol:=false) rfl rfl rfl jJ (fun hg=>zh xl rfl (o':=0) rfl) jJ ?_
 refine xA (j:=10) (pol:=false) rfl rfl rfl jJ (fun hg=>zt xd (zw hg) ((S.blk 0).cell (Term.get_kind _))) jJ ?_
 refine xA (j:=10) (pol:=false) rfl rfl rfl jJ (fun hg=>xb (zw hg) rfl) jJ ?_
 refine xA (j:=6) (pol:=true) rfl rfl rfl jJ (fun hg=>xF (zw hg) (fun hp=>(zw (and_b hg hp)))) jJ ?_
 refine zu (j:=3) (pol:=false) rfl rfl rfl jJ (fun hg=>xe (zw hg) (fun hp=>(zw (and_b hg hp)))) jJ ?_
 refine wd (xF rfl (fun hp=>(zw (xu hp)))) ?_
 refine wd (zk rfl) ?_
 refine ze ?_
 refine zU rfl (fun hc3=>?_) (fun hc3=>?_)
 ·replace H:=if_t hc3 H
  refine zg (zd ?_)
  refine wd (zh xO rfl (o':=1) rfl) ?_
  refine wd (zt xz rfl ((S.blk 0).cell (Term.get_name _))) ?_
  refine wd (vi rfl) ?_
  refine ze ?_
  refine zC ?_
  refine ⟨_,(z1 (zj rfl)),?_⟩
  replace S:St A N w w1 [] []:=S.arr [] []
  obtain rfl:=jN H
  exact ⟨rfl,S⟩
 replace H:=if_f hc3 H
 refine zg (zd ?_)
 refine wd (zh xl rfl (o':=0) rfl) ?_
 refine wd (zt xd rfl ((S.blk 0).cell (Term.get_kind _))) ?_
 refine wd (xb rfl rfl) ?_
 refine wd (zG rfl) ?_
 refine zu (j:=3) (pol:=true) rfl rfl rfl jJ (fun hg=>zp rfl) jJ ?_
 refine zu (j:=3) (pol:=true) rfl rfl rfl jJ (fun hg=>xb (zw hg) rfl) jJ ?_
 refine wd (xe rfl (fun hp=>(zw (xu hp)))) ?_
 refine wd (zk rfl) ?_
 refine ze ?_
 refine zU rfl (fun hc4=>?_) (fun hc4=>?_)
 ·replace H:=if_t hc4 H
  refine zg (zd ?_)
  refine wd (zh vj rfl (o':=2) rfl) ?_
  refine wd (zt xz rfl ((S.blk 0).cell (Term.get_other _))) ?_
  refine wd (vi rfl) ?_
  refine ze ?_
  refine zC ?_
  refine ⟨_,(z1 (zj rfl)),?_⟩
  replace S:St A N w w1 [] []:=S.arr [] []
  obtain rfl:=jN H
  exact ⟨rfl,S⟩
 replace H:=if_f hc4 H
 refine zI ?_
 refine zg (zd ?_)
 refine wd (vi rfl) ?_
 refine ze ?_
 refine zC ?_
 refine ⟨_,(z1 (zj rfl)),?_⟩
 replace S:St A N w w1 [] []:=S.arr [] []
 obtain rfl:=jN H
 exact ⟨rfl,S⟩
theorem term_grown_gst {zaB:PTerm→ByteArray→Int→Int→Option (Int × Int)} (zao : ∀ {A:Nat→Prop} {N:Oth} {w:World} {a0:PTerm} {s_0:SlV} {a1:ByteArray} {a2:Int} {a3:Int} (S:St A N w w [] [za s_0 a0.sub]) {r:Int × Int} (H:zaB a0 a1 a2 a3=some r),Calls PP ub #[.agg (Term.C (⟨a0.kind,a0.name,a0.other,a0.form,s_0⟩ : Term)).toArray,.string a1,.int .i64 a2,.int .i64 a3] w fun e w' => ∃ v,e = .returned v∧(v = .tuple #[.int .i64 r.1,.int .i64 r.2]∧St A N w w' [] [])) {A:Nat→Prop} {N:Oth} {w:World} {a0:PTerm} {s_0:SlV} {a1:ByteArray} {a2:Int} {a3:Int} (S:St A N w w [] [za s_0 a0.sub]) {k:Nat} {r:Int × Int} (H:kC.g zaB k a0 a1 a2 a3=some r) :
  Calls PP ub #[.agg (Term.C (⟨a0.kind,a0.name,a0.other,a0.form,s_0⟩ : Term)).toArray,.string a1,.int .i64 a2,.int .i64 a3] w fun e w' => ∃ v,e = .returned v∧(v = .tuple #[.int .i64 r.1,.int .i64 r.2]∧St A N w w' [] []):=by
 unfold kC.g at H
 refine zE (n:=60) fn_term_grown rfl rfl jL ?_
 refine zg (zd ?_)
 refine zQ rfl jJ fun b2 w1 hw1=>?_
 replace S:St A N w w1 [oB b2 zb (Term.C (⟨a0.kind,a0.name,a0.other,a0.form,s_0⟩ : Term))] [za s_0 a0.sub]:=S.new hw1
 refine wd (zn rfl) ?_
 refine wd (zn rfl) ?_
 refine ze ?_
 refine zg (zg (zd ?_))
 refine wd (zh xl rfl (o':=0) rfl) ?_
 refine wd (zt xd rfl ((S.blk 0).cell (Term.get_kind _))) ?_
 refine wd (xb rfl rfl) ?_
 refine ze ?_
 refine zU rfl (fun hc3=>?_) (fun hc3=>?_)
 ·replace H:=if_t hc3 H
  refine zg (zg (zd ?_))
  refine wd (zh xO rfl (o':=1) rfl) ?_
  refine wd (zt xz rfl ((S.blk 0).cell (Term.get_name _))) ?_
  refine wd (xm rfl) ?_
  refine wd (yz rfl rfl) ?_
  refine ze ?_
  refine zU rfl (fun hc4=>?_) (fun hc4=>?_)
  ·replace H:=if_t hc4 H
   refine zg (zd ?_)
   refine wd (zp rfl) ?_
   refine wd (zp rfl) ?_
   refine wd (zn rfl) ?_
   refine wd (zn rfl) ?_
   refine ze ?_
   refine zC ?_
   refine ⟨_,(xB (zj rfl) (zj rfl)),?_⟩
   replace S:St A N w w1 [] []:=S.arr [] []
   obtain rfl:=jN H
   exact ⟨rfl,S⟩
  replace H:=if_f hc4 H
  refine zI ?_
  refine zg (zd ?_)
  refine wd (zn rfl) ?_
  refine wd (zn rfl) ?_
  refine ze ?_
  refine zC ?_
  refine ⟨_,(xB (zj rfl) (zj rfl)),?_⟩
  replace S:St A N w w1 [] []:=S.arr [] []
  obtain rfl:=jN H
  exact ⟨rfl,S⟩
 replace H:=if_f hc3 H
 refine zI ?_
 refine zg (zd ?_)
 refine wd (zn rfl) ?_
 refine wd (zn rfl) ?_
 refine ze ?_
 refine zg (zg (zd ?_))
 refine wd (zh zO rfl (o':=4) rfl) ?_
 refine wd (zt zF rfl ((S.blk 0).cell (Term.get_sub _))) ?_
 refine wd (does_lenF zz rfl (S.onZ 0)) ?_
 refine wd (zp rfl) ?_
 refine ze ?_
 obtain ⟨o5,e5,Ho5⟩ := zB H
 clear H
 refine yi [10,11,12,13,14,15,28,29,30,31,32,33,34,35,36,37,38,39,40,41,42,43,44,45,46,47,48,49,50,51,52,53,54,55,56] (fun fr W=>fr 10 = .int .i64 o5.1∧fr 11 = .int .i64 o5.2∧St A N w W [oB b2 zb (Term.C (⟨a0.kind,a0.name,a0.other,a0.form,s_0⟩ : Term))] [za s_0 a0.sub]) ?_ ?_
 ·refine zY ?_
  refine x3 (α:=Nat × Int × (Int × Int)) [10,11,12,13,14,15,28,29,30,31,32,33,34,35,36,37,38,39,40,41,42,43,44,45,46,47,48,49,50,51,52,53,54,55,56] (fun x fr W=>(x.1:Int)=(a0.sub.length:Int) - x.2.1∧0 ≤ x.2.1∧forS (fun i s=>kC.b0 a0 k a1 zaB a2 a3 i s.1 s.2) x.1 x.2.1 x.2.2=some o5∧fr 28 = .int .i64 x.2.1∧fr 10 = .int .i64 (x.2.2.1)∧fr 11 = .int .i64 (x.2.2.2)∧St A N w W [oB b2 zb (Term.C (⟨a0.kind,a0.name,a0.other,a0.form,s_0⟩ : Term))] [za s_0 a0.sub]) (fun x=>x.1) (((a0.sub.length:Int) - 0).toNat,0,(1,0)) ⟨(by dsimp only; have hle:=Int.natCast_nonneg (a0.sub.length); omega),(Int.le_refl _),(by dsimp only; exact e5),rfl,rfl,rfl,S⟩ ?_
  rintro ⟨m5,i5,⟨x5_0,x5_1⟩⟩ g5 u5 ⟨hm5,hl5,e5,q5_i,q5_10,q5_11,S⟩
  try dsimp only at hm5
  try dsimp only at hl5
  try dsimp only at e5
  try dsimp only at S
  try dsimp only at q5_i
  try dsimp only at q5_10
  try dsimp only at q5_11
  refine zg (zd ?_)
  refine wd (xC q5_i rfl) ?_
  refine ze ?_
  refine zg ?_
  refine zU rfl (fun hc6=>?_) (fun hc6=>?_)
  rotate_left
  ·refine yu ?_
   have hge:(a0.sub.length:Int) ≤ i5:=Int.not_lt.1 (of_decide_eq_false hc6)
   obtain rfl:m5=0:=by omega
   replace e5:=forS_0 e5
   obtain rfl:=e5
   exact ⟨rfl,((Dif.self _ _ _).upd rfl _),q5_10,q5_11,S⟩
  refine zI ?_
  have hlt5:i5 < (a0.sub.length:Int):=of_decide_eq_true hc6
  obtain ⟨m5,rfl⟩ : ∃ m,m5=m + 1:=⟨m5 - 1,by omega⟩
  obtain ⟨q5,H,e5⟩ := forS_s e5
  unfold kC.b0 at H
  try dsimp only at H
  have hb5:=(S.lenFZ 0)
  refine zg ?_
  refine zY ?_
  refine zg (zd ?_)
  refine wd (zp q5_i) ?_
  refine wd (does_indexF zz rfl q5_i (S.onZ 0) (And.intro (show 0 ≤ i5 by omega) (show i5 < (a0.sub.length:Int) from hlt5)).1 (And.intro (show 0 ≤ i5 by omega) (show i5 < (a0.sub.length:Int) from hlt5)).2) ?_
  obtain ⟨s8,hc9,S⟩ := S.viewTerm 0 (And.intro (show 0 ≤ i5 by omega) (show i5 < (a0.sub.length:Int) from hlt5))
  replace S:St A N w u5 [oB b2 zb (Term.C (⟨a0.kind,a0.name,a0.other,a0.form,s_0⟩ : Term))] [za s8 ((at_ PTerm.z a0.sub i5).sub),za s_0 a0.sub]:=S
  refine wd (zi zq rfl hc9 (Term.len _)) ?_
  refine zZ xr jJ fun b11 w10 hw10=>?_
  replace S:St A N w w10 [oB b11 zb (Term.C (⟨0,ByteArray.empty,ByteArray.empty,0,SlV.nil⟩ : Term)),oB b2 zb (Term.C (⟨a0.kind,a0.name,a0.other,a0.form,s_0⟩ : Term))] [za s8 ((at_ PTerm.z a0.sub i5).sub),za s_0 a0.sub]:=S.new hw10
  refine wd (zn rfl) ?_
  refine zy zq rfl rfl (S.blk 0) (Term.len _) (by rw [Term.len]; decide) (Term.one _) (zM (Term.len _)) fun w12 B hw12 zw12=>?_
  replace S:St A N w w12 [oB b11 zb (Term.C (⟨(at_ PTerm.z a0.sub i5).kind,(at_ PTerm.z a0.sub i5).name,(at_ PTerm.z a0.sub i5).other,(at_ PTerm.z a0.sub i5).form,s8⟩ : Term)),oB b2 zb (Term.C (⟨a0.kind,a0.name,a0.other,a0.form,s_0⟩ : Term))] [za s8 ((at_ PTerm.z a0.sub i5).sub),za s_0 a0.sub]:=S.store 0 B hw12
  clear B
  refine ze ?_
  refine zg ?_
  refine xV 3 (Ext w12) hmix jM jM (Ext.drawn _) ?_
  refine zL (fun v K=>zi zq rfl (((S.ext K).blk 0).all _ (Term.len _)) (Term.len _)) ?_
  obtain ⟨r13,er13,H⟩ := zB H
  refine wq_call (fun v=>zH ca_term_Size) (fun v K=>(have ⟨M,SS⟩ := (S.ext K).lend ((.z 0 rfl .nil)); quiet (term_Size_st (a0:=(at_ PTerm.z a0.sub i5)) SS er13) (fun v w' h=>⟨h.1,_,_,h.2⟩))) (fun v v' K h=>K.thenExt h) ?_
  refine zL (fun v K=>zi zq rfl (((S.ext K).blk 0).all _ (Term.len _)) (Term.len _)) ?_
  refine va fun w14 K=>?_
  replace S:=S.ext K
  clear K
  obtain ⟨r15,er15,H⟩ := zB H
  obtain ⟨B17,MB17,SB17,back⟩ := S.calln 0 ((.z 0 rfl .nil))
  refine zJ (zH ca_term_Deep) jJ (term_Deep_st (a0:=(at_ PTerm.z a0.sub i5)) SB17 er15) ?_
  rintro _ w16 ⟨rfl,S2⟩
  replace S:St A N w w16 [oB b11 zb (Term.C (⟨(at_ PTerm.z a0.sub i5).kind,(at_ PTerm.z a0.sub i5).name,(at_ PTerm.z a0.sub i5).other,(at_ PTerm.z a0.sub i5).form,s8⟩ : Term)),oB b2 zb (Term.C (⟨a0.kind,a0.name,a0.other,a0.form,s_0⟩ : Term))] [za s8 ((at_ PTerm.z a0.sub i5).sub),za s_0 a0.sub]:=back _ _ _ _ S2 rfl
  clear back S2 SB17
  refine wd (zn rfl) ?_
  refine wd (zn rfl) ?_
  refine ze ?_
  refine zg (zg (zd ?_))
  refine wd (zi zq rfl ((S.blk 1).all _ (Term.len _)) (Term.len _)) ?_
  refine wd (zp rfl) ?_
  obtain ⟨r18,er18,H⟩ := zB H
  obtain ⟨B20,MB20,SB20,back⟩ := S.calln 0 ((.z 1 rfl .nil))
  refine zJ (zH jt) jJ (jy (a0:=a0) SB20 er18) ?_
  rintro _ w19 ⟨rfl,S2⟩
  replace S:St A N w w19 [oB b11 zb (Term.C (⟨(at_ PTerm.z a0.sub i5).kind,(at_ PTerm.z a0.sub i5).name,(at_ PTerm.z a0.sub i5).other,(at_ PTerm.z a0.sub i5).form,s8⟩ : Term)),oB b2 zb (Term.C (⟨a0.kind,a0.name,a0.other,a0.form,s_0⟩ : Term))] [za s8 ((at_ PTerm.z a0.sub i5).sub),za s_0 a0.sub]:=back _ _ _ _ S2 rfl
  clear back S2 SB20
  refine wd (xm rfl) ?_
  refine wd (uk rfl rfl) ?_
  refine ze ?_
  refine zU rfl (fun hc21=>?_) (fun hc21=>?_)
  ·replace H:=if_t hc21 H
   refine zd ?_
   refine wd (zi zq rfl ((S.blk 0).all _ (Term.len _)) (Term.len _)) ?_
   refine wd (xm rfl) ?_
   refine wd (zp rfl) ?_
   refine wd (zp rfl) ?_
   obtain ⟨r22,er22,H⟩ := zB H
   obtain ⟨B24,MB24,SB24,back⟩ := S.calln 0 ((.z 0 rfl .nil))
   refine zJ (zH ca_term_grown) jJ (zao (a0:=(at_ PTerm.z a0.sub i5)) SB24 er22) ?_
   rintro _ w23 ⟨rfl,S2⟩
   replace S:St A N w w23 [oB b11 zb (Term.C (⟨(at_ PTerm.z a0.sub i5).kind,(at_ PTerm.z a0.sub i5).name,(at_ PTerm.z a0.sub i5).other,(at_ PTerm.z a0.sub i5).form,s8⟩ : Term)),oB b2 zb (Term.C (⟨a0.kind,a0.name,a0.other,a0.form,s_0⟩ : Term))] [za s8 ((at_ PTerm.z a0.sub i5).sub),za s_0 a0.sub]:=back _ _ _ _ S2 rfl
   clear back S2 SB24
   refine wd (xn rfl) ?_
   refine wd (zA rfl rfl) ?_
   refine wd (zA rfl rfl) ?_
   refine wd (zn rfl) ?_
   refine wd (zn rfl) ?_
   refine ze ?_
   refine zd ?_
   refine wd (zp q5_10) ?_
   refine wd (zp rfl) ?_
   refine wd (vt rfl rfl) ?_
   refine wd (zp q5_11) ?_
   refine wd (zp rfl) ?_
   refine wd (does_max rfl rfl) ?_
   refine wd (zn rfl) ?_
   refine wd (zn rfl) ?_
   refine ze ?_
   refine zd ?_
   refine wd (xx q5_i rfl (c:=i5 + 1) rfl jK jK) ?_
   refine wd (zp rfl) ?_
   refine ze ?_
   replace S:St A N w w23 [oB b2 zb (Term.C (⟨a0.kind,a0.name,a0.other,a0.form,s_0⟩ : Term))] [za s_0 a0.sub]:=S.arr [1] [1]
   obtain rfl:=jN H
   exact ⟨rfl,((((((((((((((((((((((((((((((((((((((Dif.self _ _ _).upd rfl _).upd rfl _).upd rfl _).upd rfl _).upd rfl _).upd rfl _).upd rfl _).upd rfl _).upd rfl _).upd rfl _).upd rfl _).upd rfl _).upd rfl _).upd rfl _).upd rfl _).upd rfl _).upd rfl _).upd rfl _).upd rfl _).upd rfl _).upd rfl _).upd rfl _).upd rfl _).upd rfl _).upd rfl _).upd rfl _).upd rfl _).upd rfl _).upd rfl _).upd rfl _).upd rfl _).upd rfl _).upd rfl _).upd rfl _).upd rfl _).upd rfl _).upd rfl _),(m5,i5 + 1,(IntKind.i64.wrap (x5_0 + r22.1),(if x5_1 < r22.2 then r22.2 else x5_1))),⟨(by dsimp only; omega),(by dsimp only; omega),e5,rfl,rfl,rfl,S⟩,by dsimp only; omega⟩
  ·replace H:=if_f hc21 H
   refine zI ?_
   refine zd ?_
   refine wd (zp q5_10) ?_
   refine wd (zp rfl) ?_
   refine wd (vt rfl rfl) ?_
   refine wd (zp q5_11) ?_
   refine wd (zp rfl) ?_
   refine wd (does_max rfl rfl) ?_
   refine wd (zn rfl) ?_
   refine wd (zn rfl) ?_
   refine ze ?_
   refine zd ?_
   refine wd (xx q5_i rfl (c:=i5 + 1) rfl jK jK) ?_
   refine wd (zp rfl) ?_
   refine ze ?_
   replace S:St A N w w19 [oB b2 zb (Term.C (⟨a0.kind,a0.name,a0.other,a0.form,s_0⟩ : Term))] [za s_0 a0.sub]:=S.arr [1] [1]
   obtain rfl:=jN H
   exact ⟨rfl,((((((((((((((((((((((((((((Dif.self _ _ _).upd rfl _).upd rfl _).upd rfl _).upd rfl _).upd rfl _).upd rfl _).upd rfl _).upd rfl _).upd rfl _).upd rfl _).upd rfl _).upd rfl _).upd rfl _).upd rfl _).upd rfl _).upd rfl _).upd rfl _).upd rfl _).upd rfl _).upd rfl _).upd rfl _).upd rfl _).upd rfl _).upd rfl _).upd rfl _).upd rfl _).upd rfl _),(m5,i5 + 1,(IntKind.i64.wrap (x5_0 + r13),(if x5_1 < r15 then r15 else x5_1))),⟨(by dsimp only; omega),(by dsimp only; omega),e5,rfl,rfl,rfl,S⟩,by dsimp only; omega⟩
 rintro g25 u26 ⟨p5_10,p5_11,S⟩
 have H:=Ho5
 refine zg (zd ?_)
 refine wd (zp p5_10) ?_
 refine wd (zp p5_11) ?_
 refine wd (vt rfl rfl) ?_
 refine wd (zn rfl) ?_
 refine wd (zn rfl) ?_
 refine ze ?_
 refine zC ?_
 refine ⟨_,(xB (zj rfl) (zj rfl)),?_⟩
 replace S:St A N w u26 [] []:=S.arr [] []
 obtain rfl:=jN H
 exact ⟨rfl,S⟩
theorem term_grown_st {a0:PTerm} {s_0:SlV} {a1:ByteArray} {a2:Int} {a3:Int} (S:St A N w w [] [za s_0 a0.sub]) {k:Nat} {r:Int × Int} (H:kC.f k a0 a1 a2 a3=some r) :
  Calls PP ub #[.agg (Term.C (⟨a0.kind,a0.name,a0.other,a0.form,s_0⟩ : Term)).toArray,.string a1,.int .i64 a2,.int .i64 a3] w fun e w' => ∃ v,e = .returned v∧(v = .tuple #[.int .i64 r.1,.int .i64 r.2]∧St A N w w' [] []):=by
 have main : ∀ (k:Nat) {A:Nat→Prop} {N:Oth} {w:World} {a0:PTerm} {s_0:SlV} {a1:ByteArray} {a2:Int} {a3:Int} (S:St A N w w [] [za s_0 a0.sub]) {r:Int × Int} (H:kC.f k a0 a1 a2 a3=some r),Calls PP ub #[.agg (Term.C (⟨a0.kind,a0.name,a0.other,a0.form,s_0⟩ : Term)).toArray,.string a1,.int .i64 a2,.int .i64 a3] w fun e w' => ∃ v,e = .returned v∧(v = .tuple #[.int .i64 r.1,.int .i64 r.2]∧St A N w w' [] []):=by
  intro k
  induction k with
  | zero=>intro A N w a0 s_0 a1 a2 a3 S r H; cases H
  | succ k ih=>intro A N w a0 s_0 a1 a2 a3 S r H; exact term_grown_gst ih S H
 exact main k S H
theorem term_names_gst {zaC:PTerm→(List (ByteArray × Int))→(List (ByteArray × Int))→Option ((List (ByteArray × Int)) × (List (ByteArray × Int)))} (zap : ∀ {A:Nat→Prop} {N:Oth} {w:World} {a0:PTerm} {s_0:SlV} {a1:List (ByteArray × Int)} {m_1:Nat} {a2:List (ByteArray × Int)} {m_2:Nat} (S:St A N w w [oMS m_1 a1,oMS m_2 a2] [za s_0 a0.sub]) {r:(List (ByteArray × Int)) × (List (ByteArray × Int))} (H:zaC a0 a1 a2=some r),Calls PP uc #[.agg (Term.C (⟨a0.kind,a0.name,a0.other,a0.form,s_0⟩ : Term)).toArray,.map (some m_1),.map (some m_2)] w fun e w' => ∃ v,e = .returned v∧(v = .tuple #[]∧St A N w w' [oMS m_1 r.1,oMS m_2 r.2] [])) {A:Nat→Prop} {N:Oth} {w:World} {a0:PTerm} {s_0:SlV} {a1:List (ByteArray × Int)} {m_1:Nat} {a2:List (ByteArray × Int)} {m_2:Nat} (S:St A N w w [oMS m_1 a1,oMS m_2 a2] [za s_0 a0.sub]) {r:(List (ByteArray × Int)) × (List (ByteArray × Int))} (H:kD.g zaC a0 a1 a2=some r) :
  Calls PP uc #[.agg (Term.C (⟨a0.kind,a0.name,a0.other,a0.form,s_0⟩ : Term)).toArray,.map (some m_1),.map (some m_2)] w fun e w' => ∃ v,e = .returned v∧(v = .tuple #[]∧St A N w w' [oMS m_1 r.1,oMS m_2 r.2] []):=by
 unfold kD.g at H
 refine zE (n:=46) fn_term_names rfl rfl jL ?_
 refine zg (zd ?_)
 refine zQ rfl jJ fun b2 w1 hw1=>?_
 replace S:St A N w w1 [oB b2 zb (Term.C (⟨a0.kind,a0.name,a0.other,a0.form,s_0⟩ : Term)),oMS m_1 a1,oMS m_2 a2] [za s_0 a0.sub]:=S.new hw1
 refine ze ?_
 refine zg (zg (zd ?_))
 refine wd (zh xl rfl (o':=0) rfl) ?_
 refine wd (zt xd rfl ((S.blk 0).cell (Term.get_kind _))) ?_
 refine wd (xb rfl rfl) ?_
 refine ze ?_
 refine zU rfl (fun hc3=>?_) (fun hc3=>?_)
 ·replace H:=if_t hc3 H
  refine zg (zg (zd ?_))
  refine wd (x6 rfl) ?_
  refine wd (zh xO rfl (o':=1) rfl) ?_
  refine wd (zt xz rfl ((S.blk 0).cell (Term.get_name _))) ?_
  refine wd (yU (C:=Value.string) (D:=(Value.int .i64)) (key:=a0.name) (zv:=0) xD yv zv_int rfl rfl (S.map 1)) ?_
  refine wd (xb rfl rfl) ?_
  refine ze ?_
  obtain ⟨o4,e4,Ho4⟩ := zB H
  replace H:=e4; clear e4
  refine yi [17,18,19,20,21] (fun fr W=>St A N w W [oB b2 zb (Term.C (⟨a0.kind,a0.name,a0.other,a0.form,s_0⟩ : Term)),oMS m_1 a1,oMS m_2 o4] [za s_0 a0.sub]) ?_ ?_
  ·refine zU rfl (fun hc5=>?_) (fun hc5=>?_)
   ·replace H:=if_t hc5 H
    refine zd ?_
    refine wd (x6 rfl) ?_
    refine wd (zh xO rfl (o':=1) rfl) ?_
    refine wd (zt xz rfl ((S.blk 0).cell (Term.get_name _))) ?_
    refine wd (yU (C:=Value.string) (D:=(Value.int .i64)) (key:=a0.name) (zv:=0) xD yv zv_int rfl rfl (S.map 2)) ?_
    refine wd (vt rfl rfl) ?_
    refine uu (C:=Value.string) (D:=(Value.int .i64)) (key:=a0.name) (v:=IntKind.i64.wrap (((Gw.look a0.name a2).getD 0) + 1)) xD yv rfl rfl rfl (S.map 2) fun w6 hmw6 hcw6 hsw6=>?_
    replace S:St A N w w6 [oMS m_2 (Gw.ins a0.name (IntKind.i64.wrap (((Gw.look a0.name a2).getD 0) + 1)) a2),oB b2 zb (Term.C (⟨a0.kind,a0.name,a0.other,a0.form,s_0⟩ : Term)),oMS m_1 a1] [za s_0 a0.sub]:=S.mapSet 2 ⟨hmw6,hcw6,hsw6⟩
    refine ze ?_
    replace S:St A N w w6 [oB b2 zb (Term.C (⟨a0.kind,a0.name,a0.other,a0.form,s_0⟩ : Term)),oMS m_1 a1,oMS m_2 (Gw.ins a0.name (IntKind.i64.wrap (((Gw.look a0.name a2).getD 0) + 1)) a2)] [za s_0 a0.sub]:=S.arr [1,2,0] [0]
    obtain rfl:=jN H
    exact ⟨rfl,((((((Dif.refl _ _).upd rfl _).upd rfl _).upd rfl _).upd rfl _).upd rfl _),S⟩
   ·replace H:=if_f hc5 H
    refine zI ?_
    obtain rfl:=jN H
    exact ⟨rfl,(Dif.refl _ _),S⟩
  rintro g7 u8 S
  have H:=Ho4
  refine zC ?_
  refine ⟨_,rets0,?_⟩
  replace S:St A N w u8 [oMS m_1 a1,oMS m_2 o4] []:=S.arr [1,2] []
  obtain rfl:=jN H
  exact ⟨rfl,S⟩
 replace H:=if_f hc3 H
 refine zI ?_
 refine zg (zd ?_)
 refine wd (zh zO rfl (o':=4) rfl) ?_
 refine wd (zt zF rfl ((S.blk 0).cell (Term.get_sub _))) ?_
 refine wd (does_lenF zz rfl (S.onZ 0)) ?_
 refine wd (zp rfl) ?_
 refine ze ?_
 obtain ⟨o9,e9,Ho9⟩ := zB H
 clear H
 refine yi [6,7,8,25,26,27,28,29,30,31,32,33,34,35,36,37,38,39,40,41,42,43,44,45] (fun fr W=>St A N w W [oB b2 zb (Term.C (⟨a0.kind,a0.name,a0.other,a0.form,s_0⟩ : Term)),oMS m_1 o9.1,oMS m_2 o9.2] [za s_0 a0.sub]) ?_ ?_
 ·refine zY ?_
  refine x3 (α:=Nat × Int × ((List (ByteArray × Int)) × (List (ByteArray × Int)))) [6,7,8,25,26,27,28,29,30,31,32,33,34,35,36,37,38,39,40,41,42,43,44,45] (fun x fr W=>(x.1:Int)=(a0.sub.length:Int) - x.2.1∧0 ≤ x.2.1∧forS (fun i s=>kD.b0 a0 zaC i s.1 s.2) x.1 x.2.1 x.2.2=some o9∧fr 25 = .int .i64 x.2.1∧St A N w W [oB b2 zb (Term.C (⟨a0.kind,a0.name,a0.other,a0.form,s_0⟩ : Term)),oMS m_1 (x.2.2.1),oMS m_2 (x.2.2.2)] [za s_0 a0.sub]) (fun x=>x.1) (((a0.sub.length:Int) - 0).toNat,0,(a1,a2)) ⟨(by dsimp only; have hle:=Int.natCast_nonneg (a0.sub.length); omega),(Int.le_refl _),(by dsimp only; exact e9),rfl,S⟩ ?_
  rintro ⟨m9,i9,⟨x9_0,x9_1⟩⟩ g9 u9 ⟨hm9,hl9,e9,q9_i,S⟩
  try dsimp only at hm9
  try dsimp only at hl9
  try dsimp only at e9
  try dsimp only at S
  try dsimp only at q9_i
  refine zg (zd ?_)
  refine wd (xC q9_i rfl) ?_
  refine ze ?_
  refine zg ?_
  refine zU rfl (fun hc10=>?_) (fun hc10=>?_)
  rotate_left
  ·refine yu ?_
   have hge:(a0.sub.length:Int) ≤ i9:=Int.not_lt.1 (of_decide_eq_false hc10)
   obtain rfl:m9=0:=by omega
   replace e9:=forS_0 e9
   obtain rfl:=e9
   exact ⟨rfl,((Dif.self _ _ _).upd rfl _),S⟩
  refine zI ?_
  have hlt9:i9 < (a0.sub.length:Int):=of_decide_eq_true hc10
  obtain ⟨m9,rfl⟩ : ∃ m,m9=m + 1:=⟨m9 - 1,by omega⟩
  obtain ⟨q9,H,e9⟩ := forS_s e9
  unfold kD.b0 at H
  try dsimp only at H
  have hb9:=(S.lenFZ 0)
  refine zg ?_
  refine zY ?_
  refine zg (zd ?_)
  refine wd (zp q9_i) ?_
  refine wd (does_indexF zz rfl q9_i (S.onZ 0) (And.intro (show 0 ≤ i9 by omega) (show i9 < (a0.sub.length:Int) from hlt9)).1 (And.intro (show 0 ≤ i9 by omega) (show i9 < (a0.sub.length:Int) from hlt9)).2) ?_
  obtain ⟨s12,hc13,S⟩ := S.viewTerm 0 (And.intro (show 0 ≤ i9 by omega) (show i9 < (a0.sub.length:Int) from hlt9))
  replace S:St A N w u9 [oB b2 zb (Term.C (⟨a0.kind,a0.name,a0.other,a0.form,s_0⟩ : Term)),oMS m_1 x9_0,oMS m_2 x9_1] [za s12 ((at_ PTerm.z a0.sub i9).sub),za s_0 a0.sub]:=S
  refine wd (zi zq rfl hc13 (Term.len _)) ?_
  refine zZ xr jJ fun b15 w14 hw14=>?_
  replace S:St A N w w14 [oB b15 zb (Term.C (⟨0,ByteArray.empty,ByteArray.empty,0,SlV.nil⟩ : Term)),oB b2 zb (Term.C (⟨a0.kind,a0.name,a0.other,a0.form,s_0⟩ : Term)),oMS m_1 x9_0,oMS m_2 x9_1] [za s12 ((at_ PTerm.z a0.sub i9).sub),za s_0 a0.sub]:=S.new hw14
  refine wd (zn rfl) ?_
  refine zy zq rfl rfl (S.blk 0) (Term.len _) (by rw [Term.len]; decide) (Term.one _) (zM (Term.len _)) fun w16 B hw16 zw16=>?_
  replace S:St A N w w16 [oB b15 zb (Term.C (⟨(at_ PTerm.z a0.sub i9).kind,(at_ PTerm.z a0.sub i9).name,(at_ PTerm.z a0.sub i9).other,(at_ PTerm.z a0.sub i9).form,s12⟩ : Term)),oB b2 zb (Term.C (⟨a0.kind,a0.name,a0.other,a0.form,s_0⟩ : Term)),oMS m_1 x9_0,oMS m_2 x9_1] [za s12 ((at_ PTerm.z a0.sub i9).sub),za s_0 a0.sub]:=S.store 0 B hw16
  clear B
  refine ze ?_
  refine zg (zd ?_)
  refine wd (zi zq rfl ((S.blk 1).all _ (Term.len _)) (Term.len _)) ?_
  refine wd (zp rfl) ?_
  obtain ⟨r17,er17,H⟩ := zB H
  obtain ⟨B19,MB19,SB19,back⟩ := S.calln 0 ((.z 1 rfl .nil))
  refine zJ (zH jt) jJ (jy (a0:=a0) SB19 er17) ?_
  rintro _ w18 ⟨rfl,S2⟩
  replace S:St A N w w18 [oB b15 zb (Term.C (⟨(at_ PTerm.z a0.sub i9).kind,(at_ PTerm.z a0.sub i9).name,(at_ PTerm.z a0.sub i9).other,(at_ PTerm.z a0.sub i9).form,s12⟩ : Term)),oB b2 zb (Term.C (⟨a0.kind,a0.name,a0.other,a0.form,s_0⟩ : Term)),oMS m_1 x9_0,oMS m_2 x9_1] [za s12 ((at_ PTerm.z a0.sub i9).sub),za s_0 a0.sub]:=back _ _ _ _ S2 rfl
  clear back S2 SB19
  refine wd (vi rfl) ?_
  refine ze ?_
  refine zg (zd ?_)
  refine wd (x6 rfl) ?_
  refine wd (xm rfl) ?_
  refine wd (yU (C:=Value.string) (D:=(Value.int .i64)) (key:=r17) (zv:=0) xD yv zv_int rfl rfl (S.map 2)) ?_
  refine wd (vt rfl rfl) ?_
  refine uu (C:=Value.string) (D:=(Value.int .i64)) (key:=r17) (v:=IntKind.i64.wrap (((Gw.look r17 x9_0).getD 0) + 1)) xD yv rfl rfl rfl (S.map 2) fun w20 hmw20 hcw20 hsw20=>?_
  replace S:St A N w w20 [oMS m_1 (Gw.ins r17 (IntKind.i64.wrap (((Gw.look r17 x9_0).getD 0) + 1)) x9_0),oB b15 zb (Term.C (⟨(at_ PTerm.z a0.sub i9).kind,(at_ PTerm.z a0.sub i9).name,(at_ PTerm.z a0.sub i9).other,(at_ PTerm.z a0.sub i9).form,s12⟩ : Term)),oB b2 zb (Term.C (⟨a0.kind,a0.name,a0.other,a0.form,s_0⟩ : Term)),oMS m_2 x9_1] [za s12 ((at_ PTerm.z a0.sub i9).sub),za s_0 a0.sub]:=S.mapSet 2 ⟨hmw20,hcw20,hsw20⟩
  refine ze ?_
  refine zg (zd ?_)
  refine wd (zi zq rfl ((S.blk 1).all _ (Term.len _)) (Term.len _)) ?_
  refine wd (x6 rfl) ?_
  refine wd (x6 rfl) ?_
  obtain ⟨r21,er21,H⟩ := zB H
  replace S:=S.front 3
  replace S:St A N w w20 [oMS m_1 (Gw.ins r17 (IntKind.i64.wrap (((Gw.look r17 x9_0).getD 0) + 1)) x9_0),oMS m_2 x9_1,oB b15 zb (Term.C (⟨(at_ PTerm.z a0.sub i9).kind,(at_ PTerm.z a0.sub i9).name,(at_ PTerm.z a0.sub i9).other,(at_ PTerm.z a0.sub i9).form,s12⟩ : Term)),oB b2 zb (Term.C (⟨a0.kind,a0.name,a0.other,a0.form,s_0⟩ : Term))] [za s12 ((at_ PTerm.z a0.sub i9).sub),za s_0 a0.sub]:=S.front 1
  obtain ⟨B23,MB23,SB23,back⟩ := S.calln 2 ((.z 0 rfl .nil))
  refine zJ (zH ca_term_names) jJ (zap (a0:=(at_ PTerm.z a0.sub i9)) SB23 er21) ?_
  rintro _ w22 ⟨rfl,S2⟩
  replace S:St A N w w22 [oMS m_1 r21.1,oMS m_2 r21.2,oB b15 zb (Term.C (⟨(at_ PTerm.z a0.sub i9).kind,(at_ PTerm.z a0.sub i9).name,(at_ PTerm.z a0.sub i9).other,(at_ PTerm.z a0.sub i9).form,s12⟩ : Term)),oB b2 zb (Term.C (⟨a0.kind,a0.name,a0.other,a0.form,s_0⟩ : Term))] [za s12 ((at_ PTerm.z a0.sub i9).sub),za s_0 a0.sub]:=back _ _ _ _ S2 rfl
  clear back S2 SB23
  refine ze ?_
  refine zd ?_
  refine wd (x6 rfl) ?_
  refine wd (xm rfl) ?_
  refine wd (yU (C:=Value.string) (D:=(Value.int .i64)) (key:=r17) (zv:=0) xD yv zv_int rfl rfl (S.map 0)) ?_
  refine wd (does_sub rfl rfl) ?_
  refine uu (C:=Value.string) (D:=(Value.int .i64)) (key:=r17) (v:=IntKind.i64.wrap (((Gw.look r17 r21.1).getD 0) - 1)) xD yv rfl rfl rfl (S.map 0) fun w24 hmw24 hcw24 hsw24=>?_
  replace S:St A N w w24 [oMS m_1 (Gw.ins r17 (IntKind.i64.wrap (((Gw.look r17 r21.1).getD 0) - 1)) r21.1),oMS m_2 r21.2,oB b15 zb (Term.C (⟨(at_ PTerm.z a0.sub i9).kind,(at_ PTerm.z a0.sub i9).name,(at_ PTerm.z a0.sub i9).other,(at_ PTerm.z a0.sub i9).form,s12⟩ : Term)),oB b2 zb (Term.C (⟨a0.kind,a0.name,a0.other,a0.form,s_0⟩ : Term))] [za s12 ((at_ PTerm.z a0.sub i9).sub),za s_0 a0.sub]:=S.mapSet 0 ⟨hmw24,hcw24,hsw24⟩
  refine ze ?_
  refine zd ?_
  refine wd (xx q9_i rfl (c:=i9 + 1) rfl jK jK) ?_
  refine wd (zp rfl) ?_
  refine ze ?_
  replace S:St A N w w24 [oB b2 zb (Term.C (⟨a0.kind,a0.name,a0.other,a0.form,s_0⟩ : Term)),oMS m_1 (Gw.ins r17 (IntKind.i64.wrap (((Gw.look r17 r21.1).getD 0) - 1)) r21.1),oMS m_2 r21.2] [za s_0 a0.sub]:=S.arr [3,0,1] [1]
  obtain rfl:=jN H
  exact ⟨rfl,(((((((((((((((((((((((((Dif.self _ _ _).upd rfl _).upd rfl _).upd rfl _).upd rfl _).upd rfl _).upd rfl _).upd rfl _).upd rfl _).upd rfl _).upd rfl _).upd rfl _).upd rfl _).upd rfl _).upd rfl _).upd rfl _).upd rfl _).upd rfl _).upd rfl _).upd rfl _).upd rfl _).upd rfl _).upd rfl _).upd rfl _).upd rfl _),(m9,i9 + 1,(Gw.ins r17 (IntKind.i64.wrap (((Gw.look r17 r21.1).getD 0) - 1)) r21.1,r21.2)),⟨(by dsimp only; omega),(by dsimp only; omega),e9,rfl,S⟩,by dsimp only; omega⟩
 rintro g25 u26 S
 have H:=Ho9
 refine ⟨_,rets0,?_⟩
 replace S:St A N w u26 [oMS m_1 o9.1,oMS m_2 o9.2] []:=S.arr [1,2] []
 obtain rfl:=jN H
 exact ⟨rfl,S⟩
theorem term_names_st {a0:PTerm} {s_0:SlV} {a1:List (ByteArray × Int)} {m_1:Nat} {a2:List (ByteArray × Int)} {m_2:Nat} (S:St A N w w [oMS m_1 a1,oMS m_2 a2] [za s_0 a0.sub]) {k:Nat} {r:(List (ByteArray × Int)) × (List (ByteArray × Int))} (H:kD.f k a0 a1 a2=some r) :
  Calls PP uc #[.agg (Term.C (⟨a0.kind,a0.name,a0.other,a0.form,s_0⟩ : Term)).toArray,.map (some m_1),.map (some m_2)] w fun e w' => ∃ v,e = .returned v∧(v = .tuple #[]∧St A N w w' [oMS m_1 r.1,oMS m_2 r.2] []):=by
 have main : ∀ (k:Nat) {A:Nat→Prop} {N:Oth} {w:World} {a0:PTerm} {s_0:SlV} {a1:List (ByteArray × Int)} {m_1:Nat} {a2:List (ByteArray × Int)} {m_2:Nat} (S:St A N w w [oMS m_1 a1,oMS m_2 a2] [za s_0 a0.sub]) {r:(List (ByteArray × Int)) × (List (ByteArray × Int))} (H:kD.f k a0 a1 a2=some r),Calls PP uc #[.agg (Term.C (⟨a0.kind,a0.name,a0.other,a0.form,s_0⟩ : Term)).toArray,.map (some m_1),.map (some m_2)] w fun e w' => ∃ v,e = .returned v∧(v = .tuple #[]∧St A N w w' [oMS m_1 r.1,oMS m_2 r.2] []):=by
  intro k
  induction k with
  | zero=>intro A N w a0 s_0 a1 m_1 a2 m_2 S r H; cases H
  | succ k ih=>intro A N w a0 s_0 a1 m_1 a2 m_2 S r H; exact term_names_gst ih S H
 exact main k S H
theorem term_freely_st {a0:PTerm} {s_0:SlV} (S:St A N w w [] [za s_0 a0.sub]) {k:Nat} {r:(List (ByteArray × Int))} (H:kE.f k a0=some r) :
  Calls PP F_term_freely #[.agg (Term.C (⟨a0.kind,a0.name,a0.other,a0.form,s_0⟩ : Term)).toArray] w fun e w' => ∃ v,e = .returned v∧(∃ mo0:Nat,v = .map (some mo0)∧St A N w w' [oMS mo0 r] []):=by
 unfold kE.f at H
 refine zE (n:=10) fn_term_freely rfl rfl jL ?_
 refine zg (zd ?_)
 refine zQ rfl jJ fun b2 w1 hw1=>?_
 replace S:St A N w w1 [oB b2 zb (Term.C (⟨a0.kind,a0.name,a0.other,a0.form,s_0⟩ : Term))] [za s_0 a0.sub]:=S.new hw1
 refine wd (does_as_m rfl) ?_
 refine ze ?_
 refine zg (zd ?_)
 refine wl_makeMap (C:=Value.string) (D:=(Value.int .i64)) jJ fun m3 w4 hmw4 hxw4 hlw4=>?_
 replace S:St A N w w4 [oMS m3 ([]:List (ByteArray × Int)),oB b2 zb (Term.C (⟨a0.kind,a0.name,a0.other,a0.form,s_0⟩ : Term))] [za s_0 a0.sub]:=S.newM hmw4 hxw4 hlw4
 refine wd (does_as_m rfl) ?_
 refine ze ?_
 refine zg (zd ?_)
 refine wd (zi zq rfl ((S.blk 1).all _ (Term.len _)) (Term.len _)) ?_
 refine wl_makeMap (C:=Value.string) (D:=(Value.int .i64)) jJ fun m5 w6 hmw6 hxw6 hlw6=>?_
 replace S:St A N w w6 [oMS m5 ([]:List (ByteArray × Int)),oMS m3 ([]:List (ByteArray × Int)),oB b2 zb (Term.C (⟨a0.kind,a0.name,a0.other,a0.form,s_0⟩ : Term))] [za s_0 a0.sub]:=S.newM hmw6 hxw6 hlw6
 refine wd (x6 rfl) ?_
 obtain ⟨r7,er7,H⟩ := zB H
 replace S:=S.front 1
 replace S:St A N w w6 [oMS m5 ([]:List (ByteArray × Int)),oMS m3 ([]:List (ByteArray × Int)),oB b2 zb (Term.C (⟨a0.kind,a0.name,a0.other,a0.form,s_0⟩ : Term))] [za s_0 a0.sub]:=S.front 1
 obtain ⟨B9,MB9,SB9,back⟩ := S.calln 2 ((.z 0 rfl .nil))
 refine zJ (zH ca_term_names) jJ (term_names_st (a0:=a0) SB9 er7) ?_
 rintro _ w8 ⟨rfl,S2⟩
 replace S:St A N w w8 [oMS m5 r7.1,oMS m3 r7.2,oB b2 zb (Term.C (⟨a0.kind,a0.name,a0.other,a0.form,s_0⟩ : Term))] [za s_0 a0.sub]:=back _ _ _ _ S2 rfl
 clear back S2 SB9
 refine ze ?_
 refine zg (zd ?_)
 refine wd (x6 rfl) ?_
 refine wd (does_as_m rfl) ?_
 refine ze ?_
 refine zC ?_
 refine ⟨_,(z1 (zj rfl)),?_⟩
 replace S:St A N w w8 [oMS m3 r7.2] []:=S.arr [1] []
 obtain rfl:=jN H
 exact ⟨m3,rfl,S⟩
theorem term_clone_gst {zaz:PTerm→Option PTerm} (zam : ∀ {A:Nat→Prop} {N:Oth} {w:World} {a0:PTerm} {s_0:SlV} (S:St A N w w [] [za s_0 a0.sub]) {r:PTerm} (H:zaz a0=some r),Calls PP ua #[.agg (Term.C (⟨a0.kind,a0.name,a0.other,a0.form,s_0⟩ : Term)).toArray] w fun e w' => ∃ v,e = .returned v∧(∃ so0:SlV,v = .agg (Term.C (⟨r.kind,r.name,r.other,r.form,so0⟩ : Term)).toArray∧St A N w w' [] [za so0 r.sub])) {A:Nat→Prop} {N:Oth} {w:World} {a0:PTerm} {s_0:SlV} (S:St A N w w [] [za s_0 a0.sub]) {r:PTerm} (H:kF.g zaz a0=some r) :
  Calls PP ua #[.agg (Term.C (⟨a0.kind,a0.name,a0.other,a0.form,s_0⟩ : Term)).toArray] w fun e w' => ∃ v,e = .returned v∧(∃ so0:SlV,v = .agg (Term.C (⟨r.kind,r.name,r.other,r.form,so0⟩ : Term)).toArray∧St A N w w' [] [za so0 r.sub]):=by
 unfold kF.g at H
 refine zE (n:=31) fn_term_clone rfl rfl jL ?_
 refine zg (zd ?_)
 refine zQ rfl jJ fun b2 w1 hw1=>?_
 replace S:St A N w w1 [oB b2 zb (Term.C (⟨a0.kind,a0.name,a0.other,a0.form,s_0⟩ : Term))] [za s_0 a0.sub]:=S.new hw1
 refine zZ xr jJ fun b4 w3 hw3=>?_
 replace S:St A N w w3 [oB b4 zb (Term.C (⟨0,ByteArray.empty,ByteArray.empty,0,SlV.nil⟩ : Term)),oB b2 zb (Term.C (⟨a0.kind,a0.name,a0.other,a0.form,s_0⟩ : Term))] [za s_0 a0.sub]:=S.new hw3
 refine ze ?_
 refine zg (zg (zd ?_))
 refine wd (zh zO rfl (o':=4) rfl) ?_
 refine wd (zt zF rfl ((S.blk 1).cell (Term.get_sub _))) ?_
 refine wd (does_isnil zz rfl rfl) ?_
 refine ze ?_
 refine zU rfl (fun hc5=>?_) (fun hc5=>?_)
 ·replace H:=term_clone_nil (S.nilZ_ 0 hc5) (show kF.g zaz a0=some r from H)
  refine zg (zd ?_)
  refine wd (zi zq rfl ((S.blk 1).all _ (Term.len _)) (Term.len _)) ?_
  refine zy zq rfl rfl (S.blk 0) (Term.len _) (by rw [Term.len]; decide) (Term.one _) (zM (Term.len _)) fun w6 B hw6 zw6=>?_
  replace S:St A N w w6 [oB b4 zb (Term.C (⟨a0.kind,a0.name,a0.other,a0.form,s_0⟩ : Term)),oB b2 zb (Term.C (⟨a0.kind,a0.name,a0.other,a0.form,s_0⟩ : Term))] [za s_0 a0.sub]:=S.store 0 B hw6
  clear B
  refine ze ?_
  refine zC ?_
  refine ⟨_,(z1 (zV zq rfl ((S.blk 0).all _ (Term.len _)) (Term.len _))),?_⟩
  replace S:St A N w w6 [] [za s_0 a0.sub]:=S.arr [] [0]
  obtain rfl:=jN H
  exact ⟨s_0,rfl,S⟩
 refine zI ?_
 refine zg (zd ?_)
 refine wd (zh zO rfl (o':=4) rfl) ?_
 refine wd (zt zF rfl ((S.blk 1).cell (Term.get_sub _))) ?_
 refine wd (does_lenF zz rfl (S.onZ 0)) ?_
 obtain ⟨hm10,H⟩ := xh H
 have hm10:=of_decide_eq_true hm10
 refine wl_makeN (C:=Term.C) (z:=Term.z) zz ul zT_Term rfl rfl rfl hm10.1 jK hm10.2 jJ fun b8 w7 s9 hBw7 hw7=>?_
 replace S:St A N w w7 [oS zb 5 Term.C s9 (List.replicate (Int.toNat (a0.sub.length:Int)) Term.z),oB b4 zb (Term.C (⟨0,ByteArray.empty,ByteArray.empty,0,SlV.nil⟩ : Term)),oB b2 zb (Term.C (⟨a0.kind,a0.name,a0.other,a0.form,s_0⟩ : Term))] [za s_0 a0.sub]:=S.lit hBw7 hw7 (by rw [List.length_replicate]; omega)
 replace S:St A N w w7 [oS zb 5 Term.C s9 (List.replicate (Int.toNat (a0.sub.length:Int)) Term.z),oB b4 zb (Term.C (⟨0,ByteArray.empty,ByteArray.empty,0,SlV.nil⟩ : Term)),oB b2 zb (Term.C (⟨a0.kind,a0.name,a0.other,a0.form,s_0⟩ : Term))] [bigA zK (List.replicate (Int.toNat (a0.sub.length:Int)) Term.z) (List.replicate (Int.toNat (a0.sub.length:Int)) PTerm.z),za s_0 a0.sub]:=S.repTm (Int.toNat (a0.sub.length:Int))
 refine wd (vV rfl) ?_
 refine ze ?_
 refine zg (zg (zd ?_))
 refine wd (zh zO rfl (o':=4) rfl) ?_
 refine wd (zt zF rfl ((S.blk 2).cell (Term.get_sub _))) ?_
 refine wd (does_lenF zz rfl (S.onZ 1)) ?_
 refine wd (zp rfl) ?_
 refine ze ?_
 replace S:=S.nil zb 5 Term.C
 replace S:St A N w w7 [oS zb 5 Term.C SlV.nil ([]:List Term),oS zb 5 Term.C s9 (List.replicate (Int.toNat (a0.sub.length:Int)) Term.z),oB b4 zb (Term.C (⟨0,ByteArray.empty,ByteArray.empty,0,SlV.nil⟩ : Term)),oB b2 zb (Term.C (⟨a0.kind,a0.name,a0.other,a0.form,s_0⟩ : Term))] [bigA zK ([]:List Term) ([]:List PTerm),bigA zK (List.replicate (Int.toNat (a0.sub.length:Int)) Term.z) (List.replicate (Int.toNat (a0.sub.length:Int)) PTerm.z),za s_0 a0.sub]:=S.bigTm
 obtain ⟨o11,e11,Ho11⟩ := zB H
 clear H
 refine yi [4,5,17,18,19,20,21,22,23,24,25,26,27] (fun fr W => ∃ m12:List Term,St A N w W [oS zb 5 Term.C SlV.nil ([]:List Term),oS zb 5 Term.C s9 m12,oB b4 zb (Term.C (⟨0,ByteArray.empty,ByteArray.empty,0,SlV.nil⟩ : Term)),oB b2 zb (Term.C (⟨a0.kind,a0.name,a0.other,a0.form,s_0⟩ : Term))] [bigA zK ([]:List Term) ([]:List PTerm),bigA zK m12 o11,za s_0 a0.sub]) ?_ ?_
 ·refine zY ?_
  refine x3 (α:=Nat × Int × (List PTerm)) [4,5,17,18,19,20,21,22,23,24,25,26,27] (fun x fr W=>(x.1:Int)=(a0.sub.length:Int) - x.2.1∧0 ≤ x.2.1∧forS (fun i s=>kF.b0 zaz a0 i s) x.1 x.2.1 x.2.2=some o11 ∧ ∃ m13:List Term,fr 17 = .int .i64 x.2.1∧St A N w W [oS zb 5 Term.C SlV.nil ([]:List Term),oS zb 5 Term.C s9 m13,oB b4 zb (Term.C (⟨0,ByteArray.empty,ByteArray.empty,0,SlV.nil⟩ : Term)),oB b2 zb (Term.C (⟨a0.kind,a0.name,a0.other,a0.form,s_0⟩ : Term))] [bigA zK ([]:List Term) ([]:List PTerm),bigA zK m13 (x.2.2),za s_0 a0.sub]) (fun x=>x.1) (((a0.sub.length:Int) - 0).toNat,0,List.replicate (Int.toNat (a0.sub.length:Int)) PTerm.z) ⟨(by dsimp only; have hle:=Int.natCast_nonneg (a0.sub.length); omega),(Int.le_refl _),(by dsimp only; exact e11),List.replicate (Int.toNat (a0.sub.length:Int)) Term.z,rfl,S⟩ ?_
  rintro ⟨m11,i11,x11_0⟩ g11 u11 ⟨hm11,hl11,e11,m14,q11_i,S⟩
  try dsimp only at hm11
  try dsimp only at hl11
  try dsimp only at e11
  try dsimp only at S
  try dsimp only at q11_i
  refine zg (zd ?_)
  refine wd (xC q11_i rfl) ?_
  refine ze ?_
  refine zg ?_
  refine zU rfl (fun hc15=>?_) (fun hc15=>?_)
  rotate_left
  ·refine yu ?_
   have hge:(a0.sub.length:Int) ≤ i11:=Int.not_lt.1 (of_decide_eq_false hc15)
   obtain rfl:m11=0:=by omega
   replace e11:=forS_0 e11
   obtain rfl:=e11
   exact ⟨rfl,((Dif.self _ _ _).upd rfl _),m14,S⟩
  refine zI ?_
  have hlt11:i11 < (a0.sub.length:Int):=of_decide_eq_true hc15
  obtain ⟨m11,rfl⟩ : ∃ m,m11=m + 1:=⟨m11 - 1,by omega⟩
  obtain ⟨q11,H,e11⟩ := forS_s e11
  unfold kF.b0 at H
  try dsimp only at H
  have hb11:=(S.lenFZ 2)
  refine zg ?_
  refine zY ?_
  refine zg (zd ?_)
  refine wd (zp q11_i) ?_
  refine wd (does_indexF zz rfl q11_i (S.onZ 2) (And.intro (show 0 ≤ i11 by omega) (show i11 < (a0.sub.length:Int) from hlt11)).1 (And.intro (show 0 ≤ i11 by omega) (show i11 < (a0.sub.length:Int) from hlt11)).2) ?_
  obtain ⟨s17,hc18,S⟩ := S.viewTerm 2 (And.intro (show 0 ≤ i11 by omega) (show i11 < (a0.sub.length:Int) from hlt11))
  replace S:St A N w u11 [oS zb 5 Term.C SlV.nil ([]:List Term),oS zb 5 Term.C s9 m14,oB b4 zb (Term.C (⟨0,ByteArray.empty,ByteArray.empty,0,SlV.nil⟩ : Term)),oB b2 zb (Term.C (⟨a0.kind,a0.name,a0.other,a0.form,s_0⟩ : Term))] [za s17 ((at_ PTerm.z a0.sub i11).sub),bigA zK ([]:List Term) ([]:List PTerm),bigA zK m14 x11_0,za s_0 a0.sub]:=S
  refine wd (zi zq rfl hc18 (Term.len _)) ?_
  refine zZ xr jJ fun b20 w19 hw19=>?_
  replace S:St A N w w19 [oB b20 zb (Term.C (⟨0,ByteArray.empty,ByteArray.empty,0,SlV.nil⟩ : Term)),oS zb 5 Term.C SlV.nil ([]:List Term),oS zb 5 Term.C s9 m14,oB b4 zb (Term.C (⟨0,ByteArray.empty,ByteArray.empty,0,SlV.nil⟩ : Term)),oB b2 zb (Term.C (⟨a0.kind,a0.name,a0.other,a0.form,s_0⟩ : Term))] [za s17 ((at_ PTerm.z a0.sub i11).sub),bigA zK ([]:List Term) ([]:List PTerm),bigA zK m14 x11_0,za s_0 a0.sub]:=S.new hw19
  refine wd (zn rfl) ?_
  refine zy zq rfl rfl (S.blk 0) (Term.len _) (by rw [Term.len]; decide) (Term.one _) (zM (Term.len _)) fun w21 B hw21 zw21=>?_
  replace S:St A N w w21 [oB b20 zb (Term.C (⟨(at_ PTerm.z a0.sub i11).kind,(at_ PTerm.z a0.sub i11).name,(at_ PTerm.z a0.sub i11).other,(at_ PTerm.z a0.sub i11).form,s17⟩ : Term)),oS zb 5 Term.C SlV.nil ([]:List Term),oS zb 5 Term.C s9 m14,oB b4 zb (Term.C (⟨0,ByteArray.empty,ByteArray.empty,0,SlV.nil⟩ : Term)),oB b2 zb (Term.C (⟨a0.kind,a0.name,a0.other,a0.form,s_0⟩ : Term))] [za s17 ((at_ PTerm.z a0.sub i11).sub),bigA zK ([]:List Term) ([]:List PTerm),bigA zK m14 x11_0,za s_0 a0.sub]:=S.store 0 B hw21
  clear B
  refine ze ?_
  refine zd ?_
  refine wd (xa rfl) ?_
  refine wd (zp rfl) ?_
  refine wd (zi zq rfl ((S.blk 0).all _ (Term.len _)) (Term.len _)) ?_
  obtain ⟨r22,er22,H⟩ := zB H
  obtain ⟨B24,MB24,SB24,back⟩ := S.sub [0] [] [oB b20 zb (Term.C (⟨(at_ PTerm.z a0.sub i11).kind,(at_ PTerm.z a0.sub i11).name,(at_ PTerm.z a0.sub i11).other,(at_ PTerm.z a0.sub i11).form,s17⟩ : Term)),oS zb 5 Term.C SlV.nil ([]:List Term),oS zb 5 Term.C s9 m14,oB b4 zb (Term.C (⟨0,ByteArray.empty,ByteArray.empty,0,SlV.nil⟩ : Term)),oB b2 zb (Term.C (⟨a0.kind,a0.name,a0.other,a0.form,s_0⟩ : Term))]
  refine zJ (zH ju) jJ (zam (a0:=(at_ PTerm.z a0.sub i11)) SB24 er22) ?_
  rintro _ w23 ⟨s25,rfl,S2⟩
  replace S:St A N w w23 [oB b20 zb (Term.C (⟨(at_ PTerm.z a0.sub i11).kind,(at_ PTerm.z a0.sub i11).name,(at_ PTerm.z a0.sub i11).other,(at_ PTerm.z a0.sub i11).form,s17⟩ : Term)),oS zb 5 Term.C SlV.nil ([]:List Term),oS zb 5 Term.C s9 m14,oB b4 zb (Term.C (⟨0,ByteArray.empty,ByteArray.empty,0,SlV.nil⟩ : Term)),oB b2 zb (Term.C (⟨a0.kind,a0.name,a0.other,a0.form,s_0⟩ : Term))] [za s25 r22.sub,za s17 ((at_ PTerm.z a0.sub i11).sub),bigA zK ([]:List Term) ([]:List PTerm),bigA zK m14 x11_0,za s_0 a0.sub]:=back _ _ _ _ _ S2 rfl rfl
  clear back S2 SB24
  obtain ⟨hi26,H⟩ := xh H
  refine wd (xt zz rfl rfl (S.rdO 2) (zP hi26).1 (by rw [(S.lenTm 3)]; exact (zP hi26).2)) ?_
  have hlw27:=S.lenO 2
  have hqw27:=(S.lenTm 3)
  refine jc (C:=Term.C) (a:=(⟨r22.kind,r22.name,r22.other,r22.form,s25⟩ : Term)) zq rfl rfl (S.sl 2) ⟨(zP hi26).1,by rw [hqw27]; exact (zP hi26).2⟩ (Term.len _) (Term.one _) fun w27 O hw27=>?_
  replace S:St A N w w27 [oS zb 5 Term.C s9 (m14.set (Int.toNat i11) (⟨r22.kind,r22.name,r22.other,r22.form,s25⟩ : Term)),oB b20 zb (Term.C (⟨(at_ PTerm.z a0.sub i11).kind,(at_ PTerm.z a0.sub i11).name,(at_ PTerm.z a0.sub i11).other,(at_ PTerm.z a0.sub i11).form,s17⟩ : Term)),oS zb 5 Term.C SlV.nil ([]:List Term),oB b4 zb (Term.C (⟨0,ByteArray.empty,ByteArray.empty,0,SlV.nil⟩ : Term)),oB b2 zb (Term.C (⟨a0.kind,a0.name,a0.other,a0.form,s_0⟩ : Term))] [za s25 r22.sub,za s17 ((at_ PTerm.z a0.sub i11).sub),bigA zK ([]:List Term) ([]:List PTerm),bigA zK m14 x11_0,za s_0 a0.sub]:=S.push 2 O (by rw [List.length_set]; exact hlw27) hw27 (fun i hi => .inl hi)
  clear O hlw27 hqw27
  replace S:St A N w w27 [oS zb 5 Term.C s9 (m14.set (Int.toNat i11) (⟨r22.kind,r22.name,r22.other,r22.form,s25⟩ : Term)),oB b20 zb (Term.C (⟨(at_ PTerm.z a0.sub i11).kind,(at_ PTerm.z a0.sub i11).name,(at_ PTerm.z a0.sub i11).other,(at_ PTerm.z a0.sub i11).form,s17⟩ : Term)),oS zb 5 Term.C SlV.nil ([]:List Term),oB b4 zb (Term.C (⟨0,ByteArray.empty,ByteArray.empty,0,SlV.nil⟩ : Term)),oB b2 zb (Term.C (⟨a0.kind,a0.name,a0.other,a0.form,s_0⟩ : Term))] [bigA zK (m14.set (Int.toNat i11) (⟨r22.kind,r22.name,r22.other,r22.form,s25⟩ : Term)) (x11_0.set (Int.toNat i11) r22),za s25 r22.sub,za s17 ((at_ PTerm.z a0.sub i11).sub),bigA zK ([]:List Term) ([]:List PTerm),bigA zK m14 x11_0,za s_0 a0.sub]:=S.setTm (x:=r22) 3 0 (Int.toNat i11)
  refine ze ?_
  refine zd ?_
  refine wd (xx q11_i rfl (c:=i11 + 1) rfl jK jK) ?_
  refine wd (zp rfl) ?_
  refine ze ?_
  replace S:St A N w w27 [oS zb 5 Term.C SlV.nil ([]:List Term),oS zb 5 Term.C s9 (m14.set (Int.toNat i11) (⟨r22.kind,r22.name,r22.other,r22.form,s25⟩ : Term)),oB b4 zb (Term.C (⟨0,ByteArray.empty,ByteArray.empty,0,SlV.nil⟩ : Term)),oB b2 zb (Term.C (⟨a0.kind,a0.name,a0.other,a0.form,s_0⟩ : Term))] [bigA zK ([]:List Term) ([]:List PTerm),bigA zK (m14.set (Int.toNat i11) (⟨r22.kind,r22.name,r22.other,r22.form,s25⟩ : Term)) (x11_0.set (Int.toNat i11) r22),za s_0 a0.sub]:=S.arr [2,0,3,4] [3,0,5]
  obtain rfl:=jN H
  exact ⟨rfl,((((((((((((((Dif.self _ _ _).upd rfl _).upd rfl _).upd rfl _).upd rfl _).upd rfl _).upd rfl _).upd rfl _).upd rfl _).upd rfl _).upd rfl _).upd rfl _).upd rfl _).upd rfl _),(m11,i11 + 1,x11_0.set (Int.toNat i11) r22),⟨(by dsimp only; omega),(by dsimp only; omega),e11,m14.set (Int.toNat i11) (⟨r22.kind,r22.name,r22.other,r22.form,s25⟩ : Term),rfl,S⟩,by dsimp only; omega⟩
 rintro g28 u29 ⟨m12,S⟩
 have H:=Ho11
 refine zg (zd ?_)
 refine wd (xa rfl) ?_
 refine wd (zh zO rfl (o':=4) rfl) ?_
 refine y0 zF rfl rfl (S.blk 3) (by rw [Term.len]; decide) (SlV.one _ _ rfl) (Term.set_sub _ _) fun w30 B hw30 zw30=>?_
 replace S:St A N w w30 [oB b2 zb (Term.C (⟨a0.kind,a0.name,a0.other,a0.form,s9⟩ : Term)),oS zb 5 Term.C SlV.nil ([]:List Term),oS zb 5 Term.C s9 m12,oB b4 zb (Term.C (⟨0,ByteArray.empty,ByteArray.empty,0,SlV.nil⟩ : Term))] [bigA zK ([]:List Term) ([]:List PTerm),bigA zK m12 o11,za s_0 a0.sub]:=S.store 3 B hw30
 clear B
 refine ze ?_
 refine zg (zd ?_)
 replace S:St A N w w30 [oB b2 zb (Term.C (⟨a0.kind,a0.name,a0.other,a0.form,s9⟩ : Term)),oS zb 5 Term.C SlV.nil ([]:List Term),oB b4 zb (Term.C (⟨0,ByteArray.empty,ByteArray.empty,0,SlV.nil⟩ : Term))] [za s9 o11,bigA zK ([]:List Term) ([]:List PTerm),bigA zK m12 o11,za s_0 a0.sub]:=S.frzTm 2 1
 refine wd (zi zq rfl ((S.blk 0).all _ (Term.len _)) (Term.len _)) ?_
 refine zy zq rfl rfl (S.blk 2) (Term.len _) (by rw [Term.len]; decide) (Term.one _) (zM (Term.len _)) fun w31 B hw31 zw31=>?_
 replace S:St A N w w31 [oB b4 zb (Term.C (⟨a0.kind,a0.name,a0.other,a0.form,s9⟩ : Term)),oB b2 zb (Term.C (⟨a0.kind,a0.name,a0.other,a0.form,s9⟩ : Term)),oS zb 5 Term.C SlV.nil ([]:List Term)] [za s9 o11,bigA zK ([]:List Term) ([]:List PTerm),bigA zK m12 o11,za s_0 a0.sub]:=S.store 2 B hw31
 clear B
 refine ze ?_
 refine zC ?_
 refine ⟨_,(z1 (zV zq rfl ((S.blk 0).all _ (Term.len _)) (Term.len _))),?_⟩
 replace S:St A N w w31 [] [za s9 o11]:=S.arr [] [0]
 obtain rfl:=jN H
 exact ⟨s9,rfl,S⟩
theorem term_clone_st {a0:PTerm} {s_0:SlV} (S:St A N w w [] [za s_0 a0.sub]) {k:Nat} {r:PTerm} (H:kF.f k a0=some r) :
  Calls PP ua #[.agg (Term.C (⟨a0.kind,a0.name,a0.other,a0.form,s_0⟩ : Term)).toArray] w fun e w' => ∃ v,e = .returned v∧(∃ so0:SlV,v = .agg (Term.C (⟨r.kind,r.name,r.other,r.form,so0⟩ : Term)).toArray∧St A N w w' [] [za so0 r.sub]):=by
 have main : ∀ (k:Nat) {A:Nat→Prop} {N:Oth} {w:World} {a0:PTerm} {s_0:SlV} (S:St A N w w [] [za s_0 a0.sub]) {r:PTerm} (H:kF.f k a0=some r),Calls PP ua #[.agg (Term.C (⟨a0.kind,a0.name,a0.other,a0.form,s_0⟩ : Term)).toArray] w fun e w' => ∃ v,e = .returned v∧(∃ so0:SlV,v = .agg (Term.C (⟨r.kind,r.name,r.other,r.form,so0⟩ : Term)).toArray∧St A N w w' [] [za so0 r.sub]):=by
  intro k
  induction k with
  | zero=>intro A N w a0 s_0 S r H; cases H
  | succ k ih=>intro A N w a0 s_0 S r H; exact term_clone_gst ih S H
 exact main k S H
theorem term_fresh_st {a0:List (ByteArray × Int)} {m_0:Nat} {a1:List (ByteArray × Int)} {m_1:Nat} {a2:ByteArray} (S:St A N w w [] [oMS m_0 a0,oMS m_1 a1,oPw]) {k:Nat} {r:ByteArray} (H:kG.f k a0 a1 a2=some r) :
  Calls PP F_term_fresh #[.map (some m_0),.map (some m_1),.string a2] w fun e w' => ∃ v,e = .returned v∧(v = .string r∧St A N w w' [] []):=by
 unfold kG.f at H
 refine zE (n:=30) fn_term_fresh rfl rfl jL ?_
 refine zg (zd ?_)
 refine wd (vi rfl) ?_
 refine ze ?_
 refine zg (zd ?_)
 refine wd (zn rfl) ?_
 refine ze ?_
 obtain ⟨o1,e1,Ho1⟩ := zB H
 clear H
 refine yi [6,7,8,9,10,11,12,13,14,15,16,17,18,19,20,21,22,23,24,25,26,27,28,29] (fun fr W => ∃ s1:Int,o1 = .inl s1∧fr 7 = .int .i64 s1∧St A N w W [] [oMS m_0 a0,oMS m_1 a1,oPw]) ?_ ?_
 ·refine zY ?_
  refine x3 (α:=Nat × Int) [6,7,8,9,10,11,12,13,14,15,16,17,18,19,20,21,22,23,24,25,26,27,28,29] (fun x fr W=>iter (fun s=>kG.b0 a0 a1 a2 s) x.1 x.2=some o1∧fr 7 = .int .i64 (x.2)∧St A N w W [] [oMS m_0 a0,oMS m_1 a1,oPw]) (fun x=>x.1) (k,0) ⟨(by dsimp only; exact e1),rfl,S⟩ ?_
  rintro ⟨m1,x1_0⟩ g1 u1 ⟨e1,q1_7,S⟩
  try dsimp only at e1
  try dsimp only at S
  try dsimp only at q1_7
  obtain ⟨m1,rfl⟩ : ∃ m,m1=m + 1:=⟨m1 - 1,by cases m1 with | zero=>cases e1 | succ m=>rfl⟩
  obtain ⟨q1,H,e1⟩ := iter_s e1
  unfold kG.b0 at H
  try dsimp only at H
  refine zg ?_
  refine zY ?_
  refine zg (zd ?_)
  refine wd (zp q1_7) ?_
  obtain ⟨r2,er2,H⟩ := zB H
  obtain ⟨B4,MB4,SB4,back⟩ := S.calln 0 ((.z 2 rfl .nil))
  refine zJ (zH ca_strconv_Itoa) jJ (strconv_Itoa_st SB4 er2) ?_
  rintro _ w3 ⟨rfl,S2⟩
  replace S:St A N w w3 [] [oMS m_0 a0,oMS m_1 a1,oPw]:=back _ _ _ _ S2 rfl
  clear back S2 SB4
  obtain ⟨hs5,H⟩ := xh H
  refine wd (does_concat rfl rfl (of_decide_eq_true hs5)) ?_
  refine wd (vi rfl) ?_
  refine ze ?_
  refine zg (zd ?_)
  refine wd (x6 rfl) ?_
  refine wd (xm rfl) ?_
  refine wd (yU (C:=Value.string) (D:=(Value.int .i64)) (key:=(⟨#[118]⟩ : ByteArray) ++ r2) (zv:=0) xD yv zv_int rfl rfl (S.mapZ 0)) ?_
  refine wd (xb rfl rfl) ?_
  refine wd (zG rfl) ?_
  refine zu (j:=4) (pol:=true) rfl rfl rfl jJ (fun hg=>x6 rfl) jJ ?_
  refine zu (j:=4) (pol:=true) rfl rfl rfl jJ (fun hg=>xm rfl) jJ ?_
  refine zu (j:=4) (pol:=true) rfl rfl rfl jJ (fun hg=>yU (C:=Value.string) (D:=(Value.int .i64)) (key:=(⟨#[118]⟩ : ByteArray) ++ r2) (zv:=0) xD yv zv_int (zw hg) (zw hg) (S.mapZ 1)) jJ ?_
  refine zu (j:=4) (pol:=true) rfl rfl rfl jJ (fun hg=>xb (zw hg) rfl) jJ ?_
  refine wd (xe rfl (fun hp=>(zw (xu hp)))) ?_
  refine wd (zG rfl) ?_
  refine zu (j:=10) (pol:=true) rfl rfl rfl jJ (fun hg=>xm rfl) jJ ?_
  refine zu (j:=10) (pol:=true) rfl rfl rfl jJ (fun hg=>xm rfl) jJ ?_
  refine zu (j:=10) (pol:=true) rfl rfl rfl jJ (fun hg=>uk (zw hg) (zw hg)) jJ ?_
  refine wd (xe rfl (fun hp=>(zw (xu hp)))) ?_
  refine ze ?_
  refine zU rfl (fun hc6=>?_) (fun hc6=>?_)
  ·replace H:=if_t hc6 H
   refine zg (zd ?_)
   refine wd (xm rfl) ?_
   refine wd (vi rfl) ?_
   refine ze ?_
   refine zC ?_
   refine ⟨_,(z1 (zj rfl)),?_⟩
   replace S:St A N w w3 [] []:=S.arr [] []
   obtain rfl:=jN H
   obtain rfl:=e1
   obtain rfl:=aft_r Ho1
   exact ⟨rfl,S⟩
  replace H:=if_f hc6 H
  refine zI ?_
  refine zd ?_
  refine wd (zp q1_7) ?_
  refine wd (vt rfl rfl) ?_
  refine wd (zn rfl) ?_
  refine ze ?_
  obtain rfl:=jN H
  exact ⟨rfl,(((((((((((((((((((((((Dif.self _ _ _).upd rfl _).upd rfl _).upd rfl _).upd rfl _).upd rfl _).upd rfl _).upd rfl _).upd rfl _).upd rfl _).upd rfl _).upd rfl _).upd rfl _).upd rfl _).upd rfl _).upd rfl _).upd rfl _).upd rfl _).upd rfl _).upd rfl _).upd rfl _).upd rfl _).upd rfl _),(m1,IntKind.i64.wrap (x1_0 + 1)),⟨e1,rfl,S⟩,by dsimp only; omega⟩
 rintro g7 u8 ⟨s1,rfl,p1_7,S⟩
 have H:=Ho1
 dsimp only [aft] at H
 cases H
theorem term_put_gst {zaD:PTerm→ByteArray→PTerm→(List (ByteArray × Int))→Option PTerm} (zaq : ∀ {A:Nat→Prop} {N:Oth} {w:World} {a0:PTerm} {s_0:SlV} {a1:ByteArray} {a2:PTerm} {s_2:SlV} {a3:List (ByteArray × Int)} {m_3:Nat} (S:St A N w w [] [za s_0 a0.sub,za s_2 a2.sub,oMS m_3 a3,oPw]) {r:PTerm} (H:zaD a0 a1 a2 a3=some r),Calls PP jf #[.agg (Term.C (⟨a0.kind,a0.name,a0.other,a0.form,s_0⟩ : Term)).toArray,.string a1,.agg (Term.C (⟨a2.kind,a2.name,a2.other,a2.form,s_2⟩ : Term)).toArray,.map (some m_3)] w fun e w' => ∃ v,e = .returned v∧(∃ so0:SlV,v = .agg (Term.C (⟨r.kind,r.name,r.other,r.form,so0⟩ : Term)).toArray∧St A N w w' [] [za so0 r.sub])) {A:Nat→Prop} {N:Oth} {w:World} {a0:PTerm} {s_0:SlV} {a1:ByteArray} {a2:PTerm} {s_2:SlV} {a3:List (ByteArray × Int)} {m_3:Nat} (S:St A N w w [] [za s_0 a0.sub,za s_2 a2.sub,oMS m_3 a3,oPw]) {k:Nat} {r:PTerm} (H:kH.g zaD k a0 a1 a2 a3=some r) :
  Calls PP jf #[.agg (Term.C (⟨a0.kind,a0.name,a0.other,a0.form,s_0⟩ : Term)).toArray,.string a1,.agg (Term.C (⟨a2.kind,a2.name,a2.other,a2.form,s_2⟩ : Term)).toArray,.map (some m_3)] w fun e w' => ∃ v,e = .returned v∧(∃ so0:SlV,v = .agg (Term.C (⟨r.kind,r.name,r.other,r.form,so0⟩ : Term)).toArray∧St A N w w' [] [za so0 r.sub]):=by
 unfold kH.g at H
 refine zE (n:=96) fn_term_put rfl rfl jL ?_
 refine zg (zd ?_)
 refine zQ rfl jJ fun b2 w1 hw1=>?_
 replace S:St A N w w1 [oB b2 zb (Term.C (⟨a0.kind,a0.name,a0.other,a0.form,s_0⟩ : Term))] [za s_0 a0.sub,za s_2 a2.sub,oMS m_3 a3,oPw]:=S.new hw1
 refine zQ rfl jJ fun b4 w3 hw3=>?_
 replace S:St A N w w3 [oB b4 zb (Term.C (⟨a2.kind,a2.name,a2.other,a2.form,s_2⟩ : Term)),oB b2 zb (Term.C (⟨a0.kind,a0.name,a0.other,a0.form,s_0⟩ : Term))] [za s_0 a0.sub,za s_2 a2.sub,oMS m_3 a3,oPw]:=S.new hw3
 refine zZ xr jJ fun b6 w5 hw5=>?_
 replace S:St A N w w5 [oB b6 zb (Term.C (⟨0,ByteArray.empty,ByteArray.empty,0,SlV.nil⟩ : Term)),oB b4 zb (Term.C (⟨a2.kind,a2.name,a2.other,a2.form,s_2⟩ : Term)),oB b2 zb (Term.C (⟨a0.kind,a0.name,a0.other,a0.form,s_0⟩ : Term))] [za s_0 a0.sub,za s_2 a2.sub,oMS m_3 a3,oPw]:=S.new hw5
 refine ze ?_
 refine zg (zg (zd ?_))
 refine wd (zh xl rfl (o':=0) rfl) ?_
 refine wd (zt xd rfl ((S.blk 2).cell (Term.get_kind _))) ?_
 refine wd (xb rfl rfl) ?_
 refine ze ?_
 refine zU rfl (fun hc7=>?_) (fun hc7=>?_)
 ·replace H:=if_t hc7 H
  refine zg (zg (zd ?_))
  refine wd (zh xO rfl (o':=1) rfl) ?_
  refine wd (zt xz rfl ((S.blk 2).cell (Term.get_name _))) ?_
  refine wd (xm rfl) ?_
  refine wd (yz rfl rfl) ?_
  refine ze ?_
  refine zU rfl (fun hc8=>?_) (fun hc8=>?_)
  ·replace H:=if_t hc8 H
   refine zg (zd ?_)
   refine wd (zi zq rfl ((S.blk 1).all _ (Term.len _)) (Term.len _)) ?_
   obtain ⟨r9,er9,H⟩ := zB H
   obtain ⟨B11,MB11,SB11,back⟩ := S.sub [1] [] [oB b6 zb (Term.C (⟨0,ByteArray.empty,ByteArray.empty,0,SlV.nil⟩ : Term)),oB b4 zb (Term.C (⟨a2.kind,a2.name,a2.other,a2.form,s_2⟩ : Term)),oB b2 zb (Term.C (⟨a0.kind,a0.name,a0.other,a0.form,s_0⟩ : Term))]
   refine zJ (zH ju) jJ (term_clone_st (a0:=a2) SB11 er9) ?_
   rintro _ w10 ⟨s12,rfl,S2⟩
   replace S:St A N w w10 [oB b6 zb (Term.C (⟨0,ByteArray.empty,ByteArray.empty,0,SlV.nil⟩ : Term)),oB b4 zb (Term.C (⟨a2.kind,a2.name,a2.other,a2.form,s_2⟩ : Term)),oB b2 zb (Term.C (⟨a0.kind,a0.name,a0.other,a0.form,s_0⟩ : Term))] [za s12 r9.sub,za s_0 a0.sub,za s_2 a2.sub,oMS m_3 a3,oPw]:=back _ _ _ _ _ S2 rfl rfl
   clear back S2 SB11
   refine zy zq rfl rfl (S.blk 0) (Term.len _) (by rw [Term.len]; decide) (Term.one _) (zM (Term.len _)) fun w13 B hw13 zw13=>?_
   replace S:St A N w w13 [oB b6 zb (Term.C (⟨r9.kind,r9.name,r9.other,r9.form,s12⟩ : Term)),oB b4 zb (Term.C (⟨a2.kind,a2.name,a2.other,a2.form,s_2⟩ : Term)),oB b2 zb (Term.C (⟨a0.kind,a0.name,a0.other,a0.form,s_0⟩ : Term))] [za s12 r9.sub,za s_0 a0.sub,za s_2 a2.sub,oMS m_3 a3,oPw]:=S.store 0 B hw13
   clear B
   refine ze ?_
   refine zC ?_
   refine ⟨_,(z1 (zV zq rfl ((S.blk 0).all _ (Term.len _)) (Term.len _))),?_⟩
   replace S:St A N w w13 [] [za s12 r9.sub]:=S.arr [] [0]
   obtain rfl:=jN H
   exact ⟨s12,rfl,S⟩
  replace H:=if_f hc8 H
  refine zI ?_
  refine zg (zd ?_)
  refine wd (zi zq rfl ((S.blk 2).all _ (Term.len _)) (Term.len _)) ?_
  refine zy zq rfl rfl (S.blk 0) (Term.len _) (by rw [Term.len]; decide) (Term.one _) (zM (Term.len _)) fun w14 B hw14 zw14=>?_
  replace S:St A N w w14 [oB b6 zb (Term.C (⟨a0.kind,a0.name,a0.other,a0.form,s_0⟩ : Term)),oB b4 zb (Term.C (⟨a2.kind,a2.name,a2.other,a2.form,s_2⟩ : Term)),oB b2 zb (Term.C (⟨a0.kind,a0.name,a0.other,a0.form,s_0⟩ : Term))] [za s_0 a0.sub,za s_2 a2.sub,oMS m_3 a3,oPw]:=S.store 0 B hw14
  clear B
  refine ze ?_
  refine zC ?_
  refine ⟨_,(z1 (zV zq rfl ((S.blk 0).all _ (Term.len _)) (Term.len _))),?_⟩
  replace S:St A N w w14 [] [za s_0 a0.sub]:=S.arr [] [0]
  obtain rfl:=jN H
  exact ⟨s_0,rfl,S⟩
 replace H:=if_f hc7 H
 refine zI ?_
 refine zg (zd ?_)
 refine wd (zi zq rfl ((S.blk 2).all _ (Term.len _)) (Term.len _)) ?_
 refine zZ xr jJ fun b16 w15 hw15=>?_
 replace S:St A N w w15 [oB b16 zb (Term.C (⟨0,ByteArray.empty,ByteArray.empty,0,SlV.nil⟩ : Term)),oB b6 zb (Term.C (⟨0,ByteArray.empty,ByteArray.empty,0,SlV.nil⟩ : Term)),oB b4 zb (Term.C (⟨a2.kind,a2.name,a2.other,a2.form,s_2⟩ : Term)),oB b2 zb (Term.C (⟨a0.kind,a0.name,a0.other,a0.form,s_0⟩ : Term))] [za s_0 a0.sub,za s_2 a2.sub,oMS m_3 a3,oPw]:=S.new hw15
 refine zy zq rfl rfl (S.blk 0) (Term.len _) (by rw [Term.len]; decide) (Term.one _) (zM (Term.len _)) fun w17 B hw17 zw17=>?_
 replace S:St A N w w17 [oB b16 zb (Term.C (⟨a0.kind,a0.name,a0.other,a0.form,s_0⟩ : Term)),oB b6 zb (Term.C (⟨0,ByteArray.empty,ByteArray.empty,0,SlV.nil⟩ : Term)),oB b4 zb (Term.C (⟨a2.kind,a2.name,a2.other,a2.form,s_2⟩ : Term)),oB b2 zb (Term.C (⟨a0.kind,a0.name,a0.other,a0.form,s_0⟩ : Term))] [za s_0 a0.sub,za s_2 a2.sub,oMS m_3 a3,oPw]:=S.store 0 B hw17
 clear B
 refine ze ?_
 refine zg (zd ?_)
 refine wd (zh zO rfl (o':=4) rfl) ?_
 refine wd (zt zF rfl ((S.blk 3).cell (Term.get_sub _))) ?_
 refine wd (does_lenF zz rfl (S.onZ 0)) ?_
 obtain ⟨hm21,H⟩ := xh H
 have hm21:=of_decide_eq_true hm21
 refine wl_makeN (C:=Term.C) (z:=Term.z) zz ul zT_Term rfl rfl rfl hm21.1 jK hm21.2 jJ fun b19 w18 s20 hBw18 hw18=>?_
 replace S:St A N w w18 [oS zb 5 Term.C s20 (List.replicate (Int.toNat (a0.sub.length:Int)) Term.z),oB b16 zb (Term.C (⟨a0.kind,a0.name,a0.other,a0.form,s_0⟩ : Term)),oB b6 zb (Term.C (⟨0,ByteArray.empty,ByteArray.empty,0,SlV.nil⟩ : Term)),oB b4 zb (Term.C (⟨a2.kind,a2.name,a2.other,a2.form,s_2⟩ : Term)),oB b2 zb (Term.C (⟨a0.kind,a0.name,a0.other,a0.form,s_0⟩ : Term))] [za s_0 a0.sub,za s_2 a2.sub,oMS m_3 a3,oPw]:=S.lit hBw18 hw18 (by rw [List.length_replicate]; omega)
 replace S:St A N w w18 [oS zb 5 Term.C s20 (List.replicate (Int.toNat (a0.sub.length:Int)) Term.z),oB b16 zb (Term.C (⟨a0.kind,a0.name,a0.other,a0.form,s_0⟩ : Term)),oB b6 zb (Term.C (⟨0,ByteArray.empty,ByteArray.empty,0,SlV.nil⟩ : Term)),oB b4 zb (Term.C (⟨a2.kind,a2.name,a2.other,a2.form,s_2⟩ : Term)),oB b2 zb (Term.C (⟨a0.kind,a0.name,a0.other,a0.form,s_0⟩ : Term))] [bigA zK (List.replicate (Int.toNat (a0.sub.length:Int)) Term.z) (List.replicate (Int.toNat (a0.sub.length:Int)) PTerm.z),za s_0 a0.sub,za s_2 a2.sub,oMS m_3 a3,oPw]:=S.repTm (Int.toNat (a0.sub.length:Int))
 refine wd (zh zO rfl (o':=4) rfl) ?_
 refine y0 zF rfl rfl (S.blk 1) (by rw [Term.len]; decide) (SlV.one _ _ rfl) (Term.set_sub _ _) fun w22 B hw22 zw22=>?_
 replace S:St A N w w22 [oB b16 zb (Term.C (⟨a0.kind,a0.name,a0.other,a0.form,s20⟩ : Term)),oS zb 5 Term.C s20 (List.replicate (Int.toNat (a0.sub.length:Int)) Term.z),oB b6 zb (Term.C (⟨0,ByteArray.empty,ByteArray.empty,0,SlV.nil⟩ : Term)),oB b4 zb (Term.C (⟨a2.kind,a2.name,a2.other,a2.form,s_2⟩ : Term)),oB b2 zb (Term.C (⟨a0.kind,a0.name,a0.other,a0.form,s_0⟩ : Term))] [bigA zK (List.replicate (Int.toNat (a0.sub.length:Int)) Term.z) (List.replicate (Int.toNat (a0.sub.length:Int)) PTerm.z),za s_0 a0.sub,za s_2 a2.sub,oMS m_3 a3,oPw]:=S.store 1 B hw22
 clear B
 refine ze ?_
 refine zg (zg (zd ?_))
 refine wd (zh zO rfl (o':=4) rfl) ?_
 refine wd (zt zF rfl ((S.blk 4).cell (Term.get_sub _))) ?_
 refine wd (does_lenF zz rfl (S.onZ 1)) ?_
 refine wd (zp rfl) ?_
 refine ze ?_
 replace S:=S.nil zb 5 Term.C
 replace S:St A N w w22 [oS zb 5 Term.C SlV.nil ([]:List Term),oB b16 zb (Term.C (⟨a0.kind,a0.name,a0.other,a0.form,s20⟩ : Term)),oS zb 5 Term.C s20 (List.replicate (Int.toNat (a0.sub.length:Int)) Term.z),oB b6 zb (Term.C (⟨0,ByteArray.empty,ByteArray.empty,0,SlV.nil⟩ : Term)),oB b4 zb (Term.C (⟨a2.kind,a2.name,a2.other,a2.form,s_2⟩ : Term)),oB b2 zb (Term.C (⟨a0.kind,a0.name,a0.other,a0.form,s_0⟩ : Term))] [bigA zK ([]:List Term) ([]:List PTerm),bigA zK (List.replicate (Int.toNat (a0.sub.length:Int)) Term.z) (List.replicate (Int.toNat (a0.sub.length:Int)) PTerm.z),za s_0 a0.sub,za s_2 a2.sub,oMS m_3 a3,oPw]:=S.bigTm
 obtain ⟨o23,e23,Ho23⟩ := zB H
 clear H
 refine yi [10,11,12,13,14,34,35,36,37,38,39,40,41,42,43,44,45,46,47,48,49,50,51,52,53,54,55,56,57,58,59,60,61,62,63,64,65,66,67,68,69,70,71,72,73,74,75,76,77,78,79,80,81,82,83,84,85,86,87,88,89,90,91,92,93,94] (fun fr W => ∃ s24:SlV,∃ m25:List Term,St A N w W [oS zb 5 Term.C SlV.nil ([]:List Term),oB b16 zb (Term.C (⟨o23.kind,o23.name,o23.other,o23.form,s24⟩ : Term)),oS zb 5 Term.C s24 m25,oB b6 zb (Term.C (⟨0,ByteArray.empty,ByteArray.empty,0,SlV.nil⟩ : Term)),oB b4 zb (Term.C (⟨a2.kind,a2.name,a2.other,a2.form,s_2⟩ : Term)),oB b2 zb (Term.C (⟨a0.kind,a0.name,a0.other,a0.form,s_0⟩ : Term))] [bigA zK ([]:List Term) ([]:List PTerm),bigA zK m25 o23.sub,za s_0 a0.sub,za s_2 a2.sub,oMS m_3 a3,oPw]) ?_ ?_
 ·refine zY ?_
  refine x3 (α:=Nat × Int × PTerm) [10,11,12,13,14,34,35,36,37,38,39,40,41,42,43,44,45,46,47,48,49,50,51,52,53,54,55,56,57,58,59,60,61,62,63,64,65,66,67,68,69,70,71,72,73,74,75,76,77,78,79,80,81,82,83,84,85,86,87,88,89,90,91,92,93,94] (fun x fr W=>(x.1:Int)=(a0.sub.length:Int) - x.2.1∧0 ≤ x.2.1∧forS (fun i s=>kH.b0 a0 k a1 a3 zaD a2 i s) x.1 x.2.1 x.2.2=some o23 ∧ ∃ s26:SlV,∃ m27:List Term,fr 34 = .int .i64 x.2.1∧St A N w W [oS zb 5 Term.C SlV.nil ([]:List Term),oB b16 zb (Term.C (⟨(x.2.2).kind,(x.2.2).name,(x.2.2).other,(x.2.2).form,s26⟩ : Term)),oS zb 5 Term.C s26 m27,oB b6 zb (Term.C (⟨0,ByteArray.empty,ByteArray.empty,0,SlV.nil⟩ : Term)),oB b4 zb (Term.C (⟨a2.kind,a2.name,a2.other,a2.form,s_2⟩ : Term)),oB b2 zb (Term.C (⟨a0.kind,a0.name,a0.other,a0.form,s_0⟩ : Term))] [bigA zK ([]:List Term) ([]:List PTerm),bigA zK m27 (x.2.2).sub,za s_0 a0.sub,za s_2 a2.sub,oMS m_3 a3,oPw]) (fun x=>x.1) (((a0.sub.length:Int) - 0).toNat,0,(⟨a0.kind,a0.name,a0.other,a0.form,List.replicate (Int.toNat (a0.sub.length:Int)) PTerm.z⟩ : PTerm)) ⟨(by dsimp only; have hle:=Int.natCast_nonneg (a0.sub.length); omega),(Int.le_refl _),(by dsimp only; exact e23),s20,List.replicate (Int.toNat (a0.sub.length:Int)) Term.z,rfl,S⟩ ?_
  rintro ⟨m23,i23,x23_0⟩ g23 u23 ⟨hm23,hl23,e23,s28,m29,q23_i,S⟩
  try dsimp only at hm23
  try dsimp only at hl23
  try dsimp only at e23
  try dsimp only at S
  try dsimp only at q23_i
  refine zg (zd ?_)
  refine wd (xC q23_i rfl) ?_
  refine ze ?_
  refine zg ?_
  refine zU rfl (fun hc30=>?_) (fun hc30=>?_)
  rotate_left
  ·refine yu ?_
   have hge:(a0.sub.length:Int) ≤ i23:=Int.not_lt.1 (of_decide_eq_false hc30)
   obtain rfl:m23=0:=by omega
   replace e23:=forS_0 e23
   obtain rfl:=e23
   exact ⟨rfl,((Dif.self _ _ _).upd rfl _),s28,m29,S⟩
  refine zI ?_
  have hlt23:i23 < (a0.sub.length:Int):=of_decide_eq_true hc30
  obtain ⟨m23,rfl⟩ : ∃ m,m23=m + 1:=⟨m23 - 1,by omega⟩
  obtain ⟨q23,H,e23⟩ := forS_s e23
  unfold kH.b0 at H
  try dsimp only at H
  have hb23:=(S.lenFZ 2)
  refine zg ?_
  refine zY ?_
  refine zg (zd ?_)
  refine wd (zp q23_i) ?_
  refine wd (does_indexF zz rfl q23_i (S.onZ 2) (And.intro (show 0 ≤ i23 by omega) (show i23 < (a0.sub.length:Int) from hlt23)).1 (And.intro (show 0 ≤ i23 by omega) (show i23 < (a0.sub.length:Int) from hlt23)).2) ?_
  obtain ⟨s32,hc33,S⟩ := S.viewTerm 2 (And.intro (show 0 ≤ i23 by omega) (show i23 < (a0.sub.length:Int) from hlt23))
  replace S:St A N w u23 [oS zb 5 Term.C SlV.nil ([]:List Term),oB b16 zb (Term.C (⟨x23_0.kind,x23_0.name,x23_0.other,x23_0.form,s28⟩ : Term)),oS zb 5 Term.C s28 m29,oB b6 zb (Term.C (⟨0,ByteArray.empty,ByteArray.empty,0,SlV.nil⟩ : Term)),oB b4 zb (Term.C (⟨a2.kind,a2.name,a2.other,a2.form,s_2⟩ : Term)),oB b2 zb (Term.C (⟨a0.kind,a0.name,a0.other,a0.form,s_0⟩ : Term))] [za s32 ((at_ PTerm.z a0.sub i23).sub),bigA zK ([]:List Term) ([]:List PTerm),bigA zK m29 x23_0.sub,za s_0 a0.sub,za s_2 a2.sub,oMS m_3 a3,oPw]:=S
  refine wd (zi zq rfl hc33 (Term.len _)) ?_
  refine zZ xr jJ fun b35 w34 hw34=>?_
  replace S:St A N w w34 [oB b35 zb (Term.C (⟨0,ByteArray.empty,ByteArray.empty,0,SlV.nil⟩ : Term)),oS zb 5 Term.C SlV.nil ([]:List Term),oB b16 zb (Term.C (⟨x23_0.kind,x23_0.name,x23_0.other,x23_0.form,s28⟩ : Term)),oS zb 5 Term.C s28 m29,oB b6 zb (Term.C (⟨0,ByteArray.empty,ByteArray.empty,0,SlV.nil⟩ : Term)),oB b4 zb (Term.C (⟨a2.kind,a2.name,a2.other,a2.form,s_2⟩ : Term)),oB b2 zb (Term.C (⟨a0.kind,a0.name,a0.other,a0.form,s_0⟩ : Term))] [za s32 ((at_ PTerm.z a0.sub i23).sub),bigA zK ([]:List Term) ([]:List PTerm),bigA zK m29 x23_0.sub,za s_0 a0.sub,za s_2 a2.sub,oMS m_3 a3,oPw]:=S.new hw34
  refine wd (zn rfl) ?_
  refine zy zq rfl rfl (S.blk 0) (Term.len _) (by rw [Term.len]; decide) (Term.one _) (zM (Term.len _)) fun w36 B hw36 zw36=>?_
  replace S:St A N w w36 [oB b35 zb (Term.C (⟨(at_ PTerm.z a0.sub i23).kind,(at_ PTerm.z a0.sub i23).name,(at_ PTerm.z a0.sub i23).other,(at_ PTerm.z a0.sub i23).form,s32⟩ : Term)),oS zb 5 Term.C SlV.nil ([]:List Term),oB b16 zb (Term.C (⟨x23_0.kind,x23_0.name,x23_0.other,x23_0.form,s28⟩ : Term)),oS zb 5 Term.C s28 m29,oB b6 zb (Term.C (⟨0,ByteArray.empty,ByteArray.empty,0,SlV.nil⟩ : Term)),oB b4 zb (Term.C (⟨a2.kind,a2.name,a2.other,a2.form,s_2⟩ : Term)),oB b2 zb (Term.C (⟨a0.kind,a0.name,a0.other,a0.form,s_0⟩ : Term))] [za s32 ((at_ PTerm.z a0.sub i23).sub),bigA zK ([]:List Term) ([]:List PTerm),bigA zK m29 x23_0.sub,za s_0 a0.sub,za s_2 a2.sub,oMS m_3 a3,oPw]:=S.store 0 B hw36
  clear B
  refine ze ?_
  refine zg (zd ?_)
  refine wd (zi zq rfl ((S.blk 6).all _ (Term.len _)) (Term.len _)) ?_
  refine wd (zp rfl) ?_
  obtain ⟨r37,er37,H⟩ := zB H
  obtain ⟨B39,MB39,SB39,back⟩ := S.calln 0 ((.z 3 rfl .nil))
  refine zJ (zH jt) jJ (jy (a0:=a0) SB39 er37) ?_
  rintro _ w38 ⟨rfl,S2⟩
  replace S:St A N w w38 [oB b35 zb (Term.C (⟨(at_ PTerm.z a0.sub i23).kind,(at_ PTerm.z a0.sub i23).name,(at_ PTerm.z a0.sub i23).other,(at_ PTerm.z a0.sub i23).form,s32⟩ : Term)),oS zb 5 Term.C SlV.nil ([]:List Term),oB b16 zb (Term.C (⟨x23_0.kind,x23_0.name,x23_0.other,x23_0.form,s28⟩ : Term)),oS zb 5 Term.C s28 m29,oB b6 zb (Term.C (⟨0,ByteArray.empty,ByteArray.empty,0,SlV.nil⟩ : Term)),oB b4 zb (Term.C (⟨a2.kind,a2.name,a2.other,a2.form,s_2⟩ : Term)),oB b2 zb (Term.C (⟨a0.kind,a0.name,a0.other,a0.form,s_0⟩ : Term))] [za s32 ((at_ PTerm.z a0.sub i23).sub),bigA zK ([]:List Term) ([]:List PTerm),bigA zK m29 x23_0.sub,za s_0 a0.sub,za s_2 a2.sub,oMS m_3 a3,oPw]:=back _ _ _ _ S2 rfl
  clear back S2 SB39
  refine wd (vi rfl) ?_
  refine ze ?_
  refine zg (zd ?_)
  refine wd (zi zq rfl ((S.blk 0).all _ (Term.len _)) (Term.len _)) ?_
  obtain ⟨r40,er40,H⟩ := zB H
  obtain ⟨B42,MB42,SB42,back⟩ := S.calln 0 ((.z 0 rfl .nil))
  refine zJ (zH ca_term_freely) jJ (term_freely_st (a0:=(at_ PTerm.z a0.sub i23)) SB42 er40) ?_
  rintro _ w41 ⟨m43,rfl,S2⟩
  replace S:St A N w w41 [oMS m43 r40,oB b35 zb (Term.C (⟨(at_ PTerm.z a0.sub i23).kind,(at_ PTerm.z a0.sub i23).name,(at_ PTerm.z a0.sub i23).other,(at_ PTerm.z a0.sub i23).form,s32⟩ : Term)),oS zb 5 Term.C SlV.nil ([]:List Term),oB b16 zb (Term.C (⟨x23_0.kind,x23_0.name,x23_0.other,x23_0.form,s28⟩ : Term)),oS zb 5 Term.C s28 m29,oB b6 zb (Term.C (⟨0,ByteArray.empty,ByteArray.empty,0,SlV.nil⟩ : Term)),oB b4 zb (Term.C (⟨a2.kind,a2.name,a2.other,a2.form,s_2⟩ : Term)),oB b2 zb (Term.C (⟨a0.kind,a0.name,a0.other,a0.form,s_0⟩ : Term))] [za s32 ((at_ PTerm.z a0.sub i23).sub),bigA zK ([]:List Term) ([]:List PTerm),bigA zK m29 x23_0.sub,za s_0 a0.sub,za s_2 a2.sub,oMS m_3 a3,oPw]:=back _ _ _ _ S2 rfl
  clear back S2 SB42
  refine wd (does_as_m rfl) ?_
  refine ze ?_
  refine zg (zg (zd ?_))
  refine wd (xm rfl) ?_
  refine wd (xm rfl) ?_
  refine wd (yz rfl rfl) ?_
  refine wd (zG rfl) ?_
  refine zu (j:=3) (pol:=false) rfl rfl rfl jJ (fun hg=>x6 rfl) jJ ?_
  refine zu (j:=3) (pol:=false) rfl rfl rfl jJ (fun hg=>xm rfl) jJ ?_
  refine zu (j:=3) (pol:=false) rfl rfl rfl jJ (fun hg=>yU (C:=Value.string) (D:=(Value.int .i64)) (key:=a1) (zv:=0) xD yv zv_int (zw hg) (zw hg) (S.map 0)) jJ ?_
  refine zu (j:=3) (pol:=false) rfl rfl rfl jJ (fun hg=>xb (zw hg) rfl) jJ ?_
  refine wd (xF rfl (fun hp=>(zw (xu hp)))) ?_
  refine ze ?_
  refine zU rfl (fun hc44=>?_) (fun hc44=>?_)
  ·replace H:=if_t hc44 H
   refine zg ?_
   obtain ⟨r46,er46,H⟩ := zB H
   refine yM 5 ⟨fun _ _=>True,fun _ _ _=>True,fun i v _=>match i with
    | 0=>v=Value.pointer (some ⟨b16,4,none⟩)
    | 1=>v=s28.v
    | 2=>v=Value.int .i64 i23
    | 3=>v=Value.agg (Term.C (⟨(at_ PTerm.z a0.sub i23).kind,(at_ PTerm.z a0.sub i23).name,(at_ PTerm.z a0.sub i23).other,(at_ PTerm.z a0.sub i23).form,s32⟩ : Term)).toArray
    | _=>True⟩ (fun L g v => ∃ Z50:List OA,(∀ z ∈ [za s32 ((at_ PTerm.z a0.sub i23).sub),bigA zK ([]:List Term) ([]:List PTerm),bigA zK m29 x23_0.sub,za s_0 a0.sub,za s_2 a2.sub,oMS m_3 a3,oPw],z ∈ Z50)∧Made L g Z50 4 57 (fun (c:SlV)=>Value.agg (Term.C (⟨r46.kind,r46.name,r46.other,r46.form,c⟩ : Term)).toArray) (fun (c:SlV)=>[za c r46.sub])∧St A N w v [oMS m43 r40,oB b35 zb (Term.C (⟨(at_ PTerm.z a0.sub i23).kind,(at_ PTerm.z a0.sub i23).name,(at_ PTerm.z a0.sub i23).other,(at_ PTerm.z a0.sub i23).form,s32⟩ : Term)),oS zb 5 Term.C SlV.nil ([]:List Term),oB b16 zb (Term.C (⟨x23_0.kind,x23_0.name,x23_0.other,x23_0.form,s28⟩ : Term)),oS zb 5 Term.C s28 m29,oB b6 zb (Term.C (⟨0,ByteArray.empty,ByteArray.empty,0,SlV.nil⟩ : Term)),oB b4 zb (Term.C (⟨a2.kind,a2.name,a2.other,a2.form,s_2⟩ : Term)),oB b2 zb (Term.C (⟨a0.kind,a0.name,a0.other,a0.form,s_0⟩ : Term))] Z50) hmix jM (fun _ _ _ _ _ _ _ hv=>hv) (fun g=>⟨_,fun _ h=>h,Made.no,S.ext (Ext.drawn _)⟩) ⟨?_,?_,?_,?_,?_,trivial⟩ ?_
   ·rintro L g v hL hcl hclo ⟨Z50,hZ,hm4,S⟩ 
    refine wd (zh zO rfl (o':=4) rfl) ?_
    exact ze (ob4 trivial rfl ⟨_,hZ,hm4.keep rfl rfl tl0,S⟩)
   ·rintro L g v hL hcl hclo ⟨Z50,hZ,hm4,S⟩ hv0
    refine wd (zt zF hv0 ((S.blk 3).cell (Term.get_sub _))) ?_
    exact ze (ob4 trivial rfl ⟨_,hZ,hm4.keep rfl rfl tl0,S⟩)
   ·rintro L g v hL hcl hclo ⟨Z50,hZ,hm4,S⟩ 
    refine wd (zp rfl) ?_
    exact ze (ob4 trivial rfl ⟨_,hZ,hm4.keep rfl rfl tl0,S⟩)
   ·rintro L g v hL hcl hclo ⟨Z50,hZ,hm4,S⟩ 
    refine wd (zi zq rfl ((S.blk 1).all _ (Term.len _)) (Term.len _)) ?_
    exact ze (ob4 trivial rfl ⟨_,hZ,hm4.keep rfl rfl tl0,S⟩)
   ·rintro L g v hL hcl hclo ⟨Z50,hZ,hm4,S⟩ hv3
    replace S:=S.zneed hZ
    replace S:St A N w v [oMS m43 r40,oB b35 zb (Term.C (⟨(at_ PTerm.z a0.sub i23).kind,(at_ PTerm.z a0.sub i23).name,(at_ PTerm.z a0.sub i23).other,(at_ PTerm.z a0.sub i23).form,s32⟩ : Term)),oS zb 5 Term.C SlV.nil ([]:List Term),oB b16 zb (Term.C (⟨x23_0.kind,x23_0.name,x23_0.other,x23_0.form,s28⟩ : Term)),oS zb 5 Term.C s28 m29,oB b6 zb (Term.C (⟨0,ByteArray.empty,ByteArray.empty,0,SlV.nil⟩ : Term)),oB b4 zb (Term.C (⟨a2.kind,a2.name,a2.other,a2.form,s_2⟩ : Term)),oB b2 zb (Term.C (⟨a0.kind,a0.name,a0.other,a0.form,s_0⟩ : Term))] (za s32 ((at_ PTerm.z a0.sub i23).sub) :: bigA zK ([]:List Term) ([]:List PTerm) :: bigA zK m29 x23_0.sub :: za s_0 a0.sub :: za s_2 a2.sub :: oMS m_3 a3 :: oPw :: Z50):=S
    obtain ⟨B54,MB54,SB54,back⟩ := S.sub [0] [] [oMS m43 r40,oB b35 zb (Term.C (⟨(at_ PTerm.z a0.sub i23).kind,(at_ PTerm.z a0.sub i23).name,(at_ PTerm.z a0.sub i23).other,(at_ PTerm.z a0.sub i23).form,s32⟩ : Term)),oS zb 5 Term.C SlV.nil ([]:List Term),oB b16 zb (Term.C (⟨x23_0.kind,x23_0.name,x23_0.other,x23_0.form,s28⟩ : Term)),oS zb 5 Term.C s28 m29,oB b6 zb (Term.C (⟨0,ByteArray.empty,ByteArray.empty,0,SlV.nil⟩ : Term)),oB b4 zb (Term.C (⟨a2.kind,a2.name,a2.other,a2.form,s_2⟩ : Term)),oB b2 zb (Term.C (⟨a0.kind,a0.name,a0.other,a0.form,s_0⟩ : Term))]
    refine zJ (zS ju (zX hv3 rfl)) jJ (term_clone_st (a0:=(at_ PTerm.z a0.sub i23)) SB54 er46) ?_
    rintro _ w53 ⟨s55,rfl,S2⟩
    replace S:St A N w w53 [oMS m43 r40,oB b35 zb (Term.C (⟨(at_ PTerm.z a0.sub i23).kind,(at_ PTerm.z a0.sub i23).name,(at_ PTerm.z a0.sub i23).other,(at_ PTerm.z a0.sub i23).form,s32⟩ : Term)),oS zb 5 Term.C SlV.nil ([]:List Term),oB b16 zb (Term.C (⟨x23_0.kind,x23_0.name,x23_0.other,x23_0.form,s28⟩ : Term)),oS zb 5 Term.C s28 m29,oB b6 zb (Term.C (⟨0,ByteArray.empty,ByteArray.empty,0,SlV.nil⟩ : Term)),oB b4 zb (Term.C (⟨a2.kind,a2.name,a2.other,a2.form,s_2⟩ : Term)),oB b2 zb (Term.C (⟨a0.kind,a0.name,a0.other,a0.form,s_0⟩ : Term))] (za s55 r46.sub :: za s32 ((at_ PTerm.z a0.sub i23).sub) :: bigA zK ([]:List Term) ([]:List PTerm) :: bigA zK m29 x23_0.sub :: za s_0 a0.sub :: za s_2 a2.sub :: oMS m_3 a3 :: oPw :: Z50):=back _ _ _ _ _ S2 rfl rfl
    clear back S2 SB54
    exact ze (ob4 trivial trivial ⟨_,(fun z h=>tl8 z (hZ z h)),Made.one (val:=(fun (c:SlV)=>Value.agg (Term.C (⟨r46.kind,r46.name,r46.other,r46.form,c⟩ : Term)).toArray)) (ps:=(fun (c:SlV)=>[za c r46.sub])) s55 (xP List.mem_cons_self yf),S⟩)
   rintro L g w56 hLm ⟨Z50,hZ,hm4,S⟩ hv57_0 hv57_1 hv57_2 hv57_3 _
   have hLt : ∀ j,j < 5→L j=true:=fun j hj=>by rw [hLm]; exact decide_eq_true hj
   obtain ⟨s49,hv57_4,hp4⟩ := hm4 (hLt 4 jJ)
   replace S:St A N w w56 [oMS m43 r40,oB b35 zb (Term.C (⟨(at_ PTerm.z a0.sub i23).kind,(at_ PTerm.z a0.sub i23).name,(at_ PTerm.z a0.sub i23).other,(at_ PTerm.z a0.sub i23).form,s32⟩ : Term)),oS zb 5 Term.C SlV.nil ([]:List Term),oB b16 zb (Term.C (⟨x23_0.kind,x23_0.name,x23_0.other,x23_0.form,s28⟩ : Term)),oS zb 5 Term.C s28 m29,oB b6 zb (Term.C (⟨0,ByteArray.empty,ByteArray.empty,0,SlV.nil⟩ : Term)),oB b4 zb (Term.C (⟨a2.kind,a2.name,a2.other,a2.form,s_2⟩ : Term)),oB b2 zb (Term.C (⟨a0.kind,a0.name,a0.other,a0.form,s_0⟩ : Term))] [za s49 r46.sub,za s32 ((at_ PTerm.z a0.sub i23).sub),bigA zK ([]:List Term) ([]:List PTerm),bigA zK m29 x23_0.sub,za s_0 a0.sub,za s_2 a2.sub,oMS m_3 a3,oPw]:=S.pickZ (xy (l1:=[za s49 r46.sub]) hp4 hZ)
   clear hp4 hZ hm4
   obtain ⟨hi58,H⟩ := xh H
   refine wd (xt zz hv57_1 hv57_2 (S.rdO 4) (zP hi58).1 (by rw [(S.lenTm 3)]; exact (zP hi58).2)) ?_
   have hlw59:=S.lenO 4
   have hqw59:=(S.lenTm 3)
   refine jc (C:=Term.C) (a:=(⟨r46.kind,r46.name,r46.other,r46.form,s49⟩ : Term)) zq rfl hv57_4 (S.sl 4) ⟨(zP hi58).1,by rw [hqw59]; exact (zP hi58).2⟩ (Term.len _) (Term.one _) fun w59 O hw59=>?_
   replace S:St A N w w59 [oS zb 5 Term.C s28 (m29.set (Int.toNat i23) (⟨r46.kind,r46.name,r46.other,r46.form,s49⟩ : Term)),oMS m43 r40,oB b35 zb (Term.C (⟨(at_ PTerm.z a0.sub i23).kind,(at_ PTerm.z a0.sub i23).name,(at_ PTerm.z a0.sub i23).other,(at_ PTerm.z a0.sub i23).form,s32⟩ : Term)),oS zb 5 Term.C SlV.nil ([]:List Term),oB b16 zb (Term.C (⟨x23_0.kind,x23_0.name,x23_0.other,x23_0.form,s28⟩ : Term)),oB b6 zb (Term.C (⟨0,ByteArray.empty,ByteArray.empty,0,SlV.nil⟩ : Term)),oB b4 zb (Term.C (⟨a2.kind,a2.name,a2.other,a2.form,s_2⟩ : Term)),oB b2 zb (Term.C (⟨a0.kind,a0.name,a0.other,a0.form,s_0⟩ : Term))] [za s49 r46.sub,za s32 ((at_ PTerm.z a0.sub i23).sub),bigA zK ([]:List Term) ([]:List PTerm),bigA zK m29 x23_0.sub,za s_0 a0.sub,za s_2 a2.sub,oMS m_3 a3,oPw]:=S.push 4 O (by rw [List.length_set]; exact hlw59) hw59 (fun i hi => .inl hi)
   clear O hlw59 hqw59
   replace S:St A N w w59 [oS zb 5 Term.C s28 (m29.set (Int.toNat i23) (⟨r46.kind,r46.name,r46.other,r46.form,s49⟩ : Term)),oMS m43 r40,oB b35 zb (Term.C (⟨(at_ PTerm.z a0.sub i23).kind,(at_ PTerm.z a0.sub i23).name,(at_ PTerm.z a0.sub i23).other,(at_ PTerm.z a0.sub i23).form,s32⟩ : Term)),oS zb 5 Term.C SlV.nil ([]:List Term),oB b16 zb (Term.C (⟨x23_0.kind,x23_0.name,x23_0.other,x23_0.form,s28⟩ : Term)),oB b6 zb (Term.C (⟨0,ByteArray.empty,ByteArray.empty,0,SlV.nil⟩ : Term)),oB b4 zb (Term.C (⟨a2.kind,a2.name,a2.other,a2.form,s_2⟩ : Term)),oB b2 zb (Term.C (⟨a0.kind,a0.name,a0.other,a0.form,s_0⟩ : Term))] [bigA zK (m29.set (Int.toNat i23) (⟨r46.kind,r46.name,r46.other,r46.form,s49⟩ : Term)) (x23_0.sub.set (Int.toNat i23) r46),za s49 r46.sub,za s32 ((at_ PTerm.z a0.sub i23).sub),bigA zK ([]:List Term) ([]:List PTerm),bigA zK m29 x23_0.sub,za s_0 a0.sub,za s_2 a2.sub,oMS m_3 a3,oPw]:=S.setTm (x:=r46) 3 0 (Int.toNat i23)
   refine ze ?_
   refine yu ?_
   refine zd ?_
   refine wd (xx q23_i rfl (c:=i23 + 1) rfl jK jK) ?_
   refine wd (zp rfl) ?_
   refine ze ?_
   replace S:St A N w w59 [oS zb 5 Term.C SlV.nil ([]:List Term),oB b16 zb (Term.C (⟨x23_0.kind,x23_0.name,x23_0.other,x23_0.form,s28⟩ : Term)),oS zb 5 Term.C s28 (m29.set (Int.toNat i23) (⟨r46.kind,r46.name,r46.other,r46.form,s49⟩ : Term)),oB b6 zb (Term.C (⟨0,ByteArray.empty,ByteArray.empty,0,SlV.nil⟩ : Term)),oB b4 zb (Term.C (⟨a2.kind,a2.name,a2.other,a2.form,s_2⟩ : Term)),oB b2 zb (Term.C (⟨a0.kind,a0.name,a0.other,a0.form,s_0⟩ : Term))] [bigA zK ([]:List Term) ([]:List PTerm),bigA zK (m29.set (Int.toNat i23) (⟨r46.kind,r46.name,r46.other,r46.form,s49⟩ : Term)) (x23_0.sub.set (Int.toNat i23) r46),za s_0 a0.sub,za s_2 a2.sub,oMS m_3 a3,oPw]:=S.arr [3,4,0,5,6,7] [3,0,5,6,7,8]
   obtain rfl:=jN H
   exact ⟨rfl,(((((((((((((((((((((((((((Dif.self _ _ _).upd rfl _).upd rfl _).upd rfl _).upd rfl _).upd rfl _).upd rfl _).upd rfl _).upd rfl _).upd rfl _).upd rfl _).upd rfl _).upd rfl _).upd rfl _).upd rfl _).upd rfl _).upd rfl _).upd rfl _).upd rfl _).upd rfl _).upd rfl _).upd rfl _).upd rfl _).mask rfl _).upd rfl _).upd rfl _).upd rfl _),(m23,i23 + 1,(⟨x23_0.kind,x23_0.name,x23_0.other,x23_0.form,x23_0.sub.set (Int.toNat i23) r46⟩ : PTerm)),⟨(by dsimp only; omega),(by dsimp only; omega),e23,s28,m29.set (Int.toNat i23) (⟨r46.kind,r46.name,r46.other,r46.form,s49⟩ : Term),rfl,S⟩,by dsimp only; omega⟩
  replace H:=if_f hc44 H
  refine zI ?_
  refine zg (zg (zd ?_))
  refine wd (xm rfl) ?_
  refine wd (uk rfl rfl) ?_
  refine wd (zG rfl) ?_
  refine zu (j:=2) (pol:=true) rfl rfl rfl jJ (fun hg=>x6 rfl) jJ ?_
  refine zu (j:=2) (pol:=true) rfl rfl rfl jJ (fun hg=>xm rfl) jJ ?_
  refine zu (j:=2) (pol:=true) rfl rfl rfl jJ (fun hg=>yU (C:=Value.string) (D:=(Value.int .i64)) (key:=r37) (zv:=0) xD yv zv_int (zw hg) (zw hg) (S.mapZ 5)) jJ ?_
  refine zu (j:=2) (pol:=true) rfl rfl rfl jJ (fun hg=>jo (zw hg) rfl) jJ ?_
  refine wd (xe rfl (fun hp=>(zw (xu hp)))) ?_
  refine ze ?_
  obtain ⟨o60,e60,Ho60⟩ := zB H
  replace H:=e60; clear e60
  refine yi [14,67,68,69,70,71,72,73,74,75,76,77,78,79,80,81,82,83,84] (fun fr W => ∃ s61:SlV,∃ s62:SlV,∃ m63:List Term,St A N w W [oMS m43 r40,oB b35 zb (Term.C (⟨o60.1.kind,o60.1.name,o60.1.other,o60.1.form,s61⟩ : Term)),oS zb 5 Term.C SlV.nil ([]:List Term),oB b16 zb (Term.C (⟨o60.2.kind,o60.2.name,o60.2.other,o60.2.form,s62⟩ : Term)),oS zb 5 Term.C s62 m63,oB b6 zb (Term.C (⟨0,ByteArray.empty,ByteArray.empty,0,SlV.nil⟩ : Term)),oB b4 zb (Term.C (⟨a2.kind,a2.name,a2.other,a2.form,s_2⟩ : Term)),oB b2 zb (Term.C (⟨a0.kind,a0.name,a0.other,a0.form,s_0⟩ : Term))] [za s61 o60.1.sub,bigA zK ([]:List Term) ([]:List PTerm),bigA zK m63 o60.2.sub,za s_0 a0.sub,za s_2 a2.sub,oMS m_3 a3,oPw]) ?_ ?_
  ·refine zU rfl (fun hc64=>?_) (fun hc64=>?_)
   ·replace H:=if_t hc64 H
    refine zg (zd ?_)
    refine wd (x6 rfl) ?_
    refine wd (x6 rfl) ?_
    refine wd (xm rfl) ?_
    obtain ⟨r65,er65,H⟩ := zB H
    obtain ⟨B67,MB67,SB67,back⟩ := S.calln 0 ((.o 0 rfl (.z 5 rfl (.z 6 rfl .nil))))
    refine zJ (zH ca_term_fresh) jJ (term_fresh_st SB67 er65) ?_
    rintro _ w66 ⟨rfl,S2⟩
    replace S:St A N w w66 [oMS m43 r40,oB b35 zb (Term.C (⟨(at_ PTerm.z a0.sub i23).kind,(at_ PTerm.z a0.sub i23).name,(at_ PTerm.z a0.sub i23).other,(at_ PTerm.z a0.sub i23).form,s32⟩ : Term)),oS zb 5 Term.C SlV.nil ([]:List Term),oB b16 zb (Term.C (⟨x23_0.kind,x23_0.name,x23_0.other,x23_0.form,s28⟩ : Term)),oS zb 5 Term.C s28 m29,oB b6 zb (Term.C (⟨0,ByteArray.empty,ByteArray.empty,0,SlV.nil⟩ : Term)),oB b4 zb (Term.C (⟨a2.kind,a2.name,a2.other,a2.form,s_2⟩ : Term)),oB b2 zb (Term.C (⟨a0.kind,a0.name,a0.other,a0.form,s_0⟩ : Term))] [za s32 ((at_ PTerm.z a0.sub i23).sub),bigA zK ([]:List Term) ([]:List PTerm),bigA zK m29 x23_0.sub,za s_0 a0.sub,za s_2 a2.sub,oMS m_3 a3,oPw]:=back _ _ _ _ S2 rfl
    clear back S2 SB67
    refine wd (vi rfl) ?_
    refine ze ?_
    refine zg (zd ?_)
    refine wd (zi zq rfl ((S.blk 1).all _ (Term.len _)) (Term.len _)) ?_
    refine wd (xm rfl) ?_
    refine wd (xm rfl) ?_
    refine wd (Does.to (v' := .agg (Term.C (⟨1,r65,ByteArray.empty,0,SlV.nil⟩ : Term)).toArray) (xg (vs:=[(0,.int .i64 1),(1,.string r65)]) xW (xE rfl (xE rfl rfl)) (Bld.one rfl rfl (by rw [Term.len]; decide) (Term.set_kind _ _) (Bld.one rfl rfl (by rw [Term.len]; decide) (Term.set_name _ _) Bld.nil))) rfl) ?_
    refine wl_makeMap (C:=Value.string) (D:=(Value.int .i64)) jJ fun m68 w69 hmw69 hxw69 hlw69=>?_
    replace S:St A N w w69 [oMS m68 ([]:List (ByteArray × Int)),oMS m43 r40,oB b35 zb (Term.C (⟨(at_ PTerm.z a0.sub i23).kind,(at_ PTerm.z a0.sub i23).name,(at_ PTerm.z a0.sub i23).other,(at_ PTerm.z a0.sub i23).form,s32⟩ : Term)),oS zb 5 Term.C SlV.nil ([]:List Term),oB b16 zb (Term.C (⟨x23_0.kind,x23_0.name,x23_0.other,x23_0.form,s28⟩ : Term)),oS zb 5 Term.C s28 m29,oB b6 zb (Term.C (⟨0,ByteArray.empty,ByteArray.empty,0,SlV.nil⟩ : Term)),oB b4 zb (Term.C (⟨a2.kind,a2.name,a2.other,a2.form,s_2⟩ : Term)),oB b2 zb (Term.C (⟨a0.kind,a0.name,a0.other,a0.form,s_0⟩ : Term))] [za s32 ((at_ PTerm.z a0.sub i23).sub),bigA zK ([]:List Term) ([]:List PTerm),bigA zK m29 x23_0.sub,za s_0 a0.sub,za s_2 a2.sub,oMS m_3 a3,oPw]:=S.newM hmw69 hxw69 hlw69
    refine wd (xm rfl) ?_
    refine wl_mapInsert (C:=Value.string) (D:=(Value.int .i64)) (key:=r65) (v:=1) xD yv rfl rfl rfl (S.map 0) fun w70 hmw70 hcw70 hsw70=>?_
    replace S:St A N w w70 [oMS m68 (Gw.ins r65 1 ([]:List (ByteArray × Int))),oMS m43 r40,oB b35 zb (Term.C (⟨(at_ PTerm.z a0.sub i23).kind,(at_ PTerm.z a0.sub i23).name,(at_ PTerm.z a0.sub i23).other,(at_ PTerm.z a0.sub i23).form,s32⟩ : Term)),oS zb 5 Term.C SlV.nil ([]:List Term),oB b16 zb (Term.C (⟨x23_0.kind,x23_0.name,x23_0.other,x23_0.form,s28⟩ : Term)),oS zb 5 Term.C s28 m29,oB b6 zb (Term.C (⟨0,ByteArray.empty,ByteArray.empty,0,SlV.nil⟩ : Term)),oB b4 zb (Term.C (⟨a2.kind,a2.name,a2.other,a2.form,s_2⟩ : Term)),oB b2 zb (Term.C (⟨a0.kind,a0.name,a0.other,a0.form,s_0⟩ : Term))] [za s32 ((at_ PTerm.z a0.sub i23).sub),bigA zK ([]:List Term) ([]:List PTerm),bigA zK m29 x23_0.sub,za s_0 a0.sub,za s_2 a2.sub,oMS m_3 a3,oPw]:=S.mapSet 0 ⟨hmw70,hcw70,hsw70⟩
    refine wd (x6 rfl) ?_
    replace S:St A N w w70 [oMS m68 (Gw.ins r65 1 ([]:List (ByteArray × Int))),oMS m43 r40,oB b35 zb (Term.C (⟨(at_ PTerm.z a0.sub i23).kind,(at_ PTerm.z a0.sub i23).name,(at_ PTerm.z a0.sub i23).other,(at_ PTerm.z a0.sub i23).form,s32⟩ : Term)),oS zb 5 Term.C SlV.nil ([]:List Term),oB b16 zb (Term.C (⟨x23_0.kind,x23_0.name,x23_0.other,x23_0.form,s28⟩ : Term)),oS zb 5 Term.C s28 m29,oB b6 zb (Term.C (⟨0,ByteArray.empty,ByteArray.empty,0,SlV.nil⟩ : Term)),oB b4 zb (Term.C (⟨a2.kind,a2.name,a2.other,a2.form,s_2⟩ : Term)),oB b2 zb (Term.C (⟨a0.kind,a0.name,a0.other,a0.form,s_0⟩ : Term))] [za SlV.nil ([]),za s32 ((at_ PTerm.z a0.sub i23).sub),bigA zK ([]:List Term) ([]:List PTerm),bigA zK m29 x23_0.sub,za s_0 a0.sub,za s_2 a2.sub,oMS m_3 a3,oPw]:=S.nilTm
    obtain ⟨r71,er71,H⟩ := zB H
    replace S:St A N w w70 [oMS m43 r40,oB b35 zb (Term.C (⟨(at_ PTerm.z a0.sub i23).kind,(at_ PTerm.z a0.sub i23).name,(at_ PTerm.z a0.sub i23).other,(at_ PTerm.z a0.sub i23).form,s32⟩ : Term)),oS zb 5 Term.C SlV.nil ([]:List Term),oB b16 zb (Term.C (⟨x23_0.kind,x23_0.name,x23_0.other,x23_0.form,s28⟩ : Term)),oS zb 5 Term.C s28 m29,oB b6 zb (Term.C (⟨0,ByteArray.empty,ByteArray.empty,0,SlV.nil⟩ : Term)),oB b4 zb (Term.C (⟨a2.kind,a2.name,a2.other,a2.form,s_2⟩ : Term)),oB b2 zb (Term.C (⟨a0.kind,a0.name,a0.other,a0.form,s_0⟩ : Term))] [oMS m68 (Gw.ins r65 1 ([]:List (ByteArray × Int))),za SlV.nil ([]),za s32 ((at_ PTerm.z a0.sub i23).sub),bigA zK ([]:List Term) ([]:List PTerm),bigA zK m29 x23_0.sub,za s_0 a0.sub,za s_2 a2.sub,oMS m_3 a3,oPw]:=S.frzO 0
    obtain ⟨B73,MB73,SB73,back⟩ := S.sub [2,1,0,8] [] [oMS m43 r40,oB b35 zb (Term.C (⟨(at_ PTerm.z a0.sub i23).kind,(at_ PTerm.z a0.sub i23).name,(at_ PTerm.z a0.sub i23).other,(at_ PTerm.z a0.sub i23).form,s32⟩ : Term)),oS zb 5 Term.C SlV.nil ([]:List Term),oB b16 zb (Term.C (⟨x23_0.kind,x23_0.name,x23_0.other,x23_0.form,s28⟩ : Term)),oS zb 5 Term.C s28 m29,oB b6 zb (Term.C (⟨0,ByteArray.empty,ByteArray.empty,0,SlV.nil⟩ : Term)),oB b4 zb (Term.C (⟨a2.kind,a2.name,a2.other,a2.form,s_2⟩ : Term)),oB b2 zb (Term.C (⟨a0.kind,a0.name,a0.other,a0.form,s_0⟩ : Term))]
    refine zJ (zH ca_term_put) jJ (zaq (a0:=(at_ PTerm.z a0.sub i23)) (a2:=(⟨1,r65,ByteArray.empty,0,[]⟩ : PTerm)) SB73 er71) ?_
    rintro _ w72 ⟨s74,rfl,S2⟩
    replace S:St A N w w72 [oMS m43 r40,oB b35 zb (Term.C (⟨(at_ PTerm.z a0.sub i23).kind,(at_ PTerm.z a0.sub i23).name,(at_ PTerm.z a0.sub i23).other,(at_ PTerm.z a0.sub i23).form,s32⟩ : Term)),oS zb 5 Term.C SlV.nil ([]:List Term),oB b16 zb (Term.C (⟨x23_0.kind,x23_0.name,x23_0.other,x23_0.form,s28⟩ : Term)),oS zb 5 Term.C s28 m29,oB b6 zb (Term.C (⟨0,ByteArray.empty,ByteArray.empty,0,SlV.nil⟩ : Term)),oB b4 zb (Term.C (⟨a2.kind,a2.name,a2.other,a2.form,s_2⟩ : Term)),oB b2 zb (Term.C (⟨a0.kind,a0.name,a0.other,a0.form,s_0⟩ : Term))] [za s74 r71.sub,oMS m68 (Gw.ins r65 1 ([]:List (ByteArray × Int))),za SlV.nil ([]),za s32 ((at_ PTerm.z a0.sub i23).sub),bigA zK ([]:List Term) ([]:List PTerm),bigA zK m29 x23_0.sub,za s_0 a0.sub,za s_2 a2.sub,oMS m_3 a3,oPw]:=back _ _ _ _ _ S2 rfl rfl
    clear back S2 SB73
    refine zy zq rfl rfl (S.blk 1) (Term.len _) (by rw [Term.len]; decide) (Term.one _) (zM (Term.len _)) fun w75 B hw75 zw75=>?_
    replace S:St A N w w75 [oB b35 zb (Term.C (⟨r71.kind,r71.name,r71.other,r71.form,s74⟩ : Term)),oMS m43 r40,oS zb 5 Term.C SlV.nil ([]:List Term),oB b16 zb (Term.C (⟨x23_0.kind,x23_0.name,x23_0.other,x23_0.form,s28⟩ : Term)),oS zb 5 Term.C s28 m29,oB b6 zb (Term.C (⟨0,ByteArray.empty,ByteArray.empty,0,SlV.nil⟩ : Term)),oB b4 zb (Term.C (⟨a2.kind,a2.name,a2.other,a2.form,s_2⟩ : Term)),oB b2 zb (Term.C (⟨a0.kind,a0.name,a0.other,a0.form,s_0⟩ : Term))] [za s74 r71.sub,oMS m68 (Gw.ins r65 1 ([]:List (ByteArray × Int))),za SlV.nil ([]),za s32 ((at_ PTerm.z a0.sub i23).sub),bigA zK ([]:List Term) ([]:List PTerm),bigA zK m29 x23_0.sub,za s_0 a0.sub,za s_2 a2.sub,oMS m_3 a3,oPw]:=S.store 1 B hw75
    clear B
    refine ze ?_
    refine zg (zd ?_)
    refine wd (zp rfl) ?_
    refine wd (xb rfl rfl) ?_
    refine ze ?_
    refine zU rfl (fun hc76=>?_) (fun hc76=>?_)
    ·replace H:=if_t hc76 H
     refine zd ?_
     refine wd (xm rfl) ?_
     refine wd (zh vj rfl (o':=2) rfl) ?_
     refine y0 xz rfl rfl (S.blk 3) (by rw [Term.len]; decide) rfl (Term.set_other _ _) fun w77 B hw77 zw77=>?_
     replace S:St A N w w77 [oB b16 zb (Term.C (⟨x23_0.kind,x23_0.name,r65,x23_0.form,s28⟩ : Term)),oB b35 zb (Term.C (⟨r71.kind,r71.name,r71.other,r71.form,s74⟩ : Term)),oMS m43 r40,oS zb 5 Term.C SlV.nil ([]:List Term),oS zb 5 Term.C s28 m29,oB b6 zb (Term.C (⟨0,ByteArray.empty,ByteArray.empty,0,SlV.nil⟩ : Term)),oB b4 zb (Term.C (⟨a2.kind,a2.name,a2.other,a2.form,s_2⟩ : Term)),oB b2 zb (Term.C (⟨a0.kind,a0.name,a0.other,a0.form,s_0⟩ : Term))] [za s74 r71.sub,oMS m68 (Gw.ins r65 1 ([]:List (ByteArray × Int))),za SlV.nil ([]),za s32 ((at_ PTerm.z a0.sub i23).sub),bigA zK ([]:List Term) ([]:List PTerm),bigA zK m29 x23_0.sub,za s_0 a0.sub,za s_2 a2.sub,oMS m_3 a3,oPw]:=S.store 3 B hw77
     clear B
     refine ze ?_
     replace S:St A N w w77 [oMS m43 r40,oB b35 zb (Term.C (⟨r71.kind,r71.name,r71.other,r71.form,s74⟩ : Term)),oS zb 5 Term.C SlV.nil ([]:List Term),oB b16 zb (Term.C (⟨x23_0.kind,x23_0.name,r65,x23_0.form,s28⟩ : Term)),oS zb 5 Term.C s28 m29,oB b6 zb (Term.C (⟨0,ByteArray.empty,ByteArray.empty,0,SlV.nil⟩ : Term)),oB b4 zb (Term.C (⟨a2.kind,a2.name,a2.other,a2.form,s_2⟩ : Term)),oB b2 zb (Term.C (⟨a0.kind,a0.name,a0.other,a0.form,s_0⟩ : Term))] [za s74 r71.sub,bigA zK ([]:List Term) ([]:List PTerm),bigA zK m29 x23_0.sub,za s_0 a0.sub,za s_2 a2.sub,oMS m_3 a3,oPw]:=S.arr [2,1,3,0,4,5,6,7] [0,4,5,6,7,8,9]
     obtain rfl:=jN H
     exact ⟨rfl,((((((((((((((((((Dif.refl _ _).upd rfl _).upd rfl _).upd rfl _).upd rfl _).upd rfl _).upd rfl _).upd rfl _).upd rfl _).upd rfl _).upd rfl _).upd rfl _).upd rfl _).upd rfl _).upd rfl _).upd rfl _).upd rfl _).upd rfl _),s74,s28,m29,S⟩
    ·replace H:=if_f hc76 H
     refine zd ?_
     refine wd (xm rfl) ?_
     refine wd (zh xO rfl (o':=1) rfl) ?_
     refine y0 xz rfl rfl (S.blk 3) (by rw [Term.len]; decide) rfl (Term.set_name _ _) fun w78 B hw78 zw78=>?_
     replace S:St A N w w78 [oB b16 zb (Term.C (⟨x23_0.kind,r65,x23_0.other,x23_0.form,s28⟩ : Term)),oB b35 zb (Term.C (⟨r71.kind,r71.name,r71.other,r71.form,s74⟩ : Term)),oMS m43 r40,oS zb 5 Term.C SlV.nil ([]:List Term),oS zb 5 Term.C s28 m29,oB b6 zb (Term.C (⟨0,ByteArray.empty,ByteArray.empty,0,SlV.nil⟩ : Term)),oB b4 zb (Term.C (⟨a2.kind,a2.name,a2.other,a2.form,s_2⟩ : Term)),oB b2 zb (Term.C (⟨a0.kind,a0.name,a0.other,a0.form,s_0⟩ : Term))] [za s74 r71.sub,oMS m68 (Gw.ins r65 1 ([]:List (ByteArray × Int))),za SlV.nil ([]),za s32 ((at_ PTerm.z a0.sub i23).sub),bigA zK ([]:List Term) ([]:List PTerm),bigA zK m29 x23_0.sub,za s_0 a0.sub,za s_2 a2.sub,oMS m_3 a3,oPw]:=S.store 3 B hw78
     clear B
     refine ze ?_
     replace S:St A N w w78 [oMS m43 r40,oB b35 zb (Term.C (⟨r71.kind,r71.name,r71.other,r71.form,s74⟩ : Term)),oS zb 5 Term.C SlV.nil ([]:List Term),oB b16 zb (Term.C (⟨x23_0.kind,r65,x23_0.other,x23_0.form,s28⟩ : Term)),oS zb 5 Term.C s28 m29,oB b6 zb (Term.C (⟨0,ByteArray.empty,ByteArray.empty,0,SlV.nil⟩ : Term)),oB b4 zb (Term.C (⟨a2.kind,a2.name,a2.other,a2.form,s_2⟩ : Term)),oB b2 zb (Term.C (⟨a0.kind,a0.name,a0.other,a0.form,s_0⟩ : Term))] [za s74 r71.sub,bigA zK ([]:List Term) ([]:List PTerm),bigA zK m29 x23_0.sub,za s_0 a0.sub,za s_2 a2.sub,oMS m_3 a3,oPw]:=S.arr [2,1,3,0,4,5,6,7] [0,4,5,6,7,8,9]
     obtain rfl:=jN H
     exact ⟨rfl,((((((((((((((((((Dif.refl _ _).upd rfl _).upd rfl _).upd rfl _).upd rfl _).upd rfl _).upd rfl _).upd rfl _).upd rfl _).upd rfl _).upd rfl _).upd rfl _).upd rfl _).upd rfl _).upd rfl _).upd rfl _).upd rfl _).upd rfl _),s74,s28,m29,S⟩
   ·replace H:=if_f hc64 H
    refine zI ?_
    obtain rfl:=jN H
    exact ⟨rfl,(Dif.refl _ _),s32,s28,m29,S⟩
  rintro g79 u80 ⟨s61,s62,m63,S⟩
  have H:=Ho60
  obtain ⟨r82,er82,H⟩ := zB H
  refine yM 8 ⟨fun _ _=>True,fun _ _ _=>True,fun i v _=>match i with
   | 0=>v=Value.pointer (some ⟨b16,4,none⟩)
   | 1=>v=s62.v
   | 2=>v=Value.int .i64 i23
   | 3=>v=Value.agg (Term.C (⟨o60.1.kind,o60.1.name,o60.1.other,o60.1.form,s61⟩ : Term)).toArray
   | 4=>v=Value.string a1
   | 5=>v=Value.agg (Term.C (⟨a2.kind,a2.name,a2.other,a2.form,s_2⟩ : Term)).toArray
   | 6=>v=Value.map (some m_3)
   | _=>True⟩ (fun L g v => ∃ Z86:List OA,(∀ z ∈ [za s61 o60.1.sub,bigA zK ([]:List Term) ([]:List PTerm),bigA zK m63 o60.2.sub,za s_0 a0.sub,za s_2 a2.sub,oMS m_3 a3,oPw],z ∈ Z86)∧Made L g Z86 7 92 (fun (c:SlV)=>Value.agg (Term.C (⟨r82.kind,r82.name,r82.other,r82.form,c⟩ : Term)).toArray) (fun (c:SlV)=>[za c r82.sub])∧St A N w v [oMS m43 r40,oB b35 zb (Term.C (⟨o60.1.kind,o60.1.name,o60.1.other,o60.1.form,s61⟩ : Term)),oS zb 5 Term.C SlV.nil ([]:List Term),oB b16 zb (Term.C (⟨o60.2.kind,o60.2.name,o60.2.other,o60.2.form,s62⟩ : Term)),oS zb 5 Term.C s62 m63,oB b6 zb (Term.C (⟨0,ByteArray.empty,ByteArray.empty,0,SlV.nil⟩ : Term)),oB b4 zb (Term.C (⟨a2.kind,a2.name,a2.other,a2.form,s_2⟩ : Term)),oB b2 zb (Term.C (⟨a0.kind,a0.name,a0.other,a0.form,s_0⟩ : Term))] Z86) hmix jM (fun _ _ _ _ _ _ _ hv=>hv) (fun g=>⟨_,fun _ h=>h,Made.no,S.ext (Ext.drawn _)⟩) ⟨?_,?_,?_,?_,?_,?_,?_,?_,trivial⟩ ?_
  ·rintro L g v hL hcl hclo ⟨Z86,hZ,hm7,S⟩ 
   refine wd (zh zO rfl (o':=4) rfl) ?_
   exact ze (ob4 trivial rfl ⟨_,hZ,hm7.keep rfl rfl tl0,S⟩)
  ·rintro L g v hL hcl hclo ⟨Z86,hZ,hm7,S⟩ hv0
   refine wd (zt zF hv0 ((S.blk 3).cell (Term.get_sub _))) ?_
   exact ze (ob4 trivial rfl ⟨_,hZ,hm7.keep rfl rfl tl0,S⟩)
  ·rintro L g v hL hcl hclo ⟨Z86,hZ,hm7,S⟩ 
   refine wd (zp rfl) ?_
   exact ze (ob4 trivial rfl ⟨_,hZ,hm7.keep rfl rfl tl0,S⟩)
  ·rintro L g v hL hcl hclo ⟨Z86,hZ,hm7,S⟩ 
   refine wd (zi zq rfl ((S.blk 1).all _ (Term.len _)) (Term.len _)) ?_
   exact ze (ob4 trivial rfl ⟨_,hZ,hm7.keep rfl rfl tl0,S⟩)
  ·rintro L g v hL hcl hclo ⟨Z86,hZ,hm7,S⟩ 
   refine wd (xm rfl) ?_
   exact ze (ob4 trivial rfl ⟨_,hZ,hm7.keep rfl rfl tl0,S⟩)
  ·rintro L g v hL hcl hclo ⟨Z86,hZ,hm7,S⟩ 
   refine wd (zi zq rfl ((S.blk 6).all _ (Term.len _)) (Term.len _)) ?_
   exact ze (ob4 trivial rfl ⟨_,hZ,hm7.keep rfl rfl tl0,S⟩)
  ·rintro L g v hL hcl hclo ⟨Z86,hZ,hm7,S⟩ 
   refine wd (x6 rfl) ?_
   exact ze (ob4 trivial rfl ⟨_,hZ,hm7.keep rfl rfl tl0,S⟩)
  ·rintro L g v hL hcl hclo ⟨Z86,hZ,hm7,S⟩ hv3 hv4 hv5 hv6
   replace S:=S.zneed hZ
   replace S:St A N w v [oMS m43 r40,oB b35 zb (Term.C (⟨o60.1.kind,o60.1.name,o60.1.other,o60.1.form,s61⟩ : Term)),oS zb 5 Term.C SlV.nil ([]:List Term),oB b16 zb (Term.C (⟨o60.2.kind,o60.2.name,o60.2.other,o60.2.form,s62⟩ : Term)),oS zb 5 Term.C s62 m63,oB b6 zb (Term.C (⟨0,ByteArray.empty,ByteArray.empty,0,SlV.nil⟩ : Term)),oB b4 zb (Term.C (⟨a2.kind,a2.name,a2.other,a2.form,s_2⟩ : Term)),oB b2 zb (Term.C (⟨a0.kind,a0.name,a0.other,a0.form,s_0⟩ : Term))] (za s61 o60.1.sub :: bigA zK ([]:List Term) ([]:List PTerm) :: bigA zK m63 o60.2.sub :: za s_0 a0.sub :: za s_2 a2.sub :: oMS m_3 a3 :: oPw :: Z86):=S
   obtain ⟨B90,MB90,SB90,back⟩ := S.sub [0,4,5,6] [] [oMS m43 r40,oB b35 zb (Term.C (⟨o60.1.kind,o60.1.name,o60.1.other,o60.1.form,s61⟩ : Term)),oS zb 5 Term.C SlV.nil ([]:List Term),oB b16 zb (Term.C (⟨o60.2.kind,o60.2.name,o60.2.other,o60.2.form,s62⟩ : Term)),oS zb 5 Term.C s62 m63,oB b6 zb (Term.C (⟨0,ByteArray.empty,ByteArray.empty,0,SlV.nil⟩ : Term)),oB b4 zb (Term.C (⟨a2.kind,a2.name,a2.other,a2.form,s_2⟩ : Term)),oB b2 zb (Term.C (⟨a0.kind,a0.name,a0.other,a0.form,s_0⟩ : Term))]
   refine zJ (zS ca_term_put (zX hv3 (zX hv4 (zX hv5 (zX hv6 rfl))))) jJ (zaq (a0:=o60.1) (a2:=a2) SB90 er82) ?_
   rintro _ w89 ⟨s91,rfl,S2⟩
   replace S:St A N w w89 [oMS m43 r40,oB b35 zb (Term.C (⟨o60.1.kind,o60.1.name,o60.1.other,o60.1.form,s61⟩ : Term)),oS zb 5 Term.C SlV.nil ([]:List Term),oB b16 zb (Term.C (⟨o60.2.kind,o60.2.name,o60.2.other,o60.2.form,s62⟩ : Term)),oS zb 5 Term.C s62 m63,oB b6 zb (Term.C (⟨0,ByteArray.empty,ByteArray.empty,0,SlV.nil⟩ : Term)),oB b4 zb (Term.C (⟨a2.kind,a2.name,a2.other,a2.form,s_2⟩ : Term)),oB b2 zb (Term.C (⟨a0.kind,a0.name,a0.other,a0.form,s_0⟩ : Term))] (za s91 r82.sub :: za s61 o60.1.sub :: bigA zK ([]:List Term) ([]:List PTerm) :: bigA zK m63 o60.2.sub :: za s_0 a0.sub :: za s_2 a2.sub :: oMS m_3 a3 :: oPw :: Z86):=back _ _ _ _ _ S2 rfl rfl
   clear back S2 SB90
   exact ze (ob4 trivial trivial ⟨_,(fun z h=>tl8 z (hZ z h)),Made.one (val:=(fun (c:SlV)=>Value.agg (Term.C (⟨r82.kind,r82.name,r82.other,r82.form,c⟩ : Term)).toArray)) (ps:=(fun (c:SlV)=>[za c r82.sub])) s91 (xP List.mem_cons_self yf),S⟩)
  rintro L g w92 hLm ⟨Z86,hZ,hm7,S⟩ hv93_0 hv93_1 hv93_2 hv93_3 hv93_4 hv93_5 hv93_6 _
  have hLt : ∀ j,j < 8→L j=true:=fun j hj=>by rw [hLm]; exact decide_eq_true hj
  obtain ⟨s85,hv93_7,hp7⟩ := hm7 (hLt 7 jJ)
  replace S:St A N w w92 [oMS m43 r40,oB b35 zb (Term.C (⟨o60.1.kind,o60.1.name,o60.1.other,o60.1.form,s61⟩ : Term)),oS zb 5 Term.C SlV.nil ([]:List Term),oB b16 zb (Term.C (⟨o60.2.kind,o60.2.name,o60.2.other,o60.2.form,s62⟩ : Term)),oS zb 5 Term.C s62 m63,oB b6 zb (Term.C (⟨0,ByteArray.empty,ByteArray.empty,0,SlV.nil⟩ : Term)),oB b4 zb (Term.C (⟨a2.kind,a2.name,a2.other,a2.form,s_2⟩ : Term)),oB b2 zb (Term.C (⟨a0.kind,a0.name,a0.other,a0.form,s_0⟩ : Term))] [za s85 r82.sub,za s61 o60.1.sub,bigA zK ([]:List Term) ([]:List PTerm),bigA zK m63 o60.2.sub,za s_0 a0.sub,za s_2 a2.sub,oMS m_3 a3,oPw]:=S.pickZ (xy (l1:=[za s85 r82.sub]) hp7 hZ)
  clear hp7 hZ hm7
  obtain ⟨hi94,H⟩ := xh H
  refine wd (xt zz hv93_1 hv93_2 (S.rdO 4) (zP hi94).1 (by rw [(S.lenTm 3)]; exact (zP hi94).2)) ?_
  have hlw95:=S.lenO 4
  have hqw95:=(S.lenTm 3)
  refine jc (C:=Term.C) (a:=(⟨r82.kind,r82.name,r82.other,r82.form,s85⟩ : Term)) zq rfl hv93_7 (S.sl 4) ⟨(zP hi94).1,by rw [hqw95]; exact (zP hi94).2⟩ (Term.len _) (Term.one _) fun w95 O hw95=>?_
  replace S:St A N w w95 [oS zb 5 Term.C s62 (m63.set (Int.toNat i23) (⟨r82.kind,r82.name,r82.other,r82.form,s85⟩ : Term)),oMS m43 r40,oB b35 zb (Term.C (⟨o60.1.kind,o60.1.name,o60.1.other,o60.1.form,s61⟩ : Term)),oS zb 5 Term.C SlV.nil ([]:List Term),oB b16 zb (Term.C (⟨o60.2.kind,o60.2.name,o60.2.other,o60.2.form,s62⟩ : Term)),oB b6 zb (Term.C (⟨0,ByteArray.empty,ByteArray.empty,0,SlV.nil⟩ : Term)),oB b4 zb (Term.C (⟨a2.kind,a2.name,a2.other,a2.form,s_2⟩ : Term)),oB b2 zb (Term.C (⟨a0.kind,a0.name,a0.other,a0.form,s_0⟩ : Term))] [za s85 r82.sub,za s61 o60.1.sub,bigA zK ([]:List Term) ([]:List PTerm),bigA zK m63 o60.2.sub,za s_0 a0.sub,za s_2 a2.sub,oMS m_3 a3,oPw]:=S.push 4 O (by rw [List.length_set]; exact hlw95) hw95 (fun i hi => .inl hi)
  clear O hlw95 hqw95
  replace S:St A N w w95 [oS zb 5 Term.C s62 (m63.set (Int.toNat i23) (⟨r82.kind,r82.name,r82.other,r82.form,s85⟩ : Term)),oMS m43 r40,oB b35 zb (Term.C (⟨o60.1.kind,o60.1.name,o60.1.other,o60.1.form,s61⟩ : Term)),oS zb 5 Term.C SlV.nil ([]:List Term),oB b16 zb (Term.C (⟨o60.2.kind,o60.2.name,o60.2.other,o60.2.form,s62⟩ : Term)),oB b6 zb (Term.C (⟨0,ByteArray.empty,ByteArray.empty,0,SlV.nil⟩ : Term)),oB b4 zb (Term.C (⟨a2.kind,a2.name,a2.other,a2.form,s_2⟩ : Term)),oB b2 zb (Term.C (⟨a0.kind,a0.name,a0.other,a0.form,s_0⟩ : Term))] [bigA zK (m63.set (Int.toNat i23) (⟨r82.kind,r82.name,r82.other,r82.form,s85⟩ : Term)) (o60.2.sub.set (Int.toNat i23) r82),za s85 r82.sub,za s61 o60.1.sub,bigA zK ([]:List Term) ([]:List PTerm),bigA zK m63 o60.2.sub,za s_0 a0.sub,za s_2 a2.sub,oMS m_3 a3,oPw]:=S.setTm (x:=r82) 3 0 (Int.toNat i23)
  refine ze ?_
  refine zd ?_
  refine wd (xx q23_i rfl (c:=i23 + 1) rfl jK jK) ?_
  refine wd (zp rfl) ?_
  refine ze ?_
  replace S:St A N w w95 [oS zb 5 Term.C SlV.nil ([]:List Term),oB b16 zb (Term.C (⟨o60.2.kind,o60.2.name,o60.2.other,o60.2.form,s62⟩ : Term)),oS zb 5 Term.C s62 (m63.set (Int.toNat i23) (⟨r82.kind,r82.name,r82.other,r82.form,s85⟩ : Term)),oB b6 zb (Term.C (⟨0,ByteArray.empty,ByteArray.empty,0,SlV.nil⟩ : Term)),oB b4 zb (Term.C (⟨a2.kind,a2.name,a2.other,a2.form,s_2⟩ : Term)),oB b2 zb (Term.C (⟨a0.kind,a0.name,a0.other,a0.form,s_0⟩ : Term))] [bigA zK ([]:List Term) ([]:List PTerm),bigA zK (m63.set (Int.toNat i23) (⟨r82.kind,r82.name,r82.other,r82.form,s85⟩ : Term)) (o60.2.sub.set (Int.toNat i23) r82),za s_0 a0.sub,za s_2 a2.sub,oMS m_3 a3,oPw]:=S.arr [3,4,0,5,6,7] [3,0,5,6,7,8]
  obtain rfl:=jN H
  exact ⟨rfl,((((((((((((((((((((((((((((((((((((Dif.self _ _ _).upd rfl _).upd rfl _).upd rfl _).upd rfl _).upd rfl _).upd rfl _).upd rfl _).upd rfl _).upd rfl _).upd rfl _).upd rfl _).upd rfl _).upd rfl _).upd rfl _).upd rfl _).upd rfl _).upd rfl _).upd rfl _).upd rfl _).upd rfl _).upd rfl _).upd rfl _).upd rfl _).upd rfl _).upd rfl _).upd rfl _).upd rfl _).upd rfl _).upd rfl _).upd rfl _).mask rfl _).mask rfl _).upd rfl _).upd rfl _).upd rfl _),(m23,i23 + 1,(⟨o60.2.kind,o60.2.name,o60.2.other,o60.2.form,o60.2.sub.set (Int.toNat i23) r82⟩ : PTerm)),⟨(by dsimp only; omega),(by dsimp only; omega),e23,s62,m63.set (Int.toNat i23) (⟨r82.kind,r82.name,r82.other,r82.form,s85⟩ : Term),rfl,S⟩,by dsimp only; omega⟩
 rintro g96 u97 ⟨s24,m25,S⟩
 have H:=Ho23
 refine zg (zd ?_)
 replace S:St A N w u97 [oS zb 5 Term.C SlV.nil ([]:List Term),oB b16 zb (Term.C (⟨o23.kind,o23.name,o23.other,o23.form,s24⟩ : Term)),oB b6 zb (Term.C (⟨0,ByteArray.empty,ByteArray.empty,0,SlV.nil⟩ : Term)),oB b4 zb (Term.C (⟨a2.kind,a2.name,a2.other,a2.form,s_2⟩ : Term)),oB b2 zb (Term.C (⟨a0.kind,a0.name,a0.other,a0.form,s_0⟩ : Term))] [za s24 o23.sub,bigA zK ([]:List Term) ([]:List PTerm),bigA zK m25 o23.sub,za s_0 a0.sub,za s_2 a2.sub,oMS m_3 a3,oPw]:=S.frzTm 2 1
 refine wd (zi zq rfl ((S.blk 1).all _ (Term.len _)) (Term.len _)) ?_
 refine zy zq rfl rfl (S.blk 2) (Term.len _) (by rw [Term.len]; decide) (Term.one _) (zM (Term.len _)) fun w98 B hw98 zw98=>?_
 replace S:St A N w w98 [oB b6 zb (Term.C (⟨o23.kind,o23.name,o23.other,o23.form,s24⟩ : Term)),oS zb 5 Term.C SlV.nil ([]:List Term),oB b16 zb (Term.C (⟨o23.kind,o23.name,o23.other,o23.form,s24⟩ : Term)),oB b4 zb (Term.C (⟨a2.kind,a2.name,a2.other,a2.form,s_2⟩ : Term)),oB b2 zb (Term.C (⟨a0.kind,a0.name,a0.other,a0.form,s_0⟩ : Term))] [za s24 o23.sub,bigA zK ([]:List Term) ([]:List PTerm),bigA zK m25 o23.sub,za s_0 a0.sub,za s_2 a2.sub,oMS m_3 a3,oPw]:=S.store 2 B hw98
 clear B
 refine ze ?_
 refine zC ?_
 refine ⟨_,(z1 (zV zq rfl ((S.blk 0).all _ (Term.len _)) (Term.len _))),?_⟩
 replace S:St A N w w98 [] [za s24 o23.sub]:=S.arr [] [0]
 obtain rfl:=jN H
 exact ⟨s24,rfl,S⟩
theorem term_put_st {a0:PTerm} {s_0:SlV} {a1:ByteArray} {a2:PTerm} {s_2:SlV} {a3:List (ByteArray × Int)} {m_3:Nat} (S:St A N w w [] [za s_0 a0.sub,za s_2 a2.sub,oMS m_3 a3,oPw]) {k:Nat} {r:PTerm} (H:kH.f k a0 a1 a2 a3=some r) :
  Calls PP jf #[.agg (Term.C (⟨a0.kind,a0.name,a0.other,a0.form,s_0⟩ : Term)).toArray,.string a1,.agg (Term.C (⟨a2.kind,a2.name,a2.other,a2.form,s_2⟩ : Term)).toArray,.map (some m_3)] w fun e w' => ∃ v,e = .returned v∧(∃ so0:SlV,v = .agg (Term.C (⟨r.kind,r.name,r.other,r.form,so0⟩ : Term)).toArray∧St A N w w' [] [za so0 r.sub]):=by
 have main : ∀ (k:Nat) {A:Nat→Prop} {N:Oth} {w:World} {a0:PTerm} {s_0:SlV} {a1:ByteArray} {a2:PTerm} {s_2:SlV} {a3:List (ByteArray × Int)} {m_3:Nat} (S:St A N w w [] [za s_0 a0.sub,za s_2 a2.sub,oMS m_3 a3,oPw]) {r:PTerm} (H:kH.f k a0 a1 a2 a3=some r),Calls PP jf #[.agg (Term.C (⟨a0.kind,a0.name,a0.other,a0.form,s_0⟩ : Term)).toArray,.string a1,.agg (Term.C (⟨a2.kind,a2.name,a2.other,a2.form,s_2⟩ : Term)).toArray,.map (some m_3)] w fun e w' => ∃ v,e = .returned v∧(∃ so0:SlV,v = .agg (Term.C (⟨r.kind,r.name,r.other,r.form,so0⟩ : Term)).toArray∧St A N w w' [] [za so0 r.sub]):=by
  intro k
  induction k with
  | zero=>intro A N w a0 s_0 a1 a2 s_2 a3 m_3 S r H; cases H
  | succ k ih=>intro A N w a0 s_0 a1 a2 s_2 a3 m_3 S r H; exact term_put_gst ih S H
 exact main k S H
theorem uP {a0:PTerm} {s_0:SlV} {a1:ByteArray} {a2:PTerm} {s_2:SlV} (S:St A N w w [] [za s_0 a0.sub,za s_2 a2.sub,oPw]) {k:Nat} {r:PTerm × Int} (H:kI.f k a0 a1 a2=some r) :
  Calls PP F_term_Put #[.agg (Term.C (⟨a0.kind,a0.name,a0.other,a0.form,s_0⟩ : Term)).toArray,.string a1,.agg (Term.C (⟨a2.kind,a2.name,a2.other,a2.form,s_2⟩ : Term)).toArray] w fun e w' => ∃ v,e = .returned v∧(∃ so0:SlV,v = .tuple #[.agg (Term.C (⟨r.1.kind,r.1.name,r.1.other,r.1.form,so0⟩ : Term)).toArray,.int .i64 r.2]∧St A N w w' [] [za so0 r.1.sub]):=by
 unfold kI.f at H
 refine zE (n:=51) fn_term_Put rfl rfl jL ?_
 refine zg (zd ?_)
 refine zQ rfl jJ fun b2 w1 hw1=>?_
 replace S:St A N w w1 [oB b2 zb (Term.C (⟨a0.kind,a0.name,a0.other,a0.form,s_0⟩ : Term))] [za s_0 a0.sub,za s_2 a2.sub,oPw]:=S.new hw1
 refine zQ rfl jJ fun b4 w3 hw3=>?_
 replace S:St A N w w3 [oB b4 zb (Term.C (⟨a2.kind,a2.name,a2.other,a2.form,s_2⟩ : Term)),oB b2 zb (Term.C (⟨a0.kind,a0.name,a0.other,a0.form,s_0⟩ : Term))] [za s_0 a0.sub,za s_2 a2.sub,oPw]:=S.new hw3
 refine zZ xr jJ fun b6 w5 hw5=>?_
 replace S:St A N w w5 [oB b6 zb (Term.C (⟨0,ByteArray.empty,ByteArray.empty,0,SlV.nil⟩ : Term)),oB b4 zb (Term.C (⟨a2.kind,a2.name,a2.other,a2.form,s_2⟩ : Term)),oB b2 zb (Term.C (⟨a0.kind,a0.name,a0.other,a0.form,s_0⟩ : Term))] [za s_0 a0.sub,za s_2 a2.sub,oPw]:=S.new hw5
 refine wd (zn rfl) ?_
 refine ze ?_
 refine zg (zg (zd ?_))
 refine wd (zi zq rfl ((S.blk 2).all _ (Term.len _)) (Term.len _)) ?_
 obtain ⟨r7,er7,H⟩ := zB H
 obtain ⟨B9,MB9,SB9,back⟩ := S.calln 0 ((.z 0 rfl .nil))
 refine zJ (zH vM) jJ (vO (a0:=a0) SB9 er7) ?_
 rintro _ w8 ⟨rfl,S2⟩
 replace S:St A N w w8 [oB b6 zb (Term.C (⟨0,ByteArray.empty,ByteArray.empty,0,SlV.nil⟩ : Term)),oB b4 zb (Term.C (⟨a2.kind,a2.name,a2.other,a2.form,s_2⟩ : Term)),oB b2 zb (Term.C (⟨a0.kind,a0.name,a0.other,a0.form,s_0⟩ : Term))] [za s_0 a0.sub,za s_2 a2.sub,oPw]:=back _ _ _ _ S2 rfl
 clear back S2 SB9
 refine wd (zn rfl) ?_
 refine ze ?_
 refine zg (zd ?_)
 refine wd (zp rfl) ?_
 refine wd (xN rfl rfl) ?_
 refine ze ?_
 refine zU rfl (fun hc10=>?_) (fun hc10=>?_)
 ·replace H:=if_t hc10 H
  refine zg (zd ?_)
  refine wd (Does.to (v' := .agg (Term.C (⟨0,ByteArray.empty,ByteArray.empty,0,SlV.nil⟩ : Term)).toArray) (xg (vs:=[]) xW rfl Bld.nil) rfl) ?_
  refine wd (zp rfl) ?_
  refine zy zq rfl rfl (S.blk 0) (Term.len _) (by rw [Term.len]; decide) (Term.one _) (zM (Term.len _)) fun w11 B hw11 zw11=>?_
  replace S:St A N w w11 [oB b6 zb (Term.C (⟨0,ByteArray.empty,ByteArray.empty,0,SlV.nil⟩ : Term)),oB b4 zb (Term.C (⟨a2.kind,a2.name,a2.other,a2.form,s_2⟩ : Term)),oB b2 zb (Term.C (⟨a0.kind,a0.name,a0.other,a0.form,s_0⟩ : Term))] [za s_0 a0.sub,za s_2 a2.sub,oPw]:=S.store 0 B hw11
  clear B
  refine wd (zn rfl) ?_
  refine ze ?_
  refine zC ?_
  replace S:St A N w w11 [oB b6 zb (Term.C (⟨0,ByteArray.empty,ByteArray.empty,0,SlV.nil⟩ : Term)),oB b4 zb (Term.C (⟨a2.kind,a2.name,a2.other,a2.form,s_2⟩ : Term)),oB b2 zb (Term.C (⟨a0.kind,a0.name,a0.other,a0.form,s_0⟩ : Term))] [za SlV.nil ([]),za s_0 a0.sub,za s_2 a2.sub,oPw]:=S.nilTm
  refine ⟨_,(xB (zV zq rfl ((S.blk 0).all _ (Term.len _)) (Term.len _)) (zj rfl)),?_⟩
  replace S:St A N w w11 [] [za SlV.nil ([])]:=S.arr [] [0]
  obtain rfl:=jN H
  exact ⟨SlV.nil,rfl,S⟩
 replace H:=if_f hc10 H
 refine zI ?_
 refine zg (zg (zd ?_))
 refine wd (zi zq rfl ((S.blk 1).all _ (Term.len _)) (Term.len _)) ?_
 obtain ⟨r12,er12,H⟩ := zB H
 obtain ⟨B14,MB14,SB14,back⟩ := S.calln 0 ((.z 1 rfl .nil))
 refine zJ (zH vM) jJ (vO (a0:=a2) SB14 er12) ?_
 rintro _ w13 ⟨rfl,S2⟩
 replace S:St A N w w13 [oB b6 zb (Term.C (⟨0,ByteArray.empty,ByteArray.empty,0,SlV.nil⟩ : Term)),oB b4 zb (Term.C (⟨a2.kind,a2.name,a2.other,a2.form,s_2⟩ : Term)),oB b2 zb (Term.C (⟨a0.kind,a0.name,a0.other,a0.form,s_0⟩ : Term))] [za s_0 a0.sub,za s_2 a2.sub,oPw]:=back _ _ _ _ S2 rfl
 clear back S2 SB14
 refine wd (zn rfl) ?_
 refine ze ?_
 refine zg (zd ?_)
 refine wd (zp rfl) ?_
 refine wd (xN rfl rfl) ?_
 refine ze ?_
 refine zU rfl (fun hc15=>?_) (fun hc15=>?_)
 ·replace H:=if_t hc15 H
  refine zg (zd ?_)
  refine wd (Does.to (v' := .agg (Term.C (⟨0,ByteArray.empty,ByteArray.empty,0,SlV.nil⟩ : Term)).toArray) (xg (vs:=[]) xW rfl Bld.nil) rfl) ?_
  refine wd (zp rfl) ?_
  refine zy zq rfl rfl (S.blk 0) (Term.len _) (by rw [Term.len]; decide) (Term.one _) (zM (Term.len _)) fun w16 B hw16 zw16=>?_
  replace S:St A N w w16 [oB b6 zb (Term.C (⟨0,ByteArray.empty,ByteArray.empty,0,SlV.nil⟩ : Term)),oB b4 zb (Term.C (⟨a2.kind,a2.name,a2.other,a2.form,s_2⟩ : Term)),oB b2 zb (Term.C (⟨a0.kind,a0.name,a0.other,a0.form,s_0⟩ : Term))] [za s_0 a0.sub,za s_2 a2.sub,oPw]:=S.store 0 B hw16
  clear B
  refine wd (zn rfl) ?_
  refine ze ?_
  refine zC ?_
  replace S:St A N w w16 [oB b6 zb (Term.C (⟨0,ByteArray.empty,ByteArray.empty,0,SlV.nil⟩ : Term)),oB b4 zb (Term.C (⟨a2.kind,a2.name,a2.other,a2.form,s_2⟩ : Term)),oB b2 zb (Term.C (⟨a0.kind,a0.name,a0.other,a0.form,s_0⟩ : Term))] [za SlV.nil ([]),za s_0 a0.sub,za s_2 a2.sub,oPw]:=S.nilTm
  refine ⟨_,(xB (zV zq rfl ((S.blk 0).all _ (Term.len _)) (Term.len _)) (zj rfl)),?_⟩
  replace S:St A N w w16 [] [za SlV.nil ([])]:=S.arr [] [0]
  obtain rfl:=jN H
  exact ⟨SlV.nil,rfl,S⟩
 replace H:=if_f hc15 H
 refine zI ?_
 refine zg (zg (zd ?_))
 refine wd (xm rfl) ?_
 obtain ⟨r17,er17,H⟩ := zB H
 obtain ⟨B19,MB19,SB19,back⟩ := S.calln 0 ((.nil))
 refine zJ (zH uQ) jJ (formula_Word_st SB19 er17) ?_
 rintro _ w18 ⟨rfl,S2⟩
 replace S:St A N w w18 [oB b6 zb (Term.C (⟨0,ByteArray.empty,ByteArray.empty,0,SlV.nil⟩ : Term)),oB b4 zb (Term.C (⟨a2.kind,a2.name,a2.other,a2.form,s_2⟩ : Term)),oB b2 zb (Term.C (⟨a0.kind,a0.name,a0.other,a0.form,s_0⟩ : Term))] [za s_0 a0.sub,za s_2 a2.sub,oPw]:=back _ _ _ _ S2 rfl
 clear back S2 SB19
 refine wd (xp rfl) ?_
 refine ze ?_
 refine zU rfl (fun hc20=>?_) (fun hc20=>?_)
 ·replace H:=if_t hc20 H
  refine zg (zd ?_)
  refine wd (Does.to (v' := .agg (Term.C (⟨0,ByteArray.empty,ByteArray.empty,0,SlV.nil⟩ : Term)).toArray) (xg (vs:=[]) xW rfl Bld.nil) rfl) ?_
  refine zy zq rfl rfl (S.blk 0) (Term.len _) (by rw [Term.len]; decide) (Term.one _) (zM (Term.len _)) fun w21 B hw21 zw21=>?_
  replace S:St A N w w21 [oB b6 zb (Term.C (⟨0,ByteArray.empty,ByteArray.empty,0,SlV.nil⟩ : Term)),oB b4 zb (Term.C (⟨a2.kind,a2.name,a2.other,a2.form,s_2⟩ : Term)),oB b2 zb (Term.C (⟨a0.kind,a0.name,a0.other,a0.form,s_0⟩ : Term))] [za s_0 a0.sub,za s_2 a2.sub,oPw]:=S.store 0 B hw21
  clear B
  refine wd (zn rfl) ?_
  refine ze ?_
  refine zC ?_
  replace S:St A N w w21 [oB b6 zb (Term.C (⟨0,ByteArray.empty,ByteArray.empty,0,SlV.nil⟩ : Term)),oB b4 zb (Term.C (⟨a2.kind,a2.name,a2.other,a2.form,s_2⟩ : Term)),oB b2 zb (Term.C (⟨a0.kind,a0.name,a0.other,a0.form,s_0⟩ : Term))] [za SlV.nil ([]),za s_0 a0.sub,za s_2 a2.sub,oPw]:=S.nilTm
  refine ⟨_,(xB (zV zq rfl ((S.blk 0).all _ (Term.len _)) (Term.len _)) (zj rfl)),?_⟩
  replace S:St A N w w21 [] [za SlV.nil ([])]:=S.arr [] [0]
  obtain rfl:=jN H
  exact ⟨SlV.nil,rfl,S⟩
 replace H:=if_f hc20 H
 refine zI ?_
 refine zg ?_
 refine xV 11 (Ext w18) hmix jM jM (Ext.drawn _) ?_
 refine zL (fun v K=>zi zq rfl (((S.ext K).blk 2).all _ (Term.len _)) (Term.len _)) ?_
 refine zL (fun v K=>xm rfl) ?_
 refine zL (fun v K=>zi zq rfl (((S.ext K).blk 1).all _ (Term.len _)) (Term.len _)) ?_
 obtain ⟨r22,er22,H⟩ := zB H
 refine wq_call (fun v=>zH ca_term_Size) (fun v K=>(have ⟨M,SS⟩ := (S.ext K).lend ((.z 1 rfl .nil)); quiet (term_Size_st (a0:=a2) SS er22) (fun v w' h=>⟨h.1,_,_,h.2⟩))) (fun v v' K h=>K.thenExt h) ?_
 refine zL (fun v K=>zi zq rfl (((S.ext K).blk 1).all _ (Term.len _)) (Term.len _)) ?_
 obtain ⟨r23,er23,H⟩ := zB H
 refine wq_call (fun v=>zH ca_term_Deep) (fun v K=>(have ⟨M,SS⟩ := (S.ext K).lend ((.z 1 rfl .nil)); quiet (term_Deep_st (a0:=a2) SS er23) (fun v w' h=>⟨h.1,_,_,h.2⟩))) (fun v v' K h=>K.thenExt h) ?_
 obtain ⟨r24,er24,H⟩ := zB H
 refine wq_call (fun v=>zH ca_term_grown) (fun v K=>(have ⟨M,SS⟩ := (S.ext K).lend ((.z 0 rfl .nil)); quiet (term_grown_st (a0:=a0) SS er24) (fun v w' h=>⟨h.1,_,_,h.2⟩))) (fun v v' K h=>K.thenExt h) ?_
 refine zL (fun v K=>xn rfl) ?_
 refine zL (fun v K=>zA rfl rfl) ?_
 refine zL (fun v K=>zA rfl rfl) ?_
 refine zL (fun v K=>zn rfl) ?_
 refine va fun w25 K=>?_
 replace S:=S.ext K
 clear K
 refine wd (zn rfl) ?_
 refine ze ?_
 refine zg (zg (zd ?_))
 refine wd (zp rfl) ?_
 refine wd (jo rfl rfl) ?_
 refine wd (zG rfl) ?_
 refine zu (j:=2) (pol:=false) rfl rfl rfl jJ (fun hg=>zp rfl) jJ ?_
 refine zu (j:=2) (pol:=false) rfl rfl rfl jJ (fun hg=>jo (zw hg) rfl) jJ ?_
 refine wd (xF rfl (fun hp=>(zw (xu hp)))) ?_
 refine ze ?_
 refine zU rfl (fun hc26=>?_) (fun hc26=>?_)
 ·replace H:=if_t hc26 H
  refine zg (zd ?_)
  refine wd (Does.to (v' := .agg (Term.C (⟨0,ByteArray.empty,ByteArray.empty,0,SlV.nil⟩ : Term)).toArray) (xg (vs:=[]) xW rfl Bld.nil) rfl) ?_
  refine zy zq rfl rfl (S.blk 0) (Term.len _) (by rw [Term.len]; decide) (Term.one _) (zM (Term.len _)) fun w27 B hw27 zw27=>?_
  replace S:St A N w w27 [oB b6 zb (Term.C (⟨0,ByteArray.empty,ByteArray.empty,0,SlV.nil⟩ : Term)),oB b4 zb (Term.C (⟨a2.kind,a2.name,a2.other,a2.form,s_2⟩ : Term)),oB b2 zb (Term.C (⟨a0.kind,a0.name,a0.other,a0.form,s_0⟩ : Term))] [za s_0 a0.sub,za s_2 a2.sub,oPw]:=S.store 0 B hw27
  clear B
  refine wd (zn rfl) ?_
  refine ze ?_
  refine zC ?_
  replace S:St A N w w27 [oB b6 zb (Term.C (⟨0,ByteArray.empty,ByteArray.empty,0,SlV.nil⟩ : Term)),oB b4 zb (Term.C (⟨a2.kind,a2.name,a2.other,a2.form,s_2⟩ : Term)),oB b2 zb (Term.C (⟨a0.kind,a0.name,a0.other,a0.form,s_0⟩ : Term))] [za SlV.nil ([]),za s_0 a0.sub,za s_2 a2.sub,oPw]:=S.nilTm
  refine ⟨_,(xB (zV zq rfl ((S.blk 0).all _ (Term.len _)) (Term.len _)) (zj rfl)),?_⟩
  replace S:St A N w w27 [] [za SlV.nil ([])]:=S.arr [] [0]
  obtain rfl:=jN H
  exact ⟨SlV.nil,rfl,S⟩
 replace H:=if_f hc26 H
 refine zI ?_
 refine zg ?_
 obtain ⟨r29,er29,H⟩ := zB H
 refine yM 5 ⟨fun _ _=>True,fun _ _ _=>True,fun i v _=>match i with
  | 0=>v=Value.agg (Term.C (⟨a0.kind,a0.name,a0.other,a0.form,s_0⟩ : Term)).toArray
  | 1=>v=Value.string a1
  | 2=>v=Value.agg (Term.C (⟨a2.kind,a2.name,a2.other,a2.form,s_2⟩ : Term)).toArray
  | 3=>v=Value.agg (Term.C (⟨a2.kind,a2.name,a2.other,a2.form,s_2⟩ : Term)).toArray
  | _=>True⟩ (fun L g v => ∃ m32:Nat,∃ O34:List OA,∃ Z33:List OA,(∀ z ∈ [za s_0 a0.sub,za s_2 a2.sub,oPw],z ∈ Z33)∧(L 4=true→g 49=Value.map (some m32))∧O34=((bif L 4 then [oMS m32 r29] else []) ++ [oB b6 zb (Term.C (⟨0,ByteArray.empty,ByteArray.empty,0,SlV.nil⟩ : Term)),oB b4 zb (Term.C (⟨a2.kind,a2.name,a2.other,a2.form,s_2⟩ : Term)),oB b2 zb (Term.C (⟨a0.kind,a0.name,a0.other,a0.form,s_0⟩ : Term))])∧St A N w v O34 Z33) hmix jM (fun _ _ _ _ _ _ _ hv=>hv) (fun g=>⟨0,_,_,fun _ h=>h,(fun h=>by cases h),rfl,S.ext (Ext.drawn _)⟩) ⟨?_,?_,?_,?_,?_,trivial⟩ ?_
 ·rintro L g v hL hcl hclo ⟨m32,O34,Z33,hZ,hk4,hO,S⟩ 
  have SR:St A N w v [oB b6 zb (Term.C (⟨0,ByteArray.empty,ByteArray.empty,0,SlV.nil⟩ : Term)),oB b4 zb (Term.C (⟨a2.kind,a2.name,a2.other,a2.form,s_2⟩ : Term)),oB b2 zb (Term.C (⟨a0.kind,a0.name,a0.other,a0.form,s_0⟩ : Term))] (za s_0 a0.sub :: za s_2 a2.sub :: oPw :: Z33):=by
   have S2:=S.zneed hZ
   rw [hO] at S2
   exact S2.drops
  refine wd (zi zq rfl ((SR.blk 2).all _ (Term.len _)) (Term.len _)) ?_
  exact ze (ob4 trivial rfl ⟨m32,O34,Z33,hZ,(fun h=>by rw [zr _ _ _ _ jJ]; exact hk4 (by rw [zf rfl] at h; exact h)),by rw [hO]; simp only [zf (L:=L) (i:=0) (j:=4) rfl],S⟩)
 ·rintro L g v hL hcl hclo ⟨m32,O34,Z33,hZ,hk4,hO,S⟩ 
  have SR:St A N w v [oB b6 zb (Term.C (⟨0,ByteArray.empty,ByteArray.empty,0,SlV.nil⟩ : Term)),oB b4 zb (Term.C (⟨a2.kind,a2.name,a2.other,a2.form,s_2⟩ : Term)),oB b2 zb (Term.C (⟨a0.kind,a0.name,a0.other,a0.form,s_0⟩ : Term))] (za s_0 a0.sub :: za s_2 a2.sub :: oPw :: Z33):=by
   have S2:=S.zneed hZ
   rw [hO] at S2
   exact S2.drops
  refine wd (xm rfl) ?_
  exact ze (ob4 trivial rfl ⟨m32,O34,Z33,hZ,(fun h=>by rw [zr _ _ _ _ jJ]; exact hk4 (by rw [zf rfl] at h; exact h)),by rw [hO]; simp only [zf (L:=L) (i:=1) (j:=4) rfl],S⟩)
 ·rintro L g v hL hcl hclo ⟨m32,O34,Z33,hZ,hk4,hO,S⟩ 
  have SR:St A N w v [oB b6 zb (Term.C (⟨0,ByteArray.empty,ByteArray.empty,0,SlV.nil⟩ : Term)),oB b4 zb (Term.C (⟨a2.kind,a2.name,a2.other,a2.form,s_2⟩ : Term)),oB b2 zb (Term.C (⟨a0.kind,a0.name,a0.other,a0.form,s_0⟩ : Term))] (za s_0 a0.sub :: za s_2 a2.sub :: oPw :: Z33):=by
   have S2:=S.zneed hZ
   rw [hO] at S2
   exact S2.drops
  refine wd (zi zq rfl ((SR.blk 1).all _ (Term.len _)) (Term.len _)) ?_
  exact ze (ob4 trivial rfl ⟨m32,O34,Z33,hZ,(fun h=>by rw [zr _ _ _ _ jJ]; exact hk4 (by rw [zf rfl] at h; exact h)),by rw [hO]; simp only [zf (L:=L) (i:=2) (j:=4) rfl],S⟩)
 ·rintro L g v hL hcl hclo ⟨m32,O34,Z33,hZ,hk4,hO,S⟩ 
  have hl4:L 4=false:=by cases h:L 4 with | false=>rfl | true=>exact absurd (hclo 4 3 h jM) (by rw [hL]; decide)
  have SR:St A N w v [oB b6 zb (Term.C (⟨0,ByteArray.empty,ByteArray.empty,0,SlV.nil⟩ : Term)),oB b4 zb (Term.C (⟨a2.kind,a2.name,a2.other,a2.form,s_2⟩ : Term)),oB b2 zb (Term.C (⟨a0.kind,a0.name,a0.other,a0.form,s_0⟩ : Term))] (za s_0 a0.sub :: za s_2 a2.sub :: oPw :: Z33):=by
   have S2:=S.zneed hZ
   rw [hO] at S2
   simp only [hl4,cond_true,cond_false,List.nil_append,List.append_assoc,List.cons_append] at S2
   exact S2
  refine wd (zi zq rfl ((SR.blk 1).all _ (Term.len _)) (Term.len _)) ?_
  exact ze (ob4 trivial rfl ⟨m32,O34,Z33,hZ,(fun h=>by rw [zr _ _ _ _ jJ]; exact hk4 (by rw [zf rfl] at h; exact h)),by rw [hO]; simp only [zf (L:=L) (i:=3) (j:=4) rfl],S⟩)
 ·rintro L g v hL hcl hclo ⟨m32,O34,Z33,hZ,hk4,hO,S⟩ hv3
  have hl4:L 4=false:=hL
  have hOP : ∃ P Y,P=[]∧Y=[oB b6 zb (Term.C (⟨0,ByteArray.empty,ByteArray.empty,0,SlV.nil⟩ : Term)),oB b4 zb (Term.C (⟨a2.kind,a2.name,a2.other,a2.form,s_2⟩ : Term)),oB b2 zb (Term.C (⟨a0.kind,a0.name,a0.other,a0.form,s_0⟩ : Term))]∧O34=P ++ ([] ++ Y):=⟨_,_,rfl,rfl,by rw [hO]; simp only [hl4,cond_true,cond_false,List.nil_append,List.append_assoc,List.cons_append]⟩
  obtain ⟨P,Y,hP,hY,hPY⟩ := hOP
  rw [hPY] at S
  replace S:St A N w v (P ++ Y) Z33:=S
  replace S:=S.zneed hZ
  replace S:St A N w v ((P ++ Y)) (za s_0 a0.sub :: za s_2 a2.sub :: oPw :: Z33):=S
  obtain ⟨B37,MB37,SB37,back⟩ := S.calln 0 ((.z 1 rfl .nil))
  refine zJ (zS ca_term_freely (zX hv3 rfl)) jJ (term_freely_st (a0:=a2) SB37 er29) ?_
  rintro _ w36 ⟨m38,rfl,S2⟩
  replace S:St A N w w36 (oMS m38 r29 :: (P ++ Y)) (za s_0 a0.sub :: za s_2 a2.sub :: oPw :: Z33):=back _ _ _ _ S2 rfl
  clear back S2 SB37
  refine ze (ob4 trivial trivial ⟨m38,P ++ ([oMS m38 r29] ++ Y),_,(fun z h=>tl3 z (hZ z h)),(fun _=>upd_same _ _ _),?_,S.ins (P:=[oMS m38 r29])⟩)
  rw [hP,hY]; simp only [xS (L:=L) (i:=4),cond_true,cond_false,List.nil_append,List.append_assoc,List.cons_append]
 rintro L g w39 hLm ⟨m32,O34,Z33,hZ,hk4,hO,S⟩ hv40_0 hv40_1 hv40_2 hv40_3 _
 have hLt : ∀ j,j < 5→L j=true:=fun j hj=>by rw [hLm]; exact decide_eq_true hj
 have hv40_4:=hk4 (hLt 4 jJ)
 simp only [hLt 4 jJ,cond_true,List.nil_append,List.cons_append] at hO
 rw [hO] at S
 replace S:St A N w w39 [oMS m32 r29,oB b6 zb (Term.C (⟨0,ByteArray.empty,ByteArray.empty,0,SlV.nil⟩ : Term)),oB b4 zb (Term.C (⟨a2.kind,a2.name,a2.other,a2.form,s_2⟩ : Term)),oB b2 zb (Term.C (⟨a0.kind,a0.name,a0.other,a0.form,s_0⟩ : Term))] [za s_0 a0.sub,za s_2 a2.sub,oPw]:=S.pickZ hZ
 clear  hZ 
 obtain ⟨r41,er41,H⟩ := zB H
 replace S:St A N w w39 [oB b6 zb (Term.C (⟨0,ByteArray.empty,ByteArray.empty,0,SlV.nil⟩ : Term)),oB b4 zb (Term.C (⟨a2.kind,a2.name,a2.other,a2.form,s_2⟩ : Term)),oB b2 zb (Term.C (⟨a0.kind,a0.name,a0.other,a0.form,s_0⟩ : Term))] [oMS m32 r29,za s_0 a0.sub,za s_2 a2.sub,oPw]:=S.frzO 0
 obtain ⟨B43,MB43,SB43,back⟩ := S.sub [1,2,0,3] [] [oB b6 zb (Term.C (⟨0,ByteArray.empty,ByteArray.empty,0,SlV.nil⟩ : Term)),oB b4 zb (Term.C (⟨a2.kind,a2.name,a2.other,a2.form,s_2⟩ : Term)),oB b2 zb (Term.C (⟨a0.kind,a0.name,a0.other,a0.form,s_0⟩ : Term))]
 refine zJ (zS ca_term_put (zX hv40_0 (zX hv40_1 (zX hv40_2 (zX hv40_4 rfl))))) jJ (term_put_st (a0:=a0) (a2:=a2) SB43 er41) ?_
 rintro _ w42 ⟨s44,rfl,S2⟩
 replace S:St A N w w42 [oB b6 zb (Term.C (⟨0,ByteArray.empty,ByteArray.empty,0,SlV.nil⟩ : Term)),oB b4 zb (Term.C (⟨a2.kind,a2.name,a2.other,a2.form,s_2⟩ : Term)),oB b2 zb (Term.C (⟨a0.kind,a0.name,a0.other,a0.form,s_0⟩ : Term))] [za s44 r41.sub,oMS m32 r29,za s_0 a0.sub,za s_2 a2.sub,oPw]:=back _ _ _ _ _ S2 rfl rfl
 clear back S2 SB43
 refine zy zq rfl rfl (S.blk 0) (Term.len _) (by rw [Term.len]; decide) (Term.one _) (zM (Term.len _)) fun w45 B hw45 zw45=>?_
 replace S:St A N w w45 [oB b6 zb (Term.C (⟨r41.kind,r41.name,r41.other,r41.form,s44⟩ : Term)),oB b4 zb (Term.C (⟨a2.kind,a2.name,a2.other,a2.form,s_2⟩ : Term)),oB b2 zb (Term.C (⟨a0.kind,a0.name,a0.other,a0.form,s_0⟩ : Term))] [za s44 r41.sub,oMS m32 r29,za s_0 a0.sub,za s_2 a2.sub,oPw]:=S.store 0 B hw45
 clear B
 refine wd (zn rfl) ?_
 refine ze ?_
 refine zC ?_
 refine ⟨_,(xB (zV zq rfl ((S.blk 0).all _ (Term.len _)) (Term.len _)) (zj rfl)),?_⟩
 replace S:St A N w w45 [] [za s44 r41.sub]:=S.arr [] [0]
 obtain rfl:=jN H
 exact ⟨s44,rfl,S⟩
theorem reduce_rules_2_st {a0:Tb} {a_0:Option Addr} {a1:PTerm} {s_1:SlV} (S:St A N w w [] [oT a_0 a0,za s_1 a1.sub,oPw]) {k:Nat} {r:PTerm × Int} (H:kJ.f k a0 a1=some r) :
  Calls PP yF #[.pointer a_0,.agg (Term.C (⟨a1.kind,a1.name,a1.other,a1.form,s_1⟩ : Term)).toArray] w fun e w' => ∃ v,e = .returned v∧(∃ so0:SlV,v = .tuple #[.agg (Term.C (⟨r.1.kind,r.1.name,r.1.other,r.1.form,so0⟩ : Term)).toArray,.int .i64 r.2]∧St A N w w' [] [za so0 r.1.sub]):=by
 unfold kJ.f at H
 refine zE (n:=25) fn_reduce_rules_2 rfl rfl jL ?_
 refine zg (zd ?_)
 refine zQ rfl jJ fun b2 w1 hw1=>?_
 replace S:St A N w w1 [oB b2 zb (Term.C (⟨a1.kind,a1.name,a1.other,a1.form,s_1⟩ : Term))] [oT a_0 a0,za s_1 a1.sub,oPw]:=S.new hw1
 refine zZ xr jJ fun b4 w3 hw3=>?_
 replace S:St A N w w3 [oB b4 zb (Term.C (⟨0,ByteArray.empty,ByteArray.empty,0,SlV.nil⟩ : Term)),oB b2 zb (Term.C (⟨a1.kind,a1.name,a1.other,a1.form,s_1⟩ : Term))] [oT a_0 a0,za s_1 a1.sub,oPw]:=S.new hw3
 refine wd (zn rfl) ?_
 refine ze ?_
 refine zg ?_
 refine wc_ws hmix fun w16 K=>?_
 replace S:=S.ext K
 clear K
 obtain ⟨hi17,H⟩ := xh H
 obtain ⟨s18,hc19,S⟩ := S.viewTerm 1 (zP hi17)
 replace S:St A N w w16 [oB b4 zb (Term.C (⟨0,ByteArray.empty,ByteArray.empty,0,SlV.nil⟩ : Term)),oB b2 zb (Term.C (⟨a1.kind,a1.name,a1.other,a1.form,s_1⟩ : Term))] [za s18 ((at_ PTerm.z a1.sub 0).sub),oT a_0 a0,za s_1 a1.sub,oPw]:=S
 replace S:St A N w w16 [oB b4 zb (Term.C (⟨0,ByteArray.empty,ByteArray.empty,0,SlV.nil⟩ : Term)),oB b2 zb (Term.C (⟨a1.kind,a1.name,a1.other,a1.form,s_1⟩ : Term))] [oT a_0 a0,za s_1 a1.sub,oPw,za s18 ((at_ PTerm.z a1.sub 0).sub)]:=S.zs [1,2,3,0]
 obtain ⟨hi20,H⟩ := xh H
 obtain ⟨s21,hc22,S⟩ := S.viewTerm 3 (zP hi20)
 replace S:St A N w w16 [oB b4 zb (Term.C (⟨0,ByteArray.empty,ByteArray.empty,0,SlV.nil⟩ : Term)),oB b2 zb (Term.C (⟨a1.kind,a1.name,a1.other,a1.form,s_1⟩ : Term))] [za s21 ((at_ PTerm.z ((at_ PTerm.z a1.sub 0).sub) 0).sub),oT a_0 a0,za s_1 a1.sub,oPw,za s18 ((at_ PTerm.z a1.sub 0).sub)]:=S
 replace S:St A N w w16 [oB b4 zb (Term.C (⟨0,ByteArray.empty,ByteArray.empty,0,SlV.nil⟩ : Term)),oB b2 zb (Term.C (⟨a1.kind,a1.name,a1.other,a1.form,s_1⟩ : Term))] [oT a_0 a0,za s_1 a1.sub,oPw,za s18 ((at_ PTerm.z a1.sub 0).sub),za s21 ((at_ PTerm.z ((at_ PTerm.z a1.sub 0).sub) 0).sub)]:=S.zs [1,2,3,4,0]
 obtain ⟨hi23,H⟩ := xh H
 obtain ⟨hi24,H⟩ := xh H
 obtain ⟨s25,hc26,S⟩ := S.viewTerm 1 (zP hi24)
 replace S:St A N w w16 [oB b4 zb (Term.C (⟨0,ByteArray.empty,ByteArray.empty,0,SlV.nil⟩ : Term)),oB b2 zb (Term.C (⟨a1.kind,a1.name,a1.other,a1.form,s_1⟩ : Term))] [za s25 ((at_ PTerm.z a1.sub 1).sub),oT a_0 a0,za s_1 a1.sub,oPw,za s18 ((at_ PTerm.z a1.sub 0).sub),za s21 ((at_ PTerm.z ((at_ PTerm.z a1.sub 0).sub) 0).sub)]:=S
 replace S:St A N w w16 [oB b4 zb (Term.C (⟨0,ByteArray.empty,ByteArray.empty,0,SlV.nil⟩ : Term)),oB b2 zb (Term.C (⟨a1.kind,a1.name,a1.other,a1.form,s_1⟩ : Term))] [oT a_0 a0,za s_1 a1.sub,oPw,za s18 ((at_ PTerm.z a1.sub 0).sub),za s21 ((at_ PTerm.z ((at_ PTerm.z a1.sub 0).sub) 0).sub),za s25 ((at_ PTerm.z a1.sub 1).sub)]:=S.zs [1,2,3,4,5,0]
 refine vS 0 16 [] jM jJ jM
  (V:=fun i v u=>match i with
  | _=>True) ?_ ?_
 ·intro i v u u' hi hx hv
  match i,hv with
  | _,_=>exact trivial
 refine xc (fun v K=>zh zO rfl (o':=4) rfl) rfl ?_
 refine xc (fun v K=>zt zF rfl (((S.ext K).blk 1).cell (Term.get_sub _))) rfl ?_
 refine xc (fun v K=>does_indexF zz rfl rfl ((S.ext K).onZ 1) (zP hi17).1 (zP hi17).2) rfl ?_
 refine xc (fun v K=>zh zO rfl (o':=_) rfl) rfl ?_
 refine xc (fun v K=>zt zF rfl ((hc19.chg K (fun x=>x)).get (Term.get_sub _))) rfl ?_
 refine xc (fun v K=>does_indexF zz rfl rfl ((S.ext K).onZ 3) (zP hi20).1 (zP hi20).2) rfl ?_
 refine xc (fun v K=>zi zq rfl (hc22.chg K (fun x=>x)) (Term.len _)) rfl ?_
 refine xc (fun v K=>zh zO rfl (o':=4) rfl) rfl ?_
 refine xc (fun v K=>zt zF rfl (((S.ext K).blk 1).cell (Term.get_sub _))) rfl ?_
 refine xc (fun v K=>does_indexF zz rfl rfl ((S.ext K).onZ 1) (zP hi23).1 (zP hi23).2) rfl ?_
 refine xc (fun v K=>zh xO rfl (o':=_) rfl) rfl ?_
 refine xc (fun v K=>zt xz rfl (yl.get_name ((S.ext K).onZ 1) (zP hi23))) rfl ?_
 refine xc (fun v K=>zh zO rfl (o':=4) rfl) rfl ?_
 refine xc (fun v K=>zt zF rfl (((S.ext K).blk 1).cell (Term.get_sub _))) rfl ?_
 refine xc (fun v K=>does_indexF zz rfl rfl ((S.ext K).onZ 1) (zP hi24).1 (zP hi24).2) rfl ?_
 refine xc (fun v K=>zi zq rfl (hc26.chg K (fun x=>x)) (Term.len _)) rfl ?_
 refine uY fun g w27 K hV=>?_
 replace S:=S.ext K
 clear K hV
 refine jI 16 17 jM jJ ?_
 obtain ⟨r29,er29,H⟩ := zB H
 obtain ⟨B31,MB31,SB31,back⟩ := S.sub [4,5,2] [] [oB b4 zb (Term.C (⟨0,ByteArray.empty,ByteArray.empty,0,SlV.nil⟩ : Term)),oB b2 zb (Term.C (⟨a1.kind,a1.name,a1.other,a1.form,s_1⟩ : Term))]
 refine zJ (zH uN) jJ (uP (a0:=(at_ PTerm.z ((at_ PTerm.z a1.sub 0).sub) 0)) (a2:=(at_ PTerm.z a1.sub 1)) SB31 er29) ?_
 rintro _ w30 ⟨s32,rfl,S2⟩
 replace S:St A N w w30 [oB b4 zb (Term.C (⟨0,ByteArray.empty,ByteArray.empty,0,SlV.nil⟩ : Term)),oB b2 zb (Term.C (⟨a1.kind,a1.name,a1.other,a1.form,s_1⟩ : Term))] [za s32 r29.1.sub,oT a_0 a0,za s_1 a1.sub,oPw,za s18 ((at_ PTerm.z a1.sub 0).sub),za s21 ((at_ PTerm.z ((at_ PTerm.z a1.sub 0).sub) 0).sub),za s25 ((at_ PTerm.z a1.sub 1).sub)]:=back _ _ _ _ _ S2 rfl rfl
 clear back S2 SB31
 refine ze ⟨rfl,?_⟩
 refine vS 17 19 [] jM jJ jM
  (V:=fun i v u=>match i with
  | _=>True) ?_ ?_
 ·intro i v u u' hi hx hv
  match i,hv with
  | _,_=>exact trivial
 refine xc (fun v K=>zA rfl rfl) rfl ?_
 refine xc (fun v K=>zA rfl rfl) rfl ?_
 refine uY fun g w33 K hV=>?_
 replace S:=S.ext K
 clear K hV
 refine ws_tail 19 jM jJ ?_
 refine zy zq rfl rfl (S.blk 0) (Term.len _) (by rw [Term.len]; decide) (Term.one _) (zM (Term.len _)) fun w35 B hw35 zw35=>?_
 replace S:St A N w w35 [oB b4 zb (Term.C (⟨r29.1.kind,r29.1.name,r29.1.other,r29.1.form,s32⟩ : Term)),oB b2 zb (Term.C (⟨a1.kind,a1.name,a1.other,a1.form,s_1⟩ : Term))] [za s32 r29.1.sub,oT a_0 a0,za s_1 a1.sub,oPw,za s18 ((at_ PTerm.z a1.sub 0).sub),za s21 ((at_ PTerm.z ((at_ PTerm.z a1.sub 0).sub) 0).sub),za s25 ((at_ PTerm.z a1.sub 1).sub)]:=S.store 0 B hw35
 clear B
 refine wd (zn rfl) ?_
 refine ze ?_
 refine zC ?_
 refine ⟨_,(xB (zV zq rfl ((S.blk 0).all _ (Term.len _)) (Term.len _)) (zj rfl)),?_⟩
 replace S:St A N w w35 [] [za s32 r29.1.sub]:=S.arr [] [0]
 obtain rfl:=jN H
 exact ⟨s32,rfl,S⟩
theorem reduce_rules_4_st {a0:Tb} {a_0:Option Addr} {a1:PTerm} {s_1:SlV} (S:St A N w w [] [oT a_0 a0,za s_1 a1.sub,oPw]) {k:Nat} {r:PTerm × Int} (H:kK.f k a0 a1=some r) :
  Calls PP yG #[.pointer a_0,.agg (Term.C (⟨a1.kind,a1.name,a1.other,a1.form,s_1⟩ : Term)).toArray] w fun e w' => ∃ v,e = .returned v∧(∃ so0:SlV,v = .tuple #[.agg (Term.C (⟨r.1.kind,r.1.name,r.1.other,r.1.form,so0⟩ : Term)).toArray,.int .i64 r.2]∧St A N w w' [] [za so0 r.1.sub]):=by
 unfold kK.f at H
 refine zE (n:=40) fn_reduce_rules_4 rfl rfl jL ?_
 refine zg (zd ?_)
 refine zQ rfl jJ fun b2 w1 hw1=>?_
 replace S:St A N w w1 [oB b2 zb (Term.C (⟨a1.kind,a1.name,a1.other,a1.form,s_1⟩ : Term))] [oT a_0 a0,za s_1 a1.sub,oPw]:=S.new hw1
 refine zZ xr jJ fun b4 w3 hw3=>?_
 replace S:St A N w w3 [oB b4 zb (Term.C (⟨0,ByteArray.empty,ByteArray.empty,0,SlV.nil⟩ : Term)),oB b2 zb (Term.C (⟨a1.kind,a1.name,a1.other,a1.form,s_1⟩ : Term))] [oT a_0 a0,za s_1 a1.sub,oPw]:=S.new hw3
 refine wd (zn rfl) ?_
 refine ze ?_
 refine zg (zd ?_)
 refine wd (zh zO rfl (o':=4) rfl) ?_
 refine wd (zt zF rfl ((S.blk 1).cell (Term.get_sub _))) ?_
 obtain ⟨hi5,H⟩ := xh H
 refine wd (does_indexF zz rfl rfl (S.onZ 1) (zP hi5).1 (zP hi5).2) ?_
 refine wd (zh zO rfl (o':=_) rfl) ?_
 obtain ⟨s6,hc7,S⟩ := S.viewTerm 1 (zP hi5)
 replace S:St A N w w3 [oB b4 zb (Term.C (⟨0,ByteArray.empty,ByteArray.empty,0,SlV.nil⟩ : Term)),oB b2 zb (Term.C (⟨a1.kind,a1.name,a1.other,a1.form,s_1⟩ : Term))] [za s6 ((at_ PTerm.z a1.sub 0).sub),oT a_0 a0,za s_1 a1.sub,oPw]:=S
 refine wd (zt zF rfl (hc7.get (Term.get_sub _))) ?_
 obtain ⟨hi8,H⟩ := xh H
 refine wd (does_indexF zz rfl rfl (S.onZ 0) (zP hi8).1 (zP hi8).2) ?_
 obtain ⟨s9,hc10,S⟩ := S.viewTerm 0 (zP hi8)
 replace S:St A N w w3 [oB b4 zb (Term.C (⟨0,ByteArray.empty,ByteArray.empty,0,SlV.nil⟩ : Term)),oB b2 zb (Term.C (⟨a1.kind,a1.name,a1.other,a1.form,s_1⟩ : Term))] [za s9 ((at_ PTerm.z ((at_ PTerm.z a1.sub 0).sub) 0).sub),za s6 ((at_ PTerm.z a1.sub 0).sub),oT a_0 a0,za s_1 a1.sub,oPw]:=S
 refine wd (zi zq rfl hc10 (Term.len _)) ?_
 refine zZ xr jJ fun b12 w11 hw11=>?_
 replace S:St A N w w11 [oB b12 zb (Term.C (⟨0,ByteArray.empty,ByteArray.empty,0,SlV.nil⟩ : Term)),oB b4 zb (Term.C (⟨0,ByteArray.empty,ByteArray.empty,0,SlV.nil⟩ : Term)),oB b2 zb (Term.C (⟨a1.kind,a1.name,a1.other,a1.form,s_1⟩ : Term))] [za s9 ((at_ PTerm.z ((at_ PTerm.z a1.sub 0).sub) 0).sub),za s6 ((at_ PTerm.z a1.sub 0).sub),oT a_0 a0,za s_1 a1.sub,oPw]:=S.new hw11
 refine zy zq rfl rfl (S.blk 0) (Term.len _) (by rw [Term.len]; decide) (Term.one _) (zM (Term.len _)) fun w13 B hw13 zw13=>?_
 replace S:St A N w w13 [oB b12 zb (Term.C (⟨(at_ PTerm.z ((at_ PTerm.z a1.sub 0).sub) 0).kind,(at_ PTerm.z ((at_ PTerm.z a1.sub 0).sub) 0).name,(at_ PTerm.z ((at_ PTerm.z a1.sub 0).sub) 0).other,(at_ PTerm.z ((at_ PTerm.z a1.sub 0).sub) 0).form,s9⟩ : Term)),oB b4 zb (Term.C (⟨0,ByteArray.empty,ByteArray.empty,0,SlV.nil⟩ : Term)),oB b2 zb (Term.C (⟨a1.kind,a1.name,a1.other,a1.form,s_1⟩ : Term))] [za s9 ((at_ PTerm.z ((at_ PTerm.z a1.sub 0).sub) 0).sub),za s6 ((at_ PTerm.z a1.sub 0).sub),oT a_0 a0,za s_1 a1.sub,oPw]:=S.store 0 B hw13
 clear B
 refine ze ?_
 refine zg ?_
 obtain ⟨hi22,H⟩ := xh H
 obtain ⟨hi24,H⟩ := xh H
 obtain ⟨r26,er26,H⟩ := zB H
 obtain ⟨r29,er29,H⟩ := zB H
 obtain ⟨r33,er33,H⟩ := zB H
 obtain ⟨s23,S⟩ := S.viewTermC 0 (zP hi22)
 replace S:St A N w w13 [oB b12 zb (Term.C (⟨(at_ PTerm.z ((at_ PTerm.z a1.sub 0).sub) 0).kind,(at_ PTerm.z ((at_ PTerm.z a1.sub 0).sub) 0).name,(at_ PTerm.z ((at_ PTerm.z a1.sub 0).sub) 0).other,(at_ PTerm.z ((at_ PTerm.z a1.sub 0).sub) 0).form,s9⟩ : Term)),oB b4 zb (Term.C (⟨0,ByteArray.empty,ByteArray.empty,0,SlV.nil⟩ : Term)),oB b2 zb (Term.C (⟨a1.kind,a1.name,a1.other,a1.form,s_1⟩ : Term))] [oCl s9.blk (s9.off + Int.toNat 0 * 5) (Term.C (⟨(at_ PTerm.z ((at_ PTerm.z ((at_ PTerm.z a1.sub 0).sub) 0).sub) 0).kind,(at_ PTerm.z ((at_ PTerm.z ((at_ PTerm.z a1.sub 0).sub) 0).sub) 0).name,(at_ PTerm.z ((at_ PTerm.z ((at_ PTerm.z a1.sub 0).sub) 0).sub) 0).other,(at_ PTerm.z ((at_ PTerm.z ((at_ PTerm.z a1.sub 0).sub) 0).sub) 0).form,s23⟩ : Term)),za s23 ((at_ PTerm.z ((at_ PTerm.z ((at_ PTerm.z a1.sub 0).sub) 0).sub) 0).sub),za s9 ((at_ PTerm.z ((at_ PTerm.z a1.sub 0).sub) 0).sub),za s6 ((at_ PTerm.z a1.sub 0).sub),oT a_0 a0,za s_1 a1.sub,oPw]:=S
 obtain ⟨s25,S⟩ := S.viewTermC 5 (zP hi24)
 replace S:St A N w w13 [oB b12 zb (Term.C (⟨(at_ PTerm.z ((at_ PTerm.z a1.sub 0).sub) 0).kind,(at_ PTerm.z ((at_ PTerm.z a1.sub 0).sub) 0).name,(at_ PTerm.z ((at_ PTerm.z a1.sub 0).sub) 0).other,(at_ PTerm.z ((at_ PTerm.z a1.sub 0).sub) 0).form,s9⟩ : Term)),oB b4 zb (Term.C (⟨0,ByteArray.empty,ByteArray.empty,0,SlV.nil⟩ : Term)),oB b2 zb (Term.C (⟨a1.kind,a1.name,a1.other,a1.form,s_1⟩ : Term))] [oCl s_1.blk (s_1.off + Int.toNat 1 * 5) (Term.C (⟨(at_ PTerm.z a1.sub 1).kind,(at_ PTerm.z a1.sub 1).name,(at_ PTerm.z a1.sub 1).other,(at_ PTerm.z a1.sub 1).form,s25⟩ : Term)),za s25 ((at_ PTerm.z a1.sub 1).sub),oCl s9.blk (s9.off + Int.toNat 0 * 5) (Term.C (⟨(at_ PTerm.z ((at_ PTerm.z ((at_ PTerm.z a1.sub 0).sub) 0).sub) 0).kind,(at_ PTerm.z ((at_ PTerm.z ((at_ PTerm.z a1.sub 0).sub) 0).sub) 0).name,(at_ PTerm.z ((at_ PTerm.z ((at_ PTerm.z a1.sub 0).sub) 0).sub) 0).other,(at_ PTerm.z ((at_ PTerm.z ((at_ PTerm.z a1.sub 0).sub) 0).sub) 0).form,s23⟩ : Term)),za s23 ((at_ PTerm.z ((at_ PTerm.z ((at_ PTerm.z a1.sub 0).sub) 0).sub) 0).sub),za s9 ((at_ PTerm.z ((at_ PTerm.z a1.sub 0).sub) 0).sub),za s6 ((at_ PTerm.z a1.sub 0).sub),oT a_0 a0,za s_1 a1.sub,oPw]:=S
 replace S:St A N w w13 [oB b12 zb (Term.C (⟨(at_ PTerm.z ((at_ PTerm.z a1.sub 0).sub) 0).kind,(at_ PTerm.z ((at_ PTerm.z a1.sub 0).sub) 0).name,(at_ PTerm.z ((at_ PTerm.z a1.sub 0).sub) 0).other,(at_ PTerm.z ((at_ PTerm.z a1.sub 0).sub) 0).form,s9⟩ : Term)),oB b4 zb (Term.C (⟨0,ByteArray.empty,ByteArray.empty,0,SlV.nil⟩ : Term)),oB b2 zb (Term.C (⟨a1.kind,a1.name,a1.other,a1.form,s_1⟩ : Term))] [za s9 ((at_ PTerm.z ((at_ PTerm.z a1.sub 0).sub) 0).sub),za s6 ((at_ PTerm.z a1.sub 0).sub),oT a_0 a0,za s_1 a1.sub,oPw,oCl s9.blk (s9.off + Int.toNat 0 * 5) (Term.C (⟨(at_ PTerm.z ((at_ PTerm.z ((at_ PTerm.z a1.sub 0).sub) 0).sub) 0).kind,(at_ PTerm.z ((at_ PTerm.z ((at_ PTerm.z a1.sub 0).sub) 0).sub) 0).name,(at_ PTerm.z ((at_ PTerm.z ((at_ PTerm.z a1.sub 0).sub) 0).sub) 0).other,(at_ PTerm.z ((at_ PTerm.z ((at_ PTerm.z a1.sub 0).sub) 0).sub) 0).form,s23⟩ : Term)),za s23 ((at_ PTerm.z ((at_ PTerm.z ((at_ PTerm.z a1.sub 0).sub) 0).sub) 0).sub),oCl s_1.blk (s_1.off + Int.toNat 1 * 5) (Term.C (⟨(at_ PTerm.z a1.sub 1).kind,(at_ PTerm.z a1.sub 1).name,(at_ PTerm.z a1.sub 1).other,(at_ PTerm.z a1.sub 1).form,s25⟩ : Term)),za s25 ((at_ PTerm.z a1.sub 1).sub)]:=S.zs [4,5,6,7,8,2,3,0,1]
 refine yM 20 ⟨fun _ _=>True,fun _ _ _=>True,fun i v _=>match i with
  | 0=>v=Value.pointer (some ⟨b12,4,none⟩)
  | 1=>v=s9.v
  | 2=>v=Value.pointer (some ⟨s9.blk,s9.off + Int.toNat 0 * 5,none⟩)
  | 3=>v=Value.agg (Term.C (⟨(at_ PTerm.z ((at_ PTerm.z ((at_ PTerm.z a1.sub 0).sub) 0).sub) 0).kind,(at_ PTerm.z ((at_ PTerm.z ((at_ PTerm.z a1.sub 0).sub) 0).sub) 0).name,(at_ PTerm.z ((at_ PTerm.z ((at_ PTerm.z a1.sub 0).sub) 0).sub) 0).other,(at_ PTerm.z ((at_ PTerm.z ((at_ PTerm.z a1.sub 0).sub) 0).sub) 0).form,s23⟩ : Term)).toArray
  | 4=>v=Value.pointer (some ⟨b12,1,none⟩)
  | 5=>v=Value.string ((at_ PTerm.z ((at_ PTerm.z a1.sub 0).sub) 0).name)
  | 6=>v=Value.pointer (some ⟨b2,4,none⟩)
  | 7=>v=s_1.v
  | 8=>v=Value.pointer (some ⟨s_1.blk,s_1.off + Int.toNat 1 * 5,none⟩)
  | 9=>v=Value.agg (Term.C (⟨(at_ PTerm.z a1.sub 1).kind,(at_ PTerm.z a1.sub 1).name,(at_ PTerm.z a1.sub 1).other,(at_ PTerm.z a1.sub 1).form,s25⟩ : Term)).toArray
  | 10=>v=Value.pointer a_0
  | 11=>v=Value.agg (Term.C (⟨a1.kind,a1.name,a1.other,a1.form,s_1⟩ : Term)).toArray
  | 12=>v=Value.int .i64 r26
  | 17=>v=Value.int .i64 r33.2
  | _=>True⟩ (fun L g v => ∃ b38:Nat,∃ s40:SlV,∃ O42:List OA,∃ Z41:List OA,(∀ z ∈ [za s9 ((at_ PTerm.z ((at_ PTerm.z a1.sub 0).sub) 0).sub),za s6 ((at_ PTerm.z a1.sub 0).sub),oT a_0 a0,za s_1 a1.sub,oPw,oCl s9.blk (s9.off + Int.toNat 0 * 5) (Term.C (⟨(at_ PTerm.z ((at_ PTerm.z ((at_ PTerm.z a1.sub 0).sub) 0).sub) 0).kind,(at_ PTerm.z ((at_ PTerm.z ((at_ PTerm.z a1.sub 0).sub) 0).sub) 0).name,(at_ PTerm.z ((at_ PTerm.z ((at_ PTerm.z a1.sub 0).sub) 0).sub) 0).other,(at_ PTerm.z ((at_ PTerm.z ((at_ PTerm.z a1.sub 0).sub) 0).sub) 0).form,s23⟩ : Term)),za s23 ((at_ PTerm.z ((at_ PTerm.z ((at_ PTerm.z a1.sub 0).sub) 0).sub) 0).sub),oCl s_1.blk (s_1.off + Int.toNat 1 * 5) (Term.C (⟨(at_ PTerm.z a1.sub 1).kind,(at_ PTerm.z a1.sub 1).name,(at_ PTerm.z a1.sub 1).other,(at_ PTerm.z a1.sub 1).form,s25⟩ : Term)),za s25 ((at_ PTerm.z a1.sub 1).sub)],z ∈ Z41)∧Made L g Z41 13 30 (fun (c:SlV)=>Value.agg (Term.C (⟨r29.kind,r29.name,r29.other,r29.form,c⟩ : Term)).toArray) (fun (c:SlV)=>[za c r29.sub])∧Made L g Z41 14 31 (fun (c:SlV)=>Value.tuple #[.agg (Term.C (⟨r33.1.kind,r33.1.name,r33.1.other,r33.1.form,c⟩ : Term)).toArray,.int .i64 r33.2]) (fun (c:SlV)=>[za c r33.1.sub])∧Made L g Z41 15 16 (fun (c:SlV)=>Value.tuple #[.agg (Term.C (⟨r33.1.kind,r33.1.name,r33.1.other,r33.1.form,c⟩ : Term)).toArray,.int .i64 r33.2]) (fun (c:SlV)=>[za c r33.1.sub])∧Made L g Z41 16 32 (fun (c:SlV)=>Value.agg (Term.C (⟨r33.1.kind,r33.1.name,r33.1.other,r33.1.form,c⟩ : Term)).toArray) (fun (c:SlV)=>[za c r33.1.sub])∧(L 18=true→g 7=Value.pointer (some ⟨b38,0,none⟩))∧(L 19=true → ∀ z ∈ [za s40 r33.1.sub],z ∈ Z41)∧O42=((bif L 19 then [oB b38 zb (Term.C (⟨r33.1.kind,r33.1.name,r33.1.other,r33.1.form,s40⟩ : Term))] else (bif L 18 then [oB b38 zb (Term.C (⟨0,ByteArray.empty,ByteArray.empty,0,SlV.nil⟩ : Term))] else [])) ++ [oB b12 zb (Term.C (⟨(at_ PTerm.z ((at_ PTerm.z a1.sub 0).sub) 0).kind,(at_ PTerm.z ((at_ PTerm.z a1.sub 0).sub) 0).name,(at_ PTerm.z ((at_ PTerm.z a1.sub 0).sub) 0).other,(at_ PTerm.z ((at_ PTerm.z a1.sub 0).sub) 0).form,s9⟩ : Term)),oB b4 zb (Term.C (⟨0,ByteArray.empty,ByteArray.empty,0,SlV.nil⟩ : Term)),oB b2 zb (Term.C (⟨a1.kind,a1.name,a1.other,a1.form,s_1⟩ : Term))])∧St A N w v O42 Z41) hmix jM (fun _ _ _ _ _ _ _ hv=>hv) (fun g=>⟨0,SlV.nil,_,_,fun _ h=>h,Made.no,Made.no,Made.no,Made.no,(fun h=>by cases h),(fun h=>by cases h),rfl,S.ext (Ext.drawn _)⟩) ⟨?_,?_,?_,?_,?_,?_,?_,?_,?_,?_,?_,?_,?_,?_,?_,?_,?_,?_,?_,?_,trivial⟩ ?_
 ·rintro L g v hL hcl hclo ⟨b38,s40,O42,Z41,hZ,hm13,hm14,hm15,hm16,hk18,hq19,hO,S⟩ 
  have hl19:L 19=false:=by cases h:L 19 with | false=>rfl | true=>exact absurd (hclo 19 0 h jM) (by rw [hL]; decide)
  have SR:St A N w v [oB b12 zb (Term.C (⟨(at_ PTerm.z ((at_ PTerm.z a1.sub 0).sub) 0).kind,(at_ PTerm.z ((at_ PTerm.z a1.sub 0).sub) 0).name,(at_ PTerm.z ((at_ PTerm.z a1.sub 0).sub) 0).other,(at_ PTerm.z ((at_ PTerm.z a1.sub 0).sub) 0).form,s9⟩ : Term)),oB b4 zb (Term.C (⟨0,ByteArray.empty,ByteArray.empty,0,SlV.nil⟩ : Term)),oB b2 zb (Term.C (⟨a1.kind,a1.name,a1.other,a1.form,s_1⟩ : Term))] (za s9 ((at_ PTerm.z ((at_ PTerm.z a1.sub 0).sub) 0).sub) :: za s6 ((at_ PTerm.z a1.sub 0).sub) :: oT a_0 a0 :: za s_1 a1.sub :: oPw :: oCl s9.blk (s9.off + Int.toNat 0 * 5) (Term.C (⟨(at_ PTerm.z ((at_ PTerm.z ((at_ PTerm.z a1.sub 0).sub) 0).sub) 0).kind,(at_ PTerm.z ((at_ PTerm.z ((at_ PTerm.z a1.sub 0).sub) 0).sub) 0).name,(at_ PTerm.z ((at_ PTerm.z ((at_ PTerm.z a1.sub 0).sub) 0).sub) 0).other,(at_ PTerm.z ((at_ PTerm.z ((at_ PTerm.z a1.sub 0).sub) 0).sub) 0).form,s23⟩ : Term)) :: za s23 ((at_ PTerm.z ((at_ PTerm.z ((at_ PTerm.z a1.sub 0).sub) 0).sub) 0).sub) :: oCl s_1.blk (s_1.off + Int.toNat 1 * 5) (Term.C (⟨(at_ PTerm.z a1.sub 1).kind,(at_ PTerm.z a1.sub 1).name,(at_ PTerm.z a1.sub 1).other,(at_ PTerm.z a1.sub 1).form,s25⟩ : Term)) :: za s25 ((at_ PTerm.z a1.sub 1).sub) :: Z41):=by
   have S2:=S.zneed hZ
   rw [hO] at S2
   simp only [hl19,cond_true,cond_false,List.nil_append,List.append_assoc,List.cons_append] at S2
   exact S2.drops
  refine wd (zh zO rfl (o':=4) rfl) ?_
  exact ze (ob4 trivial rfl ⟨b38,s40,O42,Z41,hZ,hm13.keep rfl rfl tl0,hm14.keep rfl rfl tl0,hm15.keep rfl rfl tl0,hm16.keep rfl rfl tl0,(fun h=>by rw [zr _ _ _ _ jJ]; exact hk18 (by rw [zf rfl] at h; exact h)),(fun h z q=>tl0 z (hq19 (by rw [zf rfl] at h; exact h) z q)),by rw [hO]; simp only [zf (L:=L) (i:=0) (j:=18) rfl,zf (L:=L) (i:=0) (j:=19) rfl],S⟩)
 ·rintro L g v hL hcl hclo ⟨b38,s40,O42,Z41,hZ,hm13,hm14,hm15,hm16,hk18,hq19,hO,S⟩ hv0
  have hl19:L 19=false:=by cases h:L 19 with | false=>rfl | true=>exact absurd (hclo 19 1 h jM) (by rw [hL]; decide)
  have SR:St A N w v [oB b12 zb (Term.C (⟨(at_ PTerm.z ((at_ PTerm.z a1.sub 0).sub) 0).kind,(at_ PTerm.z ((at_ PTerm.z a1.sub 0).sub) 0).name,(at_ PTerm.z ((at_ PTerm.z a1.sub 0).sub) 0).other,(at_ PTerm.z ((at_ PTerm.z a1.sub 0).sub) 0).form,s9⟩ : Term)),oB b4 zb (Term.C (⟨0,ByteArray.empty,ByteArray.empty,0,SlV.nil⟩ : Term)),oB b2 zb (Term.C (⟨a1.kind,a1.name,a1.other,a1.form,s_1⟩ : Term))] (za s9 ((at_ PTerm.z ((at_ PTerm.z a1.sub 0).sub) 0).sub) :: za s6 ((at_ PTerm.z a1.sub 0).sub) :: oT a_0 a0 :: za s_1 a1.sub :: oPw :: oCl s9.blk (s9.off + Int.toNat 0 * 5) (Term.C (⟨(at_ PTerm.z ((at_ PTerm.z ((at_ PTerm.z a1.sub 0).sub) 0).sub) 0).kind,(at_ PTerm.z ((at_ PTerm.z ((at_ PTerm.z a1.sub 0).sub) 0).sub) 0).name,(at_ PTerm.z ((at_ PTerm.z ((at_ PTerm.z a1.sub 0).sub) 0).sub) 0).other,(at_ PTerm.z ((at_ PTerm.z ((at_ PTerm.z a1.sub 0).sub) 0).sub) 0).form,s23⟩ : Term)) :: za s23 ((at_ PTerm.z ((at_ PTerm.z ((at_ PTerm.z a1.sub 0).sub) 0).sub) 0).sub) :: oCl s_1.blk (s_1.off + Int.toNat 1 * 5) (Term.C (⟨(at_ PTerm.z a1.sub 1).kind,(at_ PTerm.z a1.sub 1).name,(at_ PTerm.z a1.sub 1).other,(at_ PTerm.z a1.sub 1).form,s25⟩ : Term)) :: za s25 ((at_ PTerm.z a1.sub 1).sub) :: Z41):=by
   have S2:=S.zneed hZ
   rw [hO] at S2
   simp only [hl19,cond_true,cond_false,List.nil_append,List.append_assoc,List.cons_append] at S2
   exact S2.drops
  refine wd (zt zF hv0 ((SR.blk 0).cell (Term.get_sub _))) ?_
  exact ze (ob4 trivial rfl ⟨b38,s40,O42,Z41,hZ,hm13.keep rfl rfl tl0,hm14.keep rfl rfl tl0,hm15.keep rfl rfl tl0,hm16.keep rfl rfl tl0,(fun h=>by rw [zr _ _ _ _ jJ]; exact hk18 (by rw [zf rfl] at h; exact h)),(fun h z q=>tl0 z (hq19 (by rw [zf rfl] at h; exact h) z q)),by rw [hO]; simp only [zf (L:=L) (i:=1) (j:=18) rfl,zf (L:=L) (i:=1) (j:=19) rfl],S⟩)
 ·rintro L g v hL hcl hclo ⟨b38,s40,O42,Z41,hZ,hm13,hm14,hm15,hm16,hk18,hq19,hO,S⟩ hv1
  have hl19:L 19=false:=by cases h:L 19 with | false=>rfl | true=>exact absurd (hclo 19 2 h jM) (by rw [hL]; decide)
  have SR:St A N w v [oB b12 zb (Term.C (⟨(at_ PTerm.z ((at_ PTerm.z a1.sub 0).sub) 0).kind,(at_ PTerm.z ((at_ PTerm.z a1.sub 0).sub) 0).name,(at_ PTerm.z ((at_ PTerm.z a1.sub 0).sub) 0).other,(at_ PTerm.z ((at_ PTerm.z a1.sub 0).sub) 0).form,s9⟩ : Term)),oB b4 zb (Term.C (⟨0,ByteArray.empty,ByteArray.empty,0,SlV.nil⟩ : Term)),oB b2 zb (Term.C (⟨a1.kind,a1.name,a1.other,a1.form,s_1⟩ : Term))] (za s9 ((at_ PTerm.z ((at_ PTerm.z a1.sub 0).sub) 0).sub) :: za s6 ((at_ PTerm.z a1.sub 0).sub) :: oT a_0 a0 :: za s_1 a1.sub :: oPw :: oCl s9.blk (s9.off + Int.toNat 0 * 5) (Term.C (⟨(at_ PTerm.z ((at_ PTerm.z ((at_ PTerm.z a1.sub 0).sub) 0).sub) 0).kind,(at_ PTerm.z ((at_ PTerm.z ((at_ PTerm.z a1.sub 0).sub) 0).sub) 0).name,(at_ PTerm.z ((at_ PTerm.z ((at_ PTerm.z a1.sub 0).sub) 0).sub) 0).other,(at_ PTerm.z ((at_ PTerm.z ((at_ PTerm.z a1.sub 0).sub) 0).sub) 0).form,s23⟩ : Term)) :: za s23 ((at_ PTerm.z ((at_ PTerm.z ((at_ PTerm.z a1.sub 0).sub) 0).sub) 0).sub) :: oCl s_1.blk (s_1.off + Int.toNat 1 * 5) (Term.C (⟨(at_ PTerm.z a1.sub 1).kind,(at_ PTerm.z a1.sub 1).name,(at_ PTerm.z a1.sub 1).other,(at_ PTerm.z a1.sub 1).form,s25⟩ : Term)) :: za s25 ((at_ PTerm.z a1.sub 1).sub) :: Z41):=by
   have S2:=S.zneed hZ
   rw [hO] at S2
   simp only [hl19,cond_true,cond_false,List.nil_append,List.append_assoc,List.cons_append] at S2
   exact S2.drops
  refine wd (does_indexF zz hv1 rfl (SR.onZ 0) (zP hi22).1 (zP hi22).2) ?_
  exact ze (ob4 trivial rfl ⟨b38,s40,O42,Z41,hZ,hm13.keep rfl rfl tl0,hm14.keep rfl rfl tl0,hm15.keep rfl rfl tl0,hm16.keep rfl rfl tl0,(fun h=>by rw [zr _ _ _ _ jJ]; exact hk18 (by rw [zf rfl] at h; exact h)),(fun h z q=>tl0 z (hq19 (by rw [zf rfl] at h; exact h) z q)),by rw [hO]; simp only [zf (L:=L) (i:=2) (j:=18) rfl,zf (L:=L) (i:=2) (j:=19) rfl],S⟩)
 ·rintro L g v hL hcl hclo ⟨b38,s40,O42,Z41,hZ,hm13,hm14,hm15,hm16,hk18,hq19,hO,S⟩ hv2
  have hl19:L 19=false:=by cases h:L 19 with | false=>rfl | true=>exact absurd (hclo 19 3 h jM) (by rw [hL]; decide)
  have SR:St A N w v [oB b12 zb (Term.C (⟨(at_ PTerm.z ((at_ PTerm.z a1.sub 0).sub) 0).kind,(at_ PTerm.z ((at_ PTerm.z a1.sub 0).sub) 0).name,(at_ PTerm.z ((at_ PTerm.z a1.sub 0).sub) 0).other,(at_ PTerm.z ((at_ PTerm.z a1.sub 0).sub) 0).form,s9⟩ : Term)),oB b4 zb (Term.C (⟨0,ByteArray.empty,ByteArray.empty,0,SlV.nil⟩ : Term)),oB b2 zb (Term.C (⟨a1.kind,a1.name,a1.other,a1.form,s_1⟩ : Term))] (za s9 ((at_ PTerm.z ((at_ PTerm.z a1.sub 0).sub) 0).sub) :: za s6 ((at_ PTerm.z a1.sub 0).sub) :: oT a_0 a0 :: za s_1 a1.sub :: oPw :: oCl s9.blk (s9.off + Int.toNat 0 * 5) (Term.C (⟨(at_ PTerm.z ((at_ PTerm.z ((at_ PTerm.z a1.sub 0).sub) 0).sub) 0).kind,(at_ PTerm.z ((at_ PTerm.z ((at_ PTerm.z a1.sub 0).sub) 0).sub) 0).name,(at_ PTerm.z ((at_ PTerm.z ((at_ PTerm.z a1.sub 0).sub) 0).sub) 0).other,(at_ PTerm.z ((at_ PTerm.z ((at_ PTerm.z a1.sub 0).sub) 0).sub) 0).form,s23⟩ : Term)) :: za s23 ((at_ PTerm.z ((at_ PTerm.z ((at_ PTerm.z a1.sub 0).sub) 0).sub) 0).sub) :: oCl s_1.blk (s_1.off + Int.toNat 1 * 5) (Term.C (⟨(at_ PTerm.z a1.sub 1).kind,(at_ PTerm.z a1.sub 1).name,(at_ PTerm.z a1.sub 1).other,(at_ PTerm.z a1.sub 1).form,s25⟩ : Term)) :: za s25 ((at_ PTerm.z a1.sub 1).sub) :: Z41):=by
   have S2:=S.zneed hZ
   rw [hO] at S2
   simp only [hl19,cond_true,cond_false,List.nil_append,List.append_assoc,List.cons_append] at S2
   exact S2.drops
  refine wd (zi zq hv2 (SR.cl 5) (Term.len _)) ?_
  exact ze (ob4 trivial rfl ⟨b38,s40,O42,Z41,hZ,hm13.keep rfl rfl tl0,hm14.keep rfl rfl tl0,hm15.keep rfl rfl tl0,hm16.keep rfl rfl tl0,(fun h=>by rw [zr _ _ _ _ jJ]; exact hk18 (by rw [zf rfl] at h; exact h)),(fun h z q=>tl0 z (hq19 (by rw [zf rfl] at h; exact h) z q)),by rw [hO]; simp only [zf (L:=L) (i:=3) (j:=18) rfl,zf (L:=L) (i:=3) (j:=19) rfl],S⟩)
 ·rintro L g v hL hcl hclo ⟨b38,s40,O42,Z41,hZ,hm13,hm14,hm15,hm16,hk18,hq19,hO,S⟩ 
  have hl19:L 19=false:=by cases h:L 19 with | false=>rfl | true=>exact absurd (hclo 19 4 h jM) (by rw [hL]; decide)
  have SR:St A N w v [oB b12 zb (Term.C (⟨(at_ PTerm.z ((at_ PTerm.z a1.sub 0).sub) 0).kind,(at_ PTerm.z ((at_ PTerm.z a1.sub 0).sub) 0).name,(at_ PTerm.z ((at_ PTerm.z a1.sub 0).sub) 0).other,(at_ PTerm.z ((at_ PTerm.z a1.sub 0).sub) 0).form,s9⟩ : Term)),oB b4 zb (Term.C (⟨0,ByteArray.empty,ByteArray.empty,0,SlV.nil⟩ : Term)),oB b2 zb (Term.C (⟨a1.kind,a1.name,a1.other,a1.form,s_1⟩ : Term))] (za s9 ((at_ PTerm.z ((at_ PTerm.z a1.sub 0).sub) 0).sub) :: za s6 ((at_ PTerm.z a1.sub 0).sub) :: oT a_0 a0 :: za s_1 a1.sub :: oPw :: oCl s9.blk (s9.off + Int.toNat 0 * 5) (Term.C (⟨(at_ PTerm.z ((at_ PTerm.z ((at_ PTerm.z a1.sub 0).sub) 0).sub) 0).kind,(at_ PTerm.z ((at_ PTerm.z ((at_ PTerm.z a1.sub 0).sub) 0).sub) 0).name,(at_ PTerm.z ((at_ PTerm.z ((at_ PTerm.z a1.sub 0).sub) 0).sub) 0).other,(at_ PTerm.z ((at_ PTerm.z ((at_ PTerm.z a1.sub 0).sub) 0).sub) 0).form,s23⟩ : Term)) :: za s23 ((at_ PTerm.z ((at_ PTerm.z ((at_ PTerm.z a1.sub 0).sub) 0).sub) 0).sub) :: oCl s_1.blk (s_1.off + Int.toNat 1 * 5) (Term.C (⟨(at_ PTerm.z a1.sub 1).kind,(at_ PTerm.z a1.sub 1).name,(at_ PTerm.z a1.sub 1).other,(at_ PTerm.z a1.sub 1).form,s25⟩ : Term)) :: za s25 ((at_ PTerm.z a1.sub 1).sub) :: Z41):=by
   have S2:=S.zneed hZ
   rw [hO] at S2
   simp only [hl19,cond_true,cond_false,List.nil_append,List.append_assoc,List.cons_append] at S2
   exact S2.drops
  refine wd (zh xO rfl (o':=1) rfl) ?_
  exact ze (ob4 trivial rfl ⟨b38,s40,O42,Z41,hZ,hm13.keep rfl rfl tl0,hm14.keep rfl rfl tl0,hm15.keep rfl rfl tl0,hm16.keep rfl rfl tl0,(fun h=>by rw [zr _ _ _ _ jJ]; exact hk18 (by rw [zf rfl] at h; exact h)),(fun h z q=>tl0 z (hq19 (by rw [zf rfl] at h; exact h) z q)),by rw [hO]; simp only [zf (L:=L) (i:=4) (j:=18) rfl,zf (L:=L) (i:=4) (j:=19) rfl],S⟩)
 ·rintro L g v hL hcl hclo ⟨b38,s40,O42,Z41,hZ,hm13,hm14,hm15,hm16,hk18,hq19,hO,S⟩ hv4
  have hl19:L 19=false:=by cases h:L 19 with | false=>rfl | true=>exact absurd (hclo 19 5 h jM) (by rw [hL]; decide)
  have SR:St A N w v [oB b12 zb (Term.C (⟨(at_ PTerm.z ((at_ PTerm.z a1.sub 0).sub) 0).kind,(at_ PTerm.z ((at_ PTerm.z a1.sub 0).sub) 0).name,(at_ PTerm.z ((at_ PTerm.z a1.sub 0).sub) 0).other,(at_ PTerm.z ((at_ PTerm.z a1.sub 0).sub) 0).form,s9⟩ : Term)),oB b4 zb (Term.C (⟨0,ByteArray.empty,ByteArray.empty,0,SlV.nil⟩ : Term)),oB b2 zb (Term.C (⟨a1.kind,a1.name,a1.other,a1.form,s_1⟩ : Term))] (za s9 ((at_ PTerm.z ((at_ PTerm.z a1.sub 0).sub) 0).sub) :: za s6 ((at_ PTerm.z a1.sub 0).sub) :: oT a_0 a0 :: za s_1 a1.sub :: oPw :: oCl s9.blk (s9.off + Int.toNat 0 * 5) (Term.C (⟨(at_ PTerm.z ((at_ PTerm.z ((at_ PTerm.z a1.sub 0).sub) 0).sub) 0).kind,(at_ PTerm.z ((at_ PTerm.z ((at_ PTerm.z a1.sub 0).sub) 0).sub) 0).name,(at_ PTerm.z ((at_ PTerm.z ((at_ PTerm.z a1.sub 0).sub) 0).sub) 0).other,(at_ PTerm.z ((at_ PTerm.z ((at_ PTerm.z a1.sub 0).sub) 0).sub) 0).form,s23⟩ : Term)) :: za s23 ((at_ PTerm.z ((at_ PTerm.z ((at_ PTerm.z a1.sub 0).sub) 0).sub) 0).sub) :: oCl s_1.blk (s_1.off + Int.toNat 1 * 5) (Term.C (⟨(at_ PTerm.z a1.sub 1).kind,(at_ PTerm.z a1.sub 1).name,(at_ PTerm.z a1.sub 1).other,(at_ PTerm.z a1.sub 1).form,s25⟩ : Term)) :: za s25 ((at_ PTerm.z a1.sub 1).sub) :: Z41):=by
   have S2:=S.zneed hZ
   rw [hO] at S2
   simp only [hl19,cond_true,cond_false,List.nil_append,List.append_assoc,List.cons_append] at S2
   exact S2.drops
  refine wd (zt xz hv4 ((SR.blk 0).cell (Term.get_name _))) ?_
  exact ze (ob4 trivial rfl ⟨b38,s40,O42,Z41,hZ,hm13.keep rfl rfl tl0,hm14.keep rfl rfl tl0,hm15.keep rfl rfl tl0,hm16.keep rfl rfl tl0,(fun h=>by rw [zr _ _ _ _ jJ]; exact hk18 (by rw [zf rfl] at h; exact h)),(fun h z q=>tl0 z (hq19 (by rw [zf rfl] at h; exact h) z q)),by rw [hO]; simp only [zf (L:=L) (i:=5) (j:=18) rfl,zf (L:=L) (i:=5) (j:=19) rfl],S⟩)
 ·rintro L g v hL hcl hclo ⟨b38,s40,O42,Z41,hZ,hm13,hm14,hm15,hm16,hk18,hq19,hO,S⟩ 
  have hl19:L 19=false:=by cases h:L 19 with | false=>rfl | true=>exact absurd (hclo 19 6 h jM) (by rw [hL]; decide)
  have SR:St A N w v [oB b12 zb (Term.C (⟨(at_ PTerm.z ((at_ PTerm.z a1.sub 0).sub) 0).kind,(at_ PTerm.z ((at_ PTerm.z a1.sub 0).sub) 0).name,(at_ PTerm.z ((at_ PTerm.z a1.sub 0).sub) 0).other,(at_ PTerm.z ((at_ PTerm.z a1.sub 0).sub) 0).form,s9⟩ : Term)),oB b4 zb (Term.C (⟨0,ByteArray.empty,ByteArray.empty,0,SlV.nil⟩ : Term)),oB b2 zb (Term.C (⟨a1.kind,a1.name,a1.other,a1.form,s_1⟩ : Term))] (za s9 ((at_ PTerm.z ((at_ PTerm.z a1.sub 0).sub) 0).sub) :: za s6 ((at_ PTerm.z a1.sub 0).sub) :: oT a_0 a0 :: za s_1 a1.sub :: oPw :: oCl s9.blk (s9.off + Int.toNat 0 * 5) (Term.C (⟨(at_ PTerm.z ((at_ PTerm.z ((at_ PTerm.z a1.sub 0).sub) 0).sub) 0).kind,(at_ PTerm.z ((at_ PTerm.z ((at_ PTerm.z a1.sub 0).sub) 0).sub) 0).name,(at_ PTerm.z ((at_ PTerm.z ((at_ PTerm.z a1.sub 0).sub) 0).sub) 0).other,(at_ PTerm.z ((at_ PTerm.z ((at_ PTerm.z a1.sub 0).sub) 0).sub) 0).form,s23⟩ : Term)) :: za s23 ((at_ PTerm.z ((at_ PTerm.z ((at_ PTerm.z a1.sub 0).sub) 0).sub) 0).sub) :: oCl s_1.blk (s_1.off + Int.toNat 1 * 5) (Term.C (⟨(at_ PTerm.z a1.sub 1).kind,(at_ PTerm.z a1.sub 1).name,(at_ PTerm.z a1.sub 1).other,(at_ PTerm.z a1.sub 1).form,s25⟩ : Term)) :: za s25 ((at_ PTerm.z a1.sub 1).sub) :: Z41):=by
   have S2:=S.zneed hZ
   rw [hO] at S2
   simp only [hl19,cond_true,cond_false,List.nil_append,List.append_assoc,List.cons_append] at S2
   exact S2.drops
  refine wd (zh zO rfl (o':=4) rfl) ?_
  exact ze (ob4 trivial rfl ⟨b38,s40,O42,Z41,hZ,hm13.keep rfl rfl tl0,hm14.keep rfl rfl tl0,hm15.keep rfl rfl tl0,hm16.keep rfl rfl tl0,(fun h=>by rw [zr _ _ _ _ jJ]; exact hk18 (by rw [zf rfl] at h; exact h)),(fun h z q=>tl0 z (hq19 (by rw [zf rfl] at h; exact h) z q)),by rw [hO]; simp only [zf (L:=L) (i:=6) (j:=18) rfl,zf (L:=L) (i:=6) (j:=19) rfl],S⟩)
 ·rintro L g v hL hcl hclo ⟨b38,s40,O42,Z41,hZ,hm13,hm14,hm15,hm16,hk18,hq19,hO,S⟩ hv6
  have hl19:L 19=false:=by cases h:L 19 with | false=>rfl | true=>exact absurd (hclo 19 7 h jM) (by rw [hL]; decide)
  have SR:St A N w v [oB b12 zb (Term.C (⟨(at_ PTerm.z ((at_ PTerm.z a1.sub 0).sub) 0).kind,(at_ PTerm.z ((at_ PTerm.z a1.sub 0).sub) 0).name,(at_ PTerm.z ((at_ PTerm.z a1.sub 0).sub) 0).other,(at_ PTerm.z ((at_ PTerm.z a1.sub 0).sub) 0).form,s9⟩ : Term)),oB b4 zb (Term.C (⟨0,ByteArray.empty,ByteArray.empty,0,SlV.nil⟩ : Term)),oB b2 zb (Term.C (⟨a1.kind,a1.name,a1.other,a1.form,s_1⟩ : Term))] (za s9 ((at_ PTerm.z ((at_ PTerm.z a1.sub 0).sub) 0).sub) :: za s6 ((at_ PTerm.z a1.sub 0).sub) :: oT a_0 a0 :: za s_1 a1.sub :: oPw :: oCl s9.blk (s9.off + Int.toNat 0 * 5) (Term.C (⟨(at_ PTerm.z ((at_ PTerm.z ((at_ PTerm.z a1.sub 0).sub) 0).sub) 0).kind,(at_ PTerm.z ((at_ PTerm.z ((at_ PTerm.z a1.sub 0).sub) 0).sub) 0).name,(at_ PTerm.z ((at_ PTerm.z ((at_ PTerm.z a1.sub 0).sub) 0).sub) 0).other,(at_ PTerm.z ((at_ PTerm.z ((at_ PTerm.z a1.sub 0).sub) 0).sub) 0).form,s23⟩ : Term)) :: za s23 ((at_ PTerm.z ((at_ PTerm.z ((at_ PTerm.z a1.sub 0).sub) 0).sub) 0).sub) :: oCl s_1.blk (s_1.off + Int.toNat 1 * 5) (Term.C (⟨(at_ PTerm.z a1.sub 1).kind,(at_ PTerm.z a1.sub 1).name,(at_ PTerm.z a1.sub 1).other,(at_ PTerm.z a1.sub 1).form,s25⟩ : Term)) :: za s25 ((at_ PTerm.z a1.sub 1).sub) :: Z41):=by
   have S2:=S.zneed hZ
   rw [hO] at S2
   simp only [hl19,cond_true,cond_false,List.nil_append,List.append_assoc,List.cons_append] at S2
   exact S2.drops
  refine wd (zt zF hv6 ((SR.blk 2).cell (Term.get_sub _))) ?_
  exact ze (ob4 trivial rfl ⟨b38,s40,O42,Z41,hZ,hm13.keep rfl rfl tl0,hm14.keep rfl rfl tl0,hm15.keep rfl rfl tl0,hm16.keep rfl rfl tl0,(fun h=>by rw [zr _ _ _ _ jJ]; exact hk18 (by rw [zf rfl] at h; exact h)),(fun h z q=>tl0 z (hq19 (by rw [zf rfl] at h; exact h) z q)),by rw [hO]; simp only [zf (L:=L) (i:=7) (j:=18) rfl,zf (L:=L) (i:=7) (j:=19) rfl],S⟩)
 ·rintro L g v hL hcl hclo ⟨b38,s40,O42,Z41,hZ,hm13,hm14,hm15,hm16,hk18,hq19,hO,S⟩ hv7
  have hl19:L 19=false:=by cases h:L 19 with | false=>rfl | true=>exact absurd (hclo 19 8 h jM) (by rw [hL]; decide)
  have SR:St A N w v [oB b12 zb (Term.C (⟨(at_ PTerm.z ((at_ PTerm.z a1.sub 0).sub) 0).kind,(at_ PTerm.z ((at_ PTerm.z a1.sub 0).sub) 0).name,(at_ PTerm.z ((at_ PTerm.z a1.sub 0).sub) 0).other,(at_ PTerm.z ((at_ PTerm.z a1.sub 0).sub) 0).form,s9⟩ : Term)),oB b4 zb (Term.C (⟨0,ByteArray.empty,ByteArray.empty,0,SlV.nil⟩ : Term)),oB b2 zb (Term.C (⟨a1.kind,a1.name,a1.other,a1.form,s_1⟩ : Term))] (za s9 ((at_ PTerm.z ((at_ PTerm.z a1.sub 0).sub) 0).sub) :: za s6 ((at_ PTerm.z a1.sub 0).sub) :: oT a_0 a0 :: za s_1 a1.sub :: oPw :: oCl s9.blk (s9.off + Int.toNat 0 * 5) (Term.C (⟨(at_ PTerm.z ((at_ PTerm.z ((at_ PTerm.z a1.sub 0).sub) 0).sub) 0).kind,(at_ PTerm.z ((at_ PTerm.z ((at_ PTerm.z a1.sub 0).sub) 0).sub) 0).name,(at_ PTerm.z ((at_ PTerm.z ((at_ PTerm.z a1.sub 0).sub) 0).sub) 0).other,(at_ PTerm.z ((at_ PTerm.z ((at_ PTerm.z a1.sub 0).sub) 0).sub) 0).form,s23⟩ : Term)) :: za s23 ((at_ PTerm.z ((at_ PTerm.z ((at_ PTerm.z a1.sub 0).sub) 0).sub) 0).sub) :: oCl s_1.blk (s_1.off + Int.toNat 1 * 5) (Term.C (⟨(at_ PTerm.z a1.sub 1).kind,(at_ PTerm.z a1.sub 1).name,(at_ PTerm.z a1.sub 1).other,(at_ PTerm.z a1.sub 1).form,s25⟩ : Term)) :: za s25 ((at_ PTerm.z a1.sub 1).sub) :: Z41):=by
   have S2:=S.zneed hZ
   rw [hO] at S2
   simp only [hl19,cond_true,cond_false,List.nil_append,List.append_assoc,List.cons_append] at S2
   exact S2.drops
  refine wd (does_indexF zz hv7 rfl (SR.onZ 3) (zP hi24).1 (zP hi24).2) ?_
  exact ze (ob4 trivial rfl ⟨b38,s40,O42,Z41,hZ,hm13.keep rfl rfl tl0,hm14.keep rfl rfl tl0,hm15.keep rfl rfl tl0,hm16.keep rfl rfl tl0,(fun h=>by rw [zr _ _ _ _ jJ]; exact hk18 (by rw [zf rfl] at h; exact h)),(fun h z q=>tl0 z (hq19 (by rw [zf rfl] at h; exact h) z q)),by rw [hO]; simp only [zf (L:=L) (i:=8) (j:=18) rfl,zf (L:=L) (i:=8) (j:=19) rfl],S⟩)
 ·rintro L g v hL hcl hclo ⟨b38,s40,O42,Z41,hZ,hm13,hm14,hm15,hm16,hk18,hq19,hO,S⟩ hv8
  have hl19:L 19=false:=by cases h:L 19 with | false=>rfl | true=>exact absurd (hclo 19 9 h jM) (by rw [hL]; decide)
  have SR:St A N w v [oB b12 zb (Term.C (⟨(at_ PTerm.z ((at_ PTerm.z a1.sub 0).sub) 0).kind,(at_ PTerm.z ((at_ PTerm.z a1.sub 0).sub) 0).name,(at_ PTerm.z ((at_ PTerm.z a1.sub 0).sub) 0).other,(at_ PTerm.z ((at_ PTerm.z a1.sub 0).sub) 0).form,s9⟩ : Term)),oB b4 zb (Term.C (⟨0,ByteArray.empty,ByteArray.empty,0,SlV.nil⟩ : Term)),oB b2 zb (Term.C (⟨a1.kind,a1.name,a1.other,a1.form,s_1⟩ : Term))] (za s9 ((at_ PTerm.z ((at_ PTerm.z a1.sub 0).sub) 0).sub) :: za s6 ((at_ PTerm.z a1.sub 0).sub) :: oT a_0 a0 :: za s_1 a1.sub :: oPw :: oCl s9.blk (s9.off + Int.toNat 0 * 5) (Term.C (⟨(at_ PTerm.z ((at_ PTerm.z ((at_ PTerm.z a1.sub 0).sub) 0).sub) 0).kind,(at_ PTerm.z ((at_ PTerm.z ((at_ PTerm.z a1.sub 0).sub) 0).sub) 0).name,(at_ PTerm.z ((at_ PTerm.z ((at_ PTerm.z a1.sub 0).sub) 0).sub) 0).other,(at_ PTerm.z ((at_ PTerm.z ((at_ PTerm.z a1.sub 0).sub) 0).sub) 0).form,s23⟩ : Term)) :: za s23 ((at_ PTerm.z ((at_ PTerm.z ((at_ PTerm.z a1.sub 0).sub) 0).sub) 0).sub) :: oCl s_1.blk (s_1.off + Int.toNat 1 * 5) (Term.C (⟨(at_ PTerm.z a1.sub 1).kind,(at_ PTerm.z a1.sub 1).name,(at_ PTerm.z a1.sub 1).other,(at_ PTerm.z a1.sub 1).form,s25⟩ : Term)) :: za s25 ((at_ PTerm.z a1.sub 1).sub) :: Z41):=by
   have S2:=S.zneed hZ
   rw [hO] at S2
   simp only [hl19,cond_true,cond_false,List.nil_append,List.append_assoc,List.cons_append] at S2
   exact S2.drops
  refine wd (zi zq hv8 (SR.cl 7) (Term.len _)) ?_
  exact ze (ob4 trivial rfl ⟨b38,s40,O42,Z41,hZ,hm13.keep rfl rfl tl0,hm14.keep rfl rfl tl0,hm15.keep rfl rfl tl0,hm16.keep rfl rfl tl0,(fun h=>by rw [zr _ _ _ _ jJ]; exact hk18 (by rw [zf rfl] at h; exact h)),(fun h z q=>tl0 z (hq19 (by rw [zf rfl] at h; exact h) z q)),by rw [hO]; simp only [zf (L:=L) (i:=9) (j:=18) rfl,zf (L:=L) (i:=9) (j:=19) rfl],S⟩)
 ·rintro L g v hL hcl hclo ⟨b38,s40,O42,Z41,hZ,hm13,hm14,hm15,hm16,hk18,hq19,hO,S⟩ 
  have hl19:L 19=false:=by cases h:L 19 with | false=>rfl | true=>exact absurd (hclo 19 10 h jM) (by rw [hL]; decide)
  have SR:St A N w v [oB b12 zb (Term.C (⟨(at_ PTerm.z ((at_ PTerm.z a1.sub 0).sub) 0).kind,(at_ PTerm.z ((at_ PTerm.z a1.sub 0).sub) 0).name,(at_ PTerm.z ((at_ PTerm.z a1.sub 0).sub) 0).other,(at_ PTerm.z ((at_ PTerm.z a1.sub 0).sub) 0).form,s9⟩ : Term)),oB b4 zb (Term.C (⟨0,ByteArray.empty,ByteArray.empty,0,SlV.nil⟩ : Term)),oB b2 zb (Term.C (⟨a1.kind,a1.name,a1.other,a1.form,s_1⟩ : Term))] (za s9 ((at_ PTerm.z ((at_ PTerm.z a1.sub 0).sub) 0).sub) :: za s6 ((at_ PTerm.z a1.sub 0).sub) :: oT a_0 a0 :: za s_1 a1.sub :: oPw :: oCl s9.blk (s9.off + Int.toNat 0 * 5) (Term.C (⟨(at_ PTerm.z ((at_ PTerm.z ((at_ PTerm.z a1.sub 0).sub) 0).sub) 0).kind,(at_ PTerm.z ((at_ PTerm.z ((at_ PTerm.z a1.sub 0).sub) 0).sub) 0).name,(at_ PTerm.z ((at_ PTerm.z ((at_ PTerm.z a1.sub 0).sub) 0).sub) 0).other,(at_ PTerm.z ((at_ PTerm.z ((at_ PTerm.z a1.sub 0).sub) 0).sub) 0).form,s23⟩ : Term)) :: za s23 ((at_ PTerm.z ((at_ PTerm.z ((at_ PTerm.z a1.sub 0).sub) 0).sub) 0).sub) :: oCl s_1.blk (s_1.off + Int.toNat 1 * 5) (Term.C (⟨(at_ PTerm.z a1.sub 1).kind,(at_ PTerm.z a1.sub 1).name,(at_ PTerm.z a1.sub 1).other,(at_ PTerm.z a1.sub 1).form,s25⟩ : Term)) :: za s25 ((at_ PTerm.z a1.sub 1).sub) :: Z41):=by
   have S2:=S.zneed hZ
   rw [hO] at S2
   simp only [hl19,cond_true,cond_false,List.nil_append,List.append_assoc,List.cons_append] at S2
   exact S2.drops
  refine wd (zN rfl) ?_
  exact ze (ob4 trivial rfl ⟨b38,s40,O42,Z41,hZ,hm13.keep rfl rfl tl0,hm14.keep rfl rfl tl0,hm15.keep rfl rfl tl0,hm16.keep rfl rfl tl0,(fun h=>by rw [zr _ _ _ _ jJ]; exact hk18 (by rw [zf rfl] at h; exact h)),(fun h z q=>tl0 z (hq19 (by rw [zf rfl] at h; exact h) z q)),by rw [hO]; simp only [zf (L:=L) (i:=10) (j:=18) rfl,zf (L:=L) (i:=10) (j:=19) rfl],S⟩)
 ·rintro L g v hL hcl hclo ⟨b38,s40,O42,Z41,hZ,hm13,hm14,hm15,hm16,hk18,hq19,hO,S⟩ 
  have hl19:L 19=false:=by cases h:L 19 with | false=>rfl | true=>exact absurd (hclo 19 11 h jM) (by rw [hL]; decide)
  have SR:St A N w v [oB b12 zb (Term.C (⟨(at_ PTerm.z ((at_ PTerm.z a1.sub 0).sub) 0).kind,(at_ PTerm.z ((at_ PTerm.z a1.sub 0).sub) 0).name,(at_ PTerm.z ((at_ PTerm.z a1.sub 0).sub) 0).other,(at_ PTerm.z ((at_ PTerm.z a1.sub 0).sub) 0).form,s9⟩ : Term)),oB b4 zb (Term.C (⟨0,ByteArray.empty,ByteArray.empty,0,SlV.nil⟩ : Term)),oB b2 zb (Term.C (⟨a1.kind,a1.name,a1.other,a1.form,s_1⟩ : Term))] (za s9 ((at_ PTerm.z ((at_ PTerm.z a1.sub 0).sub) 0).sub) :: za s6 ((at_ PTerm.z a1.sub 0).sub) :: oT a_0 a0 :: za s_1 a1.sub :: oPw :: oCl s9.blk (s9.off + Int.toNat 0 * 5) (Term.C (⟨(at_ PTerm.z ((at_ PTerm.z ((at_ PTerm.z a1.sub 0).sub) 0).sub) 0).kind,(at_ PTerm.z ((at_ PTerm.z ((at_ PTerm.z a1.sub 0).sub) 0).sub) 0).name,(at_ PTerm.z ((at_ PTerm.z ((at_ PTerm.z a1.sub 0).sub) 0).sub) 0).other,(at_ PTerm.z ((at_ PTerm.z ((at_ PTerm.z a1.sub 0).sub) 0).sub) 0).form,s23⟩ : Term)) :: za s23 ((at_ PTerm.z ((at_ PTerm.z ((at_ PTerm.z a1.sub 0).sub) 0).sub) 0).sub) :: oCl s_1.blk (s_1.off + Int.toNat 1 * 5) (Term.C (⟨(at_ PTerm.z a1.sub 1).kind,(at_ PTerm.z a1.sub 1).name,(at_ PTerm.z a1.sub 1).other,(at_ PTerm.z a1.sub 1).form,s25⟩ : Term)) :: za s25 ((at_ PTerm.z a1.sub 1).sub) :: Z41):=by
   have S2:=S.zneed hZ
   rw [hO] at S2
   simp only [hl19,cond_true,cond_false,List.nil_append,List.append_assoc,List.cons_append] at S2
   exact S2.drops
  refine wd (zi zq rfl ((SR.blk 2).all _ (Term.len _)) (Term.len _)) ?_
  exact ze (ob4 trivial rfl ⟨b38,s40,O42,Z41,hZ,hm13.keep rfl rfl tl0,hm14.keep rfl rfl tl0,hm15.keep rfl rfl tl0,hm16.keep rfl rfl tl0,(fun h=>by rw [zr _ _ _ _ jJ]; exact hk18 (by rw [zf rfl] at h; exact h)),(fun h z q=>tl0 z (hq19 (by rw [zf rfl] at h; exact h) z q)),by rw [hO]; simp only [zf (L:=L) (i:=11) (j:=18) rfl,zf (L:=L) (i:=11) (j:=19) rfl],S⟩)
 ·rintro L g v hL hcl hclo ⟨b38,s40,O42,Z41,hZ,hm13,hm14,hm15,hm16,hk18,hq19,hO,S⟩ hv10 hv11
  have hl19:L 19=false:=by cases h:L 19 with | false=>rfl | true=>exact absurd (hclo 19 12 h jM) (by rw [hL]; decide)
  have SR:St A N w v [oB b12 zb (Term.C (⟨(at_ PTerm.z ((at_ PTerm.z a1.sub 0).sub) 0).kind,(at_ PTerm.z ((at_ PTerm.z a1.sub 0).sub) 0).name,(at_ PTerm.z ((at_ PTerm.z a1.sub 0).sub) 0).other,(at_ PTerm.z ((at_ PTerm.z a1.sub 0).sub) 0).form,s9⟩ : Term)),oB b4 zb (Term.C (⟨0,ByteArray.empty,ByteArray.empty,0,SlV.nil⟩ : Term)),oB b2 zb (Term.C (⟨a1.kind,a1.name,a1.other,a1.form,s_1⟩ : Term))] (za s9 ((at_ PTerm.z ((at_ PTerm.z a1.sub 0).sub) 0).sub) :: za s6 ((at_ PTerm.z a1.sub 0).sub) :: oT a_0 a0 :: za s_1 a1.sub :: oPw :: oCl s9.blk (s9.off + Int.toNat 0 * 5) (Term.C (⟨(at_ PTerm.z ((at_ PTerm.z ((at_ PTerm.z a1.sub 0).sub) 0).sub) 0).kind,(at_ PTerm.z ((at_ PTerm.z ((at_ PTerm.z a1.sub 0).sub) 0).sub) 0).name,(at_ PTerm.z ((at_ PTerm.z ((at_ PTerm.z a1.sub 0).sub) 0).sub) 0).other,(at_ PTerm.z ((at_ PTerm.z ((at_ PTerm.z a1.sub 0).sub) 0).sub) 0).form,s23⟩ : Term)) :: za s23 ((at_ PTerm.z ((at_ PTerm.z ((at_ PTerm.z a1.sub 0).sub) 0).sub) 0).sub) :: oCl s_1.blk (s_1.off + Int.toNat 1 * 5) (Term.C (⟨(at_ PTerm.z a1.sub 1).kind,(at_ PTerm.z a1.sub 1).name,(at_ PTerm.z a1.sub 1).other,(at_ PTerm.z a1.sub 1).form,s25⟩ : Term)) :: za s25 ((at_ PTerm.z a1.sub 1).sub) :: Z41):=by
   have S2:=S.zneed hZ
   rw [hO] at S2
   simp only [hl19,cond_true,cond_false,List.nil_append,List.append_assoc,List.cons_append] at S2
   exact S2.drops
  refine (have ⟨M,SS⟩ := SR.lend ((.z 2 rfl (.z 3 rfl .nil))); zJ (zS uh (zX hv10 (zX hv11 (zX rfl rfl)))) jJ (quiet (uq SS er26) (fun v w' h=>⟨h.1,_,_,h.2⟩)) ?_)
  rintro _ v2 ⟨rfl,hx⟩
  exact ze (ob4 trivial rfl ⟨b38,s40,O42,Z41,hZ,hm13.keep rfl rfl tl0,hm14.keep rfl rfl tl0,hm15.keep rfl rfl tl0,hm16.keep rfl rfl tl0,(fun h=>by rw [zr _ _ _ _ jJ]; exact hk18 (by rw [zf rfl] at h; exact h)),(fun h z q=>tl0 z (hq19 (by rw [zf rfl] at h; exact h) z q)),by rw [hO]; simp only [zf (L:=L) (i:=12) (j:=18) rfl,zf (L:=L) (i:=12) (j:=19) rfl],S.ext hx⟩)
 ·rintro L g v hL hcl hclo ⟨b38,s40,O42,Z41,hZ,hm13,hm14,hm15,hm16,hk18,hq19,hO,S⟩ hv9 hv12
  have hl19:L 19=false:=by cases h:L 19 with | false=>rfl | true=>exact absurd (hclo 19 13 h jM) (by rw [hL]; decide)
  replace S:=S.zneed hZ
  replace S:St A N w v (O42) (za s9 ((at_ PTerm.z ((at_ PTerm.z a1.sub 0).sub) 0).sub) :: za s6 ((at_ PTerm.z a1.sub 0).sub) :: oT a_0 a0 :: za s_1 a1.sub :: oPw :: oCl s9.blk (s9.off + Int.toNat 0 * 5) (Term.C (⟨(at_ PTerm.z ((at_ PTerm.z ((at_ PTerm.z a1.sub 0).sub) 0).sub) 0).kind,(at_ PTerm.z ((at_ PTerm.z ((at_ PTerm.z a1.sub 0).sub) 0).sub) 0).name,(at_ PTerm.z ((at_ PTerm.z ((at_ PTerm.z a1.sub 0).sub) 0).sub) 0).other,(at_ PTerm.z ((at_ PTerm.z ((at_ PTerm.z a1.sub 0).sub) 0).sub) 0).form,s23⟩ : Term)) :: za s23 ((at_ PTerm.z ((at_ PTerm.z ((at_ PTerm.z a1.sub 0).sub) 0).sub) 0).sub) :: oCl s_1.blk (s_1.off + Int.toNat 1 * 5) (Term.C (⟨(at_ PTerm.z a1.sub 1).kind,(at_ PTerm.z a1.sub 1).name,(at_ PTerm.z a1.sub 1).other,(at_ PTerm.z a1.sub 1).form,s25⟩ : Term)) :: za s25 ((at_ PTerm.z a1.sub 1).sub) :: Z41):=S
  obtain ⟨B47,MB47,SB47,back⟩ := S.sub [8] [] (O42)
  refine zJ (zS uF (zX hv9 (zX hv12 rfl))) jJ (uG (a0:=(at_ PTerm.z a1.sub 1)) SB47 er29) ?_
  rintro _ w46 ⟨s48,rfl,S2⟩
  replace S:St A N w w46 (O42) (za s48 r29.sub :: za s9 ((at_ PTerm.z ((at_ PTerm.z a1.sub 0).sub) 0).sub) :: za s6 ((at_ PTerm.z a1.sub 0).sub) :: oT a_0 a0 :: za s_1 a1.sub :: oPw :: oCl s9.blk (s9.off + Int.toNat 0 * 5) (Term.C (⟨(at_ PTerm.z ((at_ PTerm.z ((at_ PTerm.z a1.sub 0).sub) 0).sub) 0).kind,(at_ PTerm.z ((at_ PTerm.z ((at_ PTerm.z a1.sub 0).sub) 0).sub) 0).name,(at_ PTerm.z ((at_ PTerm.z ((at_ PTerm.z a1.sub 0).sub) 0).sub) 0).other,(at_ PTerm.z ((at_ PTerm.z ((at_ PTerm.z a1.sub 0).sub) 0).sub) 0).form,s23⟩ : Term)) :: za s23 ((at_ PTerm.z ((at_ PTerm.z ((at_ PTerm.z a1.sub 0).sub) 0).sub) 0).sub) :: oCl s_1.blk (s_1.off + Int.toNat 1 * 5) (Term.C (⟨(at_ PTerm.z a1.sub 1).kind,(at_ PTerm.z a1.sub 1).name,(at_ PTerm.z a1.sub 1).other,(at_ PTerm.z a1.sub 1).form,s25⟩ : Term)) :: za s25 ((at_ PTerm.z a1.sub 1).sub) :: Z41):=back _ _ _ _ _ S2 rfl rfl
  clear back S2 SB47
  exact ze (ob4 trivial trivial ⟨b38,s40,O42,_,(fun z h=>tl10 z (hZ z h)),Made.one (val:=(fun (c:SlV)=>Value.agg (Term.C (⟨r29.kind,r29.name,r29.other,r29.form,c⟩ : Term)).toArray)) (ps:=(fun (c:SlV)=>[za c r29.sub])) s48 (xP List.mem_cons_self yf),hm14.keep rfl rfl tl10,hm15.keep rfl rfl tl10,hm16.keep rfl rfl tl10,(fun h=>by rw [zr _ _ _ _ jJ]; exact hk18 (by rw [zf rfl] at h; exact h)),(fun h z q=>tl10 z (hq19 (by rw [zf rfl] at h; exact h) z q)),by rw [hO]; simp only [zf (L:=L) (i:=13) (j:=18) rfl,zf (L:=L) (i:=13) (j:=19) rfl],S⟩)
 ·rintro L g v hL hcl hclo ⟨b38,s40,O42,Z41,hZ,hm13,hm14,hm15,hm16,hk18,hq19,hO,S⟩ hv3 hv5 _
  obtain ⟨s32,he13,hp13⟩ := hm13 (hcl 13 jM)
  have hl19:L 19=false:=by cases h:L 19 with | false=>rfl | true=>exact absurd (hclo 19 14 h jM) (by rw [hL]; decide)
  replace S:=S.zneed (xy (l1:=[za s32 r29.sub]) hp13 hZ)
  replace S:St A N w v (O42) (za s32 r29.sub :: za s9 ((at_ PTerm.z ((at_ PTerm.z a1.sub 0).sub) 0).sub) :: za s6 ((at_ PTerm.z a1.sub 0).sub) :: oT a_0 a0 :: za s_1 a1.sub :: oPw :: oCl s9.blk (s9.off + Int.toNat 0 * 5) (Term.C (⟨(at_ PTerm.z ((at_ PTerm.z ((at_ PTerm.z a1.sub 0).sub) 0).sub) 0).kind,(at_ PTerm.z ((at_ PTerm.z ((at_ PTerm.z a1.sub 0).sub) 0).sub) 0).name,(at_ PTerm.z ((at_ PTerm.z ((at_ PTerm.z a1.sub 0).sub) 0).sub) 0).other,(at_ PTerm.z ((at_ PTerm.z ((at_ PTerm.z a1.sub 0).sub) 0).sub) 0).form,s23⟩ : Term)) :: za s23 ((at_ PTerm.z ((at_ PTerm.z ((at_ PTerm.z a1.sub 0).sub) 0).sub) 0).sub) :: oCl s_1.blk (s_1.off + Int.toNat 1 * 5) (Term.C (⟨(at_ PTerm.z a1.sub 1).kind,(at_ PTerm.z a1.sub 1).name,(at_ PTerm.z a1.sub 1).other,(at_ PTerm.z a1.sub 1).form,s25⟩ : Term)) :: za s25 ((at_ PTerm.z a1.sub 1).sub) :: Z41):=S
  obtain ⟨B51,MB51,SB51,back⟩ := S.sub [7,0,5] [] (O42)
  refine zJ (zS uN (zX hv3 (zX hv5 (zX he13 rfl)))) jJ (uP (a0:=(at_ PTerm.z ((at_ PTerm.z ((at_ PTerm.z a1.sub 0).sub) 0).sub) 0)) (a2:=r29) SB51 er33) ?_
  rintro _ w50 ⟨s52,rfl,S2⟩
  replace S:St A N w w50 (O42) (za s52 r33.1.sub :: za s32 r29.sub :: za s9 ((at_ PTerm.z ((at_ PTerm.z a1.sub 0).sub) 0).sub) :: za s6 ((at_ PTerm.z a1.sub 0).sub) :: oT a_0 a0 :: za s_1 a1.sub :: oPw :: oCl s9.blk (s9.off + Int.toNat 0 * 5) (Term.C (⟨(at_ PTerm.z ((at_ PTerm.z ((at_ PTerm.z a1.sub 0).sub) 0).sub) 0).kind,(at_ PTerm.z ((at_ PTerm.z ((at_ PTerm.z a1.sub 0).sub) 0).sub) 0).name,(at_ PTerm.z ((at_ PTerm.z ((at_ PTerm.z a1.sub 0).sub) 0).sub) 0).other,(at_ PTerm.z ((at_ PTerm.z ((at_ PTerm.z a1.sub 0).sub) 0).sub) 0).form,s23⟩ : Term)) :: za s23 ((at_ PTerm.z ((at_ PTerm.z ((at_ PTerm.z a1.sub 0).sub) 0).sub) 0).sub) :: oCl s_1.blk (s_1.off + Int.toNat 1 * 5) (Term.C (⟨(at_ PTerm.z a1.sub 1).kind,(at_ PTerm.z a1.sub 1).name,(at_ PTerm.z a1.sub 1).other,(at_ PTerm.z a1.sub 1).form,s25⟩ : Term)) :: za s25 ((at_ PTerm.z a1.sub 1).sub) :: Z41):=back _ _ _ _ _ S2 rfl rfl
  clear back S2 SB51
  exact ze (ob4 trivial trivial ⟨b38,s40,O42,_,(fun z h=>tl11 z (hZ z h)),hm13.keep rfl rfl tl11,Made.one (val:=(fun (c:SlV)=>Value.tuple #[.agg (Term.C (⟨r33.1.kind,r33.1.name,r33.1.other,r33.1.form,c⟩ : Term)).toArray,.int .i64 r33.2])) (ps:=(fun (c:SlV)=>[za c r33.1.sub])) s52 (xP List.mem_cons_self yf),hm15.keep rfl rfl tl11,hm16.keep rfl rfl tl11,(fun h=>by rw [zr _ _ _ _ jJ]; exact hk18 (by rw [zf rfl] at h; exact h)),(fun h z q=>tl11 z (hq19 (by rw [zf rfl] at h; exact h) z q)),by rw [hO]; simp only [zf (L:=L) (i:=14) (j:=18) rfl,zf (L:=L) (i:=14) (j:=19) rfl],S⟩)
 ·rintro L g v hL hcl hclo ⟨b38,s40,O42,Z41,hZ,hm13,hm14,hm15,hm16,hk18,hq19,hO,S⟩ _
  obtain ⟨s36,he14,hp14⟩ := hm14 (hcl 14 jM)
  have hl19:L 19=false:=by cases h:L 19 with | false=>rfl | true=>exact absurd (hclo 19 15 h jM) (by rw [hL]; decide)
  replace S:=S.zneed (xy (l1:=[za s36 r33.1.sub]) hp14 hZ)
  replace S:St A N w v (O42) (za s36 r33.1.sub :: za s9 ((at_ PTerm.z ((at_ PTerm.z a1.sub 0).sub) 0).sub) :: za s6 ((at_ PTerm.z a1.sub 0).sub) :: oT a_0 a0 :: za s_1 a1.sub :: oPw :: oCl s9.blk (s9.off + Int.toNat 0 * 5) (Term.C (⟨(at_ PTerm.z ((at_ PTerm.z ((at_ PTerm.z a1.sub 0).sub) 0).sub) 0).kind,(at_ PTerm.z ((at_ PTerm.z ((at_ PTerm.z a1.sub 0).sub) 0).sub) 0).name,(at_ PTerm.z ((at_ PTerm.z ((at_ PTerm.z a1.sub 0).sub) 0).sub) 0).other,(at_ PTerm.z ((at_ PTerm.z ((at_ PTerm.z a1.sub 0).sub) 0).sub) 0).form,s23⟩ : Term)) :: za s23 ((at_ PTerm.z ((at_ PTerm.z ((at_ PTerm.z a1.sub 0).sub) 0).sub) 0).sub) :: oCl s_1.blk (s_1.off + Int.toNat 1 * 5) (Term.C (⟨(at_ PTerm.z a1.sub 1).kind,(at_ PTerm.z a1.sub 1).name,(at_ PTerm.z a1.sub 1).other,(at_ PTerm.z a1.sub 1).form,s25⟩ : Term)) :: za s25 ((at_ PTerm.z a1.sub 1).sub) :: Z41):=S
  refine wd (xn he14) ?_
  exact ze (ob4 trivial trivial ⟨b38,s40,O42,_,(fun z h=>tl10 z (hZ z h)),hm13.keep rfl rfl tl10,hm14.keep rfl rfl tl10,Made.one (val:=(fun (c:SlV)=>Value.tuple #[.agg (Term.C (⟨r33.1.kind,r33.1.name,r33.1.other,r33.1.form,c⟩ : Term)).toArray,.int .i64 r33.2])) (ps:=(fun (c:SlV)=>[za c r33.1.sub])) s36 (xP List.mem_cons_self yf),hm16.keep rfl rfl tl10,(fun h=>by rw [zr _ _ _ _ jJ]; exact hk18 (by rw [zf rfl] at h; exact h)),(fun h z q=>tl10 z (hq19 (by rw [zf rfl] at h; exact h) z q)),by rw [hO]; simp only [zf (L:=L) (i:=15) (j:=18) rfl,zf (L:=L) (i:=15) (j:=19) rfl],S⟩)
 ·rintro L g v hL hcl hclo ⟨b38,s40,O42,Z41,hZ,hm13,hm14,hm15,hm16,hk18,hq19,hO,S⟩ _
  obtain ⟨s36,he15,hp15⟩ := hm15 (hcl 15 jM)
  have hl19:L 19=false:=by cases h:L 19 with | false=>rfl | true=>exact absurd (hclo 19 16 h jM) (by rw [hL]; decide)
  replace S:=S.zneed (xy (l1:=[za s36 r33.1.sub]) hp15 hZ)
  replace S:St A N w v (O42) (za s36 r33.1.sub :: za s9 ((at_ PTerm.z ((at_ PTerm.z a1.sub 0).sub) 0).sub) :: za s6 ((at_ PTerm.z a1.sub 0).sub) :: oT a_0 a0 :: za s_1 a1.sub :: oPw :: oCl s9.blk (s9.off + Int.toNat 0 * 5) (Term.C (⟨(at_ PTerm.z ((at_ PTerm.z ((at_ PTerm.z a1.sub 0).sub) 0).sub) 0).kind,(at_ PTerm.z ((at_ PTerm.z ((at_ PTerm.z a1.sub 0).sub) 0).sub) 0).name,(at_ PTerm.z ((at_ PTerm.z ((at_ PTerm.z a1.sub 0).sub) 0).sub) 0).other,(at_ PTerm.z ((at_ PTerm.z ((at_ PTerm.z a1.sub 0).sub) 0).sub) 0).form,s23⟩ : Term)) :: za s23 ((at_ PTerm.z ((at_ PTerm.z ((at_ PTerm.z a1.sub 0).sub) 0).sub) 0).sub) :: oCl s_1.blk (s_1.off + Int.toNat 1 * 5) (Term.C (⟨(at_ PTerm.z a1.sub 1).kind,(at_ PTerm.z a1.sub 1).name,(at_ PTerm.z a1.sub 1).other,(at_ PTerm.z a1.sub 1).form,s25⟩ : Term)) :: za s25 ((at_ PTerm.z a1.sub 1).sub) :: Z41):=S
  refine wd (zA he15 rfl) ?_
  exact ze (ob4 trivial trivial ⟨b38,s40,O42,_,(fun z h=>tl10 z (hZ z h)),hm13.keep rfl rfl tl10,hm14.keep rfl rfl tl10,hm15.keep rfl rfl tl10,Made.one (val:=(fun (c:SlV)=>Value.agg (Term.C (⟨r33.1.kind,r33.1.name,r33.1.other,r33.1.form,c⟩ : Term)).toArray)) (ps:=(fun (c:SlV)=>[za c r33.1.sub])) s36 (xP List.mem_cons_self yf),(fun h=>by rw [zr _ _ _ _ jJ]; exact hk18 (by rw [zf rfl] at h; exact h)),(fun h z q=>tl10 z (hq19 (by rw [zf rfl] at h; exact h) z q)),by rw [hO]; simp only [zf (L:=L) (i:=16) (j:=18) rfl,zf (L:=L) (i:=16) (j:=19) rfl],S⟩)
 ·rintro L g v hL hcl hclo ⟨b38,s40,O42,Z41,hZ,hm13,hm14,hm15,hm16,hk18,hq19,hO,S⟩ _
  obtain ⟨s36,he15,hp15⟩ := hm15 (hcl 15 jM)
  have SR:St A N w v [oB b12 zb (Term.C (⟨(at_ PTerm.z ((at_ PTerm.z a1.sub 0).sub) 0).kind,(at_ PTerm.z ((at_ PTerm.z a1.sub 0).sub) 0).name,(at_ PTerm.z ((at_ PTerm.z a1.sub 0).sub) 0).other,(at_ PTerm.z ((at_ PTerm.z a1.sub 0).sub) 0).form,s9⟩ : Term)),oB b4 zb (Term.C (⟨0,ByteArray.empty,ByteArray.empty,0,SlV.nil⟩ : Term)),oB b2 zb (Term.C (⟨a1.kind,a1.name,a1.other,a1.form,s_1⟩ : Term))] (za s36 r33.1.sub :: za s9 ((at_ PTerm.z ((at_ PTerm.z a1.sub 0).sub) 0).sub) :: za s6 ((at_ PTerm.z a1.sub 0).sub) :: oT a_0 a0 :: za s_1 a1.sub :: oPw :: oCl s9.blk (s9.off + Int.toNat 0 * 5) (Term.C (⟨(at_ PTerm.z ((at_ PTerm.z ((at_ PTerm.z a1.sub 0).sub) 0).sub) 0).kind,(at_ PTerm.z ((at_ PTerm.z ((at_ PTerm.z a1.sub 0).sub) 0).sub) 0).name,(at_ PTerm.z ((at_ PTerm.z ((at_ PTerm.z a1.sub 0).sub) 0).sub) 0).other,(at_ PTerm.z ((at_ PTerm.z ((at_ PTerm.z a1.sub 0).sub) 0).sub) 0).form,s23⟩ : Term)) :: za s23 ((at_ PTerm.z ((at_ PTerm.z ((at_ PTerm.z a1.sub 0).sub) 0).sub) 0).sub) :: oCl s_1.blk (s_1.off + Int.toNat 1 * 5) (Term.C (⟨(at_ PTerm.z a1.sub 1).kind,(at_ PTerm.z a1.sub 1).name,(at_ PTerm.z a1.sub 1).other,(at_ PTerm.z a1.sub 1).form,s25⟩ : Term)) :: za s25 ((at_ PTerm.z a1.sub 1).sub) :: Z41):=by
   have S2:=S.zneed (xy (l1:=[za s36 r33.1.sub]) hp15 hZ)
   rw [hO] at S2
   exact S2.drops
  refine wd (zA he15 rfl) ?_
  exact ze (ob4 trivial rfl ⟨b38,s40,O42,Z41,hZ,hm13.keep rfl rfl tl0,hm14.keep rfl rfl tl0,hm15.keep rfl rfl tl0,hm16.keep rfl rfl tl0,(fun h=>by rw [zr _ _ _ _ jJ]; exact hk18 (by rw [zf rfl] at h; exact h)),(fun h z q=>tl0 z (hq19 (by rw [zf rfl] at h; exact h) z q)),by rw [hO]; simp only [zf (L:=L) (i:=17) (j:=18) rfl,zf (L:=L) (i:=17) (j:=19) rfl],S⟩)
 ·rintro L g v hL hcl hclo ⟨b38,s40,O42,Z41,hZ,hm13,hm14,hm15,hm16,hk18,hq19,hO,S⟩ 
  have hl18:L 18=false:=hL
  have hl19:L 19=false:=by cases h:L 19 with | false=>rfl | true=>exact absurd (hclo 19 18 h jM) (by rw [hL]; decide)
  have hOP : ∃ P Y,P=[]∧Y=[oB b12 zb (Term.C (⟨(at_ PTerm.z ((at_ PTerm.z a1.sub 0).sub) 0).kind,(at_ PTerm.z ((at_ PTerm.z a1.sub 0).sub) 0).name,(at_ PTerm.z ((at_ PTerm.z a1.sub 0).sub) 0).other,(at_ PTerm.z ((at_ PTerm.z a1.sub 0).sub) 0).form,s9⟩ : Term)),oB b4 zb (Term.C (⟨0,ByteArray.empty,ByteArray.empty,0,SlV.nil⟩ : Term)),oB b2 zb (Term.C (⟨a1.kind,a1.name,a1.other,a1.form,s_1⟩ : Term))]∧O42=P ++ ([] ++ Y):=⟨_,_,rfl,rfl,by rw [hO]; simp only [hl18,hl19,cond_true,cond_false,List.nil_append,List.append_assoc,List.cons_append]⟩
  obtain ⟨P,Y,hP,hY,hPY⟩ := hOP
  rw [hPY] at S
  replace S:St A N w v (P ++ Y) Z41:=S
  refine zZ xr jJ fun b54 w53 hw53=>?_
  replace S:St A N w w53 (oB b54 zb (Term.C (⟨0,ByteArray.empty,ByteArray.empty,0,SlV.nil⟩ : Term)) :: (P ++ Y)) (Z41):=S.new hw53
  refine ze (ob4 trivial trivial ⟨b54,s40,P ++ ([oB b54 zb (Term.C (⟨0,ByteArray.empty,ByteArray.empty,0,SlV.nil⟩ : Term))] ++ Y),_,hZ,hm13.keep rfl rfl tl0,hm14.keep rfl rfl tl0,hm15.keep rfl rfl tl0,hm16.keep rfl rfl tl0,(fun _=>upd_same _ _ _),(fun h z q=>tl0 z (hq19 (by rw [zf rfl] at h; exact h) z q)),?_,S.ins (P:=[oB b54 zb (Term.C (⟨0,ByteArray.empty,ByteArray.empty,0,SlV.nil⟩ : Term))])⟩)
  rw [hP,hY]; simp only [zf (L:=L) (i:=18) (j:=19) rfl,xS (L:=L) (i:=18),hl19,cond_true,cond_false,List.nil_append,List.append_assoc,List.cons_append]
 ·rintro L g v hL hcl hclo ⟨b38,s40,O42,Z41,hZ,hm13,hm14,hm15,hm16,hk18,hq19,hO,S⟩ _ _
  obtain ⟨s36,he16,hp16⟩ := hm16 (hcl 16 jM)
  have hl18:L 18=true:=hcl 18 jM
  have hl19:L 19=false:=hL
  have hOP : ∃ P Y,P=[]∧Y=[oB b12 zb (Term.C (⟨(at_ PTerm.z ((at_ PTerm.z a1.sub 0).sub) 0).kind,(at_ PTerm.z ((at_ PTerm.z a1.sub 0).sub) 0).name,(at_ PTerm.z ((at_ PTerm.z a1.sub 0).sub) 0).other,(at_ PTerm.z ((at_ PTerm.z a1.sub 0).sub) 0).form,s9⟩ : Term)),oB b4 zb (Term.C (⟨0,ByteArray.empty,ByteArray.empty,0,SlV.nil⟩ : Term)),oB b2 zb (Term.C (⟨a1.kind,a1.name,a1.other,a1.form,s_1⟩ : Term))]∧O42=P ++ ([oB b38 zb (Term.C (⟨0,ByteArray.empty,ByteArray.empty,0,SlV.nil⟩ : Term))] ++ Y):=⟨_,_,rfl,rfl,by rw [hO]; simp only [hl18,hl19,cond_true,cond_false,List.nil_append,List.append_assoc,List.cons_append]⟩
  obtain ⟨P,Y,hP,hY,hPY⟩ := hOP
  rw [hPY] at S
  replace S:St A N w v (oB b38 zb (Term.C (⟨0,ByteArray.empty,ByteArray.empty,0,SlV.nil⟩ : Term)) :: (P ++ Y)) Z41:=S.ins
  replace S:=S.zneed (xy (l1:=[za s36 r33.1.sub]) hp16 hZ)
  replace S:St A N w v (oB b38 zb (Term.C (⟨0,ByteArray.empty,ByteArray.empty,0,SlV.nil⟩ : Term)) :: (P ++ Y)) (za s36 r33.1.sub :: za s9 ((at_ PTerm.z ((at_ PTerm.z a1.sub 0).sub) 0).sub) :: za s6 ((at_ PTerm.z a1.sub 0).sub) :: oT a_0 a0 :: za s_1 a1.sub :: oPw :: oCl s9.blk (s9.off + Int.toNat 0 * 5) (Term.C (⟨(at_ PTerm.z ((at_ PTerm.z ((at_ PTerm.z a1.sub 0).sub) 0).sub) 0).kind,(at_ PTerm.z ((at_ PTerm.z ((at_ PTerm.z a1.sub 0).sub) 0).sub) 0).name,(at_ PTerm.z ((at_ PTerm.z ((at_ PTerm.z a1.sub 0).sub) 0).sub) 0).other,(at_ PTerm.z ((at_ PTerm.z ((at_ PTerm.z a1.sub 0).sub) 0).sub) 0).form,s23⟩ : Term)) :: za s23 ((at_ PTerm.z ((at_ PTerm.z ((at_ PTerm.z a1.sub 0).sub) 0).sub) 0).sub) :: oCl s_1.blk (s_1.off + Int.toNat 1 * 5) (Term.C (⟨(at_ PTerm.z a1.sub 1).kind,(at_ PTerm.z a1.sub 1).name,(at_ PTerm.z a1.sub 1).other,(at_ PTerm.z a1.sub 1).form,s25⟩ : Term)) :: za s25 ((at_ PTerm.z a1.sub 1).sub) :: Z41):=S
  refine zy zq (hk18 (hcl 18 jM)) he16 (S.blk 0) (Term.len _) (by rw [Term.len]; decide) (Term.one _) (zM (Term.len _)) fun w55 B hw55 zw55=>?_
  replace S:St A N w w55 (oB b38 zb (Term.C (⟨r33.1.kind,r33.1.name,r33.1.other,r33.1.form,s36⟩ : Term)) :: (P ++ Y)) (za s36 r33.1.sub :: za s9 ((at_ PTerm.z ((at_ PTerm.z a1.sub 0).sub) 0).sub) :: za s6 ((at_ PTerm.z a1.sub 0).sub) :: oT a_0 a0 :: za s_1 a1.sub :: oPw :: oCl s9.blk (s9.off + Int.toNat 0 * 5) (Term.C (⟨(at_ PTerm.z ((at_ PTerm.z ((at_ PTerm.z a1.sub 0).sub) 0).sub) 0).kind,(at_ PTerm.z ((at_ PTerm.z ((at_ PTerm.z a1.sub 0).sub) 0).sub) 0).name,(at_ PTerm.z ((at_ PTerm.z ((at_ PTerm.z a1.sub 0).sub) 0).sub) 0).other,(at_ PTerm.z ((at_ PTerm.z ((at_ PTerm.z a1.sub 0).sub) 0).sub) 0).form,s23⟩ : Term)) :: za s23 ((at_ PTerm.z ((at_ PTerm.z ((at_ PTerm.z a1.sub 0).sub) 0).sub) 0).sub) :: oCl s_1.blk (s_1.off + Int.toNat 1 * 5) (Term.C (⟨(at_ PTerm.z a1.sub 1).kind,(at_ PTerm.z a1.sub 1).name,(at_ PTerm.z a1.sub 1).other,(at_ PTerm.z a1.sub 1).form,s25⟩ : Term)) :: za s25 ((at_ PTerm.z a1.sub 1).sub) :: Z41):=S.store 0 B hw55
  clear B
  refine ze (ob40 trivial (fun _=>trivial) ⟨b38,s36,P ++ ([oB b38 zb (Term.C (⟨r33.1.kind,r33.1.name,r33.1.other,r33.1.form,s36⟩ : Term))] ++ Y),_,(fun z h=>tl10 z (hZ z h)),hm13.keep0 rfl tl10,hm14.keep0 rfl tl10,hm15.keep0 rfl tl10,hm16.keep0 rfl tl10,(fun h=>hk18 (by rw [zf rfl] at h; exact h)),(fun _ z q=>tl10 z (hp16 z q)),?_,S.ins (P:=[oB b38 zb (Term.C (⟨r33.1.kind,r33.1.name,r33.1.other,r33.1.form,s36⟩ : Term))])⟩)
  rw [hP,hY]; simp only [zf (L:=L) (i:=19) (j:=18) rfl,xS (L:=L) (i:=19),hl18,cond_true,cond_false,List.nil_append,List.append_assoc,List.cons_append]
 rintro L g w56 hLm ⟨b38,s40,O42,Z41,hZ,hm13,hm14,hm15,hm16,hk18,hq19,hO,S⟩ hv57_0 hv57_1 hv57_2 hv57_3 hv57_4 hv57_5 hv57_6 hv57_7 hv57_8 hv57_9 hv57_10 hv57_11 hv57_12 _ _ _ _ hv57_17 _ _
 have hLt : ∀ j,j < 20→L j=true:=fun j hj=>by rw [hLm]; exact decide_eq_true hj
 obtain ⟨s32,hv57_13,hp13⟩ := hm13 (hLt 13 jJ)
 obtain ⟨s36,hv57_16,hp16⟩ := hm16 (hLt 16 jJ)
 have hv57_18:=hk18 (hLt 18 jJ)
 simp only [hLt 18 jJ,hLt 19 jJ,cond_true,List.nil_append,List.cons_append] at hO
 rw [hO] at S
 replace hq19:=hq19 (hLt 19 jJ)
 replace S:St A N w w56 [oB b38 zb (Term.C (⟨r33.1.kind,r33.1.name,r33.1.other,r33.1.form,s40⟩ : Term)),oB b12 zb (Term.C (⟨(at_ PTerm.z ((at_ PTerm.z a1.sub 0).sub) 0).kind,(at_ PTerm.z ((at_ PTerm.z a1.sub 0).sub) 0).name,(at_ PTerm.z ((at_ PTerm.z a1.sub 0).sub) 0).other,(at_ PTerm.z ((at_ PTerm.z a1.sub 0).sub) 0).form,s9⟩ : Term)),oB b4 zb (Term.C (⟨0,ByteArray.empty,ByteArray.empty,0,SlV.nil⟩ : Term)),oB b2 zb (Term.C (⟨a1.kind,a1.name,a1.other,a1.form,s_1⟩ : Term))] [za s32 r29.sub,za s36 r33.1.sub,za s40 r33.1.sub,za s9 ((at_ PTerm.z ((at_ PTerm.z a1.sub 0).sub) 0).sub),za s6 ((at_ PTerm.z a1.sub 0).sub),oT a_0 a0,za s_1 a1.sub,oPw,oCl s9.blk (s9.off + Int.toNat 0 * 5) (Term.C (⟨(at_ PTerm.z ((at_ PTerm.z ((at_ PTerm.z a1.sub 0).sub) 0).sub) 0).kind,(at_ PTerm.z ((at_ PTerm.z ((at_ PTerm.z a1.sub 0).sub) 0).sub) 0).name,(at_ PTerm.z ((at_ PTerm.z ((at_ PTerm.z a1.sub 0).sub) 0).sub) 0).other,(at_ PTerm.z ((at_ PTerm.z ((at_ PTerm.z a1.sub 0).sub) 0).sub) 0).form,s23⟩ : Term)),za s23 ((at_ PTerm.z ((at_ PTerm.z ((at_ PTerm.z a1.sub 0).sub) 0).sub) 0).sub),oCl s_1.blk (s_1.off + Int.toNat 1 * 5) (Term.C (⟨(at_ PTerm.z a1.sub 1).kind,(at_ PTerm.z a1.sub 1).name,(at_ PTerm.z a1.sub 1).other,(at_ PTerm.z a1.sub 1).form,s25⟩ : Term)),za s25 ((at_ PTerm.z a1.sub 1).sub)]:=S.pickZ (xy (l1:=[za s32 r29.sub]) hp13 (xy (l1:=[za s36 r33.1.sub]) hp16 (xy (l1:=[za s40 r33.1.sub]) hq19 hZ)))
 clear hp13 hp16 hZ hm13 hm14 hm15 hm16
 refine wd (zn hv57_17) ?_
 refine ze ?_
 refine zg ?_
 obtain ⟨r68,er68,H⟩ := zB H
 obtain ⟨r71,er71,H⟩ := zB H
 refine yM 7 ⟨fun _ _=>True,fun _ _ _=>True,fun i v _=>match i with
  | 0=>v=Value.agg (Term.C (⟨r33.1.kind,r33.1.name,r33.1.other,r33.1.form,s40⟩ : Term)).toArray
  | 1=>v=Value.pointer a_0
  | 2=>v=Value.agg (Term.C (⟨a1.kind,a1.name,a1.other,a1.form,s_1⟩ : Term)).toArray
  | 3=>v=Value.int .i64 r68
  | 5=>v=Value.int .i64 r33.2
  | _=>True⟩ (fun L g v=>bif L 6 then (∃ (s74:SlV),(L 4=true→g 38=Value.agg (Term.C (⟨r71.kind,r71.name,r71.other,r71.form,s74⟩ : Term)).toArray)∧St A N w v [oB b4 zb (Term.C (⟨r71.kind,r71.name,r71.other,r71.form,s74⟩ : Term)),oB b38 zb (Term.C (⟨r33.1.kind,r33.1.name,r33.1.other,r33.1.form,s40⟩ : Term)),oB b12 zb (Term.C (⟨(at_ PTerm.z ((at_ PTerm.z a1.sub 0).sub) 0).kind,(at_ PTerm.z ((at_ PTerm.z a1.sub 0).sub) 0).name,(at_ PTerm.z ((at_ PTerm.z a1.sub 0).sub) 0).other,(at_ PTerm.z ((at_ PTerm.z a1.sub 0).sub) 0).form,s9⟩ : Term)),oB b2 zb (Term.C (⟨a1.kind,a1.name,a1.other,a1.form,s_1⟩ : Term))] [za s74 r71.sub,za s32 r29.sub,za s36 r33.1.sub,za s40 r33.1.sub,za s9 ((at_ PTerm.z ((at_ PTerm.z a1.sub 0).sub) 0).sub),za s6 ((at_ PTerm.z a1.sub 0).sub),oT a_0 a0,za s_1 a1.sub,oPw,oCl s9.blk (s9.off + Int.toNat 0 * 5) (Term.C (⟨(at_ PTerm.z ((at_ PTerm.z ((at_ PTerm.z a1.sub 0).sub) 0).sub) 0).kind,(at_ PTerm.z ((at_ PTerm.z ((at_ PTerm.z a1.sub 0).sub) 0).sub) 0).name,(at_ PTerm.z ((at_ PTerm.z ((at_ PTerm.z a1.sub 0).sub) 0).sub) 0).other,(at_ PTerm.z ((at_ PTerm.z ((at_ PTerm.z a1.sub 0).sub) 0).sub) 0).form,s23⟩ : Term)),za s23 ((at_ PTerm.z ((at_ PTerm.z ((at_ PTerm.z a1.sub 0).sub) 0).sub) 0).sub),oCl s_1.blk (s_1.off + Int.toNat 1 * 5) (Term.C (⟨(at_ PTerm.z a1.sub 1).kind,(at_ PTerm.z a1.sub 1).name,(at_ PTerm.z a1.sub 1).other,(at_ PTerm.z a1.sub 1).form,s25⟩ : Term)),za s25 ((at_ PTerm.z a1.sub 1).sub)]) else bif L 4 then (∃ (s74:SlV),(L 4=true→g 38=Value.agg (Term.C (⟨r71.kind,r71.name,r71.other,r71.form,s74⟩ : Term)).toArray)∧St A N w v [oB b38 zb (Term.C (⟨r33.1.kind,r33.1.name,r33.1.other,r33.1.form,s40⟩ : Term)),oB b12 zb (Term.C (⟨(at_ PTerm.z ((at_ PTerm.z a1.sub 0).sub) 0).kind,(at_ PTerm.z ((at_ PTerm.z a1.sub 0).sub) 0).name,(at_ PTerm.z ((at_ PTerm.z a1.sub 0).sub) 0).other,(at_ PTerm.z ((at_ PTerm.z a1.sub 0).sub) 0).form,s9⟩ : Term)),oB b4 zb (Term.C (⟨0,ByteArray.empty,ByteArray.empty,0,SlV.nil⟩ : Term)),oB b2 zb (Term.C (⟨a1.kind,a1.name,a1.other,a1.form,s_1⟩ : Term))] [za s74 r71.sub,za s32 r29.sub,za s36 r33.1.sub,za s40 r33.1.sub,za s9 ((at_ PTerm.z ((at_ PTerm.z a1.sub 0).sub) 0).sub),za s6 ((at_ PTerm.z a1.sub 0).sub),oT a_0 a0,za s_1 a1.sub,oPw,oCl s9.blk (s9.off + Int.toNat 0 * 5) (Term.C (⟨(at_ PTerm.z ((at_ PTerm.z ((at_ PTerm.z a1.sub 0).sub) 0).sub) 0).kind,(at_ PTerm.z ((at_ PTerm.z ((at_ PTerm.z a1.sub 0).sub) 0).sub) 0).name,(at_ PTerm.z ((at_ PTerm.z ((at_ PTerm.z a1.sub 0).sub) 0).sub) 0).other,(at_ PTerm.z ((at_ PTerm.z ((at_ PTerm.z a1.sub 0).sub) 0).sub) 0).form,s23⟩ : Term)),za s23 ((at_ PTerm.z ((at_ PTerm.z ((at_ PTerm.z a1.sub 0).sub) 0).sub) 0).sub),oCl s_1.blk (s_1.off + Int.toNat 1 * 5) (Term.C (⟨(at_ PTerm.z a1.sub 1).kind,(at_ PTerm.z a1.sub 1).name,(at_ PTerm.z a1.sub 1).other,(at_ PTerm.z a1.sub 1).form,s25⟩ : Term)),za s25 ((at_ PTerm.z a1.sub 1).sub)]) else (St A N w v [oB b38 zb (Term.C (⟨r33.1.kind,r33.1.name,r33.1.other,r33.1.form,s40⟩ : Term)),oB b12 zb (Term.C (⟨(at_ PTerm.z ((at_ PTerm.z a1.sub 0).sub) 0).kind,(at_ PTerm.z ((at_ PTerm.z a1.sub 0).sub) 0).name,(at_ PTerm.z ((at_ PTerm.z a1.sub 0).sub) 0).other,(at_ PTerm.z ((at_ PTerm.z a1.sub 0).sub) 0).form,s9⟩ : Term)),oB b4 zb (Term.C (⟨0,ByteArray.empty,ByteArray.empty,0,SlV.nil⟩ : Term)),oB b2 zb (Term.C (⟨a1.kind,a1.name,a1.other,a1.form,s_1⟩ : Term))] [za s32 r29.sub,za s36 r33.1.sub,za s40 r33.1.sub,za s9 ((at_ PTerm.z ((at_ PTerm.z a1.sub 0).sub) 0).sub),za s6 ((at_ PTerm.z a1.sub 0).sub),oT a_0 a0,za s_1 a1.sub,oPw,oCl s9.blk (s9.off + Int.toNat 0 * 5) (Term.C (⟨(at_ PTerm.z ((at_ PTerm.z ((at_ PTerm.z a1.sub 0).sub) 0).sub) 0).kind,(at_ PTerm.z ((at_ PTerm.z ((at_ PTerm.z a1.sub 0).sub) 0).sub) 0).name,(at_ PTerm.z ((at_ PTerm.z ((at_ PTerm.z a1.sub 0).sub) 0).sub) 0).other,(at_ PTerm.z ((at_ PTerm.z ((at_ PTerm.z a1.sub 0).sub) 0).sub) 0).form,s23⟩ : Term)),za s23 ((at_ PTerm.z ((at_ PTerm.z ((at_ PTerm.z a1.sub 0).sub) 0).sub) 0).sub),oCl s_1.blk (s_1.off + Int.toNat 1 * 5) (Term.C (⟨(at_ PTerm.z a1.sub 1).kind,(at_ PTerm.z a1.sub 1).name,(at_ PTerm.z a1.sub 1).other,(at_ PTerm.z a1.sub 1).form,s25⟩ : Term)),za s25 ((at_ PTerm.z a1.sub 1).sub)])) hmix jM (fun _ _ _ _ _ _ _ hv=>hv) (fun g=>S.ext (Ext.drawn _)) ⟨?_,?_,?_,?_,?_,?_,?_,trivial⟩ ?_
 ·rintro L g v hL hcl hclo hT 
  have hl4:L 4=false:=by cases h:L 4 with | false=>rfl | true=>exact absurd (hclo 4 0 h jM) (by rw [hL]; decide)
  have hl6:L 6=false:=by cases h:L 6 with | false=>rfl | true=>exact absurd (hclo 6 0 h jM) (by rw [hL]; decide)
  simp only [hl4,hl6,cond_true,cond_false] at hT
  replace S:St A N w v [oB b38 zb (Term.C (⟨r33.1.kind,r33.1.name,r33.1.other,r33.1.form,s40⟩ : Term)),oB b12 zb (Term.C (⟨(at_ PTerm.z ((at_ PTerm.z a1.sub 0).sub) 0).kind,(at_ PTerm.z ((at_ PTerm.z a1.sub 0).sub) 0).name,(at_ PTerm.z ((at_ PTerm.z a1.sub 0).sub) 0).other,(at_ PTerm.z ((at_ PTerm.z a1.sub 0).sub) 0).form,s9⟩ : Term)),oB b4 zb (Term.C (⟨0,ByteArray.empty,ByteArray.empty,0,SlV.nil⟩ : Term)),oB b2 zb (Term.C (⟨a1.kind,a1.name,a1.other,a1.form,s_1⟩ : Term))] [za s32 r29.sub,za s36 r33.1.sub,za s40 r33.1.sub,za s9 ((at_ PTerm.z ((at_ PTerm.z a1.sub 0).sub) 0).sub),za s6 ((at_ PTerm.z a1.sub 0).sub),oT a_0 a0,za s_1 a1.sub,oPw,oCl s9.blk (s9.off + Int.toNat 0 * 5) (Term.C (⟨(at_ PTerm.z ((at_ PTerm.z ((at_ PTerm.z a1.sub 0).sub) 0).sub) 0).kind,(at_ PTerm.z ((at_ PTerm.z ((at_ PTerm.z a1.sub 0).sub) 0).sub) 0).name,(at_ PTerm.z ((at_ PTerm.z ((at_ PTerm.z a1.sub 0).sub) 0).sub) 0).other,(at_ PTerm.z ((at_ PTerm.z ((at_ PTerm.z a1.sub 0).sub) 0).sub) 0).form,s23⟩ : Term)),za s23 ((at_ PTerm.z ((at_ PTerm.z ((at_ PTerm.z a1.sub 0).sub) 0).sub) 0).sub),oCl s_1.blk (s_1.off + Int.toNat 1 * 5) (Term.C (⟨(at_ PTerm.z a1.sub 1).kind,(at_ PTerm.z a1.sub 1).name,(at_ PTerm.z a1.sub 1).other,(at_ PTerm.z a1.sub 1).form,s25⟩ : Term)),za s25 ((at_ PTerm.z a1.sub 1).sub)]:=hT
  refine wd (zi zq hv57_18 ((S.blk 0).all _ (Term.len _)) (Term.len _)) ?_
  exact ze (ob4 trivial rfl (by simp only [zf (L:=L) (i:=0) (j:=4) rfl,zf (L:=L) (i:=0) (j:=6) rfl,hl4,hl6,cond_true,cond_false]; exact S))
 ·rintro L g v hL hcl hclo hT 
  have hl4:L 4=false:=by cases h:L 4 with | false=>rfl | true=>exact absurd (hclo 4 1 h jM) (by rw [hL]; decide)
  have hl6:L 6=false:=by cases h:L 6 with | false=>rfl | true=>exact absurd (hclo 6 1 h jM) (by rw [hL]; decide)
  simp only [hl4,hl6,cond_true,cond_false] at hT
  replace S:St A N w v [oB b38 zb (Term.C (⟨r33.1.kind,r33.1.name,r33.1.other,r33.1.form,s40⟩ : Term)),oB b12 zb (Term.C (⟨(at_ PTerm.z ((at_ PTerm.z a1.sub 0).sub) 0).kind,(at_ PTerm.z ((at_ PTerm.z a1.sub 0).sub) 0).name,(at_ PTerm.z ((at_ PTerm.z a1.sub 0).sub) 0).other,(at_ PTerm.z ((at_ PTerm.z a1.sub 0).sub) 0).form,s9⟩ : Term)),oB b4 zb (Term.C (⟨0,ByteArray.empty,ByteArray.empty,0,SlV.nil⟩ : Term)),oB b2 zb (Term.C (⟨a1.kind,a1.name,a1.other,a1.form,s_1⟩ : Term))] [za s32 r29.sub,za s36 r33.1.sub,za s40 r33.1.sub,za s9 ((at_ PTerm.z ((at_ PTerm.z a1.sub 0).sub) 0).sub),za s6 ((at_ PTerm.z a1.sub 0).sub),oT a_0 a0,za s_1 a1.sub,oPw,oCl s9.blk (s9.off + Int.toNat 0 * 5) (Term.C (⟨(at_ PTerm.z ((at_ PTerm.z ((at_ PTerm.z a1.sub 0).sub) 0).sub) 0).kind,(at_ PTerm.z ((at_ PTerm.z ((at_ PTerm.z a1.sub 0).sub) 0).sub) 0).name,(at_ PTerm.z ((at_ PTerm.z ((at_ PTerm.z a1.sub 0).sub) 0).sub) 0).other,(at_ PTerm.z ((at_ PTerm.z ((at_ PTerm.z a1.sub 0).sub) 0).sub) 0).form,s23⟩ : Term)),za s23 ((at_ PTerm.z ((at_ PTerm.z ((at_ PTerm.z a1.sub 0).sub) 0).sub) 0).sub),oCl s_1.blk (s_1.off + Int.toNat 1 * 5) (Term.C (⟨(at_ PTerm.z a1.sub 1).kind,(at_ PTerm.z a1.sub 1).name,(at_ PTerm.z a1.sub 1).other,(at_ PTerm.z a1.sub 1).form,s25⟩ : Term)),za s25 ((at_ PTerm.z a1.sub 1).sub)]:=hT
  refine wd (zN rfl) ?_
  exact ze (ob4 trivial rfl (by simp only [zf (L:=L) (i:=1) (j:=4) rfl,zf (L:=L) (i:=1) (j:=6) rfl,hl4,hl6,cond_true,cond_false]; exact S))
 ·rintro L g v hL hcl hclo hT 
  have hl4:L 4=false:=by cases h:L 4 with | false=>rfl | true=>exact absurd (hclo 4 2 h jM) (by rw [hL]; decide)
  have hl6:L 6=false:=by cases h:L 6 with | false=>rfl | true=>exact absurd (hclo 6 2 h jM) (by rw [hL]; decide)
  simp only [hl4,hl6,cond_true,cond_false] at hT
  replace S:St A N w v [oB b38 zb (Term.C (⟨r33.1.kind,r33.1.name,r33.1.other,r33.1.form,s40⟩ : Term)),oB b12 zb (Term.C (⟨(at_ PTerm.z ((at_ PTerm.z a1.sub 0).sub) 0).kind,(at_ PTerm.z ((at_ PTerm.z a1.sub 0).sub) 0).name,(at_ PTerm.z ((at_ PTerm.z a1.sub 0).sub) 0).other,(at_ PTerm.z ((at_ PTerm.z a1.sub 0).sub) 0).form,s9⟩ : Term)),oB b4 zb (Term.C (⟨0,ByteArray.empty,ByteArray.empty,0,SlV.nil⟩ : Term)),oB b2 zb (Term.C (⟨a1.kind,a1.name,a1.other,a1.form,s_1⟩ : Term))] [za s32 r29.sub,za s36 r33.1.sub,za s40 r33.1.sub,za s9 ((at_ PTerm.z ((at_ PTerm.z a1.sub 0).sub) 0).sub),za s6 ((at_ PTerm.z a1.sub 0).sub),oT a_0 a0,za s_1 a1.sub,oPw,oCl s9.blk (s9.off + Int.toNat 0 * 5) (Term.C (⟨(at_ PTerm.z ((at_ PTerm.z ((at_ PTerm.z a1.sub 0).sub) 0).sub) 0).kind,(at_ PTerm.z ((at_ PTerm.z ((at_ PTerm.z a1.sub 0).sub) 0).sub) 0).name,(at_ PTerm.z ((at_ PTerm.z ((at_ PTerm.z a1.sub 0).sub) 0).sub) 0).other,(at_ PTerm.z ((at_ PTerm.z ((at_ PTerm.z a1.sub 0).sub) 0).sub) 0).form,s23⟩ : Term)),za s23 ((at_ PTerm.z ((at_ PTerm.z ((at_ PTerm.z a1.sub 0).sub) 0).sub) 0).sub),oCl s_1.blk (s_1.off + Int.toNat 1 * 5) (Term.C (⟨(at_ PTerm.z a1.sub 1).kind,(at_ PTerm.z a1.sub 1).name,(at_ PTerm.z a1.sub 1).other,(at_ PTerm.z a1.sub 1).form,s25⟩ : Term)),za s25 ((at_ PTerm.z a1.sub 1).sub)]:=hT
  refine wd (zi zq rfl ((S.blk 3).all _ (Term.len _)) (Term.len _)) ?_
  exact ze (ob4 trivial rfl (by simp only [zf (L:=L) (i:=2) (j:=4) rfl,zf (L:=L) (i:=2) (j:=6) rfl,hl4,hl6,cond_true,cond_false]; exact S))
 ·rintro L g v hL hcl hclo hT hv1 hv2
  have hl4:L 4=false:=by cases h:L 4 with | false=>rfl | true=>exact absurd (hclo 4 3 h jM) (by rw [hL]; decide)
  have hl6:L 6=false:=by cases h:L 6 with | false=>rfl | true=>exact absurd (hclo 6 3 h jM) (by rw [hL]; decide)
  simp only [hl4,hl6,cond_true,cond_false] at hT
  replace S:St A N w v [oB b38 zb (Term.C (⟨r33.1.kind,r33.1.name,r33.1.other,r33.1.form,s40⟩ : Term)),oB b12 zb (Term.C (⟨(at_ PTerm.z ((at_ PTerm.z a1.sub 0).sub) 0).kind,(at_ PTerm.z ((at_ PTerm.z a1.sub 0).sub) 0).name,(at_ PTerm.z ((at_ PTerm.z a1.sub 0).sub) 0).other,(at_ PTerm.z ((at_ PTerm.z a1.sub 0).sub) 0).form,s9⟩ : Term)),oB b4 zb (Term.C (⟨0,ByteArray.empty,ByteArray.empty,0,SlV.nil⟩ : Term)),oB b2 zb (Term.C (⟨a1.kind,a1.name,a1.other,a1.form,s_1⟩ : Term))] [za s32 r29.sub,za s36 r33.1.sub,za s40 r33.1.sub,za s9 ((at_ PTerm.z ((at_ PTerm.z a1.sub 0).sub) 0).sub),za s6 ((at_ PTerm.z a1.sub 0).sub),oT a_0 a0,za s_1 a1.sub,oPw,oCl s9.blk (s9.off + Int.toNat 0 * 5) (Term.C (⟨(at_ PTerm.z ((at_ PTerm.z ((at_ PTerm.z a1.sub 0).sub) 0).sub) 0).kind,(at_ PTerm.z ((at_ PTerm.z ((at_ PTerm.z a1.sub 0).sub) 0).sub) 0).name,(at_ PTerm.z ((at_ PTerm.z ((at_ PTerm.z a1.sub 0).sub) 0).sub) 0).other,(at_ PTerm.z ((at_ PTerm.z ((at_ PTerm.z a1.sub 0).sub) 0).sub) 0).form,s23⟩ : Term)),za s23 ((at_ PTerm.z ((at_ PTerm.z ((at_ PTerm.z a1.sub 0).sub) 0).sub) 0).sub),oCl s_1.blk (s_1.off + Int.toNat 1 * 5) (Term.C (⟨(at_ PTerm.z a1.sub 1).kind,(at_ PTerm.z a1.sub 1).name,(at_ PTerm.z a1.sub 1).other,(at_ PTerm.z a1.sub 1).form,s25⟩ : Term)),za s25 ((at_ PTerm.z a1.sub 1).sub)]:=hT
  obtain ⟨B78,MB78,SB78,back⟩ := S.calln 0 ((.z 5 rfl (.z 6 rfl .nil)))
  refine zJ (zS uh (zX hv1 (zX hv2 (zX rfl rfl)))) jJ (uq (a1:=a1) SB78 er68) ?_
  rintro _ w77 ⟨rfl,S2⟩
  replace S:St A N w w77 [oB b38 zb (Term.C (⟨r33.1.kind,r33.1.name,r33.1.other,r33.1.form,s40⟩ : Term)),oB b12 zb (Term.C (⟨(at_ PTerm.z ((at_ PTerm.z a1.sub 0).sub) 0).kind,(at_ PTerm.z ((at_ PTerm.z a1.sub 0).sub) 0).name,(at_ PTerm.z ((at_ PTerm.z a1.sub 0).sub) 0).other,(at_ PTerm.z ((at_ PTerm.z a1.sub 0).sub) 0).form,s9⟩ : Term)),oB b4 zb (Term.C (⟨0,ByteArray.empty,ByteArray.empty,0,SlV.nil⟩ : Term)),oB b2 zb (Term.C (⟨a1.kind,a1.name,a1.other,a1.form,s_1⟩ : Term))] [za s32 r29.sub,za s36 r33.1.sub,za s40 r33.1.sub,za s9 ((at_ PTerm.z ((at_ PTerm.z a1.sub 0).sub) 0).sub),za s6 ((at_ PTerm.z a1.sub 0).sub),oT a_0 a0,za s_1 a1.sub,oPw,oCl s9.blk (s9.off + Int.toNat 0 * 5) (Term.C (⟨(at_ PTerm.z ((at_ PTerm.z ((at_ PTerm.z a1.sub 0).sub) 0).sub) 0).kind,(at_ PTerm.z ((at_ PTerm.z ((at_ PTerm.z a1.sub 0).sub) 0).sub) 0).name,(at_ PTerm.z ((at_ PTerm.z ((at_ PTerm.z a1.sub 0).sub) 0).sub) 0).other,(at_ PTerm.z ((at_ PTerm.z ((at_ PTerm.z a1.sub 0).sub) 0).sub) 0).form,s23⟩ : Term)),za s23 ((at_ PTerm.z ((at_ PTerm.z ((at_ PTerm.z a1.sub 0).sub) 0).sub) 0).sub),oCl s_1.blk (s_1.off + Int.toNat 1 * 5) (Term.C (⟨(at_ PTerm.z a1.sub 1).kind,(at_ PTerm.z a1.sub 1).name,(at_ PTerm.z a1.sub 1).other,(at_ PTerm.z a1.sub 1).form,s25⟩ : Term)),za s25 ((at_ PTerm.z a1.sub 1).sub)]:=back _ _ _ _ S2 rfl
  clear back S2 SB78
  exact ze (ob4 trivial rfl (by simp only [zf (L:=L) (i:=3) (j:=4) rfl,zf (L:=L) (i:=3) (j:=6) rfl,hl4,hl6,cond_true,cond_false]; exact S))
 ·rintro L g v hL hcl hclo hT hv0 hv3
  have hl4:L 4=false:=hL
  have hl6:L 6=false:=by cases h:L 6 with | false=>rfl | true=>exact absurd (hclo 6 4 h jM) (by rw [hL]; decide)
  simp only [hl4,hl6,cond_true,cond_false] at hT
  replace S:St A N w v [oB b38 zb (Term.C (⟨r33.1.kind,r33.1.name,r33.1.other,r33.1.form,s40⟩ : Term)),oB b12 zb (Term.C (⟨(at_ PTerm.z ((at_ PTerm.z a1.sub 0).sub) 0).kind,(at_ PTerm.z ((at_ PTerm.z a1.sub 0).sub) 0).name,(at_ PTerm.z ((at_ PTerm.z a1.sub 0).sub) 0).other,(at_ PTerm.z ((at_ PTerm.z a1.sub 0).sub) 0).form,s9⟩ : Term)),oB b4 zb (Term.C (⟨0,ByteArray.empty,ByteArray.empty,0,SlV.nil⟩ : Term)),oB b2 zb (Term.C (⟨a1.kind,a1.name,a1.other,a1.form,s_1⟩ : Term))] [za s32 r29.sub,za s36 r33.1.sub,za s40 r33.1.sub,za s9 ((at_ PTerm.z ((at_ PTerm.z a1.sub 0).sub) 0).sub),za s6 ((at_ PTerm.z a1.sub 0).sub),oT a_0 a0,za s_1 a1.sub,oPw,oCl s9.blk (s9.off + Int.toNat 0 * 5) (Term.C (⟨(at_ PTerm.z ((at_ PTerm.z ((at_ PTerm.z a1.sub 0).sub) 0).sub) 0).kind,(at_ PTerm.z ((at_ PTerm.z ((at_ PTerm.z a1.sub 0).sub) 0).sub) 0).name,(at_ PTerm.z ((at_ PTerm.z ((at_ PTerm.z a1.sub 0).sub) 0).sub) 0).other,(at_ PTerm.z ((at_ PTerm.z ((at_ PTerm.z a1.sub 0).sub) 0).sub) 0).form,s23⟩ : Term)),za s23 ((at_ PTerm.z ((at_ PTerm.z ((at_ PTerm.z a1.sub 0).sub) 0).sub) 0).sub),oCl s_1.blk (s_1.off + Int.toNat 1 * 5) (Term.C (⟨(at_ PTerm.z a1.sub 1).kind,(at_ PTerm.z a1.sub 1).name,(at_ PTerm.z a1.sub 1).other,(at_ PTerm.z a1.sub 1).form,s25⟩ : Term)),za s25 ((at_ PTerm.z a1.sub 1).sub)]:=hT
  obtain ⟨B81,MB81,SB81,back⟩ := S.sub [2] [] [oB b38 zb (Term.C (⟨r33.1.kind,r33.1.name,r33.1.other,r33.1.form,s40⟩ : Term)),oB b12 zb (Term.C (⟨(at_ PTerm.z ((at_ PTerm.z a1.sub 0).sub) 0).kind,(at_ PTerm.z ((at_ PTerm.z a1.sub 0).sub) 0).name,(at_ PTerm.z ((at_ PTerm.z a1.sub 0).sub) 0).other,(at_ PTerm.z ((at_ PTerm.z a1.sub 0).sub) 0).form,s9⟩ : Term)),oB b4 zb (Term.C (⟨0,ByteArray.empty,ByteArray.empty,0,SlV.nil⟩ : Term)),oB b2 zb (Term.C (⟨a1.kind,a1.name,a1.other,a1.form,s_1⟩ : Term))]
  refine zJ (zS uF (zX hv0 (zX hv3 rfl))) jJ (uG (a0:=r33.1) SB81 er71) ?_
  rintro _ w80 ⟨s74,rfl,S2⟩
  replace S:St A N w w80 [oB b38 zb (Term.C (⟨r33.1.kind,r33.1.name,r33.1.other,r33.1.form,s40⟩ : Term)),oB b12 zb (Term.C (⟨(at_ PTerm.z ((at_ PTerm.z a1.sub 0).sub) 0).kind,(at_ PTerm.z ((at_ PTerm.z a1.sub 0).sub) 0).name,(at_ PTerm.z ((at_ PTerm.z a1.sub 0).sub) 0).other,(at_ PTerm.z ((at_ PTerm.z a1.sub 0).sub) 0).form,s9⟩ : Term)),oB b4 zb (Term.C (⟨0,ByteArray.empty,ByteArray.empty,0,SlV.nil⟩ : Term)),oB b2 zb (Term.C (⟨a1.kind,a1.name,a1.other,a1.form,s_1⟩ : Term))] [za s74 r71.sub,za s32 r29.sub,za s36 r33.1.sub,za s40 r33.1.sub,za s9 ((at_ PTerm.z ((at_ PTerm.z a1.sub 0).sub) 0).sub),za s6 ((at_ PTerm.z a1.sub 0).sub),oT a_0 a0,za s_1 a1.sub,oPw,oCl s9.blk (s9.off + Int.toNat 0 * 5) (Term.C (⟨(at_ PTerm.z ((at_ PTerm.z ((at_ PTerm.z a1.sub 0).sub) 0).sub) 0).kind,(at_ PTerm.z ((at_ PTerm.z ((at_ PTerm.z a1.sub 0).sub) 0).sub) 0).name,(at_ PTerm.z ((at_ PTerm.z ((at_ PTerm.z a1.sub 0).sub) 0).sub) 0).other,(at_ PTerm.z ((at_ PTerm.z ((at_ PTerm.z a1.sub 0).sub) 0).sub) 0).form,s23⟩ : Term)),za s23 ((at_ PTerm.z ((at_ PTerm.z ((at_ PTerm.z a1.sub 0).sub) 0).sub) 0).sub),oCl s_1.blk (s_1.off + Int.toNat 1 * 5) (Term.C (⟨(at_ PTerm.z a1.sub 1).kind,(at_ PTerm.z a1.sub 1).name,(at_ PTerm.z a1.sub 1).other,(at_ PTerm.z a1.sub 1).form,s25⟩ : Term)),za s25 ((at_ PTerm.z a1.sub 1).sub)]:=back _ _ _ _ _ S2 rfl rfl
  clear back S2 SB81
  have hT2 : ∃ (s74':SlV),((plus L 4) 4=true→(upd g 38 (Value.agg (Term.C (⟨r71.kind,r71.name,r71.other,r71.form,s74⟩ : Term)).toArray)) 38=Value.agg (Term.C (⟨r71.kind,r71.name,r71.other,r71.form,s74'⟩ : Term)).toArray)∧St A N w w80 [oB b38 zb (Term.C (⟨r33.1.kind,r33.1.name,r33.1.other,r33.1.form,s40⟩ : Term)),oB b12 zb (Term.C (⟨(at_ PTerm.z ((at_ PTerm.z a1.sub 0).sub) 0).kind,(at_ PTerm.z ((at_ PTerm.z a1.sub 0).sub) 0).name,(at_ PTerm.z ((at_ PTerm.z a1.sub 0).sub) 0).other,(at_ PTerm.z ((at_ PTerm.z a1.sub 0).sub) 0).form,s9⟩ : Term)),oB b4 zb (Term.C (⟨0,ByteArray.empty,ByteArray.empty,0,SlV.nil⟩ : Term)),oB b2 zb (Term.C (⟨a1.kind,a1.name,a1.other,a1.form,s_1⟩ : Term))] [za s74' r71.sub,za s32 r29.sub,za s36 r33.1.sub,za s40 r33.1.sub,za s9 ((at_ PTerm.z ((at_ PTerm.z a1.sub 0).sub) 0).sub),za s6 ((at_ PTerm.z a1.sub 0).sub),oT a_0 a0,za s_1 a1.sub,oPw,oCl s9.blk (s9.off + Int.toNat 0 * 5) (Term.C (⟨(at_ PTerm.z ((at_ PTerm.z ((at_ PTerm.z a1.sub 0).sub) 0).sub) 0).kind,(at_ PTerm.z ((at_ PTerm.z ((at_ PTerm.z a1.sub 0).sub) 0).sub) 0).name,(at_ PTerm.z ((at_ PTerm.z ((at_ PTerm.z a1.sub 0).sub) 0).sub) 0).other,(at_ PTerm.z ((at_ PTerm.z ((at_ PTerm.z a1.sub 0).sub) 0).sub) 0).form,s23⟩ : Term)),za s23 ((at_ PTerm.z ((at_ PTerm.z ((at_ PTerm.z a1.sub 0).sub) 0).sub) 0).sub),oCl s_1.blk (s_1.off + Int.toNat 1 * 5) (Term.C (⟨(at_ PTerm.z a1.sub 1).kind,(at_ PTerm.z a1.sub 1).name,(at_ PTerm.z a1.sub 1).other,(at_ PTerm.z a1.sub 1).form,s25⟩ : Term)),za s25 ((at_ PTerm.z a1.sub 1).sub)]:=⟨s74,fun _=>upd_same _ _ _,S⟩
  exact ze (ob4 trivial trivial (by simp only [zf (L:=L) (i:=4) (j:=6) rfl,xS (L:=L) (i:=4),hl6,cond_true,cond_false] at hT2 ⊢; exact hT2))
 ·rintro L g v hL hcl hclo hT 
  cases hl6:L 6 with
  | true =>
   replace hT : ∃ (s74:SlV),(L 4=true→g 38=Value.agg (Term.C (⟨r71.kind,r71.name,r71.other,r71.form,s74⟩ : Term)).toArray)∧St A N w v [oB b4 zb (Term.C (⟨r71.kind,r71.name,r71.other,r71.form,s74⟩ : Term)),oB b38 zb (Term.C (⟨r33.1.kind,r33.1.name,r33.1.other,r33.1.form,s40⟩ : Term)),oB b12 zb (Term.C (⟨(at_ PTerm.z ((at_ PTerm.z a1.sub 0).sub) 0).kind,(at_ PTerm.z ((at_ PTerm.z a1.sub 0).sub) 0).name,(at_ PTerm.z ((at_ PTerm.z a1.sub 0).sub) 0).other,(at_ PTerm.z ((at_ PTerm.z a1.sub 0).sub) 0).form,s9⟩ : Term)),oB b2 zb (Term.C (⟨a1.kind,a1.name,a1.other,a1.form,s_1⟩ : Term))] [za s74 r71.sub,za s32 r29.sub,za s36 r33.1.sub,za s40 r33.1.sub,za s9 ((at_ PTerm.z ((at_ PTerm.z a1.sub 0).sub) 0).sub),za s6 ((at_ PTerm.z a1.sub 0).sub),oT a_0 a0,za s_1 a1.sub,oPw,oCl s9.blk (s9.off + Int.toNat 0 * 5) (Term.C (⟨(at_ PTerm.z ((at_ PTerm.z ((at_ PTerm.z a1.sub 0).sub) 0).sub) 0).kind,(at_ PTerm.z ((at_ PTerm.z ((at_ PTerm.z a1.sub 0).sub) 0).sub) 0).name,(at_ PTerm.z ((at_ PTerm.z ((at_ PTerm.z a1.sub 0).sub) 0).sub) 0).other,(at_ PTerm.z ((at_ PTerm.z ((at_ PTerm.z a1.sub 0).sub) 0).sub) 0).form,s23⟩ : Term)),za s23 ((at_ PTerm.z ((at_ PTerm.z ((at_ PTerm.z a1.sub 0).sub) 0).sub) 0).sub),oCl s_1.blk (s_1.off + Int.toNat 1 * 5) (Term.C (⟨(at_ PTerm.z a1.sub 1).kind,(at_ PTerm.z a1.sub 1).name,(at_ PTerm.z a1.sub 1).other,(at_ PTerm.z a1.sub 1).form,s25⟩ : Term)),za s25 ((at_ PTerm.z a1.sub 1).sub)]:=by simp only [hl6,cond_true,cond_false] at hT ⊢; exact hT
   obtain ⟨s74,he4,S⟩ := hT
   refine wd (zp rfl) ?_
   have hT2 : ∃ (s74':SlV),((plus L 5) 4=true→(upd g 39 (Value.int .i64 r33.2)) 38=Value.agg (Term.C (⟨r71.kind,r71.name,r71.other,r71.form,s74'⟩ : Term)).toArray)∧St A N w v [oB b4 zb (Term.C (⟨r71.kind,r71.name,r71.other,r71.form,s74'⟩ : Term)),oB b38 zb (Term.C (⟨r33.1.kind,r33.1.name,r33.1.other,r33.1.form,s40⟩ : Term)),oB b12 zb (Term.C (⟨(at_ PTerm.z ((at_ PTerm.z a1.sub 0).sub) 0).kind,(at_ PTerm.z ((at_ PTerm.z a1.sub 0).sub) 0).name,(at_ PTerm.z ((at_ PTerm.z a1.sub 0).sub) 0).other,(at_ PTerm.z ((at_ PTerm.z a1.sub 0).sub) 0).form,s9⟩ : Term)),oB b2 zb (Term.C (⟨a1.kind,a1.name,a1.other,a1.form,s_1⟩ : Term))] [za s74' r71.sub,za s32 r29.sub,za s36 r33.1.sub,za s40 r33.1.sub,za s9 ((at_ PTerm.z ((at_ PTerm.z a1.sub 0).sub) 0).sub),za s6 ((at_ PTerm.z a1.sub 0).sub),oT a_0 a0,za s_1 a1.sub,oPw,oCl s9.blk (s9.off + Int.toNat 0 * 5) (Term.C (⟨(at_ PTerm.z ((at_ PTerm.z ((at_ PTerm.z a1.sub 0).sub) 0).sub) 0).kind,(at_ PTerm.z ((at_ PTerm.z ((at_ PTerm.z a1.sub 0).sub) 0).sub) 0).name,(at_ PTerm.z ((at_ PTerm.z ((at_ PTerm.z a1.sub 0).sub) 0).sub) 0).other,(at_ PTerm.z ((at_ PTerm.z ((at_ PTerm.z a1.sub 0).sub) 0).sub) 0).form,s23⟩ : Term)),za s23 ((at_ PTerm.z ((at_ PTerm.z ((at_ PTerm.z a1.sub 0).sub) 0).sub) 0).sub),oCl s_1.blk (s_1.off + Int.toNat 1 * 5) (Term.C (⟨(at_ PTerm.z a1.sub 1).kind,(at_ PTerm.z a1.sub 1).name,(at_ PTerm.z a1.sub 1).other,(at_ PTerm.z a1.sub 1).form,s25⟩ : Term)),za s25 ((at_ PTerm.z a1.sub 1).sub)]:=⟨s74,fun h=>by rw [zr _ _ _ _ jJ]; exact he4 (by rw [zf rfl] at h; exact h),S⟩
   exact ze (ob4 trivial rfl (by simp only [zf (L:=L) (i:=5) (j:=4) rfl,zf (L:=L) (i:=5) (j:=6) rfl,hl6,cond_true,cond_false] at hT2 ⊢; exact hT2))
  | false =>
   cases hl4:L 4 with
   | true =>
    replace hT : ∃ (s74:SlV),(L 4=true→g 38=Value.agg (Term.C (⟨r71.kind,r71.name,r71.other,r71.form,s74⟩ : Term)).toArray)∧St A N w v [oB b38 zb (Term.C (⟨r33.1.kind,r33.1.name,r33.1.other,r33.1.form,s40⟩ : Term)),oB b12 zb (Term.C (⟨(at_ PTerm.z ((at_ PTerm.z a1.sub 0).sub) 0).kind,(at_ PTerm.z ((at_ PTerm.z a1.sub 0).sub) 0).name,(at_ PTerm.z ((at_ PTerm.z a1.sub 0).sub) 0).other,(at_ PTerm.z ((at_ PTerm.z a1.sub 0).sub) 0).form,s9⟩ : Term)),oB b4 zb (Term.C (⟨0,ByteArray.empty,ByteArray.empty,0,SlV.nil⟩ : Term)),oB b2 zb (Term.C (⟨a1.kind,a1.name,a1.other,a1.form,s_1⟩ : Term))] [za s74 r71.sub,za s32 r29.sub,za s36 r33.1.sub,za s40 r33.1.sub,za s9 ((at_ PTerm.z ((at_ PTerm.z a1.sub 0).sub) 0).sub),za s6 ((at_ PTerm.z a1.sub 0).sub),oT a_0 a0,za s_1 a1.sub,oPw,oCl s9.blk (s9.off + Int.toNat 0 * 5) (Term.C (⟨(at_ PTerm.z ((at_ PTerm.z ((at_ PTerm.z a1.sub 0).sub) 0).sub) 0).kind,(at_ PTerm.z ((at_ PTerm.z ((at_ PTerm.z a1.sub 0).sub) 0).sub) 0).name,(at_ PTerm.z ((at_ PTerm.z ((at_ PTerm.z a1.sub 0).sub) 0).sub) 0).other,(at_ PTerm.z ((at_ PTerm.z ((at_ PTerm.z a1.sub 0).sub) 0).sub) 0).form,s23⟩ : Term)),za s23 ((at_ PTerm.z ((at_ PTerm.z ((at_ PTerm.z a1.sub 0).sub) 0).sub) 0).sub),oCl s_1.blk (s_1.off + Int.toNat 1 * 5) (Term.C (⟨(at_ PTerm.z a1.sub 1).kind,(at_ PTerm.z a1.sub 1).name,(at_ PTerm.z a1.sub 1).other,(at_ PTerm.z a1.sub 1).form,s25⟩ : Term)),za s25 ((at_ PTerm.z a1.sub 1).sub)]:=by simp only [hl4,hl6,cond_true,cond_false] at hT ⊢; exact hT
    obtain ⟨s74,he4,S⟩ := hT
    refine wd (zp rfl) ?_
    have hT2 : ∃ (s74':SlV),((plus L 5) 4=true→(upd g 39 (Value.int .i64 r33.2)) 38=Value.agg (Term.C (⟨r71.kind,r71.name,r71.other,r71.form,s74'⟩ : Term)).toArray)∧St A N w v [oB b38 zb (Term.C (⟨r33.1.kind,r33.1.name,r33.1.other,r33.1.form,s40⟩ : Term)),oB b12 zb (Term.C (⟨(at_ PTerm.z ((at_ PTerm.z a1.sub 0).sub) 0).kind,(at_ PTerm.z ((at_ PTerm.z a1.sub 0).sub) 0).name,(at_ PTerm.z ((at_ PTerm.z a1.sub 0).sub) 0).other,(at_ PTerm.z ((at_ PTerm.z a1.sub 0).sub) 0).form,s9⟩ : Term)),oB b4 zb (Term.C (⟨0,ByteArray.empty,ByteArray.empty,0,SlV.nil⟩ : Term)),oB b2 zb (Term.C (⟨a1.kind,a1.name,a1.other,a1.form,s_1⟩ : Term))] [za s74' r71.sub,za s32 r29.sub,za s36 r33.1.sub,za s40 r33.1.sub,za s9 ((at_ PTerm.z ((at_ PTerm.z a1.sub 0).sub) 0).sub),za s6 ((at_ PTerm.z a1.sub 0).sub),oT a_0 a0,za s_1 a1.sub,oPw,oCl s9.blk (s9.off + Int.toNat 0 * 5) (Term.C (⟨(at_ PTerm.z ((at_ PTerm.z ((at_ PTerm.z a1.sub 0).sub) 0).sub) 0).kind,(at_ PTerm.z ((at_ PTerm.z ((at_ PTerm.z a1.sub 0).sub) 0).sub) 0).name,(at_ PTerm.z ((at_ PTerm.z ((at_ PTerm.z a1.sub 0).sub) 0).sub) 0).other,(at_ PTerm.z ((at_ PTerm.z ((at_ PTerm.z a1.sub 0).sub) 0).sub) 0).form,s23⟩ : Term)),za s23 ((at_ PTerm.z ((at_ PTerm.z ((at_ PTerm.z a1.sub 0).sub) 0).sub) 0).sub),oCl s_1.blk (s_1.off + Int.toNat 1 * 5) (Term.C (⟨(at_ PTerm.z a1.sub 1).kind,(at_ PTerm.z a1.sub 1).name,(at_ PTerm.z a1.sub 1).other,(at_ PTerm.z a1.sub 1).form,s25⟩ : Term)),za s25 ((at_ PTerm.z a1.sub 1).sub)]:=⟨s74,fun h=>by rw [zr _ _ _ _ jJ]; exact he4 (by rw [zf rfl] at h; exact h),S⟩
    exact ze (ob4 trivial rfl (by simp only [zf (L:=L) (i:=5) (j:=4) rfl,zf (L:=L) (i:=5) (j:=6) rfl,hl4,hl6,cond_true,cond_false] at hT2 ⊢; exact hT2))
   | false =>
    simp only [hl4,hl6,cond_true,cond_false] at hT
    replace S:St A N w v [oB b38 zb (Term.C (⟨r33.1.kind,r33.1.name,r33.1.other,r33.1.form,s40⟩ : Term)),oB b12 zb (Term.C (⟨(at_ PTerm.z ((at_ PTerm.z a1.sub 0).sub) 0).kind,(at_ PTerm.z ((at_ PTerm.z a1.sub 0).sub) 0).name,(at_ PTerm.z ((at_ PTerm.z a1.sub 0).sub) 0).other,(at_ PTerm.z ((at_ PTerm.z a1.sub 0).sub) 0).form,s9⟩ : Term)),oB b4 zb (Term.C (⟨0,ByteArray.empty,ByteArray.empty,0,SlV.nil⟩ : Term)),oB b2 zb (Term.C (⟨a1.kind,a1.name,a1.other,a1.form,s_1⟩ : Term))] [za s32 r29.sub,za s36 r33.1.sub,za s40 r33.1.sub,za s9 ((at_ PTerm.z ((at_ PTerm.z a1.sub 0).sub) 0).sub),za s6 ((at_ PTerm.z a1.sub 0).sub),oT a_0 a0,za s_1 a1.sub,oPw,oCl s9.blk (s9.off + Int.toNat 0 * 5) (Term.C (⟨(at_ PTerm.z ((at_ PTerm.z ((at_ PTerm.z a1.sub 0).sub) 0).sub) 0).kind,(at_ PTerm.z ((at_ PTerm.z ((at_ PTerm.z a1.sub 0).sub) 0).sub) 0).name,(at_ PTerm.z ((at_ PTerm.z ((at_ PTerm.z a1.sub 0).sub) 0).sub) 0).other,(at_ PTerm.z ((at_ PTerm.z ((at_ PTerm.z a1.sub 0).sub) 0).sub) 0).form,s23⟩ : Term)),za s23 ((at_ PTerm.z ((at_ PTerm.z ((at_ PTerm.z a1.sub 0).sub) 0).sub) 0).sub),oCl s_1.blk (s_1.off + Int.toNat 1 * 5) (Term.C (⟨(at_ PTerm.z a1.sub 1).kind,(at_ PTerm.z a1.sub 1).name,(at_ PTerm.z a1.sub 1).other,(at_ PTerm.z a1.sub 1).form,s25⟩ : Term)),za s25 ((at_ PTerm.z a1.sub 1).sub)]:=hT
    refine wd (zp rfl) ?_
    exact ze (ob4 trivial rfl (by simp only [zf (L:=L) (i:=5) (j:=4) rfl,zf (L:=L) (i:=5) (j:=6) rfl,hl4,hl6,cond_true,cond_false]; exact S))
 ·rintro L g v hL hcl hclo hT hv4
  have hl4:L 4=true:=hcl 4 jM
  have hl6:L 6=false:=hL
  replace hT : ∃ (s74:SlV),(L 4=true→g 38=Value.agg (Term.C (⟨r71.kind,r71.name,r71.other,r71.form,s74⟩ : Term)).toArray)∧St A N w v [oB b38 zb (Term.C (⟨r33.1.kind,r33.1.name,r33.1.other,r33.1.form,s40⟩ : Term)),oB b12 zb (Term.C (⟨(at_ PTerm.z ((at_ PTerm.z a1.sub 0).sub) 0).kind,(at_ PTerm.z ((at_ PTerm.z a1.sub 0).sub) 0).name,(at_ PTerm.z ((at_ PTerm.z a1.sub 0).sub) 0).other,(at_ PTerm.z ((at_ PTerm.z a1.sub 0).sub) 0).form,s9⟩ : Term)),oB b4 zb (Term.C (⟨0,ByteArray.empty,ByteArray.empty,0,SlV.nil⟩ : Term)),oB b2 zb (Term.C (⟨a1.kind,a1.name,a1.other,a1.form,s_1⟩ : Term))] [za s74 r71.sub,za s32 r29.sub,za s36 r33.1.sub,za s40 r33.1.sub,za s9 ((at_ PTerm.z ((at_ PTerm.z a1.sub 0).sub) 0).sub),za s6 ((at_ PTerm.z a1.sub 0).sub),oT a_0 a0,za s_1 a1.sub,oPw,oCl s9.blk (s9.off + Int.toNat 0 * 5) (Term.C (⟨(at_ PTerm.z ((at_ PTerm.z ((at_ PTerm.z a1.sub 0).sub) 0).sub) 0).kind,(at_ PTerm.z ((at_ PTerm.z ((at_ PTerm.z a1.sub 0).sub) 0).sub) 0).name,(at_ PTerm.z ((at_ PTerm.z ((at_ PTerm.z a1.sub 0).sub) 0).sub) 0).other,(at_ PTerm.z ((at_ PTerm.z ((at_ PTerm.z a1.sub 0).sub) 0).sub) 0).form,s23⟩ : Term)),za s23 ((at_ PTerm.z ((at_ PTerm.z ((at_ PTerm.z a1.sub 0).sub) 0).sub) 0).sub),oCl s_1.blk (s_1.off + Int.toNat 1 * 5) (Term.C (⟨(at_ PTerm.z a1.sub 1).kind,(at_ PTerm.z a1.sub 1).name,(at_ PTerm.z a1.sub 1).other,(at_ PTerm.z a1.sub 1).form,s25⟩ : Term)),za s25 ((at_ PTerm.z a1.sub 1).sub)]:=by simp only [hl4,hl6,cond_true,cond_false] at hT ⊢; exact hT
  obtain ⟨s74,he4,S⟩ := hT
  refine zy zq rfl (he4 (hcl 4 jM)) (S.blk 2) (Term.len _) (by rw [Term.len]; decide) (Term.one _) (zM (Term.len _)) fun w82 B hw82 zw82=>?_
  replace S:St A N w w82 [oB b4 zb (Term.C (⟨r71.kind,r71.name,r71.other,r71.form,s74⟩ : Term)),oB b38 zb (Term.C (⟨r33.1.kind,r33.1.name,r33.1.other,r33.1.form,s40⟩ : Term)),oB b12 zb (Term.C (⟨(at_ PTerm.z ((at_ PTerm.z a1.sub 0).sub) 0).kind,(at_ PTerm.z ((at_ PTerm.z a1.sub 0).sub) 0).name,(at_ PTerm.z ((at_ PTerm.z a1.sub 0).sub) 0).other,(at_ PTerm.z ((at_ PTerm.z a1.sub 0).sub) 0).form,s9⟩ : Term)),oB b2 zb (Term.C (⟨a1.kind,a1.name,a1.other,a1.form,s_1⟩ : Term))] [za s74 r71.sub,za s32 r29.sub,za s36 r33.1.sub,za s40 r33.1.sub,za s9 ((at_ PTerm.z ((at_ PTerm.z a1.sub 0).sub) 0).sub),za s6 ((at_ PTerm.z a1.sub 0).sub),oT a_0 a0,za s_1 a1.sub,oPw,oCl s9.blk (s9.off + Int.toNat 0 * 5) (Term.C (⟨(at_ PTerm.z ((at_ PTerm.z ((at_ PTerm.z a1.sub 0).sub) 0).sub) 0).kind,(at_ PTerm.z ((at_ PTerm.z ((at_ PTerm.z a1.sub 0).sub) 0).sub) 0).name,(at_ PTerm.z ((at_ PTerm.z ((at_ PTerm.z a1.sub 0).sub) 0).sub) 0).other,(at_ PTerm.z ((at_ PTerm.z ((at_ PTerm.z a1.sub 0).sub) 0).sub) 0).form,s23⟩ : Term)),za s23 ((at_ PTerm.z ((at_ PTerm.z ((at_ PTerm.z a1.sub 0).sub) 0).sub) 0).sub),oCl s_1.blk (s_1.off + Int.toNat 1 * 5) (Term.C (⟨(at_ PTerm.z a1.sub 1).kind,(at_ PTerm.z a1.sub 1).name,(at_ PTerm.z a1.sub 1).other,(at_ PTerm.z a1.sub 1).form,s25⟩ : Term)),za s25 ((at_ PTerm.z a1.sub 1).sub)]:=S.store 2 B hw82
  clear B
  have hT2 : ∃ (s74':SlV),((plus L 6) 4=true→g 38=Value.agg (Term.C (⟨r71.kind,r71.name,r71.other,r71.form,s74'⟩ : Term)).toArray)∧St A N w w82 [oB b4 zb (Term.C (⟨r71.kind,r71.name,r71.other,r71.form,s74'⟩ : Term)),oB b38 zb (Term.C (⟨r33.1.kind,r33.1.name,r33.1.other,r33.1.form,s40⟩ : Term)),oB b12 zb (Term.C (⟨(at_ PTerm.z ((at_ PTerm.z a1.sub 0).sub) 0).kind,(at_ PTerm.z ((at_ PTerm.z a1.sub 0).sub) 0).name,(at_ PTerm.z ((at_ PTerm.z a1.sub 0).sub) 0).other,(at_ PTerm.z ((at_ PTerm.z a1.sub 0).sub) 0).form,s9⟩ : Term)),oB b2 zb (Term.C (⟨a1.kind,a1.name,a1.other,a1.form,s_1⟩ : Term))] [za s74' r71.sub,za s32 r29.sub,za s36 r33.1.sub,za s40 r33.1.sub,za s9 ((at_ PTerm.z ((at_ PTerm.z a1.sub 0).sub) 0).sub),za s6 ((at_ PTerm.z a1.sub 0).sub),oT a_0 a0,za s_1 a1.sub,oPw,oCl s9.blk (s9.off + Int.toNat 0 * 5) (Term.C (⟨(at_ PTerm.z ((at_ PTerm.z ((at_ PTerm.z a1.sub 0).sub) 0).sub) 0).kind,(at_ PTerm.z ((at_ PTerm.z ((at_ PTerm.z a1.sub 0).sub) 0).sub) 0).name,(at_ PTerm.z ((at_ PTerm.z ((at_ PTerm.z a1.sub 0).sub) 0).sub) 0).other,(at_ PTerm.z ((at_ PTerm.z ((at_ PTerm.z a1.sub 0).sub) 0).sub) 0).form,s23⟩ : Term)),za s23 ((at_ PTerm.z ((at_ PTerm.z ((at_ PTerm.z a1.sub 0).sub) 0).sub) 0).sub),oCl s_1.blk (s_1.off + Int.toNat 1 * 5) (Term.C (⟨(at_ PTerm.z a1.sub 1).kind,(at_ PTerm.z a1.sub 1).name,(at_ PTerm.z a1.sub 1).other,(at_ PTerm.z a1.sub 1).form,s25⟩ : Term)),za s25 ((at_ PTerm.z a1.sub 1).sub)]:=⟨s74,fun h=>he4 (by rw [zf rfl] at h; exact h),S⟩
  exact ze (ob40 trivial (fun _=>trivial) (by simp only [zf (L:=L) (i:=6) (j:=4) rfl,xS (L:=L) (i:=6),cond_true,cond_false] at hT2 ⊢; exact hT2))
 rintro L g w83 hLm hT hv84_0 hv84_1 hv84_2 hv84_3 _ hv84_5 _
 have hLt : ∀ j,j < 7→L j=true:=fun j hj=>by rw [hLm]; exact decide_eq_true hj
 replace hT : ∃ (s74:SlV),(L 4=true→g 38=Value.agg (Term.C (⟨r71.kind,r71.name,r71.other,r71.form,s74⟩ : Term)).toArray)∧St A N w w83 [oB b4 zb (Term.C (⟨r71.kind,r71.name,r71.other,r71.form,s74⟩ : Term)),oB b38 zb (Term.C (⟨r33.1.kind,r33.1.name,r33.1.other,r33.1.form,s40⟩ : Term)),oB b12 zb (Term.C (⟨(at_ PTerm.z ((at_ PTerm.z a1.sub 0).sub) 0).kind,(at_ PTerm.z ((at_ PTerm.z a1.sub 0).sub) 0).name,(at_ PTerm.z ((at_ PTerm.z a1.sub 0).sub) 0).other,(at_ PTerm.z ((at_ PTerm.z a1.sub 0).sub) 0).form,s9⟩ : Term)),oB b2 zb (Term.C (⟨a1.kind,a1.name,a1.other,a1.form,s_1⟩ : Term))] [za s74 r71.sub,za s32 r29.sub,za s36 r33.1.sub,za s40 r33.1.sub,za s9 ((at_ PTerm.z ((at_ PTerm.z a1.sub 0).sub) 0).sub),za s6 ((at_ PTerm.z a1.sub 0).sub),oT a_0 a0,za s_1 a1.sub,oPw,oCl s9.blk (s9.off + Int.toNat 0 * 5) (Term.C (⟨(at_ PTerm.z ((at_ PTerm.z ((at_ PTerm.z a1.sub 0).sub) 0).sub) 0).kind,(at_ PTerm.z ((at_ PTerm.z ((at_ PTerm.z a1.sub 0).sub) 0).sub) 0).name,(at_ PTerm.z ((at_ PTerm.z ((at_ PTerm.z a1.sub 0).sub) 0).sub) 0).other,(at_ PTerm.z ((at_ PTerm.z ((at_ PTerm.z a1.sub 0).sub) 0).sub) 0).form,s23⟩ : Term)),za s23 ((at_ PTerm.z ((at_ PTerm.z ((at_ PTerm.z a1.sub 0).sub) 0).sub) 0).sub),oCl s_1.blk (s_1.off + Int.toNat 1 * 5) (Term.C (⟨(at_ PTerm.z a1.sub 1).kind,(at_ PTerm.z a1.sub 1).name,(at_ PTerm.z a1.sub 1).other,(at_ PTerm.z a1.sub 1).form,s25⟩ : Term)),za s25 ((at_ PTerm.z a1.sub 1).sub)]:=by simp only [hLt 6 jJ,cond_true] at hT ⊢; exact hT
 obtain ⟨s74,he4,S⟩ := hT
 have hv84_4:=he4 (hLt 4 jJ)
 replace S:St A N w w83 [oB b4 zb (Term.C (⟨r71.kind,r71.name,r71.other,r71.form,s74⟩ : Term)),oB b38 zb (Term.C (⟨r33.1.kind,r33.1.name,r33.1.other,r33.1.form,s40⟩ : Term)),oB b12 zb (Term.C (⟨(at_ PTerm.z ((at_ PTerm.z a1.sub 0).sub) 0).kind,(at_ PTerm.z ((at_ PTerm.z a1.sub 0).sub) 0).name,(at_ PTerm.z ((at_ PTerm.z a1.sub 0).sub) 0).other,(at_ PTerm.z ((at_ PTerm.z a1.sub 0).sub) 0).form,s9⟩ : Term)),oB b2 zb (Term.C (⟨a1.kind,a1.name,a1.other,a1.form,s_1⟩ : Term))] [za s74 r71.sub,za s32 r29.sub,za s36 r33.1.sub,za s40 r33.1.sub,za s9 ((at_ PTerm.z ((at_ PTerm.z a1.sub 0).sub) 0).sub),za s6 ((at_ PTerm.z a1.sub 0).sub),oT a_0 a0,za s_1 a1.sub,oPw,oCl s9.blk (s9.off + Int.toNat 0 * 5) (Term.C (⟨(at_ PTerm.z ((at_ PTerm.z ((at_ PTerm.z a1.sub 0).sub) 0).sub) 0).kind,(at_ PTerm.z ((at_ PTerm.z ((at_ PTerm.z a1.sub 0).sub) 0).sub) 0).name,(at_ PTerm.z ((at_ PTerm.z ((at_ PTerm.z a1.sub 0).sub) 0).sub) 0).other,(at_ PTerm.z ((at_ PTerm.z ((at_ PTerm.z a1.sub 0).sub) 0).sub) 0).form,s23⟩ : Term)),za s23 ((at_ PTerm.z ((at_ PTerm.z ((at_ PTerm.z a1.sub 0).sub) 0).sub) 0).sub),oCl s_1.blk (s_1.off + Int.toNat 1 * 5) (Term.C (⟨(at_ PTerm.z a1.sub 1).kind,(at_ PTerm.z a1.sub 1).name,(at_ PTerm.z a1.sub 1).other,(at_ PTerm.z a1.sub 1).form,s25⟩ : Term)),za s25 ((at_ PTerm.z a1.sub 1).sub)]:=S
 refine wd (zn hv84_5) ?_
 refine ze ?_
 refine zC ?_
 refine ⟨_,(xB (zV zq rfl ((S.blk 0).all _ (Term.len _)) (Term.len _)) (zj rfl)),?_⟩
 replace S:St A N w w83 [] [za s74 r71.sub]:=S.arr [] [0]
 obtain rfl:=jN H
 exact ⟨s74,rfl,S⟩
theorem reduce_into_st {a0:PTerm} {s_0:SlV} {a1:PTerm} {s_1:SlV} {a2:Bool} (S:St A N w w [] [za s_0 a0.sub,za s_1 a1.sub,oPw]) {k:Nat} {r:PTerm × Int} (H:kL.f k a0 a1 a2=some r) :
  Calls PP F_reduce_into #[.agg (Term.C (⟨a0.kind,a0.name,a0.other,a0.form,s_0⟩ : Term)).toArray,.agg (Term.C (⟨a1.kind,a1.name,a1.other,a1.form,s_1⟩ : Term)).toArray,.bool a2] w fun e w' => ∃ v,e = .returned v∧(∃ so0:SlV,v = .tuple #[.agg (Term.C (⟨r.1.kind,r.1.name,r.1.other,r.1.form,so0⟩ : Term)).toArray,.int .i64 r.2]∧St A N w w' [] [za so0 r.1.sub]):=by
 unfold kL.f at H
 refine zE (n:=29) fn_reduce_into rfl rfl jL ?_
 refine zg (zd ?_)
 refine zQ rfl jJ fun b2 w1 hw1=>?_
 replace S:St A N w w1 [oB b2 zb (Term.C (⟨a0.kind,a0.name,a0.other,a0.form,s_0⟩ : Term))] [za s_0 a0.sub,za s_1 a1.sub,oPw]:=S.new hw1
 refine zQ rfl jJ fun b4 w3 hw3=>?_
 replace S:St A N w w3 [oB b4 zb (Term.C (⟨a1.kind,a1.name,a1.other,a1.form,s_1⟩ : Term)),oB b2 zb (Term.C (⟨a0.kind,a0.name,a0.other,a0.form,s_0⟩ : Term))] [za s_0 a0.sub,za s_1 a1.sub,oPw]:=S.new hw3
 refine zZ xr jJ fun b6 w5 hw5=>?_
 replace S:St A N w w5 [oB b6 zb (Term.C (⟨0,ByteArray.empty,ByteArray.empty,0,SlV.nil⟩ : Term)),oB b4 zb (Term.C (⟨a1.kind,a1.name,a1.other,a1.form,s_1⟩ : Term)),oB b2 zb (Term.C (⟨a0.kind,a0.name,a0.other,a0.form,s_0⟩ : Term))] [za s_0 a0.sub,za s_1 a1.sub,oPw]:=S.new hw5
 refine wd (zn rfl) ?_
 refine ze ?_
 refine zg (zg (zd ?_))
 refine wd (zG rfl) ?_
 refine ze ?_
 refine zU rfl (fun hc7=>?_) (fun hc7=>?_)
 ·replace H:=if_t hc7 H
  refine zg ?_
  refine wc_ws hmix fun w12 K=>?_
  replace S:=S.ext K
  clear K
  obtain ⟨hi13,H⟩ := xh H
  obtain ⟨s14,hc15,S⟩ := S.viewTerm 0 (zP hi13)
  replace S:St A N w w12 [oB b6 zb (Term.C (⟨0,ByteArray.empty,ByteArray.empty,0,SlV.nil⟩ : Term)),oB b4 zb (Term.C (⟨a1.kind,a1.name,a1.other,a1.form,s_1⟩ : Term)),oB b2 zb (Term.C (⟨a0.kind,a0.name,a0.other,a0.form,s_0⟩ : Term))] [za s14 ((at_ PTerm.z a0.sub 2).sub),za s_0 a0.sub,za s_1 a1.sub,oPw]:=S
  replace S:St A N w w12 [oB b6 zb (Term.C (⟨0,ByteArray.empty,ByteArray.empty,0,SlV.nil⟩ : Term)),oB b4 zb (Term.C (⟨a1.kind,a1.name,a1.other,a1.form,s_1⟩ : Term)),oB b2 zb (Term.C (⟨a0.kind,a0.name,a0.other,a0.form,s_0⟩ : Term))] [za s_0 a0.sub,za s_1 a1.sub,oPw,za s14 ((at_ PTerm.z a0.sub 2).sub)]:=S.zs [1,2,3,0]
  refine vS 0 7 [] jM jJ jM
   (V:=fun i v u=>match i with
   | _=>True) ?_ ?_
  ·intro i v u u' hi hx hv
   match i,hv with
   | _,_=>exact trivial
  refine xc (fun v K=>zh zO rfl (o':=4) rfl) rfl ?_
  refine xc (fun v K=>zt zF rfl (((S.ext K).blk 2).cell (Term.get_sub _))) rfl ?_
  refine xc (fun v K=>does_indexF zz rfl rfl ((S.ext K).onZ 0) (zP hi13).1 (zP hi13).2) rfl ?_
  refine xc (fun v K=>zi zq rfl (hc15.chg K (fun x=>x)) (Term.len _)) rfl ?_
  refine xc (fun v K=>zh vj rfl (o':=2) rfl) rfl ?_
  refine xc (fun v K=>zt xz rfl (((S.ext K).blk 2).cell (Term.get_other _))) rfl ?_
  refine xc (fun v K=>zi zq rfl (((S.ext K).blk 1).all _ (Term.len _)) (Term.len _)) rfl ?_
  refine uY fun g w16 K hV=>?_
  replace S:=S.ext K
  clear K hV
  refine jI 7 8 jM jJ ?_
  obtain ⟨r18,er18,H⟩ := zB H
  obtain ⟨B20,MB20,SB20,back⟩ := S.sub [3,1,2] [] [oB b6 zb (Term.C (⟨0,ByteArray.empty,ByteArray.empty,0,SlV.nil⟩ : Term)),oB b4 zb (Term.C (⟨a1.kind,a1.name,a1.other,a1.form,s_1⟩ : Term)),oB b2 zb (Term.C (⟨a0.kind,a0.name,a0.other,a0.form,s_0⟩ : Term))]
  refine zJ (zH uN) jJ (uP (a0:=(at_ PTerm.z a0.sub 2)) (a2:=a1) SB20 er18) ?_
  rintro _ w19 ⟨s21,rfl,S2⟩
  replace S:St A N w w19 [oB b6 zb (Term.C (⟨0,ByteArray.empty,ByteArray.empty,0,SlV.nil⟩ : Term)),oB b4 zb (Term.C (⟨a1.kind,a1.name,a1.other,a1.form,s_1⟩ : Term)),oB b2 zb (Term.C (⟨a0.kind,a0.name,a0.other,a0.form,s_0⟩ : Term))] [za s21 r18.1.sub,za s_0 a0.sub,za s_1 a1.sub,oPw,za s14 ((at_ PTerm.z a0.sub 2).sub)]:=back _ _ _ _ _ S2 rfl rfl
  clear back S2 SB20
  refine ze ⟨rfl,?_⟩
  refine vS 8 10 [] jM jJ jM
   (V:=fun i v u=>match i with
   | _=>True) ?_ ?_
  ·intro i v u u' hi hx hv
   match i,hv with
   | _,_=>exact trivial
  refine xc (fun v K=>zA rfl rfl) rfl ?_
  refine xc (fun v K=>zA rfl rfl) rfl ?_
  refine uY fun g w22 K hV=>?_
  replace S:=S.ext K
  clear K hV
  refine ws_tail 10 jM jJ ?_
  refine zy zq rfl rfl (S.blk 0) (Term.len _) (by rw [Term.len]; decide) (Term.one _) (zM (Term.len _)) fun w24 B hw24 zw24=>?_
  replace S:St A N w w24 [oB b6 zb (Term.C (⟨r18.1.kind,r18.1.name,r18.1.other,r18.1.form,s21⟩ : Term)),oB b4 zb (Term.C (⟨a1.kind,a1.name,a1.other,a1.form,s_1⟩ : Term)),oB b2 zb (Term.C (⟨a0.kind,a0.name,a0.other,a0.form,s_0⟩ : Term))] [za s21 r18.1.sub,za s_0 a0.sub,za s_1 a1.sub,oPw,za s14 ((at_ PTerm.z a0.sub 2).sub)]:=S.store 0 B hw24
  clear B
  refine wd (zn rfl) ?_
  refine ze ?_
  refine zC ?_
  refine ⟨_,(xB (zV zq rfl ((S.blk 0).all _ (Term.len _)) (Term.len _)) (zj rfl)),?_⟩
  replace S:St A N w w24 [] [za s21 r18.1.sub]:=S.arr [] [0]
  obtain rfl:=jN H
  exact ⟨s21,rfl,S⟩
 replace H:=if_f hc7 H
 refine zI ?_
 refine zg ?_
 refine wc_ws hmix fun w29 K=>?_
 replace S:=S.ext K
 clear K
 obtain ⟨hi30,H⟩ := xh H
 obtain ⟨s31,hc32,S⟩ := S.viewTerm 0 (zP hi30)
 replace S:St A N w w29 [oB b6 zb (Term.C (⟨0,ByteArray.empty,ByteArray.empty,0,SlV.nil⟩ : Term)),oB b4 zb (Term.C (⟨a1.kind,a1.name,a1.other,a1.form,s_1⟩ : Term)),oB b2 zb (Term.C (⟨a0.kind,a0.name,a0.other,a0.form,s_0⟩ : Term))] [za s31 ((at_ PTerm.z a0.sub 1).sub),za s_0 a0.sub,za s_1 a1.sub,oPw]:=S
 replace S:St A N w w29 [oB b6 zb (Term.C (⟨0,ByteArray.empty,ByteArray.empty,0,SlV.nil⟩ : Term)),oB b4 zb (Term.C (⟨a1.kind,a1.name,a1.other,a1.form,s_1⟩ : Term)),oB b2 zb (Term.C (⟨a0.kind,a0.name,a0.other,a0.form,s_0⟩ : Term))] [za s_0 a0.sub,za s_1 a1.sub,oPw,za s31 ((at_ PTerm.z a0.sub 1).sub)]:=S.zs [1,2,3,0]
 refine vS 0 7 [] jM jJ jM
  (V:=fun i v u=>match i with
  | _=>True) ?_ ?_
 ·intro i v u u' hi hx hv
  match i,hv with
  | _,_=>exact trivial
 refine xc (fun v K=>zh zO rfl (o':=4) rfl) rfl ?_
 refine xc (fun v K=>zt zF rfl (((S.ext K).blk 2).cell (Term.get_sub _))) rfl ?_
 refine xc (fun v K=>does_indexF zz rfl rfl ((S.ext K).onZ 0) (zP hi30).1 (zP hi30).2) rfl ?_
 refine xc (fun v K=>zi zq rfl (hc32.chg K (fun x=>x)) (Term.len _)) rfl ?_
 refine xc (fun v K=>zh xO rfl (o':=1) rfl) rfl ?_
 refine xc (fun v K=>zt xz rfl (((S.ext K).blk 2).cell (Term.get_name _))) rfl ?_
 refine xc (fun v K=>zi zq rfl (((S.ext K).blk 1).all _ (Term.len _)) (Term.len _)) rfl ?_
 refine uY fun g w33 K hV=>?_
 replace S:=S.ext K
 clear K hV
 refine jI 7 8 jM jJ ?_
 obtain ⟨r35,er35,H⟩ := zB H
 obtain ⟨B37,MB37,SB37,back⟩ := S.sub [3,1,2] [] [oB b6 zb (Term.C (⟨0,ByteArray.empty,ByteArray.empty,0,SlV.nil⟩ : Term)),oB b4 zb (Term.C (⟨a1.kind,a1.name,a1.other,a1.form,s_1⟩ : Term)),oB b2 zb (Term.C (⟨a0.kind,a0.name,a0.other,a0.form,s_0⟩ : Term))]
 refine zJ (zH uN) jJ (uP (a0:=(at_ PTerm.z a0.sub 1)) (a2:=a1) SB37 er35) ?_
 rintro _ w36 ⟨s38,rfl,S2⟩
 replace S:St A N w w36 [oB b6 zb (Term.C (⟨0,ByteArray.empty,ByteArray.empty,0,SlV.nil⟩ : Term)),oB b4 zb (Term.C (⟨a1.kind,a1.name,a1.other,a1.form,s_1⟩ : Term)),oB b2 zb (Term.C (⟨a0.kind,a0.name,a0.other,a0.form,s_0⟩ : Term))] [za s38 r35.1.sub,za s_0 a0.sub,za s_1 a1.sub,oPw,za s31 ((at_ PTerm.z a0.sub 1).sub)]:=back _ _ _ _ _ S2 rfl rfl
 clear back S2 SB37
 refine ze ⟨rfl,?_⟩
 refine vS 8 10 [] jM jJ jM
  (V:=fun i v u=>match i with
  | _=>True) ?_ ?_
 ·intro i v u u' hi hx hv
  match i,hv with
  | _,_=>exact trivial
 refine xc (fun v K=>zA rfl rfl) rfl ?_
 refine xc (fun v K=>zA rfl rfl) rfl ?_
 refine uY fun g w39 K hV=>?_
 replace S:=S.ext K
 clear K hV
 refine ws_tail 10 jM jJ ?_
 refine zy zq rfl rfl (S.blk 0) (Term.len _) (by rw [Term.len]; decide) (Term.one _) (zM (Term.len _)) fun w41 B hw41 zw41=>?_
 replace S:St A N w w41 [oB b6 zb (Term.C (⟨r35.1.kind,r35.1.name,r35.1.other,r35.1.form,s38⟩ : Term)),oB b4 zb (Term.C (⟨a1.kind,a1.name,a1.other,a1.form,s_1⟩ : Term)),oB b2 zb (Term.C (⟨a0.kind,a0.name,a0.other,a0.form,s_0⟩ : Term))] [za s38 r35.1.sub,za s_0 a0.sub,za s_1 a1.sub,oPw,za s31 ((at_ PTerm.z a0.sub 1).sub)]:=S.store 0 B hw41
 clear B
 refine wd (zn rfl) ?_
 refine ze ?_
 refine zC ?_
 refine ⟨_,(xB (zV zq rfl ((S.blk 0).all _ (Term.len _)) (Term.len _)) (zj rfl)),?_⟩
 replace S:St A N w w41 [] [za s38 r35.1.sub]:=S.arr [] [0]
 obtain rfl:=jN H
 exact ⟨s38,rfl,S⟩
theorem reduce_rules_10_st {a0:Tb} {a_0:Option Addr} {a1:PTerm} {s_1:SlV} (S:St A N w w [] [oT a_0 a0,za s_1 a1.sub,oPw]) {k:Nat} {r:PTerm × Int} (H:kM.f k a0 a1=some r) :
  Calls PP yn #[.pointer a_0,.agg (Term.C (⟨a1.kind,a1.name,a1.other,a1.form,s_1⟩ : Term)).toArray] w fun e w' => ∃ v,e = .returned v∧(∃ so0:SlV,v = .tuple #[.agg (Term.C (⟨r.1.kind,r.1.name,r.1.other,r.1.form,so0⟩ : Term)).toArray,.int .i64 r.2]∧St A N w w' [] [za so0 r.1.sub]):=by
 unfold kM.f at H
 refine zE (n:=25) fn_reduce_rules_10 rfl rfl jL ?_
 refine zg (zd ?_)
 refine zQ rfl jJ fun b2 w1 hw1=>?_
 replace S:St A N w w1 [oB b2 zb (Term.C (⟨a1.kind,a1.name,a1.other,a1.form,s_1⟩ : Term))] [oT a_0 a0,za s_1 a1.sub,oPw]:=S.new hw1
 refine zZ xr jJ fun b4 w3 hw3=>?_
 replace S:St A N w w3 [oB b4 zb (Term.C (⟨0,ByteArray.empty,ByteArray.empty,0,SlV.nil⟩ : Term)),oB b2 zb (Term.C (⟨a1.kind,a1.name,a1.other,a1.form,s_1⟩ : Term))] [oT a_0 a0,za s_1 a1.sub,oPw]:=S.new hw3
 refine wd (zn rfl) ?_
 refine ze ?_
 refine zg (zd ?_)
 refine wd (zi zq rfl ((S.blk 1).all _ (Term.len _)) (Term.len _)) ?_
 obtain ⟨r5,er5,H⟩ := zB H
 obtain ⟨B7,MB7,SB7,back⟩ := S.calln 0 ((.z 1 rfl .nil))
 refine zJ (zH jh) jJ (jl (a0:=a1) SB7 er5) ?_
 rintro _ w6 ⟨rfl,S2⟩
 replace S:St A N w w6 [oB b4 zb (Term.C (⟨0,ByteArray.empty,ByteArray.empty,0,SlV.nil⟩ : Term)),oB b2 zb (Term.C (⟨a1.kind,a1.name,a1.other,a1.form,s_1⟩ : Term))] [oT a_0 a0,za s_1 a1.sub,oPw]:=back _ _ _ _ S2 rfl
 clear back S2 SB7
 refine wd (xn rfl) ?_
 refine wd (zA rfl rfl) ?_
 refine wd (zA rfl rfl) ?_
 refine wd (zk rfl) ?_
 refine wd (zk rfl) ?_
 refine ze ?_
 refine zg ?_
 refine wc_ws hmix fun w15 K=>?_
 replace S:=S.ext K
 clear K
 obtain ⟨hi16,H⟩ := xh H
 obtain ⟨s17,hc18,S⟩ := S.viewTerm 1 (zP hi16)
 replace S:St A N w w15 [oB b4 zb (Term.C (⟨0,ByteArray.empty,ByteArray.empty,0,SlV.nil⟩ : Term)),oB b2 zb (Term.C (⟨a1.kind,a1.name,a1.other,a1.form,s_1⟩ : Term))] [za s17 ((at_ PTerm.z a1.sub 0).sub),oT a_0 a0,za s_1 a1.sub,oPw]:=S
 replace S:St A N w w15 [oB b4 zb (Term.C (⟨0,ByteArray.empty,ByteArray.empty,0,SlV.nil⟩ : Term)),oB b2 zb (Term.C (⟨a1.kind,a1.name,a1.other,a1.form,s_1⟩ : Term))] [oT a_0 a0,za s_1 a1.sub,oPw,za s17 ((at_ PTerm.z a1.sub 0).sub)]:=S.zs [1,2,3,0]
 obtain ⟨hi19,H⟩ := xh H
 obtain ⟨s20,hc21,S⟩ := S.viewTerm 3 (zP hi19)
 replace S:St A N w w15 [oB b4 zb (Term.C (⟨0,ByteArray.empty,ByteArray.empty,0,SlV.nil⟩ : Term)),oB b2 zb (Term.C (⟨a1.kind,a1.name,a1.other,a1.form,s_1⟩ : Term))] [za s20 ((at_ PTerm.z ((at_ PTerm.z a1.sub 0).sub) 0).sub),oT a_0 a0,za s_1 a1.sub,oPw,za s17 ((at_ PTerm.z a1.sub 0).sub)]:=S
 replace S:St A N w w15 [oB b4 zb (Term.C (⟨0,ByteArray.empty,ByteArray.empty,0,SlV.nil⟩ : Term)),oB b2 zb (Term.C (⟨a1.kind,a1.name,a1.other,a1.form,s_1⟩ : Term))] [oT a_0 a0,za s_1 a1.sub,oPw,za s17 ((at_ PTerm.z a1.sub 0).sub),za s20 ((at_ PTerm.z ((at_ PTerm.z a1.sub 0).sub) 0).sub)]:=S.zs [1,2,3,4,0]
 refine vS 0 9 [] jM jJ jM
  (V:=fun i v u=>match i with
  | _=>True) ?_ ?_
 ·intro i v u u' hi hx hv
  match i,hv with
  | _,_=>exact trivial
 refine xc (fun v K=>zi zq rfl (((S.ext K).blk 1).all _ (Term.len _)) (Term.len _)) rfl ?_
 refine xc (fun v K=>zh zO rfl (o':=4) rfl) rfl ?_
 refine xc (fun v K=>zt zF rfl (((S.ext K).blk 1).cell (Term.get_sub _))) rfl ?_
 refine xc (fun v K=>does_indexF zz rfl rfl ((S.ext K).onZ 1) (zP hi16).1 (zP hi16).2) rfl ?_
 refine xc (fun v K=>zh zO rfl (o':=_) rfl) rfl ?_
 refine xc (fun v K=>zt zF rfl ((hc18.chg K (fun x=>x)).get (Term.get_sub _))) rfl ?_
 refine xc (fun v K=>does_indexF zz rfl rfl ((S.ext K).onZ 3) (zP hi19).1 (zP hi19).2) rfl ?_
 refine xc (fun v K=>zi zq rfl (hc21.chg K (fun x=>x)) (Term.len _)) rfl ?_
 refine xc (fun v K=>zG rfl) rfl ?_
 refine uY fun g w22 K hV=>?_
 replace S:=S.ext K
 clear K hV
 refine jI 9 10 jM jJ ?_
 obtain ⟨r24,er24,H⟩ := zB H
 obtain ⟨B26,MB26,SB26,back⟩ := S.sub [1,4,2] [] [oB b4 zb (Term.C (⟨0,ByteArray.empty,ByteArray.empty,0,SlV.nil⟩ : Term)),oB b2 zb (Term.C (⟨a1.kind,a1.name,a1.other,a1.form,s_1⟩ : Term))]
 refine zJ (zH ca_reduce_into) jJ (reduce_into_st (a0:=a1) (a1:=(at_ PTerm.z ((at_ PTerm.z a1.sub 0).sub) 0)) SB26 er24) ?_
 rintro _ w25 ⟨s27,rfl,S2⟩
 replace S:St A N w w25 [oB b4 zb (Term.C (⟨0,ByteArray.empty,ByteArray.empty,0,SlV.nil⟩ : Term)),oB b2 zb (Term.C (⟨a1.kind,a1.name,a1.other,a1.form,s_1⟩ : Term))] [za s27 r24.1.sub,oT a_0 a0,za s_1 a1.sub,oPw,za s17 ((at_ PTerm.z a1.sub 0).sub),za s20 ((at_ PTerm.z ((at_ PTerm.z a1.sub 0).sub) 0).sub)]:=back _ _ _ _ _ S2 rfl rfl
 clear back S2 SB26
 refine ze ⟨rfl,?_⟩
 refine vS 10 12 [] jM jJ jM
  (V:=fun i v u=>match i with
  | _=>True) ?_ ?_
 ·intro i v u u' hi hx hv
  match i,hv with
  | _,_=>exact trivial
 refine xc (fun v K=>zA rfl rfl) rfl ?_
 refine xc (fun v K=>zA rfl rfl) rfl ?_
 refine uY fun g w28 K hV=>?_
 replace S:=S.ext K
 clear K hV
 refine ws_tail 12 jM jJ ?_
 refine zy zq rfl rfl (S.blk 0) (Term.len _) (by rw [Term.len]; decide) (Term.one _) (zM (Term.len _)) fun w30 B hw30 zw30=>?_
 replace S:St A N w w30 [oB b4 zb (Term.C (⟨r24.1.kind,r24.1.name,r24.1.other,r24.1.form,s27⟩ : Term)),oB b2 zb (Term.C (⟨a1.kind,a1.name,a1.other,a1.form,s_1⟩ : Term))] [za s27 r24.1.sub,oT a_0 a0,za s_1 a1.sub,oPw,za s17 ((at_ PTerm.z a1.sub 0).sub),za s20 ((at_ PTerm.z ((at_ PTerm.z a1.sub 0).sub) 0).sub)]:=S.store 0 B hw30
 clear B
 refine wd (zn rfl) ?_
 refine ze ?_
 refine zC ?_
 refine ⟨_,(xB (zV zq rfl ((S.blk 0).all _ (Term.len _)) (Term.len _)) (zj rfl)),?_⟩
 replace S:St A N w w30 [] [za s27 r24.1.sub]:=S.arr [] [0]
 obtain rfl:=jN H
 exact ⟨s27,rfl,S⟩
theorem reduce_rules_12_st {a0:Tb} {a_0:Option Addr} {a1:PTerm} {s_1:SlV} (S:St A N w w [] [oT a_0 a0,za s_1 a1.sub,oPw]) {k:Nat} {r:PTerm × Int} (H:kN.f k a0 a1=some r) :
  Calls PP yo #[.pointer a_0,.agg (Term.C (⟨a1.kind,a1.name,a1.other,a1.form,s_1⟩ : Term)).toArray] w fun e w' => ∃ v,e = .returned v∧(∃ so0:SlV,v = .tuple #[.agg (Term.C (⟨r.1.kind,r.1.name,r.1.other,r.1.form,so0⟩ : Term)).toArray,.int .i64 r.2]∧St A N w w' [] [za so0 r.1.sub]):=by
 unfold kN.f at H
 refine zE (n:=34) fn_reduce_rules_12 rfl rfl jL ?_
 refine zg (zd ?_)
 refine zQ rfl jJ fun b2 w1 hw1=>?_
 replace S:St A N w w1 [oB b2 zb (Term.C (⟨a1.kind,a1.name,a1.other,a1.form,s_1⟩ : Term))] [oT a_0 a0,za s_1 a1.sub,oPw]:=S.new hw1
 refine zZ xr jJ fun b4 w3 hw3=>?_
 replace S:St A N w w3 [oB b4 zb (Term.C (⟨0,ByteArray.empty,ByteArray.empty,0,SlV.nil⟩ : Term)),oB b2 zb (Term.C (⟨a1.kind,a1.name,a1.other,a1.form,s_1⟩ : Term))] [oT a_0 a0,za s_1 a1.sub,oPw]:=S.new hw3
 refine wd (zn rfl) ?_
 refine ze ?_
 refine zg (zd ?_)
 refine wd (zN rfl) ?_
 refine wd (zi zq rfl ((S.blk 1).all _ (Term.len _)) (Term.len _)) ?_
 obtain ⟨r5,er5,H⟩ := zB H
 obtain ⟨B7,MB7,SB7,back⟩ := S.calln 0 ((.z 0 rfl (.z 1 rfl .nil)))
 refine zJ (zH ca_reduce_told) jJ (reduce_told_st (a1:=a1) SB7 er5) ?_
 rintro _ w6 ⟨rfl,S2⟩
 replace S:St A N w w6 [oB b4 zb (Term.C (⟨0,ByteArray.empty,ByteArray.empty,0,SlV.nil⟩ : Term)),oB b2 zb (Term.C (⟨a1.kind,a1.name,a1.other,a1.form,s_1⟩ : Term))] [oT a_0 a0,za s_1 a1.sub,oPw]:=back _ _ _ _ S2 rfl
 clear back S2 SB7
 refine wd (xn rfl) ?_
 refine wd (zA rfl rfl) ?_
 refine wd (zA rfl rfl) ?_
 refine wd (zk rfl) ?_
 refine wd (zk rfl) ?_
 refine ze ?_
 refine zg ?_
 obtain ⟨hi31,H⟩ := xh H
 obtain ⟨hi33,H⟩ := xh H
 obtain ⟨hi35,H⟩ := xh H
 obtain ⟨r37,er37,H⟩ := zB H
 obtain ⟨r40,er40,H⟩ := zB H
 obtain ⟨r44,er44,H⟩ := zB H
 obtain ⟨s32,S⟩ := S.viewTermC 1 (zP hi31)
 replace S:St A N w w6 [oB b4 zb (Term.C (⟨0,ByteArray.empty,ByteArray.empty,0,SlV.nil⟩ : Term)),oB b2 zb (Term.C (⟨a1.kind,a1.name,a1.other,a1.form,s_1⟩ : Term))] [oCl s_1.blk (s_1.off + Int.toNat 0 * 5) (Term.C (⟨(at_ PTerm.z a1.sub 0).kind,(at_ PTerm.z a1.sub 0).name,(at_ PTerm.z a1.sub 0).other,(at_ PTerm.z a1.sub 0).form,s32⟩ : Term)),za s32 ((at_ PTerm.z a1.sub 0).sub),oT a_0 a0,za s_1 a1.sub,oPw]:=S
 obtain ⟨s34,S⟩ := S.viewTermC 1 (zP hi33)
 replace S:St A N w w6 [oB b4 zb (Term.C (⟨0,ByteArray.empty,ByteArray.empty,0,SlV.nil⟩ : Term)),oB b2 zb (Term.C (⟨a1.kind,a1.name,a1.other,a1.form,s_1⟩ : Term))] [oCl s32.blk (s32.off + Int.toNat 0 * 5) (Term.C (⟨(at_ PTerm.z ((at_ PTerm.z a1.sub 0).sub) 0).kind,(at_ PTerm.z ((at_ PTerm.z a1.sub 0).sub) 0).name,(at_ PTerm.z ((at_ PTerm.z a1.sub 0).sub) 0).other,(at_ PTerm.z ((at_ PTerm.z a1.sub 0).sub) 0).form,s34⟩ : Term)),za s34 ((at_ PTerm.z ((at_ PTerm.z a1.sub 0).sub) 0).sub),oCl s_1.blk (s_1.off + Int.toNat 0 * 5) (Term.C (⟨(at_ PTerm.z a1.sub 0).kind,(at_ PTerm.z a1.sub 0).name,(at_ PTerm.z a1.sub 0).other,(at_ PTerm.z a1.sub 0).form,s32⟩ : Term)),za s32 ((at_ PTerm.z a1.sub 0).sub),oT a_0 a0,za s_1 a1.sub,oPw]:=S
 obtain ⟨s36,S⟩ := S.viewTermC 1 (zP hi35)
 replace S:St A N w w6 [oB b4 zb (Term.C (⟨0,ByteArray.empty,ByteArray.empty,0,SlV.nil⟩ : Term)),oB b2 zb (Term.C (⟨a1.kind,a1.name,a1.other,a1.form,s_1⟩ : Term))] [oCl s34.blk (s34.off + Int.toNat 0 * 5) (Term.C (⟨(at_ PTerm.z ((at_ PTerm.z ((at_ PTerm.z a1.sub 0).sub) 0).sub) 0).kind,(at_ PTerm.z ((at_ PTerm.z ((at_ PTerm.z a1.sub 0).sub) 0).sub) 0).name,(at_ PTerm.z ((at_ PTerm.z ((at_ PTerm.z a1.sub 0).sub) 0).sub) 0).other,(at_ PTerm.z ((at_ PTerm.z ((at_ PTerm.z a1.sub 0).sub) 0).sub) 0).form,s36⟩ : Term)),za s36 ((at_ PTerm.z ((at_ PTerm.z ((at_ PTerm.z a1.sub 0).sub) 0).sub) 0).sub),oCl s32.blk (s32.off + Int.toNat 0 * 5) (Term.C (⟨(at_ PTerm.z ((at_ PTerm.z a1.sub 0).sub) 0).kind,(at_ PTerm.z ((at_ PTerm.z a1.sub 0).sub) 0).name,(at_ PTerm.z ((at_ PTerm.z a1.sub 0).sub) 0).other,(at_ PTerm.z ((at_ PTerm.z a1.sub 0).sub) 0).form,s34⟩ : Term)),za s34 ((at_ PTerm.z ((at_ PTerm.z a1.sub 0).sub) 0).sub),oCl s_1.blk (s_1.off + Int.toNat 0 * 5) (Term.C (⟨(at_ PTerm.z a1.sub 0).kind,(at_ PTerm.z a1.sub 0).name,(at_ PTerm.z a1.sub 0).other,(at_ PTerm.z a1.sub 0).form,s32⟩ : Term)),za s32 ((at_ PTerm.z a1.sub 0).sub),oT a_0 a0,za s_1 a1.sub,oPw]:=S
 replace S:St A N w w6 [oB b4 zb (Term.C (⟨0,ByteArray.empty,ByteArray.empty,0,SlV.nil⟩ : Term)),oB b2 zb (Term.C (⟨a1.kind,a1.name,a1.other,a1.form,s_1⟩ : Term))] [oT a_0 a0,za s_1 a1.sub,oPw,oCl s_1.blk (s_1.off + Int.toNat 0 * 5) (Term.C (⟨(at_ PTerm.z a1.sub 0).kind,(at_ PTerm.z a1.sub 0).name,(at_ PTerm.z a1.sub 0).other,(at_ PTerm.z a1.sub 0).form,s32⟩ : Term)),za s32 ((at_ PTerm.z a1.sub 0).sub),oCl s32.blk (s32.off + Int.toNat 0 * 5) (Term.C (⟨(at_ PTerm.z ((at_ PTerm.z a1.sub 0).sub) 0).kind,(at_ PTerm.z ((at_ PTerm.z a1.sub 0).sub) 0).name,(at_ PTerm.z ((at_ PTerm.z a1.sub 0).sub) 0).other,(at_ PTerm.z ((at_ PTerm.z a1.sub 0).sub) 0).form,s34⟩ : Term)),za s34 ((at_ PTerm.z ((at_ PTerm.z a1.sub 0).sub) 0).sub),oCl s34.blk (s34.off + Int.toNat 0 * 5) (Term.C (⟨(at_ PTerm.z ((at_ PTerm.z ((at_ PTerm.z a1.sub 0).sub) 0).sub) 0).kind,(at_ PTerm.z ((at_ PTerm.z ((at_ PTerm.z a1.sub 0).sub) 0).sub) 0).name,(at_ PTerm.z ((at_ PTerm.z ((at_ PTerm.z a1.sub 0).sub) 0).sub) 0).other,(at_ PTerm.z ((at_ PTerm.z ((at_ PTerm.z a1.sub 0).sub) 0).sub) 0).form,s36⟩ : Term)),za s36 ((at_ PTerm.z ((at_ PTerm.z ((at_ PTerm.z a1.sub 0).sub) 0).sub) 0).sub)]:=S.zs [6,7,8,4,5,2,3,0,1]
 refine yM 20 ⟨fun _ _=>True,fun _ _ _=>True,fun i v _=>match i with
  | 0=>v=Value.agg (Term.C (⟨a1.kind,a1.name,a1.other,a1.form,s_1⟩ : Term)).toArray
  | 1=>v=Value.pointer (some ⟨b2,4,none⟩)
  | 2=>v=s_1.v
  | 3=>v=Value.pointer (some ⟨s_1.blk,s_1.off + Int.toNat 0 * 5,none⟩)
  | 4=>v=Value.pointer (some ⟨s_1.blk,s_1.off + Int.toNat 0 * 5 + 4,none⟩)
  | 5=>v=s32.v
  | 6=>v=Value.pointer (some ⟨s32.blk,s32.off + Int.toNat 0 * 5,none⟩)
  | 7=>v=Value.pointer (some ⟨s32.blk,s32.off + Int.toNat 0 * 5 + 4,none⟩)
  | 8=>v=s34.v
  | 9=>v=Value.pointer (some ⟨s34.blk,s34.off + Int.toNat 0 * 5,none⟩)
  | 10=>v=Value.agg (Term.C (⟨(at_ PTerm.z ((at_ PTerm.z ((at_ PTerm.z a1.sub 0).sub) 0).sub) 0).kind,(at_ PTerm.z ((at_ PTerm.z ((at_ PTerm.z a1.sub 0).sub) 0).sub) 0).name,(at_ PTerm.z ((at_ PTerm.z ((at_ PTerm.z a1.sub 0).sub) 0).sub) 0).other,(at_ PTerm.z ((at_ PTerm.z ((at_ PTerm.z a1.sub 0).sub) 0).sub) 0).form,s36⟩ : Term)).toArray
  | 11=>v=Value.pointer a_0
  | 12=>v=Value.agg (Term.C (⟨a1.kind,a1.name,a1.other,a1.form,s_1⟩ : Term)).toArray
  | 13=>v=Value.bool r5.1
  | 14=>v=Value.int .i64 r37
  | 16=>v=Value.bool r5.1
  | 19=>v=Value.int .i64 r44.2
  | _=>True⟩ (fun L g v => ∃ Z48:List OA,(∀ z ∈ [oT a_0 a0,za s_1 a1.sub,oPw,oCl s_1.blk (s_1.off + Int.toNat 0 * 5) (Term.C (⟨(at_ PTerm.z a1.sub 0).kind,(at_ PTerm.z a1.sub 0).name,(at_ PTerm.z a1.sub 0).other,(at_ PTerm.z a1.sub 0).form,s32⟩ : Term)),za s32 ((at_ PTerm.z a1.sub 0).sub),oCl s32.blk (s32.off + Int.toNat 0 * 5) (Term.C (⟨(at_ PTerm.z ((at_ PTerm.z a1.sub 0).sub) 0).kind,(at_ PTerm.z ((at_ PTerm.z a1.sub 0).sub) 0).name,(at_ PTerm.z ((at_ PTerm.z a1.sub 0).sub) 0).other,(at_ PTerm.z ((at_ PTerm.z a1.sub 0).sub) 0).form,s34⟩ : Term)),za s34 ((at_ PTerm.z ((at_ PTerm.z a1.sub 0).sub) 0).sub),oCl s34.blk (s34.off + Int.toNat 0 * 5) (Term.C (⟨(at_ PTerm.z ((at_ PTerm.z ((at_ PTerm.z a1.sub 0).sub) 0).sub) 0).kind,(at_ PTerm.z ((at_ PTerm.z ((at_ PTerm.z a1.sub 0).sub) 0).sub) 0).name,(at_ PTerm.z ((at_ PTerm.z ((at_ PTerm.z a1.sub 0).sub) 0).sub) 0).other,(at_ PTerm.z ((at_ PTerm.z ((at_ PTerm.z a1.sub 0).sub) 0).sub) 0).form,s36⟩ : Term)),za s36 ((at_ PTerm.z ((at_ PTerm.z ((at_ PTerm.z a1.sub 0).sub) 0).sub) 0).sub)],z ∈ Z48)∧Made L g Z48 15 29 (fun (c:SlV)=>Value.agg (Term.C (⟨r40.kind,r40.name,r40.other,r40.form,c⟩ : Term)).toArray) (fun (c:SlV)=>[za c r40.sub])∧Made L g Z48 17 31 (fun (c:SlV)=>Value.tuple #[.agg (Term.C (⟨r44.1.kind,r44.1.name,r44.1.other,r44.1.form,c⟩ : Term)).toArray,.int .i64 r44.2]) (fun (c:SlV)=>[za c r44.1.sub])∧Made L g Z48 18 32 (fun (c:SlV)=>Value.agg (Term.C (⟨r44.1.kind,r44.1.name,r44.1.other,r44.1.form,c⟩ : Term)).toArray) (fun (c:SlV)=>[za c r44.1.sub])∧St A N w v [oB b4 zb (Term.C (⟨0,ByteArray.empty,ByteArray.empty,0,SlV.nil⟩ : Term)),oB b2 zb (Term.C (⟨a1.kind,a1.name,a1.other,a1.form,s_1⟩ : Term))] Z48) hmix jM (fun _ _ _ _ _ _ _ hv=>hv) (fun g=>⟨_,fun _ h=>h,Made.no,Made.no,Made.no,S.ext (Ext.drawn _)⟩) ⟨?_,?_,?_,?_,?_,?_,?_,?_,?_,?_,?_,?_,?_,?_,?_,?_,?_,?_,?_,?_,trivial⟩ ?_
 ·rintro L g v hL hcl hclo ⟨Z48,hZ,hm15,hm17,hm18,S⟩ 
  refine wd (zi zq rfl ((S.blk 1).all _ (Term.len _)) (Term.len _)) ?_
  exact ze (ob4 trivial rfl ⟨_,hZ,hm15.keep rfl rfl tl0,hm17.keep rfl rfl tl0,hm18.keep rfl rfl tl0,S⟩)
 ·rintro L g v hL hcl hclo ⟨Z48,hZ,hm15,hm17,hm18,S⟩ 
  refine wd (zh zO rfl (o':=4) rfl) ?_
  exact ze (ob4 trivial rfl ⟨_,hZ,hm15.keep rfl rfl tl0,hm17.keep rfl rfl tl0,hm18.keep rfl rfl tl0,S⟩)
 ·rintro L g v hL hcl hclo ⟨Z48,hZ,hm15,hm17,hm18,S⟩ hv1
  refine wd (zt zF hv1 ((S.blk 1).cell (Term.get_sub _))) ?_
  exact ze (ob4 trivial rfl ⟨_,hZ,hm15.keep rfl rfl tl0,hm17.keep rfl rfl tl0,hm18.keep rfl rfl tl0,S⟩)
 ·rintro L g v hL hcl hclo ⟨Z48,hZ,hm15,hm17,hm18,S⟩ hv2
  replace S:=S.zneed hZ
  replace S:St A N w v [oB b4 zb (Term.C (⟨0,ByteArray.empty,ByteArray.empty,0,SlV.nil⟩ : Term)),oB b2 zb (Term.C (⟨a1.kind,a1.name,a1.other,a1.form,s_1⟩ : Term))] (oT a_0 a0 :: za s_1 a1.sub :: oPw :: oCl s_1.blk (s_1.off + Int.toNat 0 * 5) (Term.C (⟨(at_ PTerm.z a1.sub 0).kind,(at_ PTerm.z a1.sub 0).name,(at_ PTerm.z a1.sub 0).other,(at_ PTerm.z a1.sub 0).form,s32⟩ : Term)) :: za s32 ((at_ PTerm.z a1.sub 0).sub) :: oCl s32.blk (s32.off + Int.toNat 0 * 5) (Term.C (⟨(at_ PTerm.z ((at_ PTerm.z a1.sub 0).sub) 0).kind,(at_ PTerm.z ((at_ PTerm.z a1.sub 0).sub) 0).name,(at_ PTerm.z ((at_ PTerm.z a1.sub 0).sub) 0).other,(at_ PTerm.z ((at_ PTerm.z a1.sub 0).sub) 0).form,s34⟩ : Term)) :: za s34 ((at_ PTerm.z ((at_ PTerm.z a1.sub 0).sub) 0).sub) :: oCl s34.blk (s34.off + Int.toNat 0 * 5) (Term.C (⟨(at_ PTerm.z ((at_ PTerm.z ((at_ PTerm.z a1.sub 0).sub) 0).sub) 0).kind,(at_ PTerm.z ((at_ PTerm.z ((at_ PTerm.z a1.sub 0).sub) 0).sub) 0).name,(at_ PTerm.z ((at_ PTerm.z ((at_ PTerm.z a1.sub 0).sub) 0).sub) 0).other,(at_ PTerm.z ((at_ PTerm.z ((at_ PTerm.z a1.sub 0).sub) 0).sub) 0).form,s36⟩ : Term)) :: za s36 ((at_ PTerm.z ((at_ PTerm.z ((at_ PTerm.z a1.sub 0).sub) 0).sub) 0).sub) :: Z48):=S
  refine wd (does_indexF zz hv2 rfl (S.onZ 1) (zP hi31).1 (zP hi31).2) ?_
  exact ze (ob4 trivial rfl ⟨_,(fun z h=>tl9 z (hZ z h)),hm15.keep rfl rfl tl9,hm17.keep rfl rfl tl9,hm18.keep rfl rfl tl9,S⟩)
 ·rintro L g v hL hcl hclo ⟨Z48,hZ,hm15,hm17,hm18,S⟩ hv3
  refine wd (zh zO hv3 (o':=_) rfl) ?_
  exact ze (ob4 trivial rfl ⟨_,hZ,hm15.keep rfl rfl tl0,hm17.keep rfl rfl tl0,hm18.keep rfl rfl tl0,S⟩)
 ·rintro L g v hL hcl hclo ⟨Z48,hZ,hm15,hm17,hm18,S⟩ hv4
  replace S:=S.zneed hZ
  replace S:St A N w v [oB b4 zb (Term.C (⟨0,ByteArray.empty,ByteArray.empty,0,SlV.nil⟩ : Term)),oB b2 zb (Term.C (⟨a1.kind,a1.name,a1.other,a1.form,s_1⟩ : Term))] (oT a_0 a0 :: za s_1 a1.sub :: oPw :: oCl s_1.blk (s_1.off + Int.toNat 0 * 5) (Term.C (⟨(at_ PTerm.z a1.sub 0).kind,(at_ PTerm.z a1.sub 0).name,(at_ PTerm.z a1.sub 0).other,(at_ PTerm.z a1.sub 0).form,s32⟩ : Term)) :: za s32 ((at_ PTerm.z a1.sub 0).sub) :: oCl s32.blk (s32.off + Int.toNat 0 * 5) (Term.C (⟨(at_ PTerm.z ((at_ PTerm.z a1.sub 0).sub) 0).kind,(at_ PTerm.z ((at_ PTerm.z a1.sub 0).sub) 0).name,(at_ PTerm.z ((at_ PTerm.z a1.sub 0).sub) 0).other,(at_ PTerm.z ((at_ PTerm.z a1.sub 0).sub) 0).form,s34⟩ : Term)) :: za s34 ((at_ PTerm.z ((at_ PTerm.z a1.sub 0).sub) 0).sub) :: oCl s34.blk (s34.off + Int.toNat 0 * 5) (Term.C (⟨(at_ PTerm.z ((at_ PTerm.z ((at_ PTerm.z a1.sub 0).sub) 0).sub) 0).kind,(at_ PTerm.z ((at_ PTerm.z ((at_ PTerm.z a1.sub 0).sub) 0).sub) 0).name,(at_ PTerm.z ((at_ PTerm.z ((at_ PTerm.z a1.sub 0).sub) 0).sub) 0).other,(at_ PTerm.z ((at_ PTerm.z ((at_ PTerm.z a1.sub 0).sub) 0).sub) 0).form,s36⟩ : Term)) :: za s36 ((at_ PTerm.z ((at_ PTerm.z ((at_ PTerm.z a1.sub 0).sub) 0).sub) 0).sub) :: Z48):=S
  refine wd (zt zF hv4 ((S.cl 3).get (Term.get_sub _))) ?_
  exact ze (ob4 trivial rfl ⟨_,(fun z h=>tl9 z (hZ z h)),hm15.keep rfl rfl tl9,hm17.keep rfl rfl tl9,hm18.keep rfl rfl tl9,S⟩)
 ·rintro L g v hL hcl hclo ⟨Z48,hZ,hm15,hm17,hm18,S⟩ hv5
  replace S:=S.zneed hZ
  replace S:St A N w v [oB b4 zb (Term.C (⟨0,ByteArray.empty,ByteArray.empty,0,SlV.nil⟩ : Term)),oB b2 zb (Term.C (⟨a1.kind,a1.name,a1.other,a1.form,s_1⟩ : Term))] (oT a_0 a0 :: za s_1 a1.sub :: oPw :: oCl s_1.blk (s_1.off + Int.toNat 0 * 5) (Term.C (⟨(at_ PTerm.z a1.sub 0).kind,(at_ PTerm.z a1.sub 0).name,(at_ PTerm.z a1.sub 0).other,(at_ PTerm.z a1.sub 0).form,s32⟩ : Term)) :: za s32 ((at_ PTerm.z a1.sub 0).sub) :: oCl s32.blk (s32.off + Int.toNat 0 * 5) (Term.C (⟨(at_ PTerm.z ((at_ PTerm.z a1.sub 0).sub) 0).kind,(at_ PTerm.z ((at_ PTerm.z a1.sub 0).sub) 0).name,(at_ PTerm.z ((at_ PTerm.z a1.sub 0).sub) 0).other,(at_ PTerm.z ((at_ PTerm.z a1.sub 0).sub) 0).form,s34⟩ : Term)) :: za s34 ((at_ PTerm.z ((at_ PTerm.z a1.sub 0).sub) 0).sub) :: oCl s34.blk (s34.off + Int.toNat 0 * 5) (Term.C (⟨(at_ PTerm.z ((at_ PTerm.z ((at_ PTerm.z a1.sub 0).sub) 0).sub) 0).kind,(at_ PTerm.z ((at_ PTerm.z ((at_ PTerm.z a1.sub 0).sub) 0).sub) 0).name,(at_ PTerm.z ((at_ PTerm.z ((at_ PTerm.z a1.sub 0).sub) 0).sub) 0).other,(at_ PTerm.z ((at_ PTerm.z ((at_ PTerm.z a1.sub 0).sub) 0).sub) 0).form,s36⟩ : Term)) :: za s36 ((at_ PTerm.z ((at_ PTerm.z ((at_ PTerm.z a1.sub 0).sub) 0).sub) 0).sub) :: Z48):=S
  refine wd (does_indexF zz hv5 rfl (S.onZ 4) (zP hi33).1 (zP hi33).2) ?_
  exact ze (ob4 trivial rfl ⟨_,(fun z h=>tl9 z (hZ z h)),hm15.keep rfl rfl tl9,hm17.keep rfl rfl tl9,hm18.keep rfl rfl tl9,S⟩)
 ·rintro L g v hL hcl hclo ⟨Z48,hZ,hm15,hm17,hm18,S⟩ hv6
  refine wd (zh zO hv6 (o':=_) rfl) ?_
  exact ze (ob4 trivial rfl ⟨_,hZ,hm15.keep rfl rfl tl0,hm17.keep rfl rfl tl0,hm18.keep rfl rfl tl0,S⟩)
 ·rintro L g v hL hcl hclo ⟨Z48,hZ,hm15,hm17,hm18,S⟩ hv7
  replace S:=S.zneed hZ
  replace S:St A N w v [oB b4 zb (Term.C (⟨0,ByteArray.empty,ByteArray.empty,0,SlV.nil⟩ : Term)),oB b2 zb (Term.C (⟨a1.kind,a1.name,a1.other,a1.form,s_1⟩ : Term))] (oT a_0 a0 :: za s_1 a1.sub :: oPw :: oCl s_1.blk (s_1.off + Int.toNat 0 * 5) (Term.C (⟨(at_ PTerm.z a1.sub 0).kind,(at_ PTerm.z a1.sub 0).name,(at_ PTerm.z a1.sub 0).other,(at_ PTerm.z a1.sub 0).form,s32⟩ : Term)) :: za s32 ((at_ PTerm.z a1.sub 0).sub) :: oCl s32.blk (s32.off + Int.toNat 0 * 5) (Term.C (⟨(at_ PTerm.z ((at_ PTerm.z a1.sub 0).sub) 0).kind,(at_ PTerm.z ((at_ PTerm.z a1.sub 0).sub) 0).name,(at_ PTerm.z ((at_ PTerm.z a1.sub 0).sub) 0).other,(at_ PTerm.z ((at_ PTerm.z a1.sub 0).sub) 0).form,s34⟩ : Term)) :: za s34 ((at_ PTerm.z ((at_ PTerm.z a1.sub 0).sub) 0).sub) :: oCl s34.blk (s34.off + Int.toNat 0 * 5) (Term.C (⟨(at_ PTerm.z ((at_ PTerm.z ((at_ PTerm.z a1.sub 0).sub) 0).sub) 0).kind,(at_ PTerm.z ((at_ PTerm.z ((at_ PTerm.z a1.sub 0).sub) 0).sub) 0).name,(at_ PTerm.z ((at_ PTerm.z ((at_ PTerm.z a1.sub 0).sub) 0).sub) 0).other,(at_ PTerm.z ((at_ PTerm.z ((at_ PTerm.z a1.sub 0).sub) 0).sub) 0).form,s36⟩ : Term)) :: za s36 ((at_ PTerm.z ((at_ PTerm.z ((at_ PTerm.z a1.sub 0).sub) 0).sub) 0).sub) :: Z48):=S
  refine wd (zt zF hv7 ((S.cl 5).get (Term.get_sub _))) ?_
  exact ze (ob4 trivial rfl ⟨_,(fun z h=>tl9 z (hZ z h)),hm15.keep rfl rfl tl9,hm17.keep rfl rfl tl9,hm18.keep rfl rfl tl9,S⟩)
 ·rintro L g v hL hcl hclo ⟨Z48,hZ,hm15,hm17,hm18,S⟩ hv8
  replace S:=S.zneed hZ
  replace S:St A N w v [oB b4 zb (Term.C (⟨0,ByteArray.empty,ByteArray.empty,0,SlV.nil⟩ : Term)),oB b2 zb (Term.C (⟨a1.kind,a1.name,a1.other,a1.form,s_1⟩ : Term))] (oT a_0 a0 :: za s_1 a1.sub :: oPw :: oCl s_1.blk (s_1.off + Int.toNat 0 * 5) (Term.C (⟨(at_ PTerm.z a1.sub 0).kind,(at_ PTerm.z a1.sub 0).name,(at_ PTerm.z a1.sub 0).other,(at_ PTerm.z a1.sub 0).form,s32⟩ : Term)) :: za s32 ((at_ PTerm.z a1.sub 0).sub) :: oCl s32.blk (s32.off + Int.toNat 0 * 5) (Term.C (⟨(at_ PTerm.z ((at_ PTerm.z a1.sub 0).sub) 0).kind,(at_ PTerm.z ((at_ PTerm.z a1.sub 0).sub) 0).name,(at_ PTerm.z ((at_ PTerm.z a1.sub 0).sub) 0).other,(at_ PTerm.z ((at_ PTerm.z a1.sub 0).sub) 0).form,s34⟩ : Term)) :: za s34 ((at_ PTerm.z ((at_ PTerm.z a1.sub 0).sub) 0).sub) :: oCl s34.blk (s34.off + Int.toNat 0 * 5) (Term.C (⟨(at_ PTerm.z ((at_ PTerm.z ((at_ PTerm.z a1.sub 0).sub) 0).sub) 0).kind,(at_ PTerm.z ((at_ PTerm.z ((at_ PTerm.z a1.sub 0).sub) 0).sub) 0).name,(at_ PTerm.z ((at_ PTerm.z ((at_ PTerm.z a1.sub 0).sub) 0).sub) 0).other,(at_ PTerm.z ((at_ PTerm.z ((at_ PTerm.z a1.sub 0).sub) 0).sub) 0).form,s36⟩ : Term)) :: za s36 ((at_ PTerm.z ((at_ PTerm.z ((at_ PTerm.z a1.sub 0).sub) 0).sub) 0).sub) :: Z48):=S
  refine wd (does_indexF zz hv8 rfl (S.onZ 6) (zP hi35).1 (zP hi35).2) ?_
  exact ze (ob4 trivial rfl ⟨_,(fun z h=>tl9 z (hZ z h)),hm15.keep rfl rfl tl9,hm17.keep rfl rfl tl9,hm18.keep rfl rfl tl9,S⟩)
 ·rintro L g v hL hcl hclo ⟨Z48,hZ,hm15,hm17,hm18,S⟩ hv9
  replace S:=S.zneed hZ
  replace S:St A N w v [oB b4 zb (Term.C (⟨0,ByteArray.empty,ByteArray.empty,0,SlV.nil⟩ : Term)),oB b2 zb (Term.C (⟨a1.kind,a1.name,a1.other,a1.form,s_1⟩ : Term))] (oT a_0 a0 :: za s_1 a1.sub :: oPw :: oCl s_1.blk (s_1.off + Int.toNat 0 * 5) (Term.C (⟨(at_ PTerm.z a1.sub 0).kind,(at_ PTerm.z a1.sub 0).name,(at_ PTerm.z a1.sub 0).other,(at_ PTerm.z a1.sub 0).form,s32⟩ : Term)) :: za s32 ((at_ PTerm.z a1.sub 0).sub) :: oCl s32.blk (s32.off + Int.toNat 0 * 5) (Term.C (⟨(at_ PTerm.z ((at_ PTerm.z a1.sub 0).sub) 0).kind,(at_ PTerm.z ((at_ PTerm.z a1.sub 0).sub) 0).name,(at_ PTerm.z ((at_ PTerm.z a1.sub 0).sub) 0).other,(at_ PTerm.z ((at_ PTerm.z a1.sub 0).sub) 0).form,s34⟩ : Term)) :: za s34 ((at_ PTerm.z ((at_ PTerm.z a1.sub 0).sub) 0).sub) :: oCl s34.blk (s34.off + Int.toNat 0 * 5) (Term.C (⟨(at_ PTerm.z ((at_ PTerm.z ((at_ PTerm.z a1.sub 0).sub) 0).sub) 0).kind,(at_ PTerm.z ((at_ PTerm.z ((at_ PTerm.z a1.sub 0).sub) 0).sub) 0).name,(at_ PTerm.z ((at_ PTerm.z ((at_ PTerm.z a1.sub 0).sub) 0).sub) 0).other,(at_ PTerm.z ((at_ PTerm.z ((at_ PTerm.z a1.sub 0).sub) 0).sub) 0).form,s36⟩ : Term)) :: za s36 ((at_ PTerm.z ((at_ PTerm.z ((at_ PTerm.z a1.sub 0).sub) 0).sub) 0).sub) :: Z48):=S
  refine wd (zi zq hv9 (S.cl 7) (Term.len _)) ?_
  exact ze (ob4 trivial rfl ⟨_,(fun z h=>tl9 z (hZ z h)),hm15.keep rfl rfl tl9,hm17.keep rfl rfl tl9,hm18.keep rfl rfl tl9,S⟩)
 ·rintro L g v hL hcl hclo ⟨Z48,hZ,hm15,hm17,hm18,S⟩ 
  refine wd (zN rfl) ?_
  exact ze (ob4 trivial rfl ⟨_,hZ,hm15.keep rfl rfl tl0,hm17.keep rfl rfl tl0,hm18.keep rfl rfl tl0,S⟩)
 ·rintro L g v hL hcl hclo ⟨Z48,hZ,hm15,hm17,hm18,S⟩ 
  refine wd (zi zq rfl ((S.blk 1).all _ (Term.len _)) (Term.len _)) ?_
  exact ze (ob4 trivial rfl ⟨_,hZ,hm15.keep rfl rfl tl0,hm17.keep rfl rfl tl0,hm18.keep rfl rfl tl0,S⟩)
 ·rintro L g v hL hcl hclo ⟨Z48,hZ,hm15,hm17,hm18,S⟩ 
  refine wd (zG rfl) ?_
  exact ze (ob4 trivial rfl ⟨_,hZ,hm15.keep rfl rfl tl0,hm17.keep rfl rfl tl0,hm18.keep rfl rfl tl0,S⟩)
 ·rintro L g v hL hcl hclo ⟨Z48,hZ,hm15,hm17,hm18,S⟩ hv11 hv12 hv13
  replace S:=S.zneed hZ
  replace S:St A N w v [oB b4 zb (Term.C (⟨0,ByteArray.empty,ByteArray.empty,0,SlV.nil⟩ : Term)),oB b2 zb (Term.C (⟨a1.kind,a1.name,a1.other,a1.form,s_1⟩ : Term))] (oT a_0 a0 :: za s_1 a1.sub :: oPw :: oCl s_1.blk (s_1.off + Int.toNat 0 * 5) (Term.C (⟨(at_ PTerm.z a1.sub 0).kind,(at_ PTerm.z a1.sub 0).name,(at_ PTerm.z a1.sub 0).other,(at_ PTerm.z a1.sub 0).form,s32⟩ : Term)) :: za s32 ((at_ PTerm.z a1.sub 0).sub) :: oCl s32.blk (s32.off + Int.toNat 0 * 5) (Term.C (⟨(at_ PTerm.z ((at_ PTerm.z a1.sub 0).sub) 0).kind,(at_ PTerm.z ((at_ PTerm.z a1.sub 0).sub) 0).name,(at_ PTerm.z ((at_ PTerm.z a1.sub 0).sub) 0).other,(at_ PTerm.z ((at_ PTerm.z a1.sub 0).sub) 0).form,s34⟩ : Term)) :: za s34 ((at_ PTerm.z ((at_ PTerm.z a1.sub 0).sub) 0).sub) :: oCl s34.blk (s34.off + Int.toNat 0 * 5) (Term.C (⟨(at_ PTerm.z ((at_ PTerm.z ((at_ PTerm.z a1.sub 0).sub) 0).sub) 0).kind,(at_ PTerm.z ((at_ PTerm.z ((at_ PTerm.z a1.sub 0).sub) 0).sub) 0).name,(at_ PTerm.z ((at_ PTerm.z ((at_ PTerm.z a1.sub 0).sub) 0).sub) 0).other,(at_ PTerm.z ((at_ PTerm.z ((at_ PTerm.z a1.sub 0).sub) 0).sub) 0).form,s36⟩ : Term)) :: za s36 ((at_ PTerm.z ((at_ PTerm.z ((at_ PTerm.z a1.sub 0).sub) 0).sub) 0).sub) :: Z48):=S
  obtain ⟨B55,MB55,SB55,back⟩ := S.calln 0 ((.z 0 rfl (.z 1 rfl .nil)))
  refine zJ (zS uh (zX hv11 (zX hv12 (zX hv13 rfl)))) jJ (uq (a1:=a1) SB55 er37) ?_
  rintro _ w54 ⟨rfl,S2⟩
  replace S:St A N w w54 [oB b4 zb (Term.C (⟨0,ByteArray.empty,ByteArray.empty,0,SlV.nil⟩ : Term)),oB b2 zb (Term.C (⟨a1.kind,a1.name,a1.other,a1.form,s_1⟩ : Term))] (oT a_0 a0 :: za s_1 a1.sub :: oPw :: oCl s_1.blk (s_1.off + Int.toNat 0 * 5) (Term.C (⟨(at_ PTerm.z a1.sub 0).kind,(at_ PTerm.z a1.sub 0).name,(at_ PTerm.z a1.sub 0).other,(at_ PTerm.z a1.sub 0).form,s32⟩ : Term)) :: za s32 ((at_ PTerm.z a1.sub 0).sub) :: oCl s32.blk (s32.off + Int.toNat 0 * 5) (Term.C (⟨(at_ PTerm.z ((at_ PTerm.z a1.sub 0).sub) 0).kind,(at_ PTerm.z ((at_ PTerm.z a1.sub 0).sub) 0).name,(at_ PTerm.z ((at_ PTerm.z a1.sub 0).sub) 0).other,(at_ PTerm.z ((at_ PTerm.z a1.sub 0).sub) 0).form,s34⟩ : Term)) :: za s34 ((at_ PTerm.z ((at_ PTerm.z a1.sub 0).sub) 0).sub) :: oCl s34.blk (s34.off + Int.toNat 0 * 5) (Term.C (⟨(at_ PTerm.z ((at_ PTerm.z ((at_ PTerm.z a1.sub 0).sub) 0).sub) 0).kind,(at_ PTerm.z ((at_ PTerm.z ((at_ PTerm.z a1.sub 0).sub) 0).sub) 0).name,(at_ PTerm.z ((at_ PTerm.z ((at_ PTerm.z a1.sub 0).sub) 0).sub) 0).other,(at_ PTerm.z ((at_ PTerm.z ((at_ PTerm.z a1.sub 0).sub) 0).sub) 0).form,s36⟩ : Term)) :: za s36 ((at_ PTerm.z ((at_ PTerm.z ((at_ PTerm.z a1.sub 0).sub) 0).sub) 0).sub) :: Z48):=back _ _ _ _ S2 rfl
  clear back S2 SB55
  exact ze (ob4 trivial rfl ⟨_,(fun z h=>tl9 z (hZ z h)),hm15.keep rfl rfl tl9,hm17.keep rfl rfl tl9,hm18.keep rfl rfl tl9,S⟩)
 ·rintro L g v hL hcl hclo ⟨Z48,hZ,hm15,hm17,hm18,S⟩ hv10 hv14
  replace S:=S.zneed hZ
  replace S:St A N w v [oB b4 zb (Term.C (⟨0,ByteArray.empty,ByteArray.empty,0,SlV.nil⟩ : Term)),oB b2 zb (Term.C (⟨a1.kind,a1.name,a1.other,a1.form,s_1⟩ : Term))] (oT a_0 a0 :: za s_1 a1.sub :: oPw :: oCl s_1.blk (s_1.off + Int.toNat 0 * 5) (Term.C (⟨(at_ PTerm.z a1.sub 0).kind,(at_ PTerm.z a1.sub 0).name,(at_ PTerm.z a1.sub 0).other,(at_ PTerm.z a1.sub 0).form,s32⟩ : Term)) :: za s32 ((at_ PTerm.z a1.sub 0).sub) :: oCl s32.blk (s32.off + Int.toNat 0 * 5) (Term.C (⟨(at_ PTerm.z ((at_ PTerm.z a1.sub 0).sub) 0).kind,(at_ PTerm.z ((at_ PTerm.z a1.sub 0).sub) 0).name,(at_ PTerm.z ((at_ PTerm.z a1.sub 0).sub) 0).other,(at_ PTerm.z ((at_ PTerm.z a1.sub 0).sub) 0).form,s34⟩ : Term)) :: za s34 ((at_ PTerm.z ((at_ PTerm.z a1.sub 0).sub) 0).sub) :: oCl s34.blk (s34.off + Int.toNat 0 * 5) (Term.C (⟨(at_ PTerm.z ((at_ PTerm.z ((at_ PTerm.z a1.sub 0).sub) 0).sub) 0).kind,(at_ PTerm.z ((at_ PTerm.z ((at_ PTerm.z a1.sub 0).sub) 0).sub) 0).name,(at_ PTerm.z ((at_ PTerm.z ((at_ PTerm.z a1.sub 0).sub) 0).sub) 0).other,(at_ PTerm.z ((at_ PTerm.z ((at_ PTerm.z a1.sub 0).sub) 0).sub) 0).form,s36⟩ : Term)) :: za s36 ((at_ PTerm.z ((at_ PTerm.z ((at_ PTerm.z a1.sub 0).sub) 0).sub) 0).sub) :: Z48):=S
  obtain ⟨B58,MB58,SB58,back⟩ := S.sub [8] [] [oB b4 zb (Term.C (⟨0,ByteArray.empty,ByteArray.empty,0,SlV.nil⟩ : Term)),oB b2 zb (Term.C (⟨a1.kind,a1.name,a1.other,a1.form,s_1⟩ : Term))]
  refine zJ (zS uF (zX hv10 (zX hv14 rfl))) jJ (uG (a0:=(at_ PTerm.z ((at_ PTerm.z ((at_ PTerm.z a1.sub 0).sub) 0).sub) 0)) SB58 er40) ?_
  rintro _ w57 ⟨s59,rfl,S2⟩
  replace S:St A N w w57 [oB b4 zb (Term.C (⟨0,ByteArray.empty,ByteArray.empty,0,SlV.nil⟩ : Term)),oB b2 zb (Term.C (⟨a1.kind,a1.name,a1.other,a1.form,s_1⟩ : Term))] (za s59 r40.sub :: oT a_0 a0 :: za s_1 a1.sub :: oPw :: oCl s_1.blk (s_1.off + Int.toNat 0 * 5) (Term.C (⟨(at_ PTerm.z a1.sub 0).kind,(at_ PTerm.z a1.sub 0).name,(at_ PTerm.z a1.sub 0).other,(at_ PTerm.z a1.sub 0).form,s32⟩ : Term)) :: za s32 ((at_ PTerm.z a1.sub 0).sub) :: oCl s32.blk (s32.off + Int.toNat 0 * 5) (Term.C (⟨(at_ PTerm.z ((at_ PTerm.z a1.sub 0).sub) 0).kind,(at_ PTerm.z ((at_ PTerm.z a1.sub 0).sub) 0).name,(at_ PTerm.z ((at_ PTerm.z a1.sub 0).sub) 0).other,(at_ PTerm.z ((at_ PTerm.z a1.sub 0).sub) 0).form,s34⟩ : Term)) :: za s34 ((at_ PTerm.z ((at_ PTerm.z a1.sub 0).sub) 0).sub) :: oCl s34.blk (s34.off + Int.toNat 0 * 5) (Term.C (⟨(at_ PTerm.z ((at_ PTerm.z ((at_ PTerm.z a1.sub 0).sub) 0).sub) 0).kind,(at_ PTerm.z ((at_ PTerm.z ((at_ PTerm.z a1.sub 0).sub) 0).sub) 0).name,(at_ PTerm.z ((at_ PTerm.z ((at_ PTerm.z a1.sub 0).sub) 0).sub) 0).other,(at_ PTerm.z ((at_ PTerm.z ((at_ PTerm.z a1.sub 0).sub) 0).sub) 0).form,s36⟩ : Term)) :: za s36 ((at_ PTerm.z ((at_ PTerm.z ((at_ PTerm.z a1.sub 0).sub) 0).sub) 0).sub) :: Z48):=back _ _ _ _ _ S2 rfl rfl
  clear back S2 SB58
  exact ze (ob4 trivial trivial ⟨_,(fun z h=>tl10 z (hZ z h)),Made.one (val:=(fun (c:SlV)=>Value.agg (Term.C (⟨r40.kind,r40.name,r40.other,r40.form,c⟩ : Term)).toArray)) (ps:=(fun (c:SlV)=>[za c r40.sub])) s59 (xP List.mem_cons_self yf),hm17.keep rfl rfl tl10,hm18.keep rfl rfl tl10,S⟩)
 ·rintro L g v hL hcl hclo ⟨Z48,hZ,hm15,hm17,hm18,S⟩ 
  refine wd (zG rfl) ?_
  exact ze (ob4 trivial rfl ⟨_,hZ,hm15.keep rfl rfl tl0,hm17.keep rfl rfl tl0,hm18.keep rfl rfl tl0,S⟩)
 ·rintro L g v hL hcl hclo ⟨Z48,hZ,hm15,hm17,hm18,S⟩ hv0 _ hv16
  obtain ⟨s43,he15,hp15⟩ := hm15 (hcl 15 jM)
  replace S:=S.zneed (xy (l1:=[za s43 r40.sub]) hp15 hZ)
  replace S:St A N w v [oB b4 zb (Term.C (⟨0,ByteArray.empty,ByteArray.empty,0,SlV.nil⟩ : Term)),oB b2 zb (Term.C (⟨a1.kind,a1.name,a1.other,a1.form,s_1⟩ : Term))] (za s43 r40.sub :: oT a_0 a0 :: za s_1 a1.sub :: oPw :: oCl s_1.blk (s_1.off + Int.toNat 0 * 5) (Term.C (⟨(at_ PTerm.z a1.sub 0).kind,(at_ PTerm.z a1.sub 0).name,(at_ PTerm.z a1.sub 0).other,(at_ PTerm.z a1.sub 0).form,s32⟩ : Term)) :: za s32 ((at_ PTerm.z a1.sub 0).sub) :: oCl s32.blk (s32.off + Int.toNat 0 * 5) (Term.C (⟨(at_ PTerm.z ((at_ PTerm.z a1.sub 0).sub) 0).kind,(at_ PTerm.z ((at_ PTerm.z a1.sub 0).sub) 0).name,(at_ PTerm.z ((at_ PTerm.z a1.sub 0).sub) 0).other,(at_ PTerm.z ((at_ PTerm.z a1.sub 0).sub) 0).form,s34⟩ : Term)) :: za s34 ((at_ PTerm.z ((at_ PTerm.z a1.sub 0).sub) 0).sub) :: oCl s34.blk (s34.off + Int.toNat 0 * 5) (Term.C (⟨(at_ PTerm.z ((at_ PTerm.z ((at_ PTerm.z a1.sub 0).sub) 0).sub) 0).kind,(at_ PTerm.z ((at_ PTerm.z ((at_ PTerm.z a1.sub 0).sub) 0).sub) 0).name,(at_ PTerm.z ((at_ PTerm.z ((at_ PTerm.z a1.sub 0).sub) 0).sub) 0).other,(at_ PTerm.z ((at_ PTerm.z ((at_ PTerm.z a1.sub 0).sub) 0).sub) 0).form,s36⟩ : Term)) :: za s36 ((at_ PTerm.z ((at_ PTerm.z ((at_ PTerm.z a1.sub 0).sub) 0).sub) 0).sub) :: Z48):=S
  obtain ⟨B62,MB62,SB62,back⟩ := S.sub [2,0,3] [] [oB b4 zb (Term.C (⟨0,ByteArray.empty,ByteArray.empty,0,SlV.nil⟩ : Term)),oB b2 zb (Term.C (⟨a1.kind,a1.name,a1.other,a1.form,s_1⟩ : Term))]
  refine zJ (zS ca_reduce_into (zX hv0 (zX he15 (zX hv16 rfl)))) jJ (reduce_into_st (a0:=a1) (a1:=r40) SB62 er44) ?_
  rintro _ w61 ⟨s63,rfl,S2⟩
  replace S:St A N w w61 [oB b4 zb (Term.C (⟨0,ByteArray.empty,ByteArray.empty,0,SlV.nil⟩ : Term)),oB b2 zb (Term.C (⟨a1.kind,a1.name,a1.other,a1.form,s_1⟩ : Term))] (za s63 r44.1.sub :: za s43 r40.sub :: oT a_0 a0 :: za s_1 a1.sub :: oPw :: oCl s_1.blk (s_1.off + Int.toNat 0 * 5) (Term.C (⟨(at_ PTerm.z a1.sub 0).kind,(at_ PTerm.z a1.sub 0).name,(at_ PTerm.z a1.sub 0).other,(at_ PTerm.z a1.sub 0).form,s32⟩ : Term)) :: za s32 ((at_ PTerm.z a1.sub 0).sub) :: oCl s32.blk (s32.off + Int.toNat 0 * 5) (Term.C (⟨(at_ PTerm.z ((at_ PTerm.z a1.sub 0).sub) 0).kind,(at_ PTerm.z ((at_ PTerm.z a1.sub 0).sub) 0).name,(at_ PTerm.z ((at_ PTerm.z a1.sub 0).sub) 0).other,(at_ PTerm.z ((at_ PTerm.z a1.sub 0).sub) 0).form,s34⟩ : Term)) :: za s34 ((at_ PTerm.z ((at_ PTerm.z a1.sub 0).sub) 0).sub) :: oCl s34.blk (s34.off + Int.toNat 0 * 5) (Term.C (⟨(at_ PTerm.z ((at_ PTerm.z ((at_ PTerm.z a1.sub 0).sub) 0).sub) 0).kind,(at_ PTerm.z ((at_ PTerm.z ((at_ PTerm.z a1.sub 0).sub) 0).sub) 0).name,(at_ PTerm.z ((at_ PTerm.z ((at_ PTerm.z a1.sub 0).sub) 0).sub) 0).other,(at_ PTerm.z ((at_ PTerm.z ((at_ PTerm.z a1.sub 0).sub) 0).sub) 0).form,s36⟩ : Term)) :: za s36 ((at_ PTerm.z ((at_ PTerm.z ((at_ PTerm.z a1.sub 0).sub) 0).sub) 0).sub) :: Z48):=back _ _ _ _ _ S2 rfl rfl
  clear back S2 SB62
  exact ze (ob4 trivial trivial ⟨_,(fun z h=>tl11 z (hZ z h)),hm15.keep rfl rfl tl11,Made.one (val:=(fun (c:SlV)=>Value.tuple #[.agg (Term.C (⟨r44.1.kind,r44.1.name,r44.1.other,r44.1.form,c⟩ : Term)).toArray,.int .i64 r44.2])) (ps:=(fun (c:SlV)=>[za c r44.1.sub])) s63 (xP List.mem_cons_self yf),hm18.keep rfl rfl tl11,S⟩)
 ·rintro L g v hL hcl hclo ⟨Z48,hZ,hm15,hm17,hm18,S⟩ _
  obtain ⟨s47,he17,hp17⟩ := hm17 (hcl 17 jM)
  replace S:=S.zneed (xy (l1:=[za s47 r44.1.sub]) hp17 hZ)
  replace S:St A N w v [oB b4 zb (Term.C (⟨0,ByteArray.empty,ByteArray.empty,0,SlV.nil⟩ : Term)),oB b2 zb (Term.C (⟨a1.kind,a1.name,a1.other,a1.form,s_1⟩ : Term))] (za s47 r44.1.sub :: oT a_0 a0 :: za s_1 a1.sub :: oPw :: oCl s_1.blk (s_1.off + Int.toNat 0 * 5) (Term.C (⟨(at_ PTerm.z a1.sub 0).kind,(at_ PTerm.z a1.sub 0).name,(at_ PTerm.z a1.sub 0).other,(at_ PTerm.z a1.sub 0).form,s32⟩ : Term)) :: za s32 ((at_ PTerm.z a1.sub 0).sub) :: oCl s32.blk (s32.off + Int.toNat 0 * 5) (Term.C (⟨(at_ PTerm.z ((at_ PTerm.z a1.sub 0).sub) 0).kind,(at_ PTerm.z ((at_ PTerm.z a1.sub 0).sub) 0).name,(at_ PTerm.z ((at_ PTerm.z a1.sub 0).sub) 0).other,(at_ PTerm.z ((at_ PTerm.z a1.sub 0).sub) 0).form,s34⟩ : Term)) :: za s34 ((at_ PTerm.z ((at_ PTerm.z a1.sub 0).sub) 0).sub) :: oCl s34.blk (s34.off + Int.toNat 0 * 5) (Term.C (⟨(at_ PTerm.z ((at_ PTerm.z ((at_ PTerm.z a1.sub 0).sub) 0).sub) 0).kind,(at_ PTerm.z ((at_ PTerm.z ((at_ PTerm.z a1.sub 0).sub) 0).sub) 0).name,(at_ PTerm.z ((at_ PTerm.z ((at_ PTerm.z a1.sub 0).sub) 0).sub) 0).other,(at_ PTerm.z ((at_ PTerm.z ((at_ PTerm.z a1.sub 0).sub) 0).sub) 0).form,s36⟩ : Term)) :: za s36 ((at_ PTerm.z ((at_ PTerm.z ((at_ PTerm.z a1.sub 0).sub) 0).sub) 0).sub) :: Z48):=S
  refine wd (zA he17 rfl) ?_
  exact ze (ob4 trivial trivial ⟨_,(fun z h=>tl10 z (hZ z h)),hm15.keep rfl rfl tl10,hm17.keep rfl rfl tl10,Made.one (val:=(fun (c:SlV)=>Value.agg (Term.C (⟨r44.1.kind,r44.1.name,r44.1.other,r44.1.form,c⟩ : Term)).toArray)) (ps:=(fun (c:SlV)=>[za c r44.1.sub])) s47 (xP List.mem_cons_self yf),S⟩)
 ·rintro L g v hL hcl hclo ⟨Z48,hZ,hm15,hm17,hm18,S⟩ _
  obtain ⟨s47,he17,hp17⟩ := hm17 (hcl 17 jM)
  replace S:=S.zneed (xy (l1:=[za s47 r44.1.sub]) hp17 hZ)
  replace S:St A N w v [oB b4 zb (Term.C (⟨0,ByteArray.empty,ByteArray.empty,0,SlV.nil⟩ : Term)),oB b2 zb (Term.C (⟨a1.kind,a1.name,a1.other,a1.form,s_1⟩ : Term))] (za s47 r44.1.sub :: oT a_0 a0 :: za s_1 a1.sub :: oPw :: oCl s_1.blk (s_1.off + Int.toNat 0 * 5) (Term.C (⟨(at_ PTerm.z a1.sub 0).kind,(at_ PTerm.z a1.sub 0).name,(at_ PTerm.z a1.sub 0).other,(at_ PTerm.z a1.sub 0).form,s32⟩ : Term)) :: za s32 ((at_ PTerm.z a1.sub 0).sub) :: oCl s32.blk (s32.off + Int.toNat 0 * 5) (Term.C (⟨(at_ PTerm.z ((at_ PTerm.z a1.sub 0).sub) 0).kind,(at_ PTerm.z ((at_ PTerm.z a1.sub 0).sub) 0).name,(at_ PTerm.z ((at_ PTerm.z a1.sub 0).sub) 0).other,(at_ PTerm.z ((at_ PTerm.z a1.sub 0).sub) 0).form,s34⟩ : Term)) :: za s34 ((at_ PTerm.z ((at_ PTerm.z a1.sub 0).sub) 0).sub) :: oCl s34.blk (s34.off + Int.toNat 0 * 5) (Term.C (⟨(at_ PTerm.z ((at_ PTerm.z ((at_ PTerm.z a1.sub 0).sub) 0).sub) 0).kind,(at_ PTerm.z ((at_ PTerm.z ((at_ PTerm.z a1.sub 0).sub) 0).sub) 0).name,(at_ PTerm.z ((at_ PTerm.z ((at_ PTerm.z a1.sub 0).sub) 0).sub) 0).other,(at_ PTerm.z ((at_ PTerm.z ((at_ PTerm.z a1.sub 0).sub) 0).sub) 0).form,s36⟩ : Term)) :: za s36 ((at_ PTerm.z ((at_ PTerm.z ((at_ PTerm.z a1.sub 0).sub) 0).sub) 0).sub) :: Z48):=S
  refine wd (zA he17 rfl) ?_
  exact ze (ob4 trivial rfl ⟨_,(fun z h=>tl10 z (hZ z h)),hm15.keep rfl rfl tl10,hm17.keep rfl rfl tl10,hm18.keep rfl rfl tl10,S⟩)
 rintro L g w64 hLm ⟨Z48,hZ,hm15,hm17,hm18,S⟩ hv65_0 hv65_1 hv65_2 hv65_3 hv65_4 hv65_5 hv65_6 hv65_7 hv65_8 hv65_9 hv65_10 hv65_11 hv65_12 hv65_13 hv65_14 _ hv65_16 _ _ hv65_19
 have hLt : ∀ j,j < 20→L j=true:=fun j hj=>by rw [hLm]; exact decide_eq_true hj
 obtain ⟨s43,hv65_15,hp15⟩ := hm15 (hLt 15 jJ)
 obtain ⟨s47,hv65_18,hp18⟩ := hm18 (hLt 18 jJ)
 replace S:St A N w w64 [oB b4 zb (Term.C (⟨0,ByteArray.empty,ByteArray.empty,0,SlV.nil⟩ : Term)),oB b2 zb (Term.C (⟨a1.kind,a1.name,a1.other,a1.form,s_1⟩ : Term))] [za s43 r40.sub,za s47 r44.1.sub,oT a_0 a0,za s_1 a1.sub,oPw,oCl s_1.blk (s_1.off + Int.toNat 0 * 5) (Term.C (⟨(at_ PTerm.z a1.sub 0).kind,(at_ PTerm.z a1.sub 0).name,(at_ PTerm.z a1.sub 0).other,(at_ PTerm.z a1.sub 0).form,s32⟩ : Term)),za s32 ((at_ PTerm.z a1.sub 0).sub),oCl s32.blk (s32.off + Int.toNat 0 * 5) (Term.C (⟨(at_ PTerm.z ((at_ PTerm.z a1.sub 0).sub) 0).kind,(at_ PTerm.z ((at_ PTerm.z a1.sub 0).sub) 0).name,(at_ PTerm.z ((at_ PTerm.z a1.sub 0).sub) 0).other,(at_ PTerm.z ((at_ PTerm.z a1.sub 0).sub) 0).form,s34⟩ : Term)),za s34 ((at_ PTerm.z ((at_ PTerm.z a1.sub 0).sub) 0).sub),oCl s34.blk (s34.off + Int.toNat 0 * 5) (Term.C (⟨(at_ PTerm.z ((at_ PTerm.z ((at_ PTerm.z a1.sub 0).sub) 0).sub) 0).kind,(at_ PTerm.z ((at_ PTerm.z ((at_ PTerm.z a1.sub 0).sub) 0).sub) 0).name,(at_ PTerm.z ((at_ PTerm.z ((at_ PTerm.z a1.sub 0).sub) 0).sub) 0).other,(at_ PTerm.z ((at_ PTerm.z ((at_ PTerm.z a1.sub 0).sub) 0).sub) 0).form,s36⟩ : Term)),za s36 ((at_ PTerm.z ((at_ PTerm.z ((at_ PTerm.z a1.sub 0).sub) 0).sub) 0).sub)]:=S.pickZ (xy (l1:=[za s43 r40.sub]) hp15 (xy (l1:=[za s47 r44.1.sub]) hp18 hZ))
 clear hp15 hp18 hZ hm15 hm17 hm18
 refine zy zq rfl hv65_18 (S.blk 0) (Term.len _) (by rw [Term.len]; decide) (Term.one _) (zM (Term.len _)) fun w66 B hw66 zw66=>?_
 replace S:St A N w w66 [oB b4 zb (Term.C (⟨r44.1.kind,r44.1.name,r44.1.other,r44.1.form,s47⟩ : Term)),oB b2 zb (Term.C (⟨a1.kind,a1.name,a1.other,a1.form,s_1⟩ : Term))] [za s43 r40.sub,za s47 r44.1.sub,oT a_0 a0,za s_1 a1.sub,oPw,oCl s_1.blk (s_1.off + Int.toNat 0 * 5) (Term.C (⟨(at_ PTerm.z a1.sub 0).kind,(at_ PTerm.z a1.sub 0).name,(at_ PTerm.z a1.sub 0).other,(at_ PTerm.z a1.sub 0).form,s32⟩ : Term)),za s32 ((at_ PTerm.z a1.sub 0).sub),oCl s32.blk (s32.off + Int.toNat 0 * 5) (Term.C (⟨(at_ PTerm.z ((at_ PTerm.z a1.sub 0).sub) 0).kind,(at_ PTerm.z ((at_ PTerm.z a1.sub 0).sub) 0).name,(at_ PTerm.z ((at_ PTerm.z a1.sub 0).sub) 0).other,(at_ PTerm.z ((at_ PTerm.z a1.sub 0).sub) 0).form,s34⟩ : Term)),za s34 ((at_ PTerm.z ((at_ PTerm.z a1.sub 0).sub) 0).sub),oCl s34.blk (s34.off + Int.toNat 0 * 5) (Term.C (⟨(at_ PTerm.z ((at_ PTerm.z ((at_ PTerm.z a1.sub 0).sub) 0).sub) 0).kind,(at_ PTerm.z ((at_ PTerm.z ((at_ PTerm.z a1.sub 0).sub) 0).sub) 0).name,(at_ PTerm.z ((at_ PTerm.z ((at_ PTerm.z a1.sub 0).sub) 0).sub) 0).other,(at_ PTerm.z ((at_ PTerm.z ((at_ PTerm.z a1.sub 0).sub) 0).sub) 0).form,s36⟩ : Term)),za s36 ((at_ PTerm.z ((at_ PTerm.z ((at_ PTerm.z a1.sub 0).sub) 0).sub) 0).sub)]:=S.store 0 B hw66
 clear B
 refine wd (zn hv65_19) ?_
 refine ze ?_
 refine zC ?_
 refine ⟨_,(xB (zV zq rfl ((S.blk 0).all _ (Term.len _)) (Term.len _)) (zj rfl)),?_⟩
 replace S:St A N w w66 [] [za s47 r44.1.sub]:=S.arr [] [1]
 obtain rfl:=jN H
 exact ⟨s47,rfl,S⟩
theorem reduce_rules_14_st {a0:Tb} {a_0:Option Addr} {a1:PTerm} {s_1:SlV} (S:St A N w w [] [oT a_0 a0,za s_1 a1.sub,oPw]) {k:Nat} {r:PTerm × Int} (H:kO.f k a0 a1=some r) :
  Calls PP yp #[.pointer a_0,.agg (Term.C (⟨a1.kind,a1.name,a1.other,a1.form,s_1⟩ : Term)).toArray] w fun e w' => ∃ v,e = .returned v∧(∃ so0:SlV,v = .tuple #[.agg (Term.C (⟨r.1.kind,r.1.name,r.1.other,r.1.form,so0⟩ : Term)).toArray,.int .i64 r.2]∧St A N w w' [] [za so0 r.1.sub]):=by
 unfold kO.f at H
 refine zE (n:=19) fn_reduce_rules_14 rfl rfl jL ?_
 refine zg (zd ?_)
 refine zQ rfl jJ fun b2 w1 hw1=>?_
 replace S:St A N w w1 [oB b2 zb (Term.C (⟨a1.kind,a1.name,a1.other,a1.form,s_1⟩ : Term))] [oT a_0 a0,za s_1 a1.sub,oPw]:=S.new hw1
 refine zZ xr jJ fun b4 w3 hw3=>?_
 replace S:St A N w w3 [oB b4 zb (Term.C (⟨0,ByteArray.empty,ByteArray.empty,0,SlV.nil⟩ : Term)),oB b2 zb (Term.C (⟨a1.kind,a1.name,a1.other,a1.form,s_1⟩ : Term))] [oT a_0 a0,za s_1 a1.sub,oPw]:=S.new hw3
 refine wd (zn rfl) ?_
 refine ze ?_
 refine zg ?_
 refine wc_ws hmix fun w12 K=>?_
 replace S:=S.ext K
 clear K
 obtain ⟨hi13,H⟩ := xh H
 obtain ⟨s14,hc15,S⟩ := S.viewTerm 1 (zP hi13)
 replace S:St A N w w12 [oB b4 zb (Term.C (⟨0,ByteArray.empty,ByteArray.empty,0,SlV.nil⟩ : Term)),oB b2 zb (Term.C (⟨a1.kind,a1.name,a1.other,a1.form,s_1⟩ : Term))] [za s14 ((at_ PTerm.z a1.sub 1).sub),oT a_0 a0,za s_1 a1.sub,oPw]:=S
 replace S:St A N w w12 [oB b4 zb (Term.C (⟨0,ByteArray.empty,ByteArray.empty,0,SlV.nil⟩ : Term)),oB b2 zb (Term.C (⟨a1.kind,a1.name,a1.other,a1.form,s_1⟩ : Term))] [oT a_0 a0,za s_1 a1.sub,oPw,za s14 ((at_ PTerm.z a1.sub 1).sub)]:=S.zs [1,2,3,0]
 obtain ⟨hi16,H⟩ := xh H
 obtain ⟨s17,hc18,S⟩ := S.viewTerm 1 (zP hi16)
 replace S:St A N w w12 [oB b4 zb (Term.C (⟨0,ByteArray.empty,ByteArray.empty,0,SlV.nil⟩ : Term)),oB b2 zb (Term.C (⟨a1.kind,a1.name,a1.other,a1.form,s_1⟩ : Term))] [za s17 ((at_ PTerm.z a1.sub 0).sub),oT a_0 a0,za s_1 a1.sub,oPw,za s14 ((at_ PTerm.z a1.sub 1).sub)]:=S
 replace S:St A N w w12 [oB b4 zb (Term.C (⟨0,ByteArray.empty,ByteArray.empty,0,SlV.nil⟩ : Term)),oB b2 zb (Term.C (⟨a1.kind,a1.name,a1.other,a1.form,s_1⟩ : Term))] [oT a_0 a0,za s_1 a1.sub,oPw,za s14 ((at_ PTerm.z a1.sub 1).sub),za s17 ((at_ PTerm.z a1.sub 0).sub)]:=S.zs [1,2,3,4,0]
 refine vS 0 10 [] jM jJ jM
  (V:=fun i v u=>match i with
  | _=>True) ?_ ?_
 ·intro i v u u' hi hx hv
  match i,hv with
  | _,_=>exact trivial
 refine xc (fun v K=>zh zO rfl (o':=4) rfl) rfl ?_
 refine xc (fun v K=>zt zF rfl (((S.ext K).blk 1).cell (Term.get_sub _))) rfl ?_
 refine xc (fun v K=>does_indexF zz rfl rfl ((S.ext K).onZ 1) (zP hi13).1 (zP hi13).2) rfl ?_
 refine xc (fun v K=>zi zq rfl (hc15.chg K (fun x=>x)) (Term.len _)) rfl ?_
 refine xc (fun v K=>zh xO rfl (o':=1) rfl) rfl ?_
 refine xc (fun v K=>zt xz rfl (((S.ext K).blk 1).cell (Term.get_name _))) rfl ?_
 refine xc (fun v K=>zh zO rfl (o':=4) rfl) rfl ?_
 refine xc (fun v K=>zt zF rfl (((S.ext K).blk 1).cell (Term.get_sub _))) rfl ?_
 refine xc (fun v K=>does_indexF zz rfl rfl ((S.ext K).onZ 1) (zP hi16).1 (zP hi16).2) rfl ?_
 refine xc (fun v K=>zi zq rfl (hc18.chg K (fun x=>x)) (Term.len _)) rfl ?_
 refine uY fun g w19 K hV=>?_
 replace S:=S.ext K
 clear K hV
 refine jI 10 11 jM jJ ?_
 obtain ⟨r21,er21,H⟩ := zB H
 obtain ⟨B23,MB23,SB23,back⟩ := S.sub [3,4,2] [] [oB b4 zb (Term.C (⟨0,ByteArray.empty,ByteArray.empty,0,SlV.nil⟩ : Term)),oB b2 zb (Term.C (⟨a1.kind,a1.name,a1.other,a1.form,s_1⟩ : Term))]
 refine zJ (zH uN) jJ (uP (a0:=(at_ PTerm.z a1.sub 1)) (a2:=(at_ PTerm.z a1.sub 0)) SB23 er21) ?_
 rintro _ w22 ⟨s24,rfl,S2⟩
 replace S:St A N w w22 [oB b4 zb (Term.C (⟨0,ByteArray.empty,ByteArray.empty,0,SlV.nil⟩ : Term)),oB b2 zb (Term.C (⟨a1.kind,a1.name,a1.other,a1.form,s_1⟩ : Term))] [za s24 r21.1.sub,oT a_0 a0,za s_1 a1.sub,oPw,za s14 ((at_ PTerm.z a1.sub 1).sub),za s17 ((at_ PTerm.z a1.sub 0).sub)]:=back _ _ _ _ _ S2 rfl rfl
 clear back S2 SB23
 refine ze ⟨rfl,?_⟩
 refine vS 11 13 [] jM jJ jM
  (V:=fun i v u=>match i with
  | _=>True) ?_ ?_
 ·intro i v u u' hi hx hv
  match i,hv with
  | _,_=>exact trivial
 refine xc (fun v K=>zA rfl rfl) rfl ?_
 refine xc (fun v K=>zA rfl rfl) rfl ?_
 refine uY fun g w25 K hV=>?_
 replace S:=S.ext K
 clear K hV
 refine ws_tail 13 jM jJ ?_
 refine zy zq rfl rfl (S.blk 0) (Term.len _) (by rw [Term.len]; decide) (Term.one _) (zM (Term.len _)) fun w27 B hw27 zw27=>?_
 replace S:St A N w w27 [oB b4 zb (Term.C (⟨r21.1.kind,r21.1.name,r21.1.other,r21.1.form,s24⟩ : Term)),oB b2 zb (Term.C (⟨a1.kind,a1.name,a1.other,a1.form,s_1⟩ : Term))] [za s24 r21.1.sub,oT a_0 a0,za s_1 a1.sub,oPw,za s14 ((at_ PTerm.z a1.sub 1).sub),za s17 ((at_ PTerm.z a1.sub 0).sub)]:=S.store 0 B hw27
 clear B
 refine wd (zn rfl) ?_
 refine ze ?_
 refine zC ?_
 refine ⟨_,(xB (zV zq rfl ((S.blk 0).all _ (Term.len _)) (Term.len _)) (zj rfl)),?_⟩
 replace S:St A N w w27 [] [za s24 r21.1.sub]:=S.arr [] [0]
 obtain rfl:=jN H
 exact ⟨s24,rfl,S⟩
end
section
open Gw Go.RowKit
def uJ (i:Int):FuncId:=if i=0 then yF else if i=1 then yG else if i=2 then yH else if i=3 then yI else if i=4 then yn else if i=5 then yo else if i=6 then yp else yq
theorem ca_rule_does (i:Int):zR PP (uJ i):=by
 unfold uJ
 repeat' split
 ·exact ca_reduce_rules_2
 ·exact ca_reduce_rules_4
 ·exact ca_reduce_rules_6
 ·exact ca_reduce_rules_8
 ·exact ca_reduce_rules_10
 ·exact ca_reduce_rules_12
 ·exact ca_reduce_rules_14
 ·exact ca_reduce_rules_16
def kP.f (k:Nat) (i:Int) (a0:Tb) (a1:PTerm):Option (PTerm × Int) :=
 if i=0 then kJ.f k a0 a1 else if i=1 then kK.f k a0 a1 else if i=2 then kk.f a0 a1 else if i=3 then kn.f a0 a1 else if i=4 then kM.f k a0 a1 else if i=5 then kN.f k a0 a1 else if i=6 then kO.f k a0 a1 else if i=7 then ku.f a0 a1 else none
theorem rule_does_v {k:Nat} {i:Int} {a0:Tb} {a1:PTerm} {r:PTerm × Int} (H:kP.f k i a0 a1=some r):(zx i).does.v = .func (.func (uJ i)) #[] #[]:=by
 by_cases h:0 ≤ i∧i < 8
 ·have:i=0∨i=1∨i=2∨i=3∨i=4∨i=5∨i=6∨i=7:=by omega
  rcases this with rfl | rfl | rfl | rfl | rfl | rfl | rfl | rfl <;> rfl
 ·unfold kP.f at H
  simp only [show ¬ i=0 by omega,show ¬ i=1 by omega,show ¬ i=2 by omega,show ¬ i=3 by omega,show ¬ i=4 by omega,show ¬ i=5 by omega,show ¬ i=6 by omega,show ¬ i=7 by omega,if_false] at H
  cases H
section
variable {A:Nat→Prop} {N:Oth} {w:World}
theorem rule_does_st {a0:Tb} {a_0:Option Addr} {a1:PTerm} {s_1:SlV} (S:St A N w w [] [oT a_0 a0,za s_1 a1.sub,oPw]) {k:Nat} {i:Int} {r:PTerm × Int} (H:kP.f k i a0 a1=some r) :
  Calls PP (uJ i) #[.pointer a_0,.agg (Term.C (⟨a1.kind,a1.name,a1.other,a1.form,s_1⟩ : Term)).toArray] w fun e w' => ∃ v,e = .returned v∧(∃ so0:SlV,v = .tuple #[.agg (Term.C (⟨r.1.kind,r.1.name,r.1.other,r.1.form,so0⟩ : Term)).toArray,.int .i64 r.2]∧St A N w w' [] [za so0 r.1.sub]):=by
 unfold kP.f at H
 unfold uJ
 have S2:St A N w w [] [oT a_0 a0,za s_1 a1.sub]:=S.zs [0,1]
 split
 ·rename_i e; rw [if_pos e] at H; exact reduce_rules_2_st S H
 rename_i e; rw [if_neg e] at H; clear e
 split
 ·rename_i e; rw [if_pos e] at H; exact reduce_rules_4_st S H
 rename_i e; rw [if_neg e] at H; clear e
 split
 ·rename_i e; rw [if_pos e] at H; exact reduce_rules_6_st S2 H
 rename_i e; rw [if_neg e] at H; clear e
 split
 ·rename_i e; rw [if_pos e] at H; exact reduce_rules_8_st S2 H
 rename_i e; rw [if_neg e] at H; clear e
 split
 ·rename_i e; rw [if_pos e] at H; exact reduce_rules_10_st S H
 rename_i e; rw [if_neg e] at H; clear e
 split
 ·rename_i e; rw [if_pos e] at H; exact reduce_rules_12_st S H
 rename_i e; rw [if_neg e] at H; clear e
 split
 ·rename_i e; rw [if_pos e] at H; exact reduce_rules_14_st S H
 rename_i e; rw [if_neg e] at H; clear e
 split at H
 ·exact reduce_rules_16_st S2 H
 ·cases H
end
end
section
open Gw
def kQ.f (a0:Tb) (a1:PTerm):Option (Int × Bool) :=
 (kh.f a0 a1).bind fun r17=>if r17 then some (0,true) else (ki.f a0 a1).bind fun r31=>if r31 then some (1,true) else (kj.f a0 a1).bind fun r45=>if r45 then some (2,true) else (km.f a0 a1).bind fun r59=>if r59 then some (3,true) else (ko.f a0 a1).bind fun r73=>if r73 then some (4,true) else (kp.f a0 a1).bind fun r87=>if r87 then some (5,true) else (kq.f a0 a1).bind fun r101=>if r101 then some (6,true) else (kr.f a0 a1).bind fun r115=>if r115 then some (7,true) else some (8,false)
def kR.b0 (zas:PTerm→Option PTerm) (i11:Int) (x11_0:PTerm):Option PTerm :=
 chk (inb i11 x11_0.sub.length) ((zas (at_ PTerm.z x11_0.sub i11)).bind fun r23=>chk (inb i11 x11_0.sub.length) (some (⟨x11_0.kind,x11_0.name,x11_0.other,x11_0.form,x11_0.sub.set (Int.toNat i11) r23⟩ : PTerm)))
def kR.g (zas:PTerm→Option PTerm) (a0:PTerm):Option PTerm :=
 (jU.f a0.sub).bind fun r6=>(forS (fun i s=>kR.b0 zas i s) ((r6.length:Int) - 0).toNat 0 (⟨a0.kind,a0.name,a0.other,a0.form,r6⟩ : PTerm)).bind fun (o11:PTerm)=>some (⟨o11.kind,o11.name,o11.other,o11.form,o11.sub⟩ : PTerm)
def kR.f:Nat→PTerm→Option PTerm
 | 0=>fun _=>none
 | k + 1=>kR.g (kR.f k)
def kS.b0 (zax:PTerm→Option PTerm) (i20:Int) (x20_0:PTerm):Option PTerm :=
 chk (inb i20 x20_0.sub.length) ((zax (at_ PTerm.z x20_0.sub i20)).bind fun r32=>chk (inb i20 x20_0.sub.length) (some (⟨x20_0.kind,x20_0.name,x20_0.other,x20_0.form,x20_0.sub.set (Int.toNat i20) r32⟩ : PTerm)))
def kS.g (zax:PTerm→Option PTerm) (a0:PTerm):Option PTerm :=
 if decide (a0.kind=11) then chk (inb 0 a0.sub.length) ((zax (at_ PTerm.z a0.sub 0)).bind fun r9=>some r9) else (jU.f a0.sub).bind fun r15=>(forS (fun i s=>kS.b0 zax i s) ((r15.length:Int) - 0).toNat 0 (⟨a0.kind,a0.name,a0.other,a0.form,r15⟩ : PTerm)).bind fun (o20:PTerm)=>some (⟨o20.kind,o20.name,o20.other,o20.form,o20.sub⟩ : PTerm)
def kS.f:Nat→PTerm→Option PTerm
 | 0=>fun _=>none
 | k + 1=>kS.g (kS.f k)
def kT.f (k:Nat) (a0:PTerm):Option (PTerm × Int) :=
 (j5.f k a0).bind fun r5=>if decide (r5 ≠ 0) then some ((⟨0,ByteArray.empty,ByteArray.empty,0,[]⟩ : PTerm),r5) else (kS.f k a0).bind fun r10=>some (r10,0)
def kU.g (zau:Tb→PTerm→List Int→Option (PTerm × Int)) (k:Nat) (a0:Tb) (a1:PTerm) (a2:List Int):Option (PTerm × Int) :=
 if decide ((a2.length:Int)=0) then (kQ.f a0 a1).bind fun r6=>if !r6.2 then some ((⟨0,ByteArray.empty,ByteArray.empty,0,[]⟩ : PTerm),140) else (kP.f k r6.1 a0 a1).bind fun r21=>some (r21.1,r21.2) else chk (inb 0 a2.length) (if (decide (at_ (0:Int) a2 0 < 0)) || (decide ((a1.sub.length:Int) ≤ at_ (0:Int) a2 0)) then some ((⟨0,ByteArray.empty,ByteArray.empty,0,[]⟩ : PTerm),140) else chk (inb (at_ (0:Int) a2 0) a1.sub.length) (chk (decide ((0:Int) ≤ 1∧1 ≤ (a2.length:Int))) ((zau a0 (at_ PTerm.z a1.sub (at_ (0:Int) a2 0)) (a2.drop ((1:Int)).toNat)).bind fun r38=>if decide (r38.2 ≠ 0) then some ((⟨0,ByteArray.empty,ByteArray.empty,0,[]⟩ : PTerm),r38.2) else (jU.f a1.sub).bind fun r62=>chk (inb (at_ (0:Int) a2 0) r62.length) (some ((⟨a1.kind,a1.name,a1.other,a1.form,r62.set (Int.toNat (at_ (0:Int) a2 0)) r38.1⟩ : PTerm),0)))))
def kU.f:Nat→Tb→PTerm→List Int→Option (PTerm × Int)
 | 0=>fun _ _ _=>none
 | k + 1=>kU.g (kU.f k) k
def kV.f (k:Nat) (a0:Tb) (a1:PTerm) (a2:List Int):Option (PTerm × Int) :=
 (kU.f k a0 a1 a2).bind fun r5=>(if (decide (r5.2=0)) then j5.f k r5.1 else some 0).bind fun r12=>if (decide (r5.2=0)) && (decide (r12 ≠ 0)) then if decide (121 ≠ 0) then some ((⟨0,ByteArray.empty,ByteArray.empty,0,[]⟩ : PTerm),121) else (kR.f k r5.1).bind fun r17=>some (r17,0) else if decide (r5.2 ≠ 0) then some ((⟨0,ByteArray.empty,ByteArray.empty,0,[]⟩ : PTerm),r5.2) else (kR.f k r5.1).bind fun r24=>some (r24,0)
def kW.f (k:Nat) (a0:Tb) (a1:PTerm) (a2:List Int):Option (PTerm × Int) :=
 (kA.f k a0 a1).bind fun r5=>if decide (r5.2 ≠ 0) then some ((⟨0,ByteArray.empty,ByteArray.empty,0,[]⟩ : PTerm),r5.2) else chk r5.1 ((kV.f k a0 a1 a2).bind fun r11=>some (r11.1,r11.2))
def kX.f (a0:List Int) (a1:List (List Int)):Option (List (List Int) × Bool) :=
 (jV.f a0).bind fun r10=>chk (decide ((a1.length + 1) * 24 ≤ 140737488355328)) (some (a1 ++ [r10],decide (((a1 ++ [r10]).length:Int) < 1000)))
def kY.b0 (a2:List Int) (zav:Tb→PTerm→List Int→List (List Int)→Option (List (List Int) × Bool)) (a0:Tb) (a1:PTerm) (i14:Int) (x14_0:List (List Int)):Option (Stp (List (List Int)) (List (List Int) × Bool)) :=
 chk (decide (0 ≤ (a2.length:Int)∧(a2.length:Int) ≤ (a2.length:Int))) (chk (decide (((a2.take (Int.toNat (a2.length:Int))).length + ([i14]).length) * 8 ≤ 140737488355328)) ((zav a0 (at_ PTerm.z a1.sub i14) ((a2.take (Int.toNat (a2.length:Int))) ++ [i14]) x14_0).bind fun r43=>if !r43.2 then some (.ret (r43.1,false)) else some (.go r43.1)))
def kY.g (zav:Tb→PTerm→List Int→List (List Int)→Option (List (List Int) × Bool)) (a0:Tb) (a1:PTerm) (a2:List Int) (a3_0:List (List Int)):Option (List (List Int) × Bool) :=
 (kQ.f a0 a1).bind fun r3=>(if r3.2 then kX.f a2 a3_0 else some (a3_0,false)).bind fun r9=>if r3.2 && (!r9.2) then some (r9.1,false) else (forN (fun i s=>kY.b0 a2 zav a0 a1 i s) ((a1.sub.length:Int) - 0).toNat 0 r9.1).bind (aft fun (s14:List (List Int))=>some (s14,true))
def kY.f:Nat→Tb→PTerm→List Int→List (List Int)→Option (List (List Int) × Bool)
 | 0=>fun _ _ _ _=>none
 | k + 1=>kY.g (kY.f k)
def kZ.f (k:Nat) (a0:Tb) (a1:PTerm):Option (List (List Int) × Int) :=
 (kA.f k a0 a1).bind fun r3=>if decide (r3.2 ≠ 0) then some (([]:List (List Int)),r3.2) else chk r3.1 ((kY.f k a0 a1 ([]) ([]:List (List Int))).bind fun r10=>some (r10.1,0))
def k0.f (k:Nat) (a0:Tb) (a1:PTerm):Option (Bool × Int) :=
 (kZ.f k a0 a1).bind fun r3=>some ((decide (r3.2=0)) && (decide ((r3.1.length:Int)=0)),r3.2)
def k3.f (a0:List Int) (a1:List Int):Option (List Int × Bool) :=
 (jV.f a0).bind fun r1=>some (r1,false)
def k4.b0 (a2:List Int) (zaw:Tb→PTerm→List Int→List Int→Option (List Int × Bool)) (a0:Tb) (a1:PTerm) (i14:Int) (x14_0:List Int):Option (Stp (List Int) (List Int × Bool)) :=
 chk (decide (0 ≤ (a2.length:Int)∧(a2.length:Int) ≤ (a2.length:Int))) (chk (decide (((a2.take (Int.toNat (a2.length:Int))).length + ([i14]).length) * 8 ≤ 140737488355328)) ((zaw a0 (at_ PTerm.z a1.sub i14) ((a2.take (Int.toNat (a2.length:Int))) ++ [i14]) x14_0).bind fun r43=>if !r43.2 then some (.ret (r43.1,false)) else some (.go r43.1)))
def k4.g (zaw:Tb→PTerm→List Int→List Int→Option (List Int × Bool)) (a0:Tb) (a1:PTerm) (a2:List Int) (a3_0:List Int):Option (List Int × Bool) :=
 (kQ.f a0 a1).bind fun r3=>(if r3.2 then k3.f a2 a3_0 else some (a3_0,false)).bind fun r9=>if r3.2 && (!r9.2) then some (r9.1,false) else (forN (fun i s=>k4.b0 a2 zaw a0 a1 i s) ((a1.sub.length:Int) - 0).toNat 0 r9.1).bind (aft fun (s14:List Int)=>some (s14,true))
def k4.f:Nat→Tb→PTerm→List Int→List Int→Option (List Int × Bool)
 | 0=>fun _ _ _ _=>none
 | k + 1=>k4.g (k4.f k)
def k5.b0 (k:Nat) (a0:Tb) (a2:Int) (x19_0:Int) (x19_1:PTerm) (x19_2:PTerm):Option (Stp (Int × PTerm × PTerm) (PTerm × Int × Bool × Int)) :=
 (k4.f k a0 x19_1 ([]) ([]:List Int)).bind fun r28=>if r28.2 then some (.brk (x19_0,x19_1,x19_2)) else if decide (x19_0=a2) then some (.ret (x19_1,x19_0,false,0)) else (kV.f k a0 x19_1 r28.1).bind fun r35=>if decide (r35.2 ≠ 0) then some (.ret (x19_1,x19_0,false,r35.2)) else some (.go (IntKind.i64.wrap (x19_0 + 1),r35.1,x19_2))
def k5.f (k:Nat) (a0:Tb) (a1:PTerm) (a2:Int):Option (PTerm × Int × Bool × Int) :=
 (kA.f k a0 a1).bind fun r5=>if decide (r5.2 ≠ 0) then some ((⟨0,ByteArray.empty,ByteArray.empty,0,[]⟩ : PTerm),0,false,r5.2) else if (decide (a2 < 0)) || (decide (4096 < a2)) then some ((⟨0,ByteArray.empty,ByteArray.empty,0,[]⟩ : PTerm),0,false,2) else (kR.f k a1).bind fun r13=>chk r5.1 ((iter (fun s=>k5.b0 k a0 a2 s.1 s.2.1 s.2.2) k (0,r13,(⟨0,ByteArray.empty,ByteArray.empty,0,[]⟩ : PTerm))).bind (aft fun (s19:Int × PTerm × PTerm)=>some (s19.2.1,s19.1,true,0)))
end
section
open Gw
def k6.f (a0:Tb) (a1:ByteArray):Option (Tb × Int × Int) :=
 (jR.f a0 ({ Nd.z with kind:=1,name:=a1 })).bind fun r1=>some (r1.1,r1.2.1,r1.2.2)
def k7.f (a0:Int):Option Int :=
 some a0
def k8.f (a0:ByteArray):Option PTerm :=
 some (⟨1,a0,ByteArray.empty,0,[]⟩ : PTerm)
def k9.b0 (a0:PTerm) (a1:PTerm) (zay:PTerm→PTerm→Option Bool) (x6_0:Int):Option (Stp Int Bool) :=
 if decide (x6_0 < (a0.sub.length:Int)) then chk (inb x6_0 a0.sub.length) (chk (inb x6_0 a1.sub.length) ((zay (at_ PTerm.z a0.sub x6_0) (at_ PTerm.z a1.sub x6_0)).bind fun r15=>if !r15 then some (.ret false) else some (.go (IntKind.i64.wrap (x6_0 + 1))))) else some (.brk x6_0)
def k9.g (zay:PTerm→PTerm→Option Bool) (k:Nat) (a0:PTerm) (a1:PTerm):Option Bool :=
 if ((((decide (a0.kind ≠ a1.kind)) || (decide (a0.name ≠ a1.name))) || (decide (a0.other ≠ a1.other))) || (decide (a0.form ≠ a1.form))) || (decide ((a0.sub.length:Int) ≠ (a1.sub.length:Int))) then some false else (iter (fun s=>k9.b0 a0 a1 zay s) k 0).bind (aft fun (s6:Int)=>some true)
def k9.f:Nat→PTerm→PTerm→Option Bool
 | 0=>fun _ _=>none
 | k + 1=>k9.g (k9.f k) k
def zaa.b0 (a1:List Int) (a0:List Int) (i2:Int):Option (Stp Unit Bool) :=
 chk (inb i2 a1.length) (if decide (at_ (0:Int) a0 i2 ≠ at_ (0:Int) a1 i2) then some (.ret false) else some (.go ()))
def zaa.f (a0:List Int) (a1:List Int):Option Bool :=
 if decide ((a0.length:Int) ≠ (a1.length:Int)) then some false else (forN (fun i s=>zaa.b0 a1 a0 i) ((a0.length:Int) - 0).toNat 0 ()).bind (aft fun (s2:Unit)=>some true)
def zab.b0 (a1:List (List Int)) (a0:List (List Int)) (i2:Int):Option (Stp Unit Bool) :=
 chk (inb i2 a1.length) ((zaa.f (at_ [] a0 i2) (at_ [] a1 i2)).bind fun r11=>if !r11 then some (.ret false) else some (.go ()))
def zab.f (a0:List (List Int)) (a1:List (List Int)):Option Bool :=
 if decide ((a0.length:Int) ≠ (a1.length:Int)) then some false else (forN (fun i s=>zab.b0 a1 a0 i) ((a0.length:Int) - 0).toNat 0 ()).bind (aft fun (s2:Unit)=>some true)
end
end Go.Proofs.YtmggdbbmmkkplaaDoor
