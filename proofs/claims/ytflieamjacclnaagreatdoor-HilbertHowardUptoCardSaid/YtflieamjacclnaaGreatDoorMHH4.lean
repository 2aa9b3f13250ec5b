/- Texts put together. -/
import Derived.Test.YtflieamjacclnaaGreatDoorMHH3
import Derived.Laws.BytesArg
set_option linter.unusedVariables false
set_option linter.unusedSimpArgs false
namespace Go.Proofs.YtflieamjacclnaaGreatDoor
section
open Gw Go.RowKit
set_option maxHeartbeats 4000000
set_option maxRecDepth 20000
variable {A:Nat→Prop} {N:Oth} {w:World}
theorem hilbert_scope_with_st {a0:List Hyp} {s_0:SlV} {a1:ByteArray} {a2:Int} (S:St A N w w [] [fS 2 Hyp.C s_0 a0]) {r:List Hyp} (H:zdr.f a0 a1 a2=some r) :
  Calls PP zaf #[s_0.v,.string a1,.int .i64 a2] w fun e w' => ∃ v,e = .returned v∧(∃ so0:SlV,v=so0.v∧St A N w w' [oS xN 2 Hyp.C so0 r] []):=by
 unfold zdr.f at H
 refine zz (n:=13) fn_hilbert_scope_with rfl rfl zcc (zd (za (wd (xw) (zb (zd (za (wd (zA rfl) (wd (xl rfl) (wd (zg rfl) (wd (yi bu_Hyp (Bld.one rfl rfl (by rw [Hyp.len]; decide) (Hyp.set_name _ _) (Bld.one rfl rfl (by rw [Hyp.len]; decide) (Hyp.set_form _ _) Bld.nil))) ?_))))))))))
 refine xD (C:=Hyp.C) (l:=[(⟨a1,a2⟩ : Hyp)]) (vs:=[.agg (Hyp.C (⟨a1,a2⟩ : Hyp)).toArray]) yk el_Hyp.zero rfl rfl (fun a _=>Hyp.len a) zca rfl zca fun b2 w1 s3 hBw1 hw1=>?_
 replace S:=S.lit hBw1 hw1 zcc
 obtain ⟨r4,er4,H⟩ := zr H
 obtain ⟨B6,MB6,SB6,back⟩ := S.calln 0 ((.z 0 rfl (.s 0 rfl .nil)))
 refine zu (zq zbj) zca (zbn SB6 er4) ?_
 rintro _ w5 ⟨s7,rfl,S2⟩
 replace S:=back _ _ _ _ S2 rfl
 clear back S2 SB6
 refine wd (xP rfl) (zb (zx ?_))
 refine ⟨_,(zS (zf rfl)),?_⟩
 replace S:=S.arr [0] []
 obtain rfl:=zce H
 exact ⟨s7,rfl,S⟩
theorem jf {a0:PMaker} {a_0:Option Addr} {g_0_1:Option Addr} {a1:List Ln} {s_1:SlV} {a2:Int} (S:St A N w w [oK a_0 g_0_1 a0] [fS 4 Ln.C s_1 a1]) {r:PMaker × Int} (H:zds.f a0 a1 a2=some r) :
  Calls PP zay #[.pointer a_0,s_1.v,.int .i64 a2] w fun e w' => ∃ v,e = .returned v∧(v = .int .i64 r.2∧St A N w w' [oK a_0 g_0_1 r.1] []):=by
 unfold zds.f at H
 refine zz (n:=58) fn_hilbert_maker_add rfl rfl zcc (zd (za (wd (zh rfl) (zb (zd (zd (za (wd (zk rfl) ?_))))))))
 obtain ⟨p1,s3,hp2,S⟩ := S.open_oK 0
 replace S:=S
 refine wd (zC (congrArg Value.pointer hp2)) (wd (ze x9 rfl (o':=2) rfl) (wd (zl xX rfl ((S.blk 0).cell (Maker.get_bad _))) (wd (zU rfl rfl) ?_)))
 replace S:=((S.front 2).front 2).front 2
 replace S:=S.shut_oK hp2
 refine zb ?_
 obtain ⟨o4,e4,Ho4⟩ := zr H
 replace H:=e4; clear e4
 refine x6 [15,16,17,18] (fun fr W=>St A N w W [oK a_0 g_0_1 o4] [fS 4 Ln.C s_1 a1]) ?_ ?_
 ·refine zG rfl (fun hc5=>?_) (fun hc5=>?_)
  ·replace H:=if_t hc5 H
   refine za (wd (zk rfl) (wd (zg rfl) ?_))
   obtain ⟨p6,s8,hp7,S⟩ := S.open_oK 0
   replace S:=S
   refine wd (zC (congrArg Value.pointer hp7)) (wd (ze x9 rfl (o':=2) rfl) ?_)
   refine yI xX rfl rfl (S.blk 0) (by rw [Maker.len]; decide) rfl (Maker.set_bad _ _) fun w9 B hw9 zw9=>?_
   replace S:=S.store 0 B hw9
   clear B
   replace S:=((S.front 2).front 2).front 2
   replace S:=S.shut_oK hp7
   refine zb ?_
   obtain rfl:=zce H
   exact ⟨rfl,(((((Dif.refl _ _).upd rfl _).upd rfl _).upd rfl _).upd rfl _),S⟩
  ·replace H:=if_f hc5 H
   refine zB ?_
   obtain rfl:=zce H
   exact ⟨rfl,(Dif.refl _ _),S⟩
 rintro g10 u11 S
 have H:=Ho4
 refine zd (za (wd (zk rfl) ?_))
 obtain ⟨p12,s14,hp13,S⟩ := S.open_oK 0
 replace S:=S
 refine wd (zC (congrArg Value.pointer hp13)) (wd (ze vW rfl (o':=1) rfl) (wd (zl yB rfl ((S.blk 0).cell (Maker.get_l _))) (wd (xg zW rfl (S.rdO 2)) (wd (zh rfl) ?_))))
 replace S:=((S.front 2).front 2).front 2
 replace S:=S.shut_oK hp13
 refine zb (zd (zd (za (wd (zA rfl) (wd (xg zW rfl (S.rd 0)) (wd (zg rfl) (zb ?_)))))))
 obtain ⟨o15,e15,Ho15⟩ := zr H
 clear H
 refine x6 [9,26,27,28,29,30,31,32,33,34,35,36,37,38,39,40,41,42,43,44,45,46,47,48,49,50,51] (fun fr W => ∃ s15:PMaker,o15 = .inl s15∧St A N w W [oK a_0 g_0_1 s15] [fS 4 Ln.C s_1 a1]) ?_ ?_
 ·refine zP ?_
  refine xY (α:=Nat × Int × PMaker) [9,26,27,28,29,30,31,32,33,34,35,36,37,38,39,40,41,42,43,44,45,46,47,48,49,50,51] (fun x fr W=>(x.1:Int)=(a1.length:Int) - x.2.1∧0 ≤ x.2.1∧forN (fun i s=>zds.b0 a1 o4 i s) x.1 x.2.1 x.2.2=some o15∧fr 26 = .int .i64 x.2.1∧St A N w W [oK a_0 g_0_1 (x.2.2)] [fS 4 Ln.C s_1 a1]) (fun x=>x.1) (((a1.length:Int) - 0).toNat,0,o4) ⟨(by dsimp only; have hle:=Int.natCast_nonneg (a1.length); omega),(Int.le_refl _),(by dsimp only; exact e15),rfl,S⟩ ?_
  rintro ⟨m15,i15,x15_0⟩ g15 u15 ⟨hm15,hl15,e15,q15_i,S⟩
  try dsimp only at hm15
  try dsimp only at hl15
  try dsimp only at e15
  try dsimp only at S
  try dsimp only at q15_i
  refine zd (za (wd (xQ q15_i rfl) (zb (zd ?_))))
  refine zG rfl (fun hc16=>?_) (fun hc16=>?_)
  rotate_left
  ·refine yn ?_
   have hge:(a1.length:Int) ≤ i15:=Int.not_lt.1 (of_decide_eq_false hc16)
   obtain rfl:m15=0:=by omega
   replace e15:=zaZ e15
   exact ⟨rfl,((Dif.self _ _ _).upd rfl _),x15_0,e15,S⟩
  refine zB ?_
  have hlt15:i15 < (a1.length:Int):=of_decide_eq_true hc16
  obtain ⟨m15,rfl⟩ : ∃ m,m15=m + 1:=⟨m15 - 1,by omega⟩
  obtain ⟨q15,H,e15⟩ := zba e15
  unfold zds.b0 at H
  try dsimp only at H
  have hb15:=(S.len 0)
  refine zd ?_
  refine zP (zd (za (wd (xa zW rfl q15_i (S.rd 0) (And.intro (show 0 ≤ i15 by omega) (show i15 < (a1.length:Int) from hlt15)).1 (And.intro (show 0 ≤ i15 by omega) (show i15 < (a1.length:Int) from hlt15)).2) (wd (zm zaA rfl ((S.rd 0).at (ym Ln.z (And.intro (show 0 ≤ i15 by omega) (show i15 < (a1.length:Int) from hlt15)))) (Ln.len _)) ?_))))
  refine xd ze_Ln zca fun b19 w18 hw18=>?_
  replace S:=S.new hw18
  refine zI zaA rfl rfl (S.blk 0) (Ln.len _) (by rw [Ln.len]; decide) (Ln.one _) (zT (Ln.len _)) fun w20 B hw20 zw20=>?_
  replace S:=S.store 0 B hw20
  clear B
  refine zb (zd (zd (za (wd (zk rfl) ?_))))
  obtain ⟨p21,s23,hp22,S⟩ := S.open_oK 1
  replace S:=S
  refine wd (zC (congrArg Value.pointer hp22)) (wd (ze x9 rfl (o':=2) rfl) (wd (zl xX rfl ((S.blk 0).cell (Maker.get_bad _))) (wd (xm rfl rfl) ?_)))
  replace S:=((S.front 2).front 2).front 2
  replace S:=S.shut_oK hp22
  refine zb ?_
  refine zG rfl (fun hc24=>?_) (fun hc24=>?_)
  ·replace H:=if_t hc24 H
   refine yn ?_
   replace S:=S.arr [0] [0]
   obtain rfl:=zce H
   exact ⟨rfl,((((((((((Dif.self _ _ _).upd rfl _).upd rfl _).upd rfl _).upd rfl _).upd rfl _).upd rfl _).upd rfl _).upd rfl _).upd rfl _),x15_0,e15,S⟩
  replace H:=if_f hc24 H
  refine zB (zd (zd (za (wd (ze jR rfl (o':=0) rfl) (wd (zl y4 rfl ((S.blk 1).cell (Ln.get_kind _))) (wd (zU rfl rfl) (zb ?_)))))))
  refine zG rfl (fun hc25=>?_) (fun hc25=>?_)
  ·replace H:=if_t hc25 H
   refine za (wd (ze zbu rfl (o':=2) rfl) (wd (zl zR rfl ((S.blk 1).cell (Ln.get_a _))) (wd (zg rfl) (wd (ki rfl rfl) (wd (ze kV rfl (o':=3) rfl) (wd (zl zR rfl ((S.blk 1).cell (Ln.get_b _))) (wd (zg rfl) (wd (ki rfl rfl) (wd (ze zbu rfl (o':=2) rfl) ?_)))))))))
   refine yI zR rfl rfl (S.blk 1) (by rw [Ln.len]; decide) rfl (Ln.set_a _ _) fun w26 B hw26 zw26=>?_
   replace S:=S.store 1 B hw26
   clear B
   refine wd (ze kV rfl (o':=3) rfl) ?_
   refine yI zR rfl rfl (S.blk 0) (by rw [Ln.len]; decide) rfl (Ln.set_b _ _) fun w27 B hw27 zw27=>?_
   replace S:=S.store 0 B hw27
   clear B
   refine zb (za (wd (zk rfl) (wd (zm zaA rfl ((S.blk 0).all _ (Ln.len _)) (Ln.len _)) ?_)))
   obtain ⟨r28,er28,H⟩ := zr H
   replace S:=S.front 1
   obtain ⟨B30,MB30,SB30,back⟩ := S.calln 1 ((.nil))
   refine zu (zq vc) zca (vd SB30 er28) ?_
   rintro _ w29 ⟨rfl,S2⟩
   replace S:=back _ _ _ _ S2 rfl
   clear back S2 SB30
   refine zb (za (wd (xK q15_i rfl (c:=i15 + 1) rfl zcb zcb) (wd (zg rfl) (zb ?_))))
   replace S:=S.arr [0] [0]
   obtain rfl:=zce H
   exact ⟨rfl,(by repeat first | exact Dif.refl _ _ | exact Dif.self _ _ _ | refine Dif.upd ?_ rfl _ | refine Dif.mask ?_ rfl _),(m15,i15 + 1,r28.1),⟨(by dsimp only; omega),(by dsimp only; omega),e15,rfl,S⟩,by dsimp only; omega⟩
  ·replace H:=if_f hc25 H
   refine zB (za (wd (zk rfl) (wd (zm zaA rfl ((S.blk 1).all _ (Ln.len _)) (Ln.len _)) ?_)))
   obtain ⟨r31,er31,H⟩ := zr H
   obtain ⟨B33,MB33,SB33,back⟩ := S.calln 1 ((.nil))
   refine zu (zq vc) zca (vd SB33 er31) ?_
   rintro _ w32 ⟨rfl,S2⟩
   replace S:=back _ _ _ _ S2 rfl
   clear back S2 SB33
   refine zb (za (wd (xK q15_i rfl (c:=i15 + 1) rfl zcb zcb) (wd (zg rfl) (zb ?_))))
   replace S:=S.arr [0] [0]
   obtain rfl:=zce H
   exact ⟨rfl,(by repeat first | exact Dif.refl _ _ | exact Dif.self _ _ _ | refine Dif.upd ?_ rfl _ | refine Dif.mask ?_ rfl _),(m15,i15 + 1,r31.1),⟨(by dsimp only; omega),(by dsimp only; omega),e15,rfl,S⟩,by dsimp only; omega⟩
 rintro g34 u35 ⟨s15,rfl,S⟩
 have H:=Ho15
 dsimp only [aft] at H
 refine zd (za (wd (zk rfl) ?_))
 obtain ⟨p36,s38,hp37,S⟩ := S.open_oK 0
 replace S:=S
 refine wd (zC (congrArg Value.pointer hp37)) (wd (ze vW rfl (o':=1) rfl) (wd (zl yB rfl ((S.blk 0).cell (Maker.get_l _))) (wd (xg zW rfl (S.rdO 2)) (wd (jD rfl rfl) (wd (zh rfl) ?_)))))
 replace S:=((S.front 2).front 2).front 2
 replace S:=S.shut_oK hp37
 refine zb (zx ?_)
 refine ⟨_,(zS (zf rfl)),?_⟩
 replace S:=S.arr [0] []
 obtain rfl:=zce H
 exact ⟨rfl,S⟩
theorem yj {zdZ:Tb→List Hyp→PTerm→Int→Option (Tb × List Ln × Int)} (zdR : ∀ {A:Nat→Prop} {N:Oth} {w:World} {a0:Tb} {a_0:Option Addr} {a1:List Hyp} {s_1:SlV} {a2:PTerm} {s_2:SlV} {a3:Int} (S:St A N w w [oT a_0 a0] [fS 2 Hyp.C s_1 a1,zn s_2 a2.sub,oEt]) {r:Tb × List Ln × Int} (H:zdZ a0 a1 a2 a3=some r),Calls PP yy #[.pointer a_0,s_1.v,.agg (Term.C (⟨a2.kind,a2.name,a2.other,a2.form,s_2⟩ : Term)).toArray,.int .i64 a3] w fun e w' => ∃ v,e = .returned v∧(∃ so0:SlV,v = .tuple #[so0.v,.int .i64 r.2.2]∧St A N w w' [oT a_0 r.1,oS T_Ln 4 Ln.C so0 r.2.1] [])) {A:Nat→Prop} {N:Oth} {w:World} {a0:PMaker} {a_0:Option Addr} {g_0_1:Option Addr} {a1:List Hyp} {s_1:SlV} {a2:PTerm} {s_2:SlV} {a3:Int} (S:St A N w w [oK a_0 g_0_1 a0] [fS 2 Hyp.C s_1 a1,zn s_2 a2.sub,oEt]) {r:PMaker × Int} (H:zdt.g zdZ a0 a1 a2 a3=some r) :
  Calls PP zad #[.pointer a_0,s_1.v,.agg (Term.C (⟨a2.kind,a2.name,a2.other,a2.form,s_2⟩ : Term)).toArray,.int .i64 a3] w fun e w' => ∃ v,e = .returned v∧(v = .int .i64 r.2∧St A N w w' [oK a_0 g_0_1 r.1] []):=by
 unfold zdt.g at H
 refine zz (n:=26) fn_hilbert_maker_part rfl rfl zcc (zd (za ?_))
 refine zX rfl zca fun b2 w1 hw1=>?_
 replace S:=S.new hw1
 refine wd (zh rfl) (zb (zd (zd (za (wd (zk rfl) ?_)))))
 obtain ⟨p3,s5,hp4,S⟩ := S.open_oK 1
 replace S:=S
 refine wd (zC (congrArg Value.pointer hp4)) (wd (ze x9 rfl (o':=2) rfl) (wd (zl xX rfl ((S.blk 0).cell (Maker.get_bad _))) (wd (xm rfl rfl) ?_)))
 replace S:=((S.front 2).front 2).front 2
 replace S:=S.shut_oK hp4
 refine zb ?_
 refine zG rfl (fun hc6=>?_) (fun hc6=>?_)
 ·replace H:=if_t hc6 H
  refine zd (za (wd (zh rfl) (zb (zx ?_))))
  refine ⟨_,(zS (zf rfl)),?_⟩
  replace S:=S.arr [0] []
  obtain rfl:=zce H
  exact ⟨rfl,S⟩
 replace H:=if_f hc6 H
 refine zB (zd ?_)
 obtain ⟨p7,s9,hp8,S⟩ := S.open_oK 0
 replace S:=S
 obtain ⟨r10,er10,H⟩ := zr H
 refine un 11 ⟨fun _ _=>True,fun _ _ _=>True,fun i v _=>match i with
  | 0=>v=Value.pointer a_0
  | 1=>v=Value.pointer a_0
  | 2=>v=Value.pointer (some ⟨p7,0,none⟩)
  | 3=>v=Value.pointer (some ⟨p7,0,none⟩)
  | 4=>v=Value.pointer g_0_1
  | 5=>v=s_1.v
  | 6=>v=Value.agg (Term.C (⟨a2.kind,a2.name,a2.other,a2.form,s_2⟩ : Term)).toArray
  | 7=>v=Value.int .i64 a3
  | 10=>v=Value.int .i64 r10.2.2
  | _=>True⟩ (fun L g v=>bif L 8 then (∃ (s13:SlV),(L 8=true→g 22=Value.tuple #[s13.v,.int .i64 r10.2.2])∧(L 9=true→g 23=s13.v)∧St A N w v [oT g_0_1 r10.1,oS T_Ln 4 Ln.C s13 r10.2.1,oB p7 xv (Maker.C (⟨g_0_1,s9,a0.bad⟩ : Maker)),oS T_Ln 4 Ln.C s9 a0.l,oB b2 zj (Term.C (⟨a2.kind,a2.name,a2.other,a2.form,s_2⟩ : Term))] [fS 2 Hyp.C s_1 a1,zn s_2 a2.sub,oEt]) else (St A N w v [oB p7 xv (Maker.C (⟨g_0_1,s9,a0.bad⟩ : Maker)),oT g_0_1 a0.t,oS T_Ln 4 Ln.C s9 a0.l,oB b2 zj (Term.C (⟨a2.kind,a2.name,a2.other,a2.form,s_2⟩ : Term))] [fS 2 Hyp.C s_1 a1,zn s_2 a2.sub,oEt])) hmix zcd (fun _ _ _ _ _ _ _ hv=>hv) (fun g=>S.ext (Ext.drawn _)) ⟨?_,?_,?_,?_,?_,?_,?_,?_,?_,?_,?_,trivial⟩ ?_
 ·rintro L g v hL hcl hclo hT 
  cases hl8:L 8 with
  | true =>
   replace hT : ∃ (s13:SlV),(L 8=true→g 22=Value.tuple #[s13.v,.int .i64 r10.2.2])∧(L 9=true→g 23=s13.v)∧St A N w v [oT g_0_1 r10.1,oS T_Ln 4 Ln.C s13 r10.2.1,oB p7 xv (Maker.C (⟨g_0_1,s9,a0.bad⟩ : Maker)),oS T_Ln 4 Ln.C s9 a0.l,oB b2 zj (Term.C (⟨a2.kind,a2.name,a2.other,a2.form,s_2⟩ : Term))] [fS 2 Hyp.C s_1 a1,zn s_2 a2.sub,oEt]:=by simp only [hl8,cond_true,cond_false] at hT ⊢; exact hT
   obtain ⟨s13,he8,he9,S⟩ := hT
   refine wd (zk rfl) ?_
   have hT2 : ∃ (s13':SlV),((plus L 0) 8=true→(upd g 14 (Value.pointer a_0)) 22=Value.tuple #[s13'.v,.int .i64 r10.2.2])∧((plus L 0) 9=true→(upd g 14 (Value.pointer a_0)) 23=s13'.v)∧St A N w v [oT g_0_1 r10.1,oS T_Ln 4 Ln.C s13' r10.2.1,oB p7 xv (Maker.C (⟨g_0_1,s9,a0.bad⟩ : Maker)),oS T_Ln 4 Ln.C s9 a0.l,oB b2 zj (Term.C (⟨a2.kind,a2.name,a2.other,a2.form,s_2⟩ : Term))] [fS 2 Hyp.C s_1 a1,zn s_2 a2.sub,oEt]:=⟨s13,fun h=>by rw [zF _ _ _ _ zca]; exact he8 (by rw [zp rfl] at h; exact h),fun h=>by rw [zF _ _ _ _ zca]; exact he9 (by rw [zp rfl] at h; exact h),S⟩
   exact zb (ob4 trivial rfl (by simp only [zp (L:=L) (i:=0) (j:=8) rfl,hl8,cond_true,cond_false] at hT2 ⊢; exact hT2))
  | false =>
   simp only [hl8,cond_true,cond_false] at hT
   replace S:=hT
   refine wd (zk rfl) ?_
   exact zb (ob4 trivial rfl (by simp only [zp (L:=L) (i:=0) (j:=8) rfl,hl8,cond_true,cond_false]; exact S))
 ·rintro L g v hL hcl hclo hT 
  have hl8:L 8=false:=by cases h:L 8 with | false=>rfl | true=>exact absurd (hclo 8 1 h zcd) (by rw [hL]; decide)
  simp only [hl8,cond_true,cond_false] at hT
  replace S:=hT
  refine wd (zk rfl) ?_
  exact zb (ob4 trivial rfl (by simp only [zp (L:=L) (i:=1) (j:=8) rfl,hl8,cond_true,cond_false]; exact S))
 ·rintro L g v hL hcl hclo hT hv1
  have hl8:L 8=false:=by cases h:L 8 with | false=>rfl | true=>exact absurd (hclo 8 2 h zcd) (by rw [hL]; decide)
  simp only [hl8,cond_true,cond_false] at hT
  replace S:=hT
  refine wd (zC ((hv1:_=Value.pointer a_0).trans (congrArg Value.pointer hp8))) ?_
  exact zb (ob4 trivial rfl (by simp only [zp (L:=L) (i:=2) (j:=8) rfl,hl8,cond_true,cond_false]; exact S))
 ·rintro L g v hL hcl hclo hT hv2
  have hl8:L 8=false:=by cases h:L 8 with | false=>rfl | true=>exact absurd (hclo 8 3 h zcd) (by rw [hL]; decide)
  simp only [hl8,cond_true,cond_false] at hT
  replace S:=hT
  refine wd (ze jb hv2 (o':=0) rfl) ?_
  exact zb (ob4 trivial rfl (by simp only [zp (L:=L) (i:=3) (j:=8) rfl,hl8,cond_true,cond_false]; exact S))
 ·rintro L g v hL hcl hclo hT hv3
  have hl8:L 8=false:=by cases h:L 8 with | false=>rfl | true=>exact absurd (hclo 8 4 h zcd) (by rw [hL]; decide)
  simp only [hl8,cond_true,cond_false] at hT
  replace S:=hT
  refine wd (zl xA hv3 ((S.blk 0).cell (Maker.get_t _))) ?_
  exact zb (ob4 trivial rfl (by simp only [zp (L:=L) (i:=4) (j:=8) rfl,hl8,cond_true,cond_false]; exact S))
 ·rintro L g v hL hcl hclo hT 
  have hl8:L 8=false:=by cases h:L 8 with | false=>rfl | true=>exact absurd (hclo 8 5 h zcd) (by rw [hL]; decide)
  simp only [hl8,cond_true,cond_false] at hT
  replace S:=hT
  refine wd (zA rfl) ?_
  exact zb (ob4 trivial rfl (by simp only [zp (L:=L) (i:=5) (j:=8) rfl,hl8,cond_true,cond_false]; exact S))
 ·rintro L g v hL hcl hclo hT 
  have hl8:L 8=false:=by cases h:L 8 with | false=>rfl | true=>exact absurd (hclo 8 6 h zcd) (by rw [hL]; decide)
  simp only [hl8,cond_true,cond_false] at hT
  replace S:=hT
  refine wd (zm zD rfl ((S.blk 3).all _ (Term.len _)) (Term.len _)) ?_
  exact zb (ob4 trivial rfl (by simp only [zp (L:=L) (i:=6) (j:=8) rfl,hl8,cond_true,cond_false]; exact S))
 ·rintro L g v hL hcl hclo hT 
  have hl8:L 8=false:=by cases h:L 8 with | false=>rfl | true=>exact absurd (hclo 8 7 h zcd) (by rw [hL]; decide)
  simp only [hl8,cond_true,cond_false] at hT
  replace S:=hT
  refine wd (zg rfl) ?_
  exact zb (ob4 trivial rfl (by simp only [zp (L:=L) (i:=7) (j:=8) rfl,hl8,cond_true,cond_false]; exact S))
 ·rintro L g v hL hcl hclo hT hv4 hv5 hv6 hv7
  have hl8:L 8=false:=hL
  simp only [hl8,cond_true,cond_false] at hT
  replace S:=hT
  replace S:=S.front 1
  obtain ⟨B16,MB16,SB16,back⟩ := S.calln 1 ((.z 0 rfl (.z 1 rfl (.z 2 rfl .nil))))
  refine zu (zK jN (zM hv4 (zM hv5 (zM hv6 (zM hv7 rfl))))) zca (zdR (a2:=a2) SB16 er10) ?_
  rintro _ w15 ⟨s13,rfl,S2⟩
  replace S:=back _ _ _ _ S2 rfl
  clear back S2 SB16
  have hT2 : ∃ (s13':SlV),((plus L 8) 8=true→(upd g 22 (Value.tuple #[s13.v,.int .i64 r10.2.2])) 22=Value.tuple #[s13'.v,.int .i64 r10.2.2])∧((plus L 8) 9=true→(upd g 22 (Value.tuple #[s13.v,.int .i64 r10.2.2])) 23=s13'.v)∧St A N w w15 [oT g_0_1 r10.1,oS T_Ln 4 Ln.C s13' r10.2.1,oB p7 xv (Maker.C (⟨g_0_1,s9,a0.bad⟩ : Maker)),oS T_Ln 4 Ln.C s9 a0.l,oB b2 zj (Term.C (⟨a2.kind,a2.name,a2.other,a2.form,s_2⟩ : Term))] [fS 2 Hyp.C s_1 a1,zn s_2 a2.sub,oEt]:=⟨s13,fun _=>upd_same _ _ _,fun h=>absurd (hclo 9 8 (by rw [zp rfl] at h; exact h) zcd) (by rw [hL]; decide),S⟩
  exact zb (ob4 trivial trivial (by simp only [y1 (L:=L) (i:=8),cond_true,cond_false] at hT2 ⊢; exact hT2))
 ·rintro L g v hL hcl hclo hT hv8
  have hl8:L 8=true:=hcl 8 zcd
  replace hT : ∃ (s13:SlV),(L 8=true→g 22=Value.tuple #[s13.v,.int .i64 r10.2.2])∧(L 9=true→g 23=s13.v)∧St A N w v [oT g_0_1 r10.1,oS T_Ln 4 Ln.C s13 r10.2.1,oB p7 xv (Maker.C (⟨g_0_1,s9,a0.bad⟩ : Maker)),oS T_Ln 4 Ln.C s9 a0.l,oB b2 zj (Term.C (⟨a2.kind,a2.name,a2.other,a2.form,s_2⟩ : Term))] [fS 2 Hyp.C s_1 a1,zn s_2 a2.sub,oEt]:=by simp only [hl8,cond_true,cond_false] at hT ⊢; exact hT
  obtain ⟨s13,he8,he9,S⟩ := hT
  refine wd (zt (he8 (hcl 8 zcd)) rfl) ?_
  have hT2 : ∃ (s13':SlV),((plus L 9) 8=true→(upd g 23 (s13.v)) 22=Value.tuple #[s13'.v,.int .i64 r10.2.2])∧((plus L 9) 9=true→(upd g 23 (s13.v)) 23=s13'.v)∧St A N w v [oT g_0_1 r10.1,oS T_Ln 4 Ln.C s13' r10.2.1,oB p7 xv (Maker.C (⟨g_0_1,s9,a0.bad⟩ : Maker)),oS T_Ln 4 Ln.C s9 a0.l,oB b2 zj (Term.C (⟨a2.kind,a2.name,a2.other,a2.form,s_2⟩ : Term))] [fS 2 Hyp.C s_1 a1,zn s_2 a2.sub,oEt]:=⟨s13,fun h=>by rw [zF _ _ _ _ zca]; exact he8 (by rw [zp rfl] at h; exact h),fun _=>upd_same _ _ _,S⟩
  exact zb (ob4 trivial trivial (by simp only [zp (L:=L) (i:=9) (j:=8) rfl,hl8,cond_true,cond_false] at hT2 ⊢; exact hT2))
 ·rintro L g v hL hcl hclo hT hv8
  have hl8:L 8=true:=hcl 8 zcd
  replace hT : ∃ (s13:SlV),(L 8=true→g 22=Value.tuple #[s13.v,.int .i64 r10.2.2])∧(L 9=true→g 23=s13.v)∧St A N w v [oT g_0_1 r10.1,oS T_Ln 4 Ln.C s13 r10.2.1,oB p7 xv (Maker.C (⟨g_0_1,s9,a0.bad⟩ : Maker)),oS T_Ln 4 Ln.C s9 a0.l,oB b2 zj (Term.C (⟨a2.kind,a2.name,a2.other,a2.form,s_2⟩ : Term))] [fS 2 Hyp.C s_1 a1,zn s_2 a2.sub,oEt]:=by simp only [hl8,cond_true,cond_false] at hT ⊢; exact hT
  obtain ⟨s13,he8,he9,S⟩ := hT
  refine wd (zt (he8 (hcl 8 zcd)) rfl) ?_
  have hT2 : ∃ (s13':SlV),((plus L 10) 8=true→(upd g 24 (Value.int .i64 r10.2.2)) 22=Value.tuple #[s13'.v,.int .i64 r10.2.2])∧((plus L 10) 9=true→(upd g 24 (Value.int .i64 r10.2.2)) 23=s13'.v)∧St A N w v [oT g_0_1 r10.1,oS T_Ln 4 Ln.C s13' r10.2.1,oB p7 xv (Maker.C (⟨g_0_1,s9,a0.bad⟩ : Maker)),oS T_Ln 4 Ln.C s9 a0.l,oB b2 zj (Term.C (⟨a2.kind,a2.name,a2.other,a2.form,s_2⟩ : Term))] [fS 2 Hyp.C s_1 a1,zn s_2 a2.sub,oEt]:=⟨s13,fun h=>by rw [zF _ _ _ _ zca]; exact he8 (by rw [zp rfl] at h; exact h),fun h=>by rw [zF _ _ _ _ zca]; exact he9 (by rw [zp rfl] at h; exact h),S⟩
  exact zb (ob4 trivial rfl (by simp only [zp (L:=L) (i:=10) (j:=8) rfl,hl8,cond_true,cond_false] at hT2 ⊢; exact hT2))
 rintro L g w17 hLm hT hv18_0 hv18_1 hv18_2 hv18_3 hv18_4 hv18_5 hv18_6 hv18_7 _ _ hv18_10
 have hLt : ∀ j,j < 11→L j=true:=fun j hj=>by rw [hLm]; exact decide_eq_true hj
 replace hT : ∃ (s13:SlV),(L 8=true→g 22=Value.tuple #[s13.v,.int .i64 r10.2.2])∧(L 9=true→g 23=s13.v)∧St A N w w17 [oT g_0_1 r10.1,oS T_Ln 4 Ln.C s13 r10.2.1,oB p7 xv (Maker.C (⟨g_0_1,s9,a0.bad⟩ : Maker)),oS T_Ln 4 Ln.C s9 a0.l,oB b2 zj (Term.C (⟨a2.kind,a2.name,a2.other,a2.form,s_2⟩ : Term))] [fS 2 Hyp.C s_1 a1,zn s_2 a2.sub,oEt]:=by simp only [hLt 8 zca,cond_true] at hT ⊢; exact hT
 obtain ⟨s13,he8,he9,S⟩ := hT
 have hv18_8:=he8 (hLt 8 zca)
 have hv18_9:=he9 (hLt 9 zca)
 replace S:=((S.front 3).front 1).front 3
 replace S:=S.shut_oK hp8
 obtain ⟨r19,er19,H⟩ := zr H
 obtain ⟨B21,MB21,SB21,back⟩ := S.calln 1 ((.s 0 rfl .nil))
 refine zu (zK uY (zM hv18_0 (zM hv18_9 (zM hv18_10 rfl)))) zca (jf SB21 er19) ?_
 rintro _ w20 ⟨rfl,S2⟩
 replace S:=back _ _ _ _ S2 rfl
 clear back S2 SB21
 refine wd (zh rfl) (zb (zx ?_))
 refine ⟨_,(zS (zf rfl)),?_⟩
 replace S:=S.arr [0] []
 obtain rfl:=zce H
 exact ⟨rfl,S⟩
theorem vn {zdZ:Tb→List Hyp→PTerm→Int→Option (Tb × List Ln × Int)} (zdR : ∀ {A:Nat→Prop} {N:Oth} {w:World} {a0:Tb} {a_0:Option Addr} {a1:List Hyp} {s_1:SlV} {a2:PTerm} {s_2:SlV} {a3:Int} (S:St A N w w [oT a_0 a0] [fS 2 Hyp.C s_1 a1,zn s_2 a2.sub,oEt]) {r:Tb × List Ln × Int} (H:zdZ a0 a1 a2 a3=some r),Calls PP yy #[.pointer a_0,s_1.v,.agg (Term.C (⟨a2.kind,a2.name,a2.other,a2.form,s_2⟩ : Term)).toArray,.int .i64 a3] w fun e w' => ∃ v,e = .returned v∧(∃ so0:SlV,v = .tuple #[so0.v,.int .i64 r.2.2]∧St A N w w' [oT a_0 r.1,oS T_Ln 4 Ln.C so0 r.2.1] [])) {A:Nat→Prop} {N:Oth} {w:World} {a0:PMaker} {a_0:Option Addr} {g_0_1:Option Addr} {a1:List Hyp} {s_1:SlV} {a2:ByteArray} {a3:Int} {a4:PTerm} {s_4:SlV} {a5:Int} (S:St A N w w [oK a_0 g_0_1 a0] [fS 2 Hyp.C s_1 a1,zn s_4 a4.sub,oEt]) {r:PMaker × Int} (H:zdu.g zdZ a0 a1 a2 a3 a4 a5=some r) :
  Calls PP kA #[.pointer a_0,s_1.v,.string a2,.int .i64 a3,.agg (Term.C (⟨a4.kind,a4.name,a4.other,a4.form,s_4⟩ : Term)).toArray,.int .i64 a5] w fun e w' => ∃ v,e = .returned v∧(v = .int .i64 r.2∧St A N w w' [oK a_0 g_0_1 r.1] []):=by
 unfold zdu.g at H
 refine zz (n:=50) fn_hilbert_maker_under rfl rfl zcc (zd (za ?_))
 refine zX rfl zca fun b2 w1 hw1=>?_
 replace S:=S.new hw1
 refine wd (zh rfl) (zb (zd (zd (za (wd (zk rfl) ?_)))))
 obtain ⟨p3,s5,hp4,S⟩ := S.open_oK 1
 replace S:=S
 refine wd (zC (congrArg Value.pointer hp4)) (wd (ze x9 rfl (o':=2) rfl) (wd (zl xX rfl ((S.blk 0).cell (Maker.get_bad _))) (wd (xm rfl rfl) ?_)))
 replace S:=((S.front 2).front 2).front 2
 replace S:=S.shut_oK hp4
 refine zb ?_
 refine zG rfl (fun hc6=>?_) (fun hc6=>?_)
 ·replace H:=if_t hc6 H
  refine zd (za (wd (zh rfl) (zb (zx ?_))))
  refine ⟨_,(zS (zf rfl)),?_⟩
  replace S:=S.arr [0] []
  obtain rfl:=zce H
  exact ⟨rfl,S⟩
 replace H:=if_f hc6 H
 refine zB (zd ?_)
 obtain ⟨p7,s9,hp8,S⟩ := S.open_oK 0
 replace S:=S
 obtain ⟨r10,er10,H⟩ := zr H
 obtain ⟨r14,er14,H⟩ := zr H
 refine un 15 ⟨fun _ _=>True,fun _ _ _=>True,fun i v _=>match i with
  | 0=>v=Value.pointer a_0
  | 1=>v=Value.pointer (some ⟨p7,0,none⟩)
  | 2=>v=Value.pointer (some ⟨p7,0,none⟩)
  | 3=>v=Value.pointer g_0_1
  | 4=>v=s_1.v
  | 5=>v=Value.string a2
  | 6=>v=Value.int .i64 a3
  | 8=>v=Value.agg (Term.C (⟨a4.kind,a4.name,a4.other,a4.form,s_4⟩ : Term)).toArray
  | 9=>v=Value.int .i64 a5
  | 13=>v=Value.int .i64 r14.2.2
  | _=>True⟩ (fun L g v=>bif L 10 then (∃ (s13:SlV) (s17:SlV),(L 7=true→g 28=s13.v)∧(L 10=true→g 31=Value.tuple #[s17.v,.int .i64 r14.2.2])∧(L 11=true→g 20=Value.tuple #[s17.v,.int .i64 r14.2.2])∧(L 12=true→g 32=s17.v)∧(L 14=true→g 13=s17.v)∧St A N w v [oT g_0_1 r14.1,oS T_Ln 4 Ln.C s17 r14.2.1,oS xN 2 Hyp.C s13 r10,oB p7 xv (Maker.C (⟨g_0_1,s9,a0.bad⟩ : Maker)),oS T_Ln 4 Ln.C s9 a0.l,oB b2 zj (Term.C (⟨a4.kind,a4.name,a4.other,a4.form,s_4⟩ : Term))] [fS 2 Hyp.C s_1 a1,zn s_4 a4.sub,oEt]) else bif L 7 then (∃ (s13:SlV),(L 7=true→g 28=s13.v)∧St A N w v [oS xN 2 Hyp.C s13 r10,oB p7 xv (Maker.C (⟨g_0_1,s9,a0.bad⟩ : Maker)),oT g_0_1 a0.t,oS T_Ln 4 Ln.C s9 a0.l,oB b2 zj (Term.C (⟨a4.kind,a4.name,a4.other,a4.form,s_4⟩ : Term))] [fS 2 Hyp.C s_1 a1,zn s_4 a4.sub,oEt]) else (St A N w v [oB p7 xv (Maker.C (⟨g_0_1,s9,a0.bad⟩ : Maker)),oT g_0_1 a0.t,oS T_Ln 4 Ln.C s9 a0.l,oB b2 zj (Term.C (⟨a4.kind,a4.name,a4.other,a4.form,s_4⟩ : Term))] [fS 2 Hyp.C s_1 a1,zn s_4 a4.sub,oEt])) hmix zcd (fun _ _ _ _ _ _ _ hv=>hv) (fun g=>S.ext (Ext.drawn _)) ⟨?_,?_,?_,?_,?_,?_,?_,?_,?_,?_,?_,?_,?_,?_,?_,trivial⟩ ?_
 ·rintro L g v hL hcl hclo hT 
  have hl10:L 10=false:=by cases h:L 10 with | false=>rfl | true=>exact absurd (hclo 10 0 h zcd) (by rw [hL]; decide)
  cases hl7:L 7 with
  | true =>
   replace hT : ∃ (s13:SlV),(L 7=true→g 28=s13.v)∧St A N w v [oS xN 2 Hyp.C s13 r10,oB p7 xv (Maker.C (⟨g_0_1,s9,a0.bad⟩ : Maker)),oT g_0_1 a0.t,oS T_Ln 4 Ln.C s9 a0.l,oB b2 zj (Term.C (⟨a4.kind,a4.name,a4.other,a4.form,s_4⟩ : Term))] [fS 2 Hyp.C s_1 a1,zn s_4 a4.sub,oEt]:=by simp only [hl7,hl10,cond_true,cond_false] at hT ⊢; exact hT
   obtain ⟨s13,he7,S⟩ := hT
   refine wd (zk rfl) ?_
   have hT2 : ∃ (s13':SlV),((plus L 0) 7=true→(upd g 21 (Value.pointer a_0)) 28=s13'.v)∧St A N w v [oS xN 2 Hyp.C s13' r10,oB p7 xv (Maker.C (⟨g_0_1,s9,a0.bad⟩ : Maker)),oT g_0_1 a0.t,oS T_Ln 4 Ln.C s9 a0.l,oB b2 zj (Term.C (⟨a4.kind,a4.name,a4.other,a4.form,s_4⟩ : Term))] [fS 2 Hyp.C s_1 a1,zn s_4 a4.sub,oEt]:=⟨s13,fun h=>by rw [zF _ _ _ _ zca]; exact he7 (by rw [zp rfl] at h; exact h),S⟩
   exact zb (ob4 trivial rfl (by simp only [zp (L:=L) (i:=0) (j:=7) rfl,zp (L:=L) (i:=0) (j:=10) rfl,hl7,hl10,cond_true,cond_false] at hT2 ⊢; exact hT2))
  | false =>
   simp only [hl7,hl10,cond_true,cond_false] at hT
   replace S:=hT
   refine wd (zk rfl) ?_
   exact zb (ob4 trivial rfl (by simp only [zp (L:=L) (i:=0) (j:=7) rfl,zp (L:=L) (i:=0) (j:=10) rfl,hl7,hl10,cond_true,cond_false]; exact S))
 ·rintro L g v hL hcl hclo hT hv0
  have hl10:L 10=false:=by cases h:L 10 with | false=>rfl | true=>exact absurd (hclo 10 1 h zcd) (by rw [hL]; decide)
  cases hl7:L 7 with
  | true =>
   replace hT : ∃ (s13:SlV),(L 7=true→g 28=s13.v)∧St A N w v [oS xN 2 Hyp.C s13 r10,oB p7 xv (Maker.C (⟨g_0_1,s9,a0.bad⟩ : Maker)),oT g_0_1 a0.t,oS T_Ln 4 Ln.C s9 a0.l,oB b2 zj (Term.C (⟨a4.kind,a4.name,a4.other,a4.form,s_4⟩ : Term))] [fS 2 Hyp.C s_1 a1,zn s_4 a4.sub,oEt]:=by simp only [hl7,hl10,cond_true,cond_false] at hT ⊢; exact hT
   obtain ⟨s13,he7,S⟩ := hT
   refine wd (zC ((hv0:_=Value.pointer a_0).trans (congrArg Value.pointer hp8))) ?_
   have hT2 : ∃ (s13':SlV),((plus L 1) 7=true→(upd g 22 (Value.pointer (some ⟨p7,0,none⟩))) 28=s13'.v)∧St A N w v [oS xN 2 Hyp.C s13' r10,oB p7 xv (Maker.C (⟨g_0_1,s9,a0.bad⟩ : Maker)),oT g_0_1 a0.t,oS T_Ln 4 Ln.C s9 a0.l,oB b2 zj (Term.C (⟨a4.kind,a4.name,a4.other,a4.form,s_4⟩ : Term))] [fS 2 Hyp.C s_1 a1,zn s_4 a4.sub,oEt]:=⟨s13,fun h=>by rw [zF _ _ _ _ zca]; exact he7 (by rw [zp rfl] at h; exact h),S⟩
   exact zb (ob4 trivial rfl (by simp only [zp (L:=L) (i:=1) (j:=7) rfl,zp (L:=L) (i:=1) (j:=10) rfl,hl7,hl10,cond_true,cond_false] at hT2 ⊢; exact hT2))
  | false =>
   simp only [hl7,hl10,cond_true,cond_false] at hT
   replace S:=hT
   refine wd (zC ((hv0:_=Value.pointer a_0).trans (congrArg Value.pointer hp8))) ?_
   exact zb (ob4 trivial rfl (by simp only [zp (L:=L) (i:=1) (j:=7) rfl,zp (L:=L) (i:=1) (j:=10) rfl,hl7,hl10,cond_true,cond_false]; exact S))
 ·rintro L g v hL hcl hclo hT hv1
  have hl10:L 10=false:=by cases h:L 10 with | false=>rfl | true=>exact absurd (hclo 10 2 h zcd) (by rw [hL]; decide)
  cases hl7:L 7 with
  | true =>
   replace hT : ∃ (s13:SlV),(L 7=true→g 28=s13.v)∧St A N w v [oS xN 2 Hyp.C s13 r10,oB p7 xv (Maker.C (⟨g_0_1,s9,a0.bad⟩ : Maker)),oT g_0_1 a0.t,oS T_Ln 4 Ln.C s9 a0.l,oB b2 zj (Term.C (⟨a4.kind,a4.name,a4.other,a4.form,s_4⟩ : Term))] [fS 2 Hyp.C s_1 a1,zn s_4 a4.sub,oEt]:=by simp only [hl7,hl10,cond_true,cond_false] at hT ⊢; exact hT
   obtain ⟨s13,he7,S⟩ := hT
   refine wd (ze jb hv1 (o':=0) rfl) ?_
   have hT2 : ∃ (s13':SlV),((plus L 2) 7=true→(upd g 23 (Value.pointer (some ⟨p7,0,none⟩))) 28=s13'.v)∧St A N w v [oS xN 2 Hyp.C s13' r10,oB p7 xv (Maker.C (⟨g_0_1,s9,a0.bad⟩ : Maker)),oT g_0_1 a0.t,oS T_Ln 4 Ln.C s9 a0.l,oB b2 zj (Term.C (⟨a4.kind,a4.name,a4.other,a4.form,s_4⟩ : Term))] [fS 2 Hyp.C s_1 a1,zn s_4 a4.sub,oEt]:=⟨s13,fun h=>by rw [zF _ _ _ _ zca]; exact he7 (by rw [zp rfl] at h; exact h),S⟩
   exact zb (ob4 trivial rfl (by simp only [zp (L:=L) (i:=2) (j:=7) rfl,zp (L:=L) (i:=2) (j:=10) rfl,hl7,hl10,cond_true,cond_false] at hT2 ⊢; exact hT2))
  | false =>
   simp only [hl7,hl10,cond_true,cond_false] at hT
   replace S:=hT
   refine wd (ze jb hv1 (o':=0) rfl) ?_
   exact zb (ob4 trivial rfl (by simp only [zp (L:=L) (i:=2) (j:=7) rfl,zp (L:=L) (i:=2) (j:=10) rfl,hl7,hl10,cond_true,cond_false]; exact S))
 ·rintro L g v hL hcl hclo hT hv2
  have hl10:L 10=false:=by cases h:L 10 with | false=>rfl | true=>exact absurd (hclo 10 3 h zcd) (by rw [hL]; decide)
  cases hl7:L 7 with
  | true =>
   replace hT : ∃ (s13:SlV),(L 7=true→g 28=s13.v)∧St A N w v [oS xN 2 Hyp.C s13 r10,oB p7 xv (Maker.C (⟨g_0_1,s9,a0.bad⟩ : Maker)),oT g_0_1 a0.t,oS T_Ln 4 Ln.C s9 a0.l,oB b2 zj (Term.C (⟨a4.kind,a4.name,a4.other,a4.form,s_4⟩ : Term))] [fS 2 Hyp.C s_1 a1,zn s_4 a4.sub,oEt]:=by simp only [hl7,hl10,cond_true,cond_false] at hT ⊢; exact hT
   obtain ⟨s13,he7,S⟩ := hT
   refine wd (zl xA hv2 ((S.blk 1).cell (Maker.get_t _))) ?_
   have hT2 : ∃ (s13':SlV),((plus L 3) 7=true→(upd g 24 (Value.pointer g_0_1)) 28=s13'.v)∧St A N w v [oS xN 2 Hyp.C s13' r10,oB p7 xv (Maker.C (⟨g_0_1,s9,a0.bad⟩ : Maker)),oT g_0_1 a0.t,oS T_Ln 4 Ln.C s9 a0.l,oB b2 zj (Term.C (⟨a4.kind,a4.name,a4.other,a4.form,s_4⟩ : Term))] [fS 2 Hyp.C s_1 a1,zn s_4 a4.sub,oEt]:=⟨s13,fun h=>by rw [zF _ _ _ _ zca]; exact he7 (by rw [zp rfl] at h; exact h),S⟩
   exact zb (ob4 trivial rfl (by simp only [zp (L:=L) (i:=3) (j:=7) rfl,zp (L:=L) (i:=3) (j:=10) rfl,hl7,hl10,cond_true,cond_false] at hT2 ⊢; exact hT2))
  | false =>
   simp only [hl7,hl10,cond_true,cond_false] at hT
   replace S:=hT
   refine wd (zl xA hv2 ((S.blk 0).cell (Maker.get_t _))) ?_
   exact zb (ob4 trivial rfl (by simp only [zp (L:=L) (i:=3) (j:=7) rfl,zp (L:=L) (i:=3) (j:=10) rfl,hl7,hl10,cond_true,cond_false]; exact S))
 ·rintro L g v hL hcl hclo hT 
  have hl7:L 7=false:=by cases h:L 7 with | false=>rfl | true=>exact absurd (hclo 7 4 h zcd) (by rw [hL]; decide)
  have hl10:L 10=false:=by cases h:L 10 with | false=>rfl | true=>exact absurd (hclo 10 4 h zcd) (by rw [hL]; decide)
  simp only [hl7,hl10,cond_true,cond_false] at hT
  replace S:=hT
  refine wd (zA rfl) ?_
  exact zb (ob4 trivial rfl (by simp only [zp (L:=L) (i:=4) (j:=7) rfl,zp (L:=L) (i:=4) (j:=10) rfl,hl7,hl10,cond_true,cond_false]; exact S))
 ·rintro L g v hL hcl hclo hT 
  have hl7:L 7=false:=by cases h:L 7 with | false=>rfl | true=>exact absurd (hclo 7 5 h zcd) (by rw [hL]; decide)
  have hl10:L 10=false:=by cases h:L 10 with | false=>rfl | true=>exact absurd (hclo 10 5 h zcd) (by rw [hL]; decide)
  simp only [hl7,hl10,cond_true,cond_false] at hT
  replace S:=hT
  refine wd (xl rfl) ?_
  exact zb (ob4 trivial rfl (by simp only [zp (L:=L) (i:=5) (j:=7) rfl,zp (L:=L) (i:=5) (j:=10) rfl,hl7,hl10,cond_true,cond_false]; exact S))
 ·rintro L g v hL hcl hclo hT 
  have hl7:L 7=false:=by cases h:L 7 with | false=>rfl | true=>exact absurd (hclo 7 6 h zcd) (by rw [hL]; decide)
  have hl10:L 10=false:=by cases h:L 10 with | false=>rfl | true=>exact absurd (hclo 10 6 h zcd) (by rw [hL]; decide)
  simp only [hl7,hl10,cond_true,cond_false] at hT
  replace S:=hT
  refine wd (zg rfl) ?_
  exact zb (ob4 trivial rfl (by simp only [zp (L:=L) (i:=6) (j:=7) rfl,zp (L:=L) (i:=6) (j:=10) rfl,hl7,hl10,cond_true,cond_false]; exact S))
 ·rintro L g v hL hcl hclo hT hv4 hv5 hv6
  have hl7:L 7=false:=hL
  have hl10:L 10=false:=by cases h:L 10 with | false=>rfl | true=>exact absurd (hclo 10 7 h zcd) (by rw [hL]; decide)
  simp only [hl7,hl10,cond_true,cond_false] at hT
  replace S:=hT
  obtain ⟨B20,MB20,SB20,back⟩ := S.calln 0 ((.z 0 rfl .nil))
  refine zu (zK ca_hilbert_scope_with (zM hv4 (zM hv5 (zM hv6 rfl)))) zca (hilbert_scope_with_st SB20 er10) ?_
  rintro _ w19 ⟨s13,rfl,S2⟩
  replace S:=back _ _ _ _ S2 rfl
  clear back S2 SB20
  have hT2 : ∃ (s13':SlV),((plus L 7) 7=true→(upd g 28 (s13.v)) 28=s13'.v)∧St A N w w19 [oS xN 2 Hyp.C s13' r10,oB p7 xv (Maker.C (⟨g_0_1,s9,a0.bad⟩ : Maker)),oT g_0_1 a0.t,oS T_Ln 4 Ln.C s9 a0.l,oB b2 zj (Term.C (⟨a4.kind,a4.name,a4.other,a4.form,s_4⟩ : Term))] [fS 2 Hyp.C s_1 a1,zn s_4 a4.sub,oEt]:=⟨s13,fun _=>upd_same _ _ _,S⟩
  exact zb (ob4 trivial trivial (by simp only [zp (L:=L) (i:=7) (j:=10) rfl,y1 (L:=L) (i:=7),hl10,cond_true,cond_false] at hT2 ⊢; exact hT2))
 ·rintro L g v hL hcl hclo hT 
  have hl10:L 10=false:=by cases h:L 10 with | false=>rfl | true=>exact absurd (hclo 10 8 h zcd) (by rw [hL]; decide)
  cases hl7:L 7 with
  | true =>
   replace hT : ∃ (s13:SlV),(L 7=true→g 28=s13.v)∧St A N w v [oS xN 2 Hyp.C s13 r10,oB p7 xv (Maker.C (⟨g_0_1,s9,a0.bad⟩ : Maker)),oT g_0_1 a0.t,oS T_Ln 4 Ln.C s9 a0.l,oB b2 zj (Term.C (⟨a4.kind,a4.name,a4.other,a4.form,s_4⟩ : Term))] [fS 2 Hyp.C s_1 a1,zn s_4 a4.sub,oEt]:=by simp only [hl7,hl10,cond_true,cond_false] at hT ⊢; exact hT
   obtain ⟨s13,he7,S⟩ := hT
   refine wd (zm zD rfl ((S.blk 4).all _ (Term.len _)) (Term.len _)) ?_
   have hT2 : ∃ (s13':SlV),((plus L 8) 7=true→(upd g 29 (Value.agg (Term.C (⟨a4.kind,a4.name,a4.other,a4.form,s_4⟩ : Term)).toArray)) 28=s13'.v)∧St A N w v [oS xN 2 Hyp.C s13' r10,oB p7 xv (Maker.C (⟨g_0_1,s9,a0.bad⟩ : Maker)),oT g_0_1 a0.t,oS T_Ln 4 Ln.C s9 a0.l,oB b2 zj (Term.C (⟨a4.kind,a4.name,a4.other,a4.form,s_4⟩ : Term))] [fS 2 Hyp.C s_1 a1,zn s_4 a4.sub,oEt]:=⟨s13,fun h=>by rw [zF _ _ _ _ zca]; exact he7 (by rw [zp rfl] at h; exact h),S⟩
   exact zb (ob4 trivial rfl (by simp only [zp (L:=L) (i:=8) (j:=7) rfl,zp (L:=L) (i:=8) (j:=10) rfl,hl7,hl10,cond_true,cond_false] at hT2 ⊢; exact hT2))
  | false =>
   simp only [hl7,hl10,cond_true,cond_false] at hT
   replace S:=hT
   refine wd (zm zD rfl ((S.blk 3).all _ (Term.len _)) (Term.len _)) ?_
   exact zb (ob4 trivial rfl (by simp only [zp (L:=L) (i:=8) (j:=7) rfl,zp (L:=L) (i:=8) (j:=10) rfl,hl7,hl10,cond_true,cond_false]; exact S))
 ·rintro L g v hL hcl hclo hT 
  have hl10:L 10=false:=by cases h:L 10 with | false=>rfl | true=>exact absurd (hclo 10 9 h zcd) (by rw [hL]; decide)
  cases hl7:L 7 with
  | true =>
   replace hT : ∃ (s13:SlV),(L 7=true→g 28=s13.v)∧St A N w v [oS xN 2 Hyp.C s13 r10,oB p7 xv (Maker.C (⟨g_0_1,s9,a0.bad⟩ : Maker)),oT g_0_1 a0.t,oS T_Ln 4 Ln.C s9 a0.l,oB b2 zj (Term.C (⟨a4.kind,a4.name,a4.other,a4.form,s_4⟩ : Term))] [fS 2 Hyp.C s_1 a1,zn s_4 a4.sub,oEt]:=by simp only [hl7,hl10,cond_true,cond_false] at hT ⊢; exact hT
   obtain ⟨s13,he7,S⟩ := hT
   refine wd (zg rfl) ?_
   have hT2 : ∃ (s13':SlV),((plus L 9) 7=true→(upd g 30 (Value.int .i64 a5)) 28=s13'.v)∧St A N w v [oS xN 2 Hyp.C s13' r10,oB p7 xv (Maker.C (⟨g_0_1,s9,a0.bad⟩ : Maker)),oT g_0_1 a0.t,oS T_Ln 4 Ln.C s9 a0.l,oB b2 zj (Term.C (⟨a4.kind,a4.name,a4.other,a4.form,s_4⟩ : Term))] [fS 2 Hyp.C s_1 a1,zn s_4 a4.sub,oEt]:=⟨s13,fun h=>by rw [zF _ _ _ _ zca]; exact he7 (by rw [zp rfl] at h; exact h),S⟩
   exact zb (ob4 trivial rfl (by simp only [zp (L:=L) (i:=9) (j:=7) rfl,zp (L:=L) (i:=9) (j:=10) rfl,hl7,hl10,cond_true,cond_false] at hT2 ⊢; exact hT2))
  | false =>
   simp only [hl7,hl10,cond_true,cond_false] at hT
   replace S:=hT
   refine wd (zg rfl) ?_
   exact zb (ob4 trivial rfl (by simp only [zp (L:=L) (i:=9) (j:=7) rfl,zp (L:=L) (i:=9) (j:=10) rfl,hl7,hl10,cond_true,cond_false]; exact S))
 ·rintro L g v hL hcl hclo hT hv3 hv7 hv8 hv9
  have hl7:L 7=true:=hcl 7 zcd
  have hl10:L 10=false:=hL
  replace hT : ∃ (s13:SlV),(L 7=true→g 28=s13.v)∧St A N w v [oS xN 2 Hyp.C s13 r10,oB p7 xv (Maker.C (⟨g_0_1,s9,a0.bad⟩ : Maker)),oT g_0_1 a0.t,oS T_Ln 4 Ln.C s9 a0.l,oB b2 zj (Term.C (⟨a4.kind,a4.name,a4.other,a4.form,s_4⟩ : Term))] [fS 2 Hyp.C s_1 a1,zn s_4 a4.sub,oEt]:=by simp only [hl7,hl10,cond_true,cond_false] at hT ⊢; exact hT
  obtain ⟨s13,he7,S⟩ := hT
  replace S:=S.front 2
  obtain ⟨B23,MB23,SB23,back⟩ := S.calln 1 ((.s 0 rfl (.z 1 rfl (.z 2 rfl .nil))))
  refine zu (zK jN (zM hv3 (zM (he7 (hcl 7 zcd)) (zM hv8 (zM hv9 rfl))))) zca (zdR (a2:=a4) SB23 er14) ?_
  rintro _ w22 ⟨s17,rfl,S2⟩
  replace S:=back _ _ _ _ S2 rfl
  clear back S2 SB23
  have hT2 : ∃ (s13':SlV) (s17':SlV),((plus L 10) 7=true→(upd g 31 (Value.tuple #[s17.v,.int .i64 r14.2.2])) 28=s13'.v)∧((plus L 10) 10=true→(upd g 31 (Value.tuple #[s17.v,.int .i64 r14.2.2])) 31=Value.tuple #[s17'.v,.int .i64 r14.2.2])∧((plus L 10) 11=true→(upd g 31 (Value.tuple #[s17.v,.int .i64 r14.2.2])) 20=Value.tuple #[s17'.v,.int .i64 r14.2.2])∧((plus L 10) 12=true→(upd g 31 (Value.tuple #[s17.v,.int .i64 r14.2.2])) 32=s17'.v)∧((plus L 10) 14=true→(upd g 31 (Value.tuple #[s17.v,.int .i64 r14.2.2])) 13=s17'.v)∧St A N w w22 [oT g_0_1 r14.1,oS T_Ln 4 Ln.C s17' r14.2.1,oS xN 2 Hyp.C s13' r10,oB p7 xv (Maker.C (⟨g_0_1,s9,a0.bad⟩ : Maker)),oS T_Ln 4 Ln.C s9 a0.l,oB b2 zj (Term.C (⟨a4.kind,a4.name,a4.other,a4.form,s_4⟩ : Term))] [fS 2 Hyp.C s_1 a1,zn s_4 a4.sub,oEt]:=⟨s13,s17,fun h=>by rw [zF _ _ _ _ zca]; exact he7 (by rw [zp rfl] at h; exact h),fun _=>upd_same _ _ _,fun h=>absurd (hclo 11 10 (by rw [zp rfl] at h; exact h) zcd) (by rw [hL]; decide),fun h=>absurd (hclo 12 10 (by rw [zp rfl] at h; exact h) zcd) (by rw [hL]; decide),fun h=>absurd (hclo 14 10 (by rw [zp rfl] at h; exact h) zcd) (by rw [hL]; decide),S⟩
  exact zb (ob4 trivial trivial (by simp only [zp (L:=L) (i:=10) (j:=7) rfl,y1 (L:=L) (i:=10),cond_true,cond_false] at hT2 ⊢; exact hT2))
 ·rintro L g v hL hcl hclo hT hv10
  have hl10:L 10=true:=hcl 10 zcd
  replace hT : ∃ (s13:SlV) (s17:SlV),(L 7=true→g 28=s13.v)∧(L 10=true→g 31=Value.tuple #[s17.v,.int .i64 r14.2.2])∧(L 11=true→g 20=Value.tuple #[s17.v,.int .i64 r14.2.2])∧(L 12=true→g 32=s17.v)∧(L 14=true→g 13=s17.v)∧St A N w v [oT g_0_1 r14.1,oS T_Ln 4 Ln.C s17 r14.2.1,oS xN 2 Hyp.C s13 r10,oB p7 xv (Maker.C (⟨g_0_1,s9,a0.bad⟩ : Maker)),oS T_Ln 4 Ln.C s9 a0.l,oB b2 zj (Term.C (⟨a4.kind,a4.name,a4.other,a4.form,s_4⟩ : Term))] [fS 2 Hyp.C s_1 a1,zn s_4 a4.sub,oEt]:=by simp only [hl10,cond_true,cond_false] at hT ⊢; exact hT
  obtain ⟨s13,s17,he7,he10,he11,he12,he14,S⟩ := hT
  refine wd (zV (he10 (hcl 10 zcd))) ?_
  have hT2 : ∃ (s13':SlV) (s17':SlV),((plus L 11) 7=true→(upd g 20 (Value.tuple #[s17.v,.int .i64 r14.2.2])) 28=s13'.v)∧((plus L 11) 10=true→(upd g 20 (Value.tuple #[s17.v,.int .i64 r14.2.2])) 31=Value.tuple #[s17'.v,.int .i64 r14.2.2])∧((plus L 11) 11=true→(upd g 20 (Value.tuple #[s17.v,.int .i64 r14.2.2])) 20=Value.tuple #[s17'.v,.int .i64 r14.2.2])∧((plus L 11) 12=true→(upd g 20 (Value.tuple #[s17.v,.int .i64 r14.2.2])) 32=s17'.v)∧((plus L 11) 14=true→(upd g 20 (Value.tuple #[s17.v,.int .i64 r14.2.2])) 13=s17'.v)∧St A N w v [oT g_0_1 r14.1,oS T_Ln 4 Ln.C s17' r14.2.1,oS xN 2 Hyp.C s13' r10,oB p7 xv (Maker.C (⟨g_0_1,s9,a0.bad⟩ : Maker)),oS T_Ln 4 Ln.C s9 a0.l,oB b2 zj (Term.C (⟨a4.kind,a4.name,a4.other,a4.form,s_4⟩ : Term))] [fS 2 Hyp.C s_1 a1,zn s_4 a4.sub,oEt]:=⟨s13,s17,fun h=>by rw [zF _ _ _ _ zca]; exact he7 (by rw [zp rfl] at h; exact h),fun h=>by rw [zF _ _ _ _ zca]; exact he10 (by rw [zp rfl] at h; exact h),fun _=>upd_same _ _ _,fun h=>by rw [zF _ _ _ _ zca]; exact he12 (by rw [zp rfl] at h; exact h),fun h=>by rw [zF _ _ _ _ zca]; exact he14 (by rw [zp rfl] at h; exact h),S⟩
  exact zb (ob4 trivial trivial (by simp only [zp (L:=L) (i:=11) (j:=7) rfl,zp (L:=L) (i:=11) (j:=10) rfl,hl10,cond_true,cond_false] at hT2 ⊢; exact hT2))
 ·rintro L g v hL hcl hclo hT hv11
  have hl10:L 10=true:=hcl 10 zcd
  replace hT : ∃ (s13:SlV) (s17:SlV),(L 7=true→g 28=s13.v)∧(L 10=true→g 31=Value.tuple #[s17.v,.int .i64 r14.2.2])∧(L 11=true→g 20=Value.tuple #[s17.v,.int .i64 r14.2.2])∧(L 12=true→g 32=s17.v)∧(L 14=true→g 13=s17.v)∧St A N w v [oT g_0_1 r14.1,oS T_Ln 4 Ln.C s17 r14.2.1,oS xN 2 Hyp.C s13 r10,oB p7 xv (Maker.C (⟨g_0_1,s9,a0.bad⟩ : Maker)),oS T_Ln 4 Ln.C s9 a0.l,oB b2 zj (Term.C (⟨a4.kind,a4.name,a4.other,a4.form,s_4⟩ : Term))] [fS 2 Hyp.C s_1 a1,zn s_4 a4.sub,oEt]:=by simp only [hl10,cond_true,cond_false] at hT ⊢; exact hT
  obtain ⟨s13,s17,he7,he10,he11,he12,he14,S⟩ := hT
  refine wd (zt (he11 (hcl 11 zcd)) rfl) ?_
  have hT2 : ∃ (s13':SlV) (s17':SlV),((plus L 12) 7=true→(upd g 32 (s17.v)) 28=s13'.v)∧((plus L 12) 10=true→(upd g 32 (s17.v)) 31=Value.tuple #[s17'.v,.int .i64 r14.2.2])∧((plus L 12) 11=true→(upd g 32 (s17.v)) 20=Value.tuple #[s17'.v,.int .i64 r14.2.2])∧((plus L 12) 12=true→(upd g 32 (s17.v)) 32=s17'.v)∧((plus L 12) 14=true→(upd g 32 (s17.v)) 13=s17'.v)∧St A N w v [oT g_0_1 r14.1,oS T_Ln 4 Ln.C s17' r14.2.1,oS xN 2 Hyp.C s13' r10,oB p7 xv (Maker.C (⟨g_0_1,s9,a0.bad⟩ : Maker)),oS T_Ln 4 Ln.C s9 a0.l,oB b2 zj (Term.C (⟨a4.kind,a4.name,a4.other,a4.form,s_4⟩ : Term))] [fS 2 Hyp.C s_1 a1,zn s_4 a4.sub,oEt]:=⟨s13,s17,fun h=>by rw [zF _ _ _ _ zca]; exact he7 (by rw [zp rfl] at h; exact h),fun h=>by rw [zF _ _ _ _ zca]; exact he10 (by rw [zp rfl] at h; exact h),fun h=>by rw [zF _ _ _ _ zca]; exact he11 (by rw [zp rfl] at h; exact h),fun _=>upd_same _ _ _,fun h=>by rw [zF _ _ _ _ zca]; exact he14 (by rw [zp rfl] at h; exact h),S⟩
  exact zb (ob4 trivial trivial (by simp only [zp (L:=L) (i:=12) (j:=7) rfl,zp (L:=L) (i:=12) (j:=10) rfl,hl10,cond_true,cond_false] at hT2 ⊢; exact hT2))
 ·rintro L g v hL hcl hclo hT hv11
  have hl10:L 10=true:=hcl 10 zcd
  replace hT : ∃ (s13:SlV) (s17:SlV),(L 7=true→g 28=s13.v)∧(L 10=true→g 31=Value.tuple #[s17.v,.int .i64 r14.2.2])∧(L 11=true→g 20=Value.tuple #[s17.v,.int .i64 r14.2.2])∧(L 12=true→g 32=s17.v)∧(L 14=true→g 13=s17.v)∧St A N w v [oT g_0_1 r14.1,oS T_Ln 4 Ln.C s17 r14.2.1,oS xN 2 Hyp.C s13 r10,oB p7 xv (Maker.C (⟨g_0_1,s9,a0.bad⟩ : Maker)),oS T_Ln 4 Ln.C s9 a0.l,oB b2 zj (Term.C (⟨a4.kind,a4.name,a4.other,a4.form,s_4⟩ : Term))] [fS 2 Hyp.C s_1 a1,zn s_4 a4.sub,oEt]:=by simp only [hl10,cond_true,cond_false] at hT ⊢; exact hT
  obtain ⟨s13,s17,he7,he10,he11,he12,he14,S⟩ := hT
  refine wd (zt (he11 (hcl 11 zcd)) rfl) ?_
  have hT2 : ∃ (s13':SlV) (s17':SlV),((plus L 13) 7=true→(upd g 33 (Value.int .i64 r14.2.2)) 28=s13'.v)∧((plus L 13) 10=true→(upd g 33 (Value.int .i64 r14.2.2)) 31=Value.tuple #[s17'.v,.int .i64 r14.2.2])∧((plus L 13) 11=true→(upd g 33 (Value.int .i64 r14.2.2)) 20=Value.tuple #[s17'.v,.int .i64 r14.2.2])∧((plus L 13) 12=true→(upd g 33 (Value.int .i64 r14.2.2)) 32=s17'.v)∧((plus L 13) 14=true→(upd g 33 (Value.int .i64 r14.2.2)) 13=s17'.v)∧St A N w v [oT g_0_1 r14.1,oS T_Ln 4 Ln.C s17' r14.2.1,oS xN 2 Hyp.C s13' r10,oB p7 xv (Maker.C (⟨g_0_1,s9,a0.bad⟩ : Maker)),oS T_Ln 4 Ln.C s9 a0.l,oB b2 zj (Term.C (⟨a4.kind,a4.name,a4.other,a4.form,s_4⟩ : Term))] [fS 2 Hyp.C s_1 a1,zn s_4 a4.sub,oEt]:=⟨s13,s17,fun h=>by rw [zF _ _ _ _ zca]; exact he7 (by rw [zp rfl] at h; exact h),fun h=>by rw [zF _ _ _ _ zca]; exact he10 (by rw [zp rfl] at h; exact h),fun h=>by rw [zF _ _ _ _ zca]; exact he11 (by rw [zp rfl] at h; exact h),fun h=>by rw [zF _ _ _ _ zca]; exact he12 (by rw [zp rfl] at h; exact h),fun h=>by rw [zF _ _ _ _ zca]; exact he14 (by rw [zp rfl] at h; exact h),S⟩
  exact zb (ob4 trivial rfl (by simp only [zp (L:=L) (i:=13) (j:=7) rfl,zp (L:=L) (i:=13) (j:=10) rfl,hl10,cond_true,cond_false] at hT2 ⊢; exact hT2))
 ·rintro L g v hL hcl hclo hT hv12
  have hl10:L 10=true:=hcl 10 zcd
  replace hT : ∃ (s13:SlV) (s17:SlV),(L 7=true→g 28=s13.v)∧(L 10=true→g 31=Value.tuple #[s17.v,.int .i64 r14.2.2])∧(L 11=true→g 20=Value.tuple #[s17.v,.int .i64 r14.2.2])∧(L 12=true→g 32=s17.v)∧(L 14=true→g 13=s17.v)∧St A N w v [oT g_0_1 r14.1,oS T_Ln 4 Ln.C s17 r14.2.1,oS xN 2 Hyp.C s13 r10,oB p7 xv (Maker.C (⟨g_0_1,s9,a0.bad⟩ : Maker)),oS T_Ln 4 Ln.C s9 a0.l,oB b2 zj (Term.C (⟨a4.kind,a4.name,a4.other,a4.form,s_4⟩ : Term))] [fS 2 Hyp.C s_1 a1,zn s_4 a4.sub,oEt]:=by simp only [hl10,cond_true,cond_false] at hT ⊢; exact hT
  obtain ⟨s13,s17,he7,he10,he11,he12,he14,S⟩ := hT
  refine wd (xP (he12 (hcl 12 zcd))) ?_
  have hT2 : ∃ (s13':SlV) (s17':SlV),((plus L 14) 7=true→(upd g 13 (s17.v)) 28=s13'.v)∧((plus L 14) 10=true→(upd g 13 (s17.v)) 31=Value.tuple #[s17'.v,.int .i64 r14.2.2])∧((plus L 14) 11=true→(upd g 13 (s17.v)) 20=Value.tuple #[s17'.v,.int .i64 r14.2.2])∧((plus L 14) 12=true→(upd g 13 (s17.v)) 32=s17'.v)∧((plus L 14) 14=true→(upd g 13 (s17.v)) 13=s17'.v)∧St A N w v [oT g_0_1 r14.1,oS T_Ln 4 Ln.C s17' r14.2.1,oS xN 2 Hyp.C s13' r10,oB p7 xv (Maker.C (⟨g_0_1,s9,a0.bad⟩ : Maker)),oS T_Ln 4 Ln.C s9 a0.l,oB b2 zj (Term.C (⟨a4.kind,a4.name,a4.other,a4.form,s_4⟩ : Term))] [fS 2 Hyp.C s_1 a1,zn s_4 a4.sub,oEt]:=⟨s13,s17,fun h=>by rw [zF _ _ _ _ zca]; exact he7 (by rw [zp rfl] at h; exact h),fun h=>by rw [zF _ _ _ _ zca]; exact he10 (by rw [zp rfl] at h; exact h),fun h=>by rw [zF _ _ _ _ zca]; exact he11 (by rw [zp rfl] at h; exact h),fun h=>by rw [zF _ _ _ _ zca]; exact he12 (by rw [zp rfl] at h; exact h),fun _=>upd_same _ _ _,S⟩
  exact zb (ob4 trivial trivial (by simp only [zp (L:=L) (i:=14) (j:=7) rfl,zp (L:=L) (i:=14) (j:=10) rfl,hl10,cond_true,cond_false] at hT2 ⊢; exact hT2))
 rintro L g w24 hLm hT hv25_0 hv25_1 hv25_2 hv25_3 hv25_4 hv25_5 hv25_6 _ hv25_8 hv25_9 _ _ _ hv25_13 _
 have hLt : ∀ j,j < 15→L j=true:=fun j hj=>by rw [hLm]; exact decide_eq_true hj
 replace hT : ∃ (s13:SlV) (s17:SlV),(L 7=true→g 28=s13.v)∧(L 10=true→g 31=Value.tuple #[s17.v,.int .i64 r14.2.2])∧(L 11=true→g 20=Value.tuple #[s17.v,.int .i64 r14.2.2])∧(L 12=true→g 32=s17.v)∧(L 14=true→g 13=s17.v)∧St A N w w24 [oT g_0_1 r14.1,oS T_Ln 4 Ln.C s17 r14.2.1,oS xN 2 Hyp.C s13 r10,oB p7 xv (Maker.C (⟨g_0_1,s9,a0.bad⟩ : Maker)),oS T_Ln 4 Ln.C s9 a0.l,oB b2 zj (Term.C (⟨a4.kind,a4.name,a4.other,a4.form,s_4⟩ : Term))] [fS 2 Hyp.C s_1 a1,zn s_4 a4.sub,oEt]:=by simp only [hLt 10 zca,cond_true] at hT ⊢; exact hT
 obtain ⟨s13,s17,he7,he10,he11,he12,he14,S⟩ := hT
 have hv25_7:=he7 (hLt 7 zca)
 have hv25_10:=he10 (hLt 10 zca)
 have hv25_11:=he11 (hLt 11 zca)
 have hv25_12:=he12 (hLt 12 zca)
 have hv25_14:=he14 (hLt 14 zca)
 replace S:=S
 refine wd (zh hv25_13) ?_
 replace S:=((S.front 4).front 1).front 4
 replace S:=S.shut_oK hp8
 refine zb (zd (zd (za (wd (zg rfl) (wd (zU rfl rfl) (zb ?_))))))
 refine zG rfl (fun hc26=>?_) (fun hc26=>?_)
 ·replace H:=if_t hc26 H
  refine za (wd (zk rfl) ?_)
  obtain ⟨p27,s29,hp28,S⟩ := S.open_oK 0
  replace S:=S
  refine wd (zC (congrArg Value.pointer hp28)) (wd (ze jb rfl (o':=0) rfl) (wd (zl xA rfl ((S.blk 0).cell (Maker.get_t _))) (wd (zA hv25_14) (wd (zg rfl) ?_))))
  obtain ⟨r30,er30,H⟩ := zr H
  replace S:=S.front 1
  obtain ⟨B32,MB32,SB32,back⟩ := S.calln 1 ((.s 2 rfl .nil))
  refine zu (zq zbt) zca (zbv SB32 er30) ?_
  rintro _ w31 ⟨s33,rfl,S2⟩
  replace S:=back _ _ _ _ S2 rfl
  clear back S2 SB32
  refine wd (zV rfl) (wd (zt rfl rfl) (wd (zt rfl rfl) (wd (xP rfl) (wd (zh rfl) ?_))))
  replace S:=((S.front 3).front 1).front 3
  replace S:=S.shut_oK hp28
  refine zb (zd (za (wd (zk rfl) (wd (zA rfl) (wd (zg rfl) ?_)))))
  obtain ⟨r34,er34,H⟩ := zr H
  obtain ⟨B36,MB36,SB36,back⟩ := S.calln 1 ((.s 0 rfl .nil))
  refine zu (zq uY) zca (jf SB36 er34) ?_
  rintro _ w35 ⟨rfl,S2⟩
  replace S:=back _ _ _ _ S2 rfl
  clear back S2 SB36
  refine wd (zh rfl) (zb (zx ?_))
  refine ⟨_,(zS (zf rfl)),?_⟩
  replace S:=S.arr [0] []
  obtain rfl:=zce H
  exact ⟨rfl,S⟩
 ·replace H:=if_f hc26 H
  refine zB (zd (za (wd (zk rfl) (wd (zA hv25_14) (wd (zg rfl) ?_)))))
  obtain ⟨r37,er37,H⟩ := zr H
  obtain ⟨B39,MB39,SB39,back⟩ := S.calln 1 ((.s 0 rfl .nil))
  refine zu (zq uY) zca (jf SB39 er37) ?_
  rintro _ w38 ⟨rfl,S2⟩
  replace S:=back _ _ _ _ S2 rfl
  clear back S2 SB39
  refine wd (zh rfl) (zb (zx ?_))
  refine ⟨_,(zS (zf rfl)),?_⟩
  replace S:=S.arr [0] []
  obtain rfl:=zce H
  exact ⟨rfl,S⟩
theorem vw {zdZ:Tb→List Hyp→PTerm→Int→Option (Tb × List Ln × Int)} (zdR : ∀ {A:Nat→Prop} {N:Oth} {w:World} {a0:Tb} {a_0:Option Addr} {a1:List Hyp} {s_1:SlV} {a2:PTerm} {s_2:SlV} {a3:Int} (S:St A N w w [oT a_0 a0] [fS 2 Hyp.C s_1 a1,zn s_2 a2.sub,oEt]) {r:Tb × List Ln × Int} (H:zdZ a0 a1 a2 a3=some r),Calls PP yy #[.pointer a_0,s_1.v,.agg (Term.C (⟨a2.kind,a2.name,a2.other,a2.form,s_2⟩ : Term)).toArray,.int .i64 a3] w fun e w' => ∃ v,e = .returned v∧(∃ so0:SlV,v = .tuple #[so0.v,.int .i64 r.2.2]∧St A N w w' [oT a_0 r.1,oS T_Ln 4 Ln.C so0 r.2.1] [])) {A:Nat→Prop} {N:Oth} {w:World} {a0:PMaker} {a_0:Option Addr} {g_0_1:Option Addr} {a1:List Hyp} {s_1:SlV} {a2:PTerm} {s_2:SlV} (S:St A N w w [oK a_0 g_0_1 a0] [fS 2 Hyp.C s_1 a1,zn s_2 a2.sub,oEt]) {k:Nat} {r:PMaker × Int × Int} (H:zdv.g zdZ k a0 a1 a2=some r) :
  Calls PP zae #[.pointer a_0,s_1.v,.agg (Term.C (⟨a2.kind,a2.name,a2.other,a2.form,s_2⟩ : Term)).toArray] w fun e w' => ∃ v,e = .returned v∧(v = .tuple #[.int .i64 r.2.1,.int .i64 r.2.2]∧St A N w w' [oK a_0 g_0_1 r.1] []):=by
 unfold zdv.g at H
 refine zz (n:=31) fn_hilbert_maker_told rfl rfl zcc (zd (za ?_))
 refine zX rfl zca fun b2 w1 hw1=>?_
 replace S:=S.new hw1
 refine wd (zh rfl) (wd (zh rfl) (zb (zd (zd (za (wd (zk rfl) ?_))))))
 obtain ⟨p3,s5,hp4,S⟩ := S.open_oK 1
 replace S:=S
 refine wd (zC (congrArg Value.pointer hp4)) (wd (ze x9 rfl (o':=2) rfl) (wd (zl xX rfl ((S.blk 0).cell (Maker.get_bad _))) (wd (xm rfl rfl) ?_)))
 replace S:=((S.front 2).front 2).front 2
 replace S:=S.shut_oK hp4
 refine zb ?_
 refine zG rfl (fun hc6=>?_) (fun hc6=>?_)
 ·replace H:=if_t hc6 H
  refine zd (za (wd (zh rfl) (wd (zh rfl) (zb (zx ?_)))))
  refine ⟨_,(xn (zf rfl) (zf rfl)),?_⟩
  replace S:=S.arr [0] []
  obtain rfl:=zce H
  exact ⟨rfl,S⟩
 replace H:=if_f hc6 H
 refine zB (zd ?_)
 obtain ⟨p7,s9,hp8,S⟩ := S.open_oK 0
 replace S:=S
 refine yz 11 (Ext w1) hmix zcd zcd (Ext.drawn _) (zy (fun v K=>zk rfl) (zy (fun v K=>zC (congrArg Value.pointer hp8)) (zy (fun v K=>ze jb rfl (o':=0) rfl) (zy (fun v K=>zl xA rfl (((S.ext K).blk 0).cell (Maker.get_t _))) (zy (fun v K=>zA rfl) (zy (fun v K=>zm zD rfl (((S.ext K).blk 3).all _ (Term.len _)) (Term.len _)) ?_))))))
 obtain ⟨r10,er10,H⟩ := zr H
 refine wq_call (fun v=>zq ca_types_Infer) (fun v K=>(have ⟨M,SS⟩ := (S.ext K).lend ((.o 1 rfl (.z 0 rfl (.z 1 rfl (.z 2 rfl .nil))))); quiet (types_Infer_st (a2:=a2) SS er10) (fun v w' h=>⟨h.1,_,_,h.2⟩))) (fun v v' K h=>K.thenExt h) (zy (fun v K=>zV rfl) (zy (fun v K=>zt rfl rfl) (zy (fun v K=>zt rfl rfl) (zy (fun v K=>zh rfl) ?_))))
 refine vD fun w11 K=>?_
 replace S:=S.ext K
 clear K
 refine wd (zh rfl) ?_
 replace S:=((S.front 2).front 2).front 2
 replace S:=S.shut_oK hp8
 refine zb (zd (za (wd (zg rfl) (wd (zk rfl) (wd (zA rfl) (wd (zm zD rfl ((S.blk 1).all _ (Term.len _)) (Term.len _)) (wd (zg rfl) ?_)))))))
 obtain ⟨r12,er12,H⟩ := zr H
 obtain ⟨B14,MB14,SB14,back⟩ := S.calln 1 ((.z 0 rfl (.z 1 rfl (.z 2 rfl .nil))))
 refine zu (zq yw) zca (yj zdR (a2:=a2) SB14 er12) ?_
 rintro _ w13 ⟨rfl,S2⟩
 replace S:=back _ _ _ _ S2 rfl
 clear back S2 SB14
 refine wd (zh rfl) (wd (zh rfl) (zb (zx ?_)))
 refine ⟨_,(xn (zf rfl) (zf rfl)),?_⟩
 replace S:=S.arr [0] []
 obtain rfl:=zce H
 exact ⟨rfl,S⟩
theorem uM {a0:PMaker} {a_0:Option Addr} {g_0_1:Option Addr} {a1:Int} (S:St A N w w [oK a_0 g_0_1 a0] []) {r:PMaker × Nd} (H:zdw.f a0 a1=some r) :
  Calls PP zac #[.pointer a_0,.int .i64 a1] w fun e w' => ∃ v,e = .returned v∧(v = .agg (Nd.C r.2).toArray∧St A N w w' [oK a_0 g_0_1 r.1] []):=by
 unfold zdw.f at H
 refine zz (n:=17) fn_hilbert_maker_node rfl rfl zcc (zd (za ?_))
 refine xd uD zca fun b2 w1 hw1=>?_
 replace S:=S.new hw1
 refine zb (zd (za (wd (zk rfl) ?_)))
 obtain ⟨p3,s5,hp4,S⟩ := S.open_oK 1
 replace S:=S
 refine wd (zC (congrArg Value.pointer hp4)) (wd (ze jb rfl (o':=0) rfl) (wd (zl xA rfl ((S.blk 0).cell (Maker.get_t _))) (wd (zg rfl) ?_)))
 obtain ⟨r6,er6,H⟩ := zr H
 obtain ⟨B8,MB8,SB8,back⟩ := S.calln 0 ((.o 1 rfl .nil))
 refine zu (zq yv) zca (yx SB8 er6) ?_
 rintro _ w7 ⟨rfl,S2⟩
 replace S:=back _ _ _ _ S2 rfl
 clear back S2 SB8
 refine wd (zV rfl) (wd (zt rfl rfl) (wd (zt rfl rfl) ?_))
 refine xd uD zca fun b10 w9 hw9=>?_
 replace S:=S.new hw9
 refine zI x7 rfl rfl (S.blk 0) (Nd.len _) (by rw [Nd.len]; decide) (Nd.one _) (zT (Nd.len _)) fun w11 B hw11 zw11=>?_
 replace S:=S.store 0 B hw11
 clear B
 refine wd (zo rfl) ?_
 replace S:=((S.front 3).front 3).front 3
 replace S:=S.shut_oK hp4
 refine zb (zd (za (wd (zm x7 rfl ((S.blk 1).all _ (Nd.len _)) (Nd.len _)) ?_)))
 refine zI x7 rfl rfl (S.blk 2) (Nd.len _) (by rw [Nd.len]; decide) (Nd.one _) (zT (Nd.len _)) fun w12 B hw12 zw12=>?_
 replace S:=S.store 2 B hw12
 clear B
 refine zb (zx ?_)
 refine ⟨_,(zS (xI x7 rfl ((S.blk 0).all _ (Nd.len _)) (Nd.len _))),?_⟩
 replace S:=S.arr [1] []
 obtain rfl:=zce H
 exact ⟨rfl,S⟩
theorem ui {zdZ:Tb→List Hyp→PTerm→Int→Option (Tb × List Ln × Int)} (zdR : ∀ {A:Nat→Prop} {N:Oth} {w:World} {a0:Tb} {a_0:Option Addr} {a1:List Hyp} {s_1:SlV} {a2:PTerm} {s_2:SlV} {a3:Int} (S:St A N w w [oT a_0 a0] [fS 2 Hyp.C s_1 a1,zn s_2 a2.sub,oEt]) {r:Tb × List Ln × Int} (H:zdZ a0 a1 a2 a3=some r),Calls PP yy #[.pointer a_0,s_1.v,.agg (Term.C (⟨a2.kind,a2.name,a2.other,a2.form,s_2⟩ : Term)).toArray,.int .i64 a3] w fun e w' => ∃ v,e = .returned v∧(∃ so0:SlV,v = .tuple #[so0.v,.int .i64 r.2.2]∧St A N w w' [oT a_0 r.1,oS T_Ln 4 Ln.C so0 r.2.1] [])) {A:Nat→Prop} {N:Oth} {w:World} {a0:PMaker} {a_0:Option Addr} {g_0_1:Option Addr} {a1:List Hyp} {s_1:SlV} {a2:PTerm} {s_2:SlV} {a3:Int} {a4:Int} (S:St A N w w [oK a_0 g_0_1 a0] [fS 2 Hyp.C s_1 a1,zn s_2 a2.sub,oEt]) {k:Nat} {r:PMaker} (H:zdx.g zdZ k a0 a1 a2 a3 a4=some r) :
  Calls PP kz #[.pointer a_0,s_1.v,.agg (Term.C (⟨a2.kind,a2.name,a2.other,a2.form,s_2⟩ : Term)).toArray,.int .i64 a3,.int .i64 a4] w fun e w' => ∃ v,e = .returned v∧(v = .tuple #[]∧St A N w w' [oK a_0 g_0_1 r] []):=by
 unfold zdx.g at H
 refine zz (n:=32) fn_hilbert_maker_unary rfl rfl zcc (zd (za ?_))
 refine zX rfl zca fun b2 w1 hw1=>?_
 replace S:=S.new hw1
 refine zb (zd (za (wd (zk rfl) (wd (zA rfl) (wd (ze xf rfl (o':=4) rfl) (wd (zl zY rfl ((S.blk 0).cell (Term.get_sub _))) ?_))))))
 obtain ⟨hi3,H⟩ := xo H
 refine wd (does_indexF zN rfl rfl (S.onZ 1) (zO hi3).1 (zO hi3).2) ?_
 obtain ⟨s4,hc5,S⟩ := S.viewTerm 1 (zO hi3)
 replace S:=S
 refine wd (zm zD rfl hc5 (Term.len _)) ?_
 obtain ⟨r6,er6,H⟩ := zr H
 replace S:=S.front 1
 obtain ⟨B8,MB8,SB8,back⟩ := S.calln 1 ((.z 1 rfl (.z 0 rfl (.z 3 rfl .nil))))
 refine zu (zq vL) zca (vw zdR (a2:=(at_ PTerm.z a2.sub 0)) SB8 er6) ?_
 rintro _ w7 ⟨rfl,S2⟩
 replace S:=back _ _ _ _ S2 rfl
 clear back S2 SB8
 refine wd (zV rfl) (wd (zt rfl rfl) (wd (zt rfl rfl) (wd (zh rfl) (wd (zh rfl) (zb (za (wd (zk rfl) (wd (zk rfl) (wd (zg rfl) (wd (zk rfl) (wd (zg rfl) (wd (zg rfl) ?_))))))))))))
 obtain ⟨r9,er9,H⟩ := zr H
 obtain ⟨B11,MB11,SB11,back⟩ := S.calln 1 ((.nil))
 refine zu (zq z1) zca (z7 SB11 er9) ?_
 rintro _ w10 ⟨rfl,S2⟩
 replace S:=back _ _ _ _ S2 rfl
 clear back S2 SB11
 obtain ⟨r12,er12,H⟩ := zr H
 obtain ⟨B14,MB14,SB14,back⟩ := S.calln 1 ((.nil))
 refine zu (zq xU) zca (xV SB14 er12) ?_
 rintro _ w13 ⟨rfl,S2⟩
 replace S:=back _ _ _ _ S2 rfl
 clear back S2 SB14
 refine wd (zg rfl) ?_
 obtain ⟨r15,er15,H⟩ := zr H
 obtain ⟨B17,MB17,SB17,back⟩ := S.calln 1 ((.nil))
 refine zu (zq xi) zca (xj SB17 er15) ?_
 rintro _ w16 ⟨rfl,S2⟩
 replace S:=back _ _ _ _ S2 rfl
 clear back S2 SB17
 refine zb ?_
 refine ⟨_,rets0,?_⟩
 replace S:=S.arr [0] []
 obtain rfl:=zce H
 exact ⟨rfl,S⟩
theorem hilbert_compile_gst {zdZ:Tb→List Hyp→PTerm→Int→Option (Tb × List Ln × Int)} (zdR : ∀ {A:Nat→Prop} {N:Oth} {w:World} {a0:Tb} {a_0:Option Addr} {a1:List Hyp} {s_1:SlV} {a2:PTerm} {s_2:SlV} {a3:Int} (S:St A N w w [oT a_0 a0] [fS 2 Hyp.C s_1 a1,zn s_2 a2.sub,oEt]) {r:Tb × List Ln × Int} (H:zdZ a0 a1 a2 a3=some r),Calls PP yy #[.pointer a_0,s_1.v,.agg (Term.C (⟨a2.kind,a2.name,a2.other,a2.form,s_2⟩ : Term)).toArray,.int .i64 a3] w fun e w' => ∃ v,e = .returned v∧(∃ so0:SlV,v = .tuple #[so0.v,.int .i64 r.2.2]∧St A N w w' [oT a_0 r.1,oS T_Ln 4 Ln.C so0 r.2.1] [])) {A:Nat→Prop} {N:Oth} {w:World} {a0:Tb} {a_0:Option Addr} {a1:List Hyp} {s_1:SlV} {a2:PTerm} {s_2:SlV} {a3:Int} (S:St A N w w [oT a_0 a0] [fS 2 Hyp.C s_1 a1,zn s_2 a2.sub,oEt]) {k:Nat} {r:Tb × List Ln × Int} (H:zdy.g zdZ k a0 a1 a2 a3=some r) :
  Calls PP yy #[.pointer a_0,s_1.v,.agg (Term.C (⟨a2.kind,a2.name,a2.other,a2.form,s_2⟩ : Term)).toArray,.int .i64 a3] w fun e w' => ∃ v,e = .returned v∧(∃ so0:SlV,v = .tuple #[so0.v,.int .i64 r.2.2]∧St A N w w' [oT a_0 r.1,oS T_Ln 4 Ln.C so0 r.2.1] []):=by
 unfold zdy.g at H
 refine zz (n:=301) fn_hilbert_compile rfl rfl zcc (zd (za ?_))
 refine zX rfl zca fun b2 w1 hw1=>?_
 replace S:=S.new hw1
 refine wd (xw) (wd (zh rfl) (zb (zd (za (wd (zk rfl) (wd (Does.to (v' := .agg (Maker.C (⟨a_0,SlV.nil,0⟩ : Maker)).toArray) (xF (vs:=[(0,.pointer a_0)]) bu_Maker (yl rfl rfl) (Bld.one rfl rfl (by rw [Maker.len]; decide) (Maker.set_t _ _) Bld.nil)) rfl) ?_))))))
 refine zX rfl zca fun b4 w3 hw3=>?_
 replace S:=((S.new hw3).nil T_Ln 4 Ln.C).front 3
 replace S:=(S.front 2).shut_oK rfl
 refine wd (xc rfl) (zb (zd (za (wd (zk rfl) (wd (zg rfl) ?_)))))
 obtain ⟨r5,er5,H⟩ := zr H
 obtain ⟨B7,MB7,SB7,back⟩ := S.calln 1 ((.nil))
 refine zu (zq uG) zca (uM SB7 er5) ?_
 rintro _ w6 ⟨rfl,S2⟩
 replace S:=back _ _ _ _ S2 rfl
 clear back S2 SB7
 refine xd uD zca fun b9 w8 hw8=>?_
 replace S:=S.new hw8
 refine zI x7 rfl rfl (S.blk 0) (Nd.len _) (by rw [Nd.len]; decide) (Nd.one _) (zT (Nd.len _)) fun w10 B hw10 zw10=>?_
 replace S:=S.store 0 B hw10
 clear B
 refine zb (zd (zd (za (wd (ze vR rfl (o':=0) rfl) (wd (zl y6 rfl ((S.blk 2).cell (Term.get_kind _))) (zb ?_))))))
 obtain ⟨o11,e11,Ho11⟩ := zr H
 replace H:=e11; clear e11
 refine x6 [12,13,14,15,16,17,18,19,20,21,22,23,24,25,26,27,28,29,38,39,40,41,42,43,44,45,46,47,48,49,50,51,52,53,54,55,56,57,58,59,60,61,62,63,64,65,66,67,68,69,70,71,72,73,74,75,76,77,78,79,80,81,82,83,84,85,86,87,88,89,90,91,92,93,94,95,96,97,98,99,100,101,102,103,104,105,106,107,108,109,110,111,112,113,114,115,116,117,118,119,120,121,122,123,124,125,126,127,128,129,130,131,132,133,134,135,136,137,138,139,140,141,142,143,144,145,146,147,148,149,150,151,152,153,154,155,156,157,158,159,160,161,162,163,164,165,166,167,168,169,170,171,172,173,174,175,176,177,178,179,180,181,182,183,184,185,186,187,188,189,190,191,192,193,194,195,196,197,198,199,200,201,202,203,204,205,206,207,208,209,210,211,212,213,214,215,216,217,218,219,220,221,222,223,224,225,226,227,228,229,230,231,232,233,234,235,236,237,238,239,240,241,242,243,244,245,246,247,248,249,250,251,252,253,254,255,256,257,258,259,260,261,262,263,264,265,266,267,268,269,270,271,272,273,274,275,276,277,278,279,280,281,282,283,284,285,286,287,288,289,290,291,292] (fun fr W=>St A N w W [oB b9 T_Nd (Nd.C r5.2),oK (some ⟨b4,0,none⟩) a_0 o11,oB b2 zj (Term.C (⟨a2.kind,a2.name,a2.other,a2.form,s_2⟩ : Term))] [fS 2 Hyp.C s_1 a1,zn s_2 a2.sub,oEt]) ?_ ?_
 ·refine zP (zd (za (wd (zU rfl rfl) (wd (zo rfl) (zb ?_)))))
  refine zG rfl (fun hc12=>?_) (fun hc12=>?_)
  ·replace H:=if_t hc12 H
   refine za (wd (zk rfl) (wd (zg rfl) ?_))
   obtain ⟨r13,er13,H⟩ := zr H
   replace S:=S.front 1
   obtain ⟨B15,MB15,SB15,back⟩ := S.calln 1 ((.nil))
   refine zu (zq xU) zca (xV SB15 er13) ?_
   rintro _ w14 ⟨rfl,S2⟩
   replace S:=back _ _ _ _ S2 rfl
   clear back S2 SB15
   refine zb ?_
   replace S:=S.arr [1,0,2] [0,1,2]
   obtain rfl:=zce H
   exact ⟨rfl,((((((Dif.refl _ _).upd rfl _).upd rfl _).upd rfl _).upd rfl _).upd rfl _),S⟩
  ·replace H:=if_f hc12 H
   refine zd (za (wd (zU rfl rfl) (wd (zo rfl) (zb ?_))))
   refine zG rfl (fun hc16=>?_) (fun hc16=>?_)
   ·replace H:=if_t hc16 H
    refine za (wd (zk rfl) (wd (zA rfl) (wd (ze xf rfl (o':=4) rfl) (wd (zl zY rfl ((S.blk 2).cell (Term.get_sub _))) ?_))))
    obtain ⟨hi17,H⟩ := xo H
    refine wd (does_indexF zN rfl rfl (S.onZ 1) (zO hi17).1 (zO hi17).2) ?_
    obtain ⟨s18,hc19,S⟩ := S.viewTerm 1 (zO hi17)
    replace S:=S
    refine wd (zm zD rfl hc19 (Term.len _)) (wd (zg rfl) ?_)
    obtain ⟨r20,er20,H⟩ := zr H
    replace S:=S.front 1
    obtain ⟨B22,MB22,SB22,back⟩ := S.calln 1 ((.z 1 rfl (.z 0 rfl (.z 3 rfl .nil))))
    refine zu (zq yw) zca (yj zdR (a2:=(at_ PTerm.z a2.sub 0)) SB22 er20) ?_
    rintro _ w21 ⟨rfl,S2⟩
    replace S:=back _ _ _ _ S2 rfl
    clear back S2 SB22
    refine zb ?_
    replace S:=S.arr [1,0,2] [1,2,3]
    obtain rfl:=zce H
    exact ⟨rfl,(((((((((((((Dif.refl _ _).upd rfl _).upd rfl _).upd rfl _).upd rfl _).upd rfl _).upd rfl _).upd rfl _).upd rfl _).upd rfl _).upd rfl _).upd rfl _).upd rfl _),S⟩
   ·replace H:=if_f hc16 H
    refine zd (za (wd (zU rfl rfl) (wd (zo rfl) (zb ?_))))
    refine zG rfl (fun hc23=>?_) (fun hc23=>?_)
    ·replace H:=if_t hc23 H
     refine yz 12 (Ext w10) hmix zcd zcd (Ext.drawn _) (zy (fun v K=>zk rfl) (zy (fun v K=>zA rfl) (zy (fun v K=>ze yD rfl (o':=1) rfl) (zy (fun v K=>zl xq rfl (((S.ext K).blk 2).cell (Term.get_name _))) (zy (fun v K=>ze yY rfl (o':=2) rfl) (zy (fun v K=>zl zR rfl (((S.ext K).blk 0).cell (Nd.get_l _))) (zy (fun v K=>ze xf rfl (o':=4) rfl) (zy (fun v K=>zl zY rfl (((S.ext K).blk 2).cell (Term.get_sub _))) ?_))))))))
     obtain ⟨hi24,H⟩ := xo H
     refine zy (fun v K=>does_indexF zN rfl rfl ((S.ext K).onZ 1) (zO hi24).1 (zO hi24).2) ?_
     obtain ⟨s25,hc26,S⟩ := S.viewTerm 1 (zO hi24)
     replace S:=S
     refine zy (fun v K=>zm zD rfl (hc26.chg K (fun x=>x)) (Term.len _)) (zy (fun v K=>ze yS rfl (o':=3) rfl) (zy (fun v K=>zl zR rfl (((S.ext K).blk 0).cell (Nd.get_r _))) ?_))
     refine vD fun w27 K=>?_
     replace S:=S.ext K
     clear K
     obtain ⟨r28,er28,H⟩ := zr H
     replace S:=S.front 1
     obtain ⟨B30,MB30,SB30,back⟩ := S.calln 1 ((.z 1 rfl (.z 0 rfl (.z 3 rfl .nil))))
     refine zu (zq vr) zca (vn zdR (a4:=(at_ PTerm.z a2.sub 0)) SB30 er28) ?_
     rintro _ w29 ⟨rfl,S2⟩
     replace S:=back _ _ _ _ S2 rfl
     clear back S2 SB30
     refine zb ?_
     replace S:=S.arr [1,0,2] [1,2,3]
     obtain rfl:=zce H
     exact ⟨rfl,(by repeat first | exact Dif.refl _ _ | exact Dif.self _ _ _ | refine Dif.upd ?_ rfl _ | refine Dif.mask ?_ rfl _),S⟩
    ·replace H:=if_f hc23 H
     refine zd (za (wd (zU rfl rfl) (wd (zo rfl) (zb ?_))))
     refine zG rfl (fun hc31=>?_) (fun hc31=>?_)
     ·replace H:=if_t hc31 H
      refine zd (za (wd (zk rfl) (wd (zA rfl) (wd (ze xf rfl (o':=4) rfl) (wd (zl zY rfl ((S.blk 2).cell (Term.get_sub _))) ?_)))))
      obtain ⟨hi32,H⟩ := xo H
      refine wd (does_indexF zN rfl rfl (S.onZ 1) (zO hi32).1 (zO hi32).2) ?_
      obtain ⟨s33,hc34,S⟩ := S.viewTerm 1 (zO hi32)
      replace S:=S
      refine wd (zm zD rfl hc34 (Term.len _)) ?_
      obtain ⟨r35,er35,H⟩ := zr H
      replace S:=S.front 1
      obtain ⟨B37,MB37,SB37,back⟩ := S.calln 1 ((.z 1 rfl (.z 0 rfl (.z 3 rfl .nil))))
      refine zu (zq vL) zca (vw zdR (a2:=(at_ PTerm.z a2.sub 0)) SB37 er35) ?_
      rintro _ w36 ⟨rfl,S2⟩
      replace S:=back _ _ _ _ S2 rfl
      clear back S2 SB37
      refine wd (zV rfl) (wd (zt rfl rfl) (wd (zt rfl rfl) (wd (zh rfl) (wd (zh rfl) (zb (zd ?_))))))
      obtain ⟨hi38,H⟩ := xo H
      obtain ⟨r40,er40,H⟩ := zr H
      obtain ⟨s39,S⟩ := S.viewTermC 2 (zO hi38)
      replace S:=S.zs [2,3,4,5,0,1]
      refine un 10 ⟨fun _ _=>True,fun _ _ _=>True,fun i v _=>match i with
       | 0=>v=Value.pointer (some ⟨b4,0,none⟩)
       | 1=>v=s_1.v
       | 2=>v=Value.pointer (some ⟨b2,4,none⟩)
       | 3=>v=s_2.v
       | 4=>v=Value.pointer (some ⟨s_2.blk,s_2.off + Int.toNat 1 * 5,none⟩)
       | 5=>v=Value.agg (Term.C (⟨(at_ PTerm.z a2.sub 1).kind,(at_ PTerm.z a2.sub 1).name,(at_ PTerm.z a2.sub 1).other,(at_ PTerm.z a2.sub 1).form,s39⟩ : Term)).toArray
       | 6=>v=Value.pointer (some ⟨b4,0,none⟩)
       | 7=>v=Value.int .i64 r35.2.1
       | 8=>v=Value.agg (Nd.C r40.2).toArray
       | 9=>v=Value.int .i64 r40.2.l
       | _=>True⟩ (fun L g v=>bif L 8 then (St A N w v [oK (some ⟨b4,0,none⟩) a_0 r40.1,oB b9 T_Nd (Nd.C r5.2),oB b2 zj (Term.C (⟨a2.kind,a2.name,a2.other,a2.form,s_2⟩ : Term))] [zn s33 ((at_ PTerm.z a2.sub 0).sub),fS 2 Hyp.C s_1 a1,zn s_2 a2.sub,oEt,oCl s_2.blk (s_2.off + Int.toNat 1 * 5) (Term.C (⟨(at_ PTerm.z a2.sub 1).kind,(at_ PTerm.z a2.sub 1).name,(at_ PTerm.z a2.sub 1).other,(at_ PTerm.z a2.sub 1).form,s39⟩ : Term)),zn s39 ((at_ PTerm.z a2.sub 1).sub)]) else (St A N w v [oK (some ⟨b4,0,none⟩) a_0 r35.1,oB b9 T_Nd (Nd.C r5.2),oB b2 zj (Term.C (⟨a2.kind,a2.name,a2.other,a2.form,s_2⟩ : Term))] [zn s33 ((at_ PTerm.z a2.sub 0).sub),fS 2 Hyp.C s_1 a1,zn s_2 a2.sub,oEt,oCl s_2.blk (s_2.off + Int.toNat 1 * 5) (Term.C (⟨(at_ PTerm.z a2.sub 1).kind,(at_ PTerm.z a2.sub 1).name,(at_ PTerm.z a2.sub 1).other,(at_ PTerm.z a2.sub 1).form,s39⟩ : Term)),zn s39 ((at_ PTerm.z a2.sub 1).sub)])) hmix zcd (fun _ _ _ _ _ _ _ hv=>hv) (fun g=>S.ext (Ext.drawn _)) ⟨?_,?_,?_,?_,?_,?_,?_,?_,?_,?_,trivial⟩ ?_
      ·rintro L g v hL hcl hclo hT 
       cases hl8:L 8 with
       | true =>
        simp only [hl8,cond_true,cond_false] at hT
        replace S:=hT
        refine wd (zk rfl) ?_
        exact zb (ob4 trivial rfl (by simp only [zp (L:=L) (i:=0) (j:=8) rfl,hl8,cond_true,cond_false]; exact S))
       | false =>
        simp only [hl8,cond_true,cond_false] at hT
        replace S:=hT
        refine wd (zk rfl) ?_
        exact zb (ob4 trivial rfl (by simp only [zp (L:=L) (i:=0) (j:=8) rfl,hl8,cond_true,cond_false]; exact S))
      ·rintro L g v hL hcl hclo hT 
       cases hl8:L 8 with
       | true =>
        simp only [hl8,cond_true,cond_false] at hT
        replace S:=hT
        refine wd (zA rfl) ?_
        exact zb (ob4 trivial rfl (by simp only [zp (L:=L) (i:=1) (j:=8) rfl,hl8,cond_true,cond_false]; exact S))
       | false =>
        simp only [hl8,cond_true,cond_false] at hT
        replace S:=hT
        refine wd (zA rfl) ?_
        exact zb (ob4 trivial rfl (by simp only [zp (L:=L) (i:=1) (j:=8) rfl,hl8,cond_true,cond_false]; exact S))
      ·rintro L g v hL hcl hclo hT 
       cases hl8:L 8 with
       | true =>
        simp only [hl8,cond_true,cond_false] at hT
        replace S:=hT
        refine wd (ze xf rfl (o':=4) rfl) ?_
        exact zb (ob4 trivial rfl (by simp only [zp (L:=L) (i:=2) (j:=8) rfl,hl8,cond_true,cond_false]; exact S))
       | false =>
        simp only [hl8,cond_true,cond_false] at hT
        replace S:=hT
        refine wd (ze xf rfl (o':=4) rfl) ?_
        exact zb (ob4 trivial rfl (by simp only [zp (L:=L) (i:=2) (j:=8) rfl,hl8,cond_true,cond_false]; exact S))
      ·rintro L g v hL hcl hclo hT hv2
       cases hl8:L 8 with
       | true =>
        simp only [hl8,cond_true,cond_false] at hT
        replace S:=hT
        refine wd (zl zY hv2 ((S.blk 2).cell (Term.get_sub _))) ?_
        exact zb (ob4 trivial rfl (by simp only [zp (L:=L) (i:=3) (j:=8) rfl,hl8,cond_true,cond_false]; exact S))
       | false =>
        simp only [hl8,cond_true,cond_false] at hT
        replace S:=hT
        refine wd (zl zY hv2 ((S.blk 2).cell (Term.get_sub _))) ?_
        exact zb (ob4 trivial rfl (by simp only [zp (L:=L) (i:=3) (j:=8) rfl,hl8,cond_true,cond_false]; exact S))
      ·rintro L g v hL hcl hclo hT hv3
       cases hl8:L 8 with
       | true =>
        simp only [hl8,cond_true,cond_false] at hT
        replace S:=hT
        refine wd (does_indexF zN hv3 rfl (S.onZ 2) (zO hi38).1 (zO hi38).2) ?_
        exact zb (ob4 trivial rfl (by simp only [zp (L:=L) (i:=4) (j:=8) rfl,hl8,cond_true,cond_false]; exact S))
       | false =>
        simp only [hl8,cond_true,cond_false] at hT
        replace S:=hT
        refine wd (does_indexF zN hv3 rfl (S.onZ 2) (zO hi38).1 (zO hi38).2) ?_
        exact zb (ob4 trivial rfl (by simp only [zp (L:=L) (i:=4) (j:=8) rfl,hl8,cond_true,cond_false]; exact S))
      ·rintro L g v hL hcl hclo hT hv4
       cases hl8:L 8 with
       | true =>
        simp only [hl8,cond_true,cond_false] at hT
        replace S:=hT
        refine wd (zm zD hv4 (S.cl 4) (Term.len _)) ?_
        exact zb (ob4 trivial rfl (by simp only [zp (L:=L) (i:=5) (j:=8) rfl,hl8,cond_true,cond_false]; exact S))
       | false =>
        simp only [hl8,cond_true,cond_false] at hT
        replace S:=hT
        refine wd (zm zD hv4 (S.cl 4) (Term.len _)) ?_
        exact zb (ob4 trivial rfl (by simp only [zp (L:=L) (i:=5) (j:=8) rfl,hl8,cond_true,cond_false]; exact S))
      ·rintro L g v hL hcl hclo hT 
       have hl8:L 8=false:=by cases h:L 8 with | false=>rfl | true=>exact absurd (hclo 8 6 h zcd) (by rw [hL]; decide)
       simp only [hl8,cond_true,cond_false] at hT
       replace S:=hT
       refine wd (zk rfl) ?_
       exact zb (ob4 trivial rfl (by simp only [zp (L:=L) (i:=6) (j:=8) rfl,hl8,cond_true,cond_false]; exact S))
      ·rintro L g v hL hcl hclo hT 
       have hl8:L 8=false:=by cases h:L 8 with | false=>rfl | true=>exact absurd (hclo 8 7 h zcd) (by rw [hL]; decide)
       simp only [hl8,cond_true,cond_false] at hT
       replace S:=hT
       refine wd (zg rfl) ?_
       exact zb (ob4 trivial rfl (by simp only [zp (L:=L) (i:=7) (j:=8) rfl,hl8,cond_true,cond_false]; exact S))
      ·rintro L g v hL hcl hclo hT hv6 hv7
       have hl8:L 8=false:=hL
       simp only [hl8,cond_true,cond_false] at hT
       replace S:=hT
       obtain ⟨B47,MB47,SB47,back⟩ := S.calln 1 ((.nil))
       refine zu (zK uG (zM hv6 (zM hv7 rfl))) zca (uM SB47 er40) ?_
       rintro _ w46 ⟨rfl,S2⟩
       replace S:=back _ _ _ _ S2 rfl
       clear back S2 SB47
       exact zb (ob4 trivial rfl (by simp only [y1 (L:=L) (i:=8),cond_true,cond_false]; exact S))
      ·rintro L g v hL hcl hclo hT hv8
       have hl8:L 8=true:=hcl 8 zcd
       simp only [hl8,cond_true,cond_false] at hT
       replace S:=hT
       refine wd (does_field fv_Nd_l zR hv8 (Nd.get_l _)) ?_
       exact zb (ob4 trivial rfl (by simp only [zp (L:=L) (i:=9) (j:=8) rfl,hl8,cond_true,cond_false]; exact S))
      rintro L g w48 hLm hT hv49_0 hv49_1 hv49_2 hv49_3 hv49_4 hv49_5 hv49_6 hv49_7 hv49_8 hv49_9
      have hLt : ∀ j,j < 10→L j=true:=fun j hj=>by rw [hLm]; exact decide_eq_true hj
      simp only [hLt 8 zca,cond_true] at hT
      replace S:=hT
      replace S:=S
      obtain ⟨r50,er50,H⟩ := zr H
      obtain ⟨B52,MB52,SB52,back⟩ := S.calln 1 ((.z 1 rfl (.z 5 rfl (.z 3 rfl .nil))))
      refine zu (zK yw (zM hv49_0 (zM hv49_1 (zM hv49_5 (zM hv49_9 rfl))))) zca (yj zdR (a2:=(at_ PTerm.z a2.sub 1)) SB52 er50) ?_
      rintro _ w51 ⟨rfl,S2⟩
      replace S:=back _ _ _ _ S2 rfl
      clear back S2 SB52
      refine wd (zh rfl) (zb (za (wd (zk rfl) (wd (zg rfl) (wd (zg rfl) ?_)))))
      obtain ⟨r53,er53,H⟩ := zr H
      obtain ⟨B55,MB55,SB55,back⟩ := S.calln 1 ((.nil))
      refine zu (zq xi) zca (xj SB55 er53) ?_
      rintro _ w54 ⟨rfl,S2⟩
      replace S:=back _ _ _ _ S2 rfl
      clear back S2 SB55
      refine zb ?_
      replace S:=S.arr [1,0,2] [1,2,3]
      obtain rfl:=zce H
      exact ⟨rfl,(by repeat first | exact Dif.refl _ _ | exact Dif.self _ _ _ | refine Dif.upd ?_ rfl _ | refine Dif.mask ?_ rfl _),S⟩
     ·replace H:=if_f hc31 H
      refine zd (za (wd (zU rfl rfl) (wd (zo rfl) (zb ?_))))
      refine zG rfl (fun hc56=>?_) (fun hc56=>?_)
      ·replace H:=if_t hc56 H
       refine zd ?_
       refine yz 8 (Ext w10) hmix zcd zcd (Ext.drawn _) (zy (fun v K=>zk rfl) (zy (fun v K=>zA rfl) (zy (fun v K=>ze xf rfl (o':=4) rfl) (zy (fun v K=>zl zY rfl (((S.ext K).blk 2).cell (Term.get_sub _))) ?_))))
       obtain ⟨hi57,H⟩ := xo H
       refine zy (fun v K=>does_indexF zN rfl rfl ((S.ext K).onZ 1) (zO hi57).1 (zO hi57).2) ?_
       obtain ⟨s58,hc59,S⟩ := S.viewTerm 1 (zO hi57)
       replace S:=S
       refine zy (fun v K=>zm zD rfl (hc59.chg K (fun x=>x)) (Term.len _)) (zy (fun v K=>ze yY rfl (o':=2) rfl) (zy (fun v K=>zl zR rfl (((S.ext K).blk 0).cell (Nd.get_l _))) ?_))
       refine vD fun w60 K=>?_
       replace S:=S.ext K
       clear K
       obtain ⟨r61,er61,H⟩ := zr H
       replace S:=S.front 1
       obtain ⟨B63,MB63,SB63,back⟩ := S.calln 1 ((.z 1 rfl (.z 0 rfl (.z 3 rfl .nil))))
       refine zu (zq yw) zca (yj zdR (a2:=(at_ PTerm.z a2.sub 0)) SB63 er61) ?_
       rintro _ w62 ⟨rfl,S2⟩
       replace S:=back _ _ _ _ S2 rfl
       clear back S2 SB63
       refine wd (zh rfl) (zb (zd ?_))
       refine yz 8 (Ext w62) hmix zcd zcd (Ext.drawn _) (zy (fun v K=>zk rfl) (zy (fun v K=>zA rfl) (zy (fun v K=>ze xf rfl (o':=4) rfl) (zy (fun v K=>zl zY rfl (((S.ext K).blk 2).cell (Term.get_sub _))) ?_))))
       obtain ⟨hi64,H⟩ := xo H
       refine zy (fun v K=>does_indexF zN rfl rfl ((S.ext K).onZ 2) (zO hi64).1 (zO hi64).2) ?_
       obtain ⟨s65,hc66,S⟩ := S.viewTerm 2 (zO hi64)
       replace S:=S
       refine zy (fun v K=>zm zD rfl (hc66.chg K (fun x=>x)) (Term.len _)) (zy (fun v K=>ze yS rfl (o':=3) rfl) (zy (fun v K=>zl zR rfl (((S.ext K).blk 1).cell (Nd.get_r _))) ?_))
       refine vD fun w67 K=>?_
       replace S:=S.ext K
       clear K
       obtain ⟨r68,er68,H⟩ := zr H
       obtain ⟨B70,MB70,SB70,back⟩ := S.calln 1 ((.z 2 rfl (.z 0 rfl (.z 4 rfl .nil))))
       refine zu (zq yw) zca (yj zdR (a2:=(at_ PTerm.z a2.sub 1)) SB70 er68) ?_
       rintro _ w69 ⟨rfl,S2⟩
       replace S:=back _ _ _ _ S2 rfl
       clear back S2 SB70
       refine wd (zh rfl) (zb (zd ?_))
       obtain ⟨r71,er71,H⟩ := zr H
       obtain ⟨r74,er74,H⟩ := zr H
       refine un 10 ⟨fun _ _=>True,fun _ _ _=>True,fun i v _=>match i with
        | 0=>v=Value.pointer (some ⟨b4,0,none⟩)
        | 1=>v=Value.pointer (some ⟨b4,0,none⟩)
        | 2=>v=Value.pointer (some ⟨b9,2,none⟩)
        | 3=>v=Value.int .i64 r5.2.l
        | 4=>v=Value.pointer (some ⟨b4,0,none⟩)
        | 5=>v=Value.pointer (some ⟨b9,3,none⟩)
        | 6=>v=Value.int .i64 r5.2.r
        | 7=>v=Value.int .i64 a3
        | 8=>v=Value.int .i64 r71.2
        | 9=>v=Value.int .i64 r74.2
        | _=>True⟩ (fun L g v=>bif L 9 then (St A N w v [oK (some ⟨b4,0,none⟩) a_0 r74.1,oB b9 T_Nd (Nd.C r5.2),oB b2 zj (Term.C (⟨a2.kind,a2.name,a2.other,a2.form,s_2⟩ : Term))] [zn s65 ((at_ PTerm.z a2.sub 1).sub),zn s58 ((at_ PTerm.z a2.sub 0).sub),fS 2 Hyp.C s_1 a1,zn s_2 a2.sub,oEt]) else bif L 8 then (St A N w v [oK (some ⟨b4,0,none⟩) a_0 r71.1,oB b9 T_Nd (Nd.C r5.2),oB b2 zj (Term.C (⟨a2.kind,a2.name,a2.other,a2.form,s_2⟩ : Term))] [zn s65 ((at_ PTerm.z a2.sub 1).sub),zn s58 ((at_ PTerm.z a2.sub 0).sub),fS 2 Hyp.C s_1 a1,zn s_2 a2.sub,oEt]) else (St A N w v [oK (some ⟨b4,0,none⟩) a_0 r68.1,oB b9 T_Nd (Nd.C r5.2),oB b2 zj (Term.C (⟨a2.kind,a2.name,a2.other,a2.form,s_2⟩ : Term))] [zn s65 ((at_ PTerm.z a2.sub 1).sub),zn s58 ((at_ PTerm.z a2.sub 0).sub),fS 2 Hyp.C s_1 a1,zn s_2 a2.sub,oEt])) hmix zcd (fun _ _ _ _ _ _ _ hv=>hv) (fun g=>S.ext (Ext.drawn _)) ⟨?_,?_,?_,?_,?_,?_,?_,?_,?_,?_,trivial⟩ ?_
       ·rintro L g v hL hcl hclo hT 
        cases hl9:L 9 with
        | true =>
         simp only [hl9,cond_true,cond_false] at hT
         replace S:=hT
         refine wd (zk rfl) ?_
         exact zb (ob4 trivial rfl (by simp only [zp (L:=L) (i:=0) (j:=8) rfl,zp (L:=L) (i:=0) (j:=9) rfl,hl9,cond_true,cond_false]; exact S))
        | false =>
         cases hl8:L 8 with
         | true =>
          simp only [hl8,hl9,cond_true,cond_false] at hT
          replace S:=hT
          refine wd (zk rfl) ?_
          exact zb (ob4 trivial rfl (by simp only [zp (L:=L) (i:=0) (j:=8) rfl,zp (L:=L) (i:=0) (j:=9) rfl,hl8,hl9,cond_true,cond_false]; exact S))
         | false =>
          simp only [hl8,hl9,cond_true,cond_false] at hT
          replace S:=hT
          refine wd (zk rfl) ?_
          exact zb (ob4 trivial rfl (by simp only [zp (L:=L) (i:=0) (j:=8) rfl,zp (L:=L) (i:=0) (j:=9) rfl,hl8,hl9,cond_true,cond_false]; exact S))
       ·rintro L g v hL hcl hclo hT 
        have hl9:L 9=false:=by cases h:L 9 with | false=>rfl | true=>exact absurd (hclo 9 1 h zcd) (by rw [hL]; decide)
        cases hl8:L 8 with
        | true =>
         simp only [hl8,hl9,cond_true,cond_false] at hT
         replace S:=hT
         refine wd (zk rfl) ?_
         exact zb (ob4 trivial rfl (by simp only [zp (L:=L) (i:=1) (j:=8) rfl,zp (L:=L) (i:=1) (j:=9) rfl,hl8,hl9,cond_true,cond_false]; exact S))
        | false =>
         simp only [hl8,hl9,cond_true,cond_false] at hT
         replace S:=hT
         refine wd (zk rfl) ?_
         exact zb (ob4 trivial rfl (by simp only [zp (L:=L) (i:=1) (j:=8) rfl,zp (L:=L) (i:=1) (j:=9) rfl,hl8,hl9,cond_true,cond_false]; exact S))
       ·rintro L g v hL hcl hclo hT 
        have hl9:L 9=false:=by cases h:L 9 with | false=>rfl | true=>exact absurd (hclo 9 2 h zcd) (by rw [hL]; decide)
        cases hl8:L 8 with
        | true =>
         simp only [hl8,hl9,cond_true,cond_false] at hT
         replace S:=hT
         refine wd (ze yY rfl (o':=2) rfl) ?_
         exact zb (ob4 trivial rfl (by simp only [zp (L:=L) (i:=2) (j:=8) rfl,zp (L:=L) (i:=2) (j:=9) rfl,hl8,hl9,cond_true,cond_false]; exact S))
        | false =>
         simp only [hl8,hl9,cond_true,cond_false] at hT
         replace S:=hT
         refine wd (ze yY rfl (o':=2) rfl) ?_
         exact zb (ob4 trivial rfl (by simp only [zp (L:=L) (i:=2) (j:=8) rfl,zp (L:=L) (i:=2) (j:=9) rfl,hl8,hl9,cond_true,cond_false]; exact S))
       ·rintro L g v hL hcl hclo hT hv2
        have hl9:L 9=false:=by cases h:L 9 with | false=>rfl | true=>exact absurd (hclo 9 3 h zcd) (by rw [hL]; decide)
        cases hl8:L 8 with
        | true =>
         simp only [hl8,hl9,cond_true,cond_false] at hT
         replace S:=hT
         refine wd (zl zR hv2 ((S.blk 1).cell (Nd.get_l _))) ?_
         exact zb (ob4 trivial rfl (by simp only [zp (L:=L) (i:=3) (j:=8) rfl,zp (L:=L) (i:=3) (j:=9) rfl,hl8,hl9,cond_true,cond_false]; exact S))
        | false =>
         simp only [hl8,hl9,cond_true,cond_false] at hT
         replace S:=hT
         refine wd (zl zR hv2 ((S.blk 1).cell (Nd.get_l _))) ?_
         exact zb (ob4 trivial rfl (by simp only [zp (L:=L) (i:=3) (j:=8) rfl,zp (L:=L) (i:=3) (j:=9) rfl,hl8,hl9,cond_true,cond_false]; exact S))
       ·rintro L g v hL hcl hclo hT 
        have hl8:L 8=false:=by cases h:L 8 with | false=>rfl | true=>exact absurd (hclo 8 4 h zcd) (by rw [hL]; decide)
        have hl9:L 9=false:=by cases h:L 9 with | false=>rfl | true=>exact absurd (hclo 9 4 h zcd) (by rw [hL]; decide)
        simp only [hl8,hl9,cond_true,cond_false] at hT
        replace S:=hT
        refine wd (zk rfl) ?_
        exact zb (ob4 trivial rfl (by simp only [zp (L:=L) (i:=4) (j:=8) rfl,zp (L:=L) (i:=4) (j:=9) rfl,hl8,hl9,cond_true,cond_false]; exact S))
       ·rintro L g v hL hcl hclo hT 
        have hl8:L 8=false:=by cases h:L 8 with | false=>rfl | true=>exact absurd (hclo 8 5 h zcd) (by rw [hL]; decide)
        have hl9:L 9=false:=by cases h:L 9 with | false=>rfl | true=>exact absurd (hclo 9 5 h zcd) (by rw [hL]; decide)
        simp only [hl8,hl9,cond_true,cond_false] at hT
        replace S:=hT
        refine wd (ze yS rfl (o':=3) rfl) ?_
        exact zb (ob4 trivial rfl (by simp only [zp (L:=L) (i:=5) (j:=8) rfl,zp (L:=L) (i:=5) (j:=9) rfl,hl8,hl9,cond_true,cond_false]; exact S))
       ·rintro L g v hL hcl hclo hT hv5
        have hl8:L 8=false:=by cases h:L 8 with | false=>rfl | true=>exact absurd (hclo 8 6 h zcd) (by rw [hL]; decide)
        have hl9:L 9=false:=by cases h:L 9 with | false=>rfl | true=>exact absurd (hclo 9 6 h zcd) (by rw [hL]; decide)
        simp only [hl8,hl9,cond_true,cond_false] at hT
        replace S:=hT
        refine wd (zl zR hv5 ((S.blk 1).cell (Nd.get_r _))) ?_
        exact zb (ob4 trivial rfl (by simp only [zp (L:=L) (i:=6) (j:=8) rfl,zp (L:=L) (i:=6) (j:=9) rfl,hl8,hl9,cond_true,cond_false]; exact S))
       ·rintro L g v hL hcl hclo hT 
        have hl8:L 8=false:=by cases h:L 8 with | false=>rfl | true=>exact absurd (hclo 8 7 h zcd) (by rw [hL]; decide)
        have hl9:L 9=false:=by cases h:L 9 with | false=>rfl | true=>exact absurd (hclo 9 7 h zcd) (by rw [hL]; decide)
        simp only [hl8,hl9,cond_true,cond_false] at hT
        replace S:=hT
        refine wd (zg rfl) ?_
        exact zb (ob4 trivial rfl (by simp only [zp (L:=L) (i:=7) (j:=8) rfl,zp (L:=L) (i:=7) (j:=9) rfl,hl8,hl9,cond_true,cond_false]; exact S))
       ·rintro L g v hL hcl hclo hT hv4 hv6 hv7
        have hl8:L 8=false:=hL
        have hl9:L 9=false:=by cases h:L 9 with | false=>rfl | true=>exact absurd (hclo 9 8 h zcd) (by rw [hL]; decide)
        simp only [hl8,hl9,cond_true,cond_false] at hT
        replace S:=hT
        obtain ⟨B79,MB79,SB79,back⟩ := S.calln 1 ((.nil))
        refine zu (zK z1 (zM hv4 (zM hv6 (zM hv7 rfl)))) zca (z7 SB79 er71) ?_
        rintro _ w78 ⟨rfl,S2⟩
        replace S:=back _ _ _ _ S2 rfl
        clear back S2 SB79
        exact zb (ob4 trivial rfl (by simp only [zp (L:=L) (i:=8) (j:=9) rfl,y1 (L:=L) (i:=8),hl9,cond_true,cond_false]; exact S))
       ·rintro L g v hL hcl hclo hT hv1 hv3 hv8
        have hl8:L 8=true:=hcl 8 zcd
        have hl9:L 9=false:=hL
        simp only [hl8,hl9,cond_true,cond_false] at hT
        replace S:=hT
        obtain ⟨B82,MB82,SB82,back⟩ := S.calln 1 ((.nil))
        refine zu (zK z1 (zM hv1 (zM hv3 (zM hv8 rfl)))) zca (z7 SB82 er74) ?_
        rintro _ w81 ⟨rfl,S2⟩
        replace S:=back _ _ _ _ S2 rfl
        clear back S2 SB82
        exact zb (ob4 trivial rfl (by simp only [zp (L:=L) (i:=9) (j:=8) rfl,y1 (L:=L) (i:=9),cond_true,cond_false]; exact S))
       rintro L g w83 hLm hT hv84_0 hv84_1 hv84_2 hv84_3 hv84_4 hv84_5 hv84_6 hv84_7 hv84_8 hv84_9
       have hLt : ∀ j,j < 10→L j=true:=fun j hj=>by rw [hLm]; exact decide_eq_true hj
       simp only [hLt 9 zca,cond_true] at hT
       replace S:=hT
       replace S:=S
       obtain ⟨r85,er85,H⟩ := zr H
       obtain ⟨B87,MB87,SB87,back⟩ := S.calln 1 ((.nil))
       refine zu (zK xU (zM hv84_0 (zM rfl (zM hv84_9 rfl)))) zca (xV SB87 er85) ?_
       rintro _ w86 ⟨rfl,S2⟩
       replace S:=back _ _ _ _ S2 rfl
       clear back S2 SB87
       refine wd (zh rfl) (zb (za (wd (zk rfl) (wd (zk rfl) (wd (zg rfl) (wd (zg rfl) ?_))))))
       obtain ⟨r88,er88,H⟩ := zr H
       obtain ⟨B90,MB90,SB90,back⟩ := S.calln 1 ((.nil))
       refine zu (zq xi) zca (xj SB90 er88) ?_
       rintro _ w89 ⟨rfl,S2⟩
       replace S:=back _ _ _ _ S2 rfl
       clear back S2 SB90
       refine wd (zg rfl) ?_
       obtain ⟨r91,er91,H⟩ := zr H
       obtain ⟨B93,MB93,SB93,back⟩ := S.calln 1 ((.nil))
       refine zu (zq xi) zca (xj SB93 er91) ?_
       rintro _ w92 ⟨rfl,S2⟩
       replace S:=back _ _ _ _ S2 rfl
       clear back S2 SB93
       refine zb ?_
       replace S:=S.arr [1,0,2] [2,3,4]
       obtain rfl:=zce H
       exact ⟨rfl,(by repeat first | exact Dif.refl _ _ | exact Dif.self _ _ _ | refine Dif.upd ?_ rfl _ | refine Dif.mask ?_ rfl _),S⟩
      ·replace H:=if_f hc56 H
       refine zd (za (wd (zU rfl rfl) (wd (zo rfl) (zb ?_))))
       refine zG rfl (fun hc94=>?_) (fun hc94=>?_)
       ·replace H:=if_t hc94 H
        refine za (wd (zk rfl) (wd (zA rfl) (wd (zm zD rfl ((S.blk 2).all _ (Term.len _)) (Term.len _)) (wd (zg rfl) ?_))))
        obtain ⟨r95,er95,H⟩ := zr H
        replace S:=S.front 1
        obtain ⟨B97,MB97,SB97,back⟩ := S.calln 1 ((.z 0 rfl (.z 1 rfl (.z 2 rfl .nil))))
        refine zu (zq ux) zca (ui zdR (a2:=a2) SB97 er95) ?_
        rintro _ w96 ⟨rfl,S2⟩
        replace S:=back _ _ _ _ S2 rfl
        clear back S2 SB97
        refine zb ?_
        replace S:=S.arr [1,0,2] [0,1,2]
        obtain rfl:=zce H
        exact ⟨rfl,(by repeat first | exact Dif.refl _ _ | exact Dif.self _ _ _ | refine Dif.upd ?_ rfl _ | refine Dif.mask ?_ rfl _),S⟩
       ·replace H:=if_f hc94 H
        refine zd (za (wd (zU rfl rfl) (wd (zo rfl) (zb ?_))))
        refine zG rfl (fun hc98=>?_) (fun hc98=>?_)
        ·replace H:=if_t hc98 H
         refine za (wd (zk rfl) (wd (zA rfl) (wd (zm zD rfl ((S.blk 2).all _ (Term.len _)) (Term.len _)) (wd (zg rfl) ?_))))
         obtain ⟨r99,er99,H⟩ := zr H
         replace S:=S.front 1
         obtain ⟨B101,MB101,SB101,back⟩ := S.calln 1 ((.z 0 rfl (.z 1 rfl (.z 2 rfl .nil))))
         refine zu (zq ux) zca (ui zdR (a2:=a2) SB101 er99) ?_
         rintro _ w100 ⟨rfl,S2⟩
         replace S:=back _ _ _ _ S2 rfl
         clear back S2 SB101
         refine zb ?_
         replace S:=S.arr [1,0,2] [0,1,2]
         obtain rfl:=zce H
         exact ⟨rfl,(by repeat first | exact Dif.refl _ _ | exact Dif.self _ _ _ | refine Dif.upd ?_ rfl _ | refine Dif.mask ?_ rfl _),S⟩
        ·replace H:=if_f hc98 H
         refine zd (za (wd (zU rfl rfl) (wd (zo rfl) (zb ?_))))
         refine zG rfl (fun hc102=>?_) (fun hc102=>?_)
         ·replace H:=if_t hc102 H
          refine za (wd (zk rfl) (wd (zA rfl) (wd (zm zD rfl ((S.blk 2).all _ (Term.len _)) (Term.len _)) (wd (zg rfl) ?_))))
          obtain ⟨r103,er103,H⟩ := zr H
          replace S:=S.front 1
          obtain ⟨B105,MB105,SB105,back⟩ := S.calln 1 ((.z 0 rfl (.z 1 rfl (.z 2 rfl .nil))))
          refine zu (zq ux) zca (ui zdR (a2:=a2) SB105 er103) ?_
          rintro _ w104 ⟨rfl,S2⟩
          replace S:=back _ _ _ _ S2 rfl
          clear back S2 SB105
          refine zb ?_
          replace S:=S.arr [1,0,2] [0,1,2]
          obtain rfl:=zce H
          exact ⟨rfl,(by repeat first | exact Dif.refl _ _ | exact Dif.self _ _ _ | refine Dif.upd ?_ rfl _ | refine Dif.mask ?_ rfl _),S⟩
         ·replace H:=if_f hc102 H
          refine zd (za (wd (zU rfl rfl) (wd (zo rfl) (zb ?_))))
          refine zG rfl (fun hc106=>?_) (fun hc106=>?_)
          ·replace H:=if_t hc106 H
           refine zd ?_
           refine yz 8 (Ext w10) hmix zcd zcd (Ext.drawn _) (zy (fun v K=>zk rfl) (zy (fun v K=>zA rfl) (zy (fun v K=>ze xf rfl (o':=4) rfl) (zy (fun v K=>zl zY rfl (((S.ext K).blk 2).cell (Term.get_sub _))) ?_))))
           obtain ⟨hi107,H⟩ := xo H
           refine zy (fun v K=>does_indexF zN rfl rfl ((S.ext K).onZ 1) (zO hi107).1 (zO hi107).2) ?_
           obtain ⟨s108,hc109,S⟩ := S.viewTerm 1 (zO hi107)
           replace S:=S
           refine zy (fun v K=>zm zD rfl (hc109.chg K (fun x=>x)) (Term.len _)) (zy (fun v K=>ze yY rfl (o':=2) rfl) (zy (fun v K=>zl zR rfl (((S.ext K).blk 0).cell (Nd.get_l _))) ?_))
           refine vD fun w110 K=>?_
           replace S:=S.ext K
           clear K
           obtain ⟨r111,er111,H⟩ := zr H
           replace S:=S.front 1
           obtain ⟨B113,MB113,SB113,back⟩ := S.calln 1 ((.z 1 rfl (.z 0 rfl (.z 3 rfl .nil))))
           refine zu (zq yw) zca (yj zdR (a2:=(at_ PTerm.z a2.sub 0)) SB113 er111) ?_
           rintro _ w112 ⟨rfl,S2⟩
           replace S:=back _ _ _ _ S2 rfl
           clear back S2 SB113
           refine wd (zh rfl) (zb (za (wd (zk rfl) (wd (zk rfl) (wd (zk rfl) (wd (ze yY rfl (o':=2) rfl) (wd (zl zR rfl ((S.blk 1).cell (Nd.get_l _))) (wd (zg rfl) ?_))))))))
           obtain ⟨r114,er114,H⟩ := zr H
           obtain ⟨B116,MB116,SB116,back⟩ := S.calln 1 ((.nil))
           refine zu (zq z1) zca (z7 SB116 er114) ?_
           rintro _ w115 ⟨rfl,S2⟩
           replace S:=back _ _ _ _ S2 rfl
           clear back S2 SB116
           obtain ⟨r117,er117,H⟩ := zr H
           obtain ⟨B119,MB119,SB119,back⟩ := S.calln 1 ((.nil))
           refine zu (zq xU) zca (xV SB119 er117) ?_
           rintro _ w118 ⟨rfl,S2⟩
           replace S:=back _ _ _ _ S2 rfl
           clear back S2 SB119
           refine wd (zg rfl) ?_
           obtain ⟨r120,er120,H⟩ := zr H
           obtain ⟨B122,MB122,SB122,back⟩ := S.calln 1 ((.nil))
           refine zu (zq xi) zca (xj SB122 er120) ?_
           rintro _ w121 ⟨rfl,S2⟩
           replace S:=back _ _ _ _ S2 rfl
           clear back S2 SB122
           refine zb ?_
           replace S:=S.arr [1,0,2] [1,2,3]
           obtain rfl:=zce H
           exact ⟨rfl,(by repeat first | exact Dif.refl _ _ | exact Dif.self _ _ _ | refine Dif.upd ?_ rfl _ | refine Dif.mask ?_ rfl _),S⟩
          ·replace H:=if_f hc106 H
           refine zd (za (wd (zU rfl rfl) (wd (zo rfl) (zb ?_))))
           refine zG rfl (fun hc123=>?_) (fun hc123=>?_)
           ·replace H:=if_t hc123 H
            refine zd ?_
            refine yz 8 (Ext w10) hmix zcd zcd (Ext.drawn _) (zy (fun v K=>zk rfl) (zy (fun v K=>zA rfl) (zy (fun v K=>ze xf rfl (o':=4) rfl) (zy (fun v K=>zl zY rfl (((S.ext K).blk 2).cell (Term.get_sub _))) ?_))))
            obtain ⟨hi124,H⟩ := xo H
            refine zy (fun v K=>does_indexF zN rfl rfl ((S.ext K).onZ 1) (zO hi124).1 (zO hi124).2) ?_
            obtain ⟨s125,hc126,S⟩ := S.viewTerm 1 (zO hi124)
            replace S:=S
            refine zy (fun v K=>zm zD rfl (hc126.chg K (fun x=>x)) (Term.len _)) (zy (fun v K=>ze yS rfl (o':=3) rfl) (zy (fun v K=>zl zR rfl (((S.ext K).blk 0).cell (Nd.get_r _))) ?_))
            refine vD fun w127 K=>?_
            replace S:=S.ext K
            clear K
            obtain ⟨r128,er128,H⟩ := zr H
            replace S:=S.front 1
            obtain ⟨B130,MB130,SB130,back⟩ := S.calln 1 ((.z 1 rfl (.z 0 rfl (.z 3 rfl .nil))))
            refine zu (zq yw) zca (yj zdR (a2:=(at_ PTerm.z a2.sub 0)) SB130 er128) ?_
            rintro _ w129 ⟨rfl,S2⟩
            replace S:=back _ _ _ _ S2 rfl
            clear back S2 SB130
            refine wd (zh rfl) (zb (za (wd (zk rfl) (wd (zk rfl) (wd (zk rfl) (wd (ze yS rfl (o':=3) rfl) (wd (zl zR rfl ((S.blk 1).cell (Nd.get_r _))) (wd (zg rfl) ?_))))))))
            obtain ⟨r131,er131,H⟩ := zr H
            obtain ⟨B133,MB133,SB133,back⟩ := S.calln 1 ((.nil))
            refine zu (zq z1) zca (z7 SB133 er131) ?_
            rintro _ w132 ⟨rfl,S2⟩
            replace S:=back _ _ _ _ S2 rfl
            clear back S2 SB133
            obtain ⟨r134,er134,H⟩ := zr H
            obtain ⟨B136,MB136,SB136,back⟩ := S.calln 1 ((.nil))
            refine zu (zq xU) zca (xV SB136 er134) ?_
            rintro _ w135 ⟨rfl,S2⟩
            replace S:=back _ _ _ _ S2 rfl
            clear back S2 SB136
            refine wd (zg rfl) ?_
            obtain ⟨r137,er137,H⟩ := zr H
            obtain ⟨B139,MB139,SB139,back⟩ := S.calln 1 ((.nil))
            refine zu (zq xi) zca (xj SB139 er137) ?_
            rintro _ w138 ⟨rfl,S2⟩
            replace S:=back _ _ _ _ S2 rfl
            clear back S2 SB139
            refine zb ?_
            replace S:=S.arr [1,0,2] [1,2,3]
            obtain rfl:=zce H
            exact ⟨rfl,(by repeat first | exact Dif.refl _ _ | exact Dif.self _ _ _ | refine Dif.upd ?_ rfl _ | refine Dif.mask ?_ rfl _),S⟩
           ·replace H:=if_f hc123 H
            refine zd (za (wd (zU rfl rfl) (wd (zo rfl) (zb ?_))))
            refine zG rfl (fun hc140=>?_) (fun hc140=>?_)
            ·replace H:=if_t hc140 H
             refine zd (za (wd (zk rfl) (wd (zA rfl) (wd (ze xf rfl (o':=4) rfl) (wd (zl zY rfl ((S.blk 2).cell (Term.get_sub _))) ?_)))))
             obtain ⟨hi141,H⟩ := xo H
             refine wd (does_indexF zN rfl rfl (S.onZ 1) (zO hi141).1 (zO hi141).2) ?_
             obtain ⟨s142,hc143,S⟩ := S.viewTerm 1 (zO hi141)
             replace S:=S
             refine wd (zm zD rfl hc143 (Term.len _)) ?_
             obtain ⟨r144,er144,H⟩ := zr H
             replace S:=S.front 1
             obtain ⟨B146,MB146,SB146,back⟩ := S.calln 1 ((.z 1 rfl (.z 0 rfl (.z 3 rfl .nil))))
             refine zu (zq vL) zca (vw zdR (a2:=(at_ PTerm.z a2.sub 0)) SB146 er144) ?_
             rintro _ w145 ⟨rfl,S2⟩
             replace S:=back _ _ _ _ S2 rfl
             clear back S2 SB146
             refine wd (zV rfl) (wd (zt rfl rfl) (wd (zt rfl rfl) (wd (zh rfl) (wd (zh rfl) (zb (zd (za (wd (zk rfl) (wd (zg rfl) ?_)))))))))
             obtain ⟨r147,er147,H⟩ := zr H
             obtain ⟨B149,MB149,SB149,back⟩ := S.calln 1 ((.nil))
             refine zu (zq uG) zca (uM SB149 er147) ?_
             rintro _ w148 ⟨rfl,S2⟩
             replace S:=back _ _ _ _ S2 rfl
             clear back S2 SB149
             refine xd uD zca fun b151 w150 hw150=>?_
             replace S:=S.new hw150
             refine zI x7 rfl rfl (S.blk 0) (Nd.len _) (by rw [Nd.len]; decide) (Nd.one _) (zT (Nd.len _)) fun w152 B hw152 zw152=>?_
             replace S:=S.store 0 B hw152
             clear B
             refine zb (zd ?_)
             refine yz 11 (Ext w152) hmix zcd zcd (Ext.drawn _) (zy (fun v K=>zk rfl) (zy (fun v K=>zA rfl) (zy (fun v K=>ze yD rfl (o':=1) rfl) (zy (fun v K=>zl xq rfl (((S.ext K).blk 3).cell (Term.get_name _))) (zy (fun v K=>ze yY rfl (o':=2) rfl) (zy (fun v K=>zl zR rfl (((S.ext K).blk 0).cell (Nd.get_l _))) (zy (fun v K=>ze xf rfl (o':=4) rfl) (zy (fun v K=>zl zY rfl (((S.ext K).blk 3).cell (Term.get_sub _))) ?_))))))))
             obtain ⟨hi153,H⟩ := xo H
             refine zy (fun v K=>does_indexF zN rfl rfl ((S.ext K).onZ 2) (zO hi153).1 (zO hi153).2) ?_
             obtain ⟨s154,hc155,S⟩ := S.viewTerm 2 (zO hi153)
             replace S:=S
             refine zy (fun v K=>zm zD rfl (hc155.chg K (fun x=>x)) (Term.len _)) (zy (fun v K=>zg rfl) ?_)
             refine vD fun w156 K=>?_
             replace S:=S.ext K
             clear K
             obtain ⟨r157,er157,H⟩ := zr H
             replace S:=S.front 1
             obtain ⟨B159,MB159,SB159,back⟩ := S.calln 1 ((.z 2 rfl (.z 0 rfl (.z 4 rfl .nil))))
             refine zu (zq vr) zca (vn zdR (a4:=(at_ PTerm.z a2.sub 1)) SB159 er157) ?_
             rintro _ w158 ⟨rfl,S2⟩
             replace S:=back _ _ _ _ S2 rfl
             clear back S2 SB159
             refine wd (zh rfl) (zb (zd ?_))
             refine yz 11 (Ext w158) hmix zcd zcd (Ext.drawn _) (zy (fun v K=>zk rfl) (zy (fun v K=>zA rfl) (zy (fun v K=>ze vX rfl (o':=2) rfl) (zy (fun v K=>zl xq rfl (((S.ext K).blk 3).cell (Term.get_other _))) (zy (fun v K=>ze yS rfl (o':=3) rfl) (zy (fun v K=>zl zR rfl (((S.ext K).blk 1).cell (Nd.get_r _))) (zy (fun v K=>ze xf rfl (o':=4) rfl) (zy (fun v K=>zl zY rfl (((S.ext K).blk 3).cell (Term.get_sub _))) ?_))))))))
             obtain ⟨hi160,H⟩ := xo H
             refine zy (fun v K=>does_indexF zN rfl rfl ((S.ext K).onZ 3) (zO hi160).1 (zO hi160).2) ?_
             obtain ⟨s161,hc162,S⟩ := S.viewTerm 3 (zO hi160)
             replace S:=S
             refine zy (fun v K=>zm zD rfl (hc162.chg K (fun x=>x)) (Term.len _)) (zy (fun v K=>zg rfl) ?_)
             refine vD fun w163 K=>?_
             replace S:=S.ext K
             clear K
             obtain ⟨r164,er164,H⟩ := zr H
             obtain ⟨B166,MB166,SB166,back⟩ := S.calln 1 ((.z 3 rfl (.z 0 rfl (.z 5 rfl .nil))))
             refine zu (zq vr) zca (vn zdR (a4:=(at_ PTerm.z a2.sub 2)) SB166 er164) ?_
             rintro _ w165 ⟨rfl,S2⟩
             replace S:=back _ _ _ _ S2 rfl
             clear back S2 SB166
             refine wd (zh rfl) (zb (zd ?_))
             obtain ⟨r167,er167,H⟩ := zr H
             refine un 9 ⟨fun _ _=>True,fun _ _ _=>True,fun i v _=>match i with
              | 0=>v=Value.pointer (some ⟨b4,0,none⟩)
              | 1=>v=Value.pointer (some ⟨b151,2,none⟩)
              | 2=>v=Value.int .i64 r147.2.l
              | 3=>v=Value.int .i64 a3
              | 4=>v=Value.int .i64 r167.2
              | 5=>v=Value.pointer (some ⟨b4,0,none⟩)
              | 6=>v=Value.pointer (some ⟨b151,3,none⟩)
              | 7=>v=Value.int .i64 r147.2.r
              | 8=>v=Value.int .i64 a3
              | _=>True⟩ (fun L g v=>bif L 4 then (St A N w v [oK (some ⟨b4,0,none⟩) a_0 r167.1,oB b151 T_Nd (Nd.C r147.2),oB b9 T_Nd (Nd.C r5.2),oB b2 zj (Term.C (⟨a2.kind,a2.name,a2.other,a2.form,s_2⟩ : Term))] [zn s161 ((at_ PTerm.z a2.sub 2).sub),zn s154 ((at_ PTerm.z a2.sub 1).sub),zn s142 ((at_ PTerm.z a2.sub 0).sub),fS 2 Hyp.C s_1 a1,zn s_2 a2.sub,oEt]) else (St A N w v [oK (some ⟨b4,0,none⟩) a_0 r164.1,oB b151 T_Nd (Nd.C r147.2),oB b9 T_Nd (Nd.C r5.2),oB b2 zj (Term.C (⟨a2.kind,a2.name,a2.other,a2.form,s_2⟩ : Term))] [zn s161 ((at_ PTerm.z a2.sub 2).sub),zn s154 ((at_ PTerm.z a2.sub 1).sub),zn s142 ((at_ PTerm.z a2.sub 0).sub),fS 2 Hyp.C s_1 a1,zn s_2 a2.sub,oEt])) hmix zcd (fun _ _ _ _ _ _ _ hv=>hv) (fun g=>S.ext (Ext.drawn _)) ⟨?_,?_,?_,?_,?_,?_,?_,?_,?_,trivial⟩ ?_
             ·rintro L g v hL hcl hclo hT 
              have hl4:L 4=false:=by cases h:L 4 with | false=>rfl | true=>exact absurd (hclo 4 0 h zcd) (by rw [hL]; decide)
              simp only [hl4,cond_true,cond_false] at hT
              replace S:=hT
              refine wd (zk rfl) ?_
              exact zb (ob4 trivial rfl (by simp only [zp (L:=L) (i:=0) (j:=4) rfl,hl4,cond_true,cond_false]; exact S))
             ·rintro L g v hL hcl hclo hT 
              have hl4:L 4=false:=by cases h:L 4 with | false=>rfl | true=>exact absurd (hclo 4 1 h zcd) (by rw [hL]; decide)
              simp only [hl4,cond_true,cond_false] at hT
              replace S:=hT
              refine wd (ze yY rfl (o':=2) rfl) ?_
              exact zb (ob4 trivial rfl (by simp only [zp (L:=L) (i:=1) (j:=4) rfl,hl4,cond_true,cond_false]; exact S))
             ·rintro L g v hL hcl hclo hT hv1
              have hl4:L 4=false:=by cases h:L 4 with | false=>rfl | true=>exact absurd (hclo 4 2 h zcd) (by rw [hL]; decide)
              simp only [hl4,cond_true,cond_false] at hT
              replace S:=hT
              refine wd (zl zR hv1 ((S.blk 1).cell (Nd.get_l _))) ?_
              exact zb (ob4 trivial rfl (by simp only [zp (L:=L) (i:=2) (j:=4) rfl,hl4,cond_true,cond_false]; exact S))
             ·rintro L g v hL hcl hclo hT 
              have hl4:L 4=false:=by cases h:L 4 with | false=>rfl | true=>exact absurd (hclo 4 3 h zcd) (by rw [hL]; decide)
              simp only [hl4,cond_true,cond_false] at hT
              replace S:=hT
              refine wd (zg rfl) ?_
              exact zb (ob4 trivial rfl (by simp only [zp (L:=L) (i:=3) (j:=4) rfl,hl4,cond_true,cond_false]; exact S))
             ·rintro L g v hL hcl hclo hT hv0 hv2 hv3
              have hl4:L 4=false:=hL
              simp only [hl4,cond_true,cond_false] at hT
              replace S:=hT
              obtain ⟨B172,MB172,SB172,back⟩ := S.calln 1 ((.nil))
              refine zu (zK z1 (zM hv0 (zM hv2 (zM hv3 rfl)))) zca (z7 SB172 er167) ?_
              rintro _ w171 ⟨rfl,S2⟩
              replace S:=back _ _ _ _ S2 rfl
              clear back S2 SB172
              exact zb (ob4 trivial rfl (by simp only [y1 (L:=L) (i:=4),cond_true,cond_false]; exact S))
             ·rintro L g v hL hcl hclo hT 
              cases hl4:L 4 with
              | true =>
               simp only [hl4,cond_true,cond_false] at hT
               replace S:=hT
               refine wd (zk rfl) ?_
               exact zb (ob4 trivial rfl (by simp only [zp (L:=L) (i:=5) (j:=4) rfl,hl4,cond_true,cond_false]; exact S))
              | false =>
               simp only [hl4,cond_true,cond_false] at hT
               replace S:=hT
               refine wd (zk rfl) ?_
               exact zb (ob4 trivial rfl (by simp only [zp (L:=L) (i:=5) (j:=4) rfl,hl4,cond_true,cond_false]; exact S))
             ·rintro L g v hL hcl hclo hT 
              cases hl4:L 4 with
              | true =>
               simp only [hl4,cond_true,cond_false] at hT
               replace S:=hT
               refine wd (ze yS rfl (o':=3) rfl) ?_
               exact zb (ob4 trivial rfl (by simp only [zp (L:=L) (i:=6) (j:=4) rfl,hl4,cond_true,cond_false]; exact S))
              | false =>
               simp only [hl4,cond_true,cond_false] at hT
               replace S:=hT
               refine wd (ze yS rfl (o':=3) rfl) ?_
               exact zb (ob4 trivial rfl (by simp only [zp (L:=L) (i:=6) (j:=4) rfl,hl4,cond_true,cond_false]; exact S))
             ·rintro L g v hL hcl hclo hT hv6
              cases hl4:L 4 with
              | true =>
               simp only [hl4,cond_true,cond_false] at hT
               replace S:=hT
               refine wd (zl zR hv6 ((S.blk 1).cell (Nd.get_r _))) ?_
               exact zb (ob4 trivial rfl (by simp only [zp (L:=L) (i:=7) (j:=4) rfl,hl4,cond_true,cond_false]; exact S))
              | false =>
               simp only [hl4,cond_true,cond_false] at hT
               replace S:=hT
               refine wd (zl zR hv6 ((S.blk 1).cell (Nd.get_r _))) ?_
               exact zb (ob4 trivial rfl (by simp only [zp (L:=L) (i:=7) (j:=4) rfl,hl4,cond_true,cond_false]; exact S))
             ·rintro L g v hL hcl hclo hT 
              cases hl4:L 4 with
              | true =>
               simp only [hl4,cond_true,cond_false] at hT
               replace S:=hT
               refine wd (zg rfl) ?_
               exact zb (ob4 trivial rfl (by simp only [zp (L:=L) (i:=8) (j:=4) rfl,hl4,cond_true,cond_false]; exact S))
              | false =>
               simp only [hl4,cond_true,cond_false] at hT
               replace S:=hT
               refine wd (zg rfl) ?_
               exact zb (ob4 trivial rfl (by simp only [zp (L:=L) (i:=8) (j:=4) rfl,hl4,cond_true,cond_false]; exact S))
             rintro L g w173 hLm hT hv174_0 hv174_1 hv174_2 hv174_3 hv174_4 hv174_5 hv174_6 hv174_7 hv174_8
             have hLt : ∀ j,j < 9→L j=true:=fun j hj=>by rw [hLm]; exact decide_eq_true hj
             simp only [hLt 4 zca,cond_true] at hT
             replace S:=hT
             replace S:=S
             obtain ⟨r175,er175,H⟩ := zr H
             obtain ⟨B177,MB177,SB177,back⟩ := S.calln 1 ((.nil))
             refine zu (zK z1 (zM hv174_5 (zM hv174_7 (zM hv174_8 rfl)))) zca (z7 SB177 er175) ?_
             rintro _ w176 ⟨rfl,S2⟩
             replace S:=back _ _ _ _ S2 rfl
             clear back S2 SB177
             refine wd (zh hv174_4) (wd (zh rfl) (zb (zd (za (wd (zk rfl) (wd (zk rfl) (wd (zg rfl) (wd (zk rfl) (wd (zg rfl) (wd (zk rfl) (wd (zg rfl) (wd (zg rfl) ?_))))))))))))
             obtain ⟨r178,er178,H⟩ := zr H
             obtain ⟨B180,MB180,SB180,back⟩ := S.calln 1 ((.nil))
             refine zu (zq z1) zca (z7 SB180 er178) ?_
             rintro _ w179 ⟨rfl,S2⟩
             replace S:=back _ _ _ _ S2 rfl
             clear back S2 SB180
             obtain ⟨r181,er181,H⟩ := zr H
             obtain ⟨B183,MB183,SB183,back⟩ := S.calln 1 ((.nil))
             refine zu (zq z1) zca (z7 SB183 er181) ?_
             rintro _ w182 ⟨rfl,S2⟩
             replace S:=back _ _ _ _ S2 rfl
             clear back S2 SB183
             obtain ⟨r184,er184,H⟩ := zr H
             obtain ⟨B186,MB186,SB186,back⟩ := S.calln 1 ((.nil))
             refine zu (zq z1) zca (z7 SB186 er184) ?_
             rintro _ w185 ⟨rfl,S2⟩
             replace S:=back _ _ _ _ S2 rfl
             clear back S2 SB186
             obtain ⟨r187,er187,H⟩ := zr H
             obtain ⟨B189,MB189,SB189,back⟩ := S.calln 1 ((.nil))
             refine zu (zq xU) zca (xV SB189 er187) ?_
             rintro _ w188 ⟨rfl,S2⟩
             replace S:=back _ _ _ _ S2 rfl
             clear back S2 SB189
             refine wd (zh rfl) (zb (za (wd (zk rfl) (wd (zk rfl) (wd (zk rfl) (wd (zg rfl) (wd (zg rfl) ?_)))))))
             obtain ⟨r190,er190,H⟩ := zr H
             obtain ⟨B192,MB192,SB192,back⟩ := S.calln 1 ((.nil))
             refine zu (zq xi) zca (xj SB192 er190) ?_
             rintro _ w191 ⟨rfl,S2⟩
             replace S:=back _ _ _ _ S2 rfl
             clear back S2 SB192
             refine wd (zg rfl) ?_
             obtain ⟨r193,er193,H⟩ := zr H
             obtain ⟨B195,MB195,SB195,back⟩ := S.calln 1 ((.nil))
             refine zu (zq xi) zca (xj SB195 er193) ?_
             rintro _ w194 ⟨rfl,S2⟩
             replace S:=back _ _ _ _ S2 rfl
             clear back S2 SB195
             refine wd (zg rfl) ?_
             obtain ⟨r196,er196,H⟩ := zr H
             obtain ⟨B198,MB198,SB198,back⟩ := S.calln 1 ((.nil))
             refine zu (zq xi) zca (xj SB198 er196) ?_
             rintro _ w197 ⟨rfl,S2⟩
             replace S:=back _ _ _ _ S2 rfl
             clear back S2 SB198
             refine zb ?_
             replace S:=S.arr [2,0,3] [3,4,5]
             obtain rfl:=zce H
             exact ⟨rfl,(by repeat first | exact Dif.refl _ _ | exact Dif.self _ _ _ | refine Dif.upd ?_ rfl _ | refine Dif.mask ?_ rfl _),S⟩
            ·replace H:=if_f hc140 H
             refine zd (za (wd (zU rfl rfl) (wd (zo rfl) (zb ?_))))
             refine zG rfl (fun hc199=>?_) (fun hc199=>?_)
             ·replace H:=if_t hc199 H
              refine zd (za (wd (zk rfl) (wd (zA rfl) (wd (ze xf rfl (o':=4) rfl) (wd (zl zY rfl ((S.blk 2).cell (Term.get_sub _))) ?_)))))
              obtain ⟨hi200,H⟩ := xo H
              refine wd (does_indexF zN rfl rfl (S.onZ 1) (zO hi200).1 (zO hi200).2) ?_
              obtain ⟨s201,hc202,S⟩ := S.viewTerm 1 (zO hi200)
              replace S:=S
              refine wd (zm zD rfl hc202 (Term.len _)) ?_
              obtain ⟨r203,er203,H⟩ := zr H
              replace S:=S.front 1
              obtain ⟨B205,MB205,SB205,back⟩ := S.calln 1 ((.z 1 rfl (.z 0 rfl (.z 3 rfl .nil))))
              refine zu (zq vL) zca (vw zdR (a2:=(at_ PTerm.z a2.sub 0)) SB205 er203) ?_
              rintro _ w204 ⟨rfl,S2⟩
              replace S:=back _ _ _ _ S2 rfl
              clear back S2 SB205
              refine wd (zV rfl) (wd (zt rfl rfl) (wd (zt rfl rfl) (wd (zh rfl) (wd (zh rfl) (zb ?_)))))
              obtain ⟨hi206,H⟩ := xo H
              obtain ⟨r208,er208,H⟩ := zr H
              obtain ⟨s207,S⟩ := S.viewTermC 2 (zO hi206)
              replace S:=S.zs [2,3,4,5,0,1]
              refine un 13 ⟨fun _ _=>True,fun _ _ _=>True,fun i v _=>match i with
               | 0=>v=Value.pointer (some ⟨b4,0,none⟩)
               | 1=>v=Value.pointer (some ⟨b4,0,none⟩)
               | 2=>v=s_1.v
               | 3=>v=Value.pointer (some ⟨b2,1,none⟩)
               | 4=>v=Value.string a2.name
               | 5=>v=Value.int .i64 r203.2.1
               | 6=>v=Value.pointer (some ⟨b2,4,none⟩)
               | 7=>v=s_2.v
               | 8=>v=Value.pointer (some ⟨s_2.blk,s_2.off + Int.toNat 1 * 5,none⟩)
               | 9=>v=Value.agg (Term.C (⟨(at_ PTerm.z a2.sub 1).kind,(at_ PTerm.z a2.sub 1).name,(at_ PTerm.z a2.sub 1).other,(at_ PTerm.z a2.sub 1).form,s207⟩ : Term)).toArray
               | 10=>v=Value.int .i64 a3
               | 11=>v=Value.int .i64 r208.2
               | 12=>v=Value.int .i64 r203.2.2
               | _=>True⟩ (fun L g v=>bif L 11 then (St A N w v [oK (some ⟨b4,0,none⟩) a_0 r208.1,oB b9 T_Nd (Nd.C r5.2),oB b2 zj (Term.C (⟨a2.kind,a2.name,a2.other,a2.form,s_2⟩ : Term))] [zn s201 ((at_ PTerm.z a2.sub 0).sub),fS 2 Hyp.C s_1 a1,zn s_2 a2.sub,oEt,oCl s_2.blk (s_2.off + Int.toNat 1 * 5) (Term.C (⟨(at_ PTerm.z a2.sub 1).kind,(at_ PTerm.z a2.sub 1).name,(at_ PTerm.z a2.sub 1).other,(at_ PTerm.z a2.sub 1).form,s207⟩ : Term)),zn s207 ((at_ PTerm.z a2.sub 1).sub)]) else (St A N w v [oK (some ⟨b4,0,none⟩) a_0 r203.1,oB b9 T_Nd (Nd.C r5.2),oB b2 zj (Term.C (⟨a2.kind,a2.name,a2.other,a2.form,s_2⟩ : Term))] [zn s201 ((at_ PTerm.z a2.sub 0).sub),fS 2 Hyp.C s_1 a1,zn s_2 a2.sub,oEt,oCl s_2.blk (s_2.off + Int.toNat 1 * 5) (Term.C (⟨(at_ PTerm.z a2.sub 1).kind,(at_ PTerm.z a2.sub 1).name,(at_ PTerm.z a2.sub 1).other,(at_ PTerm.z a2.sub 1).form,s207⟩ : Term)),zn s207 ((at_ PTerm.z a2.sub 1).sub)])) hmix zcd (fun _ _ _ _ _ _ _ hv=>hv) (fun g=>S.ext (Ext.drawn _)) ⟨?_,?_,?_,?_,?_,?_,?_,?_,?_,?_,?_,?_,?_,trivial⟩ ?_
              ·rintro L g v hL hcl hclo hT 
               cases hl11:L 11 with
               | true =>
                simp only [hl11,cond_true,cond_false] at hT
                replace S:=hT
                refine wd (zk rfl) ?_
                exact zb (ob4 trivial rfl (by simp only [zp (L:=L) (i:=0) (j:=11) rfl,hl11,cond_true,cond_false]; exact S))
               | false =>
                simp only [hl11,cond_true,cond_false] at hT
                replace S:=hT
                refine wd (zk rfl) ?_
                exact zb (ob4 trivial rfl (by simp only [zp (L:=L) (i:=0) (j:=11) rfl,hl11,cond_true,cond_false]; exact S))
              ·rintro L g v hL hcl hclo hT 
               have hl11:L 11=false:=by cases h:L 11 with | false=>rfl | true=>exact absurd (hclo 11 1 h zcd) (by rw [hL]; decide)
               simp only [hl11,cond_true,cond_false] at hT
               replace S:=hT
               refine wd (zk rfl) ?_
               exact zb (ob4 trivial rfl (by simp only [zp (L:=L) (i:=1) (j:=11) rfl,hl11,cond_true,cond_false]; exact S))
              ·rintro L g v hL hcl hclo hT 
               have hl11:L 11=false:=by cases h:L 11 with | false=>rfl | true=>exact absurd (hclo 11 2 h zcd) (by rw [hL]; decide)
               simp only [hl11,cond_true,cond_false] at hT
               replace S:=hT
               refine wd (zA rfl) ?_
               exact zb (ob4 trivial rfl (by simp only [zp (L:=L) (i:=2) (j:=11) rfl,hl11,cond_true,cond_false]; exact S))
              ·rintro L g v hL hcl hclo hT 
               have hl11:L 11=false:=by cases h:L 11 with | false=>rfl | true=>exact absurd (hclo 11 3 h zcd) (by rw [hL]; decide)
               simp only [hl11,cond_true,cond_false] at hT
               replace S:=hT
               refine wd (ze yD rfl (o':=1) rfl) ?_
               exact zb (ob4 trivial rfl (by simp only [zp (L:=L) (i:=3) (j:=11) rfl,hl11,cond_true,cond_false]; exact S))
              ·rintro L g v hL hcl hclo hT hv3
               have hl11:L 11=false:=by cases h:L 11 with | false=>rfl | true=>exact absurd (hclo 11 4 h zcd) (by rw [hL]; decide)
               simp only [hl11,cond_true,cond_false] at hT
               replace S:=hT
               refine wd (zl xq hv3 ((S.blk 2).cell (Term.get_name _))) ?_
               exact zb (ob4 trivial rfl (by simp only [zp (L:=L) (i:=4) (j:=11) rfl,hl11,cond_true,cond_false]; exact S))
              ·rintro L g v hL hcl hclo hT 
               have hl11:L 11=false:=by cases h:L 11 with | false=>rfl | true=>exact absurd (hclo 11 5 h zcd) (by rw [hL]; decide)
               simp only [hl11,cond_true,cond_false] at hT
               replace S:=hT
               refine wd (zg rfl) ?_
               exact zb (ob4 trivial rfl (by simp only [zp (L:=L) (i:=5) (j:=11) rfl,hl11,cond_true,cond_false]; exact S))
              ·rintro L g v hL hcl hclo hT 
               have hl11:L 11=false:=by cases h:L 11 with | false=>rfl | true=>exact absurd (hclo 11 6 h zcd) (by rw [hL]; decide)
               simp only [hl11,cond_true,cond_false] at hT
               replace S:=hT
               refine wd (ze xf rfl (o':=4) rfl) ?_
               exact zb (ob4 trivial rfl (by simp only [zp (L:=L) (i:=6) (j:=11) rfl,hl11,cond_true,cond_false]; exact S))
              ·rintro L g v hL hcl hclo hT hv6
               have hl11:L 11=false:=by cases h:L 11 with | false=>rfl | true=>exact absurd (hclo 11 7 h zcd) (by rw [hL]; decide)
               simp only [hl11,cond_true,cond_false] at hT
               replace S:=hT
               refine wd (zl zY hv6 ((S.blk 2).cell (Term.get_sub _))) ?_
               exact zb (ob4 trivial rfl (by simp only [zp (L:=L) (i:=7) (j:=11) rfl,hl11,cond_true,cond_false]; exact S))
              ·rintro L g v hL hcl hclo hT hv7
               have hl11:L 11=false:=by cases h:L 11 with | false=>rfl | true=>exact absurd (hclo 11 8 h zcd) (by rw [hL]; decide)
               simp only [hl11,cond_true,cond_false] at hT
               replace S:=hT
               refine wd (does_indexF zN hv7 rfl (S.onZ 2) (zO hi206).1 (zO hi206).2) ?_
               exact zb (ob4 trivial rfl (by simp only [zp (L:=L) (i:=8) (j:=11) rfl,hl11,cond_true,cond_false]; exact S))
              ·rintro L g v hL hcl hclo hT hv8
               have hl11:L 11=false:=by cases h:L 11 with | false=>rfl | true=>exact absurd (hclo 11 9 h zcd) (by rw [hL]; decide)
               simp only [hl11,cond_true,cond_false] at hT
               replace S:=hT
               refine wd (zm zD hv8 (S.cl 4) (Term.len _)) ?_
               exact zb (ob4 trivial rfl (by simp only [zp (L:=L) (i:=9) (j:=11) rfl,hl11,cond_true,cond_false]; exact S))
              ·rintro L g v hL hcl hclo hT 
               have hl11:L 11=false:=by cases h:L 11 with | false=>rfl | true=>exact absurd (hclo 11 10 h zcd) (by rw [hL]; decide)
               simp only [hl11,cond_true,cond_false] at hT
               replace S:=hT
               refine wd (zg rfl) ?_
               exact zb (ob4 trivial rfl (by simp only [zp (L:=L) (i:=10) (j:=11) rfl,hl11,cond_true,cond_false]; exact S))
              ·rintro L g v hL hcl hclo hT hv1 hv2 hv4 hv5 hv9 hv10
               have hl11:L 11=false:=hL
               simp only [hl11,cond_true,cond_false] at hT
               replace S:=hT
               obtain ⟨B214,MB214,SB214,back⟩ := S.calln 1 ((.z 1 rfl (.z 5 rfl (.z 3 rfl .nil))))
               refine zu (zK vr (zM hv1 (zM hv2 (zM hv4 (zM hv5 (zM hv9 (zM hv10 rfl))))))) zca (vn zdR (a4:=(at_ PTerm.z a2.sub 1)) SB214 er208) ?_
               rintro _ w213 ⟨rfl,S2⟩
               replace S:=back _ _ _ _ S2 rfl
               clear back S2 SB214
               exact zb (ob4 trivial rfl (by simp only [y1 (L:=L) (i:=11),cond_true,cond_false]; exact S))
              ·rintro L g v hL hcl hclo hT 
               cases hl11:L 11 with
               | true =>
                simp only [hl11,cond_true,cond_false] at hT
                replace S:=hT
                refine wd (zg rfl) ?_
                exact zb (ob4 trivial rfl (by simp only [zp (L:=L) (i:=12) (j:=11) rfl,hl11,cond_true,cond_false]; exact S))
               | false =>
                simp only [hl11,cond_true,cond_false] at hT
                replace S:=hT
                refine wd (zg rfl) ?_
                exact zb (ob4 trivial rfl (by simp only [zp (L:=L) (i:=12) (j:=11) rfl,hl11,cond_true,cond_false]; exact S))
              rintro L g w215 hLm hT hv216_0 hv216_1 hv216_2 hv216_3 hv216_4 hv216_5 hv216_6 hv216_7 hv216_8 hv216_9 hv216_10 hv216_11 hv216_12
              have hLt : ∀ j,j < 13→L j=true:=fun j hj=>by rw [hLm]; exact decide_eq_true hj
              simp only [hLt 11 zca,cond_true] at hT
              replace S:=hT
              replace S:=S
              obtain ⟨r217,er217,H⟩ := zr H
              obtain ⟨B219,MB219,SB219,back⟩ := S.calln 1 ((.nil))
              refine zu (zK xi (zM hv216_0 (zM hv216_11 (zM hv216_12 rfl)))) zca (xj SB219 er217) ?_
              rintro _ w218 ⟨rfl,S2⟩
              replace S:=back _ _ _ _ S2 rfl
              clear back S2 SB219
              refine zb ?_
              replace S:=S.arr [1,0,2] [1,2,3]
              obtain rfl:=zce H
              exact ⟨rfl,(by repeat first | exact Dif.refl _ _ | exact Dif.self _ _ _ | refine Dif.upd ?_ rfl _ | refine Dif.mask ?_ rfl _),S⟩
             ·replace H:=if_f hc199 H
              refine zB ?_
              obtain rfl:=zce H
              exact ⟨rfl,(by repeat first | exact Dif.refl _ _ | exact Dif.self _ _ _ | refine Dif.upd ?_ rfl _ | refine Dif.mask ?_ rfl _),S⟩
 rintro g220 u221 S
 have H:=Ho11
 refine zd ?_
 obtain ⟨p222,s224,hp223,S⟩ := S.open_oK 1
 replace S:=S
 refine yz 9 (Ext u221) hmix zcd zcd (Ext.drawn _) (zy (fun v K=>zk rfl) (zy (fun v K=>zC (congrArg Value.pointer hp223)) (zy (fun v K=>ze vW rfl (o':=1) rfl) (zy (fun v K=>zl yB rfl (((S.ext K).blk 0).cell (Maker.get_l _))) (zy (fun v K=>zk rfl) (zy (fun v K=>zC (congrArg Value.pointer hp223)) (zy (fun v K=>ze x9 rfl (o':=2) rfl) (zy (fun v K=>zl xX rfl (((S.ext K).blk 0).cell (Maker.get_bad _))) (zy (fun v K=>xP rfl) ?_)))))))))
 refine vD fun w225 K=>?_
 replace S:=S.ext K
 clear K
 refine wd (zh rfl) (zb (zx ?_))
 refine ⟨_,(xn (zf rfl) (zf rfl)),?_⟩
 replace S:=S.arr [1,2] []
 obtain rfl:=zce H
 exact ⟨s224,rfl,S⟩
theorem hilbert_compile_st {a0:Tb} {a_0:Option Addr} {a1:List Hyp} {s_1:SlV} {a2:PTerm} {s_2:SlV} {a3:Int} (S:St A N w w [oT a_0 a0] [fS 2 Hyp.C s_1 a1,zn s_2 a2.sub,oEt]) {k:Nat} {r:Tb × List Ln × Int} (H:zdy.f k a0 a1 a2 a3=some r) :
  Calls PP yy #[.pointer a_0,s_1.v,.agg (Term.C (⟨a2.kind,a2.name,a2.other,a2.form,s_2⟩ : Term)).toArray,.int .i64 a3] w fun e w' => ∃ v,e = .returned v∧(∃ so0:SlV,v = .tuple #[so0.v,.int .i64 r.2.2]∧St A N w w' [oT a_0 r.1,oS T_Ln 4 Ln.C so0 r.2.1] []):=by
 have main : ∀ (k:Nat) {A:Nat→Prop} {N:Oth} {w:World} {a0:Tb} {a_0:Option Addr} {a1:List Hyp} {s_1:SlV} {a2:PTerm} {s_2:SlV} {a3:Int} (S:St A N w w [oT a_0 a0] [fS 2 Hyp.C s_1 a1,zn s_2 a2.sub,oEt]) {r:Tb × List Ln × Int} (H:zdy.f k a0 a1 a2 a3=some r),Calls PP yy #[.pointer a_0,s_1.v,.agg (Term.C (⟨a2.kind,a2.name,a2.other,a2.form,s_2⟩ : Term)).toArray,.int .i64 a3] w fun e w' => ∃ v,e = .returned v∧(∃ so0:SlV,v = .tuple #[so0.v,.int .i64 r.2.2]∧St A N w w' [oT a_0 r.1,oS T_Ln 4 Ln.C so0 r.2.1] []):=by
  intro k
  induction k with
  | zero=>intro A N w a0 a_0 a1 s_1 a2 s_2 a3 S r H; cases H
  | succ k ih=>intro A N w a0 a_0 a1 s_1 a2 s_2 a3 S r H; exact hilbert_compile_gst ih S H
 exact main k S H
theorem zbc {a0:Tb} {a_0:Option Addr} {a1:List Hyp} {s_1:SlV} {a2:PTerm} {s_2:SlV} {a3:Int} (S:St A N w w [oT a_0 a0] [fS 2 Hyp.C s_1 a1,zn s_2 a2.sub,oEt]) {k:Nat} {r:Tb × List Ln × Int} (H:zdz.f k a0 a1 a2 a3=some r) :
  Calls PP zbq #[.pointer a_0,s_1.v,.agg (Term.C (⟨a2.kind,a2.name,a2.other,a2.form,s_2⟩ : Term)).toArray,.int .i64 a3] w fun e w' => ∃ v,e = .returned v∧(∃ so0:SlV,v = .tuple #[so0.v,.int .i64 r.2.2]∧St A N w w' [oT a_0 r.1,oS T_Ln 4 Ln.C so0 r.2.1] []):=by
 unfold zdz.f at H
 refine zz (n:=40) fn_hilbert_Compile rfl rfl zcc (zd (za ?_))
 refine zX rfl zca fun b2 w1 hw1=>?_
 replace S:=S.new hw1
 refine wd (xw) (wd (zh rfl) (zb (zd (zd (za (wd (zk rfl) (wd (zA rfl) (wd (zm zD rfl ((S.blk 0).all _ (Term.len _)) (Term.len _)) (wd (zg rfl) ?_)))))))))
 obtain ⟨r3,er3,H⟩ := zr H
 obtain ⟨B5,MB5,SB5,back⟩ := S.calln 0 ((.o 1 rfl (.z 0 rfl (.z 1 rfl (.z 2 rfl .nil)))))
 refine zu (zq ca_types_Check) zca (types_Check_st (a2:=a2) SB5 er3) ?_
 rintro _ w4 ⟨rfl,S2⟩
 replace S:=back _ _ _ _ S2 rfl
 clear back S2 SB5
 refine wd (zh rfl) (zb (zd (za (wd (zg rfl) (wd (xm rfl rfl) (zb ?_))))))
 refine zG rfl (fun hc6=>?_) (fun hc6=>?_)
 ·replace H:=if_t hc6 H
  refine zd (za (wd (zg rfl) (wd (xw) (wd (zh rfl) (zb (zx ?_))))))
  replace S:=S.nil T_Ln 4 Ln.C
  refine ⟨_,(xn (zf rfl) (zf rfl)),?_⟩
  replace S:=S.arr [2,0] []
  obtain rfl:=zce H
  exact ⟨SlV.nil,rfl,S⟩
 replace H:=if_f hc6 H
 refine zB (zd (za (wd (zk rfl) ?_)))
 obtain ⟨r7,er7,H⟩ := zr H
 obtain ⟨B9,MB9,SB9,back⟩ := S.calln 0 ((.o 1 rfl .nil))
 refine zu (zq uX) zca (jd SB9 er7) ?_
 rintro _ w8 ⟨rfl,S2⟩
 replace S:=back _ _ _ _ S2 rfl
 clear back S2 SB9
 refine wd (zh rfl) (zb (zd ?_))
 obtain ⟨r10,er10,H⟩ := zr H
 obtain ⟨r14,er14,H⟩ := zr H
 refine un 10 ⟨fun _ _=>True,fun _ _ _=>True,fun i v _=>match i with
  | 0=>v=Value.pointer a_0
  | 1=>v=s_1.v
  | 3=>v=Value.agg (Term.C (⟨a2.kind,a2.name,a2.other,a2.form,s_2⟩ : Term)).toArray
  | 4=>v=Value.int .i64 a3
  | 8=>v=Value.int .i64 r14.2.2
  | _=>True⟩ (fun L g v=>bif L 5 then (∃ (s13:SlV) (s17:SlV),(L 2=true→g 27=s13.v)∧(L 5=true→g 30=Value.tuple #[s17.v,.int .i64 r14.2.2])∧(L 6=true→g 24=Value.tuple #[s17.v,.int .i64 r14.2.2])∧(L 7=true→g 31=s17.v)∧(L 9=true→g 12=s17.v)∧St A N w v [oT a_0 r14.1,oS T_Ln 4 Ln.C s17 r14.2.1,oS xN 2 Hyp.C s13 r10,oB b2 zj (Term.C (⟨a2.kind,a2.name,a2.other,a2.form,s_2⟩ : Term))] [fS 2 Hyp.C s_1 a1,zn s_2 a2.sub,oEt]) else bif L 2 then (∃ (s13:SlV),(L 2=true→g 27=s13.v)∧St A N w v [oS xN 2 Hyp.C s13 r10,oB b2 zj (Term.C (⟨a2.kind,a2.name,a2.other,a2.form,s_2⟩ : Term)),oT a_0 a0] [fS 2 Hyp.C s_1 a1,zn s_2 a2.sub,oEt]) else (St A N w v [oB b2 zj (Term.C (⟨a2.kind,a2.name,a2.other,a2.form,s_2⟩ : Term)),oT a_0 a0] [fS 2 Hyp.C s_1 a1,zn s_2 a2.sub,oEt])) hmix zcd (fun _ _ _ _ _ _ _ hv=>hv) (fun g=>S.ext (Ext.drawn _)) ⟨?_,?_,?_,?_,?_,?_,?_,?_,?_,?_,trivial⟩ ?_
 ·rintro L g v hL hcl hclo hT 
  have hl5:L 5=false:=by cases h:L 5 with | false=>rfl | true=>exact absurd (hclo 5 0 h zcd) (by rw [hL]; decide)
  cases hl2:L 2 with
  | true =>
   replace hT : ∃ (s13:SlV),(L 2=true→g 27=s13.v)∧St A N w v [oS xN 2 Hyp.C s13 r10,oB b2 zj (Term.C (⟨a2.kind,a2.name,a2.other,a2.form,s_2⟩ : Term)),oT a_0 a0] [fS 2 Hyp.C s_1 a1,zn s_2 a2.sub,oEt]:=by simp only [hl2,hl5,cond_true,cond_false] at hT ⊢; exact hT
   obtain ⟨s13,he2,S⟩ := hT
   refine wd (zk rfl) ?_
   have hT2 : ∃ (s13':SlV),((plus L 0) 2=true→(upd g 25 (Value.pointer a_0)) 27=s13'.v)∧St A N w v [oS xN 2 Hyp.C s13' r10,oB b2 zj (Term.C (⟨a2.kind,a2.name,a2.other,a2.form,s_2⟩ : Term)),oT a_0 a0] [fS 2 Hyp.C s_1 a1,zn s_2 a2.sub,oEt]:=⟨s13,fun h=>by rw [zF _ _ _ _ zca]; exact he2 (by rw [zp rfl] at h; exact h),S⟩
   exact zb (ob4 trivial rfl (by simp only [zp (L:=L) (i:=0) (j:=2) rfl,zp (L:=L) (i:=0) (j:=5) rfl,hl2,hl5,cond_true,cond_false] at hT2 ⊢; exact hT2))
  | false =>
   simp only [hl2,hl5,cond_true,cond_false] at hT
   replace S:=hT
   refine wd (zk rfl) ?_
   exact zb (ob4 trivial rfl (by simp only [zp (L:=L) (i:=0) (j:=2) rfl,zp (L:=L) (i:=0) (j:=5) rfl,hl2,hl5,cond_true,cond_false]; exact S))
 ·rintro L g v hL hcl hclo hT 
  have hl2:L 2=false:=by cases h:L 2 with | false=>rfl | true=>exact absurd (hclo 2 1 h zcd) (by rw [hL]; decide)
  have hl5:L 5=false:=by cases h:L 5 with | false=>rfl | true=>exact absurd (hclo 5 1 h zcd) (by rw [hL]; decide)
  simp only [hl2,hl5,cond_true,cond_false] at hT
  replace S:=hT
  refine wd (zA rfl) ?_
  exact zb (ob4 trivial rfl (by simp only [zp (L:=L) (i:=1) (j:=2) rfl,zp (L:=L) (i:=1) (j:=5) rfl,hl2,hl5,cond_true,cond_false]; exact S))
 ·rintro L g v hL hcl hclo hT hv1
  have hl2:L 2=false:=hL
  have hl5:L 5=false:=by cases h:L 5 with | false=>rfl | true=>exact absurd (hclo 5 2 h zcd) (by rw [hL]; decide)
  simp only [hl2,hl5,cond_true,cond_false] at hT
  replace S:=hT
  obtain ⟨B20,MB20,SB20,back⟩ := S.calln 0 ((.z 0 rfl .nil))
  refine zu (zK kr (zM hv1 rfl)) zca (kw SB20 er10) ?_
  rintro _ w19 ⟨s13,rfl,S2⟩
  replace S:=back _ _ _ _ S2 rfl
  clear back S2 SB20
  have hT2 : ∃ (s13':SlV),((plus L 2) 2=true→(upd g 27 (s13.v)) 27=s13'.v)∧St A N w w19 [oS xN 2 Hyp.C s13' r10,oB b2 zj (Term.C (⟨a2.kind,a2.name,a2.other,a2.form,s_2⟩ : Term)),oT a_0 a0] [fS 2 Hyp.C s_1 a1,zn s_2 a2.sub,oEt]:=⟨s13,fun _=>upd_same _ _ _,S⟩
  exact zb (ob4 trivial trivial (by simp only [zp (L:=L) (i:=2) (j:=5) rfl,y1 (L:=L) (i:=2),hl5,cond_true,cond_false] at hT2 ⊢; exact hT2))
 ·rintro L g v hL hcl hclo hT 
  have hl5:L 5=false:=by cases h:L 5 with | false=>rfl | true=>exact absurd (hclo 5 3 h zcd) (by rw [hL]; decide)
  cases hl2:L 2 with
  | true =>
   replace hT : ∃ (s13:SlV),(L 2=true→g 27=s13.v)∧St A N w v [oS xN 2 Hyp.C s13 r10,oB b2 zj (Term.C (⟨a2.kind,a2.name,a2.other,a2.form,s_2⟩ : Term)),oT a_0 a0] [fS 2 Hyp.C s_1 a1,zn s_2 a2.sub,oEt]:=by simp only [hl2,hl5,cond_true,cond_false] at hT ⊢; exact hT
   obtain ⟨s13,he2,S⟩ := hT
   refine wd (zm zD rfl ((S.blk 1).all _ (Term.len _)) (Term.len _)) ?_
   have hT2 : ∃ (s13':SlV),((plus L 3) 2=true→(upd g 28 (Value.agg (Term.C (⟨a2.kind,a2.name,a2.other,a2.form,s_2⟩ : Term)).toArray)) 27=s13'.v)∧St A N w v [oS xN 2 Hyp.C s13' r10,oB b2 zj (Term.C (⟨a2.kind,a2.name,a2.other,a2.form,s_2⟩ : Term)),oT a_0 a0] [fS 2 Hyp.C s_1 a1,zn s_2 a2.sub,oEt]:=⟨s13,fun h=>by rw [zF _ _ _ _ zca]; exact he2 (by rw [zp rfl] at h; exact h),S⟩
   exact zb (ob4 trivial rfl (by simp only [zp (L:=L) (i:=3) (j:=2) rfl,zp (L:=L) (i:=3) (j:=5) rfl,hl2,hl5,cond_true,cond_false] at hT2 ⊢; exact hT2))
  | false =>
   simp only [hl2,hl5,cond_true,cond_false] at hT
   replace S:=hT
   refine wd (zm zD rfl ((S.blk 0).all _ (Term.len _)) (Term.len _)) ?_
   exact zb (ob4 trivial rfl (by simp only [zp (L:=L) (i:=3) (j:=2) rfl,zp (L:=L) (i:=3) (j:=5) rfl,hl2,hl5,cond_true,cond_false]; exact S))
 ·rintro L g v hL hcl hclo hT 
  have hl5:L 5=false:=by cases h:L 5 with | false=>rfl | true=>exact absurd (hclo 5 4 h zcd) (by rw [hL]; decide)
  cases hl2:L 2 with
  | true =>
   replace hT : ∃ (s13:SlV),(L 2=true→g 27=s13.v)∧St A N w v [oS xN 2 Hyp.C s13 r10,oB b2 zj (Term.C (⟨a2.kind,a2.name,a2.other,a2.form,s_2⟩ : Term)),oT a_0 a0] [fS 2 Hyp.C s_1 a1,zn s_2 a2.sub,oEt]:=by simp only [hl2,hl5,cond_true,cond_false] at hT ⊢; exact hT
   obtain ⟨s13,he2,S⟩ := hT
   refine wd (zg rfl) ?_
   have hT2 : ∃ (s13':SlV),((plus L 4) 2=true→(upd g 29 (Value.int .i64 a3)) 27=s13'.v)∧St A N w v [oS xN 2 Hyp.C s13' r10,oB b2 zj (Term.C (⟨a2.kind,a2.name,a2.other,a2.form,s_2⟩ : Term)),oT a_0 a0] [fS 2 Hyp.C s_1 a1,zn s_2 a2.sub,oEt]:=⟨s13,fun h=>by rw [zF _ _ _ _ zca]; exact he2 (by rw [zp rfl] at h; exact h),S⟩
   exact zb (ob4 trivial rfl (by simp only [zp (L:=L) (i:=4) (j:=2) rfl,zp (L:=L) (i:=4) (j:=5) rfl,hl2,hl5,cond_true,cond_false] at hT2 ⊢; exact hT2))
  | false =>
   simp only [hl2,hl5,cond_true,cond_false] at hT
   replace S:=hT
   refine wd (zg rfl) ?_
   exact zb (ob4 trivial rfl (by simp only [zp (L:=L) (i:=4) (j:=2) rfl,zp (L:=L) (i:=4) (j:=5) rfl,hl2,hl5,cond_true,cond_false]; exact S))
 ·rintro L g v hL hcl hclo hT hv0 hv2 hv3 hv4
  have hl2:L 2=true:=hcl 2 zcd
  have hl5:L 5=false:=hL
  replace hT : ∃ (s13:SlV),(L 2=true→g 27=s13.v)∧St A N w v [oS xN 2 Hyp.C s13 r10,oB b2 zj (Term.C (⟨a2.kind,a2.name,a2.other,a2.form,s_2⟩ : Term)),oT a_0 a0] [fS 2 Hyp.C s_1 a1,zn s_2 a2.sub,oEt]:=by simp only [hl2,hl5,cond_true,cond_false] at hT ⊢; exact hT
  obtain ⟨s13,he2,S⟩ := hT
  replace S:=S.front 2
  obtain ⟨B23,MB23,SB23,back⟩ := S.calln 1 ((.s 0 rfl (.z 1 rfl (.z 2 rfl .nil))))
  refine zu (zK jN (zM hv0 (zM (he2 (hcl 2 zcd)) (zM hv3 (zM hv4 rfl))))) zca (hilbert_compile_st (a2:=a2) SB23 er14) ?_
  rintro _ w22 ⟨s17,rfl,S2⟩
  replace S:=back _ _ _ _ S2 rfl
  clear back S2 SB23
  have hT2 : ∃ (s13':SlV) (s17':SlV),((plus L 5) 2=true→(upd g 30 (Value.tuple #[s17.v,.int .i64 r14.2.2])) 27=s13'.v)∧((plus L 5) 5=true→(upd g 30 (Value.tuple #[s17.v,.int .i64 r14.2.2])) 30=Value.tuple #[s17'.v,.int .i64 r14.2.2])∧((plus L 5) 6=true→(upd g 30 (Value.tuple #[s17.v,.int .i64 r14.2.2])) 24=Value.tuple #[s17'.v,.int .i64 r14.2.2])∧((plus L 5) 7=true→(upd g 30 (Value.tuple #[s17.v,.int .i64 r14.2.2])) 31=s17'.v)∧((plus L 5) 9=true→(upd g 30 (Value.tuple #[s17.v,.int .i64 r14.2.2])) 12=s17'.v)∧St A N w w22 [oT a_0 r14.1,oS T_Ln 4 Ln.C s17' r14.2.1,oS xN 2 Hyp.C s13' r10,oB b2 zj (Term.C (⟨a2.kind,a2.name,a2.other,a2.form,s_2⟩ : Term))] [fS 2 Hyp.C s_1 a1,zn s_2 a2.sub,oEt]:=⟨s13,s17,fun h=>by rw [zF _ _ _ _ zca]; exact he2 (by rw [zp rfl] at h; exact h),fun _=>upd_same _ _ _,fun h=>absurd (hclo 6 5 (by rw [zp rfl] at h; exact h) zcd) (by rw [hL]; decide),fun h=>absurd (hclo 7 5 (by rw [zp rfl] at h; exact h) zcd) (by rw [hL]; decide),fun h=>absurd (hclo 9 5 (by rw [zp rfl] at h; exact h) zcd) (by rw [hL]; decide),S⟩
  exact zb (ob4 trivial trivial (by simp only [zp (L:=L) (i:=5) (j:=2) rfl,y1 (L:=L) (i:=5),cond_true,cond_false] at hT2 ⊢; exact hT2))
 ·rintro L g v hL hcl hclo hT hv5
  have hl5:L 5=true:=hcl 5 zcd
  replace hT : ∃ (s13:SlV) (s17:SlV),(L 2=true→g 27=s13.v)∧(L 5=true→g 30=Value.tuple #[s17.v,.int .i64 r14.2.2])∧(L 6=true→g 24=Value.tuple #[s17.v,.int .i64 r14.2.2])∧(L 7=true→g 31=s17.v)∧(L 9=true→g 12=s17.v)∧St A N w v [oT a_0 r14.1,oS T_Ln 4 Ln.C s17 r14.2.1,oS xN 2 Hyp.C s13 r10,oB b2 zj (Term.C (⟨a2.kind,a2.name,a2.other,a2.form,s_2⟩ : Term))] [fS 2 Hyp.C s_1 a1,zn s_2 a2.sub,oEt]:=by simp only [hl5,cond_true,cond_false] at hT ⊢; exact hT
  obtain ⟨s13,s17,he2,he5,he6,he7,he9,S⟩ := hT
  refine wd (zV (he5 (hcl 5 zcd))) ?_
  have hT2 : ∃ (s13':SlV) (s17':SlV),((plus L 6) 2=true→(upd g 24 (Value.tuple #[s17.v,.int .i64 r14.2.2])) 27=s13'.v)∧((plus L 6) 5=true→(upd g 24 (Value.tuple #[s17.v,.int .i64 r14.2.2])) 30=Value.tuple #[s17'.v,.int .i64 r14.2.2])∧((plus L 6) 6=true→(upd g 24 (Value.tuple #[s17.v,.int .i64 r14.2.2])) 24=Value.tuple #[s17'.v,.int .i64 r14.2.2])∧((plus L 6) 7=true→(upd g 24 (Value.tuple #[s17.v,.int .i64 r14.2.2])) 31=s17'.v)∧((plus L 6) 9=true→(upd g 24 (Value.tuple #[s17.v,.int .i64 r14.2.2])) 12=s17'.v)∧St A N w v [oT a_0 r14.1,oS T_Ln 4 Ln.C s17' r14.2.1,oS xN 2 Hyp.C s13' r10,oB b2 zj (Term.C (⟨a2.kind,a2.name,a2.other,a2.form,s_2⟩ : Term))] [fS 2 Hyp.C s_1 a1,zn s_2 a2.sub,oEt]:=⟨s13,s17,fun h=>by rw [zF _ _ _ _ zca]; exact he2 (by rw [zp rfl] at h; exact h),fun h=>by rw [zF _ _ _ _ zca]; exact he5 (by rw [zp rfl] at h; exact h),fun _=>upd_same _ _ _,fun h=>by rw [zF _ _ _ _ zca]; exact he7 (by rw [zp rfl] at h; exact h),fun h=>by rw [zF _ _ _ _ zca]; exact he9 (by rw [zp rfl] at h; exact h),S⟩
  exact zb (ob4 trivial trivial (by simp only [zp (L:=L) (i:=6) (j:=2) rfl,zp (L:=L) (i:=6) (j:=5) rfl,hl5,cond_true,cond_false] at hT2 ⊢; exact hT2))
 ·rintro L g v hL hcl hclo hT hv6
  have hl5:L 5=true:=hcl 5 zcd
  replace hT : ∃ (s13:SlV) (s17:SlV),(L 2=true→g 27=s13.v)∧(L 5=true→g 30=Value.tuple #[s17.v,.int .i64 r14.2.2])∧(L 6=true→g 24=Value.tuple #[s17.v,.int .i64 r14.2.2])∧(L 7=true→g 31=s17.v)∧(L 9=true→g 12=s17.v)∧St A N w v [oT a_0 r14.1,oS T_Ln 4 Ln.C s17 r14.2.1,oS xN 2 Hyp.C s13 r10,oB b2 zj (Term.C (⟨a2.kind,a2.name,a2.other,a2.form,s_2⟩ : Term))] [fS 2 Hyp.C s_1 a1,zn s_2 a2.sub,oEt]:=by simp only [hl5,cond_true,cond_false] at hT ⊢; exact hT
  obtain ⟨s13,s17,he2,he5,he6,he7,he9,S⟩ := hT
  refine wd (zt (he6 (hcl 6 zcd)) rfl) ?_
  have hT2 : ∃ (s13':SlV) (s17':SlV),((plus L 7) 2=true→(upd g 31 (s17.v)) 27=s13'.v)∧((plus L 7) 5=true→(upd g 31 (s17.v)) 30=Value.tuple #[s17'.v,.int .i64 r14.2.2])∧((plus L 7) 6=true→(upd g 31 (s17.v)) 24=Value.tuple #[s17'.v,.int .i64 r14.2.2])∧((plus L 7) 7=true→(upd g 31 (s17.v)) 31=s17'.v)∧((plus L 7) 9=true→(upd g 31 (s17.v)) 12=s17'.v)∧St A N w v [oT a_0 r14.1,oS T_Ln 4 Ln.C s17' r14.2.1,oS xN 2 Hyp.C s13' r10,oB b2 zj (Term.C (⟨a2.kind,a2.name,a2.other,a2.form,s_2⟩ : Term))] [fS 2 Hyp.C s_1 a1,zn s_2 a2.sub,oEt]:=⟨s13,s17,fun h=>by rw [zF _ _ _ _ zca]; exact he2 (by rw [zp rfl] at h; exact h),fun h=>by rw [zF _ _ _ _ zca]; exact he5 (by rw [zp rfl] at h; exact h),fun h=>by rw [zF _ _ _ _ zca]; exact he6 (by rw [zp rfl] at h; exact h),fun _=>upd_same _ _ _,fun h=>by rw [zF _ _ _ _ zca]; exact he9 (by rw [zp rfl] at h; exact h),S⟩
  exact zb (ob4 trivial trivial (by simp only [zp (L:=L) (i:=7) (j:=2) rfl,zp (L:=L) (i:=7) (j:=5) rfl,hl5,cond_true,cond_false] at hT2 ⊢; exact hT2))
 ·rintro L g v hL hcl hclo hT hv6
  have hl5:L 5=true:=hcl 5 zcd
  replace hT : ∃ (s13:SlV) (s17:SlV),(L 2=true→g 27=s13.v)∧(L 5=true→g 30=Value.tuple #[s17.v,.int .i64 r14.2.2])∧(L 6=true→g 24=Value.tuple #[s17.v,.int .i64 r14.2.2])∧(L 7=true→g 31=s17.v)∧(L 9=true→g 12=s17.v)∧St A N w v [oT a_0 r14.1,oS T_Ln 4 Ln.C s17 r14.2.1,oS xN 2 Hyp.C s13 r10,oB b2 zj (Term.C (⟨a2.kind,a2.name,a2.other,a2.form,s_2⟩ : Term))] [fS 2 Hyp.C s_1 a1,zn s_2 a2.sub,oEt]:=by simp only [hl5,cond_true,cond_false] at hT ⊢; exact hT
  obtain ⟨s13,s17,he2,he5,he6,he7,he9,S⟩ := hT
  refine wd (zt (he6 (hcl 6 zcd)) rfl) ?_
  have hT2 : ∃ (s13':SlV) (s17':SlV),((plus L 8) 2=true→(upd g 32 (Value.int .i64 r14.2.2)) 27=s13'.v)∧((plus L 8) 5=true→(upd g 32 (Value.int .i64 r14.2.2)) 30=Value.tuple #[s17'.v,.int .i64 r14.2.2])∧((plus L 8) 6=true→(upd g 32 (Value.int .i64 r14.2.2)) 24=Value.tuple #[s17'.v,.int .i64 r14.2.2])∧((plus L 8) 7=true→(upd g 32 (Value.int .i64 r14.2.2)) 31=s17'.v)∧((plus L 8) 9=true→(upd g 32 (Value.int .i64 r14.2.2)) 12=s17'.v)∧St A N w v [oT a_0 r14.1,oS T_Ln 4 Ln.C s17' r14.2.1,oS xN 2 Hyp.C s13' r10,oB b2 zj (Term.C (⟨a2.kind,a2.name,a2.other,a2.form,s_2⟩ : Term))] [fS 2 Hyp.C s_1 a1,zn s_2 a2.sub,oEt]:=⟨s13,s17,fun h=>by rw [zF _ _ _ _ zca]; exact he2 (by rw [zp rfl] at h; exact h),fun h=>by rw [zF _ _ _ _ zca]; exact he5 (by rw [zp rfl] at h; exact h),fun h=>by rw [zF _ _ _ _ zca]; exact he6 (by rw [zp rfl] at h; exact h),fun h=>by rw [zF _ _ _ _ zca]; exact he7 (by rw [zp rfl] at h; exact h),fun h=>by rw [zF _ _ _ _ zca]; exact he9 (by rw [zp rfl] at h; exact h),S⟩
  exact zb (ob4 trivial rfl (by simp only [zp (L:=L) (i:=8) (j:=2) rfl,zp (L:=L) (i:=8) (j:=5) rfl,hl5,cond_true,cond_false] at hT2 ⊢; exact hT2))
 ·rintro L g v hL hcl hclo hT hv7
  have hl5:L 5=true:=hcl 5 zcd
  replace hT : ∃ (s13:SlV) (s17:SlV),(L 2=true→g 27=s13.v)∧(L 5=true→g 30=Value.tuple #[s17.v,.int .i64 r14.2.2])∧(L 6=true→g 24=Value.tuple #[s17.v,.int .i64 r14.2.2])∧(L 7=true→g 31=s17.v)∧(L 9=true→g 12=s17.v)∧St A N w v [oT a_0 r14.1,oS T_Ln 4 Ln.C s17 r14.2.1,oS xN 2 Hyp.C s13 r10,oB b2 zj (Term.C (⟨a2.kind,a2.name,a2.other,a2.form,s_2⟩ : Term))] [fS 2 Hyp.C s_1 a1,zn s_2 a2.sub,oEt]:=by simp only [hl5,cond_true,cond_false] at hT ⊢; exact hT
  obtain ⟨s13,s17,he2,he5,he6,he7,he9,S⟩ := hT
  refine wd (xP (he7 (hcl 7 zcd))) ?_
  have hT2 : ∃ (s13':SlV) (s17':SlV),((plus L 9) 2=true→(upd g 12 (s17.v)) 27=s13'.v)∧((plus L 9) 5=true→(upd g 12 (s17.v)) 30=Value.tuple #[s17'.v,.int .i64 r14.2.2])∧((plus L 9) 6=true→(upd g 12 (s17.v)) 24=Value.tuple #[s17'.v,.int .i64 r14.2.2])∧((plus L 9) 7=true→(upd g 12 (s17.v)) 31=s17'.v)∧((plus L 9) 9=true→(upd g 12 (s17.v)) 12=s17'.v)∧St A N w v [oT a_0 r14.1,oS T_Ln 4 Ln.C s17' r14.2.1,oS xN 2 Hyp.C s13' r10,oB b2 zj (Term.C (⟨a2.kind,a2.name,a2.other,a2.form,s_2⟩ : Term))] [fS 2 Hyp.C s_1 a1,zn s_2 a2.sub,oEt]:=⟨s13,s17,fun h=>by rw [zF _ _ _ _ zca]; exact he2 (by rw [zp rfl] at h; exact h),fun h=>by rw [zF _ _ _ _ zca]; exact he5 (by rw [zp rfl] at h; exact h),fun h=>by rw [zF _ _ _ _ zca]; exact he6 (by rw [zp rfl] at h; exact h),fun h=>by rw [zF _ _ _ _ zca]; exact he7 (by rw [zp rfl] at h; exact h),fun _=>upd_same _ _ _,S⟩
  exact zb (ob4 trivial trivial (by simp only [zp (L:=L) (i:=9) (j:=2) rfl,zp (L:=L) (i:=9) (j:=5) rfl,hl5,cond_true,cond_false] at hT2 ⊢; exact hT2))
 rintro L g w24 hLm hT hv25_0 hv25_1 _ hv25_3 hv25_4 _ _ _ hv25_8 _
 have hLt : ∀ j,j < 10→L j=true:=fun j hj=>by rw [hLm]; exact decide_eq_true hj
 replace hT : ∃ (s13:SlV) (s17:SlV),(L 2=true→g 27=s13.v)∧(L 5=true→g 30=Value.tuple #[s17.v,.int .i64 r14.2.2])∧(L 6=true→g 24=Value.tuple #[s17.v,.int .i64 r14.2.2])∧(L 7=true→g 31=s17.v)∧(L 9=true→g 12=s17.v)∧St A N w w24 [oT a_0 r14.1,oS T_Ln 4 Ln.C s17 r14.2.1,oS xN 2 Hyp.C s13 r10,oB b2 zj (Term.C (⟨a2.kind,a2.name,a2.other,a2.form,s_2⟩ : Term))] [fS 2 Hyp.C s_1 a1,zn s_2 a2.sub,oEt]:=by simp only [hLt 5 zca,cond_true] at hT ⊢; exact hT
 obtain ⟨s13,s17,he2,he5,he6,he7,he9,S⟩ := hT
 have hv25_2:=he2 (hLt 2 zca)
 have hv25_5:=he5 (hLt 5 zca)
 have hv25_6:=he6 (hLt 6 zca)
 have hv25_7:=he7 (hLt 7 zca)
 have hv25_9:=he9 (hLt 9 zca)
 replace S:=S
 refine wd (zh hv25_8) (zb (zd (za (wd (zk rfl) (wd (zg rfl) (wd (zA hv25_9) (wd (zg rfl) ?_)))))))
 obtain ⟨r26,er26,H⟩ := zr H
 replace S:=(S.front 1).front 1
 obtain ⟨B28,MB28,SB28,back⟩ := S.calln 2 ((.nil))
 refine zu (zq ca_hilbert_kept) zca (hilbert_kept_st SB28 er26) ?_
 rintro _ w27 ⟨s29,rfl,S2⟩
 replace S:=back _ _ _ _ S2 rfl
 clear back S2 SB28
 refine wd (zt rfl rfl) (wd (zt rfl rfl) (wd (xP rfl) (wd (zh rfl) (zb (zx ?_)))))
 refine ⟨_,(xn (zf rfl) (zf rfl)),?_⟩
 replace S:=S.arr [0,1] []
 obtain rfl:=zce H
 exact ⟨s29,rfl,S⟩
end
section
open Go.RowKit
namespace Gw
def Made {γ:Type} (L:Nat→Bool) (g:Fr) (Z:List OA) (j:Nat) (d:Tmp) (val:γ→Value) (ps:γ→List OA):Prop:=L j=true → ∃ c:γ,g d=val c ∧ ∀ z ∈ ps c,z ∈ Z
section
variable {γ:Type} {L:Nat→Bool} {g:Fr} {Z Z':List OA} {i j:Nat} {d e:Tmp} {x:Value} {val:γ→Value} {ps:γ→List OA}
theorem Made.no:Made (fun _=>false) g Z j d val ps:=fun h=>by cases h
theorem Made.keep (h:Made L g Z j d val ps) (h1:Nat.beq j i=false) (h2:Nat.beq d e=false) (hs : ∀ z ∈ Z,z ∈ Z'):Made (plus L i) (upd g e x) Z' j d val ps:=fun hl=>by
 rw [zp h1] at hl
 obtain ⟨c,hc,hp⟩ := h hl
 exact ⟨c,by rw [zF _ _ _ _ (by intro q; rw [q] at h2; simp at h2)]; exact hc,fun z hz=>hs z (hp z hz)⟩
theorem Made.one (c:γ) (hp : ∀ z ∈ ps c,z ∈ Z'):Made (plus L i) (upd g d (val c)) Z' i d val ps:=fun _=>⟨c,upd_same _ _ _,hp⟩
theorem jy : ∀ z ∈ ([]:List OA),z ∈ Z:=fun _ h=>by cases h
theorem uf {a:OA} {l:List OA} (h:a ∈ Z) (hl : ∀ z ∈ l,z ∈ Z) : ∀ z ∈ a :: l,z ∈ Z:=fun z hz=>(List.mem_cons.1 hz).elim (fun e=>e ▸ h) (hl z)
theorem y9 {l1 l2:List OA} (h : ∀ z ∈ l1,z ∈ Z) (hl : ∀ z ∈ l2,z ∈ Z) : ∀ z ∈ l1 ++ l2,z ∈ Z:=fun z hz=>(List.mem_append.1 hz).elim (h z) (hl z)
theorem tl0 : ∀ z ∈ Z,z ∈ Z:=fun _ h=>h
theorem tl3 {a b c:OA} : ∀ z ∈ Z,z ∈ a :: b :: c :: Z:=fun z q => .tail _ (.tail _ (.tail _ (q)))
theorem tl4 {a b c d:OA} : ∀ z ∈ Z,z ∈ a :: b :: c :: d :: Z:=fun z q => .tail _ (.tail _ (.tail _ (.tail _ (q))))
theorem tl5 {a b c d e:OA} : ∀ z ∈ Z,z ∈ a :: b :: c :: d :: e :: Z:=fun z q => .tail _ (.tail _ (.tail _ (.tail _ (.tail _ (q)))))
theorem tl6 {a b c d e f:OA} : ∀ z ∈ Z,z ∈ a :: b :: c :: d :: e :: f :: Z:=fun z q => .tail _ (.tail _ (.tail _ (.tail _ (.tail _ (.tail _ (q))))))
theorem tl7 {a b c d e f g:OA} : ∀ z ∈ Z,z ∈ a :: b :: c :: d :: e :: f :: g :: Z:=fun z q => .tail _ (.tail _ (.tail _ (.tail _ (.tail _ (.tail _ (.tail _ (q)))))))
theorem tl8 {a b c d e f g h:OA} : ∀ z ∈ Z,z ∈ a :: b :: c :: d :: e :: f :: g :: h :: Z:=fun z q => .tail _ (.tail _ (.tail _ (.tail _ (.tail _ (.tail _ (.tail _ (.tail _ (q))))))))
theorem tl9 {a b c d e f g h i:OA} : ∀ z ∈ Z,z ∈ a :: b :: c :: d :: e :: f :: g :: h :: i :: Z:=fun z q => .tail _ (.tail _ (.tail _ (.tail _ (.tail _ (.tail _ (.tail _ (.tail _ (.tail _ (q)))))))))
theorem St.zneed {A:Nat→Prop} {N:Oth} {w0 w:World} {L Z Z1:List OA} (h:St A N w0 w L Z) (hz : ∀ z ∈ Z1,z ∈ Z):St A N w0 w L (Z1 ++ Z):=h.pickZ fun z q=>(List.mem_append.1 q).elim (hz z) id
theorem Sep.ins {w:World} : ∀ {P X Y:List OA} {U:Nat→Prop},Sep w U (P ++ (X ++ Y))→Sep w U (X ++ (P ++ Y)):=fun {P X Y U} h=>by
 obtain ⟨A1,h1,hP,h2⟩ := Sep.split h
 obtain ⟨A2,h3,hX,hY⟩ := Sep.split h2
 refine Sep.join (A:=A2) (B:=fun i=>U i∧¬ A2 i) hX ?_ (fun i hi=>(h3 i hi).1.1) (fun i hi=>hi.1) (fun i hi q=>q.2 hi)
 refine Sep.join (A:=A1) (B:=fun i=>(U i∧¬ A1 i)∧¬ A2 i) hP hY (fun i hi=>⟨(h1 i hi).1,fun q=>(h3 i q).1.2 hi⟩) (fun i hi=>⟨hi.1.1,hi.2⟩) (fun i hi q=>q.1.2 hi)
theorem St.ins {A:Nat→Prop} {N:Oth} {w0 w:World} {P X Y Z:List OA} (h:St A N w0 w (P ++ (X ++ Y)) Z):St A N w0 w (X ++ (P ++ Y)) Z:=by
 obtain ⟨U,hU,hN,hA,hL,hZ,hW⟩ := h
 exact ⟨U,hU,hN,hA,Sep.ins hL,hZ,hW⟩
theorem St.drops {A:Nat→Prop} {N:Oth} {w0 w:World} {X Y Z:List OA} (h:St A N w0 w (X ++ Y) Z):St A N w0 w Y Z:=by
 obtain ⟨U,hU,hN,hA,hL,hZ,hW⟩ := h
 obtain ⟨A1,h1,hX,hY⟩ := Sep.split hL
 exact ⟨U,hU,hN,hA,hY.mono fun i hi=>hi.1,hZ,hW⟩
theorem does_callvg {P:Program} {f:Fr} {w:World} {dd:Option Tmp} {ty:TypeId} {pos:String} {af:Array Edge} {gd:Option (Nat × Bool)} {c:Operand} {k:FuncId} {fi ca:Array Value} {xs:Array Operand} {ats:Array TypeId} {l:List Value} (hg:zJ P k) (hv:evF f c = .func (.func k) fi ca) (hx:xs.toList.map (evF f)=l):Enters P ⟨dd,.call ⟨.value c,xs,ats⟩,ty,pos,af,gd⟩ f w k (fi.toList ++ l ++ ca.toList).toArray:=hx ▸ kH hg hv
end
end Gw
end
section
open Gw Go.RowKit
set_option maxHeartbeats 4000000
set_option maxRecDepth 20000
variable {A:Nat→Prop} {N:Oth} {w:World}
theorem octet_Dec_st {a0:Int} (S:St A N w w [] [oPw]) {r:ByteArray} (H:zdA.f a0=some r) :
  Calls PP F_octet_Dec #[.int .i64 a0] w fun e w' => ∃ v,e = .returned v∧(v = .string r∧St A N w w' [] []):=by
 unfold zdA.f at H
 refine zz (n:=5) fn_octet_Dec rfl rfl zcc (zd (za (wd (xZ rfl) (zb (zd (za (wd (zg rfl) ?_)))))))
 obtain ⟨r1,er1,H⟩ := zr H
 obtain ⟨B3,MB3,SB3,back⟩ := S.calln 0 ((.z 0 rfl .nil))
 refine zu (zq ca_strconv_Itoa) zca (strconv_Itoa_st SB3 er1) ?_
 rintro _ w2 ⟨rfl,S2⟩
 replace S:=back _ _ _ _ S2 rfl
 clear back S2 SB3
 refine wd (xZ rfl) (zb (zx ?_))
 refine ⟨_,(zS (zf rfl)),?_⟩
 replace S:=S.arr [] []
 obtain rfl:=zce H
 exact ⟨rfl,S⟩
theorem uP {a0:Int} (S:St A N w w [] [oPw]) {r:ByteArray} (H:zdB.f a0=some r) :
  Calls PP xu #[.int .i64 a0] w fun e w' => ∃ v,e = .returned v∧(v = .string r∧St A N w w' [] []):=by
 unfold zdB.f at H
 refine zz (n:=6) fn_hilbert_Term_1 rfl rfl zcc (zd (za (wd (xZ rfl) (zb (zd (za (wd (zg rfl) ?_)))))))
 obtain ⟨r1,er1,H⟩ := zr H
 obtain ⟨B3,MB3,SB3,back⟩ := S.calln 0 ((.z 0 rfl .nil))
 refine zu (zq ca_octet_Dec) zca (octet_Dec_st SB3 er1) ?_
 rintro _ w2 ⟨rfl,S2⟩
 replace S:=back _ _ _ _ S2 rfl
 clear back S2 SB3
 obtain ⟨hs4,H⟩ := xo H
 refine wd (zal rfl rfl (of_decide_eq_true hs4)) (wd (xZ rfl) (zb (zx ?_)))
 refine ⟨_,(zS (zf rfl)),?_⟩
 replace S:=S.arr [] []
 obtain rfl:=zce H
 exact ⟨rfl,S⟩
theorem vx {a0:ByteArray} (S:St A N w w [] []) {r:PTerm} (H:zdC.f a0=some r) :
  Calls PP F_hilbert_v #[.string a0] w fun e w' => ∃ v,e = .returned v∧(∃ so0:SlV,v = .agg (Term.C (⟨r.kind,r.name,r.other,r.form,so0⟩ : Term)).toArray∧St A N w w' [] [zn so0 r.sub]):=by
 unfold zdC.f at H
 refine zz (n:=5) fn_hilbert_v rfl rfl zcc (zd (za ?_))
 refine xd ue zca fun b2 w1 hw1=>?_
 replace S:=S.new hw1
 refine zb (zd (za (wd (xl rfl) (wd (Does.to (v' := .agg (Term.C (⟨1,a0,ByteArray.empty,0,SlV.nil⟩ : Term)).toArray) (xF (vs:=[(0,.int .i64 1),(1,.string a0)]) jI (yl rfl (yl rfl rfl)) (Bld.one rfl rfl (by rw [Term.len]; decide) (Term.set_kind _ _) (Bld.one rfl rfl (by rw [Term.len]; decide) (Term.set_name _ _) Bld.nil))) rfl) ?_))))
 refine zI zD rfl rfl (S.blk 0) (Term.len _) (by rw [Term.len]; decide) (Term.one _) (zT (Term.len _)) fun w3 B hw3 zw3=>?_
 replace S:=S.store 0 B hw3
 clear B
 refine zb (zx ?_)
 replace S:=S.nilTm
 refine ⟨_,(zS (xI zD rfl ((S.blk 0).all _ (Term.len _)) (Term.len _))),?_⟩
 replace S:=S.arr [] [0]
 obtain rfl:=zce H
 exact ⟨SlV.nil,rfl,S⟩
theorem xM {a0:Int} {a1:List PTerm} {s_1:SlV} (S:St A N w w [] [zn s_1 a1]) {r:PTerm} (H:zdD.f a0 a1=some r) :
  Calls PP F_hilbert_node #[.int .i64 a0,s_1.v] w fun e w' => ∃ v,e = .returned v∧(∃ so0:SlV,v = .agg (Term.C (⟨r.kind,r.name,r.other,r.form,so0⟩ : Term)).toArray∧St A N w w' [] [zn so0 r.sub]):=by
 unfold zdD.f at H
 refine zz (n:=8) fn_hilbert_node rfl rfl zcc (zd (za ?_))
 refine xd ue zca fun b2 w1 hw1=>?_
 replace S:=S.new hw1
 refine zb (zd (za (wd (zg rfl) (wd (zA rfl) (wd (Does.to (v' := .agg (Term.C (⟨a0,ByteArray.empty,ByteArray.empty,0,s_1⟩ : Term)).toArray) (xF (vs:=[(0,.int .i64 a0),(4,s_1.v)]) jI (yl rfl (yl rfl rfl)) (Bld.one rfl rfl (by rw [Term.len]; decide) (Term.set_kind _ _) (Bld.one rfl (SlV.one _ _ rfl) (by rw [Term.len]; decide) (Term.set_sub _ _) Bld.nil))) rfl) ?_)))))
 refine zI zD rfl rfl (S.blk 0) (Term.len _) (by rw [Term.len]; decide) (Term.one _) (zT (Term.len _)) fun w3 B hw3 zw3=>?_
 replace S:=S.store 0 B hw3
 clear B
 refine zb (zx ?_)
 refine ⟨_,(zS (xI zD rfl ((S.blk 0).all _ (Term.len _)) (Term.len _))),?_⟩
 replace S:=S.arr [] [0]
 obtain rfl:=zce H
 exact ⟨s_1,rfl,S⟩
theorem yZ {a0:PTerm} {s_0:SlV} {a1:List ByteArray} {s_1:SlV} (S:St A N w w [] [zn s_0 a0.sub,fS 1 SC s_1 a1]) {r:PTerm} (H:zdE.f a0 a1=some r) :
  Calls PP F_hilbert_fun #[.agg (Term.C (⟨a0.kind,a0.name,a0.other,a0.form,s_0⟩ : Term)).toArray,s_1.v] w fun e w' => ∃ v,e = .returned v∧(∃ so0:SlV,v = .agg (Term.C (⟨r.kind,r.name,r.other,r.form,so0⟩ : Term)).toArray∧St A N w w' [] [zn so0 r.sub]):=by
 unfold zdE.f at H
 refine zz (n:=16) fn_hilbert_fun rfl rfl zcc (zd (za ?_))
 refine zX rfl zca fun b2 w1 hw1=>?_
 replace S:=S.new hw1
 refine xd ue zca fun b4 w3 hw3=>?_
 replace S:=S.new hw3
 refine zb (zd (zd (za (wd (zA rfl) ?_))))
 refine zu (zq kf) zca (kp _ s_1) ?_
 rintro _ w5 ⟨c6,rfl,Bc6,hc6,Ec6⟩
 replace S:=S.addZ (b:=oB c6 T_L_string [s_1.v]) (G:=(· = c6)) Ec6 ⟨Bc6,fun _=>Iff.rfl⟩ (fun i hi=>by rw [hi]; exact hc6)
 refine zb ?_
 refine zP ?_
 replace S:=S.nilTm
 obtain ⟨o7,e7,Ho7⟩ := zr H
 clear H
 refine wc_rangeSt2 (xs:=bwd a1) (enc:=fun (x:Int × ByteArray)=>Value.int .i64 x.1) (enc2:=fun (x:Int × ByteArray)=>Value.string x.2) (bd:=(fun (x:Int × ByteArray) (s:PTerm)=>zdE.b0 x.1 x.2 s)) (L:=(fun (s:PTerm) (c:SlV)=>[oB b4 zj (Term.C (⟨0,ByteArray.empty,ByteArray.empty,0,SlV.nil⟩ : Term)),oB b2 zj (Term.C (⟨s.kind,s.name,s.other,s.form,c⟩ : Term))])) (Lr:=(fun (_:Empty) (_:Unit)=>[])) (Zf:=(fun (s:PTerm) (c:SlV)=>[zn SlV.nil ([]),oB c6 T_L_string [s_1.v],zn c s.sub,fS 1 SC s_1 a1])) (Zr:=(fun (_:Empty) (_:Unit)=>[])) s_0 false 0 rfl jP (jn (S.len 3) c6) zca zca (fun N' s c W h=>⟨h.blkZ 1,h.rd 3⟩) S e7 ?_ ?_ ?_ ?_
 ·rintro ⟨i7,y7⟩ x7_0 s8 q7 N7 rd u7 H S
  replace S:=S
  refine za (wd (xZ rfl) (zb ?_))
  refine ⟨rfl,_,_,S,fun M7 v7 S=>?_⟩
  replace S:=S
  replace H:zdE.b0  i7 y7 x7_0=some q7:=H
  unfold zdE.b0 at H
  try dsimp only at H
  refine zP (za (wd (xl rfl) (wd (zm zD rfl ((S.blk 1).all _ (Term.len _)) (Term.len _)) ?_)))
  refine xD (C:=Term.C) (l:=[(⟨x7_0.kind,x7_0.name,x7_0.other,x7_0.form,s8⟩ : Term)]) (vs:=[.agg (Term.C (⟨x7_0.kind,x7_0.name,x7_0.other,x7_0.form,s8⟩ : Term)).toArray]) zN vm.zero rfl rfl (fun a _=>Term.len a) zca rfl zca fun b10 w9 s11 hBw9 hw9=>?_
  replace S:=((S.lit hBw9 hw9 zcc).bigTm).consTm (x:=x7_0) 2
  replace S:=(S.frzTm 0 0).zs [0,2,3,4,5]
  refine wd (Does.to (v' := .agg (Term.C (⟨2,y7,ByteArray.empty,0,s11⟩ : Term)).toArray) (xF (vs:=[(0,.int .i64 2),(1,.string y7),(4,s11.v)]) jI (yl rfl (yl rfl (yl rfl rfl))) (Bld.one rfl rfl (by rw [Term.len]; decide) (Term.set_kind _ _) (Bld.one rfl rfl (by rw [Term.len]; decide) (Term.set_name _ _) (Bld.one rfl (SlV.one _ _ rfl) (by rw [Term.len]; decide) (Term.set_sub _ _) Bld.nil)))) rfl) ?_
  refine zI zD rfl rfl (S.blk 1) (Term.len _) (by rw [Term.len]; decide) (Term.one _) (zT (Term.len _)) fun w12 B hw12 zw12=>?_
  replace S:=S.store 1 B hw12
  clear B
  refine zb ?_
  replace S:=S.arr [1,0] [1,2,0,4]
  obtain rfl:=zce H
  exact ⟨_,rfl,s11,S⟩
 ·rintro s7 s14 B7 w13 rfl S hB7
  replace S:=S
  have H:=Ho7
  dsimp only [fin] at H
  refine zd (za (wd (zm zD rfl ((S.blk 1).all _ (Term.len _)) (Term.len _)) ?_))
  refine zI zD rfl rfl (S.blk 0) (Term.len _) (by rw [Term.len]; decide) (Term.one _) (zT (Term.len _)) fun w15 B hw15 zw15=>?_
  replace S:=S.store 0 B hw15
  clear B
  refine zb (zx ?_)
  refine end1 (.inl rfl) (S.take hB7).1 fun w16 hcw16=>?_
  replace S:=(S.take hB7).2 _ hcw16
  refine ⟨_,(zS (xI zD rfl ((S.blk 0).all _ (Term.len _)) (Term.len _))),?_⟩
  replace S:=S.arr [] [2]
  obtain rfl:=zce H
  exact ⟨s14,rfl,S⟩
 ·intro r; exact r.elim
 ·intro h; cases h
theorem hilbert_axiom_st {a0:Int} (S:St A N w w [] []) {r:PTerm} (H:zdF.f a0=some r) :
  Calls PP F_hilbert_axiom #[.int .i64 a0] w fun e w' => ∃ v,e = .returned v∧(∃ so0:SlV,v = .agg (Term.C (⟨r.kind,r.name,r.other,r.form,so0⟩ : Term)).toArray∧St A N w w' [] [zn so0 r.sub]):=by
 unfold zdF.f at H
 refine zz (n:=89) fn_hilbert_axiom rfl rfl zcc (zd (za ?_))
 refine xd ue zca fun b2 w1 hw1=>?_
 replace S:=S.new hw1
 refine zb (zd (za ?_))
 obtain ⟨r3,er3,H⟩ := zr H
 obtain ⟨B5,MB5,SB5,back⟩ := S.sub [] [] [oB b2 zj (Term.C (⟨0,ByteArray.empty,ByteArray.empty,0,SlV.nil⟩ : Term))]
 refine zu (zq vt) zca (vx SB5 er3) ?_
 rintro _ w4 ⟨s6,rfl,S2⟩
 replace S:=back _ _ _ _ _ S2 rfl rfl
 clear back S2 SB5
 obtain ⟨r7,er7,H⟩ := zr H
 obtain ⟨B9,MB9,SB9,back⟩ := S.sub [] [] [oB b2 zj (Term.C (⟨0,ByteArray.empty,ByteArray.empty,0,SlV.nil⟩ : Term))]
 refine zu (zq vt) zca (vx SB9 er7) ?_
 rintro _ w8 ⟨s10,rfl,S2⟩
 replace S:=back _ _ _ _ _ S2 rfl rfl
 clear back S2 SB9
 obtain ⟨r11,er11,H⟩ := zr H
 obtain ⟨B13,MB13,SB13,back⟩ := S.sub [] [] [oB b2 zj (Term.C (⟨0,ByteArray.empty,ByteArray.empty,0,SlV.nil⟩ : Term))]
 refine zu (zq vt) zca (vx SB13 er11) ?_
 rintro _ w12 ⟨s14,rfl,S2⟩
 replace S:=back _ _ _ _ _ S2 rfl rfl
 clear back S2 SB13
 refine xd ue zca fun b16 w15 hw15=>?_
 replace S:=S.new hw15
 refine xd ue zca fun b18 w17 hw17=>?_
 replace S:=S.new hw17
 refine xd ue zca fun b20 w19 hw19=>?_
 replace S:=S.new hw19
 refine zI zD rfl rfl (S.blk 2) (Term.len _) (by rw [Term.len]; decide) (Term.one _) (zT (Term.len _)) fun w21 B hw21 zw21=>?_
 replace S:=S.store 2 B hw21
 clear B
 refine zI zD rfl rfl (S.blk 2) (Term.len _) (by rw [Term.len]; decide) (Term.one _) (zT (Term.len _)) fun w22 B hw22 zw22=>?_
 replace S:=S.store 2 B hw22
 clear B
 refine zI zD rfl rfl (S.blk 2) (Term.len _) (by rw [Term.len]; decide) (Term.one _) (zT (Term.len _)) fun w23 B hw23 zw23=>?_
 replace S:=S.store 2 B hw23
 clear B
 refine zb (zd (zd (za (wd (zg rfl) (zb ?_)))))
 refine zP (zd (za (wd (zU rfl rfl) (wd (zo rfl) (zb ?_)))))
 refine zG rfl (fun hc24=>?_) (fun hc24=>?_)
 ·replace H:=if_t hc24 H
  refine zd (za (wd (zm zD rfl ((S.blk 2).all _ (Term.len _)) (Term.len _)) ?_))
  refine xD (C:=SC) (l:=[(⟨#[97]⟩ : ByteArray),(⟨#[98]⟩ : ByteArray)]) (vs:=[.string (⟨#[97]⟩ : ByteArray),.string (⟨#[98]⟩ : ByteArray)]) yJ uE.zero rfl rfl (fun _ _=>rfl) zca rfl zca fun b26 w25 s27 hBw25 hw25=>?_
  replace S:=S.lit hBw25 hw25 zcc
  obtain ⟨r28,er28,H⟩ := zr H
  replace S:=S.frzS 0
  obtain ⟨B30,MB30,SB30,back⟩ := S.sub [3,0] [] [oB b20 zj (Term.C (⟨r11.kind,r11.name,r11.other,r11.form,s14⟩ : Term)),oB b18 zj (Term.C (⟨r7.kind,r7.name,r7.other,r7.form,s10⟩ : Term)),oB b16 zj (Term.C (⟨r3.kind,r3.name,r3.other,r3.form,s6⟩ : Term)),oB b2 zj (Term.C (⟨0,ByteArray.empty,ByteArray.empty,0,SlV.nil⟩ : Term))]
  refine zu (zq yW) zca (yZ (a0:=r3) SB30 er28) ?_
  rintro _ w29 ⟨s31,rfl,S2⟩
  replace S:=back _ _ _ _ _ S2 rfl rfl
  clear back S2 SB30
  refine zI zD rfl rfl (S.blk 3) (Term.len _) (by rw [Term.len]; decide) (Term.one _) (zT (Term.len _)) fun w32 B hw32 zw32=>?_
  replace S:=S.store 3 B hw32
  clear B
  refine zb (zx ?_)
  refine ⟨_,(zS (xI zD rfl ((S.blk 0).all _ (Term.len _)) (Term.len _))),?_⟩
  replace S:=S.arr [] [0]
  obtain rfl:=zce H
  exact ⟨s31,rfl,S⟩
 replace H:=if_f hc24 H
 refine zd (za (wd (zU rfl rfl) (wd (zo rfl) (zb ?_))))
 refine zG rfl (fun hc33=>?_) (fun hc33=>?_)
 ·replace H:=if_t hc33 H
  refine zd ?_
  obtain ⟨r37,er37,H⟩ := zr H
  obtain ⟨r44,er44,H⟩ := zr H
  obtain ⟨r51,er51,H⟩ := zr H
  refine un 11 ⟨fun _ _=>True,fun _ _ _=>True,fun i v _=>match i with
   | 0=>v=Value.agg (Term.C (⟨r3.kind,r3.name,r3.other,r3.form,s6⟩ : Term)).toArray
   | 1=>v=Value.agg (Term.C (⟨r11.kind,r11.name,r11.other,r11.form,s14⟩ : Term)).toArray
   | 4=>v=Value.agg (Term.C (⟨r7.kind,r7.name,r7.other,r7.form,s10⟩ : Term)).toArray
   | 5=>v=Value.agg (Term.C (⟨r11.kind,r11.name,r11.other,r11.form,s14⟩ : Term)).toArray
   | _=>True⟩ (fun L g v => ∃ s57:SlV,∃ O59:List OA,∃ Z58:List OA,(∀ z ∈ [zn s14 r11.sub,zn s10 r7.sub,zn s6 r3.sub],z ∈ Z58)∧Made L g Z58 2 20 (fun (c:SlV)=>c.v) (fun (c:SlV)=>[zn c ([r3,r11])])∧Made L g Z58 3 21 (fun (c:SlV)=>Value.agg (Term.C (⟨r37.kind,r37.name,r37.other,r37.form,c⟩ : Term)).toArray) (fun (c:SlV)=>[zn c r37.sub])∧Made L g Z58 6 24 (fun (c:SlV)=>c.v) (fun (c:SlV)=>[zn c ([r7,r11])])∧Made L g Z58 7 25 (fun (c:SlV)=>Value.agg (Term.C (⟨r44.kind,r44.name,r44.other,r44.form,c⟩ : Term)).toArray) (fun (c:SlV)=>[zn c r44.sub])∧Made L g Z58 8 26 (fun (c:SlV)=>c.v) (fun (c:SlV)=>[zn c ([r37,r44])])∧Made L g Z58 9 27 (fun (c:SlV)=>Value.agg (Term.C (⟨r51.kind,r51.name,r51.other,r51.form,c⟩ : Term)).toArray) (fun (c:SlV)=>[zn c r51.sub])∧(L 10=true→g 28=s57.v)∧O59=((bif L 10 then [oS T_string 1 SC s57 ([(⟨#[97]⟩ : ByteArray),(⟨#[98]⟩ : ByteArray),(⟨#[99]⟩ : ByteArray)])] else []) ++ [oB b20 zj (Term.C (⟨r11.kind,r11.name,r11.other,r11.form,s14⟩ : Term)),oB b18 zj (Term.C (⟨r7.kind,r7.name,r7.other,r7.form,s10⟩ : Term)),oB b16 zj (Term.C (⟨r3.kind,r3.name,r3.other,r3.form,s6⟩ : Term)),oB b2 zj (Term.C (⟨0,ByteArray.empty,ByteArray.empty,0,SlV.nil⟩ : Term))])∧St A N w v O59 Z58) hmix zcd (fun _ _ _ _ _ _ _ hv=>hv) (fun g=>⟨SlV.nil,_,_,fun _ h=>h,Made.no,Made.no,Made.no,Made.no,Made.no,Made.no,(fun h=>by cases h),rfl,S.ext (Ext.drawn _)⟩) ⟨?_,?_,?_,?_,?_,?_,?_,?_,?_,?_,?_,trivial⟩ ?_
  ·rintro L g v hL hcl hclo ⟨s57,O59,Z58,hZ,hm2,hm3,hm6,hm7,hm8,hm9,hk10,hO,S⟩ 
   have SR:St A N w v [oB b20 zj (Term.C (⟨r11.kind,r11.name,r11.other,r11.form,s14⟩ : Term)),oB b18 zj (Term.C (⟨r7.kind,r7.name,r7.other,r7.form,s10⟩ : Term)),oB b16 zj (Term.C (⟨r3.kind,r3.name,r3.other,r3.form,s6⟩ : Term)),oB b2 zj (Term.C (⟨0,ByteArray.empty,ByteArray.empty,0,SlV.nil⟩ : Term))] (zn s14 r11.sub :: zn s10 r7.sub :: zn s6 r3.sub :: Z58):=by
    have S2:=S.zneed hZ
    rw [hO] at S2
    exact S2.drops
   refine wd (zm zD rfl ((SR.blk 2).all _ (Term.len _)) (Term.len _)) ?_
   exact zb (ob4 trivial rfl ⟨s57,O59,Z58,hZ,hm2.keep rfl rfl tl0,hm3.keep rfl rfl tl0,hm6.keep rfl rfl tl0,hm7.keep rfl rfl tl0,hm8.keep rfl rfl tl0,hm9.keep rfl rfl tl0,(fun h=>by rw [zF _ _ _ _ zca]; exact hk10 (by rw [zp rfl] at h; exact h)),by rw [hO]; simp only [zp (L:=L) (i:=0) (j:=10) rfl],S⟩)
  ·rintro L g v hL hcl hclo ⟨s57,O59,Z58,hZ,hm2,hm3,hm6,hm7,hm8,hm9,hk10,hO,S⟩ 
   have SR:St A N w v [oB b20 zj (Term.C (⟨r11.kind,r11.name,r11.other,r11.form,s14⟩ : Term)),oB b18 zj (Term.C (⟨r7.kind,r7.name,r7.other,r7.form,s10⟩ : Term)),oB b16 zj (Term.C (⟨r3.kind,r3.name,r3.other,r3.form,s6⟩ : Term)),oB b2 zj (Term.C (⟨0,ByteArray.empty,ByteArray.empty,0,SlV.nil⟩ : Term))] (zn s14 r11.sub :: zn s10 r7.sub :: zn s6 r3.sub :: Z58):=by
    have S2:=S.zneed hZ
    rw [hO] at S2
    exact S2.drops
   refine wd (zm zD rfl ((SR.blk 0).all _ (Term.len _)) (Term.len _)) ?_
   exact zb (ob4 trivial rfl ⟨s57,O59,Z58,hZ,hm2.keep rfl rfl tl0,hm3.keep rfl rfl tl0,hm6.keep rfl rfl tl0,hm7.keep rfl rfl tl0,hm8.keep rfl rfl tl0,hm9.keep rfl rfl tl0,(fun h=>by rw [zF _ _ _ _ zca]; exact hk10 (by rw [zp rfl] at h; exact h)),by rw [hO]; simp only [zp (L:=L) (i:=1) (j:=10) rfl],S⟩)
  ·rintro L g v hL hcl hclo ⟨s57,O59,Z58,hZ,hm2,hm3,hm6,hm7,hm8,hm9,hk10,hO,S⟩ hv0 hv1
   replace S:=(S.zneed hZ)
   refine xD (C:=Term.C) (l:=[(⟨r3.kind,r3.name,r3.other,r3.form,s6⟩ : Term),(⟨r11.kind,r11.name,r11.other,r11.form,s14⟩ : Term)]) (vs:=[.agg (Term.C (⟨r3.kind,r3.name,r3.other,r3.form,s6⟩ : Term)).toArray,.agg (Term.C (⟨r11.kind,r11.name,r11.other,r11.form,s14⟩ : Term)).toArray]) zN vm.zero (yl hv0 (yl hv1 rfl)) rfl (fun a _=>Term.len a) zca rfl zca fun b61 w60 s62 hBw60 hw60=>?_
   replace S:=((S.lit hBw60 hw60 zcc).bigTm).consTm (x:=r11) 0
   replace S:=(S.consTm (x:=r3) 2).frzTm 0 0
   exact zb (ob4 trivial trivial ⟨s57,O59,_,(fun z h=>tl5 z (hZ z h)),Made.one (val:=(fun (c:SlV)=>c.v)) (ps:=(fun (c:SlV)=>[zn c ([r3,r11])])) s62 (uf List.mem_cons_self jy),hm3.keep rfl rfl tl5,hm6.keep rfl rfl tl5,hm7.keep rfl rfl tl5,hm8.keep rfl rfl tl5,hm9.keep rfl rfl tl5,(fun h=>by rw [zF _ _ _ _ zca]; exact hk10 (by rw [zp rfl] at h; exact h)),by rw [hO]; simp only [zp (L:=L) (i:=2) (j:=10) rfl],S⟩)
  ·rintro L g v hL hcl hclo ⟨s57,O59,Z58,hZ,hm2,hm3,hm6,hm7,hm8,hm9,hk10,hO,S⟩ _
   obtain ⟨s36,he2,hp2⟩ := hm2 (hcl 2 zcd)
   replace S:=(S.zneed (y9 (l1:=[zn s36 ([r3,r11])]) hp2 hZ))
   obtain ⟨B65,MB65,SB65,back⟩ := S.sub [0] [] (O59)
   refine zu (zK xL (zM rfl (zM he2 rfl))) zca (xM SB65 er37) ?_
   rintro _ w64 ⟨s66,rfl,S2⟩
   replace S:=back _ _ _ _ _ S2 rfl rfl
   clear back S2 SB65
   exact zb (ob4 trivial trivial ⟨s57,O59,_,(fun z h=>tl5 z (hZ z h)),hm2.keep rfl rfl tl5,Made.one (val:=(fun (c:SlV)=>Value.agg (Term.C (⟨r37.kind,r37.name,r37.other,r37.form,c⟩ : Term)).toArray)) (ps:=(fun (c:SlV)=>[zn c r37.sub])) s66 (uf List.mem_cons_self jy),hm6.keep rfl rfl tl5,hm7.keep rfl rfl tl5,hm8.keep rfl rfl tl5,hm9.keep rfl rfl tl5,(fun h=>by rw [zF _ _ _ _ zca]; exact hk10 (by rw [zp rfl] at h; exact h)),by rw [hO]; simp only [zp (L:=L) (i:=3) (j:=10) rfl],S⟩)
  ·rintro L g v hL hcl hclo ⟨s57,O59,Z58,hZ,hm2,hm3,hm6,hm7,hm8,hm9,hk10,hO,S⟩ 
   have SR:St A N w v [oB b20 zj (Term.C (⟨r11.kind,r11.name,r11.other,r11.form,s14⟩ : Term)),oB b18 zj (Term.C (⟨r7.kind,r7.name,r7.other,r7.form,s10⟩ : Term)),oB b16 zj (Term.C (⟨r3.kind,r3.name,r3.other,r3.form,s6⟩ : Term)),oB b2 zj (Term.C (⟨0,ByteArray.empty,ByteArray.empty,0,SlV.nil⟩ : Term))] (zn s14 r11.sub :: zn s10 r7.sub :: zn s6 r3.sub :: Z58):=by
    have S2:=S.zneed hZ
    rw [hO] at S2
    exact S2.drops
   refine wd (zm zD rfl ((SR.blk 1).all _ (Term.len _)) (Term.len _)) ?_
   exact zb (ob4 trivial rfl ⟨s57,O59,Z58,hZ,hm2.keep rfl rfl tl0,hm3.keep rfl rfl tl0,hm6.keep rfl rfl tl0,hm7.keep rfl rfl tl0,hm8.keep rfl rfl tl0,hm9.keep rfl rfl tl0,(fun h=>by rw [zF _ _ _ _ zca]; exact hk10 (by rw [zp rfl] at h; exact h)),by rw [hO]; simp only [zp (L:=L) (i:=4) (j:=10) rfl],S⟩)
  ·rintro L g v hL hcl hclo ⟨s57,O59,Z58,hZ,hm2,hm3,hm6,hm7,hm8,hm9,hk10,hO,S⟩ 
   have SR:St A N w v [oB b20 zj (Term.C (⟨r11.kind,r11.name,r11.other,r11.form,s14⟩ : Term)),oB b18 zj (Term.C (⟨r7.kind,r7.name,r7.other,r7.form,s10⟩ : Term)),oB b16 zj (Term.C (⟨r3.kind,r3.name,r3.other,r3.form,s6⟩ : Term)),oB b2 zj (Term.C (⟨0,ByteArray.empty,ByteArray.empty,0,SlV.nil⟩ : Term))] (zn s14 r11.sub :: zn s10 r7.sub :: zn s6 r3.sub :: Z58):=by
    have S2:=S.zneed hZ
    rw [hO] at S2
    exact S2.drops
   refine wd (zm zD rfl ((SR.blk 0).all _ (Term.len _)) (Term.len _)) ?_
   exact zb (ob4 trivial rfl ⟨s57,O59,Z58,hZ,hm2.keep rfl rfl tl0,hm3.keep rfl rfl tl0,hm6.keep rfl rfl tl0,hm7.keep rfl rfl tl0,hm8.keep rfl rfl tl0,hm9.keep rfl rfl tl0,(fun h=>by rw [zF _ _ _ _ zca]; exact hk10 (by rw [zp rfl] at h; exact h)),by rw [hO]; simp only [zp (L:=L) (i:=5) (j:=10) rfl],S⟩)
  ·rintro L g v hL hcl hclo ⟨s57,O59,Z58,hZ,hm2,hm3,hm6,hm7,hm8,hm9,hk10,hO,S⟩ hv4 hv5
   replace S:=(S.zneed hZ)
   refine xD (C:=Term.C) (l:=[(⟨r7.kind,r7.name,r7.other,r7.form,s10⟩ : Term),(⟨r11.kind,r11.name,r11.other,r11.form,s14⟩ : Term)]) (vs:=[.agg (Term.C (⟨r7.kind,r7.name,r7.other,r7.form,s10⟩ : Term)).toArray,.agg (Term.C (⟨r11.kind,r11.name,r11.other,r11.form,s14⟩ : Term)).toArray]) zN vm.zero (yl hv4 (yl hv5 rfl)) rfl (fun a _=>Term.len a) zca rfl zca fun b68 w67 s69 hBw67 hw67=>?_
   replace S:=((S.lit hBw67 hw67 zcc).bigTm).consTm (x:=r11) 0
   replace S:=(S.consTm (x:=r7) 1).frzTm 0 0
   exact zb (ob4 trivial trivial ⟨s57,O59,_,(fun z h=>tl5 z (hZ z h)),hm2.keep rfl rfl tl5,hm3.keep rfl rfl tl5,Made.one (val:=(fun (c:SlV)=>c.v)) (ps:=(fun (c:SlV)=>[zn c ([r7,r11])])) s69 (uf List.mem_cons_self jy),hm7.keep rfl rfl tl5,hm8.keep rfl rfl tl5,hm9.keep rfl rfl tl5,(fun h=>by rw [zF _ _ _ _ zca]; exact hk10 (by rw [zp rfl] at h; exact h)),by rw [hO]; simp only [zp (L:=L) (i:=6) (j:=10) rfl],S⟩)
  ·rintro L g v hL hcl hclo ⟨s57,O59,Z58,hZ,hm2,hm3,hm6,hm7,hm8,hm9,hk10,hO,S⟩ _
   obtain ⟨s43,he6,hp6⟩ := hm6 (hcl 6 zcd)
   replace S:=(S.zneed (y9 (l1:=[zn s43 ([r7,r11])]) hp6 hZ))
   obtain ⟨B72,MB72,SB72,back⟩ := S.sub [0] [] (O59)
   refine zu (zK xL (zM rfl (zM he6 rfl))) zca (xM SB72 er44) ?_
   rintro _ w71 ⟨s73,rfl,S2⟩
   replace S:=back _ _ _ _ _ S2 rfl rfl
   clear back S2 SB72
   exact zb (ob4 trivial trivial ⟨s57,O59,_,(fun z h=>tl5 z (hZ z h)),hm2.keep rfl rfl tl5,hm3.keep rfl rfl tl5,hm6.keep rfl rfl tl5,Made.one (val:=(fun (c:SlV)=>Value.agg (Term.C (⟨r44.kind,r44.name,r44.other,r44.form,c⟩ : Term)).toArray)) (ps:=(fun (c:SlV)=>[zn c r44.sub])) s73 (uf List.mem_cons_self jy),hm8.keep rfl rfl tl5,hm9.keep rfl rfl tl5,(fun h=>by rw [zF _ _ _ _ zca]; exact hk10 (by rw [zp rfl] at h; exact h)),by rw [hO]; simp only [zp (L:=L) (i:=7) (j:=10) rfl],S⟩)
  ·rintro L g v hL hcl hclo ⟨s57,O59,Z58,hZ,hm2,hm3,hm6,hm7,hm8,hm9,hk10,hO,S⟩ _ _
   obtain ⟨s40,he3,hp3⟩ := hm3 (hcl 3 zcd)
   obtain ⟨s47,he7,hp7⟩ := hm7 (hcl 7 zcd)
   replace S:=(S.zneed (y9 (l1:=[zn s40 r37.sub]) hp3 (y9 (l1:=[zn s47 r44.sub]) hp7 hZ)))
   refine xD (C:=Term.C) (l:=[(⟨r37.kind,r37.name,r37.other,r37.form,s40⟩ : Term),(⟨r44.kind,r44.name,r44.other,r44.form,s47⟩ : Term)]) (vs:=[.agg (Term.C (⟨r37.kind,r37.name,r37.other,r37.form,s40⟩ : Term)).toArray,.agg (Term.C (⟨r44.kind,r44.name,r44.other,r44.form,s47⟩ : Term)).toArray]) zN vm.zero (yl he3 (yl he7 rfl)) rfl (fun a _=>Term.len a) zca rfl zca fun b75 w74 s76 hBw74 hw74=>?_
   replace S:=((S.lit hBw74 hw74 zcc).bigTm).consTm (x:=r44) 1
   replace S:=(S.consTm (x:=r37) 0).frzTm 0 0
   exact zb (ob4 trivial trivial ⟨s57,O59,_,(fun z h=>tl7 z (hZ z h)),hm2.keep rfl rfl tl7,hm3.keep rfl rfl tl7,hm6.keep rfl rfl tl7,hm7.keep rfl rfl tl7,Made.one (val:=(fun (c:SlV)=>c.v)) (ps:=(fun (c:SlV)=>[zn c ([r37,r44])])) s76 (uf List.mem_cons_self jy),hm9.keep rfl rfl tl7,(fun h=>by rw [zF _ _ _ _ zca]; exact hk10 (by rw [zp rfl] at h; exact h)),by rw [hO]; simp only [zp (L:=L) (i:=8) (j:=10) rfl],S⟩)
  ·rintro L g v hL hcl hclo ⟨s57,O59,Z58,hZ,hm2,hm3,hm6,hm7,hm8,hm9,hk10,hO,S⟩ _
   obtain ⟨s50,he8,hp8⟩ := hm8 (hcl 8 zcd)
   replace S:=(S.zneed (y9 (l1:=[zn s50 ([r37,r44])]) hp8 hZ))
   obtain ⟨B79,MB79,SB79,back⟩ := S.sub [0] [] (O59)
   refine zu (zK xL (zM rfl (zM he8 rfl))) zca (xM SB79 er51) ?_
   rintro _ w78 ⟨s80,rfl,S2⟩
   replace S:=back _ _ _ _ _ S2 rfl rfl
   clear back S2 SB79
   exact zb (ob4 trivial trivial ⟨s57,O59,_,(fun z h=>tl5 z (hZ z h)),hm2.keep rfl rfl tl5,hm3.keep rfl rfl tl5,hm6.keep rfl rfl tl5,hm7.keep rfl rfl tl5,hm8.keep rfl rfl tl5,Made.one (val:=(fun (c:SlV)=>Value.agg (Term.C (⟨r51.kind,r51.name,r51.other,r51.form,c⟩ : Term)).toArray)) (ps:=(fun (c:SlV)=>[zn c r51.sub])) s80 (uf List.mem_cons_self jy),(fun h=>by rw [zF _ _ _ _ zca]; exact hk10 (by rw [zp rfl] at h; exact h)),by rw [hO]; simp only [zp (L:=L) (i:=9) (j:=10) rfl],S⟩)
  ·rintro L g v hL hcl hclo ⟨s57,O59,Z58,hZ,hm2,hm3,hm6,hm7,hm8,hm9,hk10,hO,S⟩ 
   have hl10:L 10=false:=hL
   have hOP : ∃ P Y,P=[]∧Y=[oB b20 zj (Term.C (⟨r11.kind,r11.name,r11.other,r11.form,s14⟩ : Term)),oB b18 zj (Term.C (⟨r7.kind,r7.name,r7.other,r7.form,s10⟩ : Term)),oB b16 zj (Term.C (⟨r3.kind,r3.name,r3.other,r3.form,s6⟩ : Term)),oB b2 zj (Term.C (⟨0,ByteArray.empty,ByteArray.empty,0,SlV.nil⟩ : Term))]∧O59=P ++ ([] ++ Y):=⟨_,_,rfl,rfl,by rw [hO]; simp only [hl10,cond_true,cond_false,List.nil_append,List.append_assoc,List.cons_append]⟩
   obtain ⟨P,Y,hP,hY,hPY⟩ := hOP
   rw [hPY] at S
   replace S:=(S.zneed hZ)
   refine xD (C:=SC) (l:=[(⟨#[97]⟩ : ByteArray),(⟨#[98]⟩ : ByteArray),(⟨#[99]⟩ : ByteArray)]) (vs:=[.string (⟨#[97]⟩ : ByteArray),.string (⟨#[98]⟩ : ByteArray),.string (⟨#[99]⟩ : ByteArray)]) yJ uE.zero rfl rfl (fun _ _=>rfl) zca rfl zca fun b82 w81 s83 hBw81 hw81=>?_
   replace S:=S.lit hBw81 hw81 zcc
   refine zb (ob4 trivial trivial ⟨s83,P ++ ([oS T_string 1 SC s83 ([(⟨#[97]⟩ : ByteArray),(⟨#[98]⟩ : ByteArray),(⟨#[99]⟩ : ByteArray)])] ++ Y),_,(fun z h=>tl3 z (hZ z h)),hm2.keep rfl rfl tl3,hm3.keep rfl rfl tl3,hm6.keep rfl rfl tl3,hm7.keep rfl rfl tl3,hm8.keep rfl rfl tl3,hm9.keep rfl rfl tl3,(fun _=>upd_same _ _ _),?_,S.ins (P:=[oS T_string 1 SC s83 ([(⟨#[97]⟩ : ByteArray),(⟨#[98]⟩ : ByteArray),(⟨#[99]⟩ : ByteArray)])])⟩)
   rw [hP,hY]; simp only [y1 (L:=L) (i:=10),cond_true,cond_false,List.nil_append,List.append_assoc,List.cons_append]
  rintro L g w84 hLm ⟨s57,O59,Z58,hZ,hm2,hm3,hm6,hm7,hm8,hm9,hk10,hO,S⟩ hv85_0 hv85_1 _ _ hv85_4 hv85_5 _ _ _ _ _
  have hLt : ∀ j,j < 11→L j=true:=fun j hj=>by rw [hLm]; exact decide_eq_true hj
  obtain ⟨s36,hv85_2,hp2⟩ := hm2 (hLt 2 zca)
  obtain ⟨s40,hv85_3,hp3⟩ := hm3 (hLt 3 zca)
  obtain ⟨s43,hv85_6,hp6⟩ := hm6 (hLt 6 zca)
  obtain ⟨s47,hv85_7,hp7⟩ := hm7 (hLt 7 zca)
  obtain ⟨s50,hv85_8,hp8⟩ := hm8 (hLt 8 zca)
  obtain ⟨s54,hv85_9,hp9⟩ := hm9 (hLt 9 zca)
  have hv85_10:=hk10 (hLt 10 zca)
  simp only [hLt 10 zca,cond_true,List.nil_append,List.cons_append] at hO
  rw [hO] at S
  replace S:=S.pickZ (y9 (l1:=[zn s36 ([r3,r11])]) hp2 (y9 (l1:=[zn s40 r37.sub]) hp3 (y9 (l1:=[zn s43 ([r7,r11])]) hp6 (y9 (l1:=[zn s47 r44.sub]) hp7 (y9 (l1:=[zn s50 ([r37,r44])]) hp8 (y9 (l1:=[zn s54 r51.sub]) hp9 hZ))))))
  clear hp2 hp3 hp6 hp7 hp8 hp9 hZ hm2 hm3 hm6 hm7 hm8 hm9
  obtain ⟨r86,er86,H⟩ := zr H
  replace S:=S.frzS 0
  obtain ⟨B88,MB88,SB88,back⟩ := S.sub [6,0] [] [oB b20 zj (Term.C (⟨r11.kind,r11.name,r11.other,r11.form,s14⟩ : Term)),oB b18 zj (Term.C (⟨r7.kind,r7.name,r7.other,r7.form,s10⟩ : Term)),oB b16 zj (Term.C (⟨r3.kind,r3.name,r3.other,r3.form,s6⟩ : Term)),oB b2 zj (Term.C (⟨0,ByteArray.empty,ByteArray.empty,0,SlV.nil⟩ : Term))]
  refine zu (zK yW (zM hv85_9 (zM hv85_10 rfl))) zca (yZ (a0:=r51) SB88 er86) ?_
  rintro _ w87 ⟨s89,rfl,S2⟩
  replace S:=back _ _ _ _ _ S2 rfl rfl
  clear back S2 SB88
  refine zI zD rfl rfl (S.blk 3) (Term.len _) (by rw [Term.len]; decide) (Term.one _) (zT (Term.len _)) fun w90 B hw90 zw90=>?_
  replace S:=S.store 3 B hw90
  clear B
  refine zb (zx ?_)
  refine ⟨_,(zS (xI zD rfl ((S.blk 0).all _ (Term.len _)) (Term.len _))),?_⟩
  replace S:=S.arr [] [0]
  obtain rfl:=zce H
  exact ⟨s89,rfl,S⟩
 replace H:=if_f hc33 H
 refine zd (za (wd (zU rfl rfl) (wd (zo rfl) (zb ?_))))
 refine zG rfl (fun hc91=>?_) (fun hc91=>?_)
 ·replace H:=if_t hc91 H
  refine zd (za (wd (zm zD rfl ((S.blk 2).all _ (Term.len _)) (Term.len _)) ?_))
  refine xD (C:=Term.C) (l:=[(⟨r3.kind,r3.name,r3.other,r3.form,s6⟩ : Term)]) (vs:=[.agg (Term.C (⟨r3.kind,r3.name,r3.other,r3.form,s6⟩ : Term)).toArray]) zN vm.zero rfl rfl (fun a _=>Term.len a) zca rfl zca fun b93 w92 s94 hBw92 hw92=>?_
  replace S:=((S.lit hBw92 hw92 zcc).bigTm).consTm (x:=r3) 2
  replace S:=(S.frzTm 0 0).zs [0,2,3,4]
  obtain ⟨r95,er95,H⟩ := zr H
  obtain ⟨B97,MB97,SB97,back⟩ := S.sub [0] [] [oB b20 zj (Term.C (⟨r11.kind,r11.name,r11.other,r11.form,s14⟩ : Term)),oB b18 zj (Term.C (⟨r7.kind,r7.name,r7.other,r7.form,s10⟩ : Term)),oB b16 zj (Term.C (⟨r3.kind,r3.name,r3.other,r3.form,s6⟩ : Term)),oB b2 zj (Term.C (⟨0,ByteArray.empty,ByteArray.empty,0,SlV.nil⟩ : Term))]
  refine zu (zq xL) zca (xM SB97 er95) ?_
  rintro _ w96 ⟨s98,rfl,S2⟩
  replace S:=back _ _ _ _ _ S2 rfl rfl
  clear back S2 SB97
  refine xD (C:=SC) (l:=[(⟨#[97]⟩ : ByteArray)]) (vs:=[.string (⟨#[97]⟩ : ByteArray)]) yJ uE.zero rfl rfl (fun _ _=>rfl) zca rfl zca fun b100 w99 s101 hBw99 hw99=>?_
  replace S:=S.lit hBw99 hw99 zcc
  obtain ⟨r102,er102,H⟩ := zr H
  replace S:=S.frzS 0
  obtain ⟨B104,MB104,SB104,back⟩ := S.sub [1,0] [] [oB b20 zj (Term.C (⟨r11.kind,r11.name,r11.other,r11.form,s14⟩ : Term)),oB b18 zj (Term.C (⟨r7.kind,r7.name,r7.other,r7.form,s10⟩ : Term)),oB b16 zj (Term.C (⟨r3.kind,r3.name,r3.other,r3.form,s6⟩ : Term)),oB b2 zj (Term.C (⟨0,ByteArray.empty,ByteArray.empty,0,SlV.nil⟩ : Term))]
  refine zu (zq yW) zca (yZ (a0:=r95) SB104 er102) ?_
  rintro _ w103 ⟨s105,rfl,S2⟩
  replace S:=back _ _ _ _ _ S2 rfl rfl
  clear back S2 SB104
  refine zI zD rfl rfl (S.blk 3) (Term.len _) (by rw [Term.len]; decide) (Term.one _) (zT (Term.len _)) fun w106 B hw106 zw106=>?_
  replace S:=S.store 3 B hw106
  clear B
  refine zb (zx ?_)
  refine ⟨_,(zS (xI zD rfl ((S.blk 0).all _ (Term.len _)) (Term.len _))),?_⟩
  replace S:=S.arr [] [0]
  obtain rfl:=zce H
  exact ⟨s105,rfl,S⟩
 replace H:=if_f hc91 H
 refine zd (za (wd (zU rfl rfl) (wd (zo rfl) (zb ?_))))
 refine zG rfl (fun hc107=>?_) (fun hc107=>?_)
 ·replace H:=if_t hc107 H
  refine zd (za (wd (zm zD rfl ((S.blk 2).all _ (Term.len _)) (Term.len _)) ?_))
  refine xD (C:=Term.C) (l:=[(⟨r3.kind,r3.name,r3.other,r3.form,s6⟩ : Term)]) (vs:=[.agg (Term.C (⟨r3.kind,r3.name,r3.other,r3.form,s6⟩ : Term)).toArray]) zN vm.zero rfl rfl (fun a _=>Term.len a) zca rfl zca fun b109 w108 s110 hBw108 hw108=>?_
  replace S:=((S.lit hBw108 hw108 zcc).bigTm).consTm (x:=r3) 2
  replace S:=(S.frzTm 0 0).zs [0,2,3,4]
  obtain ⟨r111,er111,H⟩ := zr H
  obtain ⟨B113,MB113,SB113,back⟩ := S.sub [0] [] [oB b20 zj (Term.C (⟨r11.kind,r11.name,r11.other,r11.form,s14⟩ : Term)),oB b18 zj (Term.C (⟨r7.kind,r7.name,r7.other,r7.form,s10⟩ : Term)),oB b16 zj (Term.C (⟨r3.kind,r3.name,r3.other,r3.form,s6⟩ : Term)),oB b2 zj (Term.C (⟨0,ByteArray.empty,ByteArray.empty,0,SlV.nil⟩ : Term))]
  refine zu (zq xL) zca (xM SB113 er111) ?_
  rintro _ w112 ⟨s114,rfl,S2⟩
  replace S:=back _ _ _ _ _ S2 rfl rfl
  clear back S2 SB113
  refine xD (C:=SC) (l:=[(⟨#[97]⟩ : ByteArray)]) (vs:=[.string (⟨#[97]⟩ : ByteArray)]) yJ uE.zero rfl rfl (fun _ _=>rfl) zca rfl zca fun b116 w115 s117 hBw115 hw115=>?_
  replace S:=S.lit hBw115 hw115 zcc
  obtain ⟨r118,er118,H⟩ := zr H
  replace S:=S.frzS 0
  obtain ⟨B120,MB120,SB120,back⟩ := S.sub [1,0] [] [oB b20 zj (Term.C (⟨r11.kind,r11.name,r11.other,r11.form,s14⟩ : Term)),oB b18 zj (Term.C (⟨r7.kind,r7.name,r7.other,r7.form,s10⟩ : Term)),oB b16 zj (Term.C (⟨r3.kind,r3.name,r3.other,r3.form,s6⟩ : Term)),oB b2 zj (Term.C (⟨0,ByteArray.empty,ByteArray.empty,0,SlV.nil⟩ : Term))]
  refine zu (zq yW) zca (yZ (a0:=r111) SB120 er118) ?_
  rintro _ w119 ⟨s121,rfl,S2⟩
  replace S:=back _ _ _ _ _ S2 rfl rfl
  clear back S2 SB120
  refine zI zD rfl rfl (S.blk 3) (Term.len _) (by rw [Term.len]; decide) (Term.one _) (zT (Term.len _)) fun w122 B hw122 zw122=>?_
  replace S:=S.store 3 B hw122
  clear B
  refine zb (zx ?_)
  refine ⟨_,(zS (xI zD rfl ((S.blk 0).all _ (Term.len _)) (Term.len _))),?_⟩
  replace S:=S.arr [] [0]
  obtain rfl:=zce H
  exact ⟨s121,rfl,S⟩
 replace H:=if_f hc107 H
 refine zd (za (wd (zU rfl rfl) (wd (zo rfl) (zb ?_))))
 refine zG rfl (fun hc123=>?_) (fun hc123=>?_)
 ·replace H:=if_t hc123 H
  refine zd (za (wd (zm zD rfl ((S.blk 2).all _ (Term.len _)) (Term.len _)) (wd (zm zD rfl ((S.blk 1).all _ (Term.len _)) (Term.len _)) ?_)))
  refine xD (C:=Term.C) (l:=[(⟨r3.kind,r3.name,r3.other,r3.form,s6⟩ : Term),(⟨r7.kind,r7.name,r7.other,r7.form,s10⟩ : Term)]) (vs:=[.agg (Term.C (⟨r3.kind,r3.name,r3.other,r3.form,s6⟩ : Term)).toArray,.agg (Term.C (⟨r7.kind,r7.name,r7.other,r7.form,s10⟩ : Term)).toArray]) zN vm.zero rfl rfl (fun a _=>Term.len a) zca rfl zca fun b125 w124 s126 hBw124 hw124=>?_
  replace S:=((S.lit hBw124 hw124 zcc).bigTm).consTm (x:=r7) 1
  replace S:=((S.consTm (x:=r3) 2).frzTm 0 0).zs [0,2,3,4]
  obtain ⟨r127,er127,H⟩ := zr H
  obtain ⟨B129,MB129,SB129,back⟩ := S.sub [0] [] [oB b20 zj (Term.C (⟨r11.kind,r11.name,r11.other,r11.form,s14⟩ : Term)),oB b18 zj (Term.C (⟨r7.kind,r7.name,r7.other,r7.form,s10⟩ : Term)),oB b16 zj (Term.C (⟨r3.kind,r3.name,r3.other,r3.form,s6⟩ : Term)),oB b2 zj (Term.C (⟨0,ByteArray.empty,ByteArray.empty,0,SlV.nil⟩ : Term))]
  refine zu (zq xL) zca (xM SB129 er127) ?_
  rintro _ w128 ⟨s130,rfl,S2⟩
  replace S:=back _ _ _ _ _ S2 rfl rfl
  clear back S2 SB129
  refine xD (C:=SC) (l:=[(⟨#[97]⟩ : ByteArray),(⟨#[98]⟩ : ByteArray)]) (vs:=[.string (⟨#[97]⟩ : ByteArray),.string (⟨#[98]⟩ : ByteArray)]) yJ uE.zero rfl rfl (fun _ _=>rfl) zca rfl zca fun b132 w131 s133 hBw131 hw131=>?_
  replace S:=S.lit hBw131 hw131 zcc
  obtain ⟨r134,er134,H⟩ := zr H
  replace S:=S.frzS 0
  obtain ⟨B136,MB136,SB136,back⟩ := S.sub [1,0] [] [oB b20 zj (Term.C (⟨r11.kind,r11.name,r11.other,r11.form,s14⟩ : Term)),oB b18 zj (Term.C (⟨r7.kind,r7.name,r7.other,r7.form,s10⟩ : Term)),oB b16 zj (Term.C (⟨r3.kind,r3.name,r3.other,r3.form,s6⟩ : Term)),oB b2 zj (Term.C (⟨0,ByteArray.empty,ByteArray.empty,0,SlV.nil⟩ : Term))]
  refine zu (zq yW) zca (yZ (a0:=r127) SB136 er134) ?_
  rintro _ w135 ⟨s137,rfl,S2⟩
  replace S:=back _ _ _ _ _ S2 rfl rfl
  clear back S2 SB136
  refine zI zD rfl rfl (S.blk 3) (Term.len _) (by rw [Term.len]; decide) (Term.one _) (zT (Term.len _)) fun w138 B hw138 zw138=>?_
  replace S:=S.store 3 B hw138
  clear B
  refine zb (zx ?_)
  refine ⟨_,(zS (xI zD rfl ((S.blk 0).all _ (Term.len _)) (Term.len _))),?_⟩
  replace S:=S.arr [] [0]
  obtain rfl:=zce H
  exact ⟨s137,rfl,S⟩
 replace H:=if_f hc123 H
 refine zd (za (wd (zU rfl rfl) (wd (zo rfl) (zb ?_))))
 refine zG rfl (fun hc139=>?_) (fun hc139=>?_)
 ·replace H:=if_t hc139 H
  refine zd (za (wd (zm zD rfl ((S.blk 2).all _ (Term.len _)) (Term.len _)) ?_))
  refine xD (C:=Term.C) (l:=[(⟨r3.kind,r3.name,r3.other,r3.form,s6⟩ : Term)]) (vs:=[.agg (Term.C (⟨r3.kind,r3.name,r3.other,r3.form,s6⟩ : Term)).toArray]) zN vm.zero rfl rfl (fun a _=>Term.len a) zca rfl zca fun b141 w140 s142 hBw140 hw140=>?_
  replace S:=((S.lit hBw140 hw140 zcc).bigTm).consTm (x:=r3) 2
  replace S:=(S.frzTm 0 0).zs [0,2,3,4]
  obtain ⟨r143,er143,H⟩ := zr H
  obtain ⟨B145,MB145,SB145,back⟩ := S.sub [0] [] [oB b20 zj (Term.C (⟨r11.kind,r11.name,r11.other,r11.form,s14⟩ : Term)),oB b18 zj (Term.C (⟨r7.kind,r7.name,r7.other,r7.form,s10⟩ : Term)),oB b16 zj (Term.C (⟨r3.kind,r3.name,r3.other,r3.form,s6⟩ : Term)),oB b2 zj (Term.C (⟨0,ByteArray.empty,ByteArray.empty,0,SlV.nil⟩ : Term))]
  refine zu (zq xL) zca (xM SB145 er143) ?_
  rintro _ w144 ⟨s146,rfl,S2⟩
  replace S:=back _ _ _ _ _ S2 rfl rfl
  clear back S2 SB145
  refine xD (C:=SC) (l:=[(⟨#[97]⟩ : ByteArray)]) (vs:=[.string (⟨#[97]⟩ : ByteArray)]) yJ uE.zero rfl rfl (fun _ _=>rfl) zca rfl zca fun b148 w147 s149 hBw147 hw147=>?_
  replace S:=S.lit hBw147 hw147 zcc
  obtain ⟨r150,er150,H⟩ := zr H
  replace S:=S.frzS 0
  obtain ⟨B152,MB152,SB152,back⟩ := S.sub [1,0] [] [oB b20 zj (Term.C (⟨r11.kind,r11.name,r11.other,r11.form,s14⟩ : Term)),oB b18 zj (Term.C (⟨r7.kind,r7.name,r7.other,r7.form,s10⟩ : Term)),oB b16 zj (Term.C (⟨r3.kind,r3.name,r3.other,r3.form,s6⟩ : Term)),oB b2 zj (Term.C (⟨0,ByteArray.empty,ByteArray.empty,0,SlV.nil⟩ : Term))]
  refine zu (zq yW) zca (yZ (a0:=r143) SB152 er150) ?_
  rintro _ w151 ⟨s153,rfl,S2⟩
  replace S:=back _ _ _ _ _ S2 rfl rfl
  clear back S2 SB152
  refine zI zD rfl rfl (S.blk 3) (Term.len _) (by rw [Term.len]; decide) (Term.one _) (zT (Term.len _)) fun w154 B hw154 zw154=>?_
  replace S:=S.store 3 B hw154
  clear B
  refine zb (zx ?_)
  refine ⟨_,(zS (xI zD rfl ((S.blk 0).all _ (Term.len _)) (Term.len _))),?_⟩
  replace S:=S.arr [] [0]
  obtain rfl:=zce H
  exact ⟨s153,rfl,S⟩
 replace H:=if_f hc139 H
 refine zd (za (wd (zU rfl rfl) (wd (zo rfl) (zb ?_))))
 refine zG rfl (fun hc155=>?_) (fun hc155=>?_)
 ·replace H:=if_t hc155 H
  refine zd (za (wd (zm zD rfl ((S.blk 2).all _ (Term.len _)) (Term.len _)) ?_))
  refine xD (C:=Term.C) (l:=[(⟨r3.kind,r3.name,r3.other,r3.form,s6⟩ : Term)]) (vs:=[.agg (Term.C (⟨r3.kind,r3.name,r3.other,r3.form,s6⟩ : Term)).toArray]) zN vm.zero rfl rfl (fun a _=>Term.len a) zca rfl zca fun b157 w156 s158 hBw156 hw156=>?_
  replace S:=((S.lit hBw156 hw156 zcc).bigTm).consTm (x:=r3) 2
  replace S:=(S.frzTm 0 0).zs [0,2,3,4]
  obtain ⟨r159,er159,H⟩ := zr H
  obtain ⟨B161,MB161,SB161,back⟩ := S.sub [0] [] [oB b20 zj (Term.C (⟨r11.kind,r11.name,r11.other,r11.form,s14⟩ : Term)),oB b18 zj (Term.C (⟨r7.kind,r7.name,r7.other,r7.form,s10⟩ : Term)),oB b16 zj (Term.C (⟨r3.kind,r3.name,r3.other,r3.form,s6⟩ : Term)),oB b2 zj (Term.C (⟨0,ByteArray.empty,ByteArray.empty,0,SlV.nil⟩ : Term))]
  refine zu (zq xL) zca (xM SB161 er159) ?_
  rintro _ w160 ⟨s162,rfl,S2⟩
  replace S:=back _ _ _ _ _ S2 rfl rfl
  clear back S2 SB161
  refine xD (C:=SC) (l:=[(⟨#[97]⟩ : ByteArray)]) (vs:=[.string (⟨#[97]⟩ : ByteArray)]) yJ uE.zero rfl rfl (fun _ _=>rfl) zca rfl zca fun b164 w163 s165 hBw163 hw163=>?_
  replace S:=S.lit hBw163 hw163 zcc
  obtain ⟨r166,er166,H⟩ := zr H
  replace S:=S.frzS 0
  obtain ⟨B168,MB168,SB168,back⟩ := S.sub [1,0] [] [oB b20 zj (Term.C (⟨r11.kind,r11.name,r11.other,r11.form,s14⟩ : Term)),oB b18 zj (Term.C (⟨r7.kind,r7.name,r7.other,r7.form,s10⟩ : Term)),oB b16 zj (Term.C (⟨r3.kind,r3.name,r3.other,r3.form,s6⟩ : Term)),oB b2 zj (Term.C (⟨0,ByteArray.empty,ByteArray.empty,0,SlV.nil⟩ : Term))]
  refine zu (zq yW) zca (yZ (a0:=r159) SB168 er166) ?_
  rintro _ w167 ⟨s169,rfl,S2⟩
  replace S:=back _ _ _ _ _ S2 rfl rfl
  clear back S2 SB168
  refine zI zD rfl rfl (S.blk 3) (Term.len _) (by rw [Term.len]; decide) (Term.one _) (zT (Term.len _)) fun w170 B hw170 zw170=>?_
  replace S:=S.store 3 B hw170
  clear B
  refine zb (zx ?_)
  refine ⟨_,(zS (xI zD rfl ((S.blk 0).all _ (Term.len _)) (Term.len _))),?_⟩
  replace S:=S.arr [] [0]
  obtain rfl:=zce H
  exact ⟨s169,rfl,S⟩
 replace H:=if_f hc155 H
 refine zd (za (wd (zU rfl rfl) (wd (zo rfl) (zb ?_))))
 refine zG rfl (fun hc171=>?_) (fun hc171=>?_)
 ·replace H:=if_t hc171 H
  refine zd ?_
  obtain ⟨r172,er172,H⟩ := zr H
  obtain ⟨r179,er179,H⟩ := zr H
  obtain ⟨r183,er183,H⟩ := zr H
  obtain ⟨r190,er190,H⟩ := zr H
  obtain ⟨r197,er197,H⟩ := zr H
  refine un 12 ⟨fun _ _=>True,fun _ _ _=>True,fun i v _=>match i with
   | 0=>v=Value.agg (Term.C (⟨r11.kind,r11.name,r11.other,r11.form,s14⟩ : Term)).toArray
   | 1=>v=Value.agg (Term.C (⟨r3.kind,r3.name,r3.other,r3.form,s6⟩ : Term)).toArray
   | 5=>v=Value.agg (Term.C (⟨r7.kind,r7.name,r7.other,r7.form,s10⟩ : Term)).toArray
   | _=>True⟩ (fun L g v => ∃ b202:Nat,∃ O204:List OA,∃ Z203:List OA,(∀ z ∈ [zn s14 r11.sub,zn s10 r7.sub,zn s6 r3.sub],z ∈ Z203)∧Made L g Z203 2 70 (fun (c:SlV)=>Value.agg (Term.C (⟨r172.kind,r172.name,r172.other,r172.form,c⟩ : Term)).toArray) (fun (c:SlV)=>[zn c r172.sub])∧Made L g Z203 3 71 (fun (c:SlV)=>c.v) (fun (c:SlV)=>[zn c ([r3,r172])])∧Made L g Z203 4 72 (fun (c:SlV)=>Value.agg (Term.C (⟨r179.kind,r179.name,r179.other,r179.form,c⟩ : Term)).toArray) (fun (c:SlV)=>[zn c r179.sub])∧Made L g Z203 6 74 (fun (c:SlV)=>Value.agg (Term.C (⟨r183.kind,r183.name,r183.other,r183.form,c⟩ : Term)).toArray) (fun (c:SlV)=>[zn c r183.sub])∧Made L g Z203 7 75 (fun (c:SlV)=>c.v) (fun (c:SlV)=>[zn c ([r7,r183])])∧Made L g Z203 8 76 (fun (c:SlV)=>Value.agg (Term.C (⟨r190.kind,r190.name,r190.other,r190.form,c⟩ : Term)).toArray) (fun (c:SlV)=>[zn c r190.sub])∧Made L g Z203 9 77 (fun (c:SlV)=>c.v) (fun (c:SlV)=>[zn c ([r11,r179,r190])])∧Made L g Z203 10 78 (fun (c:SlV)=>Value.agg (Term.C (⟨r197.kind,r197.name,r197.other,r197.form,c⟩ : Term)).toArray) (fun (c:SlV)=>[zn c r197.sub])∧(L 11=true→g 6=Value.pointer (some ⟨b202,0,none⟩))∧O204=((bif L 11 then [oB b202 zj (Term.C (⟨0,ByteArray.empty,ByteArray.empty,0,SlV.nil⟩ : Term))] else []) ++ [oB b20 zj (Term.C (⟨r11.kind,r11.name,r11.other,r11.form,s14⟩ : Term)),oB b18 zj (Term.C (⟨r7.kind,r7.name,r7.other,r7.form,s10⟩ : Term)),oB b16 zj (Term.C (⟨r3.kind,r3.name,r3.other,r3.form,s6⟩ : Term)),oB b2 zj (Term.C (⟨0,ByteArray.empty,ByteArray.empty,0,SlV.nil⟩ : Term))])∧St A N w v O204 Z203) hmix zcd (fun _ _ _ _ _ _ _ hv=>hv) (fun g=>⟨0,_,_,fun _ h=>h,Made.no,Made.no,Made.no,Made.no,Made.no,Made.no,Made.no,Made.no,(fun h=>by cases h),rfl,S.ext (Ext.drawn _)⟩) ⟨?_,?_,?_,?_,?_,?_,?_,?_,?_,?_,?_,?_,trivial⟩ ?_
  ·rintro L g v hL hcl hclo ⟨b202,O204,Z203,hZ,hm2,hm3,hm4,hm6,hm7,hm8,hm9,hm10,hk11,hO,S⟩ 
   have SR:St A N w v [oB b20 zj (Term.C (⟨r11.kind,r11.name,r11.other,r11.form,s14⟩ : Term)),oB b18 zj (Term.C (⟨r7.kind,r7.name,r7.other,r7.form,s10⟩ : Term)),oB b16 zj (Term.C (⟨r3.kind,r3.name,r3.other,r3.form,s6⟩ : Term)),oB b2 zj (Term.C (⟨0,ByteArray.empty,ByteArray.empty,0,SlV.nil⟩ : Term))] (zn s14 r11.sub :: zn s10 r7.sub :: zn s6 r3.sub :: Z203):=by
    have S2:=S.zneed hZ
    rw [hO] at S2
    exact S2.drops
   refine wd (zm zD rfl ((SR.blk 0).all _ (Term.len _)) (Term.len _)) ?_
   exact zb (ob4 trivial rfl ⟨b202,O204,Z203,hZ,hm2.keep rfl rfl tl0,hm3.keep rfl rfl tl0,hm4.keep rfl rfl tl0,hm6.keep rfl rfl tl0,hm7.keep rfl rfl tl0,hm8.keep rfl rfl tl0,hm9.keep rfl rfl tl0,hm10.keep rfl rfl tl0,(fun h=>by rw [zF _ _ _ _ zca]; exact hk11 (by rw [zp rfl] at h; exact h)),by rw [hO]; simp only [zp (L:=L) (i:=0) (j:=11) rfl],S⟩)
  ·rintro L g v hL hcl hclo ⟨b202,O204,Z203,hZ,hm2,hm3,hm4,hm6,hm7,hm8,hm9,hm10,hk11,hO,S⟩ 
   have SR:St A N w v [oB b20 zj (Term.C (⟨r11.kind,r11.name,r11.other,r11.form,s14⟩ : Term)),oB b18 zj (Term.C (⟨r7.kind,r7.name,r7.other,r7.form,s10⟩ : Term)),oB b16 zj (Term.C (⟨r3.kind,r3.name,r3.other,r3.form,s6⟩ : Term)),oB b2 zj (Term.C (⟨0,ByteArray.empty,ByteArray.empty,0,SlV.nil⟩ : Term))] (zn s14 r11.sub :: zn s10 r7.sub :: zn s6 r3.sub :: Z203):=by
    have S2:=S.zneed hZ
    rw [hO] at S2
    exact S2.drops
   refine wd (zm zD rfl ((SR.blk 2).all _ (Term.len _)) (Term.len _)) ?_
   exact zb (ob4 trivial rfl ⟨b202,O204,Z203,hZ,hm2.keep rfl rfl tl0,hm3.keep rfl rfl tl0,hm4.keep rfl rfl tl0,hm6.keep rfl rfl tl0,hm7.keep rfl rfl tl0,hm8.keep rfl rfl tl0,hm9.keep rfl rfl tl0,hm10.keep rfl rfl tl0,(fun h=>by rw [zF _ _ _ _ zca]; exact hk11 (by rw [zp rfl] at h; exact h)),by rw [hO]; simp only [zp (L:=L) (i:=1) (j:=11) rfl],S⟩)
  ·rintro L g v hL hcl hclo ⟨b202,O204,Z203,hZ,hm2,hm3,hm4,hm6,hm7,hm8,hm9,hm10,hk11,hO,S⟩ 
   replace S:=(S.zneed hZ)
   obtain ⟨B207,MB207,SB207,back⟩ := S.sub [] [] (O204)
   refine zu (zq vt) zca (vx SB207 er172) ?_
   rintro _ w206 ⟨s208,rfl,S2⟩
   replace S:=back _ _ _ _ _ S2 rfl rfl
   clear back S2 SB207
   exact zb (ob4 trivial trivial ⟨b202,O204,_,(fun z h=>tl4 z (hZ z h)),Made.one (val:=(fun (c:SlV)=>Value.agg (Term.C (⟨r172.kind,r172.name,r172.other,r172.form,c⟩ : Term)).toArray)) (ps:=(fun (c:SlV)=>[zn c r172.sub])) s208 (uf List.mem_cons_self jy),hm3.keep rfl rfl tl4,hm4.keep rfl rfl tl4,hm6.keep rfl rfl tl4,hm7.keep rfl rfl tl4,hm8.keep rfl rfl tl4,hm9.keep rfl rfl tl4,hm10.keep rfl rfl tl4,(fun h=>by rw [zF _ _ _ _ zca]; exact hk11 (by rw [zp rfl] at h; exact h)),by rw [hO]; simp only [zp (L:=L) (i:=2) (j:=11) rfl],S⟩)
  ·rintro L g v hL hcl hclo ⟨b202,O204,Z203,hZ,hm2,hm3,hm4,hm6,hm7,hm8,hm9,hm10,hk11,hO,S⟩ hv1 _
   obtain ⟨s175,he2,hp2⟩ := hm2 (hcl 2 zcd)
   replace S:=(S.zneed (y9 (l1:=[zn s175 r172.sub]) hp2 hZ))
   refine xD (C:=Term.C) (l:=[(⟨r3.kind,r3.name,r3.other,r3.form,s6⟩ : Term),(⟨r172.kind,r172.name,r172.other,r172.form,s175⟩ : Term)]) (vs:=[.agg (Term.C (⟨r3.kind,r3.name,r3.other,r3.form,s6⟩ : Term)).toArray,.agg (Term.C (⟨r172.kind,r172.name,r172.other,r172.form,s175⟩ : Term)).toArray]) zN vm.zero (yl hv1 (yl he2 rfl)) rfl (fun a _=>Term.len a) zca rfl zca fun b210 w209 s211 hBw209 hw209=>?_
   replace S:=((S.lit hBw209 hw209 zcc).bigTm).consTm (x:=r172) 0
   replace S:=(S.consTm (x:=r3) 3).frzTm 0 0
   exact zb (ob4 trivial trivial ⟨b202,O204,_,(fun z h=>tl6 z (hZ z h)),hm2.keep rfl rfl tl6,Made.one (val:=(fun (c:SlV)=>c.v)) (ps:=(fun (c:SlV)=>[zn c ([r3,r172])])) s211 (uf List.mem_cons_self jy),hm4.keep rfl rfl tl6,hm6.keep rfl rfl tl6,hm7.keep rfl rfl tl6,hm8.keep rfl rfl tl6,hm9.keep rfl rfl tl6,hm10.keep rfl rfl tl6,(fun h=>by rw [zF _ _ _ _ zca]; exact hk11 (by rw [zp rfl] at h; exact h)),by rw [hO]; simp only [zp (L:=L) (i:=3) (j:=11) rfl],S⟩)
  ·rintro L g v hL hcl hclo ⟨b202,O204,Z203,hZ,hm2,hm3,hm4,hm6,hm7,hm8,hm9,hm10,hk11,hO,S⟩ _
   obtain ⟨s178,he3,hp3⟩ := hm3 (hcl 3 zcd)
   replace S:=(S.zneed (y9 (l1:=[zn s178 ([r3,r172])]) hp3 hZ))
   obtain ⟨B214,MB214,SB214,back⟩ := S.sub [0] [] (O204)
   refine zu (zK xL (zM rfl (zM he3 rfl))) zca (xM SB214 er179) ?_
   rintro _ w213 ⟨s215,rfl,S2⟩
   replace S:=back _ _ _ _ _ S2 rfl rfl
   clear back S2 SB214
   exact zb (ob4 trivial trivial ⟨b202,O204,_,(fun z h=>tl5 z (hZ z h)),hm2.keep rfl rfl tl5,hm3.keep rfl rfl tl5,Made.one (val:=(fun (c:SlV)=>Value.agg (Term.C (⟨r179.kind,r179.name,r179.other,r179.form,c⟩ : Term)).toArray)) (ps:=(fun (c:SlV)=>[zn c r179.sub])) s215 (uf List.mem_cons_self jy),hm6.keep rfl rfl tl5,hm7.keep rfl rfl tl5,hm8.keep rfl rfl tl5,hm9.keep rfl rfl tl5,hm10.keep rfl rfl tl5,(fun h=>by rw [zF _ _ _ _ zca]; exact hk11 (by rw [zp rfl] at h; exact h)),by rw [hO]; simp only [zp (L:=L) (i:=4) (j:=11) rfl],S⟩)
  ·rintro L g v hL hcl hclo ⟨b202,O204,Z203,hZ,hm2,hm3,hm4,hm6,hm7,hm8,hm9,hm10,hk11,hO,S⟩ 
   have SR:St A N w v [oB b20 zj (Term.C (⟨r11.kind,r11.name,r11.other,r11.form,s14⟩ : Term)),oB b18 zj (Term.C (⟨r7.kind,r7.name,r7.other,r7.form,s10⟩ : Term)),oB b16 zj (Term.C (⟨r3.kind,r3.name,r3.other,r3.form,s6⟩ : Term)),oB b2 zj (Term.C (⟨0,ByteArray.empty,ByteArray.empty,0,SlV.nil⟩ : Term))] (zn s14 r11.sub :: zn s10 r7.sub :: zn s6 r3.sub :: Z203):=by
    have S2:=S.zneed hZ
    rw [hO] at S2
    exact S2.drops
   refine wd (zm zD rfl ((SR.blk 1).all _ (Term.len _)) (Term.len _)) ?_
   exact zb (ob4 trivial rfl ⟨b202,O204,Z203,hZ,hm2.keep rfl rfl tl0,hm3.keep rfl rfl tl0,hm4.keep rfl rfl tl0,hm6.keep rfl rfl tl0,hm7.keep rfl rfl tl0,hm8.keep rfl rfl tl0,hm9.keep rfl rfl tl0,hm10.keep rfl rfl tl0,(fun h=>by rw [zF _ _ _ _ zca]; exact hk11 (by rw [zp rfl] at h; exact h)),by rw [hO]; simp only [zp (L:=L) (i:=5) (j:=11) rfl],S⟩)
  ·rintro L g v hL hcl hclo ⟨b202,O204,Z203,hZ,hm2,hm3,hm4,hm6,hm7,hm8,hm9,hm10,hk11,hO,S⟩ 
   replace S:=(S.zneed hZ)
   obtain ⟨B218,MB218,SB218,back⟩ := S.sub [] [] (O204)
   refine zu (zq vt) zca (vx SB218 er183) ?_
   rintro _ w217 ⟨s219,rfl,S2⟩
   replace S:=back _ _ _ _ _ S2 rfl rfl
   clear back S2 SB218
   exact zb (ob4 trivial trivial ⟨b202,O204,_,(fun z h=>tl4 z (hZ z h)),hm2.keep rfl rfl tl4,hm3.keep rfl rfl tl4,hm4.keep rfl rfl tl4,Made.one (val:=(fun (c:SlV)=>Value.agg (Term.C (⟨r183.kind,r183.name,r183.other,r183.form,c⟩ : Term)).toArray)) (ps:=(fun (c:SlV)=>[zn c r183.sub])) s219 (uf List.mem_cons_self jy),hm7.keep rfl rfl tl4,hm8.keep rfl rfl tl4,hm9.keep rfl rfl tl4,hm10.keep rfl rfl tl4,(fun h=>by rw [zF _ _ _ _ zca]; exact hk11 (by rw [zp rfl] at h; exact h)),by rw [hO]; simp only [zp (L:=L) (i:=6) (j:=11) rfl],S⟩)
  ·rintro L g v hL hcl hclo ⟨b202,O204,Z203,hZ,hm2,hm3,hm4,hm6,hm7,hm8,hm9,hm10,hk11,hO,S⟩ hv5 _
   obtain ⟨s186,he6,hp6⟩ := hm6 (hcl 6 zcd)
   replace S:=(S.zneed (y9 (l1:=[zn s186 r183.sub]) hp6 hZ))
   refine xD (C:=Term.C) (l:=[(⟨r7.kind,r7.name,r7.other,r7.form,s10⟩ : Term),(⟨r183.kind,r183.name,r183.other,r183.form,s186⟩ : Term)]) (vs:=[.agg (Term.C (⟨r7.kind,r7.name,r7.other,r7.form,s10⟩ : Term)).toArray,.agg (Term.C (⟨r183.kind,r183.name,r183.other,r183.form,s186⟩ : Term)).toArray]) zN vm.zero (yl hv5 (yl he6 rfl)) rfl (fun a _=>Term.len a) zca rfl zca fun b221 w220 s222 hBw220 hw220=>?_
   replace S:=((S.lit hBw220 hw220 zcc).bigTm).consTm (x:=r183) 0
   replace S:=(S.consTm (x:=r7) 2).frzTm 0 0
   exact zb (ob4 trivial trivial ⟨b202,O204,_,(fun z h=>tl6 z (hZ z h)),hm2.keep rfl rfl tl6,hm3.keep rfl rfl tl6,hm4.keep rfl rfl tl6,hm6.keep rfl rfl tl6,Made.one (val:=(fun (c:SlV)=>c.v)) (ps:=(fun (c:SlV)=>[zn c ([r7,r183])])) s222 (uf List.mem_cons_self jy),hm8.keep rfl rfl tl6,hm9.keep rfl rfl tl6,hm10.keep rfl rfl tl6,(fun h=>by rw [zF _ _ _ _ zca]; exact hk11 (by rw [zp rfl] at h; exact h)),by rw [hO]; simp only [zp (L:=L) (i:=7) (j:=11) rfl],S⟩)
  ·rintro L g v hL hcl hclo ⟨b202,O204,Z203,hZ,hm2,hm3,hm4,hm6,hm7,hm8,hm9,hm10,hk11,hO,S⟩ _
   obtain ⟨s189,he7,hp7⟩ := hm7 (hcl 7 zcd)
   replace S:=(S.zneed (y9 (l1:=[zn s189 ([r7,r183])]) hp7 hZ))
   obtain ⟨B225,MB225,SB225,back⟩ := S.sub [0] [] (O204)
   refine zu (zK xL (zM rfl (zM he7 rfl))) zca (xM SB225 er190) ?_
   rintro _ w224 ⟨s226,rfl,S2⟩
   replace S:=back _ _ _ _ _ S2 rfl rfl
   clear back S2 SB225
   exact zb (ob4 trivial trivial ⟨b202,O204,_,(fun z h=>tl5 z (hZ z h)),hm2.keep rfl rfl tl5,hm3.keep rfl rfl tl5,hm4.keep rfl rfl tl5,hm6.keep rfl rfl tl5,hm7.keep rfl rfl tl5,Made.one (val:=(fun (c:SlV)=>Value.agg (Term.C (⟨r190.kind,r190.name,r190.other,r190.form,c⟩ : Term)).toArray)) (ps:=(fun (c:SlV)=>[zn c r190.sub])) s226 (uf List.mem_cons_self jy),hm9.keep rfl rfl tl5,hm10.keep rfl rfl tl5,(fun h=>by rw [zF _ _ _ _ zca]; exact hk11 (by rw [zp rfl] at h; exact h)),by rw [hO]; simp only [zp (L:=L) (i:=8) (j:=11) rfl],S⟩)
  ·rintro L g v hL hcl hclo ⟨b202,O204,Z203,hZ,hm2,hm3,hm4,hm6,hm7,hm8,hm9,hm10,hk11,hO,S⟩ hv0 _ _
   obtain ⟨s182,he4,hp4⟩ := hm4 (hcl 4 zcd)
   obtain ⟨s193,he8,hp8⟩ := hm8 (hcl 8 zcd)
   replace S:=(S.zneed (y9 (l1:=[zn s182 r179.sub]) hp4 (y9 (l1:=[zn s193 r190.sub]) hp8 hZ)))
   refine xD (C:=Term.C) (l:=[(⟨r11.kind,r11.name,r11.other,r11.form,s14⟩ : Term),(⟨r179.kind,r179.name,r179.other,r179.form,s182⟩ : Term),(⟨r190.kind,r190.name,r190.other,r190.form,s193⟩ : Term)]) (vs:=[.agg (Term.C (⟨r11.kind,r11.name,r11.other,r11.form,s14⟩ : Term)).toArray,.agg (Term.C (⟨r179.kind,r179.name,r179.other,r179.form,s182⟩ : Term)).toArray,.agg (Term.C (⟨r190.kind,r190.name,r190.other,r190.form,s193⟩ : Term)).toArray]) zN vm.zero (yl hv0 (yl he4 (yl he8 rfl))) rfl (fun a _=>Term.len a) zca rfl zca fun b228 w227 s229 hBw227 hw227=>?_
   replace S:=((S.lit hBw227 hw227 zcc).bigTm).consTm (x:=r190) 1
   replace S:=((S.consTm (x:=r179) 0).consTm (x:=r11) 2).frzTm 0 0
   exact zb (ob4 trivial trivial ⟨b202,O204,_,(fun z h=>tl7 z (hZ z h)),hm2.keep rfl rfl tl7,hm3.keep rfl rfl tl7,hm4.keep rfl rfl tl7,hm6.keep rfl rfl tl7,hm7.keep rfl rfl tl7,hm8.keep rfl rfl tl7,Made.one (val:=(fun (c:SlV)=>c.v)) (ps:=(fun (c:SlV)=>[zn c ([r11,r179,r190])])) s229 (uf List.mem_cons_self jy),hm10.keep rfl rfl tl7,(fun h=>by rw [zF _ _ _ _ zca]; exact hk11 (by rw [zp rfl] at h; exact h)),by rw [hO]; simp only [zp (L:=L) (i:=9) (j:=11) rfl],S⟩)
  ·rintro L g v hL hcl hclo ⟨b202,O204,Z203,hZ,hm2,hm3,hm4,hm6,hm7,hm8,hm9,hm10,hk11,hO,S⟩ _
   obtain ⟨s196,he9,hp9⟩ := hm9 (hcl 9 zcd)
   replace S:=(S.zneed (y9 (l1:=[zn s196 ([r11,r179,r190])]) hp9 hZ))
   obtain ⟨B232,MB232,SB232,back⟩ := S.sub [0] [] (O204)
   refine zu (zK xL (zM rfl (zM he9 rfl))) zca (xM SB232 er197) ?_
   rintro _ w231 ⟨s233,rfl,S2⟩
   replace S:=back _ _ _ _ _ S2 rfl rfl
   clear back S2 SB232
   exact zb (ob4 trivial trivial ⟨b202,O204,_,(fun z h=>tl5 z (hZ z h)),hm2.keep rfl rfl tl5,hm3.keep rfl rfl tl5,hm4.keep rfl rfl tl5,hm6.keep rfl rfl tl5,hm7.keep rfl rfl tl5,hm8.keep rfl rfl tl5,hm9.keep rfl rfl tl5,Made.one (val:=(fun (c:SlV)=>Value.agg (Term.C (⟨r197.kind,r197.name,r197.other,r197.form,c⟩ : Term)).toArray)) (ps:=(fun (c:SlV)=>[zn c r197.sub])) s233 (uf List.mem_cons_self jy),(fun h=>by rw [zF _ _ _ _ zca]; exact hk11 (by rw [zp rfl] at h; exact h)),by rw [hO]; simp only [zp (L:=L) (i:=10) (j:=11) rfl],S⟩)
  ·rintro L g v hL hcl hclo ⟨b202,O204,Z203,hZ,hm2,hm3,hm4,hm6,hm7,hm8,hm9,hm10,hk11,hO,S⟩ 
   have hl11:L 11=false:=hL
   have hOP : ∃ P Y,P=[]∧Y=[oB b20 zj (Term.C (⟨r11.kind,r11.name,r11.other,r11.form,s14⟩ : Term)),oB b18 zj (Term.C (⟨r7.kind,r7.name,r7.other,r7.form,s10⟩ : Term)),oB b16 zj (Term.C (⟨r3.kind,r3.name,r3.other,r3.form,s6⟩ : Term)),oB b2 zj (Term.C (⟨0,ByteArray.empty,ByteArray.empty,0,SlV.nil⟩ : Term))]∧O204=P ++ ([] ++ Y):=⟨_,_,rfl,rfl,by rw [hO]; simp only [hl11,cond_true,cond_false,List.nil_append,List.append_assoc,List.cons_append]⟩
   obtain ⟨P,Y,hP,hY,hPY⟩ := hOP
   rw [hPY] at S
   replace S:=S
   refine xd ue zca fun b235 w234 hw234=>?_
   replace S:=S.new hw234
   refine zb (ob4 trivial trivial ⟨b235,P ++ ([oB b235 zj (Term.C (⟨0,ByteArray.empty,ByteArray.empty,0,SlV.nil⟩ : Term))] ++ Y),_,hZ,hm2.keep rfl rfl tl0,hm3.keep rfl rfl tl0,hm4.keep rfl rfl tl0,hm6.keep rfl rfl tl0,hm7.keep rfl rfl tl0,hm8.keep rfl rfl tl0,hm9.keep rfl rfl tl0,hm10.keep rfl rfl tl0,(fun _=>upd_same _ _ _),?_,S.ins (P:=[oB b235 zj (Term.C (⟨0,ByteArray.empty,ByteArray.empty,0,SlV.nil⟩ : Term))])⟩)
   rw [hP,hY]; simp only [y1 (L:=L) (i:=11),cond_true,cond_false,List.nil_append,List.append_assoc,List.cons_append]
  rintro L g w236 hLm ⟨b202,O204,Z203,hZ,hm2,hm3,hm4,hm6,hm7,hm8,hm9,hm10,hk11,hO,S⟩ hv237_0 hv237_1 _ _ _ hv237_5 _ _ _ _ _ _
  have hLt : ∀ j,j < 12→L j=true:=fun j hj=>by rw [hLm]; exact decide_eq_true hj
  obtain ⟨s175,hv237_2,hp2⟩ := hm2 (hLt 2 zca)
  obtain ⟨s178,hv237_3,hp3⟩ := hm3 (hLt 3 zca)
  obtain ⟨s182,hv237_4,hp4⟩ := hm4 (hLt 4 zca)
  obtain ⟨s186,hv237_6,hp6⟩ := hm6 (hLt 6 zca)
  obtain ⟨s189,hv237_7,hp7⟩ := hm7 (hLt 7 zca)
  obtain ⟨s193,hv237_8,hp8⟩ := hm8 (hLt 8 zca)
  obtain ⟨s196,hv237_9,hp9⟩ := hm9 (hLt 9 zca)
  obtain ⟨s200,hv237_10,hp10⟩ := hm10 (hLt 10 zca)
  have hv237_11:=hk11 (hLt 11 zca)
  simp only [hLt 11 zca,cond_true,List.nil_append,List.cons_append] at hO
  rw [hO] at S
  replace S:=S.pickZ (y9 (l1:=[zn s175 r172.sub]) hp2 (y9 (l1:=[zn s178 ([r3,r172])]) hp3 (y9 (l1:=[zn s182 r179.sub]) hp4 (y9 (l1:=[zn s186 r183.sub]) hp6 (y9 (l1:=[zn s189 ([r7,r183])]) hp7 (y9 (l1:=[zn s193 r190.sub]) hp8 (y9 (l1:=[zn s196 ([r11,r179,r190])]) hp9 (y9 (l1:=[zn s200 r197.sub]) hp10 hZ))))))))
  clear hp2 hp3 hp4 hp6 hp7 hp8 hp9 hp10 hZ hm2 hm3 hm4 hm6 hm7 hm8 hm9 hm10
  refine zI zD hv237_11 hv237_10 (S.blk 0) (Term.len _) (by rw [Term.len]; decide) (Term.one _) (zT (Term.len _)) fun w238 B hw238 zw238=>?_
  replace S:=S.store 0 B hw238
  clear B
  refine zb (zd (za (wd (ze yD hv237_11 (o':=1) rfl) ?_)))
  refine yI xq rfl rfl (S.blk 0) (by rw [Term.len]; decide) rfl (Term.set_name _ _) fun w239 B hw239 zw239=>?_
  replace S:=S.store 0 B hw239
  clear B
  refine wd (ze vX hv237_11 (o':=2) rfl) ?_
  refine yI xq rfl rfl (S.blk 0) (by rw [Term.len]; decide) rfl (Term.set_other _ _) fun w240 B hw240 zw240=>?_
  replace S:=S.store 0 B hw240
  clear B
  refine zb (zd (za (wd (zm zD hv237_11 ((S.blk 0).all _ (Term.len _)) (Term.len _)) ?_)))
  refine xD (C:=SC) (l:=[(⟨#[97]⟩ : ByteArray),(⟨#[98]⟩ : ByteArray),(⟨#[99]⟩ : ByteArray)]) (vs:=[.string (⟨#[97]⟩ : ByteArray),.string (⟨#[98]⟩ : ByteArray),.string (⟨#[99]⟩ : ByteArray)]) yJ uE.zero rfl rfl (fun _ _=>rfl) zca rfl zca fun b242 w241 s243 hBw241 hw241=>?_
  replace S:=S.lit hBw241 hw241 zcc
  obtain ⟨r244,er244,H⟩ := zr H
  replace S:=S.frzS 0
  obtain ⟨B246,MB246,SB246,back⟩ := S.sub [8,0] [] [oB b202 zj (Term.C (⟨r197.kind,(⟨#[100]⟩ : ByteArray),(⟨#[101]⟩ : ByteArray),r197.form,s200⟩ : Term)),oB b20 zj (Term.C (⟨r11.kind,r11.name,r11.other,r11.form,s14⟩ : Term)),oB b18 zj (Term.C (⟨r7.kind,r7.name,r7.other,r7.form,s10⟩ : Term)),oB b16 zj (Term.C (⟨r3.kind,r3.name,r3.other,r3.form,s6⟩ : Term)),oB b2 zj (Term.C (⟨0,ByteArray.empty,ByteArray.empty,0,SlV.nil⟩ : Term))]
  refine zu (zq yW) zca (yZ (a0:=(⟨r197.kind,(⟨#[100]⟩ : ByteArray),(⟨#[101]⟩ : ByteArray),r197.form,r197.sub⟩ : PTerm)) SB246 er244) ?_
  rintro _ w245 ⟨s247,rfl,S2⟩
  replace S:=back _ _ _ _ _ S2 rfl rfl
  clear back S2 SB246
  refine zI zD rfl rfl (S.blk 4) (Term.len _) (by rw [Term.len]; decide) (Term.one _) (zT (Term.len _)) fun w248 B hw248 zw248=>?_
  replace S:=S.store 4 B hw248
  clear B
  refine zb (zx ?_)
  refine ⟨_,(zS (xI zD rfl ((S.blk 0).all _ (Term.len _)) (Term.len _))),?_⟩
  replace S:=S.arr [] [0]
  obtain rfl:=zce H
  exact ⟨s247,rfl,S⟩
 replace H:=if_f hc171 H
 refine zB (zd (za (wd (zm zD rfl ((S.blk 2).all _ (Term.len _)) (Term.len _)) ?_)))
 refine xD (C:=Term.C) (l:=[(⟨r3.kind,r3.name,r3.other,r3.form,s6⟩ : Term)]) (vs:=[.agg (Term.C (⟨r3.kind,r3.name,r3.other,r3.form,s6⟩ : Term)).toArray]) zN vm.zero rfl rfl (fun a _=>Term.len a) zca rfl zca fun b250 w249 s251 hBw249 hw249=>?_
 replace S:=((S.lit hBw249 hw249 zcc).bigTm).consTm (x:=r3) 2
 replace S:=(S.frzTm 0 0).zs [0,2,3,4]
 obtain ⟨r252,er252,H⟩ := zr H
 obtain ⟨B254,MB254,SB254,back⟩ := S.sub [0] [] [oB b20 zj (Term.C (⟨r11.kind,r11.name,r11.other,r11.form,s14⟩ : Term)),oB b18 zj (Term.C (⟨r7.kind,r7.name,r7.other,r7.form,s10⟩ : Term)),oB b16 zj (Term.C (⟨r3.kind,r3.name,r3.other,r3.form,s6⟩ : Term)),oB b2 zj (Term.C (⟨0,ByteArray.empty,ByteArray.empty,0,SlV.nil⟩ : Term))]
 refine zu (zq xL) zca (xM SB254 er252) ?_
 rintro _ w253 ⟨s255,rfl,S2⟩
 replace S:=back _ _ _ _ _ S2 rfl rfl
 clear back S2 SB254
 refine xD (C:=SC) (l:=[(⟨#[97]⟩ : ByteArray)]) (vs:=[.string (⟨#[97]⟩ : ByteArray)]) yJ uE.zero rfl rfl (fun _ _=>rfl) zca rfl zca fun b257 w256 s258 hBw256 hw256=>?_
 replace S:=S.lit hBw256 hw256 zcc
 obtain ⟨r259,er259,H⟩ := zr H
 replace S:=S.frzS 0
 obtain ⟨B261,MB261,SB261,back⟩ := S.sub [1,0] [] [oB b20 zj (Term.C (⟨r11.kind,r11.name,r11.other,r11.form,s14⟩ : Term)),oB b18 zj (Term.C (⟨r7.kind,r7.name,r7.other,r7.form,s10⟩ : Term)),oB b16 zj (Term.C (⟨r3.kind,r3.name,r3.other,r3.form,s6⟩ : Term)),oB b2 zj (Term.C (⟨0,ByteArray.empty,ByteArray.empty,0,SlV.nil⟩ : Term))]
 refine zu (zq yW) zca (yZ (a0:=r252) SB261 er259) ?_
 rintro _ w260 ⟨s262,rfl,S2⟩
 replace S:=back _ _ _ _ _ S2 rfl rfl
 clear back S2 SB261
 refine zI zD rfl rfl (S.blk 3) (Term.len _) (by rw [Term.len]; decide) (Term.one _) (zT (Term.len _)) fun w263 B hw263 zw263=>?_
 replace S:=S.store 3 B hw263
 clear B
 refine zb (zx ?_)
 refine ⟨_,(zS (xI zD rfl ((S.blk 0).all _ (Term.len _)) (Term.len _))),?_⟩
 replace S:=S.arr [] [0]
 obtain rfl:=zce H
 exact ⟨s262,rfl,S⟩
theorem hilbert_Term_st {a0:Tb} {a_0:Option Addr} {a1:List Int} {s_1:SlV} {a2:List Ln} {s_2:SlV} (S:St A N w w [oT a_0 a0] [fS 1 IC s_1 a1,fS 4 Ln.C s_2 a2,oPw]) {k:Nat} {r:Tb × PTerm × Int} (H:zdG.f k a0 a1 a2=some r) :
  Calls PP F_hilbert_Term #[.pointer a_0,s_1.v,s_2.v] w fun e w' => ∃ v,e = .returned v∧(∃ so0:SlV,v = .tuple #[.agg (Term.C (⟨r.2.1.kind,r.2.1.name,r.2.1.other,r.2.1.form,so0⟩ : Term)).toArray,.int .i64 r.2.2]∧St A N w w' [oT a_0 r.1] [zn so0 r.2.1.sub]):=by
 unfold zdG.f at H
 refine zz (n:=84) fn_hilbert_Term rfl rfl zcc (zd (za ?_))
 refine xd ue zca fun b2 w1 hw1=>?_
 replace S:=S.new hw1
 refine wd (zh rfl) (zb (zd (zd (za (wd (zk rfl) (wd (zA rfl) (wd (zA rfl) ?_)))))))
 obtain ⟨r3,er3,H⟩ := zr H
 replace S:=S.front 1
 obtain ⟨B5,MB5,SB5,back⟩ := S.calln 1 ((.z 0 rfl (.z 1 rfl .nil)))
 refine zu (zq jj) zca (jm SB5 er3) ?_
 rintro _ w4 ⟨rfl,S2⟩
 replace S:=back _ _ _ _ S2 rfl
 clear back S2 SB5
 refine wd (zh rfl) (zb (zd (za (wd (zg rfl) (wd (xm rfl rfl) (zb ?_))))))
 refine zG rfl (fun hc6=>?_) (fun hc6=>?_)
 ·replace H:=if_t hc6 H
  refine zd (za (wd (Does.to (v' := .agg (Term.C (⟨0,ByteArray.empty,ByteArray.empty,0,SlV.nil⟩ : Term)).toArray) (xF (vs:=[]) jI rfl Bld.nil) rfl) (wd (zg rfl) ?_)))
  refine zI zD rfl rfl (S.blk 1) (Term.len _) (by rw [Term.len]; decide) (Term.one _) (zT (Term.len _)) fun w7 B hw7 zw7=>?_
  replace S:=S.store 1 B hw7
  clear B
  refine wd (zh rfl) (zb (zx ?_))
  replace S:=S.nilTm
  refine ⟨_,(xn (xI zD rfl ((S.blk 0).all _ (Term.len _)) (Term.len _)) (zf rfl)),?_⟩
  replace S:=S.arr [1] [0]
  obtain rfl:=zce H
  exact ⟨SlV.nil,rfl,S⟩
 replace H:=if_f hc6 H
 refine zB (zd (zd (za (wd (zA rfl) (wd (xg zW rfl (S.rd 1)) (wd (kU rfl rfl) (zb ?_)))))))
 refine zG rfl (fun hc8=>?_) (fun hc8=>?_)
 ·replace H:=if_t hc8 H
  refine zd (za (wd (Does.to (v' := .agg (Term.C (⟨0,ByteArray.empty,ByteArray.empty,0,SlV.nil⟩ : Term)).toArray) (xF (vs:=[]) jI rfl Bld.nil) rfl) ?_))
  refine zI zD rfl rfl (S.blk 1) (Term.len _) (by rw [Term.len]; decide) (Term.one _) (zT (Term.len _)) fun w9 B hw9 zw9=>?_
  replace S:=S.store 1 B hw9
  clear B
  refine wd (zh rfl) (zb (zx ?_))
  replace S:=S.nilTm
  refine ⟨_,(xn (xI zD rfl ((S.blk 0).all _ (Term.len _)) (Term.len _)) (zf rfl)),?_⟩
  replace S:=S.arr [1] [0]
  obtain rfl:=zce H
  exact ⟨SlV.nil,rfl,S⟩
 replace H:=if_f hc8 H
 refine zB (zd (za ?_))
 refine xd ze_func_int_string zca fun b11 w10 hw10=>?_
 replace S:=S.new hw10
 refine yI vJ rfl rfl (S.blk 0) zcc rfl rfl fun w12 B hw12 zw12=>?_
 replace S:=S.store 0 B hw12
 clear B
 refine zb (zd (za (wd (zl vJ rfl ((S.blk 0).cell rfl)) (wd (zA rfl) (wd (xg zW rfl (S.rd 1)) (wd (jD rfl rfl) ?_))))))
 obtain ⟨r13,er13,H⟩ := zr H
 obtain ⟨B15,MB15,SB15,back⟩ := S.calln 0 ((.z 2 rfl .nil))
 refine zu (kH uO rfl) zca (uP SB15 er13) ?_
 rintro _ w14 ⟨rfl,S2⟩
 replace S:=back _ _ _ _ S2 rfl
 clear back S2 SB15
 obtain ⟨r16,er16,H⟩ := zr H
 obtain ⟨B18,MB18,SB18,back⟩ := S.sub [] [] [oB b11 xT [.func (.func xu) #[] #[]],oT a_0 r3.1,oB b2 zj (Term.C (⟨0,ByteArray.empty,ByteArray.empty,0,SlV.nil⟩ : Term))]
 refine zu (zq vt) zca (vx SB18 er16) ?_
 rintro _ w17 ⟨s19,rfl,S2⟩
 replace S:=back _ _ _ _ _ S2 rfl rfl
 clear back S2 SB18
 refine xd ue zca fun b21 w20 hw20=>?_
 replace S:=S.new hw20
 refine zI zD rfl rfl (S.blk 0) (Term.len _) (by rw [Term.len]; decide) (Term.one _) (zT (Term.len _)) fun w22 B hw22 zw22=>?_
 replace S:=S.store 0 B hw22
 clear B
 refine zb (zd (zd (za (wd (zA rfl) ?_))))
 refine zu (zq jt) zca (jw _ s_2) ?_
 rintro _ w23 ⟨c24,rfl,Bc24,hc24,Ec24⟩
 replace S:=S.addZ (b:=oB c24 ur [s_2.v]) (G:=(· = c24)) Ec24 ⟨Bc24,fun _=>Iff.rfl⟩ (fun i hi=>by rw [hi]; exact hc24)
 refine zb ?_
 refine zP ?_
 replace S:=S.nilTm
 obtain ⟨o25,e25,Ho25⟩ := zr H
 clear H
 refine wc_rangeSt2 (xs:=bwd a2) (enc:=fun (x:Int × Ln)=>Value.int .i64 x.1) (enc2:=fun (x:Int × Ln)=>Value.agg (Ln.C x.2).toArray) (bd:=(fun (x:Int × Ln) (s:PTerm)=>zdG.b0 x.1 x.2 s)) (L:=(fun (s:PTerm) (c:SlV)=>[oB b21 zj (Term.C (⟨s.kind,s.name,s.other,s.form,c⟩ : Term)),oB b11 xT [.func (.func xu) #[] #[]],oT a_0 r3.1,oB b2 zj (Term.C (⟨0,ByteArray.empty,ByteArray.empty,0,SlV.nil⟩ : Term))])) (Lr:=(fun (_:Empty) (_:Unit)=>[])) (Zf:=(fun (s:PTerm) (c:SlV)=>[zn SlV.nil ([]),oB c24 ur [s_2.v],zn c s.sub,fS 1 IC s_1 a1,fS 4 Ln.C s_2 a2,oPw])) (Zr:=(fun (_:Empty) (_:Unit)=>[])) s19 false 0 rfl uZ (uC (S.len 4) c24) zca zca (fun N' s c W h=>⟨h.blkZ 1,h.rd 4⟩) S e25 ?_ ?_ ?_ ?_
 ·rintro ⟨i25,y25⟩ x25_0 s26 q25 N25 rd u25 H S
  replace S:=S
  refine zd (za (wd (zh rfl) (zb (za ?_))))
  refine xd ze_Ln zca fun b28 w27 hw27=>?_
  replace S:=S.new hw27
  refine zI zaA rfl rfl (S.blk 0) (Ln.len _) (by rw [Ln.len]; decide) (Ln.one _) (zT (Ln.len _)) fun w29 B hw29 zw29=>?_
  replace S:=S.store 0 B hw29
  clear B
  refine zb ?_
  refine ⟨rfl,_,_,S,fun M25 v25 S=>?_⟩
  replace S:=S
  replace H:zdG.b0  i25 y25 x25_0=some q25:=H
  unfold zdG.b0 at H
  try dsimp only at H
  refine zP (zd (za ?_))
  refine xd ue zca fun b31 w30 hw30=>?_
  replace S:=S.new hw30
  refine zb (zd (zd (za (wd (ze jR rfl (o':=0) rfl) (wd (zl y4 rfl ((S.blk 1).cell (Ln.get_kind _))) (zb ?_))))))
  replace S:=S.nilTm
  obtain ⟨o32,e32,Ho32⟩ := zr H
  replace H:=e32; clear e32
  refine x6 [38,39,40,41,42,43,44,45,46,47,48,49,50,51,52,53,54,55,56,57,58,59,60,61,62,63,64,65,66] (fun fr W => ∃ s33:SlV,St A M25 w W [oB b31 zj (Term.C (⟨o32.kind,o32.name,o32.other,o32.form,s33⟩ : Term)),oB b28 T_Ln (Ln.C y25),oB b21 zj (Term.C (⟨x25_0.kind,x25_0.name,x25_0.other,x25_0.form,s26⟩ : Term)),oB b11 xT [.func (.func xu) #[] #[]],oT a_0 r3.1,oB b2 zj (Term.C (⟨0,ByteArray.empty,ByteArray.empty,0,SlV.nil⟩ : Term))] [zn s33 o32.sub,zn SlV.nil ([]),oB c24 ur [s_2.v],zn s26 x25_0.sub,fS 1 IC s_1 a1,fS 4 Ln.C s_2 a2,oPw]) ?_ ?_
  ·refine zP (zd (za (wd (zU rfl rfl) (wd (zo rfl) (zb ?_)))))
   refine zG rfl (fun hc34=>?_) (fun hc34=>?_)
   ·replace H:=if_t hc34 H
    refine za (wd (ze yP rfl (o':=1) rfl) (wd (zl zR rfl ((S.blk 1).cell (Ln.get_form _))) ?_))
    obtain ⟨r35,er35,H⟩ := zr H
    obtain ⟨B37,MB37,SB37,back⟩ := S.calln 0 ((.z 6 rfl .nil))
    refine zu (zq ca_octet_Dec) zca (octet_Dec_st SB37 er35) ?_
    rintro _ w36 ⟨rfl,S2⟩
    replace S:=back _ _ _ _ S2 rfl
    clear back S2 SB37
    obtain ⟨hs38,H⟩ := xo H
    refine wd (zal rfl rfl (of_decide_eq_true hs38)) ?_
    obtain ⟨r39,er39,H⟩ := zr H
    obtain ⟨B41,MB41,SB41,back⟩ := S.sub [] [] [oB b31 zj (Term.C (⟨0,ByteArray.empty,ByteArray.empty,0,SlV.nil⟩ : Term)),oB b28 T_Ln (Ln.C y25),oB b21 zj (Term.C (⟨x25_0.kind,x25_0.name,x25_0.other,x25_0.form,s26⟩ : Term)),oB b11 xT [.func (.func xu) #[] #[]],oT a_0 r3.1,oB b2 zj (Term.C (⟨0,ByteArray.empty,ByteArray.empty,0,SlV.nil⟩ : Term))]
    refine zu (zq vt) zca (vx SB41 er39) ?_
    rintro _ w40 ⟨s42,rfl,S2⟩
    replace S:=back _ _ _ _ _ S2 rfl rfl
    clear back S2 SB41
    refine zI zD rfl rfl (S.blk 0) (Term.len _) (by rw [Term.len]; decide) (Term.one _) (zT (Term.len _)) fun w43 B hw43 zw43=>?_
    replace S:=S.store 0 B hw43
    clear B
    refine zb ?_
    replace S:=S.arr [0,1,2,3,4,5] [0,2,3,4,5,6,7]
    obtain rfl:=zce H
    exact ⟨rfl,((((((((Dif.refl _ _).upd rfl _).upd rfl _).upd rfl _).upd rfl _).upd rfl _).upd rfl _).upd rfl _),s42,S⟩
   ·replace H:=if_f hc34 H
    refine zd (za (wd (zU rfl rfl) (wd (zo rfl) (zb ?_))))
    refine zG rfl (fun hc44=>?_) (fun hc44=>?_)
    ·replace H:=if_t hc44 H
     obtain ⟨r47,er47,H⟩ := zr H
     obtain ⟨r50,er50,H⟩ := zr H
     refine un 8 ⟨fun _ _=>True,fun _ _ _=>True,fun i v _=>match i with
      | 0=>v=Value.func (.func xu) #[] #[]
      | 1=>v=Value.pointer (some ⟨b28,2,none⟩)
      | 2=>v=Value.int .i64 y25.a
      | 3=>v=Value.string r47
      | 5=>v=Value.func (.func xu) #[] #[]
      | 6=>v=Value.pointer (some ⟨b28,3,none⟩)
      | 7=>v=Value.int .i64 y25.b
      | _=>True⟩ (fun L g v => ∃ Z54:List OA,(∀ z ∈ [zn SlV.nil ([]),zn SlV.nil ([]),oB c24 ur [s_2.v],zn s26 x25_0.sub,fS 1 IC s_1 a1,fS 4 Ln.C s_2 a2,oPw],z ∈ Z54)∧Made L g Z54 4 59 (fun (c:SlV)=>Value.agg (Term.C (⟨r50.kind,r50.name,r50.other,r50.form,c⟩ : Term)).toArray) (fun (c:SlV)=>[zn c r50.sub])∧St A M25 w v [oB b31 zj (Term.C (⟨0,ByteArray.empty,ByteArray.empty,0,SlV.nil⟩ : Term)),oB b28 T_Ln (Ln.C y25),oB b21 zj (Term.C (⟨x25_0.kind,x25_0.name,x25_0.other,x25_0.form,s26⟩ : Term)),oB b11 xT [.func (.func xu) #[] #[]],oT a_0 r3.1,oB b2 zj (Term.C (⟨0,ByteArray.empty,ByteArray.empty,0,SlV.nil⟩ : Term))] Z54) hmix zcd (fun _ _ _ _ _ _ _ hv=>hv) (fun g=>⟨_,fun _ h=>h,Made.no,S.ext (Ext.drawn _)⟩) ⟨?_,?_,?_,?_,?_,?_,?_,?_,trivial⟩ ?_
     ·rintro L g v hL hcl hclo ⟨Z54,hZ,hm4,S⟩ 
      refine wd (zl vJ rfl ((S.blk 3).cell rfl)) ?_
      exact zb (ob4 trivial rfl ⟨_,hZ,hm4.keep rfl rfl tl0,S⟩)
     ·rintro L g v hL hcl hclo ⟨Z54,hZ,hm4,S⟩ 
      refine wd (ze zbu rfl (o':=2) rfl) ?_
      exact zb (ob4 trivial rfl ⟨_,hZ,hm4.keep rfl rfl tl0,S⟩)
     ·rintro L g v hL hcl hclo ⟨Z54,hZ,hm4,S⟩ hv1
      refine wd (zl zR hv1 ((S.blk 1).cell (Ln.get_a _))) ?_
      exact zb (ob4 trivial rfl ⟨_,hZ,hm4.keep rfl rfl tl0,S⟩)
     ·rintro L g v hL hcl hclo ⟨Z54,hZ,hm4,S⟩ hv0 hv2
      replace S:=(S.zneed hZ)
      obtain ⟨B58,MB58,SB58,back⟩ := S.calln 0 ((.z 6 rfl .nil))
      refine zu (does_callvg uO hv0 (zM hv2 rfl)) zca (uP SB58 er47) ?_
      rintro _ w57 ⟨rfl,S2⟩
      replace S:=back _ _ _ _ S2 rfl
      clear back S2 SB58
      exact zb (ob4 trivial rfl ⟨_,(fun z h=>tl7 z (hZ z h)),hm4.keep rfl rfl tl7,S⟩)
     ·rintro L g v hL hcl hclo ⟨Z54,hZ,hm4,S⟩ hv3
      replace S:=(S.zneed hZ)
      obtain ⟨B61,MB61,SB61,back⟩ := S.sub [] [] [oB b31 zj (Term.C (⟨0,ByteArray.empty,ByteArray.empty,0,SlV.nil⟩ : Term)),oB b28 T_Ln (Ln.C y25),oB b21 zj (Term.C (⟨x25_0.kind,x25_0.name,x25_0.other,x25_0.form,s26⟩ : Term)),oB b11 xT [.func (.func xu) #[] #[]],oT a_0 r3.1,oB b2 zj (Term.C (⟨0,ByteArray.empty,ByteArray.empty,0,SlV.nil⟩ : Term))]
      refine zu (zK vt (zM hv3 rfl)) zca (vx SB61 er50) ?_
      rintro _ w60 ⟨s62,rfl,S2⟩
      replace S:=back _ _ _ _ _ S2 rfl rfl
      clear back S2 SB61
      exact zb (ob4 trivial trivial ⟨_,(fun z h=>tl8 z (hZ z h)),Made.one (val:=(fun (c:SlV)=>Value.agg (Term.C (⟨r50.kind,r50.name,r50.other,r50.form,c⟩ : Term)).toArray)) (ps:=(fun (c:SlV)=>[zn c r50.sub])) s62 (uf List.mem_cons_self jy),S⟩)
     ·rintro L g v hL hcl hclo ⟨Z54,hZ,hm4,S⟩ 
      refine wd (zl vJ rfl ((S.blk 3).cell rfl)) ?_
      exact zb (ob4 trivial rfl ⟨_,hZ,hm4.keep rfl rfl tl0,S⟩)
     ·rintro L g v hL hcl hclo ⟨Z54,hZ,hm4,S⟩ 
      refine wd (ze kV rfl (o':=3) rfl) ?_
      exact zb (ob4 trivial rfl ⟨_,hZ,hm4.keep rfl rfl tl0,S⟩)
     ·rintro L g v hL hcl hclo ⟨Z54,hZ,hm4,S⟩ hv6
      refine wd (zl zR hv6 ((S.blk 1).cell (Ln.get_b _))) ?_
      exact zb (ob4 trivial rfl ⟨_,hZ,hm4.keep rfl rfl tl0,S⟩)
     rintro L g w63 hLm ⟨Z54,hZ,hm4,S⟩ hv64_0 hv64_1 hv64_2 hv64_3 _ hv64_5 hv64_6 hv64_7
     have hLt : ∀ j,j < 8→L j=true:=fun j hj=>by rw [hLm]; exact decide_eq_true hj
     obtain ⟨s53,hv64_4,hp4⟩ := hm4 (hLt 4 zca)
     replace S:=S.pickZ (y9 (l1:=[zn s53 r50.sub]) hp4 hZ)
     clear hp4 hZ hm4
     obtain ⟨r65,er65,H⟩ := zr H
     obtain ⟨B67,MB67,SB67,back⟩ := S.calln 0 ((.z 7 rfl .nil))
     refine zu (does_callvg uO hv64_5 (zM hv64_7 rfl)) zca (uP SB67 er65) ?_
     rintro _ w66 ⟨rfl,S2⟩
     replace S:=back _ _ _ _ S2 rfl
     clear back S2 SB67
     obtain ⟨r68,er68,H⟩ := zr H
     obtain ⟨B70,MB70,SB70,back⟩ := S.sub [] [] [oB b31 zj (Term.C (⟨0,ByteArray.empty,ByteArray.empty,0,SlV.nil⟩ : Term)),oB b28 T_Ln (Ln.C y25),oB b21 zj (Term.C (⟨x25_0.kind,x25_0.name,x25_0.other,x25_0.form,s26⟩ : Term)),oB b11 xT [.func (.func xu) #[] #[]],oT a_0 r3.1,oB b2 zj (Term.C (⟨0,ByteArray.empty,ByteArray.empty,0,SlV.nil⟩ : Term))]
     refine zu (zq vt) zca (vx SB70 er68) ?_
     rintro _ w69 ⟨s71,rfl,S2⟩
     replace S:=back _ _ _ _ _ S2 rfl rfl
     clear back S2 SB70
     refine xD (C:=Term.C) (l:=[(⟨r50.kind,r50.name,r50.other,r50.form,s53⟩ : Term),(⟨r68.kind,r68.name,r68.other,r68.form,s71⟩ : Term)]) (vs:=[.agg (Term.C (⟨r50.kind,r50.name,r50.other,r50.form,s53⟩ : Term)).toArray,.agg (Term.C (⟨r68.kind,r68.name,r68.other,r68.form,s71⟩ : Term)).toArray]) zN vm.zero (yl hv64_4 (yl rfl rfl)) rfl (fun a _=>Term.len a) zca rfl zca fun b73 w72 s74 hBw72 hw72=>?_
     replace S:=((S.lit hBw72 hw72 zcc).bigTm).consTm (x:=r68) 0
     replace S:=((S.consTm (x:=r50) 1).frzTm 0 0).zs [0,2,3,4,5,6,7,8,9,10]
     obtain ⟨r75,er75,H⟩ := zr H
     obtain ⟨B77,MB77,SB77,back⟩ := S.sub [0] [] [oB b31 zj (Term.C (⟨0,ByteArray.empty,ByteArray.empty,0,SlV.nil⟩ : Term)),oB b28 T_Ln (Ln.C y25),oB b21 zj (Term.C (⟨x25_0.kind,x25_0.name,x25_0.other,x25_0.form,s26⟩ : Term)),oB b11 xT [.func (.func xu) #[] #[]],oT a_0 r3.1,oB b2 zj (Term.C (⟨0,ByteArray.empty,ByteArray.empty,0,SlV.nil⟩ : Term))]
     refine zu (zq xL) zca (xM SB77 er75) ?_
     rintro _ w76 ⟨s78,rfl,S2⟩
     replace S:=back _ _ _ _ _ S2 rfl rfl
     clear back S2 SB77
     refine zI zD rfl rfl (S.blk 0) (Term.len _) (by rw [Term.len]; decide) (Term.one _) (zT (Term.len _)) fun w79 B hw79 zw79=>?_
     replace S:=S.store 0 B hw79
     clear B
     refine zb ?_
     replace S:=S.arr [0,1,2,3,4,5] [0,5,6,7,8,9,10]
     obtain rfl:=zce H
     exact ⟨rfl,((((((((((Dif.refl _ _).upd rfl _).upd rfl _).upd rfl _).upd rfl _).mask rfl _).upd rfl _).upd rfl _).upd rfl _).upd rfl _),s78,S⟩
    ·replace H:=if_f hc44 H
     refine zd (za (wd (ze jR rfl (o':=0) rfl) (wd (zl y4 rfl ((S.blk 1).cell (Ln.get_kind _))) ?_)))
     obtain ⟨r80,er80,H⟩ := zr H
     obtain ⟨B82,MB82,SB82,back⟩ := S.sub [] [] [oB b31 zj (Term.C (⟨0,ByteArray.empty,ByteArray.empty,0,SlV.nil⟩ : Term)),oB b28 T_Ln (Ln.C y25),oB b21 zj (Term.C (⟨x25_0.kind,x25_0.name,x25_0.other,x25_0.form,s26⟩ : Term)),oB b11 xT [.func (.func xu) #[] #[]],oT a_0 r3.1,oB b2 zj (Term.C (⟨0,ByteArray.empty,ByteArray.empty,0,SlV.nil⟩ : Term))]
     refine zu (zq ca_hilbert_axiom) zca (hilbert_axiom_st SB82 er80) ?_
     rintro _ w81 ⟨s83,rfl,S2⟩
     replace S:=back _ _ _ _ _ S2 rfl rfl
     clear back S2 SB82
     refine xD (C:=Term.C) (l:=[(⟨r80.kind,r80.name,r80.other,r80.form,s83⟩ : Term)]) (vs:=[.agg (Term.C (⟨r80.kind,r80.name,r80.other,r80.form,s83⟩ : Term)).toArray]) zN vm.zero rfl rfl (fun a _=>Term.len a) zca rfl zca fun b85 w84 s86 hBw84 hw84=>?_
     replace S:=((S.lit hBw84 hw84 zcc).bigTm).consTm (x:=r80) 0
     replace S:=(S.frzTm 0 0).zs [0,2,3,4,5,6,7,8,9]
     obtain ⟨r87,er87,H⟩ := zr H
     obtain ⟨B89,MB89,SB89,back⟩ := S.sub [0] [] [oB b31 zj (Term.C (⟨0,ByteArray.empty,ByteArray.empty,0,SlV.nil⟩ : Term)),oB b28 T_Ln (Ln.C y25),oB b21 zj (Term.C (⟨x25_0.kind,x25_0.name,x25_0.other,x25_0.form,s26⟩ : Term)),oB b11 xT [.func (.func xu) #[] #[]],oT a_0 r3.1,oB b2 zj (Term.C (⟨0,ByteArray.empty,ByteArray.empty,0,SlV.nil⟩ : Term))]
     refine zu (zq xL) zca (xM SB89 er87) ?_
     rintro _ w88 ⟨s90,rfl,S2⟩
     replace S:=back _ _ _ _ _ S2 rfl rfl
     clear back S2 SB89
     refine zI zD rfl rfl (S.blk 0) (Term.len _) (by rw [Term.len]; decide) (Term.one _) (zT (Term.len _)) fun w91 B hw91 zw91=>?_
     replace S:=S.store 0 B hw91
     clear B
     refine zb (za (wd (ze yP rfl (o':=1) rfl) (wd (zl zR rfl ((S.blk 1).cell (Ln.get_form _))) (wd (ze vu rfl (o':=3) rfl) ?_))))
     refine yI zR rfl rfl (S.blk 0) (by rw [Term.len]; decide) rfl (Term.set_form _ _) fun w92 B hw92 zw92=>?_
     replace S:=S.store 0 B hw92
     clear B
     refine zb ?_
     replace S:=S.arr [0,1,2,3,4,5] [0,4,5,6,7,8,9]
     obtain rfl:=zce H
     exact ⟨rfl,(((((((((((((Dif.refl _ _).upd rfl _).upd rfl _).upd rfl _).upd rfl _).upd rfl _).upd rfl _).upd rfl _).upd rfl _).upd rfl _).upd rfl _).upd rfl _).upd rfl _),s90,S⟩
  rintro g93 u94 ⟨s33,S⟩
  have H:=Ho32
  obtain ⟨r96,er96,H⟩ := zr H
  refine un 6 ⟨fun _ _=>True,fun _ _ _=>True,fun i v _=>match i with
   | 0=>v=Value.func (.func xu) #[] #[]
   | 1=>v=Value.int .i64 i25
   | 2=>v=Value.string r96
   | 3=>v=Value.agg (Term.C (⟨o32.kind,o32.name,o32.other,o32.form,s33⟩ : Term)).toArray
   | 4=>v=Value.agg (Term.C (⟨x25_0.kind,x25_0.name,x25_0.other,x25_0.form,s26⟩ : Term)).toArray
   | _=>True⟩ (fun L g v => ∃ Z102:List OA,(∀ z ∈ [zn s33 o32.sub,zn SlV.nil ([]),oB c24 ur [s_2.v],zn s26 x25_0.sub,fS 1 IC s_1 a1,fS 4 Ln.C s_2 a2,oPw],z ∈ Z102)∧Made L g Z102 5 72 (fun (c:SlV)=>c.v) (fun (c:SlV)=>[zn c ([o32,x25_0])])∧St A M25 w v [oB b31 zj (Term.C (⟨o32.kind,o32.name,o32.other,o32.form,s33⟩ : Term)),oB b28 T_Ln (Ln.C y25),oB b21 zj (Term.C (⟨x25_0.kind,x25_0.name,x25_0.other,x25_0.form,s26⟩ : Term)),oB b11 xT [.func (.func xu) #[] #[]],oT a_0 r3.1,oB b2 zj (Term.C (⟨0,ByteArray.empty,ByteArray.empty,0,SlV.nil⟩ : Term))] Z102) hmix zcd (fun _ _ _ _ _ _ _ hv=>hv) (fun g=>⟨_,fun _ h=>h,Made.no,S.ext (Ext.drawn _)⟩) ⟨?_,?_,?_,?_,?_,?_,trivial⟩ ?_
  ·rintro L g v hL hcl hclo ⟨Z102,hZ,hm5,S⟩ 
   refine wd (zl vJ rfl ((S.blk 3).cell rfl)) ?_
   exact zb (ob4 trivial rfl ⟨_,hZ,hm5.keep rfl rfl tl0,S⟩)
  ·rintro L g v hL hcl hclo ⟨Z102,hZ,hm5,S⟩ 
   refine wd (zg rfl) ?_
   exact zb (ob4 trivial rfl ⟨_,hZ,hm5.keep rfl rfl tl0,S⟩)
  ·rintro L g v hL hcl hclo ⟨Z102,hZ,hm5,S⟩ hv0 hv1
   replace S:=(S.zneed hZ)
   obtain ⟨B106,MB106,SB106,back⟩ := S.calln 0 ((.z 6 rfl .nil))
   refine zu (does_callvg uO hv0 (zM hv1 rfl)) zca (uP SB106 er96) ?_
   rintro _ w105 ⟨rfl,S2⟩
   replace S:=back _ _ _ _ S2 rfl
   clear back S2 SB106
   exact zb (ob4 trivial rfl ⟨_,(fun z h=>tl7 z (hZ z h)),hm5.keep rfl rfl tl7,S⟩)
  ·rintro L g v hL hcl hclo ⟨Z102,hZ,hm5,S⟩ 
   refine wd (zm zD rfl ((S.blk 0).all _ (Term.len _)) (Term.len _)) ?_
   exact zb (ob4 trivial rfl ⟨_,hZ,hm5.keep rfl rfl tl0,S⟩)
  ·rintro L g v hL hcl hclo ⟨Z102,hZ,hm5,S⟩ 
   refine wd (zm zD rfl ((S.blk 2).all _ (Term.len _)) (Term.len _)) ?_
   exact zb (ob4 trivial rfl ⟨_,hZ,hm5.keep rfl rfl tl0,S⟩)
  ·rintro L g v hL hcl hclo ⟨Z102,hZ,hm5,S⟩ hv3 hv4
   replace S:=(S.zneed hZ)
   refine xD (C:=Term.C) (l:=[(⟨o32.kind,o32.name,o32.other,o32.form,s33⟩ : Term),(⟨x25_0.kind,x25_0.name,x25_0.other,x25_0.form,s26⟩ : Term)]) (vs:=[.agg (Term.C (⟨o32.kind,o32.name,o32.other,o32.form,s33⟩ : Term)).toArray,.agg (Term.C (⟨x25_0.kind,x25_0.name,x25_0.other,x25_0.form,s26⟩ : Term)).toArray]) zN vm.zero (yl hv3 (yl hv4 rfl)) rfl (fun a _=>Term.len a) zca rfl zca fun b108 w107 s109 hBw107 hw107=>?_
   replace S:=((S.lit hBw107 hw107 zcc).bigTm).consTm (x:=x25_0) 3
   replace S:=(S.consTm (x:=o32) 0).frzTm 0 0
   exact zb (ob4 trivial trivial ⟨_,(fun z h=>tl9 z (hZ z h)),Made.one (val:=(fun (c:SlV)=>c.v)) (ps:=(fun (c:SlV)=>[zn c ([o32,x25_0])])) s109 (uf List.mem_cons_self jy),S⟩)
  rintro L g w110 hLm ⟨Z102,hZ,hm5,S⟩ hv111_0 hv111_1 hv111_2 hv111_3 hv111_4 _
  have hLt : ∀ j,j < 6→L j=true:=fun j hj=>by rw [hLm]; exact decide_eq_true hj
  obtain ⟨s101,hv111_5,hp5⟩ := hm5 (hLt 5 zca)
  replace S:=S.pickZ (y9 (l1:=[zn s101 ([o32,x25_0])]) hp5 hZ)
  clear hp5 hZ hm5
  refine wd (Does.to (v' := .agg (Term.C (⟨12,r96,ByteArray.empty,0,s101⟩ : Term)).toArray) (xF (vs:=[(0,.int .i64 12),(1,.string r96),(4,s101.v)]) jI (yl rfl (yl hv111_2 (yl hv111_5 rfl))) (Bld.one rfl rfl (by rw [Term.len]; decide) (Term.set_kind _ _) (Bld.one rfl rfl (by rw [Term.len]; decide) (Term.set_name _ _) (Bld.one rfl (SlV.one _ _ rfl) (by rw [Term.len]; decide) (Term.set_sub _ _) Bld.nil)))) rfl) ?_
  refine zI zD rfl rfl (S.blk 2) (Term.len _) (by rw [Term.len]; decide) (Term.one _) (zT (Term.len _)) fun w112 B hw112 zw112=>?_
  replace S:=S.store 2 B hw112
  clear B
  refine zb ?_
  replace S:=S.arr [0,3,4,5] [2,3,0,5,6,7]
  obtain rfl:=zce H
  exact ⟨_,rfl,s101,S⟩
 ·rintro s25 s114 B25 w113 rfl S hB25
  replace S:=S
  have H:=Ho25
  dsimp only [fin] at H
  refine zd (zd (za (wd (zm zD rfl ((S.blk 0).all _ (Term.len _)) (Term.len _)) ?_)))
  obtain ⟨r115,er115,H⟩ := zr H
  obtain ⟨B117,MB117,SB117,back⟩ := S.calln 0 ((.z 2 rfl .nil))
  refine zu (zq ca_term_Size) zca (term_Size_st (a0:=s25) SB117 er115) ?_
  rintro _ w116 ⟨rfl,S2⟩
  replace S:=back _ _ _ _ S2 rfl
  clear back S2 SB117
  refine wd (kU rfl rfl) (wd (zL rfl) ?_)
  refine wg (fun hg=>zm zD rfl ((S.blk 0).all _ (Term.len _)) (Term.len _)) ?_
  obtain ⟨r118,er118,H⟩ := zr H
  refine yh (j:=3) (pol:=false) rfl rfl rfl zca (fun hg=>zK ca_term_Deep (zM (zw hg) rfl)) zca (fun hg=>(have ⟨M,SS⟩ := S.lend ((.z 2 rfl .nil)); quiet (term_Deep_st (a0:=s25) SS (if_t (by simpa using hg) er118)) (fun v w' h=>⟨h.1,_,_,h.2⟩))) fun w119 hw119=>?_
  replace S:=S.ext hw119
  refine wg (fun hg=>kU (zw hg) rfl) (wd (xO rfl (fun hp=>(zw (xE hp)))) (zb ?_))
  refine zG rfl (fun hc120=>?_) (fun hc120=>?_)
  ·replace H:=if_t hc120 H
   refine zd (za (wd (Does.to (v' := .agg (Term.C (⟨0,ByteArray.empty,ByteArray.empty,0,SlV.nil⟩ : Term)).toArray) (xF (vs:=[]) jI rfl Bld.nil) rfl) ?_))
   refine zI zD rfl rfl (S.blk 3) (Term.len _) (by rw [Term.len]; decide) (Term.one _) (zT (Term.len _)) fun w121 B hw121 zw121=>?_
   replace S:=S.store 3 B hw121
   clear B
   refine wd (zh rfl) (zb (zx ?_))
   refine end1 (.inl rfl) (S.take hB25).1 fun w122 hcw122=>?_
   replace S:=((S.take hB25).2 _ hcw122).nilTm
   refine ⟨_,(xn (xI zD rfl ((S.blk 0).all _ (Term.len _)) (Term.len _)) (zf rfl)),?_⟩
   replace S:=S.arr [3] [0]
   obtain rfl:=zce H
   exact ⟨SlV.nil,rfl,S⟩
  replace H:=if_f hc120 H
  refine zB (zd (za (wd (zm zD rfl ((S.blk 0).all _ (Term.len _)) (Term.len _)) ?_)))
  refine zI zD rfl rfl (S.blk 3) (Term.len _) (by rw [Term.len]; decide) (Term.one _) (zT (Term.len _)) fun w123 B hw123 zw123=>?_
  replace S:=S.store 3 B hw123
  clear B
  refine wd (zh rfl) (zb (zx ?_))
  refine end1 (.inl rfl) (S.take hB25).1 fun w124 hcw124=>?_
  replace S:=(S.take hB25).2 _ hcw124
  refine ⟨_,(xn (xI zD rfl ((S.blk 0).all _ (Term.len _)) (Term.len _)) (zf rfl)),?_⟩
  replace S:=S.arr [3] [2]
  obtain rfl:=zce H
  exact ⟨s114,rfl,S⟩
 ·intro r; exact r.elim
 ·intro h; cases h
end
section
open Gw Go.RowKit
set_option maxHeartbeats 4000000
set_option maxRecDepth 20000
variable {A:Nat→Prop} {N:Oth} {w:World}
theorem formula_Table_Atom_st {a0:Tb} {a_0:Option Addr} {a1:ByteArray} (S:St A N w w [oT a_0 a0] []) {r:Tb × Int × Int} (H:zdH.f a0 a1=some r) :
  Calls PP kY #[.pointer a_0,.string a1] w fun e w' => ∃ v,e = .returned v∧(v = .tuple #[.int .i64 r.2.1,.int .i64 r.2.2]∧St A N w w' [oT a_0 r.1] []):=by
 unfold zdH.f at H
 refine zz (n:=12) fn_formula_Table_Atom rfl rfl zcc (zd (za (wd (zh rfl) (wd (zh rfl) (zb (zd (za ?_)))))))
 refine wd (zk rfl) (wd (xl rfl) (wd (yi bu_Nd (Bld.one rfl rfl (by rw [Nd.len]; decide) (Nd.set_kind _ _) (Bld.one rfl rfl (by rw [Nd.len]; decide) (Nd.set_name _ _) Bld.nil))) ?_))
 obtain ⟨r1,er1,H⟩ := zr H
 obtain ⟨B3,MB3,SB3,back⟩ := S.calln 1 ((.nil))
 refine zu (zq vQ) zca (je SB3 er1) ?_
 rintro _ w2 ⟨rfl,S2⟩
 replace S:=back _ _ _ _ S2 rfl
 clear back S2 SB3
 refine wd (zt rfl rfl) (wd (zt rfl rfl) (wd (zh rfl) (wd (zh rfl) (zb (zx ?_)))))
 refine ⟨_,(xn (zf rfl) (zf rfl)),?_⟩
 obtain rfl:=zce H
 exact ⟨rfl,S⟩
theorem y0 {a0:Int} (S:St A N w w [] []) {r:Int} (H:zdI.f a0=some r) :
  Calls PP F_law16_num #[.int .i64 a0] w fun e w' => ∃ v,e = .returned v∧(v = .int .i64 r∧St A N w w' [] []):=by
 unfold zdI.f at H
 refine zz (n:=4) fn_law16_num rfl rfl zcc (zd (za (wd (zh rfl) (zb (zd (za (wd (zg rfl) ?_)))))))
 refine wd (zh rfl) (zb (zx ?_))
 refine ⟨_,(zS (zf rfl)),?_⟩
 obtain rfl:=zce H
 exact ⟨rfl,S⟩
theorem ref12_Same_gst {zec:PTerm→PTerm→Option Bool} (zdU : ∀ {A:Nat→Prop} {N:Oth} {w:World} {a0:PTerm} {s_0:SlV} {a1:PTerm} {s_1:SlV} (S:St A N w w [] [zn s_0 a0.sub,zn s_1 a1.sub]) {r:Bool} (H:zec a0 a1=some r),Calls PP j8 #[.agg (Term.C (⟨a0.kind,a0.name,a0.other,a0.form,s_0⟩ : Term)).toArray,.agg (Term.C (⟨a1.kind,a1.name,a1.other,a1.form,s_1⟩ : Term)).toArray] w fun e w' => ∃ v,e = .returned v∧(v = .bool r∧St A N w w' [] [])) {A:Nat→Prop} {N:Oth} {w:World} {a0:PTerm} {s_0:SlV} {a1:PTerm} {s_1:SlV} (S:St A N w w [] [zn s_0 a0.sub,zn s_1 a1.sub]) {k:Nat} {r:Bool} (H:zdJ.g zec k a0 a1=some r) :
  Calls PP j8 #[.agg (Term.C (⟨a0.kind,a0.name,a0.other,a0.form,s_0⟩ : Term)).toArray,.agg (Term.C (⟨a1.kind,a1.name,a1.other,a1.form,s_1⟩ : Term)).toArray] w fun e w' => ∃ v,e = .returned v∧(v = .bool r∧St A N w w' [] []):=by
 unfold zdJ.g at H
 refine zz (n:=60) fn_ref12_Same rfl rfl zcc (zd (za ?_))
 refine zX rfl zca fun b2 w1 hw1=>?_
 replace S:=S.new hw1
 refine zX rfl zca fun b4 w3 hw3=>?_
 replace S:=S.new hw3
 refine wd (zo rfl) (zb (zd (zd (za (wd (ze vR rfl (o':=0) rfl) (wd (zl y6 rfl ((S.blk 1).cell (Term.get_kind _))) (wd (ze vR rfl (o':=0) rfl) ?_)))))))
 refine wd (zl y6 rfl ((S.blk 0).cell (Term.get_kind _))) (wd (xm rfl rfl) (wd (zL rfl) ?_))
 refine wg (fun hg=>ze yD rfl (o':=1) rfl) ?_
 refine wg (fun hg=>zl xq (zw hg) ((S.blk 1).cell (Term.get_name _))) ?_
 refine wg (fun hg=>ze yD rfl (o':=1) rfl) ?_
 refine wg (fun hg=>zl xq (zw hg) ((S.blk 0).cell (Term.get_name _))) ?_
 refine wg (fun hg=>zan (zw hg) (zw hg)) (wd (xO rfl (fun hp=>(zw (xE hp)))) (wd (zL rfl) ?_))
 refine wg (fun hg=>ze vX rfl (o':=2) rfl) ?_
 refine wg (fun hg=>zl xq (zw hg) ((S.blk 1).cell (Term.get_other _))) ?_
 refine wg (fun hg=>ze vX rfl (o':=2) rfl) ?_
 refine wg (fun hg=>zl xq (zw hg) ((S.blk 0).cell (Term.get_other _))) ?_
 refine wg (fun hg=>zan (zw hg) (zw hg)) (wd (xO rfl (fun hp=>(zw (xE hp)))) (wd (zL rfl) ?_))
 refine wg (fun hg=>ze vu rfl (o':=3) rfl) ?_
 refine wg (fun hg=>zl zR (zw hg) ((S.blk 1).cell (Term.get_form _))) ?_
 refine wg (fun hg=>ze vu rfl (o':=3) rfl) ?_
 refine wg (fun hg=>zl zR (zw hg) ((S.blk 0).cell (Term.get_form _))) ?_
 refine wg (fun hg=>xm (zw hg) (zw hg)) (wd (xO rfl (fun hp=>(zw (xE hp)))) (wd (zL rfl) ?_))
 refine wg (fun hg=>ze xf rfl (o':=4) rfl) ?_
 refine wg (fun hg=>zl zY (zw hg) ((S.blk 1).cell (Term.get_sub _))) ?_
 refine wg (fun hg=>does_lenF zN (zw hg) (S.onZ 0)) ?_
 refine wg (fun hg=>ze xf rfl (o':=4) rfl) ?_
 refine wg (fun hg=>zl zY (zw hg) ((S.blk 0).cell (Term.get_sub _))) ?_
 refine wg (fun hg=>does_lenF zN (zw hg) (S.onZ 1)) ?_
 refine wg (fun hg=>xm (zw hg) (zw hg)) (wd (xO rfl (fun hp=>(zw (xE hp)))) (zb ?_))
 refine zG rfl (fun hc5=>?_) (fun hc5=>?_)
 ·replace H:=if_t hc5 H
  refine zd (za (wd (zo rfl) (zb (zx ?_))))
  refine ⟨_,(zS (zf rfl)),?_⟩
  replace S:=S.arr [] []
  obtain rfl:=zce H
  exact ⟨rfl,S⟩
 replace H:=if_f hc5 H
 refine zB (zd (zd (za (wd (zh rfl) (zb ?_)))))
 obtain ⟨o6,e6,Ho6⟩ := zr H
 clear H
 refine x6 [4,5,41,42,43,44,45,46,47,48,49,50,51,52,53,54,55,56,57,58,59] (fun fr W => ∃ s6:Int,o6 = .inl s6∧fr 5 = .int .i64 s6∧St A N w W [oB b4 zj (Term.C (⟨a1.kind,a1.name,a1.other,a1.form,s_1⟩ : Term)),oB b2 zj (Term.C (⟨a0.kind,a0.name,a0.other,a0.form,s_0⟩ : Term))] [zn s_0 a0.sub,zn s_1 a1.sub]) ?_ ?_
 ·refine zP ?_
  refine xY (α:=Nat × Int) [4,5,41,42,43,44,45,46,47,48,49,50,51,52,53,54,55,56,57,58,59] (fun x fr W=>iter (fun s=>zdJ.b0 a0 a1 zec s) x.1 x.2=some o6∧fr 5 = .int .i64 (x.2)∧St A N w W [oB b4 zj (Term.C (⟨a1.kind,a1.name,a1.other,a1.form,s_1⟩ : Term)),oB b2 zj (Term.C (⟨a0.kind,a0.name,a0.other,a0.form,s_0⟩ : Term))] [zn s_0 a0.sub,zn s_1 a1.sub]) (fun x=>x.1) (k,0) ⟨(by dsimp only; exact e6),rfl,S⟩ ?_
  rintro ⟨m6,x6_0⟩ g6 u6 ⟨e6,q6_5,S⟩
  try dsimp only at e6
  try dsimp only at S
  try dsimp only at q6_5
  obtain ⟨m6,rfl⟩ : ∃ m,m6=m + 1:=⟨m6 - 1,by cases m6 with | zero=>cases e6 | succ m=>rfl⟩
  obtain ⟨q6,H,e6⟩ := iter_s e6
  unfold zdJ.b0 at H
  try dsimp only at H
  refine zd (zd (za (wd (zg q6_5) (wd (ze xf rfl (o':=4) rfl) (wd (zl zY rfl ((S.blk 1).cell (Term.get_sub _))) (wd (does_lenF zN rfl (S.onZ 0)) (wd (xQ rfl rfl) (zb ?_))))))))
  refine zG rfl (fun hc7=>?_) (fun hc7=>?_)
  rotate_left
  ·replace H:=if_f hc7 H
   refine yn ?_
   obtain rfl:=zce H
   exact ⟨rfl,((((((Dif.self _ _ _).upd rfl _).upd rfl _).upd rfl _).upd rfl _).upd rfl _),x6_0,e6,q6_5,S⟩
  replace H:=if_t hc7 H
  refine zB (zd ?_)
  refine zP (zd ?_)
  refine yz 10 (Ext u6) hmix zcd zcd (Ext.drawn _) (zy (fun v K=>ze xf rfl (o':=4) rfl) (zy (fun v K=>zl zY rfl (((S.ext K).blk 1).cell (Term.get_sub _))) (zy (fun v K=>zg q6_5) ?_)))
  obtain ⟨hi8,H⟩ := xo H
  refine zy (fun v K=>does_indexF zN rfl rfl ((S.ext K).onZ 0) (zO hi8).1 (zO hi8).2) ?_
  obtain ⟨s9,hc10,S⟩ := S.viewTerm 0 (zO hi8)
  replace S:=S
  refine zy (fun v K=>zm zD rfl (hc10.chg K (fun x=>x)) (Term.len _)) (zy (fun v K=>ze xf rfl (o':=4) rfl) (zy (fun v K=>zl zY rfl (((S.ext K).blk 0).cell (Term.get_sub _))) (zy (fun v K=>zg q6_5) ?_)))
  obtain ⟨hi11,H⟩ := xo H
  refine zy (fun v K=>does_indexF zN rfl rfl ((S.ext K).onZ 2) (zO hi11).1 (zO hi11).2) ?_
  obtain ⟨s12,hc13,S⟩ := S.viewTerm 2 (zO hi11)
  replace S:=S
  refine zy (fun v K=>zm zD rfl (hc13.chg K (fun x=>x)) (Term.len _)) ?_
  refine vD fun w14 K=>?_
  replace S:=S.ext K
  clear K
  obtain ⟨r15,er15,H⟩ := zr H
  obtain ⟨B17,MB17,SB17,back⟩ := S.calln 0 ((.z 1 rfl (.z 0 rfl .nil)))
  refine zu (zq ca_ref12_Same) zca (zdU (a0:=(at_ PTerm.z a0.sub x6_0)) (a1:=(at_ PTerm.z a1.sub x6_0)) SB17 er15) ?_
  rintro _ w16 ⟨rfl,S2⟩
  replace S:=back _ _ _ _ S2 rfl
  clear back S2 SB17
  refine wd (xk rfl) (zb ?_)
  refine zG rfl (fun hc18=>?_) (fun hc18=>?_)
  ·replace H:=if_t hc18 H
   refine zd (za (wd (zo rfl) (zb (zx ?_))))
   refine ⟨_,(zS (zf rfl)),?_⟩
   replace S:=S.arr [] []
   obtain rfl:=zce H
   obtain rfl:=e6
   obtain rfl:=jX Ho6
   exact ⟨rfl,S⟩
  replace H:=if_f hc18 H
  refine zB (za (wd (zg q6_5) (wd (ki rfl rfl) (wd (zh rfl) (zb ?_)))))
  replace S:=S.arr [0,1] [2,3]
  obtain rfl:=zce H
  exact ⟨rfl,(((((((((((((((((((((Dif.self _ _ _).upd rfl _).upd rfl _).upd rfl _).upd rfl _).upd rfl _).upd rfl _).upd rfl _).upd rfl _).upd rfl _).upd rfl _).upd rfl _).upd rfl _).upd rfl _).upd rfl _).upd rfl _).upd rfl _).upd rfl _).upd rfl _).upd rfl _).upd rfl _),(m6,IntKind.i64.wrap (x6_0 + 1)),⟨e6,rfl,S⟩,by dsimp only; omega⟩
 rintro g19 u20 ⟨s6,rfl,p6_5,S⟩
 have H:=Ho6
 dsimp only [aft] at H
 refine zd (za (wd (zo rfl) (zb (zx ?_))))
 refine ⟨_,(zS (zf rfl)),?_⟩
 replace S:=S.arr [] []
 obtain rfl:=zce H
 exact ⟨rfl,S⟩
theorem ref12_Same_st {a0:PTerm} {s_0:SlV} {a1:PTerm} {s_1:SlV} (S:St A N w w [] [zn s_0 a0.sub,zn s_1 a1.sub]) {k:Nat} {r:Bool} (H:zdJ.f k a0 a1=some r) :
  Calls PP j8 #[.agg (Term.C (⟨a0.kind,a0.name,a0.other,a0.form,s_0⟩ : Term)).toArray,.agg (Term.C (⟨a1.kind,a1.name,a1.other,a1.form,s_1⟩ : Term)).toArray] w fun e w' => ∃ v,e = .returned v∧(v = .bool r∧St A N w w' [] []):=by
 have main : ∀ (k:Nat) {A:Nat→Prop} {N:Oth} {w:World} {a0:PTerm} {s_0:SlV} {a1:PTerm} {s_1:SlV} (S:St A N w w [] [zn s_0 a0.sub,zn s_1 a1.sub]) {r:Bool} (H:zdJ.f k a0 a1=some r),Calls PP j8 #[.agg (Term.C (⟨a0.kind,a0.name,a0.other,a0.form,s_0⟩ : Term)).toArray,.agg (Term.C (⟨a1.kind,a1.name,a1.other,a1.form,s_1⟩ : Term)).toArray] w fun e w' => ∃ v,e = .returned v∧(v = .bool r∧St A N w w' [] []):=by
  intro k
  induction k with
  | zero=>intro A N w a0 s_0 a1 s_1 S r H; cases H
  | succ k ih=>intro A N w a0 s_0 a1 s_1 S r H; exact ref12_Same_gst ih S H
 exact main k S H
theorem ref16_Lines_st {a0:List Ln} {s_0:SlV} {a1:List Ln} {s_1:SlV} (S:St A N w w [] [fS 4 Ln.C s_0 a0,fS 4 Ln.C s_1 a1]) {r:Bool} (H:zdK.f a0 a1=some r) :
  Calls PP F_ref16_Lines #[s_0.v,s_1.v] w fun e w' => ∃ v,e = .returned v∧(v = .bool r∧St A N w w' [] []):=by
 unfold zdK.f at H
 refine zz (n:=26) fn_ref16_Lines rfl rfl zcc (zd (za (wd (zo rfl) (zb (zd (zd (za (wd (zA rfl) ?_))))))))
 refine wd (xg zW rfl (S.rd 0)) (wd (zA rfl) (wd (xg zW rfl (S.rd 1)) (wd (xm rfl rfl) (zb ?_))))
 refine zG rfl (fun hc1=>?_) (fun hc1=>?_)
 ·replace H:=if_t hc1 H
  refine zd (za (wd (zo rfl) (zb (zx ?_))))
  refine ⟨_,(zS (zf rfl)),?_⟩
  replace S:=S.arr [] []
  obtain rfl:=zce H
  exact ⟨rfl,S⟩
 replace H:=if_f hc1 H
 refine zB (zd (zd (za (wd (zh rfl) (zb ?_)))))
 obtain ⟨o2,e2,Ho2⟩ := zr H
 clear H
 refine x6 [4,5,11,12,13,14,15,16,17,18,19,20,21,22,23,24,25] (fun fr W => ∃ s2:Unit,o2 = .inl s2∧St A N w W [] [fS 4 Ln.C s_0 a0,fS 4 Ln.C s_1 a1]) ?_ ?_
 ·refine zP ?_
  refine xY (α:=Nat × Int × Unit) [4,5,11,12,13,14,15,16,17,18,19,20,21,22,23,24,25] (fun x fr W=>(x.1:Int)=(a0.length:Int) - x.2.1∧0 ≤ x.2.1∧forN (fun i s=>zdK.b0 a1 a0 i) x.1 x.2.1 x.2.2=some o2∧fr 5 = .int .i64 x.2.1∧St A N w W [] [fS 4 Ln.C s_0 a0,fS 4 Ln.C s_1 a1]) (fun x=>x.1) (((a0.length:Int) - 0).toNat,0,()) ⟨(by dsimp only; have hle:=Int.natCast_nonneg (a0.length); omega),(Int.le_refl _),(by dsimp only; exact e2),rfl,S⟩ ?_
  rintro ⟨m2,i2,_⟩ g2 u2 ⟨hm2,hl2,e2,q2_i,S⟩
  try dsimp only at hm2
  try dsimp only at hl2
  try dsimp only at e2
  try dsimp only at S
  try dsimp only at q2_i
  refine zd (zd (za (wd (zg q2_i) (wd (zA rfl) (wd (xg zW rfl (S.rd 0)) (wd (xQ rfl rfl) (zb ?_)))))))
  refine zG rfl (fun hc3=>?_) (fun hc3=>?_)
  rotate_left
  ·refine yn ?_
   have hge:(a0.length:Int) ≤ i2:=Int.not_lt.1 (of_decide_eq_false hc3)
   obtain rfl:m2=0:=by omega
   replace e2:=zaZ e2
   exact ⟨rfl,(((((Dif.self _ _ _).upd rfl _).upd rfl _).upd rfl _).upd rfl _),(),e2,S⟩
  refine zB ?_
  have hlt2:i2 < (a0.length:Int):=of_decide_eq_true hc3
  obtain ⟨m2,rfl⟩ : ∃ m,m2=m + 1:=⟨m2 - 1,by omega⟩
  obtain ⟨q2,H,e2⟩ := zba e2
  unfold zdK.b0 at H
  try dsimp only at H
  have hb2:=(S.len 0)
  refine zd ?_
  refine zP (zd ?_)
  refine yz 8 (Ext u2) hmix zcd zcd (Ext.drawn _) (zy (fun v K=>zA rfl) (zy (fun v K=>zg q2_i) (zy (fun v K=>xa zW rfl rfl ((S.ext K).rd 0) (And.intro (show 0 ≤ i2 by omega) (show i2 < (a0.length:Int) from hlt2)).1 (And.intro (show 0 ≤ i2 by omega) (show i2 < (a0.length:Int) from hlt2)).2) (zy (fun v K=>zm zaA rfl (((S.ext K).rd 0).at (ym Ln.z (And.intro (show 0 ≤ i2 by omega) (show i2 < (a0.length:Int) from hlt2)))) (Ln.len _)) (zy (fun v K=>zA rfl) ?_)))))
  refine zy (fun v K=>zg q2_i) ?_
  obtain ⟨hi5,H⟩ := xo H
  refine zy (fun v K=>xa zW rfl rfl ((S.ext K).rd 1) (zO hi5).1 (zO hi5).2) (zy (fun v K=>zm zaA rfl (((S.ext K).rd 1).at (ym Ln.z (zO hi5))) (Ln.len _)) ?_)
  refine vD fun w6 K=>?_
  replace S:=S.ext K
  clear K
  refine wd (does_nev eg_Ln (eq_Ln _ _) zca rfl rfl) (zb ?_)
  refine zG rfl (fun hc7=>?_) (fun hc7=>?_)
  ·replace H:=if_t hc7 H
   refine zd (za (wd (zo rfl) (zb (zx ?_))))
   refine ⟨_,(zS (zf rfl)),?_⟩
   replace S:=S.arr [] []
   obtain rfl:=zce H
   obtain rfl:=e2
   obtain rfl:=jX Ho2
   exact ⟨rfl,S⟩
  replace H:=if_f hc7 H
  refine zB (za (wd (zg q2_i) (wd (xK rfl rfl (c:=i2 + 1) rfl zcb zcb) (wd (zh rfl) (zb ?_)))))
  obtain rfl:=zce H
  exact ⟨rfl,(((((((((((((((((Dif.self _ _ _).upd rfl _).upd rfl _).upd rfl _).upd rfl _).upd rfl _).upd rfl _).upd rfl _).upd rfl _).upd rfl _).upd rfl _).upd rfl _).upd rfl _).upd rfl _).upd rfl _).upd rfl _).upd rfl _),(m2,i2 + 1,()),⟨(by dsimp only; omega),(by dsimp only; omega),e2,rfl,S⟩,by dsimp only; omega⟩
 rintro g8 u9 ⟨s2,rfl,S⟩
 have H:=Ho2
 dsimp only [aft] at H
 refine zd (za (wd (zo rfl) (zb (zx ?_))))
 refine ⟨_,(zS (zf rfl)),?_⟩
 replace S:=S.arr [] []
 obtain rfl:=zce H
 exact ⟨rfl,S⟩
theorem law16_heads_st  (S:St A N w w [] [oEt,oPw]) {k:Nat} {r:Bool} (H:zdL.f k  = some r) :
  Calls PP F_law16_heads #[] w fun e w' => ∃ v,e = .returned v∧(v = .bool r∧St A N w w' [] []):=by
 unfold zdL.f at H
 refine zz (n:=129) fn_law16_heads rfl rfl zcc (zd (za (wd (zo rfl) (zb (zd (za ?_))))))
 obtain ⟨r1,er1,H⟩ := zr H
 obtain ⟨B3,MB3,SB3,back⟩ := S.calln 0 ((.nil))
 refine zu (zq kb) zca (km SB3 er1) ?_
 rintro _ w2 ⟨a4,rfl,S2⟩
 replace S:=back _ _ _ _ S2 rfl
 clear back S2 SB3
 refine wd (xc rfl) (zb (zd (za (wd (zk rfl) ?_))))
 obtain ⟨r5,er5,H⟩ := zr H
 obtain ⟨B7,MB7,SB7,back⟩ := S.calln 1 ((.nil))
 refine zu (zq ca_formula_Table_Atom) zca (formula_Table_Atom_st SB7 er5) ?_
 rintro _ w6 ⟨rfl,S2⟩
 replace S:=back _ _ _ _ S2 rfl
 clear back S2 SB7
 refine wd (zV rfl) (wd (zt rfl rfl) (wd (zt rfl rfl) (wd (zh rfl) (wd (zh rfl) (zb (zd (za ?_)))))))
 refine wd (zk rfl) (wd (zg rfl) (wd (zg rfl) ?_))
 obtain ⟨r8,er8,H⟩ := zr H
 obtain ⟨B10,MB10,SB10,back⟩ := S.calln 1 ((.nil))
 refine zu (zq ca_formula_Table_Imp) zca (formula_Table_Imp_st SB10 er8) ?_
 rintro _ w9 ⟨rfl,S2⟩
 replace S:=back _ _ _ _ S2 rfl
 clear back S2 SB10
 refine wd (zV rfl) (wd (zt rfl rfl) (wd (zt rfl rfl) (wd (zh rfl) (wd (zh rfl) (zb (zd (za ?_)))))))
 refine wd (zk rfl) (wd (zg rfl) ?_)
 refine xD (C:=IC) (l:=[r5.2.1]) (vs:=[.int .i64 r5.2.1]) xG kI.zero rfl rfl (fun _ _=>rfl) zca rfl zca fun b12 w11 s13 hBw11 hw11=>?_
 replace S:=S.lit hBw11 hw11 zcc
 refine wd (zg rfl) (wd (yi bu_Ln (Bld.one rfl rfl (by rw [Ln.len]; decide) (Ln.set_kind _ _) (Bld.one rfl rfl (by rw [Ln.len]; decide) (Ln.set_form _ _) Bld.nil))) ?_)
 refine xD (C:=Ln.C) (l:=[{ Ln.z with kind:=10,form:=r5.2.1 }]) (vs:=[.agg (Ln.C ({ Ln.z with kind:=10,form:=r5.2.1 })).toArray]) zW el_Ln.zero rfl rfl (fun a _=>Ln.len a) zca rfl zca fun b15 w14 s16 hBw14 hw14=>?_
 replace S:=S.lit hBw14 hw14 zcc
 refine wd (zg rfl) ?_
 obtain ⟨r17,er17,H⟩ := zr H
 replace S:=S.front 2
 obtain ⟨B19,MB19,SB19,back⟩ := S.calln 1 ((.s 1 rfl (.s 0 rfl .nil)))
 refine zu (zq ca_hilbert_Deduce) zca (hilbert_Deduce_st SB19 er17) ?_
 rintro _ w18 ⟨s20,rfl,S2⟩
 replace S:=back _ _ _ _ S2 rfl
 clear back S2 SB19
 refine wd (zV rfl) (wd (zt rfl rfl) (wd (zt rfl rfl) (wd (xP rfl) (wd (zh rfl) (zb (zd (za ?_)))))))
 refine wd (zk rfl) (wd (Does.to (v' := .agg (Term.C (⟨1,(⟨#[120]⟩ : ByteArray),ByteArray.empty,0,SlV.nil⟩ : Term)).toArray) (xF (vs:=[(0,.int .i64 1),(1,.string (⟨#[120]⟩ : ByteArray))]) jI (yl rfl (yl rfl rfl)) (Bld.one rfl rfl (by rw [Term.len]; decide) (Term.set_kind _ _) (Bld.one rfl rfl (by rw [Term.len]; decide) (Term.set_name _ _) Bld.nil))) rfl) ?_)
 replace S:=S.nilTm
 refine xD (C:=Term.C) (l:=[(⟨1,(⟨#[120]⟩ : ByteArray),ByteArray.empty,0,SlV.nil⟩ : Term)]) (vs:=[.agg (Term.C (⟨1,(⟨#[120]⟩ : ByteArray),ByteArray.empty,0,SlV.nil⟩ : Term)).toArray]) zN vm.zero rfl rfl (fun a _=>Term.len a) zca rfl zca fun b22 w21 s23 hBw21 hw21=>?_
 replace S:=((S.lit hBw21 hw21 zcc).bigTm).consTm (x:=(⟨1,(⟨#[120]⟩ : ByteArray),ByteArray.empty,0,[]⟩ : PTerm)) 0
 replace S:=(S.frzTm 0 0).zs [0,2,3,4]
 refine wd (Does.to (v' := .agg (Term.C (⟨2,(⟨#[120]⟩ : ByteArray),ByteArray.empty,0,s23⟩ : Term)).toArray) (xF (vs:=[(0,.int .i64 2),(1,.string (⟨#[120]⟩ : ByteArray)),(4,s23.v)]) jI (yl rfl (yl rfl (yl rfl rfl))) (Bld.one rfl rfl (by rw [Term.len]; decide) (Term.set_kind _ _) (Bld.one rfl rfl (by rw [Term.len]; decide) (Term.set_name _ _) (Bld.one rfl (SlV.one _ _ rfl) (by rw [Term.len]; decide) (Term.set_sub _ _) Bld.nil)))) rfl) (wd (zg rfl) ?_)
 replace S:=S.nilZ 2 Hyp.C
 obtain ⟨r24,er24,H⟩ := zr H
 obtain ⟨B26,MB26,SB26,back⟩ := S.calln 1 ((.z 0 rfl (.z 1 rfl (.z 3 rfl .nil))))
 refine zu (zK zaV (zM rfl (zM SlV.nil_eq (zM rfl (zM rfl rfl))))) zca (zbc (a2:=(⟨2,(⟨#[120]⟩ : ByteArray),ByteArray.empty,0,[(⟨1,(⟨#[120]⟩ : ByteArray),ByteArray.empty,0,[]⟩ : PTerm)]⟩ : PTerm)) SB26 er24) ?_
 rintro _ w25 ⟨s27,rfl,S2⟩
 replace S:=back _ _ _ _ S2 rfl
 clear back S2 SB26
 refine wd (zV rfl) (wd (zt rfl rfl) (wd (zt rfl rfl) (wd (xP rfl) (wd (zh rfl) (zb (zd (za ?_)))))))
 refine wd (zk rfl) (wd (zA rfl) ?_)
 replace S:=S.nilZ 1 IC
 obtain ⟨r28,er28,H⟩ := zr H
 obtain ⟨B30,MB30,SB30,back⟩ := S.calln 1 ((.z 0 rfl (.s 1 rfl .nil)))
 refine zu (zK zbQ (zM rfl (zM SlV.nil_eq (zM rfl rfl)))) zca (zbU SB30 er28) ?_
 rintro _ w29 ⟨rfl,S2⟩
 replace S:=back _ _ _ _ S2 rfl
 clear back S2 SB30
 refine wd (zV rfl) (wd (zt rfl rfl) (wd (zt rfl rfl) (wd (zh rfl) (wd (zh rfl) (zb (zd (za ?_)))))))
 refine wd (zk rfl) (wd (zg rfl) ?_)
 refine xD (C:=IC) (l:=[r5.2.1]) (vs:=[.int .i64 r5.2.1]) xG kI.zero rfl rfl (fun _ _=>rfl) zca rfl zca fun b32 w31 s33 hBw31 hw31=>?_
 replace S:=S.lit hBw31 hw31 zcc
 refine wd (zg rfl) (wd (yi bu_Ln (Bld.one rfl rfl (by rw [Ln.len]; decide) (Ln.set_kind _ _) (Bld.one rfl rfl (by rw [Ln.len]; decide) (Ln.set_form _ _) Bld.nil))) ?_)
 refine xD (C:=Ln.C) (l:=[{ Ln.z with kind:=10,form:=r5.2.1 }]) (vs:=[.agg (Ln.C ({ Ln.z with kind:=10,form:=r5.2.1 })).toArray]) zW el_Ln.zero rfl rfl (fun a _=>Ln.len a) zca rfl zca fun b35 w34 s36 hBw34 hw34=>?_
 replace S:=S.lit hBw34 hw34 zcc
 obtain ⟨r37,er37,H⟩ := zr H
 replace S:=(S.frzS 1).frzS 0
 obtain ⟨B39,MB39,SB39,back⟩ := S.sub [1,0,7] [oT a4 r28.1] [oS T_Ln 4 Ln.C s27 r24.2.1,oS T_Ln 4 Ln.C s20 r17.2.1,oS T_Ln 4 Ln.C s16 ([{ Ln.z with kind:=10,form:=r5.2.1 }]),oS xB 1 IC s13 ([r5.2.1])]
 refine zu (zq ca_hilbert_Term) zca (hilbert_Term_st SB39 er37) ?_
 rintro _ w38 ⟨s40,rfl,S2⟩
 replace S:=back _ _ _ _ _ S2 rfl rfl
 clear back S2 SB39
 refine wd (zV rfl) (wd (zt rfl rfl) (wd (zt rfl rfl) ?_))
 refine xd ue zca fun b42 w41 hw41=>?_
 replace S:=S.new hw41
 refine zI zD rfl rfl (S.blk 0) (Term.len _) (by rw [Term.len]; decide) (Term.one _) (zT (Term.len _)) fun w43 B hw43 zw43=>?_
 replace S:=S.store 0 B hw43
 clear B
 refine wd (zh rfl) (zb (zd (zd (za (wd (zA rfl) (wd (xg zW rfl (S.rdO 3)) (wd (xm rfl rfl) (zb ?_))))))))
 refine zG rfl (fun hc44=>?_) (fun hc44=>?_)
 ·replace H:=if_t hc44 H
  refine zd (za (wd (zo rfl) (zb (zx ?_))))
  refine ⟨_,(zS (zf rfl)),?_⟩
  replace S:=S.arr [] []
  obtain rfl:=zce H
  exact ⟨rfl,S⟩
 replace H:=if_f hc44 H
 refine zB (zd (za (wd (zk rfl) (wd (zA rfl) ?_))))
 obtain ⟨hi45,H⟩ := xo H
 refine wd (xa zW rfl rfl (S.rdO 3) (zO hi45).1 (zO hi45).2) (wd (ze yP rfl (o':=_) rfl) (wd (zl zR rfl (((S.rdO 3).at (ym Ln.z (zO hi45))).get (Ln.get_form _))) ?_))
 obtain ⟨r46,er46,H⟩ := zr H
 replace S:=S.front 1
 obtain ⟨B48,MB48,SB48,back⟩ := S.calln 1 ((.nil))
 refine zu (zq ca_hilbert_Is) zca (hilbert_Is_st SB48 er46) ?_
 rintro _ w47 ⟨rfl,S2⟩
 replace S:=back _ _ _ _ S2 rfl
 clear back S2 SB48
 refine wd (zV rfl) (wd (zt rfl rfl) (wd (zt rfl rfl) (wd (zo rfl) (wd (zh rfl) (zb (zd (za ?_)))))))
 refine wd (Does.to (v' := .agg (Term.C (⟨1,(⟨#[104,48]⟩ : ByteArray),ByteArray.empty,0,SlV.nil⟩ : Term)).toArray) (xF (vs:=[(0,.int .i64 1),(1,.string (⟨#[104,48]⟩ : ByteArray))]) jI (yl rfl (yl rfl rfl)) (Bld.one rfl rfl (by rw [Term.len]; decide) (Term.set_kind _ _) (Bld.one rfl rfl (by rw [Term.len]; decide) (Term.set_name _ _) Bld.nil))) rfl) (wd (Does.to (v' := .agg (Term.C (⟨1,(⟨#[108,48]⟩ : ByteArray),ByteArray.empty,0,SlV.nil⟩ : Term)).toArray) (xF (vs:=[(0,.int .i64 1),(1,.string (⟨#[108,48]⟩ : ByteArray))]) jI (yl rfl (yl rfl rfl)) (Bld.one rfl rfl (by rw [Term.len]; decide) (Term.set_kind _ _) (Bld.one rfl rfl (by rw [Term.len]; decide) (Term.set_name _ _) Bld.nil))) rfl) ?_)
 replace S:=S.nilTm.nilTm
 refine xD (C:=Term.C) (l:=[(⟨1,(⟨#[104,48]⟩ : ByteArray),ByteArray.empty,0,SlV.nil⟩ : Term),(⟨1,(⟨#[108,48]⟩ : ByteArray),ByteArray.empty,0,SlV.nil⟩ : Term)]) (vs:=[.agg (Term.C (⟨1,(⟨#[104,48]⟩ : ByteArray),ByteArray.empty,0,SlV.nil⟩ : Term)).toArray,.agg (Term.C (⟨1,(⟨#[108,48]⟩ : ByteArray),ByteArray.empty,0,SlV.nil⟩ : Term)).toArray]) zN vm.zero rfl rfl (fun a _=>Term.len a) zca rfl zca fun b50 w49 s51 hBw49 hw49=>?_
 replace S:=((S.lit hBw49 hw49 zcc).bigTm).consTm (x:=(⟨1,(⟨#[108,48]⟩ : ByteArray),ByteArray.empty,0,[]⟩ : PTerm)) 0
 replace S:=((S.consTm (x:=(⟨1,(⟨#[104,48]⟩ : ByteArray),ByteArray.empty,0,[]⟩ : PTerm)) 1).frzTm 0 0).zs [0,2,3,4,5,6,7,8,9,10,11,12]
 refine wd (Does.to (v' := .agg (Term.C (⟨12,(⟨#[108,48]⟩ : ByteArray),ByteArray.empty,0,s51⟩ : Term)).toArray) (xF (vs:=[(0,.int .i64 12),(1,.string (⟨#[108,48]⟩ : ByteArray)),(4,s51.v)]) jI (yl rfl (yl rfl (yl rfl rfl))) (Bld.one rfl rfl (by rw [Term.len]; decide) (Term.set_kind _ _) (Bld.one rfl rfl (by rw [Term.len]; decide) (Term.set_name _ _) (Bld.one rfl (SlV.one _ _ rfl) (by rw [Term.len]; decide) (Term.set_sub _ _) Bld.nil)))) rfl) ?_
 refine xd ue zca fun b53 w52 hw52=>?_
 replace S:=S.new hw52
 refine zI zD rfl rfl (S.blk 0) (Term.len _) (by rw [Term.len]; decide) (Term.one _) (zT (Term.len _)) fun w54 B hw54 zw54=>?_
 replace S:=S.store 0 B hw54
 clear B
 refine zb (zd (za (wd (zg rfl) ?_)))
 obtain ⟨r55,er55,H⟩ := zr H
 obtain ⟨B57,MB57,SB57,back⟩ := S.calln 0 ((.nil))
 refine zu (zq yX) zca (y0 SB57 er55) ?_
 rintro _ w56 ⟨rfl,S2⟩
 replace S:=back _ _ _ _ S2 rfl
 clear back S2 SB57
 refine wd (zU rfl rfl) (wd (zL rfl) ?_)
 refine wg (fun hg=>zg rfl) ?_
 obtain ⟨r58,er58,H⟩ := zr H
 refine yh (j:=3) (pol:=true) rfl rfl rfl zca (fun hg=>zK yX (zM (zw hg) rfl)) zca (fun hg=>(have ⟨M,SS⟩ := S.lend ((.nil)); quiet (y0 SS (if_t (by simpa using hg) er58)) (fun v w' h=>⟨h.1,_,_,h.2⟩))) fun w59 hw59=>?_
 replace S:=S.ext hw59
 refine wg (fun hg=>zU (zw hg) rfl) (wd (xt rfl (fun hp=>(zw (xE hp)))) (wd (zL rfl) ?_))
 refine wg (fun hg=>zA rfl) ?_
 refine wg (fun hg=>zA rfl) ?_
 obtain ⟨r60,er60,H⟩ := zr H
 refine yh (j:=8) (pol:=true) rfl rfl rfl zca (fun hg=>zK ca_ref16_Lines (zM (zw hg) (zM (zw hg) rfl))) zca (fun hg=>(have ⟨M,SS⟩ := S.lend ((.s 4 rfl (.s 3 rfl .nil))); quiet (ref16_Lines_st SS (if_t (by simpa using hg) er60)) (fun v w' h=>⟨h.1,_,_,h.2⟩))) fun w61 hw61=>?_
 replace S:=S.ext hw61
 refine wd (xt rfl (fun hp=>(zw (xE hp)))) (wd (zL rfl) ?_)
 refine wg (fun hg=>zg rfl) ?_
 obtain ⟨r62,er62,H⟩ := zr H
 refine yh (j:=13) (pol:=true) rfl rfl rfl zca (fun hg=>zK yX (zM (zw hg) rfl)) zca (fun hg=>(have ⟨M,SS⟩ := S.lend ((.nil)); quiet (y0 SS (if_t (by simpa using hg) er62)) (fun v w' h=>⟨h.1,_,_,h.2⟩))) fun w63 hw63=>?_
 replace S:=S.ext hw63
 refine wg (fun hg=>zU (zw hg) rfl) (wd (xt rfl (fun hp=>(zw (xE hp)))) (wd (zL rfl) ?_))
 refine wg (fun hg=>zg rfl) ?_
 refine wg (fun hg=>zg rfl) ?_
 refine wg (fun hg=>zU (zw hg) (zw hg)) (wd (xt rfl (fun hp=>(zw (xE hp)))) (wd (zL rfl) ?_))
 refine wg (fun hg=>zg rfl) ?_
 obtain ⟨r64,er64,H⟩ := zr H
 refine yh (j:=23) (pol:=true) rfl rfl rfl zca (fun hg=>zK yX (zM (zw hg) rfl)) zca (fun hg=>(have ⟨M,SS⟩ := S.lend ((.nil)); quiet (y0 SS (if_t (by simpa using hg) er64)) (fun v w' h=>⟨h.1,_,_,h.2⟩))) fun w65 hw65=>?_
 replace S:=S.ext hw65
 refine wg (fun hg=>zU (zw hg) rfl) (wd (xt rfl (fun hp=>(zw (xE hp)))) (wd (zL rfl) ?_))
 refine wg (fun hg=>zm zD rfl ((S.blk 2).all _ (Term.len _)) (Term.len _)) ?_
 refine wg (fun hg=>zm zD rfl ((S.blk 0).all _ (Term.len _)) (Term.len _)) ?_
 obtain ⟨r66,er66,H⟩ := zr H
 refine yh (j:=28) (pol:=true) rfl rfl rfl zca (fun hg=>zK ca_ref12_Same (zM (zw hg) (zM (zw hg) rfl))) zca (fun hg=>(have ⟨M,SS⟩ := S.lend ((.z 3 rfl (.z 0 rfl .nil))); quiet (ref12_Same_st (a0:=r37.2.1) (a1:=(⟨12,(⟨#[108,48]⟩ : ByteArray),ByteArray.empty,0,[(⟨1,(⟨#[104,48]⟩ : ByteArray),ByteArray.empty,0,[]⟩ : PTerm),(⟨1,(⟨#[108,48]⟩ : ByteArray),ByteArray.empty,0,[]⟩ : PTerm)]⟩ : PTerm)) SS (if_t (by simpa using hg) er66)) (fun v w' h=>⟨h.1,_,_,h.2⟩))) fun w67 hw67=>?_
 replace S:=S.ext hw67
 refine wd (xt rfl (fun hp=>(zw (xE hp)))) (wd (zL rfl) ?_)
 refine wg (fun hg=>zg rfl) ?_
 obtain ⟨r68,er68,H⟩ := zr H
 refine yh (j:=33) (pol:=true) rfl rfl rfl zca (fun hg=>zK yX (zM (zw hg) rfl)) zca (fun hg=>(have ⟨M,SS⟩ := S.lend ((.nil)); quiet (y0 SS (if_t (by simpa using hg) er68)) (fun v w' h=>⟨h.1,_,_,h.2⟩))) fun w69 hw69=>?_
 replace S:=S.ext hw69
 refine wg (fun hg=>zU (zw hg) rfl) (wd (xt rfl (fun hp=>(zw (xE hp)))) (wd (zL rfl) ?_))
 refine wg (fun hg=>zL rfl) (wd (xt rfl (fun hp=>(zw (xE hp)))) (wd (zL rfl) ?_))
 refine wg (fun hg=>zk rfl) ?_
 replace S:=(S.nilZ 1 IC).nilZ 4 Ln.C
 obtain ⟨r70,er70,H⟩ := zr H
 replace S:=S.front 1
 obtain ⟨B72,MB72,SB72,back⟩ := S.calln 1 ((.z 1 rfl (.z 0 rfl .nil)))
 refine wl_gturn (R:=fun W=>St A N w W [oT a4 r70.1,oB b53 zj (Term.C (⟨12,(⟨#[108,48]⟩ : ByteArray),ByteArray.empty,0,s51⟩ : Term)),oB b42 zj (Term.C (⟨r37.2.1.kind,r37.2.1.name,r37.2.1.other,r37.2.1.form,s40⟩ : Term)),oS T_Ln 4 Ln.C s27 r24.2.1,oS T_Ln 4 Ln.C s20 r17.2.1,oS T_Ln 4 Ln.C s16 ([{ Ln.z with kind:=10,form:=r5.2.1 }]),oS xB 1 IC s13 ([r5.2.1])] [fS 4 Ln.C SlV.nil ([]),fS 1 IC SlV.nil ([]),zn s51 ([(⟨1,(⟨#[104,48]⟩ : ByteArray),ByteArray.empty,0,[]⟩ : PTerm),(⟨1,(⟨#[108,48]⟩ : ByteArray),ByteArray.empty,0,[]⟩ : PTerm)]),zn SlV.nil ([]),zn SlV.nil ([]),zn s40 r37.2.1.sub,fS 4 Ln.C s36 ([{ Ln.z with kind:=10,form:=r5.2.1 }]),fS 1 IC s33 ([r5.2.1]),fS 1 IC SlV.nil ([]),fS 2 Hyp.C SlV.nil ([]),zn s23 ([(⟨1,(⟨#[120]⟩ : ByteArray),ByteArray.empty,0,[]⟩ : PTerm)]),zn SlV.nil ([]),oEt,oPw]) (j:=41) (pol:=true) rfl rfl rfl zca (fun hg=>zK jj (zM (zw hg) (zM SlV.nil_eq (zM SlV.nil_eq rfl)))) zca (fun hg=>zaX (jm SB72 (if_t (by simpa using hg) er70)) fun _ _ ⟨hv,S2⟩ => ⟨hv,back _ _ _ _ S2 rfl⟩) (fun hg=>by obtain rfl:=zce (if_f (by simpa using hg) er70); exact S) fun w71 S2=>?_
 replace S:St A N w w71 [oT a4 r70.1,oB b53 zj (Term.C (⟨12,(⟨#[108,48]⟩ : ByteArray),ByteArray.empty,0,s51⟩ : Term)),oB b42 zj (Term.C (⟨r37.2.1.kind,r37.2.1.name,r37.2.1.other,r37.2.1.form,s40⟩ : Term)),oS T_Ln 4 Ln.C s27 r24.2.1,oS T_Ln 4 Ln.C s20 r17.2.1,oS T_Ln 4 Ln.C s16 ([{ Ln.z with kind:=10,form:=r5.2.1 }]),oS xB 1 IC s13 ([r5.2.1])] [fS 4 Ln.C SlV.nil ([]),fS 1 IC SlV.nil ([]),zn s51 ([(⟨1,(⟨#[104,48]⟩ : ByteArray),ByteArray.empty,0,[]⟩ : PTerm),(⟨1,(⟨#[108,48]⟩ : ByteArray),ByteArray.empty,0,[]⟩ : PTerm)]),zn SlV.nil ([]),zn SlV.nil ([]),zn s40 r37.2.1.sub,fS 4 Ln.C s36 ([{ Ln.z with kind:=10,form:=r5.2.1 }]),fS 1 IC s33 ([r5.2.1]),fS 1 IC SlV.nil ([]),fS 2 Hyp.C SlV.nil ([]),zn s23 ([(⟨1,(⟨#[120]⟩ : ByteArray),ByteArray.empty,0,[]⟩ : PTerm)]),zn SlV.nil ([]),oEt,oPw]:=S2
 clear back S2 SB72
 obtain ⟨r73,er73,H⟩ := zr H
 refine yh (j:=41) (pol:=true) rfl rfl rfl zca (fun hg=>zK yX (zM (zw hg) rfl)) zca (fun hg=>(have ⟨M,SS⟩ := S.lend ((.nil)); quiet (y0 SS (if_t (by simpa using hg) er73)) (fun v w' h=>⟨h.1,_,_,h.2⟩))) fun w74 hw74=>?_
 replace S:=S.ext hw74
 refine wg (fun hg=>zU (zw hg) rfl) (wd (xt rfl (fun hp=>(zw (xE hp)))) (wd (zo rfl) (zb (zx ?_))))
 refine ⟨_,(zS (zf rfl)),?_⟩
 replace S:=S.arr [] []
 obtain rfl:=zce H
 exact ⟨rfl,S⟩
end
section
open Gw Go.RowKit
set_option maxHeartbeats 4000000
set_option maxRecDepth 20000
theorem law04_Tables_st {A:Nat→Prop} {N:Oth} {w:World} {a0:List Nd} {s_0:SlV} (S:St A N w w [] [fS 4 Nd.C s_0 a0]) {r:Tb × Tb} (H:zdM.f a0=some r) :
  Calls PP F_law04_Tables #[s_0.v] w fun e w' => ∃ v,e = .returned v∧(∃ ao0:Option Addr,∃ ao1:Option Addr,v = .tuple #[.pointer ao0,.pointer ao1]∧St A N w w' [oT ao0 r.1,oR ao1 r.2] []):=by
 unfold zdM.f at H
 refine zz (n:=20) fn_law04_Tables rfl rfl zcc ?_
 refine zd (za ?_)
 replace S:St A N w w [oT none none] [fS 4 Nd.C s_0 a0]:=S.add (Ext.refl _) (oT.nil _) (fun _ x=>x.elim)
 refine wd (xc rfl) ?_
 replace S:St A N w w [oR none none,oT none none] [fS 4 Nd.C s_0 a0]:=S.add (Ext.refl _) (oR.nil _) (fun _ x=>x.elim)
 refine wd (xc rfl) ?_
 refine zb ?_
 refine zd (za ?_)
 refine wd (zA rfl) ?_
 obtain ⟨r1,er1,H⟩ := zr H
 obtain ⟨B3,MB3,SB3,back⟩ := S.calln 0 ((.z 0 rfl .nil))
 refine zu (zq ca_law03_Both) zca (law03_Both_st SB3 er1) ?_
 rintro _ w2 ⟨a4,a5,rfl,S2⟩
 replace S:St A N w w2 [oT a4 r1.1,oR a5 r1.2.1,oR none none,oT none none] [fS 4 Nd.C s_0 a0]:=back _ _ _ _ S2 rfl
 clear back S2 SB3
 refine wd (zV rfl) ?_
 refine wd (zt rfl rfl) ?_
 refine wd (zt rfl rfl) ?_
 refine wd (zt rfl rfl) ?_
 refine wd (xc rfl) ?_
 refine wd (xc rfl) ?_
 refine wd (zo rfl) ?_
 refine zb ?_
 refine zd (zd (za ?_))
 refine wd (zL rfl) ?_
 refine wd (xk rfl) ?_
 refine zb ?_
 refine zG rfl (fun hc6=>?_) (fun hc6=>?_)
 ·replace H:=if_t hc6 H
  refine zd (za ?_)
  obtain ⟨r7,er7,H⟩ := zr H
  obtain ⟨B9,MB9,SB9,back⟩ := S.calln 0 ((.nil))
  refine zu (zq kb) zca (km SB9 er7) ?_
  rintro _ w8 ⟨a10,rfl,S2⟩
  replace S:St A N w w8 [oT a10 r7,oT a4 r1.1,oR a5 r1.2.1,oR none none,oT none none] [fS 4 Nd.C s_0 a0]:=back _ _ _ _ S2 rfl
  clear back S2 SB9
  refine wd (yi bu_RTab Bld.nil) ?_
  refine zX rfl zca fun b12 w11 hw11=>?_
  replace S:St A N w w11 [oR (some ⟨b12,0,none⟩) (some []),oT a10 r7,oT a4 r1.1,oR a5 r1.2.1,oR none none,oT none none] [fS 4 Nd.C s_0 a0]:=((S.nil T_Nd 4 Nd.C).new hw11).shutR rfl
  refine wd (xc rfl) ?_
  refine wd (xc rfl) ?_
  refine zb ?_
  refine zx ?_
  refine ⟨_,(xn (zf rfl) (zf rfl)),?_⟩
  replace S:St A N w w11 [oT a10 r7,oR (some ⟨b12,0,none⟩) (some [])] []:=S.arr [1,0] []
  obtain rfl:=zce H
  exact ⟨a10,(some ⟨b12,0,none⟩),rfl,S⟩
 replace H:=if_f hc6 H
 refine zB ?_
 refine zd (za ?_)
 refine wd (zk rfl) ?_
 refine wd (zk rfl) ?_
 refine wd (xc rfl) ?_
 refine wd (xc rfl) ?_
 refine zb ?_
 refine zx ?_
 refine ⟨_,(xn (zf rfl) (zf rfl)),?_⟩
 replace S:St A N w w2 [oT a4 r1.1,oR a5 r1.2.1] []:=S.arr [0,1] []
 obtain rfl:=zce H
 exact ⟨a4,a5,rfl,S⟩
end
section
namespace Gw
open Go.RowKit
theorem does_bytes {P:Program} {f:Fr} {w:World} {d:Option Tmp} {ty:TypeId} {pos:String} {af:Array Edge} {gd:Option (Nat × Bool)} {x:Operand} {t u e:TypeId} {s:SlV} {l:List Int} (ht:P.underlying t=some (.slice e)) (he:P.underlying e=some (.int .u8)) (hu:P.underlying u=some .string) (hx:evF f x=s.v) (hl:l ≠ []) (hS:Sl w 1 s (l.map (ic .u8))) :
  Does P ⟨d,.convert t u x,ty,pos,af,gd⟩ f w (.string (strOfNums l)) w:=by
 have hp:s.p=some ⟨s.blk,s.off,none⟩ := by
  cases l with
  | nil=>exact absurd rfl hl
  | cons a l=>exact (hS.cells 0 _ rfl).1
 have h:=run_convert_bytes_arg (P:=P) w t e ht he s.blk s.off s.n s.c l (by rw [hS.len,List.length_map]) (fun i hi=>by
  have hi':i < l.length:=by rw [hS.len,List.length_map] at hi; exact hi
  have:=(hS.cells i (ic .u8 l[i]) (by rw [List.getElem?_map,List.getElem?_eq_getElem hi']; rfl)).2 0 (.int .u8 l[i]) rfl
  rw [Nat.mul_one,Nat.add_zero] at this
  rw [this,List.getD_eq_getElem?_getD,List.getElem?_eq_getElem hi']; rfl) u hu
 simp only [Does,execOp,hx,SlV.eq,hp,Sem.run_bind,h,Result.andThen_ok,Sem.run_pure]
end Gw
end
section
open Gw Go.RowKit
set_option maxHeartbeats 4000000
set_option maxRecDepth 20000
theorem ref01_Dec_st {A:Nat→Prop} {N:Oth} {w:World} {a0:Int} (S:St A N w w [] []) {k:Nat} {r:ByteArray} (H:zdN.f k a0=some r) :
  Calls PP F_ref01_Dec #[.int .i64 a0] w fun e w' => ∃ v,e = .returned v∧(v = .string r∧St A N w w' [] []):=by
 unfold zdN.f at H
 refine zz (n:=31) fn_ref01_Dec rfl rfl zcc ?_
 refine zd (za ?_)
 refine wd (xZ rfl) ?_
 refine zb ?_
 refine zd (za ?_)
 refine wd (zg rfl) ?_
 refine wd (does_conv un_int un_uint64 rfl) ?_
 refine wd (zh rfl) ?_
 refine zb ?_
 refine zd (za ?_)
 refine wd (xZ rfl) ?_
 refine zb ?_
 refine zd (zd (za ?_))
 refine wd (zg rfl) ?_
 refine wd (xQ rfl rfl) ?_
 refine zb ?_
 obtain ⟨o1,e1,Ho1⟩ := zr H
 replace H:=e1; clear e1
 refine x6 [3,4,10,11] (fun fr W=>fr 3 = .int .u64 o1.1∧fr 4 = .string o1.2∧St A N w W [] []) ?_ ?_
 ·refine zG rfl (fun hc2=>?_) (fun hc2=>?_)
  ·replace H:=if_t hc2 H
   refine zd (za ?_)
   refine wd (zg rfl) ?_
   refine wd (jD rfl rfl) ?_
   refine wd (zh rfl) ?_
   refine zb ?_
   refine za ?_
   refine wd (xZ rfl) ?_
   refine zb ?_
   obtain rfl:=zce H
   exact ⟨rfl,(((((Dif.refl _ _).upd rfl _).upd rfl _).upd rfl _).upd rfl _),rfl,rfl,S⟩
  ·replace H:=if_f hc2 H
   refine zB ?_
   obtain rfl:=zce H
   exact ⟨rfl,(Dif.refl _ _),rfl,rfl,S⟩
 rintro g3 u4 ⟨p1_3,p1_4,S⟩
 have H:=Ho1
 refine zd (za ?_)
 refine wd (xZ rfl) ?_
 refine zb ?_
 refine zd ?_
 obtain ⟨o5,e5,Ho5⟩ := zr H
 clear H
 refine x6 [3,5,12,13,14,15,16,17,18,19,20,21,22,23,24,25,26,27] (fun fr W => ∃ s5:Int × ByteArray,o5 = .inl s5∧fr 3 = .int .u64 s5.1∧fr 5 = .string s5.2∧St A N w W [] []) ?_ ?_
 ·refine zP ?_
  refine xY (α:=Nat × (Int × ByteArray)) [3,5,12,13,14,15,16,17,18,19,20,21,22,23,24,25,26,27] (fun x fr W=>iter (fun s=>zdN.b0 s.1 s.2) x.1 x.2=some o5∧fr 3 = .int .u64 (x.2.1)∧fr 5 = .string (x.2.2)∧St A N w W [] []) (fun x=>x.1) (k,(o1.1,(⟨#[]⟩ : ByteArray))) ⟨(by dsimp only; exact e5),p1_3,rfl,S⟩ ?_
  rintro ⟨m5,⟨x5_0,x5_1⟩⟩ g5 u5 ⟨e5,q5_3,q5_5,S⟩
  try dsimp only at e5
  try dsimp only at S
  try dsimp only at q5_3
  try dsimp only at q5_5
  obtain ⟨m5,rfl⟩ : ∃ m,m5=m + 1:=⟨m5 - 1,by cases m5 with | zero=>cases e5 | succ m=>rfl⟩
  obtain ⟨q5,H,e5⟩ := iter_s e5
  unfold zdN.b0 at H
  try dsimp only at H
  refine zd (zd (za ?_))
  refine wd (zg q5_3) ?_
  refine wd (kU rfl rfl) ?_
  refine wd (zL rfl) ?_
  refine zH (j:=2) (pol:=false) rfl rfl rfl zca (fun hg=>xl q5_5) zca ?_
  refine zH (j:=2) (pol:=false) rfl rfl rfl zca (fun hg=>vi (zw hg) rfl) zca ?_
  refine wd (xO rfl (fun hp=>(zw (xE hp)))) ?_
  refine zb ?_
  refine zG rfl (fun hc6=>?_) (fun hc6=>?_)
  rotate_left
  ·replace H:=if_f hc6 H
   refine yn ?_
   obtain rfl:=zce H
   exact ⟨rfl,(((((((Dif.self _ _ _).upd rfl _).upd rfl _).upd rfl _).upd rfl _).upd rfl _).upd rfl _),(x5_0,x5_1),e5,q5_3,q5_5,S⟩
  replace H:=if_t hc6 H
  refine zB ?_
  refine zP ?_
  refine zd (za ?_)
  refine wd (zg q5_3) ?_
  refine wd (does_rem rfl rfl zca) ?_
  refine wd (ki rfl rfl) ?_
  refine wd (does_conv un_uint64 un_uint8 rfl) ?_
  refine xD (C:=(ic .u8)) (l:=[IntKind.u8.wrap (IntKind.u64.wrap (48 + (Int.tmod x5_0 10)))]) (vs:=[.int .u8 (IntKind.u8.wrap (IntKind.u64.wrap (48 + (Int.tmod x5_0 10))))]) sl_L_uint8 el_uint8.zero rfl rfl (fun _ _=>rfl) zca rfl zca fun b9 w8 s10 hBw8 hw8=>?_
  replace S:St A N w w8 [oS T_uint8 1 (ic .u8) s10 ([IntKind.u8.wrap (IntKind.u64.wrap (48 + (Int.tmod x5_0 10)))])] []:=S.lit hBw8 hw8 zcc
  refine wd (does_bytes sl_L_uint8.1 un_uint8 yH rfl (List.cons_ne_nil _ _) (S.rdO 0).sl) ?_
  refine wd (xl q5_5) ?_
  obtain ⟨hs11,H⟩ := xo H
  refine wd (zal rfl rfl (of_decide_eq_true hs11)) ?_
  refine wd (xZ rfl) ?_
  refine zb ?_
  refine za ?_
  refine wd (zg q5_3) ?_
  refine wd (does_quo rfl rfl zca) ?_
  refine wd (zh rfl) ?_
  refine zb ?_
  replace S:St A N w w8 [] []:=S.arr [] []
  obtain rfl:=zce H
  exact ⟨rfl,(((((((((((((((((((Dif.self _ _ _).upd rfl _).upd rfl _).upd rfl _).upd rfl _).upd rfl _).upd rfl _).upd rfl _).upd rfl _).upd rfl _).upd rfl _).upd rfl _).upd rfl _).upd rfl _).upd rfl _).upd rfl _).upd rfl _).upd rfl _).upd rfl _),(m5,(IntKind.u64.wrap (Int.tdiv x5_0 10),(strOfNums ([IntKind.u8.wrap (IntKind.u64.wrap (48 + (Int.tmod x5_0 10)))])) ++ x5_1)),⟨e5,rfl,rfl,S⟩,by dsimp only; omega⟩
 rintro g13 u14 ⟨s5,rfl,p5_3,p5_5,S⟩
 have H:=Ho5
 dsimp only [aft] at H
 refine zd (za ?_)
 refine wd (xl p1_4) ?_
 refine wd (xl p5_5) ?_
 obtain ⟨hs15,H⟩ := xo H
 refine wd (zal rfl rfl (of_decide_eq_true hs15)) ?_
 refine wd (xZ rfl) ?_
 refine zb ?_
 refine zx ?_
 refine ⟨_,(zS (zf rfl)),?_⟩
 obtain rfl:=zce H
 exact ⟨rfl,S⟩
end
end Go.Proofs.YtflieamjacclnaaGreatDoor
