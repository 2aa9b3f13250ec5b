/- Texts put together. -/
import Derived.Test.YtmggdbbmmkkplaaGreatDoorMRDoes4
set_option linter.unusedVariables false
set_option linter.unusedSimpArgs false
namespace Go.Proofs.YtmggdbbmmkkplaaGreatDoor
section
open Gw Go.RowKit
set_option maxHeartbeats 4000000
set_option maxRecDepth 20000
variable {A:Nat→Prop} {N:Oth} {w:World}
theorem law04_Tables_st {a0:List Nd} {s_0:SlV} (S:St A N w w [] [fS 4 Nd.C s_0 a0]) {r:Tb × Tb} (H:zdp.f a0=some r) :
  Calls PP F_law04_Tables #[s_0.v] w <| Rt fun v w'=>(∃ ao0:Option Addr,∃ ao1:Option Addr,v = .tuple #[.pointer ao0,.pointer ao1]∧St A N w w' [oT ao0 r.1,oR ao1 r.2] []):=by
 unfold zdp.f at H
 refine zA (n:=20) Tryz.func9 rfl rfl zbr (zb (za ?_))
 replace S:=S.add (Ext.refl _) (oT.nil _) (fun _ x=>x.elim)
 refine wd (xk rfl) ?_
 replace S:=S.add (Ext.refl _) (oR.nil _) (fun _ x=>x.elim)
 refine wd (xk rfl) (zd (zb (za (wd (zN rfl) ?_))))
 obtain ⟨r1,er1,H⟩ := zq H
 obtain ⟨_,_,T,bk⟩ := S.calln 0 ((.z 0 rfl .nil))
 refine zB (zx ca_law03_Both) zbp (law03_Both_st T er1) ?_
 rintro _ w2 ⟨a4,a5,rfl,S2⟩
 replace S:=bk _ _ _ _ S2 rfl
 refine wd (z7 rfl) (wd (zo rfl rfl) (wd (zo rfl rfl) (wd (zo rfl rfl) (wd (xk rfl) (wd (xk rfl) ?_)))))
 refine wd (zk rfl) (zd (zb (zb (za (wd (zy rfl) (wd (xc rfl) (zd ?_)))))))
 refine zF rfl (fun hc6=>?_) (fun hc6=>?_)
 ·replace H:=if_t hc6 H
  refine zb (za ?_)
  obtain ⟨r7,er7,H⟩ := zq H
  obtain ⟨_,_,T,bk⟩ := S.calln 0 ((.nil))
  refine zB (zx jM) zbp (jU T er7) ?_
  rintro _ w8 ⟨a10,rfl,S2⟩
  replace S:=bk _ _ _ _ S2 rfl
  refine wd (vx bu_RTab Bld.nil) ?_
  refine zI rfl zbp fun b12 w11 hw11=>?_
  replace S:St A N w w11 [oR (some ⟨b12,0,none⟩) (some []),oT a10 r7,oT a4 r1.1,oR a5 r1.2.1,oR none none,oT none none] [fS 4 Nd.C s_0 a0]:=((S.nil T_Nd 4 Nd.C).new hw11).shutR rfl
  refine wd (xk rfl) (wd (xk rfl) (zd (zt ?_)))
  refine ⟨_,(xi (zg rfl) (zg rfl)),?_⟩
  replace S:=S.arr [1,0] []
  obtain rfl:=zbt H
  exact ⟨a10,(some ⟨b12,0,none⟩),rfl,S⟩
 replace H:=if_f hc6 H
 refine zu (zb (za (wd (zD rfl) (wd (zD rfl) (wd (xk rfl) (wd (xk rfl) (zd (zt ?_))))))))
 refine ⟨_,(xi (zg rfl) (zg rfl)),?_⟩
 replace S:=S.arr [0,1] []
 obtain rfl:=zbt H
 exact ⟨a4,a5,rfl,S⟩
theorem law04_Same_st {a0:Tb} {a_0:Option Addr} {a1:Tb} {a_1:Option Addr} (S:St A N w w [] [oT a_0 a0,oR a_1 a1]) {r:Bool} (H:zdq.f a0 a1=some r) :
  Calls PP F_law04_Same #[.pointer a_0,.pointer a_1] w <| Rt fun v w'=>(v = .bool r∧St A N w w' [] []):=by
 unfold zdq.f at H
 refine zA (n:=8) Tryz.func22 rfl rfl zbr (zb (za (wd (zk rfl) (zd (zb (za (wd (zD rfl) ?_)))))))
 refine wd (zD rfl) ?_
 obtain ⟨r1,er1,H⟩ := zq H
 obtain ⟨_,_,T,bk⟩ := S.calln 0 ((.z 0 rfl (.z 1 rfl .nil)))
 refine zB (zx ca_law03_Like) zbp (law03_Like_st T er1) ?_
 rintro _ w2 ⟨rfl,S2⟩
 replace S:=bk _ _ _ _ S2 rfl
 refine wd (zk rfl) (zd (zt ?_))
 refine ⟨_,(zP (zg rfl)),?_⟩
 replace S:=S.arr [] []
 obtain rfl:=zbt H
 exact ⟨rfl,S⟩
theorem ref12_Copy_gst {zer:PTerm→Option PTerm} (zdT : ∀ {A:Nat→Prop} {N:Oth} {w:World} {a0:PTerm} {s_0:SlV} (S:St A N w w [] [zf s_0 a0.sub]) {r:PTerm} (H:zer a0=some r),Calls PP vH #[.agg (tmC a0 s_0).toArray] w <| Rt fun v w'=>(∃ so0:SlV,v = .agg (tmC r so0).toArray∧St A N w w' [] [zf so0 r.sub])) {A:Nat→Prop} {N:Oth} {w:World} {a0:PTerm} {s_0:SlV} (S:St A N w w [] [zf s_0 a0.sub]) {k:Nat} {r:PTerm} (H:zdr.g zer k a0=some r) :
  Calls PP vH #[.agg (tmC a0 s_0).toArray] w <| Rt fun v w'=>(∃ so0:SlV,v = .agg (tmC r so0).toArray∧St A N w w' [] [zf so0 r.sub]):=by
 unfold zdr.g at H
 refine zA (n:=26) Tryz.func10 rfl rfl zbr (zb (za ?_))
 refine zI rfl zbp fun b2 w1 hw1=>?_
 replace S:=S.new hw1
 refine zO xd zbp fun b4 w3 hw3=>?_
 replace S:=S.new hw3
 refine zd (zb (za (wd (ldT rfl (S.blk 1)) ?_)))
 refine zO xd zbp fun b6 w5 hw5=>?_
 replace S:=S.new hw5
 refine wsT rfl rfl (S.blk 0) fun w7 B hw7 zw7=>?_
 replace S:=S.store 0 B hw7
 refine zd (zb (za (wd (ze zw rfl (o':=4) rfl) ?_)))
 refine xY zr rfl SlV.nil_eq (S.blk 0) (by rw [Term.len]; decide) (SlV.one _ _ rfl) (Term.set_sub _ _) fun w8 B hw8 zw8=>?_
 replace S:=S.store 0 B hw8
 refine zd (zb (zb (za (wd (zh rfl) (zd ?_)))))
 replace S:=((S.nil zj 5 Term.C).bigTm).nil zj 5 Term.C
 replace S:=S.bigTm
 obtain ⟨o9,e9,Ho9⟩ := zq H
 clear H
 refine xr ([4] ++ rg 7 18) (fun fr W => ∃ s9:Int × PTerm,o9 = .inl s9 ∧ ∃ s10:SlV,∃ m11:List Term,fr 4 = .int .i64 s9.1∧St A N w W [oS zj 5 Term.C SlV.nil ([]:List Term),oS zj 5 Term.C s10 m11,oB b6 zj (tmC s9.2 s10),oB b4 zj (Term.C tmZ),oB b2 zj (tmC a0 s_0)] [bigA xj ([]:List Term) ([]:List PTerm),bigA xj m11 s9.2.sub,zf s_0 a0.sub]) ?_ ?_
 ·refine zK ?_
  refine xy (α:=Nat × (Int × PTerm)) ([4] ++ rg 7 18) (fun x fr W=>iter (fun s=>zdr.b0 a0 zer s.1 s.2) x.1 x.2=some o9 ∧ ∃ s12:SlV,∃ m13:List Term,fr 4 = .int .i64 (x.2.1)∧St A N w W [oS zj 5 Term.C SlV.nil ([]:List Term),oS zj 5 Term.C s12 m13,oB b6 zj (tmC (x.2.2) s12),oB b4 zj (Term.C tmZ),oB b2 zj (tmC a0 s_0)] [bigA xj ([]:List Term) ([]:List PTerm),bigA xj m13 (x.2.2).sub,zf s_0 a0.sub]) (fun x=>x.1) (k,(0,(⟨a0.kind,a0.name,a0.other,a0.form,([]:List PTerm)⟩ : PTerm))) ⟨(by dsimp only; exact e9),SlV.nil,([]:List Term),rfl,S⟩ ?_
  rintro ⟨m9,⟨x9_0,x9_1⟩⟩ g9 u9 ⟨e9,s14,m15,q9_4,S⟩
  try dsimp only at e9
  try dsimp only at S
  try dsimp only at q9_4
  obtain ⟨m9,rfl⟩ : ∃ m,m9=m + 1:=⟨m9 - 1,by cases m9 with | zero=>cases e9 | succ m=>rfl⟩
  obtain ⟨q9,H,e9⟩ := uk e9
  unfold zdr.b0 at H
  try dsimp only at H
  refine zb (zb (za (wd (zi q9_4) (wd (ze zw rfl (o':=4) rfl) (wd (zl zr rfl ((S.blk 4).cell (Term.get_sub _))) (wd (does_lenF zp rfl (S.onZ 2)) (wd (xn rfl rfl) (zd ?_))))))))
  refine zF rfl (fun hc16=>?_) (fun hc16=>?_)
  rotate_left
  ·replace H:=if_f hc16 H
   refine xG ?_
   obtain rfl:=zbt H
   exact ⟨rfl,df,(x9_0,x9_1),e9,s14,m15,q9_4,S⟩
  replace H:=if_t hc16 H
  refine zu (zb ?_)
  refine zK ?_
  obtain ⟨hi17,H⟩ := zU H
  obtain ⟨r19,er19,H⟩ := zq H
  obtain ⟨s18,S⟩ := S.viewTermC 2 (zC hi17)
  replace S:=S.zs [2,3,4,0,1]
  let LT1:List OA:=[bigA xj ([]:List Term) ([]:List PTerm),bigA xj m15 x9_1.sub,zf s_0 a0.sub,oCl s_0.blk (s_0.off + Int.toNat x9_0 * 5) (tmC (kd a0 x9_0) s18),zf s18 ((kd a0 x9_0).sub)]
  let LT2:List OA:=[oS zj 5 Term.C SlV.nil ([]:List Term),oS zj 5 Term.C s14 m15,oB b6 zj (tmC x9_1 s14),oB b4 zj (Term.C tmZ),oB b2 zj (tmC a0 s_0)]
  refine x8 9 ⟨fun _ _=>True,fun _ _ _=>True,fun i v _=>match i with
   | 0=>v=Value.pointer (some ⟨b6,4,none⟩)
   | 1=>v=s14.v
   | 2=>v=Value.pointer (some ⟨b2,4,none⟩)
   | 3=>v=s_0.v
   | 4=>v=Value.int .i64 x9_0
   | 5=>v=Value.pointer (some ⟨s_0.blk,s_0.off + Int.toNat x9_0 * 5,none⟩)
   | 6=>v=Value.agg (tmC (kd a0 x9_0) s18).toArray
   | _=>True⟩ (fun L g v=>bif L 8 then (∃ (s22:SlV) (s25:SlV),(L 7=true→g 21=Value.agg (tmC r19 s22).toArray)∧(L 8=true→g 22=s25.v)∧St A N w v (oS zj 5 Term.C s25 ([(tmT r19 s22)]) :: LT2) (zf s22 r19.sub :: LT1)) else bif L 7 then (∃ (s22:SlV),(L 7=true→g 21=Value.agg (tmC r19 s22).toArray)∧St A N w v LT2 (zf s22 r19.sub :: LT1)) else (St A N w v LT2 LT1)) hmix zbs (fun _ _ _ _ _ _ _ hv=>hv) (fun g=>S.ext (Ext.drawn _)) ⟨?_,?_,?_,?_,?_,?_,?_,?_,?_,trivial⟩ ?_
  ·rintro L g v hL hcl hclo hT 
   cases hl8:L 8 with
   | true =>
    replace hT : ∃ (s22:SlV) (s25:SlV),(L 7=true→g 21=Value.agg (tmC r19 s22).toArray)∧(L 8=true→g 22=s25.v)∧St A N w v (oS zj 5 Term.C s25 ([(tmT r19 s22)]) :: LT2) (zf s22 r19.sub :: LT1):=by simp only [hl8,cd2] at hT ⊢; exact hT
    obtain ⟨s22,s25,he7,he8,S⟩ := hT
    refine wd (ze zw rfl (o':=4) rfl) ?_
    have hT2 : ∃ (s22':SlV) (s25':SlV),((plus L 0) 7=true→(upd g 14 (Value.pointer (some ⟨b6,4,none⟩))) 21=Value.agg (tmC r19 s22').toArray)∧((plus L 0) 8=true→(upd g 14 (Value.pointer (some ⟨b6,4,none⟩))) 22=s25'.v)∧St A N w v (oS zj 5 Term.C s25' ([(tmT r19 s22')]) :: LT2) (zf s22' r19.sub :: LT1):=⟨s22,s25,kpU he7,kpU he8,S⟩
    exact w4 rfl (by simp only [pN L 0 7,pN L 0 8,hl8,cd2] at hT2 ⊢; exact hT2)
   | false =>
    cases hl7:L 7 with
    | true =>
     replace hT : ∃ (s22:SlV),(L 7=true→g 21=Value.agg (tmC r19 s22).toArray)∧St A N w v LT2 (zf s22 r19.sub :: LT1):=by simp only [hl7,hl8,cd2] at hT ⊢; exact hT
     obtain ⟨s22,he7,S⟩ := hT
     refine wd (ze zw rfl (o':=4) rfl) ?_
     have hT2 : ∃ (s22':SlV),((plus L 0) 7=true→(upd g 14 (Value.pointer (some ⟨b6,4,none⟩))) 21=Value.agg (tmC r19 s22').toArray)∧St A N w v LT2 (zf s22' r19.sub :: LT1):=⟨s22,kpU he7,S⟩
     exact w4 rfl (by simp only [pN L 0 7,pN L 0 8,hl7,hl8,cd2] at hT2 ⊢; exact hT2)
    | false =>
     simp only [hl7,hl8,cd2] at hT
     replace S:=hT
     refine wd (ze zw rfl (o':=4) rfl) ?_
     exact w4 rfl (by simp only [pN L 0 7,pN L 0 8,hl7,hl8,cd2]; exact S)
  ·rintro L g v hL hcl hclo hT hv0
   cases hl8:L 8 with
   | true =>
    replace hT : ∃ (s22:SlV) (s25:SlV),(L 7=true→g 21=Value.agg (tmC r19 s22).toArray)∧(L 8=true→g 22=s25.v)∧St A N w v (oS zj 5 Term.C s25 ([(tmT r19 s22)]) :: LT2) (zf s22 r19.sub :: LT1):=by simp only [hl8,cd2] at hT ⊢; exact hT
    obtain ⟨s22,s25,he7,he8,S⟩ := hT
    refine wd (zl zr hv0 ((S.blk 3).cell (Term.get_sub _))) ?_
    have hT2 : ∃ (s22':SlV) (s25':SlV),((plus L 1) 7=true→(upd g 15 (s14.v)) 21=Value.agg (tmC r19 s22').toArray)∧((plus L 1) 8=true→(upd g 15 (s14.v)) 22=s25'.v)∧St A N w v (oS zj 5 Term.C s25' ([(tmT r19 s22')]) :: LT2) (zf s22' r19.sub :: LT1):=⟨s22,s25,kpU he7,kpU he8,S⟩
    exact w4 rfl (by simp only [pN L 1 7,pN L 1 8,hl8,cd2] at hT2 ⊢; exact hT2)
   | false =>
    cases hl7:L 7 with
    | true =>
     replace hT : ∃ (s22:SlV),(L 7=true→g 21=Value.agg (tmC r19 s22).toArray)∧St A N w v LT2 (zf s22 r19.sub :: LT1):=by simp only [hl7,hl8,cd2] at hT ⊢; exact hT
     obtain ⟨s22,he7,S⟩ := hT
     refine wd (zl zr hv0 ((S.blk 2).cell (Term.get_sub _))) ?_
     have hT2 : ∃ (s22':SlV),((plus L 1) 7=true→(upd g 15 (s14.v)) 21=Value.agg (tmC r19 s22').toArray)∧St A N w v LT2 (zf s22' r19.sub :: LT1):=⟨s22,kpU he7,S⟩
     exact w4 rfl (by simp only [pN L 1 7,pN L 1 8,hl7,hl8,cd2] at hT2 ⊢; exact hT2)
    | false =>
     simp only [hl7,hl8,cd2] at hT
     replace S:=hT
     refine wd (zl zr hv0 ((S.blk 2).cell (Term.get_sub _))) ?_
     exact w4 rfl (by simp only [pN L 1 7,pN L 1 8,hl7,hl8,cd2]; exact S)
  ·rintro L g v hL hcl hclo hT 
   have hl7:=clF hL (hclo 7 2 · zbs)
   have hl8:=clF hL (hclo 8 2 · zbs)
   simp only [hl7,hl8,cd2] at hT
   replace S:=hT
   refine wd (ze zw rfl (o':=4) rfl) ?_
   exact w4 rfl (by simp only [pN L 2 7,pN L 2 8,hl7,hl8,cd2]; exact S)
  ·rintro L g v hL hcl hclo hT hv2
   have hl7:=clF hL (hclo 7 3 · zbs)
   have hl8:=clF hL (hclo 8 3 · zbs)
   simp only [hl7,hl8,cd2] at hT
   replace S:=hT
   refine wd (zl zr hv2 ((S.blk 4).cell (Term.get_sub _))) ?_
   exact w4 rfl (by simp only [pN L 3 7,pN L 3 8,hl7,hl8,cd2]; exact S)
  ·rintro L g v hL hcl hclo hT 
   have hl7:=clF hL (hclo 7 4 · zbs)
   have hl8:=clF hL (hclo 8 4 · zbs)
   simp only [hl7,hl8,cd2] at hT
   replace S:=hT
   refine wd (zi q9_4) ?_
   exact w4 rfl (by simp only [pN L 4 7,pN L 4 8,hl7,hl8,cd2]; exact S)
  ·rintro L g v hL hcl hclo hT hv3 hv4
   have hl7:=clF hL (hclo 7 5 · zbs)
   have hl8:=clF hL (hclo 8 5 · zbs)
   simp only [hl7,hl8,cd2] at hT
   replace S:=hT
   refine wd (does_indexF zp hv3 hv4 (S.onZ 2) (zC hi17).1 (zC hi17).2) ?_
   exact w4 rfl (by simp only [pN L 5 7,pN L 5 8,hl7,hl8,cd2]; exact S)
  ·rintro L g v hL hcl hclo hT hv5
   have hl7:=clF hL (hclo 7 6 · zbs)
   have hl8:=clF hL (hclo 8 6 · zbs)
   simp only [hl7,hl8,cd2] at hT
   replace S:=hT
   refine wd (zz zX hv5 (S.cl 3) (Term.len _)) ?_
   exact w4 rfl (by simp only [pN L 6 7,pN L 6 8,hl7,hl8,cd2]; exact S)
  ·rintro L g v hL hcl hclo hT hv6
   have hl7:L 7=false:=hL
   have hl8:=clF hL (hclo 8 7 · zbs)
   simp only [hl7,hl8,cd2] at hT
   replace S:=hT
   obtain ⟨_,_,T,bk⟩ := S.sub [4] [] LT2
   refine zB (zJ yX (zQ hv6 rfl)) zbp (zdT (a0:=(kd a0 x9_0)) T er19) ?_
   rintro _ w28 ⟨s22,rfl,S2⟩
   replace S:=bk _ _ _ _ _ S2 rfl rfl
   have hT2 : ∃ (s22':SlV),((plus L 7) 7=true→(upd g 21 (Value.agg (tmC r19 s22).toArray)) 21=Value.agg (tmC r19 s22').toArray)∧St A N w w28 LT2 (zf s22' r19.sub :: LT1):=⟨s22,fun _=>upd_same _ _ _,S⟩
   exact w4 trivial (by simp only [pN L 7 8,xB (L:=L) (i:=7),hl8,cd2] at hT2 ⊢; exact hT2)
  ·rintro L g v hL hcl hclo hT hv7
   have hl7:L 7=true:=hcl 7 zbs
   have hl8:L 8=false:=hL
   replace hT : ∃ (s22:SlV),(L 7=true→g 21=Value.agg (tmC r19 s22).toArray)∧St A N w v LT2 (zf s22 r19.sub :: LT1):=by simp only [hl7,hl8,cd2] at hT ⊢; exact hT
   obtain ⟨s22,he7,S⟩ := hT
   refine yb (C:=Term.C) (l:=[(tmT r19 s22)]) (vs:=[.agg (tmC r19 s22).toArray]) zp yN.zero (xR (he7 (hcl 7 zbs)) rfl) rfl (fun a _=>Term.len a) zbp rfl zbp fun b31 w30 s25 hBw30 hw30=>?_
   replace S:=S.lit hBw30 hw30 zbr
   have hT2 : ∃ (s22':SlV) (s25':SlV),((plus L 8) 7=true→(upd g 22 (s25.v)) 21=Value.agg (tmC r19 s22').toArray)∧((plus L 8) 8=true→(upd g 22 (s25.v)) 22=s25'.v)∧St A N w w30 (oS zj 5 Term.C s25' ([(tmT r19 s22')]) :: LT2) (zf s22' r19.sub :: LT1):=⟨s22,s25,kpU he7,fun _=>upd_same _ _ _,S⟩
   exact w4 trivial (by simp only [pN L 8 7,xB (L:=L) (i:=8),cd2] at hT2 ⊢; exact hT2)
  rintro L g w33 hLm hT hv34_0 hv34_1 hv34_2 hv34_3 hv34_4 hv34_5 hv34_6 _ _
  have hLt : ∀ j,j < 9→L j=true:=fun j hj=>by rw [hLm]; exact decide_eq_true hj
  replace hT : ∃ (s22:SlV) (s25:SlV),(L 7=true→g 21=Value.agg (tmC r19 s22).toArray)∧(L 8=true→g 22=s25.v)∧St A N w w33 (oS zj 5 Term.C s25 ([(tmT r19 s22)]) :: LT2) (zf s22 r19.sub :: LT1):=by simp only [hLt 8 zbp,cond_true] at hT ⊢; exact hT
  obtain ⟨s22,s25,he7,he8,S⟩ := hT
  have hv34_7:=he7 (hLt 7 zbp)
  have hv34_8:=he8 (hLt 8 zbp)
  replace S:=S
  obtain ⟨ha37,H⟩ := zU H
  have ha37:=of_decide_eq_true ha37
  have hmha37:((m15).length + ([(tmT r19 s22)]).length) * 72 ≤ 140737488355328:=by rw [S.lenTm 2 (l:=x9_1.sub)]; exact ha37
  refine uP (C:=Term.C) zp yN hv34_1 hv34_8 (S.sl 2) (S.rdO 0) zbr (fun a _=>Term.one a) hmha37 zbq zbp fun s36 w35 O hw35 gw35=>?_
  replace S:=S.push 2 O (by first | (simp; done) | (simp; omega) | (simp only [List.length_append]; omega)) hw35 gw35
  clear O
  replace S:=S.snocTm (x:=r19) 2 0
  refine wd (ze zw rfl (o':=4) rfl) ?_
  refine xY zr rfl rfl (S.blk 3) (by rw [Term.len]; decide) (SlV.one _ _ rfl) (Term.set_sub _ _) fun w38 B hw38 zw38=>?_
  replace S:=S.store 3 B hw38
  refine zd (za (wd (zi q9_4) (wd (xI rfl rfl) (wd (zh rfl) (zd ?_)))))
  replace S:=S.arr [3,1,0,4,5] [2,0,4]
  obtain rfl:=zbt H
  exact ⟨rfl,df,(m9,(IntKind.i64.wrap (x9_0 + 1),(⟨x9_1.kind,x9_1.name,x9_1.other,x9_1.form,x9_1.sub ++ [r19]⟩ : PTerm))),⟨e9,s36,m15 ++ [(tmT r19 s22)],rfl,S⟩,by dsimp only; omega⟩
 rintro g39 u40 ⟨s9,rfl,s10,m11,p9_4,S⟩
 have H:=Ho9
 dsimp only [aft] at H
 refine zb (za ?_)
 replace S:=S.frzTm 1 1
 refine wd (ldT rfl (S.blk 1)) ?_
 refine wsT rfl rfl (S.blk 2) fun w41 B hw41 zw41=>?_
 replace S:=S.store 2 B hw41
 refine zd (zt ?_)
 refine ⟨_,(zP (rtT rfl (S.blk 0))),?_⟩
 replace S:=S.arr [] [0]
 obtain rfl:=zbt H
 exact ⟨s10,rfl,S⟩
theorem vV {a0:PTerm} {s_0:SlV} (S:St A N w w [] [zf s_0 a0.sub]) {k:Nat} {r:PTerm} (H:zdr.f k a0=some r) :
  Calls PP vH #[.agg (tmC a0 s_0).toArray] w <| Rt fun v w'=>(∃ so0:SlV,v = .agg (tmC r so0).toArray∧St A N w w' [] [zf so0 r.sub]):=by
 have main : ∀ (k:Nat) {A:Nat→Prop} {N:Oth} {w:World} {a0:PTerm} {s_0:SlV} (S:St A N w w [] [zf s_0 a0.sub]) {r:PTerm} (H:zdr.f k a0=some r),Calls PP vH #[.agg (tmC a0 s_0).toArray] w <| Rt fun v w'=>(∃ so0:SlV,v = .agg (tmC r so0).toArray∧St A N w w' [] [zf so0 r.sub]):=by
  intro k
  induction k with
  | zero=>intro A N w a0 s_0 S r H; cases H
  | succ k ih=>intro A N w a0 s_0 S r H; exact ref12_Copy_gst ih S H
 exact main k S H
theorem zaE {a0:PTerm} {s_0:SlV} {a1:Int} (S:St A N w w [] [zf s_0 a0.sub]) {r:ByteArray} (H:zds.f a0 a1=some r) :
  Calls PP F_ref12_Bound #[.agg (tmC a0 s_0).toArray,.int .i64 a1] w <| Rt fun v w'=>(v = .string r∧St A N w w' [] []):=by
 unfold zds.f at H
 refine zA (n:=35) Tryz.func182 rfl rfl zbr (zb (za ?_))
 refine zI rfl zbp fun b2 w1 hw1=>?_
 replace S:=S.new hw1
 refine wd (xV rfl) (zd (zb ?_))
 refine zK (zb (zb (za (wd (ze zV rfl (o':=0) rfl) (wd (zl zM rfl ((S.blk 0).cell (Term.get_kind _))) (wd (zL rfl rfl) (wd (zk rfl) (zd ?_))))))))
 obtain ⟨o3,e3,Ho3⟩ := zq H
 replace H:=e3; clear e3
 refine xr ([5] ++ rg 9 14) (fun fr W=>fr 5 = .bool o3∧St A N w W [oB b2 zj (tmC a0 s_0)] [zf s_0 a0.sub]) ?_ ?_
 ·refine zF rfl (fun hc4=>?_) (fun hc4=>?_)
  ·replace H:=if_t hc4 H
   refine zu ?_
   obtain rfl:=zbt H
   exact ⟨rfl,df,rfl,S⟩
  ·replace H:=if_f hc4 H
   refine zb (za (wd (ze zV rfl (o':=0) rfl) (wd (zl zM rfl ((S.blk 0).cell (Term.get_kind _))) (wd (zL rfl rfl) (wd (zy rfl) ?_)))))
   refine wg (fun hg=>zi rfl) ?_
   refine wg (fun hg=>zL (zn hg) rfl) (wd (zW rfl (fun hp=>(zn (xe hp)))) (wd (zk rfl) (zd ?_)))
   refine zF rfl (fun hc5=>?_) (fun hc5=>?_)
   ·replace H:=if_t hc5 H
    refine zu ?_
    obtain rfl:=zbt H
    exact ⟨rfl,df,rfl,S⟩
   ·replace H:=if_f hc5 H
    refine za (wd (ze zV rfl (o':=0) rfl) (wd (zl zM rfl ((S.blk 0).cell (Term.get_kind _))) (wd (zL rfl rfl) (wd (zy rfl) ?_))))
    refine wg (fun hg=>zi rfl) ?_
    refine wg (fun hg=>zL (zn hg) rfl) (wd (zW rfl (fun hp=>(zn (xe hp)))) (wd (zk rfl) (zd ?_)))
    obtain rfl:=zbt H
    exact ⟨rfl,df,rfl,S⟩
 rintro g6 u7 ⟨p3_5,S⟩
 have H:=Ho3
 refine zF p3_5 (fun hc8=>?_) (fun hc8=>?_)
 ·replace H:=if_t hc8 H
  refine zb (za (wd (ze xz rfl (o':=1) rfl) (wd (zl xf rfl ((S.blk 0).cell (Term.get_name _))) (wd (xV rfl) (zd (zt ?_))))))
  refine ⟨_,(zP (zg rfl)),?_⟩
  replace S:=S.arr [] []
  obtain rfl:=zbt H
  exact ⟨rfl,S⟩
 replace H:=if_f hc8 H
 refine zb (za (wd (ze zV rfl (o':=0) rfl) (wd (zl zM rfl ((S.blk 0).cell (Term.get_kind _))) (wd (zL rfl rfl) (wd (zy rfl) ?_)))))
 refine wg (fun hg=>zi rfl) ?_
 refine wg (fun hg=>zL (zn hg) rfl) (wd (zW rfl (fun hp=>(zn (xe hp)))) (wd (zk rfl) (zd ?_)))
 refine zF rfl (fun hc9=>?_) (fun hc9=>?_)
 ·replace H:=if_t hc9 H
  refine zb (za (wd (ze yr rfl (o':=2) rfl) (wd (zl xf rfl ((S.blk 0).cell (Term.get_other _))) (wd (xV rfl) (zd (zt ?_))))))
  refine ⟨_,(zP (zg rfl)),?_⟩
  replace S:=S.arr [] []
  obtain rfl:=zbt H
  exact ⟨rfl,S⟩
 replace H:=if_f hc9 H
 refine zu (zb (za (wd (xV rfl) (zd (zt ?_)))))
 refine ⟨_,(zP (zg rfl)),?_⟩
 replace S:=S.arr [] []
 obtain rfl:=zbt H
 exact ⟨rfl,S⟩
theorem ref12_IsFree_gst {zes:PTerm→ByteArray→Option Bool} (zdU : ∀ {A:Nat→Prop} {N:Oth} {w:World} {a0:PTerm} {s_0:SlV} {a1:ByteArray} (S:St A N w w [] [zf s_0 a0.sub]) {r:Bool} (H:zes a0 a1=some r),Calls PP uD #[.agg (tmC a0 s_0).toArray,.string a1] w <| Rt fun v w'=>(v = .bool r∧St A N w w' [] [])) {A:Nat→Prop} {N:Oth} {w:World} {a0:PTerm} {s_0:SlV} {a1:ByteArray} (S:St A N w w [] [zf s_0 a0.sub]) {k:Nat} {r:Bool} (H:zdt.g zes k a0 a1=some r) :
  Calls PP uD #[.agg (tmC a0 s_0).toArray,.string a1] w <| Rt fun v w'=>(v = .bool r∧St A N w w' [] []):=by
 unfold zdt.g at H
 refine zA (n:=34) Tryz.func183 rfl rfl zbr (zb (za ?_))
 refine zI rfl zbp fun b2 w1 hw1=>?_
 replace S:=S.new hw1
 refine wd (zk rfl) (zd (zb (zb (za (wd (ze zV rfl (o':=0) rfl) (wd (zl zM rfl ((S.blk 0).cell (Term.get_kind _))) (wd (zL rfl rfl) (zd ?_))))))))
 refine zF rfl (fun hc3=>?_) (fun hc3=>?_)
 ·replace H:=if_t hc3 H
  refine zb (za (wd (ze xz rfl (o':=1) rfl) (wd (zl xf rfl ((S.blk 0).cell (Term.get_name _))) (wd (zT rfl) (wd (yf rfl rfl) (wd (zk rfl) (zd (zt ?_))))))))
  refine ⟨_,(zP (zg rfl)),?_⟩
  replace S:=S.arr [] []
  obtain rfl:=zbt H
  exact ⟨rfl,S⟩
 replace H:=if_f hc3 H
 refine zu (zb (zb (za (wd (zh rfl) (zd ?_)))))
 obtain ⟨o4,e4,Ho4⟩ := zq H
 clear H
 refine xr ([4,5] ++ rg 13 21) (fun fr W => ∃ s4:Int,o4 = .inl s4∧fr 5 = .int .i64 s4∧St A N w W [oB b2 zj (tmC a0 s_0)] [zf s_0 a0.sub]) ?_ ?_
 ·refine zK ?_
  refine xy (α:=Nat × Int) ([4,5] ++ rg 13 21) (fun x fr W=>iter (fun s=>zdt.b0 a0 a1 zes s) x.1 x.2=some o4∧fr 5 = .int .i64 (x.2)∧St A N w W [oB b2 zj (tmC a0 s_0)] [zf s_0 a0.sub]) (fun x=>x.1) (k,0) ⟨(by dsimp only; exact e4),rfl,S⟩ ?_
  rintro ⟨m4,x4_0⟩ g4 u4 ⟨e4,q4_5,S⟩
  try dsimp only at e4
  try dsimp only at S
  try dsimp only at q4_5
  obtain ⟨m4,rfl⟩ : ∃ m,m4=m + 1:=⟨m4 - 1,by cases m4 with | zero=>cases e4 | succ m=>rfl⟩
  obtain ⟨q4,H,e4⟩ := uk e4
  unfold zdt.b0 at H
  try dsimp only at H
  refine zb (zb (za (wd (zi q4_5) (wd (ze zw rfl (o':=4) rfl) (wd (zl zr rfl ((S.blk 0).cell (Term.get_sub _))) (wd (does_lenF zp rfl (S.onZ 0)) (wd (xn rfl rfl) (zd ?_))))))))
  refine zF rfl (fun hc5=>?_) (fun hc5=>?_)
  rotate_left
  ·replace H:=if_f hc5 H
   refine xG ?_
   obtain rfl:=zbt H
   exact ⟨rfl,df,x4_0,e4,q4_5,S⟩
  replace H:=if_t hc5 H
  refine zu (zb ?_)
  refine zK (zb (za (wd (ldT rfl (S.blk 0)) (wd (zi q4_5) ?_))))
  obtain ⟨r6,er6,H⟩ := zq H
  obtain ⟨_,_,T,bk⟩ := S.calln 0 ((.z 0 rfl .nil))
  refine zB (zx zat) zbp (zaE (a0:=a0) T er6) ?_
  rintro _ w7 ⟨rfl,S2⟩
  replace S:=bk _ _ _ _ S2 rfl
  refine wd (zT rfl) (wd (vi rfl rfl) (wd (zy rfl) ?_))
  refine wg (fun hg=>ze zw rfl (o':=4) rfl) ?_
  refine wg (fun hg=>zl zr (zn hg) ((S.blk 0).cell (Term.get_sub _))) ?_
  refine wg (fun hg=>zi q4_5) ?_
  obtain ⟨hi9,H⟩ := chk_g H
  refine wg (fun hg=>does_indexF zp (zn hg) (zn hg) (S.onZ 0) (zC (hi9 (by simpa using hg))).1 (zC (hi9 (by simpa using hg))).2) ?_
  obtain ⟨s10,hc11,S⟩ := S.viewTermG (i:=x4_0) 0
  replace S:=S
  refine wg (fun hg=>zz zX (zn hg) (hc11 (zC (hi9 (by simpa using hg)))) (Term.len _)) ?_
  refine wg (fun hg=>zT rfl) ?_
  obtain ⟨r12,er12,H⟩ := zq H
  refine xu (j:=5) (pol:=true) rfl rfl rfl zbp (fun hg=>zJ un (zQ (zn hg) (zQ (zn hg) rfl))) zbp (fun hg=>(have ⟨M,SS⟩ := S.lend ((.z 0 rfl .nil)); quiet (zdU (a0:=(kd a0 x4_0)) SS (if_t (by simpa using hg) er12)) (fun v w' h=>⟨h.1,_,_,h.2⟩))) fun w13 hw13=>?_
  replace S:=S.ext hw13
  refine wd (zW rfl (fun hp=>(zn (xe hp)))) (zd ?_)
  refine zF rfl (fun hc14=>?_) (fun hc14=>?_)
  ·replace H:=if_t hc14 H
   refine zb (za (wd (zk rfl) (zd (zt ?_))))
   refine ⟨_,(zP (zg rfl)),?_⟩
   replace S:=S.arr [] []
   obtain rfl:=zbt H
   obtain rfl:=e4
   obtain rfl:=ue Ho4
   exact ⟨rfl,S⟩
  replace H:=if_f hc14 H
  refine zu (za (wd (zi q4_5) (wd (xI rfl rfl) (wd (zh rfl) (zd ?_)))))
  replace S:=S.arr [0] [1]
  obtain rfl:=zbt H
  exact ⟨rfl,df,(m4,IntKind.i64.wrap (x4_0 + 1)),⟨e4,rfl,S⟩,by dsimp only; omega⟩
 rintro g15 u16 ⟨s4,rfl,p4_5,S⟩
 have H:=Ho4
 dsimp only [aft] at H
 refine zb (za (wd (zk rfl) (zd (zt ?_))))
 refine ⟨_,(zP (zg rfl)),?_⟩
 replace S:=S.arr [] []
 obtain rfl:=zbt H
 exact ⟨rfl,S⟩
theorem jk {a0:PTerm} {s_0:SlV} {a1:ByteArray} (S:St A N w w [] [zf s_0 a0.sub]) {k:Nat} {r:Bool} (H:zdt.f k a0 a1=some r) :
  Calls PP uD #[.agg (tmC a0 s_0).toArray,.string a1] w <| Rt fun v w'=>(v = .bool r∧St A N w w' [] []):=by
 have main : ∀ (k:Nat) {A:Nat→Prop} {N:Oth} {w:World} {a0:PTerm} {s_0:SlV} {a1:ByteArray} (S:St A N w w [] [zf s_0 a0.sub]) {r:Bool} (H:zdt.f k a0 a1=some r),Calls PP uD #[.agg (tmC a0 s_0).toArray,.string a1] w <| Rt fun v w'=>(v = .bool r∧St A N w w' [] []):=by
  intro k
  induction k with
  | zero=>intro A N w a0 s_0 a1 S r H; cases H
  | succ k ih=>intro A N w a0 s_0 a1 S r H; exact ref12_IsFree_gst ih S H
 exact main k S H
theorem ref12_digits_st {a0:Int} (S:St A N w w [] []) {k:Nat} {r:ByteArray} (H:zdu.f k a0=some r) :
  Calls PP F_ref12_digits #[.int .i64 a0] w <| Rt fun v w'=>(v = .string r∧St A N w w' [] []):=by
 unfold zdu.f at H
 refine zA (n:=21) Tryz.func187 rfl rfl zbr (zb (za (wd (xV rfl) (zd (zb (za (wd (xV rfl) (zd (zb ?_)))))))))
 obtain ⟨o1,e1,Ho1⟩ := zq H
 clear H
 refine xr ([0] ++ rg 3 17) (fun fr W => ∃ s1:Int × ByteArray,o1 = .inl s1∧fr 0 = .int .i64 s1.1∧fr 3 = .string s1.2∧St A N w W [] []) ?_ ?_
 ·refine zK ?_
  refine xy (α:=Nat × (Int × ByteArray)) ([0] ++ rg 3 17) (fun x fr W=>iter (fun s=>zdu.b0 s.1 s.2) x.1 x.2=some o1∧fr 0 = .int .i64 (x.2.1)∧fr 3 = .string (x.2.2)∧St A N w W [] []) (fun x=>x.1) (k,(a0,(bA #[]))) ⟨(by dsimp only; exact e1),rfl,rfl,S⟩ ?_
  rintro ⟨m1,⟨x1_0,x1_1⟩⟩ g1 u1 ⟨e1,q1_0,q1_3,S⟩
  try dsimp only at e1
  try dsimp only at S
  try dsimp only at q1_0
  try dsimp only at q1_3
  obtain ⟨m1,rfl⟩ : ∃ m,m1=m + 1:=⟨m1 - 1,by cases m1 with | zero=>cases e1 | succ m=>rfl⟩
  obtain ⟨q1,H,e1⟩ := uk e1
  unfold zdu.b0 at H
  try dsimp only at H
  refine zb (zb (za (wd (zi q1_0) (wd (ui rfl rfl) (wd (zy rfl) ?_)))))
  refine wg (fun hg=>zT q1_3) ?_
  refine wg (fun hg=>yf (zn hg) rfl) (wd (xq rfl (fun hp=>(zn (xe hp)))) (zd ?_))
  refine zF rfl (fun hc2=>?_) (fun hc2=>?_)
  rotate_left
  ·replace H:=if_f hc2 H
   refine xG ?_
   obtain rfl:=zbt H
   exact ⟨rfl,df,(x1_0,x1_1),e1,q1_0,q1_3,S⟩
  replace H:=if_t hc2 H
  refine zu ?_
  refine zK (zb (za (wd (zi q1_0) (wd (does_rem rfl rfl zbp) (wd (xI rfl rfl) (wd (does_conv un_int un_uint8 rfl) ?_))))))
  refine yb (C:=(ic .u8)) (l:=[IntKind.u8.wrap (IntKind.i64.wrap (48 + (Int.tmod x1_0 10)))]) (vs:=[.int .u8 (IntKind.u8.wrap (IntKind.i64.wrap (48 + (Int.tmod x1_0 10))))]) sl_L_uint8 el_uint8.zero rfl rfl (fun _ _=>rfl) zbp rfl zbp fun b5 w4 s6 hBw4 hw4=>?_
  replace S:=S.lit hBw4 hw4 zbr
  refine wd (does_bytes sl_L_uint8.1 un_uint8 yI rfl (List.cons_ne_nil _ _) (S.rdO 0).sl) (wd (zT q1_3) ?_)
  obtain ⟨hs7,H⟩ := zU H
  refine wd (does_concat rfl rfl (of_decide_eq_true hs7)) (wd (xV rfl) (zd (za (wd (zi q1_0) (wd (does_quo rfl rfl zbp) ?_)))))
  refine wd (zh rfl) (zd ?_)
  replace S:=S.arr [] []
  obtain rfl:=zbt H
  exact ⟨rfl,df,(m1,(IntKind.i64.wrap (Int.tdiv x1_0 10),(strOfNums ([IntKind.u8.wrap (IntKind.i64.wrap (48 + (Int.tmod x1_0 10)))])) ++ x1_1)),⟨e1,rfl,rfl,S⟩,by dsimp only; omega⟩
 rintro g9 u10 ⟨s1,rfl,p1_0,p1_3,S⟩
 have H:=Ho1
 dsimp only [aft] at H
 refine zb (za (wd (zT p1_3) (wd (xV rfl) (zd (zt ?_)))))
 refine ⟨_,(zP (zg rfl)),?_⟩
 obtain rfl:=zbt H
 exact ⟨rfl,S⟩
theorem ref12_fresh_st {a0:PTerm} {s_0:SlV} {a1:PTerm} {s_1:SlV} {a2:ByteArray} (S:St A N w w [] [zf s_0 a0.sub,zf s_1 a1.sub]) {k:Nat} {r:ByteArray} (H:zdv.f k a0 a1 a2=some r) :
  Calls PP F_ref12_fresh #[.agg (tmC a0 s_0).toArray,.agg (tmC a1 s_1).toArray,.string a2] w <| Rt fun v w'=>(v = .string r∧St A N w w' [] []):=by
 unfold zdv.f at H
 refine zA (n:=30) Tryz.func184 rfl rfl zbr (zb (za ?_))
 refine zI rfl zbp fun b2 w1 hw1=>?_
 replace S:=S.new hw1
 refine zI rfl zbp fun b4 w3 hw3=>?_
 replace S:=S.new hw3
 refine wd (xV rfl) (zd (zb (za (wd (zh rfl) (zd ?_)))))
 obtain ⟨o5,e5,Ho5⟩ := zq H
 clear H
 refine xr (rg 6 24) (fun fr W => ∃ s5:Int,o5 = .inl s5∧fr 7 = .int .i64 s5∧St A N w W [oB b4 zj (tmC a1 s_1),oB b2 zj (tmC a0 s_0)] [zf s_0 a0.sub,zf s_1 a1.sub]) ?_ ?_
 ·refine zK ?_
  refine xy (α:=Nat × Int) (rg 6 24) (fun x fr W=>iter (fun s=>zdv.b0 k a2 a0 a1 s) x.1 x.2=some o5∧fr 7 = .int .i64 (x.2)∧St A N w W [oB b4 zj (tmC a1 s_1),oB b2 zj (tmC a0 s_0)] [zf s_0 a0.sub,zf s_1 a1.sub]) (fun x=>x.1) (k,0) ⟨(by dsimp only; exact e5),rfl,S⟩ ?_
  rintro ⟨m5,x5_0⟩ g5 u5 ⟨e5,q5_7,S⟩
  try dsimp only at e5
  try dsimp only at S
  try dsimp only at q5_7
  obtain ⟨m5,rfl⟩ : ∃ m,m5=m + 1:=⟨m5 - 1,by cases m5 with | zero=>cases e5 | succ m=>rfl⟩
  obtain ⟨q5,H,e5⟩ := uk e5
  unfold zdv.b0 at H
  try dsimp only at H
  refine zb ?_
  refine zK (zb (za (wd (zi q5_7) ?_)))
  obtain ⟨r6,er6,H⟩ := zq H
  obtain ⟨_,_,T,bk⟩ := S.calln 0 ((.nil))
  refine zB (zx ca_ref12_digits) zbp (ref12_digits_st T er6) ?_
  rintro _ w7 ⟨rfl,S2⟩
  replace S:=bk _ _ _ _ S2 rfl
  obtain ⟨hs9,H⟩ := zU H
  refine wd (does_concat rfl rfl (of_decide_eq_true hs9)) (wd (xV rfl) (zd (zb (za (wd (zT rfl) (wd (zT rfl) ?_))))))
  refine wd (vi rfl rfl) (wd (zy rfl) ?_)
  refine wg (fun hg=>ldT rfl (S.blk 1)) ?_
  refine wg (fun hg=>zT rfl) ?_
  obtain ⟨r10,er10,H⟩ := zq H
  refine xu (j:=3) (pol:=true) rfl rfl rfl zbp (fun hg=>zJ un (zQ (zn hg) (zQ (zn hg) rfl))) zbp (fun hg=>(have ⟨M,SS⟩ := S.lend ((.z 0 rfl .nil)); quiet (jk (a0:=a0) SS (if_t (by simpa using hg) er10)) (fun v w' h=>⟨h.1,_,_,h.2⟩))) fun w11 hw11=>?_
  replace S:=S.ext hw11
  refine wg (fun hg=>xc (zn hg)) (wd (zW rfl (fun hp=>(zn (xe hp)))) (wd (zy rfl) ?_))
  refine wg (fun hg=>ldT rfl (S.blk 0)) ?_
  refine wg (fun hg=>zT rfl) ?_
  obtain ⟨r12,er12,H⟩ := zq H
  refine xu (j:=9) (pol:=true) rfl rfl rfl zbp (fun hg=>zJ un (zQ (zn hg) (zQ (zn hg) rfl))) zbp (fun hg=>(have ⟨M,SS⟩ := S.lend ((.z 1 rfl .nil)); quiet (jk (a0:=a1) SS (if_t (by simpa using hg) er12)) (fun v w' h=>⟨h.1,_,_,h.2⟩))) fun w13 hw13=>?_
  replace S:=S.ext hw13
  refine wg (fun hg=>xc (zn hg)) (wd (zW rfl (fun hp=>(zn (xe hp)))) (zd ?_))
  refine zF rfl (fun hc14=>?_) (fun hc14=>?_)
  ·replace H:=if_t hc14 H
   refine zb (za (wd (zT rfl) (wd (xV rfl) (zd (zt ?_)))))
   refine ⟨_,(zP (zg rfl)),?_⟩
   replace S:=S.arr [] []
   obtain rfl:=zbt H
   obtain rfl:=e5
   obtain rfl:=ue Ho5
   exact ⟨rfl,S⟩
  replace H:=if_f hc14 H
  refine zu (za (wd (zi q5_7) (wd (xI rfl rfl) (wd (zh rfl) (zd ?_)))))
  obtain rfl:=zbt H
  exact ⟨rfl,df,(m5,IntKind.i64.wrap (x5_0 + 1)),⟨e5,rfl,S⟩,by dsimp only; omega⟩
 rintro g15 u16 ⟨s5,rfl,p5_7,S⟩
 have H:=Ho5
 dsimp only [aft] at H
 cases H
theorem ref12_put_gst {zew:PTerm→ByteArray→PTerm→Option PTerm} (zdY : ∀ {A:Nat→Prop} {N:Oth} {w:World} {a0:PTerm} {s_0:SlV} {a1:ByteArray} {a2:PTerm} {s_2:SlV} (S:St A N w w [] [zf s_0 a0.sub,zf s_2 a2.sub]) {r:PTerm} (H:zew a0 a1 a2=some r),Calls PP kD #[.agg (tmC a0 s_0).toArray,.string a1,.agg (tmC a2 s_2).toArray] w <| Rt fun v w'=>(∃ so0:SlV,v = .agg (tmC r so0).toArray∧St A N w w' [] [zf so0 r.sub])) {A:Nat→Prop} {N:Oth} {w:World} {a0:PTerm} {s_0:SlV} {a1:ByteArray} {a2:PTerm} {s_2:SlV} (S:St A N w w [] [zf s_0 a0.sub,zf s_2 a2.sub]) {k:Nat} {r:PTerm} (H:zdw.g zew k a0 a1 a2=some r) :
  Calls PP kD #[.agg (tmC a0 s_0).toArray,.string a1,.agg (tmC a2 s_2).toArray] w <| Rt fun v w'=>(∃ so0:SlV,v = .agg (tmC r so0).toArray∧St A N w w' [] [zf so0 r.sub]):=by
 unfold zdw.g at H
 refine zA (n:=92) Tryz.func167 rfl rfl zbr (zb (za ?_))
 refine zI rfl zbp fun b2 w1 hw1=>?_
 replace S:=S.new hw1
 refine zI rfl zbp fun b4 w3 hw3=>?_
 replace S:=S.new hw3
 refine zO xd zbp fun b6 w5 hw5=>?_
 replace S:=S.new hw5
 refine zd (zb (zb (za (wd (ze zV rfl (o':=0) rfl) (wd (zl zM rfl ((S.blk 2).cell (Term.get_kind _))) (wd (zL rfl rfl) (zd ?_)))))))
 refine zF rfl (fun hc7=>?_) (fun hc7=>?_)
 ·replace H:=if_t hc7 H
  refine zb (zb (za (wd (ze xz rfl (o':=1) rfl) (wd (zl xf rfl ((S.blk 2).cell (Term.get_name _))) (wd (zT rfl) (wd (yf rfl rfl) (zd ?_)))))))
  refine zF rfl (fun hc8=>?_) (fun hc8=>?_)
  ·replace H:=if_t hc8 H
   refine zb (za (wd (ldT rfl (S.blk 1)) ?_))
   obtain ⟨r9,er9,H⟩ := zq H
   obtain ⟨_,_,T,bk⟩ := S.sub [1] [] [oB b6 zj (Term.C tmZ),oB b4 zj (tmC a2 s_2),oB b2 zj (tmC a0 s_0)]
   refine zB (zx yX) zbp (vV (a0:=a2) T er9) ?_
   rintro _ w10 ⟨s12,rfl,S2⟩
   replace S:=bk _ _ _ _ _ S2 rfl rfl
   refine wsT rfl rfl (S.blk 0) fun w13 B hw13 zw13=>?_
   replace S:=S.store 0 B hw13
   refine zd (zt ?_)
   refine ⟨_,(zP (rtT rfl (S.blk 0))),?_⟩
   replace S:=S.arr [] [0]
   obtain rfl:=zbt H
   exact ⟨s12,rfl,S⟩
  replace H:=if_f hc8 H
  refine zu (zb (za (wd (ldT rfl (S.blk 2)) ?_)))
  refine wsT rfl rfl (S.blk 0) fun w14 B hw14 zw14=>?_
  replace S:=S.store 0 B hw14
  refine zd (zt ?_)
  refine ⟨_,(zP (rtT rfl (S.blk 0))),?_⟩
  replace S:=S.arr [] [0]
  obtain rfl:=zbt H
  exact ⟨s_0,rfl,S⟩
 replace H:=if_f hc7 H
 refine zu (zb (za (wd (ldT rfl (S.blk 2)) ?_)))
 refine zO xd zbp fun b16 w15 hw15=>?_
 replace S:=S.new hw15
 refine wsT rfl rfl (S.blk 0) fun w17 B hw17 zw17=>?_
 replace S:=S.store 0 B hw17
 refine zd (zb (za (wd (ze zw rfl (o':=4) rfl) ?_)))
 refine xY zr rfl SlV.nil_eq (S.blk 0) (by rw [Term.len]; decide) (SlV.one _ _ rfl) (Term.set_sub _ _) fun w18 B hw18 zw18=>?_
 replace S:=S.store 0 B hw18
 refine zd (zb (zb (za (wd (zh rfl) (zd ?_)))))
 replace S:=((S.nil zj 5 Term.C).bigTm).nil zj 5 Term.C
 replace S:=S.bigTm
 obtain ⟨o19,e19,Ho19⟩ := zq H
 clear H
 refine xr ([8,9,10,11] ++ rg 24 67) (fun fr W => ∃ s19:Int × PTerm,o19 = .inl s19 ∧ ∃ s20:SlV,∃ m21:List Term,fr 8 = .int .i64 s19.1∧St A N w W [oS zj 5 Term.C SlV.nil ([]:List Term),oS zj 5 Term.C s20 m21,oB b16 zj (tmC s19.2 s20),oB b6 zj (Term.C tmZ),oB b4 zj (tmC a2 s_2),oB b2 zj (tmC a0 s_0)] [bigA xj ([]:List Term) ([]:List PTerm),bigA xj m21 s19.2.sub,zf s_0 a0.sub,zf s_2 a2.sub]) ?_ ?_
 ·refine zK ?_
  refine xy (α:=Nat × (Int × PTerm)) ([8,9,10,11] ++ rg 24 67) (fun x fr W=>iter (fun s=>zdw.b0 a0 a1 k a2 zew s.1 s.2) x.1 x.2=some o19 ∧ ∃ s22:SlV,∃ m23:List Term,fr 8 = .int .i64 (x.2.1)∧St A N w W [oS zj 5 Term.C SlV.nil ([]:List Term),oS zj 5 Term.C s22 m23,oB b16 zj (tmC (x.2.2) s22),oB b6 zj (Term.C tmZ),oB b4 zj (tmC a2 s_2),oB b2 zj (tmC a0 s_0)] [bigA xj ([]:List Term) ([]:List PTerm),bigA xj m23 (x.2.2).sub,zf s_0 a0.sub,zf s_2 a2.sub]) (fun x=>x.1) (k,(0,(⟨a0.kind,a0.name,a0.other,a0.form,([]:List PTerm)⟩ : PTerm))) ⟨(by dsimp only; exact e19),SlV.nil,([]:List Term),rfl,S⟩ ?_
  rintro ⟨m19,⟨x19_0,x19_1⟩⟩ g19 u19 ⟨e19,s24,m25,q19_8,S⟩
  try dsimp only at e19
  try dsimp only at S
  try dsimp only at q19_8
  obtain ⟨m19,rfl⟩ : ∃ m,m19=m + 1:=⟨m19 - 1,by cases m19 with | zero=>cases e19 | succ m=>rfl⟩
  obtain ⟨q19,H,e19⟩ := uk e19
  unfold zdw.b0 at H
  try dsimp only at H
  refine zb (zb (za (wd (zi q19_8) (wd (ze zw rfl (o':=4) rfl) (wd (zl zr rfl ((S.blk 5).cell (Term.get_sub _))) (wd (does_lenF zp rfl (S.onZ 2)) (wd (xn rfl rfl) (zd ?_))))))))
  refine zF rfl (fun hc26=>?_) (fun hc26=>?_)
  rotate_left
  ·replace H:=if_f hc26 H
   refine xG ?_
   obtain rfl:=zbt H
   exact ⟨rfl,df,(x19_0,x19_1),e19,s24,m25,q19_8,S⟩
  replace H:=if_t hc26 H
  refine zu (zb ?_)
  refine zK (zb (za (wd (ze zw rfl (o':=4) rfl) (wd (zl zr rfl ((S.blk 5).cell (Term.get_sub _))) (wd (zi q19_8) ?_)))))
  obtain ⟨hi27,H⟩ := zU H
  refine wd (does_indexF zp rfl rfl (S.onZ 2) (zC hi27).1 (zC hi27).2) ?_
  obtain ⟨s28,hc29,S⟩ := S.viewTerm 2 (zC hi27)
  replace S:=S
  refine wd (ldC rfl hc29) ?_
  refine zO xd zbp fun b31 w30 hw30=>?_
  replace S:=S.new hw30
  refine wsT rfl rfl (S.blk 0) fun w32 B hw32 zw32=>?_
  replace S:=S.store 0 B hw32
  refine zd (zb (za (wd (ldT rfl (S.blk 6)) (wd (zi q19_8) ?_))))
  obtain ⟨r33,er33,H⟩ := zq H
  obtain ⟨_,_,T,bk⟩ := S.calln 0 ((.z 3 rfl .nil))
  refine zB (zx zat) zbp (zaE (a0:=a0) T er33) ?_
  rintro _ w34 ⟨rfl,S2⟩
  replace S:=bk _ _ _ _ S2 rfl
  refine wd (xV rfl) (zd (zb (zb (za (wd (zT rfl) (wd (zT rfl) (wd (yf rfl rfl) ?_)))))))
  refine wd (zy rfl) ?_
  refine wg (fun hg=>ldT rfl (S.blk 0)) ?_
  refine wg (fun hg=>zT rfl) ?_
  obtain ⟨r36,er36,H⟩ := zq H
  refine xu (j:=3) (pol:=false) rfl rfl rfl zbp (fun hg=>zJ un (zQ (zn hg) (zQ (zn hg) rfl))) zbp (fun hg=>(have ⟨M,SS⟩ := S.lend ((.z 0 rfl .nil)); quiet (jk (a0:=(kd a0 x19_0)) SS (if_t (by simpa using hg) er36)) (fun v w' h=>⟨h.1,_,_,h.2⟩))) fun w37 hw37=>?_
  replace S:=S.ext hw37
  refine wg (fun hg=>xc (zn hg)) (wd (xq rfl (fun hp=>(zn (xe hp)))) (zd ?_))
  refine zF rfl (fun hc38=>?_) (fun hc38=>?_)
  ·replace H:=if_t hc38 H
   refine zb ?_
   obtain ⟨r39,er39,H⟩ := zq H
   let LT1:List OA:=[oB b31 zj (tmC (kd a0 x19_0) s28),oS zj 5 Term.C SlV.nil ([]:List Term),oS zj 5 Term.C s24 m25,oB b16 zj (tmC x19_1 s24),oB b6 zj (Term.C tmZ),oB b4 zj (tmC a2 s_2),oB b2 zj (tmC a0 s_0)]
   let LT3:List OA:=[zf s28 ((kd a0 x19_0).sub),bigA xj ([]:List Term) ([]:List PTerm),bigA xj m25 x19_1.sub,zf s_0 a0.sub,zf s_2 a2.sub]
   refine x8 5 ⟨fun _ _=>True,fun _ _ _=>True,fun i v _=>match i with
    | 0=>v=Value.pointer (some ⟨b16,4,none⟩)
    | 1=>v=s24.v
    | 2=>v=Value.agg (tmC (kd a0 x19_0) s28).toArray
    | _=>True⟩ (fun L g v=>bif L 4 then (∃ (s42:SlV) (s45:SlV),(L 3=true→g 51=Value.agg (tmC r39 s42).toArray)∧(L 4=true→g 52=s45.v)∧St A N w v (oS zj 5 Term.C s45 ([(tmT r39 s42)]) :: LT1) (zf s42 r39.sub :: LT3)) else bif L 3 then (∃ (s42:SlV),(L 3=true→g 51=Value.agg (tmC r39 s42).toArray)∧St A N w v LT1 (zf s42 r39.sub :: LT3)) else (St A N w v LT1 LT3)) hmix zbs (fun _ _ _ _ _ _ _ hv=>hv) (fun g=>S.ext (Ext.drawn _)) ⟨?_,?_,?_,?_,?_,trivial⟩ ?_
   ·rintro L g v hL hcl hclo hT 
    cases hl4:L 4 with
    | true =>
     replace hT : ∃ (s42:SlV) (s45:SlV),(L 3=true→g 51=Value.agg (tmC r39 s42).toArray)∧(L 4=true→g 52=s45.v)∧St A N w v (oS zj 5 Term.C s45 ([(tmT r39 s42)]) :: LT1) (zf s42 r39.sub :: LT3):=by simp only [hl4,cd2] at hT ⊢; exact hT
     obtain ⟨s42,s45,he3,he4,S⟩ := hT
     refine wd (ze zw rfl (o':=4) rfl) ?_
     have hT2 : ∃ (s42':SlV) (s45':SlV),((plus L 0) 3=true→(upd g 48 (Value.pointer (some ⟨b16,4,none⟩))) 51=Value.agg (tmC r39 s42').toArray)∧((plus L 0) 4=true→(upd g 48 (Value.pointer (some ⟨b16,4,none⟩))) 52=s45'.v)∧St A N w v (oS zj 5 Term.C s45' ([(tmT r39 s42')]) :: LT1) (zf s42' r39.sub :: LT3):=⟨s42,s45,kpU he3,kpU he4,S⟩
     exact w4 rfl (by simp only [pN L 0 3,pN L 0 4,hl4,cd2] at hT2 ⊢; exact hT2)
    | false =>
     cases hl3:L 3 with
     | true =>
      replace hT : ∃ (s42:SlV),(L 3=true→g 51=Value.agg (tmC r39 s42).toArray)∧St A N w v LT1 (zf s42 r39.sub :: LT3):=by simp only [hl3,hl4,cd2] at hT ⊢; exact hT
      obtain ⟨s42,he3,S⟩ := hT
      refine wd (ze zw rfl (o':=4) rfl) ?_
      have hT2 : ∃ (s42':SlV),((plus L 0) 3=true→(upd g 48 (Value.pointer (some ⟨b16,4,none⟩))) 51=Value.agg (tmC r39 s42').toArray)∧St A N w v LT1 (zf s42' r39.sub :: LT3):=⟨s42,kpU he3,S⟩
      exact w4 rfl (by simp only [pN L 0 3,pN L 0 4,hl3,hl4,cd2] at hT2 ⊢; exact hT2)
     | false =>
      simp only [hl3,hl4,cd2] at hT
      replace S:=hT
      refine wd (ze zw rfl (o':=4) rfl) ?_
      exact w4 rfl (by simp only [pN L 0 3,pN L 0 4,hl3,hl4,cd2]; exact S)
   ·rintro L g v hL hcl hclo hT hv0
    cases hl4:L 4 with
    | true =>
     replace hT : ∃ (s42:SlV) (s45:SlV),(L 3=true→g 51=Value.agg (tmC r39 s42).toArray)∧(L 4=true→g 52=s45.v)∧St A N w v (oS zj 5 Term.C s45 ([(tmT r39 s42)]) :: LT1) (zf s42 r39.sub :: LT3):=by simp only [hl4,cd2] at hT ⊢; exact hT
     obtain ⟨s42,s45,he3,he4,S⟩ := hT
     refine wd (zl zr hv0 ((S.blk 4).cell (Term.get_sub _))) ?_
     have hT2 : ∃ (s42':SlV) (s45':SlV),((plus L 1) 3=true→(upd g 49 (s24.v)) 51=Value.agg (tmC r39 s42').toArray)∧((plus L 1) 4=true→(upd g 49 (s24.v)) 52=s45'.v)∧St A N w v (oS zj 5 Term.C s45' ([(tmT r39 s42')]) :: LT1) (zf s42' r39.sub :: LT3):=⟨s42,s45,kpU he3,kpU he4,S⟩
     exact w4 rfl (by simp only [pN L 1 3,pN L 1 4,hl4,cd2] at hT2 ⊢; exact hT2)
    | false =>
     cases hl3:L 3 with
     | true =>
      replace hT : ∃ (s42:SlV),(L 3=true→g 51=Value.agg (tmC r39 s42).toArray)∧St A N w v LT1 (zf s42 r39.sub :: LT3):=by simp only [hl3,hl4,cd2] at hT ⊢; exact hT
      obtain ⟨s42,he3,S⟩ := hT
      refine wd (zl zr hv0 ((S.blk 3).cell (Term.get_sub _))) ?_
      have hT2 : ∃ (s42':SlV),((plus L 1) 3=true→(upd g 49 (s24.v)) 51=Value.agg (tmC r39 s42').toArray)∧St A N w v LT1 (zf s42' r39.sub :: LT3):=⟨s42,kpU he3,S⟩
      exact w4 rfl (by simp only [pN L 1 3,pN L 1 4,hl3,hl4,cd2] at hT2 ⊢; exact hT2)
     | false =>
      simp only [hl3,hl4,cd2] at hT
      replace S:=hT
      refine wd (zl zr hv0 ((S.blk 3).cell (Term.get_sub _))) ?_
      exact w4 rfl (by simp only [pN L 1 3,pN L 1 4,hl3,hl4,cd2]; exact S)
   ·rintro L g v hL hcl hclo hT 
    have hl3:=clF hL (hclo 3 2 · zbs)
    have hl4:=clF hL (hclo 4 2 · zbs)
    simp only [hl3,hl4,cd2] at hT
    replace S:=hT
    refine wd (ldT rfl (S.blk 0)) ?_
    exact w4 rfl (by simp only [pN L 2 3,pN L 2 4,hl3,hl4,cd2]; exact S)
   ·rintro L g v hL hcl hclo hT hv2
    have hl3:L 3=false:=hL
    have hl4:=clF hL (hclo 4 3 · zbs)
    simp only [hl3,hl4,cd2] at hT
    replace S:=hT
    obtain ⟨_,_,T,bk⟩ := S.sub [0] [] LT1
    refine zB (zJ yX (zQ hv2 rfl)) zbp (vV (a0:=(kd a0 x19_0)) T er39) ?_
    rintro _ w47 ⟨s42,rfl,S2⟩
    replace S:=bk _ _ _ _ _ S2 rfl rfl
    have hT2 : ∃ (s42':SlV),((plus L 3) 3=true→(upd g 51 (Value.agg (tmC r39 s42).toArray)) 51=Value.agg (tmC r39 s42').toArray)∧St A N w w47 LT1 (zf s42' r39.sub :: LT3):=⟨s42,fun _=>upd_same _ _ _,S⟩
    exact w4 trivial (by simp only [pN L 3 4,xB (L:=L) (i:=3),hl4,cd2] at hT2 ⊢; exact hT2)
   ·rintro L g v hL hcl hclo hT hv3
    have hl3:L 3=true:=hcl 3 zbs
    have hl4:L 4=false:=hL
    replace hT : ∃ (s42:SlV),(L 3=true→g 51=Value.agg (tmC r39 s42).toArray)∧St A N w v LT1 (zf s42 r39.sub :: LT3):=by simp only [hl3,hl4,cd2] at hT ⊢; exact hT
    obtain ⟨s42,he3,S⟩ := hT
    refine yb (C:=Term.C) (l:=[(tmT r39 s42)]) (vs:=[.agg (tmC r39 s42).toArray]) zp yN.zero (xR (he3 (hcl 3 zbs)) rfl) rfl (fun a _=>Term.len a) zbp rfl zbp fun b50 w49 s45 hBw49 hw49=>?_
    replace S:=S.lit hBw49 hw49 zbr
    have hT2 : ∃ (s42':SlV) (s45':SlV),((plus L 4) 3=true→(upd g 52 (s45.v)) 51=Value.agg (tmC r39 s42').toArray)∧((plus L 4) 4=true→(upd g 52 (s45.v)) 52=s45'.v)∧St A N w w49 (oS zj 5 Term.C s45' ([(tmT r39 s42')]) :: LT1) (zf s42' r39.sub :: LT3):=⟨s42,s45,kpU he3,fun _=>upd_same _ _ _,S⟩
    exact w4 trivial (by simp only [pN L 4 3,xB (L:=L) (i:=4),cd2] at hT2 ⊢; exact hT2)
   rintro L g w52 hLm hT hv53_0 hv53_1 hv53_2 _ _
   have hLt : ∀ j,j < 5→L j=true:=fun j hj=>by rw [hLm]; exact decide_eq_true hj
   replace hT : ∃ (s42:SlV) (s45:SlV),(L 3=true→g 51=Value.agg (tmC r39 s42).toArray)∧(L 4=true→g 52=s45.v)∧St A N w w52 (oS zj 5 Term.C s45 ([(tmT r39 s42)]) :: LT1) (zf s42 r39.sub :: LT3):=by simp only [hLt 4 zbp,cond_true] at hT ⊢; exact hT
   obtain ⟨s42,s45,he3,he4,S⟩ := hT
   have hv53_3:=he3 (hLt 3 zbp)
   have hv53_4:=he4 (hLt 4 zbp)
   replace S:=S
   obtain ⟨ha56,H⟩ := zU H
   have ha56:=of_decide_eq_true ha56
   have hmha56:((m25).length + ([(tmT r39 s42)]).length) * 72 ≤ 140737488355328:=by rw [S.lenTm 3 (l:=x19_1.sub)]; exact ha56
   refine uP (C:=Term.C) zp yN hv53_1 hv53_4 (S.sl 3) (S.rdO 0) zbr (fun a _=>Term.one a) hmha56 zbq zbp fun s55 w54 O hw54 gw54=>?_
   replace S:=S.push 3 O (by first | (simp; done) | (simp; omega) | (simp only [List.length_append]; omega)) hw54 gw54
   clear O
   replace S:=S.snocTm (x:=r39) 3 0
   refine wd (ze zw rfl (o':=4) rfl) ?_
   refine xY zr rfl rfl (S.blk 4) (by rw [Term.len]; decide) (SlV.one _ _ rfl) (Term.set_sub _ _) fun w57 B hw57 zw57=>?_
   replace S:=S.store 4 B hw57
   refine zd ?_
   refine xG (za (wd (zi q19_8) (wd (xI rfl rfl) (wd (zh rfl) (zd ?_)))))
   replace S:=S.arr [4,1,0,5,6,7] [3,0,5,6]
   obtain rfl:=zbt H
   exact ⟨rfl,df,(m19,(IntKind.i64.wrap (x19_0 + 1),(⟨x19_1.kind,x19_1.name,x19_1.other,x19_1.form,x19_1.sub ++ [r39]⟩ : PTerm))),⟨e19,s55,m25 ++ [(tmT r39 s42)],rfl,S⟩,by dsimp only; omega⟩
  replace H:=if_f hc38 H
  refine zu (zb (zb (za (wd (zT rfl) (wd (vi rfl rfl) (wd (zy rfl) ?_))))))
  refine wg (fun hg=>ldT rfl (S.blk 5)) ?_
  refine wg (fun hg=>zT rfl) ?_
  obtain ⟨r58,er58,H⟩ := zq H
  refine xu (j:=2) (pol:=true) rfl rfl rfl zbp (fun hg=>zJ un (zQ (zn hg) (zQ (zn hg) rfl))) zbp (fun hg=>(have ⟨M,SS⟩ := S.lend ((.z 4 rfl .nil)); quiet (jk (a0:=a2) SS (if_t (by simpa using hg) er58)) (fun v w' h=>⟨h.1,_,_,h.2⟩))) fun w59 hw59=>?_
  replace S:=S.ext hw59
  refine wd (zW rfl (fun hp=>(zn (xe hp)))) (zd ?_)
  obtain ⟨o60,e60,Ho60⟩ := zq H
  replace H:=e60; clear e60
  refine xr ([11] ++ rg 62 20) (fun fr W => ∃ s61:SlV,∃ s62:SlV,∃ m63:List Term,St A N w W [oB b31 zj (tmC o60.1 s61),oS zj 5 Term.C SlV.nil ([]:List Term),oS zj 5 Term.C s62 m63,oB b16 zj (tmC o60.2 s62),oB b6 zj (Term.C tmZ),oB b4 zj (tmC a2 s_2),oB b2 zj (tmC a0 s_0)] [zf s61 o60.1.sub,bigA xj ([]:List Term) ([]:List PTerm),bigA xj m63 o60.2.sub,zf s_0 a0.sub,zf s_2 a2.sub]) ?_ ?_
  ·refine zF rfl (fun hc64=>?_) (fun hc64=>?_)
   ·replace H:=if_t hc64 H
    refine zb (za (wd (ldT rfl (S.blk 0)) (wd (ldT rfl (S.blk 5)) (wd (zT rfl) ?_))))
    obtain ⟨r65,er65,H⟩ := zq H
    obtain ⟨_,_,T,bk⟩ := S.calln 0 ((.z 0 rfl (.z 4 rfl .nil)))
    refine zB (zx ca_ref12_fresh) zbp (ref12_fresh_st (a0:=(kd a0 x19_0)) (a1:=a2) T er65) ?_
    rintro _ w66 ⟨rfl,S2⟩
    replace S:=bk _ _ _ _ S2 rfl
    refine wd (xV rfl) (zd (zb (za (wd (ldT rfl (S.blk 0)) (wd (zT rfl) (wd (zT rfl) ?_))))))
    refine wd (Does.to (v' := .agg (Term.C (tmM 1 r65 SlV.nil)).toArray) (xa (vs:=[(0,.int .i64 1),(1,.string r65)]) xW (xR rfl (xR rfl rfl)) (Bld.one rfl rfl (by rw [Term.len]; decide) (Term.set_kind _ _) (Bld.one rfl rfl (by rw [Term.len]; decide) (Term.set_name _ _) Bld.nil))) rfl) ?_
    replace S:=S.nilTm
    obtain ⟨r68,er68,H⟩ := zq H
    obtain ⟨_,_,T,bk⟩ := S.sub [1,0] [] [oB b31 zj (tmC (kd a0 x19_0) s28),oS zj 5 Term.C SlV.nil ([]:List Term),oS zj 5 Term.C s24 m25,oB b16 zj (tmC x19_1 s24),oB b6 zj (Term.C tmZ),oB b4 zj (tmC a2 s_2),oB b2 zj (tmC a0 s_0)]
    refine zB (zx ca_ref12_put) zbp (zdY (a0:=(kd a0 x19_0)) (a2:=(ptM 1 r65 [])) T er68) ?_
    rintro _ w69 ⟨s71,rfl,S2⟩
    replace S:=bk _ _ _ _ _ S2 rfl rfl
    refine wsT rfl rfl (S.blk 0) fun w72 B hw72 zw72=>?_
    replace S:=S.store 0 B hw72
    refine zd (zb (za (wd (ze zV rfl (o':=0) rfl) (wd (zl zM rfl ((S.blk 6).cell (Term.get_kind _))) (wd (zL rfl rfl) (wd (zy rfl) ?_))))))
    refine wg (fun hg=>zi q19_8) ?_
    refine wg (fun hg=>zL (zn hg) rfl) (wd (zW rfl (fun hp=>(zn (xe hp)))) (zd ?_))
    refine zF rfl (fun hc73=>?_) (fun hc73=>?_)
    ·replace H:=if_t hc73 H
     refine za (wd (zT rfl) (wd (ze yr rfl (o':=2) rfl) ?_))
     refine xY xf rfl rfl (S.blk 3) (by rw [Term.len]; decide) rfl (Term.set_other _ _) fun w74 B hw74 zw74=>?_
     replace S:=S.store 3 B hw74
     refine zd ?_
     replace S:=S.arr [1,2,3,0,4,5,6] [0,3,4,5,6]
     obtain rfl:=zbt H
     exact ⟨rfl,df,s71,s24,m25,S⟩
    ·replace H:=if_f hc73 H
     refine za (wd (zT rfl) (wd (ze xz rfl (o':=1) rfl) ?_))
     refine xY xf rfl rfl (S.blk 3) (by rw [Term.len]; decide) rfl (Term.set_name _ _) fun w75 B hw75 zw75=>?_
     replace S:=S.store 3 B hw75
     refine zd ?_
     replace S:=S.arr [1,2,3,0,4,5,6] [0,3,4,5,6]
     obtain rfl:=zbt H
     exact ⟨rfl,df,s71,s24,m25,S⟩
   ·replace H:=if_f hc64 H
    refine zu ?_
    obtain rfl:=zbt H
    exact ⟨rfl,df,s28,s24,m25,S⟩
  rintro g76 u77 ⟨s61,s62,m63,S⟩
  have H:=Ho60
  obtain ⟨r78,er78,H⟩ := zq H
  let LT2:List OA:=[oB b31 zj (tmC o60.1 s61),oS zj 5 Term.C SlV.nil ([]:List Term),oS zj 5 Term.C s62 m63,oB b16 zj (tmC o60.2 s62),oB b6 zj (Term.C tmZ),oB b4 zj (tmC a2 s_2),oB b2 zj (tmC a0 s_0)]
  let LT4:List OA:=[zf s61 o60.1.sub,bigA xj ([]:List Term) ([]:List PTerm),bigA xj m63 o60.2.sub,zf s_0 a0.sub,zf s_2 a2.sub]
  refine x8 7 ⟨fun _ _=>True,fun _ _ _=>True,fun i v _=>match i with
   | 0=>v=Value.pointer (some ⟨b16,4,none⟩)
   | 1=>v=s62.v
   | 2=>v=Value.agg (tmC o60.1 s61).toArray
   | 3=>v=Value.string a1
   | 4=>v=Value.agg (tmC a2 s_2).toArray
   | _=>True⟩ (fun L g v=>bif L 6 then (∃ (s81:SlV) (s84:SlV),(L 5=true→g 87=Value.agg (tmC r78 s81).toArray)∧(L 6=true→g 88=s84.v)∧St A N w v (oS zj 5 Term.C s84 ([(tmT r78 s81)]) :: LT2) (zf s81 r78.sub :: LT4)) else bif L 5 then (∃ (s81:SlV),(L 5=true→g 87=Value.agg (tmC r78 s81).toArray)∧St A N w v LT2 (zf s81 r78.sub :: LT4)) else (St A N w v LT2 LT4)) hmix zbs (fun _ _ _ _ _ _ _ hv=>hv) (fun g=>S.ext (Ext.drawn _)) ⟨?_,?_,?_,?_,?_,?_,?_,trivial⟩ ?_
  ·rintro L g v hL hcl hclo hT 
   cases hl6:L 6 with
   | true =>
    replace hT : ∃ (s81:SlV) (s84:SlV),(L 5=true→g 87=Value.agg (tmC r78 s81).toArray)∧(L 6=true→g 88=s84.v)∧St A N w v (oS zj 5 Term.C s84 ([(tmT r78 s81)]) :: LT2) (zf s81 r78.sub :: LT4):=by simp only [hl6,cd2] at hT ⊢; exact hT
    obtain ⟨s81,s84,he5,he6,S⟩ := hT
    refine wd (ze zw rfl (o':=4) rfl) ?_
    have hT2 : ∃ (s81':SlV) (s84':SlV),((plus L 0) 5=true→(upd g 82 (Value.pointer (some ⟨b16,4,none⟩))) 87=Value.agg (tmC r78 s81').toArray)∧((plus L 0) 6=true→(upd g 82 (Value.pointer (some ⟨b16,4,none⟩))) 88=s84'.v)∧St A N w v (oS zj 5 Term.C s84' ([(tmT r78 s81')]) :: LT2) (zf s81' r78.sub :: LT4):=⟨s81,s84,kpU he5,kpU he6,S⟩
    exact w4 rfl (by simp only [pN L 0 5,pN L 0 6,hl6,cd2] at hT2 ⊢; exact hT2)
   | false =>
    cases hl5:L 5 with
    | true =>
     replace hT : ∃ (s81:SlV),(L 5=true→g 87=Value.agg (tmC r78 s81).toArray)∧St A N w v LT2 (zf s81 r78.sub :: LT4):=by simp only [hl5,hl6,cd2] at hT ⊢; exact hT
     obtain ⟨s81,he5,S⟩ := hT
     refine wd (ze zw rfl (o':=4) rfl) ?_
     have hT2 : ∃ (s81':SlV),((plus L 0) 5=true→(upd g 82 (Value.pointer (some ⟨b16,4,none⟩))) 87=Value.agg (tmC r78 s81').toArray)∧St A N w v LT2 (zf s81' r78.sub :: LT4):=⟨s81,kpU he5,S⟩
     exact w4 rfl (by simp only [pN L 0 5,pN L 0 6,hl5,hl6,cd2] at hT2 ⊢; exact hT2)
    | false =>
     simp only [hl5,hl6,cd2] at hT
     replace S:=hT
     refine wd (ze zw rfl (o':=4) rfl) ?_
     exact w4 rfl (by simp only [pN L 0 5,pN L 0 6,hl5,hl6,cd2]; exact S)
  ·rintro L g v hL hcl hclo hT hv0
   cases hl6:L 6 with
   | true =>
    replace hT : ∃ (s81:SlV) (s84:SlV),(L 5=true→g 87=Value.agg (tmC r78 s81).toArray)∧(L 6=true→g 88=s84.v)∧St A N w v (oS zj 5 Term.C s84 ([(tmT r78 s81)]) :: LT2) (zf s81 r78.sub :: LT4):=by simp only [hl6,cd2] at hT ⊢; exact hT
    obtain ⟨s81,s84,he5,he6,S⟩ := hT
    refine wd (zl zr hv0 ((S.blk 4).cell (Term.get_sub _))) ?_
    have hT2 : ∃ (s81':SlV) (s84':SlV),((plus L 1) 5=true→(upd g 83 (s62.v)) 87=Value.agg (tmC r78 s81').toArray)∧((plus L 1) 6=true→(upd g 83 (s62.v)) 88=s84'.v)∧St A N w v (oS zj 5 Term.C s84' ([(tmT r78 s81')]) :: LT2) (zf s81' r78.sub :: LT4):=⟨s81,s84,kpU he5,kpU he6,S⟩
    exact w4 rfl (by simp only [pN L 1 5,pN L 1 6,hl6,cd2] at hT2 ⊢; exact hT2)
   | false =>
    cases hl5:L 5 with
    | true =>
     replace hT : ∃ (s81:SlV),(L 5=true→g 87=Value.agg (tmC r78 s81).toArray)∧St A N w v LT2 (zf s81 r78.sub :: LT4):=by simp only [hl5,hl6,cd2] at hT ⊢; exact hT
     obtain ⟨s81,he5,S⟩ := hT
     refine wd (zl zr hv0 ((S.blk 3).cell (Term.get_sub _))) ?_
     have hT2 : ∃ (s81':SlV),((plus L 1) 5=true→(upd g 83 (s62.v)) 87=Value.agg (tmC r78 s81').toArray)∧St A N w v LT2 (zf s81' r78.sub :: LT4):=⟨s81,kpU he5,S⟩
     exact w4 rfl (by simp only [pN L 1 5,pN L 1 6,hl5,hl6,cd2] at hT2 ⊢; exact hT2)
    | false =>
     simp only [hl5,hl6,cd2] at hT
     replace S:=hT
     refine wd (zl zr hv0 ((S.blk 3).cell (Term.get_sub _))) ?_
     exact w4 rfl (by simp only [pN L 1 5,pN L 1 6,hl5,hl6,cd2]; exact S)
  ·rintro L g v hL hcl hclo hT 
   have hl5:=clF hL (hclo 5 2 · zbs)
   have hl6:=clF hL (hclo 6 2 · zbs)
   simp only [hl5,hl6,cd2] at hT
   replace S:=hT
   refine wd (ldT rfl (S.blk 0)) ?_
   exact w4 rfl (by simp only [pN L 2 5,pN L 2 6,hl5,hl6,cd2]; exact S)
  ·rintro L g v hL hcl hclo hT 
   have hl5:=clF hL (hclo 5 3 · zbs)
   have hl6:=clF hL (hclo 6 3 · zbs)
   simp only [hl5,hl6,cd2] at hT
   replace S:=hT
   refine wd (zT rfl) ?_
   exact w4 rfl (by simp only [pN L 3 5,pN L 3 6,hl5,hl6,cd2]; exact S)
  ·rintro L g v hL hcl hclo hT 
   have hl5:=clF hL (hclo 5 4 · zbs)
   have hl6:=clF hL (hclo 6 4 · zbs)
   simp only [hl5,hl6,cd2] at hT
   replace S:=hT
   refine wd (ldT rfl (S.blk 5)) ?_
   exact w4 rfl (by simp only [pN L 4 5,pN L 4 6,hl5,hl6,cd2]; exact S)
  ·rintro L g v hL hcl hclo hT hv2 hv3 hv4
   have hl5:L 5=false:=hL
   have hl6:=clF hL (hclo 6 5 · zbs)
   simp only [hl5,hl6,cd2] at hT
   replace S:=hT
   obtain ⟨_,_,T,bk⟩ := S.sub [0,4] [] LT2
   refine zB (zJ ca_ref12_put (zQ hv2 (zQ hv3 (zQ hv4 rfl)))) zbp (zdY (a0:=o60.1) (a2:=a2) T er78) ?_
   rintro _ w86 ⟨s81,rfl,S2⟩
   replace S:=bk _ _ _ _ _ S2 rfl rfl
   have hT2 : ∃ (s81':SlV),((plus L 5) 5=true→(upd g 87 (Value.agg (tmC r78 s81).toArray)) 87=Value.agg (tmC r78 s81').toArray)∧St A N w w86 LT2 (zf s81' r78.sub :: LT4):=⟨s81,fun _=>upd_same _ _ _,S⟩
   exact w4 trivial (by simp only [pN L 5 6,xB (L:=L) (i:=5),hl6,cd2] at hT2 ⊢; exact hT2)
  ·rintro L g v hL hcl hclo hT hv5
   have hl5:L 5=true:=hcl 5 zbs
   have hl6:L 6=false:=hL
   replace hT : ∃ (s81:SlV),(L 5=true→g 87=Value.agg (tmC r78 s81).toArray)∧St A N w v LT2 (zf s81 r78.sub :: LT4):=by simp only [hl5,hl6,cd2] at hT ⊢; exact hT
   obtain ⟨s81,he5,S⟩ := hT
   refine yb (C:=Term.C) (l:=[(tmT r78 s81)]) (vs:=[.agg (tmC r78 s81).toArray]) zp yN.zero (xR (he5 (hcl 5 zbs)) rfl) rfl (fun a _=>Term.len a) zbp rfl zbp fun b89 w88 s84 hBw88 hw88=>?_
   replace S:=S.lit hBw88 hw88 zbr
   have hT2 : ∃ (s81':SlV) (s84':SlV),((plus L 6) 5=true→(upd g 88 (s84.v)) 87=Value.agg (tmC r78 s81').toArray)∧((plus L 6) 6=true→(upd g 88 (s84.v)) 88=s84'.v)∧St A N w w88 (oS zj 5 Term.C s84' ([(tmT r78 s81')]) :: LT2) (zf s81' r78.sub :: LT4):=⟨s81,s84,kpU he5,fun _=>upd_same _ _ _,S⟩
   exact w4 trivial (by simp only [pN L 6 5,xB (L:=L) (i:=6),cd2] at hT2 ⊢; exact hT2)
  rintro L g w91 hLm hT hv92_0 hv92_1 hv92_2 hv92_3 hv92_4 _ _
  have hLt : ∀ j,j < 7→L j=true:=fun j hj=>by rw [hLm]; exact decide_eq_true hj
  replace hT : ∃ (s81:SlV) (s84:SlV),(L 5=true→g 87=Value.agg (tmC r78 s81).toArray)∧(L 6=true→g 88=s84.v)∧St A N w w91 (oS zj 5 Term.C s84 ([(tmT r78 s81)]) :: LT2) (zf s81 r78.sub :: LT4):=by simp only [hLt 6 zbp,cond_true] at hT ⊢; exact hT
  obtain ⟨s81,s84,he5,he6,S⟩ := hT
  have hv92_5:=he5 (hLt 5 zbp)
  have hv92_6:=he6 (hLt 6 zbp)
  replace S:=S
  obtain ⟨ha95,H⟩ := zU H
  have ha95:=of_decide_eq_true ha95
  have hmha95:((m63).length + ([(tmT r78 s81)]).length) * 72 ≤ 140737488355328:=by rw [S.lenTm 3 (l:=o60.2.sub)]; exact ha95
  refine uP (C:=Term.C) zp yN hv92_1 hv92_6 (S.sl 3) (S.rdO 0) zbr (fun a _=>Term.one a) hmha95 zbq zbp fun s94 w93 O hw93 gw93=>?_
  replace S:=S.push 3 O (by first | (simp; done) | (simp; omega) | (simp only [List.length_append]; omega)) hw93 gw93
  clear O
  replace S:=S.snocTm (x:=r78) 3 0
  refine wd (ze zw rfl (o':=4) rfl) ?_
  refine xY zr rfl rfl (S.blk 4) (by rw [Term.len]; decide) (SlV.one _ _ rfl) (Term.set_sub _ _) fun w96 B hw96 zw96=>?_
  replace S:=S.store 4 B hw96
  refine zd (za (wd (zi q19_8) (wd (xI rfl rfl) (wd (zh rfl) (zd ?_)))))
  replace S:=S.arr [4,1,0,5,6,7] [3,0,5,6]
  obtain rfl:=zbt H
  exact ⟨rfl,df,(m19,(IntKind.i64.wrap (x19_0 + 1),(⟨o60.2.kind,o60.2.name,o60.2.other,o60.2.form,o60.2.sub ++ [r78]⟩ : PTerm))),⟨e19,s94,m63 ++ [(tmT r78 s81)],rfl,S⟩,by dsimp only; omega⟩
 rintro g97 u98 ⟨s19,rfl,s20,m21,p19_8,S⟩
 have H:=Ho19
 dsimp only [aft] at H
 refine zb (za ?_)
 replace S:=S.frzTm 1 1
 refine wd (ldT rfl (S.blk 1)) ?_
 refine wsT rfl rfl (S.blk 2) fun w99 B hw99 zw99=>?_
 replace S:=S.store 2 B hw99
 refine zd (zt ?_)
 refine ⟨_,(zP (rtT rfl (S.blk 0))),?_⟩
 replace S:=S.arr [] [0]
 obtain rfl:=zbt H
 exact ⟨s20,rfl,S⟩
theorem ref12_put_st {a0:PTerm} {s_0:SlV} {a1:ByteArray} {a2:PTerm} {s_2:SlV} (S:St A N w w [] [zf s_0 a0.sub,zf s_2 a2.sub]) {k:Nat} {r:PTerm} (H:zdw.f k a0 a1 a2=some r) :
  Calls PP kD #[.agg (tmC a0 s_0).toArray,.string a1,.agg (tmC a2 s_2).toArray] w <| Rt fun v w'=>(∃ so0:SlV,v = .agg (tmC r so0).toArray∧St A N w w' [] [zf so0 r.sub]):=by
 have main : ∀ (k:Nat) {A:Nat→Prop} {N:Oth} {w:World} {a0:PTerm} {s_0:SlV} {a1:ByteArray} {a2:PTerm} {s_2:SlV} (S:St A N w w [] [zf s_0 a0.sub,zf s_2 a2.sub]) {r:PTerm} (H:zdw.f k a0 a1 a2=some r),Calls PP kD #[.agg (tmC a0 s_0).toArray,.string a1,.agg (tmC a2 s_2).toArray] w <| Rt fun v w'=>(∃ so0:SlV,v = .agg (tmC r so0).toArray∧St A N w w' [] [zf so0 r.sub]):=by
  intro k
  induction k with
  | zero=>intro A N w a0 s_0 a1 a2 s_2 S r H; cases H
  | succ k ih=>intro A N w a0 s_0 a1 a2 s_2 S r H; exact ref12_put_gst ih S H
 exact main k S H
theorem ref12_grown_gst {zev:PTerm→ByteArray→Int→Int→Option (Int × Int)} (zdX : ∀ {A:Nat→Prop} {N:Oth} {w:World} {a0:PTerm} {s_0:SlV} {a1:ByteArray} {a2:Int} {a3:Int} (S:St A N w w [] [zf s_0 a0.sub]) {r:Int × Int} (H:zev a0 a1 a2 a3=some r),Calls PP jc #[.agg (tmC a0 s_0).toArray,.string a1,.int .i64 a2,.int .i64 a3] w <| Rt fun v w'=>(v = .tuple #[.int .i64 r.1,.int .i64 r.2]∧St A N w w' [] [])) {A:Nat→Prop} {N:Oth} {w:World} {a0:PTerm} {s_0:SlV} {a1:ByteArray} {a2:Int} {a3:Int} (S:St A N w w [] [zf s_0 a0.sub]) {k:Nat} {r:Int × Int} (H:zdx.g zev k a0 a1 a2 a3=some r) :
  Calls PP jc #[.agg (tmC a0 s_0).toArray,.string a1,.int .i64 a2,.int .i64 a3] w <| Rt fun v w'=>(v = .tuple #[.int .i64 r.1,.int .i64 r.2]∧St A N w w' [] []):=by
 unfold zdx.g at H
 refine zA (n:=61) Tryz.func166 rfl rfl zbr (zb (za ?_))
 refine zI rfl zbp fun b2 w1 hw1=>?_
 replace S:=S.new hw1
 refine wd (zh rfl) (wd (zh rfl) (zd (zb (zb (za (wd (ze zV rfl (o':=0) rfl) (wd (zl zM rfl ((S.blk 0).cell (Term.get_kind _))) ?_)))))))
 refine wd (zL rfl rfl) (zd ?_)
 refine zF rfl (fun hc3=>?_) (fun hc3=>?_)
 ·replace H:=if_t hc3 H
  refine zb (zb (za (wd (ze xz rfl (o':=1) rfl) (wd (zl xf rfl ((S.blk 0).cell (Term.get_name _))) (wd (zT rfl) (wd (yf rfl rfl) (zd ?_)))))))
  refine zF rfl (fun hc4=>?_) (fun hc4=>?_)
  ·replace H:=if_t hc4 H
   refine zb (za (wd (zi rfl) (wd (zi rfl) (wd (xI rfl rfl) (wd (zbb rfl rfl) (wd (zh rfl) ?_))))))
   refine wd (zh rfl) (zd (zt ?_))
   refine ⟨_,(xi (zg rfl) (zg rfl)),?_⟩
   replace S:=S.arr [] []
   obtain rfl:=zbt H
   exact ⟨rfl,S⟩
  replace H:=if_f hc4 H
  refine zu (zb (za (wd (zi rfl) (wd (zh rfl) (wd (zh rfl) (zd (zt ?_)))))))
  refine ⟨_,(xi (zg rfl) (zg rfl)),?_⟩
  replace S:=S.arr [] []
  obtain rfl:=zbt H
  exact ⟨rfl,S⟩
 replace H:=if_f hc3 H
 refine zu (zb (za (wd (zi rfl) (wd (zh rfl) (wd (zh rfl) (zd (zb (zb (za ?_)))))))))
 refine wd (zh rfl) (zd ?_)
 obtain ⟨o5,e5,Ho5⟩ := zq H
 clear H
 refine xr ([10,11,12,13,14] ++ rg 28 31) (fun fr W => ∃ s5:Int × Int × Int,o5 = .inl s5∧fr 10 = .int .i64 s5.1∧fr 11 = .int .i64 s5.2.1∧fr 12 = .int .i64 s5.2.2∧St A N w W [oB b2 zj (tmC a0 s_0)] [zf s_0 a0.sub]) ?_ ?_
 ·refine zK ?_
  refine xy (α:=Nat × (Int × Int × Int)) ([10,11,12,13,14] ++ rg 28 31) (fun x fr W=>iter (fun s=>zdx.b0 a0 a1 zev a2 a3 s.1 s.2.1 s.2.2) x.1 x.2=some o5∧fr 10 = .int .i64 (x.2.1)∧fr 11 = .int .i64 (x.2.2.1)∧fr 12 = .int .i64 (x.2.2.2)∧St A N w W [oB b2 zj (tmC a0 s_0)] [zf s_0 a0.sub]) (fun x=>x.1) (k,(0,a2,0)) ⟨(by dsimp only; exact e5),rfl,rfl,rfl,S⟩ ?_
  rintro ⟨m5,⟨x5_0,x5_1,x5_2⟩⟩ g5 u5 ⟨e5,q5_10,q5_11,q5_12,S⟩
  try dsimp only at e5
  try dsimp only at S
  try dsimp only at q5_10
  try dsimp only at q5_11
  try dsimp only at q5_12
  obtain ⟨m5,rfl⟩ : ∃ m,m5=m + 1:=⟨m5 - 1,by cases m5 with | zero=>cases e5 | succ m=>rfl⟩
  obtain ⟨q5,H,e5⟩ := uk e5
  unfold zdx.b0 at H
  try dsimp only at H
  refine zb (zb (za (wd (zi q5_12) (wd (ze zw rfl (o':=4) rfl) (wd (zl zr rfl ((S.blk 0).cell (Term.get_sub _))) (wd (does_lenF zp rfl (S.onZ 0)) (wd (xn rfl rfl) (zd ?_))))))))
  refine zF rfl (fun hc6=>?_) (fun hc6=>?_)
  rotate_left
  ·replace H:=if_f hc6 H
   refine xG ?_
   obtain rfl:=zbt H
   exact ⟨rfl,df,(x5_0,x5_1,x5_2),e5,q5_10,q5_11,q5_12,S⟩
  replace H:=if_t hc6 H
  refine zu (zb ?_)
  refine zK (zb (zb (za (wd (ldT rfl (S.blk 0)) (wd (zi q5_12) ?_)))))
  obtain ⟨r7,er7,H⟩ := zq H
  obtain ⟨_,_,T,bk⟩ := S.calln 0 ((.z 0 rfl .nil))
  refine zB (zx zat) zbp (zaE (a0:=a0) T er7) ?_
  rintro _ w8 ⟨rfl,S2⟩
  replace S:=bk _ _ _ _ S2 rfl
  refine wd (zT rfl) (wd (yf rfl rfl) (zd ?_))
  refine zF rfl (fun hc10=>?_) (fun hc10=>?_)
  ·replace H:=if_t hc10 H
   refine xG (za (wd (zi q5_12) (wd (xI rfl rfl) (wd (zh rfl) (zd ?_)))))
   obtain rfl:=zbt H
   exact ⟨rfl,df,(m5,(x5_0,x5_1,IntKind.i64.wrap (x5_2 + 1))),⟨e5,q5_10,q5_11,rfl,S⟩,by dsimp only; omega⟩
  replace H:=if_f hc10 H
  refine zu (zb (za (wd (ze zw rfl (o':=4) rfl) (wd (zl zr rfl ((S.blk 0).cell (Term.get_sub _))) (wd (zi q5_12) ?_)))))
  obtain ⟨hi11,H⟩ := zU H
  refine wd (does_indexF zp rfl rfl (S.onZ 0) (zC hi11).1 (zC hi11).2) ?_
  obtain ⟨s12,hc13,S⟩ := S.viewTerm 0 (zC hi11)
  replace S:=S
  refine wd (ldC rfl hc13) (wd (zT rfl) (wd (zi rfl) (wd (xI rfl rfl) (wd (zi rfl) ?_))))
  obtain ⟨r14,er14,H⟩ := zq H
  obtain ⟨_,_,T,bk⟩ := S.calln 0 ((.z 0 rfl .nil))
  refine zB (zx ca_ref12_grown) zbp (zdX (a0:=(kd a0 x5_2)) T er14) ?_
  rintro _ w15 ⟨rfl,S2⟩
  replace S:=bk _ _ _ _ S2 rfl
  refine wd (z7 rfl) (wd (zo rfl rfl) (wd (zo rfl rfl) (wd (zh rfl) (wd (zh rfl) (zd (zb (za ?_)))))))
  refine wd (zi q5_10) (wd (zi rfl) (wd (xI rfl rfl) (wd (zh rfl) (zd (za ?_)))))
  refine wd (zi q5_11) (wd (zi rfl) (wd (does_max rfl rfl) (wd (zh rfl) (zd (za ?_)))))
  refine wd (zi q5_12) (wd (xI rfl rfl) (wd (zh rfl) (zd ?_)))
  replace S:=S.arr [0] [1]
  obtain rfl:=zbt H
  exact ⟨rfl,df,(m5,(IntKind.i64.wrap (x5_0 + r14.1),(if x5_1 < r14.2 then r14.2 else x5_1),IntKind.i64.wrap (x5_2 + 1))),⟨e5,rfl,rfl,rfl,S⟩,by dsimp only; omega⟩
 rintro g17 u18 ⟨s5,rfl,p5_10,p5_11,p5_12,S⟩
 have H:=Ho5
 dsimp only [aft] at H
 refine zb (za (wd (zi p5_10) (wd (zi p5_11) (wd (zh rfl) (wd (zh rfl) (zd (zt ?_)))))))
 refine ⟨_,(xi (zg rfl) (zg rfl)),?_⟩
 replace S:=S.arr [] []
 obtain rfl:=zbt H
 exact ⟨rfl,S⟩
theorem ref12_grown_st {a0:PTerm} {s_0:SlV} {a1:ByteArray} {a2:Int} {a3:Int} (S:St A N w w [] [zf s_0 a0.sub]) {k:Nat} {r:Int × Int} (H:zdx.f k a0 a1 a2 a3=some r) :
  Calls PP jc #[.agg (tmC a0 s_0).toArray,.string a1,.int .i64 a2,.int .i64 a3] w <| Rt fun v w'=>(v = .tuple #[.int .i64 r.1,.int .i64 r.2]∧St A N w w' [] []):=by
 have main : ∀ (k:Nat) {A:Nat→Prop} {N:Oth} {w:World} {a0:PTerm} {s_0:SlV} {a1:ByteArray} {a2:Int} {a3:Int} (S:St A N w w [] [zf s_0 a0.sub]) {r:Int × Int} (H:zdx.f k a0 a1 a2 a3=some r),Calls PP jc #[.agg (tmC a0 s_0).toArray,.string a1,.int .i64 a2,.int .i64 a3] w <| Rt fun v w'=>(v = .tuple #[.int .i64 r.1,.int .i64 r.2]∧St A N w w' [] []):=by
  intro k
  induction k with
  | zero=>intro A N w a0 s_0 a1 a2 a3 S r H; cases H
  | succ k ih=>intro A N w a0 s_0 a1 a2 a3 S r H; exact ref12_grown_gst ih S H
 exact main k S H
theorem j1 {a0:PTerm} {s_0:SlV} {a1:ByteArray} {a2:PTerm} {s_2:SlV} (S:St A N w w [] [zf s_0 a0.sub,zf s_2 a2.sub]) {k:Nat} {r:PTerm × Int} (H:zdy.f k a0 a1 a2=some r) :
  Calls PP F_ref12_Put #[.agg (tmC a0 s_0).toArray,.string a1,.agg (tmC a2 s_2).toArray] w <| Rt fun v w'=>(∃ so0:SlV,v = .tuple #[.agg (tmC r.1 so0).toArray,.int .i64 r.2]∧St A N w w' [] [zf so0 r.1.sub]):=by
 unfold zdy.f at H
 refine zA (n:=54) Tryz.func129 rfl rfl zbr (zb (za ?_))
 refine zI rfl zbp fun b2 w1 hw1=>?_
 replace S:=S.new hw1
 refine zI rfl zbp fun b4 w3 hw3=>?_
 replace S:=S.new hw3
 refine zO xd zbp fun b6 w5 hw5=>?_
 replace S:=S.new hw5
 refine wd (zh rfl) (zd (zb (za (wd (ldT rfl (S.blk 2)) ?_))))
 obtain ⟨r7,er7,H⟩ := zq H
 obtain ⟨_,_,T,bk⟩ := S.calln 0 ((.z 0 rfl .nil))
 refine zB (zx uJ) zbp (uN (a0:=a0) T er7) ?_
 rintro _ w8 ⟨rfl,S2⟩
 replace S:=bk _ _ _ _ S2 rfl
 refine wd (zh rfl) (zd (zb (zb (za (wd (zi rfl) (wd (zL rfl rfl) (zd ?_)))))))
 replace S:=S.nilTm
 obtain ⟨o10,e10,Ho10⟩ := zq H
 replace H:=e10; clear e10
 let LT1:List OA:=[oB b6 zj (Term.C tmZ),oB b4 zj (tmC a2 s_2),oB b2 zj (tmC a0 s_0)]
 refine xr [8,15,16] (fun fr W=>fr 8 = .int .i64 o10∧St A N w W LT1 [zf SlV.nil ([]),zf s_0 a0.sub,zf s_2 a2.sub]) ?_ ?_
 ·refine zF rfl (fun hc11=>?_) (fun hc11=>?_)
  ·replace H:=if_t hc11 H
   refine za (wd (ldT rfl (S.blk 1)) ?_)
   obtain ⟨r12,er12,H⟩ := zq H
   obtain ⟨_,_,T,bk⟩ := S.calln 0 ((.z 2 rfl .nil))
   refine zB (zx uJ) zbp (uN (a0:=a2) T er12) ?_
   rintro _ w13 ⟨rfl,S2⟩
   replace S:=bk _ _ _ _ S2 rfl
   refine wd (zh rfl) (zd ?_)
   obtain rfl:=zbt H
   exact ⟨rfl,df,rfl,S⟩
  ·replace H:=if_f hc11 H
   refine zu ?_
   obtain rfl:=zbt H
   exact ⟨rfl,df,rfl,S⟩
 rintro g15 u16 ⟨p10_8,S⟩
 have H:=Ho10
 refine zb (zb (za (wd (zi p10_8) (wd (zL rfl rfl) (wd (zy rfl) ?_)))))
 refine wg (fun hg=>zT rfl) ?_
 obtain ⟨r17,er17,H⟩ := zq H
 refine xu (j:=2) (pol:=true) rfl rfl rfl zbp (fun hg=>zJ kv (zQ (zn hg) rfl)) zbp (fun hg=>(have ⟨M,SS⟩ := S.lend ((.nil)); quiet (kx SS (if_t (by simpa using hg) er17)) (fun v w' h=>⟨h.1,_,_,h.2⟩))) fun w18 hw18=>?_
 replace S:=S.ext hw18
 refine wg (fun hg=>xc (zn hg)) (wd (zW rfl (fun hp=>(zn (xe hp)))) (zd ?_))
 obtain ⟨o19,e19,Ho19⟩ := zq H
 replace H:=e19; clear e19
 refine xr [8] (fun fr W=>fr 8 = .int .i64 o19∧St A N w W LT1 [zf SlV.nil ([]),zf s_0 a0.sub,zf s_2 a2.sub]) ?_ ?_
 ·refine zF rfl (fun hc20=>?_) (fun hc20=>?_)
  ·replace H:=if_t hc20 H
   refine za (wd (zh rfl) (zd ?_))
   obtain rfl:=zbt H
   exact ⟨rfl,df,rfl,S⟩
  ·replace H:=if_f hc20 H
   refine zu ?_
   obtain rfl:=zbt H
   exact ⟨rfl,df,p10_8,S⟩
 rintro g21 u22 ⟨p19_8,S⟩
 have H:=Ho19
 refine zb (zb (za (wd (zi p19_8) (wd (xp rfl rfl) (zd ?_)))))
 refine zF rfl (fun hc23=>?_) (fun hc23=>?_)
 ·replace H:=if_t hc23 H
  refine zb (za (wd (Does.to (v' := .agg (Term.C tmZ).toArray) (xa (vs:=[]) xW rfl Bld.nil) rfl) (wd (zi p19_8) ?_)))
  refine wsT rfl rfl (S.blk 0) fun w24 B hw24 zw24=>?_
  replace S:=S.store 0 B hw24
  refine wd (zh rfl) (zd (zt ?_))
  replace S:=S.nilTm
  refine ⟨_,(xi (rtT rfl (S.blk 0)) (zg rfl)),?_⟩
  replace S:=S.arr [] [0]
  obtain rfl:=zbt H
  exact ⟨SlV.nil,rfl,S⟩
 replace H:=if_f hc23 H
 refine zu (zb ?_)
 refine xT 9 (Ext u22) hmix zbs zbs (Ext.drawn _) (zE (fun v K=>zz zX rfl (((S.ext K).blk 2).all _ (Term.len _)) (Term.len _)) (zE (fun v K=>zT rfl) (zE (fun v K=>zz zX rfl (((S.ext K).blk 1).all _ (Term.len _)) (Term.len _)) ?_)))
 obtain ⟨r25,er25,H⟩ := zq H
 refine kz (fun v=>zx ca_ref12_Deep) (fun v K=>(have ⟨M,SS⟩ := (S.ext K).lend ((.z 2 rfl .nil)); quiet (ref12_Deep_st (a0:=a2) SS er25) (fun v w' h=>⟨h.1,_,_,h.2⟩))) (fun v v' K h=>K.thenExt h) ?_
 obtain ⟨r26,er26,H⟩ := zq H
 refine kz (fun v=>zx ca_ref12_grown) (fun v K=>(have ⟨M,SS⟩ := (S.ext K).lend ((.z 1 rfl .nil)); quiet (ref12_grown_st (a0:=a0) SS er26) (fun v w' h=>⟨h.1,_,_,h.2⟩))) (fun v v' K h=>K.thenExt h) (zE (fun v K=>z7 rfl) (zE (fun v K=>zo rfl rfl) (zE (fun v K=>zo rfl rfl) (zE (fun v K=>zh rfl) ?_))))
 refine yE fun w27 K=>?_
 replace S:=S.ext K
 clear K
 refine wd (zh rfl) (zd (zb (zb ?_)))
 refine xT 6 (Ext w27) hmix zbs zbs (Ext.drawn _) (zE (fun v K=>zz zX rfl (((S.ext K).blk 2).all _ (Term.len _)) (Term.len _)) ?_)
 obtain ⟨r28,er28,H⟩ := zq H
 refine kz (fun v=>zx zaP) (fun v K=>(have ⟨M,SS⟩ := (S.ext K).lend ((.z 1 rfl .nil)); quiet (zaU (a0:=a0) SS er28) (fun v w' h=>⟨h.1,_,_,h.2⟩))) (fun v v' K h=>K.thenExt h) (zE (fun v K=>zi rfl) (zE (fun v K=>zz zX rfl (((S.ext K).blk 1).all _ (Term.len _)) (Term.len _)) ?_))
 obtain ⟨r29,er29,H⟩ := zq H
 refine kz (fun v=>zx zaP) (fun v K=>(have ⟨M,SS⟩ := (S.ext K).lend ((.z 2 rfl .nil)); quiet (zaU (a0:=a2) SS er29) (fun v w' h=>⟨h.1,_,_,h.2⟩))) (fun v v' K h=>K.thenExt h) (zE (fun v K=>zbb rfl rfl) ?_)
 refine yE fun w30 K=>?_
 replace S:=S.ext K
 clear K
 refine wd (does_mul rfl rfl) (wd (xI rfl rfl) (wd (ui rfl rfl) (wd (zy rfl) ?_)))
 refine wg (fun hg=>zi rfl) ?_
 refine wg (fun hg=>ui (zn hg) rfl) (wd (xq rfl (fun hp=>(zn (xe hp)))) (zd ?_))
 refine zF rfl (fun hc31=>?_) (fun hc31=>?_)
 ·replace H:=if_t hc31 H
  refine zb (za (wd (Does.to (v' := .agg (Term.C tmZ).toArray) (xa (vs:=[]) xW rfl Bld.nil) rfl) ?_))
  refine wsT rfl rfl (S.blk 0) fun w32 B hw32 zw32=>?_
  replace S:=S.store 0 B hw32
  refine wd (zh rfl) (zd (zt ?_))
  replace S:=S.nilTm
  refine ⟨_,(xi (rtT rfl (S.blk 0)) (zg rfl)),?_⟩
  replace S:=S.arr [] [0]
  obtain rfl:=zbt H
  exact ⟨SlV.nil,rfl,S⟩
 replace H:=if_f hc31 H
 refine zu (zb (za (wd (ldT rfl (S.blk 2)) (wd (zT rfl) (wd (ldT rfl (S.blk 1)) ?_)))))
 obtain ⟨r33,er33,H⟩ := zq H
 obtain ⟨_,_,T,bk⟩ := S.sub [1,2] [] LT1
 refine zB (zx ca_ref12_put) zbp (ref12_put_st (a0:=a0) (a2:=a2) T er33) ?_
 rintro _ w34 ⟨s36,rfl,S2⟩
 replace S:=bk _ _ _ _ _ S2 rfl rfl
 refine wsT rfl rfl (S.blk 0) fun w37 B hw37 zw37=>?_
 replace S:=S.store 0 B hw37
 refine wd (zh rfl) (zd (zt ?_))
 refine ⟨_,(xi (rtT rfl (S.blk 0)) (zg rfl)),?_⟩
 replace S:=S.arr [] [0]
 obtain rfl:=zbt H
 exact ⟨s36,rfl,S⟩
end
section
open Gw Go.RowKit
set_option maxHeartbeats 4000000
set_option maxRecDepth 20000
theorem ref12_Copy_hgst {zer:PTerm→Option PTerm} (zdT : ∀ {A:Nat→Prop} {N:Oth} {w:World} {a0:PTerm} {s_0:SlV} (S:St A N w w [] [zf s_0 a0.sub]) {r:PTerm} (H:zer a0=some r),Calls PP vH #[.agg (tmC a0 s_0).toArray] w <| Rt fun v w'=>(∃ so0:SlV,v = .agg (tmC r so0).toArray∧St A N w w' [] [zf so0 r.sub])) {A:Nat→Prop} {N:Oth} {w:World} {a0:PTerm} {s_0:SlV} (S:St A N w w [] [zf s_0 a0.sub]) {k:Nat} {r:PTerm} (H:zdr.g zer k a0=some r) :
  Calls PP vH #[.agg (tmC a0 s_0).toArray] w <| Rt fun v w'=>(∃ (so0:SlV) (mo:List Term),v = .agg (tmC r so0).toArray∧St A N w w' [oS zj 5 Term.C so0 mo] [bigA xj mo r.sub]):=by
 unfold zdr.g at H
 refine zA (n:=26) Tryz.func10 rfl rfl zbr (zb (za ?_))
 refine zI rfl zbp fun b2 w1 hw1=>?_
 replace S:=S.new hw1
 refine zO xd zbp fun b4 w3 hw3=>?_
 replace S:=S.new hw3
 refine zd (zb (za (wd (ldT rfl (S.blk 1)) ?_)))
 refine zO xd zbp fun b6 w5 hw5=>?_
 replace S:=S.new hw5
 refine wsT rfl rfl (S.blk 0) fun w7 B hw7 zw7=>?_
 replace S:=S.store 0 B hw7
 refine zd (zb (za (wd (ze zw rfl (o':=4) rfl) ?_)))
 refine xY zr rfl SlV.nil_eq (S.blk 0) (by rw [Term.len]; decide) (SlV.one _ _ rfl) (Term.set_sub _ _) fun w8 B hw8 zw8=>?_
 replace S:=S.store 0 B hw8
 refine zd (zb (zb (za (wd (zh rfl) (zd ?_)))))
 replace S:=((S.nil zj 5 Term.C).bigTm).nil zj 5 Term.C
 replace S:=S.bigTm
 obtain ⟨o9,e9,Ho9⟩ := zq H
 clear H
 refine xr ([4] ++ rg 7 18) (fun fr W => ∃ s9:Int × PTerm,o9 = .inl s9 ∧ ∃ s10:SlV,∃ m11:List Term,fr 4 = .int .i64 s9.1∧St A N w W [oS zj 5 Term.C SlV.nil ([]:List Term),oS zj 5 Term.C s10 m11,oB b6 zj (tmC s9.2 s10),oB b4 zj (Term.C tmZ),oB b2 zj (tmC a0 s_0)] [bigA xj ([]:List Term) ([]:List PTerm),bigA xj m11 s9.2.sub,zf s_0 a0.sub]) ?_ ?_
 ·refine zK ?_
  refine xy (α:=Nat × (Int × PTerm)) ([4] ++ rg 7 18) (fun x fr W=>iter (fun s=>zdr.b0 a0 zer s.1 s.2) x.1 x.2=some o9 ∧ ∃ s12:SlV,∃ m13:List Term,fr 4 = .int .i64 (x.2.1)∧St A N w W [oS zj 5 Term.C SlV.nil ([]:List Term),oS zj 5 Term.C s12 m13,oB b6 zj (tmC (x.2.2) s12),oB b4 zj (Term.C tmZ),oB b2 zj (tmC a0 s_0)] [bigA xj ([]:List Term) ([]:List PTerm),bigA xj m13 (x.2.2).sub,zf s_0 a0.sub]) (fun x=>x.1) (k,(0,(⟨a0.kind,a0.name,a0.other,a0.form,([]:List PTerm)⟩ : PTerm))) ⟨(by dsimp only; exact e9),SlV.nil,([]:List Term),rfl,S⟩ ?_
  rintro ⟨m9,⟨x9_0,x9_1⟩⟩ g9 u9 ⟨e9,s14,m15,q9_4,S⟩
  try dsimp only at e9
  try dsimp only at S
  try dsimp only at q9_4
  obtain ⟨m9,rfl⟩ : ∃ m,m9=m + 1:=⟨m9 - 1,by cases m9 with | zero=>cases e9 | succ m=>rfl⟩
  obtain ⟨q9,H,e9⟩ := uk e9
  unfold zdr.b0 at H
  try dsimp only at H
  refine zb (zb (za (wd (zi q9_4) (wd (ze zw rfl (o':=4) rfl) (wd (zl zr rfl ((S.blk 4).cell (Term.get_sub _))) (wd (does_lenF zp rfl (S.onZ 2)) (wd (xn rfl rfl) (zd ?_))))))))
  refine zF rfl (fun hc16=>?_) (fun hc16=>?_)
  rotate_left
  ·replace H:=if_f hc16 H
   refine xG ?_
   obtain rfl:=zbt H
   exact ⟨rfl,df,(x9_0,x9_1),e9,s14,m15,q9_4,S⟩
  replace H:=if_t hc16 H
  refine zu (zb ?_)
  refine zK ?_
  obtain ⟨hi17,H⟩ := zU H
  obtain ⟨r19,er19,H⟩ := zq H
  obtain ⟨s18,S⟩ := S.viewTermC 2 (zC hi17)
  replace S:=S.zs [2,3,4,0,1]
  let LT1:List OA:=[bigA xj ([]:List Term) ([]:List PTerm),bigA xj m15 x9_1.sub,zf s_0 a0.sub,oCl s_0.blk (s_0.off + Int.toNat x9_0 * 5) (tmC (kd a0 x9_0) s18),zf s18 ((kd a0 x9_0).sub)]
  let LT2:List OA:=[oS zj 5 Term.C SlV.nil ([]:List Term),oS zj 5 Term.C s14 m15,oB b6 zj (tmC x9_1 s14),oB b4 zj (Term.C tmZ),oB b2 zj (tmC a0 s_0)]
  refine x8 9 ⟨fun _ _=>True,fun _ _ _=>True,fun i v _=>match i with
   | 0=>v=Value.pointer (some ⟨b6,4,none⟩)
   | 1=>v=s14.v
   | 2=>v=Value.pointer (some ⟨b2,4,none⟩)
   | 3=>v=s_0.v
   | 4=>v=Value.int .i64 x9_0
   | 5=>v=Value.pointer (some ⟨s_0.blk,s_0.off + Int.toNat x9_0 * 5,none⟩)
   | 6=>v=Value.agg (tmC (kd a0 x9_0) s18).toArray
   | _=>True⟩ (fun L g v=>bif L 8 then (∃ (s22:SlV) (s25:SlV),(L 7=true→g 21=Value.agg (tmC r19 s22).toArray)∧(L 8=true→g 22=s25.v)∧St A N w v (oS zj 5 Term.C s25 ([(tmT r19 s22)]) :: LT2) (zf s22 r19.sub :: LT1)) else bif L 7 then (∃ (s22:SlV),(L 7=true→g 21=Value.agg (tmC r19 s22).toArray)∧St A N w v LT2 (zf s22 r19.sub :: LT1)) else (St A N w v LT2 LT1)) hmix zbs (fun _ _ _ _ _ _ _ hv=>hv) (fun g=>S.ext (Ext.drawn _)) ⟨?_,?_,?_,?_,?_,?_,?_,?_,?_,trivial⟩ ?_
  ·rintro L g v hL hcl hclo hT 
   cases hl8:L 8 with
   | true =>
    replace hT : ∃ (s22:SlV) (s25:SlV),(L 7=true→g 21=Value.agg (tmC r19 s22).toArray)∧(L 8=true→g 22=s25.v)∧St A N w v (oS zj 5 Term.C s25 ([(tmT r19 s22)]) :: LT2) (zf s22 r19.sub :: LT1):=by simp only [hl8,cd2] at hT ⊢; exact hT
    obtain ⟨s22,s25,he7,he8,S⟩ := hT
    refine wd (ze zw rfl (o':=4) rfl) ?_
    have hT2 : ∃ (s22':SlV) (s25':SlV),((plus L 0) 7=true→(upd g 14 (Value.pointer (some ⟨b6,4,none⟩))) 21=Value.agg (tmC r19 s22').toArray)∧((plus L 0) 8=true→(upd g 14 (Value.pointer (some ⟨b6,4,none⟩))) 22=s25'.v)∧St A N w v (oS zj 5 Term.C s25' ([(tmT r19 s22')]) :: LT2) (zf s22' r19.sub :: LT1):=⟨s22,s25,kpU he7,kpU he8,S⟩
    exact w4 rfl (by simp only [pN L 0 7,pN L 0 8,hl8,cd2] at hT2 ⊢; exact hT2)
   | false =>
    cases hl7:L 7 with
    | true =>
     replace hT : ∃ (s22:SlV),(L 7=true→g 21=Value.agg (tmC r19 s22).toArray)∧St A N w v LT2 (zf s22 r19.sub :: LT1):=by simp only [hl7,hl8,cd2] at hT ⊢; exact hT
     obtain ⟨s22,he7,S⟩ := hT
     refine wd (ze zw rfl (o':=4) rfl) ?_
     have hT2 : ∃ (s22':SlV),((plus L 0) 7=true→(upd g 14 (Value.pointer (some ⟨b6,4,none⟩))) 21=Value.agg (tmC r19 s22').toArray)∧St A N w v LT2 (zf s22' r19.sub :: LT1):=⟨s22,kpU he7,S⟩
     exact w4 rfl (by simp only [pN L 0 7,pN L 0 8,hl7,hl8,cd2] at hT2 ⊢; exact hT2)
    | false =>
     simp only [hl7,hl8,cd2] at hT
     replace S:=hT
     refine wd (ze zw rfl (o':=4) rfl) ?_
     exact w4 rfl (by simp only [pN L 0 7,pN L 0 8,hl7,hl8,cd2]; exact S)
  ·rintro L g v hL hcl hclo hT hv0
   cases hl8:L 8 with
   | true =>
    replace hT : ∃ (s22:SlV) (s25:SlV),(L 7=true→g 21=Value.agg (tmC r19 s22).toArray)∧(L 8=true→g 22=s25.v)∧St A N w v (oS zj 5 Term.C s25 ([(tmT r19 s22)]) :: LT2) (zf s22 r19.sub :: LT1):=by simp only [hl8,cd2] at hT ⊢; exact hT
    obtain ⟨s22,s25,he7,he8,S⟩ := hT
    refine wd (zl zr hv0 ((S.blk 3).cell (Term.get_sub _))) ?_
    have hT2 : ∃ (s22':SlV) (s25':SlV),((plus L 1) 7=true→(upd g 15 (s14.v)) 21=Value.agg (tmC r19 s22').toArray)∧((plus L 1) 8=true→(upd g 15 (s14.v)) 22=s25'.v)∧St A N w v (oS zj 5 Term.C s25' ([(tmT r19 s22')]) :: LT2) (zf s22' r19.sub :: LT1):=⟨s22,s25,kpU he7,kpU he8,S⟩
    exact w4 rfl (by simp only [pN L 1 7,pN L 1 8,hl8,cd2] at hT2 ⊢; exact hT2)
   | false =>
    cases hl7:L 7 with
    | true =>
     replace hT : ∃ (s22:SlV),(L 7=true→g 21=Value.agg (tmC r19 s22).toArray)∧St A N w v LT2 (zf s22 r19.sub :: LT1):=by simp only [hl7,hl8,cd2] at hT ⊢; exact hT
     obtain ⟨s22,he7,S⟩ := hT
     refine wd (zl zr hv0 ((S.blk 2).cell (Term.get_sub _))) ?_
     have hT2 : ∃ (s22':SlV),((plus L 1) 7=true→(upd g 15 (s14.v)) 21=Value.agg (tmC r19 s22').toArray)∧St A N w v LT2 (zf s22' r19.sub :: LT1):=⟨s22,kpU he7,S⟩
     exact w4 rfl (by simp only [pN L 1 7,pN L 1 8,hl7,hl8,cd2] at hT2 ⊢; exact hT2)
    | false =>
     simp only [hl7,hl8,cd2] at hT
     replace S:=hT
     refine wd (zl zr hv0 ((S.blk 2).cell (Term.get_sub _))) ?_
     exact w4 rfl (by simp only [pN L 1 7,pN L 1 8,hl7,hl8,cd2]; exact S)
  ·rintro L g v hL hcl hclo hT 
   have hl7:=clF hL (hclo 7 2 · zbs)
   have hl8:=clF hL (hclo 8 2 · zbs)
   simp only [hl7,hl8,cd2] at hT
   replace S:=hT
   refine wd (ze zw rfl (o':=4) rfl) ?_
   exact w4 rfl (by simp only [pN L 2 7,pN L 2 8,hl7,hl8,cd2]; exact S)
  ·rintro L g v hL hcl hclo hT hv2
   have hl7:=clF hL (hclo 7 3 · zbs)
   have hl8:=clF hL (hclo 8 3 · zbs)
   simp only [hl7,hl8,cd2] at hT
   replace S:=hT
   refine wd (zl zr hv2 ((S.blk 4).cell (Term.get_sub _))) ?_
   exact w4 rfl (by simp only [pN L 3 7,pN L 3 8,hl7,hl8,cd2]; exact S)
  ·rintro L g v hL hcl hclo hT 
   have hl7:=clF hL (hclo 7 4 · zbs)
   have hl8:=clF hL (hclo 8 4 · zbs)
   simp only [hl7,hl8,cd2] at hT
   replace S:=hT
   refine wd (zi q9_4) ?_
   exact w4 rfl (by simp only [pN L 4 7,pN L 4 8,hl7,hl8,cd2]; exact S)
  ·rintro L g v hL hcl hclo hT hv3 hv4
   have hl7:=clF hL (hclo 7 5 · zbs)
   have hl8:=clF hL (hclo 8 5 · zbs)
   simp only [hl7,hl8,cd2] at hT
   replace S:=hT
   refine wd (does_indexF zp hv3 hv4 (S.onZ 2) (zC hi17).1 (zC hi17).2) ?_
   exact w4 rfl (by simp only [pN L 5 7,pN L 5 8,hl7,hl8,cd2]; exact S)
  ·rintro L g v hL hcl hclo hT hv5
   have hl7:=clF hL (hclo 7 6 · zbs)
   have hl8:=clF hL (hclo 8 6 · zbs)
   simp only [hl7,hl8,cd2] at hT
   replace S:=hT
   refine wd (zz zX hv5 (S.cl 3) (Term.len _)) ?_
   exact w4 rfl (by simp only [pN L 6 7,pN L 6 8,hl7,hl8,cd2]; exact S)
  ·rintro L g v hL hcl hclo hT hv6
   have hl7:L 7=false:=hL
   have hl8:=clF hL (hclo 8 7 · zbs)
   simp only [hl7,hl8,cd2] at hT
   replace S:=hT
   obtain ⟨_,_,T,bk⟩ := S.sub [4] [] LT2
   refine zB (zJ yX (zQ hv6 rfl)) zbp (zdT (a0:=(kd a0 x9_0)) T er19) ?_
   rintro _ w28 ⟨s22,rfl,S2⟩
   replace S:=bk _ _ _ _ _ S2 rfl rfl
   have hT2 : ∃ (s22':SlV),((plus L 7) 7=true→(upd g 21 (Value.agg (tmC r19 s22).toArray)) 21=Value.agg (tmC r19 s22').toArray)∧St A N w w28 LT2 (zf s22' r19.sub :: LT1):=⟨s22,fun _=>upd_same _ _ _,S⟩
   exact w4 trivial (by simp only [pN L 7 8,xB (L:=L) (i:=7),hl8,cd2] at hT2 ⊢; exact hT2)
  ·rintro L g v hL hcl hclo hT hv7
   have hl7:L 7=true:=hcl 7 zbs
   have hl8:L 8=false:=hL
   replace hT : ∃ (s22:SlV),(L 7=true→g 21=Value.agg (tmC r19 s22).toArray)∧St A N w v LT2 (zf s22 r19.sub :: LT1):=by simp only [hl7,hl8,cd2] at hT ⊢; exact hT
   obtain ⟨s22,he7,S⟩ := hT
   refine yb (C:=Term.C) (l:=[(tmT r19 s22)]) (vs:=[.agg (tmC r19 s22).toArray]) zp yN.zero (xR (he7 (hcl 7 zbs)) rfl) rfl (fun a _=>Term.len a) zbp rfl zbp fun b31 w30 s25 hBw30 hw30=>?_
   replace S:=S.lit hBw30 hw30 zbr
   have hT2 : ∃ (s22':SlV) (s25':SlV),((plus L 8) 7=true→(upd g 22 (s25.v)) 21=Value.agg (tmC r19 s22').toArray)∧((plus L 8) 8=true→(upd g 22 (s25.v)) 22=s25'.v)∧St A N w w30 (oS zj 5 Term.C s25' ([(tmT r19 s22')]) :: LT2) (zf s22' r19.sub :: LT1):=⟨s22,s25,kpU he7,fun _=>upd_same _ _ _,S⟩
   exact w4 trivial (by simp only [pN L 8 7,xB (L:=L) (i:=8),cd2] at hT2 ⊢; exact hT2)
  rintro L g w33 hLm hT hv34_0 hv34_1 hv34_2 hv34_3 hv34_4 hv34_5 hv34_6 _ _
  have hLt : ∀ j,j < 9→L j=true:=fun j hj=>by rw [hLm]; exact decide_eq_true hj
  replace hT : ∃ (s22:SlV) (s25:SlV),(L 7=true→g 21=Value.agg (tmC r19 s22).toArray)∧(L 8=true→g 22=s25.v)∧St A N w w33 (oS zj 5 Term.C s25 ([(tmT r19 s22)]) :: LT2) (zf s22 r19.sub :: LT1):=by simp only [hLt 8 zbp,cond_true] at hT ⊢; exact hT
  obtain ⟨s22,s25,he7,he8,S⟩ := hT
  have hv34_7:=he7 (hLt 7 zbp)
  have hv34_8:=he8 (hLt 8 zbp)
  replace S:=S
  obtain ⟨ha37,H⟩ := zU H
  have ha37:=of_decide_eq_true ha37
  have hmha37:((m15).length + ([(tmT r19 s22)]).length) * 72 ≤ 140737488355328:=by rw [S.lenTm 2 (l:=x9_1.sub)]; exact ha37
  refine uP (C:=Term.C) zp yN hv34_1 hv34_8 (S.sl 2) (S.rdO 0) zbr (fun a _=>Term.one a) hmha37 zbq zbp fun s36 w35 O hw35 gw35=>?_
  replace S:=S.push 2 O (by first | (simp; done) | (simp; omega) | (simp only [List.length_append]; omega)) hw35 gw35
  clear O
  replace S:=S.snocTm (x:=r19) 2 0
  refine wd (ze zw rfl (o':=4) rfl) ?_
  refine xY zr rfl rfl (S.blk 3) (by rw [Term.len]; decide) (SlV.one _ _ rfl) (Term.set_sub _ _) fun w38 B hw38 zw38=>?_
  replace S:=S.store 3 B hw38
  refine zd (za (wd (zi q9_4) (wd (xI rfl rfl) (wd (zh rfl) (zd ?_)))))
  replace S:=S.arr [3,1,0,4,5] [2,0,4]
  obtain rfl:=zbt H
  exact ⟨rfl,df,(m9,(IntKind.i64.wrap (x9_0 + 1),(⟨x9_1.kind,x9_1.name,x9_1.other,x9_1.form,x9_1.sub ++ [r19]⟩ : PTerm))),⟨e9,s36,m15 ++ [(tmT r19 s22)],rfl,S⟩,by dsimp only; omega⟩
 rintro g39 u40 ⟨s9,rfl,s10,m11,p9_4,S⟩
 have H:=Ho9
 dsimp only [aft] at H
 refine zb (za (wd (ldT rfl (S.blk 2)) ?_))
 refine wsT rfl rfl (S.blk 3) fun w41 B hw41 zw41=>?_
 replace S:=S.store 3 B hw41
 refine zd (zt ?_)
 refine ⟨_,(zP (rtT rfl (S.blk 0))),?_⟩
 replace S:=S.arr [2] [1]
 obtain rfl:=zbt H
 exact ⟨s10,m11,rfl,S⟩
theorem ref12_Copy_hst {A:Nat→Prop} {N:Oth} {w:World} {a0:PTerm} {s_0:SlV} (S:St A N w w [] [zf s_0 a0.sub]) {k:Nat} {r:PTerm} (H:zdr.f k a0=some r) :
  Calls PP vH #[.agg (tmC a0 s_0).toArray] w <| Rt fun v w'=>(∃ (so0:SlV) (mo:List Term),v = .agg (tmC r so0).toArray∧St A N w w' [oS zj 5 Term.C so0 mo] [bigA xj mo r.sub]):=by
 cases k with
 | zero=>cases H
 | succ k=>exact ref12_Copy_hgst (fun S _ H=>vV S H) S H
end
section
open Gw Go.RowKit
section
variable {A:Nat→Prop} {N:Oth} {w0 w:World} {L Z:List OA}
end
end
section
open Gw Go.RowKit
set_option maxHeartbeats 4000000
set_option maxRecDepth 20000
variable {A:Nat→Prop} {N:Oth} {w:World}
theorem zaf {a0:PTerm} {s_0:SlV} {a1:Int} (S:St A N w w [] [zf s_0 a0.sub]) {k:Nat} {r:PTerm} (H:zdz.f k a0 a1=some r) :
  Calls PP F_ref14_the #[.agg (tmC a0 s_0).toArray,.int .i64 a1] w <| Rt fun v w'=>(∃ so0:SlV,v = .agg (tmC r so0).toArray∧St A N w w' [] [zf so0 r.sub]):=by
 unfold zdz.f at H
 refine zA (n:=10) Tryz.func130 rfl rfl zbr (zb (za ?_))
 refine zI rfl zbp fun b2 w1 hw1=>?_
 replace S:=S.new hw1
 refine zO xd zbp fun b4 w3 hw3=>?_
 replace S:=S.new hw3
 refine zd (zb (za (wd (zi rfl) (wd (ldT rfl (S.blk 1)) ?_))))
 obtain ⟨r5,er5,H⟩ := zq H
 obtain ⟨_,_,T,bk⟩ := S.sub [0] [] [oB b4 zj (Term.C tmZ),oB b2 zj (tmC a0 s_0)]
 refine zB (zx yX) zbp (vV (a0:=a0) T er5) ?_
 rintro _ w6 ⟨s8,rfl,S2⟩
 replace S:=bk _ _ _ _ _ S2 rfl rfl
 refine yb (C:=Term.C) (l:=[(tmT r5 s8)]) (vs:=[.agg (tmC r5 s8).toArray]) zp yN.zero rfl rfl (fun a _=>Term.len a) zbp rfl zbp fun b10 w9 s11 hBw9 hw9=>?_
 replace S:=((S.lit hBw9 hw9 zbr).bigTm).consTm (x:=r5) 0
 replace S:=(S.frzTm 0 0).zs [0,2,3]
 refine wd (Does.to (v' := .agg (Term.C (tmN 11 a1 s11)).toArray) (xa (vs:=[(0,.int .i64 11),(3,.int .i64 a1),(4,s11.v)]) xW (xR rfl (xR rfl (xR rfl rfl))) (Bld.one rfl rfl (by rw [Term.len]; decide) (Term.set_kind _ _) (Bld.one rfl rfl (by rw [Term.len]; decide) (Term.set_form _ _) (Bld.one rfl (SlV.one _ _ rfl) (by rw [Term.len]; decide) (Term.set_sub _ _) Bld.nil)))) rfl) ?_
 refine wsT rfl rfl (S.blk 0) fun w12 B hw12 zw12=>?_
 replace S:=S.store 0 B hw12
 refine zd (zt ?_)
 refine ⟨_,(zP (rtT rfl (S.blk 0))),?_⟩
 replace S:=S.arr [] [0]
 obtain rfl:=zbt H
 exact ⟨s11,rfl,S⟩
theorem yL {a0:Tb} {a_0:Option Addr} {a1:PTerm} {s_1:SlV} {a2:Int} {a3:Int} (S:St A N w w [] [oR a_0 a0,zf s_1 a1.sub]) {r:PTerm × Nd × Bool × Bool} (H:zdA.f a0 a1 a2 a3=some r) :
  Calls PP F_ref14_beside #[.pointer a_0,.agg (tmC a1 s_1).toArray,.int .i64 a2,.int .i64 a3] w fun e w' => ∃ v,e = .returned v∧(∃ so0:SlV,v = .tuple #[.agg (tmC r.1 so0).toArray,.agg (Nd.C r.2.1).toArray,.bool r.2.2.1,.bool r.2.2.2]∧St A N w w' [] [zf so0 r.1.sub]):=by
 unfold zdA.f at H
 refine zA (n:=57) Tryz.func54 rfl rfl zbr (zb (za ?_))
 refine zI rfl zbp fun b2 w1 hw1=>?_
 replace S:=S.new hw1
 refine zO xd zbp fun b4 w3 hw3=>?_
 replace S:=S.new hw3
 refine zO ze_Nd zbp fun b6 w5 hw5=>?_
 replace S:=S.new hw5
 refine wd (zk rfl) (wd (zk rfl) (zd (zb (zb (za (wd (ze zV rfl (o':=0) rfl) (wd (zl zM rfl ((S.blk 2).cell (Term.get_kind _))) ?_)))))))
 refine wd (zi rfl) (wd (zL rfl rfl) (zd ?_))
 refine zF rfl (fun hc7=>?_) (fun hc7=>?_)
 ·replace H:=if_t hc7 H
  refine zb (za (wd (zz zX rfl ((S.blk 2).all _ (Term.len _)) (Term.len _)) (wd (vx bu_Nd Bld.nil) ?_)))
  refine zY zX rfl rfl (S.blk 1) (Term.len _) (by rw [Term.len]; decide) (Term.one _) (xo (Term.len _)) fun w8 B hw8 zw8=>?_
  replace S:=S.store 1 B hw8
  clear B
  refine zY yw rfl rfl (S.blk 1) (Nd.len _) (by rw [Nd.len]; decide) (Nd.one _) (xo (Nd.len _)) fun w9 B hw9 zw9=>?_
  replace S:=S.store 1 B hw9
  clear B
  refine wd (zk rfl) (wd (zk rfl) (zd (zt ?_)))
  refine ⟨_,(kQ (x6 zX rfl ((S.blk 1).all _ (Term.len _)) (Term.len _)) (x6 yw rfl ((S.blk 0).all _ (Nd.len _)) (Nd.len _)) (zg rfl) (zg rfl)),?_⟩
  replace S:=S.arr [] [1]
  obtain rfl:=zbt H
  exact ⟨s_1,rfl,S⟩
 replace H:=if_f hc7 H
 refine zu (zb (zb ?_))
 refine xT 23 (Ext w5) hmix zbs zbs (Ext.drawn _) (zE (fun v K=>ze zV rfl (o':=0) rfl) (zE (fun v K=>zl zM rfl (((S.ext K).blk 2).cell (Term.get_kind _))) (zE (fun v K=>zL rfl rfl) (zE (fun v K=>zy rfl) (yi (j:=3) (pol:=true) rfl rfl rfl (fun hg v K=>ze zw rfl (o':=4) rfl) ?_)))))
 refine yi (j:=3) (pol:=true) rfl rfl rfl (fun hg v K=>zl zr (zn hg) (((S.ext K).blk 2).cell (Term.get_sub _))) ?_
 obtain ⟨hi10,H⟩ := chk_g H
 refine yi (j:=3) (pol:=true) rfl rfl rfl (fun hg v K=>does_indexF zp (zn hg) rfl ((S.ext K).onZ 1) (zC (hi10 (by simpa using hg))).1 (zC (hi10 (by simpa using hg))).2) (yi (j:=3) (pol:=true) rfl rfl rfl (fun hg v K=>ze zV (zn hg) (o':=_) rfl) (yi (j:=3) (pol:=true) rfl rfl rfl (fun hg v K=>zl zM (zn hg) (yM.get_kind ((S.ext K).onZ 1) (zC (hi10 (by simpa using hg))))) (yi (j:=3) (pol:=true) rfl rfl rfl (fun hg v K=>zi rfl) (yi (j:=3) (pol:=true) rfl rfl rfl (fun hg v K=>zL (zn hg) (zn hg)) (zE (fun v K=>zW rfl (fun hp=>(zn (xe hp)))) ?_)))))
 refine zE (fun v K=>zy rfl) (yi (j:=12) (pol:=true) rfl rfl rfl (fun hg v K=>zD rfl) ?_)
 obtain ⟨ht11,H⟩ := zU H
 obtain ⟨p12,s13,hp14,S⟩ := S.seeR 0 ht11
 replace S:=S
 refine yi (j:=12) (pol:=true) rfl rfl rfl (fun hg v K=>zZ (((zn hg):_=Value.pointer a_0).trans (congrArg Value.pointer hp14))) (yi (j:=12) (pol:=true) rfl rfl rfl (fun hg v K=>ze vC (zn hg) (o':=0) rfl) (yi (j:=12) (pol:=true) rfl rfl rfl (fun hg v K=>zl xx (zn hg) (((S.ext K).blkZ 0).cell (RTab.get_n _))) (yi (j:=12) (pol:=true) rfl rfl rfl (fun hg v K=>ze x0 rfl (o':=3) rfl) (yi (j:=12) (pol:=true) rfl rfl rfl (fun hg v K=>zl xK (zn hg) (((S.ext K).blk 2).cell (Term.get_form _))) ?_))))
 obtain ⟨hi15,H⟩ := chk_g H
 refine yi (j:=12) (pol:=true) rfl rfl rfl (fun hg v K=>xg z1 (zn hg) (zn hg) ((S.ext K).rd 1) (zC (hi15 (by simpa using hg))).1 (zC (hi15 (by simpa using hg))).2) (yi (j:=12) (pol:=true) rfl rfl rfl (fun hg v K=>ze fl_Nd_kind (zn hg) (o':=_) rfl) (yi (j:=12) (pol:=true) rfl rfl rfl (fun hg v K=>zl jt (zn hg) ((((S.ext K).rd 1).at (yz Nd.z (zC (hi15 (by simpa using hg))))).get (Nd.get_kind _))) (yi (j:=12) (pol:=true) rfl rfl rfl (fun hg v K=>zi rfl) ?_)))
 refine yE fun w16 K=>?_
 replace S:=S.ext K
 clear K
 refine wg (fun hg=>zL (zn hg) (zn hg)) (wd (zW rfl (fun hp=>(zn (xe hp)))) ?_)
 replace S:=S.zs [2,3]
 refine zd ?_
 refine zF rfl (fun hc17=>?_) (fun hc17=>?_)
 ·replace H:=if_t hc17 H
  refine zb ?_
  obtain ⟨p25,s26,hp27,S⟩ := S.seeR 0 ht11
  replace S:=S
  obtain ⟨hi28,H⟩ := zU H
  obtain ⟨hi30,H⟩ := zU H
  obtain ⟨s29,S⟩ := S.viewTermC 3 (zC hi28)
  replace S:=S.zs [2,3,4,5,0,1]
  refine x8 13 ⟨fun _ _=>True,fun _ _ _=>True,fun i v _=>match i with
   | 0=>v=Value.pointer (some ⟨b2,4,none⟩)
   | 1=>v=s_1.v
   | 2=>v=Value.pointer (some ⟨s_1.blk,s_1.off + Int.toNat 0 * 5,none⟩)
   | 3=>v=Value.agg (tmC (kd a1 0) s29).toArray
   | 4=>v=Value.pointer a_0
   | 5=>v=Value.pointer (some ⟨p25,0,none⟩)
   | 6=>v=Value.pointer (some ⟨p25,0,none⟩)
   | 7=>v=s26.v
   | 8=>v=Value.pointer (some ⟨b2,3,none⟩)
   | 9=>v=Value.int .i64 a1.form
   | 10=>v=Value.pointer (some ⟨s26.blk,s26.off + Int.toNat a1.form * 4,none⟩)
   | 11=>v=Value.agg (Nd.C (at_ Nd.z (a0.getD []) a1.form)).toArray
   | _=>True⟩ (fun L g v=>bif L 12 then (St A N w v [oB b4 zj (tmC (kd a1 0) s29),oB b6 T_Nd (Nd.C Nd.z),oB b2 zj (tmC a1 s_1)] [oB p25 T_RTab (RTab.C ⟨s26⟩),fS 4 Nd.C s26 (a0.getD []),oR a_0 a0,zf s_1 a1.sub,oCl s_1.blk (s_1.off + Int.toNat 0 * 5) (tmC (kd a1 0) s29),zf s29 ((kd a1 0).sub)]) else (St A N w v [oB b6 T_Nd (Nd.C Nd.z),oB b4 zj (Term.C tmZ),oB b2 zj (tmC a1 s_1)] [oB p25 T_RTab (RTab.C ⟨s26⟩),fS 4 Nd.C s26 (a0.getD []),oR a_0 a0,zf s_1 a1.sub,oCl s_1.blk (s_1.off + Int.toNat 0 * 5) (tmC (kd a1 0) s29),zf s29 ((kd a1 0).sub)])) hmix zbs (fun _ _ _ _ _ _ _ hv=>hv) (fun g=>S.ext (Ext.drawn _)) ⟨?_,?_,?_,?_,?_,?_,?_,?_,?_,?_,?_,?_,?_,trivial⟩ ?_
  ·rintro L g v hL hcl hclo hT 
   have hl12:L 12=false:=by cases h:L 12 with | false=>rfl | true=>exact absurd (hclo 12 0 h zbs) (by rw [hL]; decide)
   simp only [hl12,cond_true,cond_false] at hT
   replace S:=hT
   refine wd (ze zw rfl (o':=4) rfl) ?_
   exact zd (ob4 trivial rfl (by simp only [yk (L:=L) (i:=0) (j:=12) rfl,hl12,cond_true,cond_false]; exact S))
  ·rintro L g v hL hcl hclo hT hv0
   have hl12:L 12=false:=by cases h:L 12 with | false=>rfl | true=>exact absurd (hclo 12 1 h zbs) (by rw [hL]; decide)
   simp only [hl12,cond_true,cond_false] at hT
   replace S:=hT
   refine wd (zl zr hv0 ((S.blk 2).cell (Term.get_sub _))) ?_
   exact zd (ob4 trivial rfl (by simp only [yk (L:=L) (i:=1) (j:=12) rfl,hl12,cond_true,cond_false]; exact S))
  ·rintro L g v hL hcl hclo hT hv1
   have hl12:L 12=false:=by cases h:L 12 with | false=>rfl | true=>exact absurd (hclo 12 2 h zbs) (by rw [hL]; decide)
   simp only [hl12,cond_true,cond_false] at hT
   replace S:=hT
   refine wd (does_indexF zp hv1 rfl (S.onZ 3) (zC hi28).1 (zC hi28).2) ?_
   exact zd (ob4 trivial rfl (by simp only [yk (L:=L) (i:=2) (j:=12) rfl,hl12,cond_true,cond_false]; exact S))
  ·rintro L g v hL hcl hclo hT hv2
   have hl12:L 12=false:=by cases h:L 12 with | false=>rfl | true=>exact absurd (hclo 12 3 h zbs) (by rw [hL]; decide)
   simp only [hl12,cond_true,cond_false] at hT
   replace S:=hT
   refine wd (zz zX hv2 (S.cl 4) (Term.len _)) ?_
   exact zd (ob4 trivial rfl (by simp only [yk (L:=L) (i:=3) (j:=12) rfl,hl12,cond_true,cond_false]; exact S))
  ·rintro L g v hL hcl hclo hT 
   cases hl12:L 12 with
   | true =>
    simp only [hl12,cond_true,cond_false] at hT
    replace S:=hT
    refine wd (zD rfl) ?_
    exact zd (ob4 trivial rfl (by simp only [yk (L:=L) (i:=4) (j:=12) rfl,hl12,cond_true,cond_false]; exact S))
   | false =>
    simp only [hl12,cond_true,cond_false] at hT
    replace S:=hT
    refine wd (zD rfl) ?_
    exact zd (ob4 trivial rfl (by simp only [yk (L:=L) (i:=4) (j:=12) rfl,hl12,cond_true,cond_false]; exact S))
  ·rintro L g v hL hcl hclo hT hv4
   cases hl12:L 12 with
   | true =>
    simp only [hl12,cond_true,cond_false] at hT
    replace S:=hT
    refine wd (zZ ((hv4:_=Value.pointer a_0).trans (congrArg Value.pointer hp27))) ?_
    exact zd (ob4 trivial rfl (by simp only [yk (L:=L) (i:=5) (j:=12) rfl,hl12,cond_true,cond_false]; exact S))
   | false =>
    simp only [hl12,cond_true,cond_false] at hT
    replace S:=hT
    refine wd (zZ ((hv4:_=Value.pointer a_0).trans (congrArg Value.pointer hp27))) ?_
    exact zd (ob4 trivial rfl (by simp only [yk (L:=L) (i:=5) (j:=12) rfl,hl12,cond_true,cond_false]; exact S))
  ·rintro L g v hL hcl hclo hT hv5
   cases hl12:L 12 with
   | true =>
    simp only [hl12,cond_true,cond_false] at hT
    replace S:=hT
    refine wd (ze vC hv5 (o':=0) rfl) ?_
    exact zd (ob4 trivial rfl (by simp only [yk (L:=L) (i:=6) (j:=12) rfl,hl12,cond_true,cond_false]; exact S))
   | false =>
    simp only [hl12,cond_true,cond_false] at hT
    replace S:=hT
    refine wd (ze vC hv5 (o':=0) rfl) ?_
    exact zd (ob4 trivial rfl (by simp only [yk (L:=L) (i:=6) (j:=12) rfl,hl12,cond_true,cond_false]; exact S))
  ·rintro L g v hL hcl hclo hT hv6
   cases hl12:L 12 with
   | true =>
    simp only [hl12,cond_true,cond_false] at hT
    replace S:=hT
    refine wd (zl xx hv6 ((S.blkZ 0).cell (RTab.get_n _))) ?_
    exact zd (ob4 trivial rfl (by simp only [yk (L:=L) (i:=7) (j:=12) rfl,hl12,cond_true,cond_false]; exact S))
   | false =>
    simp only [hl12,cond_true,cond_false] at hT
    replace S:=hT
    refine wd (zl xx hv6 ((S.blkZ 0).cell (RTab.get_n _))) ?_
    exact zd (ob4 trivial rfl (by simp only [yk (L:=L) (i:=7) (j:=12) rfl,hl12,cond_true,cond_false]; exact S))
  ·rintro L g v hL hcl hclo hT 
   cases hl12:L 12 with
   | true =>
    simp only [hl12,cond_true,cond_false] at hT
    replace S:=hT
    refine wd (ze x0 rfl (o':=3) rfl) ?_
    exact zd (ob4 trivial rfl (by simp only [yk (L:=L) (i:=8) (j:=12) rfl,hl12,cond_true,cond_false]; exact S))
   | false =>
    simp only [hl12,cond_true,cond_false] at hT
    replace S:=hT
    refine wd (ze x0 rfl (o':=3) rfl) ?_
    exact zd (ob4 trivial rfl (by simp only [yk (L:=L) (i:=8) (j:=12) rfl,hl12,cond_true,cond_false]; exact S))
  ·rintro L g v hL hcl hclo hT hv8
   cases hl12:L 12 with
   | true =>
    simp only [hl12,cond_true,cond_false] at hT
    replace S:=hT
    refine wd (zl xK hv8 ((S.blk 2).cell (Term.get_form _))) ?_
    exact zd (ob4 trivial rfl (by simp only [yk (L:=L) (i:=9) (j:=12) rfl,hl12,cond_true,cond_false]; exact S))
   | false =>
    simp only [hl12,cond_true,cond_false] at hT
    replace S:=hT
    refine wd (zl xK hv8 ((S.blk 2).cell (Term.get_form _))) ?_
    exact zd (ob4 trivial rfl (by simp only [yk (L:=L) (i:=9) (j:=12) rfl,hl12,cond_true,cond_false]; exact S))
  ·rintro L g v hL hcl hclo hT hv7 hv9
   cases hl12:L 12 with
   | true =>
    simp only [hl12,cond_true,cond_false] at hT
    replace S:=hT
    refine wd (xg z1 hv7 hv9 (S.rd 1) (zC hi30).1 (zC hi30).2) ?_
    exact zd (ob4 trivial rfl (by simp only [yk (L:=L) (i:=10) (j:=12) rfl,hl12,cond_true,cond_false]; exact S))
   | false =>
    simp only [hl12,cond_true,cond_false] at hT
    replace S:=hT
    refine wd (xg z1 hv7 hv9 (S.rd 1) (zC hi30).1 (zC hi30).2) ?_
    exact zd (ob4 trivial rfl (by simp only [yk (L:=L) (i:=10) (j:=12) rfl,hl12,cond_true,cond_false]; exact S))
  ·rintro L g v hL hcl hclo hT hv10
   cases hl12:L 12 with
   | true =>
    simp only [hl12,cond_true,cond_false] at hT
    replace S:=hT
    refine wd (zz yw hv10 ((S.rd 1).at (yz Nd.z (zC hi30))) (Nd.len _)) ?_
    exact zd (ob4 trivial rfl (by simp only [yk (L:=L) (i:=11) (j:=12) rfl,hl12,cond_true,cond_false]; exact S))
   | false =>
    simp only [hl12,cond_true,cond_false] at hT
    replace S:=hT
    refine wd (zz yw hv10 ((S.rd 1).at (yz Nd.z (zC hi30))) (Nd.len _)) ?_
    exact zd (ob4 trivial rfl (by simp only [yk (L:=L) (i:=11) (j:=12) rfl,hl12,cond_true,cond_false]; exact S))
  ·rintro L g v hL hcl hclo hT hv3
   have hl12:L 12=false:=hL
   simp only [hl12,cond_true,cond_false] at hT
   replace S:=hT
   refine zY zX rfl hv3 (S.blk 1) (Term.len _) (by rw [Term.len]; decide) (Term.one _) (xo (Term.len _)) fun w35 B hw35 zw35=>?_
   replace S:=S.store 1 B hw35
   clear B
   exact zd (ob40 trivial (fun _=>trivial) (by simp only [xB (L:=L) (i:=12),cond_true,cond_false]; exact S))
  rintro L g w36 hLm hT hv37_0 hv37_1 hv37_2 hv37_3 hv37_4 hv37_5 hv37_6 hv37_7 hv37_8 hv37_9 hv37_10 hv37_11 _
  have hLt : ∀ j,j < 13→L j=true:=fun j hj=>by rw [hLm]; exact decide_eq_true hj
  simp only [hLt 12 zbp,cond_true] at hT
  replace S:=hT
  replace S:=S
  refine zY yw rfl hv37_11 (S.blk 1) (Nd.len _) (by rw [Nd.len]; decide) (Nd.one _) (xo (Nd.len _)) fun w38 B hw38 zw38=>?_
  replace S:=S.store 1 B hw38
  clear B
  refine wd (zk rfl) (wd (zk rfl) ?_)
  replace S:=S.zs [2,3,4,5]
  refine zd (zt ?_)
  refine ⟨_,(kQ (x6 zX rfl ((S.blk 1).all _ (Term.len _)) (Term.len _)) (x6 yw rfl ((S.blk 0).all _ (Nd.len _)) (Nd.len _)) (zg rfl) (zg rfl)),?_⟩
  replace S:=S.arr [] [3]
  obtain rfl:=zbt H
  exact ⟨s29,rfl,S⟩
 replace H:=if_f hc17 H
 refine zu (zb (za (wd (Does.to (v' := .agg (Term.C tmZ).toArray) (xa (vs:=[]) xW rfl Bld.nil) rfl) (wd (vx bu_Nd Bld.nil) ?_))))
 refine zY zX rfl rfl (S.blk 1) (Term.len _) (by rw [Term.len]; decide) (Term.one _) (xo (Term.len _)) fun w39 B hw39 zw39=>?_
 replace S:=S.store 1 B hw39
 clear B
 refine zY yw rfl rfl (S.blk 1) (Nd.len _) (by rw [Nd.len]; decide) (Nd.one _) (xo (Nd.len _)) fun w40 B hw40 zw40=>?_
 replace S:=S.store 1 B hw40
 clear B
 refine wd (zk rfl) (wd (zk rfl) (zd (zt ?_)))
 replace S:=S.nilTm
 refine ⟨_,(kQ (x6 zX rfl ((S.blk 1).all _ (Term.len _)) (Term.len _)) (x6 yw rfl ((S.blk 0).all _ (Nd.len _)) (Nd.len _)) (zg rfl) (zg rfl)),?_⟩
 replace S:=S.arr [] [0]
 obtain rfl:=zbt H
 exact ⟨SlV.nil,rfl,S⟩
theorem zae {a0:Int} {a1:Bool} {a2:Bool} (S:St A N w w [] []) {r:Int} (H:zdB.f a0 a1 a2=some r) :
  Calls PP F_ref14_row #[.int .i64 a0,.bool a1,.bool a2] w <| Rt fun v w'=>(v = .int .i64 r∧St A N w w' [] []):=by
 unfold zdB.f at H
 refine zA (n:=13) Tryz.func55 rfl rfl zbr (zb (za (wd (zh rfl) (zd (zb (zb (za (wd (zy rfl) ?_))))))))
 refine wd (xc rfl) (zd ?_)
 refine zF rfl (fun hc1=>?_) (fun hc1=>?_)
 ·replace H:=if_t hc1 H
  refine zb (za (wd (zh rfl) (zd (zt ?_))))
  refine ⟨_,(zP (zg rfl)),?_⟩
  obtain rfl:=zbt H
  exact ⟨rfl,S⟩
 replace H:=if_f hc1 H
 refine zu (zb (zb (za (wd (zy rfl) (zd ?_)))))
 refine zF rfl (fun hc2=>?_) (fun hc2=>?_)
 ·replace H:=if_t hc2 H
  refine zb (za (wd (zi rfl) (wd (xI rfl rfl) (wd (zh rfl) (zd (zt ?_))))))
  refine ⟨_,(zP (zg rfl)),?_⟩
  obtain rfl:=zbt H
  exact ⟨rfl,S⟩
 replace H:=if_f hc2 H
 refine zu (zb (za (wd (zi rfl) (wd (zh rfl) (zd (zt ?_))))))
 refine ⟨_,(zP (zg rfl)),?_⟩
 obtain rfl:=zbt H
 exact ⟨rfl,S⟩
theorem ref14_Row_st {a0:Tb} {a_0:Option Addr} {a1:PTerm} {s_1:SlV} (S:St A N w w [] [oR a_0 a0,zf s_1 a1.sub]) {r:Int} (H:zdC.f a0 a1=some r) :
  Calls PP F_ref14_Row #[.pointer a_0,.agg (tmC a1 s_1).toArray] w <| Rt fun v w'=>(v = .int .i64 r∧St A N w w' [] []):=by
 unfold zdC.f at H
 refine zA (n:=109) Tryz.func26 rfl rfl zbr (zb (za ?_))
 refine zI rfl zbp fun b2 w1 hw1=>?_
 replace S:=S.new hw1
 refine wd (zh rfl) (zd (zb (zb (za (wd (ze zV rfl (o':=0) rfl) (wd (zl zM rfl ((S.blk 0).cell (Term.get_kind _))) (zd ?_)))))))
 refine zK (zb (za (wd (zL rfl rfl) (wd (zk rfl) (zd ?_)))))
 refine zF rfl (fun hc3=>?_) (fun hc3=>?_)
 ·replace H:=if_t hc3 H
  refine zb (za (wd (zD rfl) (wd (ze zw rfl (o':=4) rfl) (wd (zl zr rfl ((S.blk 0).cell (Term.get_sub _))) ?_))))
  obtain ⟨hi4,H⟩ := zU H
  refine wd (does_indexF zp rfl rfl (S.onZ 1) (zC hi4).1 (zC hi4).2) ?_
  obtain ⟨s5,hc6,S⟩ := S.viewTerm 1 (zC hi4)
  replace S:=S
  refine wd (ldC rfl hc6) ?_
  obtain ⟨r7,er7,H⟩ := zq H
  obtain ⟨_,_,T,bk⟩ := S.sub [1,0] [] [oB b2 zj (tmC a1 s_1)]
  refine zB (zx yK) zbp (yL (a1:=(kd a1 0)) T er7) ?_
  rintro _ w8 ⟨s10,rfl,S2⟩
  replace S:=bk _ _ _ _ _ S2 rfl rfl
  refine wd (z7 rfl) (wd (zo rfl rfl) (wd (zo rfl rfl) (wd (zo rfl rfl) (wd (zo rfl rfl) ?_))))
  refine zO xd zbp fun b12 w11 hw11=>?_
  replace S:=S.new hw11
  refine zO ze_Nd zbp fun b14 w13 hw13=>?_
  replace S:=S.new hw13
  refine wsT rfl rfl (S.blk 1) fun w15 B hw15 zw15=>?_
  replace S:=S.store 1 B hw15
  refine zY yw rfl rfl (S.blk 1) (Nd.len _) (by rw [Nd.len]; decide) (Nd.one _) (xo (Nd.len _)) fun w16 B hw16 zw16=>?_
  replace S:=S.store 1 B hw16
  refine wd (zk rfl) (wd (zk rfl) (zd (zb (za (wd (zy rfl) (wd (zy rfl) ?_))))))
  obtain ⟨r17,er17,H⟩ := zq H
  obtain ⟨_,_,T,bk⟩ := S.calln 0 ((.nil))
  refine zB (zx zab) zbp (zae T er17) ?_
  rintro _ w18 ⟨rfl,S2⟩
  replace S:=bk _ _ _ _ S2 rfl
  refine wd (zh rfl) (zd (zt ?_))
  refine ⟨_,(zP (zg rfl)),?_⟩
  replace S:=S.arr [] []
  obtain rfl:=zbt H
  exact ⟨rfl,S⟩
 replace H:=if_f hc3 H
 refine zb (zb (za (wd (zL rfl rfl) (wd (zk rfl) (zd ?_)))))
 obtain ⟨o20,e20,Ho20⟩ := zq H
 replace H:=e20; clear e20
 refine xr [36,38] (fun fr W=>fr 36 = .bool o20∧St A N w W [oB b2 zj (tmC a1 s_1)] [oR a_0 a0,zf s_1 a1.sub]) ?_ ?_
 ·refine zF rfl (fun hc21=>?_) (fun hc21=>?_)
  ·replace H:=if_t hc21 H
   refine zu ?_
   obtain rfl:=zbt H
   exact ⟨rfl,df,rfl,S⟩
  ·replace H:=if_f hc21 H
   refine za (wd (zL rfl rfl) (wd (zk rfl) (zd ?_)))
   obtain rfl:=zbt H
   exact ⟨rfl,df,rfl,S⟩
 rintro g22 u23 ⟨p20_36,S⟩
 have H:=Ho20
 refine zF p20_36 (fun hc24=>?_) (fun hc24=>?_)
 ·replace H:=if_t hc24 H
  refine zb (za (wd (zD rfl) (wd (ze zw rfl (o':=4) rfl) (wd (zl zr rfl ((S.blk 0).cell (Term.get_sub _))) ?_))))
  obtain ⟨hi25,H⟩ := zU H
  refine wd (does_indexF zp rfl rfl (S.onZ 1) (zC hi25).1 (zC hi25).2) ?_
  obtain ⟨s26,hc27,S⟩ := S.viewTerm 1 (zC hi25)
  replace S:=S
  refine wd (ldC rfl hc27) ?_
  obtain ⟨r28,er28,H⟩ := zq H
  obtain ⟨_,_,T,bk⟩ := S.sub [1,0] [] [oB b2 zj (tmC a1 s_1)]
  refine zB (zx yK) zbp (yL (a1:=(kd a1 0)) T er28) ?_
  rintro _ w29 ⟨s31,rfl,S2⟩
  replace S:=bk _ _ _ _ _ S2 rfl rfl
  refine wd (z7 rfl) (wd (zo rfl rfl) (wd (zo rfl rfl) (wd (zo rfl rfl) (wd (zo rfl rfl) ?_))))
  refine zO xd zbp fun b33 w32 hw32=>?_
  replace S:=S.new hw32
  refine zO ze_Nd zbp fun b35 w34 hw34=>?_
  replace S:=S.new hw34
  refine wsT rfl rfl (S.blk 1) fun w36 B hw36 zw36=>?_
  replace S:=S.store 1 B hw36
  refine zY yw rfl rfl (S.blk 1) (Nd.len _) (by rw [Nd.len]; decide) (Nd.one _) (xo (Nd.len _)) fun w37 B hw37 zw37=>?_
  replace S:=S.store 1 B hw37
  refine wd (zk rfl) (wd (zk rfl) (zd (zb (za (wd (zy rfl) (wd (zy rfl) ?_))))))
  obtain ⟨r38,er38,H⟩ := zq H
  obtain ⟨_,_,T,bk⟩ := S.calln 0 ((.nil))
  refine zB (zx zab) zbp (zae T er38) ?_
  rintro _ w39 ⟨rfl,S2⟩
  replace S:=bk _ _ _ _ S2 rfl
  refine wd (zh rfl) (zd (zt ?_))
  refine ⟨_,(zP (zg rfl)),?_⟩
  replace S:=S.arr [] []
  obtain rfl:=zbt H
  exact ⟨rfl,S⟩
 replace H:=if_f hc24 H
 refine zb (za (wd (zL rfl rfl) (wd (zk rfl) (zd ?_))))
 refine zF rfl (fun hc41=>?_) (fun hc41=>?_)
 ·replace H:=if_t hc41 H
  refine zb (za (wd (zD rfl) (wd (ze zw rfl (o':=4) rfl) (wd (zl zr rfl ((S.blk 0).cell (Term.get_sub _))) ?_))))
  obtain ⟨hi42,H⟩ := zU H
  refine wd (does_indexF zp rfl rfl (S.onZ 1) (zC hi42).1 (zC hi42).2) ?_
  obtain ⟨s43,hc44,S⟩ := S.viewTerm 1 (zC hi42)
  replace S:=S
  refine wd (ldC rfl hc44) ?_
  obtain ⟨r45,er45,H⟩ := zq H
  obtain ⟨_,_,T,bk⟩ := S.sub [1,0] [] [oB b2 zj (tmC a1 s_1)]
  refine zB (zx yK) zbp (yL (a1:=(kd a1 0)) T er45) ?_
  rintro _ w46 ⟨s48,rfl,S2⟩
  replace S:=bk _ _ _ _ _ S2 rfl rfl
  refine wd (z7 rfl) (wd (zo rfl rfl) (wd (zo rfl rfl) (wd (zo rfl rfl) (wd (zo rfl rfl) ?_))))
  refine zO xd zbp fun b50 w49 hw49=>?_
  replace S:=S.new hw49
  refine zO ze_Nd zbp fun b52 w51 hw51=>?_
  replace S:=S.new hw51
  refine wsT rfl rfl (S.blk 1) fun w53 B hw53 zw53=>?_
  replace S:=S.store 1 B hw53
  refine zY yw rfl rfl (S.blk 1) (Nd.len _) (by rw [Nd.len]; decide) (Nd.one _) (xo (Nd.len _)) fun w54 B hw54 zw54=>?_
  replace S:=S.store 1 B hw54
  refine wd (zk rfl) (wd (zk rfl) (zd (zb (zb (za (wd (zy rfl) (wd (xc rfl) (zd ?_))))))))
  refine zF rfl (fun hc55=>?_) (fun hc55=>?_)
  ·replace H:=if_t hc55 H
   refine za (wd (zD rfl) (wd (ze zw rfl (o':=4) rfl) (wd (zl zr rfl ((S.blk 2).cell (Term.get_sub _))) ?_)))
   obtain ⟨hi56,H⟩ := zU H
   refine wd (does_indexF zp rfl rfl (S.onZ 3) (zC hi56).1 (zC hi56).2) ?_
   obtain ⟨s57,hc58,S⟩ := S.viewTerm 3 (zC hi56)
   replace S:=S
   refine wd (ldC rfl hc58) ?_
   obtain ⟨r59,er59,H⟩ := zq H
   obtain ⟨_,_,T,bk⟩ := S.sub [3,0] [] [oB b52 T_Nd (Nd.C r45.2.1),oB b50 zj (tmC r45.1 s48),oB b2 zj (tmC a1 s_1)]
   refine zB (zx yK) zbp (yL (a1:=(kd a1 0)) T er59) ?_
   rintro _ w60 ⟨s62,rfl,S2⟩
   replace S:=bk _ _ _ _ _ S2 rfl rfl
   refine wd (z7 rfl) (wd (zo rfl rfl) (wd (zo rfl rfl) (wd (zo rfl rfl) (wd (zo rfl rfl) (wd (zk rfl) ?_)))))
   refine wd (zk rfl) (zd (zb (za (wd (zy rfl) (wd (zy rfl) ?_)))))
   obtain ⟨r63,er63,H⟩ := zq H
   obtain ⟨_,_,T,bk⟩ := S.calln 0 ((.nil))
   refine zB (zx zab) zbp (zae T er63) ?_
   rintro _ w64 ⟨rfl,S2⟩
   replace S:=bk _ _ _ _ S2 rfl
   refine wd (zh rfl) (zd (zt ?_))
   refine ⟨_,(zP (zg rfl)),?_⟩
   replace S:=S.arr [] []
   obtain rfl:=zbt H
   exact ⟨rfl,S⟩
  ·replace H:=if_f hc55 H
   refine zu (zb (za (wd (zy rfl) (wd (zy rfl) ?_))))
   obtain ⟨r66,er66,H⟩ := zq H
   obtain ⟨_,_,T,bk⟩ := S.calln 0 ((.nil))
   refine zB (zx zab) zbp (zae T er66) ?_
   rintro _ w67 ⟨rfl,S2⟩
   replace S:=bk _ _ _ _ S2 rfl
   refine wd (zh rfl) (zd (zt ?_))
   refine ⟨_,(zP (zg rfl)),?_⟩
   replace S:=S.arr [] []
   obtain rfl:=zbt H
   exact ⟨rfl,S⟩
 replace H:=if_f hc41 H
 refine zb (za (wd (zL rfl rfl) (wd (zk rfl) (zd ?_))))
 refine zF rfl (fun hc69=>?_) (fun hc69=>?_)
 ·replace H:=if_t hc69 H
  refine zb (za (wd (zh rfl) (zd (zt ?_))))
  refine ⟨_,(zP (zg rfl)),?_⟩
  replace S:=S.arr [] []
  obtain rfl:=zbt H
  exact ⟨rfl,S⟩
 replace H:=if_f hc69 H
 refine zb (za (wd (zL rfl rfl) (wd (zk rfl) (zd ?_))))
 refine zF rfl (fun hc70=>?_) (fun hc70=>?_)
 ·replace H:=if_t hc70 H
  refine zb (za (wd (ze zw rfl (o':=4) rfl) (wd (zl zr rfl ((S.blk 0).cell (Term.get_sub _))) ?_)))
  obtain ⟨hi71,H⟩ := zU H
  refine wd (does_indexF zp rfl rfl (S.onZ 1) (zC hi71).1 (zC hi71).2) (wd (ze zV rfl (o':=_) rfl) (wd (zl zM rfl (yM.get_kind (S.onZ 1) (zC hi71))) (wd (zh rfl) (zd (zb (za ?_))))))
  refine wd (zi rfl) (wd (zL rfl rfl) (wd (zy rfl) ?_))
  refine wg (fun hg=>zi rfl) ?_
  refine wg (fun hg=>zL (zn hg) rfl) (wd (xq rfl (fun hp=>(zn (xe hp)))) (wd (zy rfl) ?_))
  refine wg (fun hg=>zi rfl) ?_
  refine wg (fun hg=>zL (zn hg) rfl) (wd (xq rfl (fun hp=>(zn (xe hp)))) (wd (zy rfl) ?_))
  refine wg (fun hg=>zi rfl) ?_
  refine wg (fun hg=>zL (zn hg) rfl) (wd (xq rfl (fun hp=>(zn (xe hp)))) (wd (zy rfl) ?_))
  refine wg (fun hg=>zi rfl) ?_
  refine wg (fun hg=>zL (zn hg) rfl) (wd (xq rfl (fun hp=>(zn (xe hp)))) (zd ?_))
  refine zF rfl (fun hc72=>?_) (fun hc72=>?_)
  ·replace H:=if_t hc72 H
   refine zb (za (wd (zh rfl) (zd (zt ?_))))
   refine ⟨_,(zP (zg rfl)),?_⟩
   replace S:=S.arr [] []
   obtain rfl:=zbt H
   exact ⟨rfl,S⟩
  replace H:=if_f hc72 H
  refine zu (zb (za (wd (zh rfl) (zd (zt ?_)))))
  refine ⟨_,(zP (zg rfl)),?_⟩
  replace S:=S.arr [] []
  obtain rfl:=zbt H
  exact ⟨rfl,S⟩
 ·replace H:=if_f hc70 H
  refine zu (zb (za (wd (zh rfl) (zd (zt ?_)))))
  refine ⟨_,(zP (zg rfl)),?_⟩
  replace S:=S.arr [] []
  obtain rfl:=zbt H
  exact ⟨rfl,S⟩
theorem ref14_contract_st {a0:Tb} {a_0:Option Addr} {a1:PTerm} {s_1:SlV} (S:St A N w w [] [oR a_0 a0,zf s_1 a1.sub]) {k:Nat} {r:PTerm × Int} (H:zdD.f k a0 a1=some r) :
  Calls PP zaY #[.pointer a_0,.agg (tmC a1 s_1).toArray] w <| Rt fun v w'=>(∃ so0:SlV,v = .tuple #[.agg (tmC r.1 so0).toArray,.int .i64 r.2]∧St A N w w' [] [zf so0 r.1.sub]):=by
 unfold zdD.f at H
 refine zA (n:=194) Tryz.func71 rfl rfl zbr (zb (za ?_))
 refine zI rfl zbp fun b2 w1 hw1=>?_
 replace S:=S.new hw1
 refine zO xd zbp fun b4 w3 hw3=>?_
 replace S:=S.new hw3
 refine wd (zh rfl) (zd (zb (zb (za (wd (zD rfl) (wd (ldT rfl (S.blk 1)) ?_))))))
 obtain ⟨r5,er5,H⟩ := zq H
 obtain ⟨_,_,T,bk⟩ := S.calln 0 ((.z 0 rfl (.z 1 rfl .nil)))
 refine zB (zx ca_ref14_Row) zbp (ref14_Row_st (a1:=a1) T er5) ?_
 rintro _ w6 ⟨rfl,S2⟩
 replace S:=bk _ _ _ _ S2 rfl
 refine zd ?_
 refine zK (zb (zb (za (wd (zL rfl rfl) (wd (zk rfl) (zd ?_))))))
 replace S:=S.nilTm
 obtain ⟨o8,e8,Ho8⟩ := zq H
 replace H:=e8; clear e8
 refine xr [29,31] (fun fr W=>fr 29 = .bool o8∧St A N w W [oB b4 zj (Term.C tmZ),oB b2 zj (tmC a1 s_1)] [zf SlV.nil ([]),oR a_0 a0,zf s_1 a1.sub]) ?_ ?_
 ·refine zF rfl (fun hc9=>?_) (fun hc9=>?_)
  ·replace H:=if_t hc9 H
   refine zu ?_
   obtain rfl:=zbt H
   exact ⟨rfl,df,rfl,S⟩
  ·replace H:=if_f hc9 H
   refine za (wd (zL rfl rfl) (wd (zk rfl) (zd ?_)))
   obtain rfl:=zbt H
   exact ⟨rfl,df,rfl,S⟩
 rintro g10 u11 ⟨p8_29,S⟩
 have H:=Ho8
 refine zF p8_29 (fun hc12=>?_) (fun hc12=>?_)
 ·replace H:=if_t hc12 H
  refine zb (za (wd (zD rfl) (wd (ze zw rfl (o':=4) rfl) (wd (zl zr rfl ((S.blk 1).cell (Term.get_sub _))) ?_))))
  obtain ⟨hi13,H⟩ := zU H
  refine wd (does_indexF zp rfl rfl (S.onZ 2) (zC hi13).1 (zC hi13).2) ?_
  obtain ⟨s14,hc15,S⟩ := S.viewTerm 2 (zC hi13)
  replace S:=S
  refine wd (ldC rfl hc15) ?_
  obtain ⟨r16,er16,H⟩ := zq H
  obtain ⟨_,_,T,bk⟩ := S.sub [2,0] [] [oB b4 zj (Term.C tmZ),oB b2 zj (tmC a1 s_1)]
  refine zB (zx yK) zbp (yL (a1:=(kd a1 0)) T er16) ?_
  rintro _ w17 ⟨s19,rfl,S2⟩
  replace S:=bk _ _ _ _ _ S2 rfl rfl
  refine wd (z7 rfl) (wd (zo rfl rfl) (wd (zo rfl rfl) (wd (zo rfl rfl) (wd (zo rfl rfl) ?_))))
  refine zO xd zbp fun b21 w20 hw20=>?_
  replace S:=S.new hw20
  refine zO ze_Nd zbp fun b23 w22 hw22=>?_
  replace S:=S.new hw22
  refine wsT rfl rfl (S.blk 1) fun w24 B hw24 zw24=>?_
  replace S:=S.store 1 B hw24
  refine zY yw rfl rfl (S.blk 1) (Nd.len _) (by rw [Nd.len]; decide) (Nd.one _) (xo (Nd.len _)) fun w25 B hw25 zw25=>?_
  replace S:=S.store 1 B hw25
  refine wd (zk rfl) (wd (zk rfl) (zd (zb (zb (za (wd (zy rfl) (wd (xc rfl) (zd ?_))))))))
  refine zF rfl (fun hc26=>?_) (fun hc26=>?_)
  ·replace H:=if_t hc26 H
   refine zb ?_
   refine wc_ws hmix fun w34 K=>?_
   replace S:=S.ext K
   clear K
   obtain ⟨hi35,H⟩ := zU H
   obtain ⟨s36,hc37,S⟩ := S.viewTerm 0 (zC hi35)
   replace S:=S.zs [1,2,3,4,5,0]
   obtain ⟨hi38,H⟩ := zU H
   obtain ⟨s39,hc40,S⟩ := S.viewTerm 4 (zC hi38)
   replace S:=S.zs [1,2,3,4,5,6,0]
   refine yO 0 10 [] zbs zbp zbs
    (V:=fun i v u=>match i with
    | _=>True) ?_ ?_
   ·intro i v u u' hi hx hv
    match i,hv with
    | _,_=>exact trivial
   refine zR (fun v K=>ze zw rfl (o':=4) rfl) rfl (zR (fun v K=>zl zr rfl (((S.ext K).blk 1).cell (Term.get_sub _))) rfl (zR (fun v K=>does_indexF zp rfl rfl ((S.ext K).onZ 0) (zC hi35).1 (zC hi35).2) rfl (zR (fun v K=>zz zX rfl (hc37.chg K (fun x=>x)) (Term.len _)) rfl (zR (fun v K=>ze xz rfl (o':=1) rfl) rfl (zR (fun v K=>zl xf rfl (((S.ext K).blk 1).cell (Term.get_name _))) rfl ?_)))))
   refine zR (fun v K=>ze zw rfl (o':=4) rfl) rfl (zR (fun v K=>zl zr rfl (((S.ext K).blk 3).cell (Term.get_sub _))) rfl (zR (fun v K=>does_indexF zp rfl rfl ((S.ext K).onZ 4) (zC hi38).1 (zC hi38).2) rfl (zR (fun v K=>zz zX rfl (hc40.chg K (fun x=>x)) (Term.len _)) rfl ?_)))
   refine vB fun g w41 K hV=>?_
   replace S:=S.ext K
   clear K hV
   refine uQ 10 11 zbs zbp ?_
   obtain ⟨r43,er43,H⟩ := zq H
   obtain ⟨_,_,T,bk⟩ := S.sub [5,6] [] [oB b23 T_Nd (Nd.C r16.2.1),oB b21 zj (tmC r16.1 s19),oB b4 zj (Term.C tmZ),oB b2 zj (tmC a1 s_1)]
   refine zB (zx jQ) zbp (j1 (a0:=(kd r16.1 0)) (a2:=(kd a1 1)) T er43) ?_
   rintro _ w44 ⟨s46,rfl,S2⟩
   replace S:=bk _ _ _ _ _ S2 rfl rfl
   refine zd ⟨rfl,?_⟩
   refine yO 11 13 [] zbs zbp zbs
    (V:=fun i v u=>match i with
    | _=>True) ?_ ?_
   ·intro i v u u' hi hx hv
    match i,hv with
    | _,_=>exact trivial
   refine zR (fun v K=>zo rfl rfl) rfl (zR (fun v K=>zo rfl rfl) rfl ?_)
   refine vB fun g w47 K hV=>?_
   replace S:=S.ext K
   clear K hV
   refine j4 13 zbs zbp ?_
   refine wsT rfl rfl (S.blk 2) fun w49 B hw49 zw49=>?_
   replace S:=S.store 2 B hw49
   refine wd (zh rfl) (zd (zt ?_))
   refine ⟨_,(xi (rtT rfl (S.blk 0)) (zg rfl)),?_⟩
   replace S:=S.arr [] [0]
   obtain rfl:=zbt H
   exact ⟨s46,rfl,S⟩
  replace H:=if_f hc26 H
  refine zu (zb ?_)
  obtain ⟨hi57,H⟩ := zU H
  obtain ⟨hi59,H⟩ := zU H
  obtain ⟨r61,er61,H⟩ := zq H
  obtain ⟨r65,er65,H⟩ := zq H
  obtain ⟨s58,S⟩ := S.viewTermC 0 (zC hi57)
  replace S:=S
  obtain ⟨s60,S⟩ := S.viewTermC 6 (zC hi59)
  replace S:=S.zs [4,5,6,7,8,2,3,0,1]
  refine x8 19 ⟨fun _ _=>True,fun _ _ _=>True,fun i v _=>match i with
   | 0=>v=Value.pointer (some ⟨b21,4,none⟩)
   | 1=>v=s19.v
   | 2=>v=Value.pointer (some ⟨s19.blk,s19.off + Int.toNat 0 * 5,none⟩)
   | 3=>v=Value.agg (tmC (kd r16.1 0) s58).toArray
   | 4=>v=Value.pointer (some ⟨b21,1,none⟩)
   | 5=>v=Value.string r16.1.name
   | 6=>v=Value.pointer (some ⟨b2,4,none⟩)
   | 7=>v=s_1.v
   | 8=>v=Value.pointer (some ⟨s_1.blk,s_1.off + Int.toNat 1 * 5,none⟩)
   | 9=>v=Value.agg (tmC (kd a1 1) s60).toArray
   | 10=>v=Value.pointer (some ⟨b23,2,none⟩)
   | 11=>v=Value.int .i64 r16.2.1.l
   | 16=>v=Value.int .i64 r65.2
   | _=>True⟩ (fun L g v => ∃ b70:Nat,∃ s72:SlV,∃ O74:List OA,∃ Z73:List OA,(∀ z ∈ [zf s19 r16.1.sub,zf s14 ((kd a1 0).sub),zf SlV.nil ([]),oR a_0 a0,zf s_1 a1.sub,oCl s19.blk (s19.off + Int.toNat 0 * 5) (tmC (kd r16.1 0) s58),zf s58 ((kd r16.1 0).sub),oCl s_1.blk (s_1.off + Int.toNat 1 * 5) (tmC (kd a1 1) s60),zf s60 ((kd a1 1).sub)],z ∈ Z73)∧Made L g Z73 12 71 (fun (c:SlV)=>Value.agg (tmC r61 c).toArray) (fun (c:SlV)=>[zf c r61.sub])∧Made L g Z73 13 72 (fun (c:SlV)=>Value.tuple #[.agg (tmC r65.1 c).toArray,.int .i64 r65.2]) (fun (c:SlV)=>[zf c r65.1.sub])∧Made L g Z73 14 58 (fun (c:SlV)=>Value.tuple #[.agg (tmC r65.1 c).toArray,.int .i64 r65.2]) (fun (c:SlV)=>[zf c r65.1.sub])∧Made L g Z73 15 73 (fun (c:SlV)=>Value.agg (tmC r65.1 c).toArray) (fun (c:SlV)=>[zf c r65.1.sub])∧(L 17=true→g 10=Value.pointer (some ⟨b70,0,none⟩))∧(L 18=true → ∀ z ∈ [zf s72 r65.1.sub],z ∈ Z73)∧O74=((bif L 18 then [oB b70 zj (tmC r65.1 s72)] else (bif L 17 then [oB b70 zj (Term.C tmZ)] else [])) ++ [oB b23 T_Nd (Nd.C r16.2.1),oB b21 zj (tmC r16.1 s19),oB b4 zj (Term.C tmZ),oB b2 zj (tmC a1 s_1)])∧St A N w v O74 Z73) hmix zbs (fun _ _ _ _ _ _ _ hv=>hv) (fun g=>⟨0,SlV.nil,_,_,fun _ h=>h,Made.no,Made.no,Made.no,Made.no,(fun h=>by cases h),(fun h=>by cases h),rfl,S.ext (Ext.drawn _)⟩) ⟨?_,?_,?_,?_,?_,?_,?_,?_,?_,?_,?_,?_,?_,?_,?_,?_,?_,?_,?_,trivial⟩ ?_
  ·rintro L g v hL hcl hclo ⟨b70,s72,O74,Z73,hZ,hm12,hm13,hm14,hm15,hk17,hq18,hO,S⟩ 
   have hl18:=clF hL (hclo 18 0 · zbs)
   have SR:St A N w v [oB b23 T_Nd (Nd.C r16.2.1),oB b21 zj (tmC r16.1 s19),oB b4 zj (Term.C tmZ),oB b2 zj (tmC a1 s_1)] (zf s19 r16.1.sub :: zf s14 ((kd a1 0).sub) :: zf SlV.nil ([]) :: oR a_0 a0 :: zf s_1 a1.sub :: oCl s19.blk (s19.off + Int.toNat 0 * 5) (tmC (kd r16.1 0) s58) :: zf s58 ((kd r16.1 0).sub) :: oCl s_1.blk (s_1.off + Int.toNat 1 * 5) (tmC (kd a1 1) s60) :: zf s60 ((kd a1 1).sub) :: Z73):=by
    have S2:=S.zneed hZ
    rw [hO] at S2
    simp only [hl18,cd2,la2] at S2
    exact S2.drops
   refine wd (ze zw rfl (o':=4) rfl) ?_
   exact w4 rfl ⟨b70,s72,O74,Z73,hZ,hm12.keep rfl rfl tl0,hm13.keep rfl rfl tl0,hm14.keep rfl rfl tl0,hm15.keep rfl rfl tl0,(kpU hk17),(kpZ tl0 hq18),by rw [hO]; simp only [pN L 0 17,pN L 0 18],S⟩
  ·rintro L g v hL hcl hclo ⟨b70,s72,O74,Z73,hZ,hm12,hm13,hm14,hm15,hk17,hq18,hO,S⟩ hv0
   have hl18:=clF hL (hclo 18 1 · zbs)
   have SR:St A N w v [oB b23 T_Nd (Nd.C r16.2.1),oB b21 zj (tmC r16.1 s19),oB b4 zj (Term.C tmZ),oB b2 zj (tmC a1 s_1)] (zf s19 r16.1.sub :: zf s14 ((kd a1 0).sub) :: zf SlV.nil ([]) :: oR a_0 a0 :: zf s_1 a1.sub :: oCl s19.blk (s19.off + Int.toNat 0 * 5) (tmC (kd r16.1 0) s58) :: zf s58 ((kd r16.1 0).sub) :: oCl s_1.blk (s_1.off + Int.toNat 1 * 5) (tmC (kd a1 1) s60) :: zf s60 ((kd a1 1).sub) :: Z73):=by
    have S2:=S.zneed hZ
    rw [hO] at S2
    simp only [hl18,cd2,la2] at S2
    exact S2.drops
   refine wd (zl zr hv0 ((SR.blk 1).cell (Term.get_sub _))) ?_
   exact w4 rfl ⟨b70,s72,O74,Z73,hZ,hm12.keep rfl rfl tl0,hm13.keep rfl rfl tl0,hm14.keep rfl rfl tl0,hm15.keep rfl rfl tl0,(kpU hk17),(kpZ tl0 hq18),by rw [hO]; simp only [pN L 1 17,pN L 1 18],S⟩
  ·rintro L g v hL hcl hclo ⟨b70,s72,O74,Z73,hZ,hm12,hm13,hm14,hm15,hk17,hq18,hO,S⟩ hv1
   have hl18:=clF hL (hclo 18 2 · zbs)
   have SR:St A N w v [oB b23 T_Nd (Nd.C r16.2.1),oB b21 zj (tmC r16.1 s19),oB b4 zj (Term.C tmZ),oB b2 zj (tmC a1 s_1)] (zf s19 r16.1.sub :: zf s14 ((kd a1 0).sub) :: zf SlV.nil ([]) :: oR a_0 a0 :: zf s_1 a1.sub :: oCl s19.blk (s19.off + Int.toNat 0 * 5) (tmC (kd r16.1 0) s58) :: zf s58 ((kd r16.1 0).sub) :: oCl s_1.blk (s_1.off + Int.toNat 1 * 5) (tmC (kd a1 1) s60) :: zf s60 ((kd a1 1).sub) :: Z73):=by
    have S2:=S.zneed hZ
    rw [hO] at S2
    simp only [hl18,cd2,la2] at S2
    exact S2.drops
   refine wd (does_indexF zp hv1 rfl (SR.onZ 0) (zC hi57).1 (zC hi57).2) ?_
   exact w4 rfl ⟨b70,s72,O74,Z73,hZ,hm12.keep rfl rfl tl0,hm13.keep rfl rfl tl0,hm14.keep rfl rfl tl0,hm15.keep rfl rfl tl0,(kpU hk17),(kpZ tl0 hq18),by rw [hO]; simp only [pN L 2 17,pN L 2 18],S⟩
  ·rintro L g v hL hcl hclo ⟨b70,s72,O74,Z73,hZ,hm12,hm13,hm14,hm15,hk17,hq18,hO,S⟩ hv2
   have hl18:=clF hL (hclo 18 3 · zbs)
   have SR:St A N w v [oB b23 T_Nd (Nd.C r16.2.1),oB b21 zj (tmC r16.1 s19),oB b4 zj (Term.C tmZ),oB b2 zj (tmC a1 s_1)] (zf s19 r16.1.sub :: zf s14 ((kd a1 0).sub) :: zf SlV.nil ([]) :: oR a_0 a0 :: zf s_1 a1.sub :: oCl s19.blk (s19.off + Int.toNat 0 * 5) (tmC (kd r16.1 0) s58) :: zf s58 ((kd r16.1 0).sub) :: oCl s_1.blk (s_1.off + Int.toNat 1 * 5) (tmC (kd a1 1) s60) :: zf s60 ((kd a1 1).sub) :: Z73):=by
    have S2:=S.zneed hZ
    rw [hO] at S2
    simp only [hl18,cd2,la2] at S2
    exact S2.drops
   refine wd (zz zX hv2 (SR.cl 5) (Term.len _)) ?_
   exact w4 rfl ⟨b70,s72,O74,Z73,hZ,hm12.keep rfl rfl tl0,hm13.keep rfl rfl tl0,hm14.keep rfl rfl tl0,hm15.keep rfl rfl tl0,(kpU hk17),(kpZ tl0 hq18),by rw [hO]; simp only [pN L 3 17,pN L 3 18],S⟩
  ·rintro L g v hL hcl hclo ⟨b70,s72,O74,Z73,hZ,hm12,hm13,hm14,hm15,hk17,hq18,hO,S⟩ 
   have hl18:=clF hL (hclo 18 4 · zbs)
   have SR:St A N w v [oB b23 T_Nd (Nd.C r16.2.1),oB b21 zj (tmC r16.1 s19),oB b4 zj (Term.C tmZ),oB b2 zj (tmC a1 s_1)] (zf s19 r16.1.sub :: zf s14 ((kd a1 0).sub) :: zf SlV.nil ([]) :: oR a_0 a0 :: zf s_1 a1.sub :: oCl s19.blk (s19.off + Int.toNat 0 * 5) (tmC (kd r16.1 0) s58) :: zf s58 ((kd r16.1 0).sub) :: oCl s_1.blk (s_1.off + Int.toNat 1 * 5) (tmC (kd a1 1) s60) :: zf s60 ((kd a1 1).sub) :: Z73):=by
    have S2:=S.zneed hZ
    rw [hO] at S2
    simp only [hl18,cd2,la2] at S2
    exact S2.drops
   refine wd (ze xz rfl (o':=1) rfl) ?_
   exact w4 rfl ⟨b70,s72,O74,Z73,hZ,hm12.keep rfl rfl tl0,hm13.keep rfl rfl tl0,hm14.keep rfl rfl tl0,hm15.keep rfl rfl tl0,(kpU hk17),(kpZ tl0 hq18),by rw [hO]; simp only [pN L 4 17,pN L 4 18],S⟩
  ·rintro L g v hL hcl hclo ⟨b70,s72,O74,Z73,hZ,hm12,hm13,hm14,hm15,hk17,hq18,hO,S⟩ hv4
   have hl18:=clF hL (hclo 18 5 · zbs)
   have SR:St A N w v [oB b23 T_Nd (Nd.C r16.2.1),oB b21 zj (tmC r16.1 s19),oB b4 zj (Term.C tmZ),oB b2 zj (tmC a1 s_1)] (zf s19 r16.1.sub :: zf s14 ((kd a1 0).sub) :: zf SlV.nil ([]) :: oR a_0 a0 :: zf s_1 a1.sub :: oCl s19.blk (s19.off + Int.toNat 0 * 5) (tmC (kd r16.1 0) s58) :: zf s58 ((kd r16.1 0).sub) :: oCl s_1.blk (s_1.off + Int.toNat 1 * 5) (tmC (kd a1 1) s60) :: zf s60 ((kd a1 1).sub) :: Z73):=by
    have S2:=S.zneed hZ
    rw [hO] at S2
    simp only [hl18,cd2,la2] at S2
    exact S2.drops
   refine wd (zl xf hv4 ((SR.blk 1).cell (Term.get_name _))) ?_
   exact w4 rfl ⟨b70,s72,O74,Z73,hZ,hm12.keep rfl rfl tl0,hm13.keep rfl rfl tl0,hm14.keep rfl rfl tl0,hm15.keep rfl rfl tl0,(kpU hk17),(kpZ tl0 hq18),by rw [hO]; simp only [pN L 5 17,pN L 5 18],S⟩
  ·rintro L g v hL hcl hclo ⟨b70,s72,O74,Z73,hZ,hm12,hm13,hm14,hm15,hk17,hq18,hO,S⟩ 
   have hl18:=clF hL (hclo 18 6 · zbs)
   have SR:St A N w v [oB b23 T_Nd (Nd.C r16.2.1),oB b21 zj (tmC r16.1 s19),oB b4 zj (Term.C tmZ),oB b2 zj (tmC a1 s_1)] (zf s19 r16.1.sub :: zf s14 ((kd a1 0).sub) :: zf SlV.nil ([]) :: oR a_0 a0 :: zf s_1 a1.sub :: oCl s19.blk (s19.off + Int.toNat 0 * 5) (tmC (kd r16.1 0) s58) :: zf s58 ((kd r16.1 0).sub) :: oCl s_1.blk (s_1.off + Int.toNat 1 * 5) (tmC (kd a1 1) s60) :: zf s60 ((kd a1 1).sub) :: Z73):=by
    have S2:=S.zneed hZ
    rw [hO] at S2
    simp only [hl18,cd2,la2] at S2
    exact S2.drops
   refine wd (ze zw rfl (o':=4) rfl) ?_
   exact w4 rfl ⟨b70,s72,O74,Z73,hZ,hm12.keep rfl rfl tl0,hm13.keep rfl rfl tl0,hm14.keep rfl rfl tl0,hm15.keep rfl rfl tl0,(kpU hk17),(kpZ tl0 hq18),by rw [hO]; simp only [pN L 6 17,pN L 6 18],S⟩
  ·rintro L g v hL hcl hclo ⟨b70,s72,O74,Z73,hZ,hm12,hm13,hm14,hm15,hk17,hq18,hO,S⟩ hv6
   have hl18:=clF hL (hclo 18 7 · zbs)
   have SR:St A N w v [oB b23 T_Nd (Nd.C r16.2.1),oB b21 zj (tmC r16.1 s19),oB b4 zj (Term.C tmZ),oB b2 zj (tmC a1 s_1)] (zf s19 r16.1.sub :: zf s14 ((kd a1 0).sub) :: zf SlV.nil ([]) :: oR a_0 a0 :: zf s_1 a1.sub :: oCl s19.blk (s19.off + Int.toNat 0 * 5) (tmC (kd r16.1 0) s58) :: zf s58 ((kd r16.1 0).sub) :: oCl s_1.blk (s_1.off + Int.toNat 1 * 5) (tmC (kd a1 1) s60) :: zf s60 ((kd a1 1).sub) :: Z73):=by
    have S2:=S.zneed hZ
    rw [hO] at S2
    simp only [hl18,cd2,la2] at S2
    exact S2.drops
   refine wd (zl zr hv6 ((SR.blk 3).cell (Term.get_sub _))) ?_
   exact w4 rfl ⟨b70,s72,O74,Z73,hZ,hm12.keep rfl rfl tl0,hm13.keep rfl rfl tl0,hm14.keep rfl rfl tl0,hm15.keep rfl rfl tl0,(kpU hk17),(kpZ tl0 hq18),by rw [hO]; simp only [pN L 7 17,pN L 7 18],S⟩
  ·rintro L g v hL hcl hclo ⟨b70,s72,O74,Z73,hZ,hm12,hm13,hm14,hm15,hk17,hq18,hO,S⟩ hv7
   have hl18:=clF hL (hclo 18 8 · zbs)
   have SR:St A N w v [oB b23 T_Nd (Nd.C r16.2.1),oB b21 zj (tmC r16.1 s19),oB b4 zj (Term.C tmZ),oB b2 zj (tmC a1 s_1)] (zf s19 r16.1.sub :: zf s14 ((kd a1 0).sub) :: zf SlV.nil ([]) :: oR a_0 a0 :: zf s_1 a1.sub :: oCl s19.blk (s19.off + Int.toNat 0 * 5) (tmC (kd r16.1 0) s58) :: zf s58 ((kd r16.1 0).sub) :: oCl s_1.blk (s_1.off + Int.toNat 1 * 5) (tmC (kd a1 1) s60) :: zf s60 ((kd a1 1).sub) :: Z73):=by
    have S2:=S.zneed hZ
    rw [hO] at S2
    simp only [hl18,cd2,la2] at S2
    exact S2.drops
   refine wd (does_indexF zp hv7 rfl (SR.onZ 4) (zC hi59).1 (zC hi59).2) ?_
   exact w4 rfl ⟨b70,s72,O74,Z73,hZ,hm12.keep rfl rfl tl0,hm13.keep rfl rfl tl0,hm14.keep rfl rfl tl0,hm15.keep rfl rfl tl0,(kpU hk17),(kpZ tl0 hq18),by rw [hO]; simp only [pN L 8 17,pN L 8 18],S⟩
  ·rintro L g v hL hcl hclo ⟨b70,s72,O74,Z73,hZ,hm12,hm13,hm14,hm15,hk17,hq18,hO,S⟩ hv8
   have hl18:=clF hL (hclo 18 9 · zbs)
   have SR:St A N w v [oB b23 T_Nd (Nd.C r16.2.1),oB b21 zj (tmC r16.1 s19),oB b4 zj (Term.C tmZ),oB b2 zj (tmC a1 s_1)] (zf s19 r16.1.sub :: zf s14 ((kd a1 0).sub) :: zf SlV.nil ([]) :: oR a_0 a0 :: zf s_1 a1.sub :: oCl s19.blk (s19.off + Int.toNat 0 * 5) (tmC (kd r16.1 0) s58) :: zf s58 ((kd r16.1 0).sub) :: oCl s_1.blk (s_1.off + Int.toNat 1 * 5) (tmC (kd a1 1) s60) :: zf s60 ((kd a1 1).sub) :: Z73):=by
    have S2:=S.zneed hZ
    rw [hO] at S2
    simp only [hl18,cd2,la2] at S2
    exact S2.drops
   refine wd (zz zX hv8 (SR.cl 7) (Term.len _)) ?_
   exact w4 rfl ⟨b70,s72,O74,Z73,hZ,hm12.keep rfl rfl tl0,hm13.keep rfl rfl tl0,hm14.keep rfl rfl tl0,hm15.keep rfl rfl tl0,(kpU hk17),(kpZ tl0 hq18),by rw [hO]; simp only [pN L 9 17,pN L 9 18],S⟩
  ·rintro L g v hL hcl hclo ⟨b70,s72,O74,Z73,hZ,hm12,hm13,hm14,hm15,hk17,hq18,hO,S⟩ 
   have hl18:=clF hL (hclo 18 10 · zbs)
   have SR:St A N w v [oB b23 T_Nd (Nd.C r16.2.1),oB b21 zj (tmC r16.1 s19),oB b4 zj (Term.C tmZ),oB b2 zj (tmC a1 s_1)] (zf s19 r16.1.sub :: zf s14 ((kd a1 0).sub) :: zf SlV.nil ([]) :: oR a_0 a0 :: zf s_1 a1.sub :: oCl s19.blk (s19.off + Int.toNat 0 * 5) (tmC (kd r16.1 0) s58) :: zf s58 ((kd r16.1 0).sub) :: oCl s_1.blk (s_1.off + Int.toNat 1 * 5) (tmC (kd a1 1) s60) :: zf s60 ((kd a1 1).sub) :: Z73):=by
    have S2:=S.zneed hZ
    rw [hO] at S2
    simp only [hl18,cd2,la2] at S2
    exact S2.drops
   refine wd (ze jR rfl (o':=2) rfl) ?_
   exact w4 rfl ⟨b70,s72,O74,Z73,hZ,hm12.keep rfl rfl tl0,hm13.keep rfl rfl tl0,hm14.keep rfl rfl tl0,hm15.keep rfl rfl tl0,(kpU hk17),(kpZ tl0 hq18),by rw [hO]; simp only [pN L 10 17,pN L 10 18],S⟩
  ·rintro L g v hL hcl hclo ⟨b70,s72,O74,Z73,hZ,hm12,hm13,hm14,hm15,hk17,hq18,hO,S⟩ hv10
   have hl18:=clF hL (hclo 18 11 · zbs)
   have SR:St A N w v [oB b23 T_Nd (Nd.C r16.2.1),oB b21 zj (tmC r16.1 s19),oB b4 zj (Term.C tmZ),oB b2 zj (tmC a1 s_1)] (zf s19 r16.1.sub :: zf s14 ((kd a1 0).sub) :: zf SlV.nil ([]) :: oR a_0 a0 :: zf s_1 a1.sub :: oCl s19.blk (s19.off + Int.toNat 0 * 5) (tmC (kd r16.1 0) s58) :: zf s58 ((kd r16.1 0).sub) :: oCl s_1.blk (s_1.off + Int.toNat 1 * 5) (tmC (kd a1 1) s60) :: zf s60 ((kd a1 1).sub) :: Z73):=by
    have S2:=S.zneed hZ
    rw [hO] at S2
    simp only [hl18,cd2,la2] at S2
    exact S2.drops
   refine wd (zl xK hv10 ((SR.blk 0).cell (Nd.get_l _))) ?_
   exact w4 rfl ⟨b70,s72,O74,Z73,hZ,hm12.keep rfl rfl tl0,hm13.keep rfl rfl tl0,hm14.keep rfl rfl tl0,hm15.keep rfl rfl tl0,(kpU hk17),(kpZ tl0 hq18),by rw [hO]; simp only [pN L 11 17,pN L 11 18],S⟩
  ·rintro L g v hL hcl hclo ⟨b70,s72,O74,Z73,hZ,hm12,hm13,hm14,hm15,hk17,hq18,hO,S⟩ hv9 hv11
   have hl18:=clF hL (hclo 18 12 · zbs)
   replace S:=(S.zneed hZ)
   obtain ⟨_,_,T,bk⟩ := S.sub [8] [] (O74)
   refine zB (zJ zac (zQ hv9 (zQ hv11 rfl))) zbp (zaf (a0:=(kd a1 1)) T er61) ?_
   rintro _ w78 ⟨s80,rfl,S2⟩
   replace S:=bk _ _ _ _ _ S2 rfl rfl
   exact w4 trivial ⟨b70,s72,O74,_,(fun z h=>tl10 z (hZ z h)),Made.one (val:=(fun (c:SlV)=>Value.agg (tmC r61 c).toArray)) (ps:=(fun (c:SlV)=>[zf c r61.sub])) s80 (xQ List.mem_cons_self x7),hm13.keep rfl rfl tl10,hm14.keep rfl rfl tl10,hm15.keep rfl rfl tl10,(kpU hk17),(kpZ tl10 hq18),by rw [hO]; simp only [pN L 12 17,pN L 12 18],S⟩
  ·rintro L g v hL hcl hclo ⟨b70,s72,O74,Z73,hZ,hm12,hm13,hm14,hm15,hk17,hq18,hO,S⟩ hv3 hv5 _
   obtain ⟨s64,he12,hp12⟩ := hm12 (hcl 12 zbs)
   have hl18:=clF hL (hclo 18 13 · zbs)
   replace S:=(S.zneed (xw (l1:=[zf s64 r61.sub]) hp12 hZ))
   obtain ⟨_,_,T,bk⟩ := S.sub [7,0] [] (O74)
   refine zB (zJ jQ (zQ hv3 (zQ hv5 (zQ he12 rfl)))) zbp (j1 (a0:=(kd r16.1 0)) (a2:=r61) T er65) ?_
   rintro _ w82 ⟨s84,rfl,S2⟩
   replace S:=bk _ _ _ _ _ S2 rfl rfl
   exact w4 trivial ⟨b70,s72,O74,_,(fun z h=>tl11 z (hZ z h)),hm12.keep rfl rfl tl11,Made.one (val:=(fun (c:SlV)=>Value.tuple #[.agg (tmC r65.1 c).toArray,.int .i64 r65.2])) (ps:=(fun (c:SlV)=>[zf c r65.1.sub])) s84 (xQ List.mem_cons_self x7),hm14.keep rfl rfl tl11,hm15.keep rfl rfl tl11,(kpU hk17),(kpZ tl11 hq18),by rw [hO]; simp only [pN L 13 17,pN L 13 18],S⟩
  ·rintro L g v hL hcl hclo ⟨b70,s72,O74,Z73,hZ,hm12,hm13,hm14,hm15,hk17,hq18,hO,S⟩ _
   obtain ⟨s68,he13,hp13⟩ := hm13 (hcl 13 zbs)
   have hl18:=clF hL (hclo 18 14 · zbs)
   replace S:=(S.zneed (xw (l1:=[zf s68 r65.1.sub]) hp13 hZ))
   refine wd (z7 he13) ?_
   exact w4 trivial ⟨b70,s72,O74,_,(fun z h=>tl10 z (hZ z h)),hm12.keep rfl rfl tl10,hm13.keep rfl rfl tl10,Made.one (val:=(fun (c:SlV)=>Value.tuple #[.agg (tmC r65.1 c).toArray,.int .i64 r65.2])) (ps:=(fun (c:SlV)=>[zf c r65.1.sub])) s68 (xQ List.mem_cons_self x7),hm15.keep rfl rfl tl10,(kpU hk17),(kpZ tl10 hq18),by rw [hO]; simp only [pN L 14 17,pN L 14 18],S⟩
  ·rintro L g v hL hcl hclo ⟨b70,s72,O74,Z73,hZ,hm12,hm13,hm14,hm15,hk17,hq18,hO,S⟩ _
   obtain ⟨s68,he14,hp14⟩ := hm14 (hcl 14 zbs)
   have hl18:=clF hL (hclo 18 15 · zbs)
   replace S:=(S.zneed (xw (l1:=[zf s68 r65.1.sub]) hp14 hZ))
   refine wd (zo he14 rfl) ?_
   exact w4 trivial ⟨b70,s72,O74,_,(fun z h=>tl10 z (hZ z h)),hm12.keep rfl rfl tl10,hm13.keep rfl rfl tl10,hm14.keep rfl rfl tl10,Made.one (val:=(fun (c:SlV)=>Value.agg (tmC r65.1 c).toArray)) (ps:=(fun (c:SlV)=>[zf c r65.1.sub])) s68 (xQ List.mem_cons_self x7),(kpU hk17),(kpZ tl10 hq18),by rw [hO]; simp only [pN L 15 17,pN L 15 18],S⟩
  ·rintro L g v hL hcl hclo ⟨b70,s72,O74,Z73,hZ,hm12,hm13,hm14,hm15,hk17,hq18,hO,S⟩ _
   obtain ⟨s68,he14,hp14⟩ := hm14 (hcl 14 zbs)
   have SR:St A N w v [oB b23 T_Nd (Nd.C r16.2.1),oB b21 zj (tmC r16.1 s19),oB b4 zj (Term.C tmZ),oB b2 zj (tmC a1 s_1)] (zf s68 r65.1.sub :: zf s19 r16.1.sub :: zf s14 ((kd a1 0).sub) :: zf SlV.nil ([]) :: oR a_0 a0 :: zf s_1 a1.sub :: oCl s19.blk (s19.off + Int.toNat 0 * 5) (tmC (kd r16.1 0) s58) :: zf s58 ((kd r16.1 0).sub) :: oCl s_1.blk (s_1.off + Int.toNat 1 * 5) (tmC (kd a1 1) s60) :: zf s60 ((kd a1 1).sub) :: Z73):=by
    have S2:=S.zneed (xw (l1:=[zf s68 r65.1.sub]) hp14 hZ)
    rw [hO] at S2
    exact S2.drops
   refine wd (zo he14 rfl) ?_
   exact w4 rfl ⟨b70,s72,O74,Z73,hZ,hm12.keep rfl rfl tl0,hm13.keep rfl rfl tl0,hm14.keep rfl rfl tl0,hm15.keep rfl rfl tl0,(kpU hk17),(kpZ tl0 hq18),by rw [hO]; simp only [pN L 16 17,pN L 16 18],S⟩
  ·rintro L g v hL hcl hclo ⟨b70,s72,O74,Z73,hZ,hm12,hm13,hm14,hm15,hk17,hq18,hO,S⟩ 
   have hl17:L 17=false:=hL
   have hl18:=clF hL (hclo 18 17 · zbs)
   have hOP : ∃ P Y,P=[]∧Y=[oB b23 T_Nd (Nd.C r16.2.1),oB b21 zj (tmC r16.1 s19),oB b4 zj (Term.C tmZ),oB b2 zj (tmC a1 s_1)]∧O74=P ++ ([] ++ Y):=⟨_,_,rfl,rfl,by rw [hO]; simp only [hl17,hl18,cd2,la2]⟩
   obtain ⟨P,Y,hP,hY,hPY⟩ := hOP
   rw [hPY] at S
   replace S:=S
   refine zO xd zbp fun b86 w85 hw85=>?_
   replace S:=S.new hw85
   refine w4 trivial ⟨b86,s72,P ++ ([oB b86 zj (Term.C tmZ)] ++ Y),_,hZ,hm12.keep rfl rfl tl0,hm13.keep rfl rfl tl0,hm14.keep rfl rfl tl0,hm15.keep rfl rfl tl0,(fun _=>upd_same _ _ _),(kpZ tl0 hq18),?_,S.ins (P:=[oB b86 zj (Term.C tmZ)])⟩
   rw [hP,hY]; simp only [pN L 17 18,xB (L:=L) (i:=17),hl18,cd2,la2]
  ·rintro L g v hL hcl hclo ⟨b70,s72,O74,Z73,hZ,hm12,hm13,hm14,hm15,hk17,hq18,hO,S⟩ _ _
   obtain ⟨s68,he15,hp15⟩ := hm15 (hcl 15 zbs)
   have hl17:L 17=true:=hcl 17 zbs
   have hl18:L 18=false:=hL
   have hOP : ∃ P Y,P=[]∧Y=[oB b23 T_Nd (Nd.C r16.2.1),oB b21 zj (tmC r16.1 s19),oB b4 zj (Term.C tmZ),oB b2 zj (tmC a1 s_1)]∧O74=P ++ ([oB b70 zj (Term.C tmZ)] ++ Y):=⟨_,_,rfl,rfl,by rw [hO]; simp only [hl17,hl18,cd2,la2]⟩
   obtain ⟨P,Y,hP,hY,hPY⟩ := hOP
   rw [hPY] at S
   replace S:=(S.ins.zneed (xw (l1:=[zf s68 r65.1.sub]) hp15 hZ))
   refine wsT (hk17 (hcl 17 zbs)) he15 (S.blk 0) fun w87 B hw87 zw87=>?_
   replace S:=S.store 0 B hw87
   refine zd (ob40 trivial (fun _=>trivial) ⟨b70,s68,P ++ ([oB b70 zj (tmC r65.1 s68)] ++ Y),_,(fun z h=>tl10 z (hZ z h)),hm12.keep0 rfl tl10,hm13.keep0 rfl tl10,hm14.keep0 rfl tl10,hm15.keep0 rfl tl10,(kpP hk17),(fun _ z q=>tl10 z (hp15 z q)),?_,S.ins (P:=[oB b70 zj (tmC r65.1 s68)])⟩)
   rw [hP,hY]; simp only [pN L 18 17,xB (L:=L) (i:=18),hl17,cd2,la2]
  rintro L g w88 hLm ⟨b70,s72,O74,Z73,hZ,hm12,hm13,hm14,hm15,hk17,hq18,hO,S⟩ hv89_0 hv89_1 hv89_2 hv89_3 hv89_4 hv89_5 hv89_6 hv89_7 hv89_8 hv89_9 hv89_10 hv89_11 _ _ _ _ hv89_16 _ _
  have hLt : ∀ j,j < 19→L j=true:=fun j hj=>by rw [hLm]; exact decide_eq_true hj
  obtain ⟨s64,hv89_12,hp12⟩ := hm12 (hLt 12 zbp)
  obtain ⟨s68,hv89_15,hp15⟩ := hm15 (hLt 15 zbp)
  have hv89_17:=hk17 (hLt 17 zbp)
  simp only [hLt 17 zbp,hLt 18 zbp,cond_true,List.nil_append,List.cons_append] at hO
  rw [hO] at S
  replace hq18:=hq18 (hLt 18 zbp)
  replace S:=S.pickZ (xw (l1:=[zf s64 r61.sub]) hp12 (xw (l1:=[zf s68 r65.1.sub]) hp15 (xw (l1:=[zf s72 r65.1.sub]) hq18 hZ)))
  clear hp12 hp15 hZ hm12 hm13 hm14 hm15
  refine wd (zh hv89_16) (zd (zb (zb (za (wd (zi rfl) (wd (xp rfl rfl) (zd ?_)))))))
  refine zF rfl (fun hc90=>?_) (fun hc90=>?_)
  ·replace H:=if_t hc90 H
   refine zb (za (wd (zz zX hv89_17 ((S.blk 0).all _ (Term.len _)) (Term.len _)) (wd (zi rfl) ?_)))
   refine wsT rfl rfl (S.blk 3) fun w91 B hw91 zw91=>?_
   replace S:=S.store 3 B hw91
   refine wd (zh rfl) (zd (zt ?_))
   refine ⟨_,(xi (rtT rfl (S.blk 0)) (zg rfl)),?_⟩
   replace S:=S.arr [] [2]
   obtain rfl:=zbt H
   exact ⟨s72,rfl,S⟩
  replace H:=if_f hc90 H
  refine zu (zb (za (wd (zz zX hv89_17 ((S.blk 0).all _ (Term.len _)) (Term.len _)) (wd (ze jS rfl (o':=3) rfl) (wd (zl xK rfl ((S.blk 1).cell (Nd.get_r _))) ?_)))))
  obtain ⟨r92,er92,H⟩ := zq H
  obtain ⟨_,_,T,bk⟩ := S.sub [2] [] [oB b70 zj (tmC r65.1 s72),oB b23 T_Nd (Nd.C r16.2.1),oB b21 zj (tmC r16.1 s19),oB b4 zj (Term.C tmZ),oB b2 zj (tmC a1 s_1)]
  refine zB (zx zac) zbp (zaf (a0:=r65.1) T er92) ?_
  rintro _ w93 ⟨s95,rfl,S2⟩
  replace S:=bk _ _ _ _ _ S2 rfl rfl
  refine wsT rfl rfl (S.blk 3) fun w96 B hw96 zw96=>?_
  replace S:=S.store 3 B hw96
  refine wd (zh rfl) (zd (zt ?_))
  refine ⟨_,(xi (rtT rfl (S.blk 0)) (zg rfl)),?_⟩
  replace S:=S.arr [] [0]
  obtain rfl:=zbt H
  exact ⟨s95,rfl,S⟩
 replace H:=if_f hc12 H
 refine zb (zb (za (wd (zL rfl rfl) (wd (zk rfl) (zd ?_)))))
 obtain ⟨o97,e97,Ho97⟩ := zq H
 replace H:=e97; clear e97
 refine xr [83,85] (fun fr W=>fr 83 = .bool o97∧St A N w W [oB b4 zj (Term.C tmZ),oB b2 zj (tmC a1 s_1)] [zf SlV.nil ([]),oR a_0 a0,zf s_1 a1.sub]) ?_ ?_
 ·refine zF rfl (fun hc98=>?_) (fun hc98=>?_)
  ·replace H:=if_t hc98 H
   refine zu ?_
   obtain rfl:=zbt H
   exact ⟨rfl,df,rfl,S⟩
  ·replace H:=if_f hc98 H
   refine za (wd (zL rfl rfl) (wd (zk rfl) (zd ?_)))
   obtain rfl:=zbt H
   exact ⟨rfl,df,rfl,S⟩
 rintro g99 u100 ⟨p97_83,S⟩
 have H:=Ho97
 refine zF p97_83 (fun hc101=>?_) (fun hc101=>?_)
 ·replace H:=if_t hc101 H
  refine zb (za (wd (zD rfl) (wd (ze zw rfl (o':=4) rfl) (wd (zl zr rfl ((S.blk 1).cell (Term.get_sub _))) ?_))))
  obtain ⟨hi102,H⟩ := zU H
  refine wd (does_indexF zp rfl rfl (S.onZ 2) (zC hi102).1 (zC hi102).2) ?_
  obtain ⟨s103,hc104,S⟩ := S.viewTerm 2 (zC hi102)
  replace S:=S
  refine wd (ldC rfl hc104) ?_
  obtain ⟨r105,er105,H⟩ := zq H
  obtain ⟨_,_,T,bk⟩ := S.sub [2,0] [] [oB b4 zj (Term.C tmZ),oB b2 zj (tmC a1 s_1)]
  refine zB (zx yK) zbp (yL (a1:=(kd a1 0)) T er105) ?_
  rintro _ w106 ⟨s108,rfl,S2⟩
  replace S:=bk _ _ _ _ _ S2 rfl rfl
  refine wd (z7 rfl) (wd (zo rfl rfl) (wd (zo rfl rfl) (wd (zo rfl rfl) (wd (zo rfl rfl) ?_))))
  refine zO xd zbp fun b110 w109 hw109=>?_
  replace S:=S.new hw109
  refine zO ze_Nd zbp fun b112 w111 hw111=>?_
  replace S:=S.new hw111
  refine wsT rfl rfl (S.blk 1) fun w113 B hw113 zw113=>?_
  replace S:=S.store 1 B hw113
  refine zY yw rfl rfl (S.blk 1) (Nd.len _) (by rw [Nd.len]; decide) (Nd.one _) (xo (Nd.len _)) fun w114 B hw114 zw114=>?_
  replace S:=S.store 1 B hw114
  refine wd (zk rfl) (wd (zk rfl) (zd (zb ?_)))
  refine xT 3 (Ext w114) hmix zbs zbs (Ext.drawn _) (zE (fun v K=>ze jR rfl (o':=2) rfl) (zE (fun v K=>zl xK rfl (((S.ext K).blk 0).cell (Nd.get_l _))) (zE (fun v K=>zh rfl) ?_)))
  refine yE fun w115 K=>?_
  replace S:=S.ext K
  clear K
  refine wd (zh rfl) (zd (zb (zb (za (wd (ze zV rfl (o':=0) rfl) (wd (zl zM rfl ((S.blk 3).cell (Term.get_kind _))) (wd (zL rfl rfl) (zd ?_))))))))
  obtain ⟨o116,e116,Ho116⟩ := zq H
  replace H:=e116; clear e116
  let LT1:List OA:=[oB b112 T_Nd (Nd.C r105.2.1),oB b110 zj (tmC r105.1 s108),oB b4 zj (Term.C tmZ),oB b2 zj (tmC a1 s_1)]
  refine xr [16,17,102,103] (fun fr W=>fr 16 = .int .i64 o116.1∧fr 17 = .int .i64 o116.2∧St A N w W LT1 [zf s108 r105.1.sub,zf s103 ((kd a1 0).sub),zf SlV.nil ([]),oR a_0 a0,zf s_1 a1.sub]) ?_ ?_
  ·refine zF rfl (fun hc117=>?_) (fun hc117=>?_)
   ·replace H:=if_t hc117 H
    refine xT 3 (Ext w115) hmix zbs zbs (Ext.drawn _) (zE (fun v K=>ze jS rfl (o':=3) rfl) (zE (fun v K=>zl xK rfl (((S.ext K).blk 0).cell (Nd.get_r _))) (zE (fun v K=>zh rfl) ?_)))
    refine yE fun w118 K=>?_
    replace S:=S.ext K
    clear K
    refine wd (zh rfl) (zd ?_)
    obtain rfl:=zbt H
    exact ⟨rfl,df,rfl,rfl,S⟩
   ·replace H:=if_f hc117 H
    refine zu ?_
    obtain rfl:=zbt H
    exact ⟨rfl,df,rfl,rfl,S⟩
  rintro g119 u120 ⟨p116_16,p116_17,S⟩
  have H:=Ho116
  refine zb (zb (za (wd (zy rfl) (zd ?_))))
  refine zF rfl (fun hc121=>?_) (fun hc121=>?_)
  ·replace H:=if_t hc121 H
   refine zb (za (wd (ze zw rfl (o':=4) rfl) (wd (zl zr rfl ((S.blk 1).cell (Term.get_sub _))) (wd (zi p116_16) ?_))))
   obtain ⟨hi122,H⟩ := zU H
   refine wd (does_indexF zp rfl rfl (S.onZ 0) (zC hi122).1 (zC hi122).2) ?_
   obtain ⟨s123,hc124,S⟩ := S.viewTerm 0 (zC hi122)
   replace S:=S
   refine wd (ldC rfl hc124) (wd (zi p116_17) ?_)
   obtain ⟨r125,er125,H⟩ := zq H
   obtain ⟨_,_,T,bk⟩ := S.sub [0] [] LT1
   refine zB (zx zac) zbp (zaf (a0:=(kd r105.1 o116.1)) T er125) ?_
   rintro _ w126 ⟨s128,rfl,S2⟩
   replace S:=bk _ _ _ _ _ S2 rfl rfl
   refine wsT rfl rfl (S.blk 2) fun w129 B hw129 zw129=>?_
   replace S:=S.store 2 B hw129
   refine wd (zh rfl) (zd (zt ?_))
   refine ⟨_,(xi (rtT rfl (S.blk 0)) (zg rfl)),?_⟩
   replace S:=S.arr [] [0]
   obtain rfl:=zbt H
   exact ⟨s128,rfl,S⟩
  replace H:=if_f hc121 H
  refine zu (zb (za (wd (ze zw rfl (o':=4) rfl) (wd (zl zr rfl ((S.blk 1).cell (Term.get_sub _))) (wd (zi p116_16) ?_)))))
  obtain ⟨hi130,H⟩ := zU H
  refine wd (does_indexF zp rfl rfl (S.onZ 0) (zC hi130).1 (zC hi130).2) ?_
  obtain ⟨s131,hc132,S⟩ := S.viewTerm 0 (zC hi130)
  replace S:=S
  refine wd (ldC rfl hc132) ?_
  obtain ⟨r133,er133,H⟩ := zq H
  obtain ⟨_,_,T,bk⟩ := S.sub [0] [] LT1
  refine zB (zx yX) zbp (vV (a0:=(kd r105.1 o116.1)) T er133) ?_
  rintro _ w134 ⟨s136,rfl,S2⟩
  replace S:=bk _ _ _ _ _ S2 rfl rfl
  refine wsT rfl rfl (S.blk 2) fun w137 B hw137 zw137=>?_
  replace S:=S.store 2 B hw137
  refine wd (zh rfl) (zd (zt ?_))
  refine ⟨_,(xi (rtT rfl (S.blk 0)) (zg rfl)),?_⟩
  replace S:=S.arr [] [0]
  obtain rfl:=zbt H
  exact ⟨s136,rfl,S⟩
 replace H:=if_f hc101 H
 refine zb (zb (za (wd (zL rfl rfl) (wd (zk rfl) (zd ?_)))))
 obtain ⟨o138,e138,Ho138⟩ := zq H
 replace H:=e138; clear e138
 refine xr [118,120] (fun fr W=>fr 118 = .bool o138∧St A N w W [oB b4 zj (Term.C tmZ),oB b2 zj (tmC a1 s_1)] [zf SlV.nil ([]),oR a_0 a0,zf s_1 a1.sub]) ?_ ?_
 ·refine zF rfl (fun hc139=>?_) (fun hc139=>?_)
  ·replace H:=if_t hc139 H
   refine zu ?_
   obtain rfl:=zbt H
   exact ⟨rfl,df,rfl,S⟩
  ·replace H:=if_f hc139 H
   refine za (wd (zL rfl rfl) (wd (zk rfl) (zd ?_)))
   obtain rfl:=zbt H
   exact ⟨rfl,df,rfl,S⟩
 rintro g140 u141 ⟨p138_118,S⟩
 have H:=Ho138
 refine zF p138_118 (fun hc142=>?_) (fun hc142=>?_)
 ·replace H:=if_t hc142 H
  refine zb (za (wd (zD rfl) (wd (ze zw rfl (o':=4) rfl) (wd (zl zr rfl ((S.blk 1).cell (Term.get_sub _))) ?_))))
  obtain ⟨hi143,H⟩ := zU H
  refine wd (does_indexF zp rfl rfl (S.onZ 2) (zC hi143).1 (zC hi143).2) ?_
  obtain ⟨s144,hc145,S⟩ := S.viewTerm 2 (zC hi143)
  replace S:=S
  refine wd (ldC rfl hc145) ?_
  obtain ⟨r146,er146,H⟩ := zq H
  obtain ⟨_,_,T,bk⟩ := S.sub [2,0] [] [oB b4 zj (Term.C tmZ),oB b2 zj (tmC a1 s_1)]
  refine zB (zx yK) zbp (yL (a1:=(kd a1 0)) T er146) ?_
  rintro _ w147 ⟨s149,rfl,S2⟩
  replace S:=bk _ _ _ _ _ S2 rfl rfl
  refine wd (z7 rfl) (wd (zo rfl rfl) (wd (zo rfl rfl) (wd (zo rfl rfl) (wd (zo rfl rfl) ?_))))
  refine zO xd zbp fun b151 w150 hw150=>?_
  replace S:=S.new hw150
  refine zO ze_Nd zbp fun b153 w152 hw152=>?_
  replace S:=S.new hw152
  refine wsT rfl rfl (S.blk 1) fun w154 B hw154 zw154=>?_
  replace S:=S.store 1 B hw154
  refine zY yw rfl rfl (S.blk 1) (Nd.len _) (by rw [Nd.len]; decide) (Nd.one _) (xo (Nd.len _)) fun w155 B hw155 zw155=>?_
  replace S:=S.store 1 B hw155
  refine wd (zk rfl) (wd (zk rfl) (zd (zb ?_)))
  refine xT 6 (Ext w155) hmix zbs zbs (Ext.drawn _) (zE (fun v K=>ze xz rfl (o':=1) rfl) (zE (fun v K=>zl xf rfl (((S.ext K).blk 3).cell (Term.get_name _))) (zE (fun v K=>ze jR rfl (o':=2) rfl) (zE (fun v K=>zl xK rfl (((S.ext K).blk 0).cell (Nd.get_l _))) (zE (fun v K=>zh rfl) ?_)))))
  refine zE (fun v K=>xV rfl) ?_
  refine yE fun w156 K=>?_
  replace S:=S.ext K
  clear K
  refine wd (zh rfl) (zd (zb (zb (za (wd (zy rfl) (wd (xc rfl) (zd ?_)))))))
  obtain ⟨o157,e157,Ho157⟩ := zq H
  replace H:=e157; clear e157
  refine xr ([20,22,23,24] ++ rg 138 15) (fun fr W => ∃ s158:SlV,fr 20 = .bool o157.1∧fr 22 = .int .i64 o157.2.1∧fr 23 = .string o157.2.2.1∧fr 24 = .int .i64 o157.2.2.2.1∧St A N w W [oB b153 T_Nd (Nd.C o157.2.2.2.2.1),oB b151 zj (tmC o157.2.2.2.2.2 s158),oB b4 zj (Term.C tmZ),oB b2 zj (tmC a1 s_1)] [zf s158 o157.2.2.2.2.2.sub,zf s144 ((kd a1 0).sub),zf SlV.nil ([]),oR a_0 a0,zf s_1 a1.sub]) ?_ ?_
  ·refine zF rfl (fun hc159=>?_) (fun hc159=>?_)
   ·replace H:=if_t hc159 H
    refine zb (za (wd (zD rfl) (wd (ze zw rfl (o':=4) rfl) (wd (zl zr rfl ((S.blk 3).cell (Term.get_sub _))) ?_))))
    obtain ⟨hi160,H⟩ := zU H
    refine wd (does_indexF zp rfl rfl (S.onZ 4) (zC hi160).1 (zC hi160).2) ?_
    obtain ⟨s161,hc162,S⟩ := S.viewTerm 4 (zC hi160)
    replace S:=S
    refine wd (ldC rfl hc162) ?_
    obtain ⟨r163,er163,H⟩ := zq H
    obtain ⟨_,_,T,bk⟩ := S.sub [4,0] [] [oB b153 T_Nd (Nd.C r146.2.1),oB b151 zj (tmC r146.1 s149),oB b4 zj (Term.C tmZ),oB b2 zj (tmC a1 s_1)]
    refine zB (zx yK) zbp (yL (a1:=(kd a1 0)) T er163) ?_
    rintro _ w164 ⟨s166,rfl,S2⟩
    replace S:=bk _ _ _ _ _ S2 rfl rfl
    refine wd (z7 rfl) (wd (zo rfl rfl) (wd (zo rfl rfl) (wd (zo rfl rfl) (wd (zo rfl rfl) ?_))))
    refine wsT rfl rfl (S.blk 1) fun w167 B hw167 zw167=>?_
    replace S:=S.store 1 B hw167
    refine zY yw rfl rfl (S.blk 1) (Nd.len _) (by rw [Nd.len]; decide) (Nd.one _) (xo (Nd.len _)) fun w168 B hw168 zw168=>?_
    replace S:=S.store 1 B hw168
    refine wd (zk rfl) (zd ?_)
    refine xT 6 (Ext w168) hmix zbs zbs (Ext.drawn _) (zE (fun v K=>ze yr rfl (o':=2) rfl) (zE (fun v K=>zl xf rfl (((S.ext K).blk 3).cell (Term.get_other _))) (zE (fun v K=>ze jS rfl (o':=3) rfl) (zE (fun v K=>zl xK rfl (((S.ext K).blk 0).cell (Nd.get_r _))) (zE (fun v K=>zh rfl) ?_)))))
    refine zE (fun v K=>xV rfl) ?_
    refine yE fun w169 K=>?_
    replace S:=S.ext K
    clear K
    refine wd (zh rfl) (zd ?_)
    replace S:=S.arr [0,1,2,3] [0,3,4,5,6]
    obtain rfl:=zbt H
    exact ⟨rfl,df,s166,rfl,rfl,rfl,rfl,S⟩
   ·replace H:=if_f hc159 H
    refine zu ?_
    obtain rfl:=zbt H
    exact ⟨rfl,df,s149,rfl,rfl,rfl,rfl,S⟩
  rintro g170 u171 ⟨s158,p157_20,p157_22,p157_23,p157_24,S⟩
  have H:=Ho157
  refine zb (za (wd (ze zw rfl (o':=4) rfl) (wd (zl zr rfl ((S.blk 1).cell (Term.get_sub _))) ?_)))
  obtain ⟨hi172,H⟩ := zU H
  refine wd (does_indexF zp rfl rfl (S.onZ 0) (zC hi172).1 (zC hi172).2) ?_
  obtain ⟨s173,hc174,S⟩ := S.viewTerm 0 (zC hi172)
  replace S:=S
  refine wd (ldC rfl hc174) ?_
  refine zO xd zbp fun b176 w175 hw175=>?_
  replace S:=S.new hw175
  refine wsT rfl rfl (S.blk 0) fun w177 B hw177 zw177=>?_
  replace S:=S.store 0 B hw177
  refine zd (zb (zb (za (wd (zy p157_20) (zd ?_)))))
  refine zF rfl (fun hc178=>?_) (fun hc178=>?_)
  ·replace H:=if_t hc178 H
   refine za (wd (ldT rfl (S.blk 0)) (wd (zi p157_24) ?_))
   obtain ⟨r179,er179,H⟩ := zq H
   obtain ⟨_,_,T,bk⟩ := S.sub [0] [] [oB b176 zj (tmC (kd o157.2.2.2.2.2 0) s173),oB b153 T_Nd (Nd.C o157.2.2.2.2.1),oB b151 zj (tmC o157.2.2.2.2.2 s158),oB b4 zj (Term.C tmZ),oB b2 zj (tmC a1 s_1)]
   refine zB (zx zac) zbp (zaf (a0:=(kd o157.2.2.2.2.2 0)) T er179) ?_
   rintro _ w180 ⟨s182,rfl,S2⟩
   replace S:=bk _ _ _ _ _ S2 rfl rfl
   refine wsT rfl rfl (S.blk 0) fun w183 B hw183 zw183=>?_
   replace S:=S.store 0 B hw183
   refine zd (zb ?_)
   refine wc_ws hmix fun w188 K=>?_
   replace S:=S.ext K
   clear K
   obtain ⟨hi189,H⟩ := zU H
   obtain ⟨s190,hc191,S⟩ := S.viewTerm 6 (zC hi189)
   replace S:=S.zs (rg 1 7 ++ [0])
   refine yO 0 7 [] zbs zbp zbs
    (V:=fun i v u=>match i with
    | _=>True) ?_ ?_
   ·intro i v u u' hi hx hv
    match i,hv with
    | _,_=>exact trivial
   refine zR (fun v K=>ze zw rfl (o':=4) rfl) rfl (zR (fun v K=>zl zr rfl (((S.ext K).blk 4).cell (Term.get_sub _))) rfl (zR (fun v K=>zi p157_22) rfl (zR (fun v K=>does_indexF zp rfl rfl ((S.ext K).onZ 6) (zC hi189).1 (zC hi189).2) rfl (zR (fun v K=>zz zX rfl (hc191.chg K (fun x=>x)) (Term.len _)) rfl (zR (fun v K=>zT p157_23) rfl ?_)))))
   refine zR (fun v K=>zz zX rfl (((S.ext K).blk 0).all _ (Term.len _)) (Term.len _)) rfl ?_
   refine vB fun g w192 K hV=>?_
   replace S:=S.ext K
   clear K hV
   refine uQ 7 8 zbs zbp ?_
   obtain ⟨r194,er194,H⟩ := zq H
   obtain ⟨_,_,T,bk⟩ := S.sub [7,0] [] [oB b176 zj (tmC r179 s182),oB b153 T_Nd (Nd.C o157.2.2.2.2.1),oB b151 zj (tmC o157.2.2.2.2.2 s158),oB b4 zj (Term.C tmZ),oB b2 zj (tmC a1 s_1)]
   refine zB (zx jQ) zbp (j1 (a0:=(kd a1 o157.2.1)) (a2:=r179) T er194) ?_
   rintro _ w195 ⟨s197,rfl,S2⟩
   replace S:=bk _ _ _ _ _ S2 rfl rfl
   refine zd ⟨rfl,?_⟩
   refine yO 8 10 [] zbs zbp zbs
    (V:=fun i v u=>match i with
    | _=>True) ?_ ?_
   ·intro i v u u' hi hx hv
    match i,hv with
    | _,_=>exact trivial
   refine zR (fun v K=>zo rfl rfl) rfl (zR (fun v K=>zo rfl rfl) rfl ?_)
   refine vB fun g w198 K hV=>?_
   replace S:=S.ext K
   clear K hV
   refine j4 10 zbs zbp ?_
   refine wsT rfl rfl (S.blk 3) fun w200 B hw200 zw200=>?_
   replace S:=S.store 3 B hw200
   refine wd (zh rfl) (zd (zt ?_))
   refine ⟨_,(xi (rtT rfl (S.blk 0)) (zg rfl)),?_⟩
   replace S:=S.arr [] [0]
   obtain rfl:=zbt H
   exact ⟨s197,rfl,S⟩
  ·replace H:=if_f hc178 H
   refine zu (zb ?_)
   refine wc_ws hmix fun w205 K=>?_
   replace S:=S.ext K
   clear K
   obtain ⟨hi206,H⟩ := zU H
   obtain ⟨s207,hc208,S⟩ := S.viewTerm 5 (zC hi206)
   replace S:=S.zs [1,2,3,4,5,6,0]
   refine yO 0 7 [] zbs zbp zbs
    (V:=fun i v u=>match i with
    | _=>True) ?_ ?_
   ·intro i v u u' hi hx hv
    match i,hv with
    | _,_=>exact trivial
   refine zR (fun v K=>ze zw rfl (o':=4) rfl) rfl (zR (fun v K=>zl zr rfl (((S.ext K).blk 4).cell (Term.get_sub _))) rfl (zR (fun v K=>zi p157_22) rfl (zR (fun v K=>does_indexF zp rfl rfl ((S.ext K).onZ 5) (zC hi206).1 (zC hi206).2) rfl (zR (fun v K=>zz zX rfl (hc208.chg K (fun x=>x)) (Term.len _)) rfl (zR (fun v K=>zT p157_23) rfl ?_)))))
   refine zR (fun v K=>zz zX rfl (((S.ext K).blk 0).all _ (Term.len _)) (Term.len _)) rfl ?_
   refine vB fun g w209 K hV=>?_
   replace S:=S.ext K
   clear K hV
   refine uQ 7 8 zbs zbp ?_
   obtain ⟨r211,er211,H⟩ := zq H
   obtain ⟨_,_,T,bk⟩ := S.sub [6,0] [] [oB b176 zj (tmC (kd o157.2.2.2.2.2 0) s173),oB b153 T_Nd (Nd.C o157.2.2.2.2.1),oB b151 zj (tmC o157.2.2.2.2.2 s158),oB b4 zj (Term.C tmZ),oB b2 zj (tmC a1 s_1)]
   refine zB (zx jQ) zbp (j1 (a0:=(kd a1 o157.2.1)) (a2:=(kd o157.2.2.2.2.2 0)) T er211) ?_
   rintro _ w212 ⟨s214,rfl,S2⟩
   replace S:=bk _ _ _ _ _ S2 rfl rfl
   refine zd ⟨rfl,?_⟩
   refine yO 8 10 [] zbs zbp zbs
    (V:=fun i v u=>match i with
    | _=>True) ?_ ?_
   ·intro i v u u' hi hx hv
    match i,hv with
    | _,_=>exact trivial
   refine zR (fun v K=>zo rfl rfl) rfl (zR (fun v K=>zo rfl rfl) rfl ?_)
   refine vB fun g w215 K hV=>?_
   replace S:=S.ext K
   clear K hV
   refine j4 10 zbs zbp ?_
   refine wsT rfl rfl (S.blk 3) fun w217 B hw217 zw217=>?_
   replace S:=S.store 3 B hw217
   refine wd (zh rfl) (zd (zt ?_))
   refine ⟨_,(xi (rtT rfl (S.blk 0)) (zg rfl)),?_⟩
   replace S:=S.arr [] [0]
   obtain rfl:=zbt H
   exact ⟨s214,rfl,S⟩
 replace H:=if_f hc142 H
 refine zb (za (wd (zL rfl rfl) (wd (zk rfl) (zd ?_))))
 refine zF rfl (fun hc218=>?_) (fun hc218=>?_)
 ·replace H:=if_t hc218 H
  refine zb ?_
  refine wc_ws hmix fun w226 K=>?_
  replace S:=S.ext K
  clear K
  obtain ⟨hi227,H⟩ := zU H
  obtain ⟨s228,hc229,S⟩ := S.viewTerm 2 (zC hi227)
  replace S:=S.zs [1,2,3,0]
  obtain ⟨hi230,H⟩ := zU H
  obtain ⟨s231,hc232,S⟩ := S.viewTerm 2 (zC hi230)
  replace S:=S.zs [1,2,3,4,0]
  refine yO 0 10 [] zbs zbp zbs
   (V:=fun i v u=>match i with
   | _=>True) ?_ ?_
  ·intro i v u u' hi hx hv
   match i,hv with
   | _,_=>exact trivial
  refine zR (fun v K=>ze zw rfl (o':=4) rfl) rfl (zR (fun v K=>zl zr rfl (((S.ext K).blk 1).cell (Term.get_sub _))) rfl (zR (fun v K=>does_indexF zp rfl rfl ((S.ext K).onZ 2) (zC hi227).1 (zC hi227).2) rfl (zR (fun v K=>zz zX rfl (hc229.chg K (fun x=>x)) (Term.len _)) rfl (zR (fun v K=>ze xz rfl (o':=1) rfl) rfl (zR (fun v K=>zl xf rfl (((S.ext K).blk 1).cell (Term.get_name _))) rfl ?_)))))
  refine zR (fun v K=>ze zw rfl (o':=4) rfl) rfl (zR (fun v K=>zl zr rfl (((S.ext K).blk 1).cell (Term.get_sub _))) rfl (zR (fun v K=>does_indexF zp rfl rfl ((S.ext K).onZ 2) (zC hi230).1 (zC hi230).2) rfl (zR (fun v K=>zz zX rfl (hc232.chg K (fun x=>x)) (Term.len _)) rfl ?_)))
  refine vB fun g w233 K hV=>?_
  replace S:=S.ext K
  clear K hV
  refine uQ 10 11 zbs zbp ?_
  obtain ⟨r235,er235,H⟩ := zq H
  obtain ⟨_,_,T,bk⟩ := S.sub [3,4] [] [oB b4 zj (Term.C tmZ),oB b2 zj (tmC a1 s_1)]
  refine zB (zx jQ) zbp (j1 (a0:=(kd a1 1)) (a2:=(kd a1 0)) T er235) ?_
  rintro _ w236 ⟨s238,rfl,S2⟩
  replace S:=bk _ _ _ _ _ S2 rfl rfl
  refine zd ⟨rfl,?_⟩
  refine yO 11 13 [] zbs zbp zbs
   (V:=fun i v u=>match i with
   | _=>True) ?_ ?_
  ·intro i v u u' hi hx hv
   match i,hv with
   | _,_=>exact trivial
  refine zR (fun v K=>zo rfl rfl) rfl (zR (fun v K=>zo rfl rfl) rfl ?_)
  refine vB fun g w239 K hV=>?_
  replace S:=S.ext K
  clear K hV
  refine j4 13 zbs zbp ?_
  refine wsT rfl rfl (S.blk 0) fun w241 B hw241 zw241=>?_
  replace S:=S.store 0 B hw241
  refine wd (zh rfl) (zd (zt ?_))
  refine ⟨_,(xi (rtT rfl (S.blk 0)) (zg rfl)),?_⟩
  replace S:=S.arr [] [0]
  obtain rfl:=zbt H
  exact ⟨s238,rfl,S⟩
 replace H:=if_f hc218 H
 refine zb (za (wd (zL rfl rfl) (wd (zk rfl) (zd ?_))))
 refine zF rfl (fun hc242=>?_) (fun hc242=>?_)
 ·replace H:=if_t hc242 H
  refine zb (za (wd (ze zw rfl (o':=4) rfl) (wd (zl zr rfl ((S.blk 1).cell (Term.get_sub _))) ?_)))
  obtain ⟨hi243,H⟩ := zU H
  refine wd (does_indexF zp rfl rfl (S.onZ 2) (zC hi243).1 (zC hi243).2) ?_
  obtain ⟨s244,hc245,S⟩ := S.viewTerm 2 (zC hi243)
  replace S:=S
  refine wd (ldC rfl hc245) ?_
  obtain ⟨r246,er246,H⟩ := zq H
  obtain ⟨_,_,T,bk⟩ := S.sub [0] [] [oB b4 zj (Term.C tmZ),oB b2 zj (tmC a1 s_1)]
  refine zB (zx yX) zbp (vV (a0:=(kd a1 0)) T er246) ?_
  rintro _ w247 ⟨s249,rfl,S2⟩
  replace S:=bk _ _ _ _ _ S2 rfl rfl
  refine wsT rfl rfl (S.blk 0) fun w250 B hw250 zw250=>?_
  replace S:=S.store 0 B hw250
  refine wd (zh rfl) (zd (zt ?_))
  refine ⟨_,(xi (rtT rfl (S.blk 0)) (zg rfl)),?_⟩
  replace S:=S.arr [] [0]
  obtain rfl:=zbt H
  exact ⟨s249,rfl,S⟩
 replace H:=if_f hc242 H
 refine zu (zb (za (wd (Does.to (v' := .agg (Term.C tmZ).toArray) (xa (vs:=[]) xW rfl Bld.nil) rfl) ?_)))
 refine wsT rfl rfl (S.blk 0) fun w251 B hw251 zw251=>?_
 replace S:=S.store 0 B hw251
 refine wd (zh rfl) (zd (zt ?_))
 replace S:=S.nilTm
 refine ⟨_,(xi (rtT rfl (S.blk 0)) (zg rfl)),?_⟩
 replace S:=S.arr [] [0]
 obtain rfl:=zbt H
 exact ⟨SlV.nil,rfl,S⟩
theorem ref14_told_gst {zeC:Tb→PTerm→Option Bool} (zee : ∀ {A:Nat→Prop} {N:Oth} {w:World} {a0:Tb} {a_0:Option Addr} {a1:PTerm} {s_1:SlV} (S:St A N w w [] [oR a_0 a0,zf s_1 a1.sub]) {r:Bool} (H:zeC a0 a1=some r),Calls PP jE #[.pointer a_0,.agg (tmC a1 s_1).toArray] w <| Rt fun v w'=>(v = .bool r∧St A N w w' [] [])) {A:Nat→Prop} {N:Oth} {w:World} {a0:Tb} {a_0:Option Addr} {a1:PTerm} {s_1:SlV} (S:St A N w w [] [oR a_0 a0,zf s_1 a1.sub]) {k:Nat} {r:Bool} (H:zdE.g zeC k a0 a1=some r) :
  Calls PP jE #[.pointer a_0,.agg (tmC a1 s_1).toArray] w <| Rt fun v w'=>(v = .bool r∧St A N w w' [] []):=by
 unfold zdE.g at H
 refine zA (n:=31) Tryz.func65 rfl rfl zbr (zb (za ?_))
 refine zI rfl zbp fun b2 w1 hw1=>?_
 replace S:=S.new hw1
 refine wd (zk rfl) (zd (zb (zb (za (wd (ze zV rfl (o':=0) rfl) (wd (zl zM rfl ((S.blk 0).cell (Term.get_kind _))) (wd (zL rfl rfl) ?_)))))))
 refine wd (zy rfl) ?_
 refine wg (fun hg=>zD rfl) ?_
 refine wg (fun hg=>ze x0 rfl (o':=3) rfl) ?_
 refine wg (fun hg=>zl xK (zn hg) ((S.blk 0).cell (Term.get_form _))) ?_
 obtain ⟨r3,er3,H⟩ := zq H
 refine xu (j:=3) (pol:=true) rfl rfl rfl zbp (fun hg=>zJ zas (zQ (zn hg) (zQ (zn hg) rfl))) zbp (fun hg=>(have ⟨M,SS⟩ := S.lend ((.z 0 rfl .nil)); quiet (zaD SS (if_t (by simpa using hg) er3)) (fun v w' h=>⟨h.1,_,_,h.2⟩))) fun w4 hw4=>?_
 replace S:=S.ext hw4
 refine wg (fun hg=>xc (zn hg)) (wd (zW rfl (fun hp=>(zn (xe hp)))) (zd ?_))
 refine zF rfl (fun hc5=>?_) (fun hc5=>?_)
 ·replace H:=if_t hc5 H
  refine zb (za (wd (zk rfl) (zd (zt ?_))))
  refine ⟨_,(zP (zg rfl)),?_⟩
  replace S:=S.arr [] []
  obtain rfl:=zbt H
  exact ⟨rfl,S⟩
 replace H:=if_f hc5 H
 refine zu (zb (zb (za (wd (zh rfl) (zd ?_)))))
 obtain ⟨o6,e6,Ho6⟩ := zq H
 clear H
 refine xr ([4,5] ++ rg 16 15) (fun fr W => ∃ s6:Int,o6 = .inl s6∧fr 5 = .int .i64 s6∧St A N w W [oB b2 zj (tmC a1 s_1)] [oR a_0 a0,zf s_1 a1.sub]) ?_ ?_
 ·refine zK ?_
  refine xy (α:=Nat × Int) ([4,5] ++ rg 16 15) (fun x fr W=>iter (fun s=>zdE.b0 a1 zeC a0 s) x.1 x.2=some o6∧fr 5 = .int .i64 (x.2)∧St A N w W [oB b2 zj (tmC a1 s_1)] [oR a_0 a0,zf s_1 a1.sub]) (fun x=>x.1) (k,0) ⟨(by dsimp only; exact e6),rfl,S⟩ ?_
  rintro ⟨m6,x6_0⟩ g6 u6 ⟨e6,q6_5,S⟩
  try dsimp only at e6
  try dsimp only at S
  try dsimp only at q6_5
  obtain ⟨m6,rfl⟩ : ∃ m,m6=m + 1:=⟨m6 - 1,by cases m6 with | zero=>cases e6 | succ m=>rfl⟩
  obtain ⟨q6,H,e6⟩ := uk e6
  unfold zdE.b0 at H
  try dsimp only at H
  refine zb (zb (za (wd (zi q6_5) (wd (ze zw rfl (o':=4) rfl) (wd (zl zr rfl ((S.blk 0).cell (Term.get_sub _))) (wd (does_lenF zp rfl (S.onZ 1)) (wd (xn rfl rfl) (zd ?_))))))))
  refine zF rfl (fun hc7=>?_) (fun hc7=>?_)
  rotate_left
  ·replace H:=if_f hc7 H
   refine xG ?_
   obtain rfl:=zbt H
   exact ⟨rfl,df,x6_0,e6,q6_5,S⟩
  replace H:=if_t hc7 H
  refine zu (zb ?_)
  refine zK (zb (za (wd (zD rfl) (wd (ze zw rfl (o':=4) rfl) (wd (zl zr rfl ((S.blk 0).cell (Term.get_sub _))) (wd (zi q6_5) ?_))))))
  obtain ⟨hi8,H⟩ := zU H
  refine wd (does_indexF zp rfl rfl (S.onZ 1) (zC hi8).1 (zC hi8).2) ?_
  obtain ⟨s9,hc10,S⟩ := S.viewTerm 1 (zC hi8)
  replace S:=S
  refine wd (ldC rfl hc10) ?_
  obtain ⟨r11,er11,H⟩ := zq H
  obtain ⟨_,_,T,bk⟩ := S.calln 0 ((.z 1 rfl (.z 0 rfl .nil)))
  refine zB (zx ca_ref14_told) zbp (zee (a1:=(kd a1 x6_0)) T er11) ?_
  rintro _ w12 ⟨rfl,S2⟩
  replace S:=bk _ _ _ _ S2 rfl
  refine wd (xc rfl) (zd ?_)
  refine zF rfl (fun hc14=>?_) (fun hc14=>?_)
  ·replace H:=if_t hc14 H
   refine zb (za (wd (zk rfl) (zd (zt ?_))))
   refine ⟨_,(zP (zg rfl)),?_⟩
   replace S:=S.arr [] []
   obtain rfl:=zbt H
   obtain rfl:=e6
   obtain rfl:=ue Ho6
   exact ⟨rfl,S⟩
  replace H:=if_f hc14 H
  refine zu (za (wd (zi q6_5) (wd (xI rfl rfl) (wd (zh rfl) (zd ?_)))))
  replace S:=S.arr [0] [1,2]
  obtain rfl:=zbt H
  exact ⟨rfl,df,(m6,IntKind.i64.wrap (x6_0 + 1)),⟨e6,rfl,S⟩,by dsimp only; omega⟩
 rintro g15 u16 ⟨s6,rfl,p6_5,S⟩
 have H:=Ho6
 dsimp only [aft] at H
 refine zb (za (wd (zk rfl) (zd (zt ?_))))
 refine ⟨_,(zP (zg rfl)),?_⟩
 replace S:=S.arr [] []
 obtain rfl:=zbt H
 exact ⟨rfl,S⟩
theorem ref14_told_st {a0:Tb} {a_0:Option Addr} {a1:PTerm} {s_1:SlV} (S:St A N w w [] [oR a_0 a0,zf s_1 a1.sub]) {k:Nat} {r:Bool} (H:zdE.f k a0 a1=some r) :
  Calls PP jE #[.pointer a_0,.agg (tmC a1 s_1).toArray] w <| Rt fun v w'=>(v = .bool r∧St A N w w' [] []):=by
 have main : ∀ (k:Nat) {A:Nat→Prop} {N:Oth} {w:World} {a0:Tb} {a_0:Option Addr} {a1:PTerm} {s_1:SlV} (S:St A N w w [] [oR a_0 a0,zf s_1 a1.sub]) {r:Bool} (H:zdE.f k a0 a1=some r),Calls PP jE #[.pointer a_0,.agg (tmC a1 s_1).toArray] w <| Rt fun v w'=>(v = .bool r∧St A N w w' [] []):=by
  intro k
  induction k with
  | zero=>intro A N w a0 a_0 a1 s_1 S r H; cases H
  | succ k ih=>intro A N w a0 a_0 a1 s_1 S r H; exact ref14_told_gst ih S H
 exact main k S H
theorem ref14_ahead_st {a0:Tb} {a_0:Option Addr} {a1:PTerm} {s_1:SlV} (S:St A N w w [] [oR a_0 a0,zf s_1 a1.sub]) {k:Nat} {r:Int} (H:zdF.f k a0 a1=some r) :
  Calls PP F_ref14_ahead #[.pointer a_0,.agg (tmC a1 s_1).toArray] w <| Rt fun v w'=>(v = .int .i64 r∧St A N w w' [] []):=by
 unfold zdF.f at H
 refine zA (n:=17) Tryz.func36 rfl rfl zbr (zb (za ?_))
 refine zI rfl zbp fun b2 w1 hw1=>?_
 replace S:=S.new hw1
 refine wd (zh rfl) (zd (zb (za (wd (ldT rfl (S.blk 0)) ?_))))
 obtain ⟨r3,er3,H⟩ := zq H
 obtain ⟨_,_,T,bk⟩ := S.calln 0 ((.z 1 rfl .nil))
 refine zB (zx uJ) zbp (uN (a0:=a1) T er3) ?_
 rintro _ w4 ⟨rfl,S2⟩
 replace S:=bk _ _ _ _ S2 rfl
 refine wd (zh rfl) (zd (zb (zb (za (wd (zi rfl) (wd (zL rfl rfl) (wd (zy rfl) ?_)))))))
 refine wg (fun hg=>zD rfl) ?_
 refine wg (fun hg=>ldT rfl (S.blk 0)) ?_
 obtain ⟨r6,er6,H⟩ := zq H
 refine xu (j:=2) (pol:=true) rfl rfl rfl zbp (fun hg=>zJ ca_ref14_told (zQ (zn hg) (zQ (zn hg) rfl))) zbp (fun hg=>(have ⟨M,SS⟩ := S.lend ((.z 0 rfl (.z 1 rfl .nil))); quiet (ref14_told_st (a1:=a1) SS (if_t (by simpa using hg) er6)) (fun v w' h=>⟨h.1,_,_,h.2⟩))) fun w7 hw7=>?_
 replace S:=S.ext hw7
 refine wg (fun hg=>xc (zn hg)) (wd (zW rfl (fun hp=>(zn (xe hp)))) (zd ?_))
 refine zF rfl (fun hc8=>?_) (fun hc8=>?_)
 ·replace H:=if_t hc8 H
  refine zb (za (wd (zh rfl) (zd (zt ?_))))
  refine ⟨_,(zP (zg rfl)),?_⟩
  replace S:=S.arr [] []
  obtain rfl:=zbt H
  exact ⟨rfl,S⟩
 replace H:=if_f hc8 H
 refine zu (zb (za (wd (zi rfl) (wd (zh rfl) (zd (zt ?_))))))
 refine ⟨_,(zP (zg rfl)),?_⟩
 replace S:=S.arr [] []
 obtain rfl:=zbt H
 exact ⟨rfl,S⟩
theorem ref14_gather_gst {zeA:Tb→PTerm→List Int→List (List Int)→Option (List (List Int))} (zec : ∀ {A:Nat→Prop} {N:Oth} {w:World} {a0:Tb} {a_0:Option Addr} {a1:PTerm} {s_1:SlV} {a2:List Int} {s_2:SlV} {a3:List (List Int)} {s_3:SlV} (S:St A N w w [zG s_3 a3] [oR a_0 a0,zf s_1 a1.sub,fS 1 IC s_2 a2]) {r:List (List Int)} (H:zeA a0 a1 a2 a3=some r),Calls PP uE #[.pointer a_0,.agg (tmC a1 s_1).toArray,s_2.v,s_3.v] w <| Rt fun v w'=>(∃ so0:SlV,v=so0.v∧St A N w w' [zG so0 r] [])) {A:Nat→Prop} {N:Oth} {w:World} {a0:Tb} {a_0:Option Addr} {a1:PTerm} {s_1:SlV} {a2:List Int} {s_2:SlV} {a3:List (List Int)} {s_3:SlV} (S:St A N w w [zG s_3 a3] [oR a_0 a0,zf s_1 a1.sub,fS 1 IC s_2 a2]) {k:Nat} {r:List (List Int)} (H:zdG.g zeA k a0 a1 a2 a3=some r) :
  Calls PP uE #[.pointer a_0,.agg (tmC a1 s_1).toArray,s_2.v,s_3.v] w <| Rt fun v w'=>(∃ so0:SlV,v=so0.v∧St A N w w' [zG so0 r] []):=by
 unfold zdG.g at H
 refine zA (n:=50) Tryz.func37 rfl rfl zbr (zb (za ?_))
 refine zI rfl zbp fun b2 w1 hw1=>?_
 replace S:=S.new hw1
 refine wd (xN) (zd (zb (zb (za (wd (zN rfl) (wd (jq yh rfl (S.onO 1)) (wd (vX rfl rfl) (zd ?_))))))))
 refine zF rfl (fun hc3=>?_) (fun hc3=>?_)
 ·replace H:=if_t hc3 H
  refine zb (za (wd (zN rfl) (wd (ya rfl) (zd (zt ?_)))))
  refine ⟨_,(zP (zg rfl)),?_⟩
  replace S:=S.arr [1] []
  obtain rfl:=zbt H
  exact ⟨s_3,rfl,S⟩
 replace H:=if_f hc3 H
 refine zu (zb (zb (za (wd (zD rfl) (wd (ldT rfl (S.blk 0)) ?_)))))
 obtain ⟨r4,er4,H⟩ := zq H
 obtain ⟨_,_,T,bk⟩ := S.calln 0 ((.z 0 rfl (.z 1 rfl .nil)))
 refine zB (zx ca_ref14_Row) zbp (ref14_Row_st (a1:=a1) T er4) ?_
 rintro _ w5 ⟨rfl,S2⟩
 replace S:=bk _ _ _ _ S2 rfl
 refine wd (xp rfl rfl) (zd ?_)
 obtain ⟨o7,e7,Ho7⟩ := zq H
 replace H:=e7; clear e7
 refine xr [3,19,20,21,22,23,24] (fun fr W => ∃ s8:SlV,fr 3=s8.v∧St A N w W [oB b2 zj (tmC a1 s_1),zG s8 o7] [oR a_0 a0,zf s_1 a1.sub,fS 1 IC s_2 a2]) ?_ ?_
 ·refine zF rfl (fun hc9=>?_) (fun hc9=>?_)
  ·replace H:=if_t hc9 H
   refine za (wd (zN rfl) ?_)
   refine yb (C:=IC) (l:=([]:List Int)) (vs:=[]) xF ke.zero rfl rfl (fun _ _=>rfl) zbp rfl zbp fun b11 w10 s12 hBw10 hw10=>?_
   replace S:=S.lit hBw10 hw10 zbr
   refine wd (zN rfl) ?_
   obtain ⟨ha15,H⟩ := zU H
   have ha15:=of_decide_eq_true ha15
   refine zaH (C:=IC) xF ke rfl rfl (S.sl 0) (S.rd 2) (fun a v hv=>by rw [List.mem_singleton.1 hv]; rfl) ha15 zbq zbp fun s14 w13 O hw13 gw13=>?_
   replace S:=S.push 0 O (by first | (simp; done) | (simp; omega) | (simp only [List.length_append]; omega)) hw13 gw13
   clear O
   refine yb (C:=LC) (l:=[s14]) (vs:=[s14.v]) yh el_L_int.zero rfl (by simp only [List.map_cons,List.map_nil,SlV.cells,LC]) (fun _ _=>rfl) zbp rfl zbp fun b17 w16 s18 hBw16 hw16=>?_
   replace S:=S.lit hBw16 hw16 zbr
   obtain ⟨ha21,H⟩ := zU H
   have ha21:=of_decide_eq_true ha21
   obtain ⟨ms22,S⟩ := S.openD 3
   replace S:=S
   have hlms22:ms22.length=a3.length:=(S.own 1 rfl).elim fun _ hb=>big_len hb
   rw [← hlms22] at ha21
   refine uP (C:=L_int.C) yh el_L_int rfl rfl (S.sl 0) (S.rdO 2) zbr (fun a _=>L_int.one a) ha21 (by first | omega | (simp only [List.length_cons,List.length_nil]; omega)) zbp fun s20 w19 O hw19 gw19=>?_
   replace S:=S.push 0 O (by first | (simp; done) | (simp; omega) | (simp only [List.length_append]; omega)) hw19 gw19
   clear O
   replace S:=((S.front 3).front 2).front 2
   replace S:St A N w w19 [zG s20 (a3 ++ [([]:List Int) ++ a2]),oS xm 1 LC s18 ([s14]),oB b2 zj (tmC a1 s_1)] [oR a_0 a0,zf s_1 a1.sub,fS 1 IC s_2 a2]:=St.pushD S
   refine wd (ya rfl) (zd ?_)
   replace S:=S.arr [2,0] [0,1,2]
   obtain rfl:=zbt H
   exact ⟨rfl,df,s20,rfl,S⟩
  ·replace H:=if_f hc9 H
   refine zu ?_
   obtain rfl:=zbt H
   exact ⟨rfl,df,s_3,rfl,S⟩
 rintro g23 u24 ⟨s8,p7_3,S⟩
 have H:=Ho7
 refine zb (za (wd (zN rfl) (wd (xH xF rfl (S.rd 2)) (wd (zh rfl) (zd (zb (zb (za ?_))))))))
 refine wd (zh rfl) (zd ?_)
 obtain ⟨o25,e25,Ho25⟩ := zq H
 clear H
 refine xr ([3,10] ++ rg 27 22) (fun fr W => ∃ s25:List (List Int) × Int,o25 = .inl s25 ∧ ∃ s26:SlV,fr 3=s26.v∧fr 10 = .int .i64 s25.2∧St A N w W [oB b2 zj (tmC a1 s_1),zG s26 s25.1] [oR a_0 a0,zf s_1 a1.sub,fS 1 IC s_2 a2]) ?_ ?_
 ·refine zK ?_
  refine xy (α:=Nat × (List (List Int) × Int)) ([3,10] ++ rg 27 22) (fun x fr W=>iter (fun s=>zdG.b0 a1 a2 zeA a0 s.1 s.2) x.1 x.2=some o25 ∧ ∃ s27:SlV,fr 3=s27.v∧fr 10 = .int .i64 (x.2.2)∧St A N w W [oB b2 zj (tmC a1 s_1),zG s27 (x.2.1)] [oR a_0 a0,zf s_1 a1.sub,fS 1 IC s_2 a2]) (fun x=>x.1) (k,(o7,0)) ⟨(by dsimp only; exact e25),s8,p7_3,rfl,S⟩ ?_
  rintro ⟨m25,⟨x25_0,x25_1⟩⟩ g25 u25 ⟨e25,s28,q25_3,q25_10,S⟩
  try dsimp only at e25
  try dsimp only at S
  try dsimp only at q25_3
  try dsimp only at q25_10
  obtain ⟨m25,rfl⟩ : ∃ m,m25=m + 1:=⟨m25 - 1,by cases m25 with | zero=>cases e25 | succ m=>rfl⟩
  obtain ⟨q25,H,e25⟩ := uk e25
  unfold zdG.b0 at H
  try dsimp only at H
  refine zb (zb (za (wd (zi q25_10) (wd (ze zw rfl (o':=4) rfl) (wd (zl zr rfl ((S.blk 0).cell (Term.get_sub _))) (wd (does_lenF zp rfl (S.onZ 1)) (wd (xn rfl rfl) (zd ?_))))))))
  refine zF rfl (fun hc29=>?_) (fun hc29=>?_)
  rotate_left
  ·replace H:=if_f hc29 H
   refine xG ?_
   obtain rfl:=zbt H
   exact ⟨rfl,df,(x25_0,x25_1),e25,s28,q25_3,q25_10,S⟩
  replace H:=if_t hc29 H
  refine zu (zb ?_)
  refine zK ?_
  obtain ⟨hi30,H⟩ := zU H
  obtain ⟨hs32,H⟩ := zU H
  have hs32:=of_decide_eq_true hs32
  obtain ⟨ha38,H⟩ := zU H
  have ha38:=of_decide_eq_true ha38
  obtain ⟨s31,S⟩ := S.viewTermC 1 (zC hi30)
  replace S:=S.zs [2,3,4,0,1]
  let LT1:List OA:=[fS 1 IC (⟨s_2.p,Int.toNat (a2.length:Int),Int.toNat (a2.length:Int)⟩ : SlV) (a2.take (Int.toNat (a2.length:Int)))]
  refine x8 14 ⟨fun _ _=>True,fun _ _ _=>True,fun i v _=>match i with
   | 0=>v=Value.pointer a_0
   | 1=>v=Value.pointer (some ⟨b2,4,none⟩)
   | 2=>v=s_1.v
   | 3=>v=Value.int .i64 x25_1
   | 4=>v=Value.pointer (some ⟨s_1.blk,s_1.off + Int.toNat x25_1 * 5,none⟩)
   | 5=>v=Value.agg (tmC (kd a1 x25_1) s31).toArray
   | 6=>v=s_2.v
   | 7=>v=Value.int .i64 (a2.length:Int)
   | 8=>v=Value.int .i64 (a2.length:Int)
   | 10=>v=Value.int .i64 x25_1
   | 13=>v=s28.v
   | _=>True⟩ (fun L g v => ∃ s37:SlV,∃ O40:List OA,∃ Z39:List OA,(∀ z ∈ [oR a_0 a0,zf s_1 a1.sub,fS 1 IC s_2 a2,oCl s_1.blk (s_1.off + Int.toNat x25_1 * 5) (tmC (kd a1 x25_1) s31),zf s31 ((kd a1 x25_1).sub)],z ∈ Z39)∧Made L g Z39 9 43 (fun (c:Unit)=>(⟨s_2.p,Int.toNat (a2.length:Int),Int.toNat (a2.length:Int)⟩ : SlV).v) (fun (c:Unit)=>LT1)∧Made L g Z39 11 45 (fun (c:SlV)=>c.v) (fun (c:SlV)=>[fS 1 IC c ([x25_1])])∧(L 12=true→g 46=s37.v)∧O40=((bif L 12 then [oS xL 1 IC s37 ((a2.take (Int.toNat (a2.length:Int))) ++ [x25_1])] else []) ++ [oB b2 zj (tmC a1 s_1),zG s28 x25_0])∧St A N w v O40 Z39) hmix zbs (fun _ _ _ _ _ _ _ hv=>hv) (fun g=>⟨SlV.nil,_,_,fun _ h=>h,Made.no,Made.no,(fun h=>by cases h),rfl,S.ext (Ext.drawn _)⟩) ⟨?_,?_,?_,?_,?_,?_,?_,?_,?_,?_,?_,?_,?_,?_,trivial⟩ ?_
  ·rintro L g v hL hcl hclo ⟨s37,O40,Z39,hZ,hm9,hm11,hk12,hO,S⟩ 
   have SR:St A N w v [oB b2 zj (tmC a1 s_1),zG s28 x25_0] (oR a_0 a0 :: zf s_1 a1.sub :: fS 1 IC s_2 a2 :: oCl s_1.blk (s_1.off + Int.toNat x25_1 * 5) (tmC (kd a1 x25_1) s31) :: zf s31 ((kd a1 x25_1).sub) :: Z39):=by
    have S2:=S.zneed hZ
    rw [hO] at S2
    exact S2.drops
   refine wd (zD rfl) ?_
   exact w4 rfl ⟨s37,O40,Z39,hZ,hm9.keep rfl rfl tl0,hm11.keep rfl rfl tl0,(kpU hk12),by rw [hO]; simp only [pN L 0 12],S⟩
  ·rintro L g v hL hcl hclo ⟨s37,O40,Z39,hZ,hm9,hm11,hk12,hO,S⟩ 
   have SR:St A N w v [oB b2 zj (tmC a1 s_1),zG s28 x25_0] (oR a_0 a0 :: zf s_1 a1.sub :: fS 1 IC s_2 a2 :: oCl s_1.blk (s_1.off + Int.toNat x25_1 * 5) (tmC (kd a1 x25_1) s31) :: zf s31 ((kd a1 x25_1).sub) :: Z39):=by
    have S2:=S.zneed hZ
    rw [hO] at S2
    exact S2.drops
   refine wd (ze zw rfl (o':=4) rfl) ?_
   exact w4 rfl ⟨s37,O40,Z39,hZ,hm9.keep rfl rfl tl0,hm11.keep rfl rfl tl0,(kpU hk12),by rw [hO]; simp only [pN L 1 12],S⟩
  ·rintro L g v hL hcl hclo ⟨s37,O40,Z39,hZ,hm9,hm11,hk12,hO,S⟩ hv1
   have SR:St A N w v [oB b2 zj (tmC a1 s_1),zG s28 x25_0] (oR a_0 a0 :: zf s_1 a1.sub :: fS 1 IC s_2 a2 :: oCl s_1.blk (s_1.off + Int.toNat x25_1 * 5) (tmC (kd a1 x25_1) s31) :: zf s31 ((kd a1 x25_1).sub) :: Z39):=by
    have S2:=S.zneed hZ
    rw [hO] at S2
    exact S2.drops
   refine wd (zl zr hv1 ((SR.blk 0).cell (Term.get_sub _))) ?_
   exact w4 rfl ⟨s37,O40,Z39,hZ,hm9.keep rfl rfl tl0,hm11.keep rfl rfl tl0,(kpU hk12),by rw [hO]; simp only [pN L 2 12],S⟩
  ·rintro L g v hL hcl hclo ⟨s37,O40,Z39,hZ,hm9,hm11,hk12,hO,S⟩ 
   have SR:St A N w v [oB b2 zj (tmC a1 s_1),zG s28 x25_0] (oR a_0 a0 :: zf s_1 a1.sub :: fS 1 IC s_2 a2 :: oCl s_1.blk (s_1.off + Int.toNat x25_1 * 5) (tmC (kd a1 x25_1) s31) :: zf s31 ((kd a1 x25_1).sub) :: Z39):=by
    have S2:=S.zneed hZ
    rw [hO] at S2
    exact S2.drops
   refine wd (zi q25_10) ?_
   exact w4 rfl ⟨s37,O40,Z39,hZ,hm9.keep rfl rfl tl0,hm11.keep rfl rfl tl0,(kpU hk12),by rw [hO]; simp only [pN L 3 12],S⟩
  ·rintro L g v hL hcl hclo ⟨s37,O40,Z39,hZ,hm9,hm11,hk12,hO,S⟩ hv2 hv3
   have SR:St A N w v [oB b2 zj (tmC a1 s_1),zG s28 x25_0] (oR a_0 a0 :: zf s_1 a1.sub :: fS 1 IC s_2 a2 :: oCl s_1.blk (s_1.off + Int.toNat x25_1 * 5) (tmC (kd a1 x25_1) s31) :: zf s31 ((kd a1 x25_1).sub) :: Z39):=by
    have S2:=S.zneed hZ
    rw [hO] at S2
    exact S2.drops
   refine wd (does_indexF zp hv2 hv3 (SR.onZ 1) (zC hi30).1 (zC hi30).2) ?_
   exact w4 rfl ⟨s37,O40,Z39,hZ,hm9.keep rfl rfl tl0,hm11.keep rfl rfl tl0,(kpU hk12),by rw [hO]; simp only [pN L 4 12],S⟩
  ·rintro L g v hL hcl hclo ⟨s37,O40,Z39,hZ,hm9,hm11,hk12,hO,S⟩ hv4
   have SR:St A N w v [oB b2 zj (tmC a1 s_1),zG s28 x25_0] (oR a_0 a0 :: zf s_1 a1.sub :: fS 1 IC s_2 a2 :: oCl s_1.blk (s_1.off + Int.toNat x25_1 * 5) (tmC (kd a1 x25_1) s31) :: zf s31 ((kd a1 x25_1).sub) :: Z39):=by
    have S2:=S.zneed hZ
    rw [hO] at S2
    exact S2.drops
   refine wd (zz zX hv4 (SR.cl 3) (Term.len _)) ?_
   exact w4 rfl ⟨s37,O40,Z39,hZ,hm9.keep rfl rfl tl0,hm11.keep rfl rfl tl0,(kpU hk12),by rw [hO]; simp only [pN L 5 12],S⟩
  ·rintro L g v hL hcl hclo ⟨s37,O40,Z39,hZ,hm9,hm11,hk12,hO,S⟩ 
   have hl12:=clF hL (hclo 12 6 · zbs)
   have SR:St A N w v [oB b2 zj (tmC a1 s_1),zG s28 x25_0] (oR a_0 a0 :: zf s_1 a1.sub :: fS 1 IC s_2 a2 :: oCl s_1.blk (s_1.off + Int.toNat x25_1 * 5) (tmC (kd a1 x25_1) s31) :: zf s31 ((kd a1 x25_1).sub) :: Z39):=by
    have S2:=S.zneed hZ
    rw [hO] at S2
    simp only [hl12,cd2,la2] at S2
    exact S2
   refine wd (zN rfl) ?_
   exact w4 rfl ⟨s37,O40,Z39,hZ,hm9.keep rfl rfl tl0,hm11.keep rfl rfl tl0,(kpU hk12),by rw [hO]; simp only [pN L 6 12],S⟩
  ·rintro L g v hL hcl hclo ⟨s37,O40,Z39,hZ,hm9,hm11,hk12,hO,S⟩ 
   have hl12:=clF hL (hclo 12 7 · zbs)
   have SR:St A N w v [oB b2 zj (tmC a1 s_1),zG s28 x25_0] (oR a_0 a0 :: zf s_1 a1.sub :: fS 1 IC s_2 a2 :: oCl s_1.blk (s_1.off + Int.toNat x25_1 * 5) (tmC (kd a1 x25_1) s31) :: zf s31 ((kd a1 x25_1).sub) :: Z39):=by
    have S2:=S.zneed hZ
    rw [hO] at S2
    simp only [hl12,cd2,la2] at S2
    exact S2
   refine wd (zi rfl) ?_
   exact w4 rfl ⟨s37,O40,Z39,hZ,hm9.keep rfl rfl tl0,hm11.keep rfl rfl tl0,(kpU hk12),by rw [hO]; simp only [pN L 7 12],S⟩
  ·rintro L g v hL hcl hclo ⟨s37,O40,Z39,hZ,hm9,hm11,hk12,hO,S⟩ 
   have hl12:=clF hL (hclo 12 8 · zbs)
   have SR:St A N w v [oB b2 zj (tmC a1 s_1),zG s28 x25_0] (oR a_0 a0 :: zf s_1 a1.sub :: fS 1 IC s_2 a2 :: oCl s_1.blk (s_1.off + Int.toNat x25_1 * 5) (tmC (kd a1 x25_1) s31) :: zf s31 ((kd a1 x25_1).sub) :: Z39):=by
    have S2:=S.zneed hZ
    rw [hO] at S2
    simp only [hl12,cd2,la2] at S2
    exact S2
   refine wd (zi rfl) ?_
   exact w4 rfl ⟨s37,O40,Z39,hZ,hm9.keep rfl rfl tl0,hm11.keep rfl rfl tl0,(kpU hk12),by rw [hO]; simp only [pN L 8 12],S⟩
  ·rintro L g v hL hcl hclo ⟨s37,O40,Z39,hZ,hm9,hm11,hk12,hO,S⟩ hv6 hv7 hv8
   have hl12:=clF hL (hclo 12 9 · zbs)
   replace S:=(S.zneed hZ)
   have hs42:=hs32
   refine wd (does_clipZ xF hv6 hv7 hv8 (S.rd 2) hs42) ?_
   replace S:=S.clipZ 2 hs42
   exact w4 trivial ⟨s37,O40,_,(fun z h=>tl6 z (hZ z h)),Made.one (val:=(fun (c:Unit)=>(⟨s_2.p,Int.toNat (a2.length:Int),Int.toNat (a2.length:Int)⟩ : SlV).v)) (ps:=(fun (c:Unit)=>LT1)) () (xQ List.mem_cons_self x7),hm11.keep rfl rfl tl6,(kpU hk12),by rw [hO]; simp only [pN L 9 12],S⟩
  ·rintro L g v hL hcl hclo ⟨s37,O40,Z39,hZ,hm9,hm11,hk12,hO,S⟩ 
   have hl12:=clF hL (hclo 12 10 · zbs)
   have SR:St A N w v [oB b2 zj (tmC a1 s_1),zG s28 x25_0] (oR a_0 a0 :: zf s_1 a1.sub :: fS 1 IC s_2 a2 :: oCl s_1.blk (s_1.off + Int.toNat x25_1 * 5) (tmC (kd a1 x25_1) s31) :: zf s31 ((kd a1 x25_1).sub) :: Z39):=by
    have S2:=S.zneed hZ
    rw [hO] at S2
    simp only [hl12,cd2,la2] at S2
    exact S2
   refine wd (zi q25_10) ?_
   exact w4 rfl ⟨s37,O40,Z39,hZ,hm9.keep rfl rfl tl0,hm11.keep rfl rfl tl0,(kpU hk12),by rw [hO]; simp only [pN L 10 12],S⟩
  ·rintro L g v hL hcl hclo ⟨s37,O40,Z39,hZ,hm9,hm11,hk12,hO,S⟩ hv10
   have hl12:=clF hL (hclo 12 11 · zbs)
   replace S:=(S.zneed hZ)
   refine yb (C:=IC) (l:=[x25_1]) (vs:=[.int .i64 x25_1]) xF ke.zero (xR hv10 rfl) rfl (fun _ _=>rfl) zbp rfl zbp fun b44 w43 s45 hBw43 hw43=>?_
   replace S:=(S.lit hBw43 hw43 zbr).frzS 0
   exact w4 trivial ⟨s37,O40,_,(fun z h=>tl6 z (hZ z h)),hm9.keep rfl rfl tl6,Made.one (val:=(fun (c:SlV)=>c.v)) (ps:=(fun (c:SlV)=>[fS 1 IC c ([x25_1])])) s45 (xQ List.mem_cons_self x7),(kpU hk12),by rw [hO]; simp only [pN L 11 12],S⟩
  ·rintro L g v hL hcl hclo ⟨s37,O40,Z39,hZ,hm9,hm11,hk12,hO,S⟩ _ _
   obtain ⟨_,he9,hp9⟩ := hm9 (hcl 9 zbs)
   obtain ⟨s35,he11,hp11⟩ := hm11 (hcl 11 zbs)
   have hl12:L 12=false:=hL
   have hOP : ∃ P Y,P=[]∧Y=[oB b2 zj (tmC a1 s_1),zG s28 x25_0]∧O40=P ++ ([] ++ Y):=⟨_,_,rfl,rfl,by rw [hO]; simp only [hl12,cd2,la2]⟩
   obtain ⟨P,Y,hP,hY,hPY⟩ := hOP
   rw [hPY] at S
   replace S:=(S.zneed (xw (l1:=LT1) hp9 (xw (l1:=[fS 1 IC s35 ([x25_1])]) hp11 hZ)))
   have ha48:=ha38
   refine wl_appendZ (C:=IC) xF ke he9 he11 (S.rd 0) rfl (S.rd 1) zbr ha48 zbq zbp fun s47 w46 O hw46 gw46=>?_
   replace S:=S.ownS hw46 O (by first | (simp; done) | (simp; omega) | (simp only [List.length_append]; omega)) gw46
   clear O
   refine w4 trivial ⟨s47,P ++ ([oS xL 1 IC s47 ((a2.take (Int.toNat (a2.length:Int))) ++ [x25_1])] ++ Y),_,(fun z h=>tl7 z (hZ z h)),hm9.keep rfl rfl tl7,hm11.keep rfl rfl tl7,(fun _=>upd_same _ _ _),?_,S.ins (P:=[oS xL 1 IC s47 ((a2.take (Int.toNat (a2.length:Int))) ++ [x25_1])])⟩
   rw [hP,hY]; simp only [xB (L:=L) (i:=12),cd2,la2]
  ·rintro L g v hL hcl hclo ⟨s37,O40,Z39,hZ,hm9,hm11,hk12,hO,S⟩ 
   have SR:St A N w v [oB b2 zj (tmC a1 s_1),zG s28 x25_0] (oR a_0 a0 :: zf s_1 a1.sub :: fS 1 IC s_2 a2 :: oCl s_1.blk (s_1.off + Int.toNat x25_1 * 5) (tmC (kd a1 x25_1) s31) :: zf s31 ((kd a1 x25_1).sub) :: Z39):=by
    have S2:=S.zneed hZ
    rw [hO] at S2
    exact S2.drops
   refine wd (zN q25_3) ?_
   exact w4 rfl ⟨s37,O40,Z39,hZ,hm9.keep rfl rfl tl0,hm11.keep rfl rfl tl0,(kpU hk12),by rw [hO]; simp only [pN L 13 12],S⟩
  rintro L g w49 hLm ⟨s37,O40,Z39,hZ,hm9,hm11,hk12,hO,S⟩ hv50_0 hv50_1 hv50_2 hv50_3 hv50_4 hv50_5 hv50_6 hv50_7 hv50_8 _ hv50_10 _ _ hv50_13
  have hLt : ∀ j,j < 14→L j=true:=fun j hj=>by rw [hLm]; exact decide_eq_true hj
  obtain ⟨_,hv50_9,hp9⟩ := hm9 (hLt 9 zbp)
  obtain ⟨s35,hv50_11,hp11⟩ := hm11 (hLt 11 zbp)
  have hv50_12:=hk12 (hLt 12 zbp)
  simp only [hLt 12 zbp,cond_true,List.nil_append,List.cons_append] at hO
  rw [hO] at S
  replace S:=S.pickZ (xw (l1:=LT1) hp9 (xw (l1:=[fS 1 IC s35 ([x25_1])]) hp11 hZ))
  clear hp9 hp11 hZ hm9 hm11
  obtain ⟨r51,er51,H⟩ := zq H
  replace S:=S.front 2
  obtain ⟨_,_,T,bk⟩ := S.calln 1 ((.z 2 rfl (.z 6 rfl (.s 0 rfl .nil))))
  refine zB (zJ ca_ref14_gather (zQ hv50_0 (zQ hv50_5 (zQ hv50_12 (zQ hv50_13 rfl))))) zbp (zec (a1:=(kd a1 x25_1)) T er51) ?_
  rintro _ w52 ⟨s54,rfl,S2⟩
  replace S:=bk _ _ _ _ S2 rfl
  refine wd (ya rfl) (zd (za (wd (zi q25_10) (wd (xI rfl rfl) (wd (zh rfl) (zd ?_))))))
  replace S:=S.arr [2,0] [2,3,4]
  obtain rfl:=zbt H
  exact ⟨rfl,df,(m25,(r51,IntKind.i64.wrap (x25_1 + 1))),⟨e25,s54,rfl,rfl,S⟩,by dsimp only; omega⟩
 rintro g55 u56 ⟨s25,rfl,s26,p25_3,p25_10,S⟩
 have H:=Ho25
 dsimp only [aft] at H
 refine zb (za (wd (zN p25_3) (wd (ya rfl) (zd (zt ?_)))))
 refine ⟨_,(zP (zg rfl)),?_⟩
 replace S:=S.arr [1] []
 obtain rfl:=zbt H
 exact ⟨s26,rfl,S⟩
theorem ref14_gather_st {a0:Tb} {a_0:Option Addr} {a1:PTerm} {s_1:SlV} {a2:List Int} {s_2:SlV} {a3:List (List Int)} {s_3:SlV} (S:St A N w w [zG s_3 a3] [oR a_0 a0,zf s_1 a1.sub,fS 1 IC s_2 a2]) {k:Nat} {r:List (List Int)} (H:zdG.f k a0 a1 a2 a3=some r) :
  Calls PP uE #[.pointer a_0,.agg (tmC a1 s_1).toArray,s_2.v,s_3.v] w <| Rt fun v w'=>(∃ so0:SlV,v=so0.v∧St A N w w' [zG so0 r] []):=by
 have main : ∀ (k:Nat) {A:Nat→Prop} {N:Oth} {w:World} {a0:Tb} {a_0:Option Addr} {a1:PTerm} {s_1:SlV} {a2:List Int} {s_2:SlV} {a3:List (List Int)} {s_3:SlV} (S:St A N w w [zG s_3 a3] [oR a_0 a0,zf s_1 a1.sub,fS 1 IC s_2 a2]) {r:List (List Int)} (H:zdG.f k a0 a1 a2 a3=some r),Calls PP uE #[.pointer a_0,.agg (tmC a1 s_1).toArray,s_2.v,s_3.v] w <| Rt fun v w'=>(∃ so0:SlV,v=so0.v∧St A N w w' [zG so0 r] []):=by
  intro k
  induction k with
  | zero=>intro A N w a0 a_0 a1 s_1 a2 s_2 a3 s_3 S r H; cases H
  | succ k ih=>intro A N w a0 a_0 a1 s_1 a2 s_2 a3 s_3 S r H; exact ref14_gather_gst ih S H
 exact main k S H
theorem ref14_Redexes_st {a0:Tb} {a_0:Option Addr} {a1:PTerm} {s_1:SlV} (S:St A N w w [] [oR a_0 a0,zf s_1 a1.sub]) {k:Nat} {r:List (List Int) × Int} (H:zdH.f k a0 a1=some r) :
  Calls PP F_ref14_Redexes #[.pointer a_0,.agg (tmC a1 s_1).toArray] w <| Rt fun v w'=>(∃ so0:SlV,v = .tuple #[so0.v,.int .i64 r.2]∧St A N w w' [zG so0 r.1] []):=by
 unfold zdH.f at H
 refine zA (n:=16) Tryz.func11 rfl rfl zbr (zb (za ?_))
 refine zI rfl zbp fun b2 w1 hw1=>?_
 replace S:=S.new hw1
 refine wd (xN) (wd (zh rfl) (zd (zb (za (wd (zD rfl) (wd (ldT rfl (S.blk 0)) ?_))))))
 obtain ⟨r3,er3,H⟩ := zq H
 obtain ⟨_,_,T,bk⟩ := S.calln 0 ((.z 0 rfl (.z 1 rfl .nil)))
 refine zB (zx ca_ref14_ahead) zbp (ref14_ahead_st (a1:=a1) T er3) ?_
 rintro _ w4 ⟨rfl,S2⟩
 replace S:=bk _ _ _ _ S2 rfl
 refine wd (zh rfl) (zd (zb (zb (za (wd (zi rfl) (wd (xp rfl rfl) (zd ?_)))))))
 refine zF rfl (fun hc6=>?_) (fun hc6=>?_)
 ·replace H:=if_t hc6 H
  refine zb (za (wd (zi rfl) (wd (xN) (wd (zh rfl) (zd (zt ?_))))))
  replace S:=S.nilD xm 1 L_int.C y5
  refine ⟨_,(xi (zg rfl) (zg rfl)),?_⟩
  replace S:=S.arr [0] []
  obtain rfl:=zbt H
  exact ⟨SlV.nil,rfl,S⟩
 replace H:=if_f hc6 H
 refine zu (zb (za (wd (zD rfl) (wd (ldT rfl (S.blk 0)) ?_))))
 replace S:=(S.nilZ 1 IC).nilD xm 1 L_int.C y5
 obtain ⟨r7,er7,H⟩ := zq H
 obtain ⟨_,_,T,bk⟩ := S.calln 1 ((.z 1 rfl (.z 2 rfl (.z 0 rfl .nil))))
 refine zB (zJ ca_ref14_gather (zQ rfl (zQ rfl (zQ SlV.nil_eq (zQ SlV.nil_eq rfl))))) zbp (ref14_gather_st (a1:=a1) T er7) ?_
 rintro _ w8 ⟨s10,rfl,S2⟩
 replace S:=bk _ _ _ _ S2 rfl
 refine wd (ya rfl) (wd (zh rfl) (zd (zt ?_)))
 refine ⟨_,(xi (zg rfl) (zg rfl)),?_⟩
 replace S:=S.arr [0] []
 obtain rfl:=zbt H
 exact ⟨s10,rfl,S⟩
theorem ref14_do_gst {zez:Tb→PTerm→List Int→Option (PTerm × Int)} (zeb : ∀ {A:Nat→Prop} {N:Oth} {w:World} {a0:Tb} {a_0:Option Addr} {a1:PTerm} {s_1:SlV} {a2:List Int} {s_2:SlV} (S:St A N w w [] [oR a_0 a0,zf s_1 a1.sub,fS 1 IC s_2 a2]) {r:PTerm × Int} (H:zez a0 a1 a2=some r),Calls PP zan #[.pointer a_0,.agg (tmC a1 s_1).toArray,s_2.v] w <| Rt fun v w'=>(∃ so0:SlV,v = .tuple #[.agg (tmC r.1 so0).toArray,.int .i64 r.2]∧St A N w w' [] [zf so0 r.1.sub])) {A:Nat→Prop} {N:Oth} {w:World} {a0:Tb} {a_0:Option Addr} {a1:PTerm} {s_1:SlV} {a2:List Int} {s_2:SlV} (S:St A N w w [] [oR a_0 a0,zf s_1 a1.sub,fS 1 IC s_2 a2]) {k:Nat} {r:PTerm × Int} (H:zdI.g zez k a0 a1 a2=some r) :
  Calls PP zan #[.pointer a_0,.agg (tmC a1 s_1).toArray,s_2.v] w <| Rt fun v w'=>(∃ so0:SlV,v = .tuple #[.agg (tmC r.1 so0).toArray,.int .i64 r.2]∧St A N w w' [] [zf so0 r.1.sub]):=by
 unfold zdI.g at H
 refine zA (n:=57) Tryz.func43 rfl rfl zbr (zb (za ?_))
 refine zI rfl zbp fun b2 w1 hw1=>?_
 replace S:=S.new hw1
 refine zO xd zbp fun b4 w3 hw3=>?_
 replace S:=S.new hw3
 refine wd (zh rfl) (zd (zb (zb (za (wd (zN rfl) (wd (xH xF rfl (S.rd 2)) (wd (zL rfl rfl) (zd ?_))))))))
 refine zF rfl (fun hc5=>?_) (fun hc5=>?_)
 ·replace H:=if_t hc5 H
  refine zb (za (wd (zD rfl) (wd (ldT rfl (S.blk 1)) ?_)))
  obtain ⟨r6,er6,H⟩ := zq H
  obtain ⟨_,_,T,bk⟩ := S.sub [0,1] [] [oB b4 zj (Term.C tmZ),oB b2 zj (tmC a1 s_1)]
  refine zB (zx ca_ref14_contract) zbp (ref14_contract_st (a1:=a1) T er6) ?_
  rintro _ w7 ⟨s9,rfl,S2⟩
  replace S:=bk _ _ _ _ _ S2 rfl rfl
  refine wd (zo rfl rfl) (wd (zo rfl rfl) ?_)
  refine wsT rfl rfl (S.blk 0) fun w10 B hw10 zw10=>?_
  replace S:=S.store 0 B hw10
  refine wd (zh rfl) (zd (zt ?_))
  refine ⟨_,(xi (rtT rfl (S.blk 0)) (zg rfl)),?_⟩
  replace S:=S.arr [] [0]
  obtain rfl:=zbt H
  exact ⟨s9,rfl,S⟩
 replace H:=if_f hc5 H
 refine zu (zb (za (wd (zN rfl) ?_)))
 obtain ⟨hi11,H⟩ := zU H
 refine wd (xg xF rfl rfl (S.rd 2) (zC hi11).1 (zC hi11).2) (wd (zl xK rfl ((S.rd 2).one (yz (0:Int) (zC hi11)) rfl)) (wd (zh rfl) (zd (zb (zb (za (wd (zi rfl) ?_)))))))
 refine wd (xn rfl rfl) (wd (zy rfl) ?_)
 refine wg (fun hg=>zi rfl) ?_
 refine wg (fun hg=>ze zw rfl (o':=4) rfl) ?_
 refine wg (fun hg=>zl zr (zn hg) ((S.blk 1).cell (Term.get_sub _))) ?_
 refine wg (fun hg=>does_lenF zp (zn hg) (S.onZ 1)) ?_
 refine wg (fun hg=>vX (zn hg) (zn hg)) (wd (xq rfl (fun hp=>(zn (xe hp)))) (zd ?_))
 refine zF rfl (fun hc12=>?_) (fun hc12=>?_)
 ·replace H:=if_t hc12 H
  refine zb (za (wd (Does.to (v' := .agg (Term.C tmZ).toArray) (xa (vs:=[]) xW rfl Bld.nil) rfl) ?_))
  refine wsT rfl rfl (S.blk 0) fun w13 B hw13 zw13=>?_
  replace S:=S.store 0 B hw13
  refine wd (zh rfl) (zd (zt ?_))
  replace S:=S.nilTm
  refine ⟨_,(xi (rtT rfl (S.blk 0)) (zg rfl)),?_⟩
  replace S:=S.arr [] [0]
  obtain rfl:=zbt H
  exact ⟨SlV.nil,rfl,S⟩
 replace H:=if_f hc12 H
 refine zu (zb ?_)
 obtain ⟨hi18,H⟩ := zU H
 obtain ⟨hs20,H⟩ := zU H
 obtain ⟨r21,er21,H⟩ := zq H
 obtain ⟨s19,S⟩ := S.viewTermC 1 (zC hi18)
 replace S:=S.zs [2,3,4,0,1]
 refine x8 14 ⟨fun _ _=>True,fun _ _ _=>True,fun i v _=>match i with
  | 0=>v=Value.pointer a_0
  | 1=>v=Value.pointer (some ⟨b2,4,none⟩)
  | 2=>v=s_1.v
  | 3=>v=Value.int .i64 (at_ (0:Int) a2 0)
  | 4=>v=Value.pointer (some ⟨s_1.blk,s_1.off + Int.toNat (at_ (0:Int) a2 0) * 5,none⟩)
  | 5=>v=Value.agg (tmC (kd a1 (at_ (0:Int) a2 0)) s19).toArray
  | 6=>v=s_2.v
  | 11=>v=Value.int .i64 r21.2
  | _=>True⟩ (fun L g v => ∃ b26:Nat,∃ s28:SlV,∃ O30:List OA,∃ Z29:List OA,(∀ z ∈ [oR a_0 a0,zf s_1 a1.sub,fS 1 IC s_2 a2,oCl s_1.blk (s_1.off + Int.toNat (at_ (0:Int) a2 0) * 5) (tmC (kd a1 (at_ (0:Int) a2 0)) s19),zf s19 ((kd a1 (at_ (0:Int) a2 0)).sub)],z ∈ Z29)∧Made L g Z29 7 41 (fun (c:Unit)=>(⟨if s_2.c=((1:Int)).toNat then s_2.p else s_2.p.map (·.add (((1:Int)).toNat * 1)),s_2.n - ((1:Int)).toNat,s_2.c - ((1:Int)).toNat⟩ : SlV).v) (fun (c:Unit)=>[fS 1 IC (⟨if s_2.c=((1:Int)).toNat then s_2.p else s_2.p.map (·.add (((1:Int)).toNat * 1)),s_2.n - ((1:Int)).toNat,s_2.c - ((1:Int)).toNat⟩ : SlV) (a2.drop ((1:Int)).toNat)])∧Made L g Z29 8 42 (fun (c:SlV)=>Value.tuple #[.agg (tmC r21.1 c).toArray,.int .i64 r21.2]) (fun (c:SlV)=>[zf c r21.1.sub])∧Made L g Z29 9 33 (fun (c:SlV)=>Value.tuple #[.agg (tmC r21.1 c).toArray,.int .i64 r21.2]) (fun (c:SlV)=>[zf c r21.1.sub])∧Made L g Z29 10 43 (fun (c:SlV)=>Value.agg (tmC r21.1 c).toArray) (fun (c:SlV)=>[zf c r21.1.sub])∧(L 12=true→g 9=Value.pointer (some ⟨b26,0,none⟩))∧(L 13=true → ∀ z ∈ [zf s28 r21.1.sub],z ∈ Z29)∧O30=((bif L 13 then [oB b26 zj (tmC r21.1 s28)] else (bif L 12 then [oB b26 zj (Term.C tmZ)] else [])) ++ [oB b4 zj (Term.C tmZ),oB b2 zj (tmC a1 s_1)])∧St A N w v O30 Z29) hmix zbs (fun _ _ _ _ _ _ _ hv=>hv) (fun g=>⟨0,SlV.nil,_,_,fun _ h=>h,Made.no,Made.no,Made.no,Made.no,(fun h=>by cases h),(fun h=>by cases h),rfl,S.ext (Ext.drawn _)⟩) ⟨?_,?_,?_,?_,?_,?_,?_,?_,?_,?_,?_,?_,?_,?_,trivial⟩ ?_
 ·rintro L g v hL hcl hclo ⟨b26,s28,O30,Z29,hZ,hm7,hm8,hm9,hm10,hk12,hq13,hO,S⟩ 
  have hl13:=clF hL (hclo 13 0 · zbs)
  have SR:St A N w v [oB b4 zj (Term.C tmZ),oB b2 zj (tmC a1 s_1)] (oR a_0 a0 :: zf s_1 a1.sub :: fS 1 IC s_2 a2 :: oCl s_1.blk (s_1.off + Int.toNat (at_ (0:Int) a2 0) * 5) (tmC (kd a1 (at_ (0:Int) a2 0)) s19) :: zf s19 ((kd a1 (at_ (0:Int) a2 0)).sub) :: Z29):=by
   have S2:=S.zneed hZ
   rw [hO] at S2
   simp only [hl13,cd2,la2] at S2
   exact S2.drops
  refine wd (zD rfl) ?_
  exact w4 rfl ⟨b26,s28,O30,Z29,hZ,hm7.keep rfl rfl tl0,hm8.keep rfl rfl tl0,hm9.keep rfl rfl tl0,hm10.keep rfl rfl tl0,(kpU hk12),(kpZ tl0 hq13),by rw [hO]; simp only [pN L 0 12,pN L 0 13],S⟩
 ·rintro L g v hL hcl hclo ⟨b26,s28,O30,Z29,hZ,hm7,hm8,hm9,hm10,hk12,hq13,hO,S⟩ 
  have hl13:=clF hL (hclo 13 1 · zbs)
  have SR:St A N w v [oB b4 zj (Term.C tmZ),oB b2 zj (tmC a1 s_1)] (oR a_0 a0 :: zf s_1 a1.sub :: fS 1 IC s_2 a2 :: oCl s_1.blk (s_1.off + Int.toNat (at_ (0:Int) a2 0) * 5) (tmC (kd a1 (at_ (0:Int) a2 0)) s19) :: zf s19 ((kd a1 (at_ (0:Int) a2 0)).sub) :: Z29):=by
   have S2:=S.zneed hZ
   rw [hO] at S2
   simp only [hl13,cd2,la2] at S2
   exact S2.drops
  refine wd (ze zw rfl (o':=4) rfl) ?_
  exact w4 rfl ⟨b26,s28,O30,Z29,hZ,hm7.keep rfl rfl tl0,hm8.keep rfl rfl tl0,hm9.keep rfl rfl tl0,hm10.keep rfl rfl tl0,(kpU hk12),(kpZ tl0 hq13),by rw [hO]; simp only [pN L 1 12,pN L 1 13],S⟩
 ·rintro L g v hL hcl hclo ⟨b26,s28,O30,Z29,hZ,hm7,hm8,hm9,hm10,hk12,hq13,hO,S⟩ hv1
  have hl13:=clF hL (hclo 13 2 · zbs)
  have SR:St A N w v [oB b4 zj (Term.C tmZ),oB b2 zj (tmC a1 s_1)] (oR a_0 a0 :: zf s_1 a1.sub :: fS 1 IC s_2 a2 :: oCl s_1.blk (s_1.off + Int.toNat (at_ (0:Int) a2 0) * 5) (tmC (kd a1 (at_ (0:Int) a2 0)) s19) :: zf s19 ((kd a1 (at_ (0:Int) a2 0)).sub) :: Z29):=by
   have S2:=S.zneed hZ
   rw [hO] at S2
   simp only [hl13,cd2,la2] at S2
   exact S2.drops
  refine wd (zl zr hv1 ((SR.blk 1).cell (Term.get_sub _))) ?_
  exact w4 rfl ⟨b26,s28,O30,Z29,hZ,hm7.keep rfl rfl tl0,hm8.keep rfl rfl tl0,hm9.keep rfl rfl tl0,hm10.keep rfl rfl tl0,(kpU hk12),(kpZ tl0 hq13),by rw [hO]; simp only [pN L 2 12,pN L 2 13],S⟩
 ·rintro L g v hL hcl hclo ⟨b26,s28,O30,Z29,hZ,hm7,hm8,hm9,hm10,hk12,hq13,hO,S⟩ 
  have hl13:=clF hL (hclo 13 3 · zbs)
  have SR:St A N w v [oB b4 zj (Term.C tmZ),oB b2 zj (tmC a1 s_1)] (oR a_0 a0 :: zf s_1 a1.sub :: fS 1 IC s_2 a2 :: oCl s_1.blk (s_1.off + Int.toNat (at_ (0:Int) a2 0) * 5) (tmC (kd a1 (at_ (0:Int) a2 0)) s19) :: zf s19 ((kd a1 (at_ (0:Int) a2 0)).sub) :: Z29):=by
   have S2:=S.zneed hZ
   rw [hO] at S2
   simp only [hl13,cd2,la2] at S2
   exact S2.drops
  refine wd (zi rfl) ?_
  exact w4 rfl ⟨b26,s28,O30,Z29,hZ,hm7.keep rfl rfl tl0,hm8.keep rfl rfl tl0,hm9.keep rfl rfl tl0,hm10.keep rfl rfl tl0,(kpU hk12),(kpZ tl0 hq13),by rw [hO]; simp only [pN L 3 12,pN L 3 13],S⟩
 ·rintro L g v hL hcl hclo ⟨b26,s28,O30,Z29,hZ,hm7,hm8,hm9,hm10,hk12,hq13,hO,S⟩ hv2 hv3
  have hl13:=clF hL (hclo 13 4 · zbs)
  have SR:St A N w v [oB b4 zj (Term.C tmZ),oB b2 zj (tmC a1 s_1)] (oR a_0 a0 :: zf s_1 a1.sub :: fS 1 IC s_2 a2 :: oCl s_1.blk (s_1.off + Int.toNat (at_ (0:Int) a2 0) * 5) (tmC (kd a1 (at_ (0:Int) a2 0)) s19) :: zf s19 ((kd a1 (at_ (0:Int) a2 0)).sub) :: Z29):=by
   have S2:=S.zneed hZ
   rw [hO] at S2
   simp only [hl13,cd2,la2] at S2
   exact S2.drops
  refine wd (does_indexF zp hv2 hv3 (SR.onZ 1) (zC hi18).1 (zC hi18).2) ?_
  exact w4 rfl ⟨b26,s28,O30,Z29,hZ,hm7.keep rfl rfl tl0,hm8.keep rfl rfl tl0,hm9.keep rfl rfl tl0,hm10.keep rfl rfl tl0,(kpU hk12),(kpZ tl0 hq13),by rw [hO]; simp only [pN L 4 12,pN L 4 13],S⟩
 ·rintro L g v hL hcl hclo ⟨b26,s28,O30,Z29,hZ,hm7,hm8,hm9,hm10,hk12,hq13,hO,S⟩ hv4
  have hl13:=clF hL (hclo 13 5 · zbs)
  have SR:St A N w v [oB b4 zj (Term.C tmZ),oB b2 zj (tmC a1 s_1)] (oR a_0 a0 :: zf s_1 a1.sub :: fS 1 IC s_2 a2 :: oCl s_1.blk (s_1.off + Int.toNat (at_ (0:Int) a2 0) * 5) (tmC (kd a1 (at_ (0:Int) a2 0)) s19) :: zf s19 ((kd a1 (at_ (0:Int) a2 0)).sub) :: Z29):=by
   have S2:=S.zneed hZ
   rw [hO] at S2
   simp only [hl13,cd2,la2] at S2
   exact S2.drops
  refine wd (zz zX hv4 (SR.cl 3) (Term.len _)) ?_
  exact w4 rfl ⟨b26,s28,O30,Z29,hZ,hm7.keep rfl rfl tl0,hm8.keep rfl rfl tl0,hm9.keep rfl rfl tl0,hm10.keep rfl rfl tl0,(kpU hk12),(kpZ tl0 hq13),by rw [hO]; simp only [pN L 5 12,pN L 5 13],S⟩
 ·rintro L g v hL hcl hclo ⟨b26,s28,O30,Z29,hZ,hm7,hm8,hm9,hm10,hk12,hq13,hO,S⟩ 
  have hl13:=clF hL (hclo 13 6 · zbs)
  have SR:St A N w v [oB b4 zj (Term.C tmZ),oB b2 zj (tmC a1 s_1)] (oR a_0 a0 :: zf s_1 a1.sub :: fS 1 IC s_2 a2 :: oCl s_1.blk (s_1.off + Int.toNat (at_ (0:Int) a2 0) * 5) (tmC (kd a1 (at_ (0:Int) a2 0)) s19) :: zf s19 ((kd a1 (at_ (0:Int) a2 0)).sub) :: Z29):=by
   have S2:=S.zneed hZ
   rw [hO] at S2
   simp only [hl13,cd2,la2] at S2
   exact S2.drops
  refine wd (zN rfl) ?_
  exact w4 rfl ⟨b26,s28,O30,Z29,hZ,hm7.keep rfl rfl tl0,hm8.keep rfl rfl tl0,hm9.keep rfl rfl tl0,hm10.keep rfl rfl tl0,(kpU hk12),(kpZ tl0 hq13),by rw [hO]; simp only [pN L 6 12,pN L 6 13],S⟩
 ·rintro L g v hL hcl hclo ⟨b26,s28,O30,Z29,hZ,hm7,hm8,hm9,hm10,hk12,hq13,hO,S⟩ hv6
  have hl13:=clF hL (hclo 13 7 · zbs)
  replace S:=(S.zneed hZ)
  refine wd (does_suf xF hv6 rfl (S.rd 2) (of_decide_eq_true hs20)) ?_
  replace S:=S.sufZ 2 (of_decide_eq_true hs20)
  exact w4 trivial ⟨b26,s28,O30,_,(fun z h=>tl6 z (hZ z h)),Made.one (val:=(fun (c:Unit)=>(⟨if s_2.c=((1:Int)).toNat then s_2.p else s_2.p.map (·.add (((1:Int)).toNat * 1)),s_2.n - ((1:Int)).toNat,s_2.c - ((1:Int)).toNat⟩ : SlV).v)) (ps:=(fun (c:Unit)=>[fS 1 IC (⟨if s_2.c=((1:Int)).toNat then s_2.p else s_2.p.map (·.add (((1:Int)).toNat * 1)),s_2.n - ((1:Int)).toNat,s_2.c - ((1:Int)).toNat⟩ : SlV) (a2.drop ((1:Int)).toNat)])) () (xQ List.mem_cons_self x7),hm8.keep rfl rfl tl6,hm9.keep rfl rfl tl6,hm10.keep rfl rfl tl6,(kpU hk12),(kpZ tl6 hq13),by rw [hO]; simp only [pN L 7 12,pN L 7 13],S⟩
 ·rintro L g v hL hcl hclo ⟨b26,s28,O30,Z29,hZ,hm7,hm8,hm9,hm10,hk12,hq13,hO,S⟩ hv0 hv5 _
  obtain ⟨_,he7,hp7⟩ := hm7 (hcl 7 zbs)
  have hl13:=clF hL (hclo 13 8 · zbs)
  replace S:=(S.zneed (xw (l1:=[fS 1 IC (⟨if s_2.c=((1:Int)).toNat then s_2.p else s_2.p.map (·.add (((1:Int)).toNat * 1)),s_2.n - ((1:Int)).toNat,s_2.c - ((1:Int)).toNat⟩ : SlV) (a2.drop ((1:Int)).toNat)]) hp7 hZ))
  obtain ⟨_,_,T,bk⟩ := S.sub [1,5,0] [] (O30)
  refine zB (zJ ca_ref14_do (zQ hv0 (zQ hv5 (zQ he7 rfl)))) zbp (zeb (a1:=(kd a1 (at_ (0:Int) a2 0))) T er21) ?_
  rintro _ w34 ⟨s36,rfl,S2⟩
  replace S:=bk _ _ _ _ _ S2 rfl rfl
  exact w4 trivial ⟨b26,s28,O30,_,(fun z h=>tl7 z (hZ z h)),hm7.keep rfl rfl tl7,Made.one (val:=(fun (c:SlV)=>Value.tuple #[.agg (tmC r21.1 c).toArray,.int .i64 r21.2])) (ps:=(fun (c:SlV)=>[zf c r21.1.sub])) s36 (xQ List.mem_cons_self x7),hm9.keep rfl rfl tl7,hm10.keep rfl rfl tl7,(kpU hk12),(kpZ tl7 hq13),by rw [hO]; simp only [pN L 8 12,pN L 8 13],S⟩
 ·rintro L g v hL hcl hclo ⟨b26,s28,O30,Z29,hZ,hm7,hm8,hm9,hm10,hk12,hq13,hO,S⟩ _
  obtain ⟨s24,he8,hp8⟩ := hm8 (hcl 8 zbs)
  have hl13:=clF hL (hclo 13 9 · zbs)
  replace S:=(S.zneed (xw (l1:=[zf s24 r21.1.sub]) hp8 hZ))
  refine wd (z7 he8) ?_
  exact w4 trivial ⟨b26,s28,O30,_,(fun z h=>tl6 z (hZ z h)),hm7.keep rfl rfl tl6,hm8.keep rfl rfl tl6,Made.one (val:=(fun (c:SlV)=>Value.tuple #[.agg (tmC r21.1 c).toArray,.int .i64 r21.2])) (ps:=(fun (c:SlV)=>[zf c r21.1.sub])) s24 (xQ List.mem_cons_self x7),hm10.keep rfl rfl tl6,(kpU hk12),(kpZ tl6 hq13),by rw [hO]; simp only [pN L 9 12,pN L 9 13],S⟩
 ·rintro L g v hL hcl hclo ⟨b26,s28,O30,Z29,hZ,hm7,hm8,hm9,hm10,hk12,hq13,hO,S⟩ _
  obtain ⟨s24,he9,hp9⟩ := hm9 (hcl 9 zbs)
  have hl13:=clF hL (hclo 13 10 · zbs)
  replace S:=(S.zneed (xw (l1:=[zf s24 r21.1.sub]) hp9 hZ))
  refine wd (zo he9 rfl) ?_
  exact w4 trivial ⟨b26,s28,O30,_,(fun z h=>tl6 z (hZ z h)),hm7.keep rfl rfl tl6,hm8.keep rfl rfl tl6,hm9.keep rfl rfl tl6,Made.one (val:=(fun (c:SlV)=>Value.agg (tmC r21.1 c).toArray)) (ps:=(fun (c:SlV)=>[zf c r21.1.sub])) s24 (xQ List.mem_cons_self x7),(kpU hk12),(kpZ tl6 hq13),by rw [hO]; simp only [pN L 10 12,pN L 10 13],S⟩
 ·rintro L g v hL hcl hclo ⟨b26,s28,O30,Z29,hZ,hm7,hm8,hm9,hm10,hk12,hq13,hO,S⟩ _
  obtain ⟨s24,he9,hp9⟩ := hm9 (hcl 9 zbs)
  have SR:St A N w v [oB b4 zj (Term.C tmZ),oB b2 zj (tmC a1 s_1)] (zf s24 r21.1.sub :: oR a_0 a0 :: zf s_1 a1.sub :: fS 1 IC s_2 a2 :: oCl s_1.blk (s_1.off + Int.toNat (at_ (0:Int) a2 0) * 5) (tmC (kd a1 (at_ (0:Int) a2 0)) s19) :: zf s19 ((kd a1 (at_ (0:Int) a2 0)).sub) :: Z29):=by
   have S2:=S.zneed (xw (l1:=[zf s24 r21.1.sub]) hp9 hZ)
   rw [hO] at S2
   exact S2.drops
  refine wd (zo he9 rfl) ?_
  exact w4 rfl ⟨b26,s28,O30,Z29,hZ,hm7.keep rfl rfl tl0,hm8.keep rfl rfl tl0,hm9.keep rfl rfl tl0,hm10.keep rfl rfl tl0,(kpU hk12),(kpZ tl0 hq13),by rw [hO]; simp only [pN L 11 12,pN L 11 13],S⟩
 ·rintro L g v hL hcl hclo ⟨b26,s28,O30,Z29,hZ,hm7,hm8,hm9,hm10,hk12,hq13,hO,S⟩ 
  have hl12:L 12=false:=hL
  have hl13:=clF hL (hclo 13 12 · zbs)
  have hOP : ∃ P Y,P=[]∧Y=[oB b4 zj (Term.C tmZ),oB b2 zj (tmC a1 s_1)]∧O30=P ++ ([] ++ Y):=⟨_,_,rfl,rfl,by rw [hO]; simp only [hl12,hl13,cd2,la2]⟩
  obtain ⟨P,Y,hP,hY,hPY⟩ := hOP
  rw [hPY] at S
  replace S:=S
  refine zO xd zbp fun b38 w37 hw37=>?_
  replace S:=S.new hw37
  refine w4 trivial ⟨b38,s28,P ++ ([oB b38 zj (Term.C tmZ)] ++ Y),_,hZ,hm7.keep rfl rfl tl0,hm8.keep rfl rfl tl0,hm9.keep rfl rfl tl0,hm10.keep rfl rfl tl0,(fun _=>upd_same _ _ _),(kpZ tl0 hq13),?_,S.ins (P:=[oB b38 zj (Term.C tmZ)])⟩
  rw [hP,hY]; simp only [pN L 12 13,xB (L:=L) (i:=12),hl13,cd2,la2]
 ·rintro L g v hL hcl hclo ⟨b26,s28,O30,Z29,hZ,hm7,hm8,hm9,hm10,hk12,hq13,hO,S⟩ _ _
  obtain ⟨s24,he10,hp10⟩ := hm10 (hcl 10 zbs)
  have hl12:L 12=true:=hcl 12 zbs
  have hl13:L 13=false:=hL
  have hOP : ∃ P Y,P=[]∧Y=[oB b4 zj (Term.C tmZ),oB b2 zj (tmC a1 s_1)]∧O30=P ++ ([oB b26 zj (Term.C tmZ)] ++ Y):=⟨_,_,rfl,rfl,by rw [hO]; simp only [hl12,hl13,cd2,la2]⟩
  obtain ⟨P,Y,hP,hY,hPY⟩ := hOP
  rw [hPY] at S
  replace S:=(S.ins.zneed (xw (l1:=[zf s24 r21.1.sub]) hp10 hZ))
  refine wsT (hk12 (hcl 12 zbs)) he10 (S.blk 0) fun w39 B hw39 zw39=>?_
  replace S:=S.store 0 B hw39
  refine zd (ob40 trivial (fun _=>trivial) ⟨b26,s24,P ++ ([oB b26 zj (tmC r21.1 s24)] ++ Y),_,(fun z h=>tl6 z (hZ z h)),hm7.keep0 rfl tl6,hm8.keep0 rfl tl6,hm9.keep0 rfl tl6,hm10.keep0 rfl tl6,(kpP hk12),(fun _ z q=>tl6 z (hp10 z q)),?_,S.ins (P:=[oB b26 zj (tmC r21.1 s24)])⟩)
  rw [hP,hY]; simp only [pN L 13 12,xB (L:=L) (i:=13),hl12,cd2,la2]
 rintro L g w40 hLm ⟨b26,s28,O30,Z29,hZ,hm7,hm8,hm9,hm10,hk12,hq13,hO,S⟩ hv41_0 hv41_1 hv41_2 hv41_3 hv41_4 hv41_5 hv41_6 _ _ _ _ hv41_11 _ _
 have hLt : ∀ j,j < 14→L j=true:=fun j hj=>by rw [hLm]; exact decide_eq_true hj
 obtain ⟨_,hv41_7,hp7⟩ := hm7 (hLt 7 zbp)
 obtain ⟨s24,hv41_10,hp10⟩ := hm10 (hLt 10 zbp)
 have hv41_12:=hk12 (hLt 12 zbp)
 simp only [hLt 12 zbp,hLt 13 zbp,cond_true,List.nil_append,List.cons_append] at hO
 rw [hO] at S
 replace hq13:=hq13 (hLt 13 zbp)
 replace S:=S.pickZ (xw (l1:=[fS 1 IC (⟨if s_2.c=((1:Int)).toNat then s_2.p else s_2.p.map (·.add (((1:Int)).toNat * 1)),s_2.n - ((1:Int)).toNat,s_2.c - ((1:Int)).toNat⟩ : SlV) (a2.drop ((1:Int)).toNat)]) hp7 (xw (l1:=[zf s24 r21.1.sub]) hp10 (xw (l1:=[zf s28 r21.1.sub]) hq13 hZ)))
 clear hp7 hp10 hZ hm7 hm8 hm9 hm10
 refine wd (zh hv41_11) (zd (zb (zb (za (wd (zi rfl) (wd (xp rfl rfl) (zd ?_)))))))
 refine zF rfl (fun hc42=>?_) (fun hc42=>?_)
 ·replace H:=if_t hc42 H
  refine zb (za (wd (Does.to (v' := .agg (Term.C tmZ).toArray) (xa (vs:=[]) xW rfl Bld.nil) rfl) (wd (zi rfl) ?_)))
  refine wsT rfl rfl (S.blk 1) fun w43 B hw43 zw43=>?_
  replace S:=S.store 1 B hw43
  refine wd (zh rfl) (zd (zt ?_))
  replace S:=S.nilTm
  refine ⟨_,(xi (rtT rfl (S.blk 0)) (zg rfl)),?_⟩
  replace S:=S.arr [] [0]
  obtain rfl:=zbt H
  exact ⟨SlV.nil,rfl,S⟩
 replace H:=if_f hc42 H
 refine zu (zb (za (wd (ldT rfl (S.blk 2)) ?_)))
 obtain ⟨r45,er45,H⟩ := zq H
 obtain ⟨_,_,T,bk⟩ := S.sub [4] [] [oB b26 zj (tmC r21.1 s28),oB b4 zj (Term.C tmZ),oB b2 zj (tmC a1 s_1)]
 refine zB (zx yX) zbp (ref12_Copy_hst (a0:=a1) T er45) ?_
 rintro _ w44 ⟨s47,m48,rfl,S2⟩
 replace S:=bk _ _ _ _ _ S2 rfl rfl
 refine zO xd zbp fun b50 w49 hw49=>?_
 replace S:=S.new hw49
 refine wsT rfl rfl (S.blk 0) fun w51 B hw51 zw51=>?_
 replace S:=S.store 0 B hw51
 refine zd (zb (za (wd (ze zw rfl (o':=4) rfl) (wd (zl zr rfl ((S.blk 0).cell (Term.get_sub _))) (wd (zi rfl) (wd (zz zX hv41_12 ((S.blk 2).all _ (Term.len _)) (Term.len _)) ?_))))))
 obtain ⟨hi52,H⟩ := zU H
 refine wd (xg zp rfl rfl (S.rdO 1) (zC hi52).1 (by rw [(S.lenTm 0)]; exact (zC hi52).2)) ?_
 have hlw53:=S.lenO 1
 have hqw53:=(S.lenTm 0)
 refine kr (C:=Term.C) (a:=(tmT r21.1 s28)) zX rfl rfl (S.sl 1) ⟨(zC hi52).1,by rw [hqw53]; exact (zC hi52).2⟩ (Term.len _) (Term.one _) fun w53 O hw53=>?_
 replace S:=S.push 1 O (by rw [List.length_set]; exact hlw53) hw53 (fun i hi => .inl hi)
 clear O hlw53 hqw53
 replace S:=S.setTm (x:=r21.1) 0 3 (Int.toNat (at_ (0:Int) a2 0))
 refine zd (zb (za ?_))
 replace S:=S.frzTm 0 0
 refine wd (ldT rfl (S.blk 0)) ?_
 refine wsT rfl rfl (S.blk 2) fun w54 B hw54 zw54=>?_
 replace S:=S.store 2 B hw54
 refine wd (zh rfl) (zd (zt ?_))
 refine ⟨_,(xi (rtT rfl (S.blk 0)) (zg rfl)),?_⟩
 replace S:=S.arr [] [0]
 obtain rfl:=zbt H
 exact ⟨s47,rfl,S⟩
theorem ref14_do_st {a0:Tb} {a_0:Option Addr} {a1:PTerm} {s_1:SlV} {a2:List Int} {s_2:SlV} (S:St A N w w [] [oR a_0 a0,zf s_1 a1.sub,fS 1 IC s_2 a2]) {k:Nat} {r:PTerm × Int} (H:zdI.f k a0 a1 a2=some r) :
  Calls PP zan #[.pointer a_0,.agg (tmC a1 s_1).toArray,s_2.v] w <| Rt fun v w'=>(∃ so0:SlV,v = .tuple #[.agg (tmC r.1 so0).toArray,.int .i64 r.2]∧St A N w w' [] [zf so0 r.1.sub]):=by
 have main : ∀ (k:Nat) {A:Nat→Prop} {N:Oth} {w:World} {a0:Tb} {a_0:Option Addr} {a1:PTerm} {s_1:SlV} {a2:List Int} {s_2:SlV} (S:St A N w w [] [oR a_0 a0,zf s_1 a1.sub,fS 1 IC s_2 a2]) {r:PTerm × Int} (H:zdI.f k a0 a1 a2=some r),Calls PP zan #[.pointer a_0,.agg (tmC a1 s_1).toArray,s_2.v] w <| Rt fun v w'=>(∃ so0:SlV,v = .tuple #[.agg (tmC r.1 so0).toArray,.int .i64 r.2]∧St A N w w' [] [zf so0 r.1.sub]):=by
  intro k
  induction k with
  | zero=>intro A N w a0 a_0 a1 s_1 a2 s_2 S r H; cases H
  | succ k ih=>intro A N w a0 a_0 a1 s_1 a2 s_2 S r H; exact ref14_do_gst ih S H
 exact main k S H
theorem ref14_Do_st {a0:Tb} {a_0:Option Addr} {a1:PTerm} {s_1:SlV} {a2:List Int} {s_2:SlV} (S:St A N w w [] [oR a_0 a0,zf s_1 a1.sub,fS 1 IC s_2 a2]) {k:Nat} {r:PTerm × Int} (H:zdJ.f k a0 a1 a2=some r) :
  Calls PP F_ref14_Do #[.pointer a_0,.agg (tmC a1 s_1).toArray,s_2.v] w <| Rt fun v w'=>(∃ so0:SlV,v = .tuple #[.agg (tmC r.1 so0).toArray,.int .i64 r.2]∧St A N w w' [] [zf so0 r.1.sub]):=by
 unfold zdJ.f at H
 refine zA (n:=36) Tryz.func17 rfl rfl zbr (zb (za ?_))
 refine zI rfl zbp fun b2 w1 hw1=>?_
 replace S:=S.new hw1
 refine zO xd zbp fun b4 w3 hw3=>?_
 replace S:=S.new hw3
 refine wd (zh rfl) (zd (zb (za (wd (zD rfl) (wd (ldT rfl (S.blk 1)) ?_)))))
 obtain ⟨r5,er5,H⟩ := zq H
 obtain ⟨_,_,T,bk⟩ := S.calln 0 ((.z 0 rfl (.z 1 rfl .nil)))
 refine zB (zx ca_ref14_ahead) zbp (ref14_ahead_st (a1:=a1) T er5) ?_
 rintro _ w6 ⟨rfl,S2⟩
 replace S:=bk _ _ _ _ S2 rfl
 refine wd (zh rfl) (zd (zb (zb (za (wd (zi rfl) (wd (xp rfl rfl) (zd ?_)))))))
 refine zF rfl (fun hc8=>?_) (fun hc8=>?_)
 ·replace H:=if_t hc8 H
  refine zb (za (wd (Does.to (v' := .agg (Term.C tmZ).toArray) (xa (vs:=[]) xW rfl Bld.nil) rfl) (wd (zi rfl) ?_)))
  refine wsT rfl rfl (S.blk 0) fun w9 B hw9 zw9=>?_
  replace S:=S.store 0 B hw9
  refine wd (zh rfl) (zd (zt ?_))
  replace S:=S.nilTm
  refine ⟨_,(xi (rtT rfl (S.blk 0)) (zg rfl)),?_⟩
  replace S:=S.arr [] [0]
  obtain rfl:=zbt H
  exact ⟨SlV.nil,rfl,S⟩
 replace H:=if_f hc8 H
 refine zu (zb (za (wd (zD rfl) (wd (ldT rfl (S.blk 1)) (wd (zN rfl) ?_)))))
 obtain ⟨r10,er10,H⟩ := zq H
 obtain ⟨_,_,T,bk⟩ := S.sub [0,1,2] [] [oB b4 zj (Term.C tmZ),oB b2 zj (tmC a1 s_1)]
 refine zB (zx ca_ref14_do) zbp (ref14_do_st (a1:=a1) T er10) ?_
 rintro _ w11 ⟨s13,rfl,S2⟩
 replace S:=bk _ _ _ _ _ S2 rfl rfl
 refine wd (z7 rfl) (wd (zo rfl rfl) (wd (zo rfl rfl) ?_))
 refine zO xd zbp fun b15 w14 hw14=>?_
 replace S:=S.new hw14
 refine wsT rfl rfl (S.blk 0) fun w16 B hw16 zw16=>?_
 replace S:=S.store 0 B hw16
 refine wd (zh rfl) (zd (zb (zb (za (wd (zi rfl) (wd (zL rfl rfl) (wd (zy rfl) ?_)))))))
 refine wg (fun hg=>ldT rfl (S.blk 0)) ?_
 obtain ⟨r17,er17,H⟩ := zq H
 refine xu (j:=2) (pol:=true) rfl rfl rfl zbp (fun hg=>zJ uJ (zQ (zn hg) rfl)) zbp (fun hg=>(have ⟨M,SS⟩ := S.lend ((.z 0 rfl .nil)); quiet (uN (a0:=r10.1) SS (if_t (by simpa using hg) er17)) (fun v w' h=>⟨h.1,_,_,h.2⟩))) fun w18 hw18=>?_
 replace S:=S.ext hw18
 refine wg (fun hg=>xp (zn hg) rfl) (wd (zW rfl (fun hp=>(zn (xe hp)))) (zd ?_))
 refine zF rfl (fun hc19=>?_) (fun hc19=>?_)
 ·replace H:=if_t hc19 H
  refine za (wd (zh rfl) (zd (zb (zb (za (wd (zi rfl) (wd (xp rfl rfl) (zd ?_))))))))
  refine zF rfl (fun hc20=>?_) (fun hc20=>?_)
  ·replace H:=if_t hc20 H
   refine zb (za (wd (Does.to (v' := .agg (Term.C tmZ).toArray) (xa (vs:=[]) xW rfl Bld.nil) rfl) (wd (zi rfl) ?_)))
   refine wsT rfl rfl (S.blk 1) fun w21 B hw21 zw21=>?_
   replace S:=S.store 1 B hw21
   refine wd (zh rfl) (zd (zt ?_))
   replace S:=S.nilTm
   refine ⟨_,(xi (rtT rfl (S.blk 0)) (zg rfl)),?_⟩
   replace S:=S.arr [] [0]
   obtain rfl:=zbt H
   exact ⟨SlV.nil,rfl,S⟩
  replace H:=if_f hc20 H
  refine zu (zb (za (wd (ldT rfl (S.blk 0)) ?_)))
  refine wsT rfl rfl (S.blk 1) fun w22 B hw22 zw22=>?_
  replace S:=S.store 1 B hw22
  refine wd (zh rfl) (zd (zt ?_))
  refine ⟨_,(xi (rtT rfl (S.blk 0)) (zg rfl)),?_⟩
  replace S:=S.arr [] [0]
  obtain rfl:=zbt H
  exact ⟨s13,rfl,S⟩
 ·replace H:=if_f hc19 H
  refine zu (zb (zb (za (wd (zi rfl) (wd (xp rfl rfl) (zd ?_))))))
  refine zF rfl (fun hc23=>?_) (fun hc23=>?_)
  ·replace H:=if_t hc23 H
   refine zb (za (wd (Does.to (v' := .agg (Term.C tmZ).toArray) (xa (vs:=[]) xW rfl Bld.nil) rfl) (wd (zi rfl) ?_)))
   refine wsT rfl rfl (S.blk 1) fun w24 B hw24 zw24=>?_
   replace S:=S.store 1 B hw24
   refine wd (zh rfl) (zd (zt ?_))
   replace S:=S.nilTm
   refine ⟨_,(xi (rtT rfl (S.blk 0)) (zg rfl)),?_⟩
   replace S:=S.arr [] [0]
   obtain rfl:=zbt H
   exact ⟨SlV.nil,rfl,S⟩
  replace H:=if_f hc23 H
  refine zu (zb (za (wd (ldT rfl (S.blk 0)) ?_)))
  refine wsT rfl rfl (S.blk 1) fun w25 B hw25 zw25=>?_
  replace S:=S.store 1 B hw25
  refine wd (zh rfl) (zd (zt ?_))
  refine ⟨_,(xi (rtT rfl (S.blk 0)) (zg rfl)),?_⟩
  replace S:=S.arr [] [0]
  obtain rfl:=zbt H
  exact ⟨s13,rfl,S⟩
theorem ref14_strip_gst {zeB:PTerm→Option PTerm} (zed : ∀ {A:Nat→Prop} {N:Oth} {w:World} {a0:PTerm} {s_0:SlV} (S:St A N w w [] [zf s_0 a0.sub]) {r:PTerm} (H:zeB a0=some r),Calls PP je #[.agg (tmC a0 s_0).toArray] w <| Rt fun v w'=>(∃ so0:SlV,v = .agg (tmC r so0).toArray∧St A N w w' [] [zf so0 r.sub])) {A:Nat→Prop} {N:Oth} {w:World} {a0:PTerm} {s_0:SlV} (S:St A N w w [] [zf s_0 a0.sub]) {k:Nat} {r:PTerm} (H:zdK.g zeB k a0=some r) :
  Calls PP je #[.agg (tmC a0 s_0).toArray] w <| Rt fun v w'=>(∃ so0:SlV,v = .agg (tmC r so0).toArray∧St A N w w' [] [zf so0 r.sub]):=by
 unfold zdK.g at H
 refine zA (n:=34) Tryz.func47 rfl rfl zbr (zb (za ?_))
 refine zI rfl zbp fun b2 w1 hw1=>?_
 replace S:=S.new hw1
 refine zO xd zbp fun b4 w3 hw3=>?_
 replace S:=S.new hw3
 refine zd (zb (zb (za (wd (ze zV rfl (o':=0) rfl) (wd (zl zM rfl ((S.blk 1).cell (Term.get_kind _))) (wd (zL rfl rfl) (zd ?_)))))))
 refine zF rfl (fun hc5=>?_) (fun hc5=>?_)
 ·replace H:=if_t hc5 H
  refine zb (za (wd (ze zw rfl (o':=4) rfl) (wd (zl zr rfl ((S.blk 1).cell (Term.get_sub _))) ?_)))
  obtain ⟨hi6,H⟩ := zU H
  refine wd (does_indexF zp rfl rfl (S.onZ 0) (zC hi6).1 (zC hi6).2) ?_
  obtain ⟨s7,hc8,S⟩ := S.viewTerm 0 (zC hi6)
  replace S:=S
  refine wd (ldC rfl hc8) ?_
  obtain ⟨r9,er9,H⟩ := zq H
  obtain ⟨_,_,T,bk⟩ := S.sub [0] [] [oB b4 zj (Term.C tmZ),oB b2 zj (tmC a0 s_0)]
  refine zB (zx zau) zbp (zed (a0:=(kd a0 0)) T er9) ?_
  rintro _ w10 ⟨s12,rfl,S2⟩
  replace S:=bk _ _ _ _ _ S2 rfl rfl
  refine wsT rfl rfl (S.blk 0) fun w13 B hw13 zw13=>?_
  replace S:=S.store 0 B hw13
  refine zd (zt ?_)
  refine ⟨_,(zP (rtT rfl (S.blk 0))),?_⟩
  replace S:=S.arr [] [0]
  obtain rfl:=zbt H
  exact ⟨s12,rfl,S⟩
 replace H:=if_f hc5 H
 refine zu (zb (za (wd (ldT rfl (S.blk 1)) ?_)))
 refine zO xd zbp fun b15 w14 hw14=>?_
 replace S:=S.new hw14
 refine wsT rfl rfl (S.blk 0) fun w16 B hw16 zw16=>?_
 replace S:=S.store 0 B hw16
 refine zd (zb (za (wd (ze zw rfl (o':=4) rfl) ?_)))
 refine xY zr rfl SlV.nil_eq (S.blk 0) (by rw [Term.len]; decide) (SlV.one _ _ rfl) (Term.set_sub _ _) fun w17 B hw17 zw17=>?_
 replace S:=S.store 0 B hw17
 refine zd (zb (zb (za (wd (zh rfl) (zd ?_)))))
 replace S:=((S.nil zj 5 Term.C).bigTm).nil zj 5 Term.C
 replace S:=S.bigTm
 obtain ⟨o18,e18,Ho18⟩ := zq H
 clear H
 refine xr ([4] ++ rg 15 18) (fun fr W => ∃ s18:Int × PTerm,o18 = .inl s18 ∧ ∃ s19:SlV,∃ m20:List Term,fr 4 = .int .i64 s18.1∧St A N w W [oS zj 5 Term.C SlV.nil ([]:List Term),oS zj 5 Term.C s19 m20,oB b15 zj (tmC s18.2 s19),oB b4 zj (Term.C tmZ),oB b2 zj (tmC a0 s_0)] [bigA xj ([]:List Term) ([]:List PTerm),bigA xj m20 s18.2.sub,zf s_0 a0.sub]) ?_ ?_
 ·refine zK ?_
  refine xy (α:=Nat × (Int × PTerm)) ([4] ++ rg 15 18) (fun x fr W=>iter (fun s=>zdK.b0 a0 zeB s.1 s.2) x.1 x.2=some o18 ∧ ∃ s21:SlV,∃ m22:List Term,fr 4 = .int .i64 (x.2.1)∧St A N w W [oS zj 5 Term.C SlV.nil ([]:List Term),oS zj 5 Term.C s21 m22,oB b15 zj (tmC (x.2.2) s21),oB b4 zj (Term.C tmZ),oB b2 zj (tmC a0 s_0)] [bigA xj ([]:List Term) ([]:List PTerm),bigA xj m22 (x.2.2).sub,zf s_0 a0.sub]) (fun x=>x.1) (k,(0,(⟨a0.kind,a0.name,a0.other,a0.form,([]:List PTerm)⟩ : PTerm))) ⟨(by dsimp only; exact e18),SlV.nil,([]:List Term),rfl,S⟩ ?_
  rintro ⟨m18,⟨x18_0,x18_1⟩⟩ g18 u18 ⟨e18,s23,m24,q18_4,S⟩
  try dsimp only at e18
  try dsimp only at S
  try dsimp only at q18_4
  obtain ⟨m18,rfl⟩ : ∃ m,m18=m + 1:=⟨m18 - 1,by cases m18 with | zero=>cases e18 | succ m=>rfl⟩
  obtain ⟨q18,H,e18⟩ := uk e18
  unfold zdK.b0 at H
  try dsimp only at H
  refine zb (zb (za (wd (zi q18_4) (wd (ze zw rfl (o':=4) rfl) (wd (zl zr rfl ((S.blk 4).cell (Term.get_sub _))) (wd (does_lenF zp rfl (S.onZ 2)) (wd (xn rfl rfl) (zd ?_))))))))
  refine zF rfl (fun hc25=>?_) (fun hc25=>?_)
  rotate_left
  ·replace H:=if_f hc25 H
   refine xG ?_
   obtain rfl:=zbt H
   exact ⟨rfl,df,(x18_0,x18_1),e18,s23,m24,q18_4,S⟩
  replace H:=if_t hc25 H
  refine zu (zb ?_)
  refine zK ?_
  obtain ⟨hi26,H⟩ := zU H
  obtain ⟨r28,er28,H⟩ := zq H
  obtain ⟨s27,S⟩ := S.viewTermC 2 (zC hi26)
  replace S:=S.zs [2,3,4,0,1]
  let LT1:List OA:=[bigA xj ([]:List Term) ([]:List PTerm),bigA xj m24 x18_1.sub,zf s_0 a0.sub,oCl s_0.blk (s_0.off + Int.toNat x18_0 * 5) (tmC (kd a0 x18_0) s27),zf s27 ((kd a0 x18_0).sub)]
  let LT2:List OA:=[oS zj 5 Term.C SlV.nil ([]:List Term),oS zj 5 Term.C s23 m24,oB b15 zj (tmC x18_1 s23),oB b4 zj (Term.C tmZ),oB b2 zj (tmC a0 s_0)]
  refine x8 9 ⟨fun _ _=>True,fun _ _ _=>True,fun i v _=>match i with
   | 0=>v=Value.pointer (some ⟨b15,4,none⟩)
   | 1=>v=s23.v
   | 2=>v=Value.pointer (some ⟨b2,4,none⟩)
   | 3=>v=s_0.v
   | 4=>v=Value.int .i64 x18_0
   | 5=>v=Value.pointer (some ⟨s_0.blk,s_0.off + Int.toNat x18_0 * 5,none⟩)
   | 6=>v=Value.agg (tmC (kd a0 x18_0) s27).toArray
   | _=>True⟩ (fun L g v=>bif L 8 then (∃ (s31:SlV) (s34:SlV),(L 7=true→g 29=Value.agg (tmC r28 s31).toArray)∧(L 8=true→g 30=s34.v)∧St A N w v (oS zj 5 Term.C s34 ([(tmT r28 s31)]) :: LT2) (zf s31 r28.sub :: LT1)) else bif L 7 then (∃ (s31:SlV),(L 7=true→g 29=Value.agg (tmC r28 s31).toArray)∧St A N w v LT2 (zf s31 r28.sub :: LT1)) else (St A N w v LT2 LT1)) hmix zbs (fun _ _ _ _ _ _ _ hv=>hv) (fun g=>S.ext (Ext.drawn _)) ⟨?_,?_,?_,?_,?_,?_,?_,?_,?_,trivial⟩ ?_
  ·rintro L g v hL hcl hclo hT 
   cases hl8:L 8 with
   | true =>
    replace hT : ∃ (s31:SlV) (s34:SlV),(L 7=true→g 29=Value.agg (tmC r28 s31).toArray)∧(L 8=true→g 30=s34.v)∧St A N w v (oS zj 5 Term.C s34 ([(tmT r28 s31)]) :: LT2) (zf s31 r28.sub :: LT1):=by simp only [hl8,cd2] at hT ⊢; exact hT
    obtain ⟨s31,s34,he7,he8,S⟩ := hT
    refine wd (ze zw rfl (o':=4) rfl) ?_
    have hT2 : ∃ (s31':SlV) (s34':SlV),((plus L 0) 7=true→(upd g 22 (Value.pointer (some ⟨b15,4,none⟩))) 29=Value.agg (tmC r28 s31').toArray)∧((plus L 0) 8=true→(upd g 22 (Value.pointer (some ⟨b15,4,none⟩))) 30=s34'.v)∧St A N w v (oS zj 5 Term.C s34' ([(tmT r28 s31')]) :: LT2) (zf s31' r28.sub :: LT1):=⟨s31,s34,kpU he7,kpU he8,S⟩
    exact w4 rfl (by simp only [pN L 0 7,pN L 0 8,hl8,cd2] at hT2 ⊢; exact hT2)
   | false =>
    cases hl7:L 7 with
    | true =>
     replace hT : ∃ (s31:SlV),(L 7=true→g 29=Value.agg (tmC r28 s31).toArray)∧St A N w v LT2 (zf s31 r28.sub :: LT1):=by simp only [hl7,hl8,cd2] at hT ⊢; exact hT
     obtain ⟨s31,he7,S⟩ := hT
     refine wd (ze zw rfl (o':=4) rfl) ?_
     have hT2 : ∃ (s31':SlV),((plus L 0) 7=true→(upd g 22 (Value.pointer (some ⟨b15,4,none⟩))) 29=Value.agg (tmC r28 s31').toArray)∧St A N w v LT2 (zf s31' r28.sub :: LT1):=⟨s31,kpU he7,S⟩
     exact w4 rfl (by simp only [pN L 0 7,pN L 0 8,hl7,hl8,cd2] at hT2 ⊢; exact hT2)
    | false =>
     simp only [hl7,hl8,cd2] at hT
     replace S:=hT
     refine wd (ze zw rfl (o':=4) rfl) ?_
     exact w4 rfl (by simp only [pN L 0 7,pN L 0 8,hl7,hl8,cd2]; exact S)
  ·rintro L g v hL hcl hclo hT hv0
   cases hl8:L 8 with
   | true =>
    replace hT : ∃ (s31:SlV) (s34:SlV),(L 7=true→g 29=Value.agg (tmC r28 s31).toArray)∧(L 8=true→g 30=s34.v)∧St A N w v (oS zj 5 Term.C s34 ([(tmT r28 s31)]) :: LT2) (zf s31 r28.sub :: LT1):=by simp only [hl8,cd2] at hT ⊢; exact hT
    obtain ⟨s31,s34,he7,he8,S⟩ := hT
    refine wd (zl zr hv0 ((S.blk 3).cell (Term.get_sub _))) ?_
    have hT2 : ∃ (s31':SlV) (s34':SlV),((plus L 1) 7=true→(upd g 23 (s23.v)) 29=Value.agg (tmC r28 s31').toArray)∧((plus L 1) 8=true→(upd g 23 (s23.v)) 30=s34'.v)∧St A N w v (oS zj 5 Term.C s34' ([(tmT r28 s31')]) :: LT2) (zf s31' r28.sub :: LT1):=⟨s31,s34,kpU he7,kpU he8,S⟩
    exact w4 rfl (by simp only [pN L 1 7,pN L 1 8,hl8,cd2] at hT2 ⊢; exact hT2)
   | false =>
    cases hl7:L 7 with
    | true =>
     replace hT : ∃ (s31:SlV),(L 7=true→g 29=Value.agg (tmC r28 s31).toArray)∧St A N w v LT2 (zf s31 r28.sub :: LT1):=by simp only [hl7,hl8,cd2] at hT ⊢; exact hT
     obtain ⟨s31,he7,S⟩ := hT
     refine wd (zl zr hv0 ((S.blk 2).cell (Term.get_sub _))) ?_
     have hT2 : ∃ (s31':SlV),((plus L 1) 7=true→(upd g 23 (s23.v)) 29=Value.agg (tmC r28 s31').toArray)∧St A N w v LT2 (zf s31' r28.sub :: LT1):=⟨s31,kpU he7,S⟩
     exact w4 rfl (by simp only [pN L 1 7,pN L 1 8,hl7,hl8,cd2] at hT2 ⊢; exact hT2)
    | false =>
     simp only [hl7,hl8,cd2] at hT
     replace S:=hT
     refine wd (zl zr hv0 ((S.blk 2).cell (Term.get_sub _))) ?_
     exact w4 rfl (by simp only [pN L 1 7,pN L 1 8,hl7,hl8,cd2]; exact S)
  ·rintro L g v hL hcl hclo hT 
   have hl7:=clF hL (hclo 7 2 · zbs)
   have hl8:=clF hL (hclo 8 2 · zbs)
   simp only [hl7,hl8,cd2] at hT
   replace S:=hT
   refine wd (ze zw rfl (o':=4) rfl) ?_
   exact w4 rfl (by simp only [pN L 2 7,pN L 2 8,hl7,hl8,cd2]; exact S)
  ·rintro L g v hL hcl hclo hT hv2
   have hl7:=clF hL (hclo 7 3 · zbs)
   have hl8:=clF hL (hclo 8 3 · zbs)
   simp only [hl7,hl8,cd2] at hT
   replace S:=hT
   refine wd (zl zr hv2 ((S.blk 4).cell (Term.get_sub _))) ?_
   exact w4 rfl (by simp only [pN L 3 7,pN L 3 8,hl7,hl8,cd2]; exact S)
  ·rintro L g v hL hcl hclo hT 
   have hl7:=clF hL (hclo 7 4 · zbs)
   have hl8:=clF hL (hclo 8 4 · zbs)
   simp only [hl7,hl8,cd2] at hT
   replace S:=hT
   refine wd (zi q18_4) ?_
   exact w4 rfl (by simp only [pN L 4 7,pN L 4 8,hl7,hl8,cd2]; exact S)
  ·rintro L g v hL hcl hclo hT hv3 hv4
   have hl7:=clF hL (hclo 7 5 · zbs)
   have hl8:=clF hL (hclo 8 5 · zbs)
   simp only [hl7,hl8,cd2] at hT
   replace S:=hT
   refine wd (does_indexF zp hv3 hv4 (S.onZ 2) (zC hi26).1 (zC hi26).2) ?_
   exact w4 rfl (by simp only [pN L 5 7,pN L 5 8,hl7,hl8,cd2]; exact S)
  ·rintro L g v hL hcl hclo hT hv5
   have hl7:=clF hL (hclo 7 6 · zbs)
   have hl8:=clF hL (hclo 8 6 · zbs)
   simp only [hl7,hl8,cd2] at hT
   replace S:=hT
   refine wd (zz zX hv5 (S.cl 3) (Term.len _)) ?_
   exact w4 rfl (by simp only [pN L 6 7,pN L 6 8,hl7,hl8,cd2]; exact S)
  ·rintro L g v hL hcl hclo hT hv6
   have hl7:L 7=false:=hL
   have hl8:=clF hL (hclo 8 7 · zbs)
   simp only [hl7,hl8,cd2] at hT
   replace S:=hT
   obtain ⟨_,_,T,bk⟩ := S.sub [4] [] LT2
   refine zB (zJ zau (zQ hv6 rfl)) zbp (zed (a0:=(kd a0 x18_0)) T er28) ?_
   rintro _ w37 ⟨s31,rfl,S2⟩
   replace S:=bk _ _ _ _ _ S2 rfl rfl
   have hT2 : ∃ (s31':SlV),((plus L 7) 7=true→(upd g 29 (Value.agg (tmC r28 s31).toArray)) 29=Value.agg (tmC r28 s31').toArray)∧St A N w w37 LT2 (zf s31' r28.sub :: LT1):=⟨s31,fun _=>upd_same _ _ _,S⟩
   exact w4 trivial (by simp only [pN L 7 8,xB (L:=L) (i:=7),hl8,cd2] at hT2 ⊢; exact hT2)
  ·rintro L g v hL hcl hclo hT hv7
   have hl7:L 7=true:=hcl 7 zbs
   have hl8:L 8=false:=hL
   replace hT : ∃ (s31:SlV),(L 7=true→g 29=Value.agg (tmC r28 s31).toArray)∧St A N w v LT2 (zf s31 r28.sub :: LT1):=by simp only [hl7,hl8,cd2] at hT ⊢; exact hT
   obtain ⟨s31,he7,S⟩ := hT
   refine yb (C:=Term.C) (l:=[(tmT r28 s31)]) (vs:=[.agg (tmC r28 s31).toArray]) zp yN.zero (xR (he7 (hcl 7 zbs)) rfl) rfl (fun a _=>Term.len a) zbp rfl zbp fun b40 w39 s34 hBw39 hw39=>?_
   replace S:=S.lit hBw39 hw39 zbr
   have hT2 : ∃ (s31':SlV) (s34':SlV),((plus L 8) 7=true→(upd g 30 (s34.v)) 29=Value.agg (tmC r28 s31').toArray)∧((plus L 8) 8=true→(upd g 30 (s34.v)) 30=s34'.v)∧St A N w w39 (oS zj 5 Term.C s34' ([(tmT r28 s31')]) :: LT2) (zf s31' r28.sub :: LT1):=⟨s31,s34,kpU he7,fun _=>upd_same _ _ _,S⟩
   exact w4 trivial (by simp only [pN L 8 7,xB (L:=L) (i:=8),cd2] at hT2 ⊢; exact hT2)
  rintro L g w42 hLm hT hv43_0 hv43_1 hv43_2 hv43_3 hv43_4 hv43_5 hv43_6 _ _
  have hLt : ∀ j,j < 9→L j=true:=fun j hj=>by rw [hLm]; exact decide_eq_true hj
  replace hT : ∃ (s31:SlV) (s34:SlV),(L 7=true→g 29=Value.agg (tmC r28 s31).toArray)∧(L 8=true→g 30=s34.v)∧St A N w w42 (oS zj 5 Term.C s34 ([(tmT r28 s31)]) :: LT2) (zf s31 r28.sub :: LT1):=by simp only [hLt 8 zbp,cond_true] at hT ⊢; exact hT
  obtain ⟨s31,s34,he7,he8,S⟩ := hT
  have hv43_7:=he7 (hLt 7 zbp)
  have hv43_8:=he8 (hLt 8 zbp)
  replace S:=S
  obtain ⟨ha46,H⟩ := zU H
  have ha46:=of_decide_eq_true ha46
  have hmha46:((m24).length + ([(tmT r28 s31)]).length) * 72 ≤ 140737488355328:=by rw [S.lenTm 2 (l:=x18_1.sub)]; exact ha46
  refine uP (C:=Term.C) zp yN hv43_1 hv43_8 (S.sl 2) (S.rdO 0) zbr (fun a _=>Term.one a) hmha46 zbq zbp fun s45 w44 O hw44 gw44=>?_
  replace S:=S.push 2 O (by first | (simp; done) | (simp; omega) | (simp only [List.length_append]; omega)) hw44 gw44
  clear O
  replace S:=S.snocTm (x:=r28) 2 0
  refine wd (ze zw rfl (o':=4) rfl) ?_
  refine xY zr rfl rfl (S.blk 3) (by rw [Term.len]; decide) (SlV.one _ _ rfl) (Term.set_sub _ _) fun w47 B hw47 zw47=>?_
  replace S:=S.store 3 B hw47
  refine zd (za (wd (zi q18_4) (wd (xI rfl rfl) (wd (zh rfl) (zd ?_)))))
  replace S:=S.arr [3,1,0,4,5] [2,0,4]
  obtain rfl:=zbt H
  exact ⟨rfl,df,(m18,(IntKind.i64.wrap (x18_0 + 1),(⟨x18_1.kind,x18_1.name,x18_1.other,x18_1.form,x18_1.sub ++ [r28]⟩ : PTerm))),⟨e18,s45,m24 ++ [(tmT r28 s31)],rfl,S⟩,by dsimp only; omega⟩
 rintro g48 u49 ⟨s18,rfl,s19,m20,p18_4,S⟩
 have H:=Ho18
 dsimp only [aft] at H
 refine zb (za ?_)
 replace S:=S.frzTm 1 1
 refine wd (ldT rfl (S.blk 1)) ?_
 refine wsT rfl rfl (S.blk 2) fun w50 B hw50 zw50=>?_
 replace S:=S.store 2 B hw50
 refine zd (zt ?_)
 refine ⟨_,(zP (rtT rfl (S.blk 0))),?_⟩
 replace S:=S.arr [] [0]
 obtain rfl:=zbt H
 exact ⟨s19,rfl,S⟩
theorem ref14_strip_st {a0:PTerm} {s_0:SlV} (S:St A N w w [] [zf s_0 a0.sub]) {k:Nat} {r:PTerm} (H:zdK.f k a0=some r) :
  Calls PP je #[.agg (tmC a0 s_0).toArray] w <| Rt fun v w'=>(∃ so0:SlV,v = .agg (tmC r so0).toArray∧St A N w w' [] [zf so0 r.sub]):=by
 have main : ∀ (k:Nat) {A:Nat→Prop} {N:Oth} {w:World} {a0:PTerm} {s_0:SlV} (S:St A N w w [] [zf s_0 a0.sub]) {r:PTerm} (H:zdK.f k a0=some r),Calls PP je #[.agg (tmC a0 s_0).toArray] w <| Rt fun v w'=>(∃ so0:SlV,v = .agg (tmC r so0).toArray∧St A N w w' [] [zf so0 r.sub]):=by
  intro k
  induction k with
  | zero=>intro A N w a0 s_0 S r H; cases H
  | succ k ih=>intro A N w a0 s_0 S r H; exact ref14_strip_gst ih S H
 exact main k S H
theorem ref14_Strip_st {a0:PTerm} {s_0:SlV} (S:St A N w w [] [zf s_0 a0.sub]) {k:Nat} {r:PTerm × Int} (H:zdL.f k a0=some r) :
  Calls PP F_ref14_Strip #[.agg (tmC a0 s_0).toArray] w <| Rt fun v w'=>(∃ so0:SlV,v = .tuple #[.agg (tmC r.1 so0).toArray,.int .i64 r.2]∧St A N w w' [] [zf so0 r.1.sub]):=by
 unfold zdL.f at H
 refine zA (n:=13) Tryz.func19 rfl rfl zbr (zb (za ?_))
 refine zI rfl zbp fun b2 w1 hw1=>?_
 replace S:=S.new hw1
 refine zO xd zbp fun b4 w3 hw3=>?_
 replace S:=S.new hw3
 refine wd (zh rfl) (zd (zb (za (wd (ldT rfl (S.blk 1)) ?_))))
 obtain ⟨r5,er5,H⟩ := zq H
 obtain ⟨_,_,T,bk⟩ := S.calln 0 ((.z 0 rfl .nil))
 refine zB (zx uJ) zbp (uN (a0:=a0) T er5) ?_
 rintro _ w6 ⟨rfl,S2⟩
 replace S:=bk _ _ _ _ S2 rfl
 refine wd (zh rfl) (zd (zb (zb (za (wd (zi rfl) (wd (xp rfl rfl) (zd ?_)))))))
 refine zF rfl (fun hc8=>?_) (fun hc8=>?_)
 ·replace H:=if_t hc8 H
  refine zb (za (wd (Does.to (v' := .agg (Term.C tmZ).toArray) (xa (vs:=[]) xW rfl Bld.nil) rfl) (wd (zi rfl) ?_)))
  refine wsT rfl rfl (S.blk 0) fun w9 B hw9 zw9=>?_
  replace S:=S.store 0 B hw9
  refine wd (zh rfl) (zd (zt ?_))
  replace S:=S.nilTm
  refine ⟨_,(xi (rtT rfl (S.blk 0)) (zg rfl)),?_⟩
  replace S:=S.arr [] [0]
  obtain rfl:=zbt H
  exact ⟨SlV.nil,rfl,S⟩
 replace H:=if_f hc8 H
 refine zu (zb (za (wd (ldT rfl (S.blk 1)) ?_)))
 obtain ⟨r10,er10,H⟩ := zq H
 obtain ⟨_,_,T,bk⟩ := S.sub [0] [] [oB b4 zj (Term.C tmZ),oB b2 zj (tmC a0 s_0)]
 refine zB (zx zau) zbp (ref14_strip_st (a0:=a0) T er10) ?_
 rintro _ w11 ⟨s13,rfl,S2⟩
 replace S:=bk _ _ _ _ _ S2 rfl rfl
 refine wsT rfl rfl (S.blk 0) fun w14 B hw14 zw14=>?_
 replace S:=S.store 0 B hw14
 refine wd (zh rfl) (zd (zt ?_))
 refine ⟨_,(xi (rtT rfl (S.blk 0)) (zg rfl)),?_⟩
 replace S:=S.arr [] [0]
 obtain rfl:=zbt H
 exact ⟨s13,rfl,S⟩
end
section
open Gw Go.RowKit
set_option maxHeartbeats 4000000
set_option maxRecDepth 20000
theorem law14_ReduceDoes_st {A:Nat→Prop} {N:Oth} {w:World} {a0:List Nd} {s_0:SlV} {a1:PTerm} {s_1:SlV} {a2:List Int} {s_2:SlV} (S:St A N w w [] [fS 4 Nd.C s_0 a0,zf s_1 a1.sub,fS 1 IC s_2 a2,oPw]) {k:Nat} {r:Bool} (H:zdM.f k a0 a1 a2=some r) :
  Calls PP yu #[s_0.v,.agg (tmC a1 s_1).toArray,s_2.v] w <| Rt fun v w'=>(v = .bool r∧St A N w w' [] []):=by
 unfold zdM.f at H
 refine zA (n:=170) vY rfl rfl zbr (zb (za ?_))
 refine zI rfl zbp fun b2 w1 hw1=>?_
 replace S:=S.new hw1
 refine wd (zk rfl) (zd (zb (za (wd (zN rfl) ?_))))
 obtain ⟨r3,er3,H⟩ := zq H
 obtain ⟨_,_,T,bk⟩ := S.calln 0 ((.z 0 rfl .nil))
 refine zB (zx ca_law04_Tables) zbp (law04_Tables_st T er3) ?_
 rintro _ w4 ⟨a6,a7,rfl,S2⟩
 replace S:=bk _ _ _ _ S2 rfl
 refine wd (z7 rfl) (wd (zo rfl rfl) (wd (zo rfl rfl) (wd (xk rfl) (wd (xk rfl) (zd (zb (za ?_)))))))
 refine wd (ldT rfl (S.blk 2)) ?_
 obtain ⟨r8,er8,H⟩ := zq H
 obtain ⟨_,_,T,bk⟩ := S.sub [1] [] [oT a6 r3.1,oR a7 r3.2,oB b2 zj (tmC a1 s_1)]
 refine zB (zx yX) zbp (vV (a0:=a1) T er8) ?_
 rintro _ w9 ⟨s11,rfl,S2⟩
 replace S:=bk _ _ _ _ _ S2 rfl rfl
 refine zO xd zbp fun b13 w12 hw12=>?_
 replace S:=S.new hw12
 refine wsT rfl rfl (S.blk 0) fun w14 B hw14 zw14=>?_
 replace S:=S.store 0 B hw14
 refine zd (zb (za ?_))
 refine yb (C:=IC) (l:=([]:List Int)) (vs:=[]) xF ke.zero rfl rfl (fun _ _=>rfl) zbp rfl zbp fun b16 w15 s17 hBw15 hw15=>?_
 replace S:=S.lit hBw15 hw15 zbr
 refine wd (zN rfl) ?_
 obtain ⟨ha20,H⟩ := zU H
 have ha20:=of_decide_eq_true ha20
 refine zaH (C:=IC) xF ke rfl rfl (S.sl 0) (S.rd 3) (fun a v hv=>by rw [List.mem_singleton.1 hv]; rfl) ha20 zbq zbp fun s19 w18 O hw18 gw18=>?_
 replace S:=S.push 0 O (by first | (simp; done) | (simp; omega) | (simp only [List.length_append]; omega)) hw18 gw18
 clear O
 refine wd (ya rfl) (zd (zb (za (wd (zD rfl) (wd (ldT rfl (S.blk 4)) ?_)))))
 obtain ⟨r21,er21,H⟩ := zq H
 obtain ⟨_,_,T,bk⟩ := S.calln 0 ((.o 3 rfl (.z 2 rfl .nil)))
 refine zB (zx ca_ref14_Redexes) zbp (ref14_Redexes_st (a1:=a1) T er21) ?_
 rintro _ w22 ⟨s24,rfl,S2⟩
 replace S:=bk _ _ _ _ S2 rfl
 refine wd (z7 rfl) (wd (zo rfl rfl) (wd (zo rfl rfl) (wd (ya rfl) (wd (zh rfl) (zd (zb (zb (za ?_))))))))
 refine wd (zh rfl) (zd ?_)
 obtain ⟨o25,e25,Ho25⟩ := zq H
 clear H
 let LT1:List OA:=[zG s24 r21.1,oS xL 1 IC s19 (([]:List Int) ++ a2),oB b13 zj (tmC r8 s11),oT a6 r3.1,oR a7 r3.2,oB b2 zj (tmC a1 s_1)]
 let LT2:List OA:=[zf s11 r8.sub,fS 4 Nd.C s_0 a0,zf s_1 a1.sub,fS 1 IC s_2 a2,oPw]
 refine xr ([6,13,14,15,16,17] ++ rg 44 41) (fun fr W => ∃ s25:Unit,o25 = .inl s25∧St A N w W LT1 LT2) ?_ ?_
 ·refine zK ?_
  refine xy (α:=Nat × Int × Unit) ([6,13,14,15,16,17] ++ rg 44 41) (fun x fr W=>(x.1:Int)=2 - x.2.1∧0 ≤ x.2.1∧forN (fun i s=>zdM.b0 k r3 r8 r21 i) x.1 x.2.1 x.2.2=some o25∧fr 13 = .int .i64 x.2.1∧St A N w W LT1 LT2) (fun x=>x.1) (((2:Int) - 0).toNat,0,()) ⟨(by dsimp only; have hle:=(show (0:Int) ≤ 2 by decide); omega),(Int.le_refl _),(by dsimp only; exact e25),rfl,S⟩ ?_
  rintro ⟨m25,i25,_⟩ g25 u25 ⟨hm25,hl25,e25,q25_i,S⟩
  try dsimp only at hm25
  try dsimp only at hl25
  try dsimp only at e25
  try dsimp only at S
  try dsimp only at q25_i
  refine zb (zb (za (wd (zi q25_i) (wd (xn rfl rfl) (zd ?_)))))
  refine zF rfl (fun hc26=>?_) (fun hc26=>?_)
  rotate_left
  ·refine xG ?_
   have hge:2 ≤ i25:=Int.not_lt.1 (of_decide_eq_false hc26)
   obtain rfl:m25=0:=by omega
   replace e25:=zax e25
   exact ⟨rfl,df,(),e25,S⟩
  refine zu ?_
  have hlt25:i25 < 2:=of_decide_eq_true hc26
  obtain ⟨m25,rfl⟩ : ∃ m,m25=m + 1:=⟨m25 - 1,by omega⟩
  obtain ⟨q25,H,e25⟩ := zay e25
  unfold zdM.b0 at H
  try dsimp only at H
  refine zb ?_
  refine zK (zb (za (wd (zD rfl) (wd (ldT rfl (S.blk 2)) ?_))))
  obtain ⟨r27,er27,H⟩ := zq H
  obtain ⟨_,_,T,bk⟩ := S.calln 0 ((.o 3 rfl (.z 0 rfl (.z 4 rfl .nil))))
  refine zB (zx jN) zbp (jY (a1:=r8) T er27) ?_
  rintro _ w28 ⟨s30,rfl,S2⟩
  replace S:=bk _ _ _ _ S2 rfl
  refine wd (z7 rfl) (wd (zo rfl rfl) (wd (zo rfl rfl) (wd (ya rfl) (wd (zh rfl) (zd (zb (zb (za ?_))))))))
  refine wd (zN rfl) (wd (zN rfl) ?_)
  obtain ⟨r31,er31,H⟩ := zq H
  obtain ⟨_,_,T,bk⟩ := S.calln 0 ((.o 0 rfl (.o 1 rfl .nil)))
  refine zB (zx ca_ref14_Ways) zbp (ref14_Ways_st T er31) ?_
  rintro _ w32 ⟨rfl,S2⟩
  replace S:=bk _ _ _ _ S2 rfl
  refine wd (xc rfl) (wd (zy rfl) ?_)
  refine wg (fun hg=>zi rfl) ?_
  obtain ⟨r34,er34,H⟩ := zq H
  refine xu (j:=4) (pol:=false) rfl rfl rfl zbp (fun hg=>zJ yW (zQ (zn hg) rfl)) zbp (fun hg=>(have ⟨M,SS⟩ := S.lend ((.nil)); quiet (yY SS (if_t (by simpa using hg) er34)) (fun v w' h=>⟨h.1,_,_,h.2⟩))) fun w35 hw35=>?_
  replace S:=S.ext hw35
  refine wg (fun hg=>zi rfl) ?_
  refine wg (fun hg=>xp (zn hg) (zn hg)) (wd (xq rfl (fun hp=>(zn (xe hp)))) (zd ?_))
  refine zF rfl (fun hc36=>?_) (fun hc36=>?_)
  ·replace H:=if_t hc36 H
   refine zb (za (wd (zk rfl) (zd (zt ?_))))
   refine ⟨_,(zP (zg rfl)),?_⟩
   replace S:=S.arr [] []
   obtain rfl:=zbt H
   obtain rfl:=e25
   obtain rfl:=ue Ho25
   exact ⟨rfl,S⟩
  replace H:=if_f hc36 H
  refine zu (zb (za (wd (zh rfl) (zd ?_))))
  obtain ⟨o37,e37,Ho37⟩ := zq H
  clear H
  refine xr ([16,17] ++ rg 64 21) (fun fr W => ∃ s37:Int × List (List Int),o37 = .inl s37∧fr 16 = .int .i64 s37.1∧St A N w W (zG s30 s37.2 :: LT1) LT2) ?_ ?_
  ·refine zK ?_
   refine xy (α:=Nat × (Int × List (List Int))) ([16,17] ++ rg 64 21) (fun x fr W=>iter (fun s=>zdM.b1 k s.1 s.2) x.1 x.2=some o37∧fr 16 = .int .i64 (x.2.1)∧St A N w W (zG s30 (x.2.2) :: LT1) LT2) (fun x=>x.1) (k,(0,r27.1)) ⟨(by dsimp only; exact e37),rfl,S⟩ ?_
   rintro ⟨m37,⟨x37_0,x37_1⟩⟩ g37 u37 ⟨e37,q37_16,S⟩
   try dsimp only at e37
   try dsimp only at S
   try dsimp only at q37_16
   obtain ⟨m37,rfl⟩ : ∃ m,m37=m + 1:=⟨m37 - 1,by cases m37 with | zero=>cases e37 | succ m=>rfl⟩
   obtain ⟨q37,H,e37⟩ := uk e37
   unfold zdM.b1 at H
   try dsimp only at H
   refine zb (zb (za (wd (zi q37_16) (wd (zN rfl) (wd (jq yh rfl (S.onO 0)) (wd (xn rfl rfl) (zd ?_)))))))
   refine zF rfl (fun hc38=>?_) (fun hc38=>?_)
   rotate_left
   ·replace H:=if_f hc38 H
    refine xG ?_
    obtain rfl:=zbt H
    exact ⟨rfl,df,(x37_0,x37_1),e37,q37_16,S⟩
   replace H:=if_t hc38 H
   refine zu (zb ?_)
   refine zK (zb (za (wd (zh rfl) (zd ?_))))
   obtain ⟨o39,e39,Ho39⟩ := zq H
   clear H
   refine xr ([17] ++ rg 70 15) (fun fr W => ∃ s39:Int × List (List Int),o39 = .inl s39∧fr 17 = .int .i64 s39.1∧St A N w W (zG s30 s39.2 :: LT1) LT2) ?_ ?_
   ·refine zK ?_
    refine xy (α:=Nat × (Int × List (List Int))) ([17] ++ rg 70 15) (fun x fr W=>iter (fun s=>zdM.b2 x37_0 s.1 s.2) x.1 x.2=some o39∧fr 17 = .int .i64 (x.2.1)∧St A N w W (zG s30 (x.2.2) :: LT1) LT2) (fun x=>x.1) (k,(0,x37_1)) ⟨(by dsimp only; exact e39),rfl,S⟩ ?_
    rintro ⟨m39,⟨x39_0,x39_1⟩⟩ g39 u39 ⟨e39,q39_17,S⟩
    try dsimp only at e39
    try dsimp only at S
    try dsimp only at q39_17
    obtain ⟨m39,rfl⟩ : ∃ m,m39=m + 1:=⟨m39 - 1,by cases m39 with | zero=>cases e39 | succ m=>rfl⟩
    obtain ⟨q39,H,e39⟩ := uk e39
    unfold zdM.b2 at H
    try dsimp only at H
    refine zb (zb (za (wd (zi q39_17) (wd (zN rfl) (wd (zi q37_16) ?_)))))
    obtain ⟨hi40,H⟩ := zU H
    refine wd (zaL yh rfl rfl (S.onO 0) (zC hi40).1 (zC hi40).2) ?_
    obtain ⟨s41,hc42,S⟩ := S.holeL_int 0 (zC hi40)
    replace S:=S
    refine wd (zl zbk rfl (hc42.get (i:=0) rfl)) (wd (xH xF rfl (S.rdO 0)) (wd (xn rfl rfl) ?_))
    replace S:=((S.front 1).front 1).shutHoleI0 (zC hi40)
    refine zd ?_
    refine zF rfl (fun hc43=>?_) (fun hc43=>?_)
    rotate_left
    ·replace H:=if_f hc43 H
     refine xG ?_
     obtain rfl:=zbt H
     exact ⟨rfl,df,(x39_0,x39_1),e39,q39_17,S⟩
    replace H:=if_t hc43 H
    refine zu (zb ?_)
    refine zK (za (wd (zN rfl) (wd (zi q37_16) ?_)))
    obtain ⟨hi44,H⟩ := zU H
    refine wd (zaL yh rfl rfl (S.onO 0) (zC hi44).1 (zC hi44).2) ?_
    obtain ⟨s45,hc46,S⟩ := S.holeL_int 0 (zC hi44)
    replace S:=S
    refine wd (zl zbk rfl (hc46.get (i:=0) rfl)) (wd (zi q39_17) ?_)
    obtain ⟨hi47,H⟩ := zU H
    refine wd (xg xF rfl rfl (S.rdO 0) (zC hi47).1 (zC hi47).2) ?_
    refine wl_store1 (C:=IC) (a:=(-7)) xK rfl rfl (S.sl 0) (zC hi47) rfl rfl fun w48 O hw48=>?_
    have hlw48:=S.lenO 0
    replace S:=S.push 0 O (by rw [List.length_set]; exact hlw48) hw48 (fun i hi => .inl hi)
    clear O
    replace S:=((S.front 1).front 1).shutHoleI (zC hi44)
    refine zd (za (wd (zi q39_17) (wd (xI rfl rfl) (wd (zh rfl) (zd ?_)))))
    obtain rfl:=zbt H
    exact ⟨rfl,df,(m39,(IntKind.i64.wrap (x39_0 + 1),x39_1.set (Int.toNat x37_0) ((at_ [] x39_1 x37_0).set (x39_0).toNat (-7)))),⟨e39,rfl,S⟩,by dsimp only; omega⟩
   rintro g49 u50 ⟨s39,rfl,p39_17,S⟩
   have H:=Ho39
   dsimp only [aft] at H
   refine za (wd (zi q37_16) (wd (xI rfl rfl) (wd (zh rfl) (zd ?_))))
   obtain rfl:=zbt H
   exact ⟨rfl,df,(m37,(IntKind.i64.wrap (x37_0 + 1),s39.2)),⟨e37,rfl,S⟩,by dsimp only; omega⟩
  rintro g51 u52 ⟨s37,rfl,p37_16,S⟩
  have H:=Ho37
  dsimp only [aft] at H
  refine za (wd (zi q25_i) (wd (xA rfl rfl (c:=i25 + 1) rfl zbq zbq) (wd (zh rfl) (zd ?_))))
  replace S:=S.arr [1,2,3,4,5,6] [0,1,2,3,4]
  obtain rfl:=zbt H
  exact ⟨rfl,df,(m25,i25 + 1,()),⟨(by dsimp only; omega),(by dsimp only; omega),e25,rfl,S⟩,by dsimp only; omega⟩
 rintro g53 u54 ⟨s25,rfl,S⟩
 have H:=Ho25
 dsimp only [aft] at H
 refine zb (za (wd (zD rfl) (wd (ldT rfl (S.blk 2)) ?_)))
 obtain ⟨r55,er55,H⟩ := zq H
 obtain ⟨_,_,T,bk⟩ := S.calln 0 ((.o 3 rfl (.z 0 rfl (.z 4 rfl .nil))))
 refine zB (zx zba) zbp (zbm (a1:=r8) T er55) ?_
 rintro _ w56 ⟨rfl,S2⟩
 replace S:=bk _ _ _ _ S2 rfl
 refine wd (z7 rfl) (wd (zo rfl rfl) (wd (zo rfl rfl) (wd (zk rfl) (wd (zh rfl) (zd (zb (za ?_)))))))
 refine wd (zD rfl) (wd (ldT rfl (S.blk 2)) (wd (zN rfl) ?_))
 obtain ⟨r58,er58,H⟩ := zq H
 replace S:=(S.frzO 3).frzS 1
 obtain ⟨_,_,T,bk⟩ := S.sub [1,2,0,6] [] [zG s24 r21.1,oB b13 zj (tmC r8 s11),oR a7 r3.2,oB b2 zj (tmC a1 s_1)]
 refine zB (zx ca_reduce_Do) zbp (reduce_Do_st (a1:=r8) T er58) ?_
 rintro _ w59 ⟨s61,rfl,S2⟩
 replace S:=bk _ _ _ _ _ S2 rfl rfl
 refine wd (z7 rfl) (wd (zo rfl rfl) (wd (zo rfl rfl) ?_))
 refine zO xd zbp fun b63 w62 hw62=>?_
 replace S:=S.new hw62
 refine wsT rfl rfl (S.blk 0) fun w64 B hw64 zw64=>?_
 replace S:=S.store 0 B hw64
 refine wd (zh rfl) (zd (zb (za (wd (zD rfl) (wd (ldT rfl (S.blk 4)) (wd (zN rfl) ?_))))))
 obtain ⟨r65,er65,H⟩ := zq H
 replace S:=S.frzO 3
 let LT3:List OA:=[oB b63 zj (tmC r58.1 s61),zG s24 r21.1,oB b13 zj (tmC r8 s11),oB b2 zj (tmC a1 s_1)]
 obtain ⟨_,_,T,bk⟩ := S.sub [0,6,7] [] LT3
 refine zB (zx ca_ref14_Do) zbp (ref14_Do_st (a1:=a1) T er65) ?_
 rintro _ w66 ⟨s68,rfl,S2⟩
 replace S:=bk _ _ _ _ _ S2 rfl rfl
 refine wd (z7 rfl) (wd (zo rfl rfl) (wd (zo rfl rfl) ?_))
 refine zO xd zbp fun b70 w69 hw69=>?_
 replace S:=S.new hw69
 refine wsT rfl rfl (S.blk 0) fun w71 B hw71 zw71=>?_
 replace S:=S.store 0 B hw71
 refine wd (zh rfl) (zd (zb (za (wd (ldT rfl (S.blk 3)) ?_))))
 obtain ⟨r72,er72,H⟩ := zq H
 obtain ⟨_,_,T,bk⟩ := S.sub [5] [] (oB b70 zj (tmC r65.1 s68) :: LT3)
 refine zB (zx ca_reduce_Strip) zbp (reduce_Strip_st (a0:=r8) T er72) ?_
 rintro _ w73 ⟨s75,rfl,S2⟩
 replace S:=bk _ _ _ _ _ S2 rfl rfl
 refine wd (z7 rfl) (wd (zo rfl rfl) (wd (zo rfl rfl) ?_))
 refine zO xd zbp fun b77 w76 hw76=>?_
 replace S:=S.new hw76
 refine wsT rfl rfl (S.blk 0) fun w78 B hw78 zw78=>?_
 replace S:=S.store 0 B hw78
 refine wd (zh rfl) (zd (zb (za (wd (ldT rfl (S.blk 5)) ?_))))
 obtain ⟨r79,er79,H⟩ := zq H
 obtain ⟨_,_,T,bk⟩ := S.sub [8] [] (oB b77 zj (tmC r72.1 s75) :: oB b70 zj (tmC r65.1 s68) :: LT3)
 refine zB (zx ca_ref14_Strip) zbp (ref14_Strip_st (a0:=a1) T er79) ?_
 rintro _ w80 ⟨s82,rfl,S2⟩
 replace S:=bk _ _ _ _ _ S2 rfl rfl
 refine wd (z7 rfl) (wd (zo rfl rfl) (wd (zo rfl rfl) ?_))
 refine zO xd zbp fun b84 w83 hw83=>?_
 replace S:=S.new hw83
 refine wsT rfl rfl (S.blk 0) fun w85 B hw85 zw85=>?_
 replace S:=S.store 0 B hw85
 refine wd (zh rfl) (zd (zb (za (wd (zy rfl) (wd (zi rfl) (wd (zL rfl rfl) ?_))))))
 refine wd (zy rfl) ?_
 refine wg (fun hg=>zN rfl) ?_
 refine wg (fun hg=>jq yh (zn hg) (S.onO 4)) ?_
 refine wg (fun hg=>zL (zn hg) rfl) (wd (zW rfl (fun hp=>(zn (xe hp)))) (wd (does_eqb un_bool rfl rfl) (wd (zy rfl) ?_)))
 refine wg (fun hg=>zi rfl) ?_
 obtain ⟨r86,er86,H⟩ := zq H
 refine xu (j:=9) (pol:=true) rfl rfl rfl zbp (fun hg=>zJ yW (zQ (zn hg) rfl)) zbp (fun hg=>(have ⟨M,SS⟩ := S.lend ((.nil)); quiet (yY SS (if_t (by simpa using hg) er86)) (fun v w' h=>⟨h.1,_,_,h.2⟩))) fun w87 hw87=>?_
 replace S:=S.ext hw87
 refine wg (fun hg=>zi rfl) ?_
 refine wg (fun hg=>zL (zn hg) (zn hg)) (wd (zW rfl (fun hp=>(zn (xe hp)))) (wd (zy rfl) ?_))
 refine wg (fun hg=>ldT rfl (S.blk 3)) ?_
 refine wg (fun hg=>ldT rfl (S.blk 2)) ?_
 obtain ⟨r88,er88,H⟩ := zq H
 refine xu (j:=15) (pol:=true) rfl rfl rfl zbp (fun hg=>zJ vS (zQ (zn hg) (zQ (zn hg) rfl))) zbp (fun hg=>(have ⟨M,SS⟩ := S.lend ((.z 4 rfl (.z 2 rfl .nil))); quiet (ut (a0:=r58.1) (a1:=r65.1) SS (if_t (by simpa using hg) er88)) (fun v w' h=>⟨h.1,_,_,h.2⟩))) fun w89 hw89=>?_
 replace S:=S.ext hw89
 refine wd (zW rfl (fun hp=>(zn (xe hp)))) (wd (zy rfl) ?_)
 refine wg (fun hg=>zi rfl) ?_
 obtain ⟨r90,er90,H⟩ := zq H
 refine xu (j:=20) (pol:=true) rfl rfl rfl zbp (fun hg=>zJ yW (zQ (zn hg) rfl)) zbp (fun hg=>(have ⟨M,SS⟩ := S.lend ((.nil)); quiet (yY SS (if_t (by simpa using hg) er90)) (fun v w' h=>⟨h.1,_,_,h.2⟩))) fun w91 hw91=>?_
 replace S:=S.ext hw91
 refine wg (fun hg=>zi rfl) ?_
 refine wg (fun hg=>zL (zn hg) (zn hg)) (wd (zW rfl (fun hp=>(zn (xe hp)))) (wd (zy rfl) ?_))
 refine wg (fun hg=>ldT rfl (S.blk 1)) ?_
 refine wg (fun hg=>ldT rfl (S.blk 0)) ?_
 obtain ⟨r92,er92,H⟩ := zq H
 refine xu (j:=26) (pol:=true) rfl rfl rfl zbp (fun hg=>zJ vS (zQ (zn hg) (zQ (zn hg) rfl))) zbp (fun hg=>(have ⟨M,SS⟩ := S.lend ((.z 1 rfl (.z 0 rfl .nil))); quiet (ut (a0:=r72.1) (a1:=r79.1) SS (if_t (by simpa using hg) er92)) (fun v w' h=>⟨h.1,_,_,h.2⟩))) fun w93 hw93=>?_
 replace S:=S.ext hw93
 refine wd (zW rfl (fun hp=>(zn (xe hp)))) (wd (zy rfl) ?_)
 refine wg (fun hg=>zi rfl) ?_
 obtain ⟨r94,er94,H⟩ := zq H
 refine xu (j:=31) (pol:=true) rfl rfl rfl zbp (fun hg=>zJ yW (zQ (zn hg) rfl)) zbp (fun hg=>(have ⟨M,SS⟩ := S.lend ((.nil)); quiet (yY SS (if_t (by simpa using hg) er94)) (fun v w' h=>⟨h.1,_,_,h.2⟩))) fun w95 hw95=>?_
 replace S:=S.ext hw95
 refine wg (fun hg=>zi rfl) ?_
 refine wg (fun hg=>zL (zn hg) (zn hg)) (wd (zW rfl (fun hp=>(zn (xe hp)))) (wd (zy rfl) ?_))
 refine wg (fun hg=>ldT rfl (S.blk 5)) ?_
 refine wg (fun hg=>ldT rfl (S.blk 6)) ?_
 obtain ⟨r96,er96,H⟩ := zq H
 refine xu (j:=37) (pol:=true) rfl rfl rfl zbp (fun hg=>zJ vS (zQ (zn hg) (zQ (zn hg) rfl))) zbp (fun hg=>(have ⟨M,SS⟩ := S.lend ((.z 7 rfl (.z 9 rfl .nil))); quiet (ut (a0:=r8) (a1:=a1) SS (if_t (by simpa using hg) er96)) (fun v w' h=>⟨h.1,_,_,h.2⟩))) fun w97 hw97=>?_
 replace S:=S.ext hw97
 refine wd (zW rfl (fun hp=>(zn (xe hp)))) (wd (zy rfl) ?_)
 refine wg (fun hg=>zN rfl) ?_
 refine wg (fun hg=>zN rfl) ?_
 obtain ⟨r98,er98,H⟩ := zq H
 refine xu (j:=42) (pol:=true) rfl rfl rfl zbp (fun hg=>zJ ca_ref03_Ints (zQ (zn hg) (zQ (zn hg) rfl))) zbp (fun hg=>(have ⟨M,SS⟩ := S.lend ((.z 5 rfl (.z 10 rfl .nil))); quiet (ref03_Ints_st SS (if_t (by simpa using hg) er98)) (fun v w' h=>⟨h.1,_,_,h.2⟩))) fun w99 hw99=>?_
 replace S:=S.ext hw99
 refine wd (zW rfl (fun hp=>(zn (xe hp)))) (wd (zy rfl) ?_)
 refine wg (fun hg=>zD rfl) ?_
 refine wg (fun hg=>zD rfl) ?_
 obtain ⟨r100,er100,H⟩ := zq H
 refine xu (j:=47) (pol:=true) rfl rfl rfl zbp (fun hg=>zJ ca_law04_Same (zQ (zn hg) (zQ (zn hg) rfl))) zbp (fun hg=>(have ⟨M,SS⟩ := S.lend ((.z 6 rfl (.z 3 rfl .nil))); quiet (law04_Same_st SS (if_t (by simpa using hg) er100)) (fun v w' h=>⟨h.1,_,_,h.2⟩))) fun w101 hw101=>?_
 replace S:=S.ext hw101
 refine wd (zW rfl (fun hp=>(zn (xe hp)))) (wd (zy rfl) ?_)
 obtain ⟨r102,er102,H⟩ := zq H
 refine xu (j:=52) (pol:=true) rfl rfl rfl zbp (fun hg=>zJ ca_law14_heads rfl) zbp (fun hg=>(have ⟨M,SS⟩ := S.lend ((.z 11 rfl .nil)); quiet (law14_heads_st SS (if_t (by simpa using hg) er102)) (fun v w' h=>⟨h.1,_,_,h.2⟩))) fun w103 hw103=>?_
 replace S:=S.ext hw103
 refine wd (zW rfl (fun hp=>(zn (xe hp)))) (wd (zk rfl) (zd (zt ?_)))
 refine ⟨_,(zP (zg rfl)),?_⟩
 replace S:=S.arr [] []
 obtain rfl:=zbt H
 exact ⟨rfl,S⟩
end
section
open Gw
theorem kg {σ ρ:Type} {b:Int→σ→Option (Stp σ ρ)} {p:Nat→Bool} {r:Nat→ρ} : ∀ (n i:Nat) (s:σ),(∀ j:Nat,i ≤ j→j < i + n→b j s=some (if p j then .ret (r j) else .go s))→forN b n i s=some (match (List.range' i n).find? p with | some j => .inr (r j) | none => .inl s)
 | 0,i,s,_=>rfl
 | n + 1,i,s,h=>by
  rw [forN,h i (Nat.le_refl _) zbq,List.range'_succ]
  cases hp:p i with
  | true=>simp [hp,List.find?_cons]
  | false =>
   have:=kg n (i + 1) s fun j h1 h2=>h j zbq zbq
   simpa [hp,List.find?_cons] using this
abbrev nd (M:List Nd) (i:Int):Nd:=(nodeS M i).1
structure Wf (M:List Nd):Prop where
 len:M.length ≤ 1024
 nodup:M.Nodup
 kind : ∀ i:Int,inb i M.length=true→(nd M i).kind=1∨(nd M i).kind=2∨(nd M i).kind=3∨(nd M i).kind=4∨(nd M i).kind=5
 kids : ∀ i:Int,inb i M.length=true→(nd M i).kind=3∨(nd M i).kind=4∨(nd M i).kind=5→(0 ≤ (nd M i).l∧(nd M i).l < i)∧0 ≤ (nd M i).r∧(nd M i).r < i
 fits : ∀ (j:Nat) (n:Nd),M[j]? = some n→vj (M.take j) n=0
theorem find_congr {α:Type} {p q:α→Bool} : ∀ {l:List α},(∀ x ∈ l,p x=q x)→l.find? p=l.find? q
 | [],_=>rfl
 | x :: l,h=>by
  rw [List.find?_cons,List.find?_cons,h x zbr,find_congr fun y hy=>h y (by simp [hy])]
theorem any_find {α:Type} {p:α→Bool} : ∀ (l:List α),l.any p=(l.find? p).isSome
 | []=>rfl
 | x :: l=>by
  rw [List.any_cons,List.find?_cons,any_find l]
  cases p x <;> rfl
theorem inb_nat (j n:Nat):inb (j:Int) n=decide (j < n):=by
 unfold inb
 rw [decide_eq_true (show 0 ≤ (j:Int) by omega),Bool.true_and,decide_eq_decide]
 omega
theorem wrap_small {n:Int} (h:0 ≤ n∧n < 9223372036854775808):IntKind.i64.wrap n=n:=by
 exact IntWalk.i64_in _ ⟨by omega,by omega⟩
theorem idx_find (n:Nd) : ∀ (N:List Nd) (s:Nat),(List.range' s N.length).find? (fun k=>decide (N.getD (k - s) Nd.z=n))=(N.idxOf? n).map (· + s)
 | [],s=>rfl
 | a :: N,s=>by
  rw [List.length_cons,List.range'_succ,List.find?_cons,List.idxOf?_cons]
  by_cases h:a=n
  ·simp [h]
  ·have h1:(a == n)=false:=by simpa using h
   have h2:(List.range' (s + 1) N.length).find? (fun k=>decide ((a :: N).getD (k - s) Nd.z=n))=(List.range' (s + 1) N.length).find? (fun k=>decide (N.getD (k - (s + 1)) Nd.z=n)):=find_congr fun k hk=>by
    have hk:=(List.mem_range'_1.1 hk).1
    rw [show k - s=(k - (s + 1)) + 1 by omega]; simp
   simp only [Nat.sub_self,List.getD_cons_zero,h,decide_false,h1,h2,idx_find n N (s + 1)]
   cases N.idxOf? n with
   | none=>rfl
   | some k=>simp; omega
theorem docFind (N:List Nd) (n:Nd):zde.f (some N) n=some (match N.idxOf? n with | some k=>((k:Int),true) | none=>(0,false)):=by
 unfold zde.f
 have h1:=kg (b:=fun i s=>zde.b0 (some N) n i) (p:=fun k=>decide (N.getD k Nd.z=n)) (r:=fun k=>((k:Int),true)) N.length 0 () (by
  intro k _ hk
  unfold zde.b0 at_
  rw [Int.toNat_natCast,Option.getD_some]
  split <;> rfl)
 have e0:(((N.length:Nat):Int) - 0).toNat=N.length:=by omega
 simp only [Option.isSome_some,Option.getD_some,chk,if_true,e0]
 rw [show (0:Int)=((0:Nat):Int) from rfl,h1]
 have h2:=idx_find n N 0
 simp only [Nat.sub_zero,Nat.add_zero] at h2
 rw [h2]
 cases N.idxOf? n <;> rfl
theorem bind_eq {α β:Type} {x:Option α} {y:α} {f:α→Option β} {r:Option β} (hx:x=some y) (h:f y=r):x.bind f=r:=by rw [hx]; exact h
theorem docPut {N:List Nd} {n:Nd} (hN:N.length ≤ 1024) (hn:n.name.size < 9223372036854775808):zdf.f (some N) n=some (some (putS N n).1,(putS N n).2.1,(putS N n).2.2):=by
 have hrow : ∀ i:Int,zdd.f (some N) i=some (uM N i):=fun i=>by simp [zdd.f,chk,uM]
 have hend:((zde.f (some N) n).bind fun r25=>if r25.2 then some (some N,r25.1,0) else chk (some N).isSome (if decide (1024 ≤ ((((some N).getD []).length:Nat):Int)) then some ((some ((some N).getD [])),0,30) else chk (decide ((((some N).getD []).length + 1) * 40 ≤ 140737488355328)) (some ((some (((some N).getD []) ++ [n])),IntKind.i64.wrap (((((some N).getD []) ++ [n]).length:Int) - 1),0)))) =
   (match N.idxOf? n with | some k=>some (some N,(k:Int),(0:Int)) | none=>if 1024 ≤ N.length then some (some N,0,30) else some (some (N ++ [n]),(N.length:Int),0)):=by
  rw [docFind]
  cases N.idxOf? n with
  | some k=>rfl
  | none =>
   simp only [zbu,Bool.false_eq_true,if_false,Option.isSome_some,Option.getD_some,chk,if_true,decide_eq_true_eq]
   by_cases h:1024 ≤ N.length
   ·have h1:(1024:Int) ≤ (N.length:Int):=by omega
    simp only [h,h1,if_true]
   ·have h1:¬ (1024:Int) ≤ (N.length:Int):=by omega
    have h2:(N.length + 1) * 40 ≤ 140737488355328:=by omega
    have h3:IntKind.i64.wrap (((N ++ [n]).length:Int) - 1)=(N.length:Int):=by
     rw [wrap_small (by simp; omega)]; simp
    simp only [h,h1,h2,h3,if_true,if_false]
 unfold zdf.f
 refine bind_eq (y:=if vj N n=0 then .inl (some N) else .inr (some N,0,vj N n)) ?_ ?_
 ·unfold vj
  simp only [hrow,zbA.f,hn,chk,decide_true,if_true,zbu]
  by_cases k1:n.kind=1
  ·simp only [k1,decide_true,if_true]
   by_cases hl:n.l=0
   ·by_cases hr:n.r=0
    ·by_cases hw:isWord n.name <;> simp [hl,hr,hw]
    ·simp [hl,hr]
   ·simp [hl]
  by_cases k2:n.kind=2
  ·have e:(n={ Nd.z with kind:=2 })↔(n.name=⟨#[]⟩ ∧ n.l=0∧n.r=0):=by
    constructor
    ·intro h; rw [h]; exact ⟨rfl,rfl,rfl⟩
    ·rintro ⟨h1,h2,h3⟩
     obtain ⟨a,b,c,d⟩ := n
     simp only at k2 h1 h2 h3
     subst k2 h1 h2 h3; rfl
   simp only [k2,decide_true,if_true,show ¬ ((2:Int)=1) by decide,decide_false,Bool.false_eq_true,if_false,e]
   by_cases hm:n.name=⟨#[]⟩
   ·by_cases hl:n.l=0
    ·by_cases hr:n.r=0 <;> simp [hm,hl,hr]
    ·simp [hm,hl]
   ·simp [hm]
  by_cases k3:n.kind=3∨n.kind=4∨n.kind=5
  ·have ho:((if decide (n.kind=3)=true then some (decide (n.kind=3)) else if decide (n.kind=4)=true then some (decide (n.kind=4)) else some (decide (n.kind=5))):Option Bool)=some true:=by
    rcases k3 with k | k | k <;> simp [k]
   simp only [k1,k2,k3,decide_false,Bool.false_eq_true,if_false,if_true]
   simp only [decide_eq_true_eq] at ho ⊢
   rw [ho]
   simp only [zbu,if_true]
   by_cases hm:n.name=⟨#[]⟩
   ·cases hl:uM N n.l with
    | false=>simp [hm,hl]
    | true=>cases hr:uM N n.r <;> simp [hm,hl,hr]
   ·simp [hm]
  ·have ho:((if decide (n.kind=3)=true then some (decide (n.kind=3)) else if decide (n.kind=4)=true then some (decide (n.kind=4)) else some (decide (n.kind=5))):Option Bool)=some false:=by
    simp only [not_or] at k3; simp [k3.1,k3.2.1,k3.2.2]
   simp only [k1,k2,k3,decide_false,Bool.false_eq_true,if_false,if_true]
   simp only [decide_eq_true_eq] at ho ⊢
   rw [ho]
   simp
 ·by_cases hf:vj N n=0
  ·rw [if_pos hf]
   refine Eq.trans (show _=_ from hend) ?_
   unfold putS
   rw [if_pos hf]
   cases N.idxOf? n with
   | some k=>rfl
   | none =>
    by_cases h:1024 ≤ N.length
    ·simp only [if_pos h]
    ·simp only [if_neg h]
  ·rw [if_neg hf,put_bad hf]; rfl
theorem progPut {N:List Nd} {n:Nd} (hn:n.name.size < 9223372036854775808):zby.f (some N) n=some (some (putS N n).1,(putS N n).2.1,(putS N n).2.2):=by
 simp [zby.f,chk,hn]
theorem rows_take {M:List Nd} {i:Nat} (hi:i < M.length):at_ Nd.z M i=M[i]:=by
 unfold at_; rw [Int.toNat_natCast,List.getD_eq_getElem?_getD,List.getElem?_eq_getElem hi]; rfl
theorem wf_push {N:List Nd} {n:Nd} (h:Wf N) (hf:vj N n=0) (hl:N.length < 1024) (hnew:n ∉ N):Wf (N ++ [n]):=by
 have hnd : ∀ i:Int,inb i N.length=true→nd (N ++ [n]) i=nd N i:=by
  intro i hi
  have h1:=zC hi
  unfold nd nodeS uM
  have h2:i.toNat < N.length:=by omega
  rw [if_pos (by simp; omega),if_pos (by simp; omega)]
  simp only
  rw [List.getD_eq_getElem?_getD,List.getElem?_append_left h2,← List.getD_eq_getElem?_getD]
 have hlast:nd (N ++ [n]) N.length=n:=by
  unfold nd nodeS uM
  rw [if_pos (by simp; omega)]
  simp
 have hsplit : ∀ i:Int,inb i (N ++ [n]).length=true→inb i N.length=true∨i=N.length:=by
  intro i hi
  have:=zC hi
  simp at this
  simp only [inb,Bool.and_eq_true,decide_eq_true_eq]; omega
 have hkind:n.kind=1∨n.kind=2∨n.kind=3∨n.kind=4∨n.kind=5:=by
  unfold vj at hf
  by_cases k1:n.kind=1
  ·exact .inl k1
  by_cases k2:n.kind=2
  ·exact .inr (.inl k2)
  by_cases k3:n.kind=3∨n.kind=4∨n.kind=5
  ·exact .inr (.inr k3)
  ·simp [k1,k2,k3] at hf
 refine ⟨by simp; omega,by rw [List.nodup_append]; exact ⟨h.nodup,by simp,fun a ha b hb e=>hnew (by rw [← List.mem_singleton.1 hb,← e]; exact ha)⟩,fun i hi=>?_,fun i hi hk=>?_,fun j m hm=>?_⟩
 ·rcases hsplit i hi with h1 | rfl
  ·rw [hnd i h1]; exact h.kind i h1
  ·rw [hlast]; exact hkind
 ·rcases hsplit i hi with h1 | rfl
  ·rw [hnd i h1] at hk ⊢; exact h.kids i h1 hk
  ·rw [hlast] at hk ⊢
   unfold vj at hf
   have k1:¬ n.kind=1:=by omega
   have k2:¬ n.kind=2:=by omega
   rw [if_neg k1,if_neg k2,if_pos hk] at hf
   split at hf
   ·simp at hf
   ·rename_i hh
    simp only [not_or,Bool.not_eq_false] at hh
    obtain ⟨⟨_,h1⟩,h2⟩ := hh
    simp only [uM,Bool.and_eq_true,decide_eq_true_eq] at h1 h2
    exact ⟨h1,h2⟩
 ·by_cases hj:j < N.length
  ·rw [List.getElem?_append_left hj] at hm
   rw [List.take_append_of_le_length zbq]; exact h.fits j m hm
  ·have hj2:j < (N ++ [n]).length:=(List.getElem?_eq_some_iff.1 hm).1
   have e:j=N.length:=by simp at hj2; omega
   subst e
   simp at hm
   subst hm
   simpa using hf
theorem from_some {rows:List Nd} (hn : ∀ n ∈ rows,n.name.size < 9223372036854775808) : ∃ r:Tb × Int,zdg.f rows=some r∧zda.f rows=some r∧(r.2=0→r.1=some rows∧Wf rows):=by
 have hstep : ∀ (N:List Nd) (i:Nat),i < rows.length→N.length ≤ 1024→zdg.b0 rows i (some N)=some (if (putS N (at_ Nd.z rows i)).2.2 ≠ 0 then .ret (none,(putS N (at_ Nd.z rows i)).2.2) else if (putS N (at_ Nd.z rows i)).2.1 ≠ i then .ret (none,31) else .go (some (putS N (at_ Nd.z rows i)).1)) ∧
   zda.b0 rows i (some N)=zdg.b0 rows i (some N):=by
  intro N i hi hN
  have hm:(at_ Nd.z rows i).name.size < 9223372036854775808:=by rw [rows_take hi]; exact hn _ (List.getElem_mem hi)
  have h1:zdg.b0 rows i (some N)=some (if (putS N (at_ Nd.z rows i)).2.2 ≠ 0 then .ret (none,(putS N (at_ Nd.z rows i)).2.2) else if (putS N (at_ Nd.z rows i)).2.1 ≠ i then .ret (none,31) else .go (some (putS N (at_ Nd.z rows i)).1)):=by
   unfold zdg.b0
   rw [docPut hN hm]
   simp only [zbu,decide_eq_true_eq]
   split
   ·rfl
   ·split <;> rfl
  refine ⟨h1,?_⟩
  rw [h1]
  unfold zda.b0
  rw [progPut hm]
  simp only [zbu]
  by_cases e:(putS N (at_ Nd.z rows i)).2.2=0
  ·by_cases e2:(putS N (at_ Nd.z rows i)).2.1=i
   ·simp [e,e2]
   ·simp [e,e2]
  ·simp [e]
 have main : ∀ (n i:Nat),i + n=rows.length→i ≤ 1024→Wf (rows.take i) → ∃ o,forN (fun j s=>zdg.b0 rows j s) n i (some (rows.take i))=some o∧forN (fun j s=>zda.b0 rows j s) n i (some (rows.take i))=some o ∧
   ((∃ e,e ≠ 0∧o = .inr (none,e))∨(o = .inl (some rows)∧Wf rows)):=by
  intro n
  induction n with
  | zero =>
   intro i hi _ hw
   rw [List.take_of_length_le zbq] at hw ⊢
   exact ⟨_,rfl,rfl,.inr ⟨rfl,hw⟩⟩
  | succ n ih =>
   intro i hi hle hw
   have hil:i < rows.length:=by omega
   have hlen:(rows.take i).length=i:=by simp; omega
   obtain ⟨h1,h2⟩ := hstep (rows.take i) i hil zbq
   simp only [forN]
   rw [h2,h1]
   by_cases e:(putS (rows.take i) (at_ Nd.z rows i)).2.2=0
   ·by_cases e2:(putS (rows.take i) (at_ Nd.z rows i)).2.1=i
    ·simp only [e,e2,ne_eq,not_true_eq_false,if_false,zbu]
     have hput:vj (rows.take i) (at_ Nd.z rows i)=0∧i < 1024∧at_ Nd.z rows i ∉ rows.take i∧(putS (rows.take i) (at_ Nd.z rows i)).1=rows.take i ++ [at_ Nd.z rows i]:=by
      by_cases hf:vj (rows.take i) (at_ Nd.z rows i)=0
      ·cases hk:(rows.take i).idxOf? (at_ Nd.z rows i) with
       | some k =>
        rw [put_old hf hk] at e2
        have:k < (rows.take i).length:=by
         have:=List.idxOf?_eq_some_iff.1 hk
         exact this.1
        simp only at e2; omega
       | none =>
        by_cases hl:1024 ≤ (rows.take i).length
        ·rw [put_full hf hk hl] at e; simp at e
        ·rw [put_new hf hk hl]
         exact ⟨hf,by omega,List.idxOf?_eq_none_iff.1 hk,rfl⟩
      ·rw [put_bad hf] at e; exact absurd e hf
     obtain ⟨hf,hlt,hnew,hp⟩ := hput
     have ht:rows.take i ++ [at_ Nd.z rows i]=rows.take (i + 1):=by
      rw [rows_take hil,List.take_succ_eq_append_getElem hil]
     rw [hp,ht]
     have:=ih (i + 1) zbq zbq (by rw [← ht]; exact wf_push hw hf zbq hnew)
     simpa using this
    ·simp only [e,e2,ne_eq,not_true_eq_false,not_false_eq_true,if_false,if_true,zbu]
     exact ⟨_,rfl,rfl,.inl ⟨31,by decide,rfl⟩⟩
   ·simp only [e,ne_eq,not_false_eq_true,if_true,zbu]
    exact ⟨_,rfl,rfl,.inl ⟨_,e,rfl⟩⟩
 have e0:(((rows.length:Nat):Int) - 0).toNat=rows.length:=by omega
 obtain ⟨o,h1,h2,h3⟩ := main rows.length 0 zbq zbq ⟨by simp,by simp,fun i hi=>absurd (zC hi) zbr,fun i hi=>absurd (zC hi) zbr,fun j n h=>by simp at h⟩
 unfold zdg.f zda.f zbC.f
 rw [e0]
 simp only [zbu]
 rw [show (0:Int)=((0:Nat):Int) from rfl]
 rw [List.take_zero] at h1 h2
 rw [h1,h2]
 rcases h3 with ⟨e,he,rfl⟩ | ⟨rfl,hw⟩
 ·exact ⟨_,rfl,rfl,fun q=>absurd q he⟩
 ·exact ⟨_,rfl,rfl,fun _=>⟨rfl,hw⟩⟩
theorem ints_self (l:List Int):zdb.f l l=some true:=by
 unfold zdb.f
 have h1:=kg (b:=fun i s=>zdb.b0 l l i) (p:=fun _=>false) (r:=fun _=>false) l.length 0 () (by
  intro k _ hk
  unfold zdb.b0
  rw [inb_nat]
  simp [chk]
  omega)
 have e0:(((l.length:Nat):Int) - 0).toNat=l.length:=by omega
 rw [e0,show (0:Int)=((0:Nat):Int) from rfl,h1,show (List.range' 0 l.length).find? (fun _=>false)=none from List.find?_eq_none.2 zbr,if_neg zbr]
 rfl
theorem same_self (l:List Nd):zdc.f l l=some true:=by
 unfold zdc.f
 have h1:=kg (b:=fun i s=>zdc.b0 l l i) (p:=fun _=>false) (r:=fun _=>false) l.length 0 () (by
  intro k _ hk
  unfold zdc.b0
  rw [inb_nat]
  simp [chk]
  omega)
 have e0:(((l.length:Nat):Int) - 0).toNat=l.length:=by omega
 rw [e0,show (0:Int)=((0:Nat):Int) from rfl,h1,show (List.range' 0 l.length).find? (fun _=>false)=none from List.find?_eq_none.2 zbr,if_neg zbr]
 rfl
theorem like_self (M:List Nd):zdh.f (some M) (some M)=some true:=by
 simp [zdh.f,chk,zbD.f,same_self,zbw.f]
theorem both_some {rows:List Nd} (hn : ∀ n ∈ rows,n.name.size < 9223372036854775808) (hl:rows.length * 40 ≤ 140737488355328):zdi.f rows=some (none,none,false)∨(zdi.f rows=some (some rows,some rows,true)∧Wf rows):=by
 obtain ⟨r,h1,h2,h3⟩ := from_some hn
 have hc:(([]:List Nd).length + rows.length) * 40 ≤ 140737488355328:=by rw [List.length_nil,Nat.zero_add]; exact hl
 unfold zdi.f
 rw [chk,if_pos (decide_eq_true hc),h1]
 simp only [zbu,List.nil_append,h2]
 by_cases e:r.2=0
 ·obtain ⟨h4,hw⟩ := h3 e
  exact .inr ⟨by rw [h4]; simp [e],hw⟩
 ·exact .inl (by simp [e])
end
section

end
section
open Gw
-- terms: nodes,levels,what is right
mutual
def depT:PTerm→Nat
 | .mk _ _ _ _ s=>1 + depL s
def depL:List PTerm→Nat
 | []=>0
 | x :: l=>max (depT x) (depL l)
end
def yC (k:Int):Int:=if k=1 then 0 else if k=9 then 3 else if k=3∨k=4∨k=12 then 2 else if k=2∨k=5∨k=6∨k=7∨k=8∨k=10∨k=11 then 1 else -1
def nodeR (x:PTerm):Bool :=
 decide (yC x.kind=x.sub.length) && (if x.kind=1∨x.kind=2∨x.kind=9∨x.kind=12 then decide (isWord x.name) else decide (x.name=⟨#[]⟩)) &&
  (if x.kind=9 then decide (isWord x.other) else decide (x.other=⟨#[]⟩)) && (if x.kind=11 then decide (0 ≤ x.form) && decide (x.form < 1024) else decide (x.form=0))
mutual
def rightT:PTerm→Bool
 | .mk k n o f s=>nodeR (.mk k n o f s) && rightL s
def rightL:List PTerm→Bool
 | []=>true
 | x :: l=>rightT x && rightL l
end
theorem yj (x:PTerm):depT x=1 + depL x.sub:=by cases x; simp [depT,PTerm.sub]
theorem zah (x:PTerm):rightT x=(nodeR x && rightL x.sub):=by cases x; simp [rightT,PTerm.sub]
theorem rightL_mem : ∀ {l:List PTerm},rightL l=true → ∀ x ∈ l,rightT x=true
 | [],_,_,h=>by simp at h
 | y :: l,h,x,hx=>by
  simp only [rightL,Bool.and_eq_true] at h
  rcases List.mem_cons.1 hx with rfl | hx
  ·exact h.1
  ·exact rightL_mem h.2 x hx
theorem nmL_mem : ∀ {l:List PTerm},nmL l → ∀ x ∈ l,nmT x
 | [],_,_,h=>by simp at h
 | y :: l,h,x,hx=>by
  simp only [nmL] at h
  rcases List.mem_cons.1 hx with rfl | hx
  ·exact h.1
  ·exact nmL_mem h.2 x hx
theorem ye : ∀ {l:List PTerm},∀ x ∈ l,depT x ≤ depL l
 | [],_,h=>by simp at h
 | y :: l,x,hx=>by
  simp only [depL]
  rcases List.mem_cons.1 hx with rfl | hx
  ·omega
  ·have:=ye x hx; omega
inductive TR where
 | ok (f:Int)
 | no (c:Int) (way:List Int)
 deriving DecidableEq
namespace TR
def at_ (i:Int):TR→TR
 | ok f=>ok f
 | no c w=>no c (i :: w)
def bind (r:TR) (k:Int→TR):TR:=match r with
 | ok f=>k f
 | no c w=>no c w
def code:TR→Int
 | ok _=>0
 | no c _=>c
def way:TR→List Int
 | ok _=>[]
 | no _ w=>w
def form:TR→Int
 | ok f=>f
 | no _ _=>0
end TR
abbrev Sc:=List (ByteArray × Int)
def ofK (M:List Nd) (f k:Int) (g:Nd→TR):TR:=if (nd M f).kind=k then g (nd M f) else .no 130 []
def toldS (M:List Nd) (P:Int→Sc→Option Int→TR) (s:Sc) (x:PTerm):TR :=
 if x.kind=1 then (match s.find? (fun q=>decide (q.1=x.name)) with | some q => .ok q.2 | none => .no 131 [])
 else if x.kind=3 then (P 0 s none).bind fun f=>ofK M f 5 fun n=>(P 1 s (some n.l)).bind fun _ => .ok n.r
 else if x.kind=5 then (P 0 s none).bind fun f=>ofK M f 3 fun n => .ok n.l
 else if x.kind=6 then (P 0 s none).bind fun f=>ofK M f 3 fun n => .ok n.r
 else if x.kind=11 then (if inb x.form M.length then (P 0 s (some x.form)).bind fun _ => .ok x.form else .no 31 [])
 else if x.kind=12 then (P 0 s none).bind fun f=>P 1 ((x.name,f) :: s) none
 else if x.kind=9 then (P 0 s none).bind fun f=>ofK M f 4 fun n=>(P 1 ((x.name,n.l) :: s) none).bind fun a=>(P 2 ((x.other,n.r) :: s) none).bind fun b=>if a=b then .ok a else .no 130 []
 else .no 132 []
def chkdS (M:List Nd) (P:Int→Sc→Option Int→TR) (s:Sc) (x:PTerm) (id:Int):TR :=
 if x.kind=2 then ofK M id 5 fun n=>P 0 ((x.name,n.l) :: s) (some n.r)
 else if x.kind=4 then ofK M id 3 fun n=>(P 0 s (some n.l)).bind fun _=>P 1 s (some n.r)
 else if x.kind=7 then ofK M id 4 fun n=>P 0 s (some n.l)
 else if x.kind=8 then ofK M id 4 fun n=>P 0 s (some n.r)
 else if x.kind=9 then (P 0 s none).bind fun f=>ofK M f 4 fun n=>(P 1 ((x.name,n.l) :: s) (some id)).bind fun _=>P 2 ((x.other,n.r) :: s) (some id)
 else if x.kind=10 then (P 0 s none).bind fun f=>ofK M f 2 fun _ => .ok id
 else if x.kind=12 then (P 0 s none).bind fun f=>P 1 ((x.name,f) :: s) (some id)
 else (toldS M P s x).bind fun f=>if f=id then .ok id else .no 130 []
def tyS (M:List Nd):Nat→PTerm→Sc→Option Int→TR
 | 0,_,_,_ => .no 132 []
 | k + 1,x,s,want =>
  let P:Int→Sc→Option Int→TR:=fun i s' w=>(tyS M k (at_ PTerm.z x.sub i) s' w).at_ i
  match want with
  | none=>toldS M P s x
  | some id=>chkdS M P s x id
end
section
open Gw
theorem chk_t {α:Type} {b:Bool} {x:Option α} (h:b=true):chk b x=x:=by rw [chk,if_pos h]
theorem kS {n:Nat} (h:n < 9223372036854775808):IntKind.i64.wrap (n:Int)=n:=wrap_small ⟨by omega,by omega⟩
theorem iter_count {τ ρ:Type} {b:τ × Int→Option (Stp (τ × Int) ρ)} (g:Nat→τ) (n:Nat)
  (h : ∀ i,i < n→b (g i,(i:Int))=some (.go (g (i + 1),((i + 1:Nat):Int)))∨(b (g i,(i:Int))=some (.brk (g i,(i:Int)))∧g i=g n)) (he:b (g n,(n:Int))=some (.brk (g n,(n:Int)))) :
  ∀ (k i:Nat),i ≤ n→n - i < k → ∃ j:Int,iter b k (g i,(i:Int))=some (.inl (g n,j))
 | 0,i,_,hk=>by omega
 | k + 1,i,hi,hk=>by
  by_cases hin:i=n
  ·subst hin; exact ⟨(i:Int),by simp only [iter,he,zbu]⟩
  ·rcases h i zbq with h1 | ⟨h1,h2⟩
   ·obtain ⟨j,hj⟩ := iter_count g n h he k (i + 1) zbq zbq
    exact ⟨j,by simp only [iter,h1,zbu]; exact hj⟩
   ·exact ⟨(i:Int),by rw [iter,h1]; simp only [zbu,h2]⟩
theorem depL_take : ∀ {l:List PTerm} {i:Nat} {x:PTerm},l[i]? = some x→depL (l.take (i + 1))=max (depL (l.take i)) (depT x)
 | [],_,_,h=>by simp at h
 | y :: l,0,x,h=>by simp at h; subst h; simp [depL]
 | y :: l,i + 1,x,h=>by
  have:=depL_take (l:=l) (i:=i) (by simpa using h)
  simp only [List.take_succ_cons,depL]; omega
theorem depL_le : ∀ {l:List PTerm} (i:Nat),depL (l.take i) ≤ depL l
 | [],i=>by simp
 | y :: l,0=>by simp [depL]
 | y :: l,i + 1=>by have:=depL_le (l:=l) i; simp only [List.take_succ_cons,depL]; omega
theorem zbi : ∀ (l:List PTerm),l.length ≤ sizeL l
 | []=>by simp
 | y :: l=>by have:=zbi l; have:=ud y; simp only [List.length_cons,sizeL]; omega
theorem xS : ∀ {l:List PTerm} {x:PTerm},x ∈ l→sizeT x ≤ sizeL l
 | [],_,h=>by simp at h
 | y :: l,x,h=>by
  simp only [sizeL]
  rcases List.mem_cons.1 h with rfl | h
  ·omega
  ·have:=xS h; omega
theorem vk {l:List PTerm} {i:Nat} (h:i < l.length):at_ PTerm.z l (i:Int)=l[i]:=by
 unfold at_; rw [Int.toNat_natCast,List.getD_eq_getElem?_getD,List.getElem?_eq_getElem h]; rfl
theorem yx (x:PTerm):1 ≤ depT x:=by rw [yj]; omega
-- levels,as the program counts them
theorem deep_some : ∀ (K:Nat) (x:PTerm) (most:Nat),1 ≤ most→most ≤ 1025→sizeT x ≤ 65536→sizeT x + most < K→zbK.f K x (most:Int)=some ((min (depT x) most:Nat):Int)
 | 0,_,_,_,_,_,h=>by omega
 | K + 1,x,most,h1,h2,h3,hK=>by
  show zbK.g (zbK.f K) K x most=_
  unfold zbK.g
  by_cases hm:most=1
  ·subst hm
   rw [if_pos zbp]
   have:=yx x
   rw [show min (depT x) 1=1 by omega]
  rw [if_neg (by simp; omega)]
  have hw:IntKind.i64.wrap ((most:Int) - 1)=((most - 1:Nat):Int):=by
   rw [show ((most:Int) - 1)=((most - 1:Nat):Int) by omega]; exact kS zbq
  have hs:=xD x
  have hls:=zbi x.sub
  obtain ⟨j,hj⟩ := iter_count (b:=fun s=>zbK.b0 x most (zbK.f K) s.1 s.2) (g:=fun i=>((min (depL (x.sub.take i)) (most - 1):Nat):Int)) x.sub.length (fun i hi=>by
   have he:=List.getElem?_eq_getElem hi
   have hd:=depL_take he
   have hle:=depL_le (l:=x.sub) i
   simp only [zbK.b0,hw]
   by_cases hc:min (depL (x.sub.take i)) (most - 1) < most - 1
   ·left
    rw [if_pos (by simp; omega),chk_t (by rw [inb_nat]; exact decide_eq_true hi),vk hi,deep_some K _ (most - 1) zbq zbq (by have:=xS (List.getElem_mem hi); omega) (by have:=xS (List.getElem_mem hi); omega)]
    simp only [zbu]
    rw [show (i:Int) + 1=((i + 1:Nat):Int) by omega,kS zbq]
    congr 3
    rw [hd]
    split <;> omega
   ·right
    rw [if_neg (by simp; omega)]
    refine ⟨rfl,?_⟩
    rw [List.take_length]
    congr 1
    omega) (by
   simp only [zbK.b0,hw]
   rw [if_neg zbr]) K 0 zbq zbq
  simp only [List.take_zero,depL,Nat.zero_min,List.take_length] at hj
  rw [show ((0:Nat):Int)=0 from rfl] at hj
  rw [hj]
  simp only [zbu,aft]
  rw [show ((min (depL x.sub) (most - 1):Nat):Int) + 1=((min (depL x.sub) (most - 1) + 1:Nat):Int) by omega,kS zbq,yj]
  congr 2
  omega
-- what is right,as the program tells it
theorem shape_some (k:Int):zbH.f k=some (if yC k = -1 then (0,false,false,false) else (yC k,decide (k=1∨k=2∨k=9∨k=12),decide (k=9),true)):=by
 by_cases h:k=1∨k=2∨k=3∨k=4∨k=5∨k=6∨k=7∨k=8∨k=9∨k=10∨k=11∨k=12
 ·rcases h with rfl | rfl | rfl | rfl | rfl | rfl | rfl | rfl | rfl | rfl | rfl | rfl <;> decide
 ·simp only [not_or] at h
  obtain ⟨h1,h2,h3,h4,h5,h6,h7,h8,h9,h10,h11,h12⟩ := h
  simp [zbH.f,yC,h1,h2,h3,h4,h5,h6,h7,h8,h9,h10,h11,h12]
theorem named_some {s:ByteArray} (hs:s.size < 9223372036854775808) (b:Bool):zbI.f s b=some (if b then decide (isWord s) else decide (s=⟨#[]⟩)):=by
 unfold zbI.f zbz.f
 rw [chk_t (decide_eq_true hs)]
 cases b <;> simp
theorem rightL_all : ∀ (l:List PTerm),rightL l=l.all rightT
 | []=>rfl
 | x :: l=>by simp [rightL,rightL_all l]
theorem contains_some {rec:PTerm→Option Bool} {l:List PTerm} (h : ∀ x ∈ l,rec x=some (rightT x)):zbS.g rec l=some (!rightL l):=by
 unfold zbS.g zbR.g
 have h1:=kg (b:=fun i s=>zbR.b0 rec l i) (p:=fun k => !rightT (l.getD k PTerm.z)) (r:=fun k=>(k:Int)) l.length 0 () (by
  intro k _ hk
  unfold zbR.b0 zbQ.g
  have hk':k < l.length:=by omega
  rw [vk hk',h _ (List.getElem_mem hk')]
  simp only [zbu,List.getD_eq_getElem?_getD,List.getElem?_eq_getElem hk',Option.getD_some]
  cases rightT l[k] <;> rfl)
 have e0:(((l.length:Nat):Int) - 0).toNat=l.length:=by omega
 rw [e0,show (0:Int)=((0:Nat):Int) from rfl,h1]
 have h2:rightL l = !((List.range' 0 l.length).find? fun k => !rightT (l.getD k PTerm.z)).isSome:=by
  rw [rightL_all,← any_find]
  rw [Bool.eq_iff_iff]
  simp only [List.all_eq_true,Bool.not_eq_true',List.any_eq_false,Bool.not_eq_true,Bool.not_eq_false',List.mem_range'_1]
  constructor
  ·intro hh k hk
   have hk':k < l.length:=by omega
   simp only [List.getD_eq_getElem?_getD,List.getElem?_eq_getElem hk',Option.getD_some]
   simpa using hh _ (List.getElem_mem hk')
  ·intro hh x hx
   obtain ⟨k,hk,rfl⟩ := List.getElem_of_mem hx
   have:=hh k ⟨by omega,by omega⟩
   simp only [List.getD_eq_getElem?_getD,List.getElem?_eq_getElem hk,Option.getD_some] at this
   simpa using this
 rw [h2]
 cases (List.range' 0 l.length).find? fun k => !rightT (l.getD k PTerm.z) with
 | none=>simp [aft]
 | some k=>simp [aft]
theorem right_some : ∀ (K:Nat) (x:PTerm),nmT x→depT x ≤ K→zbT.f K x=some (rightT x)
 | 0,x,_,h=>by have:=yx x; omega
 | K + 1,x,hn,hK=>by
  have hd:=yj x
  obtain ⟨n1,n2,n3⟩ := (ja x).1 hn
  show zbT.g (zbT.f K) x=_
  unfold zbT.g
  rw [shape_some,contains_some (l:=x.sub) fun y hy=>right_some K y (nmL_mem n3 y hy) (by have:=ye y hy; omega)]
  rw [zah]
  unfold nodeR
  by_cases hp:yC x.kind = -1
  ·have:¬ (-1:Int)=(x.sub.length:Int):=by omega
   simp [hp,this]
  ·simp only [hp,if_false,zbu,named_some n1,named_some n2]
   generalize yC x.kind=p at hp
   by_cases hl:p=(x.sub.length:Int)
   ·by_cases hk:x.kind=1∨x.kind=2∨x.kind=9∨x.kind=12
    ·simp only [if_pos hk,decide_eq_true hk]
     by_cases hw:isWord x.name
     ·by_cases h9:x.kind=9
      ·simp only [if_pos h9,decide_eq_true h9]
       by_cases ho:isWord x.other
       ·by_cases hf:x.form=0
        ·simp [hl,h9,hw,ho,hf]
        ·simp [hl,h9,hw,ho,hf]
       ·simp [hl,h9,hw,ho]
      ·simp only [if_neg h9,decide_eq_false h9]
       by_cases ho:x.other=⟨#[]⟩
       ·by_cases h11:x.kind=11
        ·omega
        ·by_cases hf:x.form=0
         ·simp [hl,h11,hw,ho,hf]
         ·simp [hl,h11,hw,ho,hf]
       ·simp [hl,hw,ho]
     ·simp [hl,hw]
    ·have h9:¬ x.kind=9:=fun e=>hk (.inr (.inr (.inl e)))
     simp only [if_neg hk,decide_eq_false hk,if_neg h9,decide_eq_false h9]
     by_cases hw:x.name=⟨#[]⟩
     ·by_cases ho:x.other=⟨#[]⟩
      ·by_cases h11:x.kind=11
       ·by_cases hf:0 ≤ x.form
        ·by_cases hg:x.form < 1024
         ·have q1:¬ x.form < 0:=by omega
          have q2:¬ 1024 ≤ x.form:=by omega
          simp [hl,h11,hw,ho,hf,hg,q1,q2]
         ·have q2:1024 ≤ x.form:=by omega
          simp [hl,h11,hw,ho,hf,hg,q2]
        ·have q1:x.form < 0:=by omega
         simp [hl,h11,hw,ho,hf,q1]
       ·by_cases hf:x.form=0
        ·simp [hl,h11,hw,ho,hf]
        ·simp [hl,h11,hw,ho,hf]
      ·simp [hl,hw,ho]
     ·simp [hl,hw]
   ·have hl':¬ (x.sub.length:Int)=p:=fun e=>hl e.symm
    simp [hl,hl']
def yo (x:PTerm):Int:=if 65536 < sizeT x∨1024 < depT x then 121 else if rightT x then 0 else 120
theorem zak {K:Nat} {x:PTerm} (hK:66562 ≤ K) (hn:nmT x):zbU.f K x=some (yo x):=by
 unfold zbU.f zbG.f zbL.f yo
 simp only [zbu]
 by_cases hs:65536 < sizeT x
 ·have h1:min (sizeT x) 65537=65537:=by omega
  simp [h1,hs]
 ·have h1:min (sizeT x) 65537=sizeT x:=by omega
  have h2:¬ (65536:Int) < (sizeT x:Int):=by omega
  rw [h1,show (1025:Int)=((1025:Nat):Int) from rfl]
  simp only [h2,decide_false,Bool.not_false,if_true,deep_some K x 1025 zbq zbq zbq zbq,zbu,Bool.false_or,decide_eq_true_eq,hs,false_or]
  by_cases hd:1024 < depT x
  ·have h3:(1024:Int) < ((min (depT x) 1025:Nat):Int):=by omega
   simp [h3,hd]
  ·have h3:¬ (1024:Int) < ((min (depT x) 1025:Nat):Int):=by omega
   rw [if_neg h3,if_neg hd,right_some K x hn zbq]
   cases rightT x <;> rfl
end
section
open Gw
theorem ba_app (a b:List UInt8):(⟨a.toArray⟩ : ByteArray) ++ ⟨b.toArray⟩ = ⟨(a ++ b).toArray⟩ := by
 apply ByteArray.ext
 simp [ByteArray.data_append]
theorem ba_size (l:List UInt8):(⟨l.toArray⟩ : ByteArray).size=l.length:=by simp [ByteArray.size]
theorem ba_inj {a b:List UInt8} (h:(⟨a.toArray⟩ : ByteArray)=⟨b.toArray⟩):a=b:=by
 have:=congrArg (fun s:ByteArray=>s.data.toList) h
 simpa using this
theorem u8_of {n:Nat} (h:n < 256):(UInt8.ofNat n).toNat=n:=by
 rw [UInt8.toNat_ofNat']; exact Nat.mod_eq_of_lt h
theorem decK_len : ∀ (k u:Nat),(decK k u).length ≤ k
 | 0,u=>by simp [decK]
 | k + 1,u=>by
  unfold decK
  split
  ·simp
  ·have:=decK_len k (u / 10); simp; omega
theorem decK_ne (k u:Nat):decK (k + 1) u ≠ []:=by
 unfold decK
 split <;> simp
theorem decK_dig : ∀ (k u:Nat),∀ c ∈ decK k u,48 ≤ c.toNat∧c.toNat ≤ 57
 | 0,u,c,h=>by simp [decK] at h
 | k + 1,u,c,h=>by
  unfold decK at h
  split at h
  ·rename_i hu
   rw [List.mem_singleton] at h; subst h; rw [u8_of zbq]; omega
  ·rcases List.mem_append.1 h with h | h
   ·exact decK_dig k _ c h
   ·have:u % 10 < 10:=Nat.mod_lt _ zbp
    rw [List.mem_singleton] at h; subst h; rw [u8_of zbq]; omega
def valD (l:List UInt8):Nat:=l.foldl (fun a c=>a * 10 + (c.toNat - 48)) 0
theorem decK_val : ∀ (k u:Nat),u < 10 ^ k→valD (decK k u)=u
 | 0,u,h=>by simp at h; subst h; rfl
 | k + 1,u,h=>by
  unfold decK
  split
  ·rename_i hu
   unfold valD
   simp only [List.foldl_cons,List.foldl_nil]
   rw [u8_of zbq]; omega
  ·have h1:=decK_val k (u / 10) (by rw [Nat.pow_succ] at h; omega)
   have:u % 10 < 10:=Nat.mod_lt _ zbp
   unfold valD at h1 ⊢
   rw [List.foldl_append,h1]
   simp only [List.foldl_cons,List.foldl_nil]
   rw [u8_of zbq]; omega
theorem decN_nn {n:Int} (h:0 ≤ n):decN n=⟨(decK 20 n.toNat).toArray⟩ := by
 unfold decN; rw [if_neg zbq]
theorem sb_list (l:List UInt8) (i:Nat) (h:i < l.length):sb ⟨l.toArray⟩ i=(l[i].toNat:Int):=by
 unfold sb
 rw [show (⟨l.toArray⟩ : ByteArray)[i]? = some l[i] from by
  rw [getElem?_pos _ i (by simpa [ByteArray.size] using h)]; rfl]
 rfl
theorem word_of {c:UInt8} (hc:isL (c.toNat:Int)=true) {l:List UInt8} (h0:l ≠ []) (h1:l.length ≤ 30) (h2 : ∀ x ∈ l,48 ≤ x.toNat∧x.toNat ≤ 57):isWord ⟨(c :: l).toArray⟩ := by
 have hz:(⟨(c :: l).toArray⟩ : ByteArray).size=l.length + 1:=by rw [ba_size]; rfl
 refine ⟨by omega,by omega,fun i hi=>?_,?_⟩
 ·have hil:i < (c :: l).length:=by rw [hz] at hi; exact hi
  unfold okAt
  rw [sb_list _ _ hil]
  cases i with
  | zero=>exact hc
  | succ i =>
   rw [if_neg zbq,List.getElem_cons_succ]
   have:=h2 _ (List.getElem_mem (show i < l.length by simpa using hil))
   unfold isC
   simp only [Bool.or_eq_true,Bool.and_eq_true,decide_eq_true_eq]
   left; left; right; omega
 ·unfold jV
  rw [List.any_eq_false]
  intro t ht
  simp only [decide_eq_true_eq]
  intro e
  have h3 : ∀ t ∈ resv,97 ≤ (t.data.toList.getD 1 0).toNat:=by decide
  have h4:=h3 t ht
  rw [← e] at h4
  cases l with
  | nil=>exact h0 rfl
  | cons d l =>
   have h5:=h2 d (List.mem_cons_self ..)
   have:((⟨(c :: d :: l).toArray⟩ : ByteArray).data.toList.getD 1 0)=d:=rfl
   rw [this] at h4
   omega
theorem decN_size {f:Int} (h:0 ≤ f):(decN f).size ≤ 20:=by rw [decN_nn h,ba_size]; exact decK_len 20 _
theorem dec_ok (c:UInt8) {f:Int} (h:0 ≤ f):decide ((⟨#[c]⟩ : ByteArray).size + (decN f).size ≤ 1000000)=true:=by
 have h1:(⟨#[c]⟩ : ByteArray).size=1:=rfl
 have:=decN_size h
 rw [h1]; simp; omega
end
section
open Gw
def yF (k:Int) (nm ot:ByteArray) (i:Nat):ByteArray:=if k=2∨i=1∧(k=12∨k=9) then nm else if k=9∧i=2 then ot else ⟨#[]⟩
abbrev xb (x:PTerm) (i:Nat):ByteArray:=yF x.kind x.name x.other i
mutual
def cntT (n:ByteArray):PTerm→Nat
 | .mk k nm ot _ s=>if k=1 then (if nm=n then 1 else 0) else cntL n k nm ot 0 s
def cntL (n:ByteArray) (k:Int) (nm ot:ByteArray):Nat→List PTerm→Nat
 | _,[]=>0
 | i,y :: l=>(if yF k nm ot i=n then 0 else cntT n y) + cntL n k nm ot (i + 1) l
end
theorem vz (n:ByteArray) (x:PTerm):cntT n x=if x.kind=1 then (if x.name=n then 1 else 0) else cntL n x.kind x.name x.other 0 x.sub:=by cases x; simp only [cntT]; rfl
theorem cntL_take (n:ByteArray) (k:Int) (nm ot:ByteArray) : ∀ {l:List PTerm} {i j:Nat} {x:PTerm},l[j]? = some x→cntL n k nm ot i (l.take (j + 1))=cntL n k nm ot i (l.take j) + (if yF k nm ot (i + j)=n then 0 else cntT n x)
 | [],_,_,_,h=>by simp at h
 | y :: l,i,0,x,h=>by simp at h; subst h; simp [cntL]
 | y :: l,i,j + 1,x,h=>by
  have:=cntL_take n k nm ot (l:=l) (i:=i + 1) (j:=j) (by simpa using h)
  simp only [List.take_succ_cons,cntL]
  rw [this,show i + 1 + j=i + (j + 1) by omega]; omega
def xO (n:ByteArray) (x:PTerm):Prop:=cntT n x ≠ 0
instance (n:ByteArray) (x:PTerm):Decidable (xO n x):=inferInstanceAs (Decidable (cntT n x ≠ 0))
theorem cntL_free (n:ByteArray) (k:Int) (nm ot:ByteArray) : ∀ {l:List PTerm} {i:Nat},cntL n k nm ot i l ≠ 0 ↔ ∃ j,∃ h:j < l.length,yF k nm ot (i + j) ≠ n∧xO n l[j]
 | [],i=>by simp [cntL]
 | y :: l,i=>by
  have ih:=cntL_free n k nm ot (l:=l) (i:=i + 1)
  simp only [cntL]
  constructor
  ·intro h
   by_cases h1:(if yF k nm ot i=n then 0 else cntT n y)=0
   ·obtain ⟨j,hj,h2,h3⟩ := ih.1 zbq
    exact ⟨j + 1,by simpa using hj,by rw [show i + (j + 1)=i + 1 + j by omega]; exact h2,by simpa using h3⟩
   ·refine ⟨0,by simp,?_⟩
    by_cases hb:yF k nm ot i=n
    ·rw [if_pos hb] at h1; exact absurd rfl h1
    ·rw [if_neg hb] at h1; exact ⟨by simpa using hb,by simpa [xO] using h1⟩
  ·rintro ⟨j,hj,h2,h3⟩
   cases j with
   | zero =>
    have h2':yF k nm ot i ≠ n:=by simpa using h2
    rw [if_neg h2']
    have:cntT n y ≠ 0:=by simpa [xO] using h3
    omega
   | succ j =>
    have:=ih.2 ⟨j,by simpa using hj,by rw [show i + 1 + j=i + (j + 1) by omega]; exact h2,by simpa using h3⟩
    omega
theorem free_iff (n:ByteArray) (x:PTerm):xO n x↔(x.kind=1∧x.name=n)∨(x.kind ≠ 1 ∧ ∃ j,∃ h:j < x.sub.length,xb x j ≠ n∧xO n x.sub[j]):=by
 unfold xO
 rw [vz]
 by_cases h:x.kind=1
 ·by_cases h2:x.name=n <;> simp [h,h2]
 ·rw [if_neg h,cntL_free]
  simp [h,xO]
def firstN (p:Nat→Bool):Nat→Nat→Nat
 | 0,i=>i
 | m + 1,i=>if p i then i else firstN p m (i + 1)
theorem zaM {p:Nat→Bool} : ∀ {m i j:Nat},i ≤ j→j < i + m→p j=true→p (firstN p m i)=true∧firstN p m i ≤ j ∧ ∀ q,i ≤ q→q < firstN p m i→p q=false
 | 0,i,j,h1,h2,_=>by omega
 | m + 1,i,j,h1,h2,h=>by
  unfold firstN
  by_cases hp:p i=true
  ·rw [if_pos hp]; exact ⟨hp,h1,fun q _ _=>by omega⟩
  ·rw [if_neg hp]
   have hj:i ≠ j:=fun e=>hp (e ▸ h)
   obtain ⟨h3,h4,h5⟩ := zaM (p:=p) (m:=m) (i:=i + 1) (j:=j) zbq zbq h
   refine ⟨h3,h4,fun q hq hq2=>?_⟩
   by_cases e:q=i
   ·subst e; simpa using hp
   ·exact h5 q zbq hq2
def vNm (k:Nat):ByteArray:=(⟨#[118]⟩ : ByteArray) ++ decN (k:Int)
theorem vNm_eq (k:Nat):vNm k=⟨((118:UInt8) :: decK 20 k).toArray⟩ := by
 unfold vNm; rw [decN_nn zbq]; exact ba_app [118] _
theorem vNm_inj {a b:Nat} (ha:a < 9223372036854775808) (hb:b < 9223372036854775808) (h:vNm a=vNm b):a=b:=by
 rw [vNm_eq,vNm_eq] at h
 have h1:=(List.cons.inj (ba_inj h)).2
 have h2:=congrArg valD h1
 rwa [decK_val 20 a zbq,decK_val 20 b zbq] at h2
theorem vNm_word (k:Nat):isWord (vNm k):=by
 rw [vNm_eq]; exact word_of zbp (decK_ne 19 _) (by have:=decK_len 20 k; omega) (decK_dig 20 _)
theorem word_ne {s:ByteArray} (h:isWord s):s ≠ ⟨#[]⟩ := fun e=>by subst e; exact absurd h.1 zbp
def blocked (p y:PTerm) (n z:ByteArray):Bool:=decide (xO z p) || decide (xO z y) || decide (z=n)
def xC (p y:PTerm) (n:ByteArray):ByteArray:=vNm (firstN (fun k => !blocked p y n (vNm k)) (sizeT p + sizeT y + 2) 0)
theorem sum_add {α:Type} (f g:α→Nat) : ∀ l:List α,(l.map fun z=>f z + g z).sum=(l.map f).sum + (l.map g).sum
 | []=>rfl
 | a :: l=>by simp only [List.map_cons,List.sum_cons,sum_add f g l]; omega
theorem sum_le {α:Type} (f g:α→Nat) : ∀ l:List α,(∀ z ∈ l,f z ≤ g z)→(l.map f).sum ≤ (l.map g).sum
 | [],_=>by simp
 | a :: l,h=>by
  have:=sum_le f g l (fun z hz=>h z (by simp [hz]))
  have:=h a zbr
  simp only [List.map_cons,List.sum_cons]; omega
theorem sum_zero : ∀ l:List ByteArray,(l.map fun _:ByteArray=>0).sum=0
 | []=>rfl
 | b :: l=>by have:=sum_zero l; simp only [List.map_cons,List.sum_cons]; omega
theorem sum_one {n:ByteArray} : ∀ {l:List ByteArray},l.Nodup→(l.map fun z=>if n=z then 1 else 0).sum ≤ 1
 | [],_=>by simp
 | a :: l,h=>by
  rw [List.nodup_cons] at h
  simp only [List.map_cons,List.sum_cons]
  by_cases e:n=a
  ·subst e
   have:(l.map fun z=>if n=z then 1 else 0).sum ≤ (l.map fun _=>0).sum:=sum_le _ _ l (fun z hz=>by
    rw [if_neg]; · omega
    ·rintro rfl; exact h.1 hz)
   have h0:(l.map fun _:ByteArray=>0).sum=0:=sum_zero l
   rw [if_pos rfl]; omega
  ·rw [if_neg e]; have:=sum_one h.2 (n:=n); omega
mutual
theorem cnt_sum : ∀ (x:PTerm) (l:List ByteArray),l.Nodup→(l.map fun z=>cntT z x).sum ≤ sizeT x
 | .mk k nm ot f s,l,hl=>by
  simp only [cntT,sizeT]
  by_cases h:k=1
  ·simp only [if_pos h]
   have:=sum_one (n:=nm) hl
   omega
  ·simp only [if_neg h]
   have:=cnt_sumL k nm ot 0 s l hl
   omega
theorem cnt_sumL : ∀ (k:Int) (nm ot:ByteArray) (i:Nat) (s:List PTerm) (l:List ByteArray),l.Nodup→(l.map fun z=>cntL z k nm ot i s).sum ≤ sizeL s
 | k,nm,ot,i,[],l,_=>by
  simp only [cntL,sizeL]
  exact Nat.le_of_eq (sum_zero l)
 | k,nm,ot,i,y :: s,l,hl=>by
  simp only [cntL,sizeL]
  rw [sum_add]
  have h1:=cnt_sum y l hl
  have h2:=cnt_sumL k nm ot (i + 1) s l hl
  have h3:(l.map fun z=>if yF k nm ot i=z then 0 else cntT z y).sum ≤ (l.map fun z=>cntT z y).sum:=sum_le _ _ l (fun z _=>by split <;> omega)
  omega
end
theorem sum_len {α:Type} (f:α→Nat) : ∀ l:List α,(∀ z ∈ l,1 ≤ f z)→l.length ≤ (l.map f).sum
 | [],_=>by simp
 | a :: l,h=>by
  have:=sum_len f l (fun z hz=>h z (by simp [hz]))
  have:=h a zbr
  simp only [List.map_cons,List.sum_cons,List.length_cons]; omega
theorem vNms_nodup (m:Nat) (hm:m < 9223372036854775808):((List.range m).map vNm).Nodup:=by
 rw [List.nodup_iff_pairwise_ne,List.pairwise_map]
 refine (List.nodup_range (n:=m)).imp_of_mem ?_
 intro a b ha hb hab e
 exact hab (vNm_inj (by have:=List.mem_range.1 ha; omega) (by have:=List.mem_range.1 hb; omega) e)
theorem not_blocked {p y:PTerm} {n:ByteArray} (h:sizeT p + sizeT y + 2 < 9223372036854775808) : ∃ j,j < sizeT p + sizeT y + 2∧blocked p y n (vNm j)=false:=by
 apply Classical.byContradiction
 intro hc
 have hall : ∀ z ∈ (List.range (sizeT p + sizeT y + 2)).map vNm,1 ≤ (cntT z p + cntT z y) + (if n=z then 1 else 0):=by
  intro z hz
  obtain ⟨j,hj,rfl⟩ := List.mem_map.1 hz
  have hb:blocked p y n (vNm j)=true:=by
   cases hq:blocked p y n (vNm j) with
   | true=>rfl
   | false=>exact absurd ⟨j,List.mem_range.1 hj,hq⟩ hc
  have hb:(cntT (vNm j) p ≠ 0∨cntT (vNm j) y ≠ 0)∨vNm j=n:=by
   unfold blocked at hb
   rcases Bool.or_eq_true_iff.1 hb with q | q
   ·rcases Bool.or_eq_true_iff.1 q with q | q
    ·exact .inl (.inl (of_decide_eq_true q))
    ·exact .inl (.inr (of_decide_eq_true q))
   ·exact .inr (of_decide_eq_true q)
  by_cases e:n=vNm j
  ·rw [if_pos e]; omega
  ·rw [if_neg e]
   have e':vNm j ≠ n:=fun q=>e q.symm
   rcases hb with (hb | hb) | hb
   ·omega
   ·omega
   ·exact absurd hb e'
 have hn:=vNms_nodup (sizeT p + sizeT y + 2) h
 have h1:=sum_len _ _ hall
 rw [sum_add,sum_add] at h1
 have h2:=cnt_sum p _ hn
 have h3:=cnt_sum y _ hn
 have h4:=sum_one (n:=n) hn
 rw [List.length_map,List.length_range] at h1
 omega
theorem fresh_ok {p y:PTerm} {n:ByteArray} (h:sizeT p + sizeT y + 2 < 9223372036854775808):¬ xO (xC p y n) p∧¬ xO (xC p y n) y∧xC p y n ≠ n:=by
 obtain ⟨j,hj,hb⟩ := not_blocked (p:=p) (y:=y) (n:=n) h
 have:=(zaM (p:=fun k => !blocked p y n (vNm k)) (m:=sizeT p + sizeT y + 2) (i:=0) (j:=j) zbq zbq (by simpa using hb)).1
 have h2:blocked p y n (xC p y n)=false:=by simpa [xC] using this
 have h3:(¬ xO (xC p y n) p∧¬ xO (xC p y n) y)∧xC p y n ≠ n:=by simpa [blocked] using h2
 exact ⟨h3.1.1,h3.1.2,h3.2⟩
theorem uL (p y:PTerm) (n:ByteArray):isWord (xC p y n):=vNm_word _
def varT (s:ByteArray):PTerm:=⟨1,s,⟨#[]⟩,0,[]⟩
def renC (x:PTerm) (n:ByteArray) (y:PTerm) (i:Nat) (p:PTerm):Prop:=(xb x i ≠ n∧xO n p)∧(xb x i ≠ ⟨#[]⟩ ∧ xO (xb x i) y)
instance (x:PTerm) (n:ByteArray) (y:PTerm) (i:Nat) (p:PTerm):Decidable (renC x n y i p):=inferInstanceAs (Decidable ((xb x i ≠ n∧xO n p)∧(xb x i ≠ ⟨#[]⟩ ∧ xO (xb x i) y)))
def putC (P:PTerm→ByteArray→PTerm→PTerm) (x:PTerm) (n:ByteArray) (y:PTerm) (i:Nat) (p:PTerm):PTerm :=
 if xb x i=n∨¬ xO n p then p
 else if xb x i ≠ ⟨#[]⟩ ∧ xO (xb x i) y then P (P p (xb x i) (varT (xC p y n))) n y
 else P p n y
def nmC (x:PTerm) (n:ByteArray) (y:PTerm):ByteArray :=
 let i:=if x.kind=2 then 0 else 1
 if (x.kind=2∨x.kind=12∨x.kind=9)∧renC x n y i (x.sub.getD i PTerm.z) then xC (x.sub.getD i PTerm.z) y n else x.name
def otC (x:PTerm) (n:ByteArray) (y:PTerm):ByteArray :=
 if x.kind=9∧renC x n y 2 (x.sub.getD 2 PTerm.z) then xC (x.sub.getD 2 PTerm.z) y n else x.other
def zaB:Nat→PTerm→ByteArray→PTerm→PTerm
 | 0,x,_,_=>x
 | d + 1,x,n,y=>if x.kind=1 then (if x.name=n then y else x) else ⟨x.kind,nmC x n y,otC x n y,x.form,x.sub.mapIdx fun i p=>putC (zaB d) x n y i p⟩
theorem depL_map {f:Nat→PTerm→PTerm} : ∀ {l:List PTerm},(∀ i (h:i < l.length),depT (f i l[i]) ≤ depT l[i])→depL (l.mapIdx f) ≤ depL l
 | [],_=>Nat.le_refl _
 | y :: l,h=>by
  rw [List.mapIdx_cons]
  simp only [depL]
  have h1:=depL_map (f:=fun i=>f (i + 1)) (l:=l) (fun i hi=>by have:=h (i + 1) (by simpa using hi); simpa using this)
  have h2:=h 0 zbr
  simp at h2
  omega
theorem sizeL_map {f:Nat→PTerm→PTerm} : ∀ {l:List PTerm},(∀ i (h:i < l.length),sizeT (f i l[i]) ≤ sizeT l[i])→sizeL (l.mapIdx f) ≤ sizeL l
 | [],_=>Nat.le_refl _
 | y :: l,h=>by
  rw [List.mapIdx_cons]
  simp only [sizeL]
  have h1:=sizeL_map (f:=fun i=>f (i + 1)) (l:=l) (fun i hi=>by have:=h (i + 1) (by simpa using hi); simpa using this)
  have h2:=h 0 zbr
  simp at h2
  omega
theorem mapIdx_same {f g:Nat→PTerm→PTerm} {l:List PTerm} (h : ∀ i (h:i < l.length),f i l[i]=g i l[i]):l.mapIdx f=l.mapIdx g:=by
 refine List.ext_getElem zbr fun i h1 h2=>?_
 rw [List.getElem_mapIdx,List.getElem_mapIdx]
 exact h i (by simpa using h1)
theorem kk : ∀ (d:Nat) (x:PTerm),depT x ≤ d→(∀ n z,depT (zaB d x n (varT z)) ≤ depT x∧sizeT (zaB d x n (varT z)) ≤ sizeT x) ∧ ∀ n y,zaB (d + 1) x n y=zaB d x n y
 | 0,x,h=>by have:=yx x; omega
 | d + 1,x,h=>by
  have hd:=yj x
  have hp : ∀ i (hi:i < x.sub.length),depT x.sub[i] ≤ d:=fun i hi=>by have:=ye _ (List.getElem_mem hi); omega
  have ihp:=fun i hi=>kk d x.sub[i] (hp i hi)
  have hc : ∀ n z i (hi:i < x.sub.length),depT (putC (zaB d) x n (varT z) i x.sub[i]) ≤ depT x.sub[i]∧sizeT (putC (zaB d) x n (varT z) i x.sub[i]) ≤ sizeT x.sub[i]:=by
   intro n z i hi
   unfold putC
   split
   ·exact ⟨Nat.le_refl _,Nat.le_refl _⟩
   ·split
    ·obtain ⟨a1,a2⟩ := (ihp i hi).1 (xb x i) (xC x.sub[i] (varT z) n)
     obtain ⟨b1,b2⟩ := (kk d (zaB d x.sub[i] (xb x i) (varT (xC x.sub[i] (varT z) n))) (Nat.le_trans a1 (hp i hi))).1 n z
     exact ⟨Nat.le_trans b1 a1,Nat.le_trans b2 a2⟩
    ·exact (ihp i hi).1 n z
  refine ⟨fun n z=>?_,fun n y=>?_⟩
  ·have e1:depT (varT z)=1:=rfl
   have e2:sizeT (varT z)=1:=rfl
   have h1:=yx x
   have h2:=ud x
   unfold zaB
   split
   ·split
    ·rw [e1,e2]; exact ⟨h1,h2⟩
    ·exact ⟨Nat.le_refl _,Nat.le_refl _⟩
   ·have h3:=depL_map fun i hi=>(hc n z i hi).1
    have h4:=sizeL_map fun i hi=>(hc n z i hi).2
    rw [yj,xD,yj x,xD x]
    exact ⟨Nat.add_le_add_left h3 1,Nat.add_le_add_left h4 1⟩
  ·show zaB (d + 1 + 1) x n y=_
   rw [zaB,zaB]
   split
   ·rfl
   ·congr 1
    refine mapIdx_same fun i hi=>?_
    unfold putC
    split
    ·rfl
    ·split
     ·rw [(ihp i hi).2]
      exact (kk d _ (Nat.le_trans ((ihp i hi).1 _ _).1 (hp i hi))).2 n y
     ·exact (ihp i hi).2 n y
def putT (x:PTerm) (n:ByteArray) (y:PTerm):PTerm:=zaB (depT x) x n y
theorem putS_dep (x:PTerm) (n:ByteArray) (y:PTerm) : ∀ {d:Nat},depT x ≤ d→zaB d x n y=putT x n y:=by
 intro d h
 induction d with
 | zero=>have:=yx x; omega
 | succ d ih =>
  by_cases e:depT x=d + 1
  ·unfold putT; rw [e]
  ·rw [(kk d x zbq).2,ih zbq]
theorem putT_eq (x:PTerm) (n:ByteArray) (y:PTerm):putT x n y=if x.kind=1 then (if x.name=n then y else x) else ⟨x.kind,nmC x n y,otC x n y,x.form,x.sub.mapIdx fun i p=>putC putT x n y i p⟩ := by
 have hd:=yj x
 unfold putT
 rw [show depT x=depL x.sub + 1 by omega,zaB]
 split
 ·rfl
 ·congr 1
  refine mapIdx_same fun i hi=>?_
  have hp:depT x.sub[i] ≤ depL x.sub:=ye _ (List.getElem_mem hi)
  unfold putC
  split
  ·rfl
  ·split
   ·rw [putS_dep _ _ _ hp,putS_dep _ _ _ (by rw [← putS_dep _ _ _ hp]; exact Nat.le_trans ((kk _ _ hp).1 _ _).1 hp)]
    rfl
   ·exact putS_dep _ _ _ hp
theorem dep_ren (p:PTerm) (n z:ByteArray):depT (putT p n (varT z)) ≤ depT p:=((kk _ p (Nat.le_refl _)).1 n z).1
theorem size_ren (p:PTerm) (n z:ByteArray):sizeT (putT p n (varT z)) ≤ sizeT p:=((kk _ p (Nat.le_refl _)).1 n z).2
theorem nmC_pos {x:PTerm} {n:ByteArray} {y:PTerm} (h:(x.kind=2∨x.kind=12∨x.kind=9)∧renC x n y (if x.kind=2 then 0 else 1) (x.sub.getD (if x.kind=2 then 0 else 1) PTerm.z)):nmC x n y=xC (x.sub.getD (if x.kind=2 then 0 else 1) PTerm.z) y n:=if_pos h
theorem nmC_neg {x:PTerm} {n:ByteArray} {y:PTerm} (h:¬ ((x.kind=2∨x.kind=12∨x.kind=9)∧renC x n y (if x.kind=2 then 0 else 1) (x.sub.getD (if x.kind=2 then 0 else 1) PTerm.z))):nmC x n y=x.name:=if_neg h
theorem otC_pos {x:PTerm} {n:ByteArray} {y:PTerm} (h:x.kind=9∧renC x n y 2 (x.sub.getD 2 PTerm.z)):otC x n y=xC (x.sub.getD 2 PTerm.z) y n:=if_pos h
theorem otC_neg {x:PTerm} {n:ByteArray} {y:PTerm} (h:¬ (x.kind=9∧renC x n y 2 (x.sub.getD 2 PTerm.z))):otC x n y=x.other:=if_neg h
end
end Go.Proofs.YtmggdbbmmkkplaaGreatDoor
