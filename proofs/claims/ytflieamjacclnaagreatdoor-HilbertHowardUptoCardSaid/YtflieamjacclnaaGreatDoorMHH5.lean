/- Texts put together. -/
import Derived.Test.YtflieamjacclnaaGreatDoorMHH4
set_option linter.unusedVariables false
set_option linter.unusedSimpArgs false
namespace Go.Proofs.YtflieamjacclnaaGreatDoor
section
open Gw Go.RowKit
set_option maxHeartbeats 4000000
set_option maxRecDepth 20000
theorem ref12_Copy_gst {zeb:PTerm→Option PTerm} (zdT : ∀ {A:Nat→Prop} {N:Oth} {w:World} {a0:PTerm} {s_0:SlV} (S:St A N w w [] [zn s_0 a0.sub]) {r:PTerm} (H:zeb a0=some r),Calls PP j7 #[.agg (Term.C (⟨a0.kind,a0.name,a0.other,a0.form,s_0⟩ : Term)).toArray] w fun e w' => ∃ v,e = .returned v∧(∃ so0:SlV,v = .agg (Term.C (⟨r.kind,r.name,r.other,r.form,so0⟩ : Term)).toArray∧St A N w w' [] [zn so0 r.sub])) {A:Nat→Prop} {N:Oth} {w:World} {a0:PTerm} {s_0:SlV} (S:St A N w w [] [zn s_0 a0.sub]) {k:Nat} {r:PTerm} (H:zdO.g zeb k a0=some r) :
  Calls PP j7 #[.agg (Term.C (⟨a0.kind,a0.name,a0.other,a0.form,s_0⟩ : Term)).toArray] w fun e w' => ∃ v,e = .returned v∧(∃ so0:SlV,v = .agg (Term.C (⟨r.kind,r.name,r.other,r.form,so0⟩ : Term)).toArray∧St A N w w' [] [zn so0 r.sub]):=by
 unfold zdO.g at H
 refine zz (n:=26) fn_ref12_Copy rfl rfl zcc ?_
 refine zd (za ?_)
 refine zX rfl zca fun b2 w1 hw1=>?_
 replace S:St A N w w1 [oB b2 zj (Term.C (⟨a0.kind,a0.name,a0.other,a0.form,s_0⟩ : Term))] [zn s_0 a0.sub]:=S.new hw1
 refine xd ue zca fun b4 w3 hw3=>?_
 replace S:St A N w w3 [oB b4 zj (Term.C (⟨0,ByteArray.empty,ByteArray.empty,0,SlV.nil⟩ : Term)),oB b2 zj (Term.C (⟨a0.kind,a0.name,a0.other,a0.form,s_0⟩ : Term))] [zn s_0 a0.sub]:=S.new hw3
 refine zb ?_
 refine zd (za ?_)
 refine wd (zm zD rfl ((S.blk 1).all _ (Term.len _)) (Term.len _)) ?_
 refine xd ue zca fun b6 w5 hw5=>?_
 replace S:St A N w w5 [oB b6 zj (Term.C (⟨0,ByteArray.empty,ByteArray.empty,0,SlV.nil⟩ : Term)),oB b4 zj (Term.C (⟨0,ByteArray.empty,ByteArray.empty,0,SlV.nil⟩ : Term)),oB b2 zj (Term.C (⟨a0.kind,a0.name,a0.other,a0.form,s_0⟩ : Term))] [zn s_0 a0.sub]:=S.new hw5
 refine zI zD rfl rfl (S.blk 0) (Term.len _) (by rw [Term.len]; decide) (Term.one _) (zT (Term.len _)) fun w7 B hw7 zw7=>?_
 replace S:St A N w w7 [oB b6 zj (Term.C (⟨a0.kind,a0.name,a0.other,a0.form,s_0⟩ : Term)),oB b4 zj (Term.C (⟨0,ByteArray.empty,ByteArray.empty,0,SlV.nil⟩ : Term)),oB b2 zj (Term.C (⟨a0.kind,a0.name,a0.other,a0.form,s_0⟩ : Term))] [zn s_0 a0.sub]:=S.store 0 B hw7
 clear B
 refine zb ?_
 refine zd (za ?_)
 refine wd (ze xf rfl (o':=4) rfl) ?_
 refine yI zY rfl SlV.nil_eq (S.blk 0) (by rw [Term.len]; decide) (SlV.one _ _ rfl) (Term.set_sub _ _) fun w8 B hw8 zw8=>?_
 replace S:St A N w w8 [oB b6 zj (Term.C (⟨a0.kind,a0.name,a0.other,a0.form,SlV.nil⟩ : Term)),oB b4 zj (Term.C (⟨0,ByteArray.empty,ByteArray.empty,0,SlV.nil⟩ : Term)),oB b2 zj (Term.C (⟨a0.kind,a0.name,a0.other,a0.form,s_0⟩ : Term))] [zn s_0 a0.sub]:=S.store 0 B hw8
 clear B
 refine zb ?_
 refine zd (zd (za ?_))
 refine wd (zh rfl) ?_
 refine zb ?_
 replace S:=S.nil zj 5 Term.C
 replace S:St A N w w8 [oS zj 5 Term.C SlV.nil ([]:List Term),oB b6 zj (Term.C (⟨a0.kind,a0.name,a0.other,a0.form,SlV.nil⟩ : Term)),oB b4 zj (Term.C (⟨0,ByteArray.empty,ByteArray.empty,0,SlV.nil⟩ : Term)),oB b2 zj (Term.C (⟨a0.kind,a0.name,a0.other,a0.form,s_0⟩ : Term))] [bigA xh ([]:List Term) ([]:List PTerm),zn s_0 a0.sub]:=S.bigTm
 replace S:=S.nil zj 5 Term.C
 replace S:St A N w w8 [oS zj 5 Term.C SlV.nil ([]:List Term),oS zj 5 Term.C SlV.nil ([]:List Term),oB b6 zj (Term.C (⟨a0.kind,a0.name,a0.other,a0.form,SlV.nil⟩ : Term)),oB b4 zj (Term.C (⟨0,ByteArray.empty,ByteArray.empty,0,SlV.nil⟩ : Term)),oB b2 zj (Term.C (⟨a0.kind,a0.name,a0.other,a0.form,s_0⟩ : Term))] [bigA xh ([]:List Term) ([]:List PTerm),bigA xh ([]:List Term) ([]:List PTerm),zn s_0 a0.sub]:=S.bigTm
 obtain ⟨o9,e9,Ho9⟩ := zr H
 clear H
 refine x6 [4,7,8,9,10,11,12,13,14,15,16,17,18,19,20,21,22,23,24] (fun fr W => ∃ s9:Int × PTerm,o9 = .inl s9 ∧ ∃ s10:SlV,∃ m11:List Term,fr 4 = .int .i64 s9.1∧St A N w W [oS zj 5 Term.C SlV.nil ([]:List Term),oS zj 5 Term.C s10 m11,oB b6 zj (Term.C (⟨s9.2.kind,s9.2.name,s9.2.other,s9.2.form,s10⟩ : Term)),oB b4 zj (Term.C (⟨0,ByteArray.empty,ByteArray.empty,0,SlV.nil⟩ : Term)),oB b2 zj (Term.C (⟨a0.kind,a0.name,a0.other,a0.form,s_0⟩ : Term))] [bigA xh ([]:List Term) ([]:List PTerm),bigA xh m11 s9.2.sub,zn s_0 a0.sub]) ?_ ?_
 ·refine zP ?_
  refine xY (α:=Nat × (Int × PTerm)) [4,7,8,9,10,11,12,13,14,15,16,17,18,19,20,21,22,23,24] (fun x fr W=>iter (fun s=>zdO.b0 a0 zeb s.1 s.2) x.1 x.2=some o9 ∧ ∃ s12:SlV,∃ m13:List Term,fr 4 = .int .i64 (x.2.1)∧St A N w W [oS zj 5 Term.C SlV.nil ([]:List Term),oS zj 5 Term.C s12 m13,oB b6 zj (Term.C (⟨(x.2.2).kind,(x.2.2).name,(x.2.2).other,(x.2.2).form,s12⟩ : Term)),oB b4 zj (Term.C (⟨0,ByteArray.empty,ByteArray.empty,0,SlV.nil⟩ : Term)),oB b2 zj (Term.C (⟨a0.kind,a0.name,a0.other,a0.form,s_0⟩ : Term))] [bigA xh ([]:List Term) ([]:List PTerm),bigA xh m13 (x.2.2).sub,zn s_0 a0.sub]) (fun x=>x.1) (k,(0,(⟨a0.kind,a0.name,a0.other,a0.form,([]:List PTerm)⟩ : PTerm))) ⟨(by dsimp only; exact e9),SlV.nil,([]:List Term),rfl,S⟩ ?_
  rintro ⟨m9,⟨x9_0,x9_1⟩⟩ g9 u9 ⟨e9,s14,m15,q9_4,S⟩
  try dsimp only at e9
  try dsimp only at S
  try dsimp only at q9_4
  obtain ⟨m9,rfl⟩ : ∃ m,m9=m + 1:=⟨m9 - 1,by cases m9 with | zero=>cases e9 | succ m=>rfl⟩
  obtain ⟨q9,H,e9⟩ := iter_s e9
  unfold zdO.b0 at H
  try dsimp only at H
  refine zd (zd (za ?_))
  refine wd (zg q9_4) ?_
  refine wd (ze xf rfl (o':=4) rfl) ?_
  refine wd (zl zY rfl ((S.blk 4).cell (Term.get_sub _))) ?_
  refine wd (does_lenF zN rfl (S.onZ 2)) ?_
  refine wd (xQ rfl rfl) ?_
  refine zb ?_
  refine zG rfl (fun hc16=>?_) (fun hc16=>?_)
  rotate_left
  ·replace H:=if_f hc16 H
   refine yn ?_
   obtain rfl:=zce H
   exact ⟨rfl,((((((Dif.self _ _ _).upd rfl _).upd rfl _).upd rfl _).upd rfl _).upd rfl _),(x9_0,x9_1),e9,s14,m15,q9_4,S⟩
  replace H:=if_t hc16 H
  refine zB ?_
  refine zd ?_
  refine zP ?_
  obtain ⟨hi17,H⟩ := xo H
  obtain ⟨r19,er19,H⟩ := zr H
  obtain ⟨s18,S⟩ := S.viewTermC 2 (zO hi17)
  replace S:St A N w u9 [oS zj 5 Term.C SlV.nil ([]:List Term),oS zj 5 Term.C s14 m15,oB b6 zj (Term.C (⟨x9_1.kind,x9_1.name,x9_1.other,x9_1.form,s14⟩ : Term)),oB b4 zj (Term.C (⟨0,ByteArray.empty,ByteArray.empty,0,SlV.nil⟩ : Term)),oB b2 zj (Term.C (⟨a0.kind,a0.name,a0.other,a0.form,s_0⟩ : Term))] [oCl s_0.blk (s_0.off + Int.toNat x9_0 * 5) (Term.C (⟨(at_ PTerm.z a0.sub x9_0).kind,(at_ PTerm.z a0.sub x9_0).name,(at_ PTerm.z a0.sub x9_0).other,(at_ PTerm.z a0.sub x9_0).form,s18⟩ : Term)),zn s18 ((at_ PTerm.z a0.sub x9_0).sub),bigA xh ([]:List Term) ([]:List PTerm),bigA xh m15 x9_1.sub,zn s_0 a0.sub]:=S
  replace S:St A N w u9 [oS zj 5 Term.C SlV.nil ([]:List Term),oS zj 5 Term.C s14 m15,oB b6 zj (Term.C (⟨x9_1.kind,x9_1.name,x9_1.other,x9_1.form,s14⟩ : Term)),oB b4 zj (Term.C (⟨0,ByteArray.empty,ByteArray.empty,0,SlV.nil⟩ : Term)),oB b2 zj (Term.C (⟨a0.kind,a0.name,a0.other,a0.form,s_0⟩ : Term))] [bigA xh ([]:List Term) ([]:List PTerm),bigA xh m15 x9_1.sub,zn s_0 a0.sub,oCl s_0.blk (s_0.off + Int.toNat x9_0 * 5) (Term.C (⟨(at_ PTerm.z a0.sub x9_0).kind,(at_ PTerm.z a0.sub x9_0).name,(at_ PTerm.z a0.sub x9_0).other,(at_ PTerm.z a0.sub x9_0).form,s18⟩ : Term)),zn s18 ((at_ PTerm.z a0.sub x9_0).sub)]:=S.zs [2,3,4,0,1]
  refine un 9 ⟨fun _ _=>True,fun _ _ _=>True,fun i v _=>match i with
   | 0=>v=Value.pointer (some ⟨b6,4,none⟩)
   | 1=>v=s14.v
   | 2=>v=Value.pointer (some ⟨b2,4,none⟩)
   | 3=>v=s_0.v
   | 4=>v=Value.int .i64 x9_0
   | 5=>v=Value.pointer (some ⟨s_0.blk,s_0.off + Int.toNat x9_0 * 5,none⟩)
   | 6=>v=Value.agg (Term.C (⟨(at_ PTerm.z a0.sub x9_0).kind,(at_ PTerm.z a0.sub x9_0).name,(at_ PTerm.z a0.sub x9_0).other,(at_ PTerm.z a0.sub x9_0).form,s18⟩ : Term)).toArray
   | _=>True⟩ (fun L g v=>bif L 8 then (∃ (s22:SlV) (s25:SlV),(L 7=true→g 21=Value.agg (Term.C (⟨r19.kind,r19.name,r19.other,r19.form,s22⟩ : Term)).toArray)∧(L 8=true→g 22=s25.v)∧St A N w v [oS zj 5 Term.C s25 ([(⟨r19.kind,r19.name,r19.other,r19.form,s22⟩ : Term)]),oS zj 5 Term.C SlV.nil ([]:List Term),oS zj 5 Term.C s14 m15,oB b6 zj (Term.C (⟨x9_1.kind,x9_1.name,x9_1.other,x9_1.form,s14⟩ : Term)),oB b4 zj (Term.C (⟨0,ByteArray.empty,ByteArray.empty,0,SlV.nil⟩ : Term)),oB b2 zj (Term.C (⟨a0.kind,a0.name,a0.other,a0.form,s_0⟩ : Term))] [zn s22 r19.sub,bigA xh ([]:List Term) ([]:List PTerm),bigA xh m15 x9_1.sub,zn s_0 a0.sub,oCl s_0.blk (s_0.off + Int.toNat x9_0 * 5) (Term.C (⟨(at_ PTerm.z a0.sub x9_0).kind,(at_ PTerm.z a0.sub x9_0).name,(at_ PTerm.z a0.sub x9_0).other,(at_ PTerm.z a0.sub x9_0).form,s18⟩ : Term)),zn s18 ((at_ PTerm.z a0.sub x9_0).sub)]) else bif L 7 then (∃ (s22:SlV),(L 7=true→g 21=Value.agg (Term.C (⟨r19.kind,r19.name,r19.other,r19.form,s22⟩ : Term)).toArray)∧St A N w v [oS zj 5 Term.C SlV.nil ([]:List Term),oS zj 5 Term.C s14 m15,oB b6 zj (Term.C (⟨x9_1.kind,x9_1.name,x9_1.other,x9_1.form,s14⟩ : Term)),oB b4 zj (Term.C (⟨0,ByteArray.empty,ByteArray.empty,0,SlV.nil⟩ : Term)),oB b2 zj (Term.C (⟨a0.kind,a0.name,a0.other,a0.form,s_0⟩ : Term))] [zn s22 r19.sub,bigA xh ([]:List Term) ([]:List PTerm),bigA xh m15 x9_1.sub,zn s_0 a0.sub,oCl s_0.blk (s_0.off + Int.toNat x9_0 * 5) (Term.C (⟨(at_ PTerm.z a0.sub x9_0).kind,(at_ PTerm.z a0.sub x9_0).name,(at_ PTerm.z a0.sub x9_0).other,(at_ PTerm.z a0.sub x9_0).form,s18⟩ : Term)),zn s18 ((at_ PTerm.z a0.sub x9_0).sub)]) else (St A N w v [oS zj 5 Term.C SlV.nil ([]:List Term),oS zj 5 Term.C s14 m15,oB b6 zj (Term.C (⟨x9_1.kind,x9_1.name,x9_1.other,x9_1.form,s14⟩ : Term)),oB b4 zj (Term.C (⟨0,ByteArray.empty,ByteArray.empty,0,SlV.nil⟩ : Term)),oB b2 zj (Term.C (⟨a0.kind,a0.name,a0.other,a0.form,s_0⟩ : Term))] [bigA xh ([]:List Term) ([]:List PTerm),bigA xh m15 x9_1.sub,zn s_0 a0.sub,oCl s_0.blk (s_0.off + Int.toNat x9_0 * 5) (Term.C (⟨(at_ PTerm.z a0.sub x9_0).kind,(at_ PTerm.z a0.sub x9_0).name,(at_ PTerm.z a0.sub x9_0).other,(at_ PTerm.z a0.sub x9_0).form,s18⟩ : Term)),zn s18 ((at_ PTerm.z a0.sub x9_0).sub)])) hmix zcd (fun _ _ _ _ _ _ _ hv=>hv) (fun g=>S.ext (Ext.drawn _)) ⟨?_,?_,?_,?_,?_,?_,?_,?_,?_,trivial⟩ ?_
  ·rintro L g v hL hcl hclo hT 
   cases hl8:L 8 with
   | true =>
    replace hT : ∃ (s22:SlV) (s25:SlV),(L 7=true→g 21=Value.agg (Term.C (⟨r19.kind,r19.name,r19.other,r19.form,s22⟩ : Term)).toArray)∧(L 8=true→g 22=s25.v)∧St A N w v [oS zj 5 Term.C s25 ([(⟨r19.kind,r19.name,r19.other,r19.form,s22⟩ : Term)]),oS zj 5 Term.C SlV.nil ([]:List Term),oS zj 5 Term.C s14 m15,oB b6 zj (Term.C (⟨x9_1.kind,x9_1.name,x9_1.other,x9_1.form,s14⟩ : Term)),oB b4 zj (Term.C (⟨0,ByteArray.empty,ByteArray.empty,0,SlV.nil⟩ : Term)),oB b2 zj (Term.C (⟨a0.kind,a0.name,a0.other,a0.form,s_0⟩ : Term))] [zn s22 r19.sub,bigA xh ([]:List Term) ([]:List PTerm),bigA xh m15 x9_1.sub,zn s_0 a0.sub,oCl s_0.blk (s_0.off + Int.toNat x9_0 * 5) (Term.C (⟨(at_ PTerm.z a0.sub x9_0).kind,(at_ PTerm.z a0.sub x9_0).name,(at_ PTerm.z a0.sub x9_0).other,(at_ PTerm.z a0.sub x9_0).form,s18⟩ : Term)),zn s18 ((at_ PTerm.z a0.sub x9_0).sub)]:=by simp only [hl8,cond_true,cond_false] at hT ⊢; exact hT
    obtain ⟨s22,s25,he7,he8,S⟩ := hT
    refine wd (ze xf rfl (o':=4) rfl) ?_
    have hT2 : ∃ (s22':SlV) (s25':SlV),((plus L 0) 7=true→(upd g 14 (Value.pointer (some ⟨b6,4,none⟩))) 21=Value.agg (Term.C (⟨r19.kind,r19.name,r19.other,r19.form,s22'⟩ : Term)).toArray)∧((plus L 0) 8=true→(upd g 14 (Value.pointer (some ⟨b6,4,none⟩))) 22=s25'.v)∧St A N w v [oS zj 5 Term.C s25' ([(⟨r19.kind,r19.name,r19.other,r19.form,s22'⟩ : Term)]),oS zj 5 Term.C SlV.nil ([]:List Term),oS zj 5 Term.C s14 m15,oB b6 zj (Term.C (⟨x9_1.kind,x9_1.name,x9_1.other,x9_1.form,s14⟩ : Term)),oB b4 zj (Term.C (⟨0,ByteArray.empty,ByteArray.empty,0,SlV.nil⟩ : Term)),oB b2 zj (Term.C (⟨a0.kind,a0.name,a0.other,a0.form,s_0⟩ : Term))] [zn s22' r19.sub,bigA xh ([]:List Term) ([]:List PTerm),bigA xh m15 x9_1.sub,zn s_0 a0.sub,oCl s_0.blk (s_0.off + Int.toNat x9_0 * 5) (Term.C (⟨(at_ PTerm.z a0.sub x9_0).kind,(at_ PTerm.z a0.sub x9_0).name,(at_ PTerm.z a0.sub x9_0).other,(at_ PTerm.z a0.sub x9_0).form,s18⟩ : Term)),zn s18 ((at_ PTerm.z a0.sub x9_0).sub)]:=⟨s22,s25,fun h=>by rw [zF _ _ _ _ zca]; exact he7 (by rw [zp rfl] at h; exact h),fun h=>by rw [zF _ _ _ _ zca]; exact he8 (by rw [zp rfl] at h; exact h),S⟩
    exact zb (ob4 trivial rfl (by simp only [zp (L:=L) (i:=0) (j:=7) rfl,zp (L:=L) (i:=0) (j:=8) rfl,hl8,cond_true,cond_false] at hT2 ⊢; exact hT2))
   | false =>
    cases hl7:L 7 with
    | true =>
     replace hT : ∃ (s22:SlV),(L 7=true→g 21=Value.agg (Term.C (⟨r19.kind,r19.name,r19.other,r19.form,s22⟩ : Term)).toArray)∧St A N w v [oS zj 5 Term.C SlV.nil ([]:List Term),oS zj 5 Term.C s14 m15,oB b6 zj (Term.C (⟨x9_1.kind,x9_1.name,x9_1.other,x9_1.form,s14⟩ : Term)),oB b4 zj (Term.C (⟨0,ByteArray.empty,ByteArray.empty,0,SlV.nil⟩ : Term)),oB b2 zj (Term.C (⟨a0.kind,a0.name,a0.other,a0.form,s_0⟩ : Term))] [zn s22 r19.sub,bigA xh ([]:List Term) ([]:List PTerm),bigA xh m15 x9_1.sub,zn s_0 a0.sub,oCl s_0.blk (s_0.off + Int.toNat x9_0 * 5) (Term.C (⟨(at_ PTerm.z a0.sub x9_0).kind,(at_ PTerm.z a0.sub x9_0).name,(at_ PTerm.z a0.sub x9_0).other,(at_ PTerm.z a0.sub x9_0).form,s18⟩ : Term)),zn s18 ((at_ PTerm.z a0.sub x9_0).sub)]:=by simp only [hl7,hl8,cond_true,cond_false] at hT ⊢; exact hT
     obtain ⟨s22,he7,S⟩ := hT
     refine wd (ze xf rfl (o':=4) rfl) ?_
     have hT2 : ∃ (s22':SlV),((plus L 0) 7=true→(upd g 14 (Value.pointer (some ⟨b6,4,none⟩))) 21=Value.agg (Term.C (⟨r19.kind,r19.name,r19.other,r19.form,s22'⟩ : Term)).toArray)∧St A N w v [oS zj 5 Term.C SlV.nil ([]:List Term),oS zj 5 Term.C s14 m15,oB b6 zj (Term.C (⟨x9_1.kind,x9_1.name,x9_1.other,x9_1.form,s14⟩ : Term)),oB b4 zj (Term.C (⟨0,ByteArray.empty,ByteArray.empty,0,SlV.nil⟩ : Term)),oB b2 zj (Term.C (⟨a0.kind,a0.name,a0.other,a0.form,s_0⟩ : Term))] [zn s22' r19.sub,bigA xh ([]:List Term) ([]:List PTerm),bigA xh m15 x9_1.sub,zn s_0 a0.sub,oCl s_0.blk (s_0.off + Int.toNat x9_0 * 5) (Term.C (⟨(at_ PTerm.z a0.sub x9_0).kind,(at_ PTerm.z a0.sub x9_0).name,(at_ PTerm.z a0.sub x9_0).other,(at_ PTerm.z a0.sub x9_0).form,s18⟩ : Term)),zn s18 ((at_ PTerm.z a0.sub x9_0).sub)]:=⟨s22,fun h=>by rw [zF _ _ _ _ zca]; exact he7 (by rw [zp rfl] at h; exact h),S⟩
     exact zb (ob4 trivial rfl (by simp only [zp (L:=L) (i:=0) (j:=7) rfl,zp (L:=L) (i:=0) (j:=8) rfl,hl7,hl8,cond_true,cond_false] at hT2 ⊢; exact hT2))
    | false =>
     simp only [hl7,hl8,cond_true,cond_false] at hT
     replace S:St A N w v [oS zj 5 Term.C SlV.nil ([]:List Term),oS zj 5 Term.C s14 m15,oB b6 zj (Term.C (⟨x9_1.kind,x9_1.name,x9_1.other,x9_1.form,s14⟩ : Term)),oB b4 zj (Term.C (⟨0,ByteArray.empty,ByteArray.empty,0,SlV.nil⟩ : Term)),oB b2 zj (Term.C (⟨a0.kind,a0.name,a0.other,a0.form,s_0⟩ : Term))] [bigA xh ([]:List Term) ([]:List PTerm),bigA xh m15 x9_1.sub,zn s_0 a0.sub,oCl s_0.blk (s_0.off + Int.toNat x9_0 * 5) (Term.C (⟨(at_ PTerm.z a0.sub x9_0).kind,(at_ PTerm.z a0.sub x9_0).name,(at_ PTerm.z a0.sub x9_0).other,(at_ PTerm.z a0.sub x9_0).form,s18⟩ : Term)),zn s18 ((at_ PTerm.z a0.sub x9_0).sub)]:=hT
     refine wd (ze xf rfl (o':=4) rfl) ?_
     exact zb (ob4 trivial rfl (by simp only [zp (L:=L) (i:=0) (j:=7) rfl,zp (L:=L) (i:=0) (j:=8) rfl,hl7,hl8,cond_true,cond_false]; exact S))
  ·rintro L g v hL hcl hclo hT hv0
   cases hl8:L 8 with
   | true =>
    replace hT : ∃ (s22:SlV) (s25:SlV),(L 7=true→g 21=Value.agg (Term.C (⟨r19.kind,r19.name,r19.other,r19.form,s22⟩ : Term)).toArray)∧(L 8=true→g 22=s25.v)∧St A N w v [oS zj 5 Term.C s25 ([(⟨r19.kind,r19.name,r19.other,r19.form,s22⟩ : Term)]),oS zj 5 Term.C SlV.nil ([]:List Term),oS zj 5 Term.C s14 m15,oB b6 zj (Term.C (⟨x9_1.kind,x9_1.name,x9_1.other,x9_1.form,s14⟩ : Term)),oB b4 zj (Term.C (⟨0,ByteArray.empty,ByteArray.empty,0,SlV.nil⟩ : Term)),oB b2 zj (Term.C (⟨a0.kind,a0.name,a0.other,a0.form,s_0⟩ : Term))] [zn s22 r19.sub,bigA xh ([]:List Term) ([]:List PTerm),bigA xh m15 x9_1.sub,zn s_0 a0.sub,oCl s_0.blk (s_0.off + Int.toNat x9_0 * 5) (Term.C (⟨(at_ PTerm.z a0.sub x9_0).kind,(at_ PTerm.z a0.sub x9_0).name,(at_ PTerm.z a0.sub x9_0).other,(at_ PTerm.z a0.sub x9_0).form,s18⟩ : Term)),zn s18 ((at_ PTerm.z a0.sub x9_0).sub)]:=by simp only [hl8,cond_true,cond_false] at hT ⊢; exact hT
    obtain ⟨s22,s25,he7,he8,S⟩ := hT
    refine wd (zl zY hv0 ((S.blk 3).cell (Term.get_sub _))) ?_
    have hT2 : ∃ (s22':SlV) (s25':SlV),((plus L 1) 7=true→(upd g 15 (s14.v)) 21=Value.agg (Term.C (⟨r19.kind,r19.name,r19.other,r19.form,s22'⟩ : Term)).toArray)∧((plus L 1) 8=true→(upd g 15 (s14.v)) 22=s25'.v)∧St A N w v [oS zj 5 Term.C s25' ([(⟨r19.kind,r19.name,r19.other,r19.form,s22'⟩ : Term)]),oS zj 5 Term.C SlV.nil ([]:List Term),oS zj 5 Term.C s14 m15,oB b6 zj (Term.C (⟨x9_1.kind,x9_1.name,x9_1.other,x9_1.form,s14⟩ : Term)),oB b4 zj (Term.C (⟨0,ByteArray.empty,ByteArray.empty,0,SlV.nil⟩ : Term)),oB b2 zj (Term.C (⟨a0.kind,a0.name,a0.other,a0.form,s_0⟩ : Term))] [zn s22' r19.sub,bigA xh ([]:List Term) ([]:List PTerm),bigA xh m15 x9_1.sub,zn s_0 a0.sub,oCl s_0.blk (s_0.off + Int.toNat x9_0 * 5) (Term.C (⟨(at_ PTerm.z a0.sub x9_0).kind,(at_ PTerm.z a0.sub x9_0).name,(at_ PTerm.z a0.sub x9_0).other,(at_ PTerm.z a0.sub x9_0).form,s18⟩ : Term)),zn s18 ((at_ PTerm.z a0.sub x9_0).sub)]:=⟨s22,s25,fun h=>by rw [zF _ _ _ _ zca]; exact he7 (by rw [zp rfl] at h; exact h),fun h=>by rw [zF _ _ _ _ zca]; exact he8 (by rw [zp rfl] at h; exact h),S⟩
    exact zb (ob4 trivial rfl (by simp only [zp (L:=L) (i:=1) (j:=7) rfl,zp (L:=L) (i:=1) (j:=8) rfl,hl8,cond_true,cond_false] at hT2 ⊢; exact hT2))
   | false =>
    cases hl7:L 7 with
    | true =>
     replace hT : ∃ (s22:SlV),(L 7=true→g 21=Value.agg (Term.C (⟨r19.kind,r19.name,r19.other,r19.form,s22⟩ : Term)).toArray)∧St A N w v [oS zj 5 Term.C SlV.nil ([]:List Term),oS zj 5 Term.C s14 m15,oB b6 zj (Term.C (⟨x9_1.kind,x9_1.name,x9_1.other,x9_1.form,s14⟩ : Term)),oB b4 zj (Term.C (⟨0,ByteArray.empty,ByteArray.empty,0,SlV.nil⟩ : Term)),oB b2 zj (Term.C (⟨a0.kind,a0.name,a0.other,a0.form,s_0⟩ : Term))] [zn s22 r19.sub,bigA xh ([]:List Term) ([]:List PTerm),bigA xh m15 x9_1.sub,zn s_0 a0.sub,oCl s_0.blk (s_0.off + Int.toNat x9_0 * 5) (Term.C (⟨(at_ PTerm.z a0.sub x9_0).kind,(at_ PTerm.z a0.sub x9_0).name,(at_ PTerm.z a0.sub x9_0).other,(at_ PTerm.z a0.sub x9_0).form,s18⟩ : Term)),zn s18 ((at_ PTerm.z a0.sub x9_0).sub)]:=by simp only [hl7,hl8,cond_true,cond_false] at hT ⊢; exact hT
     obtain ⟨s22,he7,S⟩ := hT
     refine wd (zl zY hv0 ((S.blk 2).cell (Term.get_sub _))) ?_
     have hT2 : ∃ (s22':SlV),((plus L 1) 7=true→(upd g 15 (s14.v)) 21=Value.agg (Term.C (⟨r19.kind,r19.name,r19.other,r19.form,s22'⟩ : Term)).toArray)∧St A N w v [oS zj 5 Term.C SlV.nil ([]:List Term),oS zj 5 Term.C s14 m15,oB b6 zj (Term.C (⟨x9_1.kind,x9_1.name,x9_1.other,x9_1.form,s14⟩ : Term)),oB b4 zj (Term.C (⟨0,ByteArray.empty,ByteArray.empty,0,SlV.nil⟩ : Term)),oB b2 zj (Term.C (⟨a0.kind,a0.name,a0.other,a0.form,s_0⟩ : Term))] [zn s22' r19.sub,bigA xh ([]:List Term) ([]:List PTerm),bigA xh m15 x9_1.sub,zn s_0 a0.sub,oCl s_0.blk (s_0.off + Int.toNat x9_0 * 5) (Term.C (⟨(at_ PTerm.z a0.sub x9_0).kind,(at_ PTerm.z a0.sub x9_0).name,(at_ PTerm.z a0.sub x9_0).other,(at_ PTerm.z a0.sub x9_0).form,s18⟩ : Term)),zn s18 ((at_ PTerm.z a0.sub x9_0).sub)]:=⟨s22,fun h=>by rw [zF _ _ _ _ zca]; exact he7 (by rw [zp rfl] at h; exact h),S⟩
     exact zb (ob4 trivial rfl (by simp only [zp (L:=L) (i:=1) (j:=7) rfl,zp (L:=L) (i:=1) (j:=8) rfl,hl7,hl8,cond_true,cond_false] at hT2 ⊢; exact hT2))
    | false =>
     simp only [hl7,hl8,cond_true,cond_false] at hT
     replace S:St A N w v [oS zj 5 Term.C SlV.nil ([]:List Term),oS zj 5 Term.C s14 m15,oB b6 zj (Term.C (⟨x9_1.kind,x9_1.name,x9_1.other,x9_1.form,s14⟩ : Term)),oB b4 zj (Term.C (⟨0,ByteArray.empty,ByteArray.empty,0,SlV.nil⟩ : Term)),oB b2 zj (Term.C (⟨a0.kind,a0.name,a0.other,a0.form,s_0⟩ : Term))] [bigA xh ([]:List Term) ([]:List PTerm),bigA xh m15 x9_1.sub,zn s_0 a0.sub,oCl s_0.blk (s_0.off + Int.toNat x9_0 * 5) (Term.C (⟨(at_ PTerm.z a0.sub x9_0).kind,(at_ PTerm.z a0.sub x9_0).name,(at_ PTerm.z a0.sub x9_0).other,(at_ PTerm.z a0.sub x9_0).form,s18⟩ : Term)),zn s18 ((at_ PTerm.z a0.sub x9_0).sub)]:=hT
     refine wd (zl zY hv0 ((S.blk 2).cell (Term.get_sub _))) ?_
     exact zb (ob4 trivial rfl (by simp only [zp (L:=L) (i:=1) (j:=7) rfl,zp (L:=L) (i:=1) (j:=8) rfl,hl7,hl8,cond_true,cond_false]; exact S))
  ·rintro L g v hL hcl hclo hT 
   have hl7:L 7=false:=by cases h:L 7 with | false=>rfl | true=>exact absurd (hclo 7 2 h zcd) (by rw [hL]; decide)
   have hl8:L 8=false:=by cases h:L 8 with | false=>rfl | true=>exact absurd (hclo 8 2 h zcd) (by rw [hL]; decide)
   simp only [hl7,hl8,cond_true,cond_false] at hT
   replace S:St A N w v [oS zj 5 Term.C SlV.nil ([]:List Term),oS zj 5 Term.C s14 m15,oB b6 zj (Term.C (⟨x9_1.kind,x9_1.name,x9_1.other,x9_1.form,s14⟩ : Term)),oB b4 zj (Term.C (⟨0,ByteArray.empty,ByteArray.empty,0,SlV.nil⟩ : Term)),oB b2 zj (Term.C (⟨a0.kind,a0.name,a0.other,a0.form,s_0⟩ : Term))] [bigA xh ([]:List Term) ([]:List PTerm),bigA xh m15 x9_1.sub,zn s_0 a0.sub,oCl s_0.blk (s_0.off + Int.toNat x9_0 * 5) (Term.C (⟨(at_ PTerm.z a0.sub x9_0).kind,(at_ PTerm.z a0.sub x9_0).name,(at_ PTerm.z a0.sub x9_0).other,(at_ PTerm.z a0.sub x9_0).form,s18⟩ : Term)),zn s18 ((at_ PTerm.z a0.sub x9_0).sub)]:=hT
   refine wd (ze xf rfl (o':=4) rfl) ?_
   exact zb (ob4 trivial rfl (by simp only [zp (L:=L) (i:=2) (j:=7) rfl,zp (L:=L) (i:=2) (j:=8) rfl,hl7,hl8,cond_true,cond_false]; exact S))
  ·rintro L g v hL hcl hclo hT hv2
   have hl7:L 7=false:=by cases h:L 7 with | false=>rfl | true=>exact absurd (hclo 7 3 h zcd) (by rw [hL]; decide)
   have hl8:L 8=false:=by cases h:L 8 with | false=>rfl | true=>exact absurd (hclo 8 3 h zcd) (by rw [hL]; decide)
   simp only [hl7,hl8,cond_true,cond_false] at hT
   replace S:St A N w v [oS zj 5 Term.C SlV.nil ([]:List Term),oS zj 5 Term.C s14 m15,oB b6 zj (Term.C (⟨x9_1.kind,x9_1.name,x9_1.other,x9_1.form,s14⟩ : Term)),oB b4 zj (Term.C (⟨0,ByteArray.empty,ByteArray.empty,0,SlV.nil⟩ : Term)),oB b2 zj (Term.C (⟨a0.kind,a0.name,a0.other,a0.form,s_0⟩ : Term))] [bigA xh ([]:List Term) ([]:List PTerm),bigA xh m15 x9_1.sub,zn s_0 a0.sub,oCl s_0.blk (s_0.off + Int.toNat x9_0 * 5) (Term.C (⟨(at_ PTerm.z a0.sub x9_0).kind,(at_ PTerm.z a0.sub x9_0).name,(at_ PTerm.z a0.sub x9_0).other,(at_ PTerm.z a0.sub x9_0).form,s18⟩ : Term)),zn s18 ((at_ PTerm.z a0.sub x9_0).sub)]:=hT
   refine wd (zl zY hv2 ((S.blk 4).cell (Term.get_sub _))) ?_
   exact zb (ob4 trivial rfl (by simp only [zp (L:=L) (i:=3) (j:=7) rfl,zp (L:=L) (i:=3) (j:=8) rfl,hl7,hl8,cond_true,cond_false]; exact S))
  ·rintro L g v hL hcl hclo hT 
   have hl7:L 7=false:=by cases h:L 7 with | false=>rfl | true=>exact absurd (hclo 7 4 h zcd) (by rw [hL]; decide)
   have hl8:L 8=false:=by cases h:L 8 with | false=>rfl | true=>exact absurd (hclo 8 4 h zcd) (by rw [hL]; decide)
   simp only [hl7,hl8,cond_true,cond_false] at hT
   replace S:St A N w v [oS zj 5 Term.C SlV.nil ([]:List Term),oS zj 5 Term.C s14 m15,oB b6 zj (Term.C (⟨x9_1.kind,x9_1.name,x9_1.other,x9_1.form,s14⟩ : Term)),oB b4 zj (Term.C (⟨0,ByteArray.empty,ByteArray.empty,0,SlV.nil⟩ : Term)),oB b2 zj (Term.C (⟨a0.kind,a0.name,a0.other,a0.form,s_0⟩ : Term))] [bigA xh ([]:List Term) ([]:List PTerm),bigA xh m15 x9_1.sub,zn s_0 a0.sub,oCl s_0.blk (s_0.off + Int.toNat x9_0 * 5) (Term.C (⟨(at_ PTerm.z a0.sub x9_0).kind,(at_ PTerm.z a0.sub x9_0).name,(at_ PTerm.z a0.sub x9_0).other,(at_ PTerm.z a0.sub x9_0).form,s18⟩ : Term)),zn s18 ((at_ PTerm.z a0.sub x9_0).sub)]:=hT
   refine wd (zg q9_4) ?_
   exact zb (ob4 trivial rfl (by simp only [zp (L:=L) (i:=4) (j:=7) rfl,zp (L:=L) (i:=4) (j:=8) rfl,hl7,hl8,cond_true,cond_false]; exact S))
  ·rintro L g v hL hcl hclo hT hv3 hv4
   have hl7:L 7=false:=by cases h:L 7 with | false=>rfl | true=>exact absurd (hclo 7 5 h zcd) (by rw [hL]; decide)
   have hl8:L 8=false:=by cases h:L 8 with | false=>rfl | true=>exact absurd (hclo 8 5 h zcd) (by rw [hL]; decide)
   simp only [hl7,hl8,cond_true,cond_false] at hT
   replace S:St A N w v [oS zj 5 Term.C SlV.nil ([]:List Term),oS zj 5 Term.C s14 m15,oB b6 zj (Term.C (⟨x9_1.kind,x9_1.name,x9_1.other,x9_1.form,s14⟩ : Term)),oB b4 zj (Term.C (⟨0,ByteArray.empty,ByteArray.empty,0,SlV.nil⟩ : Term)),oB b2 zj (Term.C (⟨a0.kind,a0.name,a0.other,a0.form,s_0⟩ : Term))] [bigA xh ([]:List Term) ([]:List PTerm),bigA xh m15 x9_1.sub,zn s_0 a0.sub,oCl s_0.blk (s_0.off + Int.toNat x9_0 * 5) (Term.C (⟨(at_ PTerm.z a0.sub x9_0).kind,(at_ PTerm.z a0.sub x9_0).name,(at_ PTerm.z a0.sub x9_0).other,(at_ PTerm.z a0.sub x9_0).form,s18⟩ : Term)),zn s18 ((at_ PTerm.z a0.sub x9_0).sub)]:=hT
   refine wd (does_indexF zN hv3 hv4 (S.onZ 2) (zO hi17).1 (zO hi17).2) ?_
   exact zb (ob4 trivial rfl (by simp only [zp (L:=L) (i:=5) (j:=7) rfl,zp (L:=L) (i:=5) (j:=8) rfl,hl7,hl8,cond_true,cond_false]; exact S))
  ·rintro L g v hL hcl hclo hT hv5
   have hl7:L 7=false:=by cases h:L 7 with | false=>rfl | true=>exact absurd (hclo 7 6 h zcd) (by rw [hL]; decide)
   have hl8:L 8=false:=by cases h:L 8 with | false=>rfl | true=>exact absurd (hclo 8 6 h zcd) (by rw [hL]; decide)
   simp only [hl7,hl8,cond_true,cond_false] at hT
   replace S:St A N w v [oS zj 5 Term.C SlV.nil ([]:List Term),oS zj 5 Term.C s14 m15,oB b6 zj (Term.C (⟨x9_1.kind,x9_1.name,x9_1.other,x9_1.form,s14⟩ : Term)),oB b4 zj (Term.C (⟨0,ByteArray.empty,ByteArray.empty,0,SlV.nil⟩ : Term)),oB b2 zj (Term.C (⟨a0.kind,a0.name,a0.other,a0.form,s_0⟩ : Term))] [bigA xh ([]:List Term) ([]:List PTerm),bigA xh m15 x9_1.sub,zn s_0 a0.sub,oCl s_0.blk (s_0.off + Int.toNat x9_0 * 5) (Term.C (⟨(at_ PTerm.z a0.sub x9_0).kind,(at_ PTerm.z a0.sub x9_0).name,(at_ PTerm.z a0.sub x9_0).other,(at_ PTerm.z a0.sub x9_0).form,s18⟩ : Term)),zn s18 ((at_ PTerm.z a0.sub x9_0).sub)]:=hT
   refine wd (zm zD hv5 (S.cl 3) (Term.len _)) ?_
   exact zb (ob4 trivial rfl (by simp only [zp (L:=L) (i:=6) (j:=7) rfl,zp (L:=L) (i:=6) (j:=8) rfl,hl7,hl8,cond_true,cond_false]; exact S))
  ·rintro L g v hL hcl hclo hT hv6
   have hl7:L 7=false:=hL
   have hl8:L 8=false:=by cases h:L 8 with | false=>rfl | true=>exact absurd (hclo 8 7 h zcd) (by rw [hL]; decide)
   simp only [hl7,hl8,cond_true,cond_false] at hT
   replace S:St A N w v [oS zj 5 Term.C SlV.nil ([]:List Term),oS zj 5 Term.C s14 m15,oB b6 zj (Term.C (⟨x9_1.kind,x9_1.name,x9_1.other,x9_1.form,s14⟩ : Term)),oB b4 zj (Term.C (⟨0,ByteArray.empty,ByteArray.empty,0,SlV.nil⟩ : Term)),oB b2 zj (Term.C (⟨a0.kind,a0.name,a0.other,a0.form,s_0⟩ : Term))] [bigA xh ([]:List Term) ([]:List PTerm),bigA xh m15 x9_1.sub,zn s_0 a0.sub,oCl s_0.blk (s_0.off + Int.toNat x9_0 * 5) (Term.C (⟨(at_ PTerm.z a0.sub x9_0).kind,(at_ PTerm.z a0.sub x9_0).name,(at_ PTerm.z a0.sub x9_0).other,(at_ PTerm.z a0.sub x9_0).form,s18⟩ : Term)),zn s18 ((at_ PTerm.z a0.sub x9_0).sub)]:=hT
   obtain ⟨B29,MB29,SB29,back⟩ := S.sub [4] [] [oS zj 5 Term.C SlV.nil ([]:List Term),oS zj 5 Term.C s14 m15,oB b6 zj (Term.C (⟨x9_1.kind,x9_1.name,x9_1.other,x9_1.form,s14⟩ : Term)),oB b4 zj (Term.C (⟨0,ByteArray.empty,ByteArray.empty,0,SlV.nil⟩ : Term)),oB b2 zj (Term.C (⟨a0.kind,a0.name,a0.other,a0.form,s_0⟩ : Term))]
   refine zu (zK ca_ref12_Copy (zM hv6 rfl)) zca (zdT (a0:=(at_ PTerm.z a0.sub x9_0)) SB29 er19) ?_
   rintro _ w28 ⟨s22,rfl,S2⟩
   replace S:St A N w w28 [oS zj 5 Term.C SlV.nil ([]:List Term),oS zj 5 Term.C s14 m15,oB b6 zj (Term.C (⟨x9_1.kind,x9_1.name,x9_1.other,x9_1.form,s14⟩ : Term)),oB b4 zj (Term.C (⟨0,ByteArray.empty,ByteArray.empty,0,SlV.nil⟩ : Term)),oB b2 zj (Term.C (⟨a0.kind,a0.name,a0.other,a0.form,s_0⟩ : Term))] [zn s22 r19.sub,bigA xh ([]:List Term) ([]:List PTerm),bigA xh m15 x9_1.sub,zn s_0 a0.sub,oCl s_0.blk (s_0.off + Int.toNat x9_0 * 5) (Term.C (⟨(at_ PTerm.z a0.sub x9_0).kind,(at_ PTerm.z a0.sub x9_0).name,(at_ PTerm.z a0.sub x9_0).other,(at_ PTerm.z a0.sub x9_0).form,s18⟩ : Term)),zn s18 ((at_ PTerm.z a0.sub x9_0).sub)]:=back _ _ _ _ _ S2 rfl rfl
   clear back S2 SB29
   have hT2 : ∃ (s22':SlV),((plus L 7) 7=true→(upd g 21 (Value.agg (Term.C (⟨r19.kind,r19.name,r19.other,r19.form,s22⟩ : Term)).toArray)) 21=Value.agg (Term.C (⟨r19.kind,r19.name,r19.other,r19.form,s22'⟩ : Term)).toArray)∧St A N w w28 [oS zj 5 Term.C SlV.nil ([]:List Term),oS zj 5 Term.C s14 m15,oB b6 zj (Term.C (⟨x9_1.kind,x9_1.name,x9_1.other,x9_1.form,s14⟩ : Term)),oB b4 zj (Term.C (⟨0,ByteArray.empty,ByteArray.empty,0,SlV.nil⟩ : Term)),oB b2 zj (Term.C (⟨a0.kind,a0.name,a0.other,a0.form,s_0⟩ : Term))] [zn s22' r19.sub,bigA xh ([]:List Term) ([]:List PTerm),bigA xh m15 x9_1.sub,zn s_0 a0.sub,oCl s_0.blk (s_0.off + Int.toNat x9_0 * 5) (Term.C (⟨(at_ PTerm.z a0.sub x9_0).kind,(at_ PTerm.z a0.sub x9_0).name,(at_ PTerm.z a0.sub x9_0).other,(at_ PTerm.z a0.sub x9_0).form,s18⟩ : Term)),zn s18 ((at_ PTerm.z a0.sub x9_0).sub)]:=⟨s22,fun _=>upd_same _ _ _,S⟩
   exact zb (ob4 trivial trivial (by simp only [zp (L:=L) (i:=7) (j:=8) rfl,y1 (L:=L) (i:=7),hl8,cond_true,cond_false] at hT2 ⊢; exact hT2))
  ·rintro L g v hL hcl hclo hT hv7
   have hl7:L 7=true:=hcl 7 zcd
   have hl8:L 8=false:=hL
   replace hT : ∃ (s22:SlV),(L 7=true→g 21=Value.agg (Term.C (⟨r19.kind,r19.name,r19.other,r19.form,s22⟩ : Term)).toArray)∧St A N w v [oS zj 5 Term.C SlV.nil ([]:List Term),oS zj 5 Term.C s14 m15,oB b6 zj (Term.C (⟨x9_1.kind,x9_1.name,x9_1.other,x9_1.form,s14⟩ : Term)),oB b4 zj (Term.C (⟨0,ByteArray.empty,ByteArray.empty,0,SlV.nil⟩ : Term)),oB b2 zj (Term.C (⟨a0.kind,a0.name,a0.other,a0.form,s_0⟩ : Term))] [zn s22 r19.sub,bigA xh ([]:List Term) ([]:List PTerm),bigA xh m15 x9_1.sub,zn s_0 a0.sub,oCl s_0.blk (s_0.off + Int.toNat x9_0 * 5) (Term.C (⟨(at_ PTerm.z a0.sub x9_0).kind,(at_ PTerm.z a0.sub x9_0).name,(at_ PTerm.z a0.sub x9_0).other,(at_ PTerm.z a0.sub x9_0).form,s18⟩ : Term)),zn s18 ((at_ PTerm.z a0.sub x9_0).sub)]:=by simp only [hl7,hl8,cond_true,cond_false] at hT ⊢; exact hT
   obtain ⟨s22,he7,S⟩ := hT
   refine xD (C:=Term.C) (l:=[(⟨r19.kind,r19.name,r19.other,r19.form,s22⟩ : Term)]) (vs:=[.agg (Term.C (⟨r19.kind,r19.name,r19.other,r19.form,s22⟩ : Term)).toArray]) zN vm.zero (yl (he7 (hcl 7 zcd)) rfl) rfl (fun a _=>Term.len a) zca rfl zca fun b31 w30 s25 hBw30 hw30=>?_
   replace S:St A N w w30 [oS zj 5 Term.C s25 ([(⟨r19.kind,r19.name,r19.other,r19.form,s22⟩ : Term)]),oS zj 5 Term.C SlV.nil ([]:List Term),oS zj 5 Term.C s14 m15,oB b6 zj (Term.C (⟨x9_1.kind,x9_1.name,x9_1.other,x9_1.form,s14⟩ : Term)),oB b4 zj (Term.C (⟨0,ByteArray.empty,ByteArray.empty,0,SlV.nil⟩ : Term)),oB b2 zj (Term.C (⟨a0.kind,a0.name,a0.other,a0.form,s_0⟩ : Term))] [zn s22 r19.sub,bigA xh ([]:List Term) ([]:List PTerm),bigA xh m15 x9_1.sub,zn s_0 a0.sub,oCl s_0.blk (s_0.off + Int.toNat x9_0 * 5) (Term.C (⟨(at_ PTerm.z a0.sub x9_0).kind,(at_ PTerm.z a0.sub x9_0).name,(at_ PTerm.z a0.sub x9_0).other,(at_ PTerm.z a0.sub x9_0).form,s18⟩ : Term)),zn s18 ((at_ PTerm.z a0.sub x9_0).sub)]:=S.lit hBw30 hw30 zcc
   have hT2 : ∃ (s22':SlV) (s25':SlV),((plus L 8) 7=true→(upd g 22 (s25.v)) 21=Value.agg (Term.C (⟨r19.kind,r19.name,r19.other,r19.form,s22'⟩ : Term)).toArray)∧((plus L 8) 8=true→(upd g 22 (s25.v)) 22=s25'.v)∧St A N w w30 [oS zj 5 Term.C s25' ([(⟨r19.kind,r19.name,r19.other,r19.form,s22'⟩ : Term)]),oS zj 5 Term.C SlV.nil ([]:List Term),oS zj 5 Term.C s14 m15,oB b6 zj (Term.C (⟨x9_1.kind,x9_1.name,x9_1.other,x9_1.form,s14⟩ : Term)),oB b4 zj (Term.C (⟨0,ByteArray.empty,ByteArray.empty,0,SlV.nil⟩ : Term)),oB b2 zj (Term.C (⟨a0.kind,a0.name,a0.other,a0.form,s_0⟩ : Term))] [zn s22' r19.sub,bigA xh ([]:List Term) ([]:List PTerm),bigA xh m15 x9_1.sub,zn s_0 a0.sub,oCl s_0.blk (s_0.off + Int.toNat x9_0 * 5) (Term.C (⟨(at_ PTerm.z a0.sub x9_0).kind,(at_ PTerm.z a0.sub x9_0).name,(at_ PTerm.z a0.sub x9_0).other,(at_ PTerm.z a0.sub x9_0).form,s18⟩ : Term)),zn s18 ((at_ PTerm.z a0.sub x9_0).sub)]:=⟨s22,s25,fun h=>by rw [zF _ _ _ _ zca]; exact he7 (by rw [zp rfl] at h; exact h),fun _=>upd_same _ _ _,S⟩
   exact zb (ob4 trivial trivial (by simp only [zp (L:=L) (i:=8) (j:=7) rfl,y1 (L:=L) (i:=8),cond_true,cond_false] at hT2 ⊢; exact hT2))
  rintro L g w33 hLm hT hv34_0 hv34_1 hv34_2 hv34_3 hv34_4 hv34_5 hv34_6 _ _
  have hLt : ∀ j,j < 9→L j=true:=fun j hj=>by rw [hLm]; exact decide_eq_true hj
  replace hT : ∃ (s22:SlV) (s25:SlV),(L 7=true→g 21=Value.agg (Term.C (⟨r19.kind,r19.name,r19.other,r19.form,s22⟩ : Term)).toArray)∧(L 8=true→g 22=s25.v)∧St A N w w33 [oS zj 5 Term.C s25 ([(⟨r19.kind,r19.name,r19.other,r19.form,s22⟩ : Term)]),oS zj 5 Term.C SlV.nil ([]:List Term),oS zj 5 Term.C s14 m15,oB b6 zj (Term.C (⟨x9_1.kind,x9_1.name,x9_1.other,x9_1.form,s14⟩ : Term)),oB b4 zj (Term.C (⟨0,ByteArray.empty,ByteArray.empty,0,SlV.nil⟩ : Term)),oB b2 zj (Term.C (⟨a0.kind,a0.name,a0.other,a0.form,s_0⟩ : Term))] [zn s22 r19.sub,bigA xh ([]:List Term) ([]:List PTerm),bigA xh m15 x9_1.sub,zn s_0 a0.sub,oCl s_0.blk (s_0.off + Int.toNat x9_0 * 5) (Term.C (⟨(at_ PTerm.z a0.sub x9_0).kind,(at_ PTerm.z a0.sub x9_0).name,(at_ PTerm.z a0.sub x9_0).other,(at_ PTerm.z a0.sub x9_0).form,s18⟩ : Term)),zn s18 ((at_ PTerm.z a0.sub x9_0).sub)]:=by simp only [hLt 8 zca,cond_true] at hT ⊢; exact hT
  obtain ⟨s22,s25,he7,he8,S⟩ := hT
  have hv34_7:=he7 (hLt 7 zca)
  have hv34_8:=he8 (hLt 8 zca)
  replace S:St A N w w33 [oS zj 5 Term.C s25 ([(⟨r19.kind,r19.name,r19.other,r19.form,s22⟩ : Term)]),oS zj 5 Term.C SlV.nil ([]:List Term),oS zj 5 Term.C s14 m15,oB b6 zj (Term.C (⟨x9_1.kind,x9_1.name,x9_1.other,x9_1.form,s14⟩ : Term)),oB b4 zj (Term.C (⟨0,ByteArray.empty,ByteArray.empty,0,SlV.nil⟩ : Term)),oB b2 zj (Term.C (⟨a0.kind,a0.name,a0.other,a0.form,s_0⟩ : Term))] [zn s22 r19.sub,bigA xh ([]:List Term) ([]:List PTerm),bigA xh m15 x9_1.sub,zn s_0 a0.sub,oCl s_0.blk (s_0.off + Int.toNat x9_0 * 5) (Term.C (⟨(at_ PTerm.z a0.sub x9_0).kind,(at_ PTerm.z a0.sub x9_0).name,(at_ PTerm.z a0.sub x9_0).other,(at_ PTerm.z a0.sub x9_0).form,s18⟩ : Term)),zn s18 ((at_ PTerm.z a0.sub x9_0).sub)]:=S
  obtain ⟨ha37,H⟩ := xo H
  have ha37:=of_decide_eq_true ha37
  have hmha37:((m15).length + ([(⟨r19.kind,r19.name,r19.other,r19.form,s22⟩ : Term)]).length) * 72 ≤ 140737488355328:=by rw [S.lenTm 2 (l:=x9_1.sub)]; exact ha37
  refine zbh (C:=Term.C) zN vm hv34_1 hv34_8 (S.sl 2) (S.rdO 0) zcc (fun a _=>Term.one a) hmha37 zcb zca fun s36 w35 O hw35 gw35=>?_
  replace S:St A N w w35 [oS zj 5 Term.C s36 (m15 ++ [(⟨r19.kind,r19.name,r19.other,r19.form,s22⟩ : Term)]),oS zj 5 Term.C s25 ([(⟨r19.kind,r19.name,r19.other,r19.form,s22⟩ : Term)]),oS zj 5 Term.C SlV.nil ([]:List Term),oB b6 zj (Term.C (⟨x9_1.kind,x9_1.name,x9_1.other,x9_1.form,s14⟩ : Term)),oB b4 zj (Term.C (⟨0,ByteArray.empty,ByteArray.empty,0,SlV.nil⟩ : Term)),oB b2 zj (Term.C (⟨a0.kind,a0.name,a0.other,a0.form,s_0⟩ : Term))] [zn s22 r19.sub,bigA xh ([]:List Term) ([]:List PTerm),bigA xh m15 x9_1.sub,zn s_0 a0.sub,oCl s_0.blk (s_0.off + Int.toNat x9_0 * 5) (Term.C (⟨(at_ PTerm.z a0.sub x9_0).kind,(at_ PTerm.z a0.sub x9_0).name,(at_ PTerm.z a0.sub x9_0).other,(at_ PTerm.z a0.sub x9_0).form,s18⟩ : Term)),zn s18 ((at_ PTerm.z a0.sub x9_0).sub)]:=S.push 2 O (by first | (simp; done) | (simp; omega)) hw35 gw35
  clear O
  replace S:St A N w w35 [oS zj 5 Term.C s36 (m15 ++ [(⟨r19.kind,r19.name,r19.other,r19.form,s22⟩ : Term)]),oS zj 5 Term.C s25 ([(⟨r19.kind,r19.name,r19.other,r19.form,s22⟩ : Term)]),oS zj 5 Term.C SlV.nil ([]:List Term),oB b6 zj (Term.C (⟨x9_1.kind,x9_1.name,x9_1.other,x9_1.form,s14⟩ : Term)),oB b4 zj (Term.C (⟨0,ByteArray.empty,ByteArray.empty,0,SlV.nil⟩ : Term)),oB b2 zj (Term.C (⟨a0.kind,a0.name,a0.other,a0.form,s_0⟩ : Term))] [bigA xh (m15 ++ [(⟨r19.kind,r19.name,r19.other,r19.form,s22⟩ : Term)]) (x9_1.sub ++ [r19]),zn s22 r19.sub,bigA xh ([]:List Term) ([]:List PTerm),bigA xh m15 x9_1.sub,zn s_0 a0.sub,oCl s_0.blk (s_0.off + Int.toNat x9_0 * 5) (Term.C (⟨(at_ PTerm.z a0.sub x9_0).kind,(at_ PTerm.z a0.sub x9_0).name,(at_ PTerm.z a0.sub x9_0).other,(at_ PTerm.z a0.sub x9_0).form,s18⟩ : Term)),zn s18 ((at_ PTerm.z a0.sub x9_0).sub)]:=S.snocTm (x:=r19) 2 0
  refine wd (ze xf rfl (o':=4) rfl) ?_
  refine yI zY rfl rfl (S.blk 3) (by rw [Term.len]; decide) (SlV.one _ _ rfl) (Term.set_sub _ _) fun w38 B hw38 zw38=>?_
  replace S:St A N w w38 [oB b6 zj (Term.C (⟨x9_1.kind,x9_1.name,x9_1.other,x9_1.form,s36⟩ : Term)),oS zj 5 Term.C s36 (m15 ++ [(⟨r19.kind,r19.name,r19.other,r19.form,s22⟩ : Term)]),oS zj 5 Term.C s25 ([(⟨r19.kind,r19.name,r19.other,r19.form,s22⟩ : Term)]),oS zj 5 Term.C SlV.nil ([]:List Term),oB b4 zj (Term.C (⟨0,ByteArray.empty,ByteArray.empty,0,SlV.nil⟩ : Term)),oB b2 zj (Term.C (⟨a0.kind,a0.name,a0.other,a0.form,s_0⟩ : Term))] [bigA xh (m15 ++ [(⟨r19.kind,r19.name,r19.other,r19.form,s22⟩ : Term)]) (x9_1.sub ++ [r19]),zn s22 r19.sub,bigA xh ([]:List Term) ([]:List PTerm),bigA xh m15 x9_1.sub,zn s_0 a0.sub,oCl s_0.blk (s_0.off + Int.toNat x9_0 * 5) (Term.C (⟨(at_ PTerm.z a0.sub x9_0).kind,(at_ PTerm.z a0.sub x9_0).name,(at_ PTerm.z a0.sub x9_0).other,(at_ PTerm.z a0.sub x9_0).form,s18⟩ : Term)),zn s18 ((at_ PTerm.z a0.sub x9_0).sub)]:=S.store 3 B hw38
  clear B
  refine zb ?_
  refine za ?_
  refine wd (zg q9_4) ?_
  refine wd (ki rfl rfl) ?_
  refine wd (zh rfl) ?_
  refine zb ?_
  replace S:St A N w w38 [oS zj 5 Term.C SlV.nil ([]:List Term),oS zj 5 Term.C s36 (m15 ++ [(⟨r19.kind,r19.name,r19.other,r19.form,s22⟩ : Term)]),oB b6 zj (Term.C (⟨x9_1.kind,x9_1.name,x9_1.other,x9_1.form,s36⟩ : Term)),oB b4 zj (Term.C (⟨0,ByteArray.empty,ByteArray.empty,0,SlV.nil⟩ : Term)),oB b2 zj (Term.C (⟨a0.kind,a0.name,a0.other,a0.form,s_0⟩ : Term))] [bigA xh ([]:List Term) ([]:List PTerm),bigA xh (m15 ++ [(⟨r19.kind,r19.name,r19.other,r19.form,s22⟩ : Term)]) (x9_1.sub ++ [r19]),zn s_0 a0.sub]:=S.arr [3,1,0,4,5] [2,0,4]
  obtain rfl:=zce H
  exact ⟨rfl,((((((((((((Dif.self _ _ _).upd rfl _).upd rfl _).upd rfl _).upd rfl _).upd rfl _).mask rfl _).upd rfl _).upd rfl _).upd rfl _).upd rfl _).upd rfl _),(m9,(IntKind.i64.wrap (x9_0 + 1),(⟨x9_1.kind,x9_1.name,x9_1.other,x9_1.form,x9_1.sub ++ [r19]⟩ : PTerm))),⟨e9,s36,m15 ++ [(⟨r19.kind,r19.name,r19.other,r19.form,s22⟩ : Term)],rfl,S⟩,by dsimp only; omega⟩
 rintro g39 u40 ⟨s9,rfl,s10,m11,p9_4,S⟩
 have H:=Ho9
 dsimp only [aft] at H
 refine zd (za ?_)
 replace S:St A N w u40 [oS zj 5 Term.C SlV.nil ([]:List Term),oB b6 zj (Term.C (⟨s9.2.kind,s9.2.name,s9.2.other,s9.2.form,s10⟩ : Term)),oB b4 zj (Term.C (⟨0,ByteArray.empty,ByteArray.empty,0,SlV.nil⟩ : Term)),oB b2 zj (Term.C (⟨a0.kind,a0.name,a0.other,a0.form,s_0⟩ : Term))] [zn s10 s9.2.sub,bigA xh ([]:List Term) ([]:List PTerm),bigA xh m11 s9.2.sub,zn s_0 a0.sub]:=S.frzTm 1 1
 refine wd (zm zD rfl ((S.blk 1).all _ (Term.len _)) (Term.len _)) ?_
 refine zI zD rfl rfl (S.blk 2) (Term.len _) (by rw [Term.len]; decide) (Term.one _) (zT (Term.len _)) fun w41 B hw41 zw41=>?_
 replace S:St A N w w41 [oB b4 zj (Term.C (⟨s9.2.kind,s9.2.name,s9.2.other,s9.2.form,s10⟩ : Term)),oS zj 5 Term.C SlV.nil ([]:List Term),oB b6 zj (Term.C (⟨s9.2.kind,s9.2.name,s9.2.other,s9.2.form,s10⟩ : Term)),oB b2 zj (Term.C (⟨a0.kind,a0.name,a0.other,a0.form,s_0⟩ : Term))] [zn s10 s9.2.sub,bigA xh ([]:List Term) ([]:List PTerm),bigA xh m11 s9.2.sub,zn s_0 a0.sub]:=S.store 2 B hw41
 clear B
 refine zb ?_
 refine zx ?_
 refine ⟨_,(zS (xI zD rfl ((S.blk 0).all _ (Term.len _)) (Term.len _))),?_⟩
 replace S:St A N w w41 [] [zn s10 s9.2.sub]:=S.arr [] [0]
 obtain rfl:=zce H
 exact ⟨s10,rfl,S⟩
variable {A:Nat→Prop} {N:Oth} {w:World}
theorem ref12_Copy_st {a0:PTerm} {s_0:SlV} (S:St A N w w [] [zn s_0 a0.sub]) {k:Nat} {r:PTerm} (H:zdO.f k a0=some r) :
  Calls PP j7 #[.agg (Term.C (⟨a0.kind,a0.name,a0.other,a0.form,s_0⟩ : Term)).toArray] w fun e w' => ∃ v,e = .returned v∧(∃ so0:SlV,v = .agg (Term.C (⟨r.kind,r.name,r.other,r.form,so0⟩ : Term)).toArray∧St A N w w' [] [zn so0 r.sub]):=by
 have main : ∀ (k:Nat) {A:Nat→Prop} {N:Oth} {w:World} {a0:PTerm} {s_0:SlV} (S:St A N w w [] [zn s_0 a0.sub]) {r:PTerm} (H:zdO.f k a0=some r),Calls PP j7 #[.agg (Term.C (⟨a0.kind,a0.name,a0.other,a0.form,s_0⟩ : Term)).toArray] w fun e w' => ∃ v,e = .returned v∧(∃ so0:SlV,v = .agg (Term.C (⟨r.kind,r.name,r.other,r.form,so0⟩ : Term)).toArray∧St A N w w' [] [zn so0 r.sub]):=by
  intro k
  induction k with
  | zero=>intro A N w a0 s_0 S r H; cases H
  | succ k ih=>intro A N w a0 s_0 S r H; exact ref12_Copy_gst ih S H
 exact main k S H
theorem law16_told_st {a0:Tb} {a_0:Option Addr} {a1:List Int} {s_1:SlV} {a2:List Ln} {s_2:SlV} {a3:Int} (S:St A N w w [oT a_0 a0] [fS 1 IC s_1 a1,fS 4 Ln.C s_2 a2,oEt,oPw]) {k:Nat} {r:Tb × Bool} (H:zdP.f k a0 a1 a2 a3=some r) :
  Calls PP F_law16_told #[.pointer a_0,s_1.v,s_2.v,.int .i64 a3] w fun e w' => ∃ v,e = .returned v∧(v = .bool r.2∧St A N w w' [oT a_0 r.1] []):=by
 unfold zdP.f at H
 refine zz (n:=72) fn_law16_told rfl rfl zcc ?_
 refine zd (za ?_)
 refine wd (zo rfl) ?_
 refine zb ?_
 refine zd (za ?_)
 refine wd (zk rfl) ?_
 refine wd (zA rfl) ?_
 refine wd (zA rfl) ?_
 obtain ⟨r1,er1,H⟩ := zr H
 obtain ⟨B3,MB3,SB3,back⟩ := S.calln 1 ((.z 0 rfl (.z 1 rfl .nil)))
 refine zu (zq zbQ) zca (zbU SB3 er1) ?_
 rintro _ w2 ⟨rfl,S2⟩
 replace S:St A N w w2 [oT a_0 r1.1] [fS 1 IC s_1 a1,fS 4 Ln.C s_2 a2,oEt,oPw]:=back _ _ _ _ S2 rfl
 clear back S2 SB3
 refine wd (zV rfl) ?_
 refine wd (zt rfl rfl) ?_
 refine wd (zt rfl rfl) ?_
 refine wd (zh rfl) ?_
 refine wd (zh rfl) ?_
 refine zb ?_
 refine zd (zd (za ?_))
 refine wd (zg rfl) ?_
 obtain ⟨r4,er4,H⟩ := zr H
 obtain ⟨B6,MB6,SB6,back⟩ := S.calln 0 ((.nil))
 refine zu (zq yX) zca (y0 SB6 er4) ?_
 rintro _ w5 ⟨rfl,S2⟩
 replace S:St A N w w5 [oT a_0 r1.1] [fS 1 IC s_1 a1,fS 4 Ln.C s_2 a2,oEt,oPw]:=back _ _ _ _ S2 rfl
 clear back S2 SB6
 refine wd (xm rfl rfl) ?_
 refine wd (zL rfl) ?_
 refine zH (j:=3) (pol:=false) rfl rfl rfl zca (fun hg=>zg rfl) zca ?_
 refine zH (j:=3) (pol:=false) rfl rfl rfl zca (fun hg=>zg rfl) zca ?_
 refine zH (j:=3) (pol:=false) rfl rfl rfl zca (fun hg=>xm (zw hg) (zw hg)) zca ?_
 refine wd (xO rfl (fun hp=>(zw (xE hp)))) ?_
 refine zb ?_
 refine zG rfl (fun hc7=>?_) (fun hc7=>?_)
 ·replace H:=if_t hc7 H
  refine zd (za ?_)
  refine wd (zo rfl) ?_
  refine zb ?_
  refine zx ?_
  refine ⟨_,(zS (zf rfl)),?_⟩
  replace S:St A N w w5 [oT a_0 r1.1] []:=S.arr [0] []
  obtain rfl:=zce H
  exact ⟨rfl,S⟩
 replace H:=if_f hc7 H
 refine zB ?_
 refine zd (za ?_)
 refine wd (zk rfl) ?_
 refine wd (zA rfl) ?_
 refine wd (zA rfl) ?_
 obtain ⟨r8,er8,H⟩ := zr H
 obtain ⟨B10,MB10,SB10,back⟩ := S.sub [0,1,3] [oT a_0 r1.1] []
 refine zu (zq ca_hilbert_Term) zca (hilbert_Term_st SB10 er8) ?_
 rintro _ w9 ⟨s11,rfl,S2⟩
 replace S:St A N w w9 [oT a_0 r8.1] [zn s11 r8.2.1.sub,fS 1 IC s_1 a1,fS 4 Ln.C s_2 a2,oEt,oPw]:=back _ _ _ _ _ S2 rfl rfl
 clear back S2 SB10
 refine wd (zV rfl) ?_
 refine wd (zt rfl rfl) ?_
 refine wd (zt rfl rfl) ?_
 refine xd ue zca fun b13 w12 hw12=>?_
 replace S:St A N w w12 [oB b13 zj (Term.C (⟨0,ByteArray.empty,ByteArray.empty,0,SlV.nil⟩ : Term)),oT a_0 r8.1] [zn s11 r8.2.1.sub,fS 1 IC s_1 a1,fS 4 Ln.C s_2 a2,oEt,oPw]:=S.new hw12
 refine zI zD rfl rfl (S.blk 0) (Term.len _) (by rw [Term.len]; decide) (Term.one _) (zT (Term.len _)) fun w14 B hw14 zw14=>?_
 replace S:St A N w w14 [oB b13 zj (Term.C (⟨r8.2.1.kind,r8.2.1.name,r8.2.1.other,r8.2.1.form,s11⟩ : Term)),oT a_0 r8.1] [zn s11 r8.2.1.sub,fS 1 IC s_1 a1,fS 4 Ln.C s_2 a2,oEt,oPw]:=S.store 0 B hw14
 clear B
 refine wd (zh rfl) ?_
 refine zb ?_
 refine zd (zd (za ?_))
 refine wd (zg rfl) ?_
 obtain ⟨r15,er15,H⟩ := zr H
 obtain ⟨B17,MB17,SB17,back⟩ := S.calln 0 ((.nil))
 refine zu (zq yX) zca (y0 SB17 er15) ?_
 rintro _ w16 ⟨rfl,S2⟩
 replace S:St A N w w16 [oB b13 zj (Term.C (⟨r8.2.1.kind,r8.2.1.name,r8.2.1.other,r8.2.1.form,s11⟩ : Term)),oT a_0 r8.1] [zn s11 r8.2.1.sub,fS 1 IC s_1 a1,fS 4 Ln.C s_2 a2,oEt,oPw]:=back _ _ _ _ S2 rfl
 clear back S2 SB17
 refine wd (zU rfl rfl) ?_
 refine zb ?_
 refine zG rfl (fun hc18=>?_) (fun hc18=>?_)
 ·replace H:=if_t hc18 H
  refine zd (za ?_)
  refine wd (zo rfl) ?_
  refine zb ?_
  refine zx ?_
  refine ⟨_,(zS (zf rfl)),?_⟩
  replace S:St A N w w16 [oT a_0 r8.1] []:=S.arr [1] []
  obtain rfl:=zce H
  exact ⟨rfl,S⟩
 replace H:=if_f hc18 H
 refine zB ?_
 refine zd (za ?_)
 refine wd (xw) ?_
 refine zb ?_
 refine zd (zd (za ?_))
 refine wd (zh rfl) ?_
 refine zb ?_
 replace S:St A N w w16 [oS xN 2 Hyp.C SlV.nil ([]:List Hyp),oB b13 zj (Term.C (⟨r8.2.1.kind,r8.2.1.name,r8.2.1.other,r8.2.1.form,s11⟩ : Term)),oT a_0 r8.1] [zn s11 r8.2.1.sub,fS 1 IC s_1 a1,fS 4 Ln.C s_2 a2,oEt,oPw]:=S.nil xN 2 Hyp.C
 obtain ⟨o19,e19,Ho19⟩ := zr H
 clear H
 refine x6 [13,14,40,41,42,43,44,45,46,47,48,49,50,51,52,53,54,55,56,57,58,59] (fun fr W => ∃ s20:SlV,fr 13=s20.v∧St A N w W [oS xN 2 Hyp.C s20 o19,oB b13 zj (Term.C (⟨r8.2.1.kind,r8.2.1.name,r8.2.1.other,r8.2.1.form,s11⟩ : Term)),oT a_0 r8.1] [zn s11 r8.2.1.sub,fS 1 IC s_1 a1,fS 4 Ln.C s_2 a2,oEt,oPw]) ?_ ?_
 ·refine zP ?_
  refine xY (α:=Nat × Int × (List Hyp)) [13,14,40,41,42,43,44,45,46,47,48,49,50,51,52,53,54,55,56,57,58,59] (fun x fr W=>(x.1:Int)=(a1.length:Int) - x.2.1∧0 ≤ x.2.1∧forS (fun i s=>zdP.b0 k a1 i s) x.1 x.2.1 x.2.2=some o19 ∧ ∃ s21:SlV,fr 14 = .int .i64 x.2.1∧fr 13=s21.v∧St A N w W [oS xN 2 Hyp.C s21 (x.2.2),oB b13 zj (Term.C (⟨r8.2.1.kind,r8.2.1.name,r8.2.1.other,r8.2.1.form,s11⟩ : Term)),oT a_0 r8.1] [zn s11 r8.2.1.sub,fS 1 IC s_1 a1,fS 4 Ln.C s_2 a2,oEt,oPw]) (fun x=>x.1) (((a1.length:Int) - 0).toNat,0,([]:List Hyp)) ⟨(by dsimp only; have hle:=Int.natCast_nonneg (a1.length); omega),(Int.le_refl _),(by dsimp only; exact e19),SlV.nil,rfl,rfl,S⟩ ?_
  rintro ⟨m19,i19,x19_0⟩ g19 u19 ⟨hm19,hl19,e19,s22,q19_i,q19_13,S⟩
  try dsimp only at hm19
  try dsimp only at hl19
  try dsimp only at e19
  try dsimp only at S
  try dsimp only at q19_i
  try dsimp only at q19_13
  refine zd (zd (za ?_))
  refine wd (zg q19_i) ?_
  refine wd (zA rfl) ?_
  refine wd (xg xG rfl (S.rd 1)) ?_
  refine wd (xQ rfl rfl) ?_
  refine zb ?_
  refine zG rfl (fun hc23=>?_) (fun hc23=>?_)
  rotate_left
  ·refine yn ?_
   have hge:(a1.length:Int) ≤ i19:=Int.not_lt.1 (of_decide_eq_false hc23)
   obtain rfl:m19=0:=by omega
   replace e19:=forS_0 e19
   obtain rfl:=e19
   exact ⟨rfl,(((((Dif.self _ _ _).upd rfl _).upd rfl _).upd rfl _).upd rfl _),s22,q19_13,S⟩
  refine zB ?_
  have hlt19:i19 < (a1.length:Int):=of_decide_eq_true hc23
  obtain ⟨m19,rfl⟩ : ∃ m,m19=m + 1:=⟨m19 - 1,by omega⟩
  obtain ⟨q19,H,e19⟩ := forS_s e19
  unfold zdP.b0 at H
  try dsimp only at H
  have hb19:=(S.len 1)
  refine zd ?_
  refine zP ?_
  obtain ⟨r25,er25,H⟩ := zr H
  obtain ⟨hs26,H⟩ := xo H
  refine zbz 13 [12]
   (fun i v u=>match i with
   | 12 => ∃ sl,v=SlV.v sl∧Rd u 2 sl ([(⟨(⟨#[104]⟩ : ByteArray) ++ r25,at_ (0:Int) a1 i19⟩ : Hyp)].map Hyp.C)∧(∀ j,sl.fp j→u19.heap.size ≤ j)
   | _=>True) hmix zcd zcd ?_ ?_
  ·intro i v u u' hi hx hv
   match i,hv with
   | 12,⟨b,e1,hr,hl⟩ => exact ⟨b,e1,hr.ext hx,hl⟩
   | 0,_=>exact trivial
   | 1,_=>exact trivial
   | 2,_=>exact trivial
   | 3,_=>exact trivial
   | 4,_=>exact trivial
   | 5,_=>exact trivial
   | 6,_=>exact trivial
   | 7,_=>exact trivial
   | 8,_=>exact trivial
   | 9,_=>exact trivial
   | 10,_=>exact trivial
   | 11,_=>exact trivial
   | _ + 13,_=>exact trivial
  refine zQ (fun v K=>zA q19_13) rfl ?_
  refine zQ (fun v K=>zA rfl) rfl ?_
  refine zQ (fun v K=>zg q19_i) rfl ?_
  refine zQ (fun v K=>xa xG rfl rfl ((S.ext K).rd 1) (And.intro (show 0 ≤ i19 by omega) (show i19 < (a1.length:Int) from hlt19)).1 (And.intro (show 0 ≤ i19 by omega) (show i19 < (a1.length:Int) from hlt19)).2) rfl ?_
  refine zQ (fun v K=>zl zR rfl (((S.ext K).rd 1).one (ym (0:Int) (And.intro (show 0 ≤ i19 by omega) (show i19 < (a1.length:Int) from hlt19))) rfl)) rfl ?_
  refine wm_call (fun v=>zq ca_ref01_Dec) (fun v K=>(have ⟨M,SS⟩ := (S.ext K).lend ((.nil)); quiet (ref01_Dec_st SS er25) (fun v w' h=>⟨h.1,_,_,h.2⟩))) rfl ?_
  refine zQ (fun v K=>zal rfl rfl (of_decide_eq_true hs26)) rfl ?_
  refine zQ (fun v K=>zA rfl) rfl ?_
  refine zQ (fun v K=>zg q19_i) rfl ?_
  refine zQ (fun v K=>xa xG rfl rfl ((S.ext K).rd 1) (And.intro (show 0 ≤ i19 by omega) (show i19 < (a1.length:Int) from hlt19)).1 (And.intro (show 0 ≤ i19 by omega) (show i19 < (a1.length:Int) from hlt19)).2) rfl ?_
  refine zQ (fun v K=>zl zR rfl (((S.ext K).rd 1).one (ym (0:Int) (And.intro (show 0 ≤ i19 by omega) (show i19 < (a1.length:Int) from hlt19))) rfl)) rfl ?_
  refine zQ (fun v K=>yi bu_Hyp (Bld.one rfl rfl (by rw [Hyp.len]; decide) (Hyp.set_name _ _) (Bld.one rfl rfl (by rw [Hyp.len]; decide) (Hyp.set_form _ _) Bld.nil))) rfl ?_
  refine wm_new (fun g v K G=>(have ⟨sl,v',hd,hx,ho,hf⟩ := does_lits (C:=Hyp.C) (l:=[(⟨(⟨#[104]⟩ : ByteArray) ++ r25,at_ (0:Int) a1 i19⟩ : Hyp)]) (vs:=[.agg (Hyp.C (⟨(⟨#[104]⟩ : ByteArray) ++ r25,at_ (0:Int) a1 i19⟩ : Hyp)).toArray]) yk el_Hyp.zero rfl rfl (fun a _=>Hyp.len a) (by first | decide | simp) rfl; ⟨_,v',hd,hx,sl,rfl,ho.toRd,(fun j hj=>by have:=hf j hj; have:=K.size; omega)⟩)) rfl ?_
  refine jx fun g w29 K hV=>?_
  obtain ⟨s28,hv3012,hr12,hf12⟩ := hV 12 rfl zca
  replace S:St A N w w29 [oS xN 2 Hyp.C s22 x19_0,oB b13 zj (Term.C (⟨r8.2.1.kind,r8.2.1.name,r8.2.1.other,r8.2.1.form,s11⟩ : Term)),oT a_0 r8.1] [fS 2 Hyp.C s28 ([(⟨(⟨#[104]⟩ : ByteArray) ++ r25,at_ (0:Int) a1 i19⟩ : Hyp)]),zn s11 r8.2.1.sub,fS 1 IC s_1 a1,fS 4 Ln.C s_2 a2,oEt,oPw]:=S.addZs K (.s hr12 zcc hf12 .nil)
  clear K hV
  obtain ⟨ha33,H⟩ := xo H
  have ha33:=of_decide_eq_true ha33
  refine zbh (C:=Hyp.C) yk el_Hyp rfl hv3012 (S.sl 0) (S.rd 0) zcc (fun a _=>Hyp.one a) ha33 zcb zca fun s32 w31 O hw31 gw31=>?_
  replace S:St A N w w31 [oS xN 2 Hyp.C s32 (x19_0 ++ [(⟨(⟨#[104]⟩ : ByteArray) ++ r25,at_ (0:Int) a1 i19⟩ : Hyp)]),oB b13 zj (Term.C (⟨r8.2.1.kind,r8.2.1.name,r8.2.1.other,r8.2.1.form,s11⟩ : Term)),oT a_0 r8.1] [fS 2 Hyp.C s28 ([(⟨(⟨#[104]⟩ : ByteArray) ++ r25,at_ (0:Int) a1 i19⟩ : Hyp)]),zn s11 r8.2.1.sub,fS 1 IC s_1 a1,fS 4 Ln.C s_2 a2,oEt,oPw]:=S.push 0 O (by first | (simp; done) | (simp; omega)) hw31 gw31
  clear O
  refine wd (xP rfl) ?_
  refine zb ?_
  refine za ?_
  refine wd (zg q19_i) ?_
  refine wd (xK rfl rfl (c:=i19 + 1) rfl zcb zcb) ?_
  refine wd (zh rfl) ?_
  refine zb ?_
  replace S:St A N w w31 [oS xN 2 Hyp.C s32 (x19_0 ++ [(⟨(⟨#[104]⟩ : ByteArray) ++ r25,at_ (0:Int) a1 i19⟩ : Hyp)]),oB b13 zj (Term.C (⟨r8.2.1.kind,r8.2.1.name,r8.2.1.other,r8.2.1.form,s11⟩ : Term)),oT a_0 r8.1] [zn s11 r8.2.1.sub,fS 1 IC s_1 a1,fS 4 Ln.C s_2 a2,oEt,oPw]:=S.arr [0,1,2] [1,2,3,4,5]
  obtain rfl:=zce H
  exact ⟨rfl,(((((((((((((((((((((((Dif.self _ _ _).upd rfl _).upd rfl _).upd rfl _).upd rfl _).upd rfl _).upd rfl _).upd rfl _).upd rfl _).upd rfl _).upd rfl _).upd rfl _).upd rfl _).upd rfl _).upd rfl _).upd rfl _).upd rfl _).mask rfl _).upd rfl _).upd rfl _).upd rfl _).upd rfl _).upd rfl _),(m19,i19 + 1,x19_0 ++ [(⟨(⟨#[104]⟩ : ByteArray) ++ r25,at_ (0:Int) a1 i19⟩ : Hyp)]),⟨(by dsimp only; omega),(by dsimp only; omega),e19,s32,rfl,rfl,S⟩,by dsimp only; omega⟩
 rintro g34 u35 ⟨s20,p19_13,S⟩
 have H:=Ho19
 refine zd (za ?_)
 refine wd (zg rfl) ?_
 obtain ⟨r36,er36,H⟩ := zr H
 obtain ⟨B38,MB38,SB38,back⟩ := S.calln 0 ((.nil))
 refine zu (zq yX) zca (y0 SB38 er36) ?_
 rintro _ w37 ⟨rfl,S2⟩
 replace S:St A N w w37 [oS xN 2 Hyp.C s20 o19,oB b13 zj (Term.C (⟨r8.2.1.kind,r8.2.1.name,r8.2.1.other,r8.2.1.form,s11⟩ : Term)),oT a_0 r8.1] [zn s11 r8.2.1.sub,fS 1 IC s_1 a1,fS 4 Ln.C s_2 a2,oEt,oPw]:=back _ _ _ _ S2 rfl
 clear back S2 SB38
 refine wd (zU rfl rfl) ?_
 refine wd (zL rfl) ?_
 refine zH (j:=3) (pol:=true) rfl rfl rfl zca (fun hg=>zk rfl) zca ?_
 refine zH (j:=3) (pol:=true) rfl rfl rfl zca (fun hg=>zA p19_13) zca ?_
 refine zH (j:=3) (pol:=true) rfl rfl rfl zca (fun hg=>zm zD rfl ((S.blk 1).all _ (Term.len _)) (Term.len _)) zca ?_
 refine zH (j:=3) (pol:=true) rfl rfl rfl zca (fun hg=>zg rfl) zca ?_
 obtain ⟨r39,er39,H⟩ := zr H
 refine yh (j:=3) (pol:=true) rfl rfl rfl zca (fun hg=>zK ca_types_Check (zM (zw hg) (zM (zw hg) (zM (zw hg) (zM (zw hg) rfl))))) zca (fun hg=>(have ⟨M,SS⟩ := S.lend ((.o 2 rfl (.s 0 rfl (.z 0 rfl (.z 3 rfl .nil))))); quiet (types_Check_st (a2:=r8.2.1) SS (if_t (by simpa using hg) er39)) (fun v w' h=>⟨h.1,_,_,h.2⟩))) fun w40 hw40=>?_
 replace S:=S.ext hw40
 obtain ⟨r41,er41,H⟩ := zr H
 refine yh (j:=3) (pol:=true) rfl rfl rfl zca (fun hg=>zK yX (zM (zw hg) rfl)) zca (fun hg=>(have ⟨M,SS⟩ := S.lend ((.nil)); quiet (y0 SS (if_t (by simpa using hg) er41)) (fun v w' h=>⟨h.1,_,_,h.2⟩))) fun w42 hw42=>?_
 replace S:=S.ext hw42
 refine zH (j:=3) (pol:=true) rfl rfl rfl zca (fun hg=>zU (zw hg) rfl) zca ?_
 refine wd (xt rfl (fun hp=>(zw (xE hp)))) ?_
 refine wd (zo rfl) ?_
 refine zb ?_
 refine zx ?_
 refine ⟨_,(zS (zf rfl)),?_⟩
 replace S:St A N w w42 [oT a_0 r8.1] []:=S.arr [2] []
 obtain rfl:=zce H
 exact ⟨rfl,S⟩
theorem law16_HilbertHoward_st {a0:List Nd} {s_0:SlV} {a1:List Hyp} {s_1:SlV} {a2:PTerm} {s_2:SlV} {a3:Int} (S:St A N w w [] [fS 4 Nd.C s_0 a0,fS 2 Hyp.C s_1 a1,zn s_2 a2.sub,oEt,oPw]) {k:Nat} {r:Bool} (H:zdQ.f k a0 a1 a2 a3=some r) :
  Calls PP yu #[s_0.v,s_1.v,.agg (Term.C (⟨a2.kind,a2.name,a2.other,a2.form,s_2⟩ : Term)).toArray,.int .i64 a3] w fun e w' => ∃ v,e = .returned v∧(v = .bool r∧St A N w w' [] []):=by
 unfold zdQ.f at H
 refine zz (n:=60) vv rfl rfl zcc ?_
 refine zd (za ?_)
 refine zX rfl zca fun b2 w1 hw1=>?_
 replace S:St A N w w1 [oB b2 zj (Term.C (⟨a2.kind,a2.name,a2.other,a2.form,s_2⟩ : Term))] [fS 4 Nd.C s_0 a0,fS 2 Hyp.C s_1 a1,zn s_2 a2.sub,oEt,oPw]:=S.new hw1
 refine wd (zo rfl) ?_
 refine zb ?_
 refine zd (za ?_)
 refine wd (zA rfl) ?_
 obtain ⟨r3,er3,H⟩ := zr H
 obtain ⟨B5,MB5,SB5,back⟩ := S.calln 0 ((.z 0 rfl .nil))
 refine zu (zq ca_law04_Tables) zca (law04_Tables_st SB5 er3) ?_
 rintro _ w4 ⟨a6,a7,rfl,S2⟩
 replace S:St A N w w4 [oT a6 r3.1,oR a7 r3.2,oB b2 zj (Term.C (⟨a2.kind,a2.name,a2.other,a2.form,s_2⟩ : Term))] [fS 4 Nd.C s_0 a0,fS 2 Hyp.C s_1 a1,zn s_2 a2.sub,oEt,oPw]:=back _ _ _ _ S2 rfl
 clear back S2 SB5
 refine wd (zV rfl) ?_
 refine wd (zt rfl rfl) ?_
 refine wd (zt rfl rfl) ?_
 refine wd (xc rfl) ?_
 refine wd (xc rfl) ?_
 refine zb ?_
 refine zd (za ?_)
 refine wd (zk rfl) ?_
 refine wd (zA rfl) ?_
 refine wd (zm zD rfl ((S.blk 2).all _ (Term.len _)) (Term.len _)) ?_
 obtain ⟨r8,er8,H⟩ := zr H
 obtain ⟨B10,MB10,SB10,back⟩ := S.sub [2] [] [oT a6 r3.1,oR a7 r3.2,oB b2 zj (Term.C (⟨a2.kind,a2.name,a2.other,a2.form,s_2⟩ : Term))]
 refine zu (zq ca_ref12_Copy) zca (ref12_Copy_st (a0:=a2) SB10 er8) ?_
 rintro _ w9 ⟨s11,rfl,S2⟩
 replace S:St A N w w9 [oT a6 r3.1,oR a7 r3.2,oB b2 zj (Term.C (⟨a2.kind,a2.name,a2.other,a2.form,s_2⟩ : Term))] [zn s11 r8.sub,fS 4 Nd.C s_0 a0,fS 2 Hyp.C s_1 a1,zn s_2 a2.sub,oEt,oPw]:=back _ _ _ _ _ S2 rfl rfl
 clear back S2 SB10
 refine wd (zg rfl) ?_
 obtain ⟨r12,er12,H⟩ := zr H
 obtain ⟨B14,MB14,SB14,back⟩ := S.calln 1 ((.z 2 rfl (.z 0 rfl (.z 4 rfl .nil))))
 refine zu (zq zaV) zca (zbc (a2:=r8) SB14 er12) ?_
 rintro _ w13 ⟨s15,rfl,S2⟩
 replace S:St A N w w13 [oT a6 r12.1,oS T_Ln 4 Ln.C s15 r12.2.1,oR a7 r3.2,oB b2 zj (Term.C (⟨a2.kind,a2.name,a2.other,a2.form,s_2⟩ : Term))] [zn s11 r8.sub,fS 4 Nd.C s_0 a0,fS 2 Hyp.C s_1 a1,zn s_2 a2.sub,oEt,oPw]:=back _ _ _ _ S2 rfl
 clear back S2 SB14
 refine wd (zV rfl) ?_
 refine wd (zt rfl rfl) ?_
 refine wd (zt rfl rfl) ?_
 refine wd (xP rfl) ?_
 refine wd (zh rfl) ?_
 refine zb ?_
 refine zd (zd (za ?_))
 refine wd (zg rfl) ?_
 obtain ⟨r16,er16,H⟩ := zr H
 obtain ⟨B18,MB18,SB18,back⟩ := S.calln 0 ((.nil))
 refine zu (zq yX) zca (y0 SB18 er16) ?_
 rintro _ w17 ⟨rfl,S2⟩
 replace S:St A N w w17 [oT a6 r12.1,oS T_Ln 4 Ln.C s15 r12.2.1,oR a7 r3.2,oB b2 zj (Term.C (⟨a2.kind,a2.name,a2.other,a2.form,s_2⟩ : Term))] [zn s11 r8.sub,fS 4 Nd.C s_0 a0,fS 2 Hyp.C s_1 a1,zn s_2 a2.sub,oEt,oPw]:=back _ _ _ _ S2 rfl
 clear back S2 SB18
 refine wd (xm rfl rfl) ?_
 refine zb ?_
 refine zG rfl (fun hc19=>?_) (fun hc19=>?_)
 ·replace H:=if_t hc19 H
  refine zd (za ?_)
  refine wd (zA rfl) ?_
  refine wd (xg zW rfl (S.rdO 1)) ?_
  refine wd (zU rfl rfl) ?_
  refine wd (zL rfl) ?_
  obtain ⟨r20,er20,H⟩ := zr H
  refine yh (j:=3) (pol:=true) rfl rfl rfl zca (fun hg=>zK ca_law16_heads rfl) zca (fun hg=>(have ⟨M,SS⟩ := S.lend ((.z 4 rfl (.z 5 rfl .nil))); quiet (law16_heads_st SS (if_t (by simpa using hg) er20)) (fun v w' h=>⟨h.1,_,_,h.2⟩))) fun w21 hw21=>?_
  replace S:=S.ext hw21
  refine wd (xt rfl (fun hp=>(zw (xE hp)))) ?_
  refine wd (zo rfl) ?_
  refine zb ?_
  refine zx ?_
  refine ⟨_,(zS (zf rfl)),?_⟩
  replace S:St A N w w21 [] []:=S.arr [] []
  obtain rfl:=zce H
  exact ⟨rfl,S⟩
 replace H:=if_f hc19 H
 refine zB ?_
 refine zd (za ?_)
 refine wd (xw) ?_
 refine zb ?_
 refine zd (zd (za ?_))
 refine wd (zh rfl) ?_
 refine zb ?_
 replace S:St A N w w17 [oS xB 1 IC SlV.nil ([]:List Int),oT a6 r12.1,oS T_Ln 4 Ln.C s15 r12.2.1,oR a7 r3.2,oB b2 zj (Term.C (⟨a2.kind,a2.name,a2.other,a2.form,s_2⟩ : Term))] [zn s11 r8.sub,fS 4 Nd.C s_0 a0,fS 2 Hyp.C s_1 a1,zn s_2 a2.sub,oEt,oPw]:=S.nil xB 1 IC
 obtain ⟨o22,e22,Ho22⟩ := zr H
 clear H
 refine x6 [13,14,38,39,40,41,42,43,44,45,46,47,48,49,50,51] (fun fr W => ∃ s23:SlV,fr 13=s23.v∧St A N w W [oS xB 1 IC s23 o22,oT a6 r12.1,oS T_Ln 4 Ln.C s15 r12.2.1,oR a7 r3.2,oB b2 zj (Term.C (⟨a2.kind,a2.name,a2.other,a2.form,s_2⟩ : Term))] [zn s11 r8.sub,fS 4 Nd.C s_0 a0,fS 2 Hyp.C s_1 a1,zn s_2 a2.sub,oEt,oPw]) ?_ ?_
 ·refine zP ?_
  refine xY (α:=Nat × Int × (List Int)) [13,14,38,39,40,41,42,43,44,45,46,47,48,49,50,51] (fun x fr W=>(x.1:Int)=(a1.length:Int) - x.2.1∧0 ≤ x.2.1∧forS (fun i s=>zdQ.b0 a1 i s) x.1 x.2.1 x.2.2=some o22 ∧ ∃ s24:SlV,fr 14 = .int .i64 x.2.1∧fr 13=s24.v∧St A N w W [oS xB 1 IC s24 (x.2.2),oT a6 r12.1,oS T_Ln 4 Ln.C s15 r12.2.1,oR a7 r3.2,oB b2 zj (Term.C (⟨a2.kind,a2.name,a2.other,a2.form,s_2⟩ : Term))] [zn s11 r8.sub,fS 4 Nd.C s_0 a0,fS 2 Hyp.C s_1 a1,zn s_2 a2.sub,oEt,oPw]) (fun x=>x.1) (((a1.length:Int) - 0).toNat,0,([]:List Int)) ⟨(by dsimp only; have hle:=Int.natCast_nonneg (a1.length); omega),(Int.le_refl _),(by dsimp only; exact e22),SlV.nil,rfl,rfl,S⟩ ?_
  rintro ⟨m22,i22,x22_0⟩ g22 u22 ⟨hm22,hl22,e22,s25,q22_i,q22_13,S⟩
  try dsimp only at hm22
  try dsimp only at hl22
  try dsimp only at e22
  try dsimp only at S
  try dsimp only at q22_i
  try dsimp only at q22_13
  refine zd (zd (za ?_))
  refine wd (zg q22_i) ?_
  refine wd (zA rfl) ?_
  refine wd (xg yk rfl (S.rd 2)) ?_
  refine wd (xQ rfl rfl) ?_
  refine zb ?_
  refine zG rfl (fun hc26=>?_) (fun hc26=>?_)
  rotate_left
  ·refine yn ?_
   have hge:(a1.length:Int) ≤ i22:=Int.not_lt.1 (of_decide_eq_false hc26)
   obtain rfl:m22=0:=by omega
   replace e22:=forS_0 e22
   obtain rfl:=e22
   exact ⟨rfl,(((((Dif.self _ _ _).upd rfl _).upd rfl _).upd rfl _).upd rfl _),s25,q22_13,S⟩
  refine zB ?_
  have hlt22:i22 < (a1.length:Int):=of_decide_eq_true hc26
  obtain ⟨m22,rfl⟩ : ∃ m,m22=m + 1:=⟨m22 - 1,by omega⟩
  obtain ⟨q22,H,e22⟩ := forS_s e22
  unfold zdQ.b0 at H
  try dsimp only at H
  have hb22:=(S.len 2)
  refine zd ?_
  refine zP ?_
  refine za ?_
  refine wd (zA q22_13) ?_
  refine wd (zA rfl) ?_
  refine wd (zg q22_i) ?_
  refine wd (xa yk rfl rfl (S.rd 2) (And.intro (show 0 ≤ i22 by omega) (show i22 < (a1.length:Int) from hlt22)).1 (And.intro (show 0 ≤ i22 by omega) (show i22 < (a1.length:Int) from hlt22)).2) ?_
  refine wd (ze fl_Hyp_form rfl (o':=_) rfl) ?_
  refine wd (zl zR rfl (((S.rd 2).at (ym Hyp.z (And.intro (show 0 ≤ i22 by omega) (show i22 < (a1.length:Int) from hlt22)))).get (Hyp.get_form _))) ?_
  refine xD (C:=IC) (l:=[(at_ Hyp.z a1 i22).form]) (vs:=[.int .i64 ((at_ Hyp.z a1 i22).form)]) xG kI.zero rfl rfl (fun _ _=>rfl) zca rfl zca fun b29 w28 s30 hBw28 hw28=>?_
  replace S:St A N w w28 [oS xB 1 IC s30 ([(at_ Hyp.z a1 i22).form]),oS xB 1 IC s25 x22_0,oT a6 r12.1,oS T_Ln 4 Ln.C s15 r12.2.1,oR a7 r3.2,oB b2 zj (Term.C (⟨a2.kind,a2.name,a2.other,a2.form,s_2⟩ : Term))] [zn s11 r8.sub,fS 4 Nd.C s_0 a0,fS 2 Hyp.C s_1 a1,zn s_2 a2.sub,oEt,oPw]:=S.lit hBw28 hw28 zcc
  obtain ⟨ha33,H⟩ := xo H
  have ha33:=of_decide_eq_true ha33
  refine zbh (C:=IC) xG kI rfl rfl (S.sl 1) (S.rdO 0) zcc (fun a _ v hv=>by rw [List.mem_singleton.1 hv]; rfl) ha33 zcb zca fun s32 w31 O hw31 gw31=>?_
  replace S:St A N w w31 [oS xB 1 IC s32 (x22_0 ++ [(at_ Hyp.z a1 i22).form]),oS xB 1 IC s30 ([(at_ Hyp.z a1 i22).form]),oT a6 r12.1,oS T_Ln 4 Ln.C s15 r12.2.1,oR a7 r3.2,oB b2 zj (Term.C (⟨a2.kind,a2.name,a2.other,a2.form,s_2⟩ : Term))] [zn s11 r8.sub,fS 4 Nd.C s_0 a0,fS 2 Hyp.C s_1 a1,zn s_2 a2.sub,oEt,oPw]:=S.push 1 O (by first | (simp; done) | (simp; omega)) hw31 gw31
  clear O
  refine wd (xP rfl) ?_
  refine zb ?_
  refine za ?_
  refine wd (zg q22_i) ?_
  refine wd (xK rfl rfl (c:=i22 + 1) rfl zcb zcb) ?_
  refine wd (zh rfl) ?_
  refine zb ?_
  replace S:St A N w w31 [oS xB 1 IC s32 (x22_0 ++ [(at_ Hyp.z a1 i22).form]),oT a6 r12.1,oS T_Ln 4 Ln.C s15 r12.2.1,oR a7 r3.2,oB b2 zj (Term.C (⟨a2.kind,a2.name,a2.other,a2.form,s_2⟩ : Term))] [zn s11 r8.sub,fS 4 Nd.C s_0 a0,fS 2 Hyp.C s_1 a1,zn s_2 a2.sub,oEt,oPw]:=S.arr [0,2,3,4,5] [0,1,2,3,4,5]
  obtain rfl:=zce H
  exact ⟨rfl,(((((((((((((((((Dif.self _ _ _).upd rfl _).upd rfl _).upd rfl _).upd rfl _).upd rfl _).upd rfl _).upd rfl _).upd rfl _).upd rfl _).upd rfl _).upd rfl _).upd rfl _).upd rfl _).upd rfl _).upd rfl _).upd rfl _),(m22,i22 + 1,x22_0 ++ [(at_ Hyp.z a1 i22).form]),⟨(by dsimp only; omega),(by dsimp only; omega),e22,s32,rfl,rfl,S⟩,by dsimp only; omega⟩
 rintro g34 u35 ⟨s23,p22_13,S⟩
 have H:=Ho22
 refine zd (za ?_)
 refine wd (zk rfl) ?_
 refine wd (zA p22_13) ?_
 refine wd (zA rfl) ?_
 refine wd (zg rfl) ?_
 obtain ⟨r36,er36,H⟩ := zr H
 replace S:St A N w u35 [oT a6 r12.1,oS xB 1 IC s23 o22,oS T_Ln 4 Ln.C s15 r12.2.1,oR a7 r3.2,oB b2 zj (Term.C (⟨a2.kind,a2.name,a2.other,a2.form,s_2⟩ : Term))] [zn s11 r8.sub,fS 4 Nd.C s_0 a0,fS 2 Hyp.C s_1 a1,zn s_2 a2.sub,oEt,oPw]:=S.front 1
 obtain ⟨B38,MB38,SB38,back⟩ := S.calln 1 ((.s 0 rfl (.s 1 rfl (.z 4 rfl (.z 5 rfl .nil)))))
 refine zu (zq ca_law16_told) zca (law16_told_st SB38 er36) ?_
 rintro _ w37 ⟨rfl,S2⟩
 replace S:St A N w w37 [oT a6 r36.1,oS xB 1 IC s23 o22,oS T_Ln 4 Ln.C s15 r12.2.1,oR a7 r3.2,oB b2 zj (Term.C (⟨a2.kind,a2.name,a2.other,a2.form,s_2⟩ : Term))] [zn s11 r8.sub,fS 4 Nd.C s_0 a0,fS 2 Hyp.C s_1 a1,zn s_2 a2.sub,oEt,oPw]:=back _ _ _ _ S2 rfl
 clear back S2 SB38
 refine wd (zL rfl) ?_
 obtain ⟨r39,er39,H⟩ := zr H
 refine yh (j:=5) (pol:=true) rfl rfl rfl zca (fun hg=>zK ca_law16_heads rfl) zca (fun hg=>(have ⟨M,SS⟩ := S.lend ((.z 4 rfl (.z 5 rfl .nil))); quiet (law16_heads_st SS (if_t (by simpa using hg) er39)) (fun v w' h=>⟨h.1,_,_,h.2⟩))) fun w40 hw40=>?_
 replace S:=S.ext hw40
 refine wd (xt rfl (fun hp=>(zw (xE hp)))) ?_
 refine wd (zo rfl) ?_
 refine zb ?_
 refine zx ?_
 refine ⟨_,(zS (zf rfl)),?_⟩
 replace S:St A N w w40 [] []:=S.arr [] []
 obtain rfl:=zce H
 exact ⟨rfl,S⟩
end
section
open Gw
theorem zaL {σ ρ:Type} {b:Int→σ→Option (Stp σ ρ)} {p:Nat→Bool} {r:Nat→ρ} : ∀ (n i:Nat) (s:σ),(∀ j:Nat,i ≤ j→j < i + n→b j s=some (if p j then .ret (r j) else .go s))→forN b n i s=some (match (List.range' i n).find? p with | some j => .inr (r j) | none => .inl s)
 | 0,i,s,_=>rfl
 | n + 1,i,s,h=>by
  rw [forN,h i (Nat.le_refl _) zcb,List.range'_succ]
  cases hp:p i with
  | true=>simp [hp,List.find?_cons]
  | false =>
   have:=zaL n (i + 1) s fun j h1 h2=>h j zcb zcb
   simpa [hp,List.find?_cons] using this
abbrev nd (M:List Nd) (i:Int):Nd:=(jg M i).1
structure Wf (M:List Nd):Prop where
 len:M.length ≤ 1024
 nodup:M.Nodup
 kind : ∀ i:Int,inb i M.length=true→(nd M i).kind=1∨(nd M i).kind=2∨(nd M i).kind=3∨(nd M i).kind=4∨(nd M i).kind=5
 kids : ∀ i:Int,inb i M.length=true→(nd M i).kind=3∨(nd M i).kind=4∨(nd M i).kind=5→(0 ≤ (nd M i).l∧(nd M i).l < i)∧0 ≤ (nd M i).r∧(nd M i).r < i
 fits : ∀ (j:Nat) (n:Nd),M[j]? = some n→vg (M.take j) n=0
theorem Wf.left {M:List Nd} (h:Wf M) {i:Int} (hi:inb i M.length=true) (hk:(nd M i).kind=3∨(nd M i).kind=4∨(nd M i).kind=5):inb (nd M i).l M.length=true:=by
 have h1:=h.kids i hi hk
 have h2:=zO hi
 simp only [inb,Bool.and_eq_true,decide_eq_true_eq]; omega
theorem Wf.right {M:List Nd} (h:Wf M) {i:Int} (hi:inb i M.length=true) (hk:(nd M i).kind=3∨(nd M i).kind=4∨(nd M i).kind=5):inb (nd M i).r M.length=true:=by
 have h1:=h.kids i hi hk
 have h2:=zO hi
 simp only [inb,Bool.and_eq_true,decide_eq_true_eq]; omega
theorem Wf.bare {M:List Nd} (h:Wf M) {i:Int} (hi:inb i M.length=true) (hk:(nd M i).kind=3∨(nd M i).kind=4∨(nd M i).kind=5):(nd M i).name=⟨#[]⟩ := by
 have h1:=zO hi
 have h2:i.toNat < M.length:=by omega
 have e:nd M i=M[i.toNat]:=by
  unfold nd jg vj
  rw [if_pos (by simp; omega)]
  simp [List.getD_eq_getElem?_getD,h2]
 have h3:=h.fits i.toNat _ (List.getElem?_eq_getElem h2)
 rw [← e] at h3
 unfold vg at h3
 rw [if_neg zcb,if_neg zcb,if_pos hk] at h3
 split at h3
 ·simp at h3
 ·rename_i hh
  simp only [not_or,Decidable.not_not] at hh
  exact hh.1.1
theorem find_congr {α:Type} {p q:α→Bool} : ∀ {l:List α},(∀ x ∈ l,p x=q x)→l.find? p=l.find? q
 | [],_=>rfl
 | x :: l,h=>by
  rw [List.find?_cons,List.find?_cons,h x zcc,find_congr fun y hy=>h y (by simp [hy])]
theorem any_find {α:Type} {p:α→Bool} : ∀ (l:List α),l.any p=(l.find? p).isSome
 | []=>rfl
 | x :: l=>by
  rw [List.any_cons,List.find?_cons,any_find l]
  cases p x <;> rfl
theorem inb_nat (j n:Nat):inb (j:Int) n=decide (j < n):=by
 unfold inb
 rw [decide_eq_true (show 0 ≤ (j:Int) by omega),Bool.true_and,decide_eq_decide]
 omega
theorem wrap_small {n:Int} (h:0 ≤ n∧n < 9223372036854775808):IntKind.i64.wrap n=n:=by
 exact IntWalk.i64_in _ ⟨by omega,by omega⟩
theorem idx_find (n:Nd) : ∀ (N:List Nd) (s:Nat),(List.range' s N.length).find? (fun k=>decide (N.getD (k - s) Nd.z=n))=(N.idxOf? n).map (· + s)
 | [],s=>rfl
 | a :: N,s=>by
  rw [List.length_cons,List.range'_succ,List.find?_cons,List.idxOf?_cons]
  by_cases h:a=n
  ·simp [h]
  ·have h1:(a == n)=false:=by simpa using h
   have h2:(List.range' (s + 1) N.length).find? (fun k=>decide ((a :: N).getD (k - s) Nd.z=n))=(List.range' (s + 1) N.length).find? (fun k=>decide (N.getD (k - (s + 1)) Nd.z=n)):=find_congr fun k hk=>by
    have hk:=(List.mem_range'_1.1 hk).1
    rw [show k - s=(k - (s + 1)) + 1 by omega]; simp
   simp only [Nat.sub_self,List.getD_cons_zero,h,decide_false,h1,h2,idx_find n N (s + 1)]
   cases N.idxOf? n with
   | none=>rfl
   | some k=>simp; omega
theorem docFind (N:List Nd) (n:Nd):zcy.f (some N) n=some (match N.idxOf? n with | some k=>((k:Int),true) | none=>(0,false)):=by
 unfold zcy.f
 have h1:=zaL (b:=fun i s=>zcy.b0 (some N) n i) (p:=fun k=>decide (N.getD k Nd.z=n)) (r:=fun k=>((k:Int),true)) N.length 0 () (by
  intro k _ hk
  unfold zcy.b0 at_
  rw [Int.toNat_natCast,Option.getD_some]
  split <;> rfl)
 have e0:(((N.length:Nat):Int) - 0).toNat=N.length:=by omega
 simp only [Option.isSome_some,Option.getD_some,chk,if_true,e0]
 rw [show (0:Int)=((0:Nat):Int) from rfl,h1]
 have h2:=idx_find n N 0
 simp only [Nat.sub_zero,Nat.add_zero] at h2
 rw [h2]
 cases N.idxOf? n <;> rfl
theorem bind_eq {α β:Type} {x:Option α} {y:α} {f:α→Option β} {r:Option β} (hx:x=some y) (h:f y=r):x.bind f=r:=by rw [hx]; exact h
theorem docPut {N:List Nd} {n:Nd} (hN:N.length ≤ 1024) (hn:n.name.size < 9223372036854775808):zcz.f (some N) n=some (some (putS N n).1,(putS N n).2.1,(putS N n).2.2):=by
 have hrow : ∀ i:Int,zcx.f (some N) i=some (vj N i):=fun i=>by simp [zcx.f,chk,vj]
 have hend:((zcy.f (some N) n).bind fun r25=>if r25.2 then some (some N,r25.1,0) else chk (some N).isSome (if decide (1024 ≤ ((((some N).getD []).length:Nat):Int)) then some ((some ((some N).getD [])),0,30) else chk (decide ((((some N).getD []).length + 1) * 40 ≤ 140737488355328)) (some ((some (((some N).getD []) ++ [n])),IntKind.i64.wrap (((((some N).getD []) ++ [n]).length:Int) - 1),0)))) =
   (match N.idxOf? n with | some k=>some (some N,(k:Int),(0:Int)) | none=>if 1024 ≤ N.length then some (some N,0,30) else some (some (N ++ [n]),(N.length:Int),0)):=by
  rw [docFind]
  cases N.idxOf? n with
  | some k=>rfl
  | none =>
   simp only [Option.bind_some,Bool.false_eq_true,if_false,Option.isSome_some,Option.getD_some,chk,if_true,decide_eq_true_eq]
   by_cases h:1024 ≤ N.length
   ·have h1:(1024:Int) ≤ (N.length:Int):=by omega
    simp only [h,h1,if_true]
   ·have h1:¬ (1024:Int) ≤ (N.length:Int):=by omega
    have h2:(N.length + 1) * 40 ≤ 140737488355328:=by omega
    have h3:IntKind.i64.wrap (((N ++ [n]).length:Int) - 1)=(N.length:Int):=by
     rw [wrap_small (by simp; omega)]; simp
    simp only [h,h1,h2,h3,if_true,if_false]
 unfold zcz.f
 refine bind_eq (y:=if vg N n=0 then .inl (some N) else .inr (some N,0,vg N n)) ?_ ?_
 ·unfold vg
  simp only [hrow,zcl.f,hn,chk,decide_true,if_true,Option.bind_some]
  by_cases k1:n.kind=1
  ·simp only [k1,decide_true,if_true]
   by_cases hl:n.l=0
   ·by_cases hr:n.r=0
    ·by_cases hw:isWord n.name <;> simp [hl,hr,hw]
    ·simp [hl,hr]
   ·simp [hl]
  by_cases k2:n.kind=2
  ·have e:(n={ Nd.z with kind:=2 })↔(n.name=⟨#[]⟩ ∧ n.l=0∧n.r=0):=by
    constructor
    ·intro h; rw [h]; exact ⟨rfl,rfl,rfl⟩
    ·rintro ⟨h1,h2,h3⟩
     obtain ⟨a,b,c,d⟩ := n
     simp only at k2 h1 h2 h3
     subst k2 h1 h2 h3; rfl
   simp only [k2,decide_true,if_true,show ¬ ((2:Int)=1) by decide,decide_false,Bool.false_eq_true,if_false,e]
   by_cases hm:n.name=⟨#[]⟩
   ·by_cases hl:n.l=0
    ·by_cases hr:n.r=0 <;> simp [hm,hl,hr]
    ·simp [hm,hl]
   ·simp [hm]
  by_cases k3:n.kind=3∨n.kind=4∨n.kind=5
  ·have ho:((if decide (n.kind=3)=true then some (decide (n.kind=3)) else if decide (n.kind=4)=true then some (decide (n.kind=4)) else some (decide (n.kind=5))):Option Bool)=some true:=by
    rcases k3 with k | k | k <;> simp [k]
   simp only [k1,k2,k3,decide_false,Bool.false_eq_true,if_false,if_true]
   simp only [decide_eq_true_eq] at ho ⊢
   rw [ho]
   simp only [Option.bind_some,if_true]
   by_cases hm:n.name=⟨#[]⟩
   ·cases hl:vj N n.l with
    | false=>simp [hm,hl]
    | true=>cases hr:vj N n.r <;> simp [hm,hl,hr]
   ·simp [hm]
  ·have ho:((if decide (n.kind=3)=true then some (decide (n.kind=3)) else if decide (n.kind=4)=true then some (decide (n.kind=4)) else some (decide (n.kind=5))):Option Bool)=some false:=by
    simp only [not_or] at k3; simp [k3.1,k3.2.1,k3.2.2]
   simp only [k1,k2,k3,decide_false,Bool.false_eq_true,if_false,if_true]
   simp only [decide_eq_true_eq] at ho ⊢
   rw [ho]
   simp
 ·by_cases hf:vg N n=0
  ·rw [if_pos hf]
   refine Eq.trans (show _=_ from hend) ?_
   unfold putS
   rw [if_pos hf]
   cases N.idxOf? n with
   | some k=>rfl
   | none =>
    by_cases h:1024 ≤ N.length
    ·simp only [if_pos h]
    ·simp only [if_neg h]
  ·rw [if_neg hf,put_bad hf]; rfl
theorem progPut {N:List Nd} {n:Nd} (hn:n.name.size < 9223372036854775808):zcj.f (some N) n=some (some (putS N n).1,(putS N n).2.1,(putS N n).2.2):=by
 simp [zcj.f,chk,hn]
theorem rows_take {M:List Nd} {i:Nat} (hi:i < M.length):at_ Nd.z M i=M[i]:=by
 unfold at_; rw [Int.toNat_natCast,List.getD_eq_getElem?_getD,List.getElem?_eq_getElem hi]; rfl
theorem wf_push {N:List Nd} {n:Nd} (h:Wf N) (hf:vg N n=0) (hl:N.length < 1024) (hnew:n ∉ N):Wf (N ++ [n]):=by
 have hnd : ∀ i:Int,inb i N.length=true→nd (N ++ [n]) i=nd N i:=by
  intro i hi
  have h1:=zO hi
  unfold nd jg vj
  have h2:i.toNat < N.length:=by omega
  rw [if_pos (by simp; omega),if_pos (by simp; omega)]
  simp only
  rw [List.getD_eq_getElem?_getD,List.getElem?_append_left h2,← List.getD_eq_getElem?_getD]
 have hlast:nd (N ++ [n]) N.length=n:=by
  unfold nd jg vj
  rw [if_pos (by simp; omega)]
  simp
 have hsplit : ∀ i:Int,inb i (N ++ [n]).length=true→inb i N.length=true∨i=N.length:=by
  intro i hi
  have:=zO hi
  simp at this
  simp only [inb,Bool.and_eq_true,decide_eq_true_eq]; omega
 have hkind:n.kind=1∨n.kind=2∨n.kind=3∨n.kind=4∨n.kind=5:=by
  unfold vg at hf
  by_cases k1:n.kind=1
  ·exact .inl k1
  by_cases k2:n.kind=2
  ·exact .inr (.inl k2)
  by_cases k3:n.kind=3∨n.kind=4∨n.kind=5
  ·exact .inr (.inr k3)
  ·simp [k1,k2,k3] at hf
 refine ⟨by simp; omega,by rw [List.nodup_append]; exact ⟨h.nodup,by simp,fun a ha b hb e=>hnew (by rw [← List.mem_singleton.1 hb,← e]; exact ha)⟩,fun i hi=>?_,fun i hi hk=>?_,fun j m hm=>?_⟩
 ·rcases hsplit i hi with h1 | rfl
  ·rw [hnd i h1]; exact h.kind i h1
  ·rw [hlast]; exact hkind
 ·rcases hsplit i hi with h1 | rfl
  ·rw [hnd i h1] at hk ⊢; exact h.kids i h1 hk
  ·rw [hlast] at hk ⊢
   unfold vg at hf
   have k1:¬ n.kind=1:=by omega
   have k2:¬ n.kind=2:=by omega
   rw [if_neg k1,if_neg k2,if_pos hk] at hf
   split at hf
   ·simp at hf
   ·rename_i hh
    simp only [not_or,Bool.not_eq_false] at hh
    obtain ⟨⟨_,h1⟩,h2⟩ := hh
    simp only [vj,Bool.and_eq_true,decide_eq_true_eq] at h1 h2
    exact ⟨h1,h2⟩
 ·by_cases hj:j < N.length
  ·rw [List.getElem?_append_left hj] at hm
   rw [List.take_append_of_le_length zcb]; exact h.fits j m hm
  ·have hj2:j < (N ++ [n]).length:=(List.getElem?_eq_some_iff.1 hm).1
   have e:j=N.length:=by simp at hj2; omega
   subst e
   simp at hm
   subst hm
   simpa using hf
theorem from_some {rows:List Nd} (hn : ∀ n ∈ rows,n.name.size < 9223372036854775808) : ∃ r:Tb × Int,zcA.f rows=some r∧zcw.f rows=some r∧(r.2=0→r.1=some rows∧Wf rows):=by
 have hstep : ∀ (N:List Nd) (i:Nat),i < rows.length→N.length ≤ 1024→zcA.b0 rows i (some N)=some (if (putS N (at_ Nd.z rows i)).2.2 ≠ 0 then .ret (none,(putS N (at_ Nd.z rows i)).2.2) else if (putS N (at_ Nd.z rows i)).2.1 ≠ i then .ret (none,31) else .go (some (putS N (at_ Nd.z rows i)).1)) ∧
   zcw.b0 rows i (some N)=zcA.b0 rows i (some N):=by
  intro N i hi hN
  have hm:(at_ Nd.z rows i).name.size < 9223372036854775808:=by rw [rows_take hi]; exact hn _ (List.getElem_mem hi)
  have h1:zcA.b0 rows i (some N)=some (if (putS N (at_ Nd.z rows i)).2.2 ≠ 0 then .ret (none,(putS N (at_ Nd.z rows i)).2.2) else if (putS N (at_ Nd.z rows i)).2.1 ≠ i then .ret (none,31) else .go (some (putS N (at_ Nd.z rows i)).1)):=by
   unfold zcA.b0
   rw [docPut hN hm]
   simp only [Option.bind_some,decide_eq_true_eq]
   split
   ·rfl
   ·split <;> rfl
  refine ⟨h1,?_⟩
  rw [h1]
  unfold zcw.b0
  rw [progPut hm]
  simp only [Option.bind_some]
  by_cases e:(putS N (at_ Nd.z rows i)).2.2=0
  ·by_cases e2:(putS N (at_ Nd.z rows i)).2.1=i
   ·simp [e,e2]
   ·simp [e,e2]
  ·simp [e]
 have main : ∀ (n i:Nat),i + n=rows.length→i ≤ 1024→Wf (rows.take i) → ∃ o,forN (fun j s=>zcA.b0 rows j s) n i (some (rows.take i))=some o∧forN (fun j s=>zcw.b0 rows j s) n i (some (rows.take i))=some o ∧
   ((∃ e,e ≠ 0∧o = .inr (none,e))∨(o = .inl (some rows)∧Wf rows)):=by
  intro n
  induction n with
  | zero =>
   intro i hi _ hw
   rw [List.take_of_length_le zcb] at hw ⊢
   exact ⟨_,rfl,rfl,.inr ⟨rfl,hw⟩⟩
  | succ n ih =>
   intro i hi hle hw
   have hil:i < rows.length:=by omega
   have hlen:(rows.take i).length=i:=by simp; omega
   obtain ⟨h1,h2⟩ := hstep (rows.take i) i hil zcb
   simp only [forN]
   rw [h2,h1]
   by_cases e:(putS (rows.take i) (at_ Nd.z rows i)).2.2=0
   ·by_cases e2:(putS (rows.take i) (at_ Nd.z rows i)).2.1=i
    ·simp only [e,e2,ne_eq,not_true_eq_false,if_false,Option.bind_some]
     have hput:vg (rows.take i) (at_ Nd.z rows i)=0∧i < 1024∧at_ Nd.z rows i ∉ rows.take i∧(putS (rows.take i) (at_ Nd.z rows i)).1=rows.take i ++ [at_ Nd.z rows i]:=by
      by_cases hf:vg (rows.take i) (at_ Nd.z rows i)=0
      ·cases hk:(rows.take i).idxOf? (at_ Nd.z rows i) with
       | some k =>
        rw [put_old hf hk] at e2
        have:k < (rows.take i).length:=by
         have:=List.idxOf?_eq_some_iff.1 hk
         exact this.1
        simp only at e2; omega
       | none =>
        by_cases hl:1024 ≤ (rows.take i).length
        ·rw [put_full hf hk hl] at e; simp at e
        ·rw [put_new hf hk hl]
         exact ⟨hf,by omega,List.idxOf?_eq_none_iff.1 hk,rfl⟩
      ·rw [put_bad hf] at e; exact absurd e hf
     obtain ⟨hf,hlt,hnew,hp⟩ := hput
     have ht:rows.take i ++ [at_ Nd.z rows i]=rows.take (i + 1):=by
      rw [rows_take hil,List.take_succ_eq_append_getElem hil]
     rw [hp,ht]
     have:=ih (i + 1) zcb zcb (by rw [← ht]; exact wf_push hw hf zcb hnew)
     simpa using this
    ·simp only [e,e2,ne_eq,not_true_eq_false,not_false_eq_true,if_false,if_true,Option.bind_some]
     exact ⟨_,rfl,rfl,.inl ⟨31,by decide,rfl⟩⟩
   ·simp only [e,ne_eq,not_false_eq_true,if_true,Option.bind_some]
    exact ⟨_,rfl,rfl,.inl ⟨_,e,rfl⟩⟩
 have e0:(((rows.length:Nat):Int) - 0).toNat=rows.length:=by omega
 obtain ⟨o,h1,h2,h3⟩ := main rows.length 0 zcb zcb ⟨by simp,by simp,fun i hi=>absurd (zO hi) zcc,fun i hi=>absurd (zO hi) zcc,fun j n h=>by simp at h⟩
 unfold zcA.f zcw.f zcm.f
 rw [e0]
 simp only [Option.bind_some]
 rw [show (0:Int)=((0:Nat):Int) from rfl]
 rw [List.take_zero] at h1 h2
 rw [h1,h2]
 rcases h3 with ⟨e,he,rfl⟩ | ⟨rfl,hw⟩
 ·exact ⟨_,rfl,rfl,fun q=>absurd q he⟩
 ·exact ⟨_,rfl,rfl,fun _=>⟨rfl,hw⟩⟩
theorem both_some {rows:List Nd} (hn : ∀ n ∈ rows,n.name.size < 9223372036854775808) (hl:rows.length * 40 ≤ 140737488355328):zcB.f rows=some (none,none,false)∨(zcB.f rows=some (some rows,some rows,true)∧Wf rows):=by
 obtain ⟨r,h1,h2,h3⟩ := from_some hn
 have hc:(([]:List Nd).length + rows.length) * 40 ≤ 140737488355328:=by rw [List.length_nil,Nat.zero_add]; exact hl
 unfold zcB.f
 rw [chk,if_pos (decide_eq_true hc),h1]
 simp only [Option.bind_some,List.nil_append,h2]
 by_cases e:r.2=0
 ·obtain ⟨h4,hw⟩ := h3 e
  exact .inr ⟨by rw [h4]; simp [e],hw⟩
 ·exact .inl (by simp [e])
end
section
open Gw
inductive Pt where
 | v (c:UInt8)
 | bot
 | bin (k:Int) (a b:Pt)
namespace Pt
def enc:Pt→List UInt8
 | v c=>[c]
 | bot=>[48]
 | bin k a b=>(if k=5 then 62 else if k=3 then 38 else 124) :: (a.enc ++ b.enc)
def ok:Pt→Prop
 | v c=>c.toNat ≠ 62∧c.toNat ≠ 38∧c.toNat ≠ 124∧c.toNat ≠ 48
 | bot=>True
 | bin k a b=>(k=5∨k=3∨k=4)∧a.ok∧b.ok
def dep:Pt→Nat
 | v _=>1
 | bot=>1
 | bin _ a b=>1 + max a.dep b.dep
end Pt
def yc (M:List Nd):Pt→Int→List (Int × Int)→List (Int × Int) × Bool
 | .v c,id,s=>(Gw.ins (c.toNat:Int) id s,!(Gw.look (c.toNat:Int) s).isSome || decide ((Gw.look (c.toNat:Int) s).getD 0=id))
 | .bot,id,s=>(s,decide ((nd M id).kind=2))
 | .bin k a b,id,s=>if (nd M id).kind ≠ k then (s,false) else if (yc M a (nd M id).l s).2 then yc M b (nd M id).r (yc M a (nd M id).l s).1 else ((yc M a (nd M id).l s).1,false)
theorem sb_cons (c:UInt8) (l:List UInt8):sb ⟨(c :: l).toArray⟩ 0=(c.toNat:Int):=by
 unfold sb
 rw [show (⟨(c :: l).toArray⟩ : ByteArray)[0]? = some c from rfl]
 rfl
theorem sfrom_cons (c:UInt8) (l:List UInt8):sfrom ⟨(c :: l).toArray⟩ 1=⟨l.toArray⟩ := by
 unfold sfrom
 apply ByteArray.ext
 rw [ByteArray.data_extract]
 apply Array.toList_inj.1
 simp [ByteArray.size]
theorem size_cons (c:UInt8) (l:List UInt8):(⟨(c :: l).toArray⟩ : ByteArray).size=l.length + 1:=by simp [ByteArray.size]
theorem node_of (M:List Nd) (i:Int):(zcf.f (some M) i)=some (jg M i):=rfl
theorem pat_some (M:List Nd) : ∀ (p:Pt),p.ok → ∀ (k:Nat),p.dep ≤ k → ∀ (id:Int) (s:List (Int × Int)) (rest:List UInt8),∃ q,zcC.f k ⟨some M,s⟩ id ⟨(p.enc ++ rest).toArray⟩ = some q∧q.1.t=some M∧q.2.2=(yc M p id s).2∧((yc M p id s).2=true→q.1.seen=(yc M p id s).1∧q.2.1=⟨rest.toArray⟩)
 | .v c,hp,k,hk,id,s,rest=>by
  obtain ⟨k,rfl⟩ : ∃ k',k=k' + 1:=⟨k - 1,by simp only [Pt.dep] at hk; omega⟩
  obtain ⟨h1,h2,h3,h4⟩ := hp
  have e:(Pt.v c).enc ++ rest=c :: rest:=rfl
  rw [e]
  refine ⟨(⟨some M,(yc M (.v c) id s).1⟩,⟨rest.toArray⟩,(yc M (.v c) id s).2),?_,rfl,rfl,fun _=>⟨rfl,rfl⟩⟩
  show zcC.g _ _ _ _=_
  unfold zcC.g
  simp only [sb_cons,sfrom_cons,size_cons,node_of,chk,inb,Option.bind_some]
  have n1:¬ ((c.toNat:Int)=62):=by omega
  have n2:¬ ((c.toNat:Int)=38):=by omega
  have n3:¬ ((c.toNat:Int)=124):=by omega
  have n4:¬ ((c.toNat:Int)=48):=by omega
  simp [n1,n2,n3,n4,aft,yc]
  omega
 | .bot,hp,k,hk,id,s,rest=>by
  obtain ⟨k,rfl⟩ : ∃ k',k=k' + 1:=⟨k - 1,by simp only [Pt.dep] at hk; omega⟩
  have e:Pt.bot.enc ++ rest=48 :: rest:=rfl
  rw [e]
  refine ⟨(⟨some M,s⟩,⟨rest.toArray⟩,(yc M .bot id s).2),?_,rfl,rfl,fun _=>⟨rfl,rfl⟩⟩
  show zcC.g _ _ _ _=_
  unfold zcC.g
  simp only [sb_cons,sfrom_cons,size_cons,node_of,chk,inb,Option.bind_some]
  simp [aft,yc]
  omega
 | .bin kd a b,hp,k,hk,id,s,rest=>by
  obtain ⟨k,rfl⟩ : ∃ k',k=k' + 1:=⟨k - 1,by simp only [Pt.dep] at hk; omega⟩
  obtain ⟨h1,ha,hb⟩ := hp
  have hk1:a.dep ≤ k:=by simp only [Pt.dep] at hk; omega
  have hk2:b.dep ≤ k:=by simp only [Pt.dep] at hk; omega
  have e:(Pt.bin kd a b).enc ++ rest=(if kd=5 then 62 else if kd=3 then 38 else 124) :: (a.enc ++ (b.enc ++ rest)):=by simp [Pt.enc,List.append_assoc]
  rw [e]
  have hq : ∃ q,zcC.g (zcC.f k) ⟨some M,s⟩ id ⟨((if kd=5 then 62 else if kd=3 then 38 else 124:UInt8) :: (a.enc ++ (b.enc ++ rest))).toArray⟩ = (if decide ((nd M id).kind ≠ kd) then some (⟨some M,s⟩,⟨#[]⟩,false) else (zcC.f k ⟨some M,s⟩ (nd M id).l ⟨(a.enc ++ (b.enc ++ rest)).toArray⟩).bind fun r29=>if !r29.2.2 then some (r29.1,(⟨#[]⟩ : ByteArray),false) else (zcC.f k r29.1 (nd M id).r r29.2.1).bind fun r33=>some (r33.1,r33.2.1,r33.2.2))∧q=():=by
   refine ⟨(),?_,rfl⟩
   unfold zcC.g
   simp only [sb_cons,sfrom_cons,size_cons,node_of,chk,inb,Option.bind_some]
   rcases h1 with rfl | rfl | rfl <;> simp [aft,nd] <;> rw [if_pos zcb,if_pos zcb]
  obtain ⟨_,hq,_⟩ := hq
  show ∃ q,zcC.g _ _ _ _=_∧_
  rw [hq]
  by_cases hkd:(nd M id).kind=kd
  ·simp only [hkd,ne_eq,not_true_eq_false,decide_false,Bool.false_eq_true,if_false]
   obtain ⟨q1,e1,t1,o1,m1⟩ := pat_some M a ha k hk1 (nd M id).l s (b.enc ++ rest)
   rw [e1]
   simp only [Option.bind_some]
   cases hm:(yc M a (nd M id).l s).2 with
   | false =>
    rw [hm] at o1
    refine ⟨(q1.1,⟨#[]⟩,false),by simp [o1],t1,by simp [yc,hkd,hm],fun h=>?_⟩
    simp [yc,hkd,hm] at h
   | true =>
    rw [hm] at o1
    obtain ⟨m2,m3⟩ := m1 hm
    obtain ⟨q2,e2,t2,o2,m4⟩ := pat_some M b hb k hk2 (nd M id).r (yc M a (nd M id).l s).1 rest
    have e3:q1.1=⟨some M,(yc M a (nd M id).l s).1⟩ := by cases h:q1.1; simp_all
    refine ⟨q2,by rw [o1,e3,m3,e2]; rfl,t2,?_,fun h=>?_⟩
    ·rw [o2]; simp [yc,hkd,hm]
    ·have:=m4 (by simpa [yc,hkd,hm] using h)
     simpa [yc,hkd,hm] using this
  ·refine ⟨(⟨some M,s⟩,⟨#[]⟩,false),by simp [hkd],rfl,by simp [yc,hkd],fun h=>?_⟩
   simp [yc,hkd] at h
abbrev vA:Pt := .v 65
abbrev vB:Pt := .v 66
abbrev vC:Pt := .v 67
def schT (k:Int):Pt :=
 if k=1 then .bin 5 vA (.bin 5 vB vA) else if k=2 then .bin 5 (.bin 5 vA (.bin 5 vB vC)) (.bin 5 (.bin 5 vA vB) (.bin 5 vA vC))
 else if k=3 then .bin 5 (.bin 3 vA vB) vA else if k=4 then .bin 5 (.bin 3 vA vB) vB else if k=5 then .bin 5 vA (.bin 5 vB (.bin 3 vA vB))
 else if k=6 then .bin 5 vA (.bin 4 vA vB) else if k=7 then .bin 5 vB (.bin 4 vA vB) else if k=8 then .bin 5 (.bin 5 vA vC) (.bin 5 (.bin 5 vB vC) (.bin 5 (.bin 4 vA vB) vC))
 else .bin 5 .bot vA
def axS (M:List Nd) (k i:Int):Bool :=
 let n:=nd M i; let x:=nd M n.l; let y:=nd M n.r; let b:=nd M y.l; let c:=nd M y.r
 decide (n.kind=5) &&
 (if k=1 then decide (y.kind=5) && decide (y.r=n.l)
  else if k=2 then decide (y.kind=5) && decide (x.kind=5) && decide ((nd M x.r).kind=5) && decide (b.kind=5) && decide (c.kind=5) && decide (b.l=x.l) && decide (c.l=x.l) && decide (b.r=(nd M x.r).l) && decide (c.r=(nd M x.r).r)
  else if k=3 then decide (x.kind=3) && decide (x.l=n.r)
  else if k=4 then decide (x.kind=3) && decide (x.r=n.r)
  else if k=5 then decide (y.kind=5) && decide (c.kind=3) && decide (c.l=n.l) && decide (c.r=y.l)
  else if k=6 then decide (y.kind=4) && decide (y.l=n.l)
  else if k=7 then decide (y.kind=4) && decide (y.r=n.l)
  else if k=8 then decide (y.kind=5) && decide (x.kind=5) && decide (b.kind=5) && decide (c.kind=5) && decide ((nd M c.l).kind=4) && decide ((nd M c.l).l=x.l) && decide ((nd M c.l).r=b.l) && decide (b.r=x.r) && decide (c.r=x.r)
  else if k=9 then decide (x.kind=2)
  else false)
theorem match_1 (M:List Nd) (i:Int):(yc M (schT 1) i []).2=axS M 1 i:=by
 simp only [schT,axS,yc,if_true,  if_false]
 by_cases h0:(nd M i).kind=5
 rotate_left
 ·simp [h0]
 by_cases c0:(nd M (nd M i).r).kind=5
 rotate_left
 ·simp [Gw.ins,Gw.look,h0,c0] <;> grind
 simp [Gw.ins,Gw.look,h0,c0]
 try grind
theorem match_2 (M:List Nd) (i:Int):(yc M (schT 2) i []).2=axS M 2 i:=by
 simp only [schT,axS,yc,if_true,show ¬ ((2:Int)=1) by decide,if_false]
 by_cases h0:(nd M i).kind=5
 rotate_left
 ·simp [h0]
 by_cases c0:(nd M (nd M i).l).kind=5
 rotate_left
 ·simp [Gw.ins,Gw.look,h0,c0] <;> grind
 by_cases c1:(nd M (nd M (nd M i).l).r).kind=5
 rotate_left
 ·simp [Gw.ins,Gw.look,h0,c0,c1] <;> grind
 by_cases c2:(nd M (nd M i).r).kind=5
 rotate_left
 ·simp [Gw.ins,Gw.look,h0,c0,c1,c2] <;> grind
 by_cases c3:(nd M (nd M (nd M i).r).l).kind=5
 rotate_left
 ·simp [Gw.ins,Gw.look,h0,c0,c1,c2,c3] <;> grind
 by_cases c4:(nd M (nd M i).l).l=(nd M (nd M (nd M i).r).l).l
 rotate_left
 ·have d4:¬ ((nd M (nd M (nd M i).r).l).l=(nd M (nd M i).l).l):=fun h=>c4 (Eq.symm h); simp [Gw.ins,Gw.look,h0,c0,c1,c2,c3,c4,d4] <;> grind
 by_cases c5:(nd M (nd M (nd M i).l).r).l=(nd M (nd M (nd M i).r).l).r
 rotate_left
 ·have d5:¬ ((nd M (nd M (nd M i).r).l).r=(nd M (nd M (nd M i).l).r).l):=fun h=>c5 (Eq.symm h); simp [Gw.ins,Gw.look,h0,c0,c1,c2,c3,c4,c5,d5] <;> grind
 by_cases c6:(nd M (nd M (nd M i).r).r).kind=5
 rotate_left
 ·simp [Gw.ins,Gw.look,h0,c0,c1,c2,c3,c4,c5,c6] <;> grind
 by_cases c7:(nd M (nd M i).l).l=(nd M (nd M (nd M i).r).r).l
 rotate_left
 ·have d7:¬ ((nd M (nd M (nd M i).r).r).l=(nd M (nd M i).l).l):=fun h=>c7 (Eq.symm h); simp [Gw.ins,Gw.look,h0,c0,c1,c2,c3,c4,c5,c6,c7,d7] <;> grind
 simp [Gw.ins,Gw.look,h0,c0,c1,c2,c3,c4,c5,c6,c7]
 try grind
theorem match_3 (M:List Nd) (i:Int):(yc M (schT 3) i []).2=axS M 3 i:=by
 simp only [schT,axS,yc,if_true,show ¬ ((3:Int)=1) by decide,show ¬ ((3:Int)=2) by decide,if_false]
 by_cases h0:(nd M i).kind=5
 rotate_left
 ·simp [h0]
 by_cases c0:(nd M (nd M i).l).kind=3
 rotate_left
 ·simp [Gw.ins,Gw.look,h0,c0] <;> grind
 simp [Gw.ins,Gw.look,h0,c0]
 try grind
theorem match_4 (M:List Nd) (i:Int):(yc M (schT 4) i []).2=axS M 4 i:=by
 simp only [schT,axS,yc,if_true,show ¬ ((4:Int)=1) by decide,show ¬ ((4:Int)=2) by decide,show ¬ ((4:Int)=3) by decide,if_false]
 by_cases h0:(nd M i).kind=5
 rotate_left
 ·simp [h0]
 by_cases c0:(nd M (nd M i).l).kind=3
 rotate_left
 ·simp [Gw.ins,Gw.look,h0,c0] <;> grind
 simp [Gw.ins,Gw.look,h0,c0]
 try grind
theorem match_5 (M:List Nd) (i:Int):(yc M (schT 5) i []).2=axS M 5 i:=by
 simp only [schT,axS,yc,if_true,show ¬ ((5:Int)=1) by decide,show ¬ ((5:Int)=2) by decide,show ¬ ((5:Int)=3) by decide,show ¬ ((5:Int)=4) by decide,if_false]
 by_cases h0:(nd M i).kind=5
 rotate_left
 ·simp [h0]
 by_cases c0:(nd M (nd M i).r).kind=5
 rotate_left
 ·simp [Gw.ins,Gw.look,h0,c0] <;> grind
 by_cases c1:(nd M (nd M (nd M i).r).r).kind=3
 rotate_left
 ·simp [Gw.ins,Gw.look,h0,c0,c1] <;> grind
 simp [Gw.ins,Gw.look,h0,c0,c1]
 try grind
theorem match_6 (M:List Nd) (i:Int):(yc M (schT 6) i []).2=axS M 6 i:=by
 simp only [schT,axS,yc,if_true,show ¬ ((6:Int)=1) by decide,show ¬ ((6:Int)=2) by decide,show ¬ ((6:Int)=3) by decide,show ¬ ((6:Int)=4) by decide,show ¬ ((6:Int)=5) by decide,if_false]
 by_cases h0:(nd M i).kind=5
 rotate_left
 ·simp [h0]
 by_cases c0:(nd M (nd M i).r).kind=4
 rotate_left
 ·simp [Gw.ins,Gw.look,h0,c0] <;> grind
 simp [Gw.ins,Gw.look,h0,c0]
 try grind
theorem match_7 (M:List Nd) (i:Int):(yc M (schT 7) i []).2=axS M 7 i:=by
 simp only [schT,axS,yc,if_true,show ¬ ((7:Int)=1) by decide,show ¬ ((7:Int)=2) by decide,show ¬ ((7:Int)=3) by decide,show ¬ ((7:Int)=4) by decide,show ¬ ((7:Int)=5) by decide,show ¬ ((7:Int)=6) by decide,if_false]
 by_cases h0:(nd M i).kind=5
 rotate_left
 ·simp [h0]
 by_cases c0:(nd M (nd M i).r).kind=4
 rotate_left
 ·simp [Gw.ins,Gw.look,h0,c0] <;> grind
 simp [Gw.ins,Gw.look,h0,c0]
 try grind
theorem match_8 (M:List Nd) (i:Int):(yc M (schT 8) i []).2=axS M 8 i:=by
 simp only [schT,axS,yc,if_true,show ¬ ((8:Int)=1) by decide,show ¬ ((8:Int)=2) by decide,show ¬ ((8:Int)=3) by decide,show ¬ ((8:Int)=4) by decide,show ¬ ((8:Int)=5) by decide,show ¬ ((8:Int)=6) by decide,show ¬ ((8:Int)=7) by decide,if_false]
 by_cases h0:(nd M i).kind=5
 rotate_left
 ·simp [h0]
 by_cases c0:(nd M (nd M i).l).kind=5
 rotate_left
 ·simp [Gw.ins,Gw.look,h0,c0] <;> grind
 by_cases c1:(nd M (nd M i).r).kind=5
 rotate_left
 ·simp [Gw.ins,Gw.look,h0,c0,c1] <;> grind
 by_cases c2:(nd M (nd M (nd M i).r).l).kind=5
 rotate_left
 ·simp [Gw.ins,Gw.look,h0,c0,c1,c2] <;> grind
 by_cases c3:(nd M (nd M i).l).r=(nd M (nd M (nd M i).r).l).r
 rotate_left
 ·have d3:¬ ((nd M (nd M (nd M i).r).l).r=(nd M (nd M i).l).r):=fun h=>c3 (Eq.symm h); simp [Gw.ins,Gw.look,h0,c0,c1,c2,c3,d3] <;> grind
 by_cases c4:(nd M (nd M (nd M i).r).r).kind=5
 rotate_left
 ·simp [Gw.ins,Gw.look,h0,c0,c1,c2,c3,c4] <;> grind
 by_cases c5:(nd M (nd M (nd M (nd M i).r).r).l).kind=4
 rotate_left
 ·simp [Gw.ins,Gw.look,h0,c0,c1,c2,c3,c4,c5] <;> grind
 by_cases c6:(nd M (nd M i).l).l=(nd M (nd M (nd M (nd M i).r).r).l).l
 rotate_left
 ·have d6:¬ ((nd M (nd M (nd M (nd M i).r).r).l).l=(nd M (nd M i).l).l):=fun h=>c6 (Eq.symm h); simp [Gw.ins,Gw.look,h0,c0,c1,c2,c3,c4,c5,c6,d6] <;> grind
 by_cases c7:(nd M (nd M (nd M i).r).l).l=(nd M (nd M (nd M (nd M i).r).r).l).r
 rotate_left
 ·have d7:¬ ((nd M (nd M (nd M (nd M i).r).r).l).r=(nd M (nd M (nd M i).r).l).l):=fun h=>c7 (Eq.symm h); simp [Gw.ins,Gw.look,h0,c0,c1,c2,c3,c4,c5,c6,c7,d7] <;> grind
 simp [Gw.ins,Gw.look,h0,c0,c1,c2,c3,c4,c5,c6,c7]
 try grind
theorem match_9 (M:List Nd) (i:Int):(yc M (schT 9) i []).2=axS M 9 i:=by
 simp only [schT,axS,yc,if_true,show ¬ ((9:Int)=1) by decide,show ¬ ((9:Int)=2) by decide,show ¬ ((9:Int)=3) by decide,show ¬ ((9:Int)=4) by decide,show ¬ ((9:Int)=5) by decide,show ¬ ((9:Int)=6) by decide,show ¬ ((9:Int)=7) by decide,show ¬ ((9:Int)=8) by decide,if_false]
 by_cases h0:(nd M i).kind=5
 rotate_left
 ·simp [h0]
 by_cases c0:(nd M (nd M i).l).kind=2
 rotate_left
 ·simp [Gw.ins,Gw.look,h0,c0] <;> grind
 simp [Gw.ins,Gw.look,h0,c0]
 try grind
theorem match_ax (M:List Nd) (k i:Int) (hk:1 ≤ k∧k ≤ 9):(yc M (schT k) i []).2=axS M k i:=by
 have h:k=1∨k=2∨k=3∨k=4∨k=5∨k=6∨k=7∨k=8∨k=9:=by omega
 rcases h with rfl | rfl | rfl | rfl | rfl | rfl | rfl | rfl | rfl
 ·exact match_1 M i
 ·exact match_2 M i
 ·exact match_3 M i
 ·exact match_4 M i
 ·exact match_5 M i
 ·exact match_6 M i
 ·exact match_7 M i
 ·exact match_8 M i
 ·exact match_9 M i
theorem sch_enc (k:Int) (hk:1 ≤ k∧k ≤ 9):zct.f k=some ⟨((schT k).enc ++ []).toArray⟩ ∧ (schT k).ok∧(schT k).dep ≤ 10∧(⟨((schT k).enc ++ []).toArray⟩ : ByteArray) ≠ ⟨#[]⟩ := by
 have h:k=1∨k=2∨k=3∨k=4∨k=5∨k=6∨k=7∨k=8∨k=9:=by omega
 rcases h with rfl | rfl | rfl | rfl | rfl | rfl | rfl | rfl | rfl <;> refine ⟨rfl,?_,by decide,by decide⟩ <;> simp [schT,Pt.ok]
theorem fits_ax {M:List Nd} {K:Nat} (hK:10 ≤ K) (k i:Int):zcD.f K (some M) k i=some (some M,axS M k i):=by
 unfold zcD.f
 by_cases hk:1 ≤ k∧k ≤ 9
 ·obtain ⟨h1,h2,h3,h4⟩ := sch_enc k hk
  rw [h1,Option.bind_some,if_neg (by simpa using h4)]
  obtain ⟨q,e1,e2,e3,_⟩ := pat_some M (schT k) h2 K zcb i [] []
  rw [e1,Option.bind_some,e2,e3,match_ax M k i hk]
 ·have h1:zct.f k=some ⟨#[]⟩ := by
   unfold zct.f
   by_cases h0:k=0
   ·subst h0; rfl
   ·rw [if_pos (by simp; omega)]
  have h2:axS M k i=false:=by
   unfold axS
   simp [show ¬ k=1 by omega,show ¬ k=2 by omega,show ¬ k=3 by omega,show ¬ k=4 by omega,show ¬ k=5 by omega,show ¬ k=6 by omega,show ¬ k=7 by omega,show ¬ k=8 by omega,show ¬ k=9 by omega]
  rw [h1,h2]; rfl
theorem has1_loop (n:Int) : ∀ (l:List Int),zcG.f l n=some (l.any fun i=>decide (i < 0) || decide (n ≤ i)):=by
 intro l
 unfold zcG.f zcF.f
 have h1:=zaL (b:=fun i s=>zcF.b0 l n i) (p:=fun j=>decide (l.getD j 0 < 0) || decide (n ≤ l.getD j 0)) (r:=fun j=>(j:Int)) l.length 0 () (by
  intro j _ hj
  unfold zcF.b0 zcE.f at_
  rw [Int.toNat_natCast]
  simp only [Option.bind_some]
  split <;> rfl)
 have e0:(((l.length:Nat):Int) - 0).toNat=l.length:=by omega
 rw [e0,show forN (fun i s=>zcF.b0 l n i) l.length 0 ()=_ from h1,any_find]
 cases hq:(List.range' 0 l.length).find? (fun j=>decide (l.getD j 0 < 0) || decide (n ≤ l.getD j 0)) with
 | none =>
  have:l.find? (fun i=>decide (i < 0) || decide (n ≤ i))=none:=by
   rw [List.find?_eq_none] at hq ⊢
   intro x hx
   obtain ⟨j,hj,rfl⟩ := List.mem_iff_getElem.1 hx
   have:=hq j (by simp; omega)
   simpa [List.getD_eq_getElem?_getD,hj] using this
  rw [this]; rfl
 | some j =>
  have h2:=List.find?_some hq
  have h3:=List.mem_of_find?_eq_some hq
  have hj:j < l.length:=by simpa using h3
  have:(l.find? (fun i=>decide (i < 0) || decide (n ≤ i))).isSome=true:=by
   rw [List.find?_isSome]
   exact ⟨l[j],List.getElem_mem hj,by simpa [List.getD_eq_getElem?_getD,hj] using h2⟩
  rw [this]
  simp [aft]
theorem has_some16 {M:List Nd} (hM:M.Nodup) (l:List Int):zcH.f (some M) l=some (if l.all (fun i=>inb i M.length) then 0 else 31):=by
 have h1:zcr.f (some M)=some (some M):=by simp [zcr.f,chk,hM]
 unfold zcH.f
 rw [h1]
 simp only [Option.bind_some,Option.isNone_some,Bool.false_eq_true,if_false,zcg.f,Option.map_some,has1_loop]
 have h2:(l.any fun i=>decide (i < 0) || decide ((M.length:Int) ≤ i)) = !l.all fun i=>inb i M.length:=by
  rw [List.not_all_eq_any_not]
  congr 1; funext i
  unfold inb
  by_cases a:0 ≤ i <;> by_cases b:i < (M.length:Int) <;> simp [a,b] <;> omega
 rw [h2]
 cases l.all fun i=>inb i M.length <;> rfl
theorem nd_at {M:List Nd} {i:Int} (h:inb i M.length=true):at_ Nd.z M i=nd M i:=by
 have:=zO h
 unfold at_ nd jg vj
 rw [if_pos (by simp; omega)]
end
section
open Gw
end
section
open Gw
theorem wf_nil:Wf []:=⟨by simp,by simp,fun i hi=>absurd (zO hi) zcc,fun i hi=>absurd (zO hi) zcc,fun j n h=>by simp at h⟩
theorem tables16 {rows:List Nd} (hn : ∀ n ∈ rows,n.name.size < 9223372036854775808) (hl:rows.length * 40 ≤ 140737488355328) : ∃ M,zdM.f rows=some (some M,some M)∧Wf M∧(M=rows∨M=[]):=by
 unfold zdM.f
 rcases both_some hn hl with h | ⟨h,hw⟩
 ·exact ⟨[],by rw [h]; rfl,wf_nil,.inr rfl⟩
 ·exact ⟨rows,by rw [h]; rfl,hw,.inl rfl⟩
theorem Wf.l5 {M:List Nd} (h:Wf M) {i:Int} (hi:inb i M.length=true) (k:(nd M i).kind=5):inb (nd M i).l M.length=true:=h.left hi (.inr (.inr k))
theorem Wf.r5 {M:List Nd} (h:Wf M) {i:Int} (hi:inb i M.length=true) (k:(nd M i).kind=5):inb (nd M i).r M.length=true:=h.right hi (.inr (.inr k))
end
section
open Gw
end
section
open Gw
def yQ (M:List Nd) (hyps:List Int) (ls:List Ln) (i:Int):Bool :=
 let x:=at_ Ln.z ls i
 if x.kind=11 then decide (0 ≤ x.a) && decide (x.a < i) && decide (0 ≤ x.b) && decide (x.b < i) && decide ((nd M (at_ Ln.z ls x.a).form).kind=5) && decide ((nd M (at_ Ln.z ls x.a).form).l=(at_ Ln.z ls x.b).form) && decide ((nd M (at_ Ln.z ls x.a).form).r=x.form)
 else decide (x.a=0) && decide (x.b=0) && (if x.kind=10 then hyps.any (fun h=>decide (h=x.form)) else axS M x.kind x.form)
def jv (M:List Nd) (ls:List Ln):Bool:=ls.all fun x=>inb x.form M.length
def uK (M:List Nd) (hyps:List Int) (ls:List Ln):Int :=
 if hyps.all (fun h=>inb h M.length) && jv M ls then (if (List.range' 0 ls.length).all (fun j=>yQ M hyps ls j) && !ls.isEmpty then 0 else 160) else 31
theorem form_in {M:List Nd} {ls:List Ln} (h:jv M ls=true) {j:Int} (hj:inb j ls.length=true):inb (at_ Ln.z ls j).form M.length=true:=by
 have h1:=zO hj
 have h2:at_ Ln.z ls j=ls[j.toNat]'(by omega):=by
  unfold at_; rw [List.getD_eq_getElem?_getD,List.getElem?_eq_getElem zcb]; rfl
 rw [h2]
 exact List.all_eq_true.1 h _ (List.getElem_mem _)
theorem yA {i:Int} {n:Nat} (h0:0 ≤ i) (h1:i < n):inb i n=true:=by simp [inb,h0,h1]
theorem right_prog {M:List Nd} (hw:Wf M) {K:Nat} (hK:10 ≤ K) {hyps:List Int} {m:List (Int × Int)} (hm : ∀ h,(0 < (Gw.look h m).getD 0)↔h ∈ hyps) {ls:List Ln} (hf:jv M ls=true) {i:Int} (hi:inb i ls.length=true) :
  zcJ.f K (some M) m ls i=some (some M,yQ M hyps ls i):=by
 have h1:=zO hi
 unfold zcJ.f yQ
 generalize hx:at_ Ln.z ls i=x
 simp only [chk,hi,if_true]
 by_cases k:x.kind=11
 ·simp only [k,ne_eq,not_true_eq_false,decide_false,Bool.false_eq_true,if_false,if_true]
  have hmin:(if x.b < x.a then x.b else x.a) < 0↔(x.a < 0∨x.b < 0):=by split <;> omega
  have hmax:i ≤ (if x.a < x.b then x.b else x.a)↔(i ≤ x.a∨i ≤ x.b):=by split <;> omega
  by_cases hc:0 ≤ x.a∧x.a < i∧0 ≤ x.b∧x.b < i
  ·have e1:(decide ((if x.b < x.a then x.b else x.a) < 0) || decide (i ≤ if x.a < x.b then x.b else x.a))=false:=by
    rw [decide_eq_false (by rw [hmin]; omega),decide_eq_false (by rw [hmax]; omega)]; rfl
   have e2:inb x.a ls.length=true:=yA hc.1 zcb
   have e3:inb x.b ls.length=true:=yA hc.2.2.1 zcb
   rw [e1]
   simp only [Bool.false_eq_true,if_false,e2,e3,if_true,node_of,Option.bind_some]
   have e4:=form_in hf e2
   have e5:decide ((jg M (at_ Ln.z ls x.a).form).1={ Nd.z with kind:=5,l:=(at_ Ln.z ls x.b).form,r:=x.form })=(decide ((nd M (at_ Ln.z ls x.a).form).kind=5) && decide ((nd M (at_ Ln.z ls x.a).form).l=(at_ Ln.z ls x.b).form) && decide ((nd M (at_ Ln.z ls x.a).form).r=x.form)):=by
    show decide (nd M (at_ Ln.z ls x.a).form=_)=_
    by_cases k5:(nd M (at_ Ln.z ls x.a).form).kind=5
    ·have hb:=hw.bare e4 (.inr (.inr k5))
     cases hn:nd M (at_ Ln.z ls x.a).form with
     | mk kd nm l r =>
      rw [hn] at hb k5
      simp only at hb k5
      subst hb k5
      have:({ Nd.z with kind:=5,l:=(at_ Ln.z ls x.b).form,r:=x.form }:Nd)=⟨5,⟨#[]⟩,(at_ Ln.z ls x.b).form,x.form⟩ := rfl
      rw [this]
      simp [Nd.mk.injEq]
    ·have:¬ nd M (at_ Ln.z ls x.a).form={ Nd.z with kind:=5,l:=(at_ Ln.z ls x.b).form,r:=x.form }:=fun e=>k5 (by rw [e])
     simp [this,k5]
   rw [e5]
   simp [hc]
  ·have e1:(decide ((if x.b < x.a then x.b else x.a) < 0) || decide (i ≤ if x.a < x.b then x.b else x.a))=true:=by
    rw [Bool.or_eq_true,decide_eq_true_eq,decide_eq_true_eq,hmin,hmax]; omega
   rw [e1]
   have e2:(decide (0 ≤ x.a) && decide (x.a < i) && decide (0 ≤ x.b) && decide (x.b < i))=false:=by
    rw [Bool.eq_false_iff]
    simp only [ne_eq,Bool.and_eq_true,decide_eq_true_eq,not_and]; omega
   simp [e2]
 ·simp only [k,ne_eq,not_false_eq_true,decide_true,if_true,if_false]
  by_cases k10:x.kind=10
  ·have e9:axS M 10 x.form=false:=by simp [axS]
   have e8:hyps.any (fun h=>decide (h=x.form))=decide (x.form ∈ hyps):=by
    rw [Bool.eq_iff_iff,List.any_eq_true]
    simp only [decide_eq_true_eq]
    exact ⟨fun ⟨y,h,e⟩ => e ▸ h,fun h=>⟨_,h,rfl⟩⟩
   simp only [k10,decide_true,Bool.true_and,if_true,e8]
   by_cases hp:x.form ∈ hyps
   ·have:=(hm x.form).2 hp
    simp [this,hp]
   ·have:¬ 0 < (Gw.look x.form m).getD 0:=fun q=>hp ((hm _).1 q)
    simp [this,hp,fits_ax hK,e9]
  ·simp [k10,fits_ax hK]
theorem all_range {α:Type} {d:α} {p:α→Bool} (l:List α):l.all p=(List.range' 0 l.length).all fun j=>p (l.getD j d):=by
 rw [Bool.eq_iff_iff,List.all_eq_true,List.all_eq_true]
 constructor
 ·intro h j hj
  have hj:j < l.length:=by simpa using hj
  rw [List.getD_eq_getElem?_getD,List.getElem?_eq_getElem hj]
  exact h _ (List.getElem_mem hj)
 ·intro h x hx
  obtain ⟨j,hj,rfl⟩ := List.mem_iff_getElem.1 hx
  have:=h j (by simp; omega)
  rwa [List.getD_eq_getElem?_getD,List.getElem?_eq_getElem hj] at this
theorem find_all {α:Type} {p:α→Bool} (l:List α):(l.find? fun x => !p x).isSome = !l.all p:=by
 rw [List.not_all_eq_any_not,any_find]
theorem forN_all {σ ρ:Type} {b:Int→σ→Option (Stp σ ρ)} {p:Nat→Bool} {r:ρ} (n:Nat) (s:σ) (h : ∀ j:Nat,j < n→b j s=some (if p j then .go s else .ret r)):forN b n 0 s=some (if (List.range' 0 n).all p then .inl s else .inr r):=by
 have h1:=zaL (b:=b) (p:=fun j => !p j) (r:=fun _=>r) n 0 s (by
  intro j _ hj
  rw [h j zcb]
  cases p j <;> rfl)
 rw [show forN b n 0 s=_ from h1]
 have h2:=find_all (p:=p) (List.range' 0 n)
 cases hq:(List.range' 0 n).find? (fun x => !p x) with
 | none=>rw [hq] at h2; rw [show (List.range' 0 n).all p=true by simpa using h2]; rfl
 | some j=>rw [hq] at h2; rw [show (List.range' 0 n).all p=false by simpa using h2]; rfl
theorem count_map {m:List (Int × Int)} (h v x:Int):(Gw.look x (Gw.ins h v m)).getD 0=if x=h then v else (Gw.look x m).getD 0:=by
 induction m with
 | nil=>by_cases e:x=h <;> simp [Gw.ins,Gw.look,e]
 | cons q m ih =>
  obtain ⟨k,w⟩ := q
  unfold Gw.ins
  by_cases e:h=k
  ·subst e
   by_cases e2:x=h
   ·simp [Gw.look,e2]
   ·simp [Gw.look,e2]
  ·rw [if_neg e]
   unfold Gw.look
   by_cases e2:x=k
   ·subst e2; simp [Ne.symm (a:=h) e]
   ·simp [e2,ih]
theorem hyps_map (hyps:List Int) : ∀ (n i:Nat) (m:List (Int × Int)),i + n=hyps.length→hyps.length < 4611686018427387904→(∀ x,(Gw.look x m).getD 0=((hyps.take i).count x:Int)) →
  ∃ m',forS (fun i s=>zcK.b1 hyps i s) n i m=some m' ∧ ∀ x,(Gw.look x m').getD 0=(hyps.count x:Int)
 | 0,i,m,hi,hb,h=>⟨m,rfl,fun x=>by rw [h,List.take_of_length_le zcb]⟩
 | n + 1,i,m,hi,hb,h=>by
  have hil:i < hyps.length:=by omega
  have he:at_ (0:Int) hyps (i:Int)=hyps[i]:=by
   unfold at_; rw [Int.toNat_natCast,List.getD_eq_getElem?_getD,List.getElem?_eq_getElem hil]; rfl
  simp only [forS,zcK.b1,Option.bind_some]
  refine hyps_map hyps n (i + 1) _ zcb hb fun x=>?_
  rw [he,count_map,h,List.take_succ_eq_append_getElem hil,List.count_append]
  have hc:(hyps.take i).count hyps[i] ≤ hyps.length:=Nat.le_trans List.count_le_length (by simp; omega)
  by_cases e:x=hyps[i]
  ·subst e
   rw [if_pos rfl,wrap_small ⟨by omega,by omega⟩]
   simp
  ·rw [if_neg e,h]
   simp [List.count_singleton,Ne.symm (a:=x) e]
theorem CheckH_some {M:List Nd} (hw:Wf M) {K:Nat} (hK:10 ≤ K) {hyps:List Int} (hb:hyps.length < 4611686018427387904) (ls:List Ln):zcK.f K (some M) hyps ls=some (some M,uK M hyps ls):=by
 unfold zcK.f uK
 rw [has_some16 hw.nodup]
 cases ha:hyps.all (fun h=>inb h M.length) with
 | false=>simp
 | true =>
  simp only [if_true,Option.bind_some,ne_eq,not_true_eq_false,decide_false,Bool.false_eq_true,if_false,Bool.true_and]
  have e0:(((ls.length:Nat):Int) - 0).toNat=ls.length:=by omega
  have e1:(((hyps.length:Nat):Int) - 0).toNat=hyps.length:=by omega
  rw [e0,e1]
  have h1:=forN_all (b:=fun i s=>zcK.b0 (some M) ls i) (p:=fun j=>inb (ls.getD j Ln.z).form M.length) (r:=((some M:Tb),(31:Int))) ls.length () (by
   intro j hj
   unfold zcK.b0 at_
   rw [Int.toNat_natCast,has_some16 hw.nodup]
   simp only [List.all_cons,List.all_nil,Bool.and_true,Option.bind_some]
   cases inb (ls.getD j Ln.z).form M.length <;> rfl)
  rw [h1]
  have hfe:jv M ls=(List.range' 0 ls.length).all fun j=>inb (ls.getD j Ln.z).form M.length:=all_range (d:=Ln.z) ls
  rw [← hfe]
  cases hf:jv M ls with
  | false=>simp [aft]
  | true =>
   simp only [if_true,Option.bind_some,aft]
   obtain ⟨m,h2,h3⟩ := hyps_map hyps hyps.length 0 [] zcb hb (fun x=>by simp [Gw.look])
   rw [show forS (fun i s=>zcK.b1 hyps i s) hyps.length 0 ([]:List (Int × Int))=some m from h2]
   simp only [Option.bind_some]
   have hm : ∀ h,(0 < (Gw.look h m).getD 0)↔h ∈ hyps:=fun h=>by
    rw [h3]
    rw [← List.count_pos_iff]; omega
   have h4:=forN_all (b:=fun i s=>zcK.b2 K m ls i s) (p:=fun j=>yQ M hyps ls j) (r:=((some M:Tb),(160:Int))) ls.length (some M) (by
    intro j hj
    unfold zcK.b2
    rw [right_prog hw hK hm hf (yA zcb zcb)]
    simp only [Option.bind_some]
    cases yQ M hyps ls j <;> rfl)
   rw [h4]
   cases hr:(List.range' 0 ls.length).all (fun j=>yQ M hyps ls j) with
   | false=>simp [aft]
   | true =>
    simp only [if_true,Option.bind_some,aft]
    cases ls with
    | nil=>simp
    | cons x l=>simp; omega
def lastS (ls:List Ln):Int:=(at_ Ln.z ls ((ls.length:Int) - 1)).form
theorem TellsH_some {M:List Nd} (hw:Wf M) {K:Nat} (hK:10 ≤ K) {hyps:List Int} (hb:hyps.length < 4611686018427387904) {ls:List Ln} (hl:ls.length < 4611686018427387904) :
  zcL.f K (some M) hyps ls=some (some M,if uK M hyps ls=0 then lastS ls else 0,uK M hyps ls):=by
 unfold zcL.f
 rw [CheckH_some hw hK hb]
 simp only [Option.bind_some]
 by_cases h:uK M hyps ls=0
 ·have hne:ls ≠ []:=by
   rintro rfl
   unfold uK at h
   split at h <;> simp at h
  have hp:0 < ls.length:=List.length_pos_iff.2 hne
  rw [wrap_small ⟨by omega,by omega⟩]
  have:inb ((ls.length:Int) - 1) ls.length=true:=yA zcb zcb
  simp [h,chk,this,lastS]
 ·simp [h]
end
section
open Gw
end
section
open Gw
inductive Res where
 | ok (t:List Nd) (l:List Ln) (v:Int)
 | no (t:List Nd) (l:List Ln) (e:Int)
def Res.bind (r:Res) (k:List Nd→List Ln→Int→Res):Res:=match r with
 | .ok t l v=>k t l v
 | .no t l e => .no t l e
abbrev Act:=List Nd→List Ln→Res
def Act.then (a:Act) (k:Int→Act):Act:=fun t l=>(a t l).bind fun t l v=>k v t l
def impR (a b:Int):Act:=fun t l=>if (putS t (impN a b)).2.2=0 then .ok (putS t (impN a b)).1 l (putS t (impN a b)).2.1 else .no t l (putS t (impN a b)).2.2
def zaq (x:Ln):Act:=fun t l=>if 4096 ≤ l.length then .no t l 150 else .ok t (l ++ [x]) l.length
def mpR (a b:Int):Act:=fun t l=>zaq ⟨11,(nd t (at_ Ln.z l a).form).r,a,b⟩ t l
def axR (k f:Int):Act:=zaq ⟨k,f,0,0⟩
def kR (a b:Int):Act:=(impR b a).then fun x=>(impR a x).then fun y=>axR 1 y
def sR (a b c:Int):Act:=(impR b c).then fun x1=>(impR a x1).then fun x=>(impR a b).then fun y=>(impR a c).then fun z=>(impR y z).then fun u=>(impR x u).then fun f=>axR 2 f
-- what is kept
theorem y8 {t t':List Nd} (h:t <+: t') {i:Int} (hi:inb i t.length=true):nd t' i=nd t i:=by
 obtain ⟨r,rfl⟩ := h
 have h1:=zO hi
 have h2:i.toNat < t.length:=by omega
 unfold nd jg vj
 rw [if_pos (by simp; omega),if_pos (by simp; omega)]
 simp only
 rw [List.getD_eq_getElem?_getD,List.getElem?_append_left h2,← List.getD_eq_getElem?_getD]
theorem ud {α:Type} {t t':List α} (h:t <+: t') {i:Int} (hi:inb i t.length=true):inb i t'.length=true:=by
 have h1:=zO hi
 have h2:=h.length_le
 exact yA h1.1 zcb
theorem putZ {t:List Nd} {n:Nd} (hw:Wf t) (he:(putS t n).2.2=0):t <+: (putS t n).1∧Wf (putS t n).1∧inb (putS t n).2.1 (putS t n).1.length=true∧nd (putS t n).1 (putS t n).2.1=n:=by
 by_cases hf:vg t n=0
 ·cases hk:t.idxOf? n with
  | some k =>
   rw [put_old hf hk]
   obtain ⟨hlt,hget,_⟩ := List.idxOf?_eq_some_iff.1 hk
   refine ⟨List.prefix_refl _,hw,yA zcc (by simpa using hlt),?_⟩
   unfold nd jg vj
   rw [if_pos (by simp; exact hlt)]
   simp [List.getD_eq_getElem?_getD,hlt]
   simpa using hget
  | none =>
   by_cases hl:1024 ≤ t.length
   ·rw [put_full hf hk hl] at he; simp at he
   ·rw [put_new hf hk hl]
    refine ⟨List.prefix_append _ _,wf_push hw hf zcb (List.idxOf?_eq_none_iff.1 hk),yA zcc (by simp; omega),?_⟩
    unfold nd jg vj
    rw [if_pos (by simp; omega)]
    simp
 ·rw [put_bad hf] at he; exact absurd he hf
theorem put_no {t:List Nd} {n:Nd} (he:(putS t n).2.2 ≠ 0):(putS t n).1=t:=by
 by_cases hf:vg t n=0
 ·cases hk:t.idxOf? n with
  | some k=>rw [put_old hf hk] at he; simp at he
  | none =>
   by_cases hl:1024 ≤ t.length
   ·rw [put_full hf hk hl]
   ·rw [put_new hf hk hl] at he; simp at he
 ·rw [put_bad hf]
def Grown (t t':List Nd):Prop:=t <+: t'∧Wf t'
theorem Grown.trans {a b c:List Nd} (h:Grown a b) (k:Grown b c):Grown a c:=⟨h.1.trans k.1,k.2⟩
theorem Grown.refl {t:List Nd} (h:Wf t):Grown t t:=⟨List.prefix_refl _,h⟩
def Imp (t:List Nd) (v a b:Int):Prop:=inb v t.length=true∧nd t v=impN a b
theorem Imp.pre {t t':List Nd} {v a b:Int} (h:Imp t v a b) (g:t <+: t'):Imp t' v a b:=⟨ud g h.1,by rw [y8 g h.1]; exact h.2⟩
theorem vy {t t':List Nd} {l l':List Ln} {a b v:Int} (hw:Wf t) (h:impR a b t l = .ok t' l' v):Grown t t'∧l'=l∧Imp t' v a b:=by
 unfold impR at h
 split at h
 ·rename_i he
  obtain ⟨h1,h2,h3,h4⟩ := putZ hw he
  cases h
  exact ⟨⟨h1,h2⟩,rfl,h3,h4⟩
 ·cases h
theorem then_ok {a:Act} {k:Int→Act} {t t':List Nd} {l l':List Ln} {v:Int} (h:(a.then k) t l = .ok t' l' v) : ∃ t1 l1 v1,a t l = .ok t1 l1 v1∧k v1 t1 l1 = .ok t' l' v:=by
 unfold Act.then Res.bind at h
 cases ha:a t l with
 | ok t1 l1 v1=>rw [ha] at h; exact ⟨_,_,_,rfl,h⟩
 | no t1 l1 e=>rw [ha] at h; cases h
theorem jF {x:Ln} {t t':List Nd} {l l':List Ln} {v:Int} (h:zaq x t l = .ok t' l' v):t'=t∧l'=l ++ [x]∧v=l.length∧l.length < 4096:=by
 unfold zaq at h
 split at h
 ·cases h
 ·cases h; exact ⟨rfl,rfl,rfl,by omega⟩
theorem kR_ok {a b v:Int} {t t':List Nd} {l l':List Ln} (hw:Wf t) (h:kR a b t l = .ok t' l' v) : ∃ f g,Grown t t'∧l'=l ++ [⟨1,f,0,0⟩]∧v=l.length∧l.length < 4096∧Imp t' f a g∧Imp t' g b a:=by
 obtain ⟨t1,l1,x,h1,k1⟩ := then_ok h
 obtain ⟨t2,l2,y,h2,k2⟩ := then_ok k1
 clear h k1
 obtain ⟨g1,rfl,i1⟩ := vy hw h1
 obtain ⟨g2,rfl,i2⟩ := vy g1.2 h2
 obtain ⟨rfl,rfl,rfl,hl⟩ := jF (show zaq _ _ _=_ from k2)
 exact ⟨y,x,g1.trans g2,rfl,rfl,hl,i2,i1.pre g2.1⟩
theorem sR_ok {a b c v:Int} {t t':List Nd} {l l':List Ln} (hw:Wf t) (h:sR a b c t l = .ok t' l' v) : ∃ f x x1 u y z,Grown t t'∧l'=l ++ [⟨2,f,0,0⟩]∧v=l.length∧l.length < 4096∧Imp t' f x u∧Imp t' x a x1∧Imp t' x1 b c∧Imp t' u y z∧Imp t' y a b∧Imp t' z a c:=by
 obtain ⟨t1,l1,x1,h1,k1⟩ := then_ok h
 obtain ⟨t2,l2,x,h2,k2⟩ := then_ok k1
 obtain ⟨t3,l3,y,h3,k3⟩ := then_ok k2
 obtain ⟨t4,l4,z,h4,k4⟩ := then_ok k3
 obtain ⟨t5,l5,u,h5,k5⟩ := then_ok k4
 obtain ⟨t6,l6,f,h6,k6⟩ := then_ok k5
 clear h k1 k2 k3 k4 k5
 obtain ⟨g1,rfl,i1⟩ := vy hw h1
 obtain ⟨g2,rfl,i2⟩ := vy g1.2 h2
 obtain ⟨g3,rfl,i3⟩ := vy g2.2 h3
 obtain ⟨g4,rfl,i4⟩ := vy g3.2 h4
 obtain ⟨g5,rfl,i5⟩ := vy g4.2 h5
 obtain ⟨g6,rfl,i6⟩ := vy g5.2 h6
 obtain ⟨rfl,rfl,rfl,hl⟩ := jF (show zaq _ _ _=_ from k6)
 have p2:=g2.1.trans (g3.1.trans (g4.1.trans (g5.1.trans g6.1)))
 have p3:=g3.1.trans (g4.1.trans (g5.1.trans g6.1))
 have p4:=g4.1.trans (g5.1.trans g6.1)
 have p5:=g5.1.trans g6.1
 exact ⟨f,x,x1,u,y,z,((((g1.trans g2).trans g3).trans g4).trans g5).trans g6,rfl,rfl,hl,i6,i2.pre p3,i1.pre p2,i5.pre g6.1,i3.pre p4,i4.pre p5⟩
-- the program and the document do so
section
variable {μ:Type} (mk:Tb→List Ln→Int→μ)
def Tell (x:Option (μ × Int)):Res→Prop
 | .ok t l v=>(l.length ≤ 4096∧t.length ≤ 1024)∧x=some (mk (some t) l 0,v)
 | .no t l e=>e ≠ 0 ∧ ∃ v,x=some (mk (some t) l e,v)
def jW (f:μ→Option (μ × Int)):Prop := ∀ t l e,e ≠ 0 → ∃ v,f (mk (some t) l e)=some (mk (some t) l e,v)
variable {mk}
theorem Tell.bind {x:Option (μ × Int)} {r:Res} {g:μ × Int→Option (μ × Int)} {k:List Nd→List Ln→Int→Res} (h:Tell mk x r) (hg : ∀ t l v,r = .ok t l v→l.length ≤ 4096→t.length ≤ 1024→Tell mk (g (mk (some t) l 0,v)) (k t l v)) (hs : ∀ t l e v,e ≠ 0 → ∃ v',g (mk (some t) l e,v)=some (mk (some t) l e,v')):Tell mk (x.bind g) (r.bind k):=by
 cases r with
 | ok t l v =>
  obtain ⟨⟨h1,h2⟩,rfl⟩ := h
  exact hg t l v rfl h1 h2
 | no t l e =>
  obtain ⟨he,v,rfl⟩ := h
  exact ⟨he,hs t l e v he⟩
theorem Tell.ret {x:Option (μ × Int)} {r:Res} (h:Tell mk x r):Tell mk (x.bind fun q=>some (q.1,q.2)) r:=by
 cases x with
 | none=>cases r with
  | ok t l v=>exact absurd h.2 zcc
  | no t l e=>obtain ⟨_,v,h⟩ := h; cases h
 | some q=>exact h
theorem jW.ret {f:μ→Option (μ × Int)} (h:jW mk f):jW mk fun m=>(f m).bind fun q=>some (q.1,q.2):=fun t l e he=>by
 obtain ⟨v,h1⟩ := h t l e he
 exact ⟨v,by simp only [h1,Option.bind_some]⟩
end
abbrev mkP (t:Tb) (l:List Ln) (e:Int):PMaker:=⟨t,l,e⟩
theorem impN_eq (a b:Int):({ Nd.z with kind:=5,l:=a,r:=b }:Nd)=impN a b:=rfl
theorem small0:(impN 0 0).name.size < 9223372036854775808:=by decide
theorem uF {t:List Nd} {l:List Ln} (ht:Wf t) (hl:l.length ≤ 4096) (a b:Int):Tell mkP (zcN.f ⟨some t,l,0⟩ a b) (impR a b t l):=by
 have h1:zcN.f ⟨some t,l,0⟩ a b=some (⟨some (putS t (impN a b)).1,l,(putS t (impN a b)).2.2⟩,(putS t (impN a b)).2.1):=by
  unfold zcN.f zcM.f
  simp only [ne_eq,not_true_eq_false,decide_false,Bool.false_eq_true,if_false,impN_eq,progPut (n:=impN a b) small0,Option.bind_some]
 rw [h1]
 unfold impR
 split
 ·rename_i he
  rw [he]
  exact ⟨⟨hl,(putZ ht he).2.1.len⟩,rfl⟩
 ·rename_i he
  exact ⟨he,_,by rw [put_no he]⟩
theorem xx (a b:Int):jW mkP (fun m=>zcN.f m a b):=fun t l e he=>⟨0,by simp [zcN.f,zcM.f,he]⟩
theorem lineP_tell {t:List Nd} {l:List Ln} (ht:Wf t) (hl:l.length ≤ 4096) (x:Ln):Tell mkP (zcO.f ⟨some t,l,0⟩ x) (zaq x t l):=by
 unfold zcO.f zaq
 by_cases h:4096 ≤ l.length
 ·have h1:(l.length:Int)=4096:=by omega
  rw [if_pos h]
  refine ⟨by decide,IntKind.i64.wrap ((l.length:Int) - 1),?_⟩
  simp [h1]
 ·have h1:¬ (l.length:Int)=4096:=by omega
  have h2:(l.length + 1) * 32 ≤ 140737488355328:=by omega
  rw [if_neg h]
  refine ⟨⟨by simp; omega,ht.len⟩,?_⟩
  simp only [h1,decide_true,decide_false,Bool.and_false,Bool.false_eq_true,if_false,Option.bind_some,if_true,h2,chk]
  rw [wrap_small (by simp; omega)]
  simp
theorem lineP_still (x:Ln):jW mkP (fun m=>zcO.f m x):=fun t l e he=>by
 unfold zcO.f
 exact ⟨_,by simp [he]; rfl⟩
theorem zbW {t:List Nd} {l:List Ln} (ht:Wf t) (hl:l.length ≤ 4096) {a b:Int} (ha:inb a l.length=true):Tell mkP (zcP.f ⟨some t,l,0⟩ a b) (mpR a b t l):=by
 unfold zcP.f mpR
 simp only [ne_eq,not_true_eq_false,decide_false,Bool.false_eq_true,if_false,chk,ha,if_true,node_of,Option.bind_some]
 exact (lineP_tell ht hl _).ret
theorem zZ (a b:Int):jW mkP (fun m=>zcP.f m a b):=fun t l e he=>⟨0,by simp [zcP.f,he]⟩
theorem axP_tell {t:List Nd} {l:List Ln} (ht:Wf t) (hl:l.length ≤ 4096) (k f:Int):Tell mkP (zcQ.f ⟨some t,l,0⟩ k f) (axR k f t l):=(lineP_tell ht hl _).ret
theorem yo (k f:Int):jW mkP (fun m=>zcQ.f m k f):=(lineP_still _).ret
theorem jW.two {μ:Type} {mk:Tb→List Ln→Int→μ} {f:μ→Option (μ × Int)} {g:μ × Int→Option (μ × Int)} (h:jW mk f) (hg : ∀ v,jW mk fun m=>g (m,v)):jW mk fun m=>(f m).bind g:=fun t l e he=>by
 obtain ⟨v,h1⟩ := h t l e he
 obtain ⟨v2,h2⟩ := hg v t l e he
 exact ⟨v2,by simp only [h1,Option.bind_some]; exact h2⟩
theorem Tell.two {μ:Type} {mk:Tb→List Ln→Int→μ} {x:Option (μ × Int)} {r:Res} {g:μ × Int→Option (μ × Int)} {k:List Nd→List Ln→Int→Res} (h:Tell mk x r) (hs : ∀ v,jW mk fun m=>g (m,v)) (hg : ∀ t l v,r = .ok t l v→l.length ≤ 4096→t.length ≤ 1024→Tell mk (g (mk (some t) l 0,v)) (k t l v)):Tell mk (x.bind g) (r.bind k) :=
 h.bind hg fun t l e v he=>hs v t l e he
theorem kP_tell {t:List Nd} {l:List Ln} (ht:Wf t) (hl:l.length ≤ 4096) (a b:Int):Tell mkP (zcR.f ⟨some t,l,0⟩ a b) (kR a b t l):=by
 refine (uF ht hl b a).two (fun v=>(xx _ _).two fun v=>(yo _ _).ret) fun t1 l1 v1 h1 b1 _=>?_
 obtain ⟨g1,_,_⟩ := vy ht h1
 refine (uF g1.2 b1 a v1).two (fun v=>(yo _ _).ret) fun t2 l2 v2 h2 b2 _=>?_
 obtain ⟨g2,_,_⟩ := vy g1.2 h2
 exact (axP_tell g2.2 b2 1 v2).ret
theorem zbe (a b:Int):jW mkP (fun m=>zcR.f m a b):=(xx _ _).two fun v=>(xx _ _).two fun v=>(yo _ _).ret
theorem sP_tell {t:List Nd} {l:List Ln} (ht:Wf t) (hl:l.length ≤ 4096) (a b c:Int):Tell mkP (zcS.f ⟨some t,l,0⟩ a b c) (sR a b c t l):=by
 refine (uF ht hl b c).two (fun _=>by dsimp only; repeat (first | exact (yo _ _).ret | (refine (xx _ _).two fun _=>?_; dsimp only))) fun t1 l1 v1 h1 b1 _=>?_
 obtain ⟨g1,_,_⟩ := vy ht h1
 refine (uF g1.2 b1 a v1).two (fun _=>by dsimp only; repeat (first | exact (yo _ _).ret | (refine (xx _ _).two fun _=>?_; dsimp only))) fun t2 l2 v2 h2 b2 _=>?_
 obtain ⟨g2,_,_⟩ := vy g1.2 h2
 refine (uF g2.2 b2 a b).two (fun _=>by dsimp only; repeat (first | exact (yo _ _).ret | (refine (xx _ _).two fun _=>?_; dsimp only))) fun t3 l3 v3 h3 b3 _=>?_
 obtain ⟨g3,_,_⟩ := vy g2.2 h3
 refine (uF g3.2 b3 a c).two (fun _=>by dsimp only; repeat (first | exact (yo _ _).ret | (refine (xx _ _).two fun _=>?_; dsimp only))) fun t4 l4 v4 h4 b4 _=>?_
 obtain ⟨g4,_,_⟩ := vy g3.2 h4
 refine (uF g4.2 b4 v3 v4).two (fun _=>by dsimp only; repeat (first | exact (yo _ _).ret | (refine (xx _ _).two fun _=>?_; dsimp only))) fun t5 l5 v5 h5 b5 _=>?_
 obtain ⟨g5,_,_⟩ := vy g4.2 h5
 refine (uF g5.2 b5 v2 v5).two (fun _=>(yo _ _).ret) fun t6 l6 v6 h6 b6 _=>?_
 obtain ⟨g6,_,_⟩ := vy g5.2 h6
 exact (axP_tell g6.2 b6 2 v6).ret
theorem sP_still (a b c:Int):jW mkP (fun m=>zcS.f m a b c):=by unfold zcS.f; repeat (first | exact (yo _ _).ret | (refine (xx _ _).two fun _=>?_; dsimp only))
-- the document
end
section
open Gw
theorem ax_pre {t t':List Nd} (hw:Wf t) (g:t <+: t') {k i:Int} (hi:inb i t.length=true) (h:axS t k i=true):axS t' k i=true:=by
 have e0:=y8 g hi
 have k0:(nd t i).kind=5:=by
  unfold axS at h
  simp only [Bool.and_eq_true,decide_eq_true_eq] at h
  exact h.1
 have hl:=hw.l5 hi k0
 have hr:=hw.r5 hi k0
 have e1:=y8 g hl
 have e2:=y8 g hr
 unfold axS at h ⊢
 simp only [e0,e1,e2] at h ⊢
 by_cases y5:(nd t (nd t i).r).kind=5
 ·have h3:=hw.l5 hr y5
  have h4:=hw.r5 hr y5
  have e3:=y8 g h3
  have e4:=y8 g h4
  simp only [e3,e4] at h ⊢
  by_cases x5:(nd t (nd t i).l).kind=5
  ·have e5:=y8 g (hw.r5 hl x5)
   simp only [e5] at h ⊢
   by_cases c5:(nd t (nd t (nd t i).r).r).kind=5
   ·have e6:=y8 g (hw.l5 h4 c5)
    simp only [e6] at h ⊢; exact h
   ·simp only [c5,decide_false,Bool.false_and,Bool.and_false] at h ⊢; exact h
  ·simp only [x5,decide_false,Bool.false_and,Bool.and_false] at h ⊢; exact h
 ·simp only [y5,decide_false,Bool.false_and] at h ⊢; exact h
theorem jE {t:List Nd} (hw:Wf t) {u v a b:Int} (h:Imp t u a b) (k:Imp t v a b):u=v:=by
 have h1:=zO h.1
 have h2:=zO k.1
 have e1 : ∀ {i:Int},inb i t.length=true → ∃ (hi:i.toNat < t.length),nd t i=t[i.toNat]:=fun {i} hi=>by
  have:=zO hi
  have hlt:i.toNat < t.length:=by omega
  refine ⟨hlt,?_⟩
  rw [← nd_at hi]; unfold at_; simp [List.getD_eq_getElem?_getD,hlt]
 obtain ⟨l1,q1⟩ := e1 h.1
 obtain ⟨l2,q2⟩ := e1 k.1
 have:t[u.toNat]=t[v.toNat]:=by rw [← q1,← q2,h.2,k.2]
 have:=(List.getElem_inj hw.nodup).1 this
 omega
theorem at_pre {l l':List Ln} (h:l <+: l') {i:Int} (hi:inb i l.length=true):at_ Ln.z l' i=at_ Ln.z l i:=by
 obtain ⟨r,rfl⟩ := h
 have h1:=zO hi
 have h2:i.toNat < l.length:=by omega
 unfold at_
 rw [List.getD_eq_getElem?_getD,List.getElem?_append_left h2,← List.getD_eq_getElem?_getD]
def HasF (l:List Ln) (v f:Int):Prop:=inb v l.length=true∧(at_ Ln.z l v).form=f
theorem HasF.pre {l l':List Ln} {v f:Int} (h:HasF l v f) (g:l <+: l'):HasF l' v f:=⟨ud g h.1,by rw [at_pre g h.1]; exact h.2⟩
theorem HasF.last (l:List Ln) (x:Ln):HasF (l ++ [x]) l.length x.form:=⟨yA zcb (by simp; omega),by unfold at_; simp⟩
def All (t:List Nd) (hy:List Int) (l:List Ln):Prop:=jv t l=true ∧ ∀ j:Int,inb j l.length=true→yQ t hy l j=true
theorem right_pre {t:List Nd} {hy:List Int} {l l':List Ln} (g:l <+: l') {j:Int} (hj:inb j l.length=true) (h:yQ t hy l j=true):yQ t hy l' j=true:=by
 have h1:=zO hj
 unfold yQ at h ⊢
 rw [at_pre g hj]
 by_cases k:(at_ Ln.z l j).kind=11
 ·simp only [k,if_true,Bool.and_eq_true,decide_eq_true_eq] at h ⊢
  obtain ⟨⟨⟨⟨⟨⟨a0,a1⟩,b0⟩,b1⟩,c⟩,d⟩,e⟩ := h
  have ia:inb (at_ Ln.z l j).a l.length=true:=yA a0 zcb
  have ib:inb (at_ Ln.z l j).b l.length=true:=yA b0 zcb
  rw [at_pre g ia,at_pre g ib]
  exact ⟨⟨⟨⟨⟨⟨a0,a1⟩,b0⟩,b1⟩,c⟩,d⟩,e⟩
 ·simp only [k,if_false] at h ⊢; exact h
theorem right_grow {t t':List Nd} (hw:Wf t) (g:t <+: t') {hy:List Int} {l:List Ln} (hf:jv t l=true) {j:Int} (hj:inb j l.length=true) (h:yQ t hy l j=true):yQ t' hy l j=true:=by
 have h1:=zO hj
 unfold yQ at h ⊢
 by_cases k:(at_ Ln.z l j).kind=11
 ·simp only [k,if_true,Bool.and_eq_true,decide_eq_true_eq] at h ⊢
  obtain ⟨⟨⟨⟨⟨⟨a0,a1⟩,b0⟩,b1⟩,c⟩,d⟩,e⟩ := h
  have ia:inb (at_ Ln.z l j).a l.length=true:=yA a0 zcb
  rw [y8 g (form_in hf ia)]
  exact ⟨⟨⟨⟨⟨⟨a0,a1⟩,b0⟩,b1⟩,c⟩,d⟩,e⟩
 ·simp only [k,if_false,Bool.and_eq_true] at h ⊢
  refine ⟨h.1,?_⟩
  by_cases k10:(at_ Ln.z l j).kind=10
  ·rw [if_pos k10] at h ⊢; exact h.2
  ·rw [if_neg k10] at h ⊢
   exact ax_pre hw g (form_in hf hj) h.2
theorem forms_grow {t t':List Nd} (g:t <+: t') {l:List Ln} (h:jv t l=true):jv t' l=true :=
 List.all_eq_true.2 fun x hx=>ud g (List.all_eq_true.1 h x hx)
theorem All.grow {t t':List Nd} {hy:List Int} {l:List Ln} (h:All t hy l) (hw:Wf t) (g:t <+: t'):All t' hy l:=⟨forms_grow g h.1,fun j hj=>right_grow hw g h.1 hj (h.2 j hj)⟩
theorem All.push {t:List Nd} {hy:List Int} {l:List Ln} {x:Ln} (h:All t hy l) (hx:inb x.form t.length=true) (hr:yQ t hy (l ++ [x]) l.length=true):All t hy (l ++ [x]):=by
 refine ⟨?_,fun j hj=>?_⟩
 ·unfold jv
  rw [List.all_append]
  simp only [List.all_cons,List.all_nil,Bool.and_true,Bool.and_eq_true]
  exact ⟨h.1,hx⟩
 ·by_cases e:j=l.length
  ·rw [e]; exact hr
  ·have h1:=zO hj
   simp at h1
   have hj':inb j l.length=true:=yA h1.1 zcb
   exact right_pre (List.prefix_append _ _) hj' (h.2 j hj')
theorem at_last (l:List Ln) (x:Ln):at_ Ln.z (l ++ [x]) l.length=x:=by unfold at_; simp
theorem right_ax {t:List Nd} {hy:List Int} {l:List Ln} {k f:Int} (hk:k ≠ 11∧k ≠ 10) (h:axS t k f=true):yQ t hy (l ++ [⟨k,f,0,0⟩]) l.length=true:=by
 unfold yQ
 rw [at_last]
 simp [hk.1,hk.2,h]
structure Goes (t:List Nd) (hy:List Int) (l:List Ln) (t':List Nd) (l':List Ln):Prop where
 grown:Grown t t'
 pre:l <+: l'
 all:All t' hy l'
theorem Goes.trans {t t' t'':List Nd} {hy:List Int} {l l' l'':List Ln} (h:Goes t hy l t' l') (k:Goes t' hy l' t'' l''):Goes t hy l t'' l'':=⟨h.grown.trans k.grown,h.pre.trans k.pre,k.all⟩
theorem k_step {t t':List Nd} {hy:List Int} {l l':List Ln} {a b v:Int} (hw:Wf t) (ha:All t hy l) (h:kR a b t l = .ok t' l' v):Goes t hy l t' l'∧v + 1=l'.length ∧ ∃ f g,HasF l' v f∧Imp t' f a g∧Imp t' g b a:=by
 obtain ⟨f,g,h1,rfl,rfl,_,i1,i2⟩ := kR_ok hw h
 refine ⟨⟨h1,List.prefix_append _ _,(ha.grow hw h1.1).push i1.1 (right_ax zca ?_)⟩,by simp,f,g,HasF.last _ _,i1,i2⟩
 unfold axS
 simp [i1.2,i2.2,impN]
theorem s_step {t t':List Nd} {hy:List Int} {l l':List Ln} {a b c v:Int} (hw:Wf t) (ha:All t hy l) (h:sR a b c t l = .ok t' l' v):Goes t hy l t' l'∧v + 1=l'.length ∧ ∃ f x x1 u y z,HasF l' v f∧Imp t' f x u∧Imp t' x a x1∧Imp t' x1 b c∧Imp t' u y z∧Imp t' y a b∧Imp t' z a c:=by
 obtain ⟨f,x,x1,u,y,z,h1,rfl,rfl,_,i1,i2,i3,i4,i5,i6⟩ := sR_ok hw h
 refine ⟨⟨h1,List.prefix_append _ _,(ha.grow hw h1.1).push i1.1 (right_ax zca ?_)⟩,by simp,f,x,x1,u,y,z,HasF.last _ _,i1,i2,i3,i4,i5,i6⟩
 unfold axS
 simp [i1.2,i2.2,i3.2,i4.2,i5.2,i6.2,impN]
theorem mp_step {t t':List Nd} {hy:List Int} {l l':List Ln} {a b f g c v:Int} (hw:Wf t) (ha:All t hy l) (h1:HasF l a f) (h2:HasF l b g) (hi:Imp t f g c) (h:mpR a b t l = .ok t' l' v):t'=t∧Goes t hy l t l'∧v + 1=l'.length∧HasF l' v c:=by
 unfold mpR at h
 obtain ⟨q1,q2,q3,_⟩ := jF h
 rw [q1,q2,q3]
 clear h q1 q2 q3
 have e:(nd t (at_ Ln.z l a).form).r=c:=by rw [h1.2,hi.2]; rfl
 have hc:inb c t.length=true:=by
  have:=hw.r5 hi.1 (by rw [hi.2]; rfl)
  rwa [hi.2] at this
 refine ⟨rfl,⟨Grown.refl hw,List.prefix_append _ _,ha.push (by rw [e]; exact hc) ?_⟩,by simp,?_⟩
 ·have q1:=zO h1.1
  have q2:=zO h2.1
  unfold yQ
  rw [at_last]
  simp only [if_true,at_pre (List.prefix_append l _) h1.1,at_pre (List.prefix_append l _) h2.1,Bool.and_eq_true,decide_eq_true_eq]
  exact ⟨⟨⟨⟨⟨⟨q1.1,q1.2⟩,q2.1⟩,q2.2⟩,by rw [h1.2,hi.2]; rfl⟩,by rw [h1.2,hi.2,h2.2]; rfl⟩,trivial⟩
 ·have:=HasF.last l ⟨11,(nd t (at_ Ln.z l a).form).r,a,b⟩
  rwa [e] at this ⊢
-- the deduction
def zbX (ls:List Ln) (img:List Int) (h i:Int):Act :=
 let x:=at_ Ln.z ls i
 if x.form=h then (impR h h).then fun hh=>(sR h hh h).then fun s=>(kR h hh).then fun k=>(mpR s k).then fun p=>(kR h h).then fun k2=>mpR p k2
 else if x.kind=11 then (sR h (at_ Ln.z ls x.b).form x.form).then fun s=>(mpR s (at_ 0 img x.a)).then fun p=>mpR p (at_ 0 img x.b)
 else (zaq x).then fun a=>(kR x.form h).then fun k=>mpR k a
def dedR (ls:List Ln) (h:Int):Nat→Nat→List Int→Act
 | 0,_,_=>fun t l => .ok t l 0
 | n + 1,i,img=>fun t l=>(zbX ls img h i t l).bind fun t' l' v=>dedR ls h n (i + 1) (img.set i v) t' l'
def Imgs (ls:List Ln) (h:Int) (t:List Nd) (l:List Ln) (img:List Int) (i:Nat):Prop := ∀ j:Nat,j < i → ∃ f,HasF l (at_ 0 img j) f∧Imp t f h (at_ Ln.z ls j).form
theorem step_ok {M t t':List Nd} {hyps:List Int} {ls l l':List Ln} {img:List Int} {h v:Int} {i:Nat} (hM:Wf M) (hf:jv M ls=true) (hi:i < ls.length) (hr:yQ M hyps ls i=true) (hg:Grown M t) (hh:inb h M.length=true)
  (ha:All t (hyps.filter fun x=>x ≠ h) l) (him:Imgs ls h t l img i) (hs:zbX ls img h i t l = .ok t' l' v) :
  Goes t (hyps.filter fun x=>x ≠ h) l t' l'∧v + 1=l'.length ∧ ∃ f,HasF l' v f∧Imp t' f h (at_ Ln.z ls i).form:=by
 have hw:=hg.2
 have hin:inb (i:Int) ls.length=true:=yA zcb zcb
 unfold zbX at hs
 generalize hx:at_ Ln.z ls i=x at *
 by_cases c1:x.form=h
 ·rw [if_pos c1] at hs
  obtain ⟨t1,l1,hh1,s1,k1⟩ := then_ok hs
  obtain ⟨t2,l2,sv,s2,k2⟩ := then_ok k1
  obtain ⟨t3,l3,kv,s3,k3⟩ := then_ok k2
  obtain ⟨t4,l4,pv,s4,k4⟩ := then_ok k3
  obtain ⟨t5,l5,k2v,s5,k5⟩ := then_ok k4
  clear hs k1 k2 k3 k4
  obtain ⟨g1,rfl,i1⟩ := vy hw s1
  have a1:=ha.grow hw g1.1
  obtain ⟨st2,_,f2,X,X1,U,Y,Z,F2,j1,j2,j3,j4,j5,j6⟩ := s_step g1.2 a1 s2
  obtain ⟨st3,_,f3,G,F3,m1,m2⟩ := k_step st2.grown.2 st2.all s3
  have w3:=st3.grown.2
  have p23:=st3.grown.1
  have eX1:X1=G:=jE w3 (j3.pre p23) m2
  subst eX1
  have eX:X=f3:=jE w3 (j2.pre p23) m1
  subst eX
  obtain ⟨rfl,st4,_,F4⟩ := mp_step w3 st3.all (F2.pre st3.pre) F3 (j1.pre p23) s4
  obtain ⟨st5,_,f5,G2,F5,n1,n2⟩ := k_step w3 st4.all s5
  have w5:=st5.grown.2
  have p35:=st5.grown.1
  have e1:hh1=G2:=jE w5 (i1.pre (st2.grown.1.trans (p23.trans p35))) n2
  subst e1
  have e2:Y=f5:=jE w5 (j5.pre (p23.trans p35)) n1
  subst e2
  obtain ⟨rfl,st6,e6,F6⟩ := mp_step w5 st5.all (F4.pre st5.pre) F5 (j4.pre (p23.trans p35)) k5
  have st1:Goes t (hyps.filter fun x=>x ≠ h) l1 t1 l1:=⟨g1,List.prefix_refl _,a1⟩
  exact ⟨((((st1.trans st2).trans st3).trans st4).trans st5).trans st6,e6,Z,F6,by rw [c1]; exact j6.pre (p23.trans p35)⟩
 rw [if_neg c1] at hs
 by_cases c2:x.kind=11
 ·rw [if_pos c2] at hs
  unfold yQ at hr
  rw [hx] at hr
  simp only [c2,if_true,Bool.and_eq_true,decide_eq_true_eq] at hr
  obtain ⟨⟨⟨⟨⟨⟨a0,a1⟩,b0⟩,b1⟩,c⟩,d⟩,e⟩ := hr
  have ia:inb x.a ls.length=true:=yA a0 zcb
  have ib:inb x.b ls.length=true:=yA b0 zcb
  have hfa:=form_in hf ia
  have iX:Imp t (at_ Ln.z ls x.a).form (at_ Ln.z ls x.b).form x.form:=by
   refine ⟨ud hg.1 hfa,?_⟩
   rw [y8 hg.1 hfa]
   have hb:=hM.bare hfa (.inr (.inr c))
   cases hn:nd M (at_ Ln.z ls x.a).form with
   | mk kd nm ll rr =>
    rw [hn] at c d e hb
    simp only at c d e hb
    rw [c,d,e,hb]; rfl
  obtain ⟨fa,Fa,Ia⟩ := him x.a.toNat zcb
  obtain ⟨fb,Fb,Ib⟩ := him x.b.toNat zcb
  rw [show ((x.a.toNat:Nat):Int)=x.a by omega] at Fa Ia
  rw [show ((x.b.toNat:Nat):Int)=x.b by omega] at Fb Ib
  obtain ⟨t1,l1,sv,s1,k1⟩ := then_ok hs
  obtain ⟨t2,l2,pv,s2,k2⟩ := then_ok k1
  clear hs k1
  obtain ⟨st1,_,f1,X,X1,U,Y,Z,F1,j1,j2,j3,j4,j5,j6⟩ := s_step hw ha s1
  have w1:=st1.grown.2
  have e1:X1=(at_ Ln.z ls x.a).form:=jE w1 j3 (iX.pre st1.grown.1)
  subst e1
  have e2:X=fa:=jE w1 j2 (Ia.pre st1.grown.1)
  subst e2
  obtain ⟨rfl,st2,_,F2⟩ := mp_step w1 st1.all F1 (Fa.pre st1.pre) j1 s2
  have e3:Y=fb:=jE w1 j5 (Ib.pre st1.grown.1)
  subst e3
  obtain ⟨rfl,st3,e4,F3⟩ := mp_step w1 st2.all F2 (Fb.pre (st1.pre.trans st2.pre)) j4 k2
  exact ⟨(st1.trans st2).trans st3,e4,Z,F3,j6⟩
 ·rw [if_neg c2] at hs
  obtain ⟨t1,l1,av,s1,k1⟩ := then_ok hs
  obtain ⟨t2,l2,kv,s2,k2⟩ := then_ok k1
  clear hs k1
  obtain ⟨rfl,rfl,rfl,_⟩ := jF s1
  have hfx:inb x.form M.length=true:=by have:=form_in hf hin; rwa [hx] at this
  have hst:Goes t1 (hyps.filter fun x=>x ≠ h) l t1 (l ++ [x]):=by
   refine ⟨Grown.refl hw,List.prefix_append _ _,ha.push (ud hg.1 hfx) ?_⟩
   unfold yQ at hr ⊢
   rw [hx] at hr
   rw [at_last]
   simp only [c2,if_false,Bool.and_eq_true] at hr ⊢
   refine ⟨hr.1,?_⟩
   by_cases k10:x.kind=10
   ·rw [if_pos k10] at hr ⊢
    rw [List.any_eq_true] at hr ⊢
    obtain ⟨_,y,hy,hye⟩ := hr
    have hye:=of_decide_eq_true hye
    exact ⟨y,List.mem_filter.2 ⟨hy,by simpa [hye] using c1⟩,by simpa using hye⟩
   ·rw [if_neg k10] at hr ⊢
    exact ax_pre hM hg.1 hfx hr.2
  obtain ⟨st2,_,f2,G,F2,m1,m2⟩ := k_step hw hst.all s2
  obtain ⟨rfl,st3,e3,F3⟩ := mp_step st2.grown.2 st2.all F2 ((HasF.last l x).pre st2.pre) m1 k2
  exact ⟨(hst.trans st2).trans st3,e3,G,F3,m2⟩
theorem ded_ok {M:List Nd} {hyps:List Int} {ls:List Ln} {h:Int} (hM:Wf M) (hf:jv M ls=true) (hr : ∀ j:Nat,j < ls.length→yQ M hyps ls j=true) (hh:inb h M.length=true) : ∀ (n i:Nat) (img:List Int) (t t':List Nd) (l l':List Ln) (v:Int),i + n=ls.length→img.length=ls.length→Grown M t→All t (hyps.filter fun x=>x ≠ h) l→Imgs ls h t l img i→(0 < i→at_ 0 img ((i:Int) - 1) + 1=l.length) →
  dedR ls h n i img t l = .ok t' l' v→Grown M t'∧All t' (hyps.filter fun x=>x ≠ h) l'∧(0 < ls.length → ∃ f,HasF l' ((l'.length:Int) - 1) f∧Imp t' f h (lastS ls))
 | 0,i,img,t,t',l,l',v,hi,hl,hg,ha,him,hlast,hd=>by
  cases hd
  refine ⟨hg,ha,fun hp=>?_⟩
  obtain ⟨f,F,I⟩ := him (i - 1) zcb
  have e:=hlast zcb
  rw [show (((i - 1:Nat):Nat):Int)=(i:Int) - 1 by omega] at F I
  refine ⟨f,by rw [← e]; simpa using F,?_⟩
  unfold lastS
  rw [← hi]; simpa using I
 | n + 1,i,img,t,t',l,l',v,hi,hl,hg,ha,him,hlast,hd=>by
  unfold dedR Res.bind at hd
  cases hs:zbX ls img h i t l with
  | no t1 l1 e=>rw [hs] at hd; cases hd
  | ok t1 l1 v1 =>
   rw [hs] at hd
   obtain ⟨st,e1,f,F,I⟩ := step_ok hM hf zcb (hr i zcb) hg hh ha him hs
   have hset : ∀ j:Nat,at_ 0 (img.set i v1) (j:Int)=if j=i then v1 else at_ 0 img (j:Int):=fun j=>by
    unfold at_
    rw [Int.toNat_natCast,List.getD_eq_getElem?_getD,List.getD_eq_getElem?_getD,List.getElem?_set]
    by_cases q:i=j
    ·subst q; rw [if_pos rfl,if_pos zcb,if_pos rfl]; rfl
    ·rw [if_neg q,if_neg (fun q'=>q q'.symm)]
   refine ded_ok hM hf hr hh n (i + 1) (img.set i v1) t1 t' l1 l' v zcb (by simpa using hl) (hg.trans st.grown) st.all (fun j hj=>?_) (fun _=>?_) hd
   ·rw [hset]
    by_cases q:j=i
    ·rw [if_pos q,q]; exact ⟨f,F,I⟩
    ·rw [if_neg q]
     obtain ⟨f2,F2,I2⟩ := him j zcb
     exact ⟨f2,F2.pre st.pre,I2.pre st.grown.1⟩
   ·rw [show (((i + 1:Nat):Int) - 1)=(i:Int) by omega,hset,if_pos rfl]; exact e1
end
section
open Gw
def Res.rows:Res→List Nd
 | .ok t _ _=>t
 | .no t _ _=>t
def Gr (a:Act):Prop := ∀ t l,Wf t→Grown t (a t l).rows
theorem zbI (a b:Int):Gr (impR a b):=fun t l hw=>by
 unfold impR
 split
 ·rename_i he
  have:=putZ hw he
  exact ⟨this.1,this.2.1⟩
 ·exact Grown.refl hw
theorem gr_line (x:Ln):Gr (zaq x):=fun t l hw=>by
 unfold zaq
 split <;> exact Grown.refl hw
theorem vS {a:Act} {k:Int→Act} (ha:Gr a) (hk : ∀ v,Gr (k v)):Gr (a.then k):=fun t l hw=>by
 have h:=ha t l hw
 unfold Act.then Res.bind
 cases hr:a t l with
 | ok t1 l1 v=>rw [hr] at h; exact h.trans (hk v t1 l1 h.2)
 | no t1 l1 e=>rw [hr] at h; exact h
theorem gr_mp (a b:Int):Gr (mpR a b):=fun t l hw=>gr_line _ t l hw
theorem gr_k (a b:Int):Gr (kR a b):=vS (zbI _ _) fun _=>vS (zbI _ _) fun _=>gr_line _
theorem gr_s (a b c:Int):Gr (sR a b c):=vS (zbI _ _) fun _=>vS (zbI _ _) fun _=>vS (zbI _ _) fun _=>vS (zbI _ _) fun _=>vS (zbI _ _) fun _=>vS (zbI _ _) fun _=>gr_line _
theorem gr_step (ls:List Ln) (img:List Int) (h i:Int):Gr (zbX ls img h i):=by
 unfold zbX
 intro t l hw
 simp only
 split
 ·exact vS (zbI _ _) (fun _=>vS (gr_s _ _ _) fun _=>vS (gr_k _ _) fun _=>vS (gr_mp _ _) fun _=>vS (gr_k _ _) fun _=>gr_mp _ _) t l hw
 split
 ·exact vS (gr_s _ _ _) (fun _=>vS (gr_mp _ _) fun _=>gr_mp _ _) t l hw
 ·exact vS (gr_line _) (fun _=>vS (gr_k _ _) fun _=>gr_mp _ _) t l hw
theorem gr_ded (ls:List Ln) (h:Int) : ∀ (n i:Nat) (img:List Int),Gr (dedR ls h n i img)
 | 0,_,_=>fun t l hw=>Grown.refl hw
 | n + 1,i,img=>fun t l hw=>by
  have h1:=gr_step ls img h i t l hw
  unfold dedR Res.bind
  cases hr:zbX ls img h i t l with
  | ok t1 l1 v=>rw [hr] at h1; exact h1.trans (gr_ded ls h n (i + 1) _ t1 l1 h1.2)
  | no t1 l1 e=>rw [hr] at h1; exact h1
structure Ready (M:List Nd) (hyps:List Int) (ls:List Ln) (h:Int) (t:List Nd) (l:List Ln) (img:List Int) (i:Nat):Prop where
 wf:Wf M
 forms:jv M ls=true
 i_lt:i < ls.length
 right:yQ M hyps ls i=true
 grown:Grown M t
 h_in:inb h M.length=true
 all:All t (hyps.filter fun x=>x ≠ h) l
 imgs:Imgs ls h t l img i
 len:l.length ≤ 4096
 imgl:img.length=ls.length
def stepP (ls:List Ln) (img:List Int) (h i:Int) (m:PMaker):Option (PMaker × Int) :=
 if (at_ Ln.z ls i).form=h then (zcN.f m h h).bind fun r25=>(zcS.f r25.1 h r25.2 h).bind fun r28=>(zcR.f r28.1 h r25.2).bind fun r31=>(zcP.f r31.1 r28.2 r31.2).bind fun r34=>(zcR.f r34.1 h h).bind fun r37=>zcP.f r37.1 r34.2 r37.2
 else if (at_ Ln.z ls i).kind=11 then (zcS.f m h ((at_ Ln.z ls ((at_ Ln.z ls i).b)).form) ((at_ Ln.z ls i).form)).bind fun r48=>(zcP.f r48.1 r48.2 (at_ (0:Int) img ((at_ Ln.z ls i).a))).bind fun r52=>zcP.f r52.1 r52.2 (at_ (0:Int) img ((at_ Ln.z ls i).b))
 else (zcO.f m (at_ Ln.z ls i)).bind fun r72=>(zcR.f r72.1 ((at_ Ln.z ls i).form) h).bind fun r75=>zcP.f r75.1 r75.2 r72.2
theorem stepP_tell {M:List Nd} {hyps:List Int} {ls l:List Ln} {h:Int} {t:List Nd} {img:List Int} {i:Nat} (R:Ready M hyps ls h t l img i):Tell mkP (stepP ls img h i ⟨some t,l,0⟩) (zbX ls img h i t l):=by
 have hw:=R.grown.2
 have hin:inb (i:Int) ls.length=true:=yA zcb (by have:=R.i_lt; omega)
 have hr:=R.right
 unfold stepP zbX
 generalize hx:at_ Ln.z ls i=x at *
 by_cases c1:x.form=h
 ·rw [if_pos c1,if_pos c1]
  refine (uF hw R.len h h).two (fun _=>by dsimp only; refine (sP_still _ _ _).two fun _=>?_; dsimp only; refine (zbe _ _).two fun _=>?_; dsimp only; refine (zZ _ _).two fun _=>?_; dsimp only; exact (zbe _ _).two fun _=>zZ _ _) fun t1 l1 v1 h1 b1 _=>?_
  obtain ⟨g1,rfl,i1⟩ := vy hw h1
  refine (sP_tell g1.2 b1 _ _ _).two (fun _=>by dsimp only; refine (zbe _ _).two fun _=>?_; dsimp only; refine (zZ _ _).two fun _=>?_; dsimp only; exact (zbe _ _).two fun _=>zZ _ _) fun t2 l2 v2 h2 b2 _=>?_
  obtain ⟨st2,e2,_,_,_,_,_,_,F2,_⟩ := s_step g1.2 (R.all.grow hw g1.1) h2
  refine (kP_tell st2.grown.2 b2 _ _).two (fun _=>by dsimp only; refine (zZ _ _).two fun _=>?_; dsimp only; exact (zbe _ _).two fun _=>zZ _ _) fun t3 l3 v3 h3 b3 _=>?_
  obtain ⟨st3,e3,_⟩ := k_step st2.grown.2 st2.all h3
  refine (zbW st3.grown.2 b3 (F2.pre st3.pre).1).two (fun _=>by dsimp only; exact (zbe _ _).two fun _=>zZ _ _) fun t4 l4 v4 h4 b4 _=>?_
  obtain ⟨q1,q2,q3,_⟩ := jF (show zaq _ _ _=_ from h4)
  have hi4:inb v4 l4.length=true:=by rw [q2,q3]; exact yA zcb (by simp; omega)
  refine (kP_tell (by rw [q1]; exact st3.grown.2) b4 _ _).two (fun _=>zZ _ _) fun t5 l5 v5 h5 b5 _=>?_
  obtain ⟨f,g,g5,rfl,_,_,_,_⟩ := kR_ok (by rw [q1]; exact st3.grown.2) h5
  exact zbW g5.2 b5 (ud (List.prefix_append _ _) hi4)
 rw [if_neg c1,if_neg c1]
 by_cases c2:x.kind=11
 ·rw [if_pos c2,if_pos c2]
  refine (sP_tell hw R.len _ _ _).two (fun _=>by dsimp only; refine (zZ _ _).two fun _=>?_; dsimp only; exact zZ _ _) fun t2 l2 v2 h2 b2 _=>?_
  obtain ⟨st2,e2,_,_,_,_,_,_,F2,_⟩ := s_step hw R.all h2
  refine (zbW st2.grown.2 b2 F2.1).two (fun _=>zZ _ _) fun t4 l4 v4 h4 b4 _=>?_
  obtain ⟨q1,q2,q3,_⟩ := jF (show zaq _ _ _=_ from h4)
  have hi4:inb v4 l4.length=true:=by rw [q2,q3]; exact yA zcb (by simp; omega)
  exact zbW (by rw [q1]; exact st2.grown.2) b4 hi4
 ·rw [if_neg c2,if_neg c2]
  refine (lineP_tell hw R.len _).two (fun _=>by dsimp only; refine (zbe _ _).two fun _=>?_; dsimp only; exact zZ _ _) fun t1 l1 v1 h1 b1 _=>?_
  obtain ⟨q1,q2,q3,_⟩ := jF h1
  refine (kP_tell (by rw [q1]; exact hw) b1 _ _).two (fun _=>zZ _ _) fun t2 l2 v2 h2 b2 _=>?_
  obtain ⟨f,g,g5,q4,q5,_,_,_⟩ := kR_ok (by rw [q1]; exact hw) h2
  exact zbW g5.2 b2 (by rw [q4,q5]; exact yA zcb (by simp; omega))
theorem ready_b {M:List Nd} {hyps:List Int} {ls l:List Ln} {h:Int} {t:List Nd} {img:List Int} {i:Nat} (R:Ready M hyps ls h t l img i) (c2:(at_ Ln.z ls i).kind=11):inb (at_ Ln.z ls i).b ls.length=true∧inb (at_ Ln.z ls i).a img.length=true∧inb (at_ Ln.z ls i).b img.length=true:=by
 have hr:=R.right
 have hi:=R.i_lt
 unfold yQ at hr
 simp only [c2,if_true,Bool.and_eq_true,decide_eq_true_eq] at hr
 obtain ⟨⟨⟨⟨⟨⟨a0,a1⟩,b0⟩,b1⟩,c⟩,d⟩,e⟩ := hr
 rw [R.imgl]
 exact ⟨yA b0 zcb,yA a0 zcb,yA b0 zcb⟩
theorem b0P {M:List Nd} {hyps:List Int} {ls l:List Ln} {h:Int} {t:List Nd} {img:List Int} {i:Nat} (R:Ready M hyps ls h t l img i):zcT.b0 ls h i img ⟨some t,l,0⟩ = (stepP ls img h i ⟨some t,l,0⟩).bind fun r=>some (.go (img.set i r.2,r.1)):=by
 have hii:inb (i:Int) img.length=true:=by rw [R.imgl]; exact yA zcb (by have:=R.i_lt; omega)
 unfold zcT.b0 stepP
 simp only [ne_eq,not_true_eq_false,decide_false,Bool.false_eq_true,if_false,hii,chk,if_true,Int.toNat_natCast]
 by_cases c1:(at_ Ln.z ls i).form=h
 ·simp only [c1,decide_true,if_true,Option.bind_assoc]
 ·by_cases c2:(at_ Ln.z ls i).kind=11
  ·obtain ⟨e1,e2,e3⟩ := ready_b R c2
   simp only [c1,c2,decide_false,decide_true,Bool.false_eq_true,if_false,if_true,Option.bind_assoc,e1,e2,e3]
  ·simp only [c1,c2,decide_false,Bool.false_eq_true,if_false,Option.bind_assoc]
structure Loop16 (M:List Nd) (hyps:List Int) (ls:List Ln) (h:Int):Prop where
 wf:Wf M
 forms:jv M ls=true
 right : ∀ j:Nat,j < ls.length→yQ M hyps ls j=true
 h_in:inb h M.length=true
theorem Imgs.set {ls l l':List Ln} {h:Int} {t t':List Nd} {img:List Int} {i:Nat} {v:Int} (him:Imgs ls h t l img i) (hl:i < img.length) (g:t <+: t') (p:l <+: l') {f:Int} (F:HasF l' v f) (I:Imp t' f h (at_ Ln.z ls i).form):Imgs ls h t' l' (img.set i v) (i + 1):=fun j hj=>by
 have hset:at_ 0 (img.set i v) (j:Int)=if j=i then v else at_ 0 img (j:Int):=by
  unfold at_
  rw [Int.toNat_natCast,List.getD_eq_getElem?_getD,List.getD_eq_getElem?_getD,List.getElem?_set]
  by_cases q:i=j
  ·subst q; rw [if_pos rfl,if_pos hl,if_pos rfl]; rfl
  ·rw [if_neg q,if_neg (fun q'=>q q'.symm)]
 rw [hset]
 by_cases q:j=i
 ·rw [if_pos q,q]; exact ⟨f,F,I⟩
 ·rw [if_neg q]
  obtain ⟨f2,F2,I2⟩ := him j zcb
  exact ⟨f2,F2.pre p,I2.pre g⟩
def DP (o:(List Int × PMaker) ⊕ (Tb × List Ln × Int)):Res→Prop
 | .ok t l _ => ∃ img',o = .inl (img',⟨some t,l,0⟩)
 | .no t l e=>e ≠ 0∧((∃ img',o = .inl (img',⟨some t,l,e⟩))∨o = .inr (some t,[],e))
theorem dedP {M:List Nd} {hyps:List Int} {ls:List Ln} {h:Int} (C:Loop16 M hyps ls h) : ∀ (n i:Nat) (img:List Int) (t:List Nd) (l:List Ln),i + n=ls.length→img.length=ls.length→Grown M t→All t (hyps.filter fun x=>x ≠ h) l→Imgs ls h t l img i→l.length ≤ 4096 →
  ∃ o,forN (fun i s=>zcT.b0 ls h i s.1 s.2) n i (img,⟨some t,l,0⟩)=some o∧DP o (dedR ls h n i img t l)
 | 0,i,img,t,l,hi,hl,hg,ha,him,hb=>⟨_,rfl,img,rfl⟩
 | n + 1,i,img,t,l,hi,hl,hg,ha,him,hb=>by
  have R:Ready M hyps ls h t l img i:=⟨C.wf,C.forms,by omega,C.right i zcb,hg,C.h_in,ha,him,hb,hl⟩
  have hT:=stepP_tell R
  simp only [forN,b0P R]
  unfold dedR Res.bind
  cases hs:zbX ls img h i t l with
  | ok t1 l1 v1 =>
   rw [hs] at hT
   obtain ⟨⟨hl1,_⟩,hT⟩ := hT
   obtain ⟨st,e1,f,F,I⟩ := step_ok C.wf C.forms zcb (C.right i zcb) hg C.h_in ha him hs
   rw [hT]
   simp only [Option.bind_some]
   exact dedP C n (i + 1) (img.set i v1) t1 l1 zcb (by simpa using hl) (hg.trans st.grown) st.all (him.set zcb st.grown.1 st.pre F I) hl1
  | no t1 l1 e =>
   rw [hs] at hT
   obtain ⟨he,v,hT⟩ := hT
   rw [hT]
   simp only [Option.bind_some]
   cases n with
   | zero=>exact ⟨_,rfl,he,.inl ⟨_,rfl⟩⟩
   | succ n =>
    refine ⟨.inr (some t1,[],e),?_,he,.inr rfl⟩
    simp only [forN]
    rw [show zcT.b0 ls h ((i:Int) + 1) (img.set i v) (mkP (some t1) l1 e)=some (.ret (some t1,[],e)) by unfold zcT.b0; simp [he]]
    rfl
theorem all_nil (t:List Nd) (hy:List Int):All t hy []:=⟨rfl,fun j hj=>absurd (zO hj) zcc⟩
theorem deduceP {M:List Nd} {hyps:List Int} {ls:List Ln} {h:Int} (C:Loop16 M hyps ls h) (hl:ls.length ≤ 16777216):match dedR ls h ls.length 0 (List.replicate ls.length 0) M [] with
  | .ok t l _=>zcT.f (some M) ls h=some (some t,l,0)
  | .no t l e=>e ≠ 0 ∧ ∃ l',zcT.f (some M) ls h=some (some t,l',e):=by
 obtain ⟨o,h1,h2⟩ := dedP C ls.length 0 (List.replicate ls.length 0) M [] zcb zcc (Grown.refl C.wf) (all_nil _ _) (fun j hj=>absurd hj zcb) zcc
 have e0:(((ls.length:Nat):Int) - 0).toNat=ls.length:=by omega
 have e1:zcT.f (some M) ls h=(some o).bind (aft fun (s7:List Int × PMaker)=>some (s7.2.t,s7.2.l,s7.2.bad)):=by
  unfold zcT.f
  rw [chk,if_pos (by simp; omega),e0,Int.toNat_natCast]
  rw [← h1]; rfl
 rw [e1]
 cases hd:dedR ls h ls.length 0 (List.replicate ls.length 0) M [] with
 | ok t l v=>rw [hd] at h2; obtain ⟨img',rfl⟩ := h2; rfl
 | no t l e =>
  rw [hd] at h2
  obtain ⟨he,⟨img',rfl⟩ | rfl⟩ := h2
  ·exact ⟨he,l,rfl⟩
  ·exact ⟨he,[],rfl⟩
-- the document's loop
theorem take_pre {M t:List Nd} (h:M <+: t):t.take M.length=M:=(List.prefix_iff_eq_take.1 h).symm
theorem cutP16 {M t:List Nd} (h:Grown M t):zcs.f (some t) (M.length:Int)=some (some M,0):=by
 have h1:=h.1.length_le
 unfold zcs.f
 simp only
 rw [if_neg (by simp; omega),chk,if_pos (decide_eq_true h.2.nodup),Int.toNat_natCast,take_pre h.1]
end
section
open Gw
end
section
open Gw
theorem check_iff {M:List Nd} {hyps:List Int} {ls:List Ln}:uK M hyps ls=0↔(hyps.all (fun h=>inb h M.length)=true∧All M hyps ls∧ls ≠ []):=by
 unfold uK All
 constructor
 ·intro hc
  split at hc
  ·rename_i h1
   split at hc
   ·rename_i h2
    simp only [Bool.and_eq_true] at h1 h2
    refine ⟨h1.1,⟨h1.2,fun j hj=>?_⟩,fun e=>?_⟩
    ·have h3:=zO hj
     have:=List.all_eq_true.1 h2.1 j.toNat (by simp; omega)
     rwa [show ((j.toNat:Nat):Int)=j by omega] at this
    ·rw [e] at h2; simp at h2
   ·simp at hc
  ·simp at hc
 ·rintro ⟨h1,⟨h2,h3⟩,h4⟩
  rw [if_pos (by simp [h1,h2]),if_pos]
  rw [Bool.and_eq_true]
  refine ⟨List.all_eq_true.2 fun j hj=>h3 j (yA zcb (by have:=List.mem_range'_1.1 hj; omega)),?_⟩
  cases ls with
  | nil=>exact absurd rfl h4
  | cons x l=>rfl
def Ll (a:Act):Prop := ∀ t l,l.length ≤ 4096 → ∀ t' l' v,a t l = .ok t' l' v→l'.length ≤ 4096
theorem ll_imp (a b:Int):Ll (impR a b):=fun t l hl t' l' v h=>by
 unfold impR at h
 split at h
 ·cases h; exact hl
 ·cases h
theorem ll_line (x:Ln):Ll (zaq x):=fun t l hl t' l' v h=>by
 obtain ⟨_,rfl,_,hlt⟩ := jF h
 simp; omega
theorem vV {a:Act} {k:Int→Act} (ha:Ll a) (hk : ∀ v,Ll (k v)):Ll (a.then k):=fun t l hl t' l' v h=>by
 obtain ⟨t1,l1,v1,h1,h2⟩ := then_ok h
 exact hk v1 t1 l1 (ha t l hl _ _ _ h1) _ _ _ h2
theorem ll_mp (a b:Int):Ll (mpR a b):=fun t l hl=>ll_line _ t l hl
theorem ll_k (a b:Int):Ll (kR a b):=vV (ll_imp _ _) fun _=>vV (ll_imp _ _) fun _=>ll_line _
theorem ll_s (a b c:Int):Ll (sR a b c):=vV (ll_imp _ _) fun _=>vV (ll_imp _ _) fun _=>vV (ll_imp _ _) fun _=>vV (ll_imp _ _) fun _=>vV (ll_imp _ _) fun _=>vV (ll_imp _ _) fun _=>ll_line _
theorem ll_step (ls:List Ln) (img:List Int) (h i:Int):Ll (zbX ls img h i):=by
 unfold zbX
 intro t l hl
 simp only
 split
 ·exact vV (ll_imp _ _) (fun _=>vV (ll_s _ _ _) fun _=>vV (ll_k _ _) fun _=>vV (ll_mp _ _) fun _=>vV (ll_k _ _) fun _=>ll_mp _ _) t l hl
 split
 ·exact vV (ll_s _ _ _) (fun _=>vV (ll_mp _ _) fun _=>ll_mp _ _) t l hl
 ·exact vV (ll_line _) (fun _=>vV (ll_k _ _) fun _=>ll_mp _ _) t l hl
theorem ded_len (ls:List Ln) (h:Int) : ∀ (n i:Nat) (img:List Int) (t:List Nd) (l:List Ln) {t':List Nd} {l':List Ln} {v:Int},l.length ≤ 4096→dedR ls h n i img t l = .ok t' l' v→l'.length ≤ 4096
 | 0,_,_,t,l,t',l',v,hl,hd=>by cases hd; exact hl
 | n + 1,i,img,t,l,t',l',v,hl,hd=>by
  unfold dedR Res.bind at hd
  cases hs:zbX ls img h i t l with
  | no t1 l1 e=>rw [hs] at hd; cases hd
  | ok t1 l1 v1 =>
   rw [hs] at hd
   exact ded_len ls h n (i + 1) _ t1 l1 (ll_step ls img h i t l hl _ _ _ hs) hd
end
section

end
section
open Gw
-- terms: nodes,levels,what is right
mutual
def depT:PTerm→Nat
 | .mk _ _ _ _ s=>1 + depL s
def depL:List PTerm→Nat
 | []=>0
 | x :: l=>max (depT x) (depL l)
end
def vk (k:Int):Int:=if k=1 then 0 else if k=9 then 3 else if k=3∨k=4∨k=12 then 2 else if k=2∨k=5∨k=6∨k=7∨k=8∨k=10∨k=11 then 1 else -1
def nodeR (x:PTerm):Bool :=
 decide (vk x.kind=x.sub.length) && (if x.kind=1∨x.kind=2∨x.kind=9∨x.kind=12 then decide (isWord x.name) else decide (x.name=⟨#[]⟩)) &&
  (if x.kind=9 then decide (isWord x.other) else decide (x.other=⟨#[]⟩)) && (if x.kind=11 then decide (0 ≤ x.form) && decide (x.form < 1024) else decide (x.form=0))
mutual
def rightT:PTerm→Bool
 | .mk k n o f s=>nodeR (.mk k n o f s) && rightL s
def rightL:List PTerm→Bool
 | []=>true
 | x :: l=>rightT x && rightL l
end
mutual
def nmT:PTerm→Prop
 | .mk _ n o _ s=>n.size < 9223372036854775808∧o.size < 9223372036854775808∧nmL s
def nmL:List PTerm→Prop
 | []=>True
 | x :: l=>nmT x∧nmL l
end
theorem depT_eq (x:PTerm):depT x=1 + depL x.sub:=by cases x; simp [depT,PTerm.sub]
theorem rightT_eq (x:PTerm):rightT x=(nodeR x && rightL x.sub):=by cases x; simp [rightT,PTerm.sub]
theorem nmT_eq (x:PTerm):nmT x↔x.name.size < 9223372036854775808∧x.other.size < 9223372036854775808∧nmL x.sub:=by cases x; simp [nmT,PTerm.sub,PTerm.name,PTerm.other]
theorem rightL_mem : ∀ {l:List PTerm},rightL l=true → ∀ x ∈ l,rightT x=true
 | [],_,_,h=>by simp at h
 | y :: l,h,x,hx=>by
  simp only [rightL,Bool.and_eq_true] at h
  rcases List.mem_cons.1 hx with rfl | hx
  ·exact h.1
  ·exact rightL_mem h.2 x hx
theorem nmL_mem : ∀ {l:List PTerm},nmL l → ∀ x ∈ l,nmT x
 | [],_,_,h=>by simp at h
 | y :: l,h,x,hx=>by
  simp only [nmL] at h
  rcases List.mem_cons.1 hx with rfl | hx
  ·exact h.1
  ·exact nmL_mem h.2 x hx
theorem zbS : ∀ {l:List PTerm},∀ x ∈ l,depT x ≤ depL l
 | [],_,h=>by simp at h
 | y :: l,x,hx=>by
  simp only [depL]
  rcases List.mem_cons.1 hx with rfl | hx
  ·omega
  ·have:=zbS x hx; omega
theorem at_mem {l:List PTerm} {i:Int} (h:0 ≤ i∧i < l.length):at_ PTerm.z l i ∈ l:=List.mem_of_getElem? (ym PTerm.z h)
inductive TR where
 | ok (f:Int)
 | no (c:Int) (way:List Int)
 deriving DecidableEq
namespace TR
def at_ (i:Int):TR→TR
 | ok f=>ok f
 | no c w=>no c (i :: w)
def bind (r:TR) (k:Int→TR):TR:=match r with
 | ok f=>k f
 | no c w=>no c w
def code:TR→Int
 | ok _=>0
 | no c _=>c
def way:TR→List Int
 | ok _=>[]
 | no _ w=>w
def form:TR→Int
 | ok f=>f
 | no _ _=>0
end TR
abbrev Sc:=List (ByteArray × Int)
def ofK (M:List Nd) (f k:Int) (g:Nd→TR):TR:=if (nd M f).kind=k then g (nd M f) else .no 130 []
def yd (M:List Nd) (P:Int→Sc→Option Int→TR) (s:Sc) (x:PTerm):TR :=
 if x.kind=1 then (match s.find? (fun q=>decide (q.1=x.name)) with | some q => .ok q.2 | none => .no 131 [])
 else if x.kind=3 then (P 0 s none).bind fun f=>ofK M f 5 fun n=>(P 1 s (some n.l)).bind fun _ => .ok n.r
 else if x.kind=5 then (P 0 s none).bind fun f=>ofK M f 3 fun n => .ok n.l
 else if x.kind=6 then (P 0 s none).bind fun f=>ofK M f 3 fun n => .ok n.r
 else if x.kind=11 then (if inb x.form M.length then (P 0 s (some x.form)).bind fun _ => .ok x.form else .no 31 [])
 else if x.kind=12 then (P 0 s none).bind fun f=>P 1 ((x.name,f) :: s) none
 else if x.kind=9 then (P 0 s none).bind fun f=>ofK M f 4 fun n=>(P 1 ((x.name,n.l) :: s) none).bind fun a=>(P 2 ((x.other,n.r) :: s) none).bind fun b=>if a=b then .ok a else .no 130 []
 else .no 132 []
def yr (M:List Nd) (P:Int→Sc→Option Int→TR) (s:Sc) (x:PTerm) (id:Int):TR :=
 if x.kind=2 then ofK M id 5 fun n=>P 0 ((x.name,n.l) :: s) (some n.r)
 else if x.kind=4 then ofK M id 3 fun n=>(P 0 s (some n.l)).bind fun _=>P 1 s (some n.r)
 else if x.kind=7 then ofK M id 4 fun n=>P 0 s (some n.l)
 else if x.kind=8 then ofK M id 4 fun n=>P 0 s (some n.r)
 else if x.kind=9 then (P 0 s none).bind fun f=>ofK M f 4 fun n=>(P 1 ((x.name,n.l) :: s) (some id)).bind fun _=>P 2 ((x.other,n.r) :: s) (some id)
 else if x.kind=10 then (P 0 s none).bind fun f=>ofK M f 2 fun _ => .ok id
 else if x.kind=12 then (P 0 s none).bind fun f=>P 1 ((x.name,f) :: s) (some id)
 else (yd M P s x).bind fun f=>if f=id then .ok id else .no 130 []
def tyS (M:List Nd):Nat→PTerm→Sc→Option Int→TR
 | 0,_,_,_ => .no 132 []
 | k + 1,x,s,want =>
  let P:Int→Sc→Option Int→TR:=fun i s' w=>(tyS M k (at_ PTerm.z x.sub i) s' w).at_ i
  match want with
  | none=>yd M P s x
  | some id=>yr M P s x id
theorem zas (M:List Nd) (k:Nat) (x:PTerm) (s:Sc):tyS M (k + 1) x s none=yd M (fun i s' w=>(tyS M k (at_ PTerm.z x.sub i) s' w).at_ i) s x:=rfl
theorem zar (M:List Nd) (k:Nat) (x:PTerm) (s:Sc) (id:Int):tyS M (k + 1) x s (some id)=yr M (fun i s' w=>(tyS M k (at_ PTerm.z x.sub i) s' w).at_ i) s x id:=rfl
-- the way is no longer than the term is deep
theorem TR.way_at (i:Int) (r:TR):(r.at_ i).way.length ≤ r.way.length + 1:=by cases r <;> simp [TR.at_,TR.way]
theorem TR.way_bind {r:TR} {g:Int→TR} {n:Nat} (h:r.way.length ≤ n) (hg : ∀ f,(g f).way.length ≤ n):(r.bind g).way.length ≤ n:=by
 cases r with
 | ok f=>exact hg f
 | no c w=>exact h
theorem ofK_way {M:List Nd} {f k:Int} {g:Nd→TR} {n:Nat} (hg : ∀ m,(g m).way.length ≤ n):(ofK M f k g).way.length ≤ n:=by
 unfold ofK
 split
 ·exact hg _
 ·exact Nat.zero_le _
theorem toldS_way {M:List Nd} {P:Int→Sc→Option Int→TR} {n:Nat} (hP : ∀ i s w,(P i s w).way.length ≤ n) (s:Sc) (x:PTerm):(yd M P s x).way.length ≤ n:=by
 have h0 : ∀ f,(TR.ok f).way.length ≤ n:=fun f=>Nat.zero_le _
 have h1 : ∀ c,(TR.no c []).way.length ≤ n:=fun f=>Nat.zero_le _
 unfold yd
 repeat' split
 all_goals first
  | exact h0 _
  | exact h1 _
  | skip
 all_goals refine TR.way_bind (hP ..) fun f=>?_
 all_goals first
  | exact h0 _
  | exact hP ..
  | refine ofK_way fun m=>?_
 all_goals first
  | exact h0 _
  | refine TR.way_bind (hP ..) fun a=>?_
 all_goals first
  | exact h0 _
  | refine TR.way_bind (hP ..) fun b=>?_
 all_goals split
 all_goals first
  | exact h0 _
  | exact h1 _
theorem chkdS_way {M:List Nd} {P:Int→Sc→Option Int→TR} {n:Nat} (hP : ∀ i s w,(P i s w).way.length ≤ n) (s:Sc) (x:PTerm) (id:Int):(yr M P s x id).way.length ≤ n:=by
 have h0 : ∀ f,(TR.ok f).way.length ≤ n:=fun f=>Nat.zero_le _
 have h1 : ∀ c,(TR.no c []).way.length ≤ n:=fun f=>Nat.zero_le _
 unfold yr
 split
 ·exact ofK_way fun m=>hP ..
 split
 ·exact ofK_way fun m=>TR.way_bind (hP ..) fun _=>hP ..
 split
 ·exact ofK_way fun m=>hP ..
 split
 ·exact ofK_way fun m=>hP ..
 split
 ·exact TR.way_bind (hP ..) fun f=>ofK_way fun m=>TR.way_bind (hP ..) fun _=>hP ..
 split
 ·exact TR.way_bind (hP ..) fun f=>ofK_way fun m=>h0 _
 split
 ·exact TR.way_bind (hP ..) fun f=>hP ..
 ·refine TR.way_bind (toldS_way hP s x) fun f=>?_
  split
  ·exact h0 _
  ·exact h1 _
theorem tyS_way {M:List Nd} : ∀ (k:Nat) (x:PTerm) (s:Sc) (w:Option Int),(tyS M k x s w).way.length ≤ k
 | 0,_,_,_=>by simp [tyS,TR.way]
 | k + 1,x,s,w=>by
  have hP : ∀ i s' w',((tyS M k (at_ PTerm.z x.sub i) s' w').at_ i).way.length ≤ k + 1:=fun i s' w'=>Nat.le_trans (TR.way_at _ _) (Nat.add_le_add_right (tyS_way k _ _ _) 1)
  cases w with
  | none=>exact toldS_way hP s x
  | some id=>exact chkdS_way hP s x id
-- what is refused has a number
def Cd:TR→Prop
 | .ok _=>True
 | .no c _=>c=31∨c=130∨c=131∨c=132
theorem Cd.at_ {r:TR} (h:Cd r) (i:Int):Cd (r.at_ i):=by cases r <;> exact h
theorem Cd.bind {r:TR} {g:Int→TR} (h:Cd r) (hg : ∀ f,Cd (g f)):Cd (r.bind g):=by
 cases r with
 | ok f=>exact hg f
 | no c w=>exact h
theorem Cd.ofK {M:List Nd} {f k:Int} {g:Nd→TR} (hg : ∀ m,Cd (g m)):Cd (ofK M f k g):=by
 unfold Go.Proofs.YtflieamjacclnaaGreatDoor.ofK
 split
 ·exact hg _
 ·exact .inr (.inl rfl)
theorem toldS_cd {M:List Nd} {P:Int→Sc→Option Int→TR} (hP : ∀ i s w,Cd (P i s w)) (s:Sc) (x:PTerm):Cd (yd M P s x):=by
 unfold yd
 split
 ·split
  ·trivial
  ·exact .inr (.inr (.inl rfl))
 split
 ·exact (hP ..).bind fun f=>Cd.ofK fun n=>(hP ..).bind fun _=>trivial
 split
 ·exact (hP ..).bind fun f=>Cd.ofK fun n=>trivial
 split
 ·exact (hP ..).bind fun f=>Cd.ofK fun n=>trivial
 split
 ·split
  ·exact (hP ..).bind fun f=>trivial
  ·exact .inl rfl
 split
 ·exact (hP ..).bind fun f=>hP ..
 split
 ·refine (hP ..).bind fun f=>Cd.ofK fun n=>(hP ..).bind fun a=>(hP ..).bind fun b=>?_
  split
  ·trivial
  ·exact .inr (.inl rfl)
 ·exact .inr (.inr (.inr rfl))
theorem chkdS_cd {M:List Nd} {P:Int→Sc→Option Int→TR} (hP : ∀ i s w,Cd (P i s w)) (s:Sc) (x:PTerm) (id:Int):Cd (yr M P s x id):=by
 unfold yr
 split
 ·exact Cd.ofK fun n=>hP ..
 split
 ·exact Cd.ofK fun n=>(hP ..).bind fun _=>hP ..
 split
 ·exact Cd.ofK fun n=>hP ..
 split
 ·exact Cd.ofK fun n=>hP ..
 split
 ·exact (hP ..).bind fun f=>Cd.ofK fun n=>(hP ..).bind fun _=>hP ..
 split
 ·exact (hP ..).bind fun f=>Cd.ofK fun n=>trivial
 split
 ·exact (hP ..).bind fun f=>hP ..
 ·refine (toldS_cd hP s x).bind fun f=>?_
  split
  ·trivial
  ·exact .inr (.inl rfl)
theorem tyS_cd {M:List Nd} : ∀ (k:Nat) (x:PTerm) (s:Sc) (w:Option Int),Cd (tyS M k x s w)
 | 0,_,_,_ => .inr (.inr (.inr rfl))
 | k + 1,x,s,w=>by
  have hP : ∀ i s' w',Cd ((tyS M k (at_ PTerm.z x.sub i) s' w').at_ i):=fun i s' w'=>(tyS_cd k _ _ _).at_ i
  cases w with
  | none=>exact toldS_cd (P:=fun i s' w'=>(tyS M k (at_ PTerm.z x.sub i) s' w').at_ i) hP s x
  | some id=>exact chkdS_cd (P:=fun i s' w'=>(tyS M k (at_ PTerm.z x.sub i) s' w').at_ i) hP s x id
-- what is told is what alone it is checked against
theorem TR.at_ok {i:Int} {r:TR} {f:Int}:r.at_ i = .ok f↔r = .ok f:=by cases r <;> simp [TR.at_]
theorem TR.bind_ok {r:TR} {g:Int→TR} {b:Int}:r.bind g = .ok b ↔ ∃ f,r = .ok f∧g f = .ok b:=by cases r <;> simp [TR.bind]
theorem yV {M:List Nd} {f k:Int} {g:Nd→TR} {b:Int}:ofK M f k g = .ok b↔(nd M f).kind=k∧g (nd M f) = .ok b:=by
 unfold ofK
 split <;> simp_all
theorem tyS_one {M:List Nd} : ∀ (k:Nat) (x:PTerm) (s:Sc) (a:Int),tyS M k x s none = .ok a→tyS M k x s (some a) = .ok a ∧ ∀ id b,tyS M k x s (some id) = .ok b→id=a
 | 0,x,s,a,h=>by simp [tyS] at h
 | k + 1,x,s,a,h=>by
  rw [zas] at h
  have ih:=fun i s' b (hb:(tyS M k (at_ PTerm.z x.sub i) s' none).at_ i = .ok b)=>tyS_one k (at_ PTerm.z x.sub i) s' b (TR.at_ok.1 hb)
  generalize hP:(fun i s' w=>(tyS M k (at_ PTerm.z x.sub i) s' w).at_ i)=P at h
  have ih' : ∀ i s' b,P i s' none = .ok b→P i s' (some b) = .ok b ∧ ∀ id c,P i s' (some id) = .ok c→id=b:=by
   intro i s' b hb
   subst hP
   obtain ⟨h1,h2⟩ := ih i s' b hb
   exact ⟨TR.at_ok.2 h1,fun id c hc=>h2 id c (TR.at_ok.1 hc)⟩
  have hdef : ∀ id,tyS M (k + 1) x s (some id)=yr M P s x id:=fun id=>by rw [zar,hP]
  rw [hdef]
  have hend:(yd M P s x).bind (fun f=>if f=a then .ok a else .no 130 []) = .ok a ∧ ∀ id b,(yd M P s x).bind (fun f=>if f=id then .ok id else .no 130 []) = .ok b→id=a:=by
   rw [h]
   refine ⟨by simp [TR.bind],fun id b hb=>?_⟩
   simp only [TR.bind] at hb
   split at hb
   ·omega
   ·cases hb
  by_cases k2:x.kind=2
  ·simp [yd,k2] at h
  by_cases k4:x.kind=4
  ·simp [yd,k4] at h
  by_cases k7:x.kind=7
  ·simp [yd,k7] at h
  by_cases k8:x.kind=8
  ·simp [yd,k8] at h
  by_cases k10:x.kind=10
  ·simp [yd,k10] at h
  by_cases k9:x.kind=9
  ·have h':(P 0 s none).bind (fun f=>ofK M f 4 fun n=>(P 1 ((x.name,n.l) :: s) none).bind fun a=>(P 2 ((x.other,n.r) :: s) none).bind fun b=>if a=b then .ok a else .no 130 []) = .ok a:=by
    rw [← h]; simp [yd,k9]
   obtain ⟨f,hf,h'⟩ := TR.bind_ok.1 h'
   obtain ⟨hk,h'⟩ := yV.1 h'
   obtain ⟨a1,ha1,h'⟩ := TR.bind_ok.1 h'
   obtain ⟨b1,hb1,h'⟩ := TR.bind_ok.1 h'
   split at h'
   ·rename_i he
    cases h'
    subst he
    obtain ⟨u1,u2⟩ := ih' _ _ _ ha1
    obtain ⟨v1,v2⟩ := ih' _ _ _ hb1
    have hc : ∀ id,yr M P s x id=(P 0 s none).bind (fun f=>ofK M f 4 fun n=>(P 1 ((x.name,n.l) :: s) (some id)).bind fun _=>P 2 ((x.other,n.r) :: s) (some id)):=fun id=>by simp [yr,k9]
    refine ⟨?_,fun id b hb=>?_⟩
    ·rw [hc,hf]; simp only [TR.bind,ofK,hk,if_true,u1,v1]
    ·rw [hdef,hc,hf] at hb
     simp only [TR.bind,ofK,hk,if_true] at hb
     cases hq:P 1 ((x.name,(nd M f).l) :: s) (some id) with
     | ok c=>exact u2 id c hq
     | no c w=>rw [hq] at hb; simp at hb
   ·cases h'
  by_cases k12:x.kind=12
  ·have h':(P 0 s none).bind (fun f=>P 1 ((x.name,f) :: s) none) = .ok a:=by
    rw [← h]; simp [yd,k12]
   obtain ⟨f,hf,h'⟩ := TR.bind_ok.1 h'
   obtain ⟨u1,u2⟩ := ih' _ _ _ h'
   have hc : ∀ id,yr M P s x id=(P 0 s none).bind (fun f=>P 1 ((x.name,f) :: s) (some id)):=fun id=>by simp [yr,k12]
   refine ⟨by rw [hc,hf]; exact u1,fun id b hb=>?_⟩
   rw [hdef,hc,hf] at hb
   exact u2 id b hb
  have hc : ∀ id,yr M P s x id=(yd M P s x).bind (fun f=>if f=id then .ok id else .no 130 []):=fun id=>by simp [yr,k2,k4,k7,k8,k9,k10,k12]
  exact ⟨by rw [hc]; exact hend.1,fun id b hb=>hend.2 id b (by rw [← hc,← hdef]; exact hb)⟩
-- a name more,behind the others
end
section
open Gw
theorem chk_t {α:Type} {b:Bool} {x:Option α} (h:b=true):chk b x=x:=by rw [chk,if_pos h]
theorem wrap_nat {n:Nat} (h:n < 9223372036854775808):IntKind.i64.wrap (n:Int)=n:=wrap_small ⟨by omega,by omega⟩
theorem iter_count {τ ρ:Type} {b:τ × Int→Option (Stp (τ × Int) ρ)} (g:Nat→τ) (n:Nat)
  (h : ∀ i,i < n→b (g i,(i:Int))=some (.go (g (i + 1),((i + 1:Nat):Int)))∨(b (g i,(i:Int))=some (.brk (g i,(i:Int)))∧g i=g n)) (he:b (g n,(n:Int))=some (.brk (g n,(n:Int)))) :
  ∀ (k i:Nat),i ≤ n→n - i < k → ∃ j:Int,iter b k (g i,(i:Int))=some (.inl (g n,j))
 | 0,i,_,hk=>by omega
 | k + 1,i,hi,hk=>by
  by_cases hin:i=n
  ·subst hin; exact ⟨(i:Int),by simp only [iter,he,Option.bind_some]⟩
  ·rcases h i zcb with h1 | ⟨h1,h2⟩
   ·obtain ⟨j,hj⟩ := iter_count g n h he k (i + 1) zcb zcb
    exact ⟨j,by simp only [iter,h1,Option.bind_some]; exact hj⟩
   ·exact ⟨(i:Int),by rw [iter,h1]; simp only [Option.bind_some,h2]⟩
theorem depL_take : ∀ {l:List PTerm} {i:Nat} {x:PTerm},l[i]? = some x→depL (l.take (i + 1))=max (depL (l.take i)) (depT x)
 | [],_,_,h=>by simp at h
 | y :: l,0,x,h=>by simp at h; subst h; simp [depL]
 | y :: l,i + 1,x,h=>by
  have:=depL_take (l:=l) (i:=i) (by simpa using h)
  simp only [List.take_succ_cons,depL]; omega
theorem depL_le : ∀ {l:List PTerm} (i:Nat),depL (l.take i) ≤ depL l
 | [],i=>by simp
 | y :: l,0=>by simp [depL]
 | y :: l,i + 1=>by have:=depL_le (l:=l) i; simp only [List.take_succ_cons,depL]; omega
theorem len_sizeL : ∀ (l:List PTerm),l.length ≤ sizeL l
 | []=>by simp
 | y :: l=>by have:=len_sizeL l; have:=sizeT_pos y; simp only [List.length_cons,sizeL]; omega
theorem zaM : ∀ {l:List PTerm} {x:PTerm},x ∈ l→sizeT x ≤ sizeL l
 | [],_,h=>by simp at h
 | y :: l,x,h=>by
  simp only [sizeL]
  rcases List.mem_cons.1 h with rfl | h
  ·omega
  ·have:=zaM h; omega
theorem at_nat {l:List PTerm} {i:Nat} (h:i < l.length):at_ PTerm.z l (i:Int)=l[i]:=by
 unfold at_; rw [Int.toNat_natCast,List.getD_eq_getElem?_getD,List.getElem?_eq_getElem h]; rfl
theorem zak (x:PTerm):1 ≤ depT x:=by rw [depT_eq]; omega
-- levels,as the program counts them
theorem deep_some : ∀ (K:Nat) (x:PTerm) (most:Nat),1 ≤ most→most ≤ 1025→sizeT x ≤ 65536→sizeT x + most < K→zcY.f K x (most:Int)=some ((min (depT x) most:Nat):Int)
 | 0,_,_,_,_,_,h=>by omega
 | K + 1,x,most,h1,h2,h3,hK=>by
  show zcY.g (zcY.f K) K x most=_
  unfold zcY.g
  by_cases hm:most=1
  ·subst hm
   rw [if_pos zca]
   have:=zak x
   rw [show min (depT x) 1=1 by omega]
  rw [if_neg (by simp; omega)]
  have hw:IntKind.i64.wrap ((most:Int) - 1)=((most - 1:Nat):Int):=by
   rw [show ((most:Int) - 1)=((most - 1:Nat):Int) by omega]; exact wrap_nat zcb
  have hs:=zbg x
  have hls:=len_sizeL x.sub
  obtain ⟨j,hj⟩ := iter_count (b:=fun s=>zcY.b0 x most (zcY.f K) s.1 s.2) (g:=fun i=>((min (depL (x.sub.take i)) (most - 1):Nat):Int)) x.sub.length (fun i hi=>by
   have he:=List.getElem?_eq_getElem hi
   have hd:=depL_take he
   have hle:=depL_le (l:=x.sub) i
   simp only [zcY.b0,hw]
   by_cases hc:min (depL (x.sub.take i)) (most - 1) < most - 1
   ·left
    rw [if_pos (by simp; omega),chk_t (by rw [inb_nat]; exact decide_eq_true hi),at_nat hi,deep_some K _ (most - 1) zcb zcb (by have:=zaM (List.getElem_mem hi); omega) (by have:=zaM (List.getElem_mem hi); omega)]
    simp only [Option.bind_some]
    rw [show (i:Int) + 1=((i + 1:Nat):Int) by omega,wrap_nat zcb]
    congr 3
    rw [hd]
    split <;> omega
   ·right
    rw [if_neg (by simp; omega)]
    refine ⟨rfl,?_⟩
    rw [List.take_length]
    congr 1
    omega) (by
   simp only [zcY.b0,hw]
   rw [if_neg zcc]) K 0 zcb zcb
  simp only [List.take_zero,depL,Nat.zero_min,List.take_length] at hj
  rw [show ((0:Nat):Int)=0 from rfl] at hj
  rw [hj]
  simp only [Option.bind_some,aft]
  rw [show ((min (depL x.sub) (most - 1):Nat):Int) + 1=((min (depL x.sub) (most - 1) + 1:Nat):Int) by omega,wrap_nat zcb,depT_eq]
  congr 2
  omega
-- what is right,as the program tells it
theorem shape_some (k:Int):zcW.f k=some (if vk k = -1 then (0,false,false,false) else (vk k,decide (k=1∨k=2∨k=9∨k=12),decide (k=9),true)):=by
 by_cases h:k=1∨k=2∨k=3∨k=4∨k=5∨k=6∨k=7∨k=8∨k=9∨k=10∨k=11∨k=12
 ·rcases h with rfl | rfl | rfl | rfl | rfl | rfl | rfl | rfl | rfl | rfl | rfl | rfl <;> decide
 ·simp only [not_or] at h
  obtain ⟨h1,h2,h3,h4,h5,h6,h7,h8,h9,h10,h11,h12⟩ := h
  simp [zcW.f,vk,h1,h2,h3,h4,h5,h6,h7,h8,h9,h10,h11,h12]
theorem named_some {s:ByteArray} (hs:s.size < 9223372036854775808) (b:Bool):zcX.f s b=some (if b then decide (isWord s) else decide (s=⟨#[]⟩)):=by
 unfold zcX.f zck.f
 rw [chk_t (decide_eq_true hs)]
 cases b <;> simp
theorem rightL_all : ∀ (l:List PTerm),rightL l=l.all rightT
 | []=>rfl
 | x :: l=>by simp [rightL,rightL_all l]
theorem contains_some {rec:PTerm→Option Bool} {l:List PTerm} (h : ∀ x ∈ l,rec x=some (rightT x)):zdc.g rec l=some (!rightL l):=by
 unfold zdc.g zdb.g
 have h1:=zaL (b:=fun i s=>zdb.b0 rec l i) (p:=fun k => !rightT (l.getD k PTerm.z)) (r:=fun k=>(k:Int)) l.length 0 () (by
  intro k _ hk
  unfold zdb.b0 zda.g
  have hk':k < l.length:=by omega
  rw [at_nat hk',h _ (List.getElem_mem hk')]
  simp only [Option.bind_some,List.getD_eq_getElem?_getD,List.getElem?_eq_getElem hk',Option.getD_some]
  cases rightT l[k] <;> rfl)
 have e0:(((l.length:Nat):Int) - 0).toNat=l.length:=by omega
 rw [e0,show (0:Int)=((0:Nat):Int) from rfl,h1]
 have h2:rightL l = !((List.range' 0 l.length).find? fun k => !rightT (l.getD k PTerm.z)).isSome:=by
  rw [rightL_all,← any_find]
  rw [Bool.eq_iff_iff]
  simp only [List.all_eq_true,Bool.not_eq_true',List.any_eq_false,Bool.not_eq_true,Bool.not_eq_false',List.mem_range'_1]
  constructor
  ·intro hh k hk
   have hk':k < l.length:=by omega
   simp only [List.getD_eq_getElem?_getD,List.getElem?_eq_getElem hk',Option.getD_some]
   simpa using hh _ (List.getElem_mem hk')
  ·intro hh x hx
   obtain ⟨k,hk,rfl⟩ := List.getElem_of_mem hx
   have:=hh k ⟨by omega,by omega⟩
   simp only [List.getD_eq_getElem?_getD,List.getElem?_eq_getElem hk,Option.getD_some] at this
   simpa using this
 rw [h2]
 cases (List.range' 0 l.length).find? fun k => !rightT (l.getD k PTerm.z) with
 | none=>simp [aft]
 | some k=>simp [aft]
theorem right_some : ∀ (K:Nat) (x:PTerm),nmT x→depT x ≤ K→zdd.f K x=some (rightT x)
 | 0,x,_,h=>by have:=zak x; omega
 | K + 1,x,hn,hK=>by
  have hd:=depT_eq x
  obtain ⟨n1,n2,n3⟩ := (nmT_eq x).1 hn
  show zdd.g (zdd.f K) x=_
  unfold zdd.g
  rw [shape_some,contains_some (l:=x.sub) fun y hy=>right_some K y (nmL_mem n3 y hy) (by have:=zbS y hy; omega)]
  rw [rightT_eq]
  unfold nodeR
  by_cases hp:vk x.kind = -1
  ·have:¬ (-1:Int)=(x.sub.length:Int):=by omega
   simp [hp,this]
  ·simp only [hp,if_false,Option.bind_some,named_some n1,named_some n2]
   generalize vk x.kind=p at hp
   by_cases hl:p=(x.sub.length:Int)
   ·by_cases hk:x.kind=1∨x.kind=2∨x.kind=9∨x.kind=12
    ·simp only [if_pos hk,decide_eq_true hk]
     by_cases hw:isWord x.name
     ·by_cases h9:x.kind=9
      ·simp only [if_pos h9,decide_eq_true h9]
       by_cases ho:isWord x.other
       ·by_cases hf:x.form=0
        ·simp [hl,h9,hw,ho,hf]
        ·simp [hl,h9,hw,ho,hf]
       ·simp [hl,h9,hw,ho]
      ·simp only [if_neg h9,decide_eq_false h9]
       by_cases ho:x.other=⟨#[]⟩
       ·by_cases h11:x.kind=11
        ·omega
        ·by_cases hf:x.form=0
         ·simp [hl,h11,hw,ho,hf]
         ·simp [hl,h11,hw,ho,hf]
       ·simp [hl,hw,ho]
     ·simp [hl,hw]
    ·have h9:¬ x.kind=9:=fun e=>hk (.inr (.inr (.inl e)))
     simp only [if_neg hk,decide_eq_false hk,if_neg h9,decide_eq_false h9]
     by_cases hw:x.name=⟨#[]⟩
     ·by_cases ho:x.other=⟨#[]⟩
      ·by_cases h11:x.kind=11
       ·by_cases hf:0 ≤ x.form
        ·by_cases hg:x.form < 1024
         ·have q1:¬ x.form < 0:=by omega
          have q2:¬ 1024 ≤ x.form:=by omega
          simp [hl,h11,hw,ho,hf,hg,q1,q2]
         ·have q2:1024 ≤ x.form:=by omega
          simp [hl,h11,hw,ho,hf,hg,q2]
        ·have q1:x.form < 0:=by omega
         simp [hl,h11,hw,ho,hf,q1]
       ·by_cases hf:x.form=0
        ·simp [hl,h11,hw,ho,hf]
        ·simp [hl,h11,hw,ho,hf]
      ·simp [hl,hw,ho]
     ·simp [hl,hw]
   ·have hl':¬ (x.sub.length:Int)=p:=fun e=>hl e.symm
    simp [hl,hl']
def jQ (x:PTerm):Int:=if 65536 < sizeT x∨1024 < depT x then 121 else if rightT x then 0 else 120
theorem Check_some {K:Nat} {x:PTerm} (hK:66562 ≤ K) (hn:nmT x):zde.f K x=some (jQ x):=by
 unfold zde.f zcq.f zcZ.f jQ
 simp only [Option.bind_some]
 by_cases hs:65536 < sizeT x
 ·have h1:min (sizeT x) 65537=65537:=by omega
  simp [h1,hs]
 ·have h1:min (sizeT x) 65537=sizeT x:=by omega
  have h2:¬ (65536:Int) < (sizeT x:Int):=by omega
  rw [h1,show (1025:Int)=((1025:Nat):Int) from rfl]
  simp only [h2,decide_false,Bool.not_false,if_true,deep_some K x 1025 zcb zcb zcb zcb,Option.bind_some,Bool.false_or,decide_eq_true_eq,hs,false_or]
  by_cases hd:1024 < depT x
  ·have h3:(1024:Int) < ((min (depT x) 1025:Nat):Int):=by omega
   simp [h3,hd]
  ·have h3:¬ (1024:Int) < ((min (depT x) 1025:Nat):Int):=by omega
   rw [if_neg h3,if_neg hd,right_some K x hn zcb]
   cases rightT x <;> rfl
end
section
open Gw
def err:TR→Option (Int × List Int)
 | .ok _=>none
 | .no c w=>some (c,w.reverse)
abbrev Tc:Type:=PChecker→PTerm→List (ByteArray × Int)→Option (Int × Option (Int × List Int))
abbrev Cc:Type:=PChecker→PTerm→List (ByteArray × Int)→Int→Option (Option (Int × List Int))
def Sok (M:List Nd) (s:Sc):Prop := ∀ q ∈ s,inb q.2 M.length=true
theorem Sok.cons {M:List Nd} {s:Sc} {n:ByteArray} {f:Int} (h:Sok M s) (hf:inb f M.length=true):Sok M ((n,f) :: s):=fun q hq=>by
 rcases List.mem_cons.1 hq with rfl | hq
 ·exact hf
 ·exact h q hq
abbrev PS (M:List Nd) (k:Nat) (x:PTerm):Int→Sc→Option Int→TR:=fun i s' w=>(tyS M k (at_ PTerm.z x.sub i) s' w).at_ i
def Tells (M:List Nd) (r:Option (Int × Option (Int × List Int))) (t:TR):Prop := ∃ i,r=some (i,err t) ∧ ∀ f,t = .ok f→i=f∧inb f M.length=true
theorem at_err {r:TR} {i:Int} (h:r.way.length ≤ 2000):zdf.f i (err r)=some (err (r.at_ i)):=by
 cases r with
 | ok f=>rfl
 | no c w =>
  simp only [TR.way] at h
  simp only [err,zdf.f,TR.at_,List.reverse_cons,List.length_reverse]
  rw [chk_t (decide_eq_true zcb)]
theorem TR.ok_at {r:TR} {i f:Int} (h:r.at_ i = .ok f):r = .ok f:=TR.at_ok.1 h
theorem node_tab {M:List Nd} {i k:Int} (hi:inb i M.length=true):zdh.f ⟨some M⟩ i k=some (nd M i,if (nd M i).kind=k then none else some (130,[])):=by
 simp only [zdh.f,zcf.f,Option.map_some,Option.bind_some]
 by_cases h:(nd M i).kind=k
 ·simp [nd,h] at h ⊢ <;> simp [h]
 ·simp [nd] at h ⊢ <;> simp [h]
section
variable {M:List Nd} {x:PTerm} {k:Nat} {T:Tc} {C:Cc}
theorem kQ (hk:k ≤ 1999) {i:Int} (hi:inb i x.sub.length=true) {s:Sc} (h:Tells M (T ⟨some M⟩ (at_ PTerm.z x.sub i) s) (tyS M k (at_ PTerm.z x.sub i) s none)):Tells M (zdi.g T ⟨some M⟩ x i s) (PS M k x i s none):=by
 obtain ⟨j,h1,h2⟩ := h
 refine ⟨j,?_,fun f hf=>h2 f (TR.ok_at hf)⟩
 unfold zdi.g
 rw [chk_t hi,h1]
 simp only [Option.bind_some]
 rw [at_err (Nat.le_trans (tyS_way k _ _ _) zcb)]
 rfl
theorem vG (hk:k ≤ 1999) {i id:Int} (hi:inb i x.sub.length=true) {s:Sc} (h:C ⟨some M⟩ (at_ PTerm.z x.sub i) s id=some (err (tyS M k (at_ PTerm.z x.sub i) s (some id)))):zdj.g C ⟨some M⟩ x i s id=some (err (PS M k x i s (some id))):=by
 unfold zdj.g
 rw [chk_t hi,h]
 simp only [Option.bind_some]
 rw [at_err (Nat.le_trans (tyS_way k _ _ _) zcb)]
 rfl
def hdS (M:List Nd) (P:Int→Sc→Option Int→TR) (s:Sc) (kd:Int):TR:=(P 0 s none).bind fun f=>if (nd M f).kind=kd then .ok f else .no 130 []
theorem hdS_eq (P:Int→Sc→Option Int→TR) (s:Sc) (kd:Int) (g:Nd→TR):((P 0 s none).bind fun f=>ofK M f kd g)=(hdS M P s kd).bind fun f=>g (nd M f):=by
 unfold hdS
 cases P 0 s none with
 | ok f =>
  simp only [TR.bind,ofK]
  split <;> rfl
 | no c w=>rfl
theorem kO (hk:k ≤ 1999) (hi:inb 0 x.sub.length=true) {s:Sc} {kd:Int} (h:Tells M (T ⟨some M⟩ (at_ PTerm.z x.sub 0) s) (tyS M k (at_ PTerm.z x.sub 0) s none)) :
  ∃ n,zdk.g T ⟨some M⟩ x s kd=some (n,err (hdS M (PS M k x) s kd)) ∧ ∀ f,hdS M (PS M k x) s kd = .ok f→n=nd M f∧inb f M.length=true∧(nd M f).kind=kd:=by
 obtain ⟨j,h1,h2⟩ := kQ hk hi h
 unfold zdk.g hdS
 rw [h1]
 simp only [Option.bind_some]
 cases hp:PS M k x 0 s none with
 | no c w=>exact ⟨Nd.z,rfl,fun f hf=>by cases hf⟩
 | ok f =>
  obtain ⟨rfl,hb⟩ := h2 f hp
  simp only [err,Option.isSome_none,Bool.false_eq_true,if_false,node_tab hb,Option.bind_some,TR.bind]
  by_cases hkd:(nd M j).kind=kd
  ·simp only [hkd,if_true]
   exact ⟨_,rfl,fun f hf=>by cases hf; exact ⟨rfl,hb,hkd⟩⟩
  ·simp only [hkd,if_false]
   exact ⟨_,rfl,fun f hf=>by cases hf⟩
structure Parts (M:List Nd) (k:Nat) (x:PTerm) (T:Tc) (C:Cc):Prop where
 told : ∀ i,inb i x.sub.length=true → ∀ s,Sok M s→Tells M (T ⟨some M⟩ (at_ PTerm.z x.sub i) s) (tyS M k (at_ PTerm.z x.sub i) s none)
 chkd : ∀ i,inb i x.sub.length=true → ∀ s,Sok M s → ∀ id,inb id M.length=true→C ⟨some M⟩ (at_ PTerm.z x.sub i) s id=some (err (tyS M k (at_ PTerm.z x.sub i) s (some id)))
theorem va {i:Int} {n:Nat} (h:(0 ≤ i∧i < n) ):inb i n=true:=by simp [inb,h.1,h.2]
theorem rt_len (hr:rightT x=true):vk x.kind=(x.sub.length:Int):=by
 rw [rightT_eq] at hr
 simp only [nodeR,Bool.and_eq_true,decide_eq_true_eq] at hr
 exact hr.1.1.1.1
theorem find_tab {s:Sc} (hs:Sok M s) (n:ByteArray) {q:ByteArray × Int} (h:s.find? (fun q=>decide (q.1=n))=some q):inb q.2 M.length=true:=hs q (List.mem_of_find?_eq_some h)
theorem told_tells (hM:Wf M) (hk:k ≤ 1999) (hr:rightT x=true) (hP:Parts M k x T C) {s:Sc} (hs:Sok M s):Tells M (zdl.g T C ⟨some M⟩ x s) (yd M (PS M k x) s x):=by
 have hl:=rt_len hr
 have hno : ∀ c,Tells M (some (0,some (c,[]))) (.no c []):=fun c=>⟨0,rfl,fun f hf=>by cases hf⟩
 by_cases k1:x.kind=1
 ·simp only [zdl.g,yd,k1,decide_true,if_true,zco.f,Option.bind_some]
  cases hf:s.find? (fun q=>decide (q.1=x.name)) with
  | none=>exact hno 131
  | some q=>exact ⟨q.2,rfl,fun f hf'=>by cases hf'; exact ⟨rfl,find_tab hs _ hf⟩⟩
 by_cases k3:x.kind=3
 ·simp only [k3,vk] at hl
  have h0:=va (i:=0) (n:=x.sub.length) zcb
  have h1:=va (i:=1) (n:=x.sub.length) zcb
  have e:yd M (PS M k x) s x=(hdS M (PS M k x) s 5).bind fun f=>(PS M k x 1 s (some (nd M f).l)).bind fun _ => .ok (nd M f).r:=by
   rw [← hdS_eq (g:=fun n=>(PS M k x 1 s (some n.l)).bind fun _ => .ok n.r)]
   simp [yd,k3]
  obtain ⟨n,e1,e2⟩ := kO (kd:=5) hk h0 (hP.told 0 h0 s hs)
  rw [e]
  simp only [zdl.g,k3,Int.reduceEq,decide_false,decide_true,Bool.false_eq_true,if_false,if_true,e1,Option.bind_some]
  cases hh:hdS M (PS M k x) s 5 with
  | no c w=>exact ⟨0,rfl,fun f hf=>by cases hf⟩
  | ok f =>
   obtain ⟨rfl,hb,hkd⟩ := e2 f hh
   have hl:=hM.left hb (.inr (.inr hkd))
   have hrr:=hM.right hb (.inr (.inr hkd))
   simp only [err,Option.isSome_none,Bool.false_eq_true,if_false,vG hk h1 (hP.chkd 1 h1 s hs _ hl),Option.bind_some,TR.bind]
   cases PS M k x 1 s (some (nd M f).l) with
   | ok g=>exact ⟨_,rfl,fun f' hf=>by cases hf; exact ⟨rfl,hrr⟩⟩
   | no c w=>exact ⟨_,rfl,fun f' hf=>by cases hf⟩
 by_cases k5:x.kind=5
 ·simp only [k5,vk] at hl
  have h0:=va (i:=0) (n:=x.sub.length) zcb
  have e:yd M (PS M k x) s x=(hdS M (PS M k x) s 3).bind fun f => .ok (nd M f).l:=by
   rw [← hdS_eq (g:=fun n => .ok n.l)]
   simp [yd,k5]
  obtain ⟨n,e1,e2⟩ := kO (kd:=3) hk h0 (hP.told 0 h0 s hs)
  rw [e]
  simp only [zdl.g,k5,Int.reduceEq,decide_false,decide_true,Bool.false_eq_true,if_false,if_true,e1,Option.bind_some]
  cases hh:hdS M (PS M k x) s 3 with
  | no c w=>exact ⟨_,rfl,fun f hf=>by cases hf⟩
  | ok f =>
   obtain ⟨rfl,hb,hkd⟩ := e2 f hh
   exact ⟨_,rfl,fun f' hf=>by cases hf; exact ⟨rfl,hM.left hb (.inl hkd)⟩⟩
 by_cases k6:x.kind=6
 ·simp only [k6,vk] at hl
  have h0:=va (i:=0) (n:=x.sub.length) zcb
  have e:yd M (PS M k x) s x=(hdS M (PS M k x) s 3).bind fun f => .ok (nd M f).r:=by
   rw [← hdS_eq (g:=fun n => .ok n.r)]
   simp [yd,k6]
  obtain ⟨n,e1,e2⟩ := kO (kd:=3) hk h0 (hP.told 0 h0 s hs)
  rw [e]
  simp only [zdl.g,k6,Int.reduceEq,decide_false,decide_true,Bool.false_eq_true,if_false,if_true,e1,Option.bind_some]
  cases hh:hdS M (PS M k x) s 3 with
  | no c w=>exact ⟨_,rfl,fun f hf=>by cases hf⟩
  | ok f =>
   obtain ⟨rfl,hb,hkd⟩ := e2 f hh
   exact ⟨_,rfl,fun f' hf=>by cases hf; exact ⟨rfl,hM.right hb (.inl hkd)⟩⟩
 by_cases k11:x.kind=11
 ·simp only [k11,vk] at hl
  have h0:=va (i:=0) (n:=x.sub.length) zcb
  simp only [zdl.g,yd,k11,Int.reduceEq,decide_false,decide_true,Bool.false_eq_true,if_false,if_true,zcf.f,Option.map_some,Option.bind_some]
  by_cases hf:inb x.form M.length=true
  ·have hf':(jg M x.form).2=true:=by
    have:=zO hf
    simp [jg,vj,this.1,this.2]
   simp only [hf,hf',if_true,Bool.not_true,Bool.false_eq_true,if_false,vG hk h0 (hP.chkd 0 h0 s hs _ hf),Option.bind_some]
   cases PS M k x 0 s (some x.form) with
   | ok g=>exact ⟨_,rfl,fun f' hf2=>by cases hf2; exact ⟨rfl,hf⟩⟩
   | no c w=>exact ⟨_,rfl,fun f' hf2=>by cases hf2⟩
  ·have hf':(jg M x.form).2=false:=by
    have h2:¬ vj M x.form=true:=fun e=>hf (by
     simp only [vj,Bool.and_eq_true,decide_eq_true_eq] at e
     exact va e)
    simp [jg,h2]
   simp only [hf,hf',Bool.not_false,if_true,Bool.false_eq_true,if_false]
   exact hno 31
 by_cases k12:x.kind=12
 ·simp only [k12,vk] at hl
  have h0:=va (i:=0) (n:=x.sub.length) zcb
  have h1:=va (i:=1) (n:=x.sub.length) zcb
  obtain ⟨j,e1,e2⟩ := kQ hk h0 (hP.told 0 h0 s hs)
  simp only [zdl.g,yd,k12,Int.reduceEq,decide_false,decide_true,Bool.false_eq_true,if_false,if_true,e1,Option.bind_some]
  cases hh:PS M k x 0 s none with
  | no c w=>exact ⟨0,rfl,fun f hf=>by cases hf⟩
  | ok f =>
   obtain ⟨rfl,hb⟩ := e2 f hh
   simp only [err,Option.isSome_none,Bool.false_eq_true,if_false,TR.bind]
   obtain ⟨j2,e3,e4⟩ := kQ hk h1 (hP.told 1 h1 ((x.name,j) :: s) (hs.cons hb))
   rw [e3]
   exact ⟨j2,rfl,e4⟩
 by_cases k9:x.kind=9
 ·simp only [k9,vk] at hl
  have h0:=va (i:=0) (n:=x.sub.length) zcb
  have h1:=va (i:=1) (n:=x.sub.length) zcb
  have h2:=va (i:=2) (n:=x.sub.length) zcb
  have e:yd M (PS M k x) s x=(hdS M (PS M k x) s 4).bind fun f=>(PS M k x 1 ((x.name,(nd M f).l) :: s) none).bind fun a=>(PS M k x 2 ((x.other,(nd M f).r) :: s) none).bind fun b=>if a=b then .ok a else .no 130 []:=by
   rw [← hdS_eq (g:=fun n=>(PS M k x 1 ((x.name,n.l) :: s) none).bind fun a=>(PS M k x 2 ((x.other,n.r) :: s) none).bind fun b=>if a=b then .ok a else .no 130 [])]
   simp [yd,k9]
  obtain ⟨n,e1,e2⟩ := kO (kd:=4) hk h0 (hP.told 0 h0 s hs)
  rw [e]
  simp only [zdl.g,k9,Int.reduceEq,decide_false,decide_true,Bool.false_eq_true,if_false,if_true,e1,Option.bind_some]
  cases hh:hdS M (PS M k x) s 4 with
  | no c w=>exact ⟨0,rfl,fun f hf=>by cases hf⟩
  | ok f =>
   obtain ⟨rfl,hb,hkd⟩ := e2 f hh
   have hl:=hM.left hb (.inr (.inl hkd))
   have hrr:=hM.right hb (.inr (.inl hkd))
   obtain ⟨j2,e3,e4⟩ := kQ hk h1 (hP.told 1 h1 ((x.name,(nd M f).l) :: s) (hs.cons hl))
   simp only [err,Option.isSome_none,Bool.false_eq_true,if_false,TR.bind,e3,Option.bind_some]
   cases hh2:PS M k x 1 ((x.name,(nd M f).l) :: s) none with
   | no c w=>exact ⟨0,rfl,fun f hf=>by cases hf⟩
   | ok a =>
    obtain ⟨rfl,hb2⟩ := e4 a hh2
    obtain ⟨j3,e5,e6⟩ := kQ hk h2 (hP.told 2 h2 ((x.other,(nd M f).r) :: s) (hs.cons hrr))
    simp only [err,Option.isSome_none,Bool.false_eq_true,if_false,TR.bind,e5,Option.bind_some]
    cases hh3:PS M k x 2 ((x.other,(nd M f).r) :: s) none with
    | no c w=>exact ⟨_,rfl,fun f hf=>by cases hf⟩
    | ok b =>
     obtain ⟨rfl,hb3⟩ := e6 b hh3
     by_cases hab:j2=j3
     ·subst hab
      simp only [err,TR.bind,if_true]
      exact ⟨j2,by simp [err],fun f' hf=>by cases hf; exact ⟨rfl,hb2⟩⟩
     ·have hba:¬ j3=j2:=fun e=>hab e.symm
      simp only [err,TR.bind,hab,if_false]
      exact ⟨j2,by simp [err,hba],fun f' hf=>by cases hf⟩
 simp only [zdl.g,yd,k1,k3,k5,k6,k9,k11,k12,decide_false,Bool.false_eq_true,if_false]
 exact hno 132
theorem err_bind_none {t:TR} {y:Option (Option (Int × List Int))} {z:TR} (h : ∀ f,t = .ok f→y=some (err z)):(if (err t).isSome=true then some (err t) else y)=some (err (t.bind fun _=>z)):=by
 cases t with
 | ok f=>simpa [err,TR.bind] using h f rfl
 | no c w=>simp [err,TR.bind]
theorem chkd_tells (hM:Wf M) (hk:k ≤ 1999) (hr:rightT x=true) (hP:Parts M k x T C) {s:Sc} (hs:Sok M s) {id:Int} (hid:inb id M.length=true) (hT:Tells M (T ⟨some M⟩ x s) (yd M (PS M k x) s x)):zdm.g T C ⟨some M⟩ x s id=some (err (yr M (PS M k x) s x id)):=by
 have hl:=rt_len hr
 have hnode : ∀ (kd:Int) (g:Nd→TR) (y:Nd→Option (Option (Int × List Int))),((nd M id).kind=kd→y (nd M id)=some (err (g (nd M id))))→((zdh.f ⟨some M⟩ id kd).bind fun r=>if r.2.isSome=true then some r.2 else y r.1)=some (err (ofK M id kd g)):=by
  intro kd g y hy
  rw [node_tab hid]
  simp only [Option.bind_some,ofK]
  by_cases h:(nd M id).kind=kd
  ·simp only [h,if_true,Option.isSome_none,Bool.false_eq_true,if_false]; exact hy h
  ·simp only [h,if_false,Option.isSome_some,if_true]; rfl
 have hsome : ∀ {y:Option (Option (Int × List Int))},(y.bind fun r=>some r)=y:=fun {y}=>by cases y <;> rfl
 by_cases k2:x.kind=2
 ·simp only [k2,vk] at hl
  have h0:=va (i:=0) (n:=x.sub.length) zcb
  simp only [zdm.g,yr,k2,decide_true,if_true,hsome]
  exact hnode 5 (fun n=>PS M k x 0 ((x.name,n.l) :: s) (some n.r)) (fun n=>zdj.g C ⟨some M⟩ x 0 ((x.name,n.l) :: s) n.r) fun hkd=>vG hk h0 (hP.chkd 0 h0 _ (hs.cons (hM.left hid (.inr (.inr hkd)))) _ (hM.right hid (.inr (.inr hkd))))
 by_cases k4:x.kind=4
 ·simp only [k4,vk] at hl
  have h0:=va (i:=0) (n:=x.sub.length) zcb
  have h1:=va (i:=1) (n:=x.sub.length) zcb
  simp only [zdm.g,yr,k4,Int.reduceEq,decide_false,decide_true,Bool.false_eq_true,if_false,if_true,hsome]
  refine hnode 3 (fun n=>(PS M k x 0 s (some n.l)).bind fun _=>PS M k x 1 s (some n.r)) (fun n=>(zdj.g C ⟨some M⟩ x 0 s n.l).bind fun r30=>if r30.isSome=true then some r30 else zdj.g C ⟨some M⟩ x 1 s n.r) fun hkd=>?_
  rw [vG hk h0 (hP.chkd 0 h0 s hs _ (hM.left hid (.inl hkd)))]
  simp only [Option.bind_some]
  exact err_bind_none fun f _=>vG hk h1 (hP.chkd 1 h1 s hs _ (hM.right hid (.inl hkd)))
 by_cases k7:x.kind=7
 ·simp only [k7,vk] at hl
  have h0:=va (i:=0) (n:=x.sub.length) zcb
  simp only [zdm.g,yr,k7,Int.reduceEq,decide_false,decide_true,Bool.false_eq_true,if_false,if_true,hsome,Option.bind_some]
  exact hnode 4 (fun n=>PS M k x 0 s (some n.l)) (fun n=>zdj.g C ⟨some M⟩ x 0 s n.l) fun hkd=>vG hk h0 (hP.chkd 0 h0 s hs _ (hM.left hid (.inr (.inl hkd))))
 by_cases k8:x.kind=8
 ·simp only [k8,vk] at hl
  have h0:=va (i:=0) (n:=x.sub.length) zcb
  simp only [zdm.g,yr,k8,Int.reduceEq,decide_false,decide_true,Bool.false_eq_true,if_false,if_true,hsome,Option.bind_some]
  exact hnode 4 (fun n=>PS M k x 0 s (some n.r)) (fun n=>zdj.g C ⟨some M⟩ x 0 s n.r) fun hkd=>vG hk h0 (hP.chkd 0 h0 s hs _ (hM.right hid (.inr (.inl hkd))))
 by_cases k9:x.kind=9
 ·simp only [k9,vk] at hl
  have h0:=va (i:=0) (n:=x.sub.length) zcb
  have h1:=va (i:=1) (n:=x.sub.length) zcb
  have h2:=va (i:=2) (n:=x.sub.length) zcb
  have e:yr M (PS M k x) s x id=(hdS M (PS M k x) s 4).bind fun f=>(PS M k x 1 ((x.name,(nd M f).l) :: s) (some id)).bind fun _=>PS M k x 2 ((x.other,(nd M f).r) :: s) (some id):=by
   rw [← hdS_eq (g:=fun n=>(PS M k x 1 ((x.name,n.l) :: s) (some id)).bind fun _=>PS M k x 2 ((x.other,n.r) :: s) (some id))]
   simp [yr,k9]
  obtain ⟨n,e1,e2⟩ := kO (kd:=4) hk h0 (hP.told 0 h0 s hs)
  rw [e]
  simp only [zdm.g,k9,Int.reduceEq,decide_false,decide_true,Bool.false_eq_true,if_false,if_true,hsome,Option.bind_some,e1]
  cases hh:hdS M (PS M k x) s 4 with
  | no c w=>rfl
  | ok f =>
   obtain ⟨rfl,hb,hkd⟩ := e2 f hh
   simp only [err,Option.isSome_none,Bool.false_eq_true,if_false,TR.bind]
   rw [vG hk h1 (hP.chkd 1 h1 _ (hs.cons (hM.left hb (.inr (.inl hkd)))) _ hid)]
   simp only [Option.bind_some]
   exact err_bind_none fun f' _=>vG hk h2 (hP.chkd 2 h2 _ (hs.cons (hM.right hb (.inr (.inl hkd)))) _ hid)
 by_cases k10:x.kind=10
 ·simp only [k10,vk] at hl
  have h0:=va (i:=0) (n:=x.sub.length) zcb
  have e:yr M (PS M k x) s x id=(hdS M (PS M k x) s 2).bind fun f => .ok id:=by
   rw [← hdS_eq (g:=fun n => .ok id)]
   simp [yr,k10]
  obtain ⟨n,e1,e2⟩ := kO (kd:=2) hk h0 (hP.told 0 h0 s hs)
  rw [e]
  simp only [zdm.g,k10,Int.reduceEq,decide_false,decide_true,Bool.false_eq_true,if_false,if_true,hsome,Option.bind_some,e1]
  cases hh:hdS M (PS M k x) s 2 with
  | no c w=>rfl
  | ok f=>rfl
 by_cases k12:x.kind=12
 ·simp only [k12,vk] at hl
  have h0:=va (i:=0) (n:=x.sub.length) zcb
  have h1:=va (i:=1) (n:=x.sub.length) zcb
  obtain ⟨j,e1,e2⟩ := kQ hk h0 (hP.told 0 h0 s hs)
  simp only [zdm.g,yr,k12,Int.reduceEq,decide_false,decide_true,Bool.false_eq_true,if_false,if_true,hsome,Option.bind_some,e1]
  cases hh:PS M k x 0 s none with
  | no c w=>rfl
  | ok f =>
   obtain ⟨rfl,hb⟩ := e2 f hh
   simp only [err,Option.isSome_none,Bool.false_eq_true,if_false,TR.bind]
   exact vG hk h1 (hP.chkd 1 h1 _ (hs.cons hb) _ hid)
 obtain ⟨j,e1,e2⟩ := hT
 simp only [zdm.g,yr,k2,k4,k7,k8,k9,k10,k12,decide_false,Bool.false_eq_true,if_false,Option.bind_some,e1]
 cases hh:yd M (PS M k x) s x with
 | no c w=>simp [err,TR.bind]
 | ok f =>
  obtain ⟨rfl,hb⟩ := e2 f hh
  by_cases hj:j=id
  ·subst hj; simp [err,TR.bind]
  ·simp [err,TR.bind,hj]
end
theorem tc_prog {M:List Nd} (hM:Wf M) : ∀ (k:Nat),k ≤ 1999 → ∀ (x:PTerm),rightT x=true→depT x ≤ k →
  (∀ (s:Sc),Sok M s → ∀ K,2 * k ≤ K→Tells M (zdl.f K ⟨some M⟩ x s) (tyS M k x s none)) ∧
  (∀ (s:Sc),Sok M s → ∀ id,inb id M.length=true → ∀ K,2 * k + 1 ≤ K→zdm.f K ⟨some M⟩ x s id=some (err (tyS M k x s (some id))))
 | 0,_,x,_,h=>by have:=zak x; omega
 | k + 1,hk,x,hr,hd=>by
  have hde:=depT_eq x
  have hsub : ∀ i,inb i x.sub.length=true→rightT (at_ PTerm.z x.sub i)=true∧depT (at_ PTerm.z x.sub i) ≤ k:=fun i hi=>by
   have hm:=at_mem (zO hi)
   rw [rightT_eq,Bool.and_eq_true] at hr
   exact ⟨rightL_mem hr.2 _ hm,by have:=zbS _ hm; omega⟩
  have hP : ∀ K,2 * k + 1 ≤ K→Parts M k x (zdl.f K) (zdm.f K):=fun K hK =>
   ⟨fun i hi s hs=>(tc_prog hM k zcb _ (hsub i hi).1 (hsub i hi).2).1 s hs K zcb,fun i hi s hs id hid=>(tc_prog hM k zcb _ (hsub i hi).1 (hsub i hi).2).2 s hs id hid K zcb⟩
  have h1 : ∀ (s:Sc),Sok M s → ∀ K,2 * (k + 1) ≤ K→Tells M (zdl.f K ⟨some M⟩ x s) (tyS M (k + 1) x s none):=fun s hs K hK=>by
   obtain ⟨K',rfl⟩ : ∃ K',K=K' + 1:=⟨K - 1,by omega⟩
   exact told_tells hM zcb hr (hP K' zcb) hs
  refine ⟨h1,fun s hs id hid K hK=>?_⟩
  obtain ⟨K',rfl⟩ : ∃ K',K=K' + 1:=⟨K - 1,by omega⟩
  exact chkd_tells hM zcb hr (hP K' zcb) hs hid (h1 s hs K' zcb)
end
section
open Gw
def scS (l:List Hyp):Sc:=(l.map fun h=>(h.name,h.form)).reverse
def uj (M:List Nd) (l:List Hyp):Bool:=l.all fun h=>inb h.form M.length
theorem scS_ok {M:List Nd} {l:List Hyp} (h:uj M l=true):Sok M (scS l):=fun q hq=>by
 obtain ⟨a,ha,rfl⟩ := List.mem_map.1 (List.mem_reverse.1 hq)
 exact List.all_eq_true.1 h a ha
theorem ahead_loop (l:List Hyp) : ∀ (n i:Nat) (ids:List Int) (s:Sc),i + n=l.length→(ids.length + n) * 8 ≤ 140737488355328 →
  forS (fun i s=>zdn.b0 l i s.1 s.2) n (i:Int) (ids,s)=some (ids ++ (l.drop i).map (·.form),((l.drop i).map fun h=>(h.name,h.form)).reverse ++ s)
 | 0,i,ids,s,hi,_=>by
  rw [List.drop_eq_nil_of_le zcb]; simp [forS]
 | n + 1,i,ids,s,hi,hb=>by
  have hil:i < l.length:=by omega
  have he:at_ Hyp.z l (i:Int)=l[i]:=by
   unfold at_; rw [Int.toNat_natCast,List.getD_eq_getElem?_getD,List.getElem?_eq_getElem hil]; rfl
  have hb0:zdn.b0 l (i:Int) ids s=some (ids ++ [l[i].form],(l[i].name,l[i].form) :: s):=by
   simp only [zdn.b0,zcn.f,Option.bind_some,he]
   rw [chk_t (decide_eq_true (by simp only [List.length_singleton]; omega))]
  rw [forS]
  show (zdn.b0 l (i:Int) ids s).bind _=_
  rw [hb0]
  simp only [Option.bind_some]
  have:=ahead_loop l n (i + 1) (ids ++ [l[i].form]) ((l[i].name,l[i].form) :: s) zcb (by simp only [List.length_append,List.length_singleton]; omega)
  rw [show ((i:Int) + 1)=((i + 1:Nat):Int) by omega,this,List.drop_eq_getElem_cons hil]
  simp only [List.map_cons,List.reverse_cons,List.append_assoc,List.cons_append,List.nil_append,List.singleton_append]
theorem has_inb {M:List Nd} (i:Int):(jg M i).2=inb i M.length:=by
 unfold jg vj inb
 split <;> simp_all
theorem ahead_some {K:Nat} {M:List Nd} {l:List Hyp} {x:PTerm} {ids:List Int} (hK:66562 ≤ K) (hn:nmT x) (hb:(ids.length + l.length) * 8 ≤ 140737488355328) :
  zdn.f K (some M) l x ids=some (if (ids.all fun i=>inb i M.length) && uj M l then (scS l,jQ x) else ([],31)):=by
 unfold zdn.f
 have h1:=ahead_loop l l.length 0 ids [] zcb zcb
 have e0:(((l.length:Nat):Int) - 0).toNat=l.length:=by omega
 simp only [zch.f,Option.bind_some,show decide ((31:Int)=1)=false from rfl,Bool.false_eq_true,if_false,e0]
 rw [show (0:Int)=((0:Nat):Int) from rfl,h1]
 simp only [Option.bind_some,List.drop_zero,List.append_nil]
 generalize hids:ids ++ l.map (·.form)=js
 have h2:=zaL (b:=fun i s=>zdn.b1 (some M) (js,(l.map fun h=>(h.name,h.form)).reverse) i) (p:=fun k => !inb (js.getD k 0) M.length) (r:=fun _=>(([]:List (ByteArray × Int)),(31:Int))) js.length 0 () (by
  intro k _ hk
  unfold zdn.b1 at_
  simp only [zcf.f,Option.map_some,Option.bind_some,Int.toNat_natCast,has_inb]
  cases inb (js.getD k 0) M.length <;> rfl)
 have e1:(((js.length:Nat):Int) - ((0:Nat):Int)).toNat=js.length:=by omega
 rw [e1,h2]
 have h3:((ids.all fun i=>inb i M.length) && uj M l) = !((List.range' 0 js.length).find? fun k => !inb (js.getD k 0) M.length).isSome:=by
  have h4:((ids.all fun i=>inb i M.length) && uj M l)=js.all fun i=>inb i M.length:=by
   rw [← hids,List.all_append,uj,List.all_map]; rfl
  rw [h4,← any_find,Bool.eq_iff_iff]
  simp only [List.all_eq_true,Bool.not_eq_true',List.any_eq_false,Bool.not_eq_true,Bool.not_eq_false',List.mem_range'_1]
  constructor
  ·intro hh k hk
   have hk':k < js.length:=by omega
   simp only [List.getD_eq_getElem?_getD,List.getElem?_eq_getElem hk',Option.getD_some]
   simpa using hh _ (List.getElem_mem hk')
  ·intro hh x hx
   obtain ⟨k,hk,rfl⟩ := List.getElem_of_mem hx
   have:=hh k ⟨by omega,by omega⟩
   simp only [List.getD_eq_getElem?_getD,List.getElem?_eq_getElem hk,Option.getD_some] at this
   simpa using this
 rw [h3]
 cases (List.range' 0 js.length).find? fun k => !inb (js.getD k 0) M.length with
 | none=>simp [aft,Check_some hK hn,scS]
 | some k=>simp [aft]
def inferS (M:List Nd) (l:List Hyp) (x:PTerm):Int × Int:=if uj M l then (if jQ x ≠ 0 then (0,jQ x) else ((tyS M (depT x) x (scS l) none).form,(tyS M (depT x) x (scS l) none).code)) else (0,31)
def whereS (M:List Nd) (l:List Hyp) (x:PTerm) (id:Int):List Int × Int:=if inb id M.length && uj M l then (if jQ x ≠ 0 then ([],jQ x) else ((tyS M (depT x) x (scS l) (some id)).way,(tyS M (depT x) x (scS l) (some id)).code)) else ([],31)
theorem checkT_ok {x:PTerm} (h:¬ jQ x ≠ 0):sizeT x ≤ 65536∧depT x ≤ 1024∧rightT x=true:=by
 unfold jQ at h
 split at h
 ·simp at h
 ·split at h
  ·rename_i h1 h2; exact ⟨by omega,by omega,h2⟩
  ·simp at h
theorem code_err (t:TR):zdg.f (err t)=some (t.way,t.code):=by
 cases t <;> simp [zdg.f,err,TR.way,TR.code,zcp.f]
theorem cd_pos {t:TR} (h:Cd t):(∀ f,t ≠ .ok f)→t.code ≠ 0:=by
 cases t with
 | ok f=>intro q; exact absurd rfl (q f)
 | no c w=>intro _ q; simp only [TR.code] at q; subst q; simp [Cd] at h
theorem Infer_some {K:Nat} {M:List Nd} {l:List Hyp} {x:PTerm} (hM:Wf M) (hK:66562 ≤ K) (hn:nmT x) (hb:l.length * 8 ≤ 140737488355328):zdq.f K (some M) l x=some (inferS M l x):=by
 unfold zdq.f inferS
 rw [ahead_some hK hn (by simpa using hb)]
 simp only [List.all_nil,Bool.true_and,Option.bind_some]
 by_cases hl:uj M l=true
 ·simp only [hl,if_true]
  by_cases hc:jQ x ≠ 0
  ·simp [hc]
  ·obtain ⟨h1,h2,h3⟩ := checkT_ok hc
   obtain ⟨i,e1,e2⟩ := (tc_prog hM (depT x) zcb x h3 (Nat.le_refl _)).1 (scS l) (scS_ok hl) K zcb
   have hcd:=tyS_cd (M:=M) (depT x) x (scS l) none
   simp only [hc,decide_false,Bool.false_eq_true,if_false,e1,Option.bind_some,code_err]
   cases ht:tyS M (depT x) x (scS l) none with
   | ok f =>
    obtain ⟨rfl,_⟩ := e2 f ht
    simp [TR.code,TR.form]
   | no c w =>
    rw [ht] at hcd
    have:=cd_pos hcd (by intro f; simp)
    simp only [TR.code] at this
    simp [TR.code,TR.form,this]
 ·simp [hl]
theorem Where_some {K:Nat} {M:List Nd} {l:List Hyp} {x:PTerm} {id:Int} (hM:Wf M) (hK:66562 ≤ K) (hn:nmT x) (hb:(1 + l.length) * 8 ≤ 140737488355328):zdo.f K (some M) l x id=some (whereS M l x id):=by
 unfold zdo.f whereS
 rw [ahead_some hK hn (by simpa using hb)]
 simp only [List.all_cons,List.all_nil,Bool.and_true,Option.bind_some]
 by_cases hl:(inb id M.length && uj M l)=true
 ·simp only [hl,if_true]
  rw [Bool.and_eq_true] at hl
  by_cases hc:jQ x ≠ 0
  ·simp [hc]
  ·obtain ⟨h1,h2,h3⟩ := checkT_ok hc
   have e1:=(tc_prog hM (depT x) zcb x h3 (Nat.le_refl _)).2 (scS l) (scS_ok hl.2) id hl.1 K zcb
   simp only [hc,decide_false,Bool.false_eq_true,if_false,e1,Option.bind_some,code_err]
 ·simp [hl]
theorem CheckF_some {K:Nat} {M:List Nd} {l:List Hyp} {x:PTerm} {id:Int} (hM:Wf M) (hK:66562 ≤ K) (hn:nmT x) (hb:(1 + l.length) * 8 ≤ 140737488355328):zdp.f K (some M) l x id=some (whereS M l x id).2:=by
 unfold zdp.f
 rw [Where_some hM hK hn hb]; rfl
end
section
open Gw
theorem at_or {l:List PTerm} (i:Int):at_ PTerm.z l i ∈ l∨at_ PTerm.z l i=PTerm.z:=by
 unfold at_
 rw [List.getD_eq_getElem?_getD]
 by_cases h:i.toNat < l.length
 ·left; rw [List.getElem?_eq_getElem h]; exact List.getElem_mem h
 ·right; rw [List.getElem?_eq_none zcb]; rfl
theorem tyS_z (M:List Nd) : ∀ (k:Nat) (s:Sc) (w:Option Int),tyS M k PTerm.z s w = .no 132 []
 | 0,s,w=>rfl
 | k + 1,s,none=>by rw [zas]; simp [yd,PTerm.z,PTerm.kind]
 | k + 1,s,some id=>by rw [zar]; simp [yr,yd,PTerm.z,PTerm.kind,TR.bind]
theorem tyS_fuel (M:List Nd) : ∀ (k:Nat) (x:PTerm) (s:Sc) (w:Option Int),depT x ≤ k→tyS M (k + 1) x s w=tyS M k x s w
 | 0,x,s,w,h=>by have:=zak x; omega
 | k + 1,x,s,w,h=>by
  have hd:=depT_eq x
  have e:(fun i s' w=>(tyS M (k + 1) (at_ PTerm.z x.sub i) s' w).at_ i)=fun i s' w=>(tyS M k (at_ PTerm.z x.sub i) s' w).at_ i:=by
   funext i s' w
   rcases at_or (l:=x.sub) i with h1 | h1
   ·have:=zbS _ h1
    rw [tyS_fuel M k _ _ _ zcb]
   ·rw [h1,tyS_z,tyS_z]
  cases w with
  | none=>rw [zas,zas,e]
  | some id=>rw [zar,zar,e]
theorem tyS_dep {M:List Nd} {x:PTerm} {s:Sc} {w:Option Int} : ∀ (k:Nat),depT x ≤ k→tyS M k x s w=tyS M (depT x) x s w
 | 0,h=>by have:=zak x; omega
 | k + 1,h=>by
  by_cases e:depT x=k + 1
  ·rw [e]
  ·rw [tyS_fuel M k x s w zcb]; exact tyS_dep k zcb
section
variable {M t:List Nd} {P P':Int→Sc→Option Int→TR}
def Gp (M:List Nd) (P P':Int→Sc→Option Int→TR):Prop := ∀ i s w b,Sok M s→(∀ q,w=some q→inb q M.length=true)→P i s w = .ok b→P' i s w = .ok b∧inb b M.length=true
theorem told_grow (hw:Wf M) (g:M <+: t) (hP:Gp M P P') {s:Sc} {x:PTerm} {b:Int} (hs:Sok M s) (h:yd M P s x = .ok b):yd t P' s x = .ok b∧inb b M.length=true:=by
 have hn : ∀ q,(none:Option Int)=some q→inb q M.length=true:=fun q hq=>by cases hq
 unfold yd at h ⊢
 by_cases k1:x.kind=1
 ·rw [if_pos k1] at h ⊢
  cases hc:s.find? (fun q=>decide (q.1=x.name)) with
  | none=>rw [hc] at h; cases h
  | some q=>rw [hc] at h; cases h; exact ⟨rfl,hs q (List.mem_of_find?_eq_some hc)⟩
 rw [if_neg k1] at h ⊢
 by_cases k3:x.kind=3
 ·rw [if_pos k3] at h ⊢
  obtain ⟨f,h1,h2⟩ := TR.bind_ok.1 h
  obtain ⟨p1,i1⟩ := hP _ _ _ _ hs hn h1
  obtain ⟨e,h3⟩ := yV.1 h2
  obtain ⟨u,h4,h5⟩ := TR.bind_ok.1 h3
  obtain ⟨p2,i2⟩ := hP _ _ _ _ hs (fun q hq=>by cases hq; exact hw.l5 i1 e) h4
  cases h5
  have en:=y8 g i1
  exact ⟨TR.bind_ok.2 ⟨f,p1,yV.2 ⟨by rw [en]; exact e,by rw [en]; exact TR.bind_ok.2 ⟨u,p2,rfl⟩⟩⟩,hw.r5 i1 e⟩
 rw [if_neg k3] at h ⊢
 by_cases k5:x.kind=5
 ·rw [if_pos k5] at h ⊢
  obtain ⟨f,h1,h2⟩ := TR.bind_ok.1 h
  obtain ⟨p1,i1⟩ := hP _ _ _ _ hs hn h1
  obtain ⟨e,h3⟩ := yV.1 h2
  cases h3
  have en:=y8 g i1
  exact ⟨TR.bind_ok.2 ⟨f,p1,yV.2 ⟨by rw [en]; exact e,by rw [en]⟩⟩,hw.left i1 (.inl e)⟩
 rw [if_neg k5] at h ⊢
 by_cases k6:x.kind=6
 ·rw [if_pos k6] at h ⊢
  obtain ⟨f,h1,h2⟩ := TR.bind_ok.1 h
  obtain ⟨p1,i1⟩ := hP _ _ _ _ hs hn h1
  obtain ⟨e,h3⟩ := yV.1 h2
  cases h3
  have en:=y8 g i1
  exact ⟨TR.bind_ok.2 ⟨f,p1,yV.2 ⟨by rw [en]; exact e,by rw [en]⟩⟩,hw.right i1 (.inl e)⟩
 rw [if_neg k6] at h ⊢
 by_cases k11:x.kind=11
 ·rw [if_pos k11] at h ⊢
  by_cases hi:inb x.form M.length=true
  ·rw [if_pos hi] at h
   rw [if_pos (ud g hi)]
   obtain ⟨f,h1,h2⟩ := TR.bind_ok.1 h
   obtain ⟨p1,i1⟩ := hP _ _ _ _ hs (fun q hq=>by cases hq; exact hi) h1
   cases h2
   exact ⟨TR.bind_ok.2 ⟨f,p1,rfl⟩,hi⟩
  ·rw [if_neg hi] at h; cases h
 rw [if_neg k11] at h ⊢
 by_cases k12:x.kind=12
 ·rw [if_pos k12] at h ⊢
  obtain ⟨f,h1,h2⟩ := TR.bind_ok.1 h
  obtain ⟨p1,i1⟩ := hP _ _ _ _ hs hn h1
  obtain ⟨p2,i2⟩ := hP _ _ _ _ (hs.cons i1) hn h2
  exact ⟨TR.bind_ok.2 ⟨f,p1,p2⟩,i2⟩
 rw [if_neg k12] at h ⊢
 by_cases k9:x.kind=9
 ·rw [if_pos k9] at h ⊢
  obtain ⟨f,h1,h2⟩ := TR.bind_ok.1 h
  obtain ⟨p1,i1⟩ := hP _ _ _ _ hs hn h1
  obtain ⟨e,h3⟩ := yV.1 h2
  obtain ⟨u,h4,h5⟩ := TR.bind_ok.1 h3
  obtain ⟨v,h6,h7⟩ := TR.bind_ok.1 h5
  obtain ⟨p2,i2⟩ := hP _ _ _ _ (hs.cons (hw.left i1 (.inr (.inl e)))) hn h4
  obtain ⟨p3,i3⟩ := hP _ _ _ _ (hs.cons (hw.right i1 (.inr (.inl e)))) hn h6
  have en:=y8 g i1
  by_cases uv:u=v
  ·rw [if_pos uv] at h7
   have e7:u=b:=by cases h7; rfl
   exact ⟨TR.bind_ok.2 ⟨f,p1,yV.2 ⟨by rw [en]; exact e,by rw [en]; exact TR.bind_ok.2 ⟨u,p2,TR.bind_ok.2 ⟨v,p3,by rw [if_pos uv,e7]⟩⟩⟩⟩,e7 ▸ i2⟩
  ·rw [if_neg uv] at h7; cases h7
 rw [if_neg k9] at h; cases h
theorem chkd_grow (hw:Wf M) (g:M <+: t) (hP:Gp M P P') {s:Sc} {x:PTerm} {id b:Int} (hs:Sok M s) (hid:inb id M.length=true) (h:yr M P s x id = .ok b):yr t P' s x id = .ok b∧inb b M.length=true:=by
 have hn : ∀ q,(none:Option Int)=some q→inb q M.length=true:=fun q hq=>by cases hq
 have hsm : ∀ {f:Int},inb f M.length=true → ∀ q,some f=some q→inb q M.length=true:=fun hf q hq=>by cases hq; exact hf
 have en0:=y8 g hid
 unfold yr at h ⊢
 by_cases k2:x.kind=2
 ·rw [if_pos k2] at h ⊢
  obtain ⟨e,h1⟩ := yV.1 h
  obtain ⟨p1,i1⟩ := hP _ _ _ _ (hs.cons (hw.l5 hid e)) (hsm (hw.r5 hid e)) h1
  exact ⟨yV.2 ⟨by rw [en0]; exact e,by rw [en0]; exact p1⟩,i1⟩
 rw [if_neg k2] at h ⊢
 by_cases k4:x.kind=4
 ·rw [if_pos k4] at h ⊢
  obtain ⟨e,h1⟩ := yV.1 h
  obtain ⟨u,h2,h3⟩ := TR.bind_ok.1 h1
  obtain ⟨p1,i1⟩ := hP _ _ _ _ hs (hsm (hw.left hid (.inl e))) h2
  obtain ⟨p2,i2⟩ := hP _ _ _ _ hs (hsm (hw.right hid (.inl e))) h3
  exact ⟨yV.2 ⟨by rw [en0]; exact e,by rw [en0]; exact TR.bind_ok.2 ⟨u,p1,p2⟩⟩,i2⟩
 rw [if_neg k4] at h ⊢
 by_cases k7:x.kind=7
 ·rw [if_pos k7] at h ⊢
  obtain ⟨e,h1⟩ := yV.1 h
  obtain ⟨p1,i1⟩ := hP _ _ _ _ hs (hsm (hw.left hid (.inr (.inl e)))) h1
  exact ⟨yV.2 ⟨by rw [en0]; exact e,by rw [en0]; exact p1⟩,i1⟩
 rw [if_neg k7] at h ⊢
 by_cases k8:x.kind=8
 ·rw [if_pos k8] at h ⊢
  obtain ⟨e,h1⟩ := yV.1 h
  obtain ⟨p1,i1⟩ := hP _ _ _ _ hs (hsm (hw.right hid (.inr (.inl e)))) h1
  exact ⟨yV.2 ⟨by rw [en0]; exact e,by rw [en0]; exact p1⟩,i1⟩
 rw [if_neg k8] at h ⊢
 by_cases k9:x.kind=9
 ·rw [if_pos k9] at h ⊢
  obtain ⟨f,h1,h2⟩ := TR.bind_ok.1 h
  obtain ⟨p1,i1⟩ := hP _ _ _ _ hs hn h1
  obtain ⟨e,h3⟩ := yV.1 h2
  obtain ⟨u,h4,h5⟩ := TR.bind_ok.1 h3
  obtain ⟨p2,i2⟩ := hP _ _ _ _ (hs.cons (hw.left i1 (.inr (.inl e)))) (hsm hid) h4
  obtain ⟨p3,i3⟩ := hP _ _ _ _ (hs.cons (hw.right i1 (.inr (.inl e)))) (hsm hid) h5
  have en:=y8 g i1
  exact ⟨TR.bind_ok.2 ⟨f,p1,yV.2 ⟨by rw [en]; exact e,by rw [en]; exact TR.bind_ok.2 ⟨u,p2,p3⟩⟩⟩,i3⟩
 rw [if_neg k9] at h ⊢
 by_cases k10:x.kind=10
 ·rw [if_pos k10] at h ⊢
  obtain ⟨f,h1,h2⟩ := TR.bind_ok.1 h
  obtain ⟨p1,i1⟩ := hP _ _ _ _ hs hn h1
  obtain ⟨e,h3⟩ := yV.1 h2
  cases h3
  have en:=y8 g i1
  exact ⟨TR.bind_ok.2 ⟨f,p1,yV.2 ⟨by rw [en]; exact e,rfl⟩⟩,hid⟩
 rw [if_neg k10] at h ⊢
 by_cases k12:x.kind=12
 ·rw [if_pos k12] at h ⊢
  obtain ⟨f,h1,h2⟩ := TR.bind_ok.1 h
  obtain ⟨p1,i1⟩ := hP _ _ _ _ hs hn h1
  obtain ⟨p2,i2⟩ := hP _ _ _ _ (hs.cons i1) (hsm hid) h2
  exact ⟨TR.bind_ok.2 ⟨f,p1,p2⟩,i2⟩
 rw [if_neg k12] at h ⊢
 obtain ⟨f,h1,h2⟩ := TR.bind_ok.1 h
 obtain ⟨p1,i1⟩ := told_grow hw g hP hs h1
 by_cases e:f=id
 ·rw [if_pos e] at h2; cases h2
  exact ⟨TR.bind_ok.2 ⟨f,p1,by rw [if_pos e]⟩,hid⟩
 ·rw [if_neg e] at h2; cases h2
end
theorem tyS_grow {M t:List Nd} (hw:Wf M) (g:M <+: t) : ∀ (k:Nat) (x:PTerm) (s:Sc) (w:Option Int) (b:Int),Sok M s→(∀ q,w=some q→inb q M.length=true)→tyS M k x s w = .ok b→tyS t k x s w = .ok b∧inb b M.length=true
 | 0,x,s,w,b,_,_,h=>by cases h
 | k + 1,x,s,w,b,hs,hi,h=>by
  have hP:Gp M (fun i s' w=>(tyS M k (at_ PTerm.z x.sub i) s' w).at_ i) (fun i s' w=>(tyS t k (at_ PTerm.z x.sub i) s' w).at_ i):=fun i s w b hs hi h=>by
   obtain ⟨h1,h2⟩ := tyS_grow hw g k _ s w b hs hi (TR.at_ok.1 h)
   exact ⟨TR.at_ok.2 h1,h2⟩
  cases w with
  | none=>rw [zas] at h ⊢; exact told_grow hw g hP hs h
  | some id=>rw [zar] at h ⊢; exact chkd_grow hw g hP hs (hi id rfl) h
-- a copy is the same
theorem copy_b0 {x y r:PTerm} {R:PTerm→Option PTerm} {i:Nat} (hi:i < x.sub.length) (hr:R (at_ PTerm.z x.sub i)=some r) (hy:y.sub.length ≤ 1000000000000) (hb:x.sub.length ≤ 1000000000000):zdO.b0 x R (i:Int) y=some (.go (((i + 1:Nat):Int),⟨y.kind,y.name,y.other,y.form,y.sub ++ [r]⟩)):=by
 unfold zdO.b0
 rw [if_pos (by simp; omega),chk,if_pos (yA zcb zcb),hr,show IntKind.i64.wrap ((i:Int) + 1)=((i + 1:Nat):Int) by rw [wrap_small ⟨by omega,by omega⟩]; omega]
 simp only [Option.bind_some]
 rw [chk,if_pos (by simp; omega)]
theorem copy_some : ∀ (K:Nat) (x:PTerm),sizeT x + 2 ≤ K→sizeT x ≤ 1000000000000→zdO.f K x=some x
 | 0,x,h,_=>by omega
 | K + 1,x,h,hb=>by
  have hs:=zbg x
  have hl : ∀ l:List PTerm,l.length ≤ sizeL l:=by
   intro l
   induction l with
   | nil=>simp
   | cons y l ih=>have:=sizeT_pos y; simp only [sizeL,List.length_cons]; omega
  have hl:=hl x.sub
  show zdO.g (zdO.f K) K x=_
  unfold zdO.g
  have hloop : ∀ (n i k:Nat),n < k→i + n=x.sub.length→iter (fun s=>zdO.b0 x (zdO.f K) s.1 s.2) k ((i:Int),(⟨x.kind,x.name,x.other,x.form,x.sub.take i⟩ : PTerm))=some (.inl ((x.sub.length:Int),⟨x.kind,x.name,x.other,x.form,x.sub⟩)):=by
   intro n
   induction n with
   | zero =>
    intro i k hk hi
    obtain ⟨k,rfl⟩ : ∃ k',k=k' + 1:=⟨k - 1,by omega⟩
    have e:i=x.sub.length:=by omega
    subst e
    simp only [iter]
    rw [show zdO.b0 x (zdO.f K) (x.sub.length:Int) (⟨x.kind,x.name,x.other,x.form,x.sub.take x.sub.length⟩ : PTerm)=some (.brk ((x.sub.length:Int),⟨x.kind,x.name,x.other,x.form,x.sub⟩)) by
     unfold zdO.b0; rw [if_neg zcc,List.take_length]]
    rfl
   | succ n ih =>
    intro i k hk hi
    obtain ⟨k,rfl⟩ : ∃ k',k=k' + 1:=⟨k - 1,by omega⟩
    have hil:i < x.sub.length:=by omega
    have e:at_ PTerm.z x.sub (i:Int)=x.sub[i]:=at_nat hil
    have hm:sizeT x.sub[i] ≤ sizeL x.sub:=zaM (List.getElem_mem hil)
    have hb0:zdO.b0 x (zdO.f K) (i:Int) (⟨x.kind,x.name,x.other,x.form,x.sub.take i⟩ : PTerm)=some (.go (((i + 1:Nat):Int),⟨x.kind,x.name,x.other,x.form,x.sub.take (i + 1)⟩)):=by
     refine (copy_b0 (r:=x.sub[i]) hil (by rw [e]; exact copy_some K _ zcb zcb) (show (x.sub.take i).length ≤ _ by simp; omega) zcb).trans ?_
     show some (Stp.go (((i + 1:Nat):Int),PTerm.mk x.kind x.name x.other x.form (x.sub.take i ++ [x.sub[i]])))=_
     rw [← List.take_succ_eq_append_getElem hil]
    simp only [iter,hb0,Option.bind_some]
    exact ih (i + 1) k zcb zcb
  have h0:=hloop x.sub.length 0 K zcb zcb
  rw [List.take_zero] at h0
  rw [show ((0:Nat):Int)=0 from rfl] at h0
  rw [h0]
  cases x; rfl
end
section
open Gw
theorem ba_app (a b:List UInt8):(⟨a.toArray⟩ : ByteArray) ++ ⟨b.toArray⟩ = ⟨(a ++ b).toArray⟩ := by
 apply ByteArray.ext
 simp [ByteArray.data_append]
theorem ba_size (l:List UInt8):(⟨l.toArray⟩ : ByteArray).size=l.length:=by simp [ByteArray.size]
theorem ba_inj {a b:List UInt8} (h:(⟨a.toArray⟩ : ByteArray)=⟨b.toArray⟩):a=b:=by
 have:=congrArg (fun s:ByteArray=>s.data.toList) h
 simpa using this
theorem u8_of {n:Nat} (h:n < 256):(UInt8.ofNat n).toNat=n:=by
 rw [UInt8.toNat_ofNat']; exact Nat.mod_eq_of_lt h
theorem decK_len : ∀ (k u:Nat),(decK k u).length ≤ k
 | 0,u=>by simp [decK]
 | k + 1,u=>by
  unfold decK
  split
  ·simp
  ·have:=decK_len k (u / 10); simp; omega
theorem decK_ne (k u:Nat):decK (k + 1) u ≠ []:=by
 unfold decK
 split <;> simp
theorem decK_dig : ∀ (k u:Nat),∀ c ∈ decK k u,48 ≤ c.toNat∧c.toNat ≤ 57
 | 0,u,c,h=>by simp [decK] at h
 | k + 1,u,c,h=>by
  unfold decK at h
  split at h
  ·rename_i hu
   rw [List.mem_singleton] at h; subst h; rw [u8_of zcb]; omega
  ·rcases List.mem_append.1 h with h | h
   ·exact decK_dig k _ c h
   ·have:u % 10 < 10:=Nat.mod_lt _ zca
    rw [List.mem_singleton] at h; subst h; rw [u8_of zcb]; omega
def valD (l:List UInt8):Nat:=l.foldl (fun a c=>a * 10 + (c.toNat - 48)) 0
theorem decK_val : ∀ (k u:Nat),u < 10 ^ k→valD (decK k u)=u
 | 0,u,h=>by simp at h; subst h; rfl
 | k + 1,u,h=>by
  unfold decK
  split
  ·rename_i hu
   unfold valD
   simp only [List.foldl_cons,List.foldl_nil]
   rw [u8_of zcb]; omega
  ·have h1:=decK_val k (u / 10) (by rw [Nat.pow_succ] at h; omega)
   have:u % 10 < 10:=Nat.mod_lt _ zca
   unfold valD at h1 ⊢
   rw [List.foldl_append,h1]
   simp only [List.foldl_cons,List.foldl_nil]
   rw [u8_of zcb]; omega
theorem kT {n:Int} (h:0 ≤ n):decN n=⟨(decK 20 n.toNat).toArray⟩ := by
 unfold decN; rw [if_neg zcb]
theorem decN_inj {a b:Int} (ha:0 ≤ a∧a < 9223372036854775808) (hb:0 ≤ b∧b < 9223372036854775808) (h:decN a=decN b):a=b:=by
 rw [kT ha.1,kT hb.1] at h
 have h1:=congrArg valD (ba_inj h)
 rw [decK_val 20 _ zcb,decK_val 20 _ zcb] at h1
 omega
-- the document's way
theorem dec_step {u:Nat} {s:List UInt8} (hu:u < 18446744073709551616) (hs:s.length ≤ 1000) (h:0 < u∨s=[]):zdN.b0 (u:Int) ⟨s.toArray⟩ = some (.go (((u / 10:Nat):Int),⟨(UInt8.ofNat (48 + u % 10) :: s).toArray⟩)):=by
 have hm:u % 10 < 10:=Nat.mod_lt _ zca
 have ht:Int.tmod (u:Int) 10=((u % 10:Nat):Int):=by rw [Int.tmod_eq_emod_of_nonneg zcb]; omega
 have hd:Int.tdiv (u:Int) 10=((u / 10:Nat):Int):=by rw [Int.tdiv_eq_ediv_of_nonneg zcb]; omega
 have hw:IntKind.u64.wrap (48 + ((u % 10:Nat):Int))=48 + ((u % 10:Nat):Int):=by
  unfold IntKind.wrap; simp [IntKind.signed,IntKind.bits]; omega
 have hw2:IntKind.u8.wrap (48 + ((u % 10:Nat):Int))=48 + ((u % 10:Nat):Int):=by
  unfold IntKind.wrap; simp [IntKind.signed,IntKind.bits]; omega
 have hw3:IntKind.u64.wrap ((u / 10:Nat):Int)=((u / 10:Nat):Int):=by
  unfold IntKind.wrap; simp [IntKind.signed,IntKind.bits]; omega
 have hs1:strOfNums [48 + ((u % 10:Nat):Int)]=⟨[UInt8.ofNat (48 + u % 10)].toArray⟩ := by
  unfold strOfNums
  rw [List.map_cons,List.map_nil,show (48 + ((u % 10:Nat):Int)).toNat=48 + u % 10 by omega]
 have hc:((decide (0 < (u:Int))) || (decide ((⟨s.toArray⟩ : ByteArray)=(⟨#[]⟩ : ByteArray))))=true:=by
  rcases h with h | h
  ·simp; left; omega
  ·subst h; simp
 unfold zdN.b0
 rw [hc,if_pos rfl,ht,hd,hw,hw2,hw3,hs1,ba_size,ba_size,chk,if_pos (by simp; omega),ba_app]
 rfl
theorem dec_loop : ∀ (m u:Nat) (s:List UInt8) (k:Nat),u < 10 ^ m→m ≤ 19→m < k→s.length + m ≤ 1000→s ≠ []→iter (fun s=>zdN.b0 s.1 s.2) k ((u:Int),⟨s.toArray⟩)=some (.inl (0,⟨((if u=0 then [] else decK m u) ++ s).toArray⟩))
 | m,u,s,0,_,_,h,_,_=>by omega
 | m,u,s,k + 1,hu,hm,hk,hl,hs=>by
  by_cases h0:u=0
  ·subst h0
   simp only [iter]
   rw [show zdN.b0 ((0:Nat):Int) ⟨s.toArray⟩ = some (.brk (0,⟨s.toArray⟩)) by
    unfold zdN.b0
    rw [if_neg]
    ·rfl
    ·simp [hs]]
   simp
  ·match m,hu with
   | 0,hu=>simp at hu; omega
   | m + 1,hu =>
    have hb:u < 18446744073709551616:=by
     have:=Nat.pow_le_pow_right (show 0 < 10 by decide) hm
     omega
    simp only [iter]
    rw [dec_step hb zcb (.inl zcb)]
    simp only [Option.bind_some]
    have h1:u / 10 < 10 ^ m:=by rw [Nat.pow_succ] at hu; omega
    refine (dec_loop m (u / 10) _ k h1 zcb zcb (by simp; omega) zcc).trans ?_
    have hm10:u % 10 < 10:=Nat.mod_lt _ zca
    rw [if_neg h0]
    congr 5
    by_cases hu9:u < 10
    ·have e1:u / 10=0:=by omega
     have e2:u % 10=u:=by omega
     rw [if_pos e1,e2]; simp [decK,hu9]
    ·have e1:¬ u / 10=0:=by omega
     rw [if_neg e1]; simp [decK,hu9]
theorem Dec_doc {K:Nat} {n:Int} (hK:30 ≤ K) (h0:0 ≤ n) (h1:n < 9223372036854775808):zdN.f K n=some (decN n):=by
 obtain ⟨u,rfl⟩ : ∃ u:Nat,n=u:=⟨n.toNat,by omega⟩
 obtain ⟨K,rfl⟩ : ∃ k',K=k' + 1:=⟨K - 1,by omega⟩
 have hw:IntKind.u64.wrap (u:Int)=u:=by
  unfold IntKind.wrap; simp [IntKind.signed,IntKind.bits]; omega
 unfold zdN.f
 rw [if_neg zcc,hw]
 simp only [Option.bind_some]
 have hstep:=dec_step (u:=u) (s:=[]) zcb zcc (.inr rfl)
 have e:(⟨#[]⟩ : ByteArray)=⟨([]:List UInt8).toArray⟩ := rfl
 simp only [iter]
 rw [e,hstep]
 simp only [Option.bind_some]
 rw [dec_loop 19 (u / 10) [UInt8.ofNat (48 + u % 10)] K zcb zcb zcb zcc zcc]
 simp only [Option.bind_some,aft]
 have hm10:u % 10 < 10:=Nat.mod_lt _ zca
 have hx:(if u / 10=0 then [] else decK 19 (u / 10)) ++ [UInt8.ofNat (48 + u % 10)]=decK 20 u:=by
  by_cases hu9:u < 10
  ·have e1:u / 10=0:=by omega
   have e2:u % 10=u:=by omega
   rw [if_pos e1,e2]; simp [decK,hu9]
  ·have e1:¬ u / 10=0:=by omega
   rw [if_neg e1]; simp [decK,hu9]
 rw [hx,ba_size,ba_size,chk,if_pos (by have:=decK_len 20 u; simp; omega),ba_app,List.nil_append,kT zcb,Int.toNat_natCast]
theorem Dec_prog {n:Int} (h0:0 ≤ n) (h1:n < 9223372036854775808):zdA.f n=some (decN n):=by
 unfold zdA.f strconv_Itoa.f
 rw [chk,if_pos (by simp; omega)]; rfl
def hNm (f:Int):ByteArray:=(⟨#[104]⟩ : ByteArray) ++ decN f
def lNm (i:Int):ByteArray:=(⟨#[108]⟩ : ByteArray) ++ decN i
theorem hNm_eq {f:Int} (h:0 ≤ f):hNm f=⟨((104:UInt8) :: decK 20 f.toNat).toArray⟩ := by
 unfold hNm; rw [kT h]; exact ba_app [104] _
theorem lNm_eq {f:Int} (h:0 ≤ f):lNm f=⟨((108:UInt8) :: decK 20 f.toNat).toArray⟩ := by
 unfold lNm; rw [kT h]; exact ba_app [108] _
theorem hNm_inj {a b:Int} (ha:0 ≤ a∧a < 9223372036854775808) (hb:0 ≤ b∧b < 9223372036854775808) (h:hNm a=hNm b):a=b:=by
 rw [hNm_eq ha.1,hNm_eq hb.1] at h
 have h1:=List.cons.inj (ba_inj h)
 exact decN_inj ha hb (by rw [kT ha.1,kT hb.1,h1.2])
theorem lNm_inj {a b:Int} (ha:0 ≤ a∧a < 9223372036854775808) (hb:0 ≤ b∧b < 9223372036854775808) (h:lNm a=lNm b):a=b:=by
 rw [lNm_eq ha.1,lNm_eq hb.1] at h
 have h1:=List.cons.inj (ba_inj h)
 exact decN_inj ha hb (by rw [kT ha.1,kT hb.1,h1.2])
theorem hl_ne {a b:Int} (ha:0 ≤ a) (hb:0 ≤ b):hNm a ≠ lNm b:=by
 rw [hNm_eq ha,lNm_eq hb]
 intro h
 have h1:=(List.cons.inj (ba_inj h)).1
 exact absurd h1 zca
theorem sb_list (l:List UInt8) (i:Nat) (h:i < l.length):sb ⟨l.toArray⟩ i=(l[i].toNat:Int):=by
 unfold sb
 rw [show (⟨l.toArray⟩ : ByteArray)[i]? = some l[i] from by
  rw [getElem?_pos _ i (by simpa [ByteArray.size] using h)]; rfl]
 rfl
theorem word_of {c:UInt8} (hc:isL (c.toNat:Int)=true) {l:List UInt8} (h0:l ≠ []) (h1:l.length ≤ 30) (h2 : ∀ x ∈ l,48 ≤ x.toNat∧x.toNat ≤ 57):isWord ⟨(c :: l).toArray⟩ := by
 have hz:(⟨(c :: l).toArray⟩ : ByteArray).size=l.length + 1:=by rw [ba_size]; rfl
 refine ⟨by omega,by omega,fun i hi=>?_,?_⟩
 ·have hil:i < (c :: l).length:=by rw [hz] at hi; exact hi
  unfold okAt
  rw [sb_list _ _ hil]
  cases i with
  | zero=>exact hc
  | succ i =>
   rw [if_neg zcb,List.getElem_cons_succ]
   have:=h2 _ (List.getElem_mem (show i < l.length by simpa using hil))
   unfold isC
   simp only [Bool.or_eq_true,Bool.and_eq_true,decide_eq_true_eq]
   left; left; right; omega
 ·unfold ko
  rw [List.any_eq_false]
  intro t ht
  simp only [decide_eq_true_eq]
  intro e
  have h3 : ∀ t ∈ resv,97 ≤ (t.data.toList.getD 1 0).toNat:=by decide
  have h4:=h3 t ht
  rw [← e] at h4
  cases l with
  | nil=>exact h0 rfl
  | cons d l =>
   have h5:=h2 d (List.mem_cons_self ..)
   have:((⟨(c :: d :: l).toArray⟩ : ByteArray).data.toList.getD 1 0)=d:=rfl
   rw [this] at h4
   omega
theorem hNm_word {f:Int} (h:0 ≤ f):isWord (hNm f):=by
 rw [hNm_eq h]; exact word_of zca (decK_ne 19 _) (by have:=decK_len 20 f.toNat; omega) (decK_dig 20 _)
theorem lNm_word {f:Int} (h:0 ≤ f):isWord (lNm f):=by
 rw [lNm_eq h]; exact word_of zca (decK_ne 19 _) (by have:=decK_len 20 f.toNat; omega) (decK_dig 20 _)
theorem decN_size {f:Int} (h:0 ≤ f):(decN f).size ≤ 20:=by rw [kT h,ba_size]; exact decK_len 20 _
theorem dec_ok (c:UInt8) {f:Int} (h:0 ≤ f):decide ((⟨#[c]⟩ : ByteArray).size + (decN f).size ≤ 1000000)=true:=by
 have h1:(⟨#[c]⟩ : ByteArray).size=1:=rfl
 have:=decN_size h
 rw [h1]; simp; omega
theorem kD {n:Int} (h0:0 ≤ n) (h1:n < 9223372036854775808):zdB.f n=some (lNm n):=by
 unfold zdB.f
 rw [Dec_prog h0 h1]
 simp only [Option.bind_some]
 rw [dec_ok 108 h0,chk,if_pos rfl]; rfl
end
section
open Gw
def z0T:PTerm:=⟨0,ByteArray.empty,ByteArray.empty,0,[]⟩
def vT (s:ByteArray):PTerm:=⟨1,s,ByteArray.empty,0,[]⟩
def funT (s:ByteArray) (x:PTerm):PTerm:=⟨2,s,ByteArray.empty,0,[x]⟩
def nT (k:Int) (l:List PTerm):PTerm:=⟨k,ByteArray.empty,ByteArray.empty,0,l⟩
def axT (k:Int):PTerm :=
 if k=1 then funT ⟨#[97]⟩ (funT ⟨#[98]⟩ (vT ⟨#[97]⟩))
 else if k=2 then funT ⟨#[97]⟩ (funT ⟨#[98]⟩ (funT ⟨#[99]⟩ (nT 3 [nT 3 [vT ⟨#[97]⟩,vT ⟨#[99]⟩],nT 3 [vT ⟨#[98]⟩,vT ⟨#[99]⟩]])))
 else if k=3 then funT ⟨#[97]⟩ (nT 5 [vT ⟨#[97]⟩])
 else if k=4 then funT ⟨#[97]⟩ (nT 6 [vT ⟨#[97]⟩])
 else if k=5 then funT ⟨#[97]⟩ (funT ⟨#[98]⟩ (nT 4 [vT ⟨#[97]⟩,vT ⟨#[98]⟩]))
 else if k=6 then funT ⟨#[97]⟩ (nT 7 [vT ⟨#[97]⟩])
 else if k=7 then funT ⟨#[97]⟩ (nT 8 [vT ⟨#[97]⟩])
 else if k=8 then funT ⟨#[97]⟩ (funT ⟨#[98]⟩ (funT ⟨#[99]⟩ ⟨9,⟨#[100]⟩,⟨#[101]⟩,0,[vT ⟨#[99]⟩,nT 3 [vT ⟨#[97]⟩,vT ⟨#[100]⟩],nT 3 [vT ⟨#[98]⟩,vT ⟨#[101]⟩]]⟩))
 else funT ⟨#[97]⟩ (nT 10 [vT ⟨#[97]⟩])
def jG (x:Ln):PTerm:=if x.kind=10 then vT (hNm x.form) else if x.kind=11 then nT 3 [vT (lNm x.a),vT (lNm x.b)] else ⟨11,ByteArray.empty,ByteArray.empty,x.form,[axT x.kind]⟩
def letsT (ls:List Ln):Nat→PTerm→PTerm
 | 0,x=>x
 | n + 1,x=>letsT ls n ⟨12,lNm n,ByteArray.empty,0,[jG (at_ Ln.z ls n),x]⟩
def um (ls:List Ln):PTerm:=letsT ls ls.length (vT (lNm ((ls.length:Int) - 1)))
theorem ax_prog (k:Int):zdF.f k=some (axT k):=by
 by_cases h1:k=1; · subst h1; rfl
 by_cases h2:k=2; · subst h2; rfl
 by_cases h3:k=3; · subst h3; rfl
 by_cases h4:k=4; · subst h4; rfl
 by_cases h5:k=5; · subst h5; rfl
 by_cases h6:k=6; · subst h6; rfl
 by_cases h7:k=7; · subst h7; rfl
 by_cases h8:k=8; · subst h8; rfl
 unfold zdF.f axT
 simp only [h1,h2,h3,h4,h5,h6,h7,h8,decide_false,Bool.false_eq_true,if_false]
 rfl
structure FineL (x:Ln):Prop where
 form:0 ≤ x.form∧x.form < 1024
 a:x.kind=11→0 ≤ x.a∧x.a < 9223372036854775808
 b:x.kind=11→0 ≤ x.b∧x.b < 9223372036854775808
theorem b0_prog {x:Ln} (h:FineL x) {i:Int} (h0:0 ≤ i) (h1:i < 9223372036854775808) (y:PTerm):zdG.b0 i x y=some (.go ⟨12,lNm i,ByteArray.empty,0,[jG x,y]⟩):=by
 have hf:=h.form
 unfold zdG.b0
 by_cases k10:x.kind=10
 ·simp only [k10,decide_true,if_true,Dec_prog hf.1 (show x.form < 9223372036854775808 by omega),Option.bind_some,kD h0 h1]
  rw [dec_ok 104 hf.1,chk,if_pos rfl]
  simp only [zdC.f,Option.bind_some]
  rw [show jG x=vT (hNm x.form) by unfold jG; rw [if_pos k10]]
  rfl
 ·by_cases k11:x.kind=11
  ·simp only [k11,show ¬ ((11:Int)=10) by decide,decide_false,Bool.false_eq_true,if_false,decide_true,if_true,kD (h.a k11).1 (h.a k11).2,kD (h.b k11).1 (h.b k11).2,Option.bind_some,zdC.f,zdD.f,kD h0 h1]
   rw [show jG x=nT 3 [vT (lNm x.a),vT (lNm x.b)] by unfold jG; rw [if_neg k10,if_pos k11]]
   rfl
  ·simp only [k10,k11,decide_false,Bool.false_eq_true,if_false,ax_prog,Option.bind_some,zdD.f,kD h0 h1]
   rw [show jG x=⟨11,ByteArray.empty,ByteArray.empty,x.form,[axT x.kind]⟩ by unfold jG; rw [if_neg k10,if_neg k11]]
   rfl
theorem bwd_snoc {α:Type} (l:List α) (y:α):bwd (l ++ [y])=((l.length:Int),y) :: bwd l:=by
 unfold bwd
 rw [List.zipIdx_append,List.map_append,List.reverse_append]
 simp
theorem loop_prog {ls:List Ln} (hb:ls.length < 9223372036854775808) (h : ∀ x ∈ ls,FineL x) : ∀ (n:Nat) (y:PTerm),n ≤ ls.length→forE (fun (x:Int × Ln) (s:PTerm)=>zdG.b0 x.1 x.2 s) (bwd (ls.take n)) y=some (.inl (letsT ls n y))
 | 0,y,_=>by simp [bwd,forE,letsT]
 | n + 1,y,hn=>by
  have hl:n < ls.length:=by omega
  have e:at_ Ln.z ls n=ls[n]:=by
   unfold at_; rw [Int.toNat_natCast,List.getD_eq_getElem?_getD,List.getElem?_eq_getElem hl]; rfl
  rw [List.take_succ_eq_append_getElem hl,bwd_snoc,forE]
  simp only [List.length_take,Nat.min_eq_left (show n ≤ ls.length by omega)]
  rw [b0_prog (h _ (List.getElem_mem hl)) zcb zcb]
  simp only [Option.bind_some]
  rw [loop_prog hb h n _ zcb,letsT,e]
-- nodes,levels,what is right
theorem right_ax1 (k:Int):rightT (axT k)=true:=by
 unfold axT
 repeat' split
 all_goals decide +kernel
theorem ba_em:ByteArray.empty=(⟨#[]⟩ : ByteArray):=rfl
theorem right_v {s:ByteArray} (h:isWord s):rightT (vT s)=true:=by
 simp [vT,rightT,rightL,nodeR,vk,h,PTerm.kind,PTerm.name,PTerm.other,PTerm.form,PTerm.sub,ba_em]
theorem right_part {x:Ln} (h:FineL x):rightT (jG x)=true:=by
 unfold jG
 split
 ·exact right_v (hNm_word h.form.1)
 split
 ·rename_i k
  have h1:=right_v (lNm_word (h.a k).1)
  have h2:=right_v (lNm_word (h.b k).1)
  simp [nT,rightT,rightL,nodeR,vk,h1,h2,PTerm.kind,PTerm.name,PTerm.other,PTerm.form,PTerm.sub,ba_em]
 ·have h1:=right_ax1 x.kind
  have hf:=h.form
  simp [rightT,rightL,nodeR,vk,h1,hf,PTerm.kind,PTerm.name,PTerm.other,PTerm.form,PTerm.sub,ba_em]
theorem right_lets {ls:List Ln} (h : ∀ x ∈ ls,FineL x) : ∀ (n:Nat) (y:PTerm),n ≤ ls.length→rightT y=true→rightT (letsT ls n y)=true
 | 0,y,_,hy=>hy
 | n + 1,y,hn,hy=>by
  have hl:n < ls.length:=by omega
  have e:at_ Ln.z ls n=ls[n]:=by
   unfold at_; rw [Int.toNat_natCast,List.getD_eq_getElem?_getD,List.getElem?_eq_getElem hl]; rfl
  rw [letsT]
  refine right_lets h n _ zcb ?_
  have h1:=right_part (h _ (List.getElem_mem hl))
  have h2:=lNm_word (show (0:Int) ≤ n by omega)
  rw [e]
  simp [rightT,rightL,nodeR,vk,h1,h2,hy,PTerm.kind,PTerm.name,PTerm.other,PTerm.form,PTerm.sub,ba_em]
theorem right_term {ls:List Ln} (h : ∀ x ∈ ls,FineL x) (h0:0 < ls.length):rightT (um ls)=true :=
 right_lets h _ _ (Nat.le_refl _) (right_v (lNm_word zcb))
mutual
theorem nm_right : ∀ (x:PTerm),rightT x=true→nmT x
 | .mk k n o f s,h=>by
  simp only [rightT,Bool.and_eq_true] at h
  have h1:=h.1
  unfold nodeR at h1
  simp only [Bool.and_eq_true] at h1
  obtain ⟨⟨⟨_,hn⟩,ho⟩,_⟩ := h1
  have hw : ∀ s:ByteArray,isWord s→s.size < 9223372036854775808:=fun s hs=>by have:=hs.2.1; omega
  have hz : ∀ s:ByteArray,s=⟨#[]⟩ → s.size < 9223372036854775808:=fun s hs=>by subst hs; decide
  refine ⟨?_,?_,nm_rightL s h.2⟩
  ·split at hn
   ·exact hw _ (of_decide_eq_true hn)
   ·exact hz _ (of_decide_eq_true hn)
  ·split at ho
   ·exact hw _ (of_decide_eq_true ho)
   ·exact hz _ (of_decide_eq_true ho)
theorem nm_rightL : ∀ (l:List PTerm),rightL l=true→nmL l
 | [],_=>trivial
 | x :: l,h=>by
  simp only [rightL,Bool.and_eq_true] at h
  exact ⟨nm_right x h.1,nm_rightL l h.2⟩
end
theorem fine_of {M:List Nd} (hw:Wf M) {hyps:List Int} {ls:List Ln} (h:uK M hyps ls=0) (hb:ls.length < 9223372036854775808):(∀ x ∈ ls,FineL x)∧0 < ls.length:=by
 have hlen:=hw.len
 unfold uK at h
 split at h
 ·rename_i h1
  split at h
  ·rename_i h2
   simp only [Bool.and_eq_true] at h1 h2
   refine ⟨fun x hx=>?_,?_⟩
   ·obtain ⟨j,hj,e⟩ := List.getElem_of_mem hx
    have hr:=List.all_eq_true.1 h2.1 j (by simp; omega)
    have e2:at_ Ln.z ls (j:Int)=x:=by
     unfold at_; rw [Int.toNat_natCast,List.getD_eq_getElem?_getD,List.getElem?_eq_getElem hj]; exact e
    have h3:=zO (List.all_eq_true.1 h1.2 x hx)
    unfold yQ at hr
    rw [e2] at hr
    refine ⟨⟨h3.1,by omega⟩,fun k=>?_,fun k=>?_⟩ <;>
    ·simp only [k,if_true,Bool.and_eq_true,decide_eq_true_eq] at hr
     omega
   ·cases ls with
    | nil=>simp at h2
    | cons x l=>simp
  ·simp at h
 ·simp at h
def termH (M:List Nd) (hyps:List Int) (ls:List Ln):PTerm × Int :=
 if uK M hyps ls ≠ 0 then (z0T,uK M hyps ls) else if 1024 < ls.length∨65536 < sizeT (um ls)∨1024 < depT (um ls) then (z0T,150) else (um ls,0)
theorem TermH_some {M:List Nd} (hw:Wf M) {K:Nat} (hK:67000 ≤ K) {hyps:List Int} (hb:hyps.length < 4611686018427387904) {ls:List Ln} (hl:ls.length < 4611686018427387904) :
  zdG.f K (some M) hyps ls=some (some M,termH M hyps ls):=by
 have t1:uK M hyps ls=0→(1024 < ls.length∨65536 < sizeT (um ls)∨1024 < depT (um ls))→termH M hyps ls=(z0T,150):=fun hc h=>by unfold termH; rw [if_neg (by simpa using hc),if_pos h]
 have t2:uK M hyps ls=0→¬ (1024 < ls.length∨65536 < sizeT (um ls)∨1024 < depT (um ls))→termH M hyps ls=(um ls,0):=fun hc h=>by unfold termH; rw [if_neg (by simpa using hc),if_neg h]
 unfold zdG.f
 rw [CheckH_some hw (show 10 ≤ K by omega) hb]
 simp only [Option.bind_some]
 by_cases hc:uK M hyps ls=0
 ·obtain ⟨hF,h0⟩ := fine_of hw hc zcb
  simp only [hc,ne_eq,not_true_eq_false,decide_false,Bool.false_eq_true,if_false]
  by_cases h1:1024 < ls.length
  ·rw [t1 hc (.inl h1),if_pos (by simp; omega)]; rfl
  ·rw [if_neg (by simp; omega),wrap_small ⟨by omega,by omega⟩,kD zcb zcb]
   simp only [Option.bind_some,zdC.f]
   have hlp:=loop_prog (show ls.length < 9223372036854775808 by omega) hF ls.length (vT (lNm ((ls.length:Int) - 1))) (Nat.le_refl _)
   rw [List.take_length] at hlp
   rw [show (⟨1,lNm ((ls.length:Int) - 1),ByteArray.empty,0,[]⟩ : PTerm)=vT (lNm ((ls.length:Int) - 1)) from rfl,hlp]
   simp only [Option.bind_some,fin]
   rw [show letsT ls ls.length (vT (lNm ((ls.length:Int) - 1)))=um ls from rfl]
   unfold zcq.f zcZ.f
   simp only [Option.bind_some]
   by_cases hs:65536 < sizeT (um ls)
   ·have e1:min (sizeT (um ls)) 65537=65537:=by omega
    rw [t1 hc (.inr (.inl hs)),e1]
    simp; rfl
   ·have e1:min (sizeT (um ls)) 65537=sizeT (um ls):=by omega
    have e2:¬ (65536:Int) < (sizeT (um ls):Int):=by omega
    rw [e1,show (1025:Int)=((1025:Nat):Int) from rfl]
    simp only [e2,decide_false,Bool.not_false,if_true,deep_some K (um ls) 1025 zcb zcb zcb zcb,Option.bind_some,Bool.false_or]
    by_cases hd:1024 < depT (um ls)
    ·have e3:(1024:Int) < ((min (depT (um ls)) 1025:Nat):Int):=by omega
     rw [t1 hc (.inr (.inr hd))]; simp only [e3,decide_true,if_true]; rfl
    ·have e3:¬ (1024:Int) < ((min (depT (um ls)) 1025:Nat):Int):=by omega
     rw [t2 hc zcb]; simp only [e3,decide_false,Bool.false_eq_true,if_false]
 ·have t3:termH M hyps ls=(z0T,uK M hyps ls):=by unfold termH; rw [if_pos hc]
  rw [t3]; simp only [hc,ne_eq,not_false_eq_true,decide_true,if_true]; rfl
end
section
open Gw
def Run (hy:List Int) (t:List Nd) (l:List Ln) (Q:List Nd→List Ln→Int→Prop) (x:Option (PMaker × Int)):Prop :=
 ∃ t' l' b v,x=some (⟨some t',l',b⟩,v)∧Grown t t'∧(b=0→Goes t hy l t' l'∧l'.length ≤ 4096∧Q t' l' v)
section
variable {hy:List Int} {t:List Nd} {l:List Ln} {Q Q':List Nd→List Ln→Int→Prop}
theorem Run.then {x:Option (PMaker × Int)} {g:PMaker × Int→Option (PMaker × Int)} (h:Run hy t l Q x) (hs : ∀ v,jW mkP fun m=>g (m,v)) (hg : ∀ t' l' v,Goes t hy l t' l'→l'.length ≤ 4096→Q t' l' v→Run hy t' l' Q' (g (⟨some t',l',0⟩,v))):Run hy t l Q' (x.bind g):=by
 obtain ⟨t1,l1,b,v,rfl,hgr,hb⟩ := h
 by_cases e:b=0
 ·subst e
  obtain ⟨G,hl,hQ⟩ := hb rfl
  obtain ⟨t2,l2,b2,v2,h2,g2,hb2⟩ := hg t1 l1 v G hl hQ
  refine ⟨t2,l2,b2,v2,h2,hgr.trans g2,fun e=>?_⟩
  obtain ⟨G2,hl2,hQ2⟩ := hb2 e
  exact ⟨G.trans G2,hl2,hQ2⟩
 ·obtain ⟨v2,h2⟩ := hs v t1 l1 b e
  exact ⟨t1,l1,b,v2,h2,hgr,fun q=>absurd q e⟩
theorem Run.mono {x:Option (PMaker × Int)} (h:Run hy t l Q x) (hq : ∀ t' l' v,Goes t hy l t' l'→Q t' l' v→Q' t' l' v):Run hy t l Q' x:=by
 obtain ⟨t1,l1,b,v,e,hgr,hb⟩ := h
 exact ⟨t1,l1,b,v,e,hgr,fun q=>⟨(hb q).1,(hb q).2.1,hq _ _ _ (hb q).1 (hb q).2.2⟩⟩
theorem run_tell {x:Option (PMaker × Int)} {r:Res} (h:Tell mkP x r) (hgr:Grown t r.rows) (hok : ∀ t' l' v,r = .ok t' l' v→Goes t hy l t' l'∧Q t' l' v):Run hy t l Q x:=by
 cases r with
 | ok t1 l1 v1 =>
  obtain ⟨⟨h1,h2⟩,rfl⟩ := h
  obtain ⟨G,q⟩ := hok _ _ _ rfl
  exact ⟨t1,l1,0,v1,rfl,hgr,fun _=>⟨G,h1,q⟩⟩
 | no t1 l1 e =>
  obtain ⟨he,v,rfl⟩ := h
  exact ⟨t1,l1,e,v,rfl,hgr,fun q=>absurd q he⟩
def At (l:List Ln) (v f:Int):Prop:=HasF l v f∧v + 1=l.length
theorem zbw (hw:Wf t) (ha:All t hy l) (hl:l.length ≤ 4096) (a b:Int):Run hy t l (fun t' _ v=>Imp t' v a b) (zcN.f ⟨some t,l,0⟩ a b) :=
 run_tell (uF hw hl a b) (zbI a b t l hw) fun t' l' v h=>by
  obtain ⟨g,rfl,i⟩ := vy hw h
  exact ⟨⟨g,List.prefix_refl _,ha.grow hw g.1⟩,i⟩
theorem ax_run (hw:Wf t) (ha:All t hy l) (hl:l.length ≤ 4096) {k f:Int} (hk:k ≠ 11∧k ≠ 10) (hx:axS t k f=true) (hf:inb f t.length=true):Run hy t l (fun _ l' v=>At l' v f) (zcQ.f ⟨some t,l,0⟩ k f) :=
 run_tell (axP_tell hw hl k f) (gr_line _ t l hw) fun t' l' v h=>by
  obtain ⟨rfl,rfl,rfl,_⟩ := jF (show zaq _ _ _=_ from h)
  exact ⟨⟨Grown.refl hw,List.prefix_append _ _,ha.push hf (right_ax hk hx)⟩,HasF.last _ _,by simp⟩
theorem hyp_run (hw:Wf t) (ha:All t hy l) (hl:l.length ≤ 4096) {f:Int} (hm:f ∈ hy) (hf:inb f t.length=true):Run hy t l (fun _ l' v=>At l' v f) (zcQ.f ⟨some t,l,0⟩ 10 f) :=
 run_tell (axP_tell hw hl 10 f) (gr_line _ t l hw) fun t' l' v h=>by
  obtain ⟨rfl,rfl,rfl,_⟩ := jF (show zaq _ _ _=_ from h)
  refine ⟨⟨Grown.refl hw,List.prefix_append _ _,ha.push hf ?_⟩,HasF.last _ _,by simp⟩
  unfold yQ
  rw [at_last]
  simp only [show ¬ ((10:Int)=11) by decide,if_false,if_true,decide_true,Bool.true_and]
  exact List.any_eq_true.2 ⟨f,hm,decide_eq_true rfl⟩
theorem mp_run (hw:Wf t) (ha:All t hy l) (hl:l.length ≤ 4096) {a b f g c:Int} (h1:HasF l a f) (h2:HasF l b g) (hi:Imp t f g c):Run hy t l (fun _ l' v=>At l' v c) (zcP.f ⟨some t,l,0⟩ a b) :=
 run_tell (zbW hw hl h1.1) (gr_mp a b t l hw) fun t' l' v h=>by
  obtain ⟨rfl,G,e,F⟩ := mp_step hw ha h1 h2 hi h
  exact ⟨G,F,e⟩
end
-- lines put behind others
def shl (n:Nat) (x:Ln):Ln:=if x.kind=11 then { { x with a:=x.a + n } with b:=x.b + n } else x
theorem shl_form (n:Nat) (x:Ln):(shl n x).form=x.form:=by unfold shl; split <;> rfl
theorem shl_kind (n:Nat) (x:Ln):(shl n x).kind=x.kind:=by unfold shl; split <;> rfl
theorem at_app {l l2:List Ln} {g:Ln→Ln} {i:Int} (hi:inb i l2.length=true):at_ Ln.z (l ++ l2.map g) ((l.length:Int) + i)=g (at_ Ln.z l2 i):=by
 have h1:=zO hi
 have h2:i.toNat < l2.length:=by omega
 unfold at_
 rw [show ((l.length:Int) + i).toNat=l.length + i.toNat by omega,List.getD_eq_getElem?_getD,List.getElem?_append_right zcb,show l.length + i.toNat - l.length=i.toNat by omega,List.getElem?_map,List.getElem?_eq_getElem h2,List.getD_eq_getElem?_getD,List.getElem?_eq_getElem h2]
 rfl
theorem HasF.app {l l2:List Ln} {j f:Int} (h:HasF l2 j f):HasF (l ++ l2.map (shl l.length)) ((l.length:Int) + j) f:=by
 have h1:=zO h.1
 exact ⟨yA zcb (by simp; omega),by rw [at_app h.1,shl_form]; exact h.2⟩
theorem All.app {t:List Nd} {hy:List Int} {l l2:List Ln} (h1:All t hy l) (h2:All t hy l2):All t hy (l ++ l2.map (shl l.length)):=by
 refine ⟨?_,fun j hj=>?_⟩
 ·unfold jv
  rw [List.all_append,Bool.and_eq_true]
  refine ⟨h1.1,List.all_eq_true.2 fun x hx=>?_⟩
  obtain ⟨y,hy',rfl⟩ := List.mem_map.1 hx
  rw [shl_form]; exact List.all_eq_true.1 h2.1 y hy'
 ·have hj1:=zO hj
  by_cases hlt:j < l.length
  ·have:=yA hj1.1 hlt
   exact right_pre (List.prefix_append _ _) this (h1.2 j this)
  ·have hi:inb (j - l.length) l2.length=true:=yA zcb (by simp at hj1; omega)
   have e:j=(l.length:Int) + (j - l.length):=by omega
   have hr:=h2.2 _ hi
   rw [e]
   generalize j - (l.length:Int)=i at *
   have hi1:=zO hi
   unfold yQ at hr ⊢
   rw [at_app hi]
   simp only [shl_kind,shl_form]
   generalize hx:at_ Ln.z l2 i=x at *
   by_cases k:x.kind=11
   ·simp only [k,if_true,Bool.and_eq_true,decide_eq_true_eq] at hr ⊢
    obtain ⟨⟨⟨⟨⟨⟨a0,a1⟩,b0⟩,b1⟩,c⟩,d⟩,e2⟩ := hr
    have ea:(shl l.length x).a=(l.length:Int) + x.a:=by unfold shl; rw [if_pos k]; show x.a + _=_; omega
    have eb:(shl l.length x).b=(l.length:Int) + x.b:=by unfold shl; rw [if_pos k]; show x.b + _=_; omega
    rw [ea,eb,at_app (yA a0 zcb),at_app (yA b0 zcb),shl_form,shl_form]
    exact ⟨⟨⟨⟨⟨⟨by omega,by omega⟩,by omega⟩,by omega⟩,c⟩,d⟩,e2⟩
   ·have:shl l.length x=x:=by unfold shl; rw [if_neg k]
    simp only [k,if_false] at hr ⊢
    rw [this]; exact hr
theorem All.hyps {t:List Nd} {h1 h2:List Int} {l:List Ln} (h:All t h1 l) (hs : ∀ x ∈ h1,x ∈ h2):All t h2 l:=by
 refine ⟨h.1,fun j hj=>?_⟩
 have hr:=h.2 j hj
 unfold yQ at hr ⊢
 by_cases k:(at_ Ln.z l j).kind=11
 ·simp only [k,if_true] at hr ⊢; exact hr
 ·simp only [k,if_false,Bool.and_eq_true] at hr ⊢
  refine ⟨hr.1,?_⟩
  by_cases k10:(at_ Ln.z l j).kind=10
  ·rw [if_pos k10] at hr ⊢
   obtain ⟨y,hy,he⟩ := List.any_eq_true.1 hr.2
   exact List.any_eq_true.2 ⟨y,hs y hy,he⟩
  ·rw [if_neg k10] at hr ⊢; exact hr.2
theorem add_err {t:List Nd} {l l2:List Ln} {e:Int} (he:e ≠ 0) : ∃ v,zds.f ⟨some t,l,0⟩ l2 e=some (⟨some t,l,e⟩,v):=by
 unfold zds.f
 simp only [decide_true,if_true,Option.bind_some]
 have e0:(((l2.length:Nat):Int) - 0).toNat=l2.length:=by omega
 rw [e0]
 have hf : ∀ n,forN (fun i s=>zds.b0 l2 (⟨some t,l,e⟩ : PMaker) i s) n 0 (⟨some t,l,e⟩ : PMaker)=some (.inl ⟨some t,l,e⟩):=by
  intro n
  cases n with
  | zero=>rfl
  | succ n =>
   simp only [forN]
   rw [show zds.b0 l2 (⟨some t,l,e⟩ : PMaker) 0 (⟨some t,l,e⟩ : PMaker)=some (.brk ⟨some t,l,e⟩) by unfold zds.b0; rw [if_pos (by simpa using he)]]
   rfl
 rw [hf]
 exact ⟨_,rfl⟩
theorem add_loop {t:List Nd} {hy:List Int} {l l2:List Ln} (hw:Wf t) (h2:All t hy l2) (hl2:l2.length ≤ 4096) (hl:l.length ≤ 4096) : ∀ (n i:Nat),i + n=l2.length→(l ++ (l2.take i).map (shl l.length)).length ≤ 4096 →
  ∃ m,forN (fun i s=>zds.b0 l2 (⟨some t,l,0⟩ : PMaker) i s) n i (⟨some t,l ++ (l2.take i).map (shl l.length),0⟩ : PMaker)=some (.inl m)∧m.t=some t∧(m.bad=0→m.l=l ++ l2.map (shl l.length)∧m.l.length ≤ 4096)
 | 0,i,hi,hb=>⟨_,rfl,rfl,fun _=>by
  have:i=l2.length:=by omega
  subst this
  rw [List.take_length] at hb ⊢
  exact ⟨rfl,hb⟩⟩
 | n + 1,i,hi,hb=>by
  have hil:i < l2.length:=by omega
  have e:at_ Ln.z l2 (i:Int)=l2[i]:=by
   unfold at_; rw [Int.toNat_natCast,List.getD_eq_getElem?_getD,List.getElem?_eq_getElem hil]; rfl
  have hr:=h2.2 (i:Int) (yA zcb zcb)
  have hstep:zds.b0 l2 (⟨some t,l,0⟩ : PMaker) (i:Int) (⟨some t,l ++ (l2.take i).map (shl l.length),0⟩ : PMaker)=(zcO.f (⟨some t,l ++ (l2.take i).map (shl l.length),0⟩ : PMaker) (shl l.length l2[i])).bind fun r=>some (.go r.1):=by
   unfold zds.b0
   unfold yQ at hr
   rw [e] at hr ⊢
   rw [if_neg zcc]
   by_cases k:l2[i].kind=11
   ·simp only [k,if_true,Bool.and_eq_true,decide_eq_true_eq] at hr
    obtain ⟨⟨⟨⟨⟨⟨a0,a1⟩,b0⟩,b1⟩,c⟩,d⟩,e2⟩ := hr
    rw [if_pos (by simpa using k)]
    dsimp only
    rw [wrap_small ⟨by omega,by omega⟩,wrap_small ⟨by omega,by omega⟩]
    unfold shl; rw [if_pos k]
   ·rw [if_neg (by simpa using k)]
    unfold shl; rw [if_neg k]
  have hT:=lineP_tell hw hb (shl l.length l2[i])
  simp only [forN]
  rw [hstep]
  unfold zaq at hT
  by_cases hfull:4096 ≤ (l ++ (l2.take i).map (shl l.length)).length
  ·rw [if_pos hfull] at hT
   obtain ⟨_,v,hT⟩ := hT
   rw [hT]
   simp only [Option.bind_some]
   refine ⟨⟨some t,l ++ (l2.take i).map (shl l.length),150⟩,?_,rfl,fun q=>absurd q (show (150:Int) ≠ 0 by decide)⟩
   cases n with
   | zero=>rfl
   | succ n =>
    simp only [forN]
    rw [show zds.b0 l2 (⟨some t,l,0⟩ : PMaker) ((i:Int) + 1) (mkP (some t) (l ++ (l2.take i).map (shl l.length)) 150)=some (.brk (mkP (some t) (l ++ (l2.take i).map (shl l.length)) 150)) by unfold zds.b0; rw [if_pos zcc]]
    rfl
  ·rw [if_neg hfull] at hT
   obtain ⟨_,hT⟩ := hT
   rw [hT]
   simp only [Option.bind_some]
   have e3:l ++ (l2.take i).map (shl l.length) ++ [shl l.length l2[i]]=l ++ (l2.take (i + 1)).map (shl l.length):=by
    rw [List.take_succ_eq_append_getElem hil,List.map_append,List.append_assoc]; rfl
   rw [show (mkP (some t) (l ++ (l2.take i).map (shl l.length) ++ [shl l.length l2[i]]) 0)=(⟨some t,l ++ (l2.take (i + 1)).map (shl l.length),0⟩ : PMaker) by rw [← e3]]
   rw [show ((i:Int) + 1)=((i + 1:Nat):Int) by omega]
   exact add_loop hw h2 hl2 hl n (i + 1) zcb (by rw [← e3]; simp at hfull ⊢; omega)
theorem add_run {t:List Nd} {hy:List Int} {l l2:List Ln} {f:Int} (hw:Wf t) (ha:All t hy l) (hl:l.length ≤ 4096) (h2:All t hy l2) (hl2:l2.length ≤ 4096) (hf:HasF l2 ((l2.length:Int) - 1) f):Run hy t l (fun _ l' v=>At l' v f) (zds.f ⟨some t,l,0⟩ l2 0):=by
 have e0:(((l2.length:Nat):Int) - 0).toNat=l2.length:=by omega
 obtain ⟨m,h1,h3,h4⟩ := add_loop hw h2 hl2 hl l2.length 0 zcb (by simpa using hl)
 have hpos:=zO hf.1
 rw [List.take_zero,List.map_nil,List.append_nil] at h1
 have h5:zds.f ⟨some t,l,0⟩ l2 0=some (m,IntKind.i64.wrap ((m.l.length:Int) - 1)):=by
  unfold zds.f
  simp only [decide_true,if_true,Option.bind_some]
  rw [e0,show forN (fun i s=>zds.b0 l2 (⟨some t,l,0⟩ : PMaker) i s) l2.length 0 (⟨some t,l,0⟩ : PMaker)=_ from h1]
  rfl
 obtain ⟨mt,ml,mb⟩ := m
 simp only at h3 h4 h5
 subst h3
 refine ⟨t,ml,mb,_,h5,Grown.refl hw,fun q=>?_⟩
 obtain ⟨rfl,hlen⟩ := h4 q
 refine ⟨⟨Grown.refl hw,List.prefix_append _ _,ha.app h2⟩,hlen,?_⟩
 have hz:(l ++ l2.map (shl l.length)).length=l.length + l2.length:=by simp
 rw [wrap_small ⟨by rw [hz]; omega,by rw [hz]; omega⟩]
 refine ⟨?_,by omega⟩
 have:=hf.app (l:=l)
 rw [show (((l ++ l2.map (shl l.length)).length:Int) - 1)=(l.length:Int) + ((l2.length:Int) - 1) by rw [hz]; omega]
 exact this
end
section
open Gw
abbrev fms (hyps:List Hyp):List Int:=hyps.map (·.form)
structure Pre (t:List Nd) (hyps:List Hyp) (x:PTerm) (form:Int):Prop where
 wf:Wf t
 ho:uj t hyps=true
 fi:inb form t.length=true
 rt:rightT x=true
 sz:sizeT x ≤ 65536
 dp:depT x ≤ 1024
 len:hyps.length + depT x ≤ 17000000
 ty : ∃ g,tyS t (depT x) x (scS hyps) (some form) = .ok g
def Out (t:List Nd) (hyps:List Hyp) (form:Int) (r:Option (Tb × List Ln × Int)):Prop :=
 ∃ t' l' b,r=some (some t',l',b)∧Grown t t'∧(b=0→All t' (fms hyps) l'∧l'.length ≤ 4096∧HasF l' ((l'.length:Int) - 1) form)
abbrev Rf:Type:=Tb→List Hyp→PTerm→Int→Option (Tb × List Ln × Int)
def Rec (R:Rf) (d:Nat):Prop := ∀ x,depT x ≤ d → ∀ t hyps form,Pre t hyps x form→Out t hyps form (R (some t) hyps x form)
theorem hyps_grow {M t:List Nd} (g:M <+: t) {l:List Hyp} (h:uj M l=true):uj t l=true:=List.all_eq_true.2 fun x hx=>ud g (List.all_eq_true.1 h x hx)
theorem Pre.grow {M t:List Nd} {hyps:List Hyp} {x:PTerm} {form:Int} (h:Pre M hyps x form) (g:Grown M t):Pre t hyps x form:=by
 obtain ⟨b,hb⟩ := h.ty
 exact ⟨g.2,hyps_grow g.1 h.ho,ud g.1 h.fi,h.rt,h.sz,h.dp,h.len,b,(tyS_grow h.wf g.1 _ x _ _ b (scS_ok h.ho) (fun q hq=>by cases hq; exact h.fi) hb).1⟩
theorem bind_eta {α β:Type} (x:Option (α × β)):(x.bind fun q=>some (q.1,q.2))=x:=by cases x <;> rfl
section
variable {t:List Nd} {l:List Ln} {hyps:List Hyp} {R:Rf} {d:Nat} {x:PTerm} {form:Int} {hy:List Int} {Q:List Nd→List Ln→Int→Prop}
theorem Run.pre {t1:List Nd} {y:Option (PMaker × Int)} (G:Goes t hy l t1 l) (h:Run hy t1 l Q y):Run hy t l Q y:=by
 obtain ⟨t2,l2,b,v,e,g,hb⟩ := h
 exact ⟨t2,l2,b,v,e,G.grown.trans g,fun q=>⟨G.trans (hb q).1,(hb q).2⟩⟩
theorem uB (hR:Rec R d) (hx:depT x ≤ d) (P:Pre t hyps x form) (ha:All t (fms hyps) l) (hl:l.length ≤ 4096):Run (fms hyps) t l (fun _ l' v=>At l' v form) (zdt.g R ⟨some t,l,0⟩ hyps x form):=by
 obtain ⟨t1,l1,b,e,g,hb⟩ := hR x hx t hyps form P
 unfold zdt.g
 rw [if_neg zcc]
 simp only [e,Option.bind_some]
 rw [bind_eta]
 by_cases c:b=0
 ·subst c
  obtain ⟨a1,len1,F⟩ := hb rfl
  exact Run.pre ⟨g,List.prefix_refl _,ha.grow P.wf g.1⟩ (add_run g.2 (ha.grow P.wf g.1) hl a1 len1 F)
 ·obtain ⟨v,hv⟩ := add_err (t:=t1) (l:=l) (l2:=l1) c
  exact ⟨t1,l,b,v,hv,g,fun q=>absurd q c⟩
theorem part_still (hyps:List Hyp) (x:PTerm) (form:Int):jW mkP (fun m=>zdt.g R m hyps x form):=fun t l e he=>⟨0,by simp [zdt.g,he]⟩
theorem zby (hyps:List Hyp) (n:ByteArray) (h:Int) (x:PTerm) (form:Int):jW mkP (fun m=>zdu.g R m hyps n h x form):=fun t l e he=>⟨0,by simp [zdu.g,he]⟩
theorem under_run {name:ByteArray} {h:Int} (hR:Rec R d) (hx:depT x ≤ d) (P:Pre t (hyps ++ [⟨name,h⟩]) x form) (hh:inb h t.length=true) (ha:All t (fms hyps) l) (hl:l.length ≤ 4096) :
  Run (fms hyps) t l (fun t' l' v => ∃ f,At l' v f∧Imp t' f h form) (zdu.g R ⟨some t,l,0⟩ hyps name h x form):=by
 obtain ⟨t1,l1,b,e,g,hb⟩ := hR x hx t _ form P
 have hlen:=P.len
 have hsc:zdr.f hyps name h=some (hyps ++ [⟨name,h⟩]):=by
  unfold zdr.f zcv.f
  rw [chk,if_pos (by simp at hlen ⊢; omega)]; rfl
 unfold zdu.g
 rw [if_neg zcc]
 simp only [hsc,e,Option.bind_some]
 have hag:=ha.grow P.wf g.1
 by_cases c:b=0
 ·subst c
  obtain ⟨a1,len1,F⟩ := hb rfl
  have C:Loop16 t1 (fms (hyps ++ [⟨name,h⟩])) l1 h:=⟨g.2,a1.1,fun j hj=>a1.2 j (yA zcb zcb),ud g.1 hh⟩
  have hd:=deduceP C zcb
  have hg:=gr_ded l1 h l1.length 0 (List.replicate l1.length 0) t1 [] g.2
  have hpos:=zO F.1
  simp only [decide_true,if_true]
  cases hr:dedR l1 h l1.length 0 (List.replicate l1.length 0) t1 [] with
  | ok t2 l2 v =>
   rw [hr] at hd hg
   obtain ⟨hg2,ha2,hlast⟩ := ded_ok g.2 C.forms C.right C.h_in l1.length 0 (List.replicate l1.length 0) t1 t2 [] l2 v zcb zcc (Grown.refl g.2) (all_nil _ _) (fun j hj=>absurd hj zcb) (fun q=>absurd q zcb) hr
   obtain ⟨f,F2,I⟩ := hlast zcb
   have el:lastS l1=form:=F.2
   rw [el] at I
   have hl2:=ded_len l1 h _ _ _ _ _ zcc hr
   have ha3:All t2 (fms hyps) l2:=ha2.hyps fun y hy=>by
    obtain ⟨h1,h2⟩ := List.mem_filter.1 hy
    simp only [fms,List.map_append,List.map_cons,List.map_nil,List.mem_append,List.mem_singleton] at h1
    rcases h1 with h1 | h1
    ·exact h1
    ·exact absurd h1 (of_decide_eq_true h2)
   simp only [show zcT.f (some t1) l1 h=some (some t2,l2,0) from hd,Option.bind_some]
   rw [bind_eta]
   refine Run.pre ⟨g.trans hg2,List.prefix_refl _,hag.grow g.2 hg2.1⟩ ((add_run hg2.2 (hag.grow g.2 hg2.1) hl ha3 hl2 F2).mono fun t' l' v G hq=>⟨f,hq,I.pre G.grown.1⟩)
  | no t2 l2 e2 =>
   rw [hr] at hd hg
   obtain ⟨he,l',hd⟩ := hd
   obtain ⟨v,hv⟩ := add_err (t:=t2) (l:=l) (l2:=l') he
   simp only [hd,Option.bind_some]
   rw [bind_eta]
   exact ⟨t2,l,e2,v,hv,g.trans hg,fun q=>absurd q he⟩
 ·obtain ⟨v,hv⟩ := add_err (t:=t1) (l:=l) (l2:=l1) c
  simp only [c,decide_false,Bool.false_eq_true,if_false]
  rw [bind_eta]
  exact ⟨t1,l,b,v,hv,g,fun q=>absurd q c⟩
theorem told_eq {k:Nat} {f:Int} (hk:66562 ≤ k) (hw:Wf t) (ho:uj t hyps=true) (hr:rightT x=true) (hs:sizeT x ≤ 65536) (hd:depT x ≤ 1024) (hlen:hyps.length ≤ 17000000) (ht:tyS t (depT x) x (scS hyps) none = .ok f) :
  zdv.g R k ⟨some t,l,0⟩ hyps x=(zdt.g R ⟨some t,l,0⟩ hyps x f).bind fun r=>some (r.1,f,r.2):=by
 have hc:jQ x=0:=by unfold jQ; rw [if_neg zcb,if_pos hr]
 unfold zdv.g
 rw [if_neg zcc,Infer_some hw hk (nm_right x hr) zcb,show inferS t hyps x=(f,0) by unfold inferS; rw [if_pos ho,if_neg (by simpa using hc),ht]; rfl]
 rfl
theorem zbx {X:Option (PMaker × Int)} (h:Run (fms hyps) t [] (fun _ l' v=>At l' v form) X):Out t hyps form (X.bind fun r=>some (r.1.t,r.1.l,r.1.bad)):=by
 obtain ⟨t1,l1,b,v,rfl,g,hb⟩ := h
 refine ⟨t1,l1,b,rfl,g,fun q=>?_⟩
 obtain ⟨G,hl,F,e⟩ := hb q
 exact ⟨G.all,hl,by rw [show (l1.length:Int) - 1=v by omega]; exact F⟩
end
end
section
open Gw
structure Node16 (R:Rf) (d k:Nat) (t:List Nd) (hyps:List Hyp) (x:PTerm) (form:Int) (P:Int→Sc→Option Int→TR) (g:Int):Prop where
 hk:66562 ≤ k
 hR:Rec R d
 wf:Wf t
 ho:uj t hyps=true
 fi:inb form t.length=true
 ty:yr t P (scS hyps) x form = .ok g
 part : ∀ (t':List Nd) (hy:List Hyp) (i:Int) (f b:Int),inb i x.sub.length=true→Grown t t'→uj t hy=true→hy.length ≤ hyps.length + 1→inb f t.length=true→P i (scS hy) (some f) = .ok b→Pre t' hy (at_ PTerm.z x.sub i) f∧depT (at_ PTerm.z x.sub i) ≤ d
 told : ∀ (i f:Int),inb i x.sub.length=true→P i (scS hyps) none = .ok f→inb f t.length=true∧Pre t hyps (at_ PTerm.z x.sub i) f∧depT (at_ PTerm.z x.sub i) ≤ d∧zdv.g R k ⟨some t,[],0⟩ hyps (at_ PTerm.z x.sub i)=(zdt.g R ⟨some t,[],0⟩ hyps (at_ PTerm.z x.sub i) f).bind fun r=>some (r.1,f,r.2)
section
variable {R:Rf} {d k:Nat} {t:List Nd} {hyps:List Hyp} {x:PTerm} {form:Int} {P:Int→Sc→Option Int→TR} {g:Int}
theorem nodeM (m:PMaker) (t:List Nd) (i:Int) (h:m.t=some t):zdw.f m i=some (m,nd t i):=by
 obtain ⟨mt,ml,mb⟩ := m
 simp only at h
 subst h
 unfold zdw.f; rw [node_of]; rfl
theorem nodeK (t:List Nd) (l:List Ln) (e i:Int):zdw.f ⟨some t,l,e⟩ i=some (⟨some t,l,e⟩,nd t i):=nodeM _ t _ rfl
theorem scS_snoc (hyps:List Hyp) (n:ByteArray) (h:Int):scS (hyps ++ [⟨n,h⟩])=(n,h) :: scS hyps:=by simp [scS]
theorem ho_snoc {hyps:List Hyp} {n:ByteArray} {h:Int} (ho:uj t hyps=true) (hh:inb h t.length=true):uj t (hyps ++ [⟨n,h⟩])=true:=by
 unfold uj at *
 rw [List.all_append,Bool.and_eq_true]
 exact ⟨ho,by simp [hh]⟩
theorem comp_var (H:Node16 R d k t hyps x form P g) (k1:x.kind=1):Out t hyps form (zdy.g R k (some t) hyps x form):=by
 have hm:form ∈ fms hyps:=by
  have h:=H.ty
  unfold yr at h
  simp only [k1,show ¬ ((1:Int)=2) by decide,show ¬ ((1:Int)=4) by decide,show ¬ ((1:Int)=7) by decide,show ¬ ((1:Int)=8) by decide,show ¬ ((1:Int)=9) by decide,show ¬ ((1:Int)=10) by decide,show ¬ ((1:Int)=12) by decide,if_false] at h
  obtain ⟨f,h1,h2⟩ := TR.bind_ok.1 h
  unfold yd at h1
  rw [if_pos k1] at h1
  cases hc:(scS hyps).find? (fun q=>decide (q.1=x.name)) with
  | none=>rw [hc] at h1; cases h1
  | some q =>
   rw [hc] at h1
   have e:q.2=f:=by cases h1; rfl
   by_cases c:f=form
   ·obtain ⟨a,ha,rfl⟩ := List.mem_map.1 (List.mem_reverse.1 (List.mem_of_find?_eq_some hc))
    exact List.mem_map.2 ⟨a,ha,by rw [← c,← e]⟩
   ·rw [if_neg c] at h2; cases h2
 unfold zdy.g
 rw [nodeM _ t _ rfl]
 simp only [k1,decide_true,if_true,Option.bind_some,Option.bind_assoc]
 exact zbx (hyp_run H.wf (all_nil _ _) zcc hm H.fi)
theorem comp_the (H:Node16 R d k t hyps x form P g) (k1:x.kind=11) (hs:inb 0 x.sub.length=true):Out t hyps form (zdy.g R k (some t) hyps x form):=by
 have h:=H.ty
 unfold yr yd at h
 simp only [k1,show ¬ ((11:Int)=1) by decide,show ¬ ((11:Int)=2) by decide,show ¬ ((11:Int)=3) by decide,show ¬ ((11:Int)=4) by decide,show ¬ ((11:Int)=5) by decide,show ¬ ((11:Int)=6) by decide,show ¬ ((11:Int)=7) by decide,show ¬ ((11:Int)=8) by decide,show ¬ ((11:Int)=9) by decide,show ¬ ((11:Int)=10) by decide,show ¬ ((11:Int)=12) by decide,if_false,if_true] at h
 obtain ⟨f,h1,h2⟩ := TR.bind_ok.1 h
 by_cases hi:inb x.form t.length=true
 ·rw [if_pos hi] at h1
  obtain ⟨b,h3,h4⟩ := TR.bind_ok.1 h1
  have e:x.form=f:=by cases h4; rfl
  by_cases c:f=form
  ·obtain ⟨Pp,hd⟩ := H.part t hyps 0 x.form b hs (Grown.refl H.wf) H.ho zcb hi h3
   rw [e,c] at Pp
   unfold zdy.g
   rw [nodeM _ t _ rfl]
   simp only [k1,show ¬ ((11:Int)=1) by decide,decide_true,decide_false,Bool.false_eq_true,if_false,if_true,Option.bind_some,Option.bind_assoc,chk,hs]
   exact zbx (uB H.hR hd Pp (all_nil _ _) zcc)
  ·rw [if_neg c] at h2; cases h2
 ·rw [if_neg hi] at h1; cases h1
theorem imp_of {f a b:Int} (hw:Wf t) (hf:inb f t.length=true) (k5:(nd t f).kind=5) (ha:(nd t f).l=a) (hb:(nd t f).r=b):Imp t f a b:=by
 refine ⟨hf,?_⟩
 have hn:=hw.bare hf (.inr (.inr k5))
 cases he:nd t f with
 | mk kd nm ll rr =>
  rw [he] at k5 ha hb hn
  simp only at k5 ha hb hn
  rw [k5,ha,hb,hn]; rfl
theorem comp_lam (H:Node16 R d k t hyps x form P g) (k1:x.kind=2) (hs:inb 0 x.sub.length=true):Out t hyps form (zdy.g R k (some t) hyps x form):=by
 have h:=H.ty
 unfold yr at h
 rw [if_pos k1] at h
 obtain ⟨k5,h1⟩ := yV.1 h
 have hl:=H.wf.l5 H.fi k5
 have hr:=H.wf.r5 H.fi k5
 rw [← scS_snoc] at h1
 obtain ⟨Pp,hd⟩ := H.part t _ 0 _ g hs (Grown.refl H.wf) (ho_snoc H.ho hl) zcc hr h1
 unfold zdy.g
 rw [nodeM _ t _ rfl]
 simp only [k1,show ¬ ((2:Int)=1) by decide,show ¬ ((2:Int)=11) by decide,decide_true,decide_false,Bool.false_eq_true,if_false,if_true,Option.bind_some,Option.bind_assoc,chk,hs]
 refine zbx ((under_run H.hR hd Pp hl (all_nil _ _) zcc).mono fun t' l' v G ⟨f,hA,I⟩ => ?_)
 have:f=form:=jE G.grown.2 I ((imp_of H.wf H.fi k5 rfl rfl).pre G.grown.1)
 rw [← this]; exact hA
theorem comp_app (H:Node16 R d k t hyps x form P g) (k1:x.kind=3) (hs:inb 0 x.sub.length=true) (hs1:inb 1 x.sub.length=true):Out t hyps form (zdy.g R k (some t) hyps x form):=by
 have h:=H.ty
 unfold yr yd at h
 simp only [k1,show ¬ ((3:Int)=1) by decide,show ¬ ((3:Int)=2) by decide,show ¬ ((3:Int)=4) by decide,show ¬ ((3:Int)=7) by decide,show ¬ ((3:Int)=8) by decide,show ¬ ((3:Int)=9) by decide,show ¬ ((3:Int)=10) by decide,show ¬ ((3:Int)=12) by decide,if_false,if_true] at h
 obtain ⟨c,h1,h2⟩ := TR.bind_ok.1 h
 obtain ⟨f,h3,h4⟩ := TR.bind_ok.1 h1
 obtain ⟨k5,h5⟩ := yV.1 h4
 obtain ⟨b,h6,h7⟩ := TR.bind_ok.1 h5
 have e:(nd t f).r=c:=by cases h7; rfl
 have ec:c=form:=by
  by_cases q:c=form
  ·exact q
  ·rw [if_neg q] at h2; cases h2
 obtain ⟨fi,P0,d0,ht⟩ := H.told 0 f hs h3
 have hl:=H.wf.l5 fi k5
 unfold zdy.g
 rw [nodeM _ t _ rfl]
 simp only [k1,show ¬ ((3:Int)=1) by decide,show ¬ ((3:Int)=11) by decide,show ¬ ((3:Int)=2) by decide,decide_true,decide_false,Bool.false_eq_true,if_false,if_true,Option.bind_some,chk,hs,hs1,ht,Option.bind_assoc]
 have key:Run (fms hyps) t [] (fun _ l' v=>At l' v form) ((zdt.g R ⟨some t,[],0⟩ hyps (at_ PTerm.z x.sub 0) f).bind fun r=>(zdw.f r.1 f).bind fun r40=>(zdt.g R r40.1 hyps (at_ PTerm.z x.sub 1) r40.2.l).bind fun r50=>zcP.f r50.1 r.2 r50.2):=by
  refine (uB H.hR d0 P0 (all_nil _ _) zcc).then (fun v t l e he=>?_) fun t1 l1 v1 G1 hl1 A1=>?_
  ·simp only [nodeK,Option.bind_some]
   exact (part_still (R:=R) hyps (at_ PTerm.z x.sub 1) (nd t f).l).two (g:=fun r50=>zcP.f r50.1 v r50.2) (fun _=>zZ _ _) t l e he
  ·simp only [nodeK,Option.bind_some,y8 G1.grown.1 fi]
   obtain ⟨P1,d1⟩ := H.part t1 hyps 1 _ b hs1 G1.grown H.ho zcb hl h6
   refine (uB H.hR d1 P1 G1.all hl1).then (g:=fun r50=>zcP.f r50.1 v1 r50.2) (fun v=>zZ _ _) fun t2 l2 v2 G2 hl2 A2=>?_
   have I:=((imp_of H.wf fi k5 rfl (e.trans ec)).pre G1.grown.1).pre G2.grown.1
   exact mp_run G2.grown.2 G2.all hl2 (A1.1.pre G2.pre) A2.1 I
 have:=zbx key
 simpa only [Option.bind_assoc] using this
-- an axiom's instance behind a part
def tailF (a form kx v1:Int) (m:PMaker):Option (PMaker × Int):=(zcN.f m a form).bind fun r=>(zcQ.f r.1 kx r.2).bind fun q=>zcP.f q.1 q.2 v1
theorem tail_still (a form kx v1:Int):jW mkP (tailF a form kx v1) :=
 (xx a form).two (g:=fun r=>(zcQ.f r.1 kx r.2).bind fun q=>zcP.f q.1 q.2 v1) fun v=>(yo kx v).two (g:=fun q=>zcP.f q.1 q.2 v1) fun u=>zZ u v1
theorem tail_run {hy:List Int} {t1:List Nd} {l1:List Ln} {a kx v1:Int} (hw:Wf t1) (ha:All t1 hy l1) (hl:l1.length ≤ 4096) (hF:HasF l1 v1 a) (hk:kx ≠ 11∧kx ≠ 10) (hx : ∀ t' f,Grown t1 t'→Imp t' f a form→axS t' kx f=true):Run hy t1 l1 (fun _ l' v=>At l' v form) (tailF a form kx v1 ⟨some t1,l1,0⟩):=by
 unfold tailF
 refine Run.then (g:=fun r=>(zcQ.f r.1 kx r.2).bind fun q=>zcP.f q.1 q.2 v1) (zbw hw ha hl a form) (fun v=>(yo kx v).two (g:=fun q=>zcP.f q.1 q.2 v1) fun u=>zZ u v1) fun t2 l2 f G2 hl2 I=>?_
 refine Run.then (g:=fun q=>zcP.f q.1 q.2 v1) (ax_run G2.grown.2 G2.all hl2 hk (hx t2 f G2.grown I) I.1) (fun u=>zZ u v1) fun t3 l3 u G3 hl3 A3=>?_
 exact mp_run G3.grown.2 G3.all hl3 A3.1 ((hF.pre G2.pre).pre G3.pre) (I.pre G3.grown.1)
theorem zbY {a kx:Int} {X:Option (PMaker × Int)} (hX:Run (fms hyps) t [] (fun _ l' v=>At l' v a) X) (hk:kx ≠ 11∧kx ≠ 10) (hx : ∀ t' f,Grown t t'→Imp t' f a form→axS t' kx f=true):Out t hyps form ((X.bind fun r=>tailF a form kx r.2 r.1).bind fun r=>some (r.1.t,r.1.l,r.1.bad)) :=
 zbx (Run.then (g:=fun r=>tailF a form kx r.2 r.1) hX (fun v=>tail_still a form kx v) fun t1 l1 v1 G1 hl1 A1=>tail_run G1.grown.2 G1.all hl1 A1.1 hk fun t' f g I=>hx t' f (G1.grown.trans g) I)
theorem comp_inj (H:Node16 R d k t hyps x form P g) (k1:x.kind=7∨x.kind=8) (hs:inb 0 x.sub.length=true):Out t hyps form (zdy.g R k (some t) hyps x form):=by
 have h:=H.ty
 unfold yr at h
 unfold zdy.g
 rw [nodeM _ t _ rfl]
 rcases k1 with k1 | k1
 ·simp only [k1,show ¬ ((7:Int)=2) by decide,show ¬ ((7:Int)=4) by decide,if_false,if_true] at h
  obtain ⟨k4,h1⟩ := yV.1 h
  have hl:=H.wf.left H.fi (.inr (.inl k4))
  obtain ⟨Pp,hd⟩ := H.part t hyps 0 _ g hs (Grown.refl H.wf) H.ho zcb hl h1
  simp only [k1,show ¬ ((7:Int)=1) by decide,show ¬ ((7:Int)=11) by decide,show ¬ ((7:Int)=2) by decide,show ¬ ((7:Int)=3) by decide,show ¬ ((7:Int)=4) by decide,show ¬ ((7:Int)=5) by decide,show ¬ ((7:Int)=6) by decide,show ¬ ((7:Int)=10) by decide,decide_true,decide_false,Bool.false_eq_true,if_false,if_true,Option.bind_some,chk,hs,Option.bind_assoc]
  have:=zbY (form:=form) (kx:=6) (uB H.hR hd Pp (all_nil _ _) zcc) zca fun t' f gr I=>by
   have en:=y8 gr.1 H.fi
   unfold axS
   simp [I.2,impN,en,k4]
  simpa only [tailF,Option.bind_assoc] using this
 ·simp only [k1,show ¬ ((8:Int)=2) by decide,show ¬ ((8:Int)=4) by decide,show ¬ ((8:Int)=7) by decide,if_false,if_true] at h
  obtain ⟨k4,h1⟩ := yV.1 h
  have hl:=H.wf.right H.fi (.inr (.inl k4))
  obtain ⟨Pp,hd⟩ := H.part t hyps 0 _ g hs (Grown.refl H.wf) H.ho zcb hl h1
  simp only [k1,show ¬ ((8:Int)=1) by decide,show ¬ ((8:Int)=11) by decide,show ¬ ((8:Int)=2) by decide,show ¬ ((8:Int)=3) by decide,show ¬ ((8:Int)=4) by decide,show ¬ ((8:Int)=5) by decide,show ¬ ((8:Int)=6) by decide,show ¬ ((8:Int)=7) by decide,show ¬ ((8:Int)=10) by decide,decide_true,decide_false,Bool.false_eq_true,if_false,if_true,Option.bind_some,chk,hs,Option.bind_assoc]
  have:=zbY (form:=form) (kx:=7) (uB H.hR hd Pp (all_nil _ _) zcc) zca fun t' f gr I=>by
   have en:=y8 gr.1 H.fi
   unfold axS
   simp [I.2,impN,en,k4]
  simpa only [tailF,Option.bind_assoc] using this
theorem comp_unary (H:Node16 R d k t hyps x form P g) (k1:x.kind=5∨x.kind=6) (hs:inb 0 x.sub.length=true):Out t hyps form (zdy.g R k (some t) hyps x form):=by
 have h:=H.ty
 unfold yr yd at h
 unfold zdy.g
 rw [nodeM _ t _ rfl]
 rcases k1 with k1 | k1
 ·simp only [k1,show ¬ ((5:Int)=1) by decide,show ¬ ((5:Int)=2) by decide,show ¬ ((5:Int)=3) by decide,show ¬ ((5:Int)=4) by decide,show ¬ ((5:Int)=7) by decide,show ¬ ((5:Int)=8) by decide,show ¬ ((5:Int)=9) by decide,show ¬ ((5:Int)=10) by decide,show ¬ ((5:Int)=12) by decide,if_false,if_true] at h
  obtain ⟨c,h1,h2⟩ := TR.bind_ok.1 h
  obtain ⟨f,h3,h4⟩ := TR.bind_ok.1 h1
  obtain ⟨k3,h5⟩ := yV.1 h4
  have e:(nd t f).l=c:=by cases h5; rfl
  have ec:c=form:=by
   by_cases q:c=form
   ·exact q
   ·rw [if_neg q] at h2; cases h2
  obtain ⟨fi,P0,d0,ht⟩ := H.told 0 f hs h3
  simp only [zdx.g,k1,show ¬ ((5:Int)=1) by decide,show ¬ ((5:Int)=11) by decide,show ¬ ((5:Int)=2) by decide,show ¬ ((5:Int)=3) by decide,show ¬ ((5:Int)=4) by decide,decide_true,decide_false,Bool.false_eq_true,if_false,if_true,Option.bind_some,chk,hs,ht,Option.bind_assoc]
  have:=zbY (form:=form) (kx:=3) (uB H.hR d0 P0 (all_nil _ _) zcc) zca fun t' q gr I=>by
   have en:=y8 gr.1 fi
   unfold axS
   simp [I.2,impN,en,k3,e,ec]
  simpa only [tailF,Option.bind_assoc] using this
 ·simp only [k1,show ¬ ((6:Int)=1) by decide,show ¬ ((6:Int)=2) by decide,show ¬ ((6:Int)=3) by decide,show ¬ ((6:Int)=4) by decide,show ¬ ((6:Int)=7) by decide,show ¬ ((6:Int)=8) by decide,show ¬ ((6:Int)=9) by decide,show ¬ ((6:Int)=10) by decide,show ¬ ((6:Int)=12) by decide,show ¬ ((6:Int)=5) by decide,if_false,if_true] at h
  obtain ⟨c,h1,h2⟩ := TR.bind_ok.1 h
  obtain ⟨f,h3,h4⟩ := TR.bind_ok.1 h1
  obtain ⟨k3,h5⟩ := yV.1 h4
  have e:(nd t f).r=c:=by cases h5; rfl
  have ec:c=form:=by
   by_cases q:c=form
   ·exact q
   ·rw [if_neg q] at h2; cases h2
  obtain ⟨fi,P0,d0,ht⟩ := H.told 0 f hs h3
  simp only [zdx.g,k1,show ¬ ((6:Int)=1) by decide,show ¬ ((6:Int)=11) by decide,show ¬ ((6:Int)=2) by decide,show ¬ ((6:Int)=3) by decide,show ¬ ((6:Int)=4) by decide,show ¬ ((6:Int)=5) by decide,decide_true,decide_false,Bool.false_eq_true,if_false,if_true,Option.bind_some,chk,hs,ht,Option.bind_assoc]
  have:=zbY (form:=form) (kx:=4) (uB H.hR d0 P0 (all_nil _ _) zcc) zca fun t' q gr I=>by
   have en:=y8 gr.1 fi
   unfold axS
   simp [I.2,impN,en,k3,e,ec]
  simpa only [tailF,Option.bind_assoc] using this
theorem comp_abort (H:Node16 R d k t hyps x form P g) (k1:x.kind=10) (hs:inb 0 x.sub.length=true):Out t hyps form (zdy.g R k (some t) hyps x form):=by
 have h:=H.ty
 unfold yr at h
 unfold zdy.g
 rw [nodeM _ t _ rfl]
 simp only [k1,show ¬ ((10:Int)=2) by decide,show ¬ ((10:Int)=4) by decide,show ¬ ((10:Int)=7) by decide,show ¬ ((10:Int)=8) by decide,show ¬ ((10:Int)=9) by decide,if_false,if_true] at h
 obtain ⟨f,h3,h4⟩ := TR.bind_ok.1 h
 obtain ⟨k3,h5⟩ := yV.1 h4
 obtain ⟨fi,P0,d0,ht⟩ := H.told 0 f hs h3
 simp only [zdx.g,k1,show ¬ ((10:Int)=1) by decide,show ¬ ((10:Int)=11) by decide,show ¬ ((10:Int)=2) by decide,show ¬ ((10:Int)=3) by decide,show ¬ ((10:Int)=4) by decide,show ¬ ((10:Int)=5) by decide,show ¬ ((10:Int)=6) by decide,decide_true,decide_false,Bool.false_eq_true,if_false,if_true,Option.bind_some,chk,hs,ht,Option.bind_assoc]
 have:=zbY (form:=form) (kx:=9) (uB H.hR d0 P0 (all_nil _ _) zcc) zca fun t' q gr I=>by
  have en:=y8 gr.1 fi
  unfold axS
  simp [I.2,impN,en,k3]
 simpa only [tailF,Option.bind_assoc] using this
theorem comp_let (H:Node16 R d k t hyps x form P g) (k1:x.kind=12) (hs:inb 0 x.sub.length=true) (hs1:inb 1 x.sub.length=true):Out t hyps form (zdy.g R k (some t) hyps x form):=by
 have h:=H.ty
 unfold yr at h
 simp only [k1,show ¬ ((12:Int)=2) by decide,show ¬ ((12:Int)=4) by decide,show ¬ ((12:Int)=7) by decide,show ¬ ((12:Int)=8) by decide,show ¬ ((12:Int)=9) by decide,show ¬ ((12:Int)=10) by decide,if_false,if_true] at h
 obtain ⟨f,h3,h4⟩ := TR.bind_ok.1 h
 rw [← scS_snoc] at h4
 obtain ⟨fi,P0,d0,ht⟩ := H.told 0 f hs h3
 unfold zdy.g
 rw [nodeM _ t _ rfl]
 simp only [k1,show ¬ ((12:Int)=1) by decide,show ¬ ((12:Int)=11) by decide,show ¬ ((12:Int)=2) by decide,show ¬ ((12:Int)=3) by decide,show ¬ ((12:Int)=4) by decide,show ¬ ((12:Int)=5) by decide,show ¬ ((12:Int)=6) by decide,show ¬ ((12:Int)=10) by decide,show ¬ ((12:Int)=7) by decide,show ¬ ((12:Int)=8) by decide,show ¬ ((12:Int)=9) by decide,decide_true,decide_false,Bool.false_eq_true,if_false,if_true,Option.bind_some,chk,hs,hs1,ht,Option.bind_assoc]
 have key:Run (fms hyps) t [] (fun _ l' v=>At l' v form) ((zdt.g R ⟨some t,[],0⟩ hyps (at_ PTerm.z x.sub 0) f).bind fun r=>(zdu.g R r.1 hyps x.name f (at_ PTerm.z x.sub 1) form).bind fun r2=>zcP.f r2.1 r2.2 r.2):=by
  refine Run.then (g:=fun r=>(zdu.g R r.1 hyps x.name f (at_ PTerm.z x.sub 1) form).bind fun r2=>zcP.f r2.1 r2.2 r.2) (uB H.hR d0 P0 (all_nil _ _) zcc) (fun v=>(zby (R:=R) hyps x.name f (at_ PTerm.z x.sub 1) form).two (g:=fun r2=>zcP.f r2.1 r2.2 v) fun u=>zZ u v) fun t1 l1 v1 G1 hl1 A1=>?_
  obtain ⟨P1,d1⟩ := H.part t1 (hyps ++ [⟨x.name,f⟩]) 1 form g hs1 G1.grown (ho_snoc H.ho fi) zcc H.fi h4
  refine Run.then (g:=fun r2=>zcP.f r2.1 r2.2 v1) (under_run H.hR d1 P1 (ud G1.grown.1 fi) G1.all hl1) (fun u=>zZ u v1) fun t2 l2 v2 G2 hl2 ⟨q,A2,I⟩ => ?_
  exact mp_run G2.grown.2 G2.all hl2 A2.1 (A1.1.pre G2.pre) I
 have:=zbx key
 simpa only [Option.bind_assoc] using this
-- a pair
def pairF (a b form v w:Int) (m:PMaker):Option (PMaker × Int):=(zcN.f m b form).bind fun r1=>(zcN.f r1.1 a r1.2).bind fun r2=>(zcQ.f r2.1 5 r2.2).bind fun r3=>(zcP.f r3.1 r3.2 v).bind fun r4=>zcP.f r4.1 r4.2 w
theorem pair_still (a b form v w:Int):jW mkP (pairF a b form v w) :=
 (xx b form).two (g:=fun r1=>(zcN.f r1.1 a r1.2).bind fun r2=>(zcQ.f r2.1 5 r2.2).bind fun r3=>(zcP.f r3.1 r3.2 v).bind fun r4=>zcP.f r4.1 r4.2 w) fun q1 =>
 (xx a q1).two (g:=fun r2=>(zcQ.f r2.1 5 r2.2).bind fun r3=>(zcP.f r3.1 r3.2 v).bind fun r4=>zcP.f r4.1 r4.2 w) fun q2 =>
 (yo 5 q2).two (g:=fun r3=>(zcP.f r3.1 r3.2 v).bind fun r4=>zcP.f r4.1 r4.2 w) fun q3 =>
 (zZ q3 v).two (g:=fun r4=>zcP.f r4.1 r4.2 w) fun q4=>zZ q4 w
theorem pair_run {hy:List Int} {t1:List Nd} {l1:List Ln} {a b v w:Int} (hw:Wf t1) (ha:All t1 hy l1) (hl:l1.length ≤ 4096) (hF:HasF l1 v a) (hG:HasF l1 w b) (hi:inb form t1.length=true) (k3:(nd t1 form).kind=3) (ea:(nd t1 form).l=a) (eb:(nd t1 form).r=b):Run hy t1 l1 (fun _ l' v=>At l' v form) (pairF a b form v w ⟨some t1,l1,0⟩):=by
 unfold pairF
 refine Run.then (g:=fun r1=>(zcN.f r1.1 a r1.2).bind fun r2=>(zcQ.f r2.1 5 r2.2).bind fun r3=>(zcP.f r3.1 r3.2 v).bind fun r4=>zcP.f r4.1 r4.2 w) (zbw hw ha hl b form) (fun q1 =>
  (xx a q1).two (g:=fun r2=>(zcQ.f r2.1 5 r2.2).bind fun r3=>(zcP.f r3.1 r3.2 v).bind fun r4=>zcP.f r4.1 r4.2 w) fun q2 =>
  (yo 5 q2).two (g:=fun r3=>(zcP.f r3.1 r3.2 v).bind fun r4=>zcP.f r4.1 r4.2 w) fun q3 =>
  (zZ q3 v).two (g:=fun r4=>zcP.f r4.1 r4.2 w) fun q4=>zZ q4 w) fun t2 l2 f2 G2 hl2 I2=>?_
 refine Run.then (g:=fun r2=>(zcQ.f r2.1 5 r2.2).bind fun r3=>(zcP.f r3.1 r3.2 v).bind fun r4=>zcP.f r4.1 r4.2 w) (zbw G2.grown.2 G2.all hl2 a f2) (fun q2 =>
  (yo 5 q2).two (g:=fun r3=>(zcP.f r3.1 r3.2 v).bind fun r4=>zcP.f r4.1 r4.2 w) fun q3 =>
  (zZ q3 v).two (g:=fun r4=>zcP.f r4.1 r4.2 w) fun q4=>zZ q4 w) fun t3 l3 f3 G3 hl3 I3=>?_
 have e1:=y8 (G2.grown.1.trans G3.grown.1) hi
 have hx:axS t3 5 f3=true:=by
  unfold axS
  simp [I3.2,(I2.pre G3.grown.1).2,impN,e1,k3,ea,eb]
 refine Run.then (g:=fun r3=>(zcP.f r3.1 r3.2 v).bind fun r4=>zcP.f r4.1 r4.2 w) (ax_run G3.grown.2 G3.all hl3 zca hx I3.1) (fun q3=>(zZ q3 v).two (g:=fun r4=>zcP.f r4.1 r4.2 w) fun q4=>zZ q4 w) fun t4 l4 v4 G4 hl4 A4=>?_
 refine Run.then (g:=fun r4=>zcP.f r4.1 r4.2 w) (mp_run G4.grown.2 G4.all hl4 A4.1 (((hF.pre G2.pre).pre G3.pre).pre G4.pre) (I3.pre G4.grown.1)) (fun q4=>zZ q4 w) fun t5 l5 v5 G5 hl5 A5=>?_
 exact mp_run G5.grown.2 G5.all hl5 A5.1 ((((hG.pre G2.pre).pre G3.pre).pre G4.pre).pre G5.pre) (((I2.pre G3.grown.1).pre G4.grown.1).pre G5.grown.1)
theorem comp_pair (H:Node16 R d k t hyps x form P g) (k1:x.kind=4) (hs:inb 0 x.sub.length=true) (hs1:inb 1 x.sub.length=true):Out t hyps form (zdy.g R k (some t) hyps x form):=by
 have h:=H.ty
 unfold yr at h
 simp only [k1,show ¬ ((4:Int)=2) by decide,if_false,if_true] at h
 obtain ⟨k3,h1⟩ := yV.1 h
 obtain ⟨u,h2,h3⟩ := TR.bind_ok.1 h1
 have hl:=H.wf.left H.fi (.inl k3)
 have hr:=H.wf.right H.fi (.inl k3)
 obtain ⟨P0,d0⟩ := H.part t hyps 0 _ u hs (Grown.refl H.wf) H.ho zcb hl h2
 unfold zdy.g
 rw [nodeM _ t _ rfl]
 simp only [k1,show ¬ ((4:Int)=1) by decide,show ¬ ((4:Int)=11) by decide,show ¬ ((4:Int)=2) by decide,show ¬ ((4:Int)=3) by decide,decide_true,decide_false,Bool.false_eq_true,if_false,if_true,Option.bind_some,chk,hs,hs1,Option.bind_assoc]
 have key:Run (fms hyps) t [] (fun _ l' v=>At l' v form) ((zdt.g R ⟨some t,[],0⟩ hyps (at_ PTerm.z x.sub 0) (nd t form).l).bind fun r=>(zdt.g R r.1 hyps (at_ PTerm.z x.sub 1) (nd t form).r).bind fun r2=>pairF (nd t form).l (nd t form).r form r.2 r2.2 r2.1):=by
  refine Run.then (g:=fun r=>(zdt.g R r.1 hyps (at_ PTerm.z x.sub 1) (nd t form).r).bind fun r2=>pairF (nd t form).l (nd t form).r form r.2 r2.2 r2.1) (uB H.hR d0 P0 (all_nil _ _) zcc) (fun v=>(part_still (R:=R) hyps (at_ PTerm.z x.sub 1) (nd t form).r).two (g:=fun r2=>pairF (nd t form).l (nd t form).r form v r2.2 r2.1) fun u=>pair_still _ _ _ _ u) fun t1 l1 v1 G1 hl1 A1=>?_
  obtain ⟨P1,d1⟩ := H.part t1 hyps 1 _ g hs1 G1.grown H.ho zcb hr h3
  refine Run.then (g:=fun r2=>pairF (nd t form).l (nd t form).r form v1 r2.2 r2.1) (uB H.hR d1 P1 G1.all hl1) (fun u=>pair_still _ _ _ _ u) fun t2 l2 v2 G2 hl2 A2=>?_
  have e1:=y8 (G1.grown.1.trans G2.grown.1) H.fi
  exact pair_run G2.grown.2 G2.all hl2 (A1.1.pre G2.pre) A2.1 (ud (G1.grown.1.trans G2.grown.1) H.fi) (by rw [e1]; exact k3) (by rw [e1]) (by rw [e1])
 have:=zbx key
 simpa only [pairF,Option.bind_assoc] using this
-- a case
def caseF (oL oR f form a b c:Int) (m:PMaker):Option (PMaker × Int):=(zcN.f m oL form).bind fun r1=>(zcN.f r1.1 oR form).bind fun r2=>(zcN.f r2.1 f form).bind fun r3=>(zcN.f r3.1 r2.2 r3.2).bind fun r4=>(zcN.f r4.1 r1.2 r4.2).bind fun r5=>(zcQ.f r5.1 8 r5.2).bind fun r6=>(zcP.f r6.1 r6.2 b).bind fun r7=>(zcP.f r7.1 r7.2 c).bind fun r8=>zcP.f r8.1 r8.2 a
theorem case_still (oL oR f form a b c:Int):jW mkP (caseF oL oR f form a b c) :=
  (xx oL form).two (g:=fun r1=>(zcN.f r1.1 oR form).bind fun r2=>(zcN.f r2.1 f form).bind fun r3=>(zcN.f r3.1 r2.2 r3.2).bind fun r4=>(zcN.f r4.1 r1.2 r4.2).bind fun r5=>(zcQ.f r5.1 8 r5.2).bind fun r6=>(zcP.f r6.1 r6.2 b).bind fun r7=>(zcP.f r7.1 r7.2 c).bind fun r8=>zcP.f r8.1 r8.2 a) fun p =>
  (xx oR form).two (g:=fun r2=>(zcN.f r2.1 f form).bind fun r3=>(zcN.f r3.1 r2.2 r3.2).bind fun r4=>(zcN.f r4.1 p r4.2).bind fun r5=>(zcQ.f r5.1 8 r5.2).bind fun r6=>(zcP.f r6.1 r6.2 b).bind fun r7=>(zcP.f r7.1 r7.2 c).bind fun r8=>zcP.f r8.1 r8.2 a) fun q =>
  (xx f form).two (g:=fun r3=>(zcN.f r3.1 q r3.2).bind fun r4=>(zcN.f r4.1 p r4.2).bind fun r5=>(zcQ.f r5.1 8 r5.2).bind fun r6=>(zcP.f r6.1 r6.2 b).bind fun r7=>(zcP.f r7.1 r7.2 c).bind fun r8=>zcP.f r8.1 r8.2 a) fun s3 =>
  (xx q s3).two (g:=fun r4=>(zcN.f r4.1 p r4.2).bind fun r5=>(zcQ.f r5.1 8 r5.2).bind fun r6=>(zcP.f r6.1 r6.2 b).bind fun r7=>(zcP.f r7.1 r7.2 c).bind fun r8=>zcP.f r8.1 r8.2 a) fun s4 =>
  (xx p s4).two (g:=fun r5=>(zcQ.f r5.1 8 r5.2).bind fun r6=>(zcP.f r6.1 r6.2 b).bind fun r7=>(zcP.f r7.1 r7.2 c).bind fun r8=>zcP.f r8.1 r8.2 a) fun s5 =>
  (yo 8 s5).two (g:=fun r6=>(zcP.f r6.1 r6.2 b).bind fun r7=>(zcP.f r7.1 r7.2 c).bind fun r8=>zcP.f r8.1 r8.2 a) fun s6 =>
  (zZ s6 b).two (g:=fun r7=>(zcP.f r7.1 r7.2 c).bind fun r8=>zcP.f r8.1 r8.2 a) fun s7 =>
  (zZ s7 c).two (g:=fun r8=>zcP.f r8.1 r8.2 a) fun s8 =>
  zZ s8 a
theorem case_run {hy:List Int} {t1:List Nd} {l1:List Ln} {oL oR f a b c fb fc:Int} (hw:Wf t1) (ha:All t1 hy l1) (hl:l1.length ≤ 4096) (hA:HasF l1 a f) (hB:HasF l1 b fb) (iB:Imp t1 fb oL form) (hC:HasF l1 c fc) (iC:Imp t1 fc oR form) (hi:inb f t1.length=true) (k4:(nd t1 f).kind=4) (eL:(nd t1 f).l=oL) (eR:(nd t1 f).r=oR):Run hy t1 l1 (fun _ l' v=>At l' v form) (caseF oL oR f form a b c ⟨some t1,l1,0⟩):=by
 unfold caseF
 refine Run.then (g:=fun r1=>(zcN.f r1.1 oR form).bind fun r2=>(zcN.f r2.1 f form).bind fun r3=>(zcN.f r3.1 r2.2 r3.2).bind fun r4=>(zcN.f r4.1 r1.2 r4.2).bind fun r5=>(zcQ.f r5.1 8 r5.2).bind fun r6=>(zcP.f r6.1 r6.2 b).bind fun r7=>(zcP.f r7.1 r7.2 c).bind fun r8=>zcP.f r8.1 r8.2 a) (zbw hw ha hl oL form) (fun p=>(xx oR form).two (g:=fun r2=>(zcN.f r2.1 f form).bind fun r3=>(zcN.f r3.1 r2.2 r3.2).bind fun r4=>(zcN.f r4.1 p r4.2).bind fun r5=>(zcQ.f r5.1 8 r5.2).bind fun r6=>(zcP.f r6.1 r6.2 b).bind fun r7=>(zcP.f r7.1 r7.2 c).bind fun r8=>zcP.f r8.1 r8.2 a) fun q=>(xx f form).two (g:=fun r3=>(zcN.f r3.1 q r3.2).bind fun r4=>(zcN.f r4.1 p r4.2).bind fun r5=>(zcQ.f r5.1 8 r5.2).bind fun r6=>(zcP.f r6.1 r6.2 b).bind fun r7=>(zcP.f r7.1 r7.2 c).bind fun r8=>zcP.f r8.1 r8.2 a) fun s3=>(xx q s3).two (g:=fun r4=>(zcN.f r4.1 p r4.2).bind fun r5=>(zcQ.f r5.1 8 r5.2).bind fun r6=>(zcP.f r6.1 r6.2 b).bind fun r7=>(zcP.f r7.1 r7.2 c).bind fun r8=>zcP.f r8.1 r8.2 a) fun s4=>(xx p s4).two (g:=fun r5=>(zcQ.f r5.1 8 r5.2).bind fun r6=>(zcP.f r6.1 r6.2 b).bind fun r7=>(zcP.f r7.1 r7.2 c).bind fun r8=>zcP.f r8.1 r8.2 a) fun s5=>(yo 8 s5).two (g:=fun r6=>(zcP.f r6.1 r6.2 b).bind fun r7=>(zcP.f r7.1 r7.2 c).bind fun r8=>zcP.f r8.1 r8.2 a) fun s6=>(zZ s6 b).two (g:=fun r7=>(zcP.f r7.1 r7.2 c).bind fun r8=>zcP.f r8.1 r8.2 a) fun s7=>(zZ s7 c).two (g:=fun r8=>zcP.f r8.1 r8.2 a) fun s8=>zZ s8 a) fun t2 l2 p G2 hl2 I2=>?_
 refine Run.then (g:=fun r2=>(zcN.f r2.1 f form).bind fun r3=>(zcN.f r3.1 r2.2 r3.2).bind fun r4=>(zcN.f r4.1 p r4.2).bind fun r5=>(zcQ.f r5.1 8 r5.2).bind fun r6=>(zcP.f r6.1 r6.2 b).bind fun r7=>(zcP.f r7.1 r7.2 c).bind fun r8=>zcP.f r8.1 r8.2 a) (zbw G2.grown.2 G2.all hl2 oR form) (fun q=>(xx f form).two (g:=fun r3=>(zcN.f r3.1 q r3.2).bind fun r4=>(zcN.f r4.1 p r4.2).bind fun r5=>(zcQ.f r5.1 8 r5.2).bind fun r6=>(zcP.f r6.1 r6.2 b).bind fun r7=>(zcP.f r7.1 r7.2 c).bind fun r8=>zcP.f r8.1 r8.2 a) fun s3=>(xx q s3).two (g:=fun r4=>(zcN.f r4.1 p r4.2).bind fun r5=>(zcQ.f r5.1 8 r5.2).bind fun r6=>(zcP.f r6.1 r6.2 b).bind fun r7=>(zcP.f r7.1 r7.2 c).bind fun r8=>zcP.f r8.1 r8.2 a) fun s4=>(xx p s4).two (g:=fun r5=>(zcQ.f r5.1 8 r5.2).bind fun r6=>(zcP.f r6.1 r6.2 b).bind fun r7=>(zcP.f r7.1 r7.2 c).bind fun r8=>zcP.f r8.1 r8.2 a) fun s5=>(yo 8 s5).two (g:=fun r6=>(zcP.f r6.1 r6.2 b).bind fun r7=>(zcP.f r7.1 r7.2 c).bind fun r8=>zcP.f r8.1 r8.2 a) fun s6=>(zZ s6 b).two (g:=fun r7=>(zcP.f r7.1 r7.2 c).bind fun r8=>zcP.f r8.1 r8.2 a) fun s7=>(zZ s7 c).two (g:=fun r8=>zcP.f r8.1 r8.2 a) fun s8=>zZ s8 a) fun t3 l3 q G3 hl3 I3=>?_
 refine Run.then (g:=fun r3=>(zcN.f r3.1 q r3.2).bind fun r4=>(zcN.f r4.1 p r4.2).bind fun r5=>(zcQ.f r5.1 8 r5.2).bind fun r6=>(zcP.f r6.1 r6.2 b).bind fun r7=>(zcP.f r7.1 r7.2 c).bind fun r8=>zcP.f r8.1 r8.2 a) (zbw G3.grown.2 G3.all hl3 f form) (fun s3=>(xx q s3).two (g:=fun r4=>(zcN.f r4.1 p r4.2).bind fun r5=>(zcQ.f r5.1 8 r5.2).bind fun r6=>(zcP.f r6.1 r6.2 b).bind fun r7=>(zcP.f r7.1 r7.2 c).bind fun r8=>zcP.f r8.1 r8.2 a) fun s4=>(xx p s4).two (g:=fun r5=>(zcQ.f r5.1 8 r5.2).bind fun r6=>(zcP.f r6.1 r6.2 b).bind fun r7=>(zcP.f r7.1 r7.2 c).bind fun r8=>zcP.f r8.1 r8.2 a) fun s5=>(yo 8 s5).two (g:=fun r6=>(zcP.f r6.1 r6.2 b).bind fun r7=>(zcP.f r7.1 r7.2 c).bind fun r8=>zcP.f r8.1 r8.2 a) fun s6=>(zZ s6 b).two (g:=fun r7=>(zcP.f r7.1 r7.2 c).bind fun r8=>zcP.f r8.1 r8.2 a) fun s7=>(zZ s7 c).two (g:=fun r8=>zcP.f r8.1 r8.2 a) fun s8=>zZ s8 a) fun t4 l4 s3 G4 hl4 I4=>?_
 refine Run.then (g:=fun r4=>(zcN.f r4.1 p r4.2).bind fun r5=>(zcQ.f r5.1 8 r5.2).bind fun r6=>(zcP.f r6.1 r6.2 b).bind fun r7=>(zcP.f r7.1 r7.2 c).bind fun r8=>zcP.f r8.1 r8.2 a) (zbw G4.grown.2 G4.all hl4 q s3) (fun s4=>(xx p s4).two (g:=fun r5=>(zcQ.f r5.1 8 r5.2).bind fun r6=>(zcP.f r6.1 r6.2 b).bind fun r7=>(zcP.f r7.1 r7.2 c).bind fun r8=>zcP.f r8.1 r8.2 a) fun s5=>(yo 8 s5).two (g:=fun r6=>(zcP.f r6.1 r6.2 b).bind fun r7=>(zcP.f r7.1 r7.2 c).bind fun r8=>zcP.f r8.1 r8.2 a) fun s6=>(zZ s6 b).two (g:=fun r7=>(zcP.f r7.1 r7.2 c).bind fun r8=>zcP.f r8.1 r8.2 a) fun s7=>(zZ s7 c).two (g:=fun r8=>zcP.f r8.1 r8.2 a) fun s8=>zZ s8 a) fun t5 l5 s4 G5 hl5 I5=>?_
 refine Run.then (g:=fun r5=>(zcQ.f r5.1 8 r5.2).bind fun r6=>(zcP.f r6.1 r6.2 b).bind fun r7=>(zcP.f r7.1 r7.2 c).bind fun r8=>zcP.f r8.1 r8.2 a) (zbw G5.grown.2 G5.all hl5 p s4) (fun s5=>(yo 8 s5).two (g:=fun r6=>(zcP.f r6.1 r6.2 b).bind fun r7=>(zcP.f r7.1 r7.2 c).bind fun r8=>zcP.f r8.1 r8.2 a) fun s6=>(zZ s6 b).two (g:=fun r7=>(zcP.f r7.1 r7.2 c).bind fun r8=>zcP.f r8.1 r8.2 a) fun s7=>(zZ s7 c).two (g:=fun r8=>zcP.f r8.1 r8.2 a) fun s8=>zZ s8 a) fun t6 l6 s5 G6 hl6 I6=>?_
 have pL:=((G3.grown.1.trans G4.grown.1).trans G5.grown.1).trans G6.grown.1
 have i2:=I2.pre pL
 have i3:=I3.pre ((G4.grown.1.trans G5.grown.1).trans G6.grown.1)
 have i4:=I4.pre (G5.grown.1.trans G6.grown.1)
 have i5:=I5.pre G6.grown.1
 have eb:fb=p:=jE G6.grown.2 (iB.pre (G2.grown.1.trans pL)) i2
 have ec:fc=q:=jE G6.grown.2 (iC.pre (G2.grown.1.trans pL)) i3
 subst eb ec
 have e1:=y8 (G2.grown.1.trans pL) hi
 have hx:axS t6 8 s5=true:=by
  unfold axS
  simp [I6.2,i2.2,i3.2,i4.2,i5.2,impN,e1,k4,eL,eR]
 have pp:=(((G2.pre.trans G3.pre).trans G4.pre).trans G5.pre).trans G6.pre
 refine Run.then (g:=fun r6=>(zcP.f r6.1 r6.2 b).bind fun r7=>(zcP.f r7.1 r7.2 c).bind fun r8=>zcP.f r8.1 r8.2 a) (ax_run G6.grown.2 G6.all hl6 zca hx I6.1) (fun s6=>(zZ s6 b).two (g:=fun r7=>(zcP.f r7.1 r7.2 c).bind fun r8=>zcP.f r8.1 r8.2 a) fun s7=>(zZ s7 c).two (g:=fun r8=>zcP.f r8.1 r8.2 a) fun s8=>zZ s8 a) fun t7 l7 s6 G7 hl7 A7=>?_
 refine Run.then (g:=fun r7=>(zcP.f r7.1 r7.2 c).bind fun r8=>zcP.f r8.1 r8.2 a) (mp_run G7.grown.2 G7.all hl7 A7.1 ((hB.pre pp).pre G7.pre) (I6.pre G7.grown.1)) (fun s7=>(zZ s7 c).two (g:=fun r8=>zcP.f r8.1 r8.2 a) fun s8=>zZ s8 a) fun t8 l8 s7 G8 hl8 A8=>?_
 refine Run.then (g:=fun r8=>zcP.f r8.1 r8.2 a) (mp_run G8.grown.2 G8.all hl8 A8.1 (((hC.pre pp).pre G7.pre).pre G8.pre) ((i5.pre G7.grown.1).pre G8.grown.1)) (fun s8=>zZ s8 a) fun t9 l9 s8 G9 hl9 A9=>?_
 exact mp_run G9.grown.2 G9.all hl9 A9.1 ((((hA.pre pp).pre G7.pre).pre G8.pre).pre G9.pre) (((i4.pre G7.grown.1).pre G8.grown.1).pre G9.grown.1)
theorem comp_case (H:Node16 R d k t hyps x form P g) (k1:x.kind=9) (hs:inb 0 x.sub.length=true) (hs1:inb 1 x.sub.length=true) (hs2:inb 2 x.sub.length=true):Out t hyps form (zdy.g R k (some t) hyps x form):=by
 have h:=H.ty
 unfold yr at h
 simp only [k1,show ¬ ((9:Int)=2) by decide,show ¬ ((9:Int)=4) by decide,show ¬ ((9:Int)=7) by decide,show ¬ ((9:Int)=8) by decide,if_false,if_true] at h
 obtain ⟨f,h3,h4⟩ := TR.bind_ok.1 h
 obtain ⟨k4,h5⟩ := yV.1 h4
 obtain ⟨u,h6,h7⟩ := TR.bind_ok.1 h5
 rw [← scS_snoc] at h6 h7
 obtain ⟨fi,P0,d0,ht⟩ := H.told 0 f hs h3
 have hl:=H.wf.left fi (.inr (.inl k4))
 have hr:=H.wf.right fi (.inr (.inl k4))
 unfold zdy.g
 rw [nodeM _ t _ rfl]
 simp only [k1,show ¬ ((9:Int)=1) by decide,show ¬ ((9:Int)=11) by decide,show ¬ ((9:Int)=2) by decide,show ¬ ((9:Int)=3) by decide,show ¬ ((9:Int)=4) by decide,show ¬ ((9:Int)=5) by decide,show ¬ ((9:Int)=6) by decide,show ¬ ((9:Int)=10) by decide,show ¬ ((9:Int)=7) by decide,show ¬ ((9:Int)=8) by decide,decide_true,decide_false,Bool.false_eq_true,if_false,if_true,Option.bind_some,chk,hs,hs1,hs2,ht,Option.bind_assoc]
 have key:Run (fms hyps) t [] (fun _ l' v=>At l' v form) ((zdt.g R ⟨some t,[],0⟩ hyps (at_ PTerm.z x.sub 0) f).bind fun r=>(zdw.f r.1 f).bind fun r0=>(zdu.g R r0.1 hyps x.name r0.2.l (at_ PTerm.z x.sub 1) form).bind fun r1=>(zdu.g R r1.1 hyps x.other r0.2.r (at_ PTerm.z x.sub 2) form).bind fun r2=>caseF r0.2.l r0.2.r f form r.2 r1.2 r2.2 r2.1):=by
  refine (uB H.hR d0 P0 (all_nil _ _) zcc).then (fun v t l e he=>?_) fun t1 l1 v G1 hl1 A1=>?_
  ·simp only [nodeK,Option.bind_some]
   exact (zby (R:=R) hyps x.name (nd t f).l (at_ PTerm.z x.sub 1) form).two (g:=fun r1=>(zdu.g R r1.1 hyps x.other (nd t f).r (at_ PTerm.z x.sub 2) form).bind fun r2=>caseF (nd t f).l (nd t f).r f form v r1.2 r2.2 r2.1) (fun v1=>(zby (R:=R) hyps x.other (nd t f).r (at_ PTerm.z x.sub 2) form).two (g:=fun r2=>caseF (nd t f).l (nd t f).r f form v v1 r2.2 r2.1) fun v2=>case_still _ _ _ _ _ _ _) t l e he
  ·simp only [nodeK,Option.bind_some,y8 G1.grown.1 fi]
   obtain ⟨P1,d1⟩ := H.part t1 (hyps ++ [⟨x.name,(nd t f).l⟩]) 1 form u hs1 G1.grown (ho_snoc H.ho hl) zcc H.fi h6
   refine Run.then (g:=fun r1=>(zdu.g R r1.1 hyps x.other (nd t f).r (at_ PTerm.z x.sub 2) form).bind fun r2=>caseF (nd t f).l (nd t f).r f form v r1.2 r2.2 r2.1) (under_run H.hR d1 P1 (ud G1.grown.1 hl) G1.all hl1) (fun v1=>(zby (R:=R) hyps x.other (nd t f).r (at_ PTerm.z x.sub 2) form).two (g:=fun r2=>caseF (nd t f).l (nd t f).r f form v v1 r2.2 r2.1) fun v2=>case_still _ _ _ _ _ _ _) fun t2 l2 v1 G2 hl2 ⟨fb,A2,IB⟩ => ?_
   have g12:=G1.grown.trans G2.grown
   obtain ⟨P2,d2⟩ := H.part t2 (hyps ++ [⟨x.other,(nd t f).r⟩]) 2 form g hs2 g12 (ho_snoc H.ho hr) zcc H.fi h7
   refine Run.then (g:=fun r2=>caseF (nd t f).l (nd t f).r f form v v1 r2.2 r2.1) (under_run H.hR d2 P2 (ud g12.1 hr) G2.all hl2) (fun v2=>case_still _ _ _ _ _ _ _) fun t3 l3 v2 G3 hl3 ⟨fc,A3,IC⟩ => ?_
   have g13:=g12.trans G3.grown
   have en:=y8 g13.1 fi
   exact case_run G3.grown.2 G3.all hl3 ((A1.1.pre G2.pre).pre G3.pre) (A2.1.pre G3.pre) (IB.pre G3.grown.1) A3.1 IC (ud g13.1 fi) (by rw [en]; exact k4) (by rw [en]) (by rw [en])
 have:=zbx key
 simpa only [caseF,Option.bind_assoc] using this
end
theorem comp_step {R:Rf} {d k:Nat} (hk:66562 ≤ k) (hR:Rec R d):Rec (zdy.g R k) (d + 1):=fun x hx t hyps form P=>by
 obtain ⟨b,hb⟩ := P.ty
 have hd:=depT_eq x
 have hz:=zbg x
 have hdp:=P.dp
 have hsz:=P.sz
 have hln:=P.len
 have hrt:=P.rt
 rw [rightT_eq,Bool.and_eq_true] at hrt
 rw [show depT x=depL x.sub + 1 by omega,zar] at hb
 have hm : ∀ i:Int,inb i x.sub.length=true→at_ PTerm.z x.sub i ∈ x.sub:=fun i hi=>at_mem (zO hi)
 have hN:Node16 R d k t hyps x form (fun i s' w=>(tyS t (depL x.sub) (at_ PTerm.z x.sub i) s' w).at_ i) b:=by
  refine ⟨hk,hR,P.wf,P.ho,P.fi,hb,fun t' hy i f b hi g ho hlen hf h=>?_,fun i f hi h=>?_⟩
  ·have h1:=zbS _ (hm i hi)
   have h2:=zaM (hm i hi)
   have h3:=TR.at_ok.1 h
   rw [tyS_dep _ h1] at h3
   exact ⟨Pre.grow ⟨P.wf,ho,hf,rightL_mem hrt.2 _ (hm i hi),by omega,by omega,by omega,b,h3⟩ g,by omega⟩
  ·have h1:=zbS _ (hm i hi)
   have h2:=zaM (hm i hi)
   have h3:=TR.at_ok.1 h
   rw [tyS_dep _ h1] at h3
   have hf:=(tyS_grow P.wf (List.prefix_refl t) _ _ _ _ f (scS_ok P.ho) (fun q hq=>by cases hq) h3).2
   have hr:=rightL_mem hrt.2 _ (hm i hi)
   exact ⟨hf,⟨P.wf,P.ho,hf,hr,by omega,by omega,by omega,f,(tyS_one _ _ _ f h3).1⟩,by omega,told_eq hk P.wf P.ho hr zcb zcb zcb h3⟩
 have hp:=rt_len P.rt
 have hin : ∀ i:Int,0 ≤ i→i < vk x.kind→inb i x.sub.length=true:=fun i h0 h1=>yA h0 zcb
 have hkd:x.kind=1∨x.kind=9∨x.kind=3∨x.kind=4∨x.kind=12∨x.kind=2∨x.kind=5∨x.kind=6∨x.kind=7∨x.kind=8∨x.kind=10∨x.kind=11:=by
  unfold vk at hp
  split at hp
  ·omega
  split at hp
  ·omega
  split at hp
  ·omega
  split at hp
  ·omega
  ·omega
 rcases hkd with q | q | q | q | q | q | q | q | q | q | q | q <;> rw [q] at hin
 ·exact comp_var hN q
 ·exact comp_case hN q (hin 0 zca zca) (hin 1 zca zca) (hin 2 zca zca)
 ·exact comp_app hN q (hin 0 zca zca) (hin 1 zca zca)
 ·exact comp_pair hN q (hin 0 zca zca) (hin 1 zca zca)
 ·exact comp_let hN q (hin 0 zca zca) (hin 1 zca zca)
 ·exact comp_lam hN q (hin 0 zca zca)
 ·exact comp_unary hN (.inl q) (hin 0 zca zca)
 ·exact comp_unary hN (.inr q) (hin 0 zca zca)
 ·exact comp_inj hN (.inl q) (hin 0 zca zca)
 ·exact comp_inj hN (.inr q) (hin 0 zca zca)
 ·exact comp_abort hN q (hin 0 zca zca)
 ·exact comp_the hN q (hin 0 zca zca)
theorem comp_rec {k:Nat} (hk:66562 ≤ k) : ∀ d,Rec (zdy.f (d + k)) d
 | 0=>fun x hx=>by have:=zak x; omega
 | d + 1=>by
  rw [show d + 1 + k=(d + k) + 1 by omega]
  exact comp_step zcb (comp_rec hk d)
end
end Go.Proofs.YtflieamjacclnaaGreatDoor
