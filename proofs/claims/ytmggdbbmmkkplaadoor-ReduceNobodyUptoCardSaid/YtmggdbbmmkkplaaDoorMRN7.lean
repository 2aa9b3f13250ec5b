/- ReduceNobody, where what it reads is of the bulk that the row names: the row's statement and its card. The package variables that the row lists read as the program lays them. Printed by card14.py, a program of mine. -/
import Derived.Test.YtmggdbbmmkkplaaDoorMRN6
import Derived.Test.YtmggdbbmmkkplaaDoorCards
import Derived.Test.YtmggdbbmmkkplaaDoorTie
import Derived.WalkKit
import Derived.ProofKit
import Derived.OpenShut
import Derived.Deep.DeepHandedRow
import Derived.Deep.Slices
import Derived.Lib.LaidTab
import Derived.Lib.TrailingZeros
import Derived.ChangeSame
set_option linter.unusedVariables false
set_option linter.unusedSimpArgs false
namespace Go.Proofs.YtmggdbbmmkkplaaDoor
section
open Gw Go.RowKit
set_option maxHeartbeats 4000000
set_option maxRecDepth 20000
theorem law14_nobody_st {A:Nat→Prop} {N:Oth} {w:World} {a0:Tb} {a_0:Option Addr} {a1:PTerm} {s_1:SlV} {a2:List Int} {s_2:SlV} {a3:Int} (S:St A N w w [] [oT a_0 a0,za s_1 a1.sub,fS 1 IC s_2 a2,oPw]) {k:Nat} {r:Bool} (H:zad.f k a0 a1 a2 a3=some r) :
  Calls PP F_law14_nobody #[.pointer a_0,.agg (Term.C (⟨a1.kind,a1.name,a1.other,a1.form,s_1⟩ : Term)).toArray,s_2.v,.int .i64 a3] w fun e w' => ∃ v,e = .returned v∧(v = .bool r∧St A N w w' [] []):=by
 unfold zad.f at H
 refine zE (n:=93) fn_law14_nobody rfl rfl jL ?_
 refine zg (zd ?_)
 refine zQ rfl jJ fun b2 w1 hw1=>?_
 replace S:St A N w w1 [oB b2 zb (Term.C (⟨a1.kind,a1.name,a1.other,a1.form,s_1⟩ : Term))] [oT a_0 a0,za s_1 a1.sub,fS 1 IC s_2 a2,oPw]:=S.new hw1
 refine wd (zk rfl) ?_
 refine ze ?_
 refine zg (zd ?_)
 refine wd (zN rfl) ?_
 refine wd (zi zq rfl ((S.blk 0).all _ (Term.len _)) (Term.len _)) ?_
 obtain ⟨r3,er3,H⟩ := zB H
 obtain ⟨B5,MB5,SB5,back⟩ := S.calln 0 ((.z 0 rfl (.z 1 rfl (.z 3 rfl .nil))))
 refine zJ (zH ug) jJ (uo (a1:=a1) SB5 er3) ?_
 rintro _ w4 ⟨s6,rfl,S2⟩
 replace S:St A N w w4 [zm s6 r3.1,oB b2 zb (Term.C (⟨a1.kind,a1.name,a1.other,a1.form,s_1⟩ : Term))] [oT a_0 a0,za s_1 a1.sub,fS 1 IC s_2 a2,oPw]:=back _ _ _ _ S2 rfl
 clear back S2 SB5
 refine wd (xn rfl) ?_
 refine wd (zA rfl rfl) ?_
 refine wd (zA rfl rfl) ?_
 refine wd (vV rfl) ?_
 refine wd (zn rfl) ?_
 refine ze ?_
 refine zg (zd ?_)
 refine wd (zN rfl) ?_
 refine wd (zi zq rfl ((S.blk 1).all _ (Term.len _)) (Term.len _)) ?_
 refine wd (xa rfl) ?_
 obtain ⟨r7,er7,H⟩ := zB H
 obtain ⟨B9,MB9,SB9,back⟩ := S.sub [0,1,2,3] [] [zm s6 r3.1,oB b2 zb (Term.C (⟨a1.kind,a1.name,a1.other,a1.form,s_1⟩ : Term))]
 refine zJ (zH ca_reduce_Do) jJ (reduce_Do_st (a1:=a1) SB9 er7) ?_
 rintro _ w8 ⟨s10,rfl,S2⟩
 replace S:St A N w w8 [zm s6 r3.1,oB b2 zb (Term.C (⟨a1.kind,a1.name,a1.other,a1.form,s_1⟩ : Term))] [za s10 r7.1.sub,oT a_0 a0,za s_1 a1.sub,fS 1 IC s_2 a2,oPw]:=back _ _ _ _ _ S2 rfl rfl
 clear back S2 SB9
 refine wd (xn rfl) ?_
 refine wd (zA rfl rfl) ?_
 refine wd (zA rfl rfl) ?_
 refine zZ xr jJ fun b12 w11 hw11=>?_
 replace S:St A N w w11 [oB b12 zb (Term.C (⟨0,ByteArray.empty,ByteArray.empty,0,SlV.nil⟩ : Term)),zm s6 r3.1,oB b2 zb (Term.C (⟨a1.kind,a1.name,a1.other,a1.form,s_1⟩ : Term))] [za s10 r7.1.sub,oT a_0 a0,za s_1 a1.sub,fS 1 IC s_2 a2,oPw]:=S.new hw11
 refine zy zq rfl rfl (S.blk 0) (Term.len _) (by rw [Term.len]; decide) (Term.one _) (zM (Term.len _)) fun w13 B hw13 zw13=>?_
 replace S:St A N w w13 [oB b12 zb (Term.C (⟨r7.1.kind,r7.1.name,r7.1.other,r7.1.form,s10⟩ : Term)),zm s6 r3.1,oB b2 zb (Term.C (⟨a1.kind,a1.name,a1.other,a1.form,s_1⟩ : Term))] [za s10 r7.1.sub,oT a_0 a0,za s_1 a1.sub,fS 1 IC s_2 a2,oPw]:=S.store 0 B hw13
 clear B
 refine wd (zn rfl) ?_
 refine ze ?_
 refine zg (zd ?_)
 refine wd (zN rfl) ?_
 refine wd (zi zq rfl ((S.blk 2).all _ (Term.len _)) (Term.len _)) ?_
 obtain ⟨r14,er14,H⟩ := zB H
 obtain ⟨B16,MB16,SB16,back⟩ := S.calln 0 ((.z 1 rfl (.z 2 rfl (.z 4 rfl .nil))))
 refine zJ (zH jB) jJ (jF (a1:=a1) SB16 er14) ?_
 rintro _ w15 ⟨rfl,S2⟩
 replace S:St A N w w15 [oB b12 zb (Term.C (⟨r7.1.kind,r7.1.name,r7.1.other,r7.1.form,s10⟩ : Term)),zm s6 r3.1,oB b2 zb (Term.C (⟨a1.kind,a1.name,a1.other,a1.form,s_1⟩ : Term))] [za s10 r7.1.sub,oT a_0 a0,za s_1 a1.sub,fS 1 IC s_2 a2,oPw]:=back _ _ _ _ S2 rfl
 clear back S2 SB16
 refine wd (xn rfl) ?_
 refine wd (zA rfl rfl) ?_
 refine wd (zA rfl rfl) ?_
 refine wd (zk rfl) ?_
 refine wd (zn rfl) ?_
 refine ze ?_
 refine zg (zd ?_)
 refine wd (zN rfl) ?_
 refine wd (zi zq rfl ((S.blk 2).all _ (Term.len _)) (Term.len _)) ?_
 refine wd (zp rfl) ?_
 obtain ⟨r17,er17,H⟩ := zB H
 obtain ⟨B19,MB19,SB19,back⟩ := S.sub [1,2,4] [] [oB b12 zb (Term.C (⟨r7.1.kind,r7.1.name,r7.1.other,r7.1.form,s10⟩ : Term)),zm s6 r3.1,oB b2 zb (Term.C (⟨a1.kind,a1.name,a1.other,a1.form,s_1⟩ : Term))]
 refine zJ (zH ca_reduce_Run) jJ (reduce_Run_st (a1:=a1) SB19 er17) ?_
 rintro _ w18 ⟨s20,rfl,S2⟩
 replace S:St A N w w18 [oB b12 zb (Term.C (⟨r7.1.kind,r7.1.name,r7.1.other,r7.1.form,s10⟩ : Term)),zm s6 r3.1,oB b2 zb (Term.C (⟨a1.kind,a1.name,a1.other,a1.form,s_1⟩ : Term))] [za s20 r17.1.sub,za s10 r7.1.sub,oT a_0 a0,za s_1 a1.sub,fS 1 IC s_2 a2,oPw]:=back _ _ _ _ _ S2 rfl rfl
 clear back S2 SB19
 refine wd (xn rfl) ?_
 refine wd (zA rfl rfl) ?_
 refine wd (zA rfl rfl) ?_
 refine wd (zA rfl rfl) ?_
 refine wd (zA rfl rfl) ?_
 refine zZ xr jJ fun b22 w21 hw21=>?_
 replace S:St A N w w21 [oB b22 zb (Term.C (⟨0,ByteArray.empty,ByteArray.empty,0,SlV.nil⟩ : Term)),oB b12 zb (Term.C (⟨r7.1.kind,r7.1.name,r7.1.other,r7.1.form,s10⟩ : Term)),zm s6 r3.1,oB b2 zb (Term.C (⟨a1.kind,a1.name,a1.other,a1.form,s_1⟩ : Term))] [za s20 r17.1.sub,za s10 r7.1.sub,oT a_0 a0,za s_1 a1.sub,fS 1 IC s_2 a2,oPw]:=S.new hw21
 refine zy zq rfl rfl (S.blk 0) (Term.len _) (by rw [Term.len]; decide) (Term.one _) (zM (Term.len _)) fun w23 B hw23 zw23=>?_
 replace S:St A N w w23 [oB b22 zb (Term.C (⟨r17.1.kind,r17.1.name,r17.1.other,r17.1.form,s20⟩ : Term)),oB b12 zb (Term.C (⟨r7.1.kind,r7.1.name,r7.1.other,r7.1.form,s10⟩ : Term)),zm s6 r3.1,oB b2 zb (Term.C (⟨a1.kind,a1.name,a1.other,a1.form,s_1⟩ : Term))] [za s20 r17.1.sub,za s10 r7.1.sub,oT a_0 a0,za s_1 a1.sub,fS 1 IC s_2 a2,oPw]:=S.store 0 B hw23
 clear B
 refine wd (zn rfl) ?_
 refine wd (zk rfl) ?_
 refine wd (zn rfl) ?_
 refine ze ?_
 refine zg (zd ?_)
 refine wd (zn rfl) ?_
 refine ze ?_
 refine zg (zd ?_)
 refine wd (xa rfl) ?_
 refine wd (ja yL rfl (S.onO 2)) ?_
 refine wd (xb rfl rfl) ?_
 refine wd (zG rfl) ?_
 refine zu (j:=3) (pol:=true) rfl rfl rfl jJ (fun hg=>zp rfl) jJ ?_
 refine zu (j:=3) (pol:=true) rfl rfl rfl jJ (fun hg=>zp rfl) jJ ?_
 refine zu (j:=3) (pol:=true) rfl rfl rfl jJ (fun hg=>xb (zw hg) (zw hg)) jJ ?_
 refine wd (xe rfl (fun hp=>(zw (xu hp)))) ?_
 refine wd (zG rfl) ?_
 refine zu (j:=8) (pol:=true) rfl rfl rfl jJ (fun hg=>zi zq rfl ((S.blk 1).all _ (Term.len _)) (Term.len _)) jJ ?_
 refine zu (j:=8) (pol:=true) rfl rfl rfl jJ (fun hg=>Does.to (v' := .agg (Term.C (⟨0,ByteArray.empty,ByteArray.empty,0,SlV.nil⟩ : Term)).toArray) (xg (vs:=[]) xW rfl Bld.nil) rfl) jJ ?_
 replace S:St A N w w23 [oB b22 zb (Term.C (⟨r17.1.kind,r17.1.name,r17.1.other,r17.1.form,s20⟩ : Term)),oB b12 zb (Term.C (⟨r7.1.kind,r7.1.name,r7.1.other,r7.1.form,s10⟩ : Term)),zm s6 r3.1,oB b2 zb (Term.C (⟨a1.kind,a1.name,a1.other,a1.form,s_1⟩ : Term))] [za SlV.nil ([]),za s20 r17.1.sub,za s10 r7.1.sub,oT a_0 a0,za s_1 a1.sub,fS 1 IC s_2 a2,oPw]:=S.nilTm
 obtain ⟨r24,er24,H⟩ := zB H
 refine xH (j:=8) (pol:=true) rfl rfl rfl jJ (fun hg=>zS vh (zX (zw hg) (zX (zw hg) rfl))) jJ (fun hg=>(have ⟨M,SS⟩ := S.lend ((.z 2 rfl (.z 0 rfl .nil))); quiet (vN (a0:=r7.1) (a1:=(⟨0,ByteArray.empty,ByteArray.empty,0,[]⟩ : PTerm)) SS (if_t (by simpa using hg) er24)) (fun v w' h=>⟨h.1,_,_,h.2⟩))) fun w25 hw25=>?_
 replace S:=S.ext hw25
 refine wd (xe rfl (fun hp=>(zw (xu hp)))) ?_
 refine wd (zG rfl) ?_
 refine zu (j:=13) (pol:=true) rfl rfl rfl jJ (fun hg=>zp rfl) jJ ?_
 refine zu (j:=13) (pol:=true) rfl rfl rfl jJ (fun hg=>zp rfl) jJ ?_
 refine zu (j:=13) (pol:=true) rfl rfl rfl jJ (fun hg=>xb (zw hg) (zw hg)) jJ ?_
 refine wd (xe rfl (fun hp=>(zw (xu hp)))) ?_
 refine wd (zG rfl) ?_
 refine zu (j:=18) (pol:=true) rfl rfl rfl jJ (fun hg=>zG rfl) jJ ?_
 refine zu (j:=18) (pol:=true) rfl rfl rfl jJ (fun hg=>xp (zw hg)) jJ ?_
 refine wd (xe rfl (fun hp=>(zw (xu hp)))) ?_
 refine wd (zG rfl) ?_
 refine zu (j:=22) (pol:=true) rfl rfl rfl jJ (fun hg=>zp rfl) jJ ?_
 refine zu (j:=22) (pol:=true) rfl rfl rfl jJ (fun hg=>zp rfl) jJ ?_
 refine zu (j:=22) (pol:=true) rfl rfl rfl jJ (fun hg=>xb (zw hg) (zw hg)) jJ ?_
 refine wd (xe rfl (fun hp=>(zw (xu hp)))) ?_
 refine wd (zG rfl) ?_
 refine zu (j:=27) (pol:=true) rfl rfl rfl jJ (fun hg=>zi zq rfl ((S.blk 0).all _ (Term.len _)) (Term.len _)) jJ ?_
 refine zu (j:=27) (pol:=true) rfl rfl rfl jJ (fun hg=>Does.to (v' := .agg (Term.C (⟨0,ByteArray.empty,ByteArray.empty,0,SlV.nil⟩ : Term)).toArray) (xg (vs:=[]) xW rfl Bld.nil) rfl) jJ ?_
 replace S:St A N w w25 [oB b22 zb (Term.C (⟨r17.1.kind,r17.1.name,r17.1.other,r17.1.form,s20⟩ : Term)),oB b12 zb (Term.C (⟨r7.1.kind,r7.1.name,r7.1.other,r7.1.form,s10⟩ : Term)),zm s6 r3.1,oB b2 zb (Term.C (⟨a1.kind,a1.name,a1.other,a1.form,s_1⟩ : Term))] [za SlV.nil ([]),za SlV.nil ([]),za s20 r17.1.sub,za s10 r7.1.sub,oT a_0 a0,za s_1 a1.sub,fS 1 IC s_2 a2,oPw]:=S.nilTm
 obtain ⟨r26,er26,H⟩ := zB H
 refine xH (j:=27) (pol:=true) rfl rfl rfl jJ (fun hg=>zS vh (zX (zw hg) (zX (zw hg) rfl))) jJ (fun hg=>(have ⟨M,SS⟩ := S.lend ((.z 2 rfl (.z 0 rfl .nil))); quiet (vN (a0:=r17.1) (a1:=(⟨0,ByteArray.empty,ByteArray.empty,0,[]⟩ : PTerm)) SS (if_t (by simpa using hg) er26)) (fun v w' h=>⟨h.1,_,_,h.2⟩))) fun w27 hw27=>?_
 replace S:=S.ext hw27
 refine wd (xe rfl (fun hp=>(zw (xu hp)))) ?_
 refine wd (zG rfl) ?_
 refine zu (j:=32) (pol:=true) rfl rfl rfl jJ (fun hg=>zp rfl) jJ ?_
 refine zu (j:=32) (pol:=true) rfl rfl rfl jJ (fun hg=>xb (zw hg) rfl) jJ ?_
 refine wd (xe rfl (fun hp=>(zw (xu hp)))) ?_
 refine wd (zG rfl) ?_
 refine zu (j:=36) (pol:=true) rfl rfl rfl jJ (fun hg=>zG rfl) jJ ?_
 refine zu (j:=36) (pol:=true) rfl rfl rfl jJ (fun hg=>xp (zw hg)) jJ ?_
 refine wd (xe rfl (fun hp=>(zw (xu hp)))) ?_
 refine wd (zG rfl) ?_
 refine zu (j:=40) (pol:=true) rfl rfl rfl jJ (fun hg=>zp rfl) jJ ?_
 refine zu (j:=40) (pol:=true) rfl rfl rfl jJ (fun hg=>zp rfl) jJ ?_
 refine zu (j:=40) (pol:=true) rfl rfl rfl jJ (fun hg=>xb (zw hg) (zw hg)) jJ ?_
 refine wd (xe rfl (fun hp=>(zw (xu hp)))) ?_
 refine wd (zk rfl) ?_
 refine ze ?_
 refine zC ?_
 refine ⟨_,(z1 (zj rfl)),?_⟩
 replace S:St A N w w27 [] []:=S.arr [] []
 obtain rfl:=jN H
 exact ⟨rfl,S⟩
theorem law14_ReduceNobody_st {A:Nat→Prop} {N:Oth} {w:World} {a0:PTerm} {s_0:SlV} {a1:List Int} {s_1:SlV} {a2:Int} (S:St A N w w [] [za s_0 a0.sub,fS 1 IC s_1 a1,oPw]) {k:Nat} {r:Bool} (H:zae.f k a0 a1 a2=some r) :
  Calls PP xJ #[.agg (Term.C (⟨a0.kind,a0.name,a0.other,a0.form,s_0⟩ : Term)).toArray,s_1.v,.int .i64 a2] w fun e w' => ∃ v,e = .returned v∧(v = .bool r∧St A N w w' [] []):=by
 unfold zae.f at H
 refine zE (n:=24) yN rfl rfl jL ?_
 refine zg (zd ?_)
 refine zQ rfl jJ fun b2 w1 hw1=>?_
 replace S:St A N w w1 [oB b2 zb (Term.C (⟨a0.kind,a0.name,a0.other,a0.form,s_0⟩ : Term))] [za s_0 a0.sub,fS 1 IC s_1 a1,oPw]:=S.new hw1
 refine wd (zk rfl) ?_
 refine ze ?_
 refine zg (zd ?_)
 replace S:St A N w w1 [oT none none,oB b2 zb (Term.C (⟨a0.kind,a0.name,a0.other,a0.form,s_0⟩ : Term))] [za s_0 a0.sub,fS 1 IC s_1 a1,oPw]:=S.add (Ext.refl _) (oT.nil _) (fun _ x=>x.elim)
 refine wd (x4 rfl) ?_
 refine ze ?_
 refine zg (zd ?_)
 refine wd (zN rfl) ?_
 refine wd (zi zq rfl ((S.blk 1).all _ (Term.len _)) (Term.len _)) ?_
 refine wd (xa rfl) ?_
 refine wd (zp rfl) ?_
 obtain ⟨r3,er3,H⟩ := zB H
 obtain ⟨B5,MB5,SB5,back⟩ := S.calln 0 ((.o 0 rfl (.z 0 rfl (.z 1 rfl (.z 2 rfl .nil)))))
 refine zJ (zH ca_law14_nobody) jJ (law14_nobody_st (a1:=a0) SB5 er3) ?_
 rintro _ w4 ⟨rfl,S2⟩
 replace S:St A N w w4 [oT none none,oB b2 zb (Term.C (⟨a0.kind,a0.name,a0.other,a0.form,s_0⟩ : Term))] [za s_0 a0.sub,fS 1 IC s_1 a1,oPw]:=back _ _ _ _ S2 rfl
 clear back S2 SB5
 refine wd (zG rfl) ?_
 refine zu (j:=5) (pol:=true) rfl rfl rfl jJ (fun hg=>vv bu_Tab Bld.nil) jJ ?_
 obtain ⟨hg6,H⟩ := xh H
 refine x8 (j:=5) (pol:=true) rfl rfl rfl jJ (by simpa using hg6) ?_
 refine zQ (zw (by simpa using hg6)) jJ fun b8 w7 hw7=>?_
 replace S:St A N w w7 [oT (some ⟨b8,0,none⟩) none,oT none none,oB b2 zb (Term.C (⟨a0.kind,a0.name,a0.other,a0.form,s_0⟩ : Term))] [za s_0 a0.sub,fS 1 IC s_1 a1,oPw]:=(S.new hw7).zeroT
 refine zu (j:=5) (pol:=true) rfl rfl rfl jJ (fun hg=>zi zq rfl ((S.blk 2).all _ (Term.len _)) (Term.len _)) jJ ?_
 refine zu (j:=5) (pol:=true) rfl rfl rfl jJ (fun hg=>xa rfl) jJ ?_
 refine zu (j:=5) (pol:=true) rfl rfl rfl jJ (fun hg=>zp rfl) jJ ?_
 obtain ⟨r9,er9,H⟩ := zB H
 refine xH (j:=5) (pol:=true) rfl rfl rfl jJ (fun hg=>zS ca_law14_nobody (zX rfl (zX (zw hg) (zX (zw hg) (zX (zw hg) rfl))))) jJ (fun hg=>(have ⟨M,SS⟩ := S.lend ((.o 0 rfl (.z 0 rfl (.z 1 rfl (.z 2 rfl .nil))))); quiet (law14_nobody_st (a1:=a0) SS (if_t (by simpa using hg) er9)) (fun v w' h=>⟨h.1,_,_,h.2⟩))) fun w10 hw10=>?_
 replace S:=S.ext hw10
 refine wd (xe rfl (fun hp=>(zw (xu hp)))) ?_
 refine wd (zG rfl) ?_
 obtain ⟨r11,er11,H⟩ := zB H
 refine xH (j:=13) (pol:=true) rfl rfl rfl jJ (fun hg=>zS ca_law14_heads rfl) jJ (fun hg=>(have ⟨M,SS⟩ := S.lend ((.z 2 rfl .nil)); quiet (law14_heads_st SS (if_t (by simpa using hg) er11)) (fun v w' h=>⟨h.1,_,_,h.2⟩))) fun w12 hw12=>?_
 replace S:=S.ext hw12
 refine wd (xe rfl (fun hp=>(zw (xu hp)))) ?_
 refine wd (zk rfl) ?_
 refine ze ?_
 refine zC ?_
 refine ⟨_,(z1 (zj rfl)),?_⟩
 replace S:St A N w w12 [] []:=S.arr [] []
 obtain rfl:=jN H
 exact ⟨rfl,S⟩
end
section
open Gw
set_option maxRecDepth 100000
theorem heads14:zac.f 12=some true:=by decide +kernel
theorem same14:k9.f 12 (⟨0,ByteArray.empty,ByteArray.empty,0,[]⟩ : PTerm) (⟨0,ByteArray.empty,ByteArray.empty,0,[]⟩ : PTerm)=some true:=by decide +kernel
theorem ReduceNobody_true {k:Nat} (hh:zac.f k=some true) (hs:k9.f k (⟨0,ByteArray.empty,ByteArray.empty,0,[]⟩ : PTerm) (⟨0,ByteArray.empty,ByteArray.empty,0,[]⟩ : PTerm)=some true) (x:PTerm) (l:List Int) (n:Int):zae.f k x l n=some true:=by
 have h0:kA.f k none x=some (false,1):=by simp [kA.f,j6.f,chk]
 have h3:zad.f k none x l n=some true:=by
  simp [zad.f,kZ.f,kW.f,k0.f,k5.f,h0,hs,chk]
 unfold zae.f
 simp [h3,hh,chk]
end
section
open Gw Go.ChangeShapes Go.WideShapes Go.ChangeAt Go.RowKit
set_option maxRecDepth 100000
theorem ownKnob_none:ownKnob PP.godebug=none:=by kernel_rfl
theorem laidOut_PP:laidOutB PP=true:=by kernel_rfl
theorem trodAll_stays {H:Type} {enc:TypeId × Value→H} {W W':World} {sp:Nat→Bool} : ∀ {ts:List TypeId} {vs:List Value} {ds:List (DataW H)} {ps:List MemPlace},(∀ t ∈ ts,PP.readableRec t=true∧t < PP.types.size) →
  DataW.TrodAll enc PP W 0 (fun _=>true) true ts vs ds ps→(∀ p ∈ ps,W.sameAt W' p)→(∀ p ∈ ps,sp p.block=true)→DataW.TrodAll enc PP W' 0 sp true ts vs ds ps
 | [],vs,ds,ps,_,h,_,_=>by
  obtain ⟨rfl,rfl,rfl⟩ := trodAll_nil h
  exact trodAll_mk0
 | t :: ts,vs,ds,ps,hr,h,h1,h2=>by
  obtain ⟨v,vs,d,ds,p,q,rfl,rfl,rfl,h0,h3⟩ := trodAll_cons h
  have ht:=hr t jL
  exact trodAll_cons_mk (WideElems.Trod_stays laidOut_PP ht.1 ht.2 h0 (fun x hx=>h1 x (by simp [hx])) (fun x hx=>h2 x (by simp [hx])))
   (trodAll_stays (fun t ht=>hr t (by simp [ht])) h3 (fun x hx=>h1 x (by simp [hx])) (fun x hx=>h2 x (by simp [hx])))
def oth0:Oth:=⟨fun _=>False,[],fun _ h=>by cases h⟩
section
variable {P:Program} {W:World} {b t:Nat} {k:IntKind} {v:Value}
theorem cell_int (ht:P.underlying t=some (.int k)) (h:Cell.okWide P W .any b t v) : ∃ n,v = .int k n∧k.has n:=by
 simp only [Cell.okWide,ht] at h
 cases v <;> simp_all [Cell.ok]
theorem int_of (ht:P.underlying t=some (.int k)) (h:Value.okWide P W .any b t v) : ∃ n,v = .int k n∧k.has n:=by
 unfold Value.okWide at h
 rw [ht] at h
 exact cell_int ht h
end
section
variable {H:Type} {enc:TypeId × Value→H} {P:Program} {W:World} {t:TypeId} {fuel:Nat} {cs:List Value} {x:DataW H × List MemPlace} {sp:Nat→Bool} {hd:Bool} {b0:Nat}
theorem take_one {l:List Value} {o:Nat} {v:Value} (h:(l.drop o).take 1=[v]):l[o]? = some v:=by
 have:((l.drop o).take 1)[0]? = some v:=by rw [h]; rfl
 rw [List.getElem?_take] at this
 simpa using this
theorem fld_int {i off ft:Nat} {k:IntKind} (hf:FieldV P t i off ft) (hk:P.underlying ft=some (.int k)) (hc:P.cellsOf ft=1) (h:DataW.trod enc P W b0 sp hd fuel t cs=some x) : ∃ n,cs[off]? = some (.int k n):=by
 obtain ⟨fs,fd,hu,hi,rfl,rfl⟩ := hf
 obtain ⟨xs,n,_,_,hl,hx,hall⟩ := DataW.trod_struct hu h
 have h1:=hall i fd hi
 have h2:i < xs.length:=by rw [hx]; exact (Array.getElem?_eq_some_iff.1 hi).1
 rw [List.getElem?_eq_getElem h2,hc] at h1
 obtain ⟨n,e,_⟩ := DataW.trod_int hk h1
 exact ⟨n,take_one e⟩
theorem fld_str {i off ft:Nat} (hf:FieldV P t i off ft) (hk:P.underlying ft=some .string) (hc:P.cellsOf ft=1) (h:DataW.trod enc P W b0 sp hd fuel t cs=some x) : ∃ s:ByteArray,cs[off]? = some (.string s)∧s.size ≤ maxLen:=by
 obtain ⟨fs,fd,hu,hi,rfl,rfl⟩ := hf
 obtain ⟨xs,n,_,_,hl,hx,hall⟩ := DataW.trod_struct hu h
 have h1:=hall i fd hi
 have h2:i < xs.length:=by rw [hx]; exact (Array.getElem?_eq_some_iff.1 hi).1
 rw [List.getElem?_eq_getElem h2,hc] at h1
 obtain ⟨s,e,_,hs⟩ := DataW.trod_string hk h1
 exact ⟨s,take_one e,hs⟩
theorem slice_of {α:Type} [Inhabited α] {e k:Nat} {C:α→List Value} {Q:α→Prop} {base:Nat} {v:Value} {d:DataW H} {ps:List MemPlace} (ht:P.underlying t=some (.slice e)) (hk:P.cellsOf e=k) (hC : ∀ a,(C a).length=k) (hk0:0 < k)
  (hel : ∀ (n:Nat) (cs:List Value) (x:DataW H × List MemPlace),DataW.trod enc P W 0 (fun _=>true) true n e cs=some x → ∃ a,cs=C a∧Q a)
  (hval:Value.okWide P W .any base t v) (h:DataW.Trod enc P W 0 (fun _=>true) true t v d ps) :
  ∃ (l:List α) (s:SlV),v=s.v∧Rd W k s (l.map C)∧(∀ a ∈ l,Q a)∧(l=[] ∨ ∃ elems spare,d = .slice elems spare∧elems.length=l.length):=by
 obtain ⟨a0,len0,cap0,rfl⟩ := okWide_slice ht hval
 obtain ⟨fuel,hf⟩ := h
 rcases Deep.open_slice ht hf with ⟨h1,h2⟩ | ⟨a,len,cap,m,n,D,Pl,h1,_,hlc,hcm,hm,h2,hx⟩
 ·simp [Value.cells] at h1
  obtain ⟨rfl,rfl,rfl⟩ := h1
  exact ⟨[],SlV.nil,SlV.nil_eq,Rd.nil W k,by simp,.inl rfl⟩
 ·simp [Value.cells] at h1
  obtain ⟨rfl,rfl,rfl⟩ := h1
  have hval2:=hval
  simp only [Value.okWide,ht,Cell.okWide,Cell.ok] at hval2
  obtain ⟨_,_,_,hspot,row,cells,hshape,_⟩ := hval2
  obtain ⟨ab,ao,asp⟩ := a
  obtain rfl:asp=none:=hspot
  simp only at hshape
  have hlt:ab < W.heap.size:=by
   unfold World.shape? at hshape
   cases hh:W.heap[ab]? with
   | none=>rw [hh] at hshape; cases hshape
   | some o=>exact (Array.getElem?_eq_some_iff.1 hh).1
  have hmc:m=cap0:=by rw [hm]; rfl
  obtain ⟨f,hfx⟩ := Deep.choose_lt (α:=α) (n:=len0) (p:=fun i y=>W.cells? 0 ((⟨ab,ao,none⟩ : Addr).add (i * P.cellsOf e)) (P.cellsOf e)=some (C y)∧Q y) (fun i hi=>by
   obtain ⟨cs',hc,ht'⟩ := hx i jK
   obtain ⟨y,rfl,hq⟩ := hel _ _ _ ht'
   exact ⟨y,hc,hq⟩)
  refine ⟨(List.range len0).map f,⟨some ⟨ab,ao,none⟩,len0,cap0⟩,by rw [SlV.eq],⟨⟨by simp,?_,?_⟩,?_,hlc⟩,?_,.inr ⟨_,_,by simpa using congrArg Prod.fst h2,by simp⟩⟩
  ·intro r hr
   obtain ⟨y,_,rfl⟩ := List.mem_map.1 hr
   exact hC y
  ·intro i r hr
   rw [List.getElem?_map,List.getElem?_map] at hr
   have hi:i < len0:=by
    refine Nat.lt_of_not_le fun q=>?_
    rw [List.getElem?_eq_none (by simpa using q)] at hr; cases hr
   rw [List.getElem?_eq_getElem (by simpa using hi)] at hr
   simp only [List.getElem_range,Option.map_some,Option.some.injEq] at hr
   subst hr
   obtain ⟨h3,_⟩ := hfx i hi
   obtain ⟨_,hl,hc⟩ := World.cells?_some h3
   refine ⟨rfl,fun j v hv=>?_⟩
   have hj:j < k:=by have:=(List.getElem?_eq_some_iff.1 hv).1; rw [hC] at this; exact this
   have h4:=hc j (by rw [hk]; exact hj)
   rw [hv] at h4
   have hadd:((⟨ab,ao,none⟩ : Addr).add (i * P.cellsOf e)).add j=⟨ab,ao + i * k + j,none⟩ := by
    rw [hk]
    unfold Addr.add
    by_cases h5:i * k=0
    ·by_cases h6:j=0
     ·simp [h5,h6]
     ·simp [h5,h6]
    ·by_cases h6:j=0
     ·simp [h5,h6]
     ·simp [h5,h6]
   rw [hadd] at h4
   exact h4
  ·rintro i ⟨_,rfl⟩
   exact hlt
  ·intro y hy
   obtain ⟨i,hi,rfl⟩ := List.mem_map.1 hy
   exact (hfx i (List.mem_range.1 hi)).2
end
instance:Inhabited Nd:=⟨Nd.z⟩
theorem bulk_one {H:Type} (d:DataW H):1 ≤ Rows.uptoBulk d:=by
 cases d with
 | lit l=>cases l <;> simp [Rows.uptoBulk]
 | nil=>simp [Rows.uptoBulk]
 | ptr d=>simp [Rows.uptoBulk]
 | slice elems spare=>simp [Rows.uptoBulk]
 | agg parts=>simp [Rows.uptoBulk]
 | iface t d=>simp [Rows.uptoBulk]
 | map entries=>simp [Rows.uptoBulk]
 | held h=>simp [Rows.uptoBulk]
theorem bulk_part {H:Type} {d:DataW H} {l:List (DataW H)} (h:d ∈ l):Rows.uptoBulk d ≤ Rows.uptoBulkAll l:=by
 induction l with
 | nil=>cases h
 | cons x r ih =>
  simp only [Rows.uptoBulkAll]
  cases List.mem_cons.1 h with
  | inl e=>subst e; omega
  | inr e=>have:=ih e; omega
theorem bulk_len {H:Type} (l:List (DataW H)):l.length ≤ Rows.uptoBulkAll l:=by
 induction l with
 | nil=>simp [Rows.uptoBulkAll]
 | cons x r ih=>have:=bulk_one x; simp only [Rows.uptoBulkAll,List.length_cons]; omega
theorem small_len {H:Type} {α:Type} {l:List α} {d:DataW H} {ds:List (DataW H)} (hk:Rows.uptoSmall H ds=true) (hd:d ∈ ds) (h:l=[] ∨ ∃ elems spare,d = .slice elems spare∧elems.length=l.length):l.length ≤ 1048576:=by
 rcases h with rfl | ⟨elems,spare,rfl,he⟩
 ·simp
 ·have h1:=bulk_part hd
  have h2:=bulk_len elems
  have h3:Rows.uptoBulkAll ds ≤ 1048576:=by simpa [Rows.uptoSmall] using hk
  simp only [Rows.uptoBulk] at h1
  omega
def Held (W:World) (Z:List OA):Prop := ∀ z ∈ Z,∃ F,z.holds W F
theorem Held.nil {W:World}:Held W []:=fun _ h=>by cases h
theorem Held.cons {W:World} {z:OA} {Z:List OA} (h : ∃ F,z.holds W F) (hz:Held W Z):Held W (z :: Z):=fun x hx=>by
 rcases List.mem_cons.1 hx with rfl | hx
 ·exact h
 ·exact hz x hx
theorem Held.s {W:World} {Z:List OA} {k:Nat} {α:Type} {C:α→List Value} {s:SlV} {l:List α} (hr:Rd W k s (l.map C)) (hl:l.length ≤ 140737488355328) (hz:Held W Z):Held W (fS k C s l :: Z) :=
 .cons ⟨s.fp,⟨hr,hl⟩,fun _=>Iff.rfl⟩ hz
theorem stheld {W:World} {Z:List OA} (h:Held W Z):St (fun _=>False) oth0 W W [] Z :=
 ⟨fun _=>False,fun _ h=>h.elim,fun _ h=>h.elim,Chg.refl _ _,trivial,fun z hz=>by
  obtain ⟨F,hF⟩ := h z hz
  exact ⟨F,hF,fun i _ q=>q.elim (fun x=>x) (fun x=>x)⟩,fun d hd=>absurd hd (by simp [oth0])⟩
instance:Inhabited Term:=⟨Term.z⟩
instance:Inhabited PTerm:=⟨PTerm.z⟩
theorem bulk_get {H:Type} {xs:List (DataW H × List MemPlace)} {i:Nat} {z:DataW H × List MemPlace} (h:xs[i]? = some z):Rows.uptoBulk z.1 ≤ Rows.uptoBulkAll (xs.map (·.1)) :=
 bulk_part (List.mem_map.2 ⟨z,List.mem_of_getElem? h,rfl⟩)
theorem bigA_of {w:World} {μ α:Type} {R:μ→α→OA} : ∀ {ms:List μ} {l:List α},ms.length=l.length→(∀ (i:Nat) m x,ms[i]? = some m→l[i]? = some x → ∃ F,(R m x).holds w F) → ∃ F,(bigA R ms l).holds w F
 | [],[],_,_=>⟨fun _=>False,trivial,fun _ x=>x⟩
 | m :: ms,x :: xs,hl,h=>by
  obtain ⟨F,hF⟩ := h 0 m x rfl rfl
  obtain ⟨G,hG⟩ := bigA_of (ms:=ms) (l:=xs) (by simpa using hl) fun i m x h1 h2=>h (i + 1) m x (by simpa using h1) (by simpa using h2)
  exact ⟨fun i=>F i∨G i,F,G,hF,hG,fun _=>Iff.rfl⟩
 | [],_ :: _,hl,_=>by simp at hl
 | _ :: _,[],hl,_=>by simp at hl
theorem nmL_of : ∀ {l:List PTerm},(∀ x ∈ l,nmT x)→nmL l
 | [],_=>trivial
 | x :: l,h=>⟨h x jL,nmL_of fun y hy=>h y (by simp [hy])⟩
theorem sizeL_bulk {H:Type} : ∀ {l:List PTerm} {ds:List (DataW H)},l.length=ds.length→(∀ (i:Nat) x d,l[i]? = some x→ds[i]? = some d→sizeT x ≤ Rows.uptoBulk d)→sizeL l ≤ Rows.uptoBulkAll ds
 | [],[],_,_=>by simp [sizeL]
 | x :: l,d :: ds,hl,h=>by
  have h1:=h 0 x d rfl rfl
  have h2:=sizeL_bulk (l:=l) (ds:=ds) (by simpa using hl) fun i x d h3 h4=>h (i + 1) x d (by simpa using h3) (by simpa using h4)
  simp only [sizeL,Rows.uptoBulkAll]; omega
 | [],_ :: _,hl,_=>by simp at hl
 | _ :: _,[],hl,_=>by simp at hl
theorem term_trod {H:Type} {enc:TypeId × Value→H} {W:World} (fuel:Nat) : ∀ {cs:List Value} {x:DataW H × List MemPlace},DataW.trod enc PP W 0 (fun _=>true) true fuel zb cs=some x→Rows.uptoBulk x.1 ≤ 1048576 →
  ∃ (m:Term) (y:PTerm),cs=Term.C m∧(m.kind=y.kind∧m.name=y.name∧m.other=y.other∧m.form=y.form)∧(nmT y∧sizeT y ≤ Rows.uptoBulk x.1) ∧ ∃ F,(yl m.sub y.sub).holds W F:=by
 induction fuel using Nat.strongRecOn with
 | _ fuel ih =>
 intro cs x hx hb
 obtain ⟨k,hk⟩ := fld_int fv_Term_kind un_api_TermKind jM hx
 obtain ⟨n,hn,hns⟩ := fld_str fv_Term_name jG jM hx
 obtain ⟨o,ho,hos⟩ := fld_str fv_Term_other jG jM hx
 obtain ⟨f,hf⟩ := fld_int fv_Term_form un_int jM hx
 obtain ⟨fs,fd,hu,hi,hoff,hty⟩ := fv_Term_sub
 obtain ⟨xs,n1,hfu,hxx,hl,hlen,hall⟩ := DataW.trod_struct hu hx
 have hl:cs.length=5:=hl.trans jM
 have h1:=hall 4 fd hi
 have h2:4 < xs.length:=by rw [hlen]; exact (Array.getElem?_eq_some_iff.1 hi).1
 rw [hoff,hty,show PP.cellsOf T_L_api_Term=1 from by kernel_rfl,List.getElem?_eq_getElem h2] at h1
 have hbx:1 + Rows.uptoBulk (xs[4]).1 ≤ Rows.uptoBulk x.1:=by
  have:=bulk_get (List.getElem?_eq_getElem h2)
  rw [hxx]
  simp only [Rows.uptoBulk]
  omega
 have hbz:Rows.uptoBulk (xs[4]).1 ≤ 1048576:=by omega
 have hmax:maxLen=9223372036854775807:=rfl
 have hcs : ∀ v4,cs[4]? = some v4→cs=[.int .i64 k,.string n,.string o,.int .i64 f,v4]:=by
  intro v4 h4
  match cs,hl with
  | [c0,c1,c2,c3,c4],_ =>
   simp at hk hn ho hf h4
   subst hk hn ho hf h4
   rfl
 rcases DataW.trod_slice zz.1 h1 with ⟨e1,e2⟩ | ⟨a,len,cap,elems,rest,n2,hfu2,e1,e2,_,hlc,hcm,hel,hget,_⟩
 ·have h4:=hcs _ (take_one e1)
  refine ⟨⟨k,n,o,f,SlV.nil⟩,.mk k n o f [],?_,⟨rfl,rfl,rfl,rfl⟩,⟨⟨by show n.size < _; omega,by show o.size < _; omega,trivial⟩,by rw [sizeT_eq]; simp only [PTerm.sub,sizeL]; omega⟩,fun _=>False,(0,[]),fun _=>False,fun _=>False,⟨⟨Sl.nil W 5,by simp⟩,fun i=>⟨fun x=>x.elim,fun x=>absurd rfl x.1⟩⟩,⟨trivial,fun _ x=>x⟩,fun _=>⟨fun x=>x.elim,fun x=>x.elim id id⟩⟩
  rw [h4,SlV.nil_eq]; rfl
 ·have h4:=hcs _ (take_one e1)
  have hbe:Rows.uptoBulkAll (elems.map (·.1)) ≤ 1048576:=by
   rw [e2] at hbz
   simp only [Rows.uptoBulk] at hbz
   omega
  have hlen2:len ≤ 1048576:=by
   have:=bulk_len (elems.map (·.1))
   rw [List.length_map,hel] at this
   omega
  have hone : ∀ i,i < len → ∃ q:Term × PTerm,(W.cells? 0 (a.add (i * PP.cellsOf zb)) (PP.cellsOf zb)=some (Term.C q.1))∧(q.1.kind=q.2.kind∧q.1.name=q.2.name∧q.1.other=q.2.other∧q.1.form=q.2.form)∧(nmT q.2 ∧ ∀ z,elems[i]? = some z→sizeT q.2 ≤ Rows.uptoBulk z.1) ∧ ∃ F,(yl q.1.sub q.2.sub).holds W F:=by
   intro i hi'
   have h5:=hget i hi'
   have h6:i < elems.length:=by omega
   rw [List.getElem?_eq_getElem h6] at h5
   cases hc:W.cells? 0 (a.add (i * PP.cellsOf zb)) (PP.cellsOf zb) with
   | none=>rw [hc] at h5; simp at h5
   | some cs' =>
    rw [hc] at h5
    simp only [Option.bind_some] at h5
    obtain ⟨m,y,rfl,hm,hy,hF⟩ := ih n2 jK h5 (by have:=bulk_get (List.getElem?_eq_getElem h6); omega)
    exact ⟨(m,y),rfl,hm,⟨hy.1,fun z hz=>by cases (List.getElem?_eq_getElem h6).symm.trans hz; exact hy.2⟩,hF⟩
  obtain ⟨g,hg⟩ := Deep.choose_lt (α:=Term × PTerm) hone
  have hsz:PP.cellsOf zb=5:=by kernel_rfl
  refine ⟨⟨k,n,o,f,⟨some a,len,cap⟩⟩,.mk k n o f ((List.range len).map fun i=>(g i).2),?_,⟨rfl,rfl,rfl,rfl⟩,⟨⟨by show n.size < _; omega,by show o.size < _; omega,nmL_of fun y hy=>?_⟩,?_⟩,?_⟩
  ·rw [h4]; show _=[_,_,_,_,SlV.v _]; rw [SlV.eq]
  ·obtain ⟨i,hi',rfl⟩ := List.mem_map.1 hy
   exact (hg i (List.mem_range.1 hi')).2.2.1.1
  ·have hs:sizeL ((List.range len).map fun i=>(g i).2) ≤ Rows.uptoBulkAll (elems.map (·.1)):=by
    refine sizeL_bulk (by simp [hel]) fun i y d h1 h2=>?_
    have hi':i < len:=by
     refine Nat.lt_of_not_le fun q=>?_
     rw [List.getElem?_eq_none (by simpa using q)] at h1; cases h1
    rw [List.getElem?_map] at h1 h2
    rw [List.getElem?_range hi'] at h1
    simp only [Option.map_some,Option.some.injEq] at h1
    subst h1
    cases hz:elems[i]? with
    | none=>rw [hz] at h2; cases h2
    | some z=>rw [hz] at h2; cases h2; exact (hg i hi').2.2.1.2 z hz
   rw [sizeT_eq]
   have:Rows.uptoBulkAll (elems.map (·.1)) ≤ Rows.uptoBulk (xs[4]).1:=by
    rw [e2]; simp only [Rows.uptoBulk]; omega
   simp only [PTerm.sub]; omega
  ·have hsl:Sl W 5 ⟨some a,len,cap⟩ (((List.range len).map fun i=>(g i).1).map Term.C):=by
    refine ⟨by simp,?_,?_⟩
    ·intro r hr
     obtain ⟨y,_,rfl⟩ := List.mem_map.1 hr
     exact Term.len y
    ·intro i r hr
     rw [List.getElem?_map,List.getElem?_map] at hr
     have hi':i < len:=by
      refine Nat.lt_of_not_le fun q=>?_
      rw [List.getElem?_eq_none (by simpa using q)] at hr; cases hr
     rw [List.getElem?_eq_getElem (by simpa using hi')] at hr
     simp only [List.getElem_range,Option.map_some,Option.some.injEq] at hr
     subst hr
     obtain ⟨_,_,hc0⟩ := World.cells?_some (hg 0 jK).1
     obtain ⟨ab,ao,asp⟩ := a
     have hsp:asp=none:=by
      have h7:=hc0 0 (by rw [hsz]; decide)
      simp only [Nat.zero_mul,Addr.add,if_true] at h7
      cases asp with
      | none=>rfl
      | some q =>
       unfold World.cell? at h7
       simp only [Option.isSome_some,if_true] at h7
       split at h7
       ·exact absurd h7.symm (by simp [Term.C])
       ·exact absurd h7.symm (by simp [Term.C])
     subst hsp
     obtain ⟨_,_,hc⟩ := World.cells?_some (hg i hi').1
     refine ⟨rfl,fun j v hv=>?_⟩
     have hj:j < 5:=by have:=(List.getElem?_eq_some_iff.1 hv).1; rw [Term.len] at this; exact this
     have h8:=hc j (by rw [hsz]; exact hj)
     rw [hv] at h8
     have hadd:((⟨ab,ao,none⟩ : Addr).add (i * PP.cellsOf zb)).add j=⟨ab,ao + i * 5 + j,none⟩ := by
      rw [hsz]
      unfold Addr.add
      by_cases h5:i * 5=0
      ·by_cases h6:j=0
       ·simp [h5,h6]
       ·simp [h5,h6]
      ·by_cases h6:j=0
       ·simp [h5,h6]
       ·simp [h5,h6]
     rw [hadd] at h8
     exact h8
   have hbig : ∃ F,(bigA zK ((List.range len).map fun i=>(g i).1) ((List.range len).map fun i=>(g i).2)).holds W F:=by
    refine bigA_of jL fun i m x h1 h2=>?_
    rw [List.getElem?_map] at h1 h2
    have hi':i < len:=by
     refine Nat.lt_of_not_le fun q=>?_
     rw [List.getElem?_eq_none (by simpa using q)] at h1; cases h1
    rw [List.getElem?_range hi'] at h1 h2
    simp only [Option.map_some,Option.some.injEq] at h1 h2
    subst h1 h2
    obtain ⟨_,he,_,F,hF⟩ := hg i hi'
    have:=fTerm_mk (s:=(g i).1.sub) hF
    rw [show mT (g i).2 (g i).1.sub=(g i).1 from by rw [mT,← he.1,← he.2.1,← he.2.2.1,← he.2.2.2]] at this
    exact ⟨F,this⟩
   obtain ⟨F,hF⟩ := hbig
   exact ⟨_,fTerms_mk (F:=fun i=>((List.range len).map fun i=>(g i).1) ≠ []∧i=_) ⟨⟨hsl,by simp; omega⟩,fun _=>Iff.rfl⟩ hF⟩
theorem term_of {H:Type} {enc:TypeId × Value→H} {W:World} {v:Value} {d:DataW H} {ds:List (DataW H)} {ps:List MemPlace} {base:Nat} (hval:Value.okWide PP W .any base zb v) (h:DataW.Trod enc PP W 0 (fun _=>true) true zb v d ps) (hk:Rows.uptoSmall H ds=true) (hd:d ∈ ds) :
  ∃ (y:PTerm) (s:SlV),v = .agg (Term.C (⟨y.kind,y.name,y.other,y.form,s⟩ : Term)).toArray∧(nmT y∧sizeT y ≤ 1048576) ∧ ∃ F,(za s y.sub).holds W F:=by
 obtain ⟨fuel,hf⟩ := h
 have hb:Rows.uptoBulk d ≤ 1048576:=by
  have h1:=bulk_part hd
  have h3:Rows.uptoBulkAll ds ≤ 1048576:=by simpa [Rows.uptoSmall] using hk
  omega
 obtain ⟨m,y,hc,he,hn,hF⟩ := term_trod fuel hf hb
 have hu : ∃ fs,PP.underlying zb=some (.struct fs):=by
  obtain ⟨fs,fd,hu,_⟩ := fv_Term_sub; exact ⟨fs,hu⟩
 obtain ⟨fs,hu⟩ := hu
 unfold Value.okWide at hval
 rw [hu] at hval
 obtain ⟨cs,rfl,_⟩ := hval
 refine ⟨y,m.sub,?_,⟨hn.1,Nat.le_trans hn.2 hb⟩,hF⟩
 have hm:m=(⟨y.kind,y.name,y.other,y.form,m.sub⟩ : Term):=by rw [← he.1,← he.2.1,← he.2.2.1,← he.2.2.2]
 rw [← hm]
 have hc':cs.toList=Term.C m:=hc
 rw [← hc']
theorem Held.f {W:World} {Z:List OA} {s:SlV} {l:List PTerm} (h : ∃ F,(za s l).holds W F) (hz:Held W Z):Held W (za s l :: Z) := .cons h hz
end
section
open Gw Go.ChangeShapes Go.WideShapes Go.ChangeAt Go.RowKit
set_option maxRecDepth 100000
def tz64:List Int:=Lib.deBruijn64tab.map fun (z:Nat)=>(z:Int)
def tz32:List Int:=Lib.deBruijn32tab.map fun (z:Nat)=>(z:Int)
theorem laidMet_tail {P:Program} {w:World} {x:String × DataW Unit} {l:List (String × DataW Unit)} (h:laidMet P (x :: l) w):laidMet P l w:=by
 obtain ⟨ps,⟨g,t,cs,fuel,p,q,_,_,_,_,hv,rfl⟩,hn,hr⟩ := h
 exact ⟨q,hv,(List.nodup_append.1 hn).2.1,fun b off hp=>hr b off (List.mem_append_right _ hp)⟩
theorem post_old {H:Type} {enc:TypeId × Value→H} {P:Program} {f:Func} {s:ChangeSpec} {apart fresh handsOn again:Bool} {W W':World} {args:Array Value} {v:Value} {ds gs:List (DataW H)} {before pa pv:List MemPlace}
  (hW:DataW.Whole enc P f.params.toList s.vars apart W args.toList ds gs before)
  (hres : ∀ (b:Nat) (sp:Nat→Bool) (hd:Bool),DataW.TrodAll enc P W' b sp hd f.resultTypes.toList (v.resultList f.resultTypes.size) (s.fn H (ds ++ gs)).results [])
  (hargs : ∀ sp:Nat→Bool,(∀ p ∈ before,sp p.block=true)→DataW.TrodAll enc P W' 0 sp true f.params.toList args.toList (s.fn H (ds ++ gs)).args pa)
  (hvars : ∀ sp:Nat→Bool,(∀ p ∈ before,sp p.block=true)→DataW.TrodVars enc P W' sp s.vars (s.fn H (ds ++ gs)).vars pv)
  (hps:before=pa ++ pv) (hk:W.keptBut W' (· ∈ before)) (hfz : ∀ a,a.block < W.heap.size→W'.frozen? a=W.frozen? a)
  (hok : ∀ (j:Nat) (t:TypeId) (r:Value),f.resultTypes[j]? = some t→(v.resultList f.resultTypes.size)[j]? = some r→Value.okWide P W' .any 0 t r) :
  s.post enc P f apart fresh handsOn again W args v W':=by
 have hlt : ∀ p ∈ before,p.block < W.heap.size:=fun p hp=>hW.lt p hp
 have h0 : ∀ p ∈ before,(fun b=>decide (b < W.heap.size)) p.block=true:=fun p hp=>decide_eq_true (hlt p hp)
 have hin : ∀ p ∈ before,p ∈ pa∨p ∈ pv:=fun p hp=>List.mem_append.1 (hps ▸ hp)
 have hin' : ∀ p,p ∈ ([] ++ pa) ++ pv→p ∈ before:=fun p hp=>by rw [hps]; simpa using hp
 refine ⟨ds,gs,before,[],pa,pv,hW,hres _ _ _,hargs _ h0,hvars _ h0,World.keptBut_mono (fun p hp=>⟨hp,.inr (hin p hp)⟩) hk,fun _=>?_⟩
 obtain ⟨_,_,_,_,_,hz,hn⟩ := hW
 refine ⟨hok,_,_,([] ++ pa) ++ pv,⟨[] ++ pa,pv,trodAll_append (hargs _ fun _ _=>rfl) (hres _ _ _),hvars _ (fun _ _=>rfl),rfl,fun b off hp=>?_,fun ha=>?_⟩,fun p hp _=>hin' p hp⟩
 ·have hb:=hin' _ hp
  rw [hfz _ (hlt _ hb)]; exact hz b off hb
 ·have:=hn ha
  rw [hps] at this
  simpa using this
theorem pw_core {W:World} {rest:List (String × DataW Unit)} (h:laidMet PP (("internal/strconv.uint64pow10",Rows.laid_internal_strconv_uint64pow10) :: rest) W):Pw W :=
 Lib.tabIs_of_head (rest:=rest) gPw (t:=T_20_uint64) (e:=T_uint64) (n:=20) jM ar_20_uint64.1 jM jM jM h
theorem laid_three {W:World} (h:laidMetH PP [("math/bits.deBruijn32tab",Rows.laid_math_bits_deBruijn32tab),("math/bits.deBruijn64tab",Rows.laid_math_bits_deBruijn64tab),("internal/strconv.uint64pow10",Rows.laid_internal_strconv_uint64pow10)] W):Pw W:=by
 have h':laidMet PP [("math/bits.deBruijn32tab",Rows.laid_math_bits_deBruijn32tab),("math/bits.deBruijn64tab",Rows.laid_math_bits_deBruijn64tab),("internal/strconv.uint64pow10",Rows.laid_internal_strconv_uint64pow10)] W:=h
 exact pw_core (laidMet_tail (laidMet_tail h'))
theorem Held.pw {W:World} {Z:List OA} (h:Pw W) (hz:Held W Z):Held W (oPw :: Z) := .cons ⟨fun i=>i=0,⟨h,fun _=>Iff.rfl⟩⟩ hz
theorem ints_of {H:Type} {enc:TypeId × Value→H} {W:World} {base:Nat} {v:Value} {d:DataW H} {ps:List MemPlace} (hval:Value.okWide PP W .any base zW v) (h:DataW.Trod enc PP W 0 (fun _=>true) true zW v d ps) :
  ∃ (l:List Int) (s:SlV),v=s.v∧Rd W 1 s (l.map IC)∧(∀ a ∈ l,True)∧(l=[] ∨ ∃ elems spare,d = .slice elems spare∧elems.length=l.length):=by
 refine slice_of xM.1 jM (fun _=>rfl) jJ (fun n cs x hx=>?_) hval h
 obtain ⟨n,rfl,_⟩ := DataW.trod_int un_int hx
 exact ⟨n,rfl,trivial⟩
instance:Inhabited ByteArray:=⟨ByteArray.empty⟩
end
section
open Gw Go.ChangeShapes Go.WideShapes Go.ChangeAt Go.RowKit
set_option maxRecDepth 100000
namespace LawReduceNobody
theorem contract (H:Type) (enc:TypeId × Value→H) (W:World) (base:Nat) (args:Array Value) (ds gs:List (DataW H)) (before:List MemPlace)
  (hval : ∀ (j:Nat) t v,xo.params[j]? = some t→args[j]? = some v→Value.okWide PP W .any base t v)
  (hW:DataW.Whole enc PP xo.params.toList Rows.reduceNobodySpec.vars false W args.toList ds gs before) (hL:laidMetH PP Rows.reduceNobodyUptoRow.laid W) (hsm:Rows.uptoSmall H (ds ++ gs)=true) :
  Calls PP xJ args W fun e W' => ∃ v,e = .returned v∧Rows.reduceNobodySpec.post enc PP xo false true false false W args v W':=by
 have hW':=hW
 have hlt:=hW.lt
 obtain ⟨p,q,hA0,hV,rfl,hfz,hnd⟩ := hW
 have hA:DataW.TrodAll enc PP W 0 (fun _=>true) true xo.params.toList args.toList ds p:=hA0
 have hpar:xo.params = #[zb,zW,z7]:=by kernel_rfl
 rw [hpar] at hA hval
 obtain ⟨v0,v1,v2,d0,d1,d2,p0,p1,p2,rfl,rfl,rfl,h0,h1,h2⟩ := trodAll_three hA
 obtain ⟨rfl,rfl⟩ := trodVars_none hV
 obtain ⟨a0,s0,rfl,⟨hnm0,hbg0⟩,hf0⟩ := term_of (hval 0 _ _ rfl rfl) h0 hsm jL
 obtain ⟨a1,s1,rfl,hrd1,hnm1,hsl1⟩ := ints_of (hval 1 _ _ rfl rfl) h1
 have hln1:=small_len hsm jL hsl1
 obtain ⟨a2,rfl,hr2⟩ := int_of (k := .i64) un_int (hval 2 _ _ rfl rfl)
 have S:=stheld (W:=W) (.f hf0 (.s hrd1 jK (.pw (laid_three hL) .nil)))
 refine (law14_ReduceNobody_st S (ReduceNobody_true heads14 same14 a0 a1 a2)).mono fun e W' ⟨v,he,hv,hS⟩ => ?_
 subst hv
 have hx:=hS.frame
 refine ⟨_,he,post_old (pa:=p0 ++ p1 ++ p2) (pv:=[]) hW' (fun _ _ _=>trodAll_cons_mk (shut_bool un_bool _) trodAll_mk0) (fun sp hsp=>?_) (fun _ _=>rfl) jL ((Ext.below hx).frame _) hx.froz (ok_one jM rfl (okWide_bool_mk un_bool _))⟩
 rw [hpar]
 refine trodAll_stays (ts:=[zb,zW,z7]) (fun t ht=>?_) hA (fun p hp=>(Ext.below hx).same (hlt p (by simpa using hp))) (fun p hp=>hsp p (by simpa using hp))
 simp only [List.mem_cons,List.not_mem_nil,or_false] at ht
 rcases ht with rfl | rfl | rfl <;> exact ⟨by kernel_rfl,of_decide_eq_true jM⟩
noncomputable def laidWorld1 (os:Os):World :=
 { World.holding PP os ⟨#[],#[],[]⟩ with heap:=(World.holding PP os ⟨#[],#[],[]⟩).heap.modify 2 fun
   | .cells _ t frozen => .cells (tz64.map (Value.int .u8)).toArray t frozen
   | o=>o }
noncomputable def laidWorld2 (os:Os):World :=
 { laidWorld1 os with heap:=(laidWorld1 os).heap.modify 1 fun
   | .cells _ t frozen => .cells (tz32.map (Value.int .u8)).toArray t frozen
   | o=>o }
noncomputable def laidWorld (os:Os):World :=
 { laidWorld2 os with heap:=(laidWorld2 os).heap.modify 0 fun
   | .cells _ t frozen => .cells (Lib.pow10Tab.map (Value.int .u64)).toArray t frozen
   | o=>o }
def argsN:Array Value := #[.agg #[.int .i64 0,.string ByteArray.empty,.string ByteArray.empty,.int .i64 0,.slice none 0 0],.slice none 0 0,.int .i64 0]
theorem laid_met (os:Os):laidMet PP Rows.reduceNobodyUptoRow.laid ((laidWorld os).forCall (fun _ _=>0) ⟨#[],argsN,[]⟩).memory :=
 laidMet_of_run' 8 jM jM
def ddN (H:Type):List (DataW H):=[.agg [.lit (.int .i64 0),.lit (.string []),.lit (.string []),.lit (.int .i64 0),.nil],.nil,.lit (.int .i64 0)]
theorem reads (os:Os) {H:Type} (enc:TypeId × Value→H) : ∃ places,DataW.whole enc PP ((laidWorld os).forCall (fun _ _=>0) ⟨#[],argsN,[]⟩).memory xo.params.toList Rows.reduceNobodySpec.vars false argsN.toList 8=some (ddN H,[],places) :=
 ⟨[],by kernel_rfl⟩
theorem lifted (os:Os) (started:os.Started) (H:Type) (enc:TypeId × Value→H) (F:Stop.Interp) :
  ReturnsInHanded {} Tryd.checked os xJ .any ((Rows.OpenSpec.upto Rows.reduceNobodySpec).preRow enc PP xo Rows.reduceNobodyUptoRow.domain false Rows.reduceNobodyUptoRow.laid) (((Rows.OpenSpec.upto Rows.reduceNobodySpec).at F).post enc PP xo false true false false):=by
 obtain ⟨places,hx⟩ := reads os enc
 refine returnsInHanded_of_row (C:=Tryd.checked) (s:=Rows.OpenSpec.upto Rows.reduceNobodySpec) ownKnob_none started jM yN
  (witness_row_at (enc:=enc) (C:=Tryd.checked) false (laidWorld os) argsN rfl jM jM jM
   (OpenSpec.preRow_of_cond 8 hx jM (fun k hk=>by cases hk; kernel_rfl) jM (laid_met os))) ?_
 intro W base args ds gs before hval hW _ hcond _ hL _ _
 exact contract H enc W base args ds gs before hval hW hL (hcond _ rfl)
theorem said:Rows.ReduceNobodyUptoSaid :=
 OpenClaim.holds_of_cond xJ xo rfl rfl rfl rfl rfl rfl rfl ⟨rfl,rfl,rfl,rfl,rfl⟩ rfl rfl rfl rfl rfl jM yN jM
  (of_decide_eq_true jM) (by unfold Func.isWrapper; first | (rw [if_pos (by decide +kernel)]; kernel_rfl) | (rw [if_neg (by decide +kernel)]; exact ⟨rfl,rfl⟩))
  (fun os started H enc _ F=>by rw [OpenClaim.pre_eq_preRow]; exact lifted os started H enc F)
theorem plain (f:FuncId) (fn:Func) (hf:Tryd.pinned.checked.prog.funcNamed "dictum/dictumlaw14.ReduceNobody" = some f) (hfn:Tryd.pinned.checked.prog.funcs[f]? = some fn) :
  false=Tryd.pinned.checked.prog.looks [] ∧ ∀ (j:Nat) t,fn.params[j]? = some t→Tryd.pinned.checked.prog.wantsStandIn t=false:=by
 obtain rfl:f=xJ:=jN ((show PP.funcNamed "dictum/dictumlaw14.ReduceNobody" = some xJ by kernel_rfl).symm.trans hf) |>.symm
 obtain rfl:fn=xo:=(jN (yN.symm.trans hfn)).symm
 refine ⟨by kernel_rfl,fun j t ht=>?_⟩
 rw [show xo.params = #[zb,zW,z7] by kernel_rfl] at ht
 have hm:t ∈ [zb,zW,z7]:=by simpa using Array.mem_of_getElem? ht
 simp only [List.mem_cons,List.not_mem_nil,or_false] at hm
 rcases hm with rfl | rfl | rfl
 ·exact (show PP.wantsStandIn zb=false by kernel_rfl)
 ·exact (show PP.wantsStandIn zW=false by kernel_rfl)
 ·exact (show PP.wantsStandIn z7=false by kernel_rfl)
theorem card:Rows.ReduceNobodyUptoCardSaid :=
 Claim7.holds_tied_plain_at .later [] _ _ _ _ said (fun _ h=>by cases h) jM (fun _ h=>by cases h) reduceNobodyUpto_row_tie rfl ⟨rfl,rfl⟩ jM rfl plain jM
end LawReduceNobody
end
end Go.Proofs.YtmggdbbmmkkplaaDoor
