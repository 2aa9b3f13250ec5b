/- Texts put together. -/
import Derived.Test.YtflieamjacclnaaGreatDoorMHY2
import Derived.Shelf.Strconv.Itoa0
import Derived.Shelf.Strconv.Itoa1
import Derived.Shelf.LaysM
import Derived.Shelf.Strconv.Itoa2
import Derived.Shelf.Strconv.Itoa3
import Derived.Test.YtflieamjacclnaaGreatDoorProg
set_option linter.unusedVariables false
set_option linter.unusedSimpArgs false
namespace Go.Proofs.YtflieamjacclnaaGreatDoor
section
open Gw Go.RowKit
structure PMaker where
 t:Tb
 l:List Ln
 bad:Int
structure PPattern where
 t:Tb
 seen:List (Int × Int)
structure PRMaker where
 t:Tb
 l:List Ln
 bad:Int
abbrev oMB (m:Nat) (l:List (Int × Int)):OA:=oM m (Value.int .u8) (Value.int .i64) l
abbrev oMI (m:Nat) (l:List (Int × Int)):OA:=oM m (Value.int .i64) (Value.int .i64) l
def oK (a ta:Option Addr) (x:PMaker):OA:=OA.ex fun (q:Nat × SlV)=>(OA.pure (a=some ⟨q.1,0,none⟩)).star ((oB q.1 xE (Maker.C ⟨ta,q.2,x.bad⟩)).star ((oT ta x.t).star (oS T_Ln 4 Ln.C q.2 x.l)))
def oPa (a ta:Option Addr) (x:PPattern):OA:=OA.ex fun (q:Nat × Nat)=>(OA.pure (a=some ⟨q.1,0,none⟩)).star ((oB q.1 zan (Pattern.C ⟨ta,some q.2⟩)).star ((oT ta x.t).star (oMB q.2 x.seen)))
section
variable {A:Nat→Prop} {N:Oth} {w0 w w':World} {L Z:List OA}
theorem Gw.St.open_oK (h:St A N w0 w L Z) (k:Nat) {a ta:Option Addr} {x:PMaker} {L':List OA} (e:L[k]? = some (oK a ta x):=by rfl) (e':L.eraseIdx k=L':=by rfl) :
  ∃ p ss,a=some ⟨p,0,none⟩ ∧ St A N w0 w (oB p xE (Maker.C ⟨ta,ss,x.bad⟩) :: oT ta x.t :: oS T_Ln 4 Ln.C ss x.l :: L') Z:=by
 subst e'
 obtain ⟨⟨p,ss⟩,h1⟩ := h.unex k e
 have h2:=h1.unstar 0
 have hp:=h2.getp 0
 have h3:=h2.drop 0
 have h4:=h3.unstar 0
 have h5:=h4.unstar 1
 exact ⟨p,ss,hp,(h5.front 2).front 1 |>.front 1⟩
theorem Gw.St.shut_oK {p:Nat} {ta a:Option Addr} {ss:SlV} {bad:Int} {t:Tb} {l:List Ln} (h:St A N w0 w (oB p xE (Maker.C ⟨ta,ss,bad⟩) :: oT ta t :: oS T_Ln 4 Ln.C ss l :: L) Z) (ha:a=some ⟨p,0,none⟩):St A N w0 w (oK a ta ⟨t,l,bad⟩ :: L) Z:=by
 have h1:St A N w0 w (oT ta t :: oS T_Ln 4 Ln.C ss l :: oB p xE (Maker.C ⟨ta,ss,bad⟩) :: L) Z:=(h.front 2).front 2
 have h2:St A N w0 w (oB p xE (Maker.C ⟨ta,ss,bad⟩) :: (oT ta t).star (oS T_Ln 4 Ln.C ss l) :: L) Z:=h1.star.front 1
 exact St.toex (f:=fun (q:Nat × SlV)=>(OA.pure (a=some ⟨q.1,0,none⟩)).star ((oB q.1 xE (Maker.C ⟨ta,q.2,bad⟩)).star ((oT ta t).star (oS T_Ln 4 Ln.C q.2 l)))) (p,ss) ((h2.star.putp ha).star)
theorem Gw.St.open_oPa (h:St A N w0 w L Z) (k:Nat) {a ta:Option Addr} {x:PPattern} {L':List OA} (e:L[k]? = some (oPa a ta x):=by rfl) (e':L.eraseIdx k=L':=by rfl) :
  ∃ p m,a=some ⟨p,0,none⟩ ∧ St A N w0 w (oB p zan (Pattern.C ⟨ta,some m⟩) :: oT ta x.t :: oMB m x.seen :: L') Z:=by
 subst e'
 obtain ⟨⟨p,m⟩,h1⟩ := h.unex k e
 have h2:=h1.unstar 0
 have hp:=h2.getp 0
 have h3:=h2.drop 0
 have h4:=h3.unstar 0
 have h5:=h4.unstar 1
 exact ⟨p,m,hp,(h5.front 2).front 1 |>.front 1⟩
theorem Gw.St.shut_oPa {p m:Nat} {ta a:Option Addr} {t:Tb} {l:List (Int × Int)} (h:St A N w0 w (oB p zan (Pattern.C ⟨ta,some m⟩) :: oT ta t :: oMB m l :: L) Z) (ha:a=some ⟨p,0,none⟩):St A N w0 w (oPa a ta ⟨t,l⟩ :: L) Z:=by
 have h1:St A N w0 w (oT ta t :: oMB m l :: oB p zan (Pattern.C ⟨ta,some m⟩) :: L) Z:=(h.front 2).front 2
 have h2:St A N w0 w (oB p zan (Pattern.C ⟨ta,some m⟩) :: (oT ta t).star (oMB m l) :: L) Z:=h1.star.front 1
 exact St.toex (f:=fun (q:Nat × Nat)=>(OA.pure (a=some ⟨q.1,0,none⟩)).star ((oB q.1 zan (Pattern.C ⟨ta,some q.2⟩)).star ((oT ta t).star (oMB q.2 l)))) (p,m) ((h2.star.putp ha).star)
end
section
variable {P:Program} {f:Fr} {w:World} {d:Option Tmp} {ty:TypeId} {pos:String} {af:Array Edge} {gd:Option (Nat × Bool)} {m:Nat} {α β:Type} {C:α→Value} {D:β→Value} {l:List (α × β)}
theorem does_lookup1 [DecidableEq α] {t kt et:Nat} {x y:Operand} {key:α} {zv:β} (ht:P.underlying t=some (.map kt et)) (K:KeyT P kt C) (hz:(P.info? et).bind (·.zero)=some (D zv)) (hx:evF f x = .map (some m)) (hy:evF f y=C key) (hm:MapB w m C D l) :
  Does P ⟨d,.lookup t x y false,ty,pos,af,gd⟩ f w (D ((Gw.look key l).getD zv)) w:=by
 obtain ⟨es,c,hb,he⟩ := hm
 have hz':(zeroValue et).run P w = .ok (D zv) w:=by
  cases hq:P.info? et with
  | none=>simp [hq] at hz
  | some i=>simp [hq] at hz; simp [zeroValue,typeInfo,hq,hz]
 simp only [Does,execOp,hx,hy,Instr.lookup,Sem.run_bind,run_underlying ht,Result.andThen_ok,MapKept.run_getObj_map hb,Sem.run_pure,K.check,run_findKey K key es.toList l he]
 cases hs:spot key l with
 | none=>simp [zbs,hs,hz']
 | some i =>
  obtain ⟨v,hv⟩ := spot_key key l i hs
  simp [zbs,hs,hv]
def sfrom (s:ByteArray) (i:Int):ByteArray:=s.extract i.toNat s.size
theorem does_sliceStr {t:Nat} {x y:Operand} {kd:IntKind} {s:ByteArray} {i:Int} (ht:P.underlying t=some .string) (hx:evF f x = .string s) (hy:evF f y = .int kd i) (h0:0 ≤ i) (h1:i ≤ s.size):Does P ⟨d,.slice t x (some y) none none,ty,pos,af,gd⟩ f w (.string (sfrom s i)) w:=by
 have h2:(w:World)→(Instr.slice t (.string s) (some (.int kd i)) none none).run P w = .ok (.string (sfrom s i)) w:=fun w=>run_slice_string_l (w:=w) (t:=t) (s:=s) (ht:=ht) kd i h0 h1
 unfold Does execOp
 simp only [hx,Sem.run_bind,run_sliceAt_string (P:=P) w t _ _ _ _ ht,Option.map_some,Option.map_none,hy,h2,Result.andThen_ok,Sem.run_pure]
end
end
section
open Gw Go.RowKit
abbrev T_A10:TypeId:=163
def schL:List ByteArray:=[⟨#[]⟩,⟨#[62,65,62,66,65]⟩,⟨#[62,62,65,62,66,67,62,62,65,66,62,65,67]⟩,⟨#[62,38,65,66,65]⟩,⟨#[62,38,65,66,66]⟩,⟨#[62,65,62,66,38,65,66]⟩,⟨#[62,65,124,65,66]⟩,⟨#[62,66,124,65,66]⟩,⟨#[62,62,65,67,62,62,66,67,62,124,65,66,67]⟩,⟨#[62,48,65]⟩]
theorem ag_A10:AggT PP T_A10 10:=⟨⟨_,Tryz.underlying163,rfl⟩,by kernel_rfl⟩
theorem ar_A10:ArrT PP T_A10 10 T_string 1:=⟨Tryz.underlying163,by kernel_rfl⟩
theorem ze_A10:ZeroT PP T_A10 (List.replicate 10 (.string ByteArray.empty)):=⟨.agg (List.replicate 10 (.string ByteArray.empty)).toArray,by kernel_rfl,by simp [Value.cells]⟩
theorem Gw.St.addO' {A:Nat→Prop} {N:Oth} {w0 w w':World} {L Z:List OA} (h:St A N w0 w L Z) (hc:Ext w w') {e k:Nat} {α:Type} {C:α→List Value} {s:SlV} {l:List α} (ho:Own w' 0 e k s (l.map C)) (hl:l.length ≤ 140737488355328) (hf : ∀ i,s.fp i→w.heap.size ≤ i):St A N w0 w' (oS e k C s l :: L) Z :=
 h.add (b:=oS e k C s l) (G:=s.fp) hc ⟨⟨ho,hl⟩,fun _=>Iff.rfl⟩ hf
theorem does_builds {P:Program} {f:Fr} {w:World} {d:Option Tmp} {ty:TypeId} {pos:String} {af:Array Edge} {gd:Option (Nat × Bool)} {t:Nat} {out:List Value} {parts:Array (Nat × Operand)} {vs:List (Nat × Value)} (hv:parts.toList.map (fun q=>(q.1,evF f q.2))=vs) (hb:P.built t vs=some out.toArray):Does P ⟨d,.build t parts,ty,pos,af,gd⟩ f w (.agg out.toArray) w:=by
 subst hv
 have h:=run_build (P:=P) w t (parts.map fun q=>(q.1,evF f q.2)) out.toArray (by rw [Array.toList_map]; exact hb)
 unfold Does
 show (execOp (evF f) _).run P w=_
 unfold execOp
 simp only [Sem.run_bind,h,Result.andThen_ok,Sem.run_pure]
def zbQ.f (a0:Int):Option ByteArray:=if (decide (a0 < 0)) || (decide (10 ≤ a0)) then some ⟨#[]⟩ else chk (inb a0 schL.length) (some (at_ ByteArray.empty schL a0))
theorem hilbert_scheme_st {A:Nat→Prop} {N:Oth} {w:World} {a0:Int} (S:St A N w w [] []) {r:ByteArray} (H:zbQ.f a0=some r) :
  Calls PP zbn #[.int .i64 a0] w fun e w' => ∃ v,e = .returned v∧(v = .string r∧St A N w w' [] []):=by
 unfold zbQ.f at H
 refine zz (n:=14) fn_hilbert_scheme rfl rfl zbx ?_
 refine zd (za ?_)
 refine wd (yj rfl) ?_
 refine zb ?_
 refine zd (za ?_)
 refine wd (does_builds (out:=schL.map Value.string) rfl zby) ?_
 refine xa ze_A10 zbv fun b2 w1 hw1=>?_
 replace S:St A N w w1 [oB b2 T_A10 (List.replicate 10 (.string ByteArray.empty))] []:=S.new hw1
 refine zF ag_A10 rfl rfl (S.blk 0) rfl zbv (by intro v hv; obtain ⟨x,_,rfl⟩ := List.mem_map.1 hv; rfl) (by rfl) fun w3 B hw3 zw3=>?_
 replace S:St A N w w3 [oB b2 T_A10 (schL.map Value.string)] []:=S.store 0 B hw3
 clear B
 refine zb ?_
 refine zd (zd (za ?_))
 refine wd (zh rfl) ?_
 refine wd (xK rfl rfl) ?_
 refine wd (zD rfl) ?_
 refine zU (j:=2) (pol:=false) rfl rfl rfl zbv (fun hg=>zh rfl) zbv ?_
 refine zU (j:=2) (pol:=false) rfl rfl rfl zbv (fun hg=>vm (zm hg) rfl) zbv ?_
 refine wd (xq rfl (fun hp=>(zm (xk hp)))) ?_
 refine zb ?_
 refine zH rfl (fun hc4=>?_) (fun hc4=>?_)
 ·replace H:=if_t hc4 H
  refine zd (za ?_)
  refine wd (yj rfl) ?_
  refine zb ?_
  refine zy ?_
  refine ⟨_,(zS (zg rfl)),?_⟩
  replace S:St A N w w3 [] []:=S.arr [] []
  obtain rfl:=zbz H
  exact ⟨rfl,S⟩
 replace H:=if_f hc4 H
 refine zA ?_
 refine zd (za ?_)
 refine wd (zh rfl) ?_
 obtain ⟨hi5,H⟩ := xm H
 have hb:=zI hi5
 refine wd (does_indexArr ar_A10 rfl rfl hb.1 hb.2 (o':=(a0).toNat) zbx) ?_
 refine wd (zj xt rfl ((S.blk 0).cell (v := .string (at_ ByteArray.empty schL a0)) (by rw [List.getElem?_map,xp ByteArray.empty hb]; rfl))) ?_
 refine wd (yj rfl) ?_
 refine zb ?_
 refine zy ?_
 refine ⟨_,(zS (zg rfl)),?_⟩
 replace S:St A N w w3 [] []:=S.arr [] []
 obtain rfl:=zbz H
 exact ⟨rfl,S⟩
section
variable {A:Nat→Prop} {N:Oth} {w:World}
def zbR.f (l:List Hyp):Option (List Hyp):=chk (decide (l.length ≤ 1000000000)) (some l)
theorem ko {l:List Hyp} {s:SlV} (S:St A N w w [] [fS 2 Hyp.C s l]) {r:List Hyp} (H:zbR.f l=some r):Calls PP ud #[s.v] w fun e w' => ∃ v,e = .returned v ∧ ∃ s':SlV,(v=s'.v∧St A N w w' [oS yq 2 Hyp.C s' r] []):=by
 obtain ⟨hl,H⟩ := xm H
 obtain rfl:=zbz H
 replace hl:=of_decide_eq_true hl
 refine zz (n:=8) kn rfl rfl zbx ?_
 repeat (first | refine zd ?_ | refine za ?_ | refine zO ?_)
 repeat (first | refine zl (zi rfl) zbv ?_ | refine zl (zh rfl) zbv ?_ | refine zl (zo rfl) zbv ?_ | refine zl (zC rfl) zbv ?_ | refine zl (zn rfl) zbv ?_ | refine zl (xw) zbv ?_)
 refine zb ?_
 repeat (first | refine zd ?_ | refine za ?_ | refine zO ?_)
 repeat (first | refine zl (zi rfl) zbv ?_ | refine zl (zh rfl) zbv ?_ | refine zl (zo rfl) zbv ?_ | refine zl (zC rfl) zbv ?_ | refine zl (zn rfl) zbv ?_ | refine zl (xw) zbv ?_)
 refine zl (does_isnil vi rfl rfl) zbv ?_
 refine zb ?_
 refine zH rfl (fun hc=>?_) (fun hc=>?_)
 ·repeat (first | refine zd ?_ | refine za ?_ | refine zO ?_)
  repeat (first | refine zl (zi rfl) zbv ?_ | refine zl (zh rfl) zbv ?_ | refine zl (zo rfl) zbv ?_ | refine zl (zC rfl) zbv ?_ | refine zl (zn rfl) zbv ?_ | refine zl (xw) zbv ?_)
  refine zb ?_
  refine zy ?_
  refine ⟨_,(zS (zg rfl)),SlV.nil,rfl,?_⟩
  have hr:=(S.rd 0).sl
  obtain rfl:l=[]:=by
   cases l with
   | nil=>rfl
   | cons a l =>
    have:=(hr.cells 0 (Hyp.C a) rfl).1
    rw [this] at hc; cases hc
  exact (S.zs (Z':=[]) []).nil yq 2 Hyp.C
 ·refine zA ?_
  repeat (first | refine zd ?_ | refine za ?_ | refine zO ?_)
  refine xy (C:=Hyp.C) (l:=[]) (vs:=[]) vi el_Hyp.zero rfl rfl zbx zbv rfl zbv fun b w1 s1 hB h1=>?_
  replace S:St A N w w1 [oS yq 2 Hyp.C s1 []] [fS 2 Hyp.C s l]:=S.lit hB h1 zbx
  repeat (first | refine zl (zi rfl) zbv ?_ | refine zl (zh rfl) zbv ?_ | refine zl (zo rfl) zbv ?_ | refine zl (zC rfl) zbv ?_ | refine zl (zn rfl) zbv ?_ | refine zl (xw) zbv ?_)
  refine wl_appendm (C:=Hyp.C) vi el_Hyp rfl rfl (S.sl 0) (S.rd 0) Hyp.one (by simp; omega) (by simp; omega) zbv fun s2 w2 O h2 g2=>?_
  replace S:St A N w w2 [oS yq 2 Hyp.C s2 l] [fS 2 Hyp.C s l]:=S.push 0 (l':=[] ++ l) O (by simp; omega) h2 g2
  refine zl (x6 rfl) zbv ?_
  refine zb ?_
  refine zy ?_
  exact ⟨_,(zS (zg rfl)),s2,rfl,S.zs (Z':=[]) []⟩
def SlV.clip (s:SlV):SlV:=⟨s.p,s.n,s.n⟩
theorem clip_rd {w:World} {k:Nat} {s:SlV} {rows:List (List Value)} (h:Rd w k s rows):Rd w k (SlV.clip s) rows:=⟨⟨h.sl.len,h.sl.row,h.sl.cells⟩,h.lt,Nat.le_refl _⟩
theorem kH {w:World} {s:SlV} {l:List Hyp} (hr:Rd w 2 s (l.map Hyp.C)):Calls PP ul #[s.v] w fun e w' => ∃ v,e = .returned v∧(v=(SlV.clip s).v∧Ext w w'):=by
 refine zz (n:=9) kD rfl rfl zbx ?_
 refine zd (za ?_)
 refine wd xw ?_
 refine zb ?_
 refine zd (za ?_)
 refine wd (zC rfl) ?_
 refine wd (zC rfl) ?_
 refine wd (xd vi rfl hr) ?_
 refine wd (zC rfl) ?_
 refine wd (xd vi rfl hr) ?_
 have hn:s.n=l.length:=by have:=hr.sl.len; simpa using this
 have hc:(l.length:Int) ≤ s.c:=by have:=hr.room; omega
 have e0:((l.length:Nat):Int).toNat=l.length:=by omega
 refine wd (does_sliceG vi rfl (bounds_him (kd := .i64) (kd' := .i64) (i:=(l.length:Int)) zbw hc)) ?_
 have es:(⟨if ((l.length:Nat):Int).toNat=0 then s.p else s.p.map (·.add (0 * 2)),((l.length:Nat):Int).toNat - 0,((l.length:Nat):Int).toNat - 0⟩ : SlV)=SlV.clip s:=by
  have hp:s.p.map (·.add (0 * 2))=s.p:=by
   cases s.p with
   | none=>rfl
   | some a=>simp [Addr.add]
  rw [hp,e0,ite_self,Nat.sub_zero,SlV.clip,hn]
 rw [es]
 refine wd (x6 rfl) ?_
 refine zb ?_
 refine zy ?_
 exact ⟨_,(zS (zg rfl)),rfl,Ext.refl w⟩
def zbS.f (l m:List Hyp):Option (List Hyp):=chk (decide (m ≠ []) && decide ((l.length + m.length) * 24 ≤ 140737488355328)) (some (l ++ m))
theorem zaM {l m:List Hyp} {s s2:SlV} (S:St A N w w [] [fS 2 Hyp.C s l,fS 2 Hyp.C s2 m]) {r:List Hyp} (H:zbS.f l m=some r):Calls PP jv #[s.v,s2.v] w fun e w' => ∃ v,e = .returned v ∧ ∃ s':SlV,(v=s'.v∧St A N w w' [oS yq 2 Hyp.C s' r] []):=by
 obtain ⟨hc,H⟩ := xm H
 obtain rfl:=zbz H
 simp only [Bool.and_eq_true,decide_eq_true_eq] at hc
 obtain ⟨hne,hb⟩ := hc
 refine zz (n:=9) zaK rfl rfl zbx ?_
 refine zd (za ?_)
 refine wd xw ?_
 refine zb ?_
 refine zd (za ?_)
 refine wd (zC rfl) ?_
 refine zu (zq ky) zbv (kH (S.rd 0)) ?_
 rintro _ w1 ⟨rfl,h1⟩
 replace S:=S.ext h1
 refine wd (zC rfl) ?_
 refine wl_appendC (C:=Hyp.C) (l:=l) (m:=m) vi el_Hyp rfl rfl (clip_rd (S.rd 0)) rfl (S.rd 1) hne hb zbw zbv fun s' w2 O hx hf=>?_
 replace S:St A N w w2 [oS yq 2 Hyp.C s' (l ++ m)] [fS 2 Hyp.C s l,fS 2 Hyp.C s2 m]:=S.addO' hx O (by rw [List.length_append]; omega) hf
 refine wd (x6 rfl) ?_
 refine zb ?_
 refine zy ?_
 exact ⟨_,(zS (zg rfl)),s',rfl,S.zs (Z':=[]) []⟩
end
end
section
open Gw
def zbT.b0 (a0:List Nd) (i5:Int) (x5_0:Tb):Option (Stp Tb (Tb × Int)) :=
 (zbE.f x5_0 (at_ Nd.z a0 i5)).bind fun r11=>if (decide (r11.2.2=0)) && (decide (r11.2.1 ≠ i5)) then if decide (31 ≠ 0) then some (.ret (none,31)) else some (.go r11.1) else if decide (r11.2.2 ≠ 0) then some (.ret (none,r11.2.2)) else some (.go r11.1)
def zbT.f (a0:List Nd):Option (Tb × Int) :=
 (zbI.f).bind fun r1=>(forN (fun i s=>zbT.b0 a0 i s) ((a0.length:Int) - 0).toNat 0 r1).bind (aft fun (s5:Tb)=>some (s5,0))
def zbU.b0 (a1:List Nd) (a0:List Nd) (i2:Int):Option (Stp Unit Bool) :=
 chk (inb i2 a1.length) (if !decide (at_ Nd.z a0 i2=at_ Nd.z a1 i2) then some (.ret false) else some (.go ()))
def zbU.f (a0:List Nd) (a1:List Nd):Option Bool :=
 if decide ((a0.length:Int) ≠ (a1.length:Int)) then some false else (forN (fun i s=>zbU.b0 a1 a0 i) ((a0.length:Int) - 0).toNat 0 ()).bind (aft fun (s2:Unit)=>some true)
def zbV.f (a0:Tb) (a1:Int):Option Bool :=
 chk a0.isSome (some ((decide (0 ≤ a1)) && (decide (a1 < ((a0.getD []).length:Int)))))
def zbW.b0 (a0:Tb) (a1:Nd) (i4:Int):Option (Stp Unit (Int × Bool)) :=
 if decide (at_ Nd.z (a0.getD []) i4=a1) then some (.ret (i4,true)) else some (.go ())
def zbW.f (a0:Tb) (a1:Nd):Option (Int × Bool) :=
 chk a0.isSome ((forN (fun i s=>zbW.b0 a0 a1 i) (((a0.getD []).length:Int) - 0).toNat 0 ()).bind (aft fun (s4:Unit)=>some (0,false)))
def zbX.f (a0:Tb) (a1:Nd):Option (Tb × Int × Int) :=
 (if decide (a1.kind=1) then if (decide (a1.l ≠ 0)) || (decide (a1.r ≠ 0)) then some (.inr (a0,0,31)) else (zbG.f a1.name).bind fun r6=>if !r6 then some (.inr (a0,0,32)) else some (.inl a0) else if decide (a1.kind=2) then if ((decide (a1.name ≠ (⟨#[]⟩ : ByteArray))) || (decide (a1.l ≠ 0))) || (decide (a1.r ≠ 0)) then some (.inr (a0,0,31)) else some (.inl a0) else (if decide (a1.kind=3) then some (decide (a1.kind=3)) else if decide (a1.kind=4) then some (decide (a1.kind=4)) else some (decide (a1.kind=5))).bind fun (o12:Bool)=>if o12 then (if (!(decide (a1.name ≠ (⟨#[]⟩ : ByteArray)))) then zbV.f a0 a1.l else some false).bind fun r18=>(if (!((decide (a1.name ≠ (⟨#[]⟩ : ByteArray))) || (!r18))) then zbV.f a0 a1.r else some false).bind fun r20=>if ((decide (a1.name ≠ (⟨#[]⟩ : ByteArray))) || (!r18)) || (!r20) then some (.inr (a0,0,31)) else some (.inl a0) else some (.inr (a0,0,31))).bind (aft fun (s3:Tb)=>(zbW.f s3 a1).bind fun r25=>if r25.2 then some (s3,r25.1,0) else chk s3.isSome (if decide (1024 ≤ ((s3.getD []).length:Int)) then some ((some (s3.getD [])),0,30) else chk (decide (((s3.getD []).length + 1) * 40 ≤ 140737488355328)) (some ((some ((s3.getD []) ++ [a1])),IntKind.i64.wrap ((((s3.getD []) ++ [a1]).length:Int) - 1),0))))
def zbY.b0 (a0:List Nd) (i3:Int) (x3_0:Tb):Option (Stp Tb (Tb × Int)) :=
 (zbX.f x3_0 (at_ Nd.z a0 i3)).bind fun r6=>if decide (r6.2.2 ≠ 0) then some (.ret (none,r6.2.2)) else if decide (r6.2.1 ≠ i3) then some (.ret (none,31)) else some (.go r6.1)
def zbY.f (a0:List Nd):Option (Tb × Int) :=
 (forN (fun i s=>zbY.b0 a0 i s) ((a0.length:Int) - 0).toNat 0 (some [])).bind (aft fun (s3:Tb)=>some (s3,0))
def zbZ.f (a0:Tb) (a1:Tb):Option Bool :=
 chk a1.isSome ((zbJ.f a0).bind fun r13=>(zbU.f r13 (a1.getD [])).bind fun r17=>(if r17 then zbB.f a0 else some 0).bind fun r20=>some (r17 && (decide (r20=((a1.getD []).length:Int)))))
def zca.f (a0:List Nd):Option (Tb × Tb × Bool) :=
 chk (decide ((([]:List Nd).length + a0.length) * 40 ≤ 140737488355328)) ((zbY.f a0).bind fun r7=>if decide (r7.2 ≠ 0) then some (none,none,false) else (zbT.f (([]:List Nd) ++ a0)).bind fun r12=>some (r12.1,r7.1,true))
end
section
open Gw
def zcb.g (zdR:PPattern→Int→ByteArray→Option (PPattern × ByteArray × Bool)) (a0:PPattern) (a1:Int) (a2:ByteArray):Option (PPattern × ByteArray × Bool) :=
 chk (inb 0 a2.size) (chk (decide (0 ≤ (1:Int)∧(1:Int) ≤ (a2.size:Int))) ((zbA.f a0.t a1).bind fun r7=>(if decide (sb a2 0=62) then some (.inl (5,a0)) else if decide (sb a2 0=38) then some (.inl (3,a0)) else if decide (sb a2 0=124) then some (.inl (4,a0)) else if decide (sb a2 0=48) then some (.inr (a0,sfrom a2 1,decide (r7.1.kind=2))) else some (.inr ((⟨a0.t,Gw.ins (sb a2 0) a1 a0.seen⟩ : PPattern),sfrom a2 1,(!((Gw.look (sb a2 0) a0.seen).isSome)) || (decide ((Gw.look (sb a2 0) a0.seen).getD 0=a1))))).bind (aft fun (s13:Int × PPattern)=>if decide (r7.1.kind ≠ s13.1) then some (s13.2,(⟨#[]⟩ : ByteArray),false) else (zdR s13.2 r7.1.l (sfrom a2 1)).bind fun r29=>if !r29.2.2 then some (r29.1,(⟨#[]⟩ : ByteArray),false) else (zdR r29.1 r7.1.r r29.2.1).bind fun r33=>some (r33.1,r33.2.1,r33.2.2))))
def zcb.f:Nat→PPattern→Int→ByteArray→Option (PPattern × ByteArray × Bool)
 | 0=>fun _ _ _=>none
 | k + 1=>zcb.g (zcb.f k)
def zcc.f (k:Nat) (a0:Tb) (a1:Int) (a2:Int):Option (Tb × Bool) :=
 (zbQ.f a1).bind fun r1=>if decide (r1=(⟨#[]⟩ : ByteArray)) then some (a0,false) else (zcb.f k (⟨a0,([]:List (Int × Int))⟩ : PPattern) a2 r1).bind fun r9=>some (r9.1.t,r9.2.2)
def zcd.f (a0:Int) (a1:Int):Option Bool :=
 some ((decide (a0 < 0)) || (decide (a1 ≤ a0)))
def zce.b0 (a0:List Int) (a1_0:Int) (i1:Int):Option (Stp Unit Int) :=
 (zcd.f (at_ (0:Int) a0 i1) a1_0).bind fun r4=>if r4 then some (.ret i1) else some (.go ())
def zce.f (a0:List Int) (a1_0:Int):Option Int :=
 (forN (fun i s=>zce.b0 a0 a1_0 i) ((a0.length:Int) - 0).toNat 0 ()).bind (aft fun (s1:Unit)=>some (-1))
def zcf.f (a0:List Int) (a1_0:Int):Option Bool :=
 (zce.f a0 a1_0).bind fun r1=>some (decide (0 ≤ r1))
def zcg.f (a0:Tb) (a1:List Int):Option Int :=
 (zbO.f a0).bind fun r1=>if r1.isNone then some 1 else (zbB.f a0).bind fun r6=>(zcf.f a1 r6).bind fun r12=>if r12 then some 31 else some 0
def zch.f (k:Nat) (a0:Tb) (a1:Int) (a2:Int):Option (Tb × Bool × Int) :=
 (zcg.f a0 ([a2])).bind fun r4=>if decide (r4 ≠ 0) then some (a0,false,r4) else (zcc.f k a0 a1 a2).bind fun r8=>some (r8.1,r8.2,0)
end
section
open Gw
def zci.f (k:Nat) (a0:Tb) (a1:List (Int × Int)) (a2:List Ln) (a3:Int):Option (Tb × Bool) :=
 chk (inb a3 a2.length) (if decide ((at_ Ln.z a2 a3).kind ≠ 11) then (if (!((decide ((at_ Ln.z a2 a3).kind=10)) && (decide (0 < (Gw.look ((at_ Ln.z a2 a3).form) a1).getD 0)))) then zcc.f k a0 ((at_ Ln.z a2 a3).kind) ((at_ Ln.z a2 a3).form) else some (a0,false)).bind fun r6=>some (r6.1,((decide ((at_ Ln.z a2 a3).a=0)) && (decide ((at_ Ln.z a2 a3).b=0))) && (((decide ((at_ Ln.z a2 a3).kind=10)) && (decide (0 < (Gw.look ((at_ Ln.z a2 a3).form) a1).getD 0))) || r6.2)) else if (decide ((if (at_ Ln.z a2 a3).b < (at_ Ln.z a2 a3).a then (at_ Ln.z a2 a3).b else (at_ Ln.z a2 a3).a) < 0)) || (decide (a3 ≤ (if (at_ Ln.z a2 a3).a < (at_ Ln.z a2 a3).b then (at_ Ln.z a2 a3).b else (at_ Ln.z a2 a3).a))) then some (a0,false) else chk (inb ((at_ Ln.z a2 a3).a) a2.length) ((zbA.f a0 ((at_ Ln.z a2 ((at_ Ln.z a2 a3).a)).form)).bind fun r11=>chk (inb ((at_ Ln.z a2 a3).b) a2.length) (some (a0,decide (r11.1={ Nd.z with kind:=5,l:=(at_ Ln.z a2 ((at_ Ln.z a2 a3).b)).form,r:=(at_ Ln.z a2 a3).form })))))
def zcj.b0 (a0:Tb) (a2:List Ln) (i5:Int):Option (Stp Unit (Tb × Int)) :=
 (zcg.f a0 ([(at_ Ln.z a2 i5).form])).bind fun r14=>if decide (r14 ≠ 0) then some (.ret (a0,r14)) else some (.go ())
def zcj.b1 (a1:List Int) (i22:Int) (x22_0:List (Int × Int)):Option (List (Int × Int)) :=
 some (Gw.ins (at_ (0:Int) a1 i22) (IntKind.i64.wrap (((Gw.look (at_ (0:Int) a1 i22) x22_0).getD 0) + 1)) x22_0)
def zcj.b2 (k:Nat) (o22:(List (Int × Int))) (a2:List Ln) (i28:Int) (x28_0:Tb):Option (Stp Tb (Tb × Int)) :=
 (zci.f k x28_0 o22 a2 i28).bind fun r30=>if !r30.2 then some (.ret (r30.1,160)) else some (.go r30.1)
def zcj.f (k:Nat) (a0:Tb) (a1:List Int) (a2:List Ln):Option (Tb × Int) :=
 (zcg.f a0 a1).bind fun r1=>if decide (r1 ≠ 0) then some (a0,r1) else (forN (fun i s=>zcj.b0 a0 a2 i) ((a2.length:Int) - 0).toNat 0 ()).bind (aft fun (s5:Unit)=>(forS (fun i s=>zcj.b1 a1 i s) ((a1.length:Int) - 0).toNat 0 ([]:List (Int × Int))).bind fun (o22:(List (Int × Int)))=>(forN (fun i s=>zcj.b2 k o22 a2 i s) ((a2.length:Int) - 0).toNat 0 a0).bind (aft fun (s28:Tb)=>if decide ((a2.length:Int)=0) then some (s28,160) else some (s28,0)))
def zck.f (k:Nat) (a0:Tb) (a1:List Int) (a2:List Ln):Option (Tb × Int × Int) :=
 (zcj.f k a0 a1 a2).bind fun r1=>if decide (r1.2 ≠ 0) then some (r1.1,0,r1.2) else chk (inb (IntKind.i64.wrap ((a2.length:Int) - 1)) a2.length) (some (r1.1,(at_ Ln.z a2 (IntKind.i64.wrap ((a2.length:Int) - 1))).form,0))
def zcl.f (a0:PMaker) (a1:Int) (a2:Int) (a3:Int):Option (PMaker × Int) :=
 if decide (a0.bad ≠ 0) then some (a0,0) else (zbE.f a0.t ({ Nd.z with kind:=a1,l:=a2,r:=a3 })).bind fun r8=>some ((⟨r8.1,a0.l,r8.2.2⟩ : PMaker),r8.2.1)
def zcm.f (a0:PMaker) (a1:Int) (a2:Int):Option (PMaker × Int) :=
 (zcl.f a0 5 a1 a2).bind fun r1=>some (r1.1,r1.2)
def zcn.f (a0:PMaker) (a1:Ln):Option (PMaker × Int) :=
 (if (decide (a0.bad=0)) && (decide ((a0.l.length:Int)=4096)) then some ((⟨a0.t,a0.l,150⟩ : PMaker)) else some (a0)).bind fun (o6:PMaker)=>if decide (o6.bad=0) then chk (decide ((o6.l.length + 1) * 32 ≤ 140737488355328)) (some ((⟨o6.t,o6.l ++ [a1],o6.bad⟩ : PMaker),IntKind.i64.wrap (((o6.l ++ [a1]).length:Int) - 1))) else some (o6,IntKind.i64.wrap ((o6.l.length:Int) - 1))
def zco.f (a0:PMaker) (a1:Int) (a2:Int):Option (PMaker × Int) :=
 if decide (a0.bad ≠ 0) then some (a0,0) else chk (inb a1 a0.l.length) ((zbA.f a0.t ((at_ Ln.z a0.l a1).form)).bind fun r9=>(zcn.f a0 (⟨11,r9.1.r,a1,a2⟩ : Ln)).bind fun r13=>some (r13.1,r13.2))
def zcp.f (a0:PMaker) (a1:Int) (a2:Int):Option (PMaker × Int) :=
 (zcn.f a0 ({ Ln.z with kind:=a1,form:=a2 })).bind fun r1=>some (r1.1,r1.2)
def zcq.f (a0:PMaker) (a1:Int) (a2:Int):Option (PMaker × Int) :=
 (zcm.f a0 a2 a1).bind fun r1=>(zcm.f r1.1 a1 r1.2).bind fun r4=>(zcp.f r4.1 1 r4.2).bind fun r7=>some (r7.1,r7.2)
def zcr.f (a0:PMaker) (a1:Int) (a2:Int) (a3:Int):Option (PMaker × Int) :=
 (zcm.f a0 a2 a3).bind fun r1=>(zcm.f r1.1 a1 r1.2).bind fun r4=>(zcm.f r4.1 a1 a2).bind fun r7=>(zcm.f r7.1 a1 a3).bind fun r10=>(zcm.f r10.1 r7.2 r10.2).bind fun r13=>(zcm.f r13.1 r4.2 r13.2).bind fun r16=>(zcp.f r16.1 2 r16.2).bind fun r19=>some (r19.1,r19.2)
def zcs.b0 (a1:List Ln) (a2:Int) (i7:Int) (x7_0:List Int) (x7_1:PMaker):Option (Stp (List Int × PMaker) (Tb × List Ln × Int)) :=
 if decide (x7_1.bad ≠ 0) then some (.ret (x7_1.t,([]:List Ln),x7_1.bad)) else if decide ((at_ Ln.z a1 i7).form=a2) then (zcm.f x7_1 a2 a2).bind fun r25=>(zcr.f r25.1 a2 r25.2 a2).bind fun r28=>(zcq.f r28.1 a2 r25.2).bind fun r31=>(zco.f r31.1 r28.2 r31.2).bind fun r34=>(zcq.f r34.1 a2 a2).bind fun r37=>(zco.f r37.1 r34.2 r37.2).bind fun r40=>chk (inb i7 x7_0.length) (some (.go (x7_0.set (i7).toNat r40.2,r40.1))) else if decide ((at_ Ln.z a1 i7).kind=11) then chk (inb ((at_ Ln.z a1 i7).b) a1.length) ((zcr.f x7_1 a2 ((at_ Ln.z a1 ((at_ Ln.z a1 i7).b)).form) ((at_ Ln.z a1 i7).form)).bind fun r48=>chk (inb ((at_ Ln.z a1 i7).a) x7_0.length) ((zco.f r48.1 r48.2 (at_ (0:Int) x7_0 ((at_ Ln.z a1 i7).a))).bind fun r52=>chk (inb ((at_ Ln.z a1 i7).b) x7_0.length) ((zco.f r52.1 r52.2 (at_ (0:Int) x7_0 ((at_ Ln.z a1 i7).b))).bind fun r56=>chk (inb i7 x7_0.length) (some (.go (x7_0.set (i7).toNat r56.2,r56.1)))))) else (zcn.f x7_1 (at_ Ln.z a1 i7)).bind fun r72=>(zcq.f r72.1 ((at_ Ln.z a1 i7).form) a2).bind fun r75=>(zco.f r75.1 r75.2 r72.2).bind fun r78=>chk (inb i7 x7_0.length) (some (.go (x7_0.set (i7).toNat r78.2,r78.1)))
def zcs.f (a0:Tb) (a1:List Ln) (a2:Int):Option (Tb × List Ln × Int) :=
 chk (decide (0 ≤ (a1.length:Int)∧((a1.length:Int)).toNat ≤ 16777216)) ((forN (fun i s=>zcs.b0 a1 a2 i s.1 s.2) ((a1.length:Int) - 0).toNat 0 (List.replicate ((a1.length:Int)).toNat (0:Int),(⟨a0,([]:List Ln),0⟩ : PMaker))).bind (aft fun (s7:List Int × PMaker)=>some (s7.2.t,s7.2.l,s7.2.bad)))
def zct.f (a0:Tb) (a1:Int) (a2:List Ln) (a3:Int):Option (Tb × List Ln × Int) :=
 if decide (a3 ≠ 0) then (zbP.f a0 a1).bind fun r2=>some (r2.1,([]:List Ln),a3) else some (a0,a2,0)
def zcu.f (k:Nat) (a0:Tb) (a1:List Int) (a2:List Ln) (a3:Int):Option (Tb × List Ln × Int) :=
 (zcg.f a0 ([a3])).bind fun r4=>if decide (r4 ≠ 0) then some (a0,([]:List Ln),r4) else (zcj.f k a0 a1 a2).bind fun r8=>if decide (r8.2 ≠ 0) then some (r8.1,([]:List Ln),r8.2) else (zbB.f r8.1).bind fun r12=>(zcs.f r8.1 a2 a3).bind fun r15=>(zct.f r15.1 r12 r15.2.1 r15.2.2).bind fun r19=>some (r19.1,r19.2.1,r19.2.2)
end
section
open Gw
def zcv.f (a0:Int):Option (Int × Bool × Bool × Bool) :=
 if decide (a0=1) then some (0,true,false,true) else if decide (a0=2) then some (1,true,false,true) else if decide (a0=12) then some (2,true,false,true) else if decide (a0=9) then some (3,true,true,true) else (if decide (a0=5) then some (decide (a0=5)) else if decide (a0=6) then some (decide (a0=6)) else if decide (a0=7) then some (decide (a0=7)) else if decide (a0=8) then some (decide (a0=8)) else if decide (a0=10) then some (decide (a0=10)) else some (decide (a0=11))).bind fun (o5:Bool)=>if o5 then some (1,false,false,true) else if decide (a0=3) then if decide (a0=3) then some (2,false,false,true) else some (0,false,false,false) else if decide (a0=4) then some (2,false,false,true) else some (0,false,false,false)
def zcw.f (a0:ByteArray) (a1:Bool):Option Bool :=
 if !a1 then some (decide (a0=(⟨#[]⟩ : ByteArray))) else (zbF.f a0).bind fun r2=>some r2
def zcx.f (a0:Int):Option Int :=
 if decide (a0=1) then some 0 else (if decide (a0=2) then some (decide (a0=2)) else if decide (a0=5) then some (decide (a0=5)) else if decide (a0=6) then some (decide (a0=6)) else if decide (a0=7) then some (decide (a0=7)) else if decide (a0=8) then some (decide (a0=8)) else if decide (a0=10) then some (decide (a0=10)) else some (decide (a0=11))).bind fun (o2:Bool)=>if o2 then some 1 else if decide (a0=3) then if decide (a0=3) then some 2 else if decide (a0=9) then some 3 else some (-1) else if decide (a0=4) then if decide (a0=4) then some 2 else if decide (a0=9) then some 3 else some (-1) else if decide (a0=12) then some 2 else if decide (a0=9) then some 3 else some (-1)
def zcy.b0 (a0:PTerm) (a1:Int) (zdW:PTerm→Int→Option Int) (x4_0:Int) (x4_1:Int):Option (Stp (Int × Int) Int) :=
 if (decide (x4_1 < (a0.sub.length:Int))) && (decide (x4_0 < IntKind.i64.wrap (a1 - 1))) then chk (inb x4_1 a0.sub.length) ((zdW (at_ PTerm.z a0.sub x4_1) (IntKind.i64.wrap (a1 - 1))).bind fun r9=>some (.go ((if x4_0 < r9 then r9 else x4_0),IntKind.i64.wrap (x4_1 + 1)))) else some (.brk (x4_0,x4_1))
def zcy.g (zdW:PTerm→Int→Option Int) (k:Nat) (a0:PTerm) (a1:Int):Option Int :=
 if decide (a1 ≤ 1) then some a1 else (iter (fun s=>zcy.b0 a0 a1 zdW s.1 s.2) k (0,0)).bind (aft fun (s4:Int × Int)=>some (IntKind.i64.wrap (s4.1 + 1)))
def zcy.f:Nat→PTerm→Int→Option Int
 | 0=>fun _ _=>none
 | k + 1=>zcy.g (zcy.f k) k
def zcz.f (k:Nat) (a0:PTerm):Option Int :=
 (zcy.f k a0 1025).bind fun r3=>some r3
def zcA.b0 (a0:PTerm) (zdV:PTerm→Int→Option Int) (x3_0:Int) (x3_1:Int):Option (Stp (Int × Int) Int) :=
 if (decide (x3_1 < (a0.sub.length:Int))) && (decide (x3_0 ≤ 65536)) then chk (inb x3_1 a0.sub.length) ((zdV (at_ PTerm.z a0.sub x3_1) x3_0).bind fun r8=>some (.go (r8,IntKind.i64.wrap (x3_1 + 1)))) else some (.brk (x3_0,x3_1))
def zcA.g (zdV:PTerm→Int→Option Int) (k:Nat) (a0:PTerm) (a1:Int):Option Int :=
 (iter (fun s=>zcA.b0 a0 zdV s.1 s.2) k (IntKind.i64.wrap (a1 + 1),0)).bind (aft fun (s3:Int × Int)=>some s3.1)
def zcA.f:Nat→PTerm→Int→Option Int
 | 0=>fun _ _=>none
 | k + 1=>zcA.g (zcA.f k) k
def zcB.f (k:Nat) (a0:PTerm):Option Int :=
 (zcA.f k a0 0).bind fun r3=>some r3
def zcC.b0 (a0:PTerm) (zdT:PTerm→Int→Option Int) (a1:Int) (x4_0:Int) (x4_1:Int):Option (Stp (Int × Int) Int) :=
 if (decide (x4_1 < (a0.sub.length:Int))) && (decide (x4_0 ≤ 1024)) then chk (inb x4_1 a0.sub.length) ((zdT (at_ PTerm.z a0.sub x4_1) (IntKind.i64.wrap (a1 + 1))).bind fun r9=>some (.go ((if x4_0 < r9 then r9 else x4_0),IntKind.i64.wrap (x4_1 + 1)))) else some (.brk (x4_0,x4_1))
def zcC.g (zdT:PTerm→Int→Option Int) (k:Nat) (a0:PTerm) (a1:Int):Option Int :=
 if decide (1024 < a1) then some a1 else (iter (fun s=>zcC.b0 a0 zdT a1 s.1 s.2) k (a1,0)).bind (aft fun (s4:Int × Int)=>some s4.1)
def zcC.f:Nat→PTerm→Int→Option Int
 | 0=>fun _ _=>none
 | k + 1=>zcC.g (zcC.f k) k
def zcD.f (k:Nat) (a0:PTerm):Option Int :=
 (zcC.f k a0 1).bind fun r3=>some r3
end
section
open Gw
def zcE.g (zdX:PTerm→Option Bool) (a0:PTerm):Option Bool :=
 (zdX a0).bind fun r3=>some (!r3)
def zcF.b0 (zdX:PTerm→Option Bool) (a0:List PTerm) (i1:Int):Option (Stp Unit Int) :=
 (zcE.g zdX (at_ PTerm.z a0 i1)).bind fun r6=>if r6 then some (.ret i1) else some (.go ())
def zcF.g (zdX:PTerm→Option Bool) (a0:List PTerm):Option Int :=
 (forN (fun i s=>zcF.b0 zdX a0 i) ((a0.length:Int) - 0).toNat 0 ()).bind (aft fun (s1:Unit)=>some (-1))
def zcG.g (zdX:PTerm→Option Bool) (a0:List PTerm):Option Bool :=
 (zcF.g zdX a0).bind fun r1=>some (decide (0 ≤ r1))
def zcH.g (zdX:PTerm→Option Bool) (a0:PTerm):Option Bool :=
 (zcv.f a0.kind).bind fun r3=>(if (!((!r3.2.2.2) || (decide ((a0.sub.length:Int) ≠ r3.1)))) then zcw.f a0.name r3.2.1 else some false).bind fun r6=>(if (!(((!r3.2.2.2) || (decide ((a0.sub.length:Int) ≠ r3.1))) || (!r6))) then zcw.f a0.other r3.2.2.1 else some false).bind fun r8=>if (((!r3.2.2.2) || (decide ((a0.sub.length:Int) ≠ r3.1))) || (!r6)) || (!r8) then some false else if (((decide (a0.kind ≠ 11)) && (decide (a0.form ≠ 0))) || (decide (a0.form < 0))) || (decide (1024 ≤ a0.form)) then some false else (zcG.g zdX a0.sub).bind fun r12=>some (!r12)
def zcH.f:Nat→PTerm→Option Bool
 | 0=>fun _=>none
 | k + 1=>zcH.g (zcH.f k)
def zcI.f (k:Nat) (a0:PTerm):Option Int :=
 (zbN.f a0).bind fun r3=>(if (!(decide (65536 < r3))) then zcz.f k a0 else some 0).bind fun r6=>if (decide (65536 < r3)) || (decide (1024 < r6)) then some 121 else (zcH.f k a0).bind fun r9=>if !r9 then some 120 else some 0
def zcJ.b0 (a0:PTerm) (zdU:PTerm→Option Bool) (x13_0:Int):Option (Stp Int Bool) :=
 if decide (x13_0 < (a0.sub.length:Int)) then chk (inb x13_0 a0.sub.length) ((zdU (at_ PTerm.z a0.sub x13_0)).bind fun r18=>if !r18 then some (.ret false) else some (.go (IntKind.i64.wrap (x13_0 + 1)))) else some (.brk x13_0)
def zcJ.g (zdU:PTerm→Option Bool) (k:Nat) (a0:PTerm):Option Bool :=
 (zcx.f a0.kind).bind fun r3=>if decide (r3 ≠ (a0.sub.length:Int)) then some false else (if ((((decide (a0.kind=1)) || (decide (a0.kind=2))) || (decide (a0.kind=9))) || (decide (a0.kind=12))) then zbG.f a0.name else some false).bind fun r6=>if (((((decide (a0.kind=1)) || (decide (a0.kind=2))) || (decide (a0.kind=9))) || (decide (a0.kind=12))) && (!r6)) || ((!((((decide (a0.kind=1)) || (decide (a0.kind=2))) || (decide (a0.kind=9))) || (decide (a0.kind=12)))) && (decide (a0.name ≠ (⟨#[]⟩ : ByteArray)))) then some false else (if (decide (a0.kind=9)) then zbG.f a0.other else some false).bind fun r9=>if ((decide (a0.kind=9)) && (!r9)) || ((decide (a0.kind ≠ 9)) && (decide (a0.other ≠ (⟨#[]⟩ : ByteArray)))) then some false else if ((decide (a0.kind=11)) && ((decide (a0.form < 0)) || (decide (1024 ≤ a0.form)))) || ((decide (a0.kind ≠ 11)) && (decide (a0.form ≠ 0))) then some false else (iter (fun s=>zcJ.b0 a0 zdU s) k 0).bind (aft fun (s13:Int)=>some true)
def zcJ.f:Nat→PTerm→Option Bool
 | 0=>fun _=>none
 | k + 1=>zcJ.g (zcJ.f k) k
def zcK.f (k:Nat) (a0:PTerm):Option Int :=
 (zcB.f k a0).bind fun r3=>(if (!(decide (65536 < r3))) then zcD.f k a0 else some 0).bind fun r6=>if (decide (65536 < r3)) || (decide (1024 < r6)) then some 121 else (zcJ.f k a0).bind fun r9=>if !r9 then some 120 else some 0
end
section
open Gw
def zcL.f (a0:Int) (a1:Option (Int × List Int)):Option (Option (Int × List Int)) :=
 match a1 with
 | none=>some none
 | some (c0,up0)=>chk (decide ((up0.length + 1) * 8 ≤ 140737488355328)) (some (some (c0,up0 ++ [a0])))
def zcM.f (a0:Option (Int × List Int)):Option (List Int × Int) :=
 match a0 with
 | none=>some (([]:List Int),0)
 | some (c0,up0)=>(zbM.f up0).bind fun r9=>some (r9,c0)
end
section
open Gw
def zcN.f (a0:PChecker) (a1:Int) (a2:Int):Option (Nd × (Option (Int × List Int))) :=
 (zbA.f a0.t a1).bind fun r5=>if decide (r5.1.kind ≠ a2) then some (r5.1,(some (130,([]:List Int)))) else some (r5.1,none)
def zcO.g (zdZ:PChecker→PTerm→(List (ByteArray × Int))→Option (Int × (Option (Int × List Int)))) (a0:PChecker) (a1:PTerm) (a2:Int) (a3:List (ByteArray × Int)):Option (Int × (Option (Int × List Int))) :=
 chk (inb a2 a1.sub.length) ((zdZ a0 (at_ PTerm.z a1.sub a2) a3).bind fun r16=>(zcL.f a2 r16.2).bind fun r22=>some (r16.1,r22))
def zcP.g (zdY:PChecker→PTerm→(List (ByteArray × Int))→Int→Option (Option (Int × List Int))) (a0:PChecker) (a1:PTerm) (a2:Int) (a3:List (ByteArray × Int)) (a4:Int):Option (Option (Int × List Int)) :=
 chk (inb a2 a1.sub.length) ((zdY a0 (at_ PTerm.z a1.sub a2) a3 a4).bind fun r8=>(zcL.f a2 r8).bind fun r12=>some r12)
def zcQ.g (zdZ:PChecker→PTerm→(List (ByteArray × Int))→Option (Int × (Option (Int × List Int)))) (a0:PChecker) (a1:PTerm) (a2:List (ByteArray × Int)) (a3:Int):Option (Nd × (Option (Int × List Int))) :=
 (zcO.g zdZ a0 a1 0 a2).bind fun r7=>if r7.2.isSome then some (Nd.z,r7.2) else (zcN.f a0 r7.1 a3).bind fun r13=>some (r13.1,r13.2)
def zcR.g (zdZ:PChecker→PTerm→(List (ByteArray × Int))→Option (Int × (Option (Int × List Int)))) (zdY:PChecker→PTerm→(List (ByteArray × Int))→Int→Option (Option (Int × List Int))) (a0:PChecker) (a1:PTerm) (a2:List (ByteArray × Int)):Option (Int × (Option (Int × List Int))) :=
 if decide (a1.kind=1) then (zbL.f a2 a1.name).bind fun r6=>some (r6.1,r6.2) else if decide (a1.kind=3) then (zcQ.g zdZ a0 a1 a2 5).bind fun r11=>if r11.2.isSome then some (0,r11.2) else (zcP.g zdY a0 a1 1 a2 r11.1.l).bind fun r19=>some (r11.1.r,r19) else if decide (a1.kind=5) then (zcQ.g zdZ a0 a1 a2 3).bind fun r24=>some (r24.1.l,r24.2) else if decide (a1.kind=6) then (zcQ.g zdZ a0 a1 a2 3).bind fun r32=>some (r32.1.r,r32.2) else if decide (a1.kind=11) then (zbA.f a0.t a1.form).bind fun r40=>if !r40.2 then some (0,(some (31,([]:List Int)))) else (zcP.g zdY a0 a1 0 a2 a1.form).bind fun r49=>some (a1.form,r49) else if decide (a1.kind=12) then (zcO.g zdZ a0 a1 0 a2).bind fun r54=>if r54.2.isSome then some (0,r54.2) else (zcO.g zdZ a0 a1 1 ((a1.name,r54.1) :: a2)).bind fun r66=>some (r66.1,r66.2) else if decide (a1.kind=9) then (zcQ.g zdZ a0 a1 a2 4).bind fun r73=>if r73.2.isSome then some (0,r73.2) else (zcO.g zdZ a0 a1 1 ((a1.name,r73.1.l) :: a2)).bind fun r88=>if r88.2.isSome then some (0,r88.2) else (zcO.g zdZ a0 a1 2 ((a1.other,r73.1.r) :: a2)).bind fun r102=>if r102.2.isNone && (decide (r102.1 ≠ r88.1)) then some (r88.1,(some (130,([]:List Int)))) else some (r88.1,r102.2) else some (0,(some (132,([]:List Int))))
def zcS.g (zdZ:PChecker→PTerm→(List (ByteArray × Int))→Option (Int × (Option (Int × List Int)))) (zdY:PChecker→PTerm→(List (ByteArray × Int))→Int→Option (Option (Int × List Int))) (a0:PChecker) (a1:PTerm) (a2:List (ByteArray × Int)) (a3:Int):Option (Option (Int × List Int)) :=
 if decide (a1.kind=2) then (zcN.f a0 a3 5).bind fun r6=>if r6.2.isSome then some r6.2 else (zcP.g zdY a0 a1 0 ((a1.name,r6.1.l) :: a2) r6.1.r).bind fun r17=>some r17 else if decide (a1.kind=4) then (zcN.f a0 a3 3).bind fun r22=>if r22.2.isSome then some r22.2 else (zcP.g zdY a0 a1 0 a2 r22.1.l).bind fun r30=>if r30.isSome then some r30 else (zcP.g zdY a0 a1 1 a2 r22.1.r).bind fun r35=>some r35 else (if decide (a1.kind=7) then some (decide (a1.kind=7)) else some (decide (a1.kind=8))).bind fun (o39:Bool)=>if o39 then (zcN.f a0 a3 4).bind fun r44=>if r44.2.isSome then some r44.2 else if decide (a1.kind=7) then (zcP.g zdY a0 a1 0 a2 r44.1.l).bind fun r53=>some r53 else (zcP.g zdY a0 a1 0 a2 r44.1.r).bind fun r57=>some r57 else if decide (a1.kind=9) then (zcQ.g zdZ a0 a1 a2 4).bind fun r62=>if r62.2.isSome then some r62.2 else (zcP.g zdY a0 a1 1 ((a1.name,r62.1.l) :: a2) a3).bind fun r73=>if r73.isSome then some r73 else (zcP.g zdY a0 a1 2 ((a1.other,r62.1.r) :: a2) a3).bind fun r81=>some r81 else if decide (a1.kind=10) then (zcQ.g zdZ a0 a1 a2 2).bind fun r86=>some r86.2 else if decide (a1.kind=12) then (zcO.g zdZ a0 a1 0 a2).bind fun r94=>if r94.2.isSome then some r94.2 else (zcP.g zdY a0 a1 1 ((a1.name,r94.1) :: a2) a3).bind fun r102=>some r102 else (zdZ a0 a1 a2).bind fun r106=>if r106.2.isNone && (decide (r106.1 ≠ a3)) then some (some (130,([]:List Int))) else some r106.2
def types_tc.p:Nat→(PChecker→PTerm→(List (ByteArray × Int))→Option (Int × (Option (Int × List Int)))) × (PChecker→PTerm→(List (ByteArray × Int))→Int→Option (Option (Int × List Int)))
 | 0=>(fun _ _ _=>none,fun _ _ _ _=>none)
 | k + 1=>(zcR.g (types_tc.p k).1 (types_tc.p k).2,zcS.g (types_tc.p k).1 (types_tc.p k).2)
def zcR.f (k:Nat):PChecker→PTerm→(List (ByteArray × Int))→Option (Int × (Option (Int × List Int))):=(types_tc.p k).1
def zcS.f (k:Nat):PChecker→PTerm→(List (ByteArray × Int))→Int→Option (Option (Int × List Int)):=(types_tc.p k).2
def zcT.b0 (a1:List Hyp) (i7:Int) (x7_0:List Int) (x7_1:List (ByteArray × Int)):Option (List Int × (List (ByteArray × Int))) :=
 chk (decide ((x7_0.length + ([(at_ Hyp.z a1 i7).form]).length) * 8 ≤ 140737488355328)) ((zbK.f x7_1 ((at_ Hyp.z a1 i7).name) ((at_ Hyp.z a1 i7).form)).bind fun r25=>some (x7_0 ++ [(at_ Hyp.z a1 i7).form],r25))
def zcT.b1 (a0:Tb) (o7:List Int × (List (ByteArray × Int))) (i31:Int):Option (Stp Unit ((List (ByteArray × Int)) × Int)) :=
 (zbA.f a0 (at_ (0:Int) o7.1 i31)).bind fun r34=>if !r34.2 then some (.ret (([]:List (ByteArray × Int)),31)) else some (.go ())
def zcT.f (k:Nat) (a0:Tb) (a1:List Hyp) (a2:PTerm) (a3:List Int):Option ((List (ByteArray × Int)) × Int) :=
 (zbC.f a0 (-1)).bind fun r3=>if decide (r3.2=1) then some (([]:List (ByteArray × Int)),r3.2) else (forS (fun i s=>zcT.b0 a1 i s.1 s.2) ((a1.length:Int) - 0).toNat 0 (a3,([]:List (ByteArray × Int)))).bind fun (o7:List Int × (List (ByteArray × Int)))=>(forN (fun i s=>zcT.b1 a0 o7 i) ((o7.1.length:Int) - 0).toNat 0 ()).bind (aft fun (s31:Unit)=>(zcI.f k a2).bind fun r43=>some (o7.2,r43))
def zcU.f (k:Nat) (a0:Tb) (a1:List Hyp) (a2:PTerm) (a3:Int):Option (List Int × Int) :=
 (zcT.f k a0 a1 a2 ([a3])).bind fun r6=>if decide (r6.2 ≠ 0) then some (([]:List Int),r6.2) else (zcS.f k (⟨a0⟩ : PChecker) a2 r6.1 a3).bind fun r11=>(zcM.f r11).bind fun r15=>some (r15.1,r15.2)
def zcV.f (k:Nat) (a0:Tb) (a1:List Hyp) (a2:PTerm) (a3:Int):Option Int :=
 (zcU.f k a0 a1 a2 a3).bind fun r3=>some r3.2
def zcW.f (k:Nat) (a0:Tb) (a1:List Hyp) (a2:PTerm):Option (Int × Int) :=
 (zcT.f k a0 a1 a2 ([]:List Int)).bind fun r3=>if decide (r3.2 ≠ 0) then some (0,r3.2) else (zcR.f k (⟨a0⟩ : PChecker) a2 r3.1).bind fun r8=>(zcM.f r8.2).bind fun r12=>if decide (r12.2 ≠ 0) then some (0,r12.2) else some (r8.1,0)
end
section
open Gw
def zcX.f (a0:List Hyp) (a1:ByteArray) (a2:Int):Option (List Hyp) :=
 (zbS.f a0 ([(⟨a1,a2⟩ : Hyp)])).bind fun r4=>some r4
def zcY.b0 (a1:List Ln) (o4:PMaker) (i15:Int) (x15_0:PMaker):Option (Stp PMaker (PMaker × Int)) :=
 if decide (x15_0.bad ≠ 0) then some (.brk x15_0) else if decide ((at_ Ln.z a1 i15).kind=11) then (zcn.f x15_0 ({ { at_ Ln.z a1 i15 with a:=IntKind.i64.wrap (((at_ Ln.z a1 i15).a) + (o4.l.length:Int)) } with b:=IntKind.i64.wrap (((at_ Ln.z a1 i15).b) + (o4.l.length:Int)) })).bind fun r28=>some (.go r28.1) else (zcn.f x15_0 (at_ Ln.z a1 i15)).bind fun r31=>some (.go r31.1)
def zcY.f (a0:PMaker) (a1:List Ln) (a2:Int):Option (PMaker × Int) :=
 (if decide (a0.bad=0) then some ((⟨a0.t,a0.l,a2⟩ : PMaker)) else some (a0)).bind fun (o4:PMaker)=>(forN (fun i s=>zcY.b0 a1 o4 i s) ((a1.length:Int) - 0).toNat 0 o4).bind (aft fun (s15:PMaker)=>some (s15,IntKind.i64.wrap ((s15.l.length:Int) - 1)))
def zcZ.g (zdQ:Tb→List Hyp→PTerm→Int→Option (Tb × List Ln × Int)) (a0:PMaker) (a1:List Hyp) (a2:PTerm) (a3:Int):Option (PMaker × Int) :=
 if decide (a0.bad ≠ 0) then some (a0,0) else (zdQ a0.t a1 a2 a3).bind fun r10=>(zcY.f (⟨r10.1,a0.l,a0.bad⟩ : PMaker) r10.2.1 r10.2.2).bind fun r19=>some (r19.1,r19.2)
def zda.g (zdQ:Tb→List Hyp→PTerm→Int→Option (Tb × List Ln × Int)) (a0:PMaker) (a1:List Hyp) (a2:ByteArray) (a3:Int) (a4:PTerm) (a5:Int):Option (PMaker × Int) :=
 if decide (a0.bad ≠ 0) then some (a0,0) else (zcX.f a1 a2 a3).bind fun r10=>(zdQ a0.t r10 a4 a5).bind fun r14=>if decide (r14.2.2=0) then (zcs.f r14.1 r14.2.1 a3).bind fun r30=>(zcY.f (⟨r30.1,a0.l,a0.bad⟩ : PMaker) r30.2.1 r30.2.2).bind fun r34=>some (r34.1,r34.2) else (zcY.f (⟨r14.1,a0.l,a0.bad⟩ : PMaker) r14.2.1 r14.2.2).bind fun r37=>some (r37.1,r37.2)
def zdb.g (zdQ:Tb→List Hyp→PTerm→Int→Option (Tb × List Ln × Int)) (k:Nat) (a0:PMaker) (a1:List Hyp) (a2:PTerm):Option (PMaker × Int × Int) :=
 if decide (a0.bad ≠ 0) then some (a0,0,0) else (zcW.f k a0.t a1 a2).bind fun r10=>(zcZ.g zdQ a0 a1 a2 r10.1).bind fun r12=>some (r12.1,r10.1,r12.2)
def zdc.f (a0:PMaker) (a1:Int):Option (PMaker × Nd) :=
 (zbA.f a0.t a1).bind fun r6=>some (a0,r6.1)
def zdd.g (zdQ:Tb→List Hyp→PTerm→Int→Option (Tb × List Ln × Int)) (k:Nat) (a0:PMaker) (a1:List Hyp) (a2:PTerm) (a3:Int) (a4:Int):Option PMaker :=
 chk (inb 0 a2.sub.length) ((zdb.g zdQ k a0 a1 (at_ PTerm.z a2.sub 0)).bind fun r6=>(zcm.f r6.1 r6.2.1 a3).bind fun r9=>(zcp.f r9.1 a4 r9.2).bind fun r12=>(zco.f r12.1 r12.2 r6.2.2).bind fun r15=>some r15.1)
def zde.g (zdQ:Tb→List Hyp→PTerm→Int→Option (Tb × List Ln × Int)) (k:Nat) (a0:Tb) (a1:List Hyp) (a2:PTerm) (a3:Int):Option (Tb × List Ln × Int) :=
 (zdc.f (⟨a0,([]:List Ln),0⟩ : PMaker) a3).bind fun r5=>(if decide (a2.kind=1) then (zcp.f r5.1 10 a3).bind fun r13=>some (r13.1) else if decide (a2.kind=11) then chk (inb 0 a2.sub.length) ((zcZ.g zdQ r5.1 a1 (at_ PTerm.z a2.sub 0) a3).bind fun r20=>some (r20.1)) else if decide (a2.kind=2) then chk (inb 0 a2.sub.length) ((zda.g zdQ r5.1 a1 a2.name r5.2.l (at_ PTerm.z a2.sub 0) r5.2.r).bind fun r28=>some (r28.1)) else if decide (a2.kind=3) then chk (inb 0 a2.sub.length) ((zdb.g zdQ k r5.1 a1 (at_ PTerm.z a2.sub 0)).bind fun r35=>chk (inb 1 a2.sub.length) ((zdc.f r35.1 r35.2.1).bind fun r40=>(zcZ.g zdQ r40.1 a1 (at_ PTerm.z a2.sub 1) r40.2.l).bind fun r50=>(zco.f r50.1 r35.2.2 r50.2).bind fun r53=>some (r53.1))) else if decide (a2.kind=4) then chk (inb 0 a2.sub.length) ((zcZ.g zdQ r5.1 a1 (at_ PTerm.z a2.sub 0) r5.2.l).bind fun r61=>chk (inb 1 a2.sub.length) ((zcZ.g zdQ r61.1 a1 (at_ PTerm.z a2.sub 1) r5.2.r).bind fun r68=>(zcm.f r68.1 r5.2.r a3).bind fun r71=>(zcm.f r71.1 r5.2.l r71.2).bind fun r74=>(zcp.f r74.1 5 r74.2).bind fun r85=>(zco.f r85.1 r85.2 r61.2).bind fun r88=>(zco.f r88.1 r88.2 r68.2).bind fun r91=>some (r91.1))) else if decide (a2.kind=5) then (zdd.g zdQ k r5.1 a1 a2 a3 3).bind fun r95=>some (r95) else if decide (a2.kind=6) then (zdd.g zdQ k r5.1 a1 a2 a3 4).bind fun r99=>some (r99) else if decide (a2.kind=10) then (zdd.g zdQ k r5.1 a1 a2 a3 9).bind fun r103=>some (r103) else if decide (a2.kind=7) then chk (inb 0 a2.sub.length) ((zcZ.g zdQ r5.1 a1 (at_ PTerm.z a2.sub 0) r5.2.l).bind fun r111=>(zcm.f r111.1 r5.2.l a3).bind fun r114=>(zcp.f r114.1 6 r114.2).bind fun r117=>(zco.f r117.1 r117.2 r111.2).bind fun r120=>some (r120.1)) else if decide (a2.kind=8) then chk (inb 0 a2.sub.length) ((zcZ.g zdQ r5.1 a1 (at_ PTerm.z a2.sub 0) r5.2.r).bind fun r128=>(zcm.f r128.1 r5.2.r a3).bind fun r131=>(zcp.f r131.1 7 r131.2).bind fun r134=>(zco.f r134.1 r134.2 r128.2).bind fun r137=>some (r137.1)) else if decide (a2.kind=9) then chk (inb 0 a2.sub.length) ((zdb.g zdQ k r5.1 a1 (at_ PTerm.z a2.sub 0)).bind fun r144=>(zdc.f r144.1 r144.2.1).bind fun r147=>chk (inb 1 a2.sub.length) ((zda.g zdQ r147.1 a1 a2.name r147.2.l (at_ PTerm.z a2.sub 1) a3).bind fun r157=>chk (inb 2 a2.sub.length) ((zda.g zdQ r157.1 a1 a2.other r147.2.r (at_ PTerm.z a2.sub 2) a3).bind fun r164=>(zcm.f r164.1 r147.2.l a3).bind fun r167=>(zcm.f r167.1 r147.2.r a3).bind fun r175=>(zcm.f r175.1 r144.2.1 a3).bind fun r178=>(zcm.f r178.1 r175.2 r178.2).bind fun r181=>(zcm.f r181.1 r167.2 r181.2).bind fun r184=>(zcp.f r184.1 8 r184.2).bind fun r187=>(zco.f r187.1 r187.2 r157.2).bind fun r190=>(zco.f r190.1 r190.2 r164.2).bind fun r193=>(zco.f r193.1 r193.2 r144.2.2).bind fun r196=>some (r196.1)))) else if decide (a2.kind=12) then chk (inb 0 a2.sub.length) ((zdb.g zdQ k r5.1 a1 (at_ PTerm.z a2.sub 0)).bind fun r203=>chk (inb 1 a2.sub.length) ((zda.g zdQ r203.1 a1 a2.name r203.2.1 (at_ PTerm.z a2.sub 1) a3).bind fun r208=>(zco.f r208.1 r208.2 r203.2.2).bind fun r217=>some (r217.1))) else some (r5.1)).bind fun (o11:PMaker)=>some (o11.t,o11.l,o11.bad)
def zde.f:Nat→Tb→List Hyp→PTerm→Int→Option (Tb × List Ln × Int)
 | 0=>fun _ _ _ _=>none
 | k + 1=>zde.g (zde.f k) k
def zdf.f (k:Nat) (a0:Tb) (a1:List Hyp) (a2:PTerm) (a3:Int):Option (Tb × List Ln × Int) :=
 (zcV.f k a0 a1 a2 a3).bind fun r3=>if decide (r3 ≠ 0) then some (a0,([]:List Ln),r3) else (zbB.f a0).bind fun r7=>(zbR.f a1).bind fun r10=>(zde.f k a0 r10 a2 a3).bind fun r14=>(zct.f r14.1 r7 r14.2.1 r14.2.2).bind fun r26=>some (r26.1,r26.2.1,r26.2.2)
end
end Go.Proofs.YtflieamjacclnaaGreatDoor
section
namespace Go.Proofs
open Go.Shelf Go.RowKit Go.Sort Go.Lib
def Tryz.laysM171_ren:Go.Shelf.Ren:=⟨fun | 171=>96 | 243=>118 | 246=>138 | 283=>152 | 284=>153 | 285=>154 | 286=>155 | 129=>164 | 317=>163 | 318=>165 | 319=>166 | 320=>167 | 337=>169 | 338=>170 | n=>n,fun | 3=>3 | 9=>9 | 2=>2 | 4=>4 | 171=>223 | 0=>0 | 53=>144 | 37=>145 | 5=>5 | 173=>226 | 212=>247 | 51=>248 | 20=>20 | 213=>249 | 46=>250 | 232=>254 | 233=>255 | n=>n,fun | 17=>1 | 18=>2 | 19=>3 | n=>n⟩
theorem Tryz.laysM171:Go.Proofs.LaysM.n171 Tryz.prog Tryz.laysM171_ren:={
 mixed:=by kernel_rfl
 f129:=Tryz.func164.trans (congrArg some (by kernel_rfl))
 f171:=Tryz.func96.trans (congrArg some (by kernel_rfl))
 f243:=Tryz.func118.trans (congrArg some (by kernel_rfl))
 f246:=Tryz.func138.trans (congrArg some (by kernel_rfl))
 f283:=Tryz.func152.trans (congrArg some (by kernel_rfl))
 f284:=Tryz.func153.trans (congrArg some (by kernel_rfl))
 f285:=Tryz.func154.trans (congrArg some (by kernel_rfl))
 f286:=Tryz.func155.trans (congrArg some (by kernel_rfl))
 f317:=Tryz.func163.trans (congrArg some (by kernel_rfl))
 f318:=Tryz.func165.trans (congrArg some (by kernel_rfl))
 f319:=Tryz.func166.trans (congrArg some (by kernel_rfl))
 f320:=Tryz.func167.trans (congrArg some (by kernel_rfl))
 f337:=Tryz.func169.trans (congrArg some (by kernel_rfl))
 f338:=Tryz.func170.trans (congrArg some (by kernel_rfl))
 t0:=Tryz.underlying0
 a0:=Tryz.isAgg0
 z0:=Tryz.sizeOf0
 v0:=Tryz.zeroValue0
 t2:=Tryz.underlying2
 a2:=Tryz.isAgg2
 z2:=Tryz.sizeOf2
 v2:=Tryz.zeroValue2
 t3:=Tryz.underlying3
 a3:=Tryz.isAgg3
 z3:=Tryz.sizeOf3
 v3:=Tryz.zeroValue3
 t4:=Tryz.underlying4
 a4:=Tryz.isAgg4
 z4:=Tryz.sizeOf4
 v4:=Tryz.zeroValue4
 t5:=Tryz.underlying5
 a5:=Tryz.isAgg5
 z5:=Tryz.sizeOf5
 v5:=Tryz.zeroValue5
 t9:=Tryz.underlying9
 a9:=Tryz.isAgg9
 z9:=Tryz.sizeOf9
 v9:=Tryz.zeroValue9
 t20:=Tryz.underlying20
 a20:=Tryz.isAgg20
 z20:=Tryz.sizeOf20
 v20:=Tryz.zeroValue20
 t37:=Tryz.underlying145
 a37:=Tryz.isAgg145
 z37:=Tryz.sizeOf145
 v37:=Tryz.zeroValue145
 t46:=Tryz.underlying250
 a46:=Tryz.isAgg250
 z46:=Tryz.sizeOf250
 v46:=Tryz.zeroValue250
 t51:=Tryz.underlying248
 a51:=Tryz.isAgg248
 z51:=Tryz.sizeOf248
 v51:=Tryz.zeroValue248
 t53:=Tryz.underlying144
 a53:=Tryz.isAgg144
 z53:=Tryz.sizeOf144
 v53:=Tryz.zeroValue144
 t171:=Tryz.underlying223
 a171:=Tryz.isAgg223
 z171:=Tryz.sizeOf223
 v171:=Tryz.zeroValue223
 t173:=Tryz.underlying226
 a173:=Tryz.isAgg226
 z173:=Tryz.sizeOf226
 v173:=Tryz.zeroValue226
 t212:=Tryz.underlying247
 a212:=Tryz.isAgg247
 z212:=Tryz.sizeOf247
 v212:=Tryz.zeroValue247
 t213:=Tryz.underlying249
 a213:=Tryz.isAgg249
 z213:=Tryz.sizeOf249
 t232:=Tryz.underlying254
 a232:=Tryz.isAgg254
 z232:=Tryz.sizeOf254
 v232:=Tryz.zeroValue254
 t233:=Tryz.underlying255
 a233:=Tryz.isAgg255
 z233:=Tryz.sizeOf255
 v233:=Tryz.zeroValue255
 g17:=by kernel_rfl
 g18:=by kernel_rfl
 g19:=by kernel_rfl
 i0:=by kernel_rfl
 i2:=by kernel_rfl
 i3:=by kernel_rfl
 i4:=by kernel_rfl
 i5:=by kernel_rfl
 i9:=by kernel_rfl
 i20:=by kernel_rfl
 i37:=by kernel_rfl
 i46:=by kernel_rfl
 i51:=by kernel_rfl
 i53:=by kernel_rfl
 i171:=by kernel_rfl
 i173:=by kernel_rfl
 i212:=by kernel_rfl
 i232:=by kernel_rfl
 i233:=by kernel_rfl
 m17:=by kernel_rfl
 m18:=by kernel_rfl
 m19:=by kernel_rfl }
theorem Tryz.strconv_Itoa (n:Int) (h0 : -9223372036854775808 ≤ n) (h1:n ≤ 9223372036854775807) (w:World) (htab:Lib.TabIs Tryz.prog w "internal/strconv.uint64pow10" .u64 Lib.pow10Tab) :
  Calls Tryz.prog 96 #[.int .i64 n] w fun e w'=>e = .returned (.string ⟨(Lib.itoa n).toArray⟩) ∧ ∃ k os,w'=grow (w.drewN k) os:=Any.strconv_Itoa Tryz.laysM171 n h0 h1 w htab
end Go.Proofs
end
namespace Go.Proofs.YtflieamjacclnaaGreatDoor
section
open Gw Go.RowKit
theorem vX {P:Program} {f:Fr} {w:World} {d:Option Tmp} {ty:TypeId} {pos:String} {af:Array Edge} {gd:Option (Nat × Bool)} {t u:TypeId} {x y:Operand} {a b:ByteArray} (hx:evF f x = .string a) (hy:evF f y = .string b) (hl:a.size + b.size ≤ 1000000):Does P ⟨d,.binOp .add t x y u,ty,pos,af,gd⟩ f w (.string (a ++ b)) w:=by
 have h:(binOp .add t (.string a) (.string b)).run P w = .ok (.string (a ++ b)) w:=by
  simp only [binOp]
  exact run_string_add (w:=w) a b zbw zbw
 simp only [Does,execOp,hx,hy,Sem.run_bind,jL,Result.andThen_ok,h,Sem.run_pure]
abbrev F_strconv_Itoa:FuncId:=96
theorem ca_strconv_Itoa:zK PP F_strconv_Itoa:=⟨_,Tryz.func96,rfl,rfl⟩
def decK:Nat→Nat→List UInt8
 | 0,_=>[]
 | k + 1,u=>if u < 10 then [UInt8.ofNat (48 + u)] else decK k (u / 10) ++ [UInt8.ofNat (48 + u % 10)]
theorem decK_eq : ∀ (k u:Nat),u < 10 ^ (k + 1)→decK (k + 1) u=Lib.decDigits u
 | 0,u,h=>by
  have h1:u < 10:=by simpa using h
  rw [Lib.decDigits_one h1]; simp [decK,h1]
 | k + 1,u,h=>by
  rw [Lib.decDigits,decK]
  by_cases h1:u < 10
  ·rw [if_pos h1,dif_pos h1]
  ·rw [if_neg h1,dif_neg h1,decK_eq k (u / 10) (by rw [Nat.pow_succ] at h; omega)]
def decN (n:Int):ByteArray:=⟨(if n < 0 then 45 :: decK 20 n.natAbs else decK 20 n.toNat).toArray⟩
theorem decN_eq {n:Int} (h0 : -9223372036854775808 ≤ n) (h1:n ≤ 9223372036854775807):decN n=⟨(Lib.itoa n).toArray⟩ := by
 unfold decN Lib.itoa
 rw [decK_eq 19 _ zbw,decK_eq 19 _ zbw]
def Pw (w:World):Prop:=Lib.TabIs PP w "internal/strconv.uint64pow10" .u64 Lib.pow10Tab
theorem gPw:PP.globalNamed "internal/strconv.uint64pow10" = some 1:=by kernel_rfl
theorem Pw.lt {w:World} (h:Pw w):1 < w.heap.size:=by
 unfold Pw Lib.TabIs World.var? at h
 rw [gPw] at h
 rcases Nat.lt_or_ge 1 w.heap.size with q | q
 ·exact q
 ·rw [Option.bind_some,Array.getElem?_eq_none q] at h; simp at h
theorem Pw.chg {S:Nat→Prop} {w w':World} (h:Pw w) (hc:Chg S w w') (hs:¬ S 1):Pw w':=by
 have hl:=h.lt
 unfold Pw Lib.TabIs World.var? at *
 rw [gPw] at h ⊢
 rw [Option.bind_some] at h ⊢
 rw [hc.block _ hl hs]; exact h
def oPw:OA where
 holds:=fun w F=>Pw w ∧ ∀ i,F i↔i=1
 loc:=fun h hc hs=>⟨h.1.chg hc (hs _ ((h.2 _).2 rfl)),h.2⟩
 lt:=fun {w F} h i hi=>by rw [(h.2 i).1 hi]; exact h.1.lt
theorem Gw.St.pw {A:Nat→Prop} {N:Oth} {w0 w:World} {L Z:List OA} (h:St A N w0 w L Z) (k:Nat) (e:Z[k]? = some oPw:=by rfl):Pw w:=(h.frz k e).elim fun _ q=>q.1
theorem grow_ext (w:World) (k:Nat) (os:Array Obj):Ext w (Go.Sort.grow (w.drewN k) os) :=
 ⟨rfl,rfl,rfl,by show w.heap.size ≤ (w.heap ++ os).size; simp,fun i hi _=>Array.getElem?_append_left hi,fun a ha=>by
  unfold World.frozen?
  rw [show (Go.Sort.grow (w.drewN k) os).heap[a.block]? = w.heap[a.block]? from Array.getElem?_append_left ha]⟩
def strconv_Itoa.f (n:Int):Option ByteArray:=chk (decide (-9223372036854775808 ≤ n) && decide (n ≤ 9223372036854775807)) (some (decN n))
theorem strconv_Itoa_st {A:Nat→Prop} {N:Oth} {w:World} {n:Int} (S:St A N w w [] [oPw]) {r:ByteArray} (H:strconv_Itoa.f n=some r):Calls PP F_strconv_Itoa #[.int .i64 n] w fun e w' => ∃ v,e = .returned v∧(v = .string r∧St A N w w' [] []):=by
 obtain ⟨hc,H⟩ := xm H
 obtain rfl:=zbz H
 simp only [Bool.and_eq_true,decide_eq_true_eq] at hc
 refine (Go.Proofs.Tryz.strconv_Itoa n hc.1 hc.2 w (S.pw 0)).mono fun e w' q=>?_
 obtain ⟨rfl,k,os,rfl⟩ := q
 exact ⟨_,rfl,by rw [decN_eq hc.1 hc.2],(S.ext (grow_ext w k os)).zs []⟩
end
section
open Go.RowKit
namespace Gw
def bodyQ2 {σ ρ γ γ':Type} (A:Nat→Prop) (w0:World) (L:σ→γ→List OA) (Lr:ρ→γ'→List OA) (Zf:σ→γ→List OA) (Zr:ρ→γ'→List OA) (br:Bool) (bid:Nat) (N':Oth) (q:Stp σ ρ):Post:=fun _ e _ w=>match e with
 | .normal => ∃ s',q = .go s' ∧ ∃ c,St A N' w0 w (L s' c) (Zf s' c)
 | .ret => ∃ r,q = .ret r ∧ ∃ c,St A N' w0 w (Lr r c) (Zr r c)
 | .exit id=>br=true∧id=bid ∧ ∃ s',q = .brk s' ∧ ∃ c,St A N' w0 w (L s' c) (Zf s' c)
 | _=>False
section
variable {P:Program} {n:Nat} {dm:List Nat} {Q:Post} {f:Fr} {w:World}
theorem wc_rangeSt2 {g:Operand} {p p2:Tmp} {assign body:Code} {k:FuncId} {fi ca:Array Value} {Inv:World→Prop} {α σ ρ γ γ':Type} {enc enc2:α→Value} {xs:List α} {bd:α→σ→Option (Stp σ ρ)} {o:σ ⊕ ρ} {s0:σ} {A:Nat→Prop} {N:Oth} {w0:World} {L:σ→γ→List OA} {Lr:ρ→γ'→List OA} {Zf:σ→γ→List OA} {Zr:ρ→γ'→List OA} (c0:γ) (br:Bool) (bid:Nat)
  (hg:evF f g = .func (.func k) fi ca) (hk:zK P k) (hs:Gives P k (fun y=>fi.toList ++ [y] ++ ca.toList) Inv (xs.map fun x=>[enc x,enc2 x])) (hp:p < n) (hp2:p2 < n)
  (hInv : ∀ N' s c W,St A N' w0 W (L s c) (Zf s c)→Inv W) (S:St A N w0 w (L s0 c0) (Zf s0 c0)) (e:forE bd xs s0=some o)
  (hr : ∀ x s c q N' rd u,bd x s=some q→St A N' w0 u (L s c) (Zf s c)→wc P rd n [] assign (thenP (fun dm' f1 w1=>dm'=[] ∧ ∃ La Za,St A N' w0 w1 La Za ∧ ∀ N' w2,St A N' w0 w2 La Za→wc P rd n [] body (bodyQ2 A w0 L Lr Zf Zr br bid N' q) f1 w2) (fun _ _ _ _=>False)) (upd (upd f p (enc x)) p2 (enc2 x)) u)
  (hdone : ∀ s c B W,o = .inl s→St A (N.done B) w0 W (L s c) (Zf s c)→(w0.heap.size ≤ B∧¬ N B∧¬ N (B + 1))→Q (B :: dm) .normal f W)
  (hret : ∀ r c B W,o = .inr r→St A (N.done B) w0 W (Lr r c) (Zr r c)→(w0.heap.size ≤ B∧¬ N B∧¬ N (B + 1))→Q (B :: dm) .ret f W)
  (hbrk:br=true → ∀ s c B W,o = .inl s→St A (N.done B) w0 W (L s c) (Zf s c)→(w0.heap.size ≤ B∧¬ N B∧¬ N (B + 1))→Q (B :: dm) (.exit bid) f W) :
  wc P none n dm (.rangeFunc g #[p,p2] assign body) Q f w:=by
 have hB0 : ∀ B,w.heap.size=B→w0.heap.size ≤ B∧¬ N B∧¬ N (B + 1):=fun B hB=>⟨hB ▸ S.size,fun q=>absurd (S.othlt _ q) zbw,fun q=>absurd (S.othlt _ q) zbw⟩
 generalize hB:w.heap.size=B at *
 have hBB:=hB0 B rfl
 -- what holds between rounds
 let NB:Oth:=N.or (fun i=>i=B∨i=B + 1)
 have drop2 : ∀ {o1 o2:Obj} {W:World} {LL Z:List OA},St A (N.loop B o1 o2) w0 W LL Z→St A NB w0 W LL Z:=fun h=>h.less (fun i hi=>hi) (fun d hd=>h.wats d (List.mem_cons_of_mem _ (List.mem_cons_of_mem _ hd)))
 have watch : ∀ {W W':World} {LL Z:List OA} {o1 o2:Obj},St A NB w0 W LL Z→Chg (· = B + 1) W W'→Ob W' B o1→Ob W' (B + 1) o2→St A (N.loop B o1 o2) w0 W' LL Z:=by
  intro W W' LL Z o1 o2 h hc h1 h2
  refine h.others hc (fun i hi=>⟨by rw [hi]; exact .inr (.inr rfl),by rw [hi]; omega⟩) (fun i hi=>hi) fun d hd=>?_
  rcases List.mem_cons.1 hd with rfl | hd
  ·exact h1
  rcases List.mem_cons.1 hd with rfl | hd
  ·exact h2
  ·exact (h.wats d hd).chg hc (fun (q:d.1=B + 1)=>hBB.2.2 (q ▸ N.ok d hd))
 have turn : ∀ {W W':World} {LL Z:List OA},St A NB w0 W LL Z→Chg (· = B + 1) W W'→St A NB w0 W' LL Z:=by
  intro W W' LL Z h hc
  refine h.others hc (fun i hi=>⟨by rw [hi]; exact .inr (.inr rfl),by rw [hi]; omega⟩) (fun i hi=>hi) fun d hd=>?_
  exact (h.wats d hd).chg hc (fun (q:d.1=B + 1)=>hBB.2.2 (q ▸ N.ok d hd))
 have over : ∀ {W:World} {LL Z:List OA},St A NB w0 W LL Z→Ob W B (.deferred (some []))→St A (N.done B) w0 W LL Z:=by
  intro W LL Z h h1
  refine h.less (fun i hi=>hi) fun d hd=>?_
  rcases List.mem_cons.1 hd with rfl | hd
  ·exact h1
  ·exact h.wats d hd
 refine wc_range (ps:=[p,p2]) B hB hg hk hs (by intro q hq; simp only [List.mem_cons,List.not_mem_nil,or_false] at hq; rcases hq with rfl | rfl <;> assumption) zbx
  (fun i W => ∃ s,forE bd (xs.drop i) s=some o ∧ ∃ c,St A NB w0 W (L s c) (Zf s c))
  (fun c W=>match c with | .ret => ∃ r,o = .inr r ∧ ∃ c,St A NB w0 W (Lr r c) (Zr r c) | .exit id=>br=true∧id=bid ∧ ∃ s,o = .inl s ∧ ∃ c,St A NB w0 W (L s c) (Zf s c) | _=>False)
  (fun i W ⟨s,_,c,h⟩ => hInv _ _ _ _ h) (fun i W W' ⟨s,h1,c,h2⟩ hc=>⟨s,h1,c,turn h2 hc⟩) ?_ ?_ ?_ ?_ ?_
 ·intro c W W' h hc
  cases c with
  | ret=>obtain ⟨r,h1,c,h2⟩ := h; exact ⟨r,h1,c,turn h2 hc⟩
  | exit id=>obtain ⟨hb,h0,s,h1,c,h2⟩ := h; exact ⟨hb,h0,s,h1,c,turn h2 hc⟩
  | _=>exact h
 ·intro w' hx hlt
  refine ⟨s0,by simpa using e,c0,?_⟩
  exact S.more hx (fun i hi=>by rcases hi with rfl | rfl <;> constructor <;> omega)
 ·rintro i x W o1 o2 hxi ⟨s,he,c,h⟩ h1 h2
  rw [List.getElem?_map] at hxi
  cases hq:xs[i]? with
  | none=>rw [hq] at hxi; cases hxi
  | some x0 =>
   rw [hq] at hxi
   obtain rfl:=zbz hxi
   have hlt:i < xs.length:=(List.getElem?_eq_some_iff.1 hq).1
   have hdr:xs.drop i=x0 :: xs.drop (i + 1):=by rw [List.drop_eq_getElem_cons hlt]; congr 1; exact (List.getElem?_eq_some_iff.1 hq).2
   rw [hdr] at he
   obtain ⟨q,hbd,hn⟩ := forE_s he
   refine wc_mono (hr x0 s c q _ _ W hbd (watch h (Chg.refl _ _) h1 h2)) ?_
   rintro dm' ex f1 w1 hp1
   cases ex with
   | normal =>
    obtain ⟨rfl,La,Za,h3,h4⟩ := hp1
    refine ⟨rfl,h3.wats (B,o1) (by simp [Oth.loop]),h3.wats (B + 1,o2) (by simp [Oth.loop]),fun w2 o2' hc h5 h6=>?_⟩
    refine wc_mono (h4 _ w2 (watch (drop2 h3) hc h5 h6)) ?_
    rintro dm2 ex f2 w3 hp2
    cases ex with
    | normal =>
     obtain ⟨s',rfl,c',h7⟩ := hp2
     exact ⟨h7.wats (B,o1) (by simp [Oth.loop]),h7.wats (B + 1,o2') (by simp [Oth.loop]),s',hn,c',drop2 h7⟩
    | ret =>
     obtain ⟨r,rfl,c',h7⟩ := hp2
     exact ⟨h7.wats (B,o1) (by simp [Oth.loop]),h7.wats (B + 1,o2') (by simp [Oth.loop]),r,hn,c',drop2 h7⟩
    | exit id =>
     obtain ⟨hbr,h0,s',rfl,c',h7⟩ := hp2
     exact ⟨h7.wats (B,o1) (by simp [Oth.loop]),h7.wats (B + 1,o2') (by simp [Oth.loop]),hbr,h0,s',hn,c',drop2 h7⟩
    | _=>exact hp2.elim
   | _=>exact hp1.elim
 ·rintro W ⟨s,he,c,h⟩ h1
  rw [List.length_map,List.drop_length] at he
  exact hdone s c B W (forE_0 he) (over h h1) hBB
 ·intro c W h h1
  cases c with
  | ret=>obtain ⟨r,h2,c,h3⟩ := h; exact hret r c B W h2 (over h3 h1) hBB
  | exit id=>obtain ⟨hb,rfl,s,h2,c,h3⟩ := h; exact hbrk hb s c B W h2 (over h3 h1) hBB
  | _=>trivial
end
end Gw
end
section
open Gw Go.RowKit
def bwd {α:Type} (l:List α):List (Int × α):=(l.zipIdx.map fun q=>((q.2:Int),q.1)).reverse
theorem bwd_len {α:Type} (l:List α):(bwd l).length=l.length:=by simp [bwd]
theorem bwd_at {α:Type} {l:List α} {x:Nat} (h:x < l.length):(bwd l)[x]? = some (((l.length - 1 - x:Nat):Int),l[l.length - 1 - x]):=by
 unfold bwd
 rw [List.getElem?_reverse (by simpa using h)]
 simp [List.getElem?_zipIdx,show l.length - 1 - x < l.length by omega]
theorem ki (w:World) (s:SlV):Calls PP ua #[s.v] w fun e w' => ∃ v,e = .returned v∧(∃ c,v = .func (.func y0) #[] #[.pointer (some ⟨c,0,none⟩)]∧Blk w' c T_L_string [s.v]∧w.heap.size ≤ c∧Ext w w'):=by
 refine zz (n:=4) j8 rfl rfl zbx ?_
 have E:=Ext.refl w
 refine zd (za ?_)
 refine wl_box (v:=s.v) rfl (by rw [SlV.cells]) zbv fun b1 w1 h1=>?_
 have l_b1:w.heap.size ≤ b1:=by have:=h1.at_; have:=E.size; omega
 have B1:=h1.blk
 replace E:=E.thenExt h1.ext
 refine zl (zM (v := .nilFunc) rfl) zbv (zb (zd (za (zl (does_funcl) zbv (zl (does_as_f rfl) zbv (zb (zy ?_)))))))
 exact ⟨_,(zS (zg rfl)),b1,rfl,B1,l_b1,E⟩
theorem jj {l:List ByteArray} {s:SlV} (hlen:l.length ≤ 140737488355328) (c:Nat):Gives PP y0 (fun y=>[y,.pointer (some ⟨c,0,none⟩)]) (fun W=>Blk W c T_L_string [s.v]∧Rd W 1 s (l.map SC)) ((bwd l).map fun q=>[Value.int .i64 q.1,.string q.2]):=by
 intro y J Jx W hInv hJ hJx hY h0
 have hat : ∀ i:Nat,((bwd l).map fun q=>[Value.int .i64 q.1,.string q.2])[i]? = ((bwd l)[i]?).map fun q=>[Value.int .i64 q.1,.string q.2]:=by simp
 have hln:((bwd l).map fun q=>[Value.int .i64 q.1,.string q.2]).length=l.length:=by rw [List.length_map,bwd_len]
 rw [hln]
 refine zz (n:=19) jJ rfl rfl zbx (zd (za (zl (zj on_L_string rfl ((hInv _ _ h0).1.cell rfl)) zbv ?_)))
 refine zl (xd yQ rfl (hInv _ _ h0).2) zbv (zl (zaq rfl rfl (c:=(l.length:Int) - 1) rfl zbw zbw) zbv (zl (zi rfl) zbv (zb ?_)))
 refine zO ?_
 refine xN (α:=Nat) [3,7,8,9,10,11,12,13,14,15,16,17,18] (fun x fr W=>fr 3 = .int .i64 ((l.length:Int) - 1 - x)∧J x W∧x ≤ l.length) (fun x=>l.length - x) 0 ⟨by simp [upd_same],h0,by omega⟩ ?_
 rintro x g u ⟨s3,hj,hx⟩
 refine zd (zd (za (zl (zh s3) zbv (zl (vm rfl rfl) zbv (zb ?_)))))
 refine zH rfl (fun hc=>?_) (fun hc=>?_)
 rotate_left
 ·refine xZ ?_
  have h2:=of_decide_eq_false hc
  have e:x=l.length:=by omega
  rw [e] at hj
  exact ⟨_,rets0,.inl hj⟩
 have h2:=of_decide_eq_true hc
 have hxl:x < l.length:=by omega
 have hR:=(hInv _ _ hj).2
 rw [show (l.length:Int) - 1 - x=((l.length - 1 - x:Nat):Int) by omega] at s3
 have hl:l[(((l.length - 1 - x:Nat):Int)).toNat]? = some l[l.length - 1 - x]:=List.getElem?_eq_getElem zbw
 refine zA (zd ?_)
 refine zO (zd (za (zl (zap rfl) zbv (zl (zh s3) zbv (zl (zj on_L_string rfl ((hInv _ _ hj).1.cell rfl)) zbv (zl (zh s3) zbv ?_))))))
 refine zl (zW yQ rfl rfl hR zbw zbw) zbv ?_
 refine zl (zj xt rfl (hR.one hl rfl)) zbv ?_
 refine wl_yield rfl rfl zbv (hY x _ u hj (by rw [hat,bwd_at hxl]; rfl)) ?_ 
 intro yb u2 hyb
 refine zl (xh rfl) zbv (zb ?_)
 refine zH rfl (fun hc2=>?_) (fun hc2=>?_)
 ·refine zy ?_
  rcases hyb with ⟨rfl,_⟩ | ⟨rfl,hjx⟩
  ·cases hc2
  ·exact ⟨_,rets0,.inr hjx⟩
 rcases hyb with ⟨rfl,hj2⟩ | ⟨rfl,_⟩
 rotate_left
 ·cases hc2
 refine zA (za (zl (zh s3) zbv (zl (zaq rfl rfl (c:=(l.length:Int) - 1 - (x + 1:Nat)) zbw zbw zbw) zbv (zl (zi rfl) zbv (zb ?_)))))
 exact ⟨rfl,((((((((((((((Dif.self _ _ _).upd rfl _).upd rfl _).upd rfl _).upd rfl _).upd rfl _).upd rfl _).upd rfl _).upd rfl _).upd rfl _).upd rfl _).upd rfl _).upd rfl _).upd rfl _),x + 1,⟨by simp [upd_same],hj2,by omega⟩,by omega⟩
theorem jt (w:World) (s:SlV):Calls PP vF #[s.v] w fun e w' => ∃ v,e = .returned v∧(∃ c,v = .func (.func yK) #[] #[.pointer (some ⟨c,0,none⟩)]∧Blk w' c yH [s.v]∧w.heap.size ≤ c∧Ext w w'):=by
 refine zz (n:=4) jq rfl rfl zbx ?_
 have E:=Ext.refl w
 refine zd (za ?_)
 refine wl_box (v:=s.v) rfl (by rw [SlV.cells]) zbv fun b1 w1 h1=>?_
 have l_b1:w.heap.size ≤ b1:=by have:=h1.at_; have:=E.size; omega
 have B1:=h1.blk
 replace E:=E.thenExt h1.ext
 refine zl (zM (v := .nilFunc) rfl) zbv (zb (zd (za (zl (does_funcl) zbv (zl (does_as_f rfl) zbv (zb (zy ?_)))))))
 exact ⟨_,(zS (zg rfl)),b1,rfl,B1,l_b1,E⟩
theorem uB {l:List Ln} {s:SlV} (hlen:l.length ≤ 140737488355328) (c:Nat):Gives PP yK (fun y=>[y,.pointer (some ⟨c,0,none⟩)]) (fun W=>Blk W c yH [s.v]∧Rd W 4 s (l.map Ln.C)) ((bwd l).map fun q=>[Value.int .i64 q.1,.agg (Ln.C q.2).toArray]):=by
 intro y J Jx W hInv hJ hJx hY h0
 have hat : ∀ i:Nat,((bwd l).map fun q=>[Value.int .i64 q.1,.agg (Ln.C q.2).toArray])[i]? = ((bwd l)[i]?).map fun q=>[Value.int .i64 q.1,.agg (Ln.C q.2).toArray]:=by simp
 have hln:((bwd l).map fun q=>[Value.int .i64 q.1,.agg (Ln.C q.2).toArray]).length=l.length:=by rw [List.length_map,bwd_len]
 rw [hln]
 refine zz (n:=19) uY rfl rfl zbx (zd (za (zl (zj yJ rfl ((hInv _ _ h0).1.cell rfl)) zbv ?_)))
 refine zl (xd zY rfl (hInv _ _ h0).2) zbv (zl (zaq rfl rfl (c:=(l.length:Int) - 1) rfl zbw zbw) zbv (zl (zi rfl) zbv (zb ?_)))
 refine zO ?_
 refine xN (α:=Nat) [3,7,8,9,10,11,12,13,14,15,16,17,18] (fun x fr W=>fr 3 = .int .i64 ((l.length:Int) - 1 - x)∧J x W∧x ≤ l.length) (fun x=>l.length - x) 0 ⟨by simp [upd_same],h0,by omega⟩ ?_
 rintro x g u ⟨s3,hj,hx⟩
 refine zd (zd (za (zl (zh s3) zbv (zl (vm rfl rfl) zbv (zb ?_)))))
 refine zH rfl (fun hc=>?_) (fun hc=>?_)
 rotate_left
 ·refine xZ ?_
  have h2:=of_decide_eq_false hc
  have e:x=l.length:=by omega
  rw [e] at hj
  exact ⟨_,rets0,.inl hj⟩
 have h2:=of_decide_eq_true hc
 have hxl:x < l.length:=by omega
 have hR:=(hInv _ _ hj).2
 rw [show (l.length:Int) - 1 - x=((l.length - 1 - x:Nat):Int) by omega] at s3
 have hl:l[(((l.length - 1 - x:Nat):Int)).toNat]? = some l[l.length - 1 - x]:=List.getElem?_eq_getElem zbw
 refine zA (zd ?_)
 refine zO (zd (za (zl (zap rfl) zbv (zl (zh s3) zbv (zl (zj yJ rfl ((hInv _ _ hj).1.cell rfl)) zbv (zl (zh s3) zbv ?_))))))
 refine zl (zW zY rfl rfl hR zbw zbw) zbv ?_
 refine zl (zp jM rfl (hR.at hl) (Ln.len _)) zbv ?_
 refine wl_yield rfl rfl zbv (hY x _ u hj (by rw [hat,bwd_at hxl]; rfl)) ?_ 
 intro yb u2 hyb
 refine zl (xh rfl) zbv (zb ?_)
 refine zH rfl (fun hc2=>?_) (fun hc2=>?_)
 ·refine zy ?_
  rcases hyb with ⟨rfl,_⟩ | ⟨rfl,hjx⟩
  ·cases hc2
  ·exact ⟨_,rets0,.inr hjx⟩
 rcases hyb with ⟨rfl,hj2⟩ | ⟨rfl,_⟩
 rotate_left
 ·cases hc2
 refine zA (za (zl (zh s3) zbv (zl (zaq rfl rfl (c:=(l.length:Int) - 1 - (x + 1:Nat)) zbw zbw zbw) zbv (zl (zi rfl) zbv (zb ?_)))))
 exact ⟨rfl,((((((((((((((Dif.self _ _ _).upd rfl _).upd rfl _).upd rfl _).upd rfl _).upd rfl _).upd rfl _).upd rfl _).upd rfl _).upd rfl _).upd rfl _).upd rfl _).upd rfl _).upd rfl _),x + 1,⟨by simp [upd_same],hj2,by omega⟩,by omega⟩
end
section
open Gw
def zdg.f (a0:Int):Option ByteArray :=
 (strconv_Itoa.f a0).bind fun r1=>some r1
def zdh.f (a0:Int):Option ByteArray :=
 (zdg.f a0).bind fun r1=>chk (decide ((⟨#[108]⟩ : ByteArray).size + r1.size ≤ 1000000)) (some ((⟨#[108]⟩ : ByteArray) ++ r1))
def zdi.f (a0:ByteArray):Option PTerm :=
 some (⟨1,a0,ByteArray.empty,0,[]⟩ : PTerm)
def zdj.f (a0:Int) (a1:List PTerm):Option PTerm :=
 some (⟨a0,ByteArray.empty,ByteArray.empty,0,a1⟩ : PTerm)
def zdk.b0  (i7:Int) (y7:ByteArray) (x7_0:PTerm):Option (Stp PTerm Empty) :=
 some (.go (⟨2,y7,ByteArray.empty,0,[x7_0]⟩ : PTerm))
def zdk.f (a0:PTerm) (a1:List ByteArray):Option PTerm :=
 (forE (fun (x:Int × ByteArray) (s:PTerm)=>zdk.b0 x.1 x.2 s) (bwd a1) a0).bind (fin (fun (s7:PTerm)=>some s7) (fun (z:Empty)=>z.elim))
def zdl.f (a0:Int):Option PTerm :=
 (zdi.f (⟨#[97]⟩ : ByteArray)).bind fun r3=>(zdi.f (⟨#[98]⟩ : ByteArray)).bind fun r7=>(zdi.f (⟨#[99]⟩ : ByteArray)).bind fun r11=>if decide (a0=1) then (zdk.f r3 ([(⟨#[97]⟩ : ByteArray),(⟨#[98]⟩ : ByteArray)])).bind fun r28=>some r28 else if decide (a0=2) then (zdj.f 3 ([r3,r11])).bind fun r37=>(zdj.f 3 ([r7,r11])).bind fun r44=>(zdj.f 3 ([r37,r44])).bind fun r51=>(zdk.f r51 ([(⟨#[97]⟩ : ByteArray),(⟨#[98]⟩ : ByteArray),(⟨#[99]⟩ : ByteArray)])).bind fun r86=>some r86 else if decide (a0=3) then (zdj.f 5 ([r3])).bind fun r95=>(zdk.f r95 ([(⟨#[97]⟩ : ByteArray)])).bind fun r102=>some r102 else if decide (a0=4) then (zdj.f 6 ([r3])).bind fun r111=>(zdk.f r111 ([(⟨#[97]⟩ : ByteArray)])).bind fun r118=>some r118 else if decide (a0=5) then (zdj.f 4 ([r3,r7])).bind fun r127=>(zdk.f r127 ([(⟨#[97]⟩ : ByteArray),(⟨#[98]⟩ : ByteArray)])).bind fun r134=>some r134 else if decide (a0=6) then (zdj.f 7 ([r3])).bind fun r143=>(zdk.f r143 ([(⟨#[97]⟩ : ByteArray)])).bind fun r150=>some r150 else if decide (a0=7) then (zdj.f 8 ([r3])).bind fun r159=>(zdk.f r159 ([(⟨#[97]⟩ : ByteArray)])).bind fun r166=>some r166 else if decide (a0=8) then (zdi.f (⟨#[100]⟩ : ByteArray)).bind fun r172=>(zdj.f 3 ([r3,r172])).bind fun r179=>(zdi.f (⟨#[101]⟩ : ByteArray)).bind fun r183=>(zdj.f 3 ([r7,r183])).bind fun r190=>(zdj.f 9 ([r11,r179,r190])).bind fun r197=>(zdk.f (⟨r197.kind,(⟨#[100]⟩ : ByteArray),(⟨#[101]⟩ : ByteArray),r197.form,r197.sub⟩ : PTerm) ([(⟨#[97]⟩ : ByteArray),(⟨#[98]⟩ : ByteArray),(⟨#[99]⟩ : ByteArray)])).bind fun r244=>some r244 else (zdj.f 10 ([r3])).bind fun r252=>(zdk.f r252 ([(⟨#[97]⟩ : ByteArray)])).bind fun r259=>some r259
def zdm.b0  (i25:Int) (y25:Ln) (x25_0:PTerm):Option (Stp PTerm Empty) :=
 (if decide (y25.kind=10) then (zdg.f y25.form).bind fun r35=>chk (decide ((⟨#[104]⟩ : ByteArray).size + r35.size ≤ 1000000)) ((zdi.f ((⟨#[104]⟩ : ByteArray) ++ r35)).bind fun r39=>some (r39)) else if decide (y25.kind=11) then (zdh.f y25.a).bind fun r47=>(zdi.f r47).bind fun r50=>(zdh.f y25.b).bind fun r65=>(zdi.f r65).bind fun r68=>(zdj.f 3 ([r50,r68])).bind fun r75=>some (r75) else (zdl.f y25.kind).bind fun r80=>(zdj.f 11 ([r80])).bind fun r87=>some ((⟨r87.kind,r87.name,r87.other,y25.form,r87.sub⟩ : PTerm))).bind fun (o32:PTerm)=>(zdh.f i25).bind fun r96=>some (.go (⟨12,r96,ByteArray.empty,0,[o32,x25_0]⟩ : PTerm))
def zdm.f (k:Nat) (a0:Tb) (a1:List Int) (a2:List Ln):Option (Tb × PTerm × Int) :=
 (zcj.f k a0 a1 a2).bind fun r3=>if decide (r3.2 ≠ 0) then some (r3.1,(⟨0,ByteArray.empty,ByteArray.empty,0,[]⟩ : PTerm),r3.2) else if decide (1024 < (a2.length:Int)) then some (r3.1,(⟨0,ByteArray.empty,ByteArray.empty,0,[]⟩ : PTerm),150) else (zdh.f (IntKind.i64.wrap ((a2.length:Int) - 1))).bind fun r13=>(zdi.f r13).bind fun r16=>(forE (fun (x:Int × Ln) (s:PTerm)=>zdm.b0 x.1 x.2 s) (bwd a2) r16).bind (fin (fun (s25:PTerm)=>(zbN.f s25).bind fun r115=>(if (!(decide (65536 < r115))) then zcz.f k s25 else some 0).bind fun r118=>if (decide (65536 < r115)) || (decide (1024 < r118)) then some (r3.1,(⟨0,ByteArray.empty,ByteArray.empty,0,[]⟩ : PTerm),150) else some (r3.1,s25,0)) (fun (z:Empty)=>z.elim))
end
section
open Gw
def zdn.f (a0:Tb) (a1:ByteArray):Option (Tb × Int × Int) :=
 (zbE.f a0 ({ Nd.z with kind:=1,name:=a1 })).bind fun r1=>some (r1.1,r1.2.1,r1.2.2)
def zdo.f (a0:Int):Option Int :=
 some a0
def zdp.b0 (a0:PTerm) (a1:PTerm) (zdS:PTerm→PTerm→Option Bool) (x6_0:Int):Option (Stp Int Bool) :=
 if decide (x6_0 < (a0.sub.length:Int)) then chk (inb x6_0 a0.sub.length) (chk (inb x6_0 a1.sub.length) ((zdS (at_ PTerm.z a0.sub x6_0) (at_ PTerm.z a1.sub x6_0)).bind fun r15=>if !r15 then some (.ret false) else some (.go (IntKind.i64.wrap (x6_0 + 1))))) else some (.brk x6_0)
def zdp.g (zdS:PTerm→PTerm→Option Bool) (k:Nat) (a0:PTerm) (a1:PTerm):Option Bool :=
 if ((((decide (a0.kind ≠ a1.kind)) || (decide (a0.name ≠ a1.name))) || (decide (a0.other ≠ a1.other))) || (decide (a0.form ≠ a1.form))) || (decide ((a0.sub.length:Int) ≠ (a1.sub.length:Int))) then some false else (iter (fun s=>zdp.b0 a0 a1 zdS s) k 0).bind (aft fun (s6:Int)=>some true)
def zdp.f:Nat→PTerm→PTerm→Option Bool
 | 0=>fun _ _=>none
 | k + 1=>zdp.g (zdp.f k) k
def zdq.b0 (a1:List Ln) (a0:List Ln) (i2:Int):Option (Stp Unit Bool) :=
 chk (inb i2 a1.length) (if !decide (at_ Ln.z a0 i2=at_ Ln.z a1 i2) then some (.ret false) else some (.go ()))
def zdq.f (a0:List Ln) (a1:List Ln):Option Bool :=
 if decide ((a0.length:Int) ≠ (a1.length:Int)) then some false else (forN (fun i s=>zdq.b0 a1 a0 i) ((a0.length:Int) - 0).toNat 0 ()).bind (aft fun (s2:Unit)=>some true)
def zdr.f (k:Nat)  : Option Bool :=
 (zbI.f).bind fun r1=>(zdn.f r1 (⟨#[112]⟩ : ByteArray)).bind fun r5=>(zbD.f r5.1 r5.2.1 r5.2.1).bind fun r8=>(zcu.f k r8.1 ([r5.2.1]) ([{ Ln.z with kind:=10,form:=r5.2.1 }]) r5.2.1).bind fun r17=>(zdf.f k r17.1 ([]) (⟨2,(⟨#[120]⟩ : ByteArray),ByteArray.empty,0,[(⟨1,(⟨#[120]⟩ : ByteArray),ByteArray.empty,0,[]⟩ : PTerm)]⟩ : PTerm) r8.2.1).bind fun r24=>(zck.f k r24.1 ([]) r17.2.1).bind fun r28=>(zdm.f k r28.1 ([r5.2.1]) ([{ Ln.z with kind:=10,form:=r5.2.1 }])).bind fun r37=>if decide ((r17.2.1.length:Int) ≠ 5) then some false else chk (inb 3 r17.2.1.length) ((zch.f k r37.1 1 ((at_ Ln.z r17.2.1 3).form)).bind fun r46=>(zdo.f r17.2.2).bind fun r55=>(if (decide (r55=0)) then zdo.f r24.2.2 else some 0).bind fun r58=>(if ((decide (r55=0)) && (decide (r58=0))) then zdq.f r17.2.1 r24.2.1 else some false).bind fun r60=>(if (((decide (r55=0)) && (decide (r58=0))) && r60) then zdo.f r28.2.2 else some 0).bind fun r62=>(if (((((decide (r55=0)) && (decide (r58=0))) && r60) && (decide (r62=0))) && (decide (r28.2.1=r8.2.1))) then zdo.f r37.2.2 else some 0).bind fun r64=>(if ((((((decide (r55=0)) && (decide (r58=0))) && r60) && (decide (r62=0))) && (decide (r28.2.1=r8.2.1))) && (decide (r64=0))) then zdp.f k r37.2.1 (⟨12,(⟨#[108,48]⟩ : ByteArray),ByteArray.empty,0,[(⟨1,(⟨#[104,48]⟩ : ByteArray),ByteArray.empty,0,[]⟩ : PTerm),(⟨1,(⟨#[108,48]⟩ : ByteArray),ByteArray.empty,0,[]⟩ : PTerm)]⟩ : PTerm) else some false).bind fun r66=>(if (((((((decide (r55=0)) && (decide (r58=0))) && r60) && (decide (r62=0))) && (decide (r28.2.1=r8.2.1))) && (decide (r64=0))) && r66) then zdo.f r46.2.2 else some 0).bind fun r68=>(if (((((((((decide (r55=0)) && (decide (r58=0))) && r60) && (decide (r62=0))) && (decide (r28.2.1=r8.2.1))) && (decide (r64=0))) && r66) && (decide (r68=0))) && r46.2.1) then zcj.f k r46.1 ([]) ([]) else some (r46.1,0)).bind fun r70=>(if (((((((((decide (r55=0)) && (decide (r58=0))) && r60) && (decide (r62=0))) && (decide (r28.2.1=r8.2.1))) && (decide (r64=0))) && r66) && (decide (r68=0))) && r46.2.1) then zdo.f r70.2 else some 0).bind fun r73=>some ((((((((((decide (r55=0)) && (decide (r58=0))) && r60) && (decide (r62=0))) && (decide (r28.2.1=r8.2.1))) && (decide (r64=0))) && r66) && (decide (r68=0))) && r46.2.1) && (decide (r73=160))))
end
section
open Gw
def zds.f (a0:List Nd):Option (Tb × Tb) :=
 (zca.f a0).bind fun r1=>if !r1.2.2 then (zbI.f).bind fun r7=>some (r7,(some [])) else some (r1.1,r1.2.1)
def zdt.f (a0:Tb) (a1:Tb):Option Bool :=
 (zbZ.f a0 a1).bind fun r1=>some r1
end
section
open Gw
def zdu.f (a0:Tb) (a1:Int):Option (Int × Int × Bool) :=
 chk a0.isSome (chk (inb a1 (a0.getD []).length) (some ((at_ Nd.z (a0.getD []) a1).l,(at_ Nd.z (a0.getD []) a1).r,decide ((at_ Nd.z (a0.getD []) a1).kind=5))))
def zdv.f (a0:Tb) (a1:Int) (a2:Int):Option Bool :=
 (zdu.f a0 a2).bind fun r1=>if !r1.2.2 then some false else (zdu.f a0 r1.2.1).bind fun r5=>chk a0.isSome (chk (inb r1.1 (a0.getD []).length) (chk (inb r1.2.1 (a0.getD []).length) (if decide (a1=1) then some (r5.2.2 && (decide (r5.2.1=r1.1))) else if decide (a1=2) then chk (!(!((!r5.2.2) || (decide ((at_ Nd.z (a0.getD []) r1.1).kind ≠ 5)))) || (inb ((at_ Nd.z (a0.getD []) r1.1).r) (a0.getD []).length)) (chk (!(!(((!r5.2.2) || (decide ((at_ Nd.z (a0.getD []) r1.1).kind ≠ 5))) || (decide ((at_ Nd.z (a0.getD []) ((at_ Nd.z (a0.getD []) r1.1).r)).kind ≠ 5)))) || (inb r5.1 (a0.getD []).length)) (chk (!(!((((!r5.2.2) || (decide ((at_ Nd.z (a0.getD []) r1.1).kind ≠ 5))) || (decide ((at_ Nd.z (a0.getD []) ((at_ Nd.z (a0.getD []) r1.1).r)).kind ≠ 5))) || (decide ((at_ Nd.z (a0.getD []) r5.1).kind ≠ 5)))) || (inb r5.2.1 (a0.getD []).length)) (if ((((!r5.2.2) || (decide ((at_ Nd.z (a0.getD []) r1.1).kind ≠ 5))) || (decide ((at_ Nd.z (a0.getD []) ((at_ Nd.z (a0.getD []) r1.1).r)).kind ≠ 5))) || (decide ((at_ Nd.z (a0.getD []) r5.1).kind ≠ 5))) || (decide ((at_ Nd.z (a0.getD []) r5.2.1).kind ≠ 5)) then some false else chk (inb r5.1 (a0.getD []).length) (chk (!(decide ((at_ Nd.z (a0.getD []) r5.1).l=(at_ Nd.z (a0.getD []) r1.1).l)) || (inb r5.2.1 (a0.getD []).length)) (chk (!((decide ((at_ Nd.z (a0.getD []) r5.1).l=(at_ Nd.z (a0.getD []) r1.1).l)) && (decide ((at_ Nd.z (a0.getD []) r5.2.1).l=(at_ Nd.z (a0.getD []) r1.1).l))) || (inb r5.1 (a0.getD []).length)) (chk (!((decide ((at_ Nd.z (a0.getD []) r5.1).l=(at_ Nd.z (a0.getD []) r1.1).l)) && (decide ((at_ Nd.z (a0.getD []) r5.2.1).l=(at_ Nd.z (a0.getD []) r1.1).l))) || (inb ((at_ Nd.z (a0.getD []) r1.1).r) (a0.getD []).length)) (chk (!(((decide ((at_ Nd.z (a0.getD []) r5.1).l=(at_ Nd.z (a0.getD []) r1.1).l)) && (decide ((at_ Nd.z (a0.getD []) r5.2.1).l=(at_ Nd.z (a0.getD []) r1.1).l))) && (decide ((at_ Nd.z (a0.getD []) r5.1).r=(at_ Nd.z (a0.getD []) ((at_ Nd.z (a0.getD []) r1.1).r)).l))) || (inb r5.2.1 (a0.getD []).length)) (chk (!(((decide ((at_ Nd.z (a0.getD []) r5.1).l=(at_ Nd.z (a0.getD []) r1.1).l)) && (decide ((at_ Nd.z (a0.getD []) r5.2.1).l=(at_ Nd.z (a0.getD []) r1.1).l))) && (decide ((at_ Nd.z (a0.getD []) r5.1).r=(at_ Nd.z (a0.getD []) ((at_ Nd.z (a0.getD []) r1.1).r)).l))) || (inb ((at_ Nd.z (a0.getD []) r1.1).r) (a0.getD []).length)) (some ((((decide ((at_ Nd.z (a0.getD []) r5.1).l=(at_ Nd.z (a0.getD []) r1.1).l)) && (decide ((at_ Nd.z (a0.getD []) r5.2.1).l=(at_ Nd.z (a0.getD []) r1.1).l))) && (decide ((at_ Nd.z (a0.getD []) r5.1).r=(at_ Nd.z (a0.getD []) ((at_ Nd.z (a0.getD []) r1.1).r)).l))) && (decide ((at_ Nd.z (a0.getD []) r5.2.1).r=(at_ Nd.z (a0.getD []) ((at_ Nd.z (a0.getD []) r1.1).r)).r)))))))))))) else if decide (a1=3) then some ((decide ((at_ Nd.z (a0.getD []) r1.1).kind=3)) && (decide ((at_ Nd.z (a0.getD []) r1.1).l=r1.2.1))) else if decide (a1=4) then some ((decide ((at_ Nd.z (a0.getD []) r1.1).kind=3)) && (decide ((at_ Nd.z (a0.getD []) r1.1).r=r1.2.1))) else if decide (a1=5) then chk (!r5.2.2 || (inb r5.2.1 (a0.getD []).length)) (chk (!(r5.2.2 && (decide ((at_ Nd.z (a0.getD []) r5.2.1).kind=3))) || (inb r5.2.1 (a0.getD []).length)) (chk (!((r5.2.2 && (decide ((at_ Nd.z (a0.getD []) r5.2.1).kind=3))) && (decide ((at_ Nd.z (a0.getD []) r5.2.1).l=r1.1))) || (inb r5.2.1 (a0.getD []).length)) (some (((r5.2.2 && (decide ((at_ Nd.z (a0.getD []) r5.2.1).kind=3))) && (decide ((at_ Nd.z (a0.getD []) r5.2.1).l=r1.1))) && (decide ((at_ Nd.z (a0.getD []) r5.2.1).r=r5.1)))))) else if decide (a1=6) then some ((decide ((at_ Nd.z (a0.getD []) r1.2.1).kind=4)) && (decide ((at_ Nd.z (a0.getD []) r1.2.1).l=r1.1))) else if decide (a1=7) then some ((decide ((at_ Nd.z (a0.getD []) r1.2.1).kind=4)) && (decide ((at_ Nd.z (a0.getD []) r1.2.1).r=r1.1))) else if decide (a1=8) then chk (!(!((!r5.2.2) || (decide ((at_ Nd.z (a0.getD []) r1.1).kind ≠ 5)))) || (inb r5.1 (a0.getD []).length)) (chk (!(!(((!r5.2.2) || (decide ((at_ Nd.z (a0.getD []) r1.1).kind ≠ 5))) || (decide ((at_ Nd.z (a0.getD []) r5.1).kind ≠ 5)))) || (inb r5.2.1 (a0.getD []).length)) (chk (!(!((((!r5.2.2) || (decide ((at_ Nd.z (a0.getD []) r1.1).kind ≠ 5))) || (decide ((at_ Nd.z (a0.getD []) r5.1).kind ≠ 5))) || (decide ((at_ Nd.z (a0.getD []) r5.2.1).kind ≠ 5)))) || (inb r5.2.1 (a0.getD []).length)) (chk (!(!((((!r5.2.2) || (decide ((at_ Nd.z (a0.getD []) r1.1).kind ≠ 5))) || (decide ((at_ Nd.z (a0.getD []) r5.1).kind ≠ 5))) || (decide ((at_ Nd.z (a0.getD []) r5.2.1).kind ≠ 5)))) || (inb ((at_ Nd.z (a0.getD []) r5.2.1).l) (a0.getD []).length)) (if ((((!r5.2.2) || (decide ((at_ Nd.z (a0.getD []) r1.1).kind ≠ 5))) || (decide ((at_ Nd.z (a0.getD []) r5.1).kind ≠ 5))) || (decide ((at_ Nd.z (a0.getD []) r5.2.1).kind ≠ 5))) || (decide ((at_ Nd.z (a0.getD []) ((at_ Nd.z (a0.getD []) r5.2.1).l)).kind ≠ 4)) then some false else chk (inb r5.2.1 (a0.getD []).length) (chk (inb ((at_ Nd.z (a0.getD []) r5.2.1).l) (a0.getD []).length) (chk (!(decide ((at_ Nd.z (a0.getD []) ((at_ Nd.z (a0.getD []) r5.2.1).l)).l=(at_ Nd.z (a0.getD []) r1.1).l)) || (inb r5.1 (a0.getD []).length)) (chk (!((decide ((at_ Nd.z (a0.getD []) ((at_ Nd.z (a0.getD []) r5.2.1).l)).l=(at_ Nd.z (a0.getD []) r1.1).l)) && (decide ((at_ Nd.z (a0.getD []) ((at_ Nd.z (a0.getD []) r5.2.1).l)).r=(at_ Nd.z (a0.getD []) r5.1).l))) || (inb r5.1 (a0.getD []).length)) (chk (!(((decide ((at_ Nd.z (a0.getD []) ((at_ Nd.z (a0.getD []) r5.2.1).l)).l=(at_ Nd.z (a0.getD []) r1.1).l)) && (decide ((at_ Nd.z (a0.getD []) ((at_ Nd.z (a0.getD []) r5.2.1).l)).r=(at_ Nd.z (a0.getD []) r5.1).l))) && (decide ((at_ Nd.z (a0.getD []) r5.1).r=(at_ Nd.z (a0.getD []) r1.1).r))) || (inb r5.2.1 (a0.getD []).length)) (some ((((decide ((at_ Nd.z (a0.getD []) ((at_ Nd.z (a0.getD []) r5.2.1).l)).l=(at_ Nd.z (a0.getD []) r1.1).l)) && (decide ((at_ Nd.z (a0.getD []) ((at_ Nd.z (a0.getD []) r5.2.1).l)).r=(at_ Nd.z (a0.getD []) r5.1).l))) && (decide ((at_ Nd.z (a0.getD []) r5.1).r=(at_ Nd.z (a0.getD []) r1.1).r))) && (decide ((at_ Nd.z (a0.getD []) r5.2.1).r=(at_ Nd.z (a0.getD []) r1.1).r)))))))))))) else if decide (a1=9) then some (decide ((at_ Nd.z (a0.getD []) r1.1).kind=2)) else some false)))
end
section
open Gw
def zdw.b0 (a1:List Int) (a2:List Ln) (a3:Int) (i17:Int):Option (Stp Unit Bool) :=
 if decide (at_ (0:Int) a1 i17=(at_ Ln.z a2 a3).form) then some (.ret true) else some (.go ())
def zdw.f (a0:Tb) (a1:List Int) (a2:List Ln) (a3:Int):Option Bool :=
 chk (inb a3 a2.length) (if decide ((at_ Ln.z a2 a3).kind=11) then if (((decide ((at_ Ln.z a2 a3).a < 0)) || (decide (a3 ≤ (at_ Ln.z a2 a3).a))) || (decide ((at_ Ln.z a2 a3).b < 0))) || (decide (a3 ≤ (at_ Ln.z a2 a3).b)) then some false else chk (inb ((at_ Ln.z a2 a3).a) a2.length) ((zdu.f a0 ((at_ Ln.z a2 ((at_ Ln.z a2 a3).a)).form)).bind fun r8=>chk (!r8.2.2 || (inb ((at_ Ln.z a2 a3).b) a2.length)) (some ((r8.2.2 && (decide (r8.1=(at_ Ln.z a2 ((at_ Ln.z a2 a3).b)).form))) && (decide (r8.2.1=(at_ Ln.z a2 a3).form))))) else if (decide ((at_ Ln.z a2 a3).a ≠ 0)) || (decide ((at_ Ln.z a2 a3).b ≠ 0)) then some false else if decide ((at_ Ln.z a2 a3).kind ≠ 10) then (zdv.f a0 ((at_ Ln.z a2 a3).kind) ((at_ Ln.z a2 a3).form)).bind fun r14=>some r14 else (forN (fun i s=>zdw.b0 a1 a2 a3 i) ((a1.length:Int) - 0).toNat 0 ()).bind (aft fun (s17:Unit)=>some false))
def zdx.b0 (a0:Tb) (a1:List Int) (i1:Int):Option (Stp Unit Int) :=
 (zbV.f a0 (at_ (0:Int) a1 i1)).bind fun r4=>if !r4 then some (.ret 31) else some (.go ())
def zdx.b1 (a0:Tb) (a2:List Ln) (i10:Int):Option (Stp Unit Int) :=
 (zbV.f a0 ((at_ Ln.z a2 i10).form)).bind fun r13=>if !r13 then some (.ret 31) else some (.go ())
def zdx.b2 (a0:Tb) (a1:List Int) (a2:List Ln) (i19:Int):Option (Stp Unit Int) :=
 (zdw.f a0 a1 a2 i19).bind fun r21=>if !r21 then some (.ret 160) else some (.go ())
def zdx.f (a0:Tb) (a1:List Int) (a2:List Ln):Option Int :=
 (forN (fun i s=>zdx.b0 a0 a1 i) ((a1.length:Int) - 0).toNat 0 ()).bind (aft fun (s1:Unit)=>(forN (fun i s=>zdx.b1 a0 a2 i) ((a2.length:Int) - 0).toNat 0 ()).bind (aft fun (s10:Unit)=>(forN (fun i s=>zdx.b2 a0 a1 a2 i) ((a2.length:Int) - 0).toNat 0 ()).bind (aft fun (s19:Unit)=>if decide ((a2.length:Int)=0) then some 160 else some 0)))
end
section
open Gw
def zdy.b0  (x5_0:Int) (x5_1:ByteArray):Option (Stp (Int × ByteArray) ByteArray) :=
 if (decide (0 < x5_0)) || (decide (x5_1=(⟨#[]⟩ : ByteArray))) then chk (decide ((strOfNums ([IntKind.u8.wrap (IntKind.u64.wrap (48 + (Int.tmod x5_0 10)))])).size + x5_1.size ≤ 1000000)) (some (.go (IntKind.u64.wrap (Int.tdiv x5_0 10),(strOfNums ([IntKind.u8.wrap (IntKind.u64.wrap (48 + (Int.tmod x5_0 10)))])) ++ x5_1))) else some (.brk (x5_0,x5_1))
def zdy.f (k:Nat) (a0:Int):Option ByteArray :=
 (if decide (a0 < 0) then some ((IntKind.u64.wrap (0 - (IntKind.u64.wrap a0)),(⟨#[45]⟩ : ByteArray))) else some ((IntKind.u64.wrap a0,(⟨#[]⟩ : ByteArray)))).bind fun (o1:Int × ByteArray)=>(iter (fun s=>zdy.b0 s.1 s.2) k (o1.1,(⟨#[]⟩ : ByteArray))).bind (aft fun (s5:Int × ByteArray)=>chk (decide (o1.2.size + s5.2.size ≤ 1000000)) (some (o1.2 ++ s5.2)))
end
section
open Gw
def zdz.f (a0:ByteArray):Option PTerm :=
 some (⟨1,a0,ByteArray.empty,0,[]⟩ : PTerm)
def zdA.f (a0:ByteArray) (a1:PTerm):Option PTerm :=
 some (⟨2,a0,ByteArray.empty,0,[a1]⟩ : PTerm)
def zdB.f (a0:PTerm) (a1:PTerm):Option PTerm :=
 some (⟨3,ByteArray.empty,ByteArray.empty,0,[a0,a1]⟩ : PTerm)
def zdC.f (a0:Int) (a1:PTerm):Option PTerm :=
 some (⟨a0,ByteArray.empty,ByteArray.empty,0,[a1]⟩ : PTerm)
def zdD.f (a0:Int):Option PTerm :=
 if decide (a0=1) then (zdz.f (⟨#[97]⟩ : ByteArray)).bind fun r4=>(zdA.f (⟨#[98]⟩ : ByteArray) r4).bind fun r8=>(zdA.f (⟨#[97]⟩ : ByteArray) r8).bind fun r12=>some r12 else if decide (a0=2) then (zdz.f (⟨#[97]⟩ : ByteArray)).bind fun r18=>(zdz.f (⟨#[99]⟩ : ByteArray)).bind fun r22=>(zdB.f r18 r22).bind fun r26=>(zdz.f (⟨#[98]⟩ : ByteArray)).bind fun r30=>(zdz.f (⟨#[99]⟩ : ByteArray)).bind fun r34=>(zdB.f r30 r34).bind fun r38=>(zdB.f r26 r38).bind fun r42=>(zdA.f (⟨#[99]⟩ : ByteArray) r42).bind fun r46=>(zdA.f (⟨#[98]⟩ : ByteArray) r46).bind fun r50=>(zdA.f (⟨#[97]⟩ : ByteArray) r50).bind fun r54=>some r54 else if decide (a0=3) then (zdz.f (⟨#[97]⟩ : ByteArray)).bind fun r60=>(zdC.f 5 r60).bind fun r64=>(zdA.f (⟨#[97]⟩ : ByteArray) r64).bind fun r68=>some r68 else if decide (a0=4) then (zdz.f (⟨#[97]⟩ : ByteArray)).bind fun r74=>(zdC.f 6 r74).bind fun r78=>(zdA.f (⟨#[97]⟩ : ByteArray) r78).bind fun r82=>some r82 else if decide (a0=5) then (zdz.f (⟨#[97]⟩ : ByteArray)).bind fun r88=>(zdz.f (⟨#[98]⟩ : ByteArray)).bind fun r92=>(zdA.f (⟨#[98]⟩ : ByteArray) (⟨4,ByteArray.empty,ByteArray.empty,0,[r88,r92]⟩ : PTerm)).bind fun r99=>(zdA.f (⟨#[97]⟩ : ByteArray) r99).bind fun r103=>some r103 else if decide (a0=6) then (zdz.f (⟨#[97]⟩ : ByteArray)).bind fun r109=>(zdC.f 7 r109).bind fun r113=>(zdA.f (⟨#[97]⟩ : ByteArray) r113).bind fun r117=>some r117 else if decide (a0=7) then (zdz.f (⟨#[97]⟩ : ByteArray)).bind fun r123=>(zdC.f 8 r123).bind fun r127=>(zdA.f (⟨#[97]⟩ : ByteArray) r127).bind fun r131=>some r131 else if decide (a0=8) then (zdz.f (⟨#[99]⟩ : ByteArray)).bind fun r137=>(zdz.f (⟨#[97]⟩ : ByteArray)).bind fun r141=>(zdz.f (⟨#[100]⟩ : ByteArray)).bind fun r145=>(zdB.f r141 r145).bind fun r149=>(zdz.f (⟨#[98]⟩ : ByteArray)).bind fun r153=>(zdz.f (⟨#[101]⟩ : ByteArray)).bind fun r157=>(zdB.f r153 r157).bind fun r161=>(zdA.f (⟨#[99]⟩ : ByteArray) (⟨9,(⟨#[100]⟩ : ByteArray),(⟨#[101]⟩ : ByteArray),0,[r137,r149,r161]⟩ : PTerm)).bind fun r168=>(zdA.f (⟨#[98]⟩ : ByteArray) r168).bind fun r172=>(zdA.f (⟨#[97]⟩ : ByteArray) r172).bind fun r176=>some r176 else (zdz.f (⟨#[97]⟩ : ByteArray)).bind fun r181=>(zdC.f 10 r181).bind fun r185=>(zdA.f (⟨#[97]⟩ : ByteArray) r185).bind fun r189=>some r189
def zdE.b0 (a2:List Ln) (k:Nat) (x21_0:Int) (x21_1:PTerm):Option (Stp (Int × PTerm) (Tb × PTerm × Int)) :=
 if decide (0 ≤ x21_0) then chk (inb x21_0 a2.length) ((if decide ((at_ Ln.z a2 x21_0).kind=10) then (zdy.f k ((at_ Ln.z a2 x21_0).form)).bind fun r35=>chk (decide ((⟨#[104]⟩ : ByteArray).size + r35.size ≤ 1000000)) ((zdz.f ((⟨#[104]⟩ : ByteArray) ++ r35)).bind fun r39=>some (r39)) else if decide ((at_ Ln.z a2 x21_0).kind=11) then (zdy.f k ((at_ Ln.z a2 x21_0).a)).bind fun r48=>chk (decide ((⟨#[108]⟩ : ByteArray).size + r48.size ≤ 1000000)) ((zdz.f ((⟨#[108]⟩ : ByteArray) ++ r48)).bind fun r52=>(zdy.f k ((at_ Ln.z a2 x21_0).b)).bind fun r68=>chk (decide ((⟨#[108]⟩ : ByteArray).size + r68.size ≤ 1000000)) ((zdz.f ((⟨#[108]⟩ : ByteArray) ++ r68)).bind fun r72=>(zdB.f r52 r72).bind fun r76=>some (r76))) else (zdD.f ((at_ Ln.z a2 x21_0).kind)).bind fun r82=>some ((⟨11,ByteArray.empty,ByteArray.empty,(at_ Ln.z a2 x21_0).form,[r82]⟩ : PTerm))).bind fun (o32:PTerm)=>(zdy.f k x21_0).bind fun r105=>chk (decide ((⟨#[108]⟩ : ByteArray).size + r105.size ≤ 1000000)) (some (.go (IntKind.i64.wrap (x21_0 - 1),(⟨12,(⟨#[108]⟩ : ByteArray) ++ r105,ByteArray.empty,0,[o32,x21_1]⟩ : PTerm))))) else some (.brk (x21_0,x21_1))
def zdE.f (k:Nat) (a0:Tb) (a1:List Int) (a2:List Ln):Option (Tb × PTerm × Int) :=
 (zdx.f a0 a1 a2).bind fun r3=>if decide (r3 ≠ 0) then some (a0,(⟨0,ByteArray.empty,ByteArray.empty,0,[]⟩ : PTerm),r3) else if decide (4096 < (a2.length:Int)) then some (a0,(⟨0,ByteArray.empty,ByteArray.empty,0,[]⟩ : PTerm),150) else (zdy.f k (IntKind.i64.wrap ((a2.length:Int) - 1))).bind fun r10=>chk (decide ((⟨#[108]⟩ : ByteArray).size + r10.size ≤ 1000000)) ((zdz.f ((⟨#[108]⟩ : ByteArray) ++ r10)).bind fun r14=>(iter (fun s=>zdE.b0 a2 k s.1 s.2) k (IntKind.i64.wrap ((a2.length:Int) - 1),r14)).bind (aft fun (s21:Int × PTerm)=>(zcK.f k s21.2).bind fun r126=>if decide (r126 ≠ 0) then some (a0,(⟨0,ByteArray.empty,ByteArray.empty,0,[]⟩ : PTerm),150) else some (a0,s21.2,0)))
def zdF.f (k:Nat) (a0:List Nd) (a1:List Int) (a2:List Ln):Option Bool :=
 (zds.f a0).bind fun r1=>chk (decide ((([]:List Ln).length + a2.length) * 32 ≤ 140737488355328)) ((zdm.f k r1.1 a1 (([]:List Ln) ++ a2)).bind fun r12=>(zdE.f k r1.2 a1 a2).bind fun r19=>(zdp.f k r12.2.1 r19.2.1).bind fun r26=>(if r26 then zdo.f r12.2.2 else some 0).bind fun r29=>(if (r26 && (decide (r29=r19.2.2))) then zdt.f r12.1 r19.1 else some false).bind fun r31=>(if ((r26 && (decide (r29=r19.2.2))) && r31) then zdr.f k else some false).bind fun r33=>some (((r26 && (decide (r29=r19.2.2))) && r31) && r33))
end
section
open Gw Go.RowKit
set_option maxHeartbeats 4000000
set_option maxRecDepth 20000
variable {A:Nat→Prop} {N:Oth} {w:World}
theorem formula_From_st {a0:List Nd} {s_0:SlV} (S:St A N w w [] [fS 4 Nd.C s_0 a0]) {r:Tb × Int} (H:zbT.f a0=some r) :
  Calls PP F_formula_From #[s_0.v] w fun e w' => ∃ v,e = .returned v∧(∃ ao0:Option Addr,v = .tuple #[.pointer ao0,.int .i64 r.2]∧St A N w w' [oT ao0 r.1] []):=by
 unfold zbT.f at H
 refine zz (n:=35) fn_formula_From rfl rfl zbx (zd (za ?_))
 replace S:=S.add (Ext.refl _) (oT.nil _) (fun _ x=>x.elim)
 refine wd (xi rfl) (wd (zi rfl) (zb (zd (za ?_))))
 obtain ⟨r1,er1,H⟩ := zt H
 obtain ⟨B3,MB3,SB3,back⟩ := S.calln 0 ((.nil))
 refine zu (zq jY) zbv (j9 SB3 er1) ?_
 rintro _ w2 ⟨a4,rfl,S2⟩
 replace S:=back _ _ _ _ S2 rfl
 clear back S2 SB3
 refine wd (xi rfl) (zb (zd (zd (za (wd (zC rfl) (wd (xd zP rfl (S.rd 0)) (wd (zh rfl) (zb ?_))))))))
 obtain ⟨o5,e5,Ho5⟩ := zt H
 clear H
 refine xO [2,3,5,6,7,8,12,13,14,15,16,17,18,19,20,21,22,23,24,25,26,27,28,29,30,31,32,33] (fun fr W => ∃ s5:Tb,o5 = .inl s5∧St A N w W [oT a4 s5,oT none none] [fS 4 Nd.C s_0 a0]) ?_ ?_
 ·refine zO ?_
  refine xN (α:=Nat × Int × Tb) [2,3,5,6,7,8,12,13,14,15,16,17,18,19,20,21,22,23,24,25,26,27,28,29,30,31,32,33] (fun x fr W=>(x.1:Int)=(a0.length:Int) - x.2.1∧0 ≤ x.2.1∧forN (fun i s=>zbT.b0 a0 i s) x.1 x.2.1 x.2.2=some o5∧fr 12 = .int .i64 x.2.1∧St A N w W [oT a4 (x.2.2),oT none none] [fS 4 Nd.C s_0 a0]) (fun x=>x.1) (((a0.length:Int) - 0).toNat,0,r1) ⟨(by dsimp only; have hle:=Int.natCast_nonneg (a0.length); omega),(Int.le_refl _),(by dsimp only; exact e5),rfl,S⟩ ?_
  rintro ⟨m5,i5,x5_0⟩ g5 u5 ⟨hm5,hl5,e5,q5_i,S⟩
  try dsimp only at hm5
  try dsimp only at hl5
  try dsimp only at e5
  try dsimp only at S
  try dsimp only at q5_i
  refine zd (za (wd (xK q5_i rfl) (zb (zd ?_))))
  refine zH rfl (fun hc6=>?_) (fun hc6=>?_)
  rotate_left
  ·refine xZ ?_
   have hge:(a0.length:Int) ≤ i5:=Int.not_lt.1 (of_decide_eq_false hc6)
   obtain rfl:m5=0:=by omega
   replace e5:=jr e5
   exact ⟨rfl,((Dif.self _ _ _).upd rfl _),x5_0,e5,S⟩
  refine zA ?_
  have hlt5:i5 < (a0.length:Int):=of_decide_eq_true hc6
  obtain ⟨m5,rfl⟩ : ∃ m,m5=m + 1:=⟨m5 - 1,by omega⟩
  obtain ⟨q5,H,e5⟩ := js e5
  unfold zbT.b0 at H
  try dsimp only at H
  have hb5:=(S.len 0)
  refine zd ?_
  refine zO (zd (za (wd (zh q5_i) (wd (zW zP rfl q5_i (S.rd 0) (And.intro (show 0 ≤ i5 by omega) (show i5 < (a0.length:Int) from hlt5)).1 (And.intro (show 0 ≤ i5 by omega) (show i5 < (a0.length:Int) from hlt5)).2) (wd (zp xQ rfl ((S.rd 0).at (xp Nd.z (And.intro (show 0 ≤ i5 by omega) (show i5 < (a0.length:Int) from hlt5)))) (Nd.len _)) ?_)))))
  refine xa v6 zbv fun b9 w8 hw8=>?_
  replace S:=S.new hw8
  refine wd (zi rfl) ?_
  refine zF xQ rfl rfl (S.blk 0) (Nd.len _) (by rw [Nd.len]; decide) (Nd.one _) (zV (Nd.len _)) fun w10 B hw10 zw10=>?_
  replace S:=S.store 0 B hw10
  clear B
  refine zb (zd (za (wd (zo rfl) (wd (zp xQ rfl ((S.blk 0).all _ (Nd.len _)) (Nd.len _)) ?_))))
  obtain ⟨r11,er11,H⟩ := zt H
  replace S:=S.front 1
  obtain ⟨B13,MB13,SB13,back⟩ := S.calln 1 ((.nil))
  refine zu (zq vW) zbv (uZ SB13 er11) ?_
  rintro _ w12 ⟨rfl,S2⟩
  replace S:=back _ _ _ _ S2 rfl
  clear back S2 SB13
  refine wd (z7 rfl) (wd (zw rfl rfl) (wd (zw rfl rfl) (wd (zi rfl) (wd (zi rfl) (zb (zd (zd (za ?_))))))))
  refine wd (zh rfl) (wd (zL rfl rfl) (wd (zD rfl) ?_))
  refine wg (fun hg=>zh rfl) ?_
  refine wg (fun hg=>zh rfl) ?_
  refine wg (fun hg=>xj (zm hg) (zm hg)) (wd (xc rfl (fun hp=>(zm (xk hp)))) (zb ?_))
  refine zH rfl (fun hc14=>?_) (fun hc14=>?_)
  ·replace H:=if_t hc14 H
   refine za (wd (zi rfl) (zb (zd (za (wd (zh rfl) (wd (xj rfl rfl) (zb ?_)))))))
   refine zH rfl (fun hc15=>?_) (fun hc15=>?_)
   ·replace H:=if_t hc15 H
    refine zd (za (wd (zh rfl) ?_))
    replace S:=S.add (Ext.refl _) (oT.nil _) (fun _ x=>x.elim)
    refine wd (xi rfl) (wd (zi rfl) (zb (zy ?_)))
    refine ⟨_,(xx (zg rfl) (zg rfl)),?_⟩
    replace S:=S.arr [0] []
    obtain rfl:=zbz H
    obtain rfl:=e5
    obtain rfl:=un Ho5
    exact ⟨none,rfl,S⟩
   replace H:=if_f hc15 H
   refine zA (za (wd (xM q5_i rfl (c:=i5 + 1) rfl zbw zbw) (wd (zh rfl) (zb ?_))))
   replace S:=S.arr [0,2] [0]
   obtain rfl:=zbz H
   exact ⟨rfl,(by repeat first | exact Dif.refl _ _ | exact Dif.self _ _ _ | refine Dif.upd ?_ rfl _ | refine Dif.mask ?_ rfl _),(m5,i5 + 1,r11.1),⟨(by dsimp only; omega),(by dsimp only; omega),e5,rfl,S⟩,by dsimp only; omega⟩
  ·replace H:=if_f hc14 H
   refine zA (zd (za (wd (zh rfl) (wd (xj rfl rfl) (zb ?_)))))
   refine zH rfl (fun hc16=>?_) (fun hc16=>?_)
   ·replace H:=if_t hc16 H
    refine zd (za (wd (zh rfl) ?_))
    replace S:=S.add (Ext.refl _) (oT.nil _) (fun _ x=>x.elim)
    refine wd (xi rfl) (wd (zi rfl) (zb (zy ?_)))
    refine ⟨_,(xx (zg rfl) (zg rfl)),?_⟩
    replace S:=S.arr [0] []
    obtain rfl:=zbz H
    obtain rfl:=e5
    obtain rfl:=un Ho5
    exact ⟨none,rfl,S⟩
   replace H:=if_f hc16 H
   refine zA (za (wd (xM q5_i rfl (c:=i5 + 1) rfl zbw zbw) (wd (zh rfl) (zb ?_))))
   replace S:=S.arr [0,2] [0]
   obtain rfl:=zbz H
   exact ⟨rfl,(by repeat first | exact Dif.refl _ _ | exact Dif.self _ _ _ | refine Dif.upd ?_ rfl _ | refine Dif.mask ?_ rfl _),(m5,i5 + 1,r11.1),⟨(by dsimp only; omega),(by dsimp only; omega),e5,rfl,S⟩,by dsimp only; omega⟩
 rintro g17 u18 ⟨s5,rfl,S⟩
 have H:=Ho5
 dsimp only [aft] at H
 refine zd (za (wd (zo rfl) (wd (xi rfl) (wd (zi rfl) (zb (zy ?_))))))
 refine ⟨_,(xx (zg rfl) (zg rfl)),?_⟩
 replace S:=S.arr [0] []
 obtain rfl:=zbz H
 exact ⟨a4,rfl,S⟩
theorem ref03_Same_st {a0:List Nd} {s_0:SlV} {a1:List Nd} {s_1:SlV} (S:St A N w w [] [fS 4 Nd.C s_0 a0,fS 4 Nd.C s_1 a1]) {r:Bool} (H:zbU.f a0 a1=some r) :
  Calls PP F_ref03_Same #[s_0.v,s_1.v] w fun e w' => ∃ v,e = .returned v∧(v = .bool r∧St A N w w' [] []):=by
 unfold zbU.f at H
 refine zz (n:=26) fn_ref03_Same rfl rfl zbx (zd (za (wd (zn rfl) (zb (zd (zd (za (wd (zC rfl) ?_))))))))
 refine wd (xd zP rfl (S.rd 0)) (wd (zC rfl) (wd (xd zP rfl (S.rd 1)) (wd (xj rfl rfl) (zb ?_))))
 refine zH rfl (fun hc1=>?_) (fun hc1=>?_)
 ·replace H:=if_t hc1 H
  refine zd (za (wd (zn rfl) (zb (zy ?_))))
  refine ⟨_,(zS (zg rfl)),?_⟩
  replace S:=S.arr [] []
  obtain rfl:=zbz H
  exact ⟨rfl,S⟩
 replace H:=if_f hc1 H
 refine zA (zd (zd (za (wd (zi rfl) (zb ?_)))))
 obtain ⟨o2,e2,Ho2⟩ := zt H
 clear H
 refine xO [4,5,11,12,13,14,15,16,17,18,19,20,21,22,23,24,25] (fun fr W => ∃ s2:Unit,o2 = .inl s2∧St A N w W [] [fS 4 Nd.C s_0 a0,fS 4 Nd.C s_1 a1]) ?_ ?_
 ·refine zO ?_
  refine xN (α:=Nat × Int × Unit) [4,5,11,12,13,14,15,16,17,18,19,20,21,22,23,24,25] (fun x fr W=>(x.1:Int)=(a0.length:Int) - x.2.1∧0 ≤ x.2.1∧forN (fun i s=>zbU.b0 a1 a0 i) x.1 x.2.1 x.2.2=some o2∧fr 5 = .int .i64 x.2.1∧St A N w W [] [fS 4 Nd.C s_0 a0,fS 4 Nd.C s_1 a1]) (fun x=>x.1) (((a0.length:Int) - 0).toNat,0,()) ⟨(by dsimp only; have hle:=Int.natCast_nonneg (a0.length); omega),(Int.le_refl _),(by dsimp only; exact e2),rfl,S⟩ ?_
  rintro ⟨m2,i2,_⟩ g2 u2 ⟨hm2,hl2,e2,q2_i,S⟩
  try dsimp only at hm2
  try dsimp only at hl2
  try dsimp only at e2
  try dsimp only at S
  try dsimp only at q2_i
  refine zd (zd (za (wd (zh q2_i) (wd (zC rfl) (wd (xd zP rfl (S.rd 0)) (wd (xK rfl rfl) (zb ?_)))))))
  refine zH rfl (fun hc3=>?_) (fun hc3=>?_)
  rotate_left
  ·refine xZ ?_
   have hge:(a0.length:Int) ≤ i2:=Int.not_lt.1 (of_decide_eq_false hc3)
   obtain rfl:m2=0:=by omega
   replace e2:=jr e2
   exact ⟨rfl,(((((Dif.self _ _ _).upd rfl _).upd rfl _).upd rfl _).upd rfl _),(),e2,S⟩
  refine zA ?_
  have hlt2:i2 < (a0.length:Int):=of_decide_eq_true hc3
  obtain ⟨m2,rfl⟩ : ∃ m,m2=m + 1:=⟨m2 - 1,by omega⟩
  obtain ⟨q2,H,e2⟩ := js e2
  unfold zbU.b0 at H
  try dsimp only at H
  have hb2:=(S.len 0)
  refine zd ?_
  refine zO (zd ?_)
  refine xU 8 (Ext u2) hmix zby zby (Ext.drawn _) (zx (fun v K=>zC rfl) (zx (fun v K=>zh q2_i) (zx (fun v K=>zW zP rfl rfl ((S.ext K).rd 0) (And.intro (show 0 ≤ i2 by omega) (show i2 < (a0.length:Int) from hlt2)).1 (And.intro (show 0 ≤ i2 by omega) (show i2 < (a0.length:Int) from hlt2)).2) (zx (fun v K=>zp xQ rfl (((S.ext K).rd 0).at (xp Nd.z (And.intro (show 0 ≤ i2 by omega) (show i2 < (a0.length:Int) from hlt2)))) (Nd.len _)) (zx (fun v K=>zC rfl) ?_)))))
  refine zx (fun v K=>zh q2_i) ?_
  obtain ⟨hi5,H⟩ := xm H
  refine zx (fun v K=>zW zP rfl rfl ((S.ext K).rd 1) (zI hi5).1 (zI hi5).2) (zx (fun v K=>zp xQ rfl (((S.ext K).rd 1).at (xp Nd.z (zI hi5))) (Nd.len _)) ?_)
  refine yV fun w6 K=>?_
  replace S:=S.ext K
  clear K
  refine wd (does_nev eg_Nd (eq_Nd _ _) zbv rfl rfl) (zb ?_)
  refine zH rfl (fun hc7=>?_) (fun hc7=>?_)
  ·replace H:=if_t hc7 H
   refine zd (za (wd (zn rfl) (zb (zy ?_))))
   refine ⟨_,(zS (zg rfl)),?_⟩
   replace S:=S.arr [] []
   obtain rfl:=zbz H
   obtain rfl:=e2
   obtain rfl:=un Ho2
   exact ⟨rfl,S⟩
  replace H:=if_f hc7 H
  refine zA (za (wd (zh q2_i) (wd (xM rfl rfl (c:=i2 + 1) rfl zbw zbw) (wd (zi rfl) (zb ?_)))))
  obtain rfl:=zbz H
  exact ⟨rfl,(by repeat first | exact Dif.refl _ _ | exact Dif.self _ _ _ | refine Dif.upd ?_ rfl _ | refine Dif.mask ?_ rfl _),(m2,i2 + 1,()),⟨(by dsimp only; omega),(by dsimp only; omega),e2,rfl,S⟩,by dsimp only; omega⟩
 rintro g8 u9 ⟨s2,rfl,S⟩
 have H:=Ho2
 dsimp only [aft] at H
 refine zd (za (wd (zn rfl) (zb (zy ?_))))
 refine ⟨_,(zS (zg rfl)),?_⟩
 replace S:=S.arr [] []
 obtain rfl:=zbz H
 exact ⟨rfl,S⟩
theorem kg {a0:Tb} {a_0:Option Addr} {a1:Int} (S:St A N w w [] [oR a_0 a0]) {r:Bool} (H:zbV.f a0 a1=some r) :
  Calls PP F_ref03_T_Has #[.pointer a_0,.int .i64 a1] w fun e w' => ∃ v,e = .returned v∧(v = .bool r∧St A N w w' [] []):=by
 unfold zbV.f at H
 refine zz (n:=16) fn_ref03_T_Has rfl rfl zbx (zd (za (wd (zn rfl) (zb (zd (za (wd (zh rfl) ?_)))))))
 refine wd (vm rfl rfl) (wd (zD rfl) ?_)
 refine wg (fun hg=>zh rfl) ?_
 refine wg (fun hg=>zo rfl) ?_
 obtain ⟨ht1,H⟩ := xm H
 obtain ⟨p2,s3,hp4,S⟩ := S.seeR 0 ht1
 replace S:=S
 refine wg (fun hg=>zB (((zm hg):_=Value.pointer a_0).trans (congrArg Value.pointer hp4))) ?_
 refine wg (fun hg=>ze xC (zm hg) (o':=0) rfl) ?_
 refine wg (fun hg=>zj zZ (zm hg) ((S.blkZ 0).cell (RTab.get_n _))) ?_
 refine wg (fun hg=>xd zP (zm hg) (S.rd 1)) ?_
 refine wg (fun hg=>xK (zm hg) (zm hg)) (wd (xc rfl (fun hp=>(zm (xk hp)))) (wd (zn rfl) ?_))
 replace S:=S.zs [2]
 refine zb (zy ?_)
 refine ⟨_,(zS (zg rfl)),?_⟩
 replace S:=S.arr [] []
 obtain rfl:=zbz H
 exact ⟨rfl,S⟩
theorem ref03_T_Find_st {a0:Tb} {a_0:Option Addr} {a1:Nd} (S:St A N w w [] [oR a_0 a0]) {r:Int × Bool} (H:zbW.f a0 a1=some r) :
  Calls PP F_ref03_T_Find #[.pointer a_0,.agg (Nd.C a1).toArray] w fun e w' => ∃ v,e = .returned v∧(v = .tuple #[.int .i64 r.1,.bool r.2]∧St A N w w' [] []):=by
 unfold zbW.f at H
 refine zz (n:=26) fn_ref03_T_Find rfl rfl zbx (zd (za ?_))
 refine z1 rfl zbv fun b2 w1 hw1=>?_
 replace S:=S.new hw1
 refine wd (zi rfl) (wd (zn rfl) (zb (zd (zd (za (wd (zi rfl) (zb ?_)))))))
 obtain ⟨ht3,H⟩ := xm H
 obtain ⟨o4,e4,Ho4⟩ := zt H
 clear H
 refine xO [4,5,6,7,8,9,10,11,12,13,14,15,16,17,18,19,20,21,22,23,24,25] (fun fr W => ∃ s4:Unit,o4 = .inl s4∧St A N w W [oB b2 T_Nd (Nd.C a1)] [oR a_0 a0]) ?_ ?_
 ·refine zO ?_
  refine xN (α:=Nat × Int × Unit) [4,5,6,7,8,9,10,11,12,13,14,15,16,17,18,19,20,21,22,23,24,25] (fun x fr W=>(x.1:Int)=((a0.getD []).length:Int) - x.2.1∧0 ≤ x.2.1∧forN (fun i s=>zbW.b0 a0 a1 i) x.1 x.2.1 x.2.2=some o4∧fr 6 = .int .i64 x.2.1∧St A N w W [oB b2 T_Nd (Nd.C a1)] [oR a_0 a0]) (fun x=>x.1) ((((a0.getD []).length:Int) - 0).toNat,0,()) ⟨(by dsimp only; have hle:=Int.natCast_nonneg ((a0.getD []).length); omega),(Int.le_refl _),(by dsimp only; exact e4),rfl,S⟩ ?_
  rintro ⟨m4,i4,_⟩ g4 u4 ⟨hm4,hl4,e4,q4_i,S⟩
  try dsimp only at hm4
  try dsimp only at hl4
  try dsimp only at e4
  try dsimp only at S
  try dsimp only at q4_i
  refine zd (zd (za (wd (zh q4_i) (wd (zo rfl) ?_))))
  obtain ⟨p5,s6,hp7,S⟩ := S.seeR 0 ht3
  replace S:=S
  refine wd (zB (congrArg Value.pointer hp7)) (wd (ze xC rfl (o':=0) rfl) (wd (zj zZ rfl ((S.blkZ 0).cell (RTab.get_n _))) (wd (xd zP rfl (S.rd 1)) (wd (xK rfl rfl) ?_))))
  replace S:=S.zs [2]
  refine zb ?_
  refine zH rfl (fun hc8=>?_) (fun hc8=>?_)
  rotate_left
  ·refine xZ ?_
   have hge:((a0.getD []).length:Int) ≤ i4:=Int.not_lt.1 (of_decide_eq_false hc8)
   obtain rfl:m4=0:=by omega
   replace e4:=jr e4
   exact ⟨rfl,((((((((Dif.self _ _ _).upd rfl _).upd rfl _).upd rfl _).upd rfl _).upd rfl _).upd rfl _).upd rfl _),(),e4,S⟩
  refine zA ?_
  have hlt4:i4 < ((a0.getD []).length:Int):=of_decide_eq_true hc8
  obtain ⟨m4,rfl⟩ : ∃ m,m4=m + 1:=⟨m4 - 1,by omega⟩
  obtain ⟨q4,H,e4⟩ := js e4
  unfold zbW.b0 at H
  try dsimp only at H
  have hb4:=(S.lenRZ 0)
  refine zd ?_
  refine zO (zd ?_)
  refine xU 8 (Ext u4) hmix zby zby (Ext.drawn _) (zx (fun v K=>zo rfl) ?_)
  obtain ⟨p9,s10,hp11,S⟩ := S.seeR 0 ht3
  replace S:=S
  refine zx (fun v K=>zB (congrArg Value.pointer hp11)) (zx (fun v K=>ze xC rfl (o':=0) rfl) (zx (fun v K=>zj zZ rfl (((S.ext K).blkZ 0).cell (RTab.get_n _))) (zx (fun v K=>zh q4_i) (zx (fun v K=>zW zP rfl rfl ((S.ext K).rd 1) (And.intro (show 0 ≤ i4 by omega) (show i4 < ((a0.getD []).length:Int) from hlt4)).1 (And.intro (show 0 ≤ i4 by omega) (show i4 < ((a0.getD []).length:Int) from hlt4)).2) (zx (fun v K=>zp xQ rfl (((S.ext K).rd 1).at (xp Nd.z (And.intro (show 0 ≤ i4 by omega) (show i4 < ((a0.getD []).length:Int) from hlt4)))) (Nd.len _)) ?_)))))
  refine zx (fun v K=>zp xQ rfl (((S.ext K).blk 0).all _ (Nd.len _)) (Nd.len _)) ?_
  refine yV fun w13 K=>?_
  replace S:=S.ext K
  clear K
  refine wd (does_eqv eg_Nd (eq_Nd _ _) zbv rfl rfl) ?_
  replace S:=S.zs [2]
  refine zb ?_
  refine zH rfl (fun hc14=>?_) (fun hc14=>?_)
  ·replace H:=if_t hc14 H
   refine zd (za (wd (zh q4_i) (wd (zi rfl) (wd (zn rfl) (zb (zy ?_))))))
   refine ⟨_,(xx (zg rfl) (zg rfl)),?_⟩
   replace S:=S.arr [] []
   obtain rfl:=zbz H
   obtain rfl:=e4
   obtain rfl:=un Ho4
   exact ⟨rfl,S⟩
  replace H:=if_f hc14 H
  refine zA (za (wd (zh q4_i) (wd (xM rfl rfl (c:=i4 + 1) rfl zbw zbw) (wd (zi rfl) (zb ?_)))))
  obtain rfl:=zbz H
  exact ⟨rfl,(by repeat first | exact Dif.refl _ _ | exact Dif.self _ _ _ | refine Dif.upd ?_ rfl _ | refine Dif.mask ?_ rfl _),(m4,i4 + 1,()),⟨(by dsimp only; omega),(by dsimp only; omega),e4,rfl,S⟩,by dsimp only; omega⟩
 rintro g15 u16 ⟨s4,rfl,S⟩
 have H:=Ho4
 dsimp only [aft] at H
 refine zd (za (wd (zi rfl) (wd (zn rfl) (zb (zy ?_)))))
 refine ⟨_,(xx (zg rfl) (zg rfl)),?_⟩
 replace S:=S.arr [] []
 obtain rfl:=zbz H
 exact ⟨rfl,S⟩
theorem ref03_T_Put_st {a0:Tb} {a_0:Option Addr} {a1:Nd} (S:St A N w w [oR a_0 a0] []) {r:Tb × Int × Int} (H:zbX.f a0 a1=some r) :
  Calls PP F_ref03_T_Put #[.pointer a_0,.agg (Nd.C a1).toArray] w fun e w' => ∃ v,e = .returned v∧(v = .tuple #[.int .i64 r.2.1,.int .i64 r.2.2]∧St A N w w' [oR a_0 r.1] []):=by
 unfold zbX.f at H
 refine zz (n:=90) fn_ref03_T_Put rfl rfl zbx (zd (za ?_))
 refine z1 rfl zbv fun b2 w1 hw1=>?_
 replace S:=S.new hw1
 refine wd (zi rfl) (wd (zi rfl) (zb (zd (zd (za (wd (ze yo rfl (o':=0) rfl) (wd (zj xP rfl ((S.blk 0).cell (Nd.get_kind _))) (zb ?_))))))))
 obtain ⟨o3,e3,Ho3⟩ := zt H
 replace H:=e3; clear e3
 refine xO [4,5,10,11,12,13,14,15,16,17,18,19,20,21,22,23,24,25,26,27,28,29,30,31,32,33,34,35,36,37,38,39,40,41,42,43,44,45,46,47,48,49,50,51,52,53,54,55,56,57,58,59] (fun fr W => ∃ s3:Tb,o3 = .inl s3∧St A N w W [oB b2 T_Nd (Nd.C a1),oR a_0 s3] []) ?_ ?_
 ·refine zO (zd (za (wd (zL rfl rfl) (wd (zn rfl) (zb ?_)))))
  refine zH rfl (fun hc4=>?_) (fun hc4=>?_)
  ·replace H:=if_t hc4 H
   refine zd (zd (za (wd (ze xY rfl (o':=2) rfl) (wd (zj zQ rfl ((S.blk 0).cell (Nd.get_l _))) (wd (xj rfl rfl) (wd (zD rfl) ?_))))))
   refine wg (fun hg=>ze xS rfl (o':=3) rfl) ?_
   refine wg (fun hg=>zj zQ (zm hg) ((S.blk 0).cell (Nd.get_r _))) ?_
   refine wg (fun hg=>xj (zm hg) rfl) (wd (xq rfl (fun hp=>(zm (xk hp)))) (zb ?_))
   refine zH rfl (fun hc5=>?_) (fun hc5=>?_)
   ·replace H:=if_t hc5 H
    refine zd (za (wd (zi rfl) (wd (zi rfl) (zb (zy ?_)))))
    refine ⟨_,(xx (zg rfl) (zg rfl)),?_⟩
    replace S:=S.arr [1] []
    obtain rfl:=zbz H
    obtain rfl:=un Ho3
    exact ⟨rfl,S⟩
   replace H:=if_f hc5 H
   refine zA (zd (za (wd (ze jI rfl (o':=1) rfl) (wd (zj xt rfl ((S.blk 0).cell (Nd.get_name _))) ?_))))
   obtain ⟨r6,er6,H⟩ := zt H
   obtain ⟨B8,MB8,SB8,back⟩ := S.calln 0 ((.nil))
   refine zu (zq zba) zbv (zbi SB8 er6) ?_
   rintro _ w7 ⟨rfl,S2⟩
   replace S:=back _ _ _ _ S2 rfl
   clear back S2 SB8
   refine wd (xh rfl) (zb ?_)
   refine zH rfl (fun hc9=>?_) (fun hc9=>?_)
   ·replace H:=if_t hc9 H
    refine zd (za (wd (zi rfl) (wd (zi rfl) (zb (zy ?_)))))
    refine ⟨_,(xx (zg rfl) (zg rfl)),?_⟩
    replace S:=S.arr [1] []
    obtain rfl:=zbz H
    obtain rfl:=un Ho3
    exact ⟨rfl,S⟩
   replace H:=if_f hc9 H
   refine zA ?_
   obtain rfl:=zbz H
   exact ⟨rfl,(by repeat first | exact Dif.refl _ _ | exact Dif.self _ _ _ | refine Dif.upd ?_ rfl _ | refine Dif.mask ?_ rfl _),a0,rfl,S⟩
  ·replace H:=if_f hc4 H
   refine zd (za (wd (zL rfl rfl) (wd (zn rfl) (zb ?_))))
   refine zH rfl (fun hc10=>?_) (fun hc10=>?_)
   ·replace H:=if_t hc10 H
    refine zd (za (wd (ze jI rfl (o':=1) rfl) (wd (zj xt rfl ((S.blk 0).cell (Nd.get_name _))) (wd (jz rfl rfl) (wd (zD rfl) ?_)))))
    refine wg (fun hg=>ze xY rfl (o':=2) rfl) ?_
    refine wg (fun hg=>zj zQ (zm hg) ((S.blk 0).cell (Nd.get_l _))) ?_
    refine wg (fun hg=>xj (zm hg) rfl) (wd (xq rfl (fun hp=>(zm (xk hp)))) (wd (zD rfl) ?_))
    refine wg (fun hg=>ze xS rfl (o':=3) rfl) ?_
    refine wg (fun hg=>zj zQ (zm hg) ((S.blk 0).cell (Nd.get_r _))) ?_
    refine wg (fun hg=>xj (zm hg) rfl) (wd (xq rfl (fun hp=>(zm (xk hp)))) (zb ?_))
    refine zH rfl (fun hc11=>?_) (fun hc11=>?_)
    ·replace H:=if_t hc11 H
     refine zd (za (wd (zi rfl) (wd (zi rfl) (zb (zy ?_)))))
     refine ⟨_,(xx (zg rfl) (zg rfl)),?_⟩
     replace S:=S.arr [1] []
     obtain rfl:=zbz H
     obtain rfl:=un Ho3
     exact ⟨rfl,S⟩
    replace H:=if_f hc11 H
    refine zA ?_
    obtain rfl:=zbz H
    exact ⟨rfl,(by repeat first | exact Dif.refl _ _ | exact Dif.self _ _ _ | refine Dif.upd ?_ rfl _ | refine Dif.mask ?_ rfl _),a0,rfl,S⟩
   ·replace H:=if_f hc10 H
    refine zd (zd (za (wd (zL rfl rfl) (wd (zn rfl) (zb ?_)))))
    obtain ⟨o12,e12,Ho12⟩ := zt H
    replace H:=e12; clear e12
    refine xO [39,41,42] (fun fr W=>fr 39 = .bool o12∧St A N w W [oB b2 T_Nd (Nd.C a1),oR a_0 a0] []) ?_ ?_
    ·refine zH rfl (fun hc13=>?_) (fun hc13=>?_)
     ·replace H:=if_t hc13 H
      refine zA ?_
      obtain rfl:=zbz H
      exact ⟨rfl,(Dif.refl _ _),rfl,S⟩
     ·replace H:=if_f hc13 H
      refine zd (za (wd (zL rfl rfl) (wd (zn rfl) (zb ?_))))
      refine zH rfl (fun hc14=>?_) (fun hc14=>?_)
      ·replace H:=if_t hc14 H
       refine zA ?_
       obtain rfl:=zbz H
       exact ⟨rfl,(((Dif.refl _ _).upd rfl _).upd rfl _),rfl,S⟩
      ·replace H:=if_f hc14 H
       refine za (wd (zL rfl rfl) (wd (zn rfl) (zb ?_)))
       obtain rfl:=zbz H
       exact ⟨rfl,(((((Dif.refl _ _).upd rfl _).upd rfl _).upd rfl _).upd rfl _),rfl,S⟩
    rintro g15 u16 ⟨p12_39,S⟩
    have H:=Ho12
    refine zH p12_39 (fun hc17=>?_) (fun hc17=>?_)
    rotate_left
    ·replace H:=if_f hc17 H
     refine zd (za (wd (zi rfl) (wd (zi rfl) (zb (zy ?_)))))
     refine ⟨_,(xx (zg rfl) (zg rfl)),?_⟩
     replace S:=S.arr [1] []
     obtain rfl:=zbz H
     obtain rfl:=un Ho3
     exact ⟨rfl,S⟩
    replace H:=if_t hc17 H
    refine zd (za (wd (ze jI rfl (o':=1) rfl) (wd (zj xt rfl ((S.blk 0).cell (Nd.get_name _))) (wd (jz rfl rfl) (wd (zD rfl) ?_)))))
    refine wg (fun hg=>zo rfl) ?_
    refine wg (fun hg=>ze xY rfl (o':=2) rfl) ?_
    refine wg (fun hg=>zj zQ (zm hg) ((S.blk 0).cell (Nd.get_l _))) ?_
    obtain ⟨r18,er18,H⟩ := zt H
    refine yk (j:=3) (pol:=false) rfl rfl rfl zbv (fun hg=>zN j1 (zT (zm hg) (zT (zm hg) rfl))) zbv (fun hg=>(have ⟨M,SS⟩ := S.lend ((.o 1 rfl .nil)); quiet (kg SS (if_t (by simpa using hg) er18)) (fun v w' h=>⟨h.1,_,_,h.2⟩))) fun w19 hw19=>?_
    replace S:=S.ext hw19
    refine wg (fun hg=>xh (zm hg)) (wd (xq rfl (fun hp=>(zm (xk hp)))) (wd (zD rfl) ?_))
    refine wg (fun hg=>zo rfl) ?_
    refine wg (fun hg=>ze xS rfl (o':=3) rfl) ?_
    refine wg (fun hg=>zj zQ (zm hg) ((S.blk 0).cell (Nd.get_r _))) ?_
    obtain ⟨r20,er20,H⟩ := zt H
    refine yk (j:=10) (pol:=false) rfl rfl rfl zbv (fun hg=>zN j1 (zT (zm hg) (zT (zm hg) rfl))) zbv (fun hg=>(have ⟨M,SS⟩ := S.lend ((.o 1 rfl .nil)); quiet (kg SS (if_t (by simpa using hg) er20)) (fun v w' h=>⟨h.1,_,_,h.2⟩))) fun w21 hw21=>?_
    replace S:=S.ext hw21
    refine wg (fun hg=>xh (zm hg)) (wd (xq rfl (fun hp=>(zm (xk hp)))) (zb ?_))
    refine zH rfl (fun hc22=>?_) (fun hc22=>?_)
    ·replace H:=if_t hc22 H
     refine zd (za (wd (zi rfl) (wd (zi rfl) (zb (zy ?_)))))
     refine ⟨_,(xx (zg rfl) (zg rfl)),?_⟩
     replace S:=S.arr [1] []
     obtain rfl:=zbz H
     obtain rfl:=un Ho3
     exact ⟨rfl,S⟩
    replace H:=if_f hc22 H
    refine zA ?_
    obtain rfl:=zbz H
    exact ⟨rfl,(by repeat first | exact Dif.refl _ _ | exact Dif.self _ _ _ | refine Dif.upd ?_ rfl _ | refine Dif.mask ?_ rfl _),a0,rfl,S⟩
 rintro g23 u24 ⟨s3,rfl,S⟩
 have H:=Ho3
 dsimp only [aft] at H
 refine zd (za (wd (zo rfl) (wd (zp xQ rfl ((S.blk 0).all _ (Nd.len _)) (Nd.len _)) ?_)))
 obtain ⟨r25,er25,H⟩ := zt H
 obtain ⟨B27,MB27,SB27,back⟩ := S.calln 0 ((.o 1 rfl .nil))
 refine zu (zq ca_ref03_T_Find) zbv (ref03_T_Find_st SB27 er25) ?_
 rintro _ w26 ⟨rfl,S2⟩
 replace S:=back _ _ _ _ S2 rfl
 clear back S2 SB27
 refine wd (z7 rfl) (wd (zw rfl rfl) (wd (zw rfl rfl) (wd (zi rfl) (wd (zn rfl) (zb (zd (zd (za ?_))))))))
 refine wd (zD rfl) (zb ?_)
 refine zH rfl (fun hc28=>?_) (fun hc28=>?_)
 ·replace H:=if_t hc28 H
  refine zd (za (wd (zh rfl) (wd (zi rfl) (wd (zi rfl) (zb (zy ?_))))))
  refine ⟨_,(xx (zg rfl) (zg rfl)),?_⟩
  replace S:=S.arr [1] []
  obtain rfl:=zbz H
  exact ⟨rfl,S⟩
 replace H:=if_f hc28 H
 refine zA (zd (zd (za (wd (zo rfl) ?_))))
 obtain ⟨ht29,H⟩ := xm H
 obtain ⟨p30,s31,hp32,S⟩ := S.openR 1 ht29
 replace S:=S
 refine wd (zB (congrArg Value.pointer hp32)) (wd (ze xC rfl (o':=0) rfl) (wd (zj zZ rfl ((S.blk 0).cell (RTab.get_n _))) (wd (xd zP rfl (S.rdO 1)) (wd (vm rfl rfl) ?_))))
 replace S:=((S.front 1).front 1).shutR hp32
 refine zb ?_
 refine zH rfl (fun hc33=>?_) (fun hc33=>?_)
 ·replace H:=if_t hc33 H
  refine zd (za (wd (zi rfl) (wd (zi rfl) (zb (zy ?_)))))
  refine ⟨_,(xx (zg rfl) (zg rfl)),?_⟩
  replace S:St A N w w26 [oR a_0 (some (s3.getD []))] []:=S.arr [0] []
  obtain rfl:=zbz H
  exact ⟨rfl,S⟩
 replace H:=if_f hc33 H
 refine zA (zd ?_)
 obtain ⟨p34,s35,hp36,S⟩ := S.openR 0 rfl
 replace S:St A N w w26 [oB p34 vR (RTab.C ⟨s35⟩),oS T_Nd 4 Nd.C s35 (s3.getD []),oB b2 T_Nd (Nd.C a1)] []:=S
 obtain ⟨ha37,H⟩ := xm H
 have ha37:=of_decide_eq_true ha37
 have hSO:=S.sl 1
 have hSlt:=hSO.lt
 have SH : ∀ v,Chg s35.fp w26 v→St A (N.or s35.fp) w v [oB p34 vR (RTab.C ⟨s35⟩),oB b2 T_Nd (Nd.C a1)] []:=fun v hc=>S.away 1 (hc:=hc)
 refine wc_draw 8 ⟨fun L v=>Chg s35.fp w26 v∧(L 7=false→Ext w26 v),fun L a b=>Chg s35.fp a b∧(L 7=true→Ext a b),fun i v u=>match i with
  | 0=>v=Value.pointer a_0
  | 1=>v=Value.pointer a_0
  | 2=>v=Value.pointer (some ⟨p34,0,none⟩)
  | 3=>v=Value.pointer (some ⟨p34,0,none⟩)
  | 4=>v=s35.v
  | 5=>v=Value.agg (Nd.C a1).toArray
  | 6 => ∃ b sl,v=SlV.v sl∧sl=⟨some ⟨b,0,none⟩,1,1⟩ ∧ Blk u b T_Nd (Nd.C a1)∧¬ s35.fp b
  | 7 => ∃ s',v=SlV.v s'∧Own u 0 T_Nd 4 s' (((s3.getD []) ++ [a1]).map Nd.C) ∧ ∀ i,s'.fp i→s35.fp i∨w26.heap.size ≤ i
  | _=>True⟩ hmix zby ?_ ⟨(Ext.drawn _).mono (fun _ _ x=>x.elim),fun _=>Ext.drawn _⟩ ⟨?_,?_,?_,?_,?_,?_,?_,?_,trivial⟩ ?_
 ·intro L i v a b hLi hle hv
  match i,hLi,hv with
  | 0,_,hv=>exact hv
  | 1,_,hv=>exact hv
  | 2,_,hv=>exact hv
  | 3,_,hv=>exact hv
  | 4,_,hv=>exact hv
  | 5,_,hv=>exact hv
  | 6,_,⟨b,sl,e1,e2,hb,hn⟩ => exact ⟨b,sl,e1,e2,hb.chg hle.1 hn,hn⟩
  | 7,hLi,⟨s',e1,ho,hg⟩ => exact ⟨s',e1,ho.ext (hle.2 hLi),hg⟩
  | _ + 8,_,_=>exact trivial
 ·rintro L g v hL hT 
  refine wd (zo rfl) (zb (ob ⟨hT.1,fun h=>hT.2 h⟩ ⟨Chg.refl _ _,fun _=>Ext.refl _⟩ rfl))
 ·rintro L g v hL hT 
  refine wd (zo rfl) (zb (ob ⟨hT.1,fun h=>hT.2 h⟩ ⟨Chg.refl _ _,fun _=>Ext.refl _⟩ rfl))
 ·rintro L g v hL hT hv1
  refine wd (zB ((hv1:_=Value.pointer a_0).trans (congrArg Value.pointer hp36))) (zb (ob ⟨hT.1,fun h=>hT.2 h⟩ ⟨Chg.refl _ _,fun _=>Ext.refl _⟩ rfl))
 ·rintro L g v hL hT hv2
  refine wd (ze xC hv2 (o':=0) rfl) (zb (ob ⟨hT.1,fun h=>hT.2 h⟩ ⟨Chg.refl _ _,fun _=>Ext.refl _⟩ rfl))
 ·rintro L g v hL hT hv3
  refine wd (zj zZ hv3 (((SH v hT.1).blk 0).cell (RTab.get_n _))) (zb (ob ⟨hT.1,fun h=>hT.2 h⟩ ⟨Chg.refl _ _,fun _=>Ext.refl _⟩ rfl))
 ·rintro L g v hL hT 
  refine wd (zp xQ rfl (((SH v hT.1).blk 1).all _ (Nd.len _)) (Nd.len _)) (zb (ob ⟨hT.1,fun h=>hT.2 h⟩ ⟨Chg.refl _ _,fun _=>Ext.refl _⟩ rfl))
 ·rintro L g v hL hT hv5
  refine wl_lit1 zP el_Nd.zero hv5 rfl (Nd.len _) zbv zbv fun b v' sl hn hq=>zb (ob ⟨hT.1.thenExt hn.ext,fun h=>(hT.2 h).trans hn.ext⟩ ⟨hn.ext.mono (fun _ _ x=>x.elim),fun _=>hn.ext⟩ ⟨b,sl,rfl,hq,hn.blk,fun e=>by have:=hSlt _ e; have:=hn.at_; have:=hT.1.size; omega⟩)
 ·rintro L g v hL hT hv4 ⟨b,sl,hv6,hq,hb,hnb⟩
  refine wl_push (C:=Nd.C) zP el_Nd hv4 hv6 (hSO.ext (hT.2 hL)) hb hq (Nd.len _) (Nd.one _) ha37 zbw zbv fun s' v' ho hc hg=>zb (ob ⟨hT.1.trans hc,fun h=>(by cases h)⟩ ⟨hc,fun h=>(by rw [hL] at h; cases h)⟩ ⟨s',rfl,ho,fun i e=>(hg i e).imp id (fun h=>Nat.le_trans hT.1.size h)⟩)
 rintro L g w38 hLm hT hv40_0 hv40_1 hv40_2 hv40_3 hv40_4 hv40_5 ⟨b,sl,hv40_6,hq,hb,hnb⟩ ⟨s39,hv40_7,O,gO⟩
 replace S:=S.push 1 O (by rw [List.length_append,List.length_singleton]; omega) hT.1 gO
 clear O gO SH hSO hSlt
 refine wd (zB ((hv40_0:_=Value.pointer a_0).trans (congrArg Value.pointer hp36))) (wd (ze xC rfl (o':=0) rfl) ?_)
 refine yZ zZ rfl hv40_7 (S.blk 1) (by rw [RTab.len]; decide) (SlV.one _ _ rfl) (RTab.set_n _ _) fun w41 B hw41 zw41=>?_
 replace S:=S.store 1 B hw41
 clear B
 replace S:=((S.front 1).front 1).shutR hp36
 refine zb (zd (za (wd (zo rfl) ?_)))
 obtain ⟨p42,s43,hp44,S⟩ := S.openR 0 rfl
 replace S:=S
 refine wd (zB (congrArg Value.pointer hp44)) (wd (ze xC rfl (o':=0) rfl) (wd (zj zZ rfl ((S.blk 0).cell (RTab.get_n _))) (wd (xd zP rfl (S.rdO 1)) (wd (ug rfl rfl) (wd (zi rfl) ?_)))))
 refine wd (zi rfl) ?_
 replace S:=((S.front 1).front 1).shutR hp44
 refine zb (zy ?_)
 refine ⟨_,(xx (zg rfl) (zg rfl)),?_⟩
 replace S:=S.arr [0] []
 obtain rfl:=zbz H
 exact ⟨rfl,S⟩
theorem ref03_From_st {a0:List Nd} {s_0:SlV} (S:St A N w w [] [fS 4 Nd.C s_0 a0]) {r:Tb × Int} (H:zbY.f a0=some r) :
  Calls PP F_ref03_From #[s_0.v] w fun e w' => ∃ v,e = .returned v∧(∃ ao0:Option Addr,v = .tuple #[.pointer ao0,.int .i64 r.2]∧St A N w w' [oR ao0 r.1] []):=by
 unfold zbY.f at H
 refine zz (n:=32) fn_ref03_From rfl rfl zbx (zd (za ?_))
 replace S:=S.add (Ext.refl _) (oR.nil _) (fun _ x=>x.elim)
 refine wd (xi rfl) (wd (zi rfl) (zb (zd (za (wd (yE bu_RTab Bld.nil) ?_)))))
 refine z1 rfl zbv fun b2 w1 hw1=>?_
 replace S:St A N w w1 [oR (some ⟨b2,0,none⟩) (some []),oR none none] [fS 4 Nd.C s_0 a0]:=((S.nil T_Nd 4 Nd.C).new hw1).shutR rfl
 refine wd (xi rfl) (zb (zd (zd (za (wd (zi rfl) (zb ?_))))))
 obtain ⟨o3,e3,Ho3⟩ := zt H
 clear H
 refine xO [2,3,5,6,7,10,11,12,13,14,15,16,17,18,19,20,21,22,23,24,25,26,27,28,29,30] (fun fr W => ∃ s3:Tb,o3 = .inl s3∧St A N w W [oR (some ⟨b2,0,none⟩) s3,oR none none] [fS 4 Nd.C s_0 a0]) ?_ ?_
 ·refine zO ?_
  refine xN (α:=Nat × Int × Tb) [2,3,5,6,7,10,11,12,13,14,15,16,17,18,19,20,21,22,23,24,25,26,27,28,29,30] (fun x fr W=>(x.1:Int)=(a0.length:Int) - x.2.1∧0 ≤ x.2.1∧forN (fun i s=>zbY.b0 a0 i s) x.1 x.2.1 x.2.2=some o3∧fr 5 = .int .i64 x.2.1∧St A N w W [oR (some ⟨b2,0,none⟩) (x.2.2),oR none none] [fS 4 Nd.C s_0 a0]) (fun x=>x.1) (((a0.length:Int) - 0).toNat,0,(some [])) ⟨(by dsimp only; have hle:=Int.natCast_nonneg (a0.length); omega),(Int.le_refl _),(by dsimp only; exact e3),rfl,S⟩ ?_
  rintro ⟨m3,i3,x3_0⟩ g3 u3 ⟨hm3,hl3,e3,q3_i,S⟩
  try dsimp only at hm3
  try dsimp only at hl3
  try dsimp only at e3
  try dsimp only at S
  try dsimp only at q3_i
  refine zd (zd (za (wd (zh q3_i) (wd (zC rfl) (wd (xd zP rfl (S.rd 0)) (wd (xK rfl rfl) (zb ?_)))))))
  refine zH rfl (fun hc4=>?_) (fun hc4=>?_)
  rotate_left
  ·refine xZ ?_
   have hge:(a0.length:Int) ≤ i3:=Int.not_lt.1 (of_decide_eq_false hc4)
   obtain rfl:m3=0:=by omega
   replace e3:=jr e3
   exact ⟨rfl,(((((Dif.self _ _ _).upd rfl _).upd rfl _).upd rfl _).upd rfl _),x3_0,e3,S⟩
  refine zA ?_
  have hlt3:i3 < (a0.length:Int):=of_decide_eq_true hc4
  obtain ⟨m3,rfl⟩ : ∃ m,m3=m + 1:=⟨m3 - 1,by omega⟩
  obtain ⟨q3,H,e3⟩ := js e3
  unfold zbY.b0 at H
  try dsimp only at H
  have hb3:=(S.len 0)
  refine zd ?_
  refine zO (zd (za (wd (zo rfl) (wd (zC rfl) (wd (zh q3_i) (wd (zW zP rfl rfl (S.rd 0) (And.intro (show 0 ≤ i3 by omega) (show i3 < (a0.length:Int) from hlt3)).1 (And.intro (show 0 ≤ i3 by omega) (show i3 < (a0.length:Int) from hlt3)).2) ?_))))))
  refine wd (zp xQ rfl ((S.rd 0).at (xp Nd.z (And.intro (show 0 ≤ i3 by omega) (show i3 < (a0.length:Int) from hlt3)))) (Nd.len _)) ?_
  obtain ⟨r6,er6,H⟩ := zt H
  obtain ⟨B8,MB8,SB8,back⟩ := S.calln 1 ((.nil))
  refine zu (zq ca_ref03_T_Put) zbv (ref03_T_Put_st SB8 er6) ?_
  rintro _ w7 ⟨rfl,S2⟩
  replace S:=back _ _ _ _ S2 rfl
  clear back S2 SB8
  refine wd (z7 rfl) (wd (zw rfl rfl) (wd (zw rfl rfl) (wd (zi rfl) (wd (zi rfl) (zb (zd (zd (za ?_))))))))
  refine wd (zh rfl) (wd (xj rfl rfl) (zb ?_))
  refine zH rfl (fun hc9=>?_) (fun hc9=>?_)
  ·replace H:=if_t hc9 H
   refine zd (za (wd (zh rfl) ?_))
   replace S:=S.add (Ext.refl _) (oR.nil _) (fun _ x=>x.elim)
   refine wd (xi rfl) (wd (zi rfl) (zb (zy ?_)))
   refine ⟨_,(xx (zg rfl) (zg rfl)),?_⟩
   replace S:=S.arr [0] []
   obtain rfl:=zbz H
   obtain rfl:=e3
   obtain rfl:=un Ho3
   exact ⟨none,rfl,S⟩
  replace H:=if_f hc9 H
  refine zA (zd (za (wd (zh rfl) (wd (zh q3_i) (wd (xj rfl rfl) (zb ?_))))))
  refine zH rfl (fun hc10=>?_) (fun hc10=>?_)
  ·replace H:=if_t hc10 H
   refine zd (za ?_)
   replace S:=S.add (Ext.refl _) (oR.nil _) (fun _ x=>x.elim)
   refine wd (xi rfl) (wd (zi rfl) (zb (zy ?_)))
   refine ⟨_,(xx (zg rfl) (zg rfl)),?_⟩
   replace S:=S.arr [0] []
   obtain rfl:=zbz H
   obtain rfl:=e3
   obtain rfl:=un Ho3
   exact ⟨none,rfl,S⟩
  replace H:=if_f hc10 H
  refine zA (za (wd (zh q3_i) (wd (xM rfl rfl (c:=i3 + 1) rfl zbw zbw) (wd (zi rfl) (zb ?_)))))
  obtain rfl:=zbz H
  exact ⟨rfl,(by repeat first | exact Dif.refl _ _ | exact Dif.self _ _ _ | refine Dif.upd ?_ rfl _ | refine Dif.mask ?_ rfl _),(m3,i3 + 1,r6.1),⟨(by dsimp only; omega),(by dsimp only; omega),e3,rfl,S⟩,by dsimp only; omega⟩
 rintro g11 u12 ⟨s3,rfl,S⟩
 have H:=Ho3
 dsimp only [aft] at H
 refine zd (za (wd (zo rfl) (wd (xi rfl) (wd (zi rfl) (zb (zy ?_))))))
 refine ⟨_,(xx (zg rfl) (zg rfl)),?_⟩
 replace S:=S.arr [0] []
 obtain rfl:=zbz H
 exact ⟨(some ⟨b2,0,none⟩),rfl,S⟩
theorem law03_Like_st {a0:Tb} {a_0:Option Addr} {a1:Tb} {a_1:Option Addr} (S:St A N w w [] [oT a_0 a0,oR a_1 a1]) {r:Bool} (H:zbZ.f a0 a1=some r) :
  Calls PP F_law03_Like #[.pointer a_0,.pointer a_1] w fun e w' => ∃ v,e = .returned v∧(v = .bool r∧St A N w w' [] []):=by
 unfold zbZ.f at H
 refine zz (n:=22) fn_law03_Like rfl rfl zbx (zd (za (wd (zn rfl) (zb (zd ?_)))))
 obtain ⟨ht8,H⟩ := xm H
 obtain ⟨p9,s10,hp11,S⟩ := S.seeR 1 ht8
 replace S:=S
 refine wc_ws hmix fun w12 K=>?_
 replace S:=S.ext K
 clear K
 obtain ⟨r13,er13,H⟩ := zt H
 refine kI 0 6 [1] zby zbv zby
  (V:=fun i v u=>match i with
  | 1 => ∃ sl,v=SlV.v sl∧(Rd u 4 sl (r13.map Nd.C)∧r13.length ≤ 140737488355328)∧(∀ j,sl.fp j→w12.heap.size ≤ j)
  | _=>True) ?_ ?_
 ·intro i v u u' hi hx hv
  match i,hv with
  | 1,⟨b,e1,hr,hl⟩ => exact ⟨b,e1,⟨hr.1.ext hx,hr.2⟩,hl⟩
  | 0,_=>exact trivial
  | _ + 2,_=>exact trivial
 refine zX (fun v K=>zo rfl) rfl ?_
 refine vL (fun g v K G=>(have ⟨M,SS⟩ := (S.ext K).lend ((.z 2 rfl .nil)); ⟨_,_,zN ca_formula_Table_Rows (zT rfl rfl),newc (formula_Table_Rows_st SS er13) fun _ _ ⟨s',hv,h⟩ => ⟨h.frame,s',hv,h.newS.1,fun i hi=>by have:=h.newS.2 i hi; have:=K.size; omega⟩⟩)) rfl (zX (fun v K=>zo rfl) rfl (zX (fun v K=>zB (congrArg Value.pointer hp11)) rfl (zX (fun v K=>ze xC rfl (o':=0) rfl) rfl (zX (fun v K=>zj zZ rfl (((S.ext K).blkZ 0).cell (RTab.get_n _))) rfl ?_))))
 refine uJ fun g w15 K hV=>?_
 obtain ⟨s14,hv161,hr1,hf1⟩ := hV 1 rfl zbv
 replace S:=S.addZs K (.s hr1.1 hr1.2 hf1 .nil)
 clear K hV
 refine ws_chain 6 8 zby zbv ?_
 obtain ⟨r17,er17,H⟩ := zt H
 obtain ⟨B19,MB19,SB19,back⟩ := S.calln 0 ((.z 0 rfl (.z 2 rfl .nil)))
 refine zu (zN ca_ref03_Same (zT hv161 (zT rfl rfl))) zbv (ref03_Same_st SB19 er17) ?_
 rintro _ w18 ⟨rfl,S2⟩
 replace S:=back _ _ _ _ S2 rfl
 clear back S2 SB19
 refine wd (zD rfl) (zb ⟨rfl,?_⟩)
 obtain ⟨r20,er20,H⟩ := zt H
 refine kI 8 15 [] zby zbv zby
  (V:=fun i v u=>match i with
  | _=>True) ?_ ?_
 ·intro i v u u' hi hx hv
  match i,hv with
  | _,_=>exact trivial
 refine zbu (j:=7) (pol:=true) rfl rfl rfl (fun hg v K=>zo rfl) rfl ?_
 refine wm_gcall (j:=7) (pol:=true) rfl rfl rfl (fun hg v=>zN vV (zT (zm hg) rfl)) (fun hg v K=>(have ⟨M,SS⟩ := (S.ext K).lend ((.z 3 rfl .nil)); quiet (vY SS (if_t (by simpa using hg) er20)) (fun v w' h=>⟨h.1,_,_,h.2⟩))) rfl ?_
 refine zbu (j:=7) (pol:=true) rfl rfl rfl (fun hg v K=>zo rfl) rfl ?_
 refine zbu (j:=7) (pol:=true) rfl rfl rfl (fun hg v K=>zB (((zm hg):_=Value.pointer a_1).trans (congrArg Value.pointer hp11))) rfl ?_
 refine zbu (j:=7) (pol:=true) rfl rfl rfl (fun hg v K=>ze xC (zm hg) (o':=0) rfl) rfl ?_
 refine zbu (j:=7) (pol:=true) rfl rfl rfl (fun hg v K=>zj zZ (zm hg) (((S.ext K).blkZ 1).cell (RTab.get_n _))) rfl ?_
 refine zbu (j:=7) (pol:=true) rfl rfl rfl (fun hg v K=>xd zP (zm hg) ((S.ext K).rd 2)) rfl ?_
 refine uJ fun g w21 K hV=>?_
 replace S:=S.ext K
 clear K hV
 refine ws_tail 15 zby zbv ?_
 refine wg (fun hg=>zL (zm hg) (zm hg)) (wd (xc rfl (fun hp=>(zm (xk hp)))) (wd (zn rfl) ?_))
 replace S:=S.zs [0,3,4]
 refine zb (zy ?_)
 refine ⟨_,(zS (zg rfl)),?_⟩
 replace S:=S.arr [] []
 obtain rfl:=zbz H
 exact ⟨rfl,S⟩
theorem law03_Both_st {a0:List Nd} {s_0:SlV} (S:St A N w w [] [fS 4 Nd.C s_0 a0]) {r:Tb × Tb × Bool} (H:zca.f a0=some r) :
  Calls PP F_law03_Both #[s_0.v] w fun e w' => ∃ v,e = .returned v∧(∃ ao0:Option Addr,∃ ao1:Option Addr,v = .tuple #[.pointer ao0,.pointer ao1,.bool r.2.2]∧St A N w w' [oT ao0 r.1,oR ao1 r.2.1] []):=by
 unfold zca.f at H
 refine zz (n:=27) fn_law03_Both rfl rfl zbx (zd (za ?_))
 replace S:=S.add (Ext.refl _) (oT.nil _) (fun _ x=>x.elim)
 refine wd (xi rfl) ?_
 replace S:=S.add (Ext.refl _) (oR.nil _) (fun _ x=>x.elim)
 refine wd (xi rfl) (wd (zn rfl) (zb (zd (za ?_))))
 refine xy (C:=Nd.C) (l:=([]:List Nd)) (vs:=[]) zP el_Nd.zero rfl rfl (fun a _=>Nd.len a) zbv rfl zbv fun b2 w1 s3 hBw1 hw1=>?_
 replace S:=S.lit hBw1 hw1 zbx
 refine wd (zC rfl) ?_
 obtain ⟨ha6,H⟩ := xm H
 have ha6:=of_decide_eq_true ha6
 refine wl_appendm (C:=Nd.C) zP el_Nd rfl rfl (S.sl 0) (S.rd 0) Nd.one ha6 zbw zbv fun s5 w4 O hw4 gw4=>?_
 replace S:=S.push 0 O (by first | (simp; done) | (simp; omega)) hw4 gw4
 clear O
 refine wd (x6 rfl) (zb (zd (za (wd (zC rfl) ?_))))
 obtain ⟨r7,er7,H⟩ := zt H
 obtain ⟨B9,MB9,SB9,back⟩ := S.calln 0 ((.z 0 rfl .nil))
 refine zu (zq ca_ref03_From) zbv (ref03_From_st SB9 er7) ?_
 rintro _ w8 ⟨a10,rfl,S2⟩
 replace S:=back _ _ _ _ S2 rfl
 clear back S2 SB9
 refine wd (z7 rfl) (wd (zw rfl rfl) (wd (zw rfl rfl) (wd (xi rfl) (wd (zi rfl) (zb (zd (zd (za ?_))))))))
 refine wd (zh rfl) (wd (xj rfl rfl) (zb ?_))
 refine zH rfl (fun hc11=>?_) (fun hc11=>?_)
 ·replace H:=if_t hc11 H
  refine zd (za ?_)
  replace S:=S.add (Ext.refl _) (oT.nil _) (fun _ x=>x.elim)
  refine wd (xi rfl) ?_
  replace S:=S.add (Ext.refl _) (oR.nil _) (fun _ x=>x.elim)
  refine wd (xi rfl) (wd (zn rfl) (zb (zy ?_)))
  refine ⟨_,(rets3 (zg rfl) (zg rfl) (zg rfl)),?_⟩
  replace S:=S.arr [1,0] []
  obtain rfl:=zbz H
  exact ⟨none,none,rfl,S⟩
 replace H:=if_f hc11 H
 refine zA (zd (za (wd (zC rfl) ?_)))
 obtain ⟨r12,er12,H⟩ := zt H
 obtain ⟨B14,MB14,SB14,back⟩ := S.calln 0 ((.s 1 rfl .nil))
 refine zu (zq ca_formula_From) zbv (formula_From_st SB14 er12) ?_
 rintro _ w13 ⟨a15,rfl,S2⟩
 replace S:=back _ _ _ _ S2 rfl
 clear back S2 SB14
 refine wd (z7 rfl) (wd (zw rfl rfl) (wd (zw rfl rfl) (wd (xi rfl) (wd (zi rfl) (zb (zd (za ?_)))))))
 refine wd (zo rfl) (wd (zo rfl) (wd (xi rfl) (wd (xi rfl) (wd (zn rfl) (zb (zy ?_))))))
 refine ⟨_,(rets3 (zg rfl) (zg rfl) (zg rfl)),?_⟩
 replace S:=S.arr [0,1] []
 obtain rfl:=zbz H
 exact ⟨a15,a10,rfl,S⟩
end
section
open Gw Go.RowKit
set_option maxHeartbeats 4000000
set_option maxRecDepth 20000
theorem hilbert_pattern_is_gst {zdR:PPattern→Int→ByteArray→Option (PPattern × ByteArray × Bool)} (zdH : ∀ {A:Nat→Prop} {N:Oth} {w:World} {a0:PPattern} {a_0:Option Addr} {g_0_1:Option Addr} {a1:Int} {a2:ByteArray} (S:St A N w w [oPa a_0 g_0_1 a0] []) {r:PPattern × ByteArray × Bool} (H:zdR a0 a1 a2=some r),Calls PP vj #[.pointer a_0,.int .i64 a1,.string a2] w fun e w' => ∃ v,e = .returned v∧(v = .tuple #[.string r.2.1,.bool r.2.2]∧St A N w w' [oPa a_0 g_0_1 r.1] [])) {A:Nat→Prop} {N:Oth} {w:World} {a0:PPattern} {a_0:Option Addr} {g_0_1:Option Addr} {a1:Int} {a2:ByteArray} (S:St A N w w [oPa a_0 g_0_1 a0] []) {r:PPattern × ByteArray × Bool} (H:zcb.g zdR a0 a1 a2=some r) :
  Calls PP vj #[.pointer a_0,.int .i64 a1,.string a2] w fun e w' => ∃ v,e = .returned v∧(v = .tuple #[.string r.2.1,.bool r.2.2]∧St A N w w' [oPa a_0 g_0_1 r.1] []):=by
 unfold zcb.g at H
 refine zz (n:=86) fn_hilbert_pattern_is rfl rfl zbx (zd (za (wd (yj rfl) (wd (zn rfl) (zb (zd ?_))))))
 refine xU 5 (Ext w) hmix zby zby (Ext.drawn _) (zx (fun v K=>xr rfl) ?_)
 obtain ⟨hi1,H⟩ := xm H
 refine zx (fun v K=>vH y8 rfl rfl (zI hi1).1 (zI hi1).2) (zx (fun v K=>xr rfl) ?_)
 obtain ⟨hi2,H⟩ := xm H
 refine zx (fun v K=>does_sliceStr y8 rfl rfl (of_decide_eq_true hi2).1 (of_decide_eq_true hi2).2) (zx (fun v K=>zi rfl) ?_)
 refine yV fun w3 K=>?_
 replace S:=S.ext K
 clear K
 refine wd (yj rfl) (zb (zd (za (wd (zo rfl) ?_))))
 obtain ⟨p4,m6,hp5,S⟩ := S.open_oPa 0
 replace S:=S
 refine wd (zB (congrArg Value.pointer hp5)) (wd (ze fl_Pattern_t rfl (o':=0) rfl) (wd (zj xI rfl ((S.blk 0).cell (Pattern.get_t _))) (wd (zh rfl) ?_)))
 obtain ⟨r7,er7,H⟩ := zt H
 obtain ⟨B9,MB9,SB9,back⟩ := S.calln 0 ((.o 1 rfl .nil))
 refine zu (zq yC) zbv (yF SB9 er7) ?_
 rintro _ w8 ⟨rfl,S2⟩
 replace S:=back _ _ _ _ S2 rfl
 clear back S2 SB9
 refine wd (z7 rfl) (wd (zw rfl rfl) (wd (zw rfl rfl) ?_))
 refine xa v6 zbv fun b11 w10 hw10=>?_
 replace S:=S.new hw10
 refine zF xQ rfl rfl (S.blk 0) (Nd.len _) (by rw [Nd.len]; decide) (Nd.one _) (zV (Nd.len _)) fun w12 B hw12 zw12=>?_
 replace S:=S.store 0 B hw12
 clear B
 refine wd (zn rfl) ?_
 replace S:=((S.front 3).front 3).front 3
 replace S:=S.shut_oPa hp5
 refine zb (zd (za (wd (zi rfl) (zb (zd (zd (za (wd (zh rfl) (zb ?_)))))))))
 obtain ⟨o13,e13,Ho13⟩ := zt H
 replace H:=e13; clear e13
 refine xO [6,7,12,13,14,30,31,32,33,34,35,36,37,38,39,40,41,42,43,44,45,46,47,48,49,50,51,52,53,54,55,56,57,58,59,60,61,62,63,64] (fun fr W => ∃ s13:Int × PPattern,o13 = .inl s13∧fr 12 = .int .i64 s13.1∧St A N w W [oPa a_0 g_0_1 s13.2,oB b11 T_Nd (Nd.C r7.1)] []) ?_ ?_
 ·refine zO (zd (za (wd (zL rfl rfl) (wd (zn rfl) (zb ?_)))))
  refine zH rfl (fun hc14=>?_) (fun hc14=>?_)
  ·replace H:=if_t hc14 H
   refine za (wd (zi rfl) (zb ?_))
   obtain rfl:=zbz H
   exact ⟨rfl,((((Dif.refl _ _).upd rfl _).upd rfl _).upd rfl _),(5,a0),rfl,rfl,S⟩
  ·replace H:=if_f hc14 H
   refine zd (za (wd (zL rfl rfl) (wd (zn rfl) (zb ?_))))
   refine zH rfl (fun hc15=>?_) (fun hc15=>?_)
   ·replace H:=if_t hc15 H
    refine za (wd (zi rfl) (zb ?_))
    obtain rfl:=zbz H
    exact ⟨rfl,((((((Dif.refl _ _).upd rfl _).upd rfl _).upd rfl _).upd rfl _).upd rfl _),(3,a0),rfl,rfl,S⟩
   ·replace H:=if_f hc15 H
    refine zd (za (wd (zL rfl rfl) (wd (zn rfl) (zb ?_))))
    refine zH rfl (fun hc16=>?_) (fun hc16=>?_)
    rotate_left
    ·replace H:=if_f hc16 H
     refine zd (za (wd (zL rfl rfl) (wd (zn rfl) (zb ?_))))
     refine zH rfl (fun hc17=>?_) (fun hc17=>?_)
     ·replace H:=if_t hc17 H
      refine zd ?_
      refine xU 5 (Ext w12) hmix zby zby (Ext.drawn _) (zx (fun v K=>xr rfl) (zx (fun v K=>ze yo rfl (o':=0) rfl) (zx (fun v K=>zj xP rfl (((S.ext K).blk 1).cell (Nd.get_kind _))) (zx (fun v K=>zL rfl rfl) (zx (fun v K=>yj rfl) ?_)))))
      refine yV fun w18 K=>?_
      replace S:=S.ext K
      clear K
      refine wd (zn rfl) (zb (zy ?_))
      refine ⟨_,(xx (zg rfl) (zg rfl)),?_⟩
      replace S:=S.arr [0] []
      obtain rfl:=zbz H
      obtain rfl:=un Ho13
      exact ⟨rfl,S⟩
     ·replace H:=if_f hc17 H
      refine zd (za (wd (zo rfl) ?_))
      obtain ⟨p19,m21,hp20,S⟩ := S.open_oPa 0
      replace S:=S
      refine wd (zB (congrArg Value.pointer hp20)) (wd (ze fl_Pattern_seen rfl (o':=1) rfl) (wd (zj on_M_uint8_int rfl ((S.blk 0).cell (Pattern.get_seen _))) (wd (zh rfl) (wd (does_lookup_ok (C:=(Value.int .u8)) (D:=(Value.int .i64)) (key:=sb a2 0) (zv:=0) un_M_uint8_int key_uint8 zv_int rfl rfl (S.map 2)) (wd (z7 rfl) (wd (zw rfl rfl) (wd (zw rfl rfl) (wd (zi rfl) (wd (zn rfl) ?_)))))))))
      replace S:=((S.front 2).front 2).front 2
      replace S:=S.shut_oPa hp20
      refine zb (zd (za (wd (zo rfl) ?_)))
      obtain ⟨p22,m24,hp23,S⟩ := S.open_oPa 0
      replace S:=S
      refine wd (zB (congrArg Value.pointer hp23)) (wd (ze fl_Pattern_seen rfl (o':=1) rfl) (wd (zj on_M_uint8_int rfl ((S.blk 0).cell (Pattern.get_seen _))) (wd (zh rfl) (wd (zh rfl) ?_))))
      refine zam (C:=(Value.int .u8)) (D:=(Value.int .i64)) (key:=sb a2 0) (v:=a1) un_M_uint8_int key_uint8 rfl rfl rfl (S.map 2) fun w25 hmw25 hcw25 hsw25=>?_
      replace S:=((S.mapSet 2 ⟨hmw25,hcw25,hsw25⟩).front 2).front 2
      replace S:=S.shut_oPa hp23
      refine zb (zd (za (wd (xr rfl) (wd (zD rfl) (wd (xh rfl) (wd (zD rfl) ?_))))))
      refine wg (fun hg=>zh rfl) ?_
      refine wg (fun hg=>zh rfl) ?_
      refine wg (fun hg=>zL (zm hg) (zm hg)) (wd (xq rfl (fun hp=>(zm (xk hp)))) (wd (yj rfl) (wd (zn rfl) (zb (zy ?_)))))
      refine ⟨_,(xx (zg rfl) (zg rfl)),?_⟩
      replace S:=S.arr [0] []
      obtain rfl:=zbz H
      obtain rfl:=un Ho13
      exact ⟨rfl,S⟩
    replace H:=if_t hc16 H
    refine za (wd (zi rfl) (zb ?_))
    obtain rfl:=zbz H
    exact ⟨rfl,((((((((Dif.refl _ _).upd rfl _).upd rfl _).upd rfl _).upd rfl _).upd rfl _).upd rfl _).upd rfl _),(4,a0),rfl,rfl,S⟩
 rintro g26 u27 ⟨s13,rfl,p13_12,S⟩
 have H:=Ho13
 dsimp only [aft] at H
 refine zd (zd (za (wd (ze yo rfl (o':=0) rfl) (wd (zj xP rfl ((S.blk 1).cell (Nd.get_kind _))) (wd (zh p13_12) (wd (xj rfl rfl) (zb ?_)))))))
 refine zH rfl (fun hc28=>?_) (fun hc28=>?_)
 ·replace H:=if_t hc28 H
  refine zd (za (wd (yj rfl) (wd (zn rfl) (zb (zy ?_)))))
  refine ⟨_,(xx (zg rfl) (zg rfl)),?_⟩
  replace S:=S.arr [0] []
  obtain rfl:=zbz H
  exact ⟨rfl,S⟩
 replace H:=if_f hc28 H
 refine zA (zd (za (wd (zo rfl) (wd (ze xY rfl (o':=2) rfl) (wd (zj zQ rfl ((S.blk 1).cell (Nd.get_l _))) (wd (xr rfl) ?_))))))
 obtain ⟨r29,er29,H⟩ := zt H
 obtain ⟨B31,MB31,SB31,back⟩ := S.calln 1 ((.nil))
 refine zu (zq uE) zbv (zdH SB31 er29) ?_
 rintro _ w30 ⟨rfl,S2⟩
 replace S:=back _ _ _ _ S2 rfl
 clear back S2 SB31
 refine wd (z7 rfl) (wd (zw rfl rfl) (wd (zw rfl rfl) (wd (yj rfl) (wd (zn rfl) (zb (zd (zd (za (wd (zD rfl) (wd (xh rfl) (zb ?_)))))))))))
 refine zH rfl (fun hc32=>?_) (fun hc32=>?_)
 ·replace H:=if_t hc32 H
  refine zd (za (wd (yj rfl) (wd (zn rfl) (zb (zy ?_)))))
  refine ⟨_,(xx (zg rfl) (zg rfl)),?_⟩
  replace S:=S.arr [0] []
  obtain rfl:=zbz H
  exact ⟨rfl,S⟩
 replace H:=if_f hc32 H
 refine zA (zd (za (wd (zo rfl) (wd (ze xS rfl (o':=3) rfl) (wd (zj zQ rfl ((S.blk 1).cell (Nd.get_r _))) (wd (xr rfl) ?_))))))
 obtain ⟨r33,er33,H⟩ := zt H
 obtain ⟨B35,MB35,SB35,back⟩ := S.calln 1 ((.nil))
 refine zu (zq uE) zbv (zdH SB35 er33) ?_
 rintro _ w34 ⟨rfl,S2⟩
 replace S:=back _ _ _ _ S2 rfl
 clear back S2 SB35
 refine wd (zw rfl rfl) (wd (zw rfl rfl) (wd (yj rfl) (wd (zn rfl) (zb (zy ?_)))))
 refine ⟨_,(xx (zg rfl) (zg rfl)),?_⟩
 replace S:=S.arr [0] []
 obtain rfl:=zbz H
 exact ⟨rfl,S⟩
variable {A:Nat→Prop} {N:Oth} {w:World}
theorem hilbert_pattern_is_st {a0:PPattern} {a_0:Option Addr} {g_0_1:Option Addr} {a1:Int} {a2:ByteArray} (S:St A N w w [oPa a_0 g_0_1 a0] []) {k:Nat} {r:PPattern × ByteArray × Bool} (H:zcb.f k a0 a1 a2=some r) :
  Calls PP vj #[.pointer a_0,.int .i64 a1,.string a2] w fun e w' => ∃ v,e = .returned v∧(v = .tuple #[.string r.2.1,.bool r.2.2]∧St A N w w' [oPa a_0 g_0_1 r.1] []):=by
 have main : ∀ (k:Nat) {A:Nat→Prop} {N:Oth} {w:World} {a0:PPattern} {a_0:Option Addr} {g_0_1:Option Addr} {a1:Int} {a2:ByteArray} (S:St A N w w [oPa a_0 g_0_1 a0] []) {r:PPattern × ByteArray × Bool} (H:zcb.f k a0 a1 a2=some r),Calls PP vj #[.pointer a_0,.int .i64 a1,.string a2] w fun e w' => ∃ v,e = .returned v∧(v = .tuple #[.string r.2.1,.bool r.2.2]∧St A N w w' [oPa a_0 g_0_1 r.1] []):=by
  intro k
  induction k with
  | zero=>intro A N w a0 a_0 g_0_1 a1 a2 S r H; cases H
  | succ k ih=>intro A N w a0 a_0 g_0_1 a1 a2 S r H; exact hilbert_pattern_is_gst ih S H
 exact main k S H
theorem hilbert_fits_st {a0:Tb} {a_0:Option Addr} {a1:Int} {a2:Int} (S:St A N w w [oT a_0 a0] []) {k:Nat} {r:Tb × Bool} (H:zcc.f k a0 a1 a2=some r) :
  Calls PP F_hilbert_fits #[.pointer a_0,.int .i64 a1,.int .i64 a2] w fun e w' => ∃ v,e = .returned v∧(v = .bool r.2∧St A N w w' [oT a_0 r.1] []):=by
 unfold zcc.f at H
 refine zz (n:=25) fn_hilbert_fits rfl rfl zbx (zd (za (wd (zn rfl) (zb (zd (za (wd (zh rfl) ?_)))))))
 obtain ⟨r1,er1,H⟩ := zt H
 obtain ⟨B3,MB3,SB3,back⟩ := S.calln 0 ((.nil))
 refine zu (zq ca_hilbert_scheme) zbv (hilbert_scheme_st SB3 er1) ?_
 rintro _ w2 ⟨rfl,S2⟩
 replace S:=back _ _ _ _ S2 rfl
 clear back S2 SB3
 refine wd (yj rfl) (zb (zd (zd (za (wd (xr rfl) (wd (vk rfl rfl) (zb ?_)))))))
 refine zH rfl (fun hc4=>?_) (fun hc4=>?_)
 ·replace H:=if_t hc4 H
  refine zd (za (wd (zn rfl) (zb (zy ?_))))
  refine ⟨_,(zS (zg rfl)),?_⟩
  obtain rfl:=zbz H
  exact ⟨rfl,S⟩
 replace H:=if_f hc4 H
 refine zA (zd (za (wd (zo rfl) ?_)))
 refine wl_makeMap (C:=(Value.int .u8)) (D:=(Value.int .i64)) zbv fun m5 w6 hmw6 hxw6 hlw6=>?_
 replace S:=S.newM hmw6 hxw6 hlw6
 refine wd (Does.to (v' := .agg (Pattern.C (⟨a_0,(some m5)⟩ : Pattern)).toArray) (xo (vs:=[(0,.pointer a_0),(1,.map (some m5))]) bu_Pattern (xJ rfl (xJ rfl rfl)) (Bld.one rfl rfl (by rw [Pattern.len]; decide) (Pattern.set_t _ _) (Bld.one rfl rfl (by rw [Pattern.len]; decide) (Pattern.set_seen _ _) Bld.nil))) rfl) ?_
 refine z1 rfl zbv fun b8 w7 hw7=>?_
 replace S:=((S.new hw7).front 1).front 2
 replace S:=(S.front 2).shut_oPa rfl
 refine wd (zh rfl) (wd (xr rfl) ?_)
 obtain ⟨r9,er9,H⟩ := zt H
 obtain ⟨B11,MB11,SB11,back⟩ := S.calln 1 ((.nil))
 refine zu (zq uE) zbv (hilbert_pattern_is_st SB11 er9) ?_
 rintro _ w10 ⟨rfl,S2⟩
 replace S:=back _ _ _ _ S2 rfl
 clear back S2 SB11
 refine wd (z7 rfl) (wd (zw rfl rfl) (wd (zw rfl rfl) (wd (yj rfl) (wd (zn rfl) (zb (zd (za (wd (zD rfl) (wd (zn rfl) (zb (zy ?_)))))))))))
 obtain ⟨p12,m14,hp13,S⟩ := S.open_oPa 0
 replace S:=S
 refine ⟨_,(zS (zg rfl)),?_⟩
 replace S:=S.arr [1] []
 obtain rfl:=zbz H
 exact ⟨rfl,S⟩
theorem hilbert_has_1_st {a0:Int} {a1:Int} {b_1:Nat} (S:St A N w w [] [oB b_1 yg [.int .i64 a1]]) {r:Bool} (H:zcd.f a0 a1=some r) :
  Calls PP jA #[.int .i64 a0,.pointer (some ⟨b_1,0,none⟩)] w fun e w' => ∃ v,e = .returned v∧(v = .bool r∧St A N w w' [] []):=by
 unfold zcd.f at H
 refine zz (n:=11) fn_hilbert_has_1 rfl rfl zbx (zd (za (wd (zn rfl) (zb (zd (za (wd (zh rfl) (wd (xK rfl rfl) (wd (zD rfl) ?_)))))))))
 refine wg (fun hg=>zh rfl) ?_
 refine wg (fun hg=>zj zQ rfl ((S.blkZ 0).cell rfl)) ?_
 refine wg (fun hg=>vm (zm hg) (zm hg)) (wd (xq rfl (fun hp=>(zm (xk hp)))) (wd (zn rfl) (zb (zy ?_))))
 refine ⟨_,(zS (zg rfl)),?_⟩
 replace S:=S.arr [] []
 obtain rfl:=zbz H
 exact ⟨rfl,S⟩
theorem uz {a0:List Int} {s_0:SlV} {a1_0:Int} {b_1:Nat} (S:St A N w w [] [fS 1 IC s_0 a0,oB b_1 yg [.int .i64 a1_0]]) {r:Int} (H:zce.f a0 a1_0=some r) :
  Calls PP uS #[s_0.v,.func (.func jA) #[] #[.pointer (some ⟨b_1,0,none⟩)]] w fun e w' => ∃ v,e = .returned v∧(v = .int .i64 r∧St A N w w' [] []):=by
 unfold zce.f at H
 refine zz (n:=19) zak rfl rfl zbx (zd (za (wd (zi rfl) (zb (zd (zd (za (wd (zC rfl) (wd (xd xR rfl (S.rd 0)) (wd (zh rfl) (zb ?_)))))))))))
 obtain ⟨o1,e1,Ho1⟩ := zt H
 clear H
 refine xO [4,5,8,9,10,11,12,13,14,15,16,17,18] (fun fr W => ∃ s1:Unit,o1 = .inl s1∧St A N w W [] [fS 1 IC s_0 a0,oB b_1 yg [.int .i64 a1_0]]) ?_ ?_
 ·refine zO ?_
  refine xN (α:=Nat × Int × Unit) [4,5,8,9,10,11,12,13,14,15,16,17,18] (fun x fr W=>(x.1:Int)=(a0.length:Int) - x.2.1∧0 ≤ x.2.1∧forN (fun i s=>zce.b0 a0 a1_0 i) x.1 x.2.1 x.2.2=some o1∧fr 8 = .int .i64 x.2.1∧St A N w W [] [fS 1 IC s_0 a0,oB b_1 yg [.int .i64 a1_0]]) (fun x=>x.1) (((a0.length:Int) - 0).toNat,0,()) ⟨(by dsimp only; have hle:=Int.natCast_nonneg (a0.length); omega),(Int.le_refl _),(by dsimp only; exact e1),rfl,S⟩ ?_
  rintro ⟨m1,i1,_⟩ g1 u1 ⟨hm1,hl1,e1,q1_i,S⟩
  try dsimp only at hm1
  try dsimp only at hl1
  try dsimp only at e1
  try dsimp only at S
  try dsimp only at q1_i
  refine zd (za (wd (xK q1_i rfl) (zb (zd ?_))))
  refine zH rfl (fun hc2=>?_) (fun hc2=>?_)
  rotate_left
  ·refine xZ ?_
   have hge:(a0.length:Int) ≤ i1:=Int.not_lt.1 (of_decide_eq_false hc2)
   obtain rfl:m1=0:=by omega
   replace e1:=jr e1
   exact ⟨rfl,((Dif.self _ _ _).upd rfl _),(),e1,S⟩
  refine zA ?_
  have hlt1:i1 < (a0.length:Int):=of_decide_eq_true hc2
  obtain ⟨m1,rfl⟩ : ∃ m,m1=m + 1:=⟨m1 - 1,by omega⟩
  obtain ⟨q1,H,e1⟩ := js e1
  unfold zce.b0 at H
  try dsimp only at H
  have hb1:=(S.len 0)
  refine zd ?_
  refine zO (zd (za (wd (zh q1_i) (wd (zi rfl) (zb (zd (za (wd (zap rfl) (wd (zC rfl) (wd (zh rfl) (wd (zW xR rfl rfl (S.rd 0) (And.intro (show 0 ≤ i1 by omega) (show i1 < (a0.length:Int) from hlt1)).1 (And.intro (show 0 ≤ i1 by omega) (show i1 < (a0.length:Int) from hlt1)).2) (wd (zj zQ rfl ((S.rd 0).one (xp (0:Int) (And.intro (show 0 ≤ i1 by omega) (show i1 < (a0.length:Int) from hlt1))) rfl)) ?_))))))))))))
  obtain ⟨r4,er4,H⟩ := zt H
  obtain ⟨B6,MB6,SB6,back⟩ := S.calln 0 ((.z 1 rfl .nil))
  refine zu (kA ca_hilbert_has_1 rfl) zbv (hilbert_has_1_st SB6 er4) ?_
  rintro _ w5 ⟨rfl,S2⟩
  replace S:=back _ _ _ _ S2 rfl
  clear back S2 SB6
  refine zb ?_
  refine zH rfl (fun hc7=>?_) (fun hc7=>?_)
  ·replace H:=if_t hc7 H
   refine zd (za (wd (zh rfl) (wd (zi rfl) (zb (zy ?_)))))
   refine ⟨_,(zS (zg rfl)),?_⟩
   replace S:=S.arr [] []
   obtain rfl:=zbz H
   obtain rfl:=e1
   obtain rfl:=un Ho1
   exact ⟨rfl,S⟩
  replace H:=if_f hc7 H
  refine zA (za (wd (xM q1_i rfl (c:=i1 + 1) rfl zbw zbw) (wd (zh rfl) (zb ?_))))
  obtain rfl:=zbz H
  exact ⟨rfl,((((((((((((Dif.self _ _ _).upd rfl _).upd rfl _).upd rfl _).upd rfl _).upd rfl _).upd rfl _).upd rfl _).upd rfl _).upd rfl _).upd rfl _).upd rfl _),(m1,i1 + 1,()),⟨(by dsimp only; omega),(by dsimp only; omega),e1,rfl,S⟩,by dsimp only; omega⟩
 rintro g8 u9 ⟨s1,rfl,S⟩
 have H:=Ho1
 dsimp only [aft] at H
 refine zd (za (wd (zi rfl) (zb (zy ?_))))
 refine ⟨_,(zS (zg rfl)),?_⟩
 replace S:=S.arr [] []
 obtain rfl:=zbz H
 exact ⟨rfl,S⟩
theorem ub {a0:List Int} {s_0:SlV} {a1_0:Int} {b_1:Nat} (S:St A N w w [] [fS 1 IC s_0 a0,oB b_1 yg [.int .i64 a1_0]]) {r:Bool} (H:zcf.f a0 a1_0=some r) :
  Calls PP um #[s_0.v,.func (.func jA) #[] #[.pointer (some ⟨b_1,0,none⟩)]] w fun e w' => ∃ v,e = .returned v∧(v = .bool r∧St A N w w' [] []):=by
 unfold zcf.f at H
 refine zz (n:=9) kE rfl rfl zbx (zd (za (wd (zn rfl) (zb (zd (za (wd (zC rfl) (wd (zap rfl) ?_))))))))
 obtain ⟨r1,er1,H⟩ := zt H
 obtain ⟨B3,MB3,SB3,back⟩ := S.calln 0 ((.z 0 rfl (.z 1 rfl .nil)))
 refine zu (zq zah) zbv (uz SB3 er1) ?_
 rintro _ w2 ⟨rfl,S2⟩
 replace S:=back _ _ _ _ S2 rfl
 clear back S2 SB3
 refine wd (vm rfl rfl) (wd (zn rfl) (zb (zy ?_)))
 refine ⟨_,(zS (zg rfl)),?_⟩
 replace S:=S.arr [] []
 obtain rfl:=zbz H
 exact ⟨rfl,S⟩
theorem ka {a0:Tb} {a_0:Option Addr} {a1:List Int} {s_1:SlV} (S:St A N w w [] [oT a_0 a0,fS 1 IC s_1 a1]) {r:Int} (H:zcg.f a0 a1=some r) :
  Calls PP F_hilbert_has #[.pointer a_0,s_1.v] w fun e w' => ∃ v,e = .returned v∧(v = .int .i64 r∧St A N w w' [] []):=by
 unfold zcg.f at H
 refine zz (n:=14) fn_hilbert_has rfl rfl zbx (zd (za (wd (zi rfl) (zb (zd (zd (za (wd (zo rfl) ?_))))))))
 obtain ⟨r1,er1,H⟩ := zt H
 obtain ⟨B3,MB3,SB3,back⟩ := S.calln 0 ((.z 0 rfl .nil))
 refine zu (zq ca_formula_Table_Copy) zbv (formula_Table_Copy_st SB3 er1) ?_
 rintro _ w2 ⟨a4,rfl,hnilw2,S2⟩
 replace S:=back _ _ _ _ S2 rfl
 clear back S2 SB3
 refine wd (does_isnilp vQ rfl rfl hnilw2) (zb ?_)
 refine zH rfl (fun hc5=>?_) (fun hc5=>?_)
 ·replace H:=if_t hc5 H
  refine zd (za (wd (zi rfl) (zb (zy ?_))))
  refine ⟨_,(zS (zg rfl)),?_⟩
  replace S:=S.arr [] []
  obtain rfl:=zbz H
  exact ⟨rfl,S⟩
 replace H:=if_f hc5 H
 refine zA (zd (za (wd (zo rfl) ?_)))
 obtain ⟨r6,er6,H⟩ := zt H
 obtain ⟨B8,MB8,SB8,back⟩ := S.calln 0 ((.z 0 rfl .nil))
 refine zu (zq vV) zbv (vY SB8 er6) ?_
 rintro _ w7 ⟨rfl,S2⟩
 replace S:=back _ _ _ _ S2 rfl
 clear back S2 SB8
 refine xa ze_int zbv fun b10 w9 hw9=>?_
 replace S:=S.new hw9
 refine yZ zQ rfl rfl (S.blk 0) zbx rfl rfl fun w11 B hw11 zw11=>?_
 replace S:=S.store 0 B hw11
 clear B
 refine zb (zd (zd (za (wd (zC rfl) (wd (does_funcl) ?_)))))
 obtain ⟨r12,er12,H⟩ := zt H
 obtain ⟨B14,MB14,SB14,back⟩ := S.calln 0 ((.z 1 rfl (.o 0 rfl .nil)))
 refine zu (zq kz) zbv (ub SB14 er12) ?_
 rintro _ w13 ⟨rfl,S2⟩
 replace S:=back _ _ _ _ S2 rfl
 clear back S2 SB14
 refine zb ?_
 refine zH rfl (fun hc15=>?_) (fun hc15=>?_)
 ·replace H:=if_t hc15 H
  refine zd (za (wd (zi rfl) (zb (zy ?_))))
  refine ⟨_,(zS (zg rfl)),?_⟩
  replace S:=S.arr [] []
  obtain rfl:=zbz H
  exact ⟨rfl,S⟩
 replace H:=if_f hc15 H
 refine zA (zd (za (wd (zi rfl) (zb (zy ?_)))))
 refine ⟨_,(zS (zg rfl)),?_⟩
 replace S:=S.arr [] []
 obtain rfl:=zbz H
 exact ⟨rfl,S⟩
theorem hilbert_Is_st {a0:Tb} {a_0:Option Addr} {a1:Int} {a2:Int} (S:St A N w w [oT a_0 a0] []) {k:Nat} {r:Tb × Bool × Int} (H:zch.f k a0 a1 a2=some r) :
  Calls PP F_hilbert_Is #[.pointer a_0,.int .i64 a1,.int .i64 a2] w fun e w' => ∃ v,e = .returned v∧(v = .tuple #[.bool r.2.1,.int .i64 r.2.2]∧St A N w w' [oT a_0 r.1] []):=by
 unfold zch.f at H
 refine zz (n:=20) fn_hilbert_Is rfl rfl zbx (zd (za (wd (zn rfl) (wd (zi rfl) (zb (zd (zd (za (wd (zo rfl) (wd (zh rfl) ?_))))))))))
 refine xy (C:=IC) (l:=[a2]) (vs:=[.int .i64 a2]) xR zaD.zero rfl rfl (fun _ _=>rfl) zbv rfl zbv fun b2 w1 s3 hBw1 hw1=>?_
 replace S:=S.lit hBw1 hw1 zbx
 obtain ⟨r4,er4,H⟩ := zt H
 obtain ⟨B6,MB6,SB6,back⟩ := S.calln 0 ((.o 1 rfl (.s 0 rfl .nil)))
 refine zu (zq jZ) zbv (ka SB6 er4) ?_
 rintro _ w5 ⟨rfl,S2⟩
 replace S:=back _ _ _ _ S2 rfl
 clear back S2 SB6
 refine wd (zi rfl) (zb (zd (za (wd (zh rfl) (wd (xj rfl rfl) (zb ?_))))))
 refine zH rfl (fun hc7=>?_) (fun hc7=>?_)
 ·replace H:=if_t hc7 H
  refine zd (za (wd (zh rfl) (wd (zn rfl) (wd (zi rfl) (zb (zy ?_))))))
  refine ⟨_,(xx (zg rfl) (zg rfl)),?_⟩
  replace S:=S.arr [1] []
  obtain rfl:=zbz H
  exact ⟨rfl,S⟩
 replace H:=if_f hc7 H
 refine zA (zd (za (wd (zo rfl) (wd (zh rfl) (wd (zh rfl) ?_)))))
 obtain ⟨r8,er8,H⟩ := zt H
 replace S:=S.front 1
 obtain ⟨B10,MB10,SB10,back⟩ := S.calln 1 ((.nil))
 refine zu (zq ca_hilbert_fits) zbv (hilbert_fits_st SB10 er8) ?_
 rintro _ w9 ⟨rfl,S2⟩
 replace S:=back _ _ _ _ S2 rfl
 clear back S2 SB10
 refine wd (zn rfl) (wd (zi rfl) (zb (zy ?_)))
 refine ⟨_,(xx (zg rfl) (zg rfl)),?_⟩
 replace S:=S.arr [0] []
 obtain rfl:=zbz H
 exact ⟨rfl,S⟩
end
section
open Go.RowKit
namespace Gw
section
variable {P:Program} {rd:Option Nat} {n:Nat} {dm:List Nat} {ops:Array Oper} {Q:Post} {f:Fr} {w:World} {rest:List Oper} {ty:TypeId} {pos:String} {af:Array Edge}
theorem wl_gturn2 {dd:Tmp} {op:Op} {j:Nat} {pol c t:Bool} {v:Value} {oj:Oper} {dj:Tmp} {g:FuncId} {args:Array Value} {R:World→Prop} (hj:ops[j]? = some oj) (hdj:oj.dst=some dj) (ht:f dj=gv c (.bool t)) (hdn:dj < n)
  (he:(c && (t == pol))=true→Enters P ⟨some dd,op,ty,pos,af,some (j,pol)⟩ f w g args) (hd:dd < n)
  (hc:(c && (t == pol))=true→Calls P g args w fun e w' => ∃ v',e = .returned v'∧(v'=v∧R w')) (h0:(c && (t == pol))=false→R w)
  (h : ∀ w',R w'→wl P rd n dm ops rest Q (upd f dd (gv (c && (t == pol)) v)) w'):wl P rd n dm ops (⟨some dd,op,ty,pos,af,some (j,pol)⟩ :: rest) Q f w:=fun a ha=>by
 refine wpListIn_step fun K hK=>?_
 rw [zas ha rfl hj hdj ht hdn]
 cases hcc:(c && (t == pol)) with
 | true =>
  rw [if_pos rfl]
  refine op_wp ha (he hcc) zbx (show _∧_ from ⟨fun h=>(by cases h),?_⟩)
  refine CallsIn.mono (show CallsIn (fen rd) _ P g args w _ from callsIn_wide.2 (hc hcc)) ?_
  rintro e w' ⟨v',rfl,rfl,hx⟩
  have h2:=h w' hx
  rw [hcc,zm rfl] at h2
  exact hK _ _ (h2 _ (ha.put hd _))
 | false =>
  rw [if_neg zbx]
  have h2:=h w (h0 hcc)
  rw [hcc,gv_f] at h2
  exact ⟨fun _ _=>trivial,hK _ _ (h2 _ (ha.put hd _))⟩
theorem wl_gturn {dd:Tmp} {op:Op} {j:Nat} {pol t:Bool} {v:Value} {oj:Oper} {dj:Tmp} {g:FuncId} {args:Array Value} {R:World→Prop} (hj:ops[j]? = some oj) (hdj:oj.dst=some dj) (ht:f dj = .bool t) (hdn:dj < n)
  (he:(t == pol)=true→Enters P ⟨some dd,op,ty,pos,af,some (j,pol)⟩ f w g args) (hd:dd < n)
  (hc:(t == pol)=true→Calls P g args w fun e w' => ∃ v',e = .returned v'∧(v'=v∧R w')) (h0:(t == pol)=false→R w)
  (h : ∀ w',R w'→wl P rd n dm ops rest Q (upd f dd (gv (t == pol) v)) w'):wl P rd n dm ops (⟨some dd,op,ty,pos,af,some (j,pol)⟩ :: rest) Q f w :=
 wl_gturn2 (c:=true) hj hdj (by rw [ht]; exact gv_t _) hdn he hd hc h0 h
end
end Gw
end
section
open Gw Go.RowKit
set_option maxHeartbeats 4000000
set_option maxRecDepth 20000
variable {A:Nat→Prop} {N:Oth} {w:World}
theorem hilbert_right_st {a0:Tb} {a_0:Option Addr} {a1:List (Int × Int)} {m_1:Nat} {a2:List Ln} {s_2:SlV} {a3:Int} (S:St A N w w [oT a_0 a0] [oMI m_1 a1,fS 4 Ln.C s_2 a2]) {k:Nat} {r:Tb × Bool} (H:zci.f k a0 a1 a2 a3=some r) :
  Calls PP F_hilbert_right #[.pointer a_0,.map (some m_1),s_2.v,.int .i64 a3] w fun e w' => ∃ v,e = .returned v∧(v = .bool r.2∧St A N w w' [oT a_0 r.1] []):=by
 unfold zci.f at H
 refine zz (n:=86) fn_hilbert_right rfl rfl zbx (zd (za (wd (zn rfl) (zb (zd (za (wd (zC rfl) (wd (zh rfl) ?_))))))))
 obtain ⟨hi1,H⟩ := xm H
 refine wd (zW zY rfl rfl (S.rd 1) (zI hi1).1 (zI hi1).2) (wd (zp jM rfl ((S.rd 1).at (xp Ln.z (zI hi1))) (Ln.len _)) ?_)
 refine xa ze_Ln zbv fun b3 w2 hw2=>?_
 replace S:=S.new hw2
 refine zF jM rfl rfl (S.blk 0) (Ln.len _) (by rw [Ln.len]; decide) (Ln.one _) (zV (Ln.len _)) fun w4 B hw4 zw4=>?_
 replace S:=S.store 0 B hw4
 clear B
 refine zb (zd (zd (za (wd (ze vt rfl (o':=0) rfl) (wd (zj x7 rfl ((S.blk 0).cell (Ln.get_kind _))) (wd (xj rfl rfl) (zb ?_)))))))
 refine zH rfl (fun hc5=>?_) (fun hc5=>?_)
 ·replace H:=if_t hc5 H
  refine zd (za (wd (ze vt rfl (o':=0) rfl) (wd (zj x7 rfl ((S.blk 0).cell (Ln.get_kind _))) (wd (zL rfl rfl) (wd (zD rfl) ?_)))))
  refine wg (fun hg=>does_mv_m rfl) ?_
  refine wg (fun hg=>ze xX rfl (o':=1) rfl) ?_
  refine wg (fun hg=>zj zQ (zm hg) ((S.blk 0).cell (Ln.get_form _))) ?_
  refine wg (fun hg=>does_lookup1 (C:=(Value.int .i64)) (D:=(Value.int .i64)) (key:=(at_ Ln.z a2 a3).form) (zv:=0) un_M_int_int key_int zv_int (zm hg) (zm hg) (S.mapZ 0)) ?_
  refine wg (fun hg=>uM (zm hg) rfl) (wd (xc rfl (fun hp=>(zm (xk hp)))) (wd (zD rfl) ?_))
  refine wg (fun hg=>zo rfl) ?_
  refine wg (fun hg=>ze vt rfl (o':=0) rfl) ?_
  refine wg (fun hg=>zj x7 (zm hg) ((S.blk 0).cell (Ln.get_kind _))) ?_
  refine wg (fun hg=>ze xX rfl (o':=1) rfl) ?_
  refine wg (fun hg=>zj zQ (zm hg) ((S.blk 0).cell (Ln.get_form _))) ?_
  obtain ⟨r6,er6,H⟩ := zt H
  replace S:=S.front 1
  obtain ⟨B8,MB8,SB8,back⟩ := S.calln 1 ((.nil))
  refine wl_gturn (R:=fun W=>St A N w W [oT a_0 r6.1,oB b3 T_Ln (Ln.C (at_ Ln.z a2 a3))] [oMI m_1 a1,fS 4 Ln.C s_2 a2]) (j:=10) (pol:=false) rfl rfl rfl zbv (fun hg=>zN ca_hilbert_fits (zT (zm hg) (zT (zm hg) (zT (zm hg) rfl)))) zbv (fun hg=>zaC (hilbert_fits_st SB8 (if_t (by simpa using hg) er6)) fun _ _ ⟨hv,S2⟩ => ⟨hv,back _ _ _ _ S2 rfl⟩) (fun hg=>by obtain rfl:=zbz (if_f (by simpa using hg) er6); exact S) fun w7 S2=>?_
  replace S:St A N w w7 [oT a_0 r6.1,oB b3 T_Ln (Ln.C (at_ Ln.z a2 a3))] [oMI m_1 a1,fS 4 Ln.C s_2 a2]:=S2
  clear back S2 SB8
  refine wd (xq rfl (fun hp=>(zm (xk hp)))) (wd (zn rfl) (zb (zd (za (wd (ze jf rfl (o':=2) rfl) (wd (zj zQ rfl ((S.blk 1).cell (Ln.get_a _))) (wd (zL rfl rfl) (wd (zD rfl) ?_))))))))
  refine wg (fun hg=>ze uv rfl (o':=3) rfl) ?_
  refine wg (fun hg=>zj zQ (zm hg) ((S.blk 1).cell (Ln.get_b _))) ?_
  refine wg (fun hg=>zL (zm hg) rfl) (wd (xc rfl (fun hp=>(zm (xk hp)))) (wd (zD rfl) ?_))
  refine wg (fun hg=>zD rfl) (wd (xc rfl (fun hp=>(zm (xk hp)))) (wd (zn rfl) (zb (zy ?_))))
  refine ⟨_,(zS (zg rfl)),?_⟩
  replace S:=S.arr [0] []
  obtain rfl:=zbz H
  exact ⟨rfl,S⟩
 replace H:=if_f hc5 H
 refine zA (zd (zd (za (wd (ze jf rfl (o':=2) rfl) (wd (zj zQ rfl ((S.blk 0).cell (Ln.get_a _))) (wd (ze uv rfl (o':=3) rfl) (wd (zj zQ rfl ((S.blk 0).cell (Ln.get_b _))) (wd (does_min rfl rfl) (wd (xK rfl rfl) (wd (zD rfl) ?_))))))))))
 refine wg (fun hg=>ze jf rfl (o':=2) rfl) ?_
 refine wg (fun hg=>zj zQ (zm hg) ((S.blk 0).cell (Ln.get_a _))) ?_
 refine wg (fun hg=>ze uv rfl (o':=3) rfl) ?_
 refine wg (fun hg=>zj zQ (zm hg) ((S.blk 0).cell (Ln.get_b _))) ?_
 refine wg (fun hg=>does_max (zm hg) (zm hg)) ?_
 refine wg (fun hg=>zh rfl) ?_
 refine wg (fun hg=>vm (zm hg) (zm hg)) (wd (xq rfl (fun hp=>(zm (xk hp)))) (zb ?_))
 refine zH rfl (fun hc9=>?_) (fun hc9=>?_)
 ·replace H:=if_t hc9 H
  refine zd (za (wd (zn rfl) (zb (zy ?_))))
  refine ⟨_,(zS (zg rfl)),?_⟩
  replace S:=S.arr [1] []
  obtain rfl:=zbz H
  exact ⟨rfl,S⟩
 replace H:=if_f hc9 H
 refine zA (zd (za (wd (zo rfl) (wd (zC rfl) (wd (ze jf rfl (o':=2) rfl) (wd (zj zQ rfl ((S.blk 0).cell (Ln.get_a _))) ?_))))))
 obtain ⟨hi10,H⟩ := xm H
 refine wd (zW zY rfl rfl (S.rd 1) (zI hi10).1 (zI hi10).2) (wd (ze xX rfl (o':=_) rfl) (wd (zj zQ rfl (((S.rd 1).at (xp Ln.z (zI hi10))).get (Ln.get_form _))) ?_))
 obtain ⟨r11,er11,H⟩ := zt H
 obtain ⟨B13,MB13,SB13,back⟩ := S.calln 0 ((.o 1 rfl .nil))
 refine zu (zq yC) zbv (yF SB13 er11) ?_
 rintro _ w12 ⟨rfl,S2⟩
 replace S:=back _ _ _ _ S2 rfl
 clear back S2 SB13
 refine wd (z7 rfl) (wd (zw rfl rfl) (wd (zw rfl rfl) ?_))
 refine xa v6 zbv fun b15 w14 hw14=>?_
 replace S:=S.new hw14
 refine zF xQ rfl rfl (S.blk 0) (Nd.len _) (by rw [Nd.len]; decide) (Nd.one _) (zV (Nd.len _)) fun w16 B hw16 zw16=>?_
 replace S:=S.store 0 B hw16
 clear B
 refine wd (zn rfl) (zb (zd ?_))
 refine xU 10 (Ext w16) hmix zby zby (Ext.drawn _) (zx (fun v K=>zp xQ rfl (((S.ext K).blk 0).all _ (Nd.len _)) (Nd.len _)) (zx (fun v K=>zC rfl) (zx (fun v K=>ze uv rfl (o':=3) rfl) (zx (fun v K=>zj zQ rfl (((S.ext K).blk 1).cell (Ln.get_b _))) ?_))))
 obtain ⟨hi17,H⟩ := xm H
 refine zx (fun v K=>zW zY rfl rfl ((S.ext K).rd 1) (zI hi17).1 (zI hi17).2) (zx (fun v K=>ze xX rfl (o':=_) rfl) (zx (fun v K=>zj zQ rfl ((((S.ext K).rd 1).at (xp Ln.z (zI hi17))).get (Ln.get_form _))) (zx (fun v K=>ze xX rfl (o':=1) rfl) (zx (fun v K=>zj zQ rfl (((S.ext K).blk 1).cell (Ln.get_form _))) (zx (fun v K=>yE bu_Nd (Bld.one rfl rfl (by rw [Nd.len]; decide) (Nd.set_kind _ _) (Bld.one rfl rfl (by rw [Nd.len]; decide) (Nd.set_l _ _) (Bld.one rfl rfl (by rw [Nd.len]; decide) (Nd.set_r _ _) Bld.nil)))) ?_)))))
 refine yV fun w18 K=>?_
 replace S:=S.ext K
 clear K
 refine wd (does_eqv eg_Nd (eq_Nd _ _) zbv rfl rfl) (wd (zn rfl) (zb (zy ?_)))
 refine ⟨_,(zS (zg rfl)),?_⟩
 replace S:=S.arr [2] []
 obtain rfl:=zbz H
 exact ⟨rfl,S⟩
theorem jh {a0:Tb} {a_0:Option Addr} {a1:List Int} {s_1:SlV} {a2:List Ln} {s_2:SlV} (S:St A N w w [oT a_0 a0] [fS 1 IC s_1 a1,fS 4 Ln.C s_2 a2]) {k:Nat} {r:Tb × Int} (H:zcj.f k a0 a1 a2=some r) :
  Calls PP F_hilbert_Check #[.pointer a_0,s_1.v,s_2.v] w fun e w' => ∃ v,e = .returned v∧(v = .int .i64 r.2∧St A N w w' [oT a_0 r.1] []):=by
 unfold zcj.f at H
 refine zz (n:=63) fn_hilbert_Check rfl rfl zbx (zd (za (wd (zi rfl) (zb (zd (zd (za (wd (zo rfl) (wd (zC rfl) ?_)))))))))
 obtain ⟨r1,er1,H⟩ := zt H
 obtain ⟨B3,MB3,SB3,back⟩ := S.calln 0 ((.o 0 rfl (.z 0 rfl .nil)))
 refine zu (zq jZ) zbv (ka SB3 er1) ?_
 rintro _ w2 ⟨rfl,S2⟩
 replace S:=back _ _ _ _ S2 rfl
 clear back S2 SB3
 refine wd (zi rfl) (zb (zd (za (wd (zh rfl) (wd (xj rfl rfl) (zb ?_))))))
 refine zH rfl (fun hc4=>?_) (fun hc4=>?_)
 ·replace H:=if_t hc4 H
  refine zd (za (wd (zh rfl) (wd (zi rfl) (zb (zy ?_)))))
  refine ⟨_,(zS (zg rfl)),?_⟩
  replace S:=S.arr [0] []
  obtain rfl:=zbz H
  exact ⟨rfl,S⟩
 replace H:=if_f hc4 H
 refine zA (zd (zd (za (wd (zC rfl) (wd (xd zY rfl (S.rd 1)) (wd (zh rfl) (zb ?_)))))))
 obtain ⟨o5,e5,Ho5⟩ := zt H
 clear H
 refine xO [6,9,10,23,24,25,26,27,28,29,30,31,32,33,34,35] (fun fr W => ∃ s5:Unit,o5 = .inl s5∧St A N w W [oT a_0 a0] [fS 1 IC s_1 a1,fS 4 Ln.C s_2 a2]) ?_ ?_
 ·refine zO ?_
  refine xN (α:=Nat × Int × Unit) [6,9,10,23,24,25,26,27,28,29,30,31,32,33,34,35] (fun x fr W=>(x.1:Int)=(a2.length:Int) - x.2.1∧0 ≤ x.2.1∧forN (fun i s=>zcj.b0 a0 a2 i) x.1 x.2.1 x.2.2=some o5∧fr 23 = .int .i64 x.2.1∧St A N w W [oT a_0 a0] [fS 1 IC s_1 a1,fS 4 Ln.C s_2 a2]) (fun x=>x.1) (((a2.length:Int) - 0).toNat,0,()) ⟨(by dsimp only; have hle:=Int.natCast_nonneg (a2.length); omega),(Int.le_refl _),(by dsimp only; exact e5),rfl,S⟩ ?_
  rintro ⟨m5,i5,_⟩ g5 u5 ⟨hm5,hl5,e5,q5_i,S⟩
  try dsimp only at hm5
  try dsimp only at hl5
  try dsimp only at e5
  try dsimp only at S
  try dsimp only at q5_i
  refine zd (za (wd (xK q5_i rfl) (zb (zd ?_))))
  refine zH rfl (fun hc6=>?_) (fun hc6=>?_)
  rotate_left
  ·refine xZ ?_
   have hge:(a2.length:Int) ≤ i5:=Int.not_lt.1 (of_decide_eq_false hc6)
   obtain rfl:m5=0:=by omega
   replace e5:=jr e5
   exact ⟨rfl,((Dif.self _ _ _).upd rfl _),(),e5,S⟩
  refine zA ?_
  have hlt5:i5 < (a2.length:Int):=of_decide_eq_true hc6
  obtain ⟨m5,rfl⟩ : ∃ m,m5=m + 1:=⟨m5 - 1,by omega⟩
  obtain ⟨q5,H,e5⟩ := js e5
  unfold zcj.b0 at H
  try dsimp only at H
  have hb5:=(S.len 1)
  refine zd ?_
  refine zO (zd (za (wd (zW zY rfl q5_i (S.rd 1) (And.intro (show 0 ≤ i5 by omega) (show i5 < (a2.length:Int) from hlt5)).1 (And.intro (show 0 ≤ i5 by omega) (show i5 < (a2.length:Int) from hlt5)).2) (wd (zp jM rfl ((S.rd 1).at (xp Ln.z (And.intro (show 0 ≤ i5 by omega) (show i5 < (a2.length:Int) from hlt5)))) (Ln.len _)) ?_))))
  refine xa ze_Ln zbv fun b9 w8 hw8=>?_
  replace S:=S.new hw8
  refine zF jM rfl rfl (S.blk 0) (Ln.len _) (by rw [Ln.len]; decide) (Ln.one _) (zV (Ln.len _)) fun w10 B hw10 zw10=>?_
  replace S:=S.store 0 B hw10
  clear B
  refine zb (zd (za (wd (zo rfl) (wd (ze xX rfl (o':=1) rfl) (wd (zj zQ rfl ((S.blk 0).cell (Ln.get_form _))) ?_)))))
  refine xy (C:=IC) (l:=[(at_ Ln.z a2 i5).form]) (vs:=[.int .i64 ((at_ Ln.z a2 i5).form)]) xR zaD.zero rfl rfl (fun _ _=>rfl) zbv rfl zbv fun b12 w11 s13 hBw11 hw11=>?_
  replace S:=S.lit hBw11 hw11 zbx
  obtain ⟨r14,er14,H⟩ := zt H
  obtain ⟨B16,MB16,SB16,back⟩ := S.calln 0 ((.o 2 rfl (.s 0 rfl .nil)))
  refine zu (zq jZ) zbv (ka SB16 er14) ?_
  rintro _ w15 ⟨rfl,S2⟩
  replace S:=back _ _ _ _ S2 rfl
  clear back S2 SB16
  refine wd (zi rfl) (zb (zd (za (wd (zh rfl) (wd (xj rfl rfl) (zb ?_))))))
  refine zH rfl (fun hc17=>?_) (fun hc17=>?_)
  ·replace H:=if_t hc17 H
   refine zd (za (wd (zh rfl) (wd (zi rfl) (zb (zy ?_)))))
   refine ⟨_,(zS (zg rfl)),?_⟩
   replace S:=S.arr [2] []
   obtain rfl:=zbz H
   obtain rfl:=e5
   obtain rfl:=un Ho5
   exact ⟨rfl,S⟩
  replace H:=if_f hc17 H
  refine zA (za (wd (xM q5_i rfl (c:=i5 + 1) rfl zbw zbw) (wd (zh rfl) (zb ?_))))
  replace S:=S.arr [2] [0,1]
  obtain rfl:=zbz H
  exact ⟨rfl,(by repeat first | exact Dif.refl _ _ | exact Dif.self _ _ _ | refine Dif.upd ?_ rfl _ | refine Dif.mask ?_ rfl _),(m5,i5 + 1,()),⟨(by dsimp only; omega),(by dsimp only; omega),e5,rfl,S⟩,by dsimp only; omega⟩
 rintro g18 u19 ⟨s5,rfl,S⟩
 have H:=Ho5
 dsimp only [aft] at H
 refine zd (za ?_)
 refine wl_makeMap (C:=(Value.int .i64)) (D:=(Value.int .i64)) zbv fun m20 w21 hmw21 hxw21 hlw21=>?_
 replace S:=S.newM hmw21 hxw21 hlw21
 refine wd (does_as_m rfl) (zb (zd (zd (za (wd (zC rfl) (wd (xd xR rfl (S.rd 0)) (wd (zh rfl) (zb ?_))))))))
 obtain ⟨o22,e22,Ho22⟩ := zt H
 clear H
 refine xO [13,39,40,41,42,43,44,45,46,47] (fun fr W=>St A N w W [oMI m20 o22,oT a_0 a0] [fS 1 IC s_1 a1,fS 4 Ln.C s_2 a2]) ?_ ?_
 ·refine zO ?_
  refine xN (α:=Nat × Int × (List (Int × Int))) [13,39,40,41,42,43,44,45,46,47] (fun x fr W=>(x.1:Int)=(a1.length:Int) - x.2.1∧0 ≤ x.2.1∧forS (fun i s=>zcj.b1 a1 i s) x.1 x.2.1 x.2.2=some o22∧fr 39 = .int .i64 x.2.1∧St A N w W [oMI m20 (x.2.2),oT a_0 a0] [fS 1 IC s_1 a1,fS 4 Ln.C s_2 a2]) (fun x=>x.1) (((a1.length:Int) - 0).toNat,0,([]:List (Int × Int))) ⟨(by dsimp only; have hle:=Int.natCast_nonneg (a1.length); omega),(Int.le_refl _),(by dsimp only; exact e22),rfl,S⟩ ?_
  rintro ⟨m22,i22,x22_0⟩ g22 u22 ⟨hm22,hl22,e22,q22_i,S⟩
  try dsimp only at hm22
  try dsimp only at hl22
  try dsimp only at e22
  try dsimp only at S
  try dsimp only at q22_i
  refine zd (za (wd (xK q22_i rfl) (zb (zd ?_))))
  refine zH rfl (fun hc23=>?_) (fun hc23=>?_)
  rotate_left
  ·refine xZ ?_
   have hge:(a1.length:Int) ≤ i22:=Int.not_lt.1 (of_decide_eq_false hc23)
   obtain rfl:m22=0:=by omega
   replace e22:=forS_0 e22
   obtain rfl:=e22
   exact ⟨rfl,((Dif.self _ _ _).upd rfl _),S⟩
  refine zA ?_
  have hlt22:i22 < (a1.length:Int):=of_decide_eq_true hc23
  obtain ⟨m22,rfl⟩ : ∃ m,m22=m + 1:=⟨m22 - 1,by omega⟩
  obtain ⟨q22,H,e22⟩ := forS_s e22
  unfold zcj.b1 at H
  try dsimp only at H
  have hb22:=(S.len 0)
  refine zd ?_
  refine zO (zd (za (wd (zW xR rfl q22_i (S.rd 0) (And.intro (show 0 ≤ i22 by omega) (show i22 < (a1.length:Int) from hlt22)).1 (And.intro (show 0 ≤ i22 by omega) (show i22 < (a1.length:Int) from hlt22)).2) (wd (zj zQ rfl ((S.rd 0).one (xp (0:Int) (And.intro (show 0 ≤ i22 by omega) (show i22 < (a1.length:Int) from hlt22))) rfl)) (wd (zi rfl) (zb (za (wd (does_mv_m rfl) (wd (zh rfl) (wd (does_lookup1 (C:=(Value.int .i64)) (D:=(Value.int .i64)) (key:=at_ (0:Int) a1 i22) (zv:=0) un_M_int_int key_int zv_int rfl rfl (S.map 0)) (wd (uf rfl rfl) ?_)))))))))))
  refine zam (C:=(Value.int .i64)) (D:=(Value.int .i64)) (key:=at_ (0:Int) a1 i22) (v:=IntKind.i64.wrap (((Gw.look (at_ (0:Int) a1 i22) x22_0).getD 0) + 1)) un_M_int_int key_int rfl rfl rfl (S.map 0) fun w25 hmw25 hcw25 hsw25=>?_
  replace S:=S.mapSet 0 ⟨hmw25,hcw25,hsw25⟩
  refine zb (za (wd (xM q22_i rfl (c:=i22 + 1) rfl zbw zbw) (wd (zh rfl) (zb ?_))))
  obtain rfl:=zbz H
  exact ⟨rfl,(((((((((((Dif.self _ _ _).upd rfl _).upd rfl _).upd rfl _).upd rfl _).upd rfl _).upd rfl _).upd rfl _).upd rfl _).upd rfl _).upd rfl _),(m22,i22 + 1,Gw.ins (at_ (0:Int) a1 i22) (IntKind.i64.wrap (((Gw.look (at_ (0:Int) a1 i22) x22_0).getD 0) + 1)) x22_0),⟨(by dsimp only; omega),(by dsimp only; omega),e22,rfl,S⟩,by dsimp only; omega⟩
 rintro g26 u27 S
 have H:=Ho22
 refine zd (zd (za (wd (zC rfl) (wd (xd zY rfl (S.rd 1)) (wd (zh rfl) (zb ?_))))))
 obtain ⟨o28,e28,Ho28⟩ := zt H
 clear H
 refine xO [6,14,50,51,52,53,54,55,56,57,58,59] (fun fr W => ∃ s28:Tb,o28 = .inl s28∧St A N w W [oMI m20 o22,oT a_0 s28] [fS 1 IC s_1 a1,fS 4 Ln.C s_2 a2]) ?_ ?_
 ·refine zO ?_
  refine xN (α:=Nat × Int × Tb) [6,14,50,51,52,53,54,55,56,57,58,59] (fun x fr W=>(x.1:Int)=(a2.length:Int) - x.2.1∧0 ≤ x.2.1∧forN (fun i s=>zcj.b2 k o22 a2 i s) x.1 x.2.1 x.2.2=some o28∧fr 50 = .int .i64 x.2.1∧St A N w W [oMI m20 o22,oT a_0 (x.2.2)] [fS 1 IC s_1 a1,fS 4 Ln.C s_2 a2]) (fun x=>x.1) (((a2.length:Int) - 0).toNat,0,a0) ⟨(by dsimp only; have hle:=Int.natCast_nonneg (a2.length); omega),(Int.le_refl _),(by dsimp only; exact e28),rfl,S⟩ ?_
  rintro ⟨m28,i28,x28_0⟩ g28 u28 ⟨hm28,hl28,e28,q28_i,S⟩
  try dsimp only at hm28
  try dsimp only at hl28
  try dsimp only at e28
  try dsimp only at S
  try dsimp only at q28_i
  refine zd (za (wd (xK q28_i rfl) (zb (zd ?_))))
  refine zH rfl (fun hc29=>?_) (fun hc29=>?_)
  rotate_left
  ·refine xZ ?_
   have hge:(a2.length:Int) ≤ i28:=Int.not_lt.1 (of_decide_eq_false hc29)
   obtain rfl:m28=0:=by omega
   replace e28:=jr e28
   exact ⟨rfl,((Dif.self _ _ _).upd rfl _),x28_0,e28,S⟩
  refine zA ?_
  have hlt28:i28 < (a2.length:Int):=of_decide_eq_true hc29
  obtain ⟨m28,rfl⟩ : ∃ m,m28=m + 1:=⟨m28 - 1,by omega⟩
  obtain ⟨q28,H,e28⟩ := js e28
  unfold zcj.b2 at H
  try dsimp only at H
  have hb28:=(S.len 1)
  refine zd ?_
  refine zO (zd (za (wd (zh q28_i) (wd (zi rfl) (zb (zd (za (wd (zo rfl) (wd (does_mv_m rfl) (wd (zC rfl) (wd (zh rfl) ?_)))))))))))
  obtain ⟨r30,er30,H⟩ := zt H
  replace S:=S.front 1
  obtain ⟨B32,MB32,SB32,back⟩ := S.calln 1 ((.o 0 rfl (.z 1 rfl .nil)))
  refine zu (zq ca_hilbert_right) zbv (hilbert_right_st SB32 er30) ?_
  rintro _ w31 ⟨rfl,S2⟩
  replace S:=back _ _ _ _ S2 rfl
  clear back S2 SB32
  refine wd (xh rfl) (zb ?_)
  refine zH rfl (fun hc33=>?_) (fun hc33=>?_)
  ·replace H:=if_t hc33 H
   refine zd (za (wd (zi rfl) (zb (zy ?_))))
   refine ⟨_,(zS (zg rfl)),?_⟩
   replace S:=S.arr [0] []
   obtain rfl:=zbz H
   obtain rfl:=e28
   obtain rfl:=un Ho28
   exact ⟨rfl,S⟩
  replace H:=if_f hc33 H
  refine zA (za (wd (xM q28_i rfl (c:=i28 + 1) rfl zbw zbw) (wd (zh rfl) (zb ?_))))
  replace S:=S.arr [1,0] [0,1]
  obtain rfl:=zbz H
  exact ⟨rfl,((((((((((((Dif.self _ _ _).upd rfl _).upd rfl _).upd rfl _).upd rfl _).upd rfl _).upd rfl _).upd rfl _).upd rfl _).upd rfl _).upd rfl _).upd rfl _),(m28,i28 + 1,r30.1),⟨(by dsimp only; omega),(by dsimp only; omega),e28,rfl,S⟩,by dsimp only; omega⟩
 rintro g34 u35 ⟨s28,rfl,S⟩
 have H:=Ho28
 dsimp only [aft] at H
 refine zd (zd (za (wd (zC rfl) (wd (xd zY rfl (S.rd 1)) (wd (zL rfl rfl) (zb ?_))))))
 refine zH rfl (fun hc36=>?_) (fun hc36=>?_)
 ·replace H:=if_t hc36 H
  refine zd (za (wd (zi rfl) (zb (zy ?_))))
  refine ⟨_,(zS (zg rfl)),?_⟩
  replace S:=S.arr [1] []
  obtain rfl:=zbz H
  exact ⟨rfl,S⟩
 replace H:=if_f hc36 H
 refine zA (zd (za (wd (zi rfl) (zb (zy ?_)))))
 refine ⟨_,(zS (zg rfl)),?_⟩
 replace S:=S.arr [1] []
 obtain rfl:=zbz H
 exact ⟨rfl,S⟩
theorem hilbert_Tells_st {a0:Tb} {a_0:Option Addr} {a1:List Int} {s_1:SlV} {a2:List Ln} {s_2:SlV} (S:St A N w w [oT a_0 a0] [fS 1 IC s_1 a1,fS 4 Ln.C s_2 a2]) {k:Nat} {r:Tb × Int × Int} (H:zck.f k a0 a1 a2=some r) :
  Calls PP F_hilbert_Tells #[.pointer a_0,s_1.v,s_2.v] w fun e w' => ∃ v,e = .returned v∧(v = .tuple #[.int .i64 r.2.1,.int .i64 r.2.2]∧St A N w w' [oT a_0 r.1] []):=by
 unfold zck.f at H
 refine zz (n:=23) fn_hilbert_Tells rfl rfl zbx (zd (za (wd (zi rfl) (wd (zi rfl) (zb (zd (zd (za (wd (zo rfl) (wd (zC rfl) (wd (zC rfl) ?_)))))))))))
 obtain ⟨r1,er1,H⟩ := zt H
 obtain ⟨B3,MB3,SB3,back⟩ := S.calln 1 ((.z 0 rfl (.z 1 rfl .nil)))
 refine zu (zq jc) zbv (jh SB3 er1) ?_
 rintro _ w2 ⟨rfl,S2⟩
 replace S:=back _ _ _ _ S2 rfl
 clear back S2 SB3
 refine wd (zi rfl) (zb (zd (za (wd (zh rfl) (wd (xj rfl rfl) (zb ?_))))))
 refine zH rfl (fun hc4=>?_) (fun hc4=>?_)
 ·replace H:=if_t hc4 H
  refine zd (za (wd (zh rfl) (wd (zi rfl) (wd (zi rfl) (zb (zy ?_))))))
  refine ⟨_,(xx (zg rfl) (zg rfl)),?_⟩
  replace S:=S.arr [0] []
  obtain rfl:=zbz H
  exact ⟨rfl,S⟩
 replace H:=if_f hc4 H
 refine zA (zd (za (wd (zC rfl) (wd (zC rfl) (wd (xd zY rfl (S.rd 1)) (wd (ug rfl rfl) ?_))))))
 obtain ⟨hi5,H⟩ := xm H
 refine wd (zW zY rfl rfl (S.rd 1) (zI hi5).1 (zI hi5).2) (wd (ze xX rfl (o':=_) rfl) (wd (zj zQ rfl (((S.rd 1).at (xp Ln.z (zI hi5))).get (Ln.get_form _))) (wd (zi rfl) (wd (zi rfl) (zb (zy ?_))))))
 refine ⟨_,(xx (zg rfl) (zg rfl)),?_⟩
 replace S:=S.arr [0] []
 obtain rfl:=zbz H
 exact ⟨rfl,S⟩
theorem hilbert_maker_form_st {a0:PMaker} {a_0:Option Addr} {g_0_1:Option Addr} {a1:Int} {a2:Int} {a3:Int} (S:St A N w w [oK a_0 g_0_1 a0] []) {r:PMaker × Int} (H:zcl.f a0 a1 a2 a3=some r) :
  Calls PP kO #[.pointer a_0,.int .i64 a1,.int .i64 a2,.int .i64 a3] w fun e w' => ∃ v,e = .returned v∧(v = .int .i64 r.2∧St A N w w' [oK a_0 g_0_1 r.1] []):=by
 unfold zcl.f at H
 refine zz (n:=33) fn_hilbert_maker_form rfl rfl zbx (zd (za (wd (zi rfl) (zb (zd (zd (za (wd (zo rfl) ?_))))))))
 obtain ⟨p1,s3,hp2,S⟩ := S.open_oK 0
 replace S:=S
 refine wd (zB (congrArg Value.pointer hp2)) (wd (ze ym rfl (o':=2) rfl) (wd (zj yf rfl ((S.blk 0).cell (Maker.get_bad _))) (wd (xj rfl rfl) ?_)))
 replace S:=((S.front 2).front 2).front 2
 replace S:=S.shut_oK hp2
 refine zb ?_
 refine zH rfl (fun hc4=>?_) (fun hc4=>?_)
 ·replace H:=if_t hc4 H
  refine zd (za (wd (zi rfl) (zb (zy ?_))))
  refine ⟨_,(zS (zg rfl)),?_⟩
  obtain rfl:=zbz H
  exact ⟨rfl,S⟩
 replace H:=if_f hc4 H
 refine zA (zd (za (wd (zo rfl) ?_)))
 obtain ⟨p5,s7,hp6,S⟩ := S.open_oK 0
 replace S:=S
 refine wd (zB (congrArg Value.pointer hp6)) (wd (ze uX rfl (o':=0) rfl) (wd (zj xI rfl ((S.blk 0).cell (Maker.get_t _))) (wd (zh rfl) (wd (zh rfl) (wd (zh rfl) (wd (yE bu_Nd (Bld.one rfl rfl (by rw [Nd.len]; decide) (Nd.set_kind _ _) (Bld.one rfl rfl (by rw [Nd.len]; decide) (Nd.set_l _ _) (Bld.one rfl rfl (by rw [Nd.len]; decide) (Nd.set_r _ _) Bld.nil)))) ?_))))))
 obtain ⟨r8,er8,H⟩ := zt H
 replace S:=S.front 1
 obtain ⟨B10,MB10,SB10,back⟩ := S.calln 1 ((.nil))
 refine zu (zq vW) zbv (uZ SB10 er8) ?_
 rintro _ w9 ⟨rfl,S2⟩
 replace S:=back _ _ _ _ S2 rfl
 clear back S2 SB10
 refine wd (z7 rfl) (wd (zw rfl rfl) (wd (zw rfl rfl) (wd (zi rfl) (wd (zi rfl) ?_))))
 replace S:=((S.front 2).front 1).front 2
 replace S:=S.shut_oK hp6
 refine zb (zd (za (wd (zo rfl) (wd (zh rfl) ?_))))
 obtain ⟨p11,s13,hp12,S⟩ := S.open_oK 0
 replace S:=S
 refine wd (zB (congrArg Value.pointer hp12)) (wd (ze ym rfl (o':=2) rfl) ?_)
 refine yZ yf rfl rfl (S.blk 0) (by rw [Maker.len]; decide) rfl (Maker.set_bad _ _) fun w14 B hw14 zw14=>?_
 replace S:=S.store 0 B hw14
 clear B
 replace S:=((S.front 2).front 2).front 2
 replace S:=S.shut_oK hp12
 refine zb (zd (za (wd (zh rfl) (wd (zi rfl) (zb (zy ?_))))))
 refine ⟨_,(zS (zg rfl)),?_⟩
 obtain rfl:=zbz H
 exact ⟨rfl,S⟩
theorem xf {a0:PMaker} {a_0:Option Addr} {g_0_1:Option Addr} {a1:Int} {a2:Int} (S:St A N w w [oK a_0 g_0_1 a0] []) {r:PMaker × Int} (H:zcm.f a0 a1 a2=some r) :
  Calls PP zad #[.pointer a_0,.int .i64 a1,.int .i64 a2] w fun e w' => ∃ v,e = .returned v∧(v = .int .i64 r.2∧St A N w w' [oK a_0 g_0_1 r.1] []):=by
 unfold zcm.f at H
 refine zz (n:=11) fn_hilbert_maker_imp rfl rfl zbx (zd (za (wd (zi rfl) (zb (zd (za (wd (zo rfl) (wd (zh rfl) (wd (zh rfl) ?_)))))))))
 obtain ⟨r1,er1,H⟩ := zt H
 obtain ⟨B3,MB3,SB3,back⟩ := S.calln 1 ((.nil))
 refine zu (zq ca_hilbert_maker_form) zbv (hilbert_maker_form_st SB3 er1) ?_
 rintro _ w2 ⟨rfl,S2⟩
 replace S:=back _ _ _ _ S2 rfl
 clear back S2 SB3
 refine wd (zi rfl) (zb (zy ?_))
 refine ⟨_,(zS (zg rfl)),?_⟩
 obtain rfl:=zbz H
 exact ⟨rfl,S⟩
theorem vd {a0:PMaker} {a_0:Option Addr} {g_0_1:Option Addr} {a1:Ln} (S:St A N w w [oK a_0 g_0_1 a0] []) {r:PMaker × Int} (H:zcn.f a0 a1=some r) :
  Calls PP kP #[.pointer a_0,.agg (Ln.C a1).toArray] w fun e w' => ∃ v,e = .returned v∧(v = .int .i64 r.2∧St A N w w' [oK a_0 g_0_1 r.1] []):=by
 unfold zcn.f at H
 refine zz (n:=42) fn_hilbert_maker_line rfl rfl zbx (zd (za ?_))
 refine z1 rfl zbv fun b2 w1 hw1=>?_
 replace S:=S.new hw1
 refine wd (zi rfl) (zb (zd (zd (za (wd (zo rfl) ?_)))))
 obtain ⟨p3,s5,hp4,S⟩ := S.open_oK 1
 replace S:=S
 refine wd (zB (congrArg Value.pointer hp4)) (wd (ze ym rfl (o':=2) rfl) (wd (zj yf rfl ((S.blk 0).cell (Maker.get_bad _))) (wd (zL rfl rfl) (wd (zD rfl) ?_))))
 refine wg (fun hg=>zo rfl) ?_
 refine wg (fun hg=>zB (((zm hg):_=Value.pointer a_0).trans (congrArg Value.pointer hp4))) ?_
 refine wg (fun hg=>ze v8 (zm hg) (o':=1) rfl) ?_
 refine wg (fun hg=>zj yJ (zm hg) ((S.blk 0).cell (Maker.get_l _))) ?_
 refine wg (fun hg=>xd zY (zm hg) (S.rdO 2)) ?_
 refine wg (fun hg=>zL (zm hg) rfl) (wd (xc rfl (fun hp=>(zm (xk hp)))) ?_)
 replace S:=((S.front 2).front 2).front 2
 replace S:=S.shut_oK hp4
 refine zb ?_
 obtain ⟨o6,e6,Ho6⟩ := zt H
 replace H:=e6; clear e6
 refine xO [18,19,20] (fun fr W=>St A N w W [oK a_0 g_0_1 o6,oB b2 T_Ln (Ln.C a1)] []) ?_ ?_
 ·refine zH rfl (fun hc7=>?_) (fun hc7=>?_)
  ·replace H:=if_t hc7 H
   refine za (wd (zo rfl) ?_)
   obtain ⟨p8,s10,hp9,S⟩ := S.open_oK 0
   replace S:=S
   refine wd (zB (congrArg Value.pointer hp9)) (wd (ze ym rfl (o':=2) rfl) ?_)
   refine yZ yf rfl rfl (S.blk 0) (by rw [Maker.len]; decide) rfl (Maker.set_bad _ _) fun w11 B hw11 zw11=>?_
   replace S:=S.store 0 B hw11
   clear B
   replace S:=((S.front 2).front 2).front 2
   replace S:=S.shut_oK hp9
   refine zb ?_
   obtain rfl:=zbz H
   exact ⟨rfl,((((Dif.refl _ _).upd rfl _).upd rfl _).upd rfl _),S⟩
  ·replace H:=if_f hc7 H
   refine zA ?_
   obtain rfl:=zbz H
   exact ⟨rfl,(Dif.refl _ _),S⟩
 rintro g12 u13 S
 have H:=Ho6
 refine zd (zd (za (wd (zo rfl) ?_)))
 obtain ⟨p14,s16,hp15,S⟩ := S.open_oK 0
 replace S:=S
 refine wd (zB (congrArg Value.pointer hp15)) (wd (ze ym rfl (o':=2) rfl) (wd (zj yf rfl ((S.blk 0).cell (Maker.get_bad _))) (wd (zL rfl rfl) ?_)))
 replace S:=((S.front 2).front 2).front 2
 replace S:St A N w u13 [oK a_0 g_0_1 o6,oB b2 T_Ln (Ln.C a1)] []:=S.shut_oK hp15
 refine zb ?_
 refine zH rfl (fun hc17=>?_) (fun hc17=>?_)
 ·replace H:=if_t hc17 H
  obtain ⟨p18,s20,hp19,S⟩ := S.open_oK 0
  replace S:St A N w u13 [oB p18 xE (Maker.C (⟨g_0_1,s20,o6.bad⟩ : Maker)),oT g_0_1 o6.t,oS T_Ln 4 Ln.C s20 o6.l,oB b2 T_Ln (Ln.C a1)] []:=S
  obtain ⟨ha21,H⟩ := xm H
  have ha21:=of_decide_eq_true ha21
  have hSO:=S.sl 2
  have hSlt:=hSO.lt
  have SH : ∀ v,Chg s20.fp u13 v→St A (N.or s20.fp) w v [oB p18 xE (Maker.C (⟨g_0_1,s20,o6.bad⟩ : Maker)),oT g_0_1 o6.t,oB b2 T_Ln (Ln.C a1)] []:=fun v hc=>S.away 2 (hc:=hc)
  refine wc_draw 8 ⟨fun L v=>Chg s20.fp u13 v∧(L 7=false→Ext u13 v),fun L a b=>Chg s20.fp a b∧(L 7=true→Ext a b),fun i v u=>match i with
   | 0=>v=Value.pointer a_0
   | 1=>v=Value.pointer a_0
   | 2=>v=Value.pointer (some ⟨p18,0,none⟩)
   | 3=>v=Value.pointer (some ⟨p18,1,none⟩)
   | 4=>v=s20.v
   | 5=>v=Value.agg (Ln.C a1).toArray
   | 6 => ∃ b sl,v=SlV.v sl∧sl=⟨some ⟨b,0,none⟩,1,1⟩ ∧ Blk u b T_Ln (Ln.C a1)∧¬ s20.fp b
   | 7 => ∃ s',v=SlV.v s'∧Own u 0 T_Ln 4 s' ((o6.l ++ [a1]).map Ln.C) ∧ ∀ i,s'.fp i→s20.fp i∨u13.heap.size ≤ i
   | _=>True⟩ hmix zby ?_ ⟨(Ext.drawn _).mono (fun _ _ x=>x.elim),fun _=>Ext.drawn _⟩ ⟨?_,?_,?_,?_,?_,?_,?_,?_,trivial⟩ ?_
  ·intro L i v a b hLi hle hv
   match i,hLi,hv with
   | 0,_,hv=>exact hv
   | 1,_,hv=>exact hv
   | 2,_,hv=>exact hv
   | 3,_,hv=>exact hv
   | 4,_,hv=>exact hv
   | 5,_,hv=>exact hv
   | 6,_,⟨b,sl,e1,e2,hb,hn⟩ => exact ⟨b,sl,e1,e2,hb.chg hle.1 hn,hn⟩
   | 7,hLi,⟨s',e1,ho,hg⟩ => exact ⟨s',e1,ho.ext (hle.2 hLi),hg⟩
   | _ + 8,_,_=>exact trivial
  ·rintro L g v hL hT 
   refine wd (zo rfl) (zb (ob ⟨hT.1,fun h=>hT.2 h⟩ ⟨Chg.refl _ _,fun _=>Ext.refl _⟩ rfl))
  ·rintro L g v hL hT 
   refine wd (zo rfl) (zb (ob ⟨hT.1,fun h=>hT.2 h⟩ ⟨Chg.refl _ _,fun _=>Ext.refl _⟩ rfl))
  ·rintro L g v hL hT hv1
   refine wd (zB ((hv1:_=Value.pointer a_0).trans (congrArg Value.pointer hp19))) (zb (ob ⟨hT.1,fun h=>hT.2 h⟩ ⟨Chg.refl _ _,fun _=>Ext.refl _⟩ rfl))
  ·rintro L g v hL hT hv2
   refine wd (ze v8 hv2 (o':=1) rfl) (zb (ob ⟨hT.1,fun h=>hT.2 h⟩ ⟨Chg.refl _ _,fun _=>Ext.refl _⟩ rfl))
  ·rintro L g v hL hT hv3
   refine wd (zj yJ hv3 (((SH v hT.1).blk 0).cell (Maker.get_l _))) (zb (ob ⟨hT.1,fun h=>hT.2 h⟩ ⟨Chg.refl _ _,fun _=>Ext.refl _⟩ rfl))
  ·rintro L g v hL hT 
   refine wd (zp jM rfl (((SH v hT.1).blk 2).all _ (Ln.len _)) (Ln.len _)) (zb (ob ⟨hT.1,fun h=>hT.2 h⟩ ⟨Chg.refl _ _,fun _=>Ext.refl _⟩ rfl))
  ·rintro L g v hL hT hv5
   refine wl_lit1 zY el_Ln.zero hv5 rfl (Ln.len _) zbv zbv fun b v' sl hn hq=>zb (ob ⟨hT.1.thenExt hn.ext,fun h=>(hT.2 h).trans hn.ext⟩ ⟨hn.ext.mono (fun _ _ x=>x.elim),fun _=>hn.ext⟩ ⟨b,sl,rfl,hq,hn.blk,fun e=>by have:=hSlt _ e; have:=hn.at_; have:=hT.1.size; omega⟩)
  ·rintro L g v hL hT hv4 ⟨b,sl,hv6,hq,hb,hnb⟩
   refine wl_push (C:=Ln.C) zY el_Ln hv4 hv6 (hSO.ext (hT.2 hL)) hb hq (Ln.len _) (Ln.one _) ha21 zbw zbv fun s' v' ho hc hg=>zb (ob ⟨hT.1.trans hc,fun h=>(by cases h)⟩ ⟨hc,fun h=>(by rw [hL] at h; cases h)⟩ ⟨s',rfl,ho,fun i e=>(hg i e).imp id (fun h=>Nat.le_trans hT.1.size h)⟩)
  rintro L g w22 hLm hT hv24_0 hv24_1 hv24_2 hv24_3 hv24_4 hv24_5 ⟨b,sl,hv24_6,hq,hb,hnb⟩ ⟨s23,hv24_7,O,gO⟩
  replace S:=S.push 2 O (by rw [List.length_append,List.length_singleton]; omega) hT.1 gO
  clear O gO SH hSO hSlt
  refine wd (zB ((hv24_0:_=Value.pointer a_0).trans (congrArg Value.pointer hp19))) (wd (ze v8 rfl (o':=1) rfl) ?_)
  refine yZ yJ rfl hv24_7 (S.blk 1) (by rw [Maker.len]; decide) (SlV.one _ _ rfl) (Maker.set_l _ _) fun w25 B hw25 zw25=>?_
  replace S:=S.store 1 B hw25
  clear B
  replace S:=((S.front 1).front 2).front 2
  replace S:=S.shut_oK hp19
  refine zb (zd (za (wd (zo rfl) ?_)))
  obtain ⟨p26,s28,hp27,S⟩ := S.open_oK 0
  replace S:=S
  refine wd (zB (congrArg Value.pointer hp27)) (wd (ze v8 rfl (o':=1) rfl) (wd (zj yJ rfl ((S.blk 0).cell (Maker.get_l _))) (wd (xd zY rfl (S.rdO 2)) (wd (ug rfl rfl) (wd (zi rfl) ?_)))))
  replace S:=((S.front 2).front 2).front 2
  replace S:=S.shut_oK hp27
  refine zb (zy ?_)
  refine ⟨_,(zS (zg rfl)),?_⟩
  replace S:=S.arr [0] []
  obtain rfl:=zbz H
  exact ⟨rfl,S⟩
 ·replace H:=if_f hc17 H
  refine zA (zd (za (wd (zo rfl) ?_)))
  obtain ⟨p29,s31,hp30,S⟩ := S.open_oK 0
  replace S:=S
  refine wd (zB (congrArg Value.pointer hp30)) (wd (ze v8 rfl (o':=1) rfl) (wd (zj yJ rfl ((S.blk 0).cell (Maker.get_l _))) (wd (xd zY rfl (S.rdO 2)) (wd (ug rfl rfl) (wd (zi rfl) ?_)))))
  replace S:=((S.front 2).front 2).front 2
  replace S:=S.shut_oK hp30
  refine zb (zy ?_)
  refine ⟨_,(zS (zg rfl)),?_⟩
  replace S:=S.arr [0] []
  obtain rfl:=zbz H
  exact ⟨rfl,S⟩
theorem xv {a0:PMaker} {a_0:Option Addr} {g_0_1:Option Addr} {a1:Int} {a2:Int} (S:St A N w w [oK a_0 g_0_1 a0] []) {r:PMaker × Int} (H:zco.f a0 a1 a2=some r) :
  Calls PP zaw #[.pointer a_0,.int .i64 a1,.int .i64 a2] w fun e w' => ∃ v,e = .returned v∧(v = .int .i64 r.2∧St A N w w' [oK a_0 g_0_1 r.1] []):=by
 unfold zco.f at H
 refine zz (n:=37) fn_hilbert_maker_mp rfl rfl zbx (zd (za (wd (zi rfl) (zb (zd (zd (za (wd (zo rfl) ?_))))))))
 obtain ⟨p1,s3,hp2,S⟩ := S.open_oK 0
 replace S:=S
 refine wd (zB (congrArg Value.pointer hp2)) (wd (ze ym rfl (o':=2) rfl) (wd (zj yf rfl ((S.blk 0).cell (Maker.get_bad _))) (wd (xj rfl rfl) ?_)))
 replace S:=((S.front 2).front 2).front 2
 replace S:=S.shut_oK hp2
 refine zb ?_
 refine zH rfl (fun hc4=>?_) (fun hc4=>?_)
 ·replace H:=if_t hc4 H
  refine zd (za (wd (zi rfl) (zb (zy ?_))))
  refine ⟨_,(zS (zg rfl)),?_⟩
  obtain rfl:=zbz H
  exact ⟨rfl,S⟩
 replace H:=if_f hc4 H
 refine zA (zd ?_)
 obtain ⟨p5,s7,hp6,S⟩ := S.open_oK 0
 replace S:=S
 obtain ⟨hi8,H⟩ := xm H
 obtain ⟨r9,er9,H⟩ := zt H
 have SH : ∀ v,Ext w v→St A N w v [oB p5 xE (Maker.C (⟨g_0_1,s7,a0.bad⟩ : Maker)),oT g_0_1 a0.t,oS T_Ln 4 Ln.C s7 a0.l] []:=fun v hc=>S.ext hc
 refine wc_draw4 18 ⟨fun _ _=>True,fun _ _ _=>True,fun i v _=>match i with
  | 0=>v=Value.pointer a_0
  | 1=>v=Value.pointer (some ⟨p5,0,none⟩)
  | 2=>v=Value.pointer (some ⟨p5,0,none⟩)
  | 3=>v=Value.pointer g_0_1
  | 4=>v=Value.pointer a_0
  | 5=>v=Value.pointer (some ⟨p5,0,none⟩)
  | 6=>v=Value.pointer (some ⟨p5,1,none⟩)
  | 7=>v=s7.v
  | 8=>v=Value.int .i64 a1
  | 9=>v=Value.pointer (some ⟨s7.blk,s7.off + Int.toNat a1 * 4,none⟩)
  | 10=>v=Value.pointer (some ⟨s7.blk,s7.off + Int.toNat a1 * 4 + 1,none⟩)
  | 11=>v=Value.int .i64 ((at_ Ln.z a0.l a1).form)
  | 12=>v=Value.tuple #[.agg (Nd.C r9.1).toArray,.bool r9.2]
  | 13=>v=Value.tuple #[.agg (Nd.C r9.1).toArray,.bool r9.2]
  | 14=>v=Value.agg (Nd.C r9.1).toArray
  | 15=>v=Value.bool r9.2
  | _=>True⟩ (TT w 16 17 7 T_Nd (Nd.C Nd.z) (Nd.C r9.1)) hmix zby (fun _ _ _ _ _ _ _ hv=>hv) (fun g=>TT.init g (Ext.drawn _)) ⟨?_,?_,?_,?_,?_,?_,?_,?_,?_,?_,?_,?_,?_,?_,?_,?_,?_,?_,trivial⟩ ?_
 ·rintro L g v hL hcl hT 
  refine wd (zo rfl) (zb (ob4 trivial rfl (hT.keep (Ext.refl _) rfl rfl zbv)))
 ·rintro L g v hL hcl hT hv0
  refine wd (zB ((hv0:_=Value.pointer a_0).trans (congrArg Value.pointer hp6))) (zb (ob4 trivial rfl (hT.keep (Ext.refl _) rfl rfl zbv)))
 ·rintro L g v hL hcl hT hv1
  refine wd (ze uX hv1 (o':=0) rfl) (zb (ob4 trivial rfl (hT.keep (Ext.refl _) rfl rfl zbv)))
 ·rintro L g v hL hcl hT hv2
  refine wd (zj xI hv2 (((SH v hT.1).blk 0).cell (Maker.get_t _))) (zb (ob4 trivial rfl (hT.keep (Ext.refl _) rfl rfl zbv)))
 ·rintro L g v hL hcl hT 
  refine wd (zo rfl) (zb (ob4 trivial rfl (hT.keep (Ext.refl _) rfl rfl zbv)))
 ·rintro L g v hL hcl hT hv4
  refine wd (zB ((hv4:_=Value.pointer a_0).trans (congrArg Value.pointer hp6))) (zb (ob4 trivial rfl (hT.keep (Ext.refl _) rfl rfl zbv)))
 ·rintro L g v hL hcl hT hv5
  refine wd (ze v8 hv5 (o':=1) rfl) (zb (ob4 trivial rfl (hT.keep (Ext.refl _) rfl rfl zbv)))
 ·rintro L g v hL hcl hT hv6
  refine wd (zj yJ hv6 (((SH v hT.1).blk 0).cell (Maker.get_l _))) (zb (ob4 trivial rfl (hT.keep (Ext.refl _) rfl rfl zbv)))
 ·rintro L g v hL hcl hT 
  refine wd (zh rfl) (zb (ob4 trivial rfl (hT.keep (Ext.refl _) rfl rfl zbv)))
 ·rintro L g v hL hcl hT hv7 hv8
  refine wd (zW zY hv7 hv8 ((SH v hT.1).rdO 2) (zI hi8).1 (zI hi8).2) (zb (ob4 trivial rfl (hT.keep (Ext.refl _) rfl rfl zbv)))
 ·rintro L g v hL hcl hT hv9
  refine wd (ze xX hv9 (o':=_) rfl) (zb (ob4 trivial rfl (hT.keep (Ext.refl _) rfl rfl zbv)))
 ·rintro L g v hL hcl hT hv10
  refine wd (zj zQ hv10 ((((SH v hT.1).rdO 2).at (xp Ln.z (zI hi8))).get (Ln.get_form _))) (zb (ob4 trivial rfl (hT.keep (Ext.refl _) rfl rfl zbv)))
 ·rintro L g v hL hcl hT hv3 hv11
  refine (have ⟨M,SS⟩ := (SH v hT.1).lend ((.o 1 rfl .nil)); zu (zN yC (zT hv3 (zT hv11 rfl))) zbv (quiet (yF SS er9) (fun v w' h=>⟨h.1,_,_,h.2⟩)) (by rintro _ v' ⟨rfl,hx⟩; exact zb (ob4 trivial rfl (hT.keep hx rfl rfl zbv))))
 ·rintro L g v hL hcl hT hv12
  refine wd (z7 hv12) (zb (ob4 trivial rfl (hT.keep (Ext.refl _) rfl rfl zbv)))
 ·rintro L g v hL hcl hT hv13
  refine wd (zw hv13 rfl) (zb (ob4 trivial rfl (hT.keep (Ext.refl _) rfl rfl zbv)))
 ·rintro L g v hL hcl hT hv13
  refine wd (zw hv13 rfl) (zb (ob4 trivial rfl (hT.keep (Ext.refl _) rfl rfl zbv)))
 ·rintro L g v hL hcl hT 
  exact xa v6 zbv fun b v' hn=>zb (ob4 trivial trivial (hT.made hL rfl hn))
 ·rintro L g v hL hcl hT _ hv14
  have hLa:L 16=true:=hcl 16 zby
  obtain ⟨b,hgb,hbl,hb⟩ := hT.2.1 hLa
  rw [hL] at hb
  replace hb:Blk v b T_Nd (Nd.C Nd.z):=hb
  exact zF xQ hgb hv14 hb (Nd.len _) (by rw [Nd.len]; decide) (Nd.one _) (zV (Nd.len _)) fun v' hb' hc _=>zb (ob40 trivial (fun _=>trivial) (hT.put hbl hgb hLa hb' hc))
 rintro L g w11 hLm ⟨K,hbx,_⟩ hv12_0 hv12_1 hv12_2 hv12_3 hv12_4 hv12_5 hv12_6 hv12_7 hv12_8 hv12_9 hv12_10 hv12_11 hv12_12 hv12_13 hv12_14 hv12_15 _ _
 obtain ⟨b10,hv12_16,hbl,hbx⟩ := hbx (by rw [hLm]; rfl)
 replace hbx:Blk w11 b10 T_Nd (Nd.C r9.1):=by rw [hLm] at hbx; exact hbx
 replace S:=S.newAt K hbx hbl
 clear SH hbx K
 refine wd (zn hv12_15) ?_
 replace S:=((S.front 3).front 3).front 3
 replace S:=S.shut_oK hp6
 refine zb (zd (za (wd (zo rfl) (wd (ze xS hv12_16 (o':=3) rfl) (wd (zj zQ rfl ((S.blk 1).cell (Nd.get_r _))) (wd (zh rfl) (wd (zh rfl) (wd (yE bu_Ln (Bld.one rfl rfl (by rw [Ln.len]; decide) (Ln.set_kind _ _) (Bld.one rfl rfl (by rw [Ln.len]; decide) (Ln.set_form _ _) (Bld.one rfl rfl (by rw [Ln.len]; decide) (Ln.set_a _ _) (Bld.one rfl rfl (by rw [Ln.len]; decide) (Ln.set_b _ _) Bld.nil))))) ?_))))))))
 obtain ⟨r13,er13,H⟩ := zt H
 obtain ⟨B15,MB15,SB15,back⟩ := S.calln 1 ((.nil))
 refine zu (zq vc) zbv (vd SB15 er13) ?_
 rintro _ w14 ⟨rfl,S2⟩
 replace S:=back _ _ _ _ S2 rfl
 clear back S2 SB15
 refine wd (zi rfl) (zb (zy ?_))
 refine ⟨_,(zS (zg rfl)),?_⟩
 replace S:=S.arr [0] []
 obtain rfl:=zbz H
 exact ⟨rfl,S⟩
theorem yd {a0:PMaker} {a_0:Option Addr} {g_0_1:Option Addr} {a1:Int} {a2:Int} (S:St A N w w [oK a_0 g_0_1 a0] []) {r:PMaker × Int} (H:zcp.f a0 a1 a2=some r) :
  Calls PP kp #[.pointer a_0,.int .i64 a1,.int .i64 a2] w fun e w' => ∃ v,e = .returned v∧(v = .int .i64 r.2∧St A N w w' [oK a_0 g_0_1 r.1] []):=by
 unfold zcp.f at H
 refine zz (n:=12) fn_hilbert_maker_axiom rfl rfl zbx (zd (za (wd (zi rfl) (zb (zd (za (wd (zo rfl) (wd (zh rfl) (wd (zh rfl) (wd (yE bu_Ln (Bld.one rfl rfl (by rw [Ln.len]; decide) (Ln.set_kind _ _) (Bld.one rfl rfl (by rw [Ln.len]; decide) (Ln.set_form _ _) Bld.nil))) ?_))))))))))
 obtain ⟨r1,er1,H⟩ := zt H
 obtain ⟨B3,MB3,SB3,back⟩ := S.calln 1 ((.nil))
 refine zu (zq vc) zbv (vd SB3 er1) ?_
 rintro _ w2 ⟨rfl,S2⟩
 replace S:=back _ _ _ _ S2 rfl
 clear back S2 SB3
 refine wd (zi rfl) (zb (zy ?_))
 refine ⟨_,(zS (zg rfl)),?_⟩
 obtain rfl:=zbz H
 exact ⟨rfl,S⟩
theorem jK {a0:PMaker} {a_0:Option Addr} {g_0_1:Option Addr} {a1:Int} {a2:Int} (S:St A N w w [oK a_0 g_0_1 a0] []) {r:PMaker × Int} (H:zcq.f a0 a1 a2=some r) :
  Calls PP zaQ #[.pointer a_0,.int .i64 a1,.int .i64 a2] w fun e w' => ∃ v,e = .returned v∧(v = .int .i64 r.2∧St A N w w' [oK a_0 g_0_1 r.1] []):=by
 unfold zcq.f at H
 refine zz (n:=16) fn_hilbert_maker_k rfl rfl zbx (zd (za (wd (zi rfl) (zb (zd (za (wd (zo rfl) (wd (zo rfl) (wd (zh rfl) (wd (zo rfl) (wd (zh rfl) (wd (zh rfl) ?_))))))))))))
 obtain ⟨r1,er1,H⟩ := zt H
 obtain ⟨B3,MB3,SB3,back⟩ := S.calln 1 ((.nil))
 refine zu (zq xe) zbv (xf SB3 er1) ?_
 rintro _ w2 ⟨rfl,S2⟩
 replace S:=back _ _ _ _ S2 rfl
 clear back S2 SB3
 obtain ⟨r4,er4,H⟩ := zt H
 obtain ⟨B6,MB6,SB6,back⟩ := S.calln 1 ((.nil))
 refine zu (zq xe) zbv (xf SB6 er4) ?_
 rintro _ w5 ⟨rfl,S2⟩
 replace S:=back _ _ _ _ S2 rfl
 clear back S2 SB6
 obtain ⟨r7,er7,H⟩ := zt H
 obtain ⟨B9,MB9,SB9,back⟩ := S.calln 1 ((.nil))
 refine zu (zq ya) zbv (yd SB9 er7) ?_
 rintro _ w8 ⟨rfl,S2⟩
 replace S:=back _ _ _ _ S2 rfl
 clear back S2 SB9
 refine wd (zi rfl) (zb (zy ?_))
 refine ⟨_,(zS (zg rfl)),?_⟩
 obtain rfl:=zbz H
 exact ⟨rfl,S⟩
theorem zaF {a0:PMaker} {a_0:Option Addr} {g_0_1:Option Addr} {a1:Int} {a2:Int} {a3:Int} (S:St A N w w [oK a_0 g_0_1 a0] []) {r:PMaker × Int} (H:zcr.f a0 a1 a2 a3=some r) :
  Calls PP zaR #[.pointer a_0,.int .i64 a1,.int .i64 a2,.int .i64 a3] w fun e w' => ∃ v,e = .returned v∧(v = .int .i64 r.2∧St A N w w' [oK a_0 g_0_1 r.1] []):=by
 unfold zcr.f at H
 refine zz (n:=36) fn_hilbert_maker_s rfl rfl zbx (zd (za (wd (zi rfl) (zb (zd (za (wd (zo rfl) (wd (zh rfl) (wd (zo rfl) (wd (zh rfl) (wd (zh rfl) ?_)))))))))))
 obtain ⟨r1,er1,H⟩ := zt H
 obtain ⟨B3,MB3,SB3,back⟩ := S.calln 1 ((.nil))
 refine zu (zq xe) zbv (xf SB3 er1) ?_
 rintro _ w2 ⟨rfl,S2⟩
 replace S:=back _ _ _ _ S2 rfl
 clear back S2 SB3
 obtain ⟨r4,er4,H⟩ := zt H
 obtain ⟨B6,MB6,SB6,back⟩ := S.calln 1 ((.nil))
 refine zu (zq xe) zbv (xf SB6 er4) ?_
 rintro _ w5 ⟨rfl,S2⟩
 replace S:=back _ _ _ _ S2 rfl
 clear back S2 SB6
 refine wd (zi rfl) (zb (zd (za (wd (zo rfl) (wd (zh rfl) (wd (zh rfl) ?_))))))
 obtain ⟨r7,er7,H⟩ := zt H
 obtain ⟨B9,MB9,SB9,back⟩ := S.calln 1 ((.nil))
 refine zu (zq xe) zbv (xf SB9 er7) ?_
 rintro _ w8 ⟨rfl,S2⟩
 replace S:=back _ _ _ _ S2 rfl
 clear back S2 SB9
 refine wd (zi rfl) (zb (zd (za (wd (zo rfl) (wd (zh rfl) (wd (zh rfl) ?_))))))
 obtain ⟨r10,er10,H⟩ := zt H
 obtain ⟨B12,MB12,SB12,back⟩ := S.calln 1 ((.nil))
 refine zu (zq xe) zbv (xf SB12 er10) ?_
 rintro _ w11 ⟨rfl,S2⟩
 replace S:=back _ _ _ _ S2 rfl
 clear back S2 SB12
 refine wd (zi rfl) (zb (zd (za (wd (zo rfl) (wd (zo rfl) (wd (zh rfl) (wd (zo rfl) (wd (zh rfl) (wd (zh rfl) ?_)))))))))
 obtain ⟨r13,er13,H⟩ := zt H
 obtain ⟨B15,MB15,SB15,back⟩ := S.calln 1 ((.nil))
 refine zu (zq xe) zbv (xf SB15 er13) ?_
 rintro _ w14 ⟨rfl,S2⟩
 replace S:=back _ _ _ _ S2 rfl
 clear back S2 SB15
 obtain ⟨r16,er16,H⟩ := zt H
 obtain ⟨B18,MB18,SB18,back⟩ := S.calln 1 ((.nil))
 refine zu (zq xe) zbv (xf SB18 er16) ?_
 rintro _ w17 ⟨rfl,S2⟩
 replace S:=back _ _ _ _ S2 rfl
 clear back S2 SB18
 obtain ⟨r19,er19,H⟩ := zt H
 obtain ⟨B21,MB21,SB21,back⟩ := S.calln 1 ((.nil))
 refine zu (zq ya) zbv (yd SB21 er19) ?_
 rintro _ w20 ⟨rfl,S2⟩
 replace S:=back _ _ _ _ S2 rfl
 clear back S2 SB21
 refine wd (zi rfl) (zb (zy ?_))
 refine ⟨_,(zS (zg rfl)),?_⟩
 obtain rfl:=zbz H
 exact ⟨rfl,S⟩
theorem zaT {a0:Tb} {a_0:Option Addr} {a1:List Ln} {s_1:SlV} {a2:Int} (S:St A N w w [oT a_0 a0] [fS 4 Ln.C s_1 a1]) {r:Tb × List Ln × Int} (H:zcs.f a0 a1 a2=some r) :
  Calls PP zbm #[.pointer a_0,s_1.v,.int .i64 a2] w fun e w' => ∃ v,e = .returned v∧(∃ so0:SlV,v = .tuple #[so0.v,.int .i64 r.2.2]∧St A N w w' [oT a_0 r.1,oS T_Ln 4 Ln.C so0 r.2.1] []):=by
 unfold zcs.f at H
 refine zz (n:=127) fn_hilbert_deduce rfl rfl zbx (zd (za (wd (xw) (wd (zi rfl) (zb (zd (za (wd (zo rfl) (wd (Does.to (v' := .agg (Maker.C (⟨a_0,SlV.nil,0⟩ : Maker)).toArray) (xo (vs:=[(0,.pointer a_0)]) bu_Maker (xJ rfl rfl) (Bld.one rfl rfl (by rw [Maker.len]; decide) (Maker.set_t _ _) Bld.nil)) rfl) ?_)))))))))
 refine z1 rfl zbv fun b2 w1 hw1=>?_
 replace S:=((S.new hw1).nil T_Ln 4 Ln.C).front 2
 replace S:=(S.front 2).shut_oK rfl
 refine wd (xi rfl) (zb (zd (za (wd (zC rfl) (wd (xd zY rfl (S.rd 0)) ?_)))))
 obtain ⟨hm6,H⟩ := xm H
 have hm6:=of_decide_eq_true hm6
 refine wl_make1 (C:=IC) (z:=(0:Int)) xR zaD zv_int rfl rfl rfl rfl hm6.1 zbw hm6.2 zbv fun b4 w3 s5 hBw3 hw3=>?_
 replace S:=S.lit hBw3 hw3 (by rw [List.length_replicate]; omega)
 refine wd (x6 rfl) (zb (zd (zd (za (wd (zC rfl) (wd (xd zY rfl (S.rd 0)) (wd (zh rfl) (zb ?_))))))))
 obtain ⟨o7,e7,Ho7⟩ := zt H
 clear H
 refine xO [6,7,10,11,12,13,14,15,16,25,26,27,28,29,30,31,32,33,34,35,36,37,38,39,40,41,42,43,44,45,46,47,48,49,50,51,52,53,54,55,56,57,58,59,60,61,62,63,64,65,66,67,68,69,70,71,72,73,74,75,76,77,78,79,80,81,82,83,84,85,86,87,88,89,90,91,92,93,94,95,96,97,98,99,100,101,102,103,104,105,106,107,108,109,110,111,112,113,114,115,116,117,118] (fun fr W => ∃ s7:List Int × PMaker,o7 = .inl s7∧St A N w W [oS yg 1 IC s5 s7.1,oK (some ⟨b2,0,none⟩) a_0 s7.2] [fS 4 Ln.C s_1 a1]) ?_ ?_
 ·refine zO ?_
  refine xN (α:=Nat × Int × (List Int × PMaker)) [6,7,10,11,12,13,14,15,16,25,26,27,28,29,30,31,32,33,34,35,36,37,38,39,40,41,42,43,44,45,46,47,48,49,50,51,52,53,54,55,56,57,58,59,60,61,62,63,64,65,66,67,68,69,70,71,72,73,74,75,76,77,78,79,80,81,82,83,84,85,86,87,88,89,90,91,92,93,94,95,96,97,98,99,100,101,102,103,104,105,106,107,108,109,110,111,112,113,114,115,116,117,118] (fun x fr W=>(x.1:Int)=(a1.length:Int) - x.2.1∧0 ≤ x.2.1∧forN (fun i s=>zcs.b0 a1 a2 i s.1 s.2) x.1 x.2.1 x.2.2=some o7∧fr 25 = .int .i64 x.2.1∧St A N w W [oS yg 1 IC s5 (x.2.2.1),oK (some ⟨b2,0,none⟩) a_0 (x.2.2.2)] [fS 4 Ln.C s_1 a1]) (fun x=>x.1) (((a1.length:Int) - 0).toNat,0,(List.replicate ((a1.length:Int)).toNat (0:Int),(⟨a0,([]:List Ln),0⟩ : PMaker))) ⟨(by dsimp only; have hle:=Int.natCast_nonneg (a1.length); omega),(Int.le_refl _),(by dsimp only; exact e7),rfl,S⟩ ?_
  rintro ⟨m7,i7,⟨x7_0,x7_1⟩⟩ g7 u7 ⟨hm7,hl7,e7,q7_i,S⟩
  try dsimp only at hm7
  try dsimp only at hl7
  try dsimp only at e7
  try dsimp only at S
  try dsimp only at q7_i
  refine zd (za (wd (xK q7_i rfl) (zb (zd ?_))))
  refine zH rfl (fun hc8=>?_) (fun hc8=>?_)
  rotate_left
  ·refine xZ ?_
   have hge:(a1.length:Int) ≤ i7:=Int.not_lt.1 (of_decide_eq_false hc8)
   obtain rfl:m7=0:=by omega
   replace e7:=jr e7
   exact ⟨rfl,((Dif.self _ _ _).upd rfl _),(x7_0,x7_1),e7,S⟩
  refine zA ?_
  have hlt7:i7 < (a1.length:Int):=of_decide_eq_true hc8
  obtain ⟨m7,rfl⟩ : ∃ m,m7=m + 1:=⟨m7 - 1,by omega⟩
  obtain ⟨q7,H,e7⟩ := js e7
  unfold zcs.b0 at H
  try dsimp only at H
  have hb7:=(S.len 0)
  refine zd ?_
  refine zO (zd (za (wd (zh q7_i) (wd (zW zY rfl q7_i (S.rd 0) (And.intro (show 0 ≤ i7 by omega) (show i7 < (a1.length:Int) from hlt7)).1 (And.intro (show 0 ≤ i7 by omega) (show i7 < (a1.length:Int) from hlt7)).2) (wd (zp jM rfl ((S.rd 0).at (xp Ln.z (And.intro (show 0 ≤ i7 by omega) (show i7 < (a1.length:Int) from hlt7)))) (Ln.len _)) ?_)))))
  refine xa ze_Ln zbv fun b11 w10 hw10=>?_
  replace S:=S.new hw10
  refine wd (zi rfl) ?_
  refine zF jM rfl rfl (S.blk 0) (Ln.len _) (by rw [Ln.len]; decide) (Ln.one _) (zV (Ln.len _)) fun w12 B hw12 zw12=>?_
  replace S:=S.store 0 B hw12
  clear B
  refine zb ?_
  refine zO (zd (za (wd (zo rfl) ?_)))
  obtain ⟨p13,s15,hp14,S⟩ := S.open_oK 2
  replace S:=S
  refine wd (zB (congrArg Value.pointer hp14)) (wd (ze ym rfl (o':=2) rfl) (wd (zj yf rfl ((S.blk 0).cell (Maker.get_bad _))) (wd (xj rfl rfl) (wd (zn rfl) ?_))))
  replace S:=((S.front 2).front 2).front 2
  replace S:=S.shut_oK hp14
  refine zb ?_
  refine zH rfl (fun hc16=>?_) (fun hc16=>?_)
  ·replace H:=if_t hc16 H
   refine zd ?_
   obtain ⟨p17,s19,hp18,S⟩ := S.open_oK 0
   replace S:=S
   refine xU 5 (Ext w12) hmix zby zby (Ext.drawn _) (zx (fun v K=>zo rfl) (zx (fun v K=>zB (congrArg Value.pointer hp18)) (zx (fun v K=>ze ym rfl (o':=2) rfl) (zx (fun v K=>zj yf rfl (((S.ext K).blk 0).cell (Maker.get_bad _))) (zx (fun v K=>xw) ?_)))))
   refine yV fun w20 K=>?_
   replace S:=S.ext K
   clear K
   refine wd (zi rfl) ?_
   replace S:=((S.front 2).front 2).front 2
   replace S:=S.shut_oK hp18
   refine zb (zy ?_)
   obtain ⟨p21,s23,hp22,S⟩ := S.open_oK 0
   replace S:=S.nil T_Ln 4 Ln.C
   refine ⟨_,(xx (zg rfl) (zg rfl)),?_⟩
   replace S:=S.arr [2,0] []
   obtain rfl:=zbz H
   obtain rfl:=e7
   obtain rfl:=un Ho7
   exact ⟨SlV.nil,rfl,S⟩
  replace H:=if_f hc16 H
  refine zd (za (wd (ze xX rfl (o':=1) rfl) (wd (zj zQ rfl ((S.blk 1).cell (Ln.get_form _))) (wd (zh rfl) (wd (zL rfl rfl) (wd (zn rfl) (zb ?_)))))))
  refine zH rfl (fun hc24=>?_) (fun hc24=>?_)
  ·replace H:=if_t hc24 H
   refine zd (za (wd (zo rfl) (wd (zh rfl) (wd (zh rfl) ?_))))
   obtain ⟨r25,er25,H⟩ := zt H
   obtain ⟨B27,MB27,SB27,back⟩ := S.calln 1 ((.nil))
   refine zu (zq xe) zbv (xf SB27 er25) ?_
   rintro _ w26 ⟨rfl,S2⟩
   replace S:=back _ _ _ _ S2 rfl
   clear back S2 SB27
   refine wd (zi rfl) (zb (zd (za (wd (zo rfl) (wd (zh rfl) (wd (zh rfl) (wd (zh rfl) ?_)))))))
   obtain ⟨r28,er28,H⟩ := zt H
   obtain ⟨B30,MB30,SB30,back⟩ := S.calln 1 ((.nil))
   refine zu (zq zaB) zbv (zaF SB30 er28) ?_
   rintro _ w29 ⟨rfl,S2⟩
   replace S:=back _ _ _ _ S2 rfl
   clear back S2 SB30
   refine wd (zi rfl) (zb (zd (za (wd (zo rfl) (wd (zh rfl) (wd (zo rfl) (wd (zh rfl) (wd (zh rfl) ?_))))))))
   obtain ⟨r31,er31,H⟩ := zt H
   obtain ⟨B33,MB33,SB33,back⟩ := S.calln 1 ((.nil))
   refine zu (zq jG) zbv (jK SB33 er31) ?_
   rintro _ w32 ⟨rfl,S2⟩
   replace S:=back _ _ _ _ S2 rfl
   clear back S2 SB33
   obtain ⟨r34,er34,H⟩ := zt H
   obtain ⟨B36,MB36,SB36,back⟩ := S.calln 1 ((.nil))
   refine zu (zq xu) zbv (xv SB36 er34) ?_
   rintro _ w35 ⟨rfl,S2⟩
   replace S:=back _ _ _ _ S2 rfl
   clear back S2 SB36
   refine wd (zi rfl) (zb (za (wd (zC rfl) (wd (zh rfl) (wd (zo rfl) (wd (zh rfl) (wd (zo rfl) (wd (zh rfl) (wd (zh rfl) ?_)))))))))
   obtain ⟨r37,er37,H⟩ := zt H
   obtain ⟨B39,MB39,SB39,back⟩ := S.calln 1 ((.nil))
   refine zu (zq jG) zbv (jK SB39 er37) ?_
   rintro _ w38 ⟨rfl,S2⟩
   replace S:=back _ _ _ _ S2 rfl
   clear back S2 SB39
   obtain ⟨r40,er40,H⟩ := zt H
   obtain ⟨B42,MB42,SB42,back⟩ := S.calln 1 ((.nil))
   refine zu (zq xu) zbv (xv SB42 er40) ?_
   rintro _ w41 ⟨rfl,S2⟩
   replace S:=back _ _ _ _ S2 rfl
   clear back S2 SB42
   obtain ⟨hi43,H⟩ := xm H
   refine wd (zW xR rfl rfl (S.rdO 2) (zI hi43).1 (zI hi43).2) ?_
   refine zbt (C:=IC) (a:=r40.2) zQ rfl rfl (S.sl 2) (zI hi43) rfl rfl fun w44 O hw44=>?_
   have hlw44:=S.lenO 2
   replace S:=S.push 2 O (by rw [List.length_set]; exact hlw44) hw44 (fun i hi => .inl hi)
   clear O
   refine zb (za (wd (xM q7_i rfl (c:=i7 + 1) rfl zbw zbw) (wd (zh rfl) (zb ?_))))
   replace S:=S.arr [0,1] [0]
   obtain rfl:=zbz H
   exact ⟨rfl,(by repeat first | exact Dif.refl _ _ | exact Dif.self _ _ _ | refine Dif.upd ?_ rfl _ | refine Dif.mask ?_ rfl _),(m7,i7 + 1,(x7_0.set (i7).toNat r40.2,r40.1)),⟨(by dsimp only; omega),(by dsimp only; omega),e7,rfl,S⟩,by dsimp only; omega⟩
  ·replace H:=if_f hc24 H
   refine zd (za (wd (ze vt rfl (o':=0) rfl) (wd (zj x7 rfl ((S.blk 1).cell (Ln.get_kind _))) (wd (zL rfl rfl) (wd (zn rfl) (zb ?_))))))
   refine zH rfl (fun hc45=>?_) (fun hc45=>?_)
   ·replace H:=if_t hc45 H
    refine zd ?_
    refine xU 10 (Ext w12) hmix zby zby (Ext.drawn _) (zx (fun v K=>zo rfl) (zx (fun v K=>zh rfl) (zx (fun v K=>zC rfl) (zx (fun v K=>ze uv rfl (o':=3) rfl) (zx (fun v K=>zj zQ rfl (((S.ext K).blk 1).cell (Ln.get_b _))) ?_)))))
    obtain ⟨hi46,H⟩ := xm H
    refine zx (fun v K=>zW zY rfl rfl ((S.ext K).rd 0) (zI hi46).1 (zI hi46).2) (zx (fun v K=>ze xX rfl (o':=_) rfl) (zx (fun v K=>zj zQ rfl ((((S.ext K).rd 0).at (xp Ln.z (zI hi46))).get (Ln.get_form _))) (zx (fun v K=>ze xX rfl (o':=1) rfl) (zx (fun v K=>zj zQ rfl (((S.ext K).blk 1).cell (Ln.get_form _))) ?_))))
    refine yV fun w47 K=>?_
    replace S:=S.ext K
    clear K
    obtain ⟨r48,er48,H⟩ := zt H
    obtain ⟨B50,MB50,SB50,back⟩ := S.calln 1 ((.nil))
    refine zu (zq zaB) zbv (zaF SB50 er48) ?_
    rintro _ w49 ⟨rfl,S2⟩
    replace S:=back _ _ _ _ S2 rfl
    clear back S2 SB50
    refine wd (zi rfl) (zb ?_)
    obtain ⟨hi51,H⟩ := xm H
    obtain ⟨r52,er52,H⟩ := zt H
    obtain ⟨hi55,H⟩ := xm H
    obtain ⟨r56,er56,H⟩ := zt H
    refine vw 17 ⟨fun _ _=>True,fun _ _ _=>True,fun i v _=>match i with
     | 0=>v=s5.v
     | 1=>v=Value.int .i64 i7
     | 2=>v=Value.pointer (some ⟨b2,0,none⟩)
     | 3=>v=Value.pointer (some ⟨b2,0,none⟩)
     | 4=>v=Value.int .i64 r48.2
     | 5=>v=s5.v
     | 6=>v=Value.pointer (some ⟨b11,2,none⟩)
     | 7=>v=Value.int .i64 ((at_ Ln.z a1 i7).a)
     | 8=>v=Value.pointer (some ⟨s5.blk,s5.off + Int.toNat ((at_ Ln.z a1 i7).a) * 1,none⟩)
     | 9=>v=Value.int .i64 (at_ (0:Int) x7_0 ((at_ Ln.z a1 i7).a))
     | 10=>v=Value.int .i64 r52.2
     | 11=>v=s5.v
     | 12=>v=Value.pointer (some ⟨b11,3,none⟩)
     | 13=>v=Value.int .i64 ((at_ Ln.z a1 i7).b)
     | 14=>v=Value.pointer (some ⟨s5.blk,s5.off + Int.toNat ((at_ Ln.z a1 i7).b) * 1,none⟩)
     | 15=>v=Value.int .i64 (at_ (0:Int) x7_0 ((at_ Ln.z a1 i7).b))
     | 16=>v=Value.int .i64 r56.2
     | _=>True⟩ (fun L g v=>bif L 16 then (St A N w v [oK (some ⟨b2,0,none⟩) a_0 r56.1,oB b11 T_Ln (Ln.C (at_ Ln.z a1 i7)),oS yg 1 IC s5 x7_0] [fS 4 Ln.C s_1 a1]) else bif L 10 then (St A N w v [oK (some ⟨b2,0,none⟩) a_0 r52.1,oB b11 T_Ln (Ln.C (at_ Ln.z a1 i7)),oS yg 1 IC s5 x7_0] [fS 4 Ln.C s_1 a1]) else (St A N w v [oK (some ⟨b2,0,none⟩) a_0 r48.1,oB b11 T_Ln (Ln.C (at_ Ln.z a1 i7)),oS yg 1 IC s5 x7_0] [fS 4 Ln.C s_1 a1])) hmix zby (fun _ _ _ _ _ _ _ hv=>hv) (fun g=>S.ext (Ext.drawn _)) ⟨?_,?_,?_,?_,?_,?_,?_,?_,?_,?_,?_,?_,?_,?_,?_,?_,?_,trivial⟩ ?_
    ·rintro L g v hL hcl hclo hT 
     cases hl16:L 16 with
     | true =>
      simp only [hl16,cond_true,cond_false] at hT
      replace S:=hT
      refine wd (zC rfl) ?_
      exact zb (ob4 trivial rfl (by simp only [zr (L:=L) (i:=0) (j:=10) rfl,zr (L:=L) (i:=0) (j:=16) rfl,hl16,cond_true,cond_false]; exact S))
     | false =>
      cases hl10:L 10 with
      | true =>
       simp only [hl10,hl16,cond_true,cond_false] at hT
       replace S:=hT
       refine wd (zC rfl) ?_
       exact zb (ob4 trivial rfl (by simp only [zr (L:=L) (i:=0) (j:=10) rfl,zr (L:=L) (i:=0) (j:=16) rfl,hl10,hl16,cond_true,cond_false]; exact S))
      | false =>
       simp only [hl10,hl16,cond_true,cond_false] at hT
       replace S:=hT
       refine wd (zC rfl) ?_
       exact zb (ob4 trivial rfl (by simp only [zr (L:=L) (i:=0) (j:=10) rfl,zr (L:=L) (i:=0) (j:=16) rfl,hl10,hl16,cond_true,cond_false]; exact S))
    ·rintro L g v hL hcl hclo hT 
     cases hl16:L 16 with
     | true =>
      simp only [hl16,cond_true,cond_false] at hT
      replace S:=hT
      refine wd (zh rfl) ?_
      exact zb (ob4 trivial rfl (by simp only [zr (L:=L) (i:=1) (j:=10) rfl,zr (L:=L) (i:=1) (j:=16) rfl,hl16,cond_true,cond_false]; exact S))
     | false =>
      cases hl10:L 10 with
      | true =>
       simp only [hl10,hl16,cond_true,cond_false] at hT
       replace S:=hT
       refine wd (zh rfl) ?_
       exact zb (ob4 trivial rfl (by simp only [zr (L:=L) (i:=1) (j:=10) rfl,zr (L:=L) (i:=1) (j:=16) rfl,hl10,hl16,cond_true,cond_false]; exact S))
      | false =>
       simp only [hl10,hl16,cond_true,cond_false] at hT
       replace S:=hT
       refine wd (zh rfl) ?_
       exact zb (ob4 trivial rfl (by simp only [zr (L:=L) (i:=1) (j:=10) rfl,zr (L:=L) (i:=1) (j:=16) rfl,hl10,hl16,cond_true,cond_false]; exact S))
    ·rintro L g v hL hcl hclo hT 
     have hl16:L 16=false:=by cases h:L 16 with | false=>rfl | true=>exact absurd (hclo 16 2 h zby) (by rw [hL]; decide)
     cases hl10:L 10 with
     | true =>
      simp only [hl10,hl16,cond_true,cond_false] at hT
      replace S:=hT
      refine wd (zo rfl) ?_
      exact zb (ob4 trivial rfl (by simp only [zr (L:=L) (i:=2) (j:=10) rfl,zr (L:=L) (i:=2) (j:=16) rfl,hl10,hl16,cond_true,cond_false]; exact S))
     | false =>
      simp only [hl10,hl16,cond_true,cond_false] at hT
      replace S:=hT
      refine wd (zo rfl) ?_
      exact zb (ob4 trivial rfl (by simp only [zr (L:=L) (i:=2) (j:=10) rfl,zr (L:=L) (i:=2) (j:=16) rfl,hl10,hl16,cond_true,cond_false]; exact S))
    ·rintro L g v hL hcl hclo hT 
     have hl10:L 10=false:=by cases h:L 10 with | false=>rfl | true=>exact absurd (hclo 10 3 h zby) (by rw [hL]; decide)
     have hl16:L 16=false:=by cases h:L 16 with | false=>rfl | true=>exact absurd (hclo 16 3 h zby) (by rw [hL]; decide)
     simp only [hl10,hl16,cond_true,cond_false] at hT
     replace S:=hT
     refine wd (zo rfl) ?_
     exact zb (ob4 trivial rfl (by simp only [zr (L:=L) (i:=3) (j:=10) rfl,zr (L:=L) (i:=3) (j:=16) rfl,hl10,hl16,cond_true,cond_false]; exact S))
    ·rintro L g v hL hcl hclo hT 
     have hl10:L 10=false:=by cases h:L 10 with | false=>rfl | true=>exact absurd (hclo 10 4 h zby) (by rw [hL]; decide)
     have hl16:L 16=false:=by cases h:L 16 with | false=>rfl | true=>exact absurd (hclo 16 4 h zby) (by rw [hL]; decide)
     simp only [hl10,hl16,cond_true,cond_false] at hT
     replace S:=hT
     refine wd (zh rfl) ?_
     exact zb (ob4 trivial rfl (by simp only [zr (L:=L) (i:=4) (j:=10) rfl,zr (L:=L) (i:=4) (j:=16) rfl,hl10,hl16,cond_true,cond_false]; exact S))
    ·rintro L g v hL hcl hclo hT 
     have hl10:L 10=false:=by cases h:L 10 with | false=>rfl | true=>exact absurd (hclo 10 5 h zby) (by rw [hL]; decide)
     have hl16:L 16=false:=by cases h:L 16 with | false=>rfl | true=>exact absurd (hclo 16 5 h zby) (by rw [hL]; decide)
     simp only [hl10,hl16,cond_true,cond_false] at hT
     replace S:=hT
     refine wd (zC rfl) ?_
     exact zb (ob4 trivial rfl (by simp only [zr (L:=L) (i:=5) (j:=10) rfl,zr (L:=L) (i:=5) (j:=16) rfl,hl10,hl16,cond_true,cond_false]; exact S))
    ·rintro L g v hL hcl hclo hT 
     have hl10:L 10=false:=by cases h:L 10 with | false=>rfl | true=>exact absurd (hclo 10 6 h zby) (by rw [hL]; decide)
     have hl16:L 16=false:=by cases h:L 16 with | false=>rfl | true=>exact absurd (hclo 16 6 h zby) (by rw [hL]; decide)
     simp only [hl10,hl16,cond_true,cond_false] at hT
     replace S:=hT
     refine wd (ze jf rfl (o':=2) rfl) ?_
     exact zb (ob4 trivial rfl (by simp only [zr (L:=L) (i:=6) (j:=10) rfl,zr (L:=L) (i:=6) (j:=16) rfl,hl10,hl16,cond_true,cond_false]; exact S))
    ·rintro L g v hL hcl hclo hT hv6
     have hl10:L 10=false:=by cases h:L 10 with | false=>rfl | true=>exact absurd (hclo 10 7 h zby) (by rw [hL]; decide)
     have hl16:L 16=false:=by cases h:L 16 with | false=>rfl | true=>exact absurd (hclo 16 7 h zby) (by rw [hL]; decide)
     simp only [hl10,hl16,cond_true,cond_false] at hT
     replace S:=hT
     refine wd (zj zQ hv6 ((S.blk 1).cell (Ln.get_a _))) ?_
     exact zb (ob4 trivial rfl (by simp only [zr (L:=L) (i:=7) (j:=10) rfl,zr (L:=L) (i:=7) (j:=16) rfl,hl10,hl16,cond_true,cond_false]; exact S))
    ·rintro L g v hL hcl hclo hT hv5 hv7
     have hl10:L 10=false:=by cases h:L 10 with | false=>rfl | true=>exact absurd (hclo 10 8 h zby) (by rw [hL]; decide)
     have hl16:L 16=false:=by cases h:L 16 with | false=>rfl | true=>exact absurd (hclo 16 8 h zby) (by rw [hL]; decide)
     simp only [hl10,hl16,cond_true,cond_false] at hT
     replace S:=hT
     refine wd (zW xR hv5 hv7 (S.rdO 2) (zI hi51).1 (zI hi51).2) ?_
     exact zb (ob4 trivial rfl (by simp only [zr (L:=L) (i:=8) (j:=10) rfl,zr (L:=L) (i:=8) (j:=16) rfl,hl10,hl16,cond_true,cond_false]; exact S))
    ·rintro L g v hL hcl hclo hT hv8
     have hl10:L 10=false:=by cases h:L 10 with | false=>rfl | true=>exact absurd (hclo 10 9 h zby) (by rw [hL]; decide)
     have hl16:L 16=false:=by cases h:L 16 with | false=>rfl | true=>exact absurd (hclo 16 9 h zby) (by rw [hL]; decide)
     simp only [hl10,hl16,cond_true,cond_false] at hT
     replace S:=hT
     refine wd (zj zQ hv8 ((S.rdO 2).one (xp (0:Int) (zI hi51)) rfl)) ?_
     exact zb (ob4 trivial rfl (by simp only [zr (L:=L) (i:=9) (j:=10) rfl,zr (L:=L) (i:=9) (j:=16) rfl,hl10,hl16,cond_true,cond_false]; exact S))
    ·rintro L g v hL hcl hclo hT hv3 hv4 hv9
     have hl10:L 10=false:=hL
     have hl16:L 16=false:=by cases h:L 16 with | false=>rfl | true=>exact absurd (hclo 16 10 h zby) (by rw [hL]; decide)
     simp only [hl10,hl16,cond_true,cond_false] at hT
     replace S:=hT
     obtain ⟨B62,MB62,SB62,back⟩ := S.calln 1 ((.nil))
     refine zu (zN xu (zT hv3 (zT hv4 (zT hv9 rfl)))) zbv (xv SB62 er52) ?_
     rintro _ w61 ⟨rfl,S2⟩
     replace S:=back _ _ _ _ S2 rfl
     clear back S2 SB62
     exact zb (ob4 trivial rfl (by simp only [zr (L:=L) (i:=10) (j:=16) rfl,yY (L:=L) (i:=10),hl16,cond_true,cond_false]; exact S))
    ·rintro L g v hL hcl hclo hT 
     have hl16:L 16=false:=by cases h:L 16 with | false=>rfl | true=>exact absurd (hclo 16 11 h zby) (by rw [hL]; decide)
     cases hl10:L 10 with
     | true =>
      simp only [hl10,hl16,cond_true,cond_false] at hT
      replace S:=hT
      refine wd (zC rfl) ?_
      exact zb (ob4 trivial rfl (by simp only [zr (L:=L) (i:=11) (j:=10) rfl,zr (L:=L) (i:=11) (j:=16) rfl,hl10,hl16,cond_true,cond_false]; exact S))
     | false =>
      simp only [hl10,hl16,cond_true,cond_false] at hT
      replace S:=hT
      refine wd (zC rfl) ?_
      exact zb (ob4 trivial rfl (by simp only [zr (L:=L) (i:=11) (j:=10) rfl,zr (L:=L) (i:=11) (j:=16) rfl,hl10,hl16,cond_true,cond_false]; exact S))
    ·rintro L g v hL hcl hclo hT 
     have hl16:L 16=false:=by cases h:L 16 with | false=>rfl | true=>exact absurd (hclo 16 12 h zby) (by rw [hL]; decide)
     cases hl10:L 10 with
     | true =>
      simp only [hl10,hl16,cond_true,cond_false] at hT
      replace S:=hT
      refine wd (ze uv rfl (o':=3) rfl) ?_
      exact zb (ob4 trivial rfl (by simp only [zr (L:=L) (i:=12) (j:=10) rfl,zr (L:=L) (i:=12) (j:=16) rfl,hl10,hl16,cond_true,cond_false]; exact S))
     | false =>
      simp only [hl10,hl16,cond_true,cond_false] at hT
      replace S:=hT
      refine wd (ze uv rfl (o':=3) rfl) ?_
      exact zb (ob4 trivial rfl (by simp only [zr (L:=L) (i:=12) (j:=10) rfl,zr (L:=L) (i:=12) (j:=16) rfl,hl10,hl16,cond_true,cond_false]; exact S))
    ·rintro L g v hL hcl hclo hT hv12
     have hl16:L 16=false:=by cases h:L 16 with | false=>rfl | true=>exact absurd (hclo 16 13 h zby) (by rw [hL]; decide)
     cases hl10:L 10 with
     | true =>
      simp only [hl10,hl16,cond_true,cond_false] at hT
      replace S:=hT
      refine wd (zj zQ hv12 ((S.blk 1).cell (Ln.get_b _))) ?_
      exact zb (ob4 trivial rfl (by simp only [zr (L:=L) (i:=13) (j:=10) rfl,zr (L:=L) (i:=13) (j:=16) rfl,hl10,hl16,cond_true,cond_false]; exact S))
     | false =>
      simp only [hl10,hl16,cond_true,cond_false] at hT
      replace S:=hT
      refine wd (zj zQ hv12 ((S.blk 1).cell (Ln.get_b _))) ?_
      exact zb (ob4 trivial rfl (by simp only [zr (L:=L) (i:=13) (j:=10) rfl,zr (L:=L) (i:=13) (j:=16) rfl,hl10,hl16,cond_true,cond_false]; exact S))
    ·rintro L g v hL hcl hclo hT hv11 hv13
     have hl16:L 16=false:=by cases h:L 16 with | false=>rfl | true=>exact absurd (hclo 16 14 h zby) (by rw [hL]; decide)
     cases hl10:L 10 with
     | true =>
      simp only [hl10,hl16,cond_true,cond_false] at hT
      replace S:=hT
      refine wd (zW xR hv11 hv13 (S.rdO 2) (zI hi55).1 (zI hi55).2) ?_
      exact zb (ob4 trivial rfl (by simp only [zr (L:=L) (i:=14) (j:=10) rfl,zr (L:=L) (i:=14) (j:=16) rfl,hl10,hl16,cond_true,cond_false]; exact S))
     | false =>
      simp only [hl10,hl16,cond_true,cond_false] at hT
      replace S:=hT
      refine wd (zW xR hv11 hv13 (S.rdO 2) (zI hi55).1 (zI hi55).2) ?_
      exact zb (ob4 trivial rfl (by simp only [zr (L:=L) (i:=14) (j:=10) rfl,zr (L:=L) (i:=14) (j:=16) rfl,hl10,hl16,cond_true,cond_false]; exact S))
    ·rintro L g v hL hcl hclo hT hv14
     have hl16:L 16=false:=by cases h:L 16 with | false=>rfl | true=>exact absurd (hclo 16 15 h zby) (by rw [hL]; decide)
     cases hl10:L 10 with
     | true =>
      simp only [hl10,hl16,cond_true,cond_false] at hT
      replace S:=hT
      refine wd (zj zQ hv14 ((S.rdO 2).one (xp (0:Int) (zI hi55)) rfl)) ?_
      exact zb (ob4 trivial rfl (by simp only [zr (L:=L) (i:=15) (j:=10) rfl,zr (L:=L) (i:=15) (j:=16) rfl,hl10,hl16,cond_true,cond_false]; exact S))
     | false =>
      simp only [hl10,hl16,cond_true,cond_false] at hT
      replace S:=hT
      refine wd (zj zQ hv14 ((S.rdO 2).one (xp (0:Int) (zI hi55)) rfl)) ?_
      exact zb (ob4 trivial rfl (by simp only [zr (L:=L) (i:=15) (j:=10) rfl,zr (L:=L) (i:=15) (j:=16) rfl,hl10,hl16,cond_true,cond_false]; exact S))
    ·rintro L g v hL hcl hclo hT hv2 hv10 hv15
     have hl10:L 10=true:=hcl 10 zby
     have hl16:L 16=false:=hL
     simp only [hl10,hl16,cond_true,cond_false] at hT
     replace S:=hT
     obtain ⟨B67,MB67,SB67,back⟩ := S.calln 1 ((.nil))
     refine zu (zN xu (zT hv2 (zT hv10 (zT hv15 rfl)))) zbv (xv SB67 er56) ?_
     rintro _ w66 ⟨rfl,S2⟩
     replace S:=back _ _ _ _ S2 rfl
     clear back S2 SB67
     exact zb (ob4 trivial rfl (by simp only [zr (L:=L) (i:=16) (j:=10) rfl,yY (L:=L) (i:=16),cond_true,cond_false]; exact S))
    rintro L g w68 hLm hT hv69_0 hv69_1 hv69_2 hv69_3 hv69_4 hv69_5 hv69_6 hv69_7 hv69_8 hv69_9 hv69_10 hv69_11 hv69_12 hv69_13 hv69_14 hv69_15 hv69_16
    have hLt : ∀ j,j < 17→L j=true:=fun j hj=>by rw [hLm]; exact decide_eq_true hj
    simp only [hLt 16 zbv,cond_true] at hT
    replace S:=hT
    replace S:=S
    obtain ⟨hi70,H⟩ := xm H
    refine wd (zW xR hv69_0 hv69_1 (S.rdO 2) (zI hi70).1 (zI hi70).2) ?_
    refine zbt (C:=IC) (a:=r56.2) zQ rfl hv69_16 (S.sl 2) (zI hi70) rfl rfl fun w71 O hw71=>?_
    have hlw71:=S.lenO 2
    replace S:=S.push 2 O (by rw [List.length_set]; exact hlw71) hw71 (fun i hi => .inl hi)
    clear O
    refine zb (za (wd (xM q7_i rfl (c:=i7 + 1) rfl zbw zbw) (wd (zh rfl) (zb ?_))))
    replace S:=S.arr [0,1] [0]
    obtain rfl:=zbz H
    exact ⟨rfl,(by repeat first | exact Dif.refl _ _ | exact Dif.self _ _ _ | refine Dif.upd ?_ rfl _ | refine Dif.mask ?_ rfl _),(m7,i7 + 1,(x7_0.set (i7).toNat r56.2,r56.1)),⟨(by dsimp only; omega),(by dsimp only; omega),e7,rfl,S⟩,by dsimp only; omega⟩
   ·replace H:=if_f hc45 H
    refine zd (za (wd (zo rfl) (wd (zp jM rfl ((S.blk 1).all _ (Ln.len _)) (Ln.len _)) ?_)))
    obtain ⟨r72,er72,H⟩ := zt H
    obtain ⟨B74,MB74,SB74,back⟩ := S.calln 1 ((.nil))
    refine zu (zq vc) zbv (vd SB74 er72) ?_
    rintro _ w73 ⟨rfl,S2⟩
    replace S:=back _ _ _ _ S2 rfl
    clear back S2 SB74
    refine wd (zi rfl) (zb (za (wd (zC rfl) (wd (zh rfl) (wd (zo rfl) (wd (zo rfl) (wd (ze xX rfl (o':=1) rfl) (wd (zj zQ rfl ((S.blk 1).cell (Ln.get_form _))) (wd (zh rfl) ?_)))))))))
    obtain ⟨r75,er75,H⟩ := zt H
    obtain ⟨B77,MB77,SB77,back⟩ := S.calln 1 ((.nil))
    refine zu (zq jG) zbv (jK SB77 er75) ?_
    rintro _ w76 ⟨rfl,S2⟩
    replace S:=back _ _ _ _ S2 rfl
    clear back S2 SB77
    refine wd (zh rfl) ?_
    obtain ⟨r78,er78,H⟩ := zt H
    obtain ⟨B80,MB80,SB80,back⟩ := S.calln 1 ((.nil))
    refine zu (zq xu) zbv (xv SB80 er78) ?_
    rintro _ w79 ⟨rfl,S2⟩
    replace S:=back _ _ _ _ S2 rfl
    clear back S2 SB80
    obtain ⟨hi81,H⟩ := xm H
    refine wd (zW xR rfl rfl (S.rdO 2) (zI hi81).1 (zI hi81).2) ?_
    refine zbt (C:=IC) (a:=r78.2) zQ rfl rfl (S.sl 2) (zI hi81) rfl rfl fun w82 O hw82=>?_
    have hlw82:=S.lenO 2
    replace S:=S.push 2 O (by rw [List.length_set]; exact hlw82) hw82 (fun i hi => .inl hi)
    clear O
    refine zb (za (wd (xM q7_i rfl (c:=i7 + 1) rfl zbw zbw) (wd (zh rfl) (zb ?_))))
    replace S:=S.arr [0,1] [0]
    obtain rfl:=zbz H
    exact ⟨rfl,(by repeat first | exact Dif.refl _ _ | exact Dif.self _ _ _ | refine Dif.upd ?_ rfl _ | refine Dif.mask ?_ rfl _),(m7,i7 + 1,(x7_0.set (i7).toNat r78.2,r78.1)),⟨(by dsimp only; omega),(by dsimp only; omega),e7,rfl,S⟩,by dsimp only; omega⟩
 rintro g83 u84 ⟨s7,rfl,S⟩
 have H:=Ho7
 dsimp only [aft] at H
 refine zd ?_
 obtain ⟨p85,s87,hp86,S⟩ := S.open_oK 1
 replace S:=S
 refine xU 9 (Ext u84) hmix zby zby (Ext.drawn _) (zx (fun v K=>zo rfl) (zx (fun v K=>zB (congrArg Value.pointer hp86)) (zx (fun v K=>ze v8 rfl (o':=1) rfl) (zx (fun v K=>zj yJ rfl (((S.ext K).blk 0).cell (Maker.get_l _))) (zx (fun v K=>zo rfl) (zx (fun v K=>zB (congrArg Value.pointer hp86)) (zx (fun v K=>ze ym rfl (o':=2) rfl) (zx (fun v K=>zj yf rfl (((S.ext K).blk 0).cell (Maker.get_bad _))) (zx (fun v K=>x6 rfl) ?_)))))))))
 refine yV fun w88 K=>?_
 replace S:=S.ext K
 clear K
 refine wd (zi rfl) (zb (zy ?_))
 refine ⟨_,(xx (zg rfl) (zg rfl)),?_⟩
 replace S:=S.arr [1,2] []
 obtain rfl:=zbz H
 exact ⟨s87,rfl,S⟩
theorem hilbert_kept_st {a0:Tb} {a_0:Option Addr} {a1:Int} {a2:List Ln} {s_2:SlV} {a3:Int} (S:St A N w w [oT a_0 a0,oS T_Ln 4 Ln.C s_2 a2] []) {r:Tb × List Ln × Int} (H:zct.f a0 a1 a2 a3=some r) :
  Calls PP F_hilbert_kept #[.pointer a_0,.int .i64 a1,s_2.v,.int .i64 a3] w fun e w' => ∃ v,e = .returned v∧(∃ so0:SlV,v = .tuple #[so0.v,.int .i64 r.2.2]∧St A N w w' [oT a_0 r.1,oS T_Ln 4 Ln.C so0 r.2.1] []):=by
 unfold zct.f at H
 refine zz (n:=17) fn_hilbert_kept rfl rfl zbx (zd (za (wd (xw) (wd (zi rfl) (zb (zd (zd (za (wd (zh rfl) (wd (xj rfl rfl) (zb ?_)))))))))))
 refine zH rfl (fun hc1=>?_) (fun hc1=>?_)
 ·replace H:=if_t hc1 H
  refine zd (za (wd (zo rfl) (wd (zh rfl) ?_)))
  obtain ⟨r2,er2,H⟩ := zt H
  obtain ⟨B4,MB4,SB4,back⟩ := S.calln 1 ((.nil))
  refine zu (zq ca_formula_Table_Cut) zbv (formula_Table_Cut_st SB4 er2) ?_
  rintro _ w3 ⟨rfl,S2⟩
  replace S:=back _ _ _ _ S2 rfl
  clear back S2 SB4
  refine zb (zd (za (wd (zh rfl) (wd (xw) (wd (zi rfl) (zb (zy ?_)))))))
  replace S:=S.nil T_Ln 4 Ln.C
  refine ⟨_,(xx (zg rfl) (zg rfl)),?_⟩
  replace S:=S.arr [1,0] []
  obtain rfl:=zbz H
  exact ⟨SlV.nil,rfl,S⟩
 replace H:=if_f hc1 H
 refine zA (zd (za (wd (zC rfl) (wd (x6 rfl) (wd (zi rfl) (zb (zy ?_)))))))
 refine ⟨_,(xx (zg rfl) (zg rfl)),?_⟩
 obtain rfl:=zbz H
 exact ⟨s_2,rfl,S⟩
theorem hilbert_Deduce_st {a0:Tb} {a_0:Option Addr} {a1:List Int} {s_1:SlV} {a2:List Ln} {s_2:SlV} {a3:Int} (S:St A N w w [oT a_0 a0] [fS 1 IC s_1 a1,fS 4 Ln.C s_2 a2]) {k:Nat} {r:Tb × List Ln × Int} (H:zcu.f k a0 a1 a2 a3=some r) :
  Calls PP zbl #[.pointer a_0,s_1.v,s_2.v,.int .i64 a3] w fun e w' => ∃ v,e = .returned v∧(∃ so0:SlV,v = .tuple #[so0.v,.int .i64 r.2.2]∧St A N w w' [oT a_0 r.1,oS T_Ln 4 Ln.C so0 r.2.1] []):=by
 unfold zcu.f at H
 refine zz (n:=45) fn_hilbert_Deduce rfl rfl zbx (zd (za (wd (xw) (wd (zi rfl) (zb (zd (zd (za (wd (zo rfl) (wd (zh rfl) ?_))))))))))
 refine xy (C:=IC) (l:=[a3]) (vs:=[.int .i64 a3]) xR zaD.zero rfl rfl (fun _ _=>rfl) zbv rfl zbv fun b2 w1 s3 hBw1 hw1=>?_
 replace S:=S.lit hBw1 hw1 zbx
 obtain ⟨r4,er4,H⟩ := zt H
 obtain ⟨B6,MB6,SB6,back⟩ := S.calln 0 ((.o 1 rfl (.s 0 rfl .nil)))
 refine zu (zq jZ) zbv (ka SB6 er4) ?_
 rintro _ w5 ⟨rfl,S2⟩
 replace S:=back _ _ _ _ S2 rfl
 clear back S2 SB6
 refine wd (zi rfl) (zb (zd (za (wd (zh rfl) (wd (xj rfl rfl) (zb ?_))))))
 refine zH rfl (fun hc7=>?_) (fun hc7=>?_)
 ·replace H:=if_t hc7 H
  refine zd (za (wd (zh rfl) (wd (xw) (wd (zi rfl) (zb (zy ?_))))))
  replace S:=S.nil T_Ln 4 Ln.C
  refine ⟨_,(xx (zg rfl) (zg rfl)),?_⟩
  replace S:=S.arr [2,0] []
  obtain rfl:=zbz H
  exact ⟨SlV.nil,rfl,S⟩
 replace H:=if_f hc7 H
 refine zA (zd (zd (za (wd (zo rfl) (wd (zC rfl) (wd (zC rfl) ?_))))))
 obtain ⟨r8,er8,H⟩ := zt H
 replace S:=S.front 1
 obtain ⟨B10,MB10,SB10,back⟩ := S.calln 1 ((.z 0 rfl (.z 1 rfl .nil)))
 refine zu (zq jc) zbv (jh SB10 er8) ?_
 rintro _ w9 ⟨rfl,S2⟩
 replace S:=back _ _ _ _ S2 rfl
 clear back S2 SB10
 refine wd (zi rfl) (zb (zd (za (wd (zh rfl) (wd (xj rfl rfl) (zb ?_))))))
 refine zH rfl (fun hc11=>?_) (fun hc11=>?_)
 ·replace H:=if_t hc11 H
  refine zd (za (wd (zh rfl) (wd (xw) (wd (zi rfl) (zb (zy ?_))))))
  replace S:=S.nil T_Ln 4 Ln.C
  refine ⟨_,(xx (zg rfl) (zg rfl)),?_⟩
  replace S:=S.arr [1,0] []
  obtain rfl:=zbz H
  exact ⟨SlV.nil,rfl,S⟩
 replace H:=if_f hc11 H
 refine zA (zd (za (wd (zo rfl) ?_)))
 obtain ⟨r12,er12,H⟩ := zt H
 obtain ⟨B14,MB14,SB14,back⟩ := S.calln 0 ((.o 0 rfl .nil))
 refine zu (zq vV) zbv (vY SB14 er12) ?_
 rintro _ w13 ⟨rfl,S2⟩
 replace S:=back _ _ _ _ S2 rfl
 clear back S2 SB14
 refine wd (zi rfl) (zb (zd (za (wd (zo rfl) (wd (zC rfl) (wd (zh rfl) ?_))))))
 obtain ⟨r15,er15,H⟩ := zt H
 obtain ⟨B17,MB17,SB17,back⟩ := S.calln 1 ((.z 1 rfl .nil))
 refine zu (zq zaS) zbv (zaT SB17 er15) ?_
 rintro _ w16 ⟨s18,rfl,S2⟩
 replace S:=back _ _ _ _ S2 rfl
 clear back S2 SB17
 refine wd (z7 rfl) (wd (zw rfl rfl) (wd (zw rfl rfl) (wd (x6 rfl) (wd (zi rfl) (zb (zd (za (wd (zo rfl) (wd (zh rfl) (wd (zC rfl) (wd (zh rfl) ?_)))))))))))
 obtain ⟨r19,er19,H⟩ := zt H
 replace S:=(S.front 1).front 1
 obtain ⟨B21,MB21,SB21,back⟩ := S.calln 2 ((.nil))
 refine zu (zq ca_hilbert_kept) zbv (hilbert_kept_st SB21 er19) ?_
 rintro _ w20 ⟨s22,rfl,S2⟩
 replace S:=back _ _ _ _ S2 rfl
 clear back S2 SB21
 refine wd (zw rfl rfl) (wd (zw rfl rfl) (wd (x6 rfl) (wd (zi rfl) (zb (zy ?_)))))
 refine ⟨_,(xx (zg rfl) (zg rfl)),?_⟩
 replace S:=S.arr [0,1] []
 obtain rfl:=zbz H
 exact ⟨s22,rfl,S⟩
end
section
open Gw Go.RowKit
set_option maxHeartbeats 4000000
set_option maxRecDepth 20000
variable {A:Nat→Prop} {N:Oth} {w:World}
theorem term_shape_st {a0:Int} (S:St A N w w [] []) {r:Int × Bool × Bool × Bool} (H:zcv.f a0=some r) :
  Calls PP F_term_shape #[.int .i64 a0] w fun e w' => ∃ v,e = .returned v∧(v = .tuple #[.int .i64 r.1,.bool r.2.1,.bool r.2.2.1,.bool r.2.2.2]∧St A N w w' [] []):=by
 unfold zcv.f at H
 refine zz (n:=25) fn_term_shape rfl rfl zbx (zd (za (wd (zi rfl) (wd (zn rfl) (wd (zn rfl) (wd (zn rfl) (zb (zd (zd (za ?_))))))))))
 refine wd (zh rfl) (zb ?_)
 refine zO (zd (za (wd (zL rfl rfl) (wd (zn rfl) (zb ?_)))))
 refine zH rfl (fun hc1=>?_) (fun hc1=>?_)
 ·replace H:=if_t hc1 H
  refine zd (za (wd (zi rfl) (wd (zn rfl) (wd (zn rfl) (wd (zn rfl) (zb (zy ?_)))))))
  refine ⟨_,(rets4 (zg rfl) (zg rfl) (zg rfl) (zg rfl)),?_⟩
  obtain rfl:=zbz H
  exact ⟨rfl,S⟩
 replace H:=if_f hc1 H
 refine zd (za (wd (zL rfl rfl) (wd (zn rfl) (zb ?_))))
 refine zH rfl (fun hc2=>?_) (fun hc2=>?_)
 ·replace H:=if_t hc2 H
  refine zd (za (wd (zi rfl) (wd (zn rfl) (wd (zn rfl) (wd (zn rfl) (zb (zy ?_)))))))
  refine ⟨_,(rets4 (zg rfl) (zg rfl) (zg rfl) (zg rfl)),?_⟩
  obtain rfl:=zbz H
  exact ⟨rfl,S⟩
 replace H:=if_f hc2 H
 refine zd (za (wd (zL rfl rfl) (wd (zn rfl) (zb ?_))))
 refine zH rfl (fun hc3=>?_) (fun hc3=>?_)
 ·replace H:=if_t hc3 H
  refine zd (za (wd (zi rfl) (wd (zn rfl) (wd (zn rfl) (wd (zn rfl) (zb (zy ?_)))))))
  refine ⟨_,(rets4 (zg rfl) (zg rfl) (zg rfl) (zg rfl)),?_⟩
  obtain rfl:=zbz H
  exact ⟨rfl,S⟩
 replace H:=if_f hc3 H
 refine zd (za (wd (zL rfl rfl) (wd (zn rfl) (zb ?_))))
 refine zH rfl (fun hc4=>?_) (fun hc4=>?_)
 ·replace H:=if_t hc4 H
  refine zd (za (wd (zi rfl) (wd (zn rfl) (wd (zn rfl) (wd (zn rfl) (zb (zy ?_)))))))
  refine ⟨_,(rets4 (zg rfl) (zg rfl) (zg rfl) (zg rfl)),?_⟩
  obtain rfl:=zbz H
  exact ⟨rfl,S⟩
 replace H:=if_f hc4 H
 refine zd (zd (za (wd (zL rfl rfl) (wd (zn rfl) (zb ?_)))))
 obtain ⟨o5,e5,Ho5⟩ := zt H
 replace H:=e5; clear e5
 refine xO [15,17,18,19,20,21] (fun fr W=>fr 15 = .bool o5∧St A N w W [] []) ?_ ?_
 ·refine zH rfl (fun hc6=>?_) (fun hc6=>?_)
  ·replace H:=if_t hc6 H
   refine zA ?_
   obtain rfl:=zbz H
   exact ⟨rfl,(Dif.refl _ _),rfl,S⟩
  ·replace H:=if_f hc6 H
   refine zd (za (wd (zL rfl rfl) (wd (zn rfl) (zb ?_))))
   refine zH rfl (fun hc7=>?_) (fun hc7=>?_)
   ·replace H:=if_t hc7 H
    refine zA ?_
    obtain rfl:=zbz H
    exact ⟨rfl,(((Dif.refl _ _).upd rfl _).upd rfl _),rfl,S⟩
   ·replace H:=if_f hc7 H
    refine zd (za (wd (zL rfl rfl) (wd (zn rfl) (zb ?_))))
    refine zH rfl (fun hc8=>?_) (fun hc8=>?_)
    ·replace H:=if_t hc8 H
     refine zA ?_
     obtain rfl:=zbz H
     exact ⟨rfl,(((((Dif.refl _ _).upd rfl _).upd rfl _).upd rfl _).upd rfl _),rfl,S⟩
    ·replace H:=if_f hc8 H
     refine zd (za (wd (zL rfl rfl) (wd (zn rfl) (zb ?_))))
     refine zH rfl (fun hc9=>?_) (fun hc9=>?_)
     ·replace H:=if_t hc9 H
      refine zA ?_
      obtain rfl:=zbz H
      exact ⟨rfl,(((((((Dif.refl _ _).upd rfl _).upd rfl _).upd rfl _).upd rfl _).upd rfl _).upd rfl _),rfl,S⟩
     ·replace H:=if_f hc9 H
      refine zd (za (wd (zL rfl rfl) (wd (zn rfl) (zb ?_))))
      refine zH rfl (fun hc10=>?_) (fun hc10=>?_)
      ·replace H:=if_t hc10 H
       refine zA ?_
       obtain rfl:=zbz H
       exact ⟨rfl,(((((((((Dif.refl _ _).upd rfl _).upd rfl _).upd rfl _).upd rfl _).upd rfl _).upd rfl _).upd rfl _).upd rfl _),rfl,S⟩
      ·replace H:=if_f hc10 H
       refine za (wd (zL rfl rfl) (wd (zn rfl) (zb ?_)))
       obtain rfl:=zbz H
       exact ⟨rfl,(((((((((((Dif.refl _ _).upd rfl _).upd rfl _).upd rfl _).upd rfl _).upd rfl _).upd rfl _).upd rfl _).upd rfl _).upd rfl _).upd rfl _),rfl,S⟩
 rintro g11 u12 ⟨p5_15,S⟩
 have H:=Ho5
 refine zH p5_15 (fun hc13=>?_) (fun hc13=>?_)
 ·replace H:=if_t hc13 H
  refine zd (za (wd (zi rfl) (wd (zn rfl) (wd (zn rfl) (wd (zn rfl) (zb (zy ?_)))))))
  refine ⟨_,(rets4 (zg rfl) (zg rfl) (zg rfl) (zg rfl)),?_⟩
  obtain rfl:=zbz H
  exact ⟨rfl,S⟩
 replace H:=if_f hc13 H
 refine zd (zd (za (wd (zL rfl rfl) (wd (zn rfl) (zb ?_)))))
 refine zH rfl (fun hc14=>?_) (fun hc14=>?_)
 ·replace H:=if_t hc14 H
  refine zA ?_
  refine zH rfl (fun hc15=>?_) (fun hc15=>?_)
  ·replace H:=if_t hc15 H
   refine zd (za (wd (zi rfl) (wd (zn rfl) (wd (zn rfl) (wd (zn rfl) (zb (zy ?_)))))))
   refine ⟨_,(rets4 (zg rfl) (zg rfl) (zg rfl) (zg rfl)),?_⟩
   obtain rfl:=zbz H
   exact ⟨rfl,S⟩
  replace H:=if_f hc15 H
  refine zA (zd (za (wd (zi rfl) (wd (zn rfl) (wd (zn rfl) (wd (zn rfl) (zb (zy ?_))))))))
  refine ⟨_,(rets4 (zg rfl) (zg rfl) (zg rfl) (zg rfl)),?_⟩
  obtain rfl:=zbz H
  exact ⟨rfl,S⟩
 ·replace H:=if_f hc14 H
  refine za (wd (zL rfl rfl) (wd (zn rfl) (zb ?_)))
  refine zH rfl (fun hc16=>?_) (fun hc16=>?_)
  ·replace H:=if_t hc16 H
   refine zd (za (wd (zi rfl) (wd (zn rfl) (wd (zn rfl) (wd (zn rfl) (zb (zy ?_)))))))
   refine ⟨_,(rets4 (zg rfl) (zg rfl) (zg rfl) (zg rfl)),?_⟩
   obtain rfl:=zbz H
   exact ⟨rfl,S⟩
  replace H:=if_f hc16 H
  refine zA (zd (za (wd (zi rfl) (wd (zn rfl) (wd (zn rfl) (wd (zn rfl) (zb (zy ?_))))))))
  refine ⟨_,(rets4 (zg rfl) (zg rfl) (zg rfl) (zg rfl)),?_⟩
  obtain rfl:=zbz H
  exact ⟨rfl,S⟩
theorem term_named_st {a0:ByteArray} {a1:Bool} (S:St A N w w [] []) {r:Bool} (H:zcw.f a0 a1=some r) :
  Calls PP F_term_named #[.string a0,.bool a1] w fun e w' => ∃ v,e = .returned v∧(v = .bool r∧St A N w w' [] []):=by
 unfold zcw.f at H
 refine zz (n:=11) fn_term_named rfl rfl zbx (zd (za (wd (zn rfl) (zb (zd (zd (za (wd (zD rfl) ?_))))))))
 refine wd (xh rfl) (zb ?_)
 refine zH rfl (fun hc1=>?_) (fun hc1=>?_)
 ·replace H:=if_t hc1 H
  refine zd (za (wd (xr rfl) (wd (vk rfl rfl) (wd (zn rfl) (zb (zy ?_))))))
  refine ⟨_,(zS (zg rfl)),?_⟩
  obtain rfl:=zbz H
  exact ⟨rfl,S⟩
 replace H:=if_f hc1 H
 refine zA (zd (za (wd (xr rfl) ?_)))
 obtain ⟨r2,er2,H⟩ := zt H
 obtain ⟨B4,MB4,SB4,back⟩ := S.calln 0 ((.nil))
 refine zu (zq ca_formula_Word) zbv (formula_Word_st SB4 er2) ?_
 rintro _ w3 ⟨rfl,S2⟩
 replace S:=back _ _ _ _ S2 rfl
 clear back S2 SB4
 refine wd (zn rfl) (zb (zy ?_))
 refine ⟨_,(zS (zg rfl)),?_⟩
 obtain rfl:=zbz H
 exact ⟨rfl,S⟩
theorem ref12_parts_st {a0:Int} (S:St A N w w [] []) {r:Int} (H:zcx.f a0=some r) :
  Calls PP F_ref12_parts #[.int .i64 a0] w fun e w' => ∃ v,e = .returned v∧(v = .int .i64 r∧St A N w w' [] []):=by
 unfold zcx.f at H
 refine zz (n:=20) fn_ref12_parts rfl rfl zbx (zd (za (wd (zi rfl) (zb (zd (zd (za (wd (zh rfl) (zb ?_)))))))))
 refine zO (zd (za (wd (zL rfl rfl) (wd (zn rfl) (zb ?_)))))
 refine zH rfl (fun hc1=>?_) (fun hc1=>?_)
 ·replace H:=if_t hc1 H
  refine zd (za (wd (zi rfl) (zb (zy ?_))))
  refine ⟨_,(zS (zg rfl)),?_⟩
  obtain rfl:=zbz H
  exact ⟨rfl,S⟩
 replace H:=if_f hc1 H
 refine zd (zd (za (wd (zL rfl rfl) (wd (zn rfl) (zb ?_)))))
 obtain ⟨o2,e2,Ho2⟩ := zt H
 replace H:=e2; clear e2
 refine xO [6,8,9,10,11,12,13] (fun fr W=>fr 6 = .bool o2∧St A N w W [] []) ?_ ?_
 ·refine zH rfl (fun hc3=>?_) (fun hc3=>?_)
  ·replace H:=if_t hc3 H
   refine zA ?_
   obtain rfl:=zbz H
   exact ⟨rfl,(Dif.refl _ _),rfl,S⟩
  ·replace H:=if_f hc3 H
   refine zd (za (wd (zL rfl rfl) (wd (zn rfl) (zb ?_))))
   refine zH rfl (fun hc4=>?_) (fun hc4=>?_)
   ·replace H:=if_t hc4 H
    refine zA ?_
    obtain rfl:=zbz H
    exact ⟨rfl,(((Dif.refl _ _).upd rfl _).upd rfl _),rfl,S⟩
   ·replace H:=if_f hc4 H
    refine zd (za (wd (zL rfl rfl) (wd (zn rfl) (zb ?_))))
    refine zH rfl (fun hc5=>?_) (fun hc5=>?_)
    ·replace H:=if_t hc5 H
     refine zA ?_
     obtain rfl:=zbz H
     exact ⟨rfl,(((((Dif.refl _ _).upd rfl _).upd rfl _).upd rfl _).upd rfl _),rfl,S⟩
    ·replace H:=if_f hc5 H
     refine zd (za (wd (zL rfl rfl) (wd (zn rfl) (zb ?_))))
     refine zH rfl (fun hc6=>?_) (fun hc6=>?_)
     ·replace H:=if_t hc6 H
      refine zA ?_
      obtain rfl:=zbz H
      exact ⟨rfl,(((((((Dif.refl _ _).upd rfl _).upd rfl _).upd rfl _).upd rfl _).upd rfl _).upd rfl _),rfl,S⟩
     ·replace H:=if_f hc6 H
      refine zd (za (wd (zL rfl rfl) (wd (zn rfl) (zb ?_))))
      refine zH rfl (fun hc7=>?_) (fun hc7=>?_)
      ·replace H:=if_t hc7 H
       refine zA ?_
       obtain rfl:=zbz H
       exact ⟨rfl,(((((((((Dif.refl _ _).upd rfl _).upd rfl _).upd rfl _).upd rfl _).upd rfl _).upd rfl _).upd rfl _).upd rfl _),rfl,S⟩
      ·replace H:=if_f hc7 H
       refine zd (za (wd (zL rfl rfl) (wd (zn rfl) (zb ?_))))
       refine zH rfl (fun hc8=>?_) (fun hc8=>?_)
       ·replace H:=if_t hc8 H
        refine zA ?_
        obtain rfl:=zbz H
        exact ⟨rfl,(((((((((((Dif.refl _ _).upd rfl _).upd rfl _).upd rfl _).upd rfl _).upd rfl _).upd rfl _).upd rfl _).upd rfl _).upd rfl _).upd rfl _),rfl,S⟩
       ·replace H:=if_f hc8 H
        refine za (wd (zL rfl rfl) (wd (zn rfl) (zb ?_)))
        obtain rfl:=zbz H
        exact ⟨rfl,(((((((((((((Dif.refl _ _).upd rfl _).upd rfl _).upd rfl _).upd rfl _).upd rfl _).upd rfl _).upd rfl _).upd rfl _).upd rfl _).upd rfl _).upd rfl _).upd rfl _),rfl,S⟩
 rintro g9 u10 ⟨p2_6,S⟩
 have H:=Ho2
 refine zH p2_6 (fun hc11=>?_) (fun hc11=>?_)
 ·replace H:=if_t hc11 H
  refine zd (za (wd (zi rfl) (zb (zy ?_))))
  refine ⟨_,(zS (zg rfl)),?_⟩
  obtain rfl:=zbz H
  exact ⟨rfl,S⟩
 replace H:=if_f hc11 H
 refine zd (zd (za (wd (zL rfl rfl) (wd (zn rfl) (zb ?_)))))
 refine zH rfl (fun hc12=>?_) (fun hc12=>?_)
 ·replace H:=if_t hc12 H
  refine zA ?_
  refine zH rfl (fun hc13=>?_) (fun hc13=>?_)
  ·replace H:=if_t hc13 H
   refine zd (za (wd (zi rfl) (zb (zy ?_))))
   refine ⟨_,(zS (zg rfl)),?_⟩
   obtain rfl:=zbz H
   exact ⟨rfl,S⟩
  replace H:=if_f hc13 H
  refine zd (za (wd (zL rfl rfl) (wd (zn rfl) (zb ?_))))
  refine zH rfl (fun hc14=>?_) (fun hc14=>?_)
  ·replace H:=if_t hc14 H
   refine zd (za (wd (zi rfl) (zb (zy ?_))))
   refine ⟨_,(zS (zg rfl)),?_⟩
   obtain rfl:=zbz H
   exact ⟨rfl,S⟩
  replace H:=if_f hc14 H
  refine zA (zd (za (wd (zi rfl) (zb (zy ?_)))))
  refine ⟨_,(zS (zg rfl)),?_⟩
  obtain rfl:=zbz H
  exact ⟨rfl,S⟩
 ·replace H:=if_f hc12 H
  refine zd (za (wd (zL rfl rfl) (wd (zn rfl) (zb ?_))))
  refine zH rfl (fun hc15=>?_) (fun hc15=>?_)
  ·replace H:=if_t hc15 H
   refine zA ?_
   refine zH rfl (fun hc16=>?_) (fun hc16=>?_)
   ·replace H:=if_t hc16 H
    refine zd (za (wd (zi rfl) (zb (zy ?_))))
    refine ⟨_,(zS (zg rfl)),?_⟩
    obtain rfl:=zbz H
    exact ⟨rfl,S⟩
   replace H:=if_f hc16 H
   refine zd (za (wd (zL rfl rfl) (wd (zn rfl) (zb ?_))))
   refine zH rfl (fun hc17=>?_) (fun hc17=>?_)
   ·replace H:=if_t hc17 H
    refine zd (za (wd (zi rfl) (zb (zy ?_))))
    refine ⟨_,(zS (zg rfl)),?_⟩
    obtain rfl:=zbz H
    exact ⟨rfl,S⟩
   replace H:=if_f hc17 H
   refine zA (zd (za (wd (zi rfl) (zb (zy ?_)))))
   refine ⟨_,(zS (zg rfl)),?_⟩
   obtain rfl:=zbz H
   exact ⟨rfl,S⟩
  ·replace H:=if_f hc15 H
   refine za (wd (zL rfl rfl) (wd (zn rfl) (zb ?_)))
   refine zH rfl (fun hc18=>?_) (fun hc18=>?_)
   ·replace H:=if_t hc18 H
    refine zd (za (wd (zi rfl) (zb (zy ?_))))
    refine ⟨_,(zS (zg rfl)),?_⟩
    obtain rfl:=zbz H
    exact ⟨rfl,S⟩
   replace H:=if_f hc18 H
   refine zd (za (wd (zL rfl rfl) (wd (zn rfl) (zb ?_))))
   refine zH rfl (fun hc19=>?_) (fun hc19=>?_)
   ·replace H:=if_t hc19 H
    refine zd (za (wd (zi rfl) (zb (zy ?_))))
    refine ⟨_,(zS (zg rfl)),?_⟩
    obtain rfl:=zbz H
    exact ⟨rfl,S⟩
   replace H:=if_f hc19 H
   refine zA (zd (za (wd (zi rfl) (zb (zy ?_)))))
   refine ⟨_,(zS (zg rfl)),?_⟩
   obtain rfl:=zbz H
   exact ⟨rfl,S⟩
theorem term_deep_gst {zdW:PTerm→Int→Option Int} (zdM : ∀ {A:Nat→Prop} {N:Oth} {w:World} {a0:PTerm} {s_0:SlV} {a1:Int} (S:St A N w w [] [zf s_0 a0.sub]) {r:Int} (H:zdW a0 a1=some r),Calls PP kU #[.agg (Term.C (⟨a0.kind,a0.name,a0.other,a0.form,s_0⟩ : Term)).toArray,.int .i64 a1] w fun e w' => ∃ v,e = .returned v∧(v = .int .i64 r∧St A N w w' [] [])) {A:Nat→Prop} {N:Oth} {w:World} {a0:PTerm} {s_0:SlV} {a1:Int} (S:St A N w w [] [zf s_0 a0.sub]) {k:Nat} {r:Int} (H:zcy.g zdW k a0 a1=some r) :
  Calls PP kU #[.agg (Term.C (⟨a0.kind,a0.name,a0.other,a0.form,s_0⟩ : Term)).toArray,.int .i64 a1] w fun e w' => ∃ v,e = .returned v∧(v = .int .i64 r∧St A N w w' [] []):=by
 unfold zcy.g at H
 refine zz (n:=35) fn_term_deep rfl rfl zbx (zd (za ?_))
 refine z1 rfl zbv fun b2 w1 hw1=>?_
 replace S:=S.new hw1
 refine wd (zi rfl) (zb (zd (zd (za (wd (zh rfl) (wd (zaj rfl rfl) (zb ?_)))))))
 refine zH rfl (fun hc3=>?_) (fun hc3=>?_)
 ·replace H:=if_t hc3 H
  refine zd (za (wd (zh rfl) (wd (zi rfl) (zb (zy ?_)))))
  refine ⟨_,(zS (zg rfl)),?_⟩
  replace S:=S.arr [] []
  obtain rfl:=zbz H
  exact ⟨rfl,S⟩
 replace H:=if_f hc3 H
 refine zA (zd (za (wd (zi rfl) (zb (zd (zd (za (wd (zi rfl) (zb ?_)))))))))
 obtain ⟨o4,e4,Ho4⟩ := zt H
 clear H
 refine xO [5,6,10,11,12,13,14,15,16,17,18,19,20,21,22,23,24,25,26,27,28,29,30,31,32] (fun fr W => ∃ s4:Int × Int,o4 = .inl s4∧fr 5 = .int .i64 s4.1∧fr 6 = .int .i64 s4.2∧St A N w W [oB b2 zk (Term.C (⟨a0.kind,a0.name,a0.other,a0.form,s_0⟩ : Term))] [zf s_0 a0.sub]) ?_ ?_
 ·refine zO ?_
  refine xN (α:=Nat × (Int × Int)) [5,6,10,11,12,13,14,15,16,17,18,19,20,21,22,23,24,25,26,27,28,29,30,31,32] (fun x fr W=>iter (fun s=>zcy.b0 a0 a1 zdW s.1 s.2) x.1 x.2=some o4∧fr 5 = .int .i64 (x.2.1)∧fr 6 = .int .i64 (x.2.2)∧St A N w W [oB b2 zk (Term.C (⟨a0.kind,a0.name,a0.other,a0.form,s_0⟩ : Term))] [zf s_0 a0.sub]) (fun x=>x.1) (k,(0,0)) ⟨(by dsimp only; exact e4),rfl,rfl,S⟩ ?_
  rintro ⟨m4,⟨x4_0,x4_1⟩⟩ g4 u4 ⟨e4,q4_5,q4_6,S⟩
  try dsimp only at e4
  try dsimp only at S
  try dsimp only at q4_5
  try dsimp only at q4_6
  obtain ⟨m4,rfl⟩ : ∃ m,m4=m + 1:=⟨m4 - 1,by cases m4 with | zero=>cases e4 | succ m=>rfl⟩
  obtain ⟨q4,H,e4⟩ := iter_s e4
  unfold zcy.b0 at H
  try dsimp only at H
  refine zd (zd (za (wd (zh q4_6) (wd (ze xn rfl (o':=4) rfl) (wd (zj xb rfl ((S.blk 0).cell (Term.get_sub _))) (wd (does_lenF zR rfl (S.onZ 0)) (wd (xK rfl rfl) ?_)))))))
  refine wd (zD rfl) ?_
  refine wg (fun hg=>zh q4_5) ?_
  refine wg (fun hg=>zh rfl) ?_
  refine wg (fun hg=>ug (zm hg) rfl) ?_
  refine wg (fun hg=>xK (zm hg) (zm hg)) (wd (xc rfl (fun hp=>(zm (xk hp)))) (zb ?_))
  refine zH rfl (fun hc5=>?_) (fun hc5=>?_)
  rotate_left
  ·replace H:=if_f hc5 H
   refine xZ ?_
   obtain rfl:=zbz H
   exact ⟨rfl,((((((((((((Dif.self _ _ _).upd rfl _).upd rfl _).upd rfl _).upd rfl _).upd rfl _).upd rfl _).upd rfl _).upd rfl _).upd rfl _).upd rfl _).upd rfl _),(x4_0,x4_1),e4,q4_5,q4_6,S⟩
  replace H:=if_t hc5 H
  refine zA (zd ?_)
  refine zO (za (wd (zh q4_5) (wd (ze xn rfl (o':=4) rfl) (wd (zj xb rfl ((S.blk 0).cell (Term.get_sub _))) (wd (zh q4_6) ?_)))))
  obtain ⟨hi6,H⟩ := xm H
  refine wd (does_indexF zR rfl rfl (S.onZ 0) (zI hi6).1 (zI hi6).2) ?_
  obtain ⟨s7,hc8,S⟩ := S.viewTerm 0 (zI hi6)
  replace S:=S
  refine wd (zp zE rfl hc8 (Term.len _)) (wd (zh rfl) (wd (ug rfl rfl) ?_))
  obtain ⟨r9,er9,H⟩ := zt H
  obtain ⟨B11,MB11,SB11,back⟩ := S.calln 0 ((.z 0 rfl .nil))
  refine zu (zq ca_term_deep) zbv (zdM (a0:=(at_ PTerm.z a0.sub x4_1)) SB11 er9) ?_
  rintro _ w10 ⟨rfl,S2⟩
  replace S:=back _ _ _ _ S2 rfl
  clear back S2 SB11
  refine wd (does_max rfl rfl) (wd (zi rfl) (zb (za (wd (zh q4_6) (wd (uf rfl rfl) ?_)))))
  refine wd (zi rfl) (zb ?_)
  replace S:=S.arr [0] [1]
  obtain rfl:=zbz H
  exact ⟨rfl,((((((((((((((((((((((((((Dif.self _ _ _).upd rfl _).upd rfl _).upd rfl _).upd rfl _).upd rfl _).upd rfl _).upd rfl _).upd rfl _).upd rfl _).upd rfl _).upd rfl _).upd rfl _).upd rfl _).upd rfl _).upd rfl _).upd rfl _).upd rfl _).upd rfl _).upd rfl _).upd rfl _).upd rfl _).upd rfl _).upd rfl _).upd rfl _).upd rfl _),(m4,((if x4_0 < r9 then r9 else x4_0),IntKind.i64.wrap (x4_1 + 1))),⟨e4,rfl,rfl,S⟩,by dsimp only; omega⟩
 rintro g12 u13 ⟨s4,rfl,p4_5,p4_6,S⟩
 have H:=Ho4
 dsimp only [aft] at H
 refine zd (za (wd (zh p4_5) (wd (uf rfl rfl) (wd (zi rfl) (zb (zy ?_))))))
 refine ⟨_,(zS (zg rfl)),?_⟩
 replace S:=S.arr [] []
 obtain rfl:=zbz H
 exact ⟨rfl,S⟩
theorem term_deep_st {a0:PTerm} {s_0:SlV} {a1:Int} (S:St A N w w [] [zf s_0 a0.sub]) {k:Nat} {r:Int} (H:zcy.f k a0 a1=some r) :
  Calls PP kU #[.agg (Term.C (⟨a0.kind,a0.name,a0.other,a0.form,s_0⟩ : Term)).toArray,.int .i64 a1] w fun e w' => ∃ v,e = .returned v∧(v = .int .i64 r∧St A N w w' [] []):=by
 have main : ∀ (k:Nat) {A:Nat→Prop} {N:Oth} {w:World} {a0:PTerm} {s_0:SlV} {a1:Int} (S:St A N w w [] [zf s_0 a0.sub]) {r:Int} (H:zcy.f k a0 a1=some r),Calls PP kU #[.agg (Term.C (⟨a0.kind,a0.name,a0.other,a0.form,s_0⟩ : Term)).toArray,.int .i64 a1] w fun e w' => ∃ v,e = .returned v∧(v = .int .i64 r∧St A N w w' [] []):=by
  intro k
  induction k with
  | zero=>intro A N w a0 s_0 a1 S r H; cases H
  | succ k ih=>intro A N w a0 s_0 a1 S r H; exact term_deep_gst ih S H
 exact main k S H
theorem term_Deep_st {a0:PTerm} {s_0:SlV} (S:St A N w w [] [zf s_0 a0.sub]) {k:Nat} {r:Int} (H:zcz.f k a0=some r) :
  Calls PP F_term_Deep #[.agg (Term.C (⟨a0.kind,a0.name,a0.other,a0.form,s_0⟩ : Term)).toArray] w fun e w' => ∃ v,e = .returned v∧(v = .int .i64 r∧St A N w w' [] []):=by
 unfold zcz.f at H
 refine zz (n:=5) fn_term_Deep rfl rfl zbx (zd (za ?_))
 refine z1 rfl zbv fun b2 w1 hw1=>?_
 replace S:=S.new hw1
 refine wd (zi rfl) (zb (zd (za (wd (zp zE rfl ((S.blk 0).all _ (Term.len _)) (Term.len _)) ?_))))
 obtain ⟨r3,er3,H⟩ := zt H
 obtain ⟨B5,MB5,SB5,back⟩ := S.calln 0 ((.z 0 rfl .nil))
 refine zu (zq ca_term_deep) zbv (term_deep_st (a0:=a0) SB5 er3) ?_
 rintro _ w4 ⟨rfl,S2⟩
 replace S:=back _ _ _ _ S2 rfl
 clear back S2 SB5
 refine wd (zi rfl) (zb (zy ?_))
 refine ⟨_,(zS (zg rfl)),?_⟩
 replace S:=S.arr [] []
 obtain rfl:=zbz H
 exact ⟨rfl,S⟩
theorem ref12_size_gst {zdV:PTerm→Int→Option Int} (zdL : ∀ {A:Nat→Prop} {N:Oth} {w:World} {a0:PTerm} {s_0:SlV} {a1:Int} (S:St A N w w [] [zf s_0 a0.sub]) {r:Int} (H:zdV a0 a1=some r),Calls PP jW #[.agg (Term.C (⟨a0.kind,a0.name,a0.other,a0.form,s_0⟩ : Term)).toArray,.int .i64 a1] w fun e w' => ∃ v,e = .returned v∧(v = .int .i64 r∧St A N w w' [] [])) {A:Nat→Prop} {N:Oth} {w:World} {a0:PTerm} {s_0:SlV} {a1:Int} (S:St A N w w [] [zf s_0 a0.sub]) {k:Nat} {r:Int} (H:zcA.g zdV k a0 a1=some r) :
  Calls PP jW #[.agg (Term.C (⟨a0.kind,a0.name,a0.other,a0.form,s_0⟩ : Term)).toArray,.int .i64 a1] w fun e w' => ∃ v,e = .returned v∧(v = .int .i64 r∧St A N w w' [] []):=by
 unfold zcA.g at H
 refine zz (n:=27) fn_ref12_size rfl rfl zbx (zd (za ?_))
 refine z1 rfl zbv fun b2 w1 hw1=>?_
 replace S:=S.new hw1
 refine wd (zi rfl) (zb (zd (za (wd (zh rfl) (wd (uf rfl rfl) (wd (zi rfl) (zb (zd (zd (za ?_))))))))))
 refine wd (zi rfl) (zb ?_)
 obtain ⟨o3,e3,Ho3⟩ := zt H
 clear H
 refine xO [1,5,8,9,10,11,12,13,14,15,16,17,18,19,20,21,22,23,24,25] (fun fr W => ∃ s3:Int × Int,o3 = .inl s3∧fr 1 = .int .i64 s3.1∧fr 5 = .int .i64 s3.2∧St A N w W [oB b2 zk (Term.C (⟨a0.kind,a0.name,a0.other,a0.form,s_0⟩ : Term))] [zf s_0 a0.sub]) ?_ ?_
 ·refine zO ?_
  refine xN (α:=Nat × (Int × Int)) [1,5,8,9,10,11,12,13,14,15,16,17,18,19,20,21,22,23,24,25] (fun x fr W=>iter (fun s=>zcA.b0 a0 zdV s.1 s.2) x.1 x.2=some o3∧fr 1 = .int .i64 (x.2.1)∧fr 5 = .int .i64 (x.2.2)∧St A N w W [oB b2 zk (Term.C (⟨a0.kind,a0.name,a0.other,a0.form,s_0⟩ : Term))] [zf s_0 a0.sub]) (fun x=>x.1) (k,(IntKind.i64.wrap (a1 + 1),0)) ⟨(by dsimp only; exact e3),rfl,rfl,S⟩ ?_
  rintro ⟨m3,⟨x3_0,x3_1⟩⟩ g3 u3 ⟨e3,q3_1,q3_5,S⟩
  try dsimp only at e3
  try dsimp only at S
  try dsimp only at q3_1
  try dsimp only at q3_5
  obtain ⟨m3,rfl⟩ : ∃ m,m3=m + 1:=⟨m3 - 1,by cases m3 with | zero=>cases e3 | succ m=>rfl⟩
  obtain ⟨q3,H,e3⟩ := iter_s e3
  unfold zcA.b0 at H
  try dsimp only at H
  refine zd (zd (za (wd (zh q3_5) (wd (ze xn rfl (o':=4) rfl) (wd (zj xb rfl ((S.blk 0).cell (Term.get_sub _))) (wd (does_lenF zR rfl (S.onZ 0)) (wd (xK rfl rfl) ?_)))))))
  refine wd (zD rfl) ?_
  refine wg (fun hg=>zh q3_1) ?_
  refine wg (fun hg=>zaj (zm hg) rfl) (wd (xc rfl (fun hp=>(zm (xk hp)))) (zb ?_))
  refine zH rfl (fun hc4=>?_) (fun hc4=>?_)
  rotate_left
  ·replace H:=if_f hc4 H
   refine xZ ?_
   obtain rfl:=zbz H
   exact ⟨rfl,((((((((((Dif.self _ _ _).upd rfl _).upd rfl _).upd rfl _).upd rfl _).upd rfl _).upd rfl _).upd rfl _).upd rfl _).upd rfl _),(x3_0,x3_1),e3,q3_1,q3_5,S⟩
  replace H:=if_t hc4 H
  refine zA (zd ?_)
  refine zO (za (wd (ze xn rfl (o':=4) rfl) (wd (zj xb rfl ((S.blk 0).cell (Term.get_sub _))) (wd (zh q3_5) ?_))))
  obtain ⟨hi5,H⟩ := xm H
  refine wd (does_indexF zR rfl rfl (S.onZ 0) (zI hi5).1 (zI hi5).2) ?_
  obtain ⟨s6,hc7,S⟩ := S.viewTerm 0 (zI hi5)
  replace S:=S
  refine wd (zp zE rfl hc7 (Term.len _)) (wd (zh q3_1) ?_)
  obtain ⟨r8,er8,H⟩ := zt H
  obtain ⟨B10,MB10,SB10,back⟩ := S.calln 0 ((.z 0 rfl .nil))
  refine zu (zq ca_ref12_size) zbv (zdL (a0:=(at_ PTerm.z a0.sub x3_1)) SB10 er8) ?_
  rintro _ w9 ⟨rfl,S2⟩
  replace S:=back _ _ _ _ S2 rfl
  clear back S2 SB10
  refine wd (zi rfl) (zb (za (wd (zh q3_5) (wd (uf rfl rfl) (wd (zi rfl) (zb ?_))))))
  replace S:=S.arr [0] [1]
  obtain rfl:=zbz H
  exact ⟨rfl,(((((((((((((((((((((Dif.self _ _ _).upd rfl _).upd rfl _).upd rfl _).upd rfl _).upd rfl _).upd rfl _).upd rfl _).upd rfl _).upd rfl _).upd rfl _).upd rfl _).upd rfl _).upd rfl _).upd rfl _).upd rfl _).upd rfl _).upd rfl _).upd rfl _).upd rfl _).upd rfl _),(m3,(r8,IntKind.i64.wrap (x3_1 + 1))),⟨e3,rfl,rfl,S⟩,by dsimp only; omega⟩
 rintro g11 u12 ⟨s3,rfl,p3_1,p3_5,S⟩
 have H:=Ho3
 dsimp only [aft] at H
 refine zd (za (wd (zh p3_1) (wd (zi rfl) (zb (zy ?_)))))
 refine ⟨_,(zS (zg rfl)),?_⟩
 replace S:=S.arr [] []
 obtain rfl:=zbz H
 exact ⟨rfl,S⟩
theorem ref12_size_st {a0:PTerm} {s_0:SlV} {a1:Int} (S:St A N w w [] [zf s_0 a0.sub]) {k:Nat} {r:Int} (H:zcA.f k a0 a1=some r) :
  Calls PP jW #[.agg (Term.C (⟨a0.kind,a0.name,a0.other,a0.form,s_0⟩ : Term)).toArray,.int .i64 a1] w fun e w' => ∃ v,e = .returned v∧(v = .int .i64 r∧St A N w w' [] []):=by
 have main : ∀ (k:Nat) {A:Nat→Prop} {N:Oth} {w:World} {a0:PTerm} {s_0:SlV} {a1:Int} (S:St A N w w [] [zf s_0 a0.sub]) {r:Int} (H:zcA.f k a0 a1=some r),Calls PP jW #[.agg (Term.C (⟨a0.kind,a0.name,a0.other,a0.form,s_0⟩ : Term)).toArray,.int .i64 a1] w fun e w' => ∃ v,e = .returned v∧(v = .int .i64 r∧St A N w w' [] []):=by
  intro k
  induction k with
  | zero=>intro A N w a0 s_0 a1 S r H; cases H
  | succ k ih=>intro A N w a0 s_0 a1 S r H; exact ref12_size_gst ih S H
 exact main k S H
theorem ref12_Size_st {a0:PTerm} {s_0:SlV} (S:St A N w w [] [zf s_0 a0.sub]) {k:Nat} {r:Int} (H:zcB.f k a0=some r) :
  Calls PP F_ref12_Size #[.agg (Term.C (⟨a0.kind,a0.name,a0.other,a0.form,s_0⟩ : Term)).toArray] w fun e w' => ∃ v,e = .returned v∧(v = .int .i64 r∧St A N w w' [] []):=by
 unfold zcB.f at H
 refine zz (n:=5) fn_ref12_Size rfl rfl zbx (zd (za ?_))
 refine z1 rfl zbv fun b2 w1 hw1=>?_
 replace S:=S.new hw1
 refine wd (zi rfl) (zb (zd (za (wd (zp zE rfl ((S.blk 0).all _ (Term.len _)) (Term.len _)) ?_))))
 obtain ⟨r3,er3,H⟩ := zt H
 obtain ⟨B5,MB5,SB5,back⟩ := S.calln 0 ((.z 0 rfl .nil))
 refine zu (zq ca_ref12_size) zbv (ref12_size_st (a0:=a0) SB5 er3) ?_
 rintro _ w4 ⟨rfl,S2⟩
 replace S:=back _ _ _ _ S2 rfl
 clear back S2 SB5
 refine wd (zi rfl) (zb (zy ?_))
 refine ⟨_,(zS (zg rfl)),?_⟩
 replace S:=S.arr [] []
 obtain rfl:=zbz H
 exact ⟨rfl,S⟩
theorem ref12_deep_gst {zdT:PTerm→Int→Option Int} (zdJ : ∀ {A:Nat→Prop} {N:Oth} {w:World} {a0:PTerm} {s_0:SlV} {a1:Int} (S:St A N w w [] [zf s_0 a0.sub]) {r:Int} (H:zdT a0 a1=some r),Calls PP jV #[.agg (Term.C (⟨a0.kind,a0.name,a0.other,a0.form,s_0⟩ : Term)).toArray,.int .i64 a1] w fun e w' => ∃ v,e = .returned v∧(v = .int .i64 r∧St A N w w' [] [])) {A:Nat→Prop} {N:Oth} {w:World} {a0:PTerm} {s_0:SlV} {a1:Int} (S:St A N w w [] [zf s_0 a0.sub]) {k:Nat} {r:Int} (H:zcC.g zdT k a0 a1=some r) :
  Calls PP jV #[.agg (Term.C (⟨a0.kind,a0.name,a0.other,a0.form,s_0⟩ : Term)).toArray,.int .i64 a1] w fun e w' => ∃ v,e = .returned v∧(v = .int .i64 r∧St A N w w' [] []):=by
 unfold zcC.g at H
 refine zz (n:=33) fn_ref12_deep rfl rfl zbx (zd (za ?_))
 refine z1 rfl zbv fun b2 w1 hw1=>?_
 replace S:=S.new hw1
 refine wd (zi rfl) (zb (zd (zd (za (wd (zh rfl) (wd (uM rfl rfl) (zb ?_)))))))
 refine zH rfl (fun hc3=>?_) (fun hc3=>?_)
 ·replace H:=if_t hc3 H
  refine zd (za (wd (zh rfl) (wd (zi rfl) (zb (zy ?_)))))
  refine ⟨_,(zS (zg rfl)),?_⟩
  replace S:=S.arr [] []
  obtain rfl:=zbz H
  exact ⟨rfl,S⟩
 replace H:=if_f hc3 H
 refine zA (zd (za (wd (zh rfl) (wd (zi rfl) (zb (zd (zd (za ?_))))))))
 refine wd (zi rfl) (zb ?_)
 obtain ⟨o4,e4,Ho4⟩ := zt H
 clear H
 refine xO [5,6,11,12,13,14,15,16,17,18,19,20,21,22,23,24,25,26,27,28,29,30,31] (fun fr W => ∃ s4:Int × Int,o4 = .inl s4∧fr 5 = .int .i64 s4.1∧fr 6 = .int .i64 s4.2∧St A N w W [oB b2 zk (Term.C (⟨a0.kind,a0.name,a0.other,a0.form,s_0⟩ : Term))] [zf s_0 a0.sub]) ?_ ?_
 ·refine zO ?_
  refine xN (α:=Nat × (Int × Int)) [5,6,11,12,13,14,15,16,17,18,19,20,21,22,23,24,25,26,27,28,29,30,31] (fun x fr W=>iter (fun s=>zcC.b0 a0 zdT a1 s.1 s.2) x.1 x.2=some o4∧fr 5 = .int .i64 (x.2.1)∧fr 6 = .int .i64 (x.2.2)∧St A N w W [oB b2 zk (Term.C (⟨a0.kind,a0.name,a0.other,a0.form,s_0⟩ : Term))] [zf s_0 a0.sub]) (fun x=>x.1) (k,(a1,0)) ⟨(by dsimp only; exact e4),rfl,rfl,S⟩ ?_
  rintro ⟨m4,⟨x4_0,x4_1⟩⟩ g4 u4 ⟨e4,q4_5,q4_6,S⟩
  try dsimp only at e4
  try dsimp only at S
  try dsimp only at q4_5
  try dsimp only at q4_6
  obtain ⟨m4,rfl⟩ : ∃ m,m4=m + 1:=⟨m4 - 1,by cases m4 with | zero=>cases e4 | succ m=>rfl⟩
  obtain ⟨q4,H,e4⟩ := iter_s e4
  unfold zcC.b0 at H
  try dsimp only at H
  refine zd (zd (za (wd (zh q4_6) (wd (ze xn rfl (o':=4) rfl) (wd (zj xb rfl ((S.blk 0).cell (Term.get_sub _))) (wd (does_lenF zR rfl (S.onZ 0)) (wd (xK rfl rfl) ?_)))))))
  refine wd (zD rfl) ?_
  refine wg (fun hg=>zh q4_5) ?_
  refine wg (fun hg=>zaj (zm hg) rfl) (wd (xc rfl (fun hp=>(zm (xk hp)))) (zb ?_))
  refine zH rfl (fun hc5=>?_) (fun hc5=>?_)
  rotate_left
  ·replace H:=if_f hc5 H
   refine xZ ?_
   obtain rfl:=zbz H
   exact ⟨rfl,((((((((((Dif.self _ _ _).upd rfl _).upd rfl _).upd rfl _).upd rfl _).upd rfl _).upd rfl _).upd rfl _).upd rfl _).upd rfl _),(x4_0,x4_1),e4,q4_5,q4_6,S⟩
  replace H:=if_t hc5 H
  refine zA (zd ?_)
  refine zO (za (wd (zh q4_5) (wd (ze xn rfl (o':=4) rfl) (wd (zj xb rfl ((S.blk 0).cell (Term.get_sub _))) (wd (zh q4_6) ?_)))))
  obtain ⟨hi6,H⟩ := xm H
  refine wd (does_indexF zR rfl rfl (S.onZ 0) (zI hi6).1 (zI hi6).2) ?_
  obtain ⟨s7,hc8,S⟩ := S.viewTerm 0 (zI hi6)
  replace S:=S
  refine wd (zp zE rfl hc8 (Term.len _)) (wd (zh rfl) (wd (uf rfl rfl) ?_))
  obtain ⟨r9,er9,H⟩ := zt H
  obtain ⟨B11,MB11,SB11,back⟩ := S.calln 0 ((.z 0 rfl .nil))
  refine zu (zq ca_ref12_deep) zbv (zdJ (a0:=(at_ PTerm.z a0.sub x4_1)) SB11 er9) ?_
  rintro _ w10 ⟨rfl,S2⟩
  replace S:=back _ _ _ _ S2 rfl
  clear back S2 SB11
  refine wd (does_max rfl rfl) (wd (zi rfl) (zb (za (wd (zh q4_6) (wd (uf rfl rfl) ?_)))))
  refine wd (zi rfl) (zb ?_)
  replace S:=S.arr [0] [1]
  obtain rfl:=zbz H
  exact ⟨rfl,((((((((((((((((((((((((Dif.self _ _ _).upd rfl _).upd rfl _).upd rfl _).upd rfl _).upd rfl _).upd rfl _).upd rfl _).upd rfl _).upd rfl _).upd rfl _).upd rfl _).upd rfl _).upd rfl _).upd rfl _).upd rfl _).upd rfl _).upd rfl _).upd rfl _).upd rfl _).upd rfl _).upd rfl _).upd rfl _).upd rfl _),(m4,((if x4_0 < r9 then r9 else x4_0),IntKind.i64.wrap (x4_1 + 1))),⟨e4,rfl,rfl,S⟩,by dsimp only; omega⟩
 rintro g12 u13 ⟨s4,rfl,p4_5,p4_6,S⟩
 have H:=Ho4
 dsimp only [aft] at H
 refine zd (za (wd (zh p4_5) (wd (zi rfl) (zb (zy ?_)))))
 refine ⟨_,(zS (zg rfl)),?_⟩
 replace S:=S.arr [] []
 obtain rfl:=zbz H
 exact ⟨rfl,S⟩
theorem ref12_deep_st {a0:PTerm} {s_0:SlV} {a1:Int} (S:St A N w w [] [zf s_0 a0.sub]) {k:Nat} {r:Int} (H:zcC.f k a0 a1=some r) :
  Calls PP jV #[.agg (Term.C (⟨a0.kind,a0.name,a0.other,a0.form,s_0⟩ : Term)).toArray,.int .i64 a1] w fun e w' => ∃ v,e = .returned v∧(v = .int .i64 r∧St A N w w' [] []):=by
 have main : ∀ (k:Nat) {A:Nat→Prop} {N:Oth} {w:World} {a0:PTerm} {s_0:SlV} {a1:Int} (S:St A N w w [] [zf s_0 a0.sub]) {r:Int} (H:zcC.f k a0 a1=some r),Calls PP jV #[.agg (Term.C (⟨a0.kind,a0.name,a0.other,a0.form,s_0⟩ : Term)).toArray,.int .i64 a1] w fun e w' => ∃ v,e = .returned v∧(v = .int .i64 r∧St A N w w' [] []):=by
  intro k
  induction k with
  | zero=>intro A N w a0 s_0 a1 S r H; cases H
  | succ k ih=>intro A N w a0 s_0 a1 S r H; exact ref12_deep_gst ih S H
 exact main k S H
theorem ref12_Deep_st {a0:PTerm} {s_0:SlV} (S:St A N w w [] [zf s_0 a0.sub]) {k:Nat} {r:Int} (H:zcD.f k a0=some r) :
  Calls PP F_ref12_Deep #[.agg (Term.C (⟨a0.kind,a0.name,a0.other,a0.form,s_0⟩ : Term)).toArray] w fun e w' => ∃ v,e = .returned v∧(v = .int .i64 r∧St A N w w' [] []):=by
 unfold zcD.f at H
 refine zz (n:=5) fn_ref12_Deep rfl rfl zbx (zd (za ?_))
 refine z1 rfl zbv fun b2 w1 hw1=>?_
 replace S:=S.new hw1
 refine wd (zi rfl) (zb (zd (za (wd (zp zE rfl ((S.blk 0).all _ (Term.len _)) (Term.len _)) ?_))))
 obtain ⟨r3,er3,H⟩ := zt H
 obtain ⟨B5,MB5,SB5,back⟩ := S.calln 0 ((.z 0 rfl .nil))
 refine zu (zq ca_ref12_deep) zbv (ref12_deep_st (a0:=a0) SB5 er3) ?_
 rintro _ w4 ⟨rfl,S2⟩
 replace S:=back _ _ _ _ S2 rfl
 clear back S2 SB5
 refine wd (zi rfl) (zb (zy ?_))
 refine ⟨_,(zS (zg rfl)),?_⟩
 replace S:=S.arr [] []
 obtain rfl:=zbz H
 exact ⟨rfl,S⟩
end
section
open Gw Go.RowKit
set_option maxHeartbeats 4000000
set_option maxRecDepth 20000
theorem term_right_1_gst {zdX:PTerm→Option Bool} (zdN : ∀ {A:Nat→Prop} {N:Oth} {w:World} {a0:PTerm} {s_0:SlV} (S:St A N w w [] [zf s_0 a0.sub]) {r:Bool} (H:zdX a0=some r),Calls PP vU #[.agg (Term.C (⟨a0.kind,a0.name,a0.other,a0.form,s_0⟩ : Term)).toArray] w fun e w' => ∃ v,e = .returned v∧(v = .bool r∧St A N w w' [] [])) {A:Nat→Prop} {N:Oth} {w:World} {a0:PTerm} {s_0:SlV} (S:St A N w w [] [zf s_0 a0.sub]) {r:Bool} (H:zcE.g zdX a0=some r) :
  Calls PP jX #[.agg (Term.C (⟨a0.kind,a0.name,a0.other,a0.form,s_0⟩ : Term)).toArray] w fun e w' => ∃ v,e = .returned v∧(v = .bool r∧St A N w w' [] []):=by
 unfold zcE.g at H
 refine zz (n:=6) fn_term_right_1 rfl rfl zbx (zd (za ?_))
 refine z1 rfl zbv fun b2 w1 hw1=>?_
 replace S:=S.new hw1
 refine wd (zn rfl) (zb (zd (za (wd (zp zE rfl ((S.blk 0).all _ (Term.len _)) (Term.len _)) ?_))))
 obtain ⟨r3,er3,H⟩ := zt H
 obtain ⟨B5,MB5,SB5,back⟩ := S.calln 0 ((.z 0 rfl .nil))
 refine zu (zq ca_term_right) zbv (zdN (a0:=a0) SB5 er3) ?_
 rintro _ w4 ⟨rfl,S2⟩
 replace S:=back _ _ _ _ S2 rfl
 clear back S2 SB5
 refine wd (xh rfl) (wd (zn rfl) (zb (zy ?_)))
 refine ⟨_,(zS (zg rfl)),?_⟩
 replace S:=S.arr [] []
 obtain rfl:=zbz H
 exact ⟨rfl,S⟩
theorem vE {zdX:PTerm→Option Bool} (zdN : ∀ {A:Nat→Prop} {N:Oth} {w:World} {a0:PTerm} {s_0:SlV} (S:St A N w w [] [zf s_0 a0.sub]) {r:Bool} (H:zdX a0=some r),Calls PP vU #[.agg (Term.C (⟨a0.kind,a0.name,a0.other,a0.form,s_0⟩ : Term)).toArray] w fun e w' => ∃ v,e = .returned v∧(v = .bool r∧St A N w w' [] [])) {A:Nat→Prop} {N:Oth} {w:World} {a0:List PTerm} {s_0:SlV} (S:St A N w w [] [zf s_0 a0]) {r:Int} (H:zcF.g zdX a0=some r) :
  Calls PP vu #[s_0.v,.func (.func jX) #[] #[]] w fun e w' => ∃ v,e = .returned v∧(v = .int .i64 r∧St A N w w' [] []):=by
 unfold zcF.g at H
 refine zz (n:=19) jg rfl rfl zbx (zd (za (wd (zi rfl) (zb (zd (zd (za (wd (zC rfl) ?_))))))))
 refine wd (does_lenF zR rfl (S.onZ 0)) (wd (zh rfl) (zb ?_))
 obtain ⟨o1,e1,Ho1⟩ := zt H
 clear H
 refine xO [4,5,8,9,10,11,12,13,14,15,16,17,18] (fun fr W => ∃ s1:Unit,o1 = .inl s1∧St A N w W [] [zf s_0 a0]) ?_ ?_
 ·refine zO ?_
  refine xN (α:=Nat × Int × Unit) [4,5,8,9,10,11,12,13,14,15,16,17,18] (fun x fr W=>(x.1:Int)=(a0.length:Int) - x.2.1∧0 ≤ x.2.1∧forN (fun i s=>zcF.b0 zdX a0 i) x.1 x.2.1 x.2.2=some o1∧fr 8 = .int .i64 x.2.1∧St A N w W [] [zf s_0 a0]) (fun x=>x.1) (((a0.length:Int) - 0).toNat,0,()) ⟨(by dsimp only; have hle:=Int.natCast_nonneg (a0.length); omega),(Int.le_refl _),(by dsimp only; exact e1),rfl,S⟩ ?_
  rintro ⟨m1,i1,_⟩ g1 u1 ⟨hm1,hl1,e1,q1_i,S⟩
  try dsimp only at hm1
  try dsimp only at hl1
  try dsimp only at e1
  try dsimp only at S
  try dsimp only at q1_i
  refine zd (za (wd (xK q1_i rfl) (zb (zd ?_))))
  refine zH rfl (fun hc2=>?_) (fun hc2=>?_)
  rotate_left
  ·refine xZ ?_
   have hge:(a0.length:Int) ≤ i1:=Int.not_lt.1 (of_decide_eq_false hc2)
   obtain rfl:m1=0:=by omega
   replace e1:=jr e1
   exact ⟨rfl,((Dif.self _ _ _).upd rfl _),(),e1,S⟩
  refine zA ?_
  have hlt1:i1 < (a0.length:Int):=of_decide_eq_true hc2
  obtain ⟨m1,rfl⟩ : ∃ m,m1=m + 1:=⟨m1 - 1,by omega⟩
  obtain ⟨q1,H,e1⟩ := js e1
  unfold zcF.b0 at H
  try dsimp only at H
  have hb1:=(S.lenFZ 0)
  refine zd ?_
  refine zO (zd (za (wd (zh q1_i) (wd (zi rfl) (zb (zd (za ?_)))))))
  refine wd (zap rfl) (wd (zC rfl) (wd (zh rfl) (wd (does_indexF zR rfl rfl (S.onZ 0) (And.intro (show 0 ≤ i1 by omega) (show i1 < (a0.length:Int) from hlt1)).1 (And.intro (show 0 ≤ i1 by omega) (show i1 < (a0.length:Int) from hlt1)).2) ?_)))
  obtain ⟨s4,hc5,S⟩ := S.viewTerm 0 (And.intro (show 0 ≤ i1 by omega) (show i1 < (a0.length:Int) from hlt1))
  replace S:=S
  refine wd (zp zE rfl hc5 (Term.len _)) ?_
  obtain ⟨r6,er6,H⟩ := zt H
  obtain ⟨B8,MB8,SB8,back⟩ := S.calln 0 ((.z 0 rfl .nil))
  refine zu (kA ca_term_right_1 rfl) zbv (term_right_1_gst zdN (a0:=(at_ PTerm.z a0 i1)) SB8 er6) ?_
  rintro _ w7 ⟨rfl,S2⟩
  replace S:=back _ _ _ _ S2 rfl
  clear back S2 SB8
  refine zb ?_
  refine zH rfl (fun hc9=>?_) (fun hc9=>?_)
  ·replace H:=if_t hc9 H
   refine zd (za (wd (zh rfl) (wd (zi rfl) (zb (zy ?_)))))
   refine ⟨_,(zS (zg rfl)),?_⟩
   replace S:=S.arr [] []
   obtain rfl:=zbz H
   obtain rfl:=e1
   obtain rfl:=un Ho1
   exact ⟨rfl,S⟩
  replace H:=if_f hc9 H
  refine zA (za (wd (xM q1_i rfl (c:=i1 + 1) rfl zbw zbw) (wd (zh rfl) (zb ?_))))
  replace S:=S.arr [] [1]
  obtain rfl:=zbz H
  exact ⟨rfl,((((((((((((Dif.self _ _ _).upd rfl _).upd rfl _).upd rfl _).upd rfl _).upd rfl _).upd rfl _).upd rfl _).upd rfl _).upd rfl _).upd rfl _).upd rfl _),(m1,i1 + 1,()),⟨(by dsimp only; omega),(by dsimp only; omega),e1,rfl,S⟩,by dsimp only; omega⟩
 rintro g10 u11 ⟨s1,rfl,S⟩
 have H:=Ho1
 dsimp only [aft] at H
 refine zd (za (wd (zi rfl) (zb (zy ?_))))
 refine ⟨_,(zS (zg rfl)),?_⟩
 replace S:=S.arr [] []
 obtain rfl:=zbz H
 exact ⟨rfl,S⟩
theorem vl {zdX:PTerm→Option Bool} (zdN : ∀ {A:Nat→Prop} {N:Oth} {w:World} {a0:PTerm} {s_0:SlV} (S:St A N w w [] [zf s_0 a0.sub]) {r:Bool} (H:zdX a0=some r),Calls PP vU #[.agg (Term.C (⟨a0.kind,a0.name,a0.other,a0.form,s_0⟩ : Term)).toArray] w fun e w' => ∃ v,e = .returned v∧(v = .bool r∧St A N w w' [] [])) {A:Nat→Prop} {N:Oth} {w:World} {a0:List PTerm} {s_0:SlV} (S:St A N w w [] [zf s_0 a0]) {r:Bool} (H:zcG.g zdX a0=some r) :
  Calls PP vf #[s_0.v,.func (.func jX) #[] #[]] w fun e w' => ∃ v,e = .returned v∧(v = .bool r∧St A N w w' [] []):=by
 unfold zcG.g at H
 refine zz (n:=9) uH rfl rfl zbx (zd (za (wd (zn rfl) (zb (zd (za (wd (zC rfl) ?_)))))))
 refine wd (zap rfl) ?_
 obtain ⟨r1,er1,H⟩ := zt H
 obtain ⟨B3,MB3,SB3,back⟩ := S.calln 0 ((.z 0 rfl .nil))
 refine zu (zq je) zbv (vE zdN SB3 er1) ?_
 rintro _ w2 ⟨rfl,S2⟩
 replace S:=back _ _ _ _ S2 rfl
 clear back S2 SB3
 refine wd (vm rfl rfl) (wd (zn rfl) (zb (zy ?_)))
 refine ⟨_,(zS (zg rfl)),?_⟩
 replace S:=S.arr [] []
 obtain rfl:=zbz H
 exact ⟨rfl,S⟩
theorem term_right_gst {zdX:PTerm→Option Bool} (zdN : ∀ {A:Nat→Prop} {N:Oth} {w:World} {a0:PTerm} {s_0:SlV} (S:St A N w w [] [zf s_0 a0.sub]) {r:Bool} (H:zdX a0=some r),Calls PP vU #[.agg (Term.C (⟨a0.kind,a0.name,a0.other,a0.form,s_0⟩ : Term)).toArray] w fun e w' => ∃ v,e = .returned v∧(v = .bool r∧St A N w w' [] [])) {A:Nat→Prop} {N:Oth} {w:World} {a0:PTerm} {s_0:SlV} (S:St A N w w [] [zf s_0 a0.sub]) {r:Bool} (H:zcH.g zdX a0=some r) :
  Calls PP vU #[.agg (Term.C (⟨a0.kind,a0.name,a0.other,a0.form,s_0⟩ : Term)).toArray] w fun e w' => ∃ v,e = .returned v∧(v = .bool r∧St A N w w' [] []):=by
 unfold zcH.g at H
 refine zz (n:=60) fn_term_right rfl rfl zbx (zd (za ?_))
 refine z1 rfl zbv fun b2 w1 hw1=>?_
 replace S:=S.new hw1
 refine wd (zn rfl) (zb (zd (za (wd (ze yc rfl (o':=0) rfl) (wd (zj xG rfl ((S.blk 0).cell (Term.get_kind _))) ?_)))))
 obtain ⟨r3,er3,H⟩ := zt H
 obtain ⟨B5,MB5,SB5,back⟩ := S.calln 0 ((.nil))
 refine zu (zq ca_term_shape) zbv (term_shape_st SB5 er3) ?_
 rintro _ w4 ⟨rfl,S2⟩
 replace S:=back _ _ _ _ S2 rfl
 clear back S2 SB5
 refine wd (z7 rfl) (wd (zw rfl rfl) (wd (zw rfl rfl) (wd (zw rfl rfl) (wd (zw rfl rfl) (wd (zi rfl) ?_)))))
 refine wd (zn rfl) (wd (zn rfl) (wd (zn rfl) (zb (zd (zd (za (wd (zD rfl) ?_)))))))
 refine wd (xh rfl) (wd (zD rfl) ?_)
 refine wg (fun hg=>ze xn rfl (o':=4) rfl) ?_
 refine wg (fun hg=>zj xb (zm hg) ((S.blk 0).cell (Term.get_sub _))) ?_
 refine wg (fun hg=>does_lenF zR (zm hg) (S.onZ 0)) ?_
 refine wg (fun hg=>zh rfl) ?_
 refine wg (fun hg=>xj (zm hg) (zm hg)) (wd (xq rfl (fun hp=>(zm (xk hp)))) (wd (zD rfl) ?_))
 refine wg (fun hg=>ze yw rfl (o':=1) rfl) ?_
 refine wg (fun hg=>zj xt (zm hg) ((S.blk 0).cell (Term.get_name _))) ?_
 refine wg (fun hg=>zD rfl) ?_
 obtain ⟨r6,er6,H⟩ := zt H
 refine yk (j:=9) (pol:=false) rfl rfl rfl zbv (fun hg=>zN ca_term_named (zT (zm hg) (zT (zm hg) rfl))) zbv (fun hg=>(have ⟨M,SS⟩ := S.lend ((.nil)); quiet (term_named_st SS (if_t (by simpa using hg) er6)) (fun v w' h=>⟨h.1,_,_,h.2⟩))) fun w7 hw7=>?_
 replace S:=S.ext hw7
 refine wg (fun hg=>xh (zm hg)) (wd (xq rfl (fun hp=>(zm (xk hp)))) (wd (zD rfl) ?_))
 refine wg (fun hg=>ze vg rfl (o':=2) rfl) ?_
 refine wg (fun hg=>zj xt (zm hg) ((S.blk 0).cell (Term.get_other _))) ?_
 refine wg (fun hg=>zD rfl) ?_
 obtain ⟨r8,er8,H⟩ := zt H
 refine yk (j:=16) (pol:=false) rfl rfl rfl zbv (fun hg=>zN ca_term_named (zT (zm hg) (zT (zm hg) rfl))) zbv (fun hg=>(have ⟨M,SS⟩ := S.lend ((.nil)); quiet (term_named_st SS (if_t (by simpa using hg) er8)) (fun v w' h=>⟨h.1,_,_,h.2⟩))) fun w9 hw9=>?_
 replace S:=S.ext hw9
 refine wg (fun hg=>xh (zm hg)) (wd (xq rfl (fun hp=>(zm (xk hp)))) (zb ?_))
 refine zH rfl (fun hc10=>?_) (fun hc10=>?_)
 ·replace H:=if_t hc10 H
  refine zd (za (wd (zn rfl) (zb (zy ?_))))
  refine ⟨_,(zS (zg rfl)),?_⟩
  replace S:=S.arr [] []
  obtain rfl:=zbz H
  exact ⟨rfl,S⟩
 replace H:=if_f hc10 H
 refine zA (zd (zd (za (wd (ze yc rfl (o':=0) rfl) (wd (zj xG rfl ((S.blk 0).cell (Term.get_kind _))) (wd (xj rfl rfl) (wd (zD rfl) ?_)))))))
 refine wg (fun hg=>ze yX rfl (o':=3) rfl) ?_
 refine wg (fun hg=>zj zQ (zm hg) ((S.blk 0).cell (Term.get_form _))) ?_
 refine wg (fun hg=>xj (zm hg) rfl) (wd (xc rfl (fun hp=>(zm (xk hp)))) (wd (zD rfl) ?_))
 refine wg (fun hg=>ze yX rfl (o':=3) rfl) ?_
 refine wg (fun hg=>zj zQ (zm hg) ((S.blk 0).cell (Term.get_form _))) ?_
 refine wg (fun hg=>xK (zm hg) rfl) (wd (xq rfl (fun hp=>(zm (xk hp)))) (wd (zD rfl) ?_))
 refine wg (fun hg=>ze yX rfl (o':=3) rfl) ?_
 refine wg (fun hg=>zj zQ (zm hg) ((S.blk 0).cell (Term.get_form _))) ?_
 refine wg (fun hg=>vm (zm hg) rfl) (wd (xq rfl (fun hp=>(zm (xk hp)))) (zb ?_))
 refine zH rfl (fun hc11=>?_) (fun hc11=>?_)
 ·replace H:=if_t hc11 H
  refine zd (za (wd (zn rfl) (zb (zy ?_))))
  refine ⟨_,(zS (zg rfl)),?_⟩
  replace S:=S.arr [] []
  obtain rfl:=zbz H
  exact ⟨rfl,S⟩
 replace H:=if_f hc11 H
 refine zA (zd (za (wd (ze xn rfl (o':=4) rfl) (wd (zj xb rfl ((S.blk 0).cell (Term.get_sub _))) ?_))))
 obtain ⟨r12,er12,H⟩ := zt H
 obtain ⟨B14,MB14,SB14,back⟩ := S.calln 0 ((.z 0 rfl .nil))
 refine zu (zq uF) zbv (vl zdN SB14 er12) ?_
 rintro _ w13 ⟨rfl,S2⟩
 replace S:=back _ _ _ _ S2 rfl
 clear back S2 SB14
 refine wd (xh rfl) (wd (zn rfl) (zb (zy ?_)))
 refine ⟨_,(zS (zg rfl)),?_⟩
 replace S:=S.arr [] []
 obtain rfl:=zbz H
 exact ⟨rfl,S⟩
variable {A:Nat→Prop} {N:Oth} {w:World}
theorem term_right_st {a0:PTerm} {s_0:SlV} (S:St A N w w [] [zf s_0 a0.sub]) {k:Nat} {r:Bool} (H:zcH.f k a0=some r) :
  Calls PP vU #[.agg (Term.C (⟨a0.kind,a0.name,a0.other,a0.form,s_0⟩ : Term)).toArray] w fun e w' => ∃ v,e = .returned v∧(v = .bool r∧St A N w w' [] []):=by
 have main : ∀ (k:Nat) {A:Nat→Prop} {N:Oth} {w:World} {a0:PTerm} {s_0:SlV} (S:St A N w w [] [zf s_0 a0.sub]) {r:Bool} (H:zcH.f k a0=some r),Calls PP vU #[.agg (Term.C (⟨a0.kind,a0.name,a0.other,a0.form,s_0⟩ : Term)).toArray] w fun e w' => ∃ v,e = .returned v∧(v = .bool r∧St A N w w' [] []):=by
  intro k
  induction k with
  | zero=>intro A N w a0 s_0 S r H; cases H
  | succ k ih=>intro A N w a0 s_0 S r H; exact term_right_gst ih S H
 exact main k S H
theorem term_Check_st {a0:PTerm} {s_0:SlV} (S:St A N w w [] [zf s_0 a0.sub]) {k:Nat} {r:Int} (H:zcI.f k a0=some r) :
  Calls PP F_term_Check #[.agg (Term.C (⟨a0.kind,a0.name,a0.other,a0.form,s_0⟩ : Term)).toArray] w fun e w' => ∃ v,e = .returned v∧(v = .int .i64 r∧St A N w w' [] []):=by
 unfold zcI.f at H
 refine zz (n:=16) fn_term_Check rfl rfl zbx (zd (za ?_))
 refine z1 rfl zbv fun b2 w1 hw1=>?_
 replace S:=S.new hw1
 refine wd (zi rfl) (zb (zd ?_))
 refine zO (zd (za (wd (zp zE rfl ((S.blk 0).all _ (Term.len _)) (Term.len _)) ?_)))
 obtain ⟨r3,er3,H⟩ := zt H
 obtain ⟨B5,MB5,SB5,back⟩ := S.calln 0 ((.z 0 rfl .nil))
 refine zu (zq ca_term_Size) zbv (term_Size_st (a0:=a0) SB5 er3) ?_
 rintro _ w4 ⟨rfl,S2⟩
 replace S:=back _ _ _ _ S2 rfl
 clear back S2 SB5
 refine wd (uM rfl rfl) (wd (zD rfl) ?_)
 refine wg (fun hg=>zp zE rfl ((S.blk 0).all _ (Term.len _)) (Term.len _)) ?_
 obtain ⟨r6,er6,H⟩ := zt H
 refine yk (j:=3) (pol:=false) rfl rfl rfl zbv (fun hg=>zN ca_term_Deep (zT (zm hg) rfl)) zbv (fun hg=>(have ⟨M,SS⟩ := S.lend ((.z 0 rfl .nil)); quiet (term_Deep_st (a0:=a0) SS (if_t (by simpa using hg) er6)) (fun v w' h=>⟨h.1,_,_,h.2⟩))) fun w7 hw7=>?_
 replace S:=S.ext hw7
 refine wg (fun hg=>uM (zm hg) rfl) (wd (xq rfl (fun hp=>(zm (xk hp)))) (wd (zn rfl) (zb ?_)))
 refine zH rfl (fun hc8=>?_) (fun hc8=>?_)
 ·replace H:=if_t hc8 H
  refine zd (za (wd (zi rfl) (zb (zy ?_))))
  refine ⟨_,(zS (zg rfl)),?_⟩
  replace S:=S.arr [] []
  obtain rfl:=zbz H
  exact ⟨rfl,S⟩
 replace H:=if_f hc8 H
 refine zd (za (wd (zp zE rfl ((S.blk 0).all _ (Term.len _)) (Term.len _)) ?_))
 obtain ⟨r9,er9,H⟩ := zt H
 obtain ⟨B11,MB11,SB11,back⟩ := S.calln 0 ((.z 0 rfl .nil))
 refine zu (zq ca_term_right) zbv (term_right_st (a0:=a0) SB11 er9) ?_
 rintro _ w10 ⟨rfl,S2⟩
 replace S:=back _ _ _ _ S2 rfl
 clear back S2 SB11
 refine wd (xh rfl) (wd (zn rfl) (zb ?_))
 refine zH rfl (fun hc12=>?_) (fun hc12=>?_)
 ·replace H:=if_t hc12 H
  refine zd (za (wd (zi rfl) (zb (zy ?_))))
  refine ⟨_,(zS (zg rfl)),?_⟩
  replace S:=S.arr [] []
  obtain rfl:=zbz H
  exact ⟨rfl,S⟩
 replace H:=if_f hc12 H
 refine zA (zd (za (wd (zi rfl) (zb (zy ?_)))))
 refine ⟨_,(zS (zg rfl)),?_⟩
 replace S:=S.arr [] []
 obtain rfl:=zbz H
 exact ⟨rfl,S⟩
theorem ref12_right_gst {zdU:PTerm→Option Bool} (zdK : ∀ {A:Nat→Prop} {N:Oth} {w:World} {a0:PTerm} {s_0:SlV} (S:St A N w w [] [zf s_0 a0.sub]) {r:Bool} (H:zdU a0=some r),Calls PP jw #[.agg (Term.C (⟨a0.kind,a0.name,a0.other,a0.form,s_0⟩ : Term)).toArray] w fun e w' => ∃ v,e = .returned v∧(v = .bool r∧St A N w w' [] [])) {A:Nat→Prop} {N:Oth} {w:World} {a0:PTerm} {s_0:SlV} (S:St A N w w [] [zf s_0 a0.sub]) {k:Nat} {r:Bool} (H:zcJ.g zdU k a0=some r) :
  Calls PP jw #[.agg (Term.C (⟨a0.kind,a0.name,a0.other,a0.form,s_0⟩ : Term)).toArray] w fun e w' => ∃ v,e = .returned v∧(v = .bool r∧St A N w w' [] []):=by
 unfold zcJ.g at H
 refine zz (n:=102) fn_ref12_right rfl rfl zbx (zd (za ?_))
 refine z1 rfl zbv fun b2 w1 hw1=>?_
 replace S:=S.new hw1
 refine wd (zn rfl) (zb (zd (zd ?_)))
 refine xU 6 (Ext w1) hmix zby zby (Ext.drawn _) (zx (fun v K=>ze yc rfl (o':=0) rfl) (zx (fun v K=>zj xG rfl (((S.ext K).blk 0).cell (Term.get_kind _))) ?_))
 obtain ⟨r3,er3,H⟩ := zt H
 refine wq_call (fun v=>zq ca_ref12_parts) (fun v K=>(have ⟨M,SS⟩ := (S.ext K).lend ((.nil)); quiet (ref12_parts_st SS er3) (fun v w' h=>⟨h.1,_,_,h.2⟩))) (fun v v' K h=>K.thenExt h) (zx (fun v K=>ze xn rfl (o':=4) rfl) (zx (fun v K=>zj xb rfl (((S.ext K).blk 0).cell (Term.get_sub _))) (zx (fun v K=>does_lenF zR rfl ((S.ext K).onZ 0)) ?_)))
 refine yV fun w4 K=>?_
 replace S:=S.ext K
 clear K
 refine wd (xj rfl rfl) (zb ?_)
 refine zH rfl (fun hc5=>?_) (fun hc5=>?_)
 ·replace H:=if_t hc5 H
  refine zd (za (wd (zn rfl) (zb (zy ?_))))
  refine ⟨_,(zS (zg rfl)),?_⟩
  replace S:=S.arr [] []
  obtain rfl:=zbz H
  exact ⟨rfl,S⟩
 replace H:=if_f hc5 H
 refine zA (zd (za (wd (ze yc rfl (o':=0) rfl) (wd (zj xG rfl ((S.blk 0).cell (Term.get_kind _))) (wd (zL rfl rfl) (wd (zD rfl) ?_))))))
 refine wg (fun hg=>ze yc rfl (o':=0) rfl) ?_
 refine wg (fun hg=>zj xG (zm hg) ((S.blk 0).cell (Term.get_kind _))) ?_
 refine wg (fun hg=>zL (zm hg) rfl) (wd (xq rfl (fun hp=>(zm (xk hp)))) (wd (zD rfl) ?_))
 refine wg (fun hg=>ze yc rfl (o':=0) rfl) ?_
 refine wg (fun hg=>zj xG (zm hg) ((S.blk 0).cell (Term.get_kind _))) ?_
 refine wg (fun hg=>zL (zm hg) rfl) (wd (xq rfl (fun hp=>(zm (xk hp)))) (wd (zD rfl) ?_))
 refine wg (fun hg=>ze yc rfl (o':=0) rfl) ?_
 refine wg (fun hg=>zj xG (zm hg) ((S.blk 0).cell (Term.get_kind _))) ?_
 refine wg (fun hg=>zL (zm hg) rfl) (wd (xq rfl (fun hp=>(zm (xk hp)))) (wd (zn rfl) (zb (zd (zd (za (wd (zD rfl) ?_)))))))
 refine wd (zD rfl) ?_
 refine wg (fun hg=>ze yw rfl (o':=1) rfl) ?_
 refine wg (fun hg=>zj xt (zm hg) ((S.blk 0).cell (Term.get_name _))) ?_
 obtain ⟨r6,er6,H⟩ := zt H
 refine yk (j:=1) (pol:=true) rfl rfl rfl zbv (fun hg=>zN zba (zT (zm hg) rfl)) zbv (fun hg=>(have ⟨M,SS⟩ := S.lend ((.nil)); quiet (zbi SS (if_t (by simpa using hg) er6)) (fun v w' h=>⟨h.1,_,_,h.2⟩))) fun w7 hw7=>?_
 replace S:=S.ext hw7
 refine wg (fun hg=>xh (zm hg)) (wd (xc rfl (fun hp=>(zm (xk hp)))) (wd (zD rfl) ?_))
 refine wg (fun hg=>zD rfl) ?_
 refine wg (fun hg=>xh (zm hg)) ?_
 refine wg (fun hg=>zD (zm hg)) (xD (j:=10) (pol:=true) rfl rfl rfl zbv (fun hg=>ze yw rfl (o':=1) rfl) zbv (xD (j:=10) (pol:=true) rfl rfl rfl zbv (fun hg=>zj xt (zm hg) ((S.blk 0).cell (Term.get_name _))) zbv (xD (j:=10) (pol:=true) rfl rfl rfl zbv (fun hg=>jz (zm hg) rfl) zbv ?_)))
 refine wg (fun hg=>xc (zm hg) (fun hp=>(zm (and_b hg hp)))) (wd (xq rfl (fun hp=>(zm (xk hp)))) (zb ?_))
 refine zH rfl (fun hc8=>?_) (fun hc8=>?_)
 ·replace H:=if_t hc8 H
  refine zd (za (wd (zn rfl) (zb (zy ?_))))
  refine ⟨_,(zS (zg rfl)),?_⟩
  replace S:=S.arr [] []
  obtain rfl:=zbz H
  exact ⟨rfl,S⟩
 replace H:=if_f hc8 H
 refine zA (zd (zd (za (wd (ze yc rfl (o':=0) rfl) (wd (zj xG rfl ((S.blk 0).cell (Term.get_kind _))) (wd (zL rfl rfl) (wd (zD rfl) ?_)))))))
 refine wg (fun hg=>ze vg rfl (o':=2) rfl) ?_
 refine wg (fun hg=>zj xt (zm hg) ((S.blk 0).cell (Term.get_other _))) ?_
 obtain ⟨r9,er9,H⟩ := zt H
 refine yk (j:=3) (pol:=true) rfl rfl rfl zbv (fun hg=>zN zba (zT (zm hg) rfl)) zbv (fun hg=>(have ⟨M,SS⟩ := S.lend ((.nil)); quiet (zbi SS (if_t (by simpa using hg) er9)) (fun v w' h=>⟨h.1,_,_,h.2⟩))) fun w10 hw10=>?_
 replace S:=S.ext hw10
 refine wg (fun hg=>xh (zm hg)) (wd (xc rfl (fun hp=>(zm (xk hp)))) (wd (zD rfl) ?_))
 refine wg (fun hg=>ze yc rfl (o':=0) rfl) ?_
 refine wg (fun hg=>zj xG (zm hg) ((S.blk 0).cell (Term.get_kind _))) ?_
 refine wg (fun hg=>xj (zm hg) rfl) ?_
 refine wg (fun hg=>zD (zm hg)) (xD (j:=13) (pol:=true) rfl rfl rfl zbv (fun hg=>ze vg rfl (o':=2) rfl) zbv (xD (j:=13) (pol:=true) rfl rfl rfl zbv (fun hg=>zj xt (zm hg) ((S.blk 0).cell (Term.get_other _))) zbv (xD (j:=13) (pol:=true) rfl rfl rfl zbv (fun hg=>jz (zm hg) rfl) zbv ?_)))
 refine wg (fun hg=>xc (zm hg) (fun hp=>(zm (and_b hg hp)))) (wd (xq rfl (fun hp=>(zm (xk hp)))) (zb ?_))
 refine zH rfl (fun hc11=>?_) (fun hc11=>?_)
 ·replace H:=if_t hc11 H
  refine zd (za (wd (zn rfl) (zb (zy ?_))))
  refine ⟨_,(zS (zg rfl)),?_⟩
  replace S:=S.arr [] []
  obtain rfl:=zbz H
  exact ⟨rfl,S⟩
 replace H:=if_f hc11 H
 refine zA (zd (zd (za (wd (ze yc rfl (o':=0) rfl) (wd (zj xG rfl ((S.blk 0).cell (Term.get_kind _))) (wd (zL rfl rfl) (wd (zD rfl) ?_)))))))
 refine wg (fun hg=>ze yX rfl (o':=3) rfl) ?_
 refine wg (fun hg=>zj zQ (zm hg) ((S.blk 0).cell (Term.get_form _))) ?_
 refine wg (fun hg=>xK (zm hg) rfl) ?_
 refine wg (fun hg=>zD (zm hg)) (xD (j:=7) (pol:=false) rfl rfl rfl zbv (fun hg=>ze yX rfl (o':=3) rfl) zbv (xD (j:=7) (pol:=false) rfl rfl rfl zbv (fun hg=>zj zQ (zm hg) ((S.blk 0).cell (Term.get_form _))) zbv (xD (j:=7) (pol:=false) rfl rfl rfl zbv (fun hg=>vm (zm hg) rfl) zbv ?_)))
 refine wg (fun hg=>xq (zm hg) (fun hp=>(zm (and_b hg hp)))) (wd (xc rfl (fun hp=>(zm (xk hp)))) (wd (zD rfl) ?_))
 refine wg (fun hg=>ze yc rfl (o':=0) rfl) ?_
 refine wg (fun hg=>zj xG (zm hg) ((S.blk 0).cell (Term.get_kind _))) ?_
 refine wg (fun hg=>xj (zm hg) rfl) ?_
 refine wg (fun hg=>zD (zm hg)) (xD (j:=17) (pol:=true) rfl rfl rfl zbv (fun hg=>ze yX rfl (o':=3) rfl) zbv (xD (j:=17) (pol:=true) rfl rfl rfl zbv (fun hg=>zj zQ (zm hg) ((S.blk 0).cell (Term.get_form _))) zbv (xD (j:=17) (pol:=true) rfl rfl rfl zbv (fun hg=>xj (zm hg) rfl) zbv ?_)))
 refine wg (fun hg=>xc (zm hg) (fun hp=>(zm (and_b hg hp)))) (wd (xq rfl (fun hp=>(zm (xk hp)))) (zb ?_))
 refine zH rfl (fun hc12=>?_) (fun hc12=>?_)
 ·replace H:=if_t hc12 H
  refine zd (za (wd (zn rfl) (zb (zy ?_))))
  refine ⟨_,(zS (zg rfl)),?_⟩
  replace S:=S.arr [] []
  obtain rfl:=zbz H
  exact ⟨rfl,S⟩
 replace H:=if_f hc12 H
 refine zA (zd (zd (za (wd (zi rfl) (zb ?_)))))
 obtain ⟨o13,e13,Ho13⟩ := zt H
 clear H
 refine xO [2,4,88,89,90,91,92,93,94,95,96,97,98,99,100,101] (fun fr W => ∃ s13:Int,o13 = .inl s13∧fr 4 = .int .i64 s13∧St A N w W [oB b2 zk (Term.C (⟨a0.kind,a0.name,a0.other,a0.form,s_0⟩ : Term))] [zf s_0 a0.sub]) ?_ ?_
 ·refine zO ?_
  refine xN (α:=Nat × Int) [2,4,88,89,90,91,92,93,94,95,96,97,98,99,100,101] (fun x fr W=>iter (fun s=>zcJ.b0 a0 zdU s) x.1 x.2=some o13∧fr 4 = .int .i64 (x.2)∧St A N w W [oB b2 zk (Term.C (⟨a0.kind,a0.name,a0.other,a0.form,s_0⟩ : Term))] [zf s_0 a0.sub]) (fun x=>x.1) (k,0) ⟨(by dsimp only; exact e13),rfl,S⟩ ?_
  rintro ⟨m13,x13_0⟩ g13 u13 ⟨e13,q13_4,S⟩
  try dsimp only at e13
  try dsimp only at S
  try dsimp only at q13_4
  obtain ⟨m13,rfl⟩ : ∃ m,m13=m + 1:=⟨m13 - 1,by cases m13 with | zero=>cases e13 | succ m=>rfl⟩
  obtain ⟨q13,H,e13⟩ := iter_s e13
  unfold zcJ.b0 at H
  try dsimp only at H
  refine zd (zd (za (wd (zh q13_4) (wd (ze xn rfl (o':=4) rfl) (wd (zj xb rfl ((S.blk 0).cell (Term.get_sub _))) (wd (does_lenF zR rfl (S.onZ 0)) (wd (xK rfl rfl) (zb ?_))))))))
  refine zH rfl (fun hc14=>?_) (fun hc14=>?_)
  rotate_left
  ·replace H:=if_f hc14 H
   refine xZ ?_
   obtain rfl:=zbz H
   exact ⟨rfl,((((((Dif.self _ _ _).upd rfl _).upd rfl _).upd rfl _).upd rfl _).upd rfl _),x13_0,e13,q13_4,S⟩
  replace H:=if_t hc14 H
  refine zA (zd ?_)
  refine zO (zd (za (wd (ze xn rfl (o':=4) rfl) (wd (zj xb rfl ((S.blk 0).cell (Term.get_sub _))) (wd (zh q13_4) ?_)))))
  obtain ⟨hi15,H⟩ := xm H
  refine wd (does_indexF zR rfl rfl (S.onZ 0) (zI hi15).1 (zI hi15).2) ?_
  obtain ⟨s16,hc17,S⟩ := S.viewTerm 0 (zI hi15)
  replace S:=S
  refine wd (zp zE rfl hc17 (Term.len _)) ?_
  obtain ⟨r18,er18,H⟩ := zt H
  obtain ⟨B20,MB20,SB20,back⟩ := S.calln 0 ((.z 0 rfl .nil))
  refine zu (zq ca_ref12_right) zbv (zdK (a0:=(at_ PTerm.z a0.sub x13_0)) SB20 er18) ?_
  rintro _ w19 ⟨rfl,S2⟩
  replace S:=back _ _ _ _ S2 rfl
  clear back S2 SB20
  refine wd (xh rfl) (zb ?_)
  refine zH rfl (fun hc21=>?_) (fun hc21=>?_)
  ·replace H:=if_t hc21 H
   refine zd (za (wd (zn rfl) (zb (zy ?_))))
   refine ⟨_,(zS (zg rfl)),?_⟩
   replace S:=S.arr [] []
   obtain rfl:=zbz H
   obtain rfl:=e13
   obtain rfl:=un Ho13
   exact ⟨rfl,S⟩
  replace H:=if_f hc21 H
  refine zA (za (wd (zh q13_4) (wd (uf rfl rfl) (wd (zi rfl) (zb ?_)))))
  replace S:=S.arr [0] [1]
  obtain rfl:=zbz H
  exact ⟨rfl,((((((((((((((((Dif.self _ _ _).upd rfl _).upd rfl _).upd rfl _).upd rfl _).upd rfl _).upd rfl _).upd rfl _).upd rfl _).upd rfl _).upd rfl _).upd rfl _).upd rfl _).upd rfl _).upd rfl _).upd rfl _),(m13,IntKind.i64.wrap (x13_0 + 1)),⟨e13,rfl,S⟩,by dsimp only; omega⟩
 rintro g22 u23 ⟨s13,rfl,p13_4,S⟩
 have H:=Ho13
 dsimp only [aft] at H
 refine zd (za (wd (zn rfl) (zb (zy ?_))))
 refine ⟨_,(zS (zg rfl)),?_⟩
 replace S:=S.arr [] []
 obtain rfl:=zbz H
 exact ⟨rfl,S⟩
theorem ref12_right_st {a0:PTerm} {s_0:SlV} (S:St A N w w [] [zf s_0 a0.sub]) {k:Nat} {r:Bool} (H:zcJ.f k a0=some r) :
  Calls PP jw #[.agg (Term.C (⟨a0.kind,a0.name,a0.other,a0.form,s_0⟩ : Term)).toArray] w fun e w' => ∃ v,e = .returned v∧(v = .bool r∧St A N w w' [] []):=by
 have main : ∀ (k:Nat) {A:Nat→Prop} {N:Oth} {w:World} {a0:PTerm} {s_0:SlV} (S:St A N w w [] [zf s_0 a0.sub]) {r:Bool} (H:zcJ.f k a0=some r),Calls PP jw #[.agg (Term.C (⟨a0.kind,a0.name,a0.other,a0.form,s_0⟩ : Term)).toArray] w fun e w' => ∃ v,e = .returned v∧(v = .bool r∧St A N w w' [] []):=by
  intro k
  induction k with
  | zero=>intro A N w a0 s_0 S r H; cases H
  | succ k ih=>intro A N w a0 s_0 S r H; exact ref12_right_gst ih S H
 exact main k S H
theorem ref12_Check_st {a0:PTerm} {s_0:SlV} (S:St A N w w [] [zf s_0 a0.sub]) {k:Nat} {r:Int} (H:zcK.f k a0=some r) :
  Calls PP F_ref12_Check #[.agg (Term.C (⟨a0.kind,a0.name,a0.other,a0.form,s_0⟩ : Term)).toArray] w fun e w' => ∃ v,e = .returned v∧(v = .int .i64 r∧St A N w w' [] []):=by
 unfold zcK.f at H
 refine zz (n:=14) fn_ref12_Check rfl rfl zbx (zd (za ?_))
 refine z1 rfl zbv fun b2 w1 hw1=>?_
 replace S:=S.new hw1
 refine wd (zi rfl) (zb (zd (zd (za (wd (zp zE rfl ((S.blk 0).all _ (Term.len _)) (Term.len _)) ?_)))))
 obtain ⟨r3,er3,H⟩ := zt H
 obtain ⟨B5,MB5,SB5,back⟩ := S.calln 0 ((.z 0 rfl .nil))
 refine zu (zq ca_ref12_Size) zbv (ref12_Size_st (a0:=a0) SB5 er3) ?_
 rintro _ w4 ⟨rfl,S2⟩
 replace S:=back _ _ _ _ S2 rfl
 clear back S2 SB5
 refine wd (uM rfl rfl) (wd (zD rfl) ?_)
 refine wg (fun hg=>zp zE rfl ((S.blk 0).all _ (Term.len _)) (Term.len _)) ?_
 obtain ⟨r6,er6,H⟩ := zt H
 refine yk (j:=3) (pol:=false) rfl rfl rfl zbv (fun hg=>zN ca_ref12_Deep (zT (zm hg) rfl)) zbv (fun hg=>(have ⟨M,SS⟩ := S.lend ((.z 0 rfl .nil)); quiet (ref12_Deep_st (a0:=a0) SS (if_t (by simpa using hg) er6)) (fun v w' h=>⟨h.1,_,_,h.2⟩))) fun w7 hw7=>?_
 replace S:=S.ext hw7
 refine wg (fun hg=>uM (zm hg) rfl) (wd (xq rfl (fun hp=>(zm (xk hp)))) (zb ?_))
 refine zH rfl (fun hc8=>?_) (fun hc8=>?_)
 ·replace H:=if_t hc8 H
  refine zd (za (wd (zi rfl) (zb (zy ?_))))
  refine ⟨_,(zS (zg rfl)),?_⟩
  replace S:=S.arr [] []
  obtain rfl:=zbz H
  exact ⟨rfl,S⟩
 replace H:=if_f hc8 H
 refine zA (zd (zd (za (wd (zp zE rfl ((S.blk 0).all _ (Term.len _)) (Term.len _)) ?_))))
 obtain ⟨r9,er9,H⟩ := zt H
 obtain ⟨B11,MB11,SB11,back⟩ := S.calln 0 ((.z 0 rfl .nil))
 refine zu (zq ca_ref12_right) zbv (ref12_right_st (a0:=a0) SB11 er9) ?_
 rintro _ w10 ⟨rfl,S2⟩
 replace S:=back _ _ _ _ S2 rfl
 clear back S2 SB11
 refine wd (xh rfl) (zb ?_)
 refine zH rfl (fun hc12=>?_) (fun hc12=>?_)
 ·replace H:=if_t hc12 H
  refine zd (za (wd (zi rfl) (zb (zy ?_))))
  refine ⟨_,(zS (zg rfl)),?_⟩
  replace S:=S.arr [] []
  obtain rfl:=zbz H
  exact ⟨rfl,S⟩
 replace H:=if_f hc12 H
 refine zA (zd (za (wd (zi rfl) (zb (zy ?_)))))
 refine ⟨_,(zS (zg rfl)),?_⟩
 replace S:=S.arr [] []
 obtain rfl:=zbz H
 exact ⟨rfl,S⟩
end
end Go.Proofs.YtflieamjacclnaaGreatDoor
