/- Texts put together. -/
import Derived.Test.YtflieamjacclnaaGreatDoorMHH1
import Derived.WalkKit
import Derived.LaidEql
import Derived.Stop.Asserts
import Derived.RowKitTokens
import Derived.WideLaws
set_option linter.unusedVariables false
set_option linter.unusedSimpArgs false
namespace Go.Proofs.YtflieamjacclnaaGreatDoor
section
open Gw Go.RowKit
def impN (a b:Int):Nd:=⟨5,⟨#[]⟩,a,b⟩
theorem empty_small:(⟨#[]⟩ : ByteArray).size < 9223372036854775808:=by decide
theorem put_len {N:List Nd} {n:Nd} (h:N.length ≤ 1024):(putS N n).1.length ≤ 1024:=by
 unfold putS
 split
 ·split
  ·exact h
  ·split
   ·exact h
   ·simp; omega
 ·exact h
theorem formula_Table_Imp_ok (w:World) (a b:Int) {p:Nat} {N:List Nd} {A:Nat→Prop} (T:TabAt w p N A) (hN:N.length ≤ 1024):Calls PP jp #[.pointer (some ⟨p,0,none⟩),.int .i64 a,.int .i64 b] w fun e w' => ∃ v,e = .returned v∧(∃ A',v = .tuple #[.int .i64 (putS N (impN a b)).2.1,.int .i64 (putS N (impN a b)).2.2]∧TabAt w' p (putS N (impN a b)).1 A'∧Chg A w w'∧(∀ i,A' i→A i∨w.heap.size ≤ i)):=by
 have n_T : ∀ i,A i→A i∨w.heap.size ≤ i:=fun i e => .inl e
 refine zz (n:=15) fn_formula_Table_Imp rfl rfl zcc ?_
 have E:=Ext.refl w
 refine zd ?_
 refine za ?_
 refine zi (zh rfl) zca ?_
 refine zi (zh rfl) zca ?_
 refine zb ?_
 refine zd ?_
 refine za ?_
 refine zi (zk rfl) zca ?_
 refine zi (zg rfl) zca ?_
 refine zi (zg rfl) zca ?_
 refine zi (yi bu_Nd (Bld.one rfl rfl (by rw [Nd.len]; decide) (Nd.set_kind _ _) (Bld.one rfl rfl (by rw [Nd.len]; decide) (Nd.set_l _ _) (Bld.one rfl rfl (by rw [Nd.len]; decide) (Nd.set_r _ _) Bld.nil)))) zca ?_
 refine zu (zq vQ) zca (zap _ (impN a b) T empty_small hN) ?_
 rintro _ w1 ⟨A1,rfl,T2,h1,g1⟩
 have n2 : ∀ i,A1 i→A i∨w.heap.size ≤ i:=fun i e=>(g1 _ e).elim (n_T i) (fun e => .inr (by have:=E.size; omega))
 replace E:Chg A w w:=E.mono (fun _ _ x=>x.elim)
 replace E:=E.thenChg h1 (fun i hi e=>(n_T i e).elim id (fun q=>absurd hi zcb))
 replace T:=T2; replace n_T:=n2; clear T2 n2
 refine zi (zt rfl rfl) zca ?_
 refine zi (zt rfl rfl) zca ?_
 refine zi (zh rfl) zca ?_
 refine zi (zh rfl) zca ?_
 refine zb ?_
 refine zx ?_
 exact ⟨_,(xn (zf rfl) (zf rfl)),A1,rfl,T,E,n_T⟩
end
section
open Gw Go.RowKit
theorem zbT (w:World):Calls PP vb #[.pointer none] w fun e w' => ∃ v,e = .returned v∧(v = .bool false∧Ext w w'):=by
 refine zz (n:=12) uy rfl rfl zcc ?_
 have E:=Ext.refl w
 refine zd ?_
 refine za ?_
 refine zi (zo rfl) zca ?_
 refine zb ?_
 refine zd ?_
 refine za ?_
 refine zi (zk rfl) zca ?_
 refine zi (does_nep0 vO rfl rfl) zca ?_
 refine zi (zL rfl) zca ?_
 refine zH (j:=2) (pol:=true) rfl rfl rfl zca (fun hg=>zk rfl) zca ?_
 refine zH (j:=2) (pol:=true) rfl rfl rfl zca (fun hg=>absurd hg zca) zca ?_ (v := .bool false)
 refine zH (j:=2) (pol:=true) rfl rfl rfl zca (fun hg=>absurd hg zca) zca ?_ (v := .bool false)
 refine zH (j:=2) (pol:=true) rfl rfl rfl zca (fun hg=>absurd hg zca) zca ?_ (v := .bool false)
 refine zH (j:=2) (pol:=true) rfl rfl rfl zca (fun hg=>absurd hg zca) zca ?_ (v := .bool false)
 refine zi (xt (x:=false) rfl (fun hp=>absurd hp zca)) zca ?_
 refine zi (zo rfl) zca ?_
 refine zb ?_
 refine zx ?_
 exact ⟨_,(zS (zf rfl)),rfl,E⟩
theorem zbH (w:World) {p:Nat} (Bp:Blk w p vF (Tab.C Tab.z)):Calls PP vb #[.pointer (some ⟨p,0,none⟩)] w fun e w' => ∃ v,e = .returned v∧(v = .bool false∧Ext w w'):=by
 refine zz (n:=12) uy rfl rfl zcc ?_
 have E:=Ext.refl w
 refine zd ?_
 refine za ?_
 refine zi (zo rfl) zca ?_
 refine zb ?_
 refine zd ?_
 refine za ?_
 refine zi (zk rfl) zca ?_
 refine zi (does_nep0 vO rfl rfl) zca ?_
 refine zi (zL rfl) zca ?_
 refine zH (j:=2) (pol:=true) rfl rfl rfl zca (fun hg=>zk rfl) zca ?_
 refine zH (j:=2) (pol:=true) rfl rfl rfl zca (fun hg=>zC (zw hg)) zca ?_
 refine zH (j:=2) (pol:=true) rfl rfl rfl zca (fun hg=>ze kK (zw hg) (o':=1) rfl) zca ?_
 refine zH (j:=2) (pol:=true) rfl rfl rfl zca (fun hg=>zl vo (zw hg) (Bp.cell (Tab.get_at_ _))) zca ?_
 refine zH (j:=2) (pol:=true) rfl rfl rfl zca (fun hg=>does_nem0 vp (zw hg) rfl) zca ?_
 refine zi (xt rfl (fun hp=>(zw (xE hp)))) zca ?_
 refine zi (zo rfl) zca ?_
 refine zb ?_
 refine zx ?_
 exact ⟨_,(zS (zf rfl)),rfl,E⟩
def Dead (w:World) (a:Option Addr):Prop:=a=none ∨ ∃ p,a=some ⟨p,0,none⟩ ∧ Blk w p vF (Tab.C Tab.z)
theorem vY (w:World) {a:Option Addr} (D:Dead w a):Calls PP vb #[.pointer a] w fun e w' => ∃ v,e = .returned v∧(v = .bool false∧Ext w w'):=by
 rcases D with rfl | ⟨p,rfl,B⟩
 ·exact zbT w
 ·exact zbH w B
theorem formula_Table_Not_dead (w:World) {a:Option Addr} (i:Int) (D:Dead w a):Calls PP ub #[.pointer a,.int .i64 i] w fun e w' => ∃ v,e = .returned v∧(v = .tuple #[.int .i64 0,.int .i64 1]∧Ext w w'):=by
 refine zz (n:=31) zao rfl rfl zcc ?_
 have E:=Ext.refl w
 refine zd ?_
 refine za ?_
 refine zi (zh rfl) zca ?_
 refine zi (zh rfl) zca ?_
 refine zb ?_
 refine zd ?_
 refine zP ?_
 refine zd ?_
 refine za ?_
 refine zi (zk rfl) zca ?_
 refine zu (zq xH) zca (vY _ D) ?_
 rintro _ w1 ⟨rfl,h1⟩
 replace E:=E.thenExt h1
 refine zi (xk rfl) zca ?_
 refine zi (zo rfl) zca ?_
 refine zb ?_
 refine wc_true rfl ?_
 refine zd ?_
 refine za ?_
 refine zi (zh rfl) zca ?_
 refine zi (zh rfl) zca ?_
 refine zb ?_
 refine zx ?_
 exact ⟨_,(xn (zf rfl) (zf rfl)),rfl,E⟩
theorem zbF (w:World) {p:Nat} {N:List Nd} {A:Nat→Prop} (T:TabAt w p N A):Calls PP ub #[.pointer (some ⟨p,0,none⟩),.int .i64 (-1)] w fun e w' => ∃ v,e = .returned v∧(v = .tuple #[.int .i64 0,.int .i64 31]∧Ext w w'):=by
 refine zz (n:=31) zao rfl rfl zcc ?_
 have E:=Ext.refl w
 refine zd ?_
 refine za ?_
 refine zi (zh rfl) zca ?_
 refine zi (zh rfl) zca ?_
 refine zb ?_
 refine zd ?_
 refine zP ?_
 refine zd ?_
 refine za ?_
 refine zi (zk rfl) zca ?_
 refine zu (zq xH) zca (yE _ T) ?_
 rintro _ w1 ⟨rfl,h1⟩
 replace T:=T.ext h1
 replace E:=E.thenExt h1
 refine zi (xk rfl) zca ?_
 refine zi (zo rfl) zca ?_
 refine zb ?_
 refine zat rfl ?_
 refine zd ?_
 refine za ?_
 refine zi (zk rfl) zca ?_
 refine zi (zg rfl) zca ?_
 refine zu (zq yf) zca (yg _ _ T) ?_
 rintro _ w2 ⟨rfl,h2⟩
 replace T:=T.ext h2
 replace E:=E.thenExt h2
 refine zi (xk rfl) zca ?_
 refine zi (zo rfl) zca ?_
 refine zb ?_
 refine wc_true (c:=_) (congrArg Value.bool (show (!vj N (-1))=true by simp [vj])) ?_
 refine zd ?_
 refine za ?_
 refine zi (zh rfl) zca ?_
 refine zi (zh rfl) zca ?_
 refine zb ?_
 refine zx ?_
 exact ⟨_,(xn (zf rfl) (zf rfl)),rfl,E⟩
end
section
open Go.RowKit
namespace Gw
structure OA where
 holds:World→(Nat→Prop)→Prop
 loc : ∀ {S:Nat→Prop} {w w':World} {F:Nat→Prop},holds w F→Chg S w w'→(∀ i,F i→¬ S i)→holds w' F
 lt : ∀ {w:World} {F:Nat→Prop},holds w F → ∀ i,F i→i < w.heap.size
def Sep (w:World):(Nat→Prop)→List OA→Prop
 | _,[]=>True
 | U,a :: L => ∃ F,a.holds w F∧(∀ i,F i→U i)∧Sep w (fun i=>U i∧¬ F i) L
theorem Sep.mono {w:World} : ∀ {L:List OA} {U V:Nat→Prop},Sep w U L→(∀ i,U i→V i)→Sep w V L
 | [],_,_,_,_=>trivial
 | _ :: _,_,_,⟨F,h,hF,hL⟩,hv=>⟨F,h,fun i hi=>hv i (hF i hi),hL.mono fun i hi=>⟨hv i hi.1,hi.2⟩⟩
theorem Sep.chg {S:Nat→Prop} {w w':World} (hc:Chg S w w') : ∀ {L:List OA} {U:Nat→Prop},Sep w U L→(∀ i,U i→¬ S i)→Sep w' U L
 | [],_,_,_=>trivial
 | a :: _,_,⟨F,h,hF,hL⟩,hs=>⟨F,a.loc h hc (fun i hi=>hs i (hF i hi)),hF,Sep.chg hc hL fun i hi=>hs i hi.1⟩
theorem Sep.front {w:World} : ∀ {L:List OA} {U:Nat→Prop} (k:Nat) {a:OA},Sep w U L→L[k]? = some a→Sep w U (a :: L.eraseIdx k)
 | [],_,_,_,_,h=>by simp at h
 | _ :: _,_,0,_,h,e=>by simp at e; subst e; simpa using h
 | b :: L,U,k + 1,a,⟨F,h,hF,hL⟩,e=>by
  obtain ⟨G,g,hG,hR⟩ := hL.front k (by simpa using e)
  refine ⟨G,g,fun i hi=>(hG i hi).1,F,h,fun i hi=>⟨hF i hi,fun hg=>(hG i hg).2 hi⟩,?_⟩
  exact hR.mono fun i hi=>⟨⟨hi.1.1,hi.2⟩,hi.1.2⟩
theorem Sep.split {w:World} : ∀ {P R:List OA} {U:Nat→Prop},Sep w U (P ++ R) → ∃ A,(∀ i,A i→U i∧i < w.heap.size)∧Sep w A P∧Sep w (fun i=>U i∧¬ A i) R
 | [],_,_,h=>⟨fun _=>False,fun _ x=>x.elim,trivial,h.mono fun i hi=>⟨hi,fun x=>x⟩⟩
 | a :: P,R,U,⟨F,h,hF,hL⟩ => by
  obtain ⟨A,hA,hP,hR⟩ := Sep.split (P:=P) (R:=R) hL
  refine ⟨fun i=>F i∨A i,fun i hi=>hi.elim (fun hi=>⟨hF i hi,a.lt h i hi⟩) (fun hi=>⟨(hA i hi).1.1,(hA i hi).2⟩),⟨F,h,fun i hi => .inl hi,hP.mono fun i hi=>⟨.inr hi,(hA i hi).1.2⟩⟩,?_⟩
  exact hR.mono fun i hi=>⟨hi.1.1,fun h=>h.elim hi.1.2 hi.2⟩
theorem Sep.join {w:World} : ∀ {P R:List OA} {A B U:Nat→Prop},Sep w A P→Sep w B R→(∀ i,A i→U i)→(∀ i,B i→U i)→(∀ i,A i→¬ B i)→Sep w U (P ++ R)
 | [],_,_,_,_,_,h,_,hB,_=>h.mono hB
 | _ :: _,_,_,_,_,⟨F,h,hF,hL⟩,hR,hA,hB,hd=>⟨F,h,fun i hi=>hA i (hF i hi),Sep.join hL hR (fun i hi=>⟨hA i hi.1,hi.2⟩) (fun i hi=>⟨hB i hi,fun hf=>hd i (hF i hf) hi⟩) (fun i hi=>hd i hi.1)⟩
def Frz (w:World) (X:Nat→Prop) (Z:List OA):Prop := ∀ z ∈ Z,∃ F,z.holds w F ∧ ∀ i,F i→¬ X i
structure Oth where
 blk:Nat→Prop
 wat:List (Nat × Obj)
 ok : ∀ d ∈ wat,blk d.1
instance:CoeFun Oth (fun _=>Nat→Prop):=⟨Oth.blk⟩
def Wat (w:World) (N:Oth):Prop := ∀ d ∈ N.wat,Ob w d.1 d.2
theorem Wat.chg {S:Nat→Prop} {w w':World} {N:Oth} (h:Wat w N) (hc:Chg S w w') (hs : ∀ i,S i→¬ N i):Wat w' N:=fun d hd=>(h d hd).chg hc (fun q=>hs _ q (N.ok d hd))
def Oth.or (N:Oth) (F:Nat→Prop):Oth:=⟨fun i=>N i∨F i,N.wat,fun d hd => .inl (N.ok d hd)⟩
def Oth.loop (N:Oth) (B:Nat) (o1 o2:Obj):Oth:=⟨fun i=>N i∨(i=B∨i=B + 1),(B,o1) :: (B + 1,o2) :: N.wat,fun d hd=>by
 rcases List.mem_cons.1 hd with rfl | hd
 ·exact .inr (.inl rfl)
 rcases List.mem_cons.1 hd with rfl | hd
 ·exact .inr (.inr rfl)
 ·exact .inl (N.ok d hd)⟩
def Oth.done (N:Oth) (B:Nat):Oth:=⟨fun i=>N i∨(i=B∨i=B + 1),(B,.deferred (some [])) :: N.wat,fun d hd=>by
 rcases List.mem_cons.1 hd with rfl | hd
 ·exact .inr (.inl rfl)
 ·exact .inl (N.ok d hd)⟩
def St (A:Nat→Prop) (N:Oth) (w0 w:World) (L Z:List OA):Prop :=
 ∃ U,(∀ i,U i→(A i∨w0.heap.size ≤ i)∧i < w.heap.size∧¬ N i)∧(∀ i,N i→i < w.heap.size)∧Chg A w0 w∧Sep w U L∧Frz w (fun i=>U i∨N i) Z∧Wat w N
section
variable {A:Nat→Prop} {N:Oth} {w0 w w':World} {L Z:List OA}
theorem St.frame (h:St A N w0 w L Z):Chg A w0 w:=h.elim fun _ h=>h.2.2.1
theorem St.size (h:St A N w0 w L Z):w0.heap.size ≤ w.heap.size:=h.frame.size
theorem Frz.chg {S X Y:Nat→Prop} (h:Frz w X Z) (hc:Chg S w w') (hs : ∀ i,S i→X i) (hv : ∀ i,Y i→X i∨w.heap.size ≤ i):Frz w' Y Z:=fun z hz=>by
 obtain ⟨F,g,hF⟩ := h z hz
 exact ⟨F,z.loc g hc (fun i hi hsi=>hF i hi (hs i hsi)),fun i hi hv'=>(hv i hv').elim (hF i hi) (fun q=>by have:=z.lt g i hi; omega)⟩
theorem St.ext (h:St A N w0 w L Z) (hc:Ext w w'):St A N w0 w' L Z:=by
 obtain ⟨U,hU,hN,hA,hL,hZ,hW⟩ := h
 exact ⟨U,fun i hi=>⟨(hU i hi).1,Nat.lt_of_lt_of_le (hU i hi).2.1 hc.size,(hU i hi).2.2⟩,fun i hi=>Nat.lt_of_lt_of_le (hN i hi) hc.size,hA.thenExt hc,Sep.chg hc hL (fun _ _ x=>x),hZ.chg hc (fun _ x=>x.elim) (fun _ hi => .inl hi),hW.chg hc (fun _ x=>x.elim)⟩
theorem St.front (h:St A N w0 w L Z) (k:Nat) {a:OA} {L':List OA} (e:L[k]? = some a:=by rfl) (e':a :: L.eraseIdx k=L':=by rfl):St A N w0 w L' Z:=by
 subst e'
 obtain ⟨U,hU,hN,hA,hL,hZ,hW⟩ := h
 exact ⟨U,hU,hN,hA,hL.front k e,hZ,hW⟩
theorem St.own (h:St A N w0 w L Z) (k:Nat) {a:OA} (e:L[k]? = some a) : ∃ F,a.holds w F:=by
 obtain ⟨U,hU,hN,hA,hL,hZ,hW⟩ := h
 obtain ⟨F,hF,_⟩ := hL.front k e
 exact ⟨F,hF⟩
theorem St.frz (h:St A N w0 w L Z) (k:Nat) {a:OA} (e:Z[k]? = some a) : ∃ F,a.holds w F:=by
 obtain ⟨U,hU,hN,hA,hL,hZ,hW⟩ := h
 obtain ⟨F,hF,_⟩ := hZ a (List.mem_of_getElem? e)
 exact ⟨F,hF⟩
theorem St.upd (h:St A N w0 w L Z) (k:Nat) {a b:OA} {L':List OA} (hk : ∀ F,a.holds w F → ∃ G,b.holds w' G∧(∀ i,G i→F i∨w.heap.size ≤ i)∧Chg F w w') (e:L[k]? = some a:=by rfl) (e':b :: L.eraseIdx k=L':=by rfl):St A N w0 w' L' Z:=by
 subst e'
 obtain ⟨U,hU,hN,hA,hL,hZ,hW⟩ := h
 obtain ⟨F,g,hF,hR⟩ := hL.front k e
 obtain ⟨G,g',hG,hc⟩ := hk F g
 refine ⟨fun i=>U i∨(G i∧w.heap.size ≤ i),fun i hi=>?_,fun i hi=>Nat.lt_of_lt_of_le (hN i hi) hc.size,hA.thenChg hc (fun i hi hf=>?_),⟨G,g',fun i hi=>(hG i hi).imp (hF i) (fun q=>⟨hi,q⟩),?_⟩,hZ.chg hc (fun i hi => .inl (hF i hi)) (fun i hi=>?_),hW.chg hc (fun i hi=>(hU i (hF i hi)).2.2)⟩
 ·rcases hi with hi | hi
  ·exact ⟨(hU i hi).1,Nat.lt_of_lt_of_le (hU i hi).2.1 hc.size,(hU i hi).2.2⟩
  ·exact ⟨.inr (Nat.le_trans hA.size hi.2),b.lt g' i hi.1,fun hn=>absurd (hN i hn) zcb⟩
 ·exact ((hU i (hF i hf)).1).elim id (fun q=>absurd hi zcb)
 ·exact (Sep.chg hc hR fun i hi=>hi.2).mono fun i hi=>⟨.inl hi.1,fun hg=>(hG i hg).elim hi.2 (fun q=>absurd (hU i hi.1).2.1 zcb)⟩
 ·rcases hi with (hi | hi) | hi
  ·exact .inl (.inl hi)
  ·exact .inr hi.2
  ·exact .inl (.inr hi)
theorem St.add (h:St A N w0 w L Z) {b:OA} {G:Nat→Prop} (hc:Ext w w') (hb:b.holds w' G) (hG : ∀ i,G i→w.heap.size ≤ i):St A N w0 w' (b :: L) Z:=by
 obtain ⟨U,hU,hN,hA,hL,hZ,hW⟩ := h
 refine ⟨fun i=>U i∨G i,fun i hi=>?_,fun i hi=>Nat.lt_of_lt_of_le (hN i hi) hc.size,hA.thenExt hc,⟨G,hb,fun i hi => .inr hi,?_⟩,hZ.chg hc (fun _ x=>x.elim) (fun i hi=>?_),hW.chg hc (fun _ x=>x.elim)⟩
 ·rcases hi with hi | hi
  ·exact ⟨(hU i hi).1,Nat.lt_of_lt_of_le (hU i hi).2.1 hc.size,(hU i hi).2.2⟩
  ·exact ⟨.inr (Nat.le_trans hA.size (hG i hi)),b.lt hb i hi,fun hn=>absurd (hN i hn) (by have:=hG i hi; omega)⟩
 ·exact (Sep.chg hc hL fun _ _ x=>x).mono fun i hi=>⟨.inl hi,fun hg=>absurd (hU i hi).2.1 (by have:=hG i hg; omega)⟩
 ·rcases hi with (hi | hi) | hi
  ·exact .inl (.inl hi)
  ·exact .inr (hG i hi)
  ·exact .inl (.inr hi)
theorem St.addZ (h:St A N w0 w L Z) {b:OA} {G:Nat→Prop} (hc:Ext w w') (hb:b.holds w' G) (hG : ∀ i,G i→w.heap.size ≤ i):St A N w0 w' L (b :: Z):=by
 have h':=h.ext hc
 obtain ⟨U,hU,hN,hA,hL,hZ,hW⟩ := h
 refine ⟨U,fun i hi=>⟨(hU i hi).1,Nat.lt_of_lt_of_le (hU i hi).2.1 hc.size,(hU i hi).2.2⟩,fun i hi=>Nat.lt_of_lt_of_le (hN i hi) hc.size,hA.thenExt hc,Sep.chg hc hL (fun _ _ x=>x),fun z hz=>?_,hW.chg hc (fun _ x=>x.elim)⟩
 rcases List.mem_cons.1 hz with rfl | hz
 ·refine ⟨G,hb,fun i hi q=>?_⟩
  have:=hG i hi
  rcases q with q | q
  ·exact absurd (hU i q).2.1 zcb
  ·exact absurd (hN i q) zcb
 ·exact (hZ.chg hc (fun _ x=>x.elim) (fun _ hi => .inl hi)) z hz
theorem St.drop (h:St A N w0 w L Z) (k:Nat) {a:OA} {L':List OA} (e:L[k]? = some a:=by rfl) (e':L.eraseIdx k=L':=by rfl):St A N w0 w L' Z:=by
 subst e'
 obtain ⟨U,hU,hN,hA,hL,hZ,hW⟩ := h
 obtain ⟨F,g,hF,hR⟩ := hL.front k e
 exact ⟨U,hU,hN,hA,hR.mono fun i hi=>hi.1,hZ,hW⟩
theorem St.freeze (h:St A N w0 w L Z) (k:Nat) {a b:OA} {L':List OA} (hab : ∀ F,a.holds w F→b.holds w F) (e:L[k]? = some a:=by rfl) (e':L.eraseIdx k=L':=by rfl):St A N w0 w L' (b :: Z):=by
 subst e'
 obtain ⟨U,hU,hN,hA,hL,hZ,hW⟩ := h
 obtain ⟨F,g,hF,hR⟩ := hL.front k e
 refine ⟨fun i=>U i∧¬ F i,fun i hi=>hU i hi.1,hN,hA,hR,fun z hz=>?_,hW⟩
 rcases List.mem_cons.1 hz with rfl | hz
 ·exact ⟨F,hab F g,fun i hi q=>q.elim (fun q=>q.2 hi) (fun q=>(hU i (hF i hi)).2.2 q)⟩
 ·obtain ⟨G,g',hG⟩ := hZ z hz
  exact ⟨G,g',fun i hi q=>hG i hi (q.imp (·.1) id)⟩
theorem St.part (h:St A N w0 w L Z) (k:Nat) {a b:OA} (hab : ∀ F,a.holds w F → ∃ G,b.holds w G ∧ ∀ i,G i→F i) (e:Z[k]? = some a:=by rfl):St A N w0 w L (b :: Z):=by
 obtain ⟨U,hU,hN,hA,hL,hZ,hW⟩ := h
 refine ⟨U,hU,hN,hA,hL,fun z hz=>?_,hW⟩
 rcases List.mem_cons.1 hz with rfl | hz
 ·obtain ⟨F,g,hF⟩ := hZ a (List.mem_of_getElem? e)
  obtain ⟨G,g',hG⟩ := hab F g
  exact ⟨G,g',fun i hi=>hF i (hG i hi)⟩
 ·exact hZ z hz
theorem St.say (h:St A N w0 w L Z) {b:OA} (hb:b.holds w (fun _=>False)):St A N w0 w L (b :: Z):=by
 obtain ⟨U,hU,hN,hA,hL,hZ,hW⟩ := h
 refine ⟨U,hU,hN,hA,hL,fun z hz=>?_,hW⟩
 rcases List.mem_cons.1 hz with rfl | hz
 ·exact ⟨_,hb,fun _ x=>x.elim⟩
 ·exact hZ z hz
theorem St.pickZ (h:St A N w0 w L Z) {Z':List OA} (hz : ∀ z ∈ Z',z ∈ Z):St A N w0 w L Z':=by
 obtain ⟨U,hU,hN,hA,hL,hZ,hW⟩ := h
 exact ⟨U,hU,hN,hA,hL,fun z q=>hZ z (hz z q),hW⟩
theorem St.more (h:St A N w0 w L Z) {M:Nat→Prop} (hc:Ext w w') (hM : ∀ i,M i→w.heap.size ≤ i∧i < w'.heap.size):St A (N.or M) w0 w' L Z:=by
 obtain ⟨U,hU,hN,hA,hL,hZ,hW⟩ := h
 refine ⟨U,fun i hi=>⟨(hU i hi).1,Nat.lt_of_lt_of_le (hU i hi).2.1 hc.size,fun q=>q.elim (hU i hi).2.2 (fun q=>absurd (hU i hi).2.1 (by have:=(hM i q).1; omega))⟩,fun i hi=>hi.elim (fun q=>Nat.lt_of_lt_of_le (hN i q) hc.size) (fun q=>(hM i q).2),hA.thenExt hc,Sep.chg hc hL (fun _ _ x=>x),hZ.chg hc (fun _ x=>x.elim) (fun i hi=>?_),hW.chg hc (fun _ x=>x.elim)⟩
 rcases hi with hi | hi | hi
 ·exact .inl (.inl hi)
 ·exact .inl (.inr hi)
 ·exact .inr (hM i hi).1
theorem St.others (h:St A N w0 w L Z) {M:Nat→Prop} {N':Oth} (hc:Chg M w w') (hM : ∀ i,M i→N i∧w0.heap.size ≤ i) (hN' : ∀ i,N' i→N i) (hw:Wat w' N'):St A N' w0 w' L Z:=by
 obtain ⟨U,hU,hN,hA,hL,hZ,hW⟩ := h
 exact ⟨U,fun i hi=>⟨(hU i hi).1,Nat.lt_of_lt_of_le (hU i hi).2.1 hc.size,fun q=>(hU i hi).2.2 (hN' i q)⟩,fun i hi=>Nat.lt_of_lt_of_le (hN i (hN' i hi)) hc.size,hA.thenChg hc (fun i hi hm=>absurd (hM i hm).2 zcb),Sep.chg hc hL (fun i hi q=>(hU i hi).2.2 (hM i q).1),hZ.chg hc (fun i hi => .inr (hM i hi).1) (fun _ hi => .inl (hi.imp id (hN' _))),hw⟩
theorem St.less (h:St A N w0 w L Z) {M:Oth} (hM : ∀ i,M i→N i) (hw:Wat w M):St A M w0 w L Z:=h.others (Chg.refl (fun _=>False) w) (fun _ x=>x.elim) hM hw
theorem St.wats (h:St A N w0 w L Z):Wat w N:=by
 obtain ⟨U,hU,hN,hA,hL,hZ,hW⟩ := h
 exact hW
theorem St.othlt (h:St A N w0 w L Z) : ∀ i,N i→i < w.heap.size:=by
 obtain ⟨U,hU,hN,hA,hL,hZ,hW⟩ := h
 exact hN
def sel (Z:List OA) (l:List Nat):List OA:=l.filterMap fun k=>Z[k]?
theorem sel_mem {Z:List OA} {l:List Nat} : ∀ z ∈ sel Z l,z ∈ Z:=fun z hz=>by
 obtain ⟨k,_,hk⟩ := List.mem_filterMap.1 hz
 exact List.mem_of_getElem? hk
theorem St.zs (h:St A N w0 w L Z) (l:List Nat) {Z':List OA} (e:sel Z l=Z':=by rfl):St A N w0 w L Z':=e ▸ h.pickZ sel_mem
theorem St.sub (h:St A N w0 w L Z) (l:List Nat) (P R:List OA) {Zc:List OA} (e:L=P ++ R:=by rfl) (ez:sel Z l=Zc:=by rfl) : ∃ B M,St B M w w P Zc ∧ ∀ w' P' Z' L' Z'',St B M w w' P' Z'→P' ++ R=L'→Z' ++ Z=Z''→St A N w0 w' L' Z'':=by
 subst e ez
 obtain ⟨U,hU,hN,hA,hL,hZ,hW⟩ := h
 obtain ⟨B,hB,hP,hR⟩ := hL.split
 refine ⟨B,⟨fun i=>(U i∧¬ B i)∨N i,N.wat,fun d hd => .inr (N.ok d hd)⟩,⟨B,fun i hi=>⟨.inl hi,(hB i hi).2,fun q=>q.elim (fun q=>q.2 hi) (hU i (hB i hi).1).2.2⟩,fun i hi=>hi.elim (fun q=>(hU i q.1).2.1) (hN i),Chg.refl _ _,hP,fun z hz=>?_,hW⟩,?_⟩
 ·obtain ⟨F,g,hF⟩ := hZ z (sel_mem z hz)
  exact ⟨F,g,fun i hi hb=>hF i hi (hb.elim (fun q => .inl (hB i q).1) (fun q=>q.imp (·.1) id))⟩
 ·rintro w' P' Z' L' Z'' ⟨V,hV,hM,hc,hP',hZ',hW'⟩ rfl rfl
  have hR':=Sep.chg hc hR fun i hi=>hi.2
  refine ⟨fun i=>V i∨(U i∧¬ B i),fun i hi=>?_,fun i hi=>Nat.lt_of_lt_of_le (hN i hi) hc.size,hA.thenChg hc (fun i hi hb=>?_),?_,fun z hz=>?_,hW.chg hc (fun i hi=>(hU i (hB i hi).1).2.2)⟩
  ·rcases hi with hi | hi
   ·exact ⟨((hV i hi).1).elim (fun q=>(hU i (hB i q).1).1) (fun q => .inr (Nat.le_trans hA.size q)),(hV i hi).2.1,fun q=>(hV i hi).2.2 (.inr q)⟩
   ·exact ⟨(hU i hi.1).1,Nat.lt_of_lt_of_le (hU i hi.1).2.1 hc.size,(hU i hi.1).2.2⟩
  ·exact ((hU i (hB i hb).1).1).elim id (fun q=>absurd hi zcb)
  ·refine Sep.join hP' hR' (fun i hi => .inl hi) (fun i hi => .inr hi) fun i hi q=>?_
   exact (hV i hi).2.2 (.inl q)
  ·rcases List.mem_append.1 hz with hz | hz
   ·obtain ⟨F,g,hF⟩ := hZ' z hz
    refine ⟨F,g,fun i hi q=>hF i hi ?_⟩
    rcases q with (q | q) | q
    ·exact .inl q
    ·exact .inr (.inl q)
    ·exact .inr (.inr q)
   ·obtain ⟨F,g,hF⟩ := hZ z hz
    refine ⟨F,z.loc g hc (fun i hi hb=>hF i hi (.inl (hB i hb).1)),fun i hi q=>?_⟩
    rcases q with (q | q) | q
    ·exact ((hV i q).1).elim (fun b=>hF i hi (.inl (hB i b).1)) (fun p=>absurd (z.lt g i hi) zcb)
    ·exact hF i hi (.inl q.1)
    ·exact hF i hi (.inr q)
end
-- pieces
def oB (b:Nat) (t:TypeId) (l:List Value):OA where
 holds:=fun w F=>Blk w b t l ∧ ∀ i,F i↔i=b
 loc:=fun h hc hs=>⟨h.1.chg hc (hs b ((h.2 b).2 rfl)),h.2⟩
 lt:=fun h i hi=>by rw [(h.2 i).1 hi]; exact h.1.lt
def oS (e k:Nat) {α:Type} (C:α→List Value) (s:SlV) (l:List α):OA where
 holds:=fun w F=>(Own w 0 e k s (l.map C)∧l.length ≤ 140737488355328) ∧ ∀ i,F i↔s.fp i
 loc:=fun h hc hs=>⟨⟨h.1.1.keep hc (fun i hi=>hs i ((h.2 i).2 hi)),h.1.2⟩,h.2⟩
 lt:=fun h i hi=>h.1.1.lt i ((h.2 i).1 hi)
def fS (k:Nat) {α:Type} (C:α→List Value) (s:SlV) (l:List α):OA where
 holds:=fun w F=>(Rd w k s (l.map C)∧l.length ≤ 140737488355328) ∧ ∀ i,F i↔s.fp i
 loc:=fun h hc hs=>⟨⟨h.1.1.keep hc (fun i hi=>hs i ((h.2 i).2 hi)),h.1.2⟩,h.2⟩
 lt:=fun h i hi=>h.1.1.lt i ((h.2 i).1 hi)
def oM (m:Nat) {α β:Type} (C:α→Value) (D:β→Value) (l:List (α × β)):OA where
 holds:=fun w F=>MapB w m C D l ∧ ∀ i,F i↔i=m
 loc:=fun h hc hs=>⟨h.1.chg hc (hs m ((h.2 m).2 rfl)),h.2⟩
 lt:=fun h i hi=>by rw [(h.2 i).1 hi]; exact h.1.lt
section
variable {A:Nat→Prop} {N:Oth} {w0 w w':World} {L Z:List OA}
theorem St.blk (h:St A N w0 w L Z) (k:Nat) {b t:Nat} {l:List Value} (e:L[k]? = some (oB b t l):=by rfl):Blk w b t l:=(h.own k e).elim fun _ h=>h.1
theorem St.blkZ (h:St A N w0 w L Z) (k:Nat) {b t:Nat} {l:List Value} (e:Z[k]? = some (oB b t l):=by rfl):Blk w b t l:=(h.frz k e).elim fun _ h=>h.1
theorem St.sl (h:St A N w0 w L Z) (n:Nat) {e k:Nat} {α:Type} {C:α→List Value} {s:SlV} {l:List α} (q:L[n]? = some (oS e k C s l):=by rfl):Own w 0 e k s (l.map C):=(h.own n q).elim fun _ h=>h.1.1
theorem St.lenO (h:St A N w0 w L Z) (n:Nat) {e k:Nat} {α:Type} {C:α→List Value} {s:SlV} {l:List α} (q:L[n]? = some (oS e k C s l):=by rfl):l.length ≤ 140737488355328:=(h.own n q).elim fun _ h=>h.1.2
theorem St.len (h:St A N w0 w L Z) (n:Nat) {k:Nat} {α:Type} {C:α→List Value} {s:SlV} {l:List α} (q:Z[n]? = some (fS k C s l):=by rfl):l.length ≤ 140737488355328:=(h.frz n q).elim fun _ h=>h.1.2
theorem St.rdO (h:St A N w0 w L Z) (n:Nat) {e k:Nat} {α:Type} {C:α→List Value} {s:SlV} {l:List α} (q:L[n]? = some (oS e k C s l):=by rfl):Rd w k s (l.map C):=(h.sl n q).toRd
theorem St.rd (h:St A N w0 w L Z) (n:Nat) {k:Nat} {α:Type} {C:α→List Value} {s:SlV} {l:List α} (q:Z[n]? = some (fS k C s l):=by rfl):Rd w k s (l.map C):=(h.frz n q).elim fun _ h=>h.1.1
theorem St.map (h:St A N w0 w L Z) (k:Nat) {m:Nat} {α β:Type} {C:α→Value} {D:β→Value} {l:List (α × β)} (e:L[k]? = some (oM m C D l):=by rfl):MapB w m C D l:=(h.own k e).elim fun _ h=>h.1
theorem St.mapZ (h:St A N w0 w L Z) (k:Nat) {m:Nat} {α β:Type} {C:α→Value} {D:β→Value} {l:List (α × β)} (e:Z[k]? = some (oM m C D l):=by rfl):MapB w m C D l:=(h.frz k e).elim fun _ h=>h.1
theorem St.new (h:St A N w0 w L Z) {b t:Nat} {l:List Value} (hn:New w w' b t l):St A N w0 w' (oB b t l :: L) Z :=
 h.add (b:=oB b t l) (G:=(· = b)) hn.ext ⟨hn.blk,fun _=>Iff.rfl⟩ (fun i hi=>by rw [hi,hn.at_]; exact Nat.le_refl _)
theorem St.store (h:St A N w0 w L Z) (k:Nat) {b t:Nat} {l l':List Value} {L':List OA} (hb:Blk w' b t l') (hc:Chg (· = b) w w') (e:L[k]? = some (oB b t l):=by rfl) (e':oB b t l' :: L.eraseIdx k=L':=by rfl):St A N w0 w' L' Z :=
 h.upd k (a:=oB b t l) (b:=oB b t l') (fun F hF=>⟨F,⟨hb,hF.2⟩,fun i hi => .inl hi,hc.mono fun i _ hi=>(hF.2 i).2 hi⟩) e e'
theorem St.push (h:St A N w0 w L Z) (n:Nat) {e k:Nat} {α:Type} {C:α→List Value} {s s':SlV} {l l':List α} {L':List OA} (ho:Own w' 0 e k s' (l'.map C)) (hl:l'.length ≤ 140737488355328) (hc:Chg s.fp w w') (hg : ∀ i,s'.fp i→s.fp i∨w.heap.size ≤ i) (q:L[n]? = some (oS e k C s l):=by rfl) (q':oS e k C s' l' :: L.eraseIdx n=L':=by rfl):St A N w0 w' L' Z :=
 h.upd n (a:=oS e k C s l) (b:=oS e k C s' l') (fun F hF=>⟨s'.fp,⟨⟨ho,hl⟩,fun _=>Iff.rfl⟩,fun i hi=>(hg i hi).imp (fun x=>(hF.2 i).2 x) id,hc.mono fun i _ hi=>(hF.2 i).2 hi⟩) q q'
theorem St.mapSet (h:St A N w0 w L Z) (k:Nat) {m:Nat} {α β:Type} {C:α→Value} {D:β→Value} {l l':List (α × β)} {L':List OA} (hm:MapStep w w' m C D l') (e:L[k]? = some (oM m C D l):=by rfl) (e':oM m C D l' :: L.eraseIdx k=L':=by rfl):St A N w0 w' L' Z :=
 h.upd k (a:=oM m C D l) (b:=oM m C D l') (fun F hF=>⟨F,⟨hm.1,hF.2⟩,fun i hi => .inl hi,hm.2.1.mono fun i _ hi=>(hF.2 i).2 hi⟩) e e'
theorem St.nil (h:St A N w0 w L Z) (e k:Nat) {α:Type} (C:α→List Value):St A N w0 w (oS e k C SlV.nil [] :: L) Z :=
 h.add (b:=oS e k C SlV.nil []) (G:=SlV.nil.fp) (Ext.refl w) ⟨⟨by simpa using Own.nil w 0 e k,by simp⟩,fun _=>Iff.rfl⟩ (fun i hi=>absurd rfl hi.1)
theorem St.nilZ (h:St A N w0 w L Z) (k:Nat) {α:Type} (C:α→List Value):St A N w0 w L (fS k C SlV.nil [] :: Z) :=
 h.say (b:=fS k C SlV.nil []) ⟨⟨by simpa using Rd.nil w k,by simp⟩,fun i=>⟨fun x=>x.elim,fun x=>absurd rfl x.1⟩⟩
theorem St.frzS (h:St A N w0 w L Z) (n:Nat) {e k:Nat} {α:Type} {C:α→List Value} {s:SlV} {l:List α} {L':List OA} (q:L[n]? = some (oS e k C s l):=by rfl) (q':L.eraseIdx n=L':=by rfl):St A N w0 w L' (fS k C s l :: Z) :=
 h.freeze n (a:=oS e k C s l) (fun _ hF=>⟨⟨hF.1.1.toRd,hF.1.2⟩,hF.2⟩) q q'
inductive Lend (L Z:List OA):List OA→Prop
 | nil:Lend L Z []
 | z {a:OA} {l:List OA} (k:Nat) (e:Z[k]? = some a) (h:Lend L Z l):Lend L Z (a :: l)
 | o {a:OA} {l:List OA} (k:Nat) (e:L[k]? = some a) (h:Lend L Z l):Lend L Z (a :: l)
 | s {α:Type} {l:List OA} {e k':Nat} {C:α→List Value} {s:SlV} {x:List α} (k:Nat) (q:L[k]? = some (oS e k' C s x)) (h:Lend L Z l):Lend L Z (fS k' C s x :: l)
theorem Lend.mem {U B:Nat→Prop} (hL:Sep w (fun i=>U i∧¬ B i) L) (hZ:Frz w (fun i=>U i∨N i) Z) (hB : ∀ i,B i→U i) (hN : ∀ i,U i→¬ N i) : ∀ {l:List OA},Lend L Z l → ∀ z ∈ l,∃ F,z.holds w F ∧ ∀ i,F i→¬ (B i∨N i)
 | _,.nil=>fun _ h=>by simp at h
 | _,.z k e h=>fun z hz=>by
  rcases List.mem_cons.1 hz with rfl | hz
  ·obtain ⟨F,g,hF⟩ := hZ _ (List.mem_of_getElem? e)
   exact ⟨F,g,fun i hi q=>hF i hi (q.imp (hB i) id)⟩
  ·exact Lend.mem hL hZ hB hN h z hz
 | _,.o k e h=>fun z hz=>by
  rcases List.mem_cons.1 hz with rfl | hz
  ·obtain ⟨F,g,hF,_⟩ := hL.front k e
   exact ⟨F,g,fun i hi q=>q.elim (hF i hi).2 (hN i (hF i hi).1)⟩
  ·exact Lend.mem hL hZ hB hN h z hz
 | _,.s k e h=>fun z hz=>by
  rcases List.mem_cons.1 hz with rfl | hz
  ·obtain ⟨F,g,hF,_⟩ := hL.front k e
   exact ⟨F,⟨⟨g.1.1.toRd,g.1.2⟩,g.2⟩,fun i hi q=>q.elim (hF i hi).2 (hN i (hF i hi).1)⟩
  ·exact Lend.mem hL hZ hB hN h z hz
theorem St.call (h:St A N w0 w L Z) (P R:List OA) {Zc:List OA} (hl:Lend R Z Zc) (e:L=P ++ R:=by rfl) : ∃ B M,St B M w w P Zc ∧ ∀ w' P' Z' L',St B M w w' P' Z'→P' ++ R=L'→St A N w0 w' L' Z:=by
 subst e
 obtain ⟨U,hU,hN,hA,hL,hZ,hW⟩ := h
 obtain ⟨B,hB,hP,hR⟩ := hL.split
 have hUN : ∀ i,U i→¬ N i:=fun i hi=>(hU i hi).2.2
 refine ⟨B,N,⟨B,fun i hi=>⟨.inl hi,(hB i hi).2,hUN i (hB i hi).1⟩,hN,Chg.refl _ _,hP,Lend.mem hR hZ (fun i hi=>(hB i hi).1) hUN hl,hW⟩,?_⟩
 rintro w' P' Z' L' ⟨V,hV,hM,hc,hP',hZ',hW'⟩ rfl
 have hR':=Sep.chg hc hR fun i hi=>hi.2
 refine ⟨fun i=>V i∨(U i∧¬ B i),fun i hi=>?_,hM,hA.thenChg hc (fun i hi hb=>?_),?_,fun z hz=>?_,hW'⟩
 ·rcases hi with hi | hi
  ·exact ⟨((hV i hi).1).elim (fun q=>(hU i (hB i q).1).1) (fun q => .inr (Nat.le_trans hA.size q)),(hV i hi).2⟩
  ·exact ⟨(hU i hi.1).1,Nat.lt_of_lt_of_le (hU i hi.1).2.1 hc.size,(hU i hi.1).2.2⟩
 ·exact ((hU i (hB i hb).1).1).elim id (fun q=>absurd hi zcb)
 ·refine Sep.join hP' hR' (fun i hi => .inl hi) (fun i hi => .inr hi) fun i hi q=>?_
  exact ((hV i hi).1).elim q.2 (fun p=>absurd (hU i q.1).2.1 zcb)
 ·obtain ⟨F,g,hF⟩ := hZ z hz
  refine ⟨F,z.loc g hc (fun i hi hb=>hF i hi (.inl (hB i hb).1)),fun i hi q=>?_⟩
  rcases q with (q | q) | q
  ·exact ((hV i q).1).elim (fun b=>hF i hi (.inl (hB i b).1)) (fun p=>absurd (z.lt g i hi) zcb)
  ·exact hF i hi (.inl q.1)
  ·exact hF i hi (.inr q)
theorem St.lend (h:St A N w0 w L Z) {Zc:List OA} (hl:Lend L Z Zc) : ∃ M,St (fun _=>False) M w w [] Zc:=by
 obtain ⟨U,hU,hN,hA,hL,hZ,hW⟩ := h
 exact ⟨N,fun _=>False,fun _ x=>x.elim,hN,Chg.refl _ _,trivial,Lend.mem (B:=fun _=>False) (hL.mono fun i hi=>⟨hi,fun x=>x⟩) hZ (fun _ x=>x.elim) (fun i hi=>(hU i hi).2.2) hl,hW⟩
theorem quiet {P:Program} {g:FuncId} {args:Array Value} {M:Oth} {R:Value→World→Prop} {v0:Value} (h:Calls P g args w fun e w' => ∃ v,e = .returned v∧R v w') (hR : ∀ v w',R v w'→v=v0 ∧ ∃ P' Z',St (fun _=>False) M w w' P' Z'):Calls P g args w fun e w' => ∃ v,e = .returned v∧(v=v0∧Ext w w') :=
 CallsIn.mono (F:=fen none) (n:=0) (callsIn_wide.2 h) (by rintro e w' ⟨v,rfl,hv⟩; obtain ⟨h1,P',Z',h2⟩ := hR v w' hv; exact ⟨v,rfl,h1,h2.frame⟩) |> callsIn_wide.1
end
end Gw
end
section
open Go.RowKit
namespace Gw
def chk {α:Type} (b:Bool) (x:Option α):Option α:=if b then x else none
def inb (i:Int) (n:Nat):Bool:=decide (0 ≤ i) && decide (i < n)
def at_ {α:Type} (d:α) (l:List α) (i:Int):α:=l.getD i.toNat d
theorem zr {α β:Type} {x:Option α} {f:α→Option β} {r:β} (h:x.bind f=some r) : ∃ a,x=some a∧f a=some r:=by
 cases x with
 | none=>cases h
 | some a=>exact ⟨a,rfl,h⟩
theorem xo {α:Type} {b:Bool} {x:Option α} {r:α} (h:chk b x=some r):b=true∧x=some r:=by
 unfold chk at h; split at h
 ·exact ⟨‹_›,h⟩
 ·cases h
theorem if_t {α:Type} {c:Bool} {x y r:α} (hc:c=true) (h:(if c then x else y)=r):x=r:=by rw [if_pos hc] at h; exact h
theorem if_f {α:Type} {c:Bool} {x y r:α} (hc:c=false) (h:(if c then x else y)=r):y=r:=by rw [hc] at h; exact h
theorem zO {i:Int} {n:Nat} (h:inb i n=true):0 ≤ i∧i < n:=by simpa [inb] using h
theorem ym {α:Type} (d:α) {l:List α} {i:Int} (h:0 ≤ i∧i < l.length):l[i.toNat]? = some (at_ d l i):=by
 have hl:i.toNat < l.length:=by omega
 simp [at_,List.getElem?_eq_getElem hl,List.getD_eq_getElem?_getD]
inductive Stp (σ ρ:Type) where
 | go (s:σ)
 | brk (s:σ)
 | ret (r:ρ)
def forN {σ ρ:Type} (b:Int→σ→Option (Stp σ ρ)):Nat→Int→σ→Option (σ ⊕ ρ)
 | 0,_,s=>some (.inl s)
 | n + 1,i,s=>(b i s).bind fun
  | .go s'=>forN b n (i + 1) s'
  | .brk s'=>some (.inl s')
  | .ret r=>some (.inr r)
def forS {σ:Type} (b:Int→σ→Option σ):Nat→Int→σ→Option σ
 | 0,_,s=>some s
 | n + 1,i,s=>(b i s).bind fun s'=>forS b n (i + 1) s'
def forE {α σ ρ:Type} (b:α→σ→Option (Stp σ ρ)):List α→σ→Option (σ ⊕ ρ)
 | [],s=>some (.inl s)
 | x :: l,s=>(b x s).bind fun
  | .go s'=>forE b l s'
  | .brk s'=>some (.inl s')
  | .ret r=>some (.inr r)
def iter {σ ρ:Type} (b:σ→Option (Stp σ ρ)):Nat→σ→Option (σ ⊕ ρ)
 | 0,_=>none
 | n + 1,s=>(b s).bind fun
  | .go s'=>iter b n s'
  | .brk s'=>some (.inl s')
  | .ret r=>some (.inr r)
theorem zaZ {σ ρ:Type} {b:Int→σ→Option (Stp σ ρ)} {i:Int} {s:σ} {o:σ ⊕ ρ} (h:forN b 0 i s=some o):o = .inl s:=by
 simp only [forN] at h; exact (zce h).symm
def nxt {σ ρ:Type} (g:σ→Option (σ ⊕ ρ)) (o:σ ⊕ ρ):Stp σ ρ→Prop
 | .go s=>g s=some o
 | .brk s=>o = .inl s
 | .ret r=>o = .inr r
theorem zba {σ ρ:Type} {b:Int→σ→Option (Stp σ ρ)} {n:Nat} {i:Int} {s:σ} {o:σ ⊕ ρ} (h:forN b (n + 1) i s=some o) : ∃ q,b i s=some q∧nxt (forN b n (i + 1)) o q:=by
 simp only [forN] at h
 obtain ⟨q,h1,h2⟩ := zr h
 refine ⟨q,h1,?_⟩
 cases q with
 | go s=>exact h2
 | brk s=>exact (zce h2).symm
 | ret r=>exact (zce h2).symm
theorem forE_0 {α σ ρ:Type} {b:α→σ→Option (Stp σ ρ)} {s:σ} {o:σ ⊕ ρ} (h:forE b [] s=some o):o = .inl s:=by
 simp only [forE] at h; exact (zce h).symm
theorem forE_s {α σ ρ:Type} {b:α→σ→Option (Stp σ ρ)} {x:α} {l:List α} {s:σ} {o:σ ⊕ ρ} (h:forE b (x :: l) s=some o) : ∃ q,b x s=some q∧nxt (forE b l) o q:=by
 simp only [forE] at h
 obtain ⟨q,h1,h2⟩ := zr h
 refine ⟨q,h1,?_⟩
 cases q with
 | go s=>exact h2
 | brk s=>exact (zce h2).symm
 | ret r=>exact (zce h2).symm
theorem iter_s {σ ρ:Type} {b:σ→Option (Stp σ ρ)} {n:Nat} {s:σ} {o:σ ⊕ ρ} (h:iter b (n + 1) s=some o) : ∃ q,b s=some q∧nxt (iter b n) o q:=by
 simp only [iter] at h
 obtain ⟨q,h1,h2⟩ := zr h
 refine ⟨q,h1,?_⟩
 cases q with
 | go s=>exact h2
 | brk s=>exact (zce h2).symm
 | ret r=>exact (zce h2).symm
theorem forS_s {σ:Type} {b:Int→σ→Option σ} {n:Nat} {i:Int} {s o:σ} (h:forS b (n + 1) i s=some o) : ∃ q,b i s=some q∧forS b n (i + 1) q=some o:=by
 simp only [forS] at h
 exact zr h
theorem forS_0 {σ:Type} {b:Int→σ→Option σ} {i:Int} {s o:σ} (h:forS b 0 i s=some o):o=s:=by
 simp only [forS] at h; exact (zce h).symm
def aft {σ ρ:Type} (k:σ→Option ρ):σ ⊕ ρ→Option ρ
 | .inl s=>k s
 | .inr r=>some r
theorem jX {σ ρ:Type} {k:σ→Option ρ} {x r:ρ} (h:aft k (.inr x)=some r):x=r:=zce h
section
variable {P:Program} {rd:Option Nat} {n:Nat} {dm:List Nat} {Q:Post} {f:Fr} {w:World}
def rounds (P:Program) (rd:Option Nat) (n:Nat) (dm:List Nat) (c:Code) (Q:Post):Nat→Fr→World→Prop
 | 0,_,_=>False
 | m + 1,f,w=>wc P rd n dm c (thenP (fun dm' f' w'=>dm'=dm∧rounds P rd n dm c Q m f' w') Q) f w
theorem x6 {x:Code} (ds:List Nat) (I:Fr→World→Prop) (h:wc P rd n dm x (thenP (fun dm' f' u'=>dm'=dm∧Dif ds f f'∧I f' u') Q) f w) (hy : ∀ g u,I (mask ds g f) u→Q dm .normal (mask ds g f) u):wc P rd n dm x Q f w :=
 wc_mono h fun dm' e f' u' q=>by
  cases e with
  | normal=>obtain ⟨rfl,⟨g,rfl⟩,h2⟩ := q; exact hy g _ h2
  | _=>exact q
end
end Gw
end
section
open Go.RowKit
namespace Gw
def obPost2 (dm:List Nat) (D:Draw) (L:Nat→Bool) (i:Nat) (d:Option Tmp) (f:Fr) (w:World):Post:=fun dm' e f' w'=>e = .normal∧dm'=dm∧D.T (plus L i) w'∧D.Le L w w'∧match d with
 | some d => ∃ v,f'=upd f d v∧D.V i v w'
 | none=>f'=f ∧ ∀ v,D.V i v w'
theorem ob2 {dm:List Nat} {D:Draw} {L:Nat→Bool} {i:Nat} {d:Tmp} {f:Fr} {w w':World} {v:Value} (hT:D.T (plus L i) w') (hL:D.Le L w w') (hV:D.V i v w'):obPost2 dm D L i (some d) f w dm .normal (upd f d v) w':=⟨rfl,rfl,hT,hL,v,rfl,hV⟩
theorem ob0 {dm:List Nat} {D:Draw} {L:Nat→Bool} {i:Nat} {f:Fr} {w w':World} (hT:D.T (plus L i) w') (hL:D.Le L w w') (hV : ∀ v,D.V i v w'):obPost2 dm D L i none f w dm .normal f w':=⟨rfl,rfl,hT,hL,rfl,hV⟩
def drawB2 (ops:Array Oper) (m:Nat):Bool :=
 decide (((ops.toList.take m).filterMap (·.dst)).Nodup) &&
 ops.toList.zipIdx.all (fun q=>q.1.after.toList.all fun e => !Region.binds .any e || decide (e.on < q.2)) &&
 ops.toList.zipIdx.all (fun q=>decide (q.2 < m) || (List.range q.2).all fun i=>((Region.before ops).getD q.2 0).testBit i) &&
 decide (m ≤ ops.size)
def overV (D:Draw) (g:Fr) (w:World) (j:Nat) (d:Option Tmp):Prop:=match d with
 | some d=>D.V j (g d) w
 | none => ∀ v,D.V j v w
theorem overV.get {D:Draw} {g:Fr} {w:World} {j:Nat} {d:Option Tmp} (h:overV D g w j d):D.V j (g (d.getD 0)) w:=by
 cases d with
 | none=>exact h _
 | some d=>exact h
section
variable {P:Program} {rd:Option Nat} {n m:Nat} {dm:List Nat} {ops:Array Oper} {Q:Post} {f:Fr} {w:World}
end
end Gw
end
section
open Go.RowKit
namespace Gw
def SC (s:ByteArray):List Value:=[.string s]
def ic (k:IntKind) (n:Int):List Value:=[.int k n]
theorem SlV.cells (x:SlV):x.v.cells = #[x.v]:=by rw [SlV.eq]; rfl
theorem yl {i:Nat} {a b:Value} {l l':List (Nat × Value)} (h:a=b) (hl:l=l'):(i,a) :: l=(i,b) :: l':=by rw [h,hl]
theorem j0.get {w:World} {b o i:Nat} {l:List Value} {v:Value} (h:j0 w b o l) (hl:l[i]? = some v):w.cell? ⟨b,o + i,none⟩ = some v:=h _ _ hl
section
variable {P:Program} {rd:Option Nat} {n:Nat} {dm:List Nat} {ops:Array Oper} {Q:Post} {f:Fr} {w:World} {rest:List Oper} {ty:TypeId} {pos:String} {af:Array Edge}
theorem flat_len {α:Type} {C:α→List Value} {k:Nat} : ∀ {l:List α},(∀ a ∈ l,(C a).length=k)→((l.map C).flatten).length=l.length * k
 | [],_=>by simp
 | a :: l,h=>by
  have:=flat_len (C:=C) (l:=l) fun b hb=>h b (by simp [hb])
  simp only [List.map_cons,List.flatten_cons,List.length_append,List.length_cons,h a zcc,this,Nat.add_mul]
  omega
theorem xF {d:Option Tmp} {gd:Option (Nat × Bool)} {t:Nat} {pl:List (Nat × Nat)} {z out:List Value} {parts:Array (Nat × Operand)} {vs:List (Nat × Value)} (hb:BuT P t pl z) (hv:parts.toList.map (fun q=>(q.1,evF f q.2))=vs) (hf:Bld pl z vs out):Does P ⟨d,.build t parts,ty,pos,af,gd⟩ f w (.agg out.toArray) w :=
 yi hb (hv ▸ hf)
theorem does_lits {α:Type} {C:α→List Value} {l:List α} {vs:List Value} {dd:Tmp} {gd:Option (Nat × Bool)} {t e k len:Nat} {parts:Array (Nat × Operand)} (ht:yM P t e k) (hz : ∃ z,(P.info? e).bind (·.zero)=some z)
  (hv:parts.toList.map (fun q=>(q.1,evF f q.2))=vs.zipIdx.map (fun q=>(q.2,q.1))) (hr:vs.map (fun v=>v.cells.toList)=l.map C) (hk : ∀ a ∈ l,(C a).length=k) (h24:len * k ≤ 16777216∧len ≤ 16777216) (hlen:l.length=len) :
  ∃ (s:SlV) (w':World),Does P ⟨some dd,.buildSlice t len parts,ty,pos,af,gd⟩ f w s.v w'∧Ext w w'∧Own w' 0 e k s (l.map C) ∧ ∀ i,s.fp i→i=w.heap.size:=by
 have hk' : ∀ r ∈ l.map C,r.length=k:=by
  intro r hr; obtain ⟨a,ha,rfl⟩ := List.mem_map.1 hr; exact hk a ha
 obtain ⟨w',h1,hn⟩ := does_buildSlice (P:=P) (f:=f) (w:=w) (dd:=dd) (ty:=ty) (pos:=pos) (af:=af) (gd:=gd) ht hz hv hr hk' (by simpa using hlen) h24.1
 refine ⟨_,w',h1,hn.ext,⟨.inr ⟨_,len,(l.map C).flatten.toArray,?_,Nat.zero_le _,hn.blk,?_,?_,?_⟩,hk'⟩,fun i hi=>hi.2⟩
 ·simp [hlen]
 ·simp [hlen]
 ·simp [flat_len hk,hlen]
 ·simp [flat_len hk,List.take_of_length_le]
theorem xD {α:Type} {C:α→List Value} {l:List α} {vs:List Value} {dd:Tmp} {t e k len:Nat} {parts:Array (Nat × Operand)} (ht:yM P t e k) (hz : ∃ z,(P.info? e).bind (·.zero)=some z)
  (hv:parts.toList.map (fun q=>(q.1,evF f q.2))=vs.zipIdx.map (fun q=>(q.2,q.1))) (hr:vs.map (fun v=>v.cells.toList)=l.map C) (hk : ∀ a ∈ l,(C a).length=k) (h24:len * k ≤ 16777216∧len ≤ 16777216) (hlen:l.length=len) (hd:dd < n)
  (h : ∀ b w' (s:SlV),(Own w' 0 e k s (l.map C) ∧ ∀ i,s.fp i→i=b)→(Ext w w'∧w.heap.size ≤ b)→wl P rd n dm ops rest Q (upd f dd s.v) w'):wl P rd n dm ops (⟨some dd,.buildSlice t len parts,ty,pos,af,none⟩ :: rest) Q f w:=by
 obtain ⟨s,w',h1,h2,h3,h4⟩ := does_lits (P:=P) (f:=f) (w:=w) (dd:=dd) (ty:=ty) (pos:=pos) (af:=af) (gd:=none) ht hz hv hr hk h24 hlen
 exact zi h1 hd (h w.heap.size w' s ⟨h3,h4⟩ ⟨h2,Nat.le_refl _⟩)
theorem newc {P:Program} {g:FuncId} {args:Array Value} {w:World} {R V:Value→World→Prop} (h:Calls P g args w fun e w' => ∃ v,e = .returned v∧R v w') (hR : ∀ v w',R v w'→Ext w w'∧V v w'):Calls P g args w fun e w' => ∃ v,e = .returned v∧Ext w w'∧V v w' :=
 CallsIn.mono (F:=fen none) (n:=0) (callsIn_wide.2 h) (by rintro e w' ⟨v,rfl,hv⟩; exact ⟨v,rfl,(hR v w' hv).1,(hR v w' hv).2⟩) |> callsIn_wide.1
theorem zbh {α:Type} {C:α→List Value} {dd:Tmp} {t e k bytes:Nat} {x y:Operand} {s r:SlV} {l m:List α} (ht:yM P t e k) (he:uN P e k bytes) (hx:evF f x=s.v) (hy:evF f y=r.v) (hs:Own w 0 e k s (l.map C)) (hr:Rd w k r (m.map C)) (hne:m ≠ [])
  (h1 : ∀ a ∈ m,∀ v ∈ C a,v.oneCell'=true) (hm:(l.length + m.length) * bytes ≤ 140737488355328) (hm2:l.length + m.length ≤ 140737488355328) (hd:dd < n)
  (h : ∀ (s':SlV) w',Own w' 0 e k s' ((l ++ m).map C)→Chg s.fp w w'→(∀ i,s'.fp i→s.fp i∨w.heap.size ≤ i)→wl P rd n dm ops rest Q (upd f dd s'.v) w'):wl P rd n dm ops (⟨some dd,.call ⟨.builtin .append,#[x,y],#[t,t]⟩,ty,pos,af,none⟩ :: rest) Q f w:=by
 refine wl_append (news:=m.map C) ht he hx hy hs hr.sl (by simpa using hne) ?_ (by simpa using hm) (by simpa using hm2) (Nat.zero_le _) hd fun s' w' ho hc hg=>h s' w' (by simpa using ho) hc hg
 intro r hr v hv
 obtain ⟨a,ha,rfl⟩ := List.mem_map.1 hr
 exact h1 a ha v hv
theorem does_append0 {dd:Option Tmp} {gd:Option (Nat × Bool)} {t e k:Nat} {x y:Operand} {s r:SlV} (ht:yM P t e k) (hx:evF f x=s.v) (hy:evF f y=r.v) (hs:s.n ≤ s.c) (hr:r.n=0):Does P ⟨dd,.call ⟨.builtin .append,#[x,y],#[t,t]⟩,ty,pos,af,gd⟩ f w s.v w:=by
 obtain ⟨sp,sn,sc⟩ := s
 obtain ⟨rp,rn,rc⟩ := r
 simp only at hs hr
 subst hr
 unfold Does execOp
 simp only [resolve,invoke,builtin,Sem.run_bind,Sem.run_pure,Result.andThen_ok,List.map_toArray,List.map_cons,List.map_nil,hx,hy,SlV.eq]
 have hl : ∀ a:Addr,(loadCells a 0).run P w = .ok #[] w:=fun a=>rfl
 cases rp with
 | none=>cases sp <;> simp [Builtin.append_,run_underlying ht.1,run_sizeOf ht.2,Builtin.lenOf,Builtin.firstCells,hs,storeCells]
 | some a=>cases sp <;> simp [Builtin.append_,run_underlying ht.1,run_sizeOf ht.2,Builtin.lenOf,Builtin.firstCells,hs,storeCells,hl]
theorem wl_appendm {α:Type} {C:α→List Value} {dd:Tmp} {t e k bytes:Nat} {x y:Operand} {s r:SlV} {l m:List α} (ht:yM P t e k) (he:uN P e k bytes) (hx:evF f x=s.v) (hy:evF f y=r.v) (hs:Own w 0 e k s (l.map C)) (hr:Rd w k r (m.map C))
  (h1 : ∀ a,∀ v ∈ C a,v.oneCell'=true) (hm:(l.length + m.length) * bytes ≤ 140737488355328) (hm2:l.length + m.length ≤ 140737488355328) (hd:dd < n)
  (h : ∀ (s':SlV) w',Own w' 0 e k s' ((l ++ m).map C)→Chg s.fp w w'→(∀ i,s'.fp i→s.fp i∨w.heap.size ≤ i)→wl P rd n dm ops rest Q (upd f dd s'.v) w'):wl P rd n dm ops (⟨some dd,.call ⟨.builtin .append,#[x,y],#[t,t]⟩,ty,pos,af,none⟩ :: rest) Q f w:=by
 by_cases hne:m=[]
 ·subst hne
  refine zi (does_append0 ht hx hy hs.room (by have:=hr.sl.len; simpa using this)) hd ?_
  exact h s w (by simpa using hs) (Chg.refl _ _) (fun i hi => .inl hi)
 ·exact zbh ht he hx hy hs hr hne (fun a _=>h1 a) hm hm2 hd h
theorem set_flat {α:Type} {C:α→List Value} {a:α} {v:Value} (hv:C a=[v]) : ∀ (l:List α) (j:Nat),(∀ b ∈ l,(C b).length=1)→j < l.length→((l.set j a).map C).flatten=((l.map C).flatten).set j v
 | [],_,_,hj=>by simp at hj
 | b :: l,j,hb,hj=>by
  obtain ⟨u,hu⟩ : ∃ u,C b=[u]:=by
   match hq:C b,hb b zcc with
   | [u],_=>exact ⟨u,rfl⟩
  cases j with
  | zero=>simp [hv,hu]
  | succ j=>simp only [List.set_cons_succ,List.map_cons,List.flatten_cons,hu,List.singleton_append,set_flat hv l j (fun c hc=>hb c (by simp [hc])) (by simpa using hj)]
theorem zbZ {α:Type} {C:α→List Value} {t e:Nat} {x y:Operand} {s:SlV} {l:List α} {a:α} {v:Value} {i:Int} (ht:OneT P t) (hx:evF f x = .pointer (some ⟨s.blk,s.off + i.toNat * 1,none⟩)) (hy:evF f y=v) (hs:Own w 0 e 1 s (l.map C)) (hi:0 ≤ i∧i < l.length) (hv:C a=[v]) (h1:v.oneCell'=true)
  (h : ∀ w',Own w' 0 e 1 s ((l.set i.toNat a).map C)→Chg s.fp w w'→wl P rd n dm ops rest Q f w'):wl P rd n dm ops (⟨none,.store t x y,ty,pos,af,none⟩ :: rest) Q f w:=by
 have hrow : ∀ r ∈ ((l.set i.toNat a).map C),r.length=1:=by
  intro r hr
  obtain ⟨b,hb,rfl⟩ := List.mem_map.1 hr
  rcases List.mem_or_eq_of_mem_set hb with hb | rfl
  ·exact hs.row _ (List.mem_map.2 ⟨b,hb,rfl⟩)
  ·rw [hv]; rfl
 have hone : ∀ b ∈ l,(C b).length=1:=fun b hb=>hs.row _ (List.mem_map.2 ⟨b,hb,rfl⟩)
 have hfl : ∀ {l:List α},(∀ b ∈ l,(C b).length=1)→((l.map C).flatten).length=l.length:=fun h=>by have:=flat_len (k:=1) h; simpa using this
 have hset:=set_flat hv l i.toNat hone zcb
 have hsz:((l.set i.toNat a).map C).flatten.length=l.length:=by rw [hset,List.length_set]; exact hfl hone
 have hll:=hfl hone
 rcases hs.own with ⟨_,hn⟩ | ⟨g,cap,cur,rfl,hlo,hg,hnc,hcs,htk⟩
 ·simp at hn; subst hn; simp at hi; omega
 ·have hlt:i.toNat < cur.toList.length:=by
   simp at hnc hcs; simp; omega
  have hx':evF f x = .pointer (some ⟨g,i.toNat,none⟩):=by rw [hx]; simp [SlV.blk,SlV.off]
  refine yI (l:=cur.toList) (l':=cur.toList.set i.toNat v) ht hx' hy (by show w.heap[g]? = _; simpa using hg) hlt h1 rfl fun w' hb hc _=>?_
  refine h w' ⟨.inr ⟨g,cap,(cur.toList.set i.toNat v).toArray,by simp,hlo,hb,by simpa using hnc,by simpa using hcs,?_⟩,hrow⟩ (hc.mono fun j _ hj=>⟨by simp,by rw [hj]; rfl⟩)
  rw [hset,← htk]
  simp [List.take_set]
theorem add_addr' (b o k:Nat):(⟨b,o,none⟩ : Addr).add k=⟨b,o + k,none⟩ := by unfold Addr.add; split <;> simp_all
theorem does_sliceG {d:Option Tmp} {gd:Option (Nat × Bool)} {t e k l h m:Nat} {x:Operand} {lo hi mx:Option Operand} {s:SlV} (ht:yM P t e k) (hx:evF f x=s.v) (hb:(Instr.sliceBounds true s.n s.c (lo.map (evF f)) (hi.map (evF f)) (mx.map (evF f))).run P w = .ok (l,h,m) w) :
  Does P ⟨d,.slice t x lo hi mx,ty,pos,af,gd⟩ f w (⟨if m=l then s.p else s.p.map (·.add (l * k)),h - l,m - l⟩ : SlV).v w:=by
 have he:P.elem t=e:=by unfold Program.elem; rw [ht.1]
 unfold Does execOp
 simp only [hx,SlV.eq,Sem.run_bind,run_sliceAt_slice (P:=P) w t _ _ _ _ (by rw [he]; exact ht.1)]
 simp only [Instr.slice,Sem.run_bind,run_underlying ht.1,Result.andThen_ok,hb,run_sizeOf ht.2,Sem.run_pure]
theorem bounds_hi {n c:Nat} {kd:IntKind} {i:Int} (h0:0 ≤ i) (h1:i ≤ c):(Instr.sliceBounds true n c none (some (.int kd i)) none).run P w = .ok (0,i.toNat,c) w:=by
 simp [Instr.sliceBounds,run_sliceBound,h0,h1]
theorem bounds_him {n c:Nat} {kd kd':IntKind} {i:Int} (h0:0 ≤ i) (h1:i ≤ c):(Instr.sliceBounds true n c none (some (.int kd i)) (some (.int kd' i))).run P w = .ok (0,i.toNat,i.toNat) w:=by
 have h2:i ≤ (i.toNat:Int):=by omega
 simp [Instr.sliceBounds,run_sliceBound,h0,h1,run_sliceBound (P:=P) w kd i i.toNat .slice3B h0 h2]
theorem bounds_lo {n c:Nat} {kd:IntKind} {i:Int} (h0:0 ≤ i) (h1:i ≤ n):(Instr.sliceBounds true n c (some (.int kd i)) none none).run P w = .ok (i.toNat,n,c) w:=by
 simp [Instr.sliceBounds,run_sliceBound,h0,h1]
theorem does_pre {α:Type} {C:α→List Value} {d:Option Tmp} {gd:Option (Nat × Bool)} {t e k:Nat} {x y:Operand} {s:SlV} {l:List α} {kd:IntKind} {i:Int} (ht:yM P t e k) (hx:evF f x=s.v) (hy:evF f y = .int kd i) (hs:Own w 0 e k s (l.map C)) (hi:0 ≤ i∧i ≤ l.length) :
  Does P ⟨d,.slice t x none (some y) none,ty,pos,af,gd⟩ f w (⟨s.p,i.toNat,s.c⟩ : SlV).v w:=by
 have hn:=hs.sl.len
 rw [List.length_map] at hn
 have:=hs.room
 refine (does_sliceG (l:=0) (h:=i.toNat) (m:=s.c) ht hx (by simp only [Option.map_none,Option.map_some,hy]; exact bounds_hi hi.1 zcb)).val ?_
 cases hp:s.p <;> simp [SlV.eq,hp,Addr.add]
theorem Own.preL {α:Type} {C:α→List Value} {e k:Nat} {s:SlV} {l:List α} {i:Int} (hs:Own w 0 e k s (l.map C)) (hi:0 ≤ i∧i ≤ l.length) {c:Nat} (hc:i.toNat ≤ c) (hc2:c ≤ s.c):Own w 0 e k ⟨s.p,i.toNat,c⟩ ((l.take i.toNat).map C):=by
 rw [List.map_take]
 exact hs.pre (by simp; omega) hc hc2
theorem Own.clip {α:Type} {C:α→List Value} {e k:Nat} {s:SlV} {l:List α} {i:Int} (hs:Own w 0 e k s (l.map C)) (hi:0 ≤ i∧i ≤ l.length):i.toNat ≤ s.c:=by
 have hn:=hs.sl.len
 have:=hs.room
 rw [List.length_map] at hn
 omega
theorem does_suf {α:Type} {C:α→List Value} {d:Option Tmp} {gd:Option (Nat × Bool)} {t e k:Nat} {x y:Operand} {s:SlV} {l:List α} {kd:IntKind} {i:Int} (ht:yM P t e k) (hx:evF f x=s.v) (hy:evF f y = .int kd i) (hs:Rd w k s (l.map C)) (hi:0 ≤ i∧i ≤ l.length) :
  Does P ⟨d,.slice t x (some y) none none,ty,pos,af,gd⟩ f w (⟨if s.c=i.toNat then s.p else s.p.map (·.add (i.toNat * k)),s.n - i.toNat,s.c - i.toNat⟩ : SlV).v w:=by
 have hn:=hs.sl.len
 rw [List.length_map] at hn
 exact does_sliceG (l:=i.toNat) (h:=s.n) (m:=s.c) ht hx (by simp only [Option.map_none,Option.map_some,hy]; exact bounds_lo hi.1 zcb)
theorem Rd.suf {α:Type} {C:α→List Value} {k:Nat} {s:SlV} {l:List α} {i:Int} (hs:Rd w k s (l.map C)) (hi:0 ≤ i∧i ≤ l.length):Rd w k ⟨if s.c=i.toNat then s.p else s.p.map (·.add (i.toNat * k)),s.n - i.toNat,s.c - i.toNat⟩ ((l.drop i.toNat).map C) ∧ ∀ j,SlV.fp ⟨if s.c=i.toNat then s.p else s.p.map (·.add (i.toNat * k)),s.n - i.toNat,s.c - i.toNat⟩ j→s.fp j:=by
 have hn:=hs.sl.len
 rw [List.length_map] at hn
 have hfp : ∀ j,SlV.fp ⟨if s.c=i.toNat then s.p else s.p.map (·.add (i.toNat * k)),s.n - i.toNat,s.c - i.toNat⟩ j→s.fp j:=by
  rintro j ⟨h1,rfl⟩
  cases hp:s.p with
  | none=>simp [hp] at h1
  | some a =>
   refine ⟨by simp [hp],?_⟩
   simp only [SlV.blk,hp]
   by_cases hc:s.c=i.toNat
   ·simp [hc]
   ·simp only [hc,if_false,Option.map_some]; unfold Addr.add; split <;> rfl
 refine ⟨⟨⟨by simp [hn],fun r hr=>?_,fun j r hj=>?_⟩,fun j hj=>hs.lt j (hfp j hj),by have:=hs.room; simp only; omega⟩,hfp⟩
 ·obtain ⟨a,ha,rfl⟩ := List.mem_map.1 hr
  exact hs.sl.row _ (List.mem_map.2 ⟨a,List.mem_of_mem_drop ha,rfl⟩)
 ·have hj':(l.map C)[i.toNat + j]? = some r:=by
   rw [List.getElem?_map] at hj ⊢
   rw [List.getElem?_drop] at hj
   exact hj
  obtain ⟨hp,hc⟩ := hs.sl.cells _ _ hj'
  have hlt:i.toNat + j < l.length:=by
   have:=(List.getElem?_eq_some_iff.1 hj').1; simpa using this
  have hne:¬ s.c=i.toNat:=by have:=hs.room; omega
  have e1:(SlV.mk (if s.c=i.toNat then s.p else s.p.map (·.add (i.toNat * k))) (s.n - i.toNat) (s.c - i.toNat)).p=some ⟨s.blk,s.off + i.toNat * k,none⟩ := by
   simp only [hne,if_false,hp,Option.map_some]; rw [add_addr']
  have e2:SlV.blk (SlV.mk (if s.c=i.toNat then s.p else s.p.map (·.add (i.toNat * k))) (s.n - i.toNat) (s.c - i.toNat))=s.blk:=by
   unfold SlV.blk at *; rw [e1]
  have e3:SlV.off (SlV.mk (if s.c=i.toNat then s.p else s.p.map (·.add (i.toNat * k))) (s.n - i.toNat) (s.c - i.toNat))=s.off + i.toNat * k:=by
   unfold SlV.off at *; rw [e1]
  rw [e2,e3]
  refine ⟨e1,?_⟩
  rw [Nat.add_assoc,← Nat.add_mul]
  exact hc
theorem wl_make1 {α:Type} {C:α→List Value} {dd:Tmp} {t e bytes:Nat} {x y:Operand} {z:α} {v:Value} {i:Int} {kl kc:IntKind} (ht:yM P t e 1) (he:uN P e 1 bytes) (hz:(P.info? e).bind (·.zero)=some v) (hx:evF f x = .int kl i) (hy:evF f y = .int kc i) (hC:C z=[v]) (h1:v.cells = #[v]) (h0:0 ≤ i) (hm:i.toNat * bytes ≤ 140737488355328) (hm2:i.toNat ≤ 16777216) (hd:dd < n)
  (h : ∀ b w' (s:SlV),(Own w' 0 e 1 s ((List.replicate i.toNat z).map C) ∧ ∀ i,s.fp i→i=b)→(Ext w w'∧w.heap.size ≤ b)→wl P rd n dm ops rest Q (upd f dd s.v) w'):wl P rd n dm ops (⟨some dd,.makeSlice t x y,ty,pos,af,none⟩ :: rest) Q f w:=by
 obtain ⟨ti,z',hi,hz',hsz,hby,hzs,_⟩ := he
 have hzv:z'=v:=by rw [hi] at hz; simp only [Option.bind_some,hz'] at hz; exact zce hz
 subst hzv
 obtain ⟨w',hr,hown,hgr⟩ := run_makeSlice_full (P:=P) w 0 t e ti z' 1 ht.1 hi hz' hsz kl kc i.toNat zcb (by rw [hby,Nat.mul_comm]; omega) (by unfold maxLen; omega) (Nat.zero_le _)
 have hb1:bytes * i.toNat ≤ 281474976710656:=by rw [Nat.mul_comm]; omega
 have hb2:(bytes:Int) * (i.toNat:Int) ≤ 281474976710656:=by
  have h:((bytes * i.toNat:Nat):Int) ≤ 281474976710656:=by omega
  rwa [Int.natCast_mul] at h
 have hw':=run_makeSlice (P:=P) (w:=w) t e ti z' ht.1 hi hz' kl kc (i.toNat:Int) (i.toNat:Int) (Int.natCast_nonneg _) (Int.le_refl _) (by rw [hsz,Nat.mul_one,Int.toNat_natCast]; exact hm2) (by rw [hby]; exact hb2) zcb
 have hE:Ext w w':=⟨hgr.os,hgr.tape,hgr.output,hgr.size,fun b hb _=>hgr.block b hb zcc,by
  rw [hr] at hw'
  injection hw' with _ hw2
  rw [hw2]
  exact zbb _ _ (ve.cells _ _)⟩
 have hfl:(madeCells z'.cells (i.toNat * 1)).toList=((List.replicate i.toNat z).map C).flatten:=by
  rw [h1]
  simp only [madeCells,Array.toList_map,Array.toList_range,List.map_replicate,hC]
  refine List.ext_getElem? fun j=>?_
  by_cases hj:j < i.toNat
  ·have:(List.replicate i.toNat [z']).flatten=List.replicate i.toNat z':=by
    generalize i.toNat=m
    induction m with
    | zero=>rfl
    | succ m ih=>simp [List.replicate_succ,ih]
   rw [this]
   simp [hj,Nat.mod_one]
  ·have:(List.replicate i.toNat [z']).flatten=List.replicate i.toNat z':=by
    generalize i.toNat=m
    induction m with
    | zero=>rfl
    | succ m ih=>simp [List.replicate_succ,ih]
   rw [this]
   simp [hj]
 refine zi (v:=(⟨some ⟨w.heap.size,0,none⟩,i.toNat,i.toNat⟩ : SlV).v) (w':=w') ?_ hd (h w.heap.size w' _ ⟨Own.of ?_ ?_,fun j hj=>hj.2⟩ ⟨hE,Nat.le_refl _⟩)
 ·unfold Does execOp
  simp only [hx,hy]
  rw [show i=(i.toNat:Int) by omega,SlV.eq]
  simp only [Int.toNat_natCast]
  simp only [Sem.run_bind,hr,Result.andThen_ok,Sem.run_pure]
 ·rw [SlV.eq]; simp only [List.length_map,List.length_replicate]; rw [← hfl]; exact hown
 ·intro r hr
  obtain ⟨b,hb,rfl⟩ := List.mem_map.1 hr
  rw [(List.mem_replicate.1 hb).2,hC]; rfl
end
section
variable {A:Nat→Prop} {N:Oth} {w0 w w':World} {L Z:List OA}
theorem St.lit (h:St A N w0 w L Z) {α:Type} {C:α→List Value} {l:List α} {e k b:Nat} {s:SlV} (ho:Own w' 0 e k s (l.map C) ∧ ∀ i,s.fp i→i=b) (hx:Ext w w'∧w.heap.size ≤ b) (hl:l.length ≤ 140737488355328):St A N w0 w' (oS e k C s l :: L) Z :=
 h.add (b:=oS e k C s l) (G:=s.fp) hx.1 ⟨⟨ho.1,hl⟩,fun _=>Iff.rfl⟩ (fun i hi=>by rw [ho.2 i hi]; exact hx.2)
theorem St.away (h:St A N w0 w L Z) (n:Nat) {e k:Nat} {α:Type} {C:α→List Value} {s:SlV} {l:List α} {L':List OA} (q:L[n]? = some (oS e k C s l):=by rfl) (q':L.eraseIdx n=L':=by rfl) {v:World} (hc:Chg s.fp w v):St A (N.or s.fp) w0 v L' Z:=by
 subst q'
 obtain ⟨U,hU,hN,hA,hL,hZ,hW⟩ := h
 obtain ⟨F,hF,hFU,hR⟩ := hL.front n q
 have hlt : ∀ i,s.fp i→U i:=fun i hi=>hFU i ((hF.2 i).2 hi)
 refine ⟨fun i=>U i∧¬ F i,fun i hi=>⟨(hU i hi.1).1,Nat.lt_of_lt_of_le (hU i hi.1).2.1 hc.size,fun q=>q.elim (hU i hi.1).2.2 (fun q=>hi.2 ((hF.2 i).2 q))⟩,fun i hi=>Nat.lt_of_lt_of_le (hi.elim (hN i) (fun q=>(hU i (hlt i q)).2.1)) hc.size,hA.thenChg hc (fun i hi hs=>((hU i (hlt i hs)).1).elim id (fun q=>absurd hi zcb)),Sep.chg hc hR (fun i hi hs=>hi.2 ((hF.2 i).2 hs)),fun z hz=>?_,Wat.chg (N:=N) hW hc (fun i hi=>(hU i (hlt i hi)).2.2)⟩
 obtain ⟨G,g,hG⟩ := hZ z hz
 refine ⟨G,z.loc g hc (fun i hi hs=>hG i hi (.inl (hlt i hs))),fun i hi q=>hG i hi ?_⟩
 rcases q with q | q | q
 ·exact .inl q.1
 ·exact .inr q
 ·exact .inl (hlt i q)
def NewZ (w w':World) (Zs:List OA):Prop := ∀ z ∈ Zs,∃ F,z.holds w' F ∧ ∀ i,F i→w.heap.size ≤ i
theorem NewZ.nil:NewZ w w' []:=fun _ h=>by simp at h
theorem NewZ.s {k:Nat} {α:Type} {C:α→List Value} {s:SlV} {l:List α} {Zs:List OA} (hr:Rd w' k s (l.map C)) (hl:l.length ≤ 140737488355328) (hf : ∀ i,s.fp i→w.heap.size ≤ i) (h:NewZ w w' Zs):NewZ w w' (fS k C s l :: Zs):=fun z hz=>by
 rcases List.mem_cons.1 hz with rfl | hz
 ·exact ⟨s.fp,⟨⟨hr,hl⟩,fun _=>Iff.rfl⟩,hf⟩
 ·exact h z hz
theorem St.addZs (h:St A N w0 w L Z) (hc:Ext w w') {Zs Z':List OA} (hz:NewZ w w' Zs) (e:Zs ++ Z=Z':=by rfl):St A N w0 w' L Z':=by
 subst e
 obtain ⟨U,hU,hN,hA,hL,hZ,hW⟩ := h
 refine ⟨U,fun i hi=>⟨(hU i hi).1,Nat.lt_of_lt_of_le (hU i hi).2.1 hc.size,(hU i hi).2.2⟩,fun i hi=>Nat.lt_of_lt_of_le (hN i hi) hc.size,hA.thenExt hc,Sep.chg hc hL (fun _ _ x=>x),fun z hz'=>?_,hW.chg hc (fun _ x=>x.elim)⟩
 rcases List.mem_append.1 hz' with hz' | hz'
 ·obtain ⟨F,g,hF⟩ := hz z hz'
  refine ⟨F,g,fun i hi q=>?_⟩
  have:=hF i hi
  rcases q with q | q
  ·exact absurd (hU i q).2.1 zcb
  ·exact absurd (hN i q) zcb
 ·exact (hZ.chg hc (fun _ x=>x.elim) (fun _ hi => .inl hi)) z hz'
theorem St.newAt (h:St A N w0 w L Z) (hc:Ext w w') {b t:Nat} {l:List Value} (hb:Blk w' b t l) (hl:w.heap.size ≤ b):St A N w0 w' (oB b t l :: L) Z :=
 h.add (b:=oB b t l) (G:=(· = b)) hc ⟨hb,fun _=>Iff.rfl⟩ (fun i hi=>by rw [hi]; exact hl)
end
end Gw
end
section
open Go.RowKit
namespace Gw
def ws (P:Program) (rd:Option Nat) (n:Nat) (dm:List Nat) (l:List Oper) (lo:Nat) (Q:Post) (f:Fr) (w:World):Prop :=
 ∀ (a:Act) (listed:Array Bool),Is n dm a f→listed.size=l.length→Closed l.toArray listed→(∀ j,j < l.length→(listed.getD j false=true↔j < lo))→wpAnyIn (fen rd) 0 P .any l.toArray (lift n Q) (l.length - lo) listed a w
def drawS (ops:Array Oper) (m:Nat):Bool :=
 (ops.toList.take m).all (fun o=>o.dst.isSome) &&
 decide (((ops.toList.take m).filterMap (·.dst)).Nodup) &&
 ops.toList.zipIdx.all (fun q=>q.1.after.toList.all fun e => !Region.binds .any e || decide (e.on < q.2)) &&
 ops.toList.zipIdx.all (fun q=>decide (q.2 < m) || (List.range m).all fun i=>((Region.before ops).getD q.2 0).testBit i) &&
 decide (m ≤ ops.size)
def chainS (ops:Array Oper) (lo hi:Nat):Bool :=
 ops.toList.zipIdx.all (fun q=>q.1.after.toList.all fun e => !Region.binds .any e || decide (e.on < q.2)) &&
 ops.toList.zipIdx.all (fun q=>decide (q.2 < lo) || (List.range (min q.2 hi)).all fun i=>((Region.before ops).getD q.2 0).testBit i) &&
 decide (hi ≤ ops.size)
theorem cnt_pre (listed:Array Bool) (m n:Nat) (hmn:m ≤ n) (h1 : ∀ j,j < m→listed.getD j false=true) (h2 : ∀ j,m ≤ j→j < n→listed.getD j false=false):cnt listed n=m:=by
 have hz : ∀ k,m ≤ k→k ≤ n→cnt listed k=m:=by
  intro k
  induction k with
  | zero=>intro h _; rw [show m=0 by omega]; rfl
  | succ k ihk =>
   intro h3 h4
   by_cases hk:m ≤ k
   ·rw [kh,ihk hk zcb,h2 k hk zcb]; simp
   ·have:k + 1=m:=by omega
    rw [this]
    exact kg listed m h1
 exact hz n hmn (Nat.le_refl _)
section
variable {P:Program} {rd:Option Nat} {n m:Nat} {dm:List Nat} {ops:Array Oper} {Q:Post} {f:Fr} {w:World}
theorem wc_ws {id:Nat} {l:List Oper} (hm:P.follows .mixedOrders=true) (h : ∀ w',Ext w w'→ws P rd n dm l 0 Q f w'):wc P rd n dm (.region id l.toArray true) Q f w:=by
 intro a ha
 refine wpIn_region_any hm ?_
 have:=h _ (Ext.drawn w) a (Array.replicate l.toArray.size false) ha zcc (by intro j o _ h; rw [xR] at h; cases h) (by intro j _; rw [xR]; simp)
 simpa using this
theorem back_of {l:List Oper} (hback : ∀ q ∈ l.toArray.toList.zipIdx,(q.1.after.toList.all fun e => !Region.binds .any e || decide (e.on < q.2))=true):Back l.toArray:=by
 intro i o hi e he hbd
 have:=List.all_eq_true.1 (hback (o,i) (by
  rw [List.mem_zipIdx_iff_getElem?]
  simpa using hi)) e (by simpa using he)
 simp only [hbd,Bool.not_true,Bool.false_or,decide_eq_true_eq] at this
 exact this
theorem ord_of {l:List Oper} {k j:Nat} (hk:k < l.length) (h2:((Region.before l.toArray).getD k 0).testBit j=true) {listed:Array Bool} (hr:k ∈ Region.ready .any l.toArray listed) (hc:Closed l.toArray listed):listed.getD j false=true:=by
 rw [mem_ready] at hr
 obtain ⟨_,o,ho',hall⟩ := hr
 refine uw hc [] #[] rfl zcc zcc l.toArray.toList zcc k (by simpa using hk) j ?_ ?_
 ·unfold Region.before at h2
  rw [← Array.foldl_toList] at h2
  exact h2
 ·rw [ho']
  simpa using hall
theorem ws_chain {l:List Oper} (lo hi:Nat) (hB:chainS l.toArray lo hi=true) (hlh:lo ≤ hi) (h:wl P rd n dm l.toArray ((l.take hi).drop lo) (fun dm' e f' w'=>e = .normal∧ws P rd n dm' l hi Q f' w') f w):ws P rd n dm l lo Q f w:=by
 simp only [chainS,Bool.and_eq_true,decide_eq_true_eq] at hB
 obtain ⟨⟨hback,htail⟩,hhi⟩ := hB
 rw [List.all_eq_true] at hback htail
 simp only [List.size_toArray] at hhi
 have hb:Back l.toArray:=back_of hback
 have hord : ∀ k,lo ≤ k→k < l.length → ∀ listed:Array Bool,k ∈ Region.ready .any l.toArray listed→Closed l.toArray listed → ∀ j,j < k→j < hi→listed.getD j false=true:=by
  intro k hmk hk listed hr hc j hj hjh
  have h1:=htail (l[k],k) (by
   rw [List.mem_zipIdx_iff_getElem?]
   simp)
  simp only [Bool.or_eq_true,decide_eq_true_eq] at h1
  rcases h1 with h1 | h1
  ·omega
  ·rw [List.all_eq_true] at h1
   exact ord_of hk (h1 j (by simp; omega)) hr hc
 intro a listed ha hs hc hl
 have hR:=h a ha
 clear h
 have main : ∀ (fuel k:Nat) (listed:Array Bool) (a:Act) (w:World),lo ≤ k→k ≤ hi→listed.size=l.length→Closed l.toArray listed→(∀ j,j < l.length→(listed.getD j false=true↔j < k))→fuel + k=hi →
   wpListIn (fen rd) 0 P l.toArray (lift n (fun dm' e f' w'=>e = .normal∧ws P rd n dm' l hi Q f' w')) ((l.take hi).drop k) a w→wpAnyIn (fen rd) 0 P .any l.toArray (lift n Q) (l.length - k) listed a w:=by
  intro fuel
  induction fuel with
  | zero =>
   intro k listed a w hlk hkh hs hc hl hf h
   have:k=hi:=by omega
   subst this
   rw [List.drop_eq_nil_of_le (by simp; omega)] at h
   obtain ⟨dm',f',ha',_,hws⟩ := h
   exact hws a listed ha' hs hc hl
  | succ fuel ih =>
   intro k listed a w hlk hkh hs hc hl hf h
   have hs':listed.size=l.toArray.size:=by simpa using hs
   have hkl:k < l.length:=by omega
   have hd:(l.take hi).drop k=l[k] :: (l.take hi).drop (k + 1):=by
    rw [List.drop_eq_getElem_cons (by simp; omega)]
    simp
   rw [hd] at h
   rw [show l.length - k=(l.length - (k + 1)) + 1 by omega]
   refine ⟨fun hr=>?_,fun i hi'=>?_⟩
   ·have:=ready_nil hb hs' hr k (by simpa using hkl)
    rw [hl k hkl] at this
    omega
   ·obtain ⟨h1,h2⟩ := ul hs' hi'
    have h1':i < l.length:=by simpa using h1
    have hge:k ≤ i:=by
     refine Nat.le_of_not_lt fun hlt=>?_
     rw [(hl i h1').2 hlt] at h2
     cases h2
    have hik:i=k:=by
     by_cases hki:k < i
     ·have:=hord i zcb h1' listed hi' hc k hki zcb
      rw [hl k hkl] at this
      omega
     ·omega
    subst hik
    have h':=wpOp_of_wpList (i:=i) (o:=l[i]) zcc h
    have hr' : ∀ e a w,lift n (fun dm' e f' w'=>e = .normal∧ws P rd n dm' l hi Q f' w') e a w→e = .normal:=by
     rintro e a w ⟨_,_,_,he,_⟩; exact he
    unfold wpOpIn at h' ⊢
    rw [show l.toArray[i]? = some l[i] by simp] at h' ⊢
    have hstep : ∀ a' w',wpListIn (fen rd) 0 P l.toArray (lift n (fun dm' e f' w'=>e = .normal∧ws P rd n dm' l hi Q f' w')) ((l.take hi).drop (i + 1)) a' w'→wpAnyIn (fen rd) 0 P .any l.toArray (lift n Q) (l.length - (i + 1)) (listed.setIfInBounds i true) a' w':=by
     intro a' w' h''
     refine ih (i + 1) _ a' w' zcb zcb (by simpa using hs) (hc.set hs' hi') (fun j hj=>?_) zcb h''
     rw [yN _ _ _ zcb]
     by_cases hij:i=j
     ·subst hij; simp
     ·rw [if_neg hij,hl j hj]
      omega
    show if _ then _ else _
    have h':if _ then _ else _:=h'
    split at h'
    ·rename_i hw
     rw [if_pos hw]
     exact upon_mono2 hstep (fun e a w he q=>absurd (hr' e a w q) he) h'
    ·rename_i hw
     rw [if_neg hw]
     exact ⟨h'.1,hstep _ _ h'.2⟩
 exact main (hi - lo) lo listed a w (Nat.le_refl _) hlh hs hc hl zcb hR
theorem ws_tail {l:List Oper} (lo:Nat) (hB:chainS l.toArray lo l.length=true) (hlo:lo ≤ l.length) (h:wl P rd n dm l.toArray (l.drop lo) Q f w):ws P rd n dm l lo Q f w:=by
 simp only [chainS,Bool.and_eq_true,decide_eq_true_eq] at hB
 obtain ⟨⟨hback,htail⟩,hhi⟩ := hB
 rw [List.all_eq_true] at hback htail
 have hb:Back l.toArray:=back_of hback
 have hord : ∀ k,lo ≤ k→k < l.toArray.size → ∀ listed:Array Bool,listed.size=l.toArray.size→k ∈ Region.ready .any l.toArray listed→Closed l.toArray listed → ∀ j,j < k→listed.getD j false=true:=by
  intro k hmk hk listed _ hr hc j hj
  have hkl:k < l.length:=by simpa using hk
  have h1:=htail (l[k],k) (by
   rw [List.mem_zipIdx_iff_getElem?]
   simp)
  simp only [Bool.or_eq_true,decide_eq_true_eq] at h1
  rcases h1 with h1 | h1
  ·omega
  ·rw [List.all_eq_true] at h1
   exact ord_of hkl (h1 j (by simp; omega)) hr hc
 intro a listed ha hs hc hl
 exact any_tail (rd:=rd) (P:=P) (m:=lo) (R:=lift n Q) hb hord (l.length - lo) lo listed a w (Nat.le_refl _) (by simpa using hs) hc (by simpa using hl) (by simp; omega) (h a ha)
theorem ws_draw {l:List Oper} (lo m:Nat) (D:Draw) (hB:drawS l.toArray m=true) (hlm:lo ≤ m)
  (hst : ∀ L i v w w',L i=true→D.Le L w w'→D.V i v w→D.V i v w') (hT:D.T (fun j=>decide (j < lo)) w) (hV0 : ∀ j o,j < lo→l[j]? = some o→D.V j (f (o.dst.getD 0)) w)
  (ho:Owes P rd n dm l.toArray ((l.take m).filterMap (·.dst)) D f (l.take m) 0)
  (hq : ∀ L g w,(∀ j,L j=decide (j < m))→D.T L w→allV D g w (l.take m) 0 (ws P rd n dm l m Q (mask ((l.take m).filterMap (·.dst)) g f) w)):ws P rd n dm l lo Q f w:=by
 intro a listed0 ha hs0 hc0 hl0
 simp only [drawS,Bool.and_eq_true,decide_eq_true_eq,List.all_eq_true] at hB
 obtain ⟨⟨⟨⟨hsome,hnd⟩,hback⟩,htail⟩,hml⟩ := hB
 simp only [List.size_toArray] at hml
 generalize hds:(l.take m).filterMap (·.dst)=ds at *
 have hb:Back l.toArray:=by
  intro i o hi e he hbd
  have:=hback (o,i) (by
   rw [List.mem_zipIdx_iff_getElem?]
   simpa using hi) e (by simpa using he)
  simp only [hbd,Bool.not_true,Bool.false_or,decide_eq_true_eq] at this
  exact this
 have hord : ∀ k,m ≤ k→k < l.toArray.size → ∀ listed:Array Bool,listed.size=l.toArray.size→k ∈ Region.ready .any l.toArray listed→Closed l.toArray listed → ∀ j,j < m→listed.getD j false=true:=by
  intro k hmk hk listed hs hr hc j hj
  have hkl:k < l.length:=by simpa using hk
  have h1:=htail (l[k],k) (by
   rw [List.mem_zipIdx_iff_getElem?]
   simp)
  simp only [Bool.or_eq_true,decide_eq_true_eq] at h1
  rcases h1 with h1 | h1
  ·omega
  ·rw [List.all_eq_true] at h1
   have h2:=h1 j (by simpa using hj)
   rw [mem_ready] at hr
   obtain ⟨_,o,ho',hall⟩ := hr
   refine uw hc [] #[] rfl zcc zcc l.toArray.toList zcc k hk j ?_ ?_
   ·unfold Region.before at h2
    rw [← Array.foldl_toList] at h2
    exact h2
   ·rw [ho']
    simpa using hall
 have hmd : ∀ j o,(l.take m)[j]? = some o→j < m∧l.toArray[j]? = some o ∧ ∃ d,o.dst=some d∧d ∈ ds:=by
  intro j o hj
  have hjm:j < m:=by
   have:=(List.getElem?_eq_some_iff.1 hj).1
   simp at this; omega
  have hjo:l[j]? = some o:=by rw [List.getElem?_take] at hj; simpa [hjm] using hj
  have hso:=hsome o (List.mem_of_getElem? hj)
  cases hd:o.dst with
  | none=>rw [hd] at hso; simp at hso
  | some d=>exact ⟨hjm,by simpa using hjo,d,rfl,by rw [← hds]; exact List.mem_filterMap.2 ⟨o,List.mem_of_getElem? hj,hd⟩⟩
 have hinj : ∀ (i j:Nat) (oi oj:Oper) (d:Nat),(l.take m)[i]? = some oi→(l.take m)[j]? = some oj→oi.dst=some d→oj.dst=some d→i=j:=by
  have hgen : ∀ (L:List Oper),(L.filterMap (·.dst)).Nodup → ∀ (i j:Nat) (oi oj:Oper) (d:Nat),L[i]? = some oi→L[j]? = some oj→oi.dst=some d→oj.dst=some d→i=j:=by
   intro L
   induction L with
   | nil=>intro _ i j oi oj d h; simp at h
   | cons o L ih =>
    intro hn i j oi oj d hi hj hdi hdj
    have hn':(L.filterMap (·.dst)).Nodup:=by
     rw [List.filterMap_cons] at hn
     split at hn
     ·exact hn
     ·exact (List.nodup_cons.1 hn).2
    have hno : ∀ (k:Nat) (ok:Oper) (dd:Nat),L[k]? = some ok→o.dst=some dd→ok.dst ≠ some dd:=by
     intro k ok dd hk hod hkd
     rw [List.filterMap_cons,hod] at hn
     exact (List.nodup_cons.1 hn).1 (List.mem_filterMap.2 ⟨ok,List.mem_of_getElem? hk,hkd⟩)
    cases i with
    | zero =>
     cases j with
     | zero=>rfl
     | succ j=>simp at hi; subst hi; exact absurd hdj (hno j oj d (by simpa using hj) hdi)
    | succ i =>
     cases j with
     | zero=>simp at hj; subst hj; exact absurd hdi (hno i oi d (by simpa using hi) hdj)
     | succ j=>rw [ih hn' i j oi oj d (by simpa using hi) (by simpa using hj) hdi hdj]
  exact hgen _ (by rw [hds]; exact hnd)
 have main : ∀ (fuel:Nat) (listed:Array Bool) (g:Fr) (a:Act) (w:World),listed.size=l.length→fuel + cnt listed l.length=l.length→Closed l.toArray listed→(∀ j,m ≤ j→j < l.length→listed.getD j false=false) →
   Is n dm a (mask ds g f)→D.T (fun j=>listed.getD j false) w→(∀ j o,(l.take m)[j]? = some o→listed.getD j false=true→D.V j (g (o.dst.getD 0)) w)→wpAnyIn (fen rd) 0 P .any l.toArray (lift n Q) fuel listed a w:=by
  intro fuel
  induction fuel with
  | zero =>
   intro listed g a w hs hcnt hc hno ha hT hV
   have hall:=zbR listed l.length zcb
   have hm':m=l.length:=by
    by_cases h:m < l.length
    ·have:=hno m (Nat.le_refl _) h
     rw [hall m h] at this
     cases this
    ·omega
   have hfin:=uh (l.take m) 0 (fun j o hj=>by rw [Nat.zero_add]; exact hV j o hj (hall j (by have:=(hmd j o hj).1; omega))) (hq _ g w (fun j=>by
    by_cases hj:j < l.length
    ·rw [hall j hj,decide_eq_true zcb]
    ·rw [uk listed j zcb,decide_eq_false zcb]) hT)
   have hf0:=hfin a listed ha hs hc (fun j hj=>⟨fun _=>by omega,fun _=>hall j hj⟩)
   rw [show l.length - m=0 by omega] at hf0
   exact hf0
  | succ fuel ih =>
   intro listed g a w hs hcnt hc hno ha hT hV
   have hs':listed.size=l.toArray.size:=by simpa using hs
   refine ⟨fun hr=>?_,fun i hi=>?_⟩
   ·have hall:=ready_nil hb hs' hr
    have:=kg listed l.length (fun j hj=>hall j (by simpa using hj))
    omega
   ·obtain ⟨h1,h2⟩ := ul hs' hi
    have h1':i < l.length:=by simpa using h1
    by_cases him:i < m
    ·have hio:(l.take m)[i]? = some l[i]:=by
      rw [List.getElem?_take,if_pos him]
      exact List.getElem?_eq_getElem h1'
     obtain ⟨_,hio',d,hd,hdds⟩ := hmd i _ hio
     have howe:=owes_at _ 0 ho i _ hio (fun j=>listed.getD j false) g w (by rw [Nat.zero_add]; exact h2) hT
     rw [Nat.zero_add] at howe
     have hready:=hi
     rw [mem_ready] at hready
     obtain ⟨_,o,hoo,hall⟩ := hready
     rw [hio'] at hoo
     cases hoo
     have hwl:=jY (ops:=l.toArray) (y3 l[i]) (fun j hj=>by
      unfold y3 at hj
      obtain ⟨e,he,rfl⟩ := List.mem_map.1 hj
      obtain ⟨he1,he2⟩ := List.mem_filter.1 he
      have hbd:Region.binds .any e=true:=by
       unfold Region.binds
       cases hg:e.ground <;> rw [hg] at he2 <;> simp at he2 ⊢
      have hlt:=hb i _ hio' e (by simpa using he1) hbd
      have hlst:=hall e (by simpa using he1) hbd
      have hjm:e.on < m:=by omega
      have hjo:(l.take m)[e.on]? = some l[e.on]:=by
       rw [List.getElem?_take,if_pos hjm]
       exact List.getElem?_eq_getElem zcb
      have:=hV e.on _ hjo hlst
      unfold yO
      obtain ⟨_,hj2,dj,hdj,_⟩ := hmd _ _ hjo
      rw [hj2]
      simp only [Option.bind_some]
      exact this) howe
     rw [hd] at hwl
     refine zbi hio' hwl (fun dm e f' w' q=>q.1) ?_ ha
     rintro dm' a' f' w' ha' ⟨_,rfl,hT',hL',v,rfl,hV'⟩
     have hmask:upd (mask ds g f) d v=mask ds (upd g d v) f:=by
      funext k
      by_cases hk:k=d
      ·subst hk
       rw [upd_same,xW hdds,upd_same]
      ·rw [zF _ _ _ _ hk]
       by_cases hkd:k ∈ ds
       ·rw [xW hkd,xW hkd,zF _ _ _ _ hk]
       ·rw [xJ hkd,xJ hkd]
     simp only [Option.getD_some] at ha'
     rw [hmask] at ha'
     rw [zbf listed i zcb] at hT'
     refine ih _ (upd g d v) a' w' (by simpa using hs) ?_ (hc.set hs' hi) ?_ ha' hT' ?_
     ·rw [zaD listed i zcb h2,if_pos h1']; omega
     ·intro j hmj hjl
      rw [yN _ _ _ zcb,if_neg zcb]
      exact hno j hmj hjl
     ·intro j oj hj hlj
      obtain ⟨_,_,dj,hdj,_⟩ := hmd j oj hj
      rw [yN _ _ _ zcb] at hlj
      by_cases hij:i=j
      ·subst hij
       rw [hio] at hj
       cases hj
       rw [hd]
       simp only [Option.getD_some,upd_same]
       exact hV'
      ·rw [if_neg hij] at hlj
       have hne:dj ≠ d:=fun e=>hij (hinj i j _ oj d hio hj hd (by rw [hdj,e]))
       have:=hst _ j _ _ _ hlj hL' (hV j oj hj hlj)
       rw [hdj] at this ⊢
       simp only [Option.getD_some] at this ⊢
       rw [zF _ _ _ _ hne]
       exact this
    ·have hallj:=hord i zcb h1 listed hs' hi hc
     have hfin:=uh (l.take m) 0 (fun j o hj=>by rw [Nat.zero_add]; exact hV j o hj (hallj j (by have:=(hmd j o hj).1; omega))) (hq _ g w (fun j=>by
      by_cases hj:j < m
      ·rw [hallj j hj,decide_eq_true hj]
      ·rw [decide_eq_false hj]
       by_cases hjl:j < l.length
       ·exact hno j zcb hjl
       ·exact uk listed j zcb) hT)
     have hf0:=hfin a listed ha hs hc (fun j hj=>⟨(fun h=>by
      refine Nat.lt_of_not_le fun hij=>?_
      rw [hno j hij hj] at h
      cases h),hallj j⟩)
     have hcn:=cnt_pre listed m l.length zcb hallj hno
     rw [show l.length - m=fuel + 1 by omega] at hf0
     exact hf0.2 i hi
 have h0:Is n dm a (mask ds f f):=by
  have:mask ds f f=f:=by funext k; unfold mask; cases ds.elem k <;> rfl
  rw [this]; exact ha
 have hlm':lo ≤ l.length:=by omega
 have hz:=cnt_pre listed0 lo l.length hlm' (fun j hj=>(hl0 j zcb).2 hj) (fun j h1 h2=>by
  cases h:listed0.getD j false with
  | false=>rfl
  | true=>have:=(hl0 j h2).1 h; omega)
 refine main _ listed0 f a w hs0 (by rw [hz]; omega) hc0 (fun j h1 h2=>?_) h0 ?_ ?_
 ·cases h:listed0.getD j false with
  | false=>rfl
  | true=>have:=(hl0 j h2).1 h; omega
 ·have he:(fun j=>listed0.getD j false)=fun j=>decide (j < lo):=by
   funext j
   by_cases hj:j < l.length
   ·cases h:listed0.getD j false with
    | true=>rw [decide_eq_true ((hl0 j hj).1 h)]
    | false =>
     refine (decide_eq_false fun h'=>?_).symm
     rw [(hl0 j hj).2 h'] at h; cases h
   ·rw [uk _ _ zcb,decide_eq_false zcb]
  rw [he]; exact hT
 ·intro j o hj hlj
  obtain ⟨hjm,hjo,_⟩ := hmd j o hj
  exact hV0 j o ((hl0 j zcb).1 hlj) (by simpa using hjo)
def needsS (ops:Array Oper) (lo m n:Nat) (sm:List Nat):Bool :=
 let ds:=(ops.toList.take m).filterMap (·.dst)
 sm.all (fun k=>decide (lo ≤ k) && decide (k < m)) && (ops.toList.take m).zipIdx.all fun q=>decide (q.2 < lo) || (let o:=q.1
  (o.op.operands.toList.all fun x=>match x with
   | .tmp t => !ds.elem t || (y3 o).any fun j=>(((ops[j]?).bind (·.dst)) == some t) && (sm.elem q.2 || !sm.elem j)
   | _=>true) &&
  (match o.guard with
   | none=>true
   | some (j,_)=>(y3 o).elem j && (((ops[j]?).bind (·.dst)).any fun t=>decide (t < n)) && !sm.elem j) &&
  (match o.op with | .select .. => false | _=>true) &&
  (match o.dst with | some d=>decide (d < n) | none=>false))
theorem zbA {l:List Oper} {V:Veil} (lo m:Nat) (sm:List Nat) (hB:drawS l.toArray m=true) (hlm:lo ≤ m) (hN:needsS l.toArray lo m n sm=true)
  (hst : ∀ i v w w',sm.elem i=true→Ext w w'→V i v w→V i v w')
  (h:wm P l.toArray w V sm (vK l.toArray sm) ((l.take m).drop lo) lo (fun f' => ∀ g w',Ext w w'→(∀ i,sm.elem i=true→i < m→V i (g (yO l.toArray i)) w')→ws P rd n dm l m Q (mask (vK l.toArray sm) g f') w') f):ws P rd n dm l lo Q f w:=by
 obtain ⟨F0,hF0',hFK,hF'⟩ := wm_vals _ _ _ h
 simp only [needsS,Bool.and_eq_true] at hN
 obtain ⟨hsm,hN⟩ := hN
 have hB':=hB
 simp only [drawS,Bool.and_eq_true,decide_eq_true_eq,List.all_eq_true] at hB
 obtain ⟨⟨⟨⟨hsome,hnd⟩,hback⟩,htail⟩,hml⟩ := hB
 simp only [List.size_toArray] at hml
 have hlen:(l.take m).length=m:=by simp; omega
 have hlen':lo + ((l.take m).drop lo).length=m:=by rw [List.length_drop,hlen]; omega
 rw [hlen'] at hFK
 obtain ⟨F,hF0,hFm,hF,hFlo⟩ : ∃ F:Nat→Fr,F 0=f∧F m=F0 m∧(∀ (k:Nat) (o:Oper),lo ≤ k→(l.take m)[k]? = some o →
   (sm.elem k=true→(∀ g,SOp P l.toArray w o (mask (vK l.toArray sm) g (F k)) (fun w=>givs l.toArray V sm g w o) (V k))∧F (k + 1)=F k)∧(sm.elem k=false → ∃ v,SOp P l.toArray w o (F k) (fun _=>True) (fun v' _=>v'=v)∧F (k + 1)=upd (F k) (o.dst.getD 0) v)) ∧ ∀ k,k ≤ lo→F k=f:=by
  refine ⟨fun k=>if k ≤ lo then f else F0 k,by simp,?_,?_,fun k hk=>if_pos hk⟩
  ·show (if m ≤ lo then f else F0 m)=F0 m
   split
   ·rw [show m=lo by omega,hF0']
   ·rfl
  ·intro k o hlk hk
   have hk0:(if k ≤ lo then f else F0 k)=F0 k:=by
    split
    ·rw [show k=lo by omega,hF0']
    ·rfl
   have hk1:(if k + 1 ≤ lo then f else F0 (k + 1))=F0 (k + 1):=if_neg zcb
   simp only [hk0,hk1]
   have:=hF' (k - lo) o (by rw [List.getElem?_drop,show lo + (k - lo)=k by omega]; exact hk)
   rw [show lo + (k - lo)=k by omega] at this
   exact this
 rw [← hFm] at hFK
 generalize hss:vK l.toArray sm=ss at *
 let U:Veil:=fun i v w=>if sm.elem i=true then V i v w else ∀ o,(l.take m)[i]? = some o→v=F (i + 1) (o.dst.getD 0)
 have hdist : ∀ (i j:Nat) (oi oj:Oper) (d:Nat),(l.take m)[i]? = some oi→(l.take m)[j]? = some oj→oi.dst=some d→oj.dst=some d→i=j:=by
  have hgen : ∀ (L:List Oper),(L.filterMap (·.dst)).Nodup → ∀ (i j:Nat) (oi oj:Oper) (d:Nat),L[i]? = some oi→L[j]? = some oj→oi.dst=some d→oj.dst=some d→i=j:=by
   intro L
   induction L with
   | nil=>intro _ i j oi oj d h; simp at h
   | cons o L ih =>
    intro hn i j oi oj d hi hj hdi hdj
    have hn':(L.filterMap (·.dst)).Nodup:=by
     rw [List.filterMap_cons] at hn
     split at hn
     ·exact hn
     ·exact (List.nodup_cons.1 hn).2
    have hno : ∀ (k:Nat) (ok:Oper) (dd:Nat),L[k]? = some ok→o.dst=some dd→ok.dst ≠ some dd:=by
     intro k ok dd hk hod hkd
     rw [List.filterMap_cons,hod] at hn
     exact (List.nodup_cons.1 hn).1 (List.mem_filterMap.2 ⟨ok,List.mem_of_getElem? hk,hkd⟩)
    cases i with
    | zero =>
     cases j with
     | zero=>rfl
     | succ j=>simp at hi; subst hi; exact absurd hdj (hno j oj d (by simpa using hj) hdi)
    | succ i =>
     cases j with
     | zero=>simp at hj; subst hj; exact absurd hdi (hno i oi d (by simpa using hi) hdj)
     | succ j=>rw [ih hn' i j oi oj d (by simpa using hi) (by simpa using hj) hdi hdj]
  exact hgen _ hnd
 have hdst : ∀ (i:Nat) (o:Oper),(l.take m)[i]? = some o → ∃ d,o.dst=some d:=by
  intro i o hi
  have:=hsome o (List.mem_of_getElem? hi)
  cases hd:o.dst with
  | none=>rw [hd] at this; simp at this
  | some d=>exact ⟨d,rfl⟩
 have hat : ∀ (i:Nat) (o:Oper),(l.take m)[i]? = some o→i < m∧l.toArray[i]? = some o:=by
  intro i o hi
  have him:i < m:=by have:=(List.getElem?_eq_some_iff.1 hi).1; omega
  exact ⟨him,by rw [List.getElem?_take,if_pos him] at hi; simpa using hi⟩
 have hsmd : ∀ k ∈ sm,∃ o,(l.take m)[k]? = some o∧o.dst=some (yO l.toArray k):=by
  intro k hk
  have hkm:k < m:=by have:=List.all_eq_true.1 hsm k hk; simp only [Bool.and_eq_true,decide_eq_true_eq] at this; omega
  have hkl:k < (l.take m).length:=by omega
  obtain ⟨d,hd⟩ := hdst k _ (List.getElem?_eq_getElem hkl)
  refine ⟨_,List.getElem?_eq_getElem hkl,?_⟩
  have:=(hat k _ (List.getElem?_eq_getElem hkl)).2
  unfold yO
  rw [this,Option.bind_some,hd]; rfl
 -- one step of the run keeps the slots of other operations
 have hstep : ∀ (k:Nat) (o:Oper) (d:Nat),(l.take m)[k]? = some o→(∀ dk,o.dst=some dk→d ≠ dk)→F (k + 1) d=F k d:=by
  intro k o d hk hne
  obtain ⟨dk,hdk⟩ := hdst k o hk
  by_cases hlk:k < lo
  ·rw [hFlo (k + 1) zcb,hFlo k zcb]
  replace hlk:lo ≤ k:=by omega
  cases hs:sm.elem k with
  | true=>rw [((hF k o hlk hk).1 hs).2]
  | false =>
   obtain ⟨v,_,hFk⟩ := (hF k o hlk hk).2 hs
   rw [hFk,hdk]
   exact zF _ _ _ _ (hne dk hdk)
 have hkeep : ∀ (k i:Nat) (o:Oper) (d:Nat),(l.take m)[i]? = some o→o.dst=some d→i < k→k ≤ m→F k d=F (i + 1) d:=by
  intro k
  induction k with
  | zero=>intro i o d _ _ h; omega
  | succ k ih =>
   intro i o d hi hd hik hkm
   by_cases hik':i=k
   ·subst hik'; rfl
   ·have hkl:k < (l.take m).length:=by omega
    rw [hstep k _ d (List.getElem?_eq_getElem hkl) (fun dk hdk e=>by subst e; exact hik' (hdist i k o _ d hi (List.getElem?_eq_getElem hkl) hd hdk))]
    exact ih i o d hi hd zcb zcb
 have hout : ∀ (k d:Nat),k ≤ m→d ∉ (l.take m).filterMap (·.dst)→F k d=f d:=by
  intro k
  induction k with
  | zero=>intro d _ _; rw [hF0]
  | succ k ih =>
   intro d hkm hd
   have hkl:k < (l.take m).length:=by omega
   rw [hstep k _ d (List.getElem?_eq_getElem hkl) (fun dk hdk e=>by subst e; exact hd (List.mem_filterMap.2 ⟨_,List.getElem_mem hkl,hdk⟩))]
   exact ih d zcb hd
 have hssd : ∀ (j:Nat) (oj:Oper) (t:Nat),(l.take m)[j]? = some oj→oj.dst=some t→(t ∈ ss ↔ ∃ k,sm.elem k=true∧yO l.toArray k=t):=by
  intro j oj t _ _
  rw [← hss]
  unfold vK
  simp
 -- in the frame of a run,a slot that an operation of V's makes is g's; a quiet one's is the run's
 have hslot : ∀ (i:Nat) (o:Oper) (g:Fr) (w':World),(l.take m)[i]? = some o→(∀ j ∈ y3 o,U j (g (yO l.toArray j)) w') → ∀ (j:Nat) (oj:Oper) (t:Nat),j ∈ y3 o→l.toArray[j]? = some oj→oj.dst=some t →
   (sm.elem j=false→mask ((l.take m).filterMap (·.dst)) g f t=F i t)∧mask ((l.take m).filterMap (·.dst)) g f t=g t∧j < i:=by
  intro i o g w' hi hneed j oj t hj hoj hdj
  have hji:j < i:=by
   unfold y3 at hj
   obtain ⟨e,he,rfl⟩ := List.mem_map.1 hj
   obtain ⟨he1,he2⟩ := List.mem_filter.1 he
   have hbd:Region.binds .any e=true:=by
    unfold Region.binds
    cases hg:e.ground <;> rw [hg] at he2 <;> simp at he2 ⊢
   have:=hback (o,i) (by rw [List.mem_zipIdx_iff_getElem?]; simpa using (hat i o hi).2) e (by simpa using he1)
   simp only [hbd,Bool.not_true,Bool.false_or,decide_eq_true_eq] at this
   exact this
  have him:=(hat i o hi).1
  have hjm:(l.take m)[j]? = some oj:=by
   rw [List.getElem?_take,if_pos zcb]
   simpa using hoj
  have ht:t ∈ (l.take m).filterMap (·.dst):=List.mem_filterMap.2 ⟨oj,List.mem_of_getElem? hjm,hdj⟩
  have hda:yO l.toArray j=t:=by simp [yO,hoj,hdj]
  refine ⟨fun hs=>?_,xW ht,hji⟩
  rw [xW ht,hkeep i j oj t hjm hdj hji zcb]
  have:=hneed j hj
  simp only [U,hs,Bool.false_eq_true,if_false] at this
  have:=this oj hjm
  rw [hda,hdj] at this
  exact this
 have hsmlo : ∀ k,k < lo→sm.elem k=false:=fun k hk=>by
  cases h:sm.elem k with
  | false=>rfl
  | true =>
   have:=List.all_eq_true.1 hsm k (by simpa using h)
   simp only [Bool.and_eq_true,decide_eq_true_eq] at this
   omega
 refine ws_draw lo m ⟨fun L w'=>Ext w w' ∧ ∀ i,i < lo→L i=true,fun _=>Ext,U⟩ hB' hlm (fun L i v w1 w2 _ hl hv=>?_) ⟨Ext.refl w,fun i hi=>by simpa using hi⟩ (fun j o hj ho=>?_) ?_ ?_
 ·simp only [U] at hv ⊢
  split
  ·rename_i hs; rw [if_pos hs] at hv; exact hst i v w1 w2 hs hl hv
  ·rename_i hs; rw [if_neg hs] at hv; exact hv
 ·simp only [U,hsmlo j hj,Bool.false_eq_true,if_false]
  intro o' ho'
  rw [hFlo (j + 1) zcb]
  have:=(hat j o' ho').2
  rw [List.getElem?_toArray] at this
  rw [ho] at this; cases this; rfl
 ·-- each operation
  have howe : ∀ (L:List Oper) (k:Nat),(∀ j o,L[j]? = some o→(l.take m)[k + j]? = some o)→Owes P rd n dm l.toArray ((l.take m).filterMap (·.dst)) ⟨fun L w'=>Ext w w' ∧ ∀ i,i < lo→L i=true,fun _=>Ext,U⟩ f L k:=by
   intro L
   induction L with
   | nil=>intro k _; trivial
   | cons o L ih =>
    intro k hL
    refine ⟨?_,ih (k + 1) (fun j o' hj=>by
     have:=hL (j + 1) o' (by simpa using hj)
     rwa [show k + (j + 1)=k + 1 + j by omega] at this)⟩
    have hk:(l.take m)[k]? = some o:=hL 0 o rfl
    obtain ⟨hkm,hko⟩ := hat k o hk
    obtain ⟨d,hd⟩ := hdst k o hk
    intro Ls g w1 hLi hTw
    have hlk:lo ≤ k:=by
     refine Nat.le_of_not_lt fun h=>?_
     rw [hTw.2 k h] at hLi; cases hLi
    refine (show ∀ (p:Prop),((∀ j ∈ y3 o,U j (g (yO l.toArray j)) w1)→p)→givens l.toArray ⟨fun L w'=>Ext w w' ∧ ∀ i,i < lo→L i=true,fun _=>Ext,U⟩ g w1 (y3 o) p from ?_) _ ?_
    ·intro p
     generalize y3 o=nl
     induction nl with
     | nil=>intro hp; exact hp zcc
     | cons j nl ihn =>
      intro hp hj
      exact ihn (fun h'=>hp (fun j' hj'=>by
       rcases List.mem_cons.1 hj' with rfl | hj'
       ·exact hj
       ·exact h' j' hj'))
    intro hneed
    have hNo:=List.all_eq_true.1 hN (o,k) (by rw [List.mem_zipIdx_iff_getElem?]; simpa using hk)
    simp only [Bool.or_eq_true,decide_eq_true_eq] at hNo
    replace hNo:=hNo.resolve_left zcb
    simp only [Bool.and_eq_true] at hNo
    obtain ⟨⟨⟨hops,hgd⟩,hsel⟩,hdn⟩ := hNo
    rw [hd] at hdn
    simp only [decide_eq_true_eq] at hdn
    have hsel' : ∀ cs b,o.op ≠ .select cs b:=by
     intro cs b e
     rw [e] at hsel
     cases hsel
    have hsl:=hslot k o g w1 hk hneed
    -- the frame that the proof of this operation has seen
    have hfr : ∀ fr:Fr,(fr=F k∧sm.elem k=false∨fr=mask ss g (F k)∧sm.elem k=true) → ∀ x ∈ o.op.operands,evF fr x=evF (mask ((l.take m).filterMap (·.dst)) g f) x:=by
     intro fr hfr x hx
     cases x with
     | tmp t =>
      have h0:=List.all_eq_true.1 hops (.tmp t) (by simpa using hx)
      simp only [Bool.or_eq_true] at h0
      show fr t=mask _ g f t
      by_cases ht:t ∈ (l.take m).filterMap (·.dst)
      ·rcases h0 with h1 | h1
       ·simp at h1
        obtain ⟨x,hx1,hx2⟩ := List.mem_filterMap.1 ht
        exact absurd hx2 (h1 x hx1)
       ·obtain ⟨j,hj,hjt⟩ := List.any_eq_true.1 h1
        simp only [Bool.and_eq_true,beq_iff_eq] at hjt
        obtain ⟨hjt,hjq⟩ := hjt
        cases hoj:l.toArray[j]? with
        | none=>rw [hoj] at hjt; simp at hjt
        | some oj =>
         rw [hoj] at hjt
         have hdj:oj.dst=some t:=by simpa using hjt
         obtain ⟨q1,q2,q3⟩ := hsl j oj t hj hoj hdj
         rcases hfr with ⟨rfl,hs⟩ | ⟨rfl,hs⟩
         ·rw [hs] at hjq
          simp only [Bool.false_or,Bool.not_eq_true'] at hjq
          exact (q1 hjq).symm
         ·have hda:yO l.toArray j=t:=by simp [yO,hoj,hdj]
          by_cases hjs:sm.elem j=true
          ·rw [q2]
           refine xW ?_
           rw [← hss]; unfold vK
           exact List.mem_map.2 ⟨j,by simpa using hjs,hda⟩
          ·have hjs':sm.elem j=false:=by simpa using hjs
           rw [q1 hjs']
           refine xJ ?_
           rw [← hss]; unfold vK
           intro hmem
           obtain ⟨k',hk',hdk'⟩ := List.mem_map.1 hmem
           have hjm:(l.take m)[j]? = some oj:=by
            rw [List.getElem?_take,if_pos zcb]
            simpa using hoj
           obtain ⟨ok,hok,hdk⟩ := hsmd k' hk'
           rw [hdk'] at hdk
           have:=hdist k' j ok oj t hok hjm hdk hdj
           subst this
           rw [show sm.elem k'=true by simpa using hk'] at hjs'
           cases hjs' 
      ·rw [xJ ht]
       rcases hfr with ⟨rfl,hs⟩ | ⟨rfl,hs⟩
       ·exact hout k t zcb ht
       ·rw [xJ,hout k t zcb ht]
        rw [← hss]; unfold vK
        intro hmem
        obtain ⟨k',hk',hdk'⟩ := List.mem_map.1 hmem
        obtain ⟨ok,hok,hdk⟩ := hsmd k' hk'
        rw [hdk'] at hdk
        exact ht (List.mem_filterMap.2 ⟨ok,List.mem_of_getElem? hok,hdk⟩)
     | _=>rfl
    -- the operation,on the frame at hand
    have hgiv:givs l.toArray V sm g w1 o:=fun j hj hs=>by
     have:=hneed j hj
     simp only [U,hs,if_true] at this
     exact this
    obtain ⟨fr,H,R,hso,hfrx,hH,hR⟩ : ∃ (fr:Fr) (H:World→Prop) (R:Value→World→Prop),SOp P l.toArray w o fr H R∧(fr=F k∧sm.elem k=false∨fr=mask ss g (F k)∧sm.elem k=true)∧H w1∧(∀ v w',R v w'→U k v w'):=by
     cases hs:sm.elem k with
     | true=>exact ⟨_,_,_,((hF k o hlk hk).1 hs).1 g,.inr ⟨rfl,rfl⟩,hgiv,fun v w' hv=>by simp only [U,hs,if_true]; exact hv⟩
     | false =>
      obtain ⟨v,hv,hFk⟩ := (hF k o hlk hk).2 hs
      refine ⟨_,_,_,hv,.inl ⟨rfl,rfl⟩,trivial,fun v' w' e=>?_⟩
      simp only [U,hs,Bool.false_eq_true,if_false]
      intro o' ho'
      rw [hk] at ho'
      cases ho'
      rw [hFk,e,upd_same]
    have hoper:=hfr fr hfrx
    have hfin : ∀ v w',Ext w1 w'→R v w'→obPost dm ⟨fun L w'=>Ext w w' ∧ ∀ i,i < lo→L i=true,fun _=>Ext,U⟩ Ls k (o.dst.getD 0) (mask ((l.take m).filterMap (·.dst)) g f) w1 dm .normal (upd (mask ((l.take m).filterMap (·.dst)) g f) (o.dst.getD 0) v) w' :=
     fun v w' hx hv=>ob (D:=⟨fun L w'=>Ext w w' ∧ ∀ i,i < lo→L i=true,fun _=>Ext,U⟩) ⟨hTw.1.trans hx,fun i hi=>by unfold plus; rw [hTw.2 i hi]; simp⟩ hx (hR v w' hv)
    obtain ⟨od,oop,oty,opos,oaf,ogd⟩ := o
    simp only at hd
    subst hd
    simp only [Option.getD_some] at hfin
    intro a ha
    cases ogd with
    | none =>
     have q:=srun_congr hsel' hoper (show SRun P w _ fr H R from hso)
     refine wpListIn_plain rfl fun K' hK=>?_
     refine wl_of_srun q hTw.1 hH ha _ _ fun v w' hx hv=>hK _ _ ?_
     exact ⟨_,_,ha.put hdn v,hfin v w' hx hv⟩
    | some gp =>
     obtain ⟨j,pol⟩ := gp
     obtain ⟨c,t,ht,hjs,hqy,hqn⟩ := hso
     simp only [Bool.and_eq_true,Bool.not_eq_true'] at hgd
     obtain ⟨⟨hjn,hjd⟩,hjq⟩ := hgd
     cases hoj:l.toArray[j]? with
     | none=>rw [hoj] at hjs; simp at hjs
     | some oj =>
      rw [hoj] at hjd
      simp only [Option.bind_some,Option.any_eq_true] at hjd
      obtain ⟨dj,hdj,hdjn⟩ := hjd
      obtain ⟨q1,q2,q3⟩ := hsl j oj dj (by simpa using hjn) hoj hdj
      have hda:yO l.toArray j=dj:=by simp [yO,hoj,hdj]
      have hfd:fr dj=mask ((l.take m).filterMap (·.dst)) g f dj:=by
       rcases hfrx with ⟨rfl,_⟩ | ⟨rfl,_⟩
       ·exact (q1 hjq).symm
       ·rw [q1 hjq]
        refine xJ ?_
        rw [← hss]; unfold vK
        intro hmem
        obtain ⟨k',hk',hdk'⟩ := List.mem_map.1 hmem
        obtain ⟨ok,hok,hdk⟩ := hsmd k' hk'
        rw [hdk'] at hdk
        have hjm:(l.take m)[j]? = some oj:=by
         rw [List.getElem?_take,if_pos zcb]
         simpa using hoj
        have:=hdist k' j ok oj dj hok hjm hdk hdj
        subst this
        rw [show sm.elem k'=true by simpa using hk'] at hjq
        cases hjq
      rw [hda,hfd] at ht
      refine wpListIn_step fun K' hK=>?_
      rw [zaN ha rfl hoj hdj ht (by simpa using hdjn)]
      cases hc:(c && (t == pol)) with
      | true =>
       rw [if_pos rfl]
       have q:=srun_congr hsel' hoper (hqy hc)
       refine wl_of_srun q hTw.1 hH ha _ _ fun v w' hx hv=>hK _ _ ?_
       exact ⟨_,_,ha.put hdn v,hfin v w' hx hv⟩
      | false =>
       rw [if_neg zcc]
       have:=hfin undef w1 (Ext.refl w1) (hqn hc w1)
       exact ⟨fun _ _=>trivial,hK _ _ ⟨_,_,ha.put hdn undef,this⟩⟩
  exact howe _ 0 (fun j o hj=>by rw [Nat.zero_add]; exact hj)
 ·-- the tail
  intro Ls g w1 _ hTw
  have hall : ∀ (L:List Oper) (k:Nat) (p:Prop),((∀ j o,L[j]? = some o→U (k + j) (g (o.dst.getD 0)) w1)→p)→allV ⟨fun L w'=>Ext w w' ∧ ∀ i,i < lo→L i=true,fun _=>Ext,U⟩ g w1 L k p:=by
   intro L
   induction L with
   | nil=>intro k p hp; exact hp (by intro j o h; simp at h)
   | cons o L ih =>
    intro k p hp hv
    refine ih (k + 1) p fun h'=>hp fun j o' hj=>?_
    cases j with
    | zero=>simp at hj; subst hj; exact hv
    | succ j =>
     have:=h' j o' (by simpa using hj)
     rwa [show k + 1 + j=k + (j + 1) by omega] at this
  refine hall _ 0 _ fun hv=>?_
  have heq:mask ((l.take m).filterMap (·.dst)) g f=mask ss g (F m):=by
   funext t
   by_cases ht:t ∈ (l.take m).filterMap (·.dst)
   ·rw [xW ht]
    obtain ⟨o,ho,hd⟩ := List.mem_filterMap.1 ht
    obtain ⟨i,hi⟩ := List.getElem?_of_mem ho
    have hiv:=hv i o hi
    rw [Nat.zero_add,hd] at hiv
    simp only [Option.getD_some] at hiv
    cases hs:sm.elem i with
    | true =>
     refine (xW ?_).symm
     rw [← hss]; unfold vK
     refine List.mem_map.2 ⟨i,by simpa using hs,?_⟩
     unfold yO
     rw [(hat i o hi).2,Option.bind_some,hd]; rfl
    | false =>
     simp only [U,hs,Bool.false_eq_true,if_false] at hiv
     have:=hiv o hi
     rw [hd] at this
     simp only [Option.getD_some] at this
     rw [this,xJ,← hkeep m i o t hi hd (hat i o hi).1 (Nat.le_refl _)]
     rw [← hss]; unfold vK
     intro hmem
     obtain ⟨k',hk',hdk'⟩ := List.mem_map.1 hmem
     obtain ⟨ok,hok,hdk⟩ := hsmd k' hk'
     rw [hdk'] at hdk
     have:=hdist k' i ok o t hok hi hdk hd
     subst this
     rw [show sm.elem k'=true by simpa using hk'] at hs
     cases hs
   ·rw [xJ ht,xJ,hout m t (Nat.le_refl _) ht]
    rw [← hss]; unfold vK
    intro hmem
    obtain ⟨k',hk',hdk'⟩ := List.mem_map.1 hmem
    obtain ⟨ok,hok,hdk⟩ := hsmd k' hk'
    rw [hdk'] at hdk
    exact ht (List.mem_filterMap.2 ⟨ok,List.mem_of_getElem? hok,hdk⟩)
  rw [heq]
  refine hFK g w1 hTw.1 fun i hs him=>?_
  obtain ⟨o,ho,hd⟩ := hsmd i (by simpa using hs)
  have:=hv i o ho
  rw [Nat.zero_add,hd] at this
  simp only [Option.getD_some,U,hs,if_true] at this
  exact this
end
end Gw
end
section
open Go.RowKit
namespace Gw
section
variable {A:Nat→Prop} {N:Oth} {w0 w w':World} {L Z:List OA}
theorem St.take {B:Nat} (h:St A (N.done B) w0 w L Z) (hB:w0.heap.size ≤ B∧¬ N B∧¬ N (B + 1)):Ob w B (.deferred (some [])) ∧ ∀ w',Chg (· = B) w w'→St A N w0 w' L Z:=by
 have hw:=h.wats
 refine ⟨hw (B,.deferred (some [])) (by simp [Oth.done]),fun w' hc=>h.others hc (fun i hi=>⟨?_,by rw [hi]; exact hB.1⟩) (fun i hi => .inl hi) fun d hd=>?_⟩
 ·rw [hi]; exact .inr (.inl rfl)
 ·exact (hw d (List.mem_cons_of_mem _ hd)).chg hc (fun (q:d.1=B)=>hB.2.1 (q ▸ N.ok d hd))
end
section
variable {P:Program} {n:Nat} {dm:List Nat} {Q:Post} {f:Fr} {w:World}
def fin {σ τ ρ:Type} (k:σ→Option ρ) (k':τ→Option ρ):σ ⊕ τ→Option ρ
 | .inl s=>k s
 | .inr r=>k' r
end
section
variable {P:Program} {g:FuncId} {args:Array Value} {A:Nat→Prop} {N:Oth} {w:World} {L Z:List OA}
theorem zaX {R R':Value→World→Prop} (h:Calls P g args w fun e w' => ∃ v,e = .returned v∧R v w') (hR : ∀ v w',R v w'→R' v w'):Calls P g args w fun e w' => ∃ v,e = .returned v∧R' v w' :=
 CallsIn.mono (F:=fen none) (n:=0) (callsIn_wide.2 h) (by rintro e w' ⟨v,rfl,hv⟩; exact ⟨v,rfl,hR v w' hv⟩) |> callsIn_wide.1
theorem toSt {v0:Value} (h:Calls P g args w fun e w' => ∃ v,e = .returned v∧(v=v0∧Ext w w')) (S:St A N w w L Z):Calls P g args w fun e w' => ∃ v,e = .returned v∧(v=v0∧St A N w w' L []) :=
 zaX h fun _ _ h=>⟨h.1,(S.ext h.2).pickZ zcc⟩
end
end Gw
end
section
open Gw Go.RowKit
abbrev Tb:=Option (List Nd)
def oT (a:Option Addr) (t:Tb):OA where
 holds:=fun w F=>match t with
  | none=>(a=none ∧ ∀ i,¬ F i) ∨ ∃ p,a=some ⟨p,0,none⟩ ∧ Blk w p vF (Tab.C Tab.z) ∧ ∀ i,F i↔i=p
  | some N => ∃ p,a=some ⟨p,0,none⟩ ∧ TabAt w p N F∧N.length ≤ 1024
 loc:=fun {S w w' F} h hc hs=>by
  cases t with
  | none =>
   rcases h with h | ⟨p,h1,h2,h3⟩
   ·exact .inl h
   ·exact .inr ⟨p,h1,h2.chg hc (hs p ((h3 p).2 rfl)),h3⟩
  | some N=>obtain ⟨p,h1,h2,h3⟩ := h; exact ⟨p,h1,h2.keep hc hs,h3⟩
 lt:=fun {w F} h i hi=>by
  cases t with
  | none =>
   rcases h with h | ⟨p,h1,h2,h3⟩
   ·exact absurd hi (h.2 i)
   ·rw [(h3 i).1 hi]; exact h2.lt
  | some N=>obtain ⟨p,h1,h2,h3⟩ := h; exact h2.lt i hi
theorem oT.nil (w:World):(oT none none).holds w (fun _=>False) := .inl ⟨rfl,fun _ x=>x⟩
theorem oT.dead {w:World} {a:Option Addr} {F:Nat→Prop} (h:(oT a none).holds w F):Dead w a:=by
 rcases h with h | ⟨p,h1,h2,_⟩
 ·exact .inl h.1
 ·exact .inr ⟨p,h1,h2⟩
def oR (a:Option Addr) (t:Tb):OA where
 holds:=fun w F=>match t with
  | none=>a=none ∧ ∀ i,¬ F i
  | some N => ∃ p s,a=some ⟨p,0,none⟩ ∧ Blk w p T_RTab (RTab.C ⟨s⟩)∧Own w 0 T_Nd 4 s (N.map Nd.C)∧N.length ≤ 140737488355328∧¬ s.fp p ∧ ∀ i,F i↔(i=p∨s.fp i)
 loc:=fun {S w w' F} h hc hs=>by
  cases t with
  | none=>exact h
  | some N =>
   obtain ⟨p,s,h1,h2,h3,h4,h5,h6⟩ := h
   exact ⟨p,s,h1,h2.chg hc (hs p ((h6 p).2 (.inl rfl))),h3.keep hc (fun i hi=>hs i ((h6 i).2 (.inr hi))),h4,h5,h6⟩
 lt:=fun {w F} h i hi=>by
  cases t with
  | none=>exact absurd hi (h.2 i)
  | some N =>
   obtain ⟨p,s,h1,h2,h3,h4,h5,h6⟩ := h
   rcases (h6 i).1 hi with rfl | hi
   ·exact h2.lt
   ·exact h3.lt i hi
theorem oR.nil (w:World):(oR none none).holds w (fun _=>False):=⟨rfl,fun _ x=>x⟩
section
variable {A:Nat→Prop} {N:Oth} {w0 w w':World} {L Z:List OA}
theorem Gw.St.openR (h:St A N w0 w L Z) (k:Nat) {a:Option Addr} {t:Tb} {L':List OA} (ht:t.isSome=true) (e:L[k]? = some (oR a t):=by rfl) (e':L.eraseIdx k=L':=by rfl) : ∃ p s,a=some ⟨p,0,none⟩ ∧ St A N w0 w (oB p T_RTab (RTab.C ⟨s⟩) :: oS T_Nd 4 Nd.C s (t.getD []) :: L') Z:=by
 subst e'
 obtain ⟨M,rfl⟩ := Option.isSome_iff_exists.1 ht
 obtain ⟨U,hU,hN,hA,hL,hZ,hW⟩ := h
 obtain ⟨F,⟨p,s,h1,h2,h3,h4,h5,h6⟩,hF,hR⟩ := hL.front k e
 refine ⟨p,s,h1,U,hU,hN,hA,⟨fun i=>i=p,⟨h2,fun _=>Iff.rfl⟩,fun i hi=>hF i ((h6 i).2 (.inl hi)),s.fp,⟨⟨h3,h4⟩,fun _=>Iff.rfl⟩,fun i hi=>⟨hF i ((h6 i).2 (.inr hi)),fun q=>h5 (q ▸ hi)⟩,?_⟩,hZ,hW⟩
 exact hR.mono fun i hi=>⟨⟨hi.1,fun q=>hi.2 ((h6 i).2 (.inl q))⟩,fun q=>hi.2 ((h6 i).2 (.inr q))⟩
theorem Gw.St.shutR {p:Nat} {s:SlV} {M:List Nd} (h:St A N w0 w (oB p T_RTab (RTab.C ⟨s⟩) :: oS T_Nd 4 Nd.C s M :: L) Z) {a:Option Addr} (ha:a=some ⟨p,0,none⟩):St A N w0 w (oR a (some M) :: L) Z:=by
 obtain ⟨U,hU,hN,hA,⟨F,h1,hF,G,h2,hG,hR⟩,hZ,hW⟩ := h
 refine ⟨U,hU,hN,hA,⟨fun i=>F i∨G i,⟨p,s,ha,h1.1,h2.1.1,h2.1.2,fun q=>(hG p ((h2.2 p).2 q)).2 ((h1.2 p).2 rfl),fun i=>or_congr (h1.2 i) (h2.2 i)⟩,fun i hi=>hi.elim (hF i) (fun q=>(hG i q).1),?_⟩,hZ,hW⟩
 exact hR.mono fun i hi=>⟨hi.1.1,fun q=>q.elim hi.1.2 hi.2⟩
theorem Gw.St.seeR (h:St A N w0 w L Z) (k:Nat) {a:Option Addr} {t:Tb} (ht:t.isSome=true) (e:Z[k]? = some (oR a t):=by rfl) : ∃ p s,a=some ⟨p,0,none⟩ ∧ St A N w0 w L (oB p T_RTab (RTab.C ⟨s⟩) :: fS 4 Nd.C s (t.getD []) :: Z):=by
 obtain ⟨M,rfl⟩ := Option.isSome_iff_exists.1 ht
 obtain ⟨F,p,s,h1,_⟩ := h.frz k e
 have key : ∀ F,(oR a (some M)).holds w F → ∃ p' s',a=some ⟨p',0,none⟩ ∧ Blk w p' T_RTab (RTab.C ⟨s'⟩)∧Own w 0 T_Nd 4 s' (M.map Nd.C)∧M.length ≤ 140737488355328∧F p' ∧ ∀ i,s'.fp i→F i:=by
  rintro F ⟨p,s,h1,h2,h3,h4,h5,h6⟩
  exact ⟨p,s,h1,h2,h3,h4,(h6 p).2 (.inl rfl),fun i hi=>(h6 i).2 (.inr hi)⟩
 obtain ⟨U,hU,hN,hA,hL,hZ,hW⟩ := h
 obtain ⟨F,hF,hFU⟩ := hZ _ (List.mem_of_getElem? e)
 obtain ⟨p',s',e1,e2,e3,e4,e5,e6⟩ := key F hF
 refine ⟨p',s',e1,U,hU,hN,hA,hL,fun z hz=>?_,hW⟩
 rcases List.mem_cons.1 hz with rfl | hz
 ·exact ⟨fun i=>i=p',⟨e2,fun _=>Iff.rfl⟩,fun i hi=>by rw [hi]; exact hFU p' e5⟩
 rcases List.mem_cons.1 hz with rfl | hz
 ·exact ⟨s'.fp,⟨⟨e3.toRd,e4⟩,fun _=>Iff.rfl⟩,fun i hi=>hFU i (e6 i hi)⟩
 ·exact hZ z hz
theorem oR.len {a:Option Addr} {t:Tb} {w:World} {F:Nat→Prop} (h:(oR a t).holds w F):(t.getD []).length ≤ 140737488355328:=by
 cases t with
 | none=>simp
 | some M=>obtain ⟨p,s,_,_,_,h4,_⟩ := h; exact h4
theorem Gw.St.lenRZ (h:St A N w0 w L Z) (k:Nat) {a:Option Addr} {t:Tb} (e:Z[k]? = some (oR a t):=by rfl):(t.getD []).length ≤ 140737488355328:=(h.frz k e).elim fun _ h=>oR.len h
end
section
variable {A:Nat→Prop} {N:Oth} {w:World}
def zcf.f (t:Tb) (i:Int):Option (Nd × Bool):=t.map fun N=>jg N i
theorem yx {a:Option Addr} {t:Tb} {i:Int} (S:St A N w w [] [oT a t]) {r:Nd × Bool} (H:zcf.f t i=some r):Calls PP uT #[.pointer a,.int .i64 i] w fun e w' => ∃ v,e = .returned v∧(v = .tuple #[.agg (Nd.C r.1).toArray,.bool r.2]∧St A N w w' [] []):=by
 cases t with
 | none=>cases H
 | some M =>
  cases H
  obtain ⟨F,p,rfl,T,hN⟩ := S.frz 0 rfl
  exact toSt (formula_Table_Node_ok w i T) S
def zcg.f (t:Tb):Option Int:=t.map fun N=>(N.length:Int)
theorem jd {a:Option Addr} {t:Tb} (S:St A N w w [] [oT a t]) {r:Int} (H:zcg.f t=some r):Calls PP jq #[.pointer a] w fun e w' => ∃ v,e = .returned v∧(v = .int .i64 r∧St A N w w' [] []):=by
 cases t with
 | none=>cases H
 | some M =>
  cases H
  obtain ⟨F,p,rfl,T,hN⟩ := S.frz 0 rfl
  exact toSt (formula_Table_Len_ok w T) S
theorem mutT {P:Program} {g:FuncId} {args:Array Value} {p:Nat} {M M':List Nd} {v0:Value} (S:St A N w w [oT (some ⟨p,0,none⟩) (some M)] []) (hM:M'.length ≤ 1024)
  (h : ∀ F,TabAt w p M F→M.length ≤ 1024→Calls P g args w fun e w' => ∃ v,e = .returned v∧(∃ A',v=v0∧TabAt w' p M' A'∧Chg F w w'∧(∀ i,A' i→F i∨w.heap.size ≤ i))) :
  Calls P g args w fun e w' => ∃ v,e = .returned v∧(v=v0∧St A N w w' [oT (some ⟨p,0,none⟩) (some M')] []):=by
 obtain ⟨U,hU,hN,hA,⟨F,hF,hFU,_⟩,hZ,hW⟩ := S
 obtain ⟨p',hp,T,hl⟩ := hF
 cases hp
 refine zaX (h F T hl) ?_
 rintro v w' ⟨A',rfl,T',hc,hg⟩
 refine ⟨rfl,fun i=>F i∨A' i,fun i hi=>⟨?_,?_,?_⟩,fun i hi=>Nat.lt_of_lt_of_le (hN i hi) hc.size,hc.mono fun i hi hf=>((hU i (hFU i hf)).1).elim id (fun q=>absurd hi zcb),⟨A',⟨p,rfl,T',hM⟩,fun i hi => .inr hi,trivial⟩,fun z hz=>by simp at hz,hW.chg hc (fun i hi=>(hU i (hFU i hi)).2.2)⟩
 ·rcases hi with hi | hi
  ·exact (hU i (hFU i hi)).1
  ·exact (hg i hi).elim (fun q=>(hU i (hFU i q)).1) .inr
 ·rcases hi with hi | hi
  ·exact Nat.lt_of_lt_of_le (hU i (hFU i hi)).2.1 hc.size
  ·exact T'.lt i hi
 ·rcases hi with hi | hi
  ·exact (hU i (hFU i hi)).2.2
  ·exact (hg i hi).elim (fun q=>(hU i (hFU i q)).2.2) (fun q hn=>absurd (hN i hn) zcb)
def zch.f (t:Tb) (_:Int):Option (Int × Int):=some (match t with | none=>(0,1) | some _=>(0,31))
theorem zbG {a:Option Addr} {t:Tb} {i:Int} (S:St A N w w [] [oT a t]) (hi:i = -1) {r:Int × Int} (H:zch.f t i=some r):Calls PP ub #[.pointer a,.int .i64 i] w fun e w' => ∃ v,e = .returned v∧(v = .tuple #[.int .i64 r.1,.int .i64 r.2]∧St A N w w' [] []):=by
 subst hi
 cases t with
 | none =>
  cases H
  obtain ⟨F,hF⟩ := S.frz 0 rfl
  exact toSt (formula_Table_Not_dead w _ (oT.dead hF)) S
 | some M =>
  cases H
  obtain ⟨F,p,rfl,T,hN⟩ := S.frz 0 rfl
  exact toSt (zbF w T) S
def zci.f (t:Tb) (a b:Int):Option (Tb × Int × Int):=t.map fun N=>(some (putS N (impN a b)).1,(putS N (impN a b)).2)
theorem formula_Table_Imp_st {p:Option Addr} {t:Tb} {a b:Int} (S:St A N w w [oT p t] []) {r:Tb × Int × Int} (H:zci.f t a b=some r):Calls PP jp #[.pointer p,.int .i64 a,.int .i64 b] w fun e w' => ∃ v,e = .returned v∧(v = .tuple #[.int .i64 r.2.1,.int .i64 r.2.2]∧St A N w w' [oT p r.1] []):=by
 cases t with
 | none=>cases H
 | some M =>
  cases H
  obtain ⟨F,p,rfl,T,hN⟩ := S.own 0 rfl
  exact mutT S (put_len hN) fun F T hl=>formula_Table_Imp_ok w a b T hl
def zcj.f (t:Tb) (n:Nd):Option (Tb × Int × Int):=chk (decide (n.name.size < 9223372036854775808)) (t.map fun N=>(some (putS N n).1,(putS N n).2))
theorem je {p:Option Addr} {t:Tb} {n:Nd} (S:St A N w w [oT p t] []) {r:Tb × Int × Int} (H:zcj.f t n=some r):Calls PP jr #[.pointer p,.agg (Nd.C n).toArray] w fun e w' => ∃ v,e = .returned v∧(v = .tuple #[.int .i64 r.2.1,.int .i64 r.2.2]∧St A N w w' [oT p r.1] []):=by
 obtain ⟨hs,H⟩ := xo H
 cases t with
 | none=>cases H
 | some M =>
  cases H
  obtain ⟨F,p,rfl,T,hN⟩ := S.own 0 rfl
  exact mutT S (put_len hN) fun F T hl=>zap w n T (of_decide_eq_true hs) hl
def zck.f (s:ByteArray):Option Bool:=chk (decide (s.size < 9223372036854775808)) (some (decide (isWord s)))
theorem formula_Word_st {s:ByteArray} (S:St A N w w [] []) {r:Bool} (H:zck.f s=some r):Calls PP zaP #[.string s] w fun e w' => ∃ v,e = .returned v∧(v = .bool r∧St A N w w' [] []):=by
 obtain ⟨hs,H⟩ := xo H
 cases H
 exact toSt (formula_Word_ok w s (of_decide_eq_true hs)) S
def zcl.f (s:ByteArray):Option Bool:=chk (decide (s.size < 9223372036854775808)) (some (decide (isWord s)))
theorem ref03_Word_st {s:ByteArray} (S:St A N w w [] []) {r:Bool} (H:zcl.f s=some r):Calls PP F_ref03_Word #[.string s] w fun e w' => ∃ v,e = .returned v∧(v = .bool r∧St A N w w' [] []):=by
 obtain ⟨hs,H⟩ := xo H
 cases H
 exact toSt (ref03_Word_ok w s (of_decide_eq_true hs)) S
end
end
section
open Gw Go.RowKit
section
variable {A:Nat→Prop} {N:Oth} {w0 w w':World} {L Z:List OA}
theorem Gw.Sep.fam {w:World} : ∀ {L:List OA} {U:Nat→Prop},Sep w U L → ∃ F:Nat→Nat→Prop,(∀ k a,L[k]? = some a→a.holds w (F k) ∧ ∀ i,F k i→U i) ∧ ∀ j k i,j ≠ k→j < L.length→k < L.length→F j i→¬ F k i
 | [],_,_=>⟨fun _ _=>False,by simp,by simp⟩
 | a :: L,U,⟨G,h,hG,hL⟩ => by
  obtain ⟨F,h1,h2⟩ := Sep.fam hL
  refine ⟨fun k=>match k with | 0=>G | k + 1=>F k,fun k b hb=>?_,fun j k i hjk hj hk=>?_⟩
  ·cases k with
   | zero=>simp at hb; subst hb; exact ⟨h,hG⟩
   | succ k=>have:=h1 k b (by simpa using hb); exact ⟨this.1,fun i hi=>(this.2 i hi).1⟩
  ·have hin : ∀ k,k < L.length → ∀ i,F k i→¬ G i:=fun k hk i hi=>((h1 k _ (List.getElem?_eq_getElem hk)).2 i hi).2
   cases j with
   | zero =>
    cases k with
    | zero=>exact absurd rfl hjk
    | succ k=>exact fun hi q=>hin k (by simpa using hk) i q hi
   | succ j =>
    cases k with
    | zero=>exact fun hi q=>hin j (by simpa using hj) i hi q
    | succ k=>exact h2 j k i zcb (by simpa using hj) (by simpa using hk)
theorem Gw.Sep.of_fam {w:World} {L:List OA} {U:Nat→Prop} {F:Nat→Nat→Prop} (h1 : ∀ k a,L[k]? = some a→a.holds w (F k) ∧ ∀ i,F k i→U i) (h2 : ∀ j k i,j ≠ k→j < L.length→k < L.length→F j i→¬ F k i) :
  ∀ (ks:List Nat) (V:Nat→Prop),ks.Nodup→(∀ k ∈ ks,k < L.length → ∀ i,F k i→V i)→Sep w V (sel L ks)
 | [],_,_,_=>trivial
 | k :: ks,V,hn,hV=>by
  have hn':=List.nodup_cons.1 hn
  cases hk:L[k]? with
  | none =>
   rw [show sel L (k :: ks)=sel L ks by simp [sel,hk]]
   exact Sep.of_fam h1 h2 ks V hn'.2 fun k' hk'=>hV k' (by simp [hk'])
  | some a =>
   have hkl:=(List.getElem?_eq_some_iff.1 hk).1
   rw [show sel L (k :: ks)=a :: sel L ks by simp [sel,hk]]
   refine ⟨F k,(h1 k a hk).1,hV k zcc hkl,Sep.of_fam h1 h2 ks _ hn'.2 fun k' hk' hl i hi=>⟨hV k' (by simp [hk']) hl i hi,?_⟩⟩
   exact h2 k' k i (fun e=>hn'.1 (e ▸ hk')) hl hkl hi
theorem Gw.St.arr (h:St A N w0 w L Z) (ks zs:List Nat) {L' Z':List OA} (hk:ks.Nodup:=by decide) (e:sel L ks=L':=by rfl) (ez:sel Z zs=Z':=by rfl):St A N w0 w L' Z':=by
 subst e
 refine St.zs ?_ zs ez
 obtain ⟨U,hU,hN,hA,hL,hZ,hW⟩ := h
 obtain ⟨F,h1,h2⟩ := hL.fam
 exact ⟨U,hU,hN,hA,Sep.of_fam h1 h2 ks U hk fun k _ hl i hi=>(h1 k _ (List.getElem?_eq_getElem hl)).2 i hi,hZ,hW⟩
theorem Gw.St.calln (h:St A N w0 w L Z) (n:Nat) {Zc:List OA} (hl:Lend (L.drop n) Z Zc) : ∃ B M,St B M w w (L.take n) Zc ∧ ∀ w' P' Z' L',St B M w w' P' Z'→P' ++ L.drop n=L'→St A N w0 w' L' Z :=
 h.call (L.take n) (L.drop n) hl (List.take_append_drop n L).symm
abbrev zipT (M:List Nd):List (Nd × Int):=M.zipIdx.map fun q=>(q.1,(q.2:Int))
theorem Gw.St.openT {a:Option Addr} {M:List Nd} (h:St A N w0 w (oT a (some M) :: L) Z) : ∃ p s m,a=some ⟨p,0,none⟩ ∧ M.length ≤ 1024∧St A N w0 w (oB p vF (Tab.C ⟨s,some m⟩) :: oM m ndV (Value.int .i64) (zipT M) :: oS T_Nd 4 Nd.C s M :: L) Z:=by
 obtain ⟨U,hU,hN,hA,⟨F,⟨p,h1,⟨s,m,b,o,mm,h2,h3,h4,hF⟩,hl⟩,hFU,hR⟩,hZ,hW⟩ := h
 refine ⟨p,s,m,h1,hl,U,hU,hN,hA,⟨fun i=>i=p,⟨b,fun _=>Iff.rfl⟩,fun i hi=>hFU i ((hF i).2 (.inl hi)),fun i=>i=m,⟨mm,fun _=>Iff.rfl⟩,fun i hi=>⟨hFU i ((hF i).2 (.inr (.inl hi))),fun q=>h2 (q.symm.trans hi)⟩,s.fp,⟨⟨o,by omega⟩,fun _=>Iff.rfl⟩,fun i hi=>⟨⟨hFU i ((hF i).2 (.inr (.inr hi))),fun q=>h3 (q ▸ hi)⟩,fun q=>h4 (q ▸ hi)⟩,?_⟩,hZ,hW⟩
 exact hR.mono fun i hi=>⟨⟨⟨hi.1,fun q=>hi.2 ((hF i).2 (.inl q))⟩,fun q=>hi.2 ((hF i).2 (.inr (.inl q)))⟩,fun q=>hi.2 ((hF i).2 (.inr (.inr q)))⟩
theorem Gw.St.shutT {p m:Nat} {s:SlV} {M:List Nd} (h:St A N w0 w (oB p vF (Tab.C ⟨s,some m⟩) :: oM m ndV (Value.int .i64) (zipT M) :: oS T_Nd 4 Nd.C s M :: L) Z) (hl:M.length ≤ 1024) {a:Option Addr} (ha:a=some ⟨p,0,none⟩):St A N w0 w (oT a (some M) :: L) Z:=by
 obtain ⟨U,hU,hN,hA,⟨F,h1,hF,G,h2,hG,K,h3,hK,hR⟩,hZ,hW⟩ := h
 have p1:F p:=(h1.2 p).2 rfl
 have p2:G m:=(h2.2 m).2 rfl
 refine ⟨U,hU,hN,hA,⟨fun i=>i=p∨i=m∨s.fp i,⟨p,ha,⟨s,m,h1.1,h3.1.1,h2.1,fun q=>(hG m p2).2 (q ▸ p1),fun q=>(hK p ((h3.2 p).2 q)).1.2 p1,fun q=>(hK m ((h3.2 m).2 q)).2 p2,fun i=>Iff.rfl⟩,hl⟩,?_,?_⟩,hZ,hW⟩
 ·rintro i (rfl | rfl | hi)
  ·exact hF _ p1
  ·exact (hG _ p2).1
  ·exact (hK _ ((h3.2 i).2 hi)).1.1
 ·refine hR.mono fun i hi=>⟨hi.1.1.1,?_⟩
  rintro (rfl | rfl | q)
  ·exact hi.1.1.2 p1
  ·exact hi.1.2 p2
  ·exact hi.2 ((h3.2 i).2 q)
end
section
variable {P:Program} {rd:Option Nat} {n:Nat} {dm:List Nat} {ops:Array Oper} {Q:Post} {f:Fr} {w w':World} {rest:List Oper} {ty:TypeId} {pos:String} {af:Array Edge} {d:Option Tmp} {gd:Option (Nat × Bool)}
theorem Gw.wd {d:Tmp} {op:Op} {v:Value} (hr:Does P ⟨some d,op,ty,pos,af,none⟩ f w v w') (h:wl P rd n dm ops rest Q (upd f d v) w') (hd:d < n:=by decide):wl P rd n dm ops (⟨some d,op,ty,pos,af,none⟩ :: rest) Q f w:=zi hr hd h
theorem Gw.wg {dd:Tmp} {op:Op} {j:Nat} {pol t:Bool} {v:Value} {oj:Oper} {dj:Tmp} (hr:(t == pol)=true→Does P ⟨some dd,op,ty,pos,af,some (j,pol)⟩ f w v w) (h:wl P rd n dm ops rest Q (upd f dd (gv (t == pol) v)) w) (hj:ops[j]? = some oj:=by rfl) (hdj:oj.dst=some dj:=by rfl) (ht:f dj = .bool t:=by rfl) (hdn:dj < n:=by decide) (hd:dd < n:=by decide):wl P rd n dm ops (⟨some dd,op,ty,pos,af,some (j,pol)⟩ :: rest) Q f w:=zH hj hdj ht hdn hr hd h
theorem wl_val0 {op:Op} {v:Value} (hr:Does P ⟨none,op,ty,pos,af,none⟩ f w v w') (h:wl P rd n dm ops rest Q f w'):wl P rd n dm ops (⟨none,op,ty,pos,af,none⟩ :: rest) Q f w:=fun a ha=>by
 refine wpListIn_plain rfl fun K hK=>?_
 exact op_wp ha hr zcc (hK _ _ (h _ ha))
theorem map_er {α β:Type} (g:α→β) : ∀ (l:List α) (i:Nat),(l.eraseIdx i).map g=(l.map g).eraseIdx i
 | [],_=>rfl
 | _ :: _,0=>rfl
 | a :: l,i + 1=>by simp [map_er g l i]
theorem wl_delete0 {α β:Type} {C:α→Value} {D:β→Value} {l:List (α × β)} {m:Nat} [DecidableEq α] {t kt et at_:Nat} {x y:Operand} {key:α} (ht:P.underlying t=some (.map kt et)) (K:KeyT P kt C) (hx:evF f x = .map (some m)) (hy:evF f y=C key) (hm:MapB w m C D l)
  (h : ∀ w',MapB w' m C D (del key l)→Chg (· = m) w w'→w'.heap.size=w.heap.size→wl P rd n dm ops rest Q f w'):wl P rd n dm ops (⟨none,.call ⟨.builtin .delete,#[x,y],#[t,at_]⟩,ty,pos,af,none⟩ :: rest) Q f w:=by
 obtain ⟨es,c,hb,he⟩ := hm
 have hf:=run_findKey K key es.toList l he w
 rw [del_spot] at h
 cases hs:spot key l with
 | none =>
  rw [hs] at h hf
  obtain ⟨s1,s2,s3⟩ := map_step (w:=w) (m:=m) (C:=C) (D:=D) (es:=es) (c:=c) (l:=l) hb he
  refine wl_val0 (v := .tuple #[]) ?_ (h _ s1 s2 s3)
  simp [Does,execOp,resolve,invoke,builtin,hx,hy,Builtin.delete_,run_underlying ht,MapKept.run_getObj_map hb,K.check,hf,jL _ hb]
 | some i =>
  obtain ⟨v0,hv⟩ := spot_key key l i hs
  rw [hs] at h hf
  have hmod:(es.eraseIdxIfInBounds i).toList.map (fun e=>(e.key,e.val))=(l.eraseIdx i).map fun q=>(C q.1,D q.2):=by
   rw [Array.toList_eraseIdxIfInBounds,map_er,he,← map_er]
  obtain ⟨s1,s2,s3⟩ := map_step (w:=w) (m:=m) (C:=C) (D:=D) (c:=c) hb hmod
  refine wl_val0 (v := .tuple #[]) ?_ (h _ s1 s2 s3)
  simp [Does,execOp,resolve,invoke,builtin,hx,hy,Builtin.delete_,run_underlying ht,MapKept.run_getObj_map hb,K.check,hf,hv,jL _ hb]
theorem run_eqGuard_sl (op:BinOp) (t:TypeId) (x y:Operand) (a b:Option Addr) (i j k l:Nat):(eqGuard op t x y (.slice a i j) (.slice b k l)).run P w = .ok () w:=by
 unfold eqGuard
 split <;> rfl
theorem does_isnil {t u e k:TypeId} {x y:Operand} {s:SlV} (ht:yM P t e k) (hx:evF f x=s.v) (hy:evF f y = .slice none 0 0):Does P ⟨d,.binOp .eql t x y u,ty,pos,af,gd⟩ f w (.bool s.p.isNone) w:=by
 rw [SlV.eq] at hx
 simp only [Does,execOp,hx,hy,Sem.run_bind,run_eqGuard_sl,Result.andThen_ok,Lib.run_eql_slice_nil w t e s.p s.n s.c 0 0 ht.1,Sem.run_pure]
theorem does_makeMap {t:TypeId}:Does P ⟨d,.makeMap t none,ty,pos,af,gd⟩ f w (.map (some w.heap.size)) (w.alloc (.map #[] 0)):=by
 simp [Does,execOp,run_makeMap]
end
section
variable {A:Nat→Prop} {N:Oth} {w:World}
def zcm.f:Option Tb:=some (some [])
theorem km (S:St A N w w [] []) {r:Tb} (H:zcm.f=some r):Calls PP F_formula_New #[] w fun e w' => ∃ v,e = .returned v ∧ ∃ a:Option Addr,(v = .pointer a∧St A N w w' [oT a r] []):=by
 obtain rfl:=zce H
 refine zz (n:=4) fn_formula_New rfl rfl zcc ?_
 repeat (first | refine zd ?_ | refine za ?_ | refine zP ?_)
 refine zi (xc rfl) zca ?_
 refine zb ?_
 repeat (first | refine zd ?_ | refine za ?_ | refine zP ?_)
 refine zi does_makeMap zca ?_
 replace S:=S.nil T_Nd 4 Nd.C
 replace S:St A N w (w.alloc (.map #[] 0)) [oM w.heap.size ndV (Value.int .i64) (zipT []),oS T_Nd 4 Nd.C SlV.nil []] [] :=
  S.add (b:=oM w.heap.size ndV (Value.int .i64) (zipT [])) (G:=(· = w.heap.size)) (Ext.alloc _ _) ⟨⟨#[],0,heap_alloc_new w _,rfl⟩,fun _=>Iff.rfl⟩ (fun i hi=>by rw [hi]; exact Nat.le_refl _)
 refine zi (yi bu_Tab (Bld.one rfl rfl (by rw [Tab.len]; decide) (Tab.set_at_ _ _) Bld.nil)) zca ?_
 refine zX rfl zca fun b w2 hw2=>?_
 replace S:=S.new hw2
 refine zi (xc rfl) zca ?_
 refine zb ?_
 refine zx ?_
 exact ⟨_,(zS (zf rfl)),_,rfl,S.shutT zcc rfl⟩
end
section
variable {A:Nat→Prop} {N:Oth} {w0 w w':World} {L Z:List OA}
theorem Gw.St.seeT (h:St A N w0 w L Z) (k:Nat) {a:Option Addr} {M:List Nd} (e:Z[k]? = some (oT a (some M)):=by rfl) : ∃ p s m,a=some ⟨p,0,none⟩ ∧ M.length ≤ 1024∧St A N w0 w L (oB p vF (Tab.C ⟨s,some m⟩) :: fS 4 Nd.C s M :: Z):=by
 have key : ∀ F,(oT a (some M)).holds w F → ∃ p s m,a=some ⟨p,0,none⟩ ∧ Blk w p vF (Tab.C ⟨s,some m⟩)∧Own w 0 T_Nd 4 s (M.map Nd.C)∧M.length ≤ 1024∧F p ∧ ∀ i,s.fp i→F i:=by
  rintro F ⟨p,h1,⟨s,m,b,o,mm,h2,h3,h4,hF⟩,hl⟩
  exact ⟨p,s,m,h1,b,o,hl,(hF p).2 (.inl rfl),fun i hi=>(hF i).2 (.inr (.inr hi))⟩
 obtain ⟨U,hU,hN,hA,hL,hZ,hW⟩ := h
 obtain ⟨F,hF,hFU⟩ := hZ _ (List.mem_of_getElem? e)
 obtain ⟨p,s,m,e1,e2,e3,e4,e5,e6⟩ := key F hF
 refine ⟨p,s,m,e1,e4,U,hU,hN,hA,hL,fun z hz=>?_,hW⟩
 rcases List.mem_cons.1 hz with rfl | hz
 ·exact ⟨fun i=>i=p,⟨e2,fun _=>Iff.rfl⟩,fun i hi=>by rw [hi]; exact hFU p e5⟩
 rcases List.mem_cons.1 hz with rfl | hz
 ·exact ⟨s.fp,⟨⟨e3.toRd,by omega⟩,fun _=>Iff.rfl⟩,fun i hi=>hFU i (e6 i hi)⟩
 ·exact hZ z hz
end
section
variable {A:Nat→Prop} {N:Oth} {w:World}
end
section
variable {A:Nat→Prop} {N:Oth} {w0 w:World} {L Z:List OA}
theorem Gw.St.nil_oT (h:St A N w0 w L Z):St A N w0 w (oT none none :: L) Z:=h.add (b:=oT none none) (Ext.refl w) (oT.nil w) (fun _ x=>x.elim)
end
end
section
open Go.RowKit
namespace Gw
def OA.star (a b:OA):OA where
 holds:=fun w F => ∃ G H,a.holds w G∧b.holds w H∧(∀ i,G i→¬ H i) ∧ ∀ i,F i↔(G i∨H i)
 loc:=fun ⟨G,H,g,h,d,e⟩ hc hs=>⟨G,H,a.loc g hc (fun i hi=>hs i ((e i).2 (.inl hi))),b.loc h hc (fun i hi=>hs i ((e i).2 (.inr hi))),d,e⟩
 lt:=fun ⟨G,H,g,h,d,e⟩ i hi=>((e i).1 hi).elim (a.lt g i) (b.lt h i)
def OA.ex {α:Type} (f:α→OA):OA where
 holds:=fun w F => ∃ x,(f x).holds w F
 loc:=fun ⟨x,h⟩ hc hs=>⟨x,(f x).loc h hc hs⟩
 lt:=fun ⟨x,h⟩ => (f x).lt h
def OA.pure (p:Prop):OA where
 holds:=fun _ F=>p ∧ ∀ i,¬ F i
 loc:=fun h _ _=>h
 lt:=fun h i hi=>(h.2 i hi).elim
section
variable {A:Nat→Prop} {N:Oth} {w0 w w':World} {L Z:List OA}
theorem St.sep (h:St A N w0 w L Z) {L':List OA} (hs : ∀ U,Sep w U L→Sep w U L'):St A N w0 w L' Z:=by
 obtain ⟨U,hU,hN,hA,hL,hZ,hW⟩ := h
 exact ⟨U,hU,hN,hA,hs U hL,hZ,hW⟩
theorem St.unstar (h:St A N w0 w L Z) (k:Nat) {a b:OA} {L':List OA} (e:L[k]? = some (a.star b):=by rfl) (e':a :: b :: L.eraseIdx k=L':=by rfl):St A N w0 w L' Z:=by
 subst e'
 refine h.sep fun U hL=>?_
 obtain ⟨F,⟨G,H,g,h,d,q⟩,hF,hR⟩ := hL.front k e
 refine ⟨G,g,fun i hi=>hF i ((q i).2 (.inl hi)),H,h,fun i hi=>⟨hF i ((q i).2 (.inr hi)),fun hg=>d i hg hi⟩,hR.mono fun i hi=>⟨⟨hi.1,fun hg=>hi.2 ((q i).2 (.inl hg))⟩,fun hh=>hi.2 ((q i).2 (.inr hh))⟩⟩
theorem St.star {a b:OA} (h:St A N w0 w (a :: b :: L) Z):St A N w0 w (a.star b :: L) Z:=by
 refine h.sep fun U hL=>?_
 obtain ⟨G,g,hG,H,h,hH,hR⟩ := hL
 exact ⟨fun i=>G i∨H i,⟨G,H,g,h,fun i hg hh=>(hH i hh).2 hg,fun _=>Iff.rfl⟩,fun i hi=>hi.elim (hG i) (fun q=>(hH i q).1),hR.mono fun i hi=>⟨hi.1.1,fun q=>q.elim hi.1.2 hi.2⟩⟩
theorem St.unex (h:St A N w0 w L Z) (k:Nat) {α:Type} {f:α→OA} (e:L[k]? = some (OA.ex f):=by rfl) : ∃ x,St A N w0 w (f x :: L.eraseIdx k) Z:=by
 obtain ⟨U,hU,hN,hA,hL,hZ,hW⟩ := h
 obtain ⟨F,⟨x,g⟩,hF,hR⟩ := hL.front k e
 exact ⟨x,U,hU,hN,hA,⟨F,g,hF,hR⟩,hZ,hW⟩
theorem St.toex {α:Type} {f:α→OA} (x:α) (h:St A N w0 w (f x :: L) Z):St A N w0 w (OA.ex f :: L) Z:=by
 refine h.sep fun U hL=>?_
 obtain ⟨F,g,hF,hR⟩ := hL
 exact ⟨F,⟨x,g⟩,hF,hR⟩
theorem St.getp (h:St A N w0 w L Z) (k:Nat) {p:Prop} (e:L[k]? = some (OA.pure p):=by rfl):p:=(h.own k e).elim fun _ h=>h.1
theorem St.putp (h:St A N w0 w L Z) {p:Prop} (hp:p):St A N w0 w (OA.pure p :: L) Z :=
 h.add (b:=OA.pure p) (G:=fun _=>False) (Ext.refl w) ⟨hp,fun _ x=>x⟩ (fun _ x=>x.elim)
theorem St.unexZ (h:St A N w0 w L Z) (k:Nat) {α:Type} {f:α→OA} (e:Z[k]? = some (OA.ex f):=by rfl) : ∃ x,St A N w0 w L (f x :: Z):=by
 obtain ⟨U,hU,hN,hA,hL,hZ,hW⟩ := h
 obtain ⟨F,⟨x,g⟩,hF⟩ := hZ _ (List.mem_of_getElem? e)
 refine ⟨x,U,hU,hN,hA,hL,fun z hz=>?_,hW⟩
 rcases List.mem_cons.1 hz with rfl | hz
 ·exact ⟨F,g,hF⟩
 ·exact hZ z hz
theorem St.getpZ (h:St A N w0 w L Z) (k:Nat) {p:Prop} (e:Z[k]? = some (OA.pure p):=by rfl):p:=(h.frz k e).elim fun _ h=>h.1
theorem St.frzO (h:St A N w0 w L Z) (k:Nat) {a:OA} {L':List OA} (q:L[k]? = some a:=by rfl) (q':L.eraseIdx k=L':=by rfl):St A N w0 w L' (a :: Z):=h.freeze k (a:=a) (fun _ h=>h) q q'
end
section
variable {A:Nat→Prop} {N:Oth} {w0 w w':World} {L Z:List OA} {e k:Nat} {μ α:Type} {C:μ→List Value} {R:μ→α→OA} {s:SlV} {l:List α}
def OA.on (a:OA) (w:World):Prop := ∃ F,a.holds w F
theorem St.onO (h:St A N w0 w L Z) (k:Nat) {a:OA} (e:L[k]? = some a:=by rfl):a.on w:=h.own k e
theorem St.onZ (h:St A N w0 w L Z) (k:Nat) {a:OA} (e:Z[k]? = some a:=by rfl):a.on w:=h.frz k e
end
section
variable {P:Program} {f:Fr} {w w':World} {d:Option Tmp} {ty:TypeId} {pos:String} {af:Array Edge} {gd:Option (Nat × Bool)}
theorem Does.to {o:Oper} {v v':Value} (h:Does P o f w v w') (e:v=v'):Does P o f w v' w':=e ▸ h
theorem wl_makeMap {α β:Type} {C:α→Value} {D:β→Value} {rd:Option Nat} {n:Nat} {dm:List Nat} {ops:Array Oper} {rest:List Oper} {Q:Post} {dd:Tmp} {t:TypeId} (hd:dd < n)
  (h : ∀ m w',MapB w' m C D []→Ext w w'→w.heap.size ≤ m→wl P rd n dm ops rest Q (upd f dd (.map (some m))) w'):wl P rd n dm ops (⟨some dd,.makeMap t none,ty,pos,af,none⟩ :: rest) Q f w :=
 zi does_makeMap hd (h _ _ ⟨#[],0,heap_alloc_new w _,rfl⟩ (Ext.alloc _ _) (Nat.le_refl _))
end
section
variable {A:Nat→Prop} {N:Oth} {w0 w w':World} {L Z:List OA}
theorem St.newM (h:St A N w0 w L Z) {α β:Type} {C:α→Value} {D:β→Value} {m:Nat} (hm:MapB w' m C D ([]:List (α × β))) (hx:Ext w w') (hl:w.heap.size ≤ m):St A N w0 w' (oM m C D [] :: L) Z :=
 h.add (b:=oM m C D []) (G:=(· = m)) hx ⟨hm,fun _=>Iff.rfl⟩ (fun i hi=>by rw [hi]; exact hl)
end
end Gw
end
section
open Go.RowKit
namespace Gw
def OA.and (a b:OA):OA where
 holds:=fun w F => ∃ G H,a.holds w G∧b.holds w H ∧ ∀ i,F i↔(G i∨H i)
 loc:=fun ⟨G,H,g,h,e⟩ hc hs=>⟨G,H,a.loc g hc (fun i hi=>hs i ((e i).2 (.inl hi))),b.loc h hc (fun i hi=>hs i ((e i).2 (.inr hi))),e⟩
 lt:=fun ⟨G,H,g,h,e⟩ i hi=>((e i).1 hi).elim (a.lt g i) (b.lt h i)
def bigA {μ α:Type} (R:μ→α→OA):List μ→List α→OA
 | [],[]=>OA.pure True
 | m :: ms,x :: xs=>(R m x).and (bigA R ms xs)
 | _,_=>OA.pure False
theorem zbP {w:World} {μ α:Type} {R:μ→α→OA} : ∀ {ms:List μ} {l:List α} {F:Nat→Prop},(bigA R ms l).holds w F→ms.length=l.length
 | [],[],_,_=>rfl
 | m :: ms,x :: xs,F,⟨_,_,_,h,_⟩ => by simp [zbP h]
 | [],_ :: _,_,h=>h.1.elim
 | _ :: _,[],_,h=>h.1.elim
theorem bigA_at {w:World} {μ α:Type} {R:μ→α→OA} : ∀ {ms:List μ} {l:List α} {F:Nat→Prop} {i:Nat} {m:μ} {x:α},(bigA R ms l).holds w F→ms[i]? = some m→l[i]? = some x → ∃ G,(R m x).holds w G ∧ ∀ j,G j→F j
 | [],[],_,_,_,_,_,h,_=>by simp at h
 | m :: ms,x :: xs,F,i,m',x',⟨G,H,g,h,e⟩,hm,hx=>by
  cases i with
  | zero=>simp at hm hx; subst hm hx; exact ⟨G,g,fun j hj=>(e j).2 (.inl hj)⟩
  | succ i =>
   obtain ⟨K,k,hK⟩ := bigA_at h (by simpa using hm) (by simpa using hx)
   exact ⟨K,k,fun j hj=>(e j).2 (.inr (hK j hj))⟩
 | [],_ :: _,_,_,_,_,h,_,_=>h.1.elim
 | _ :: _,[],_,_,_,_,h,_,_=>h.1.elim
theorem bigA_push {w:World} {μ α:Type} {R:μ→α→OA} {m:μ} {x:α} {G:Nat→Prop} (g:(R m x).holds w G) : ∀ {ms:List μ} {l:List α} {F:Nat→Prop},(bigA R ms l).holds w F→(bigA R (ms ++ [m]) (l ++ [x])).holds w fun i=>F i∨G i
 | [],[],F,h=>⟨G,fun _=>False,g,⟨trivial,fun _ x=>x⟩,fun i=>⟨fun q=>q.elim (fun q=>absurd q (h.2 i)) .inl,fun q=>q.elim .inr (fun x=>x.elim)⟩⟩
 | m' :: ms,x' :: xs,F,⟨G',H',g',h',e'⟩ => by
  refine ⟨G',fun i=>H' i∨G i,g',bigA_push g h',fun i=>?_⟩
  show F i∨G i↔_
  rw [e' i,or_assoc]
 | [],_ :: _,_,h=>h.1.elim
 | _ :: _,[],_,h=>h.1.elim
section
variable {A:Nat→Prop} {N:Oth} {w0 w w':World} {L Z:List OA}
theorem St.andZ (h:St A N w0 w L Z) (j k:Nat) {a b:OA} (e:Z[j]? = some a:=by rfl) (e':Z[k]? = some b:=by rfl):St A N w0 w L (a.and b :: Z):=by
 obtain ⟨U,hU,hN,hA,hL,hZ,hW⟩ := h
 refine ⟨U,hU,hN,hA,hL,fun z hz=>?_,hW⟩
 rcases List.mem_cons.1 hz with rfl | hz
 ·obtain ⟨F,g,hF⟩ := hZ _ (List.mem_of_getElem? e)
  obtain ⟨G,g',hG⟩ := hZ _ (List.mem_of_getElem? e')
  exact ⟨fun i=>F i∨G i,⟨F,G,g,g',fun _=>Iff.rfl⟩,fun i hi=>hi.elim (hF i) (hG i)⟩
 ·exact hZ z hz
theorem St.unandZ (h:St A N w0 w L Z) (k:Nat) {a b:OA} (e:Z[k]? = some (a.and b):=by rfl):St A N w0 w L (a :: b :: Z):=by
 have h1:=h.part k (a:=a.and b) (b:=b) (fun F ⟨G,H,g,h,q⟩ => ⟨H,h,fun i hi=>(q i).2 (.inr hi)⟩) e
 exact h1.part (k + 1) (a:=a.and b) (b:=a) (fun F ⟨G,H,g,h,q⟩ => ⟨G,g,fun i hi=>(q i).2 (.inl hi)⟩) (by simpa using e)
theorem St.toexZ {α:Type} {f:α→OA} (x:α) (h:St A N w0 w L (f x :: Z)):St A N w0 w L (OA.ex f :: Z):=by
 obtain ⟨U,hU,hN,hA,hL,hZ,hW⟩ := h
 refine ⟨U,hU,hN,hA,hL,fun z hz=>?_,hW⟩
 rcases List.mem_cons.1 hz with rfl | hz
 ·obtain ⟨F,g,hF⟩ := hZ _ (List.mem_cons_self ..)
  exact ⟨F,⟨x,g⟩,hF⟩
 ·exact hZ z (List.mem_cons_of_mem _ hz)
end
section
variable {P:Program} {f:Fr} {w:World}
theorem rets4 {r1 r2 r3 r4:ResultVar} {v1 v2 v3 v4:Value} (h1:uV P r1 f w v1) (h2:uV P r2 f w v2) (h3:uV P r3 f w v3) (h4:uV P r4 f w v4):Rets P #[r1,r2,r3,r4] f w (.tuple #[v1,v2,v3,v4]):=by
 unfold Rets
 unfold uV at h1 h2 h3 h4
 simp only [Array.mapM_eq_mapM_toList,List.mapM_cons,List.mapM_nil]
 simp [h1,h2,h3,h4]
end
end Gw
end
section
open Gw Go.RowKit
inductive PTerm where
 | mk (kind:Int) (name other:ByteArray) (form:Int) (sub:List PTerm)
namespace PTerm
def kind:PTerm→Int | mk k _ _ _ _=>k
def name:PTerm→ByteArray | mk _ n _ _ _=>n
def other:PTerm→ByteArray | mk _ _ o _ _=>o
def form:PTerm→Int | mk _ _ _ f _=>f
def sub:PTerm→List PTerm | mk _ _ _ _ s=>s
def z:PTerm:=mk 0 ByteArray.empty ByteArray.empty 0 []
end PTerm
abbrev mT (x:PTerm) (s:SlV):Term:=⟨x.kind,x.name,x.other,x.form,s⟩
def fT (s:SlV) (ms:List Term):OA where
 holds:=fun w F=>(Sl w 5 s (ms.map Term.C)∧ms.length ≤ 140737488355328) ∧ ∀ i,F i↔(ms ≠ []∧i=s.blk)
 loc:=fun h hc hs=>⟨⟨h.1.1.chg hc (fun hr=>hs _ ((h.2 _).2 ⟨fun e=>hr (by rw [e]; rfl),rfl⟩)),h.1.2⟩,h.2⟩
 lt:=fun {w F} h i hi=>by
  obtain ⟨hne,rfl⟩ := (h.2 i).1 hi
  obtain ⟨m,ms,rfl⟩ := List.exists_cons_of_ne_nil hne
  have h1:=(h.1.1.cells 0 (Term.C m) zcc).2 0 (.int .i64 m.kind) rfl
  rcases Nat.lt_or_ge s.blk w.heap.size with q | q
  ·exact q
  ·simp [World.cell?,Array.getElem?_eq_none q] at h1
theorem fT.sl {w:World} {s:SlV} {ms:List Term} (h:(fT s ms).on w):Sl w 5 s (ms.map Term.C):=h.elim fun _ h=>h.1.1
theorem fT.at {w:World} {s:SlV} {ms:List Term} (h:(fT s ms).on w) {i:Nat} {m:Term} (hm:ms[i]? = some m):j0 w s.blk (s.off + i * 5) (Term.C m):=((fT.sl h).cells i _ (by simp [hm])).2
theorem fT.len {w:World} {s:SlV} {ms:List Term} (h:(fT s ms).on w):ms.length ≤ 140737488355328:=h.elim fun _ h=>h.1.2
theorem fT.of {w:World} {s:SlV} {ms:List Term} {F:Nat→Prop} (h:(fS 5 Term.C s ms).holds w F) : ∃ G,(fT s ms).holds w G ∧ ∀ i,G i→F i :=
 ⟨fun i=>ms ≠ []∧i=s.blk,⟨⟨h.1.1.sl,h.1.2⟩,fun _=>Iff.rfl⟩,fun i hi=>(h.2 i).2 ⟨(fun e=>by
  obtain ⟨m,ms,rfl⟩ := List.exists_cons_of_ne_nil hi.1
  have h2:=(h.1.1.sl.cells 0 (Term.C m) zcc).1
  rw [e] at h2; exact absurd h2 zcc),hi.2⟩⟩
def fTm:Nat→Term→PTerm→OA
 | 0,_,_=>OA.pure False
 | d + 1,m,x=>(OA.pure (m.kind=x.kind∧m.name=x.name∧m.other=x.other∧m.form=x.form)).and (OA.ex fun (ms:List Term)=>(fT m.sub ms).and (bigA (fTm d) ms x.sub))
def zau (s:SlV) (l:List PTerm):OA:=OA.ex fun (q:Nat × List Term)=>(fT s q.2).and (bigA (fTm q.1) q.2 l)
abbrev zn (s:SlV) (l:List PTerm):OA:=zau s l
def xh (m:Term) (x:PTerm):OA:=OA.ex fun (d:Nat)=>fTm d m x
theorem fTm_eqs {w:World} {F:Nat→Prop} : ∀ {d:Nat} {m:Term} {x:PTerm},(fTm d m x).holds w F→m.kind=x.kind∧m.name=x.name∧m.other=x.other∧m.form=x.form
 | _ + 1,_,_,⟨_,_,g,_⟩ => g.1
 | 0,_,_,h=>h.1.elim
theorem fTm_sub {w:World} {F:Nat→Prop} : ∀ {d:Nat} {m:Term} {x:PTerm},(fTm d m x).holds w F → ∃ G,(zau m.sub x.sub).holds w G ∧ ∀ i,G i→F i
 | d + 1,_,_,⟨_,H,_,⟨ms,h⟩,e⟩ => ⟨H,⟨(d,ms),h⟩,fun i hi=>(e i).2 (.inr hi)⟩
 | 0,_,_,h=>h.1.elim
theorem bigA_mono {w:World} {μ α:Type} {R R':μ→α→OA} (hR : ∀ m x F,(R m x).holds w F→(R' m x).holds w F) : ∀ {ms:List μ} {l:List α} {F:Nat→Prop},(bigA R ms l).holds w F→(bigA R' ms l).holds w F
 | [],[],_,h=>h
 | m :: ms,x :: xs,F,⟨G,H,g,h,e⟩ => ⟨G,H,hR _ _ _ g,bigA_mono hR h,e⟩
 | [],_ :: _,_,h=>h.1.elim
 | _ :: _,[],_,h=>h.1.elim
theorem fTm_mono {w:World} : ∀ {d d':Nat} {m:Term} {x:PTerm} {F:Nat→Prop},d ≤ d'→(fTm d m x).holds w F→(fTm d' m x).holds w F
 | 0,_,_,_,_,_,h=>h.1.elim
 | d + 1,0,_,_,_,hd,_=>by omega
 | d + 1,d' + 1,_,_,_,hd,⟨G,H,g,⟨ms,G2,H2,g2,h2,e2⟩,e⟩ => ⟨G,H,g,⟨ms,G2,H2,g2,bigA_mono (fun _ _ _ q=>fTm_mono zcb q) h2,e2⟩,e⟩
theorem fTerm_mk {w:World} {F:Nat→Prop} {x:PTerm} {s:SlV}:(zau s x.sub).holds w F→(xh (mT x s) x).holds w F
 | ⟨(d,ms),h⟩ => ⟨d + 1,fun _=>False,F,⟨⟨rfl,rfl,rfl,rfl⟩,fun _ q=>q⟩,⟨ms,h⟩,fun _=>⟨.inr,fun q=>q.elim (fun q=>q.elim) id⟩⟩
theorem big_depth {w:World} : ∀ {ms:List Term} {l:List PTerm} {F:Nat→Prop},(bigA xh ms l).holds w F → ∃ d,(bigA (fTm d) ms l).holds w F
 | [],[],_,h=>⟨0,h⟩
 | m :: ms,x :: xs,F,⟨G,H,⟨d,g⟩,h,e⟩ => by
  obtain ⟨d',h'⟩ := big_depth h
  exact ⟨max d d',G,H,fTm_mono (Nat.le_max_left ..) g,bigA_mono (fun _ _ _ q=>fTm_mono (Nat.le_max_right ..) q) h',e⟩
 | [],_ :: _,_,h=>h.1.elim
 | _ :: _,[],_,h=>h.1.elim
theorem fTerms_mk {w:World} {F G:Nat→Prop} {s:SlV} {ms:List Term} {l:List PTerm} (h:(fT s ms).holds w F) (h':(bigA xh ms l).holds w G):(zau s l).holds w fun i=>F i∨G i:=by
 obtain ⟨d,h'⟩ := big_depth h'
 exact ⟨(d,ms),F,G,h,h',fun _=>Iff.rfl⟩
theorem zau.rd {w:World} {s:SlV} {l:List PTerm} (h:(zn s l).on w) : ∃ ms:List Term,Sl w 5 s (ms.map Term.C)∧ms.length=l.length∧l.length ≤ 140737488355328:=by
 obtain ⟨F,⟨d,ms⟩,G,H,g,hh,q⟩ := h
 have hl:ms.length=l.length:=zbP hh
 exact ⟨ms,g.1.1,hl,by rw [← hl]; exact g.1.2⟩
section
variable {A:Nat→Prop} {N:Oth} {w0 w w':World} {L Z:List OA}
theorem Gw.St.eqsTm (h:St A N w0 w L Z) (k:Nat) {m:Term} {x:PTerm} (e:Z[k]? = some (xh m x):=by rfl):m.kind=x.kind∧m.name=x.name∧m.other=x.other∧m.form=x.form:=by
 obtain ⟨F,d,h⟩ := h.frz k e
 exact fTm_eqs h
theorem Gw.St.subTm (h:St A N w0 w L Z) (k:Nat) {m:Term} {x:PTerm} (e:Z[k]? = some (xh m x):=by rfl):St A N w0 w L (zau m.sub x.sub :: Z):=by
 obtain ⟨U,hU,hN,hA,hL,hZ,hW⟩ := h
 refine ⟨U,hU,hN,hA,hL,fun z hz=>?_,hW⟩
 rcases List.mem_cons.1 hz with rfl | hz
 ·obtain ⟨F,⟨d,g⟩,hF⟩ := hZ _ (List.mem_of_getElem? e)
  obtain ⟨G,g',hG⟩ := fTm_sub g
  exact ⟨G,g',fun i hi=>hF i (hG i hi)⟩
 ·exact hZ z hz
theorem Gw.St.eltTm (h:St A N w0 w L Z) (k:Nat) {s:SlV} {l:List PTerm} {i:Int} (hi:0 ≤ i∧i < l.length) (e:Z[k]? = some (zau s l):=by rfl) :
  ∃ m:Term,j0 w s.blk (s.off + i.toNat * 5) (Term.C m)∧St A N w0 w L (xh m (at_ PTerm.z l i) :: Z):=by
 obtain ⟨U,hU,hN,hA,hL,hZ,hW⟩ := h
 obtain ⟨F,⟨⟨d,ms⟩,G,H,g,hh,q⟩,hF⟩ := hZ _ (List.mem_of_getElem? e)
 have hl:ms.length=l.length:=zbP hh
 have h1:i.toNat < ms.length:=by omega
 have h2:i.toNat < l.length:=by omega
 have h3:at_ PTerm.z l i=l[i.toNat]:=by simp [at_,List.getD_eq_getElem?_getD,h2]
 obtain ⟨K,hk,hK⟩ := bigA_at hh (List.getElem?_eq_getElem h1) (List.getElem?_eq_getElem h2)
 refine ⟨ms[i.toNat],fT.at ⟨_,g⟩ (List.getElem?_eq_getElem h1),U,hU,hN,hA,hL,fun z hz=>?_,hW⟩
 rcases List.mem_cons.1 hz with rfl | hz
 ·rw [h3]; exact ⟨K,⟨d,hk⟩,fun j hj=>hF j ((q j).2 (.inr (hK j hj)))⟩
 ·exact hZ z hz
theorem Gw.St.viewTerm (h:St A N w0 w L Z) (k:Nat) {s:SlV} {l:List PTerm} {i:Int} (hi:0 ≤ i∧i < l.length) (e:Z[k]? = some (zn s l):=by rfl) :
  ∃ n:SlV,j0 w s.blk (s.off + i.toNat * 5) (Term.C ⟨(at_ PTerm.z l i).kind,(at_ PTerm.z l i).name,(at_ PTerm.z l i).other,(at_ PTerm.z l i).form,n⟩)∧St A N w0 w L (zn n (at_ PTerm.z l i).sub :: Z):=by
 obtain ⟨m,hc,h1⟩ := h.eltTm k hi e
 obtain ⟨e1,e2,e3,e4⟩ := h1.eqsTm 0
 have h2:=h1.subTm 0
 refine ⟨m.sub,by rw [← e1,← e2,← e3,← e4]; exact hc,h2.pickZ fun z hz=>?_⟩
 rcases List.mem_cons.1 hz with rfl | hz
 ·exact List.mem_cons_self ..
 ·exact List.mem_cons_of_mem _ (List.mem_cons_of_mem _ hz)
theorem Gw.St.lenFZ (h:St A N w0 w L Z) (n:Nat) {s:SlV} {l:List PTerm} (q:Z[n]? = some (zn s l):=by rfl):l.length ≤ 140737488355328:=(zau.rd (h.frz n q)).elim fun _ h=>h.2.2
theorem Gw.St.nilTm (h:St A N w0 w L Z):St A N w0 w L (zn SlV.nil [] :: Z) :=
 h.say ⟨(0,[]),fun _=>False,fun _=>False,⟨⟨by simpa using Sl.nil w 5,by simp⟩,fun i=>⟨fun x=>x.elim,fun x=>absurd rfl x.1⟩⟩,⟨trivial,fun _ x=>x⟩,fun _=>⟨fun x=>x.elim,fun x=>x.elim id id⟩⟩
theorem Gw.St.bigTm (h:St A N w0 w L Z):St A N w0 w L (bigA xh [] [] :: Z):=h.say ⟨trivial,fun _ x=>x⟩
theorem Gw.St.consTm {ms:List Term} {l:List PTerm} (h:St A N w0 w L (bigA xh ms l :: Z)) (k:Nat) {x:PTerm} {s:SlV} (e:Z[k]? = some (zn s x.sub):=by rfl):St A N w0 w L (bigA xh (mT x s :: ms) (x :: l) :: Z):=by
 have h1:=h.part (k + 1) (a:=zn s x.sub) (b:=xh (mT x s) x) (fun F q=>⟨F,fTerm_mk q,fun _ q=>q⟩) (by simpa using e)
 have h2:=h1.andZ 0 1
 refine h2.pickZ fun z hz=>?_
 rcases List.mem_cons.1 hz with rfl | hz
 ·exact List.mem_cons_self ..
 ·exact List.mem_cons_of_mem _ (List.mem_cons_of_mem _ (List.mem_cons_of_mem _ hz))
theorem Gw.St.frzTm (h:St A N w0 w L Z) (n k:Nat) {s:SlV} {ms:List Term} {l:List PTerm} {L':List OA} (q:L[n]? = some (oS zj 5 Term.C s ms):=by rfl) (q':L.eraseIdx n=L':=by rfl) (e:Z[k]? = some (bigA xh ms l):=by rfl):St A N w0 w L' (zn s l :: Z):=by
 have h1:=h.frzS n q q'
 replace h1:=h1.part 0 (a:=fS 5 Term.C s ms) (b:=fT s ms) (fun F q=>fT.of q)
 have h2:=h1.andZ 0 (k + 2) (a:=fT s ms) (b:=bigA xh ms l) rfl (by simpa using e)
 have h3:=h2.part 0 (a:=(fT s ms).and (bigA xh ms l)) (b:=zn s l) (fun F ⟨G,H,g,hh,q⟩ => ⟨_,fTerms_mk g hh,fun i hi=>(q i).2 hi⟩)
 refine h3.pickZ fun z hz=>?_
 rcases List.mem_cons.1 hz with rfl | hz
 ·exact List.mem_cons_self ..
 ·exact List.mem_cons_of_mem _ (List.mem_cons_of_mem _ (List.mem_cons_of_mem _ (List.mem_cons_of_mem _ hz)))
end
section
variable {P:Program} {f:Fr} {w w':World} {d:Option Tmp} {ty:TypeId} {pos:String} {af:Array Edge} {gd:Option (Nat × Bool)}
theorem Gw.does_lenF {l:List PTerm} {x:Operand} {t e k:Nat} {s:SlV} (ht:yM P t e k) (hx:evF f x=s.v) (h:(zn s l).on w):Does P ⟨d,.call ⟨.builtin .len,#[x],#[t]⟩,ty,pos,af,gd⟩ f w (.int .i64 l.length) w:=by
 obtain ⟨ms,hr,hl,_⟩ := zau.rd h
 have:=does_lenS (P:=P) (f:=f) (w:=w) (d:=d) (ty:=ty) (pos:=pos) (af:=af) (gd:=gd) ht hx
 rw [hr.len,List.length_map,hl] at this; exact this
theorem Gw.does_indexF {l:List PTerm} {x y:Operand} {t e:Nat} {kd:IntKind} {i:Int} {s:SlV} (ht:yM P t e 5) (hx:evF f x=s.v) (hy:evF f y = .int kd i) (h:(zn s l).on w) (h0:0 ≤ i) (h1:i < l.length) :
  Does P ⟨d,.indexAddr t x y,ty,pos,af,gd⟩ f w (.pointer (some ⟨s.blk,s.off + i.toNat * 5,none⟩)) w:=by
 obtain ⟨ms,hr,hl,_⟩ := zau.rd h
 exact does_indexS ht hx hy hr h0 (by rw [List.length_map]; omega) rfl
end
def x8:Option Addr→List (ByteArray × Int)→OA
 | a,[]=>OA.pure (a=none)
 | a,(n,f) :: l=>OA.ex fun (q:Nat × Option Addr)=>(OA.pure (a=some ⟨q.1,0,none⟩)).and ((oB q.1 uu (Scope.C ⟨n,f,q.2⟩)).and (x8 q.2 l))
section
variable {A:Nat→Prop} {N:Oth} {w0 w w':World} {L Z:List OA}
theorem Gw.St.nilScope (h:St A N w0 w L Z):St A N w0 w L (x8 none [] :: Z):=h.say ⟨rfl,fun _ x=>x⟩
theorem Gw.St.pushScope (h:St A N w0 w L Z) (j k:Nat) {b:Nat} {n:ByteArray} {f:Int} {a:Option Addr} {l:List (ByteArray × Int)} {L':List OA} (q:L[j]? = some (oB b uu (Scope.C ⟨n,f,a⟩)):=by rfl) (q':L.eraseIdx j=L':=by rfl) (e:Z[k]? = some (x8 a l):=by rfl) :
  St A N w0 w L' (x8 (some ⟨b,0,none⟩) ((n,f) :: l) :: Z):=by
 have h1:=h.frzO j q q'
 have h2:=h1.andZ 0 (k + 1) (a:=oB b uu (Scope.C ⟨n,f,a⟩)) (b:=x8 a l) rfl (by simpa using e)
 have h3:=h2.say (b:=OA.pure ((some ⟨b,0,none⟩ : Option Addr)=some ⟨b,0,none⟩)) ⟨rfl,fun _ x=>x⟩
 have h4:=h3.andZ 0 1
 have h5:=h4.toexZ (f:=fun (q:Nat × Option Addr)=>(OA.pure ((some ⟨b,0,none⟩ : Option Addr)=some ⟨q.1,0,none⟩)).and ((oB q.1 uu (Scope.C ⟨n,f,q.2⟩)).and (x8 q.2 l))) (b,a)
 refine h5.pickZ fun z hz=>?_
 rcases List.mem_cons.1 hz with rfl | hz
 ·exact List.mem_cons_self ..
 ·simp [hz]
theorem Gw.St.openScope (h:St A N w0 w L Z) (k:Nat) {a:Option Addr} {n:ByteArray} {f:Int} {l:List (ByteArray × Int)} (e:Z[k]? = some (x8 a ((n,f) :: l)):=by rfl) :
  ∃ p next,a=some ⟨p,0,none⟩ ∧ St A N w0 w L (oB p uu (Scope.C ⟨n,f,next⟩) :: x8 next l :: Z):=by
 obtain ⟨⟨p,next⟩,h1⟩ := h.unexZ k (f:=fun (q:Nat × Option Addr)=>(OA.pure (a=some ⟨q.1,0,none⟩)).and ((oB q.1 uu (Scope.C ⟨n,f,q.2⟩)).and (x8 q.2 l))) e
 have h2:=h1.unandZ 0
 have hp:=h2.getpZ 0
 have h3:=h2.unandZ 1
 refine ⟨p,next,hp,h3.pickZ fun z hz=>?_⟩
 rcases List.mem_cons.1 hz with rfl | hz
 ·exact List.mem_cons_self ..
 rcases List.mem_cons.1 hz with rfl | hz
 ·simp
 ·simp [hz]
theorem Gw.St.endScope (h:St A N w0 w L Z) (k:Nat) {a:Option Addr} (e:Z[k]? = some (x8 a []):=by rfl):a=none:=h.getpZ k e
end
end
section
open Go.RowKit Go.Extern.Stop Go.Stop Go.Extern
theorem as_nil (t:Value) (w:World) :
  Calls Tryz.prog 129 #[.nilIface,t] w fun e w'=>e = .returned (.bool false)∧w'=w:=by
 go_enter Tryz.func129,Tryz.ntmps129
 go_wp2
 go_ret
 exact ⟨rfl,rfl⟩
theorem asF_valueOf27 (t:Addr) (w:World):(ReflectliteValue.unpack (.iface 189 (.pointer (some t)))).run Tryz.prog w
  = .ok (.agg #[.pointer (some ⟨4,189,none⟩),.pointer (some ⟨w.heap.size,0,none⟩),.int .u64 150]) (w.alloc (.cells #[.pointer (some t)] 189)):=by kernel_rfl
theorem asF_type27 (a:Addr) (w:World):(ReflectliteValue.methodAny (ReflectliteValue.valueError "reflectlite.Value.Type" 0) (fun t _ _ _=>ReflectliteType.toType t) #[.agg #[.pointer (some ⟨4,189,none⟩),.pointer (some a),.int .u64 150]]).run Tryz.prog w
  = .ok (.iface 233 (.agg #[.pointer (some ⟨4,189,none⟩)])) w:=by kernel_rfl
theorem asF_methodKind (h:Value) (w:World):(Go.method (285 + 100) 233 (.agg #[h]) "Kind").run Tryz.prog w = .ok (185,h) w:=by kernel_rfl
theorem asF_kind27 (w:World):((ReflectliteType.abiMethod fun t=>(fun a:Nat=>Value.int IntKind.u8 (a:Int)) <$> Rtype.kind t) #[.pointer (some ⟨4,189,none⟩)]).run Tryz.prog w = .ok (.int .u8 22) w:=by kernel_rfl
theorem asF_kind25 (w:World):((ReflectliteType.abiMethod fun t=>(fun a:Nat=>Value.int IntKind.u8 (a:Int)) <$> Rtype.kind t) #[.pointer (some ⟨4,187,none⟩)]).run Tryz.prog w = .ok (.int .u8 22) w:=by kernel_rfl
theorem asF_rlm (z:Sem Value) (f:TypeId→Addr→Nat→Nat→Sem Value) (v:Value) :
  ReflectliteValue.method z f #[v]=(do match ← ReflectliteValue.parts v with | none=>z | some (t,a,fl)=>f t a fl (fl % 32)):=rfl
theorem asF_parts27 (a:Addr) (w:World):(ReflectliteValue.parts (.agg #[.pointer (some ⟨4,189,none⟩),.pointer (some a),.int .u64 150])).run Tryz.prog w = .ok (some (189,a,150)) w:=by kernel_rfl
theorem asF_isNil27 (a p:Addr) (W:World) (ha:W.cell? a=some (.pointer (some p))) :
  (ReflectliteValue.method (ReflectliteValue.valueError "reflectlite.Value.IsNil" 0) ReflectliteValue.isNil #[.agg #[.pointer (some ⟨4,189,none⟩),.pointer (some a),.int .u64 150]]).run Tryz.prog W = .ok (.bool false) W:=by
 rw [asF_rlm]
 simp only [Sem.run_bind,asF_parts27,Result.andThen]
 simp [ReflectliteValue.isNil,loadVar,isAgg,underlying,Tryz.underlying189,ha,Result.andThen]
theorem asF_methodElem (h:Value) (w:World):(Go.method (285 + 100) 233 (.agg #[h]) "Elem").run Tryz.prog w = .ok (197,.agg #[h]) w:=by kernel_rfl
theorem asF_methodImplements (h:Value) (w:World):(Go.method (285 + 100) 233 (.agg #[h]) "Implements").run Tryz.prog w = .ok (198,.agg #[h]) w:=by kernel_rfl
theorem asF_methodAssignableTo (h:Value) (w:World):(Go.method (285 + 100) 233 (.agg #[h]) "AssignableTo").run Tryz.prog w = .ok (195,.agg #[h]) w:=by kernel_rfl
theorem asF_elem27 (w:World):(ReflectliteType.method ReflectliteType.elem #[.agg #[.pointer (some ⟨4,189,none⟩)]]).run Tryz.prog w = .ok (.iface 233 (.agg #[.pointer (some ⟨4,187,none⟩)])) w:=by kernel_rfl
theorem asF_implements25 (w:World):(ReflectliteType.relation "Implements" ReflectliteType.implements_ #[.agg #[.pointer (some ⟨4,187,none⟩)],.iface 233 (.agg #[.pointer (some ⟨4,170,none⟩)])]).run Tryz.prog w = .ok (.bool true) w:=by kernel_rfl
theorem asF_typeOf25 (v:Value) (w:World):(ReflectliteType.typeOf #[.iface 187 v]).run Tryz.prog w = .ok (.iface 233 (.agg #[.pointer (some ⟨4,187,none⟩)])) w:=by kernel_rfl
theorem asF_assignable25 (w:World):(ReflectliteType.relation "AssignableTo" ReflectliteType.assignableTo #[.agg #[.pointer (some ⟨4,187,none⟩)],.iface 233 (.agg #[.pointer (some ⟨4,187,none⟩)])]).run Tryz.prog w = .ok (.bool true) w:=by kernel_rfl
theorem asF_valueOf25 (e:Addr) (w:World):(ReflectliteValue.unpack (.iface 187 (.pointer (some e)))).run Tryz.prog w
  = .ok (.agg #[.pointer (some ⟨4,187,none⟩),.pointer (some ⟨w.heap.size,0,none⟩),.int .u64 150]) (w.alloc (.cells #[.pointer (some e)] 187)):=by kernel_rfl
theorem asF_elemOf27 (w:World):(Rtype.elem? 189).run Tryz.prog w = .ok (some 187) w:=by kernel_rfl
theorem asF_mk25 (p:Addr) (w:World):(ReflectliteValue.mk 187 p ReflectliteValue.flagAddr).run Tryz.prog w = .ok (.agg #[.pointer (some ⟨4,187,none⟩),.pointer (some p),.int .u64 406]) w:=by kernel_rfl
theorem asF_elemV27 (a p:Addr) (W:World) (ha:W.cell? a=some (.pointer (some p))) :
  (ReflectliteValue.method (ReflectliteValue.valueError "reflectlite.Value.Elem" 0) ReflectliteValue.elem #[.agg #[.pointer (some ⟨4,189,none⟩),.pointer (some a),.int .u64 150]]).run Tryz.prog W
   = .ok (.agg #[.pointer (some ⟨4,187,none⟩),.pointer (some p),.int .u64 406]) W:=by
 rw [asF_rlm]
 simp only [Sem.run_bind,asF_parts27,Result.andThen]
 simp [ReflectliteValue.elem,loadVar,isAgg,underlying,Tryz.underlying189,ha,Result.andThen,asF_elemOf27,asF_mk25]
theorem asF_rls (v x:Value):ReflectliteValue.set #[v,x]=(do
  let (some (dst,a,fl),some (src,b,_)):=(← ReflectliteValue.parts v,← ReflectliteValue.parts x)
   | unsupported (.noEntry "extern/(internal/reflectlite.Value).Set.zeroValue")
  if fl / ReflectliteValue.flagAddr % 2 == 0 then unsupported (.noEntry "extern/(internal/reflectlite.Value).Set.unaddressable")
  let val ← loadVar src b
  if ← Rtype.directlyAssignable dst src then storeVar dst a val
  else if ← Rtype.implements dst src then
   if (← Rtype.kind src) == 20 then
    match val with
    | .nilIface=>unsupported (.noEntry "extern/reflectlite: a nil value of one interface type handed on as a value of another")
    | _=>storeVar dst a val
   else storeVar dst a (.iface src val)
  else panicString ("reflectlite.Set: value of type " ++ (← Rtype.spelt src) ++ " is not assignable to type " ++ (← Rtype.spelt dst))
  pure (.tuple #[])):=rfl
theorem asF_parts25a (a:Addr) (w:World):(ReflectliteValue.parts (.agg #[.pointer (some ⟨4,187,none⟩),.pointer (some a),.int .u64 406])).run Tryz.prog w = .ok (some (187,a,406)) w:=by kernel_rfl
theorem asF_parts25 (a:Addr) (w:World):(ReflectliteValue.parts (.agg #[.pointer (some ⟨4,187,none⟩),.pointer (some a),.int .u64 150])).run Tryz.prog w = .ok (some (187,a,150)) w:=by kernel_rfl
theorem asF_direct25 (w:World):(Rtype.directlyAssignable 187 187).run Tryz.prog w = .ok true w:=by kernel_rfl
theorem asF_set25 (ta b e:Addr) (old:Value) (W:World) (hb:W.cell? b=some (.pointer (some e))) (ht:W.cell? ta=some old) (hf:W.frozen? ta=false) :
  (ReflectliteValue.set #[.agg #[.pointer (some ⟨4,187,none⟩),.pointer (some ta),.int .u64 406],.agg #[.pointer (some ⟨4,187,none⟩),.pointer (some b),.int .u64 150]]).run Tryz.prog W
   = .ok (.tuple #[]) (W.setCell ta (.pointer (some e))):=by
 rw [asF_rls]
 simp only [Sem.run_bind,asF_parts25a,asF_parts25,Result.andThen]
 simp [ReflectliteValue.flagAddr,loadVar,isAgg,underlying,Tryz.underlying187,hb,Result.andThen,asF_direct25,storeVar,Value.cells,storeCells,Addr.add]
 rw [run_store Tryz.prog W ta _ _ (by rfl)]
 simp [ht,hf]
set_option maxHeartbeats 4000000 in
theorem as_hit (e t:Addr) (old:Value) (w:World) (hg:w.cell? ⟨0,0,none⟩ = some (.iface 233 (.agg #[.pointer (some ⟨4,170,none⟩)]))) (ht0:w.cell? t=some old) (hf0:w.frozen? t=false) :
  Calls Tryz.prog 129 #[.iface 187 (.pointer (some e)),.iface 189 (.pointer (some t))] w fun ev w'=>ev = .returned (.bool true)∧w'=((((w.alloc (.cells #[.pointer (some t)] 189)).alloc (.cells #[.pointer (some ⟨4,189,none⟩),.pointer (some ⟨w.heap.size,0,none⟩),.int .u64 150] 212)).alloc (.cells #[.pointer (some ⟨4,189,none⟩),.pointer (some ⟨w.heap.size,0,none⟩),.int .u64 150] 212)).alloc (.cells #[.pointer (some e)] 187)).setCell t (.pointer (some e)):=by
 have h6:=@run_callFunc_extern Tryz.prog 145 _ (fun args=>ReflectliteValue.unpack (args.getD 0 (.tuple #[]))) Tryz.func145 zcd zcd zcd zcd
 have h7:=@run_callFunc_extern Tryz.prog 146 _ (ReflectliteValue.methodAny (ReflectliteValue.valueError "reflectlite.Value.Type" 0) (fun t _ _ _=>ReflectliteType.toType t)) Tryz.func146 zcd zcd zcd zcd
 have h8:=@run_callFunc_extern Tryz.prog 147 _ (ReflectliteValue.method (ReflectliteValue.valueError "reflectlite.Value.IsNil" 0) ReflectliteValue.isNil) Tryz.func147 zcd zcd zcd zcd
 have h27:=@run_callFunc_extern Tryz.prog 185 _ (ReflectliteType.abiMethod fun t=>do pure (.int .u8 (← Rtype.kind t))) Tryz.func185 zcd zcd zcd zcd
 have h37:=@run_callFunc_extern Tryz.prog 197 _ (ReflectliteType.method ReflectliteType.elem) Tryz.func197 zcd zcd zcd zcd
 have h38:=@run_callFunc_extern Tryz.prog 198 _ (ReflectliteType.relation "Implements" ReflectliteType.implements_) Tryz.func198 zcd zcd zcd zcd
 have h10:=@run_callFunc_extern Tryz.prog 160 _ ReflectliteType.typeOf Tryz.func160 zcd zcd zcd zcd
 have h35:=@run_callFunc_extern Tryz.prog 195 _ (ReflectliteType.relation "AssignableTo" ReflectliteType.assignableTo) Tryz.func195 zcd zcd zcd zcd
 have h11:=@run_callFunc_extern Tryz.prog 161 _ (ReflectliteValue.method (ReflectliteValue.valueError "reflectlite.Value.Elem" 0) ReflectliteValue.elem) Tryz.func161 zcd zcd zcd zcd
 have h12:=@run_callFunc_extern Tryz.prog 162 _ ReflectliteValue.set Tryz.func162 zcd zcd zcd zcd
 have tO:=asF_typeOf25
 have mA:=asF_methodAssignableTo
 have a25:=asF_assignable25
 have v25:=asF_valueOf25
 have f6:=asF_valueOf27
 have f7:=asF_type27
 have mK:=asF_methodKind
 have mE:=asF_methodElem
 have mI:=asF_methodImplements
 have k27:=asF_kind27
 have k25:=asF_kind25
 have e27:=asF_elem27
 have i25:=asF_implements25
 have n8:=asF_isNil27 ⟨w.heap.size,0,none⟩ t ((w.alloc (.cells #[.pointer (some t)] 189)).alloc (.cells #[.pointer (some ⟨4,189,none⟩),.pointer (some ⟨w.heap.size,0,none⟩),.int .u64 150] 212)) zcc
 have hlt:0 < w.heap.size:=by
  rcases Nat.lt_or_ge 0 w.heap.size with h | h
  ·exact h
  ·simp [World.cell?,Array.getElem?_eq_none h] at hg
 have hg2:((w.alloc (.cells #[.pointer (some t)] 189)).alloc (.cells #[.pointer (some ⟨4,189,none⟩),.pointer (some ⟨w.heap.size,0,none⟩),.int .u64 150] 212)).cell? ⟨0,0,none⟩ = some (.iface 233 (.agg #[.pointer (some ⟨4,170,none⟩)])):=by
  rw [World.cell?_alloc_lt _ _ ⟨0,0,none⟩ (by first | (simp; done) | (simp; omega)),World.cell?_alloc_lt _ _ ⟨0,0,none⟩ hlt]; exact hg
 have htl:t.block < w.heap.size:=by
  rcases Nat.lt_or_ge t.block w.heap.size with h | h
  ·exact h
  ·simp [World.cell?,Array.getElem?_eq_none h] at ht0
 have el:=asF_elemV27 ⟨w.heap.size,0,none⟩ t (((w.alloc (.cells #[.pointer (some t)] 189)).alloc (.cells #[.pointer (some ⟨4,189,none⟩),.pointer (some ⟨w.heap.size,0,none⟩),.int .u64 150] 212)).alloc (.cells #[.pointer (some ⟨4,189,none⟩),.pointer (some ⟨w.heap.size,0,none⟩),.int .u64 150] 212)) (by rw [World.cell?_alloc_lt _ _ ⟨w.heap.size,0,none⟩ (by simp; omega)]; simp)
 have st:=asF_set25 t ⟨w.heap.size + 1 + 1 + 1,0,none⟩ e old ((((w.alloc (.cells #[.pointer (some t)] 189)).alloc (.cells #[.pointer (some ⟨4,189,none⟩),.pointer (some ⟨w.heap.size,0,none⟩),.int .u64 150] 212)).alloc (.cells #[.pointer (some ⟨4,189,none⟩),.pointer (some ⟨w.heap.size,0,none⟩),.int .u64 150] 212)).alloc (.cells #[.pointer (some e)] 187))
  (by rw [World.cell?_alloc_at _ _ _ _ zcc]; rfl)
  (by rw [World.cell?_alloc_lt _ _ t (by simp; omega),World.cell?_alloc_lt _ _ t (by simp; omega),World.cell?_alloc_lt _ _ t (by simp; omega),World.cell?_alloc_lt _ _ t htl]; exact ht0)
  (by rw [World.frozen?_alloc_old _ _ t (by simp; omega),World.frozen?_alloc_old _ _ t (by simp; omega),World.frozen?_alloc_old _ _ t (by simp; omega),World.frozen?_alloc_old _ _ t (Nat.ne_of_lt htl)]; exact hf0)
 go_enter Tryz.func129,Tryz.ntmps129
 go_wp2
 refine wp_loop_rounds 1 ?_
 rw [rounds_succ]
 go_wp2
 go_ret
 exact ⟨rfl,rfl⟩
end
section
open Gw Go.RowKit
abbrev xS:TypeId:=187
def oE (v:Value) (x:Option (Int × List Int)):OA:=match x with
 | none=>OA.pure (v = .nilIface)
 | some (c,up)=>OA.ex fun (q:Nat × SlV)=>(OA.pure (v = .iface xS (.pointer (some ⟨q.1,0,none⟩)))).star ((oB q.1 zaI (Refusal.C ⟨c,q.2⟩)).star (oS xB 1 IC q.2 up))
theorem oE.val {w:World} {v:Value} {x:Option (Int × List Int)} (h:(oE v x).on w):(x=none∧v = .nilIface) ∨ ∃ q b,x=some q∧v = .iface xS (.pointer (some ⟨b,0,none⟩)):=by
 obtain ⟨F,h⟩ := h
 cases x with
 | none=>exact .inl ⟨rfl,h.1⟩
 | some q=>obtain ⟨⟨b,s⟩,G,H,g,_⟩ := h; exact .inr ⟨q,b,rfl,g.1⟩
section
variable {P:Program} {f:Fr} {w w':World} {d:Option Tmp} {ty:TypeId} {pos:String} {af:Array Edge} {gd:Option (Nat × Bool)}
theorem run_eqGuard_nil (op:BinOp) (t:TypeId) (x:Operand) (c:Value):(eqGuard op t x (.const c) .nilIface .nilIface).run P w = .ok () w:=by
 unfold eqGuard
 cases x <;> split <;> rfl
theorem run_eqGuard_ifn (op:BinOp) (t u:TypeId) (x y:Operand) (v:Value):(eqGuard op t x y (.iface u v) .nilIface).run P w = .ok () w:=by
 unfold eqGuard
 split <;> rfl
theorem Gw.does_neE {t u:TypeId} {x:Operand} {v:Value} {e:Option (Int × List Int)} (ht:P.underlying t=some (.interface (P.methodsAt t))) (hx:evF f x=v) (hy:evF f (.const .nilIface) = .nilIface) (h:(oE v e).on w):Does P ⟨d,.binOp .neq t x (.const .nilIface) u,ty,pos,af,gd⟩ f w (.bool e.isSome) w:=by
 rcases oE.val h with ⟨rfl,rfl⟩ | ⟨q,b,rfl,rfl⟩
 ·simp only [Does,execOp,hx,hy,Sem.run_bind,run_eqGuard_nil,Result.andThen_ok,run_neq_nil_nil w t ht,Sem.run_pure]; rfl
 ·simp only [Does,execOp,hx,hy,Sem.run_bind,run_eqGuard_ifn,Result.andThen_ok,run_neq_held_nil w t _ _ ht,Sem.run_pure]; rfl
theorem Gw.does_eqE {t u:TypeId} {x:Operand} {v:Value} {e:Option (Int × List Int)} (ht:P.underlying t=some (.interface (P.methodsAt t))) (hx:evF f x=v) (hy:evF f (.const .nilIface) = .nilIface) (h:(oE v e).on w):Does P ⟨d,.binOp .eql t x (.const .nilIface) u,ty,pos,af,gd⟩ f w (.bool e.isNone) w:=by
 rcases oE.val h with ⟨rfl,rfl⟩ | ⟨q,b,rfl,rfl⟩
 ·simp only [Does,execOp,hx,hy,Sem.run_bind,run_eqGuard_nil,Result.andThen_ok,run_eql_nil_nil w t ht,Sem.run_pure]; rfl
 ·simp only [Does,execOp,hx,hy,Sem.run_bind,run_eqGuard_ifn,Result.andThen_ok,run_eql_held_nil w t _ _ ht,Sem.run_pure]; rfl
theorem Gw.does_mkIface {t:TypeId} {x:Operand} {v:Value} (ht:P.concrete t=true) (hx:evF f x=v):Does P ⟨d,.makeInterface t x,ty,pos,af,gd⟩ f w (.iface t v) w:=by
 simp only [Does,execOp,hx,Sem.run_bind,run_makeInterface w t v ht,Result.andThen_ok,Sem.run_pure]
end
theorem Gw.does_makeInterface {f:Fr} {w:World} {d:Option Tmp} {ty:TypeId} {pos:String} {af:Array Edge} {gd:Option (Nat × Bool)} {x:Operand} {v:Value} (hx:evF f x=v):Does PP ⟨d,.makeInterface xS x,ty,pos,af,gd⟩ f w (.iface xS v) w:=does_mkIface zcd hx
section
variable {A:Nat→Prop} {N:Oth} {w0 w w':World} {L Z:List OA}
theorem Gw.St.nilE (h:St A N w0 w L Z):St A N w0 w (oE .nilIface none :: L) Z:=h.putp rfl
theorem Gw.St.mkE {b:Nat} {s:SlV} {c:Int} {up:List Int} (h:St A N w0 w (oB b zaI (Refusal.C ⟨c,s⟩) :: oS xB 1 IC s up :: L) Z):St A N w0 w (oE (.iface xS (.pointer (some ⟨b,0,none⟩))) (some (c,up)) :: L) Z :=
 St.toex (f:=fun (q:Nat × SlV)=>(OA.pure (Value.iface xS (.pointer (some ⟨b,0,none⟩)) = .iface xS (.pointer (some ⟨q.1,0,none⟩)))).star ((oB q.1 zaI (Refusal.C ⟨c,q.2⟩)).star (oS xB 1 IC q.2 up))) (b,s) (h.star.putp rfl).star
theorem Gw.St.openE (h:St A N w0 w L Z) (k:Nat) {v:Value} {c:Int} {up:List Int} {L':List OA} (e:L[k]? = some (oE v (some (c,up))):=by rfl) (e':L.eraseIdx k=L':=by rfl) : ∃ b s,v = .iface xS (.pointer (some ⟨b,0,none⟩))∧St A N w0 w (oB b zaI (Refusal.C ⟨c,s⟩) :: oS xB 1 IC s up :: L') Z:=by
 subst e'
 obtain ⟨⟨b,s⟩,h1⟩ := h.unex k (f:=fun (q:Nat × SlV)=>(OA.pure (v = .iface xS (.pointer (some ⟨q.1,0,none⟩)))).star ((oB q.1 zaI (Refusal.C ⟨c,q.2⟩)).star (oS xB 1 IC q.2 up))) e
 have h2:=h1.unstar 0
 exact ⟨b,s,h2.getp 0,(h2.drop 0).unstar 0⟩
theorem Gw.St.seeE (h:St A N w0 w L Z) (k:Nat) {v:Value} (e:L[k]? = some (oE v none):=by rfl):v = .nilIface:=h.getp k e
end
theorem Gw.St.newP {M:Oth} {w w':World} {a:OA} {Z:List OA} (h:St (fun _=>False) M w w' [a] Z) : ∃ F,a.holds w' F ∧ ∀ i,F i→w.heap.size ≤ i:=by
 obtain ⟨U,hU,hN,hA,⟨F,hF,hFU,_⟩,hZ,hW⟩ := h
 exact ⟨F,hF,fun i hi=>(hU i (hFU i hi)).1.elim (fun x=>x.elim) id⟩
def etV:Value := .iface 233 (.agg #[.pointer (some ⟨4,170,none⟩)])
abbrev Et (w:World):Prop:=j0 w 0 0 [etV]
def oEt:OA where
 holds:=fun w F=>Et w ∧ ∀ i,F i↔i=0
 loc:=fun h hc hs=>⟨h.1.chg hc (hs _ ((h.2 _).2 rfl)),h.2⟩
 lt:=fun {w F} h i hi=>by
  rw [(h.2 i).1 hi]
  have h1:=h.1 0 etV rfl
  rcases Nat.lt_or_ge 0 w.heap.size with q | q
  ·exact q
  ·simp [World.cell?,Array.getElem?_eq_none q] at h1
theorem Gw.St.et {A:Nat→Prop} {N:Oth} {w0 w:World} {L Z:List OA} (h:St A N w0 w L Z) (k:Nat) (e:Z[k]? = some oEt:=by rfl):Et w:=(h.frz k e).elim fun _ q=>q.1
theorem setCell_chg {w:World} {b:Nat} {t:TypeId} {v:Value} (v':Value) (hb:Blk w b t [v]):Blk (w.setCell ⟨b,0,none⟩ v') b t [v']∧Chg (· = b) w (w.setCell ⟨b,0,none⟩ v'):=by
 have h1:Blk (w.setCell ⟨b,0,none⟩ v') b t [v']:=by
  unfold Blk at *
  simp [World.setCell,Array.getElem?_modify,hb]
 have h2 : ∀ k,k ≠ b→(w.setCell ⟨b,0,none⟩ v').heap[k]? = w.heap[k]? := fun k hk=>by simp [World.setCell,Array.getElem?_modify,Ne.symm hk]
 exact ⟨h1,rfl,rfl,rfl,by simp [World.setCell],fun k _ hk=>h2 k hk,froz_at b (by rw [h1]; exact ve.cells _ _) (by rw [hb]; exact ve.cells _ _) h2⟩
theorem errors_As_no (t:Value) (w:World):Calls PP F_errors_As #[.nilIface,t] w fun e w' => ∃ v,e = .returned v∧(v = .bool false∧Ext w w') :=
 CallsIn.mono (F:=fen none) (n:=0) (callsIn_wide.2 (as_nil t w)) (by rintro e w' ⟨rfl,rfl⟩; exact ⟨_,rfl,rfl,Ext.refl _⟩) |> callsIn_wide.1
theorem ext_cells (w:World) (l:List Value) (t:TypeId):Ext w (w.alloc (.cells l.toArray t)):=New.ext ⟨rfl,rfl⟩
theorem errors_As_yes (e:Addr) {t:Nat} {v:Value} {w:World} (hg:Et w) (hb:Blk w t xS [v]) :
  Calls PP F_errors_As #[.iface xS (.pointer (some e)),.iface 189 (.pointer (some ⟨t,0,none⟩))] w fun ev w' => ∃ v,ev = .returned v∧(v = .bool true∧Chg (· = t) w w'∧Blk w' t xS [.pointer (some e)]):=by
 have h:=as_hit e ⟨t,0,none⟩ v w (hg 0 etV rfl) (hb.cell rfl) (ve.not (by rw [show w.heap[t]? = _ from hb]; exact ve.cells _ _))
 refine CallsIn.mono (F:=fen none) (n:=0) (callsIn_wide.2 h) (fun ev w'=>?_) |> callsIn_wide.1
 rintro ⟨rfl,rfl⟩
 refine ⟨_,rfl,rfl,?_⟩
 have x1:=ext_cells w [.pointer (some ⟨t,0,none⟩)] 189
 have x2:=x1.trans (ext_cells _ [.pointer (some ⟨4,189,none⟩),.pointer (some ⟨w.heap.size,0,none⟩),.int .u64 150] 212)
 have x3:=x2.trans (ext_cells _ [.pointer (some ⟨4,189,none⟩),.pointer (some ⟨w.heap.size,0,none⟩),.int .u64 150] 212)
 have x4:=x3.trans (ext_cells _ [.pointer (some e)] xS)
 obtain ⟨h1,h2⟩ := setCell_chg (.pointer (some e)) (hb.ext x4)
 exact ⟨(x4.mono fun _ _ x=>x.elim).trans h2,h1⟩
end
section
open Go.RowKit
namespace Gw
def Owe3 (P:Program) (rd:Option Nat) (n:Nat) (dm:List Nat) (ops:Array Oper) (ds:List Nat) (D:Draw) (f:Fr) (i:Nat) (o:Oper):Prop :=
 ∀ (L:Nat→Bool) (g:Fr) (w:World),L i=false→(∀ j,((Region.before ops).getD i 0).testBit j=true→L j=true)→D.T L w→givens ops D g w (y3 o) (wl P rd n dm ops [o] (obPost2 dm D L i o.dst (mask ds g f) w) (mask ds g f) w)
def Owes3 (P:Program) (rd:Option Nat) (n:Nat) (dm:List Nat) (ops:Array Oper) (ds:List Nat) (D:Draw) (f:Fr):List Oper→Nat→Prop
 | [],_=>True
 | o :: l,i=>Owe3 P rd n dm ops ds D f i o∧Owes3 P rd n dm ops ds D f l (i + 1)
section
variable {P:Program} {rd:Option Nat} {n m:Nat} {dm:List Nat} {ops:Array Oper} {Q:Post} {f:Fr} {w:World}
theorem owes3_at {ds:List Nat} {D:Draw} : ∀ (l:List Oper) (i:Nat),Owes3 P rd n dm ops ds D f l i → ∀ j o,l[j]? = some o→Owe3 P rd n dm ops ds D f (i + j) o
 | [],_,_,j,o,hj=>by simp at hj
 | o :: l,i,h,0,o',hj=>by simp at hj; subst hj; exact h.1
 | o :: l,i,h,j + 1,o',hj=>by
  have:=owes3_at l (i + 1) h.2 j o' (by simpa using hj)
  rwa [show i + 1 + j=i + (j + 1) by omega] at this
theorem wc_draw3 {id:Nat} {l:List Oper} (m:Nat) (D:Draw) (hm:P.follows .mixedOrders=true) (hB:drawB2 l.toArray m=true)
  (hst : ∀ L i v w w',L i=true→D.Le L w w'→D.V i v w→D.V i v w') (hT:D.T (fun _=>false) { w with drawn:=w.drawn + 1 })
  (ho:Owes3 P rd n dm l.toArray ((l.take m).filterMap (·.dst)) D f (l.take m) 0)
  (hq : ∀ L g w,(∀ j,L j=decide (j < m))→D.T L w→allV D g w (l.take m) 0 (wl P rd n dm l.toArray (l.drop m) Q (mask ((l.take m).filterMap (·.dst)) g f) w)):wc P rd n dm (.region id l.toArray true) Q f w:=by
 intro a ha
 refine wpIn_region_any hm ?_
 simp only [drawB2,Bool.and_eq_true,decide_eq_true_eq,List.all_eq_true] at hB
 obtain ⟨⟨⟨hnd,hback⟩,htail⟩,hml⟩ := hB
 simp only [List.size_toArray] at hml
 generalize hds:(l.take m).filterMap (·.dst)=ds at *
 have hb:Back l.toArray:=by
  intro i o hi e he hbd
  have:=hback (o,i) (by
   rw [List.mem_zipIdx_iff_getElem?]
   simpa using hi) e (by simpa using he)
  simp only [hbd,Bool.not_true,Bool.false_or,decide_eq_true_eq] at this
  exact this
 have hord : ∀ k,m ≤ k→k < l.toArray.size → ∀ listed:Array Bool,listed.size=l.toArray.size→k ∈ Region.ready .any l.toArray listed→Closed l.toArray listed → ∀ j,j < k→listed.getD j false=true:=by
  intro k hmk hk listed hs hr hc j hj
  have hkl:k < l.length:=by simpa using hk
  have h1:=htail (l[k],k) (by
   rw [List.mem_zipIdx_iff_getElem?]
   simp)
  simp only [Bool.or_eq_true,decide_eq_true_eq] at h1
  rcases h1 with h1 | h1
  ·omega
  ·rw [List.all_eq_true] at h1
   have h2:=h1 j (by simpa using hj)
   rw [mem_ready] at hr
   obtain ⟨_,o,ho',hall⟩ := hr
   refine uw hc [] #[] rfl zcc zcc l.toArray.toList zcc k hk j ?_ ?_
   ·unfold Region.before at h2
    rw [← Array.foldl_toList] at h2
    exact h2
   ·rw [ho']
    simpa using hall
 have hmd : ∀ j o,(l.take m)[j]? = some o→j < m∧l.toArray[j]? = some o ∧ ∀ d,o.dst=some d→d ∈ ds:=by
  intro j o hj
  have hjm:j < m:=by
   have:=(List.getElem?_eq_some_iff.1 hj).1
   simp at this; omega
  have hjo:l[j]? = some o:=by rw [List.getElem?_take] at hj; simpa [hjm] using hj
  exact ⟨hjm,by simpa using hjo,fun d hd=>by rw [← hds]; exact List.mem_filterMap.2 ⟨o,List.mem_of_getElem? hj,hd⟩⟩
 have hinj : ∀ (i j:Nat) (oi oj:Oper) (d:Nat),(l.take m)[i]? = some oi→(l.take m)[j]? = some oj→oi.dst=some d→oj.dst=some d→i=j:=by
  have hgen : ∀ (L:List Oper),(L.filterMap (·.dst)).Nodup → ∀ (i j:Nat) (oi oj:Oper) (d:Nat),L[i]? = some oi→L[j]? = some oj→oi.dst=some d→oj.dst=some d→i=j:=by
   intro L
   induction L with
   | nil=>intro _ i j oi oj d h; simp at h
   | cons o L ih =>
    intro hn i j oi oj d hi hj hdi hdj
    have hn':(L.filterMap (·.dst)).Nodup:=by
     rw [List.filterMap_cons] at hn
     split at hn
     ·exact hn
     ·exact (List.nodup_cons.1 hn).2
    have hno : ∀ (k:Nat) (ok:Oper) (dd:Nat),L[k]? = some ok→o.dst=some dd→ok.dst ≠ some dd:=by
     intro k ok dd hk hod hkd
     rw [List.filterMap_cons,hod] at hn
     exact (List.nodup_cons.1 hn).1 (List.mem_filterMap.2 ⟨ok,List.mem_of_getElem? hk,hkd⟩)
    cases i with
    | zero =>
     cases j with
     | zero=>rfl
     | succ j=>simp at hi; subst hi; exact absurd hdj (hno j oj d (by simpa using hj) hdi)
    | succ i =>
     cases j with
     | zero=>simp at hj; subst hj; exact absurd hdi (hno i oi d (by simpa using hi) hdj)
     | succ j=>rw [ih hn' i j oi oj d (by simpa using hi) (by simpa using hj) hdi hdj]
  exact hgen _ (by rw [hds]; exact hnd)
 have main : ∀ (fuel:Nat) (listed:Array Bool) (g:Fr) (a:Act) (w:World),listed.size=l.length→fuel + cnt listed l.length=l.length→Closed l.toArray listed→(∀ j,m ≤ j→j < l.length→listed.getD j false=false) →
   Is n dm a (mask ds g f)→D.T (fun j=>listed.getD j false) w→(∀ j o,(l.take m)[j]? = some o→listed.getD j false=true→overV D g w j o.dst)→wpAnyIn (fen rd) 0 P .any l.toArray (lift n Q) fuel listed a w:=by
  intro fuel
  induction fuel with
  | zero =>
   intro listed g a w hs hcnt hc hno ha hT hV
   have hall:=zbR listed l.length zcb
   have hm':m=l.length:=by
    by_cases h:m < l.length
    ·have:=hno m (Nat.le_refl _) h
     rw [hall m h] at this
     cases this
    ·omega
   have hfin:=uh (l.take m) 0 (fun j o hj=>by rw [Nat.zero_add]; exact (hV j o hj (hall j (by have:=(hmd j o hj).1; omega))).get) (hq _ g w (fun j=>by
    by_cases hj:j < l.length
    ·rw [hall j hj,decide_eq_true zcb]
    ·rw [uk listed j zcb,decide_eq_false zcb]) hT)
   rw [List.drop_eq_nil_of_le zcb] at hfin
   refine ⟨?_,?_⟩
   ·refine List.eq_nil_iff_forall_not_mem.2 fun i hi=>?_
    obtain ⟨h1,h2⟩ := ul (ops:=l.toArray) (by simpa using hs) hi
    rw [hall i (by simpa using h1)] at h2
    cases h2
   ·exact hfin a ha
  | succ fuel ih =>
   intro listed g a w hs hcnt hc hno ha hT hV
   have hs':listed.size=l.toArray.size:=by simpa using hs
   refine ⟨fun hr=>?_,fun i hi=>?_⟩
   ·have hall:=ready_nil hb hs' hr
    have:=kg listed l.length (fun j hj=>hall j (by simpa using hj))
    omega
   ·obtain ⟨h1,h2⟩ := ul hs' hi
    have h1':i < l.length:=by simpa using h1
    by_cases him:i < m
    ·have hio:(l.take m)[i]? = some l[i]:=by
      rw [List.getElem?_take,if_pos him]
      exact List.getElem?_eq_getElem h1'
     obtain ⟨_,hio',hdds⟩ := hmd i _ hio
     have howe:=owes3_at _ 0 ho i _ hio (fun j=>listed.getD j false) g w (by rw [Nat.zero_add]; exact h2) (fun j hj=>by rw [Nat.zero_add] at hj; exact ord_of h1' hj hi hc) hT
     rw [Nat.zero_add] at howe
     have hready:=hi
     rw [mem_ready] at hready
     obtain ⟨_,o,hoo,hall⟩ := hready
     rw [hio'] at hoo
     cases hoo
     have hwl:=jY (ops:=l.toArray) (y3 l[i]) (fun j hj=>by
      unfold y3 at hj
      obtain ⟨e,he,rfl⟩ := List.mem_map.1 hj
      obtain ⟨he1,he2⟩ := List.mem_filter.1 he
      have hbd:Region.binds .any e=true:=by
       unfold Region.binds
       cases hg:e.ground <;> rw [hg] at he2 <;> simp at he2 ⊢
      have hlt:=hb i _ hio' e (by simpa using he1) hbd
      have hlst:=hall e (by simpa using he1) hbd
      have hjm:e.on < m:=by omega
      have hjo:(l.take m)[e.on]? = some l[e.on]:=by
       rw [List.getElem?_take,if_pos hjm]
       exact List.getElem?_eq_getElem zcb
      have:=(hV e.on _ hjo hlst).get
      unfold yO
      obtain ⟨_,hj2,_⟩ := hmd _ _ hjo
      rw [hj2]
      simp only [Option.bind_some]
      exact this) howe
     refine zbi hio' hwl (fun dm e f' w' q=>q.1) ?_ ha
     rintro dm' a' f' w' ha' ⟨_,rfl,hT',hL',hV'⟩
     rw [zbf listed i zcb] at hT'
     cases hd:l[i].dst with
     | none =>
      rw [hd] at hV'
      obtain ⟨rfl,hV'⟩ := hV'
      refine ih _ g a' w' (by simpa using hs) ?_ (hc.set hs' hi) ?_ ha' hT' ?_
      ·rw [zaD listed i zcb h2,if_pos h1']; omega
      ·intro j hmj hjl
       rw [yN _ _ _ zcb,if_neg zcb]
       exact hno j hmj hjl
      ·intro j oj hj hlj
       rw [yN _ _ _ zcb] at hlj
       by_cases hij:i=j
       ·subst hij
        rw [hio] at hj
        cases hj
        rw [hd]
        exact hV'
       ·rw [if_neg hij] at hlj
        have hvj:=hV j oj hj hlj
        cases hdj:oj.dst with
        | none=>rw [hdj] at hvj; exact fun v=>hst _ j _ _ _ hlj hL' (hvj v)
        | some dj=>rw [hdj] at hvj; exact hst _ j _ _ _ hlj hL' hvj
     | some d =>
     rw [hd] at hV'
     obtain ⟨v,rfl,hV'⟩ := hV'
     have hdds:=hdds d hd
     have hmask:upd (mask ds g f) d v=mask ds (upd g d v) f:=by
      funext k
      by_cases hk:k=d
      ·subst hk
       rw [upd_same,xW hdds,upd_same]
      ·rw [zF _ _ _ _ hk]
       by_cases hkd:k ∈ ds
       ·rw [xW hkd,xW hkd,zF _ _ _ _ hk]
       ·rw [xJ hkd,xJ hkd]
     rw [hmask] at ha'
     refine ih _ (upd g d v) a' w' (by simpa using hs) ?_ (hc.set hs' hi) ?_ ha' hT' ?_
     ·rw [zaD listed i zcb h2,if_pos h1']; omega
     ·intro j hmj hjl
      rw [yN _ _ _ zcb,if_neg zcb]
      exact hno j hmj hjl
     ·intro j oj hj hlj
      rw [yN _ _ _ zcb] at hlj
      by_cases hij:i=j
      ·subst hij
       rw [hio] at hj
       cases hj
       rw [hd]
       show D.V i (upd g d v d) _
       rw [upd_same]
       exact hV'
      ·rw [if_neg hij] at hlj
       have hvj:=hV j oj hj hlj
       cases hdj:oj.dst with
       | none=>rw [hdj] at hvj; exact fun v=>hst _ j _ _ _ hlj hL' (hvj v)
       | some dj =>
        rw [hdj] at hvj
        have hne:dj ≠ d:=fun e=>hij (hinj i j _ oj d hio hj hd (by rw [hdj,e]))
        show D.V j (upd g d v dj) _
        rw [zF _ _ _ _ hne]
        exact hst _ j _ _ _ hlj hL' hvj
    ·have hallj:=hord i zcb h1 listed hs' hi hc
     have him':i=m:=by
      by_cases h:m < i
      ·have:=hno m (Nat.le_refl _) zcb
       rw [hallj m h] at this
       cases this
      ·omega
     subst him'
     have hfin:=uh (l.take i) 0 (fun j o hj=>by rw [Nat.zero_add]; exact (hV j o hj (hallj j (by have:=(hmd j o hj).1; omega))).get) (hq _ g w (fun j=>by
      by_cases hj:j < i
      ·rw [hallj j hj,decide_eq_true hj]
      ·rw [decide_eq_false hj]
       by_cases hjl:j < l.length
       ·exact hno j zcb hjl
       ·exact uk listed j zcb) hT)
     have hfa:=hfin a ha
     have hcn:cnt listed l.length=i:=by
      have hz : ∀ k,i ≤ k→k ≤ l.length→cnt listed k=i:=by
       intro k
       induction k with
       | zero=>intro h _; rw [show i=0 by omega]; rfl
       | succ k ihk =>
        intro h1 h2
        by_cases hk:i ≤ k
        ·rw [kh,ihk hk zcb,hno k hk zcb]; simp
        ·have:k + 1=i:=by omega
         rw [this]
         exact kg listed i hallj
      exact hz _ zcb (Nat.le_refl _)
     have htl:=any_tail (rd:=rd) (P:=P) (m:=i) (R:=lift n Q) hb hord (fuel + 1) i listed a w (Nat.le_refl _) hs' hc (fun j hj=>⟨(fun h=>by
      refine Nat.lt_of_not_le fun hij=>?_
      rw [hno j hij (by simpa using hj)] at h
      cases h),hallj j⟩) (by simp; omega) hfa
     exact htl.2 i hi
 have h0:Is n dm a (mask ds f f):=by
  have:mask ds f f=f:=by funext k; unfold mask; cases ds.elem k <;> rfl
  rw [this]; exact ha
 have hz:cnt (Array.replicate l.toArray.size false) l.length=0:=by
  unfold cnt
  rw [List.length_eq_zero_iff]
  refine List.filter_eq_nil_iff.2 fun j hj=>?_
  rw [xR]
  simp
 refine main _ _ f a _ zcc (by rw [hz]; simp) ?_ (by intro j _ _; rw [xR]) h0 (by rw [show (fun j=>(Array.replicate l.toArray.size false).getD j false)=fun _=>false from funext fun j=>xR _ j]; exact hT) ?_
 ·intro j o _ h; rw [xR] at h; cases h
 ·intro j o _ h; rw [xR] at h; cases h
end
end Gw
end
section
open Gw Go.RowKit
structure PChecker where
 t:Tb
structure PC where
 t:Tb
 hyps:List Hyp
 way:List Int
 wrong:List Int
section
variable {A:Nat→Prop} {N:Oth} {w0 w w':World} {L Z:List OA}
end
section
variable {A:Nat→Prop} {N:Oth} {w:World}
-- scopes
theorem Gw.St.nil_fScopeZ {w0:World} {L Z:List OA} (h:St A N w0 w L Z):St A N w0 w L (x8 none [] :: Z):=h.nilScope
def zcn.f (l:List (ByteArray × Int)) (n:ByteArray) (f:Int):Option (List (ByteArray × Int)):=some ((n,f) :: l)
theorem yt (w:World) (a:Option Addr) (n:ByteArray) (f:Int):Calls PP jM #[.pointer a,.string n,.int .i64 f] w fun e w' => ∃ v,e = .returned v ∧ ∃ b:Nat,v = .pointer (some ⟨b,0,none⟩)∧Ext w w'∧Blk w' b uu (Scope.C ⟨n,f,a⟩)∧w.heap.size ≤ b:=by
 refine zz (n:=12) fn_types_scope_with rfl rfl zcc ?_
 refine zd (za ?_)
 refine wd (xc rfl) ?_
 refine zb ?_
 refine zd (za ?_)
 refine wd (xl rfl) ?_
 refine wd (zg rfl) ?_
 refine wd (zk rfl) ?_
 refine wd (yi bu_Scope (Bld.one rfl rfl (by rw [Scope.len]; decide) (Scope.set_name _ _) (Bld.one rfl rfl (by rw [Scope.len]; decide) (Scope.set_form _ _) (Bld.one rfl rfl (by rw [Scope.len]; decide) (Scope.set_next _ _) Bld.nil)))) ?_
 refine zX rfl zca fun b w1 h1=>?_
 refine wd (xc rfl) ?_
 refine zb ?_
 refine zx ?_
 exact ⟨_,(zS (zf rfl)),b,rfl,h1.ext,h1.blk,by have:=h1.at_; omega⟩
theorem types_scope_with_st {a:Option Addr} {l:List (ByteArray × Int)} {n:ByteArray} {f:Int} (S:St A N w w [] [x8 a l]) {r:List (ByteArray × Int)} (H:zcn.f l n f=some r) :
  Calls PP jM #[.pointer a,.string n,.int .i64 f] w fun e w' => ∃ v,e = .returned v∧(∃ ao0:Option Addr,v = .pointer ao0∧St A N w w' [] [x8 ao0 r]):=by
 cases H
 refine zaX (yt w a n f) ?_
 rintro v w' ⟨b,rfl,hx,hb,hl⟩
 have h1:St A N w w' [oB b uu (Scope.C ⟨n,f,a⟩)] [x8 a l]:=S.newAt hx hb hl
 exact ⟨_,rfl,(h1.pushScope 0 0).zs [0]⟩
def zco.f (l:List (ByteArray × Int)) (n:ByteArray):Option (Int × Option (Int × List Int)):=some (match l.find? (fun q=>decide (q.1=n)) with | some q=>(q.2,none) | none=>(0,some (131,[])))
theorem types_scope_find_st {a:Option Addr} {l:List (ByteArray × Int)} {n:ByteArray} (S:St A N w w [] [x8 a l]) {r:Int × Option (Int × List Int)} (H:zco.f l n=some r) :
  Calls PP zaS #[.pointer a,.string n] w fun e w' => ∃ v,e = .returned v∧(∃ vo0:Value,v = .tuple #[.int .i64 r.1,vo0]∧St A N w w' [oE vo0 r.2] []):=by
 cases H
 refine zz (n:=25) fn_types_scope_find rfl rfl zcc ?_
 refine zd (za ?_)
 refine wd (zh rfl) ?_
 refine wd (zE rfl) ?_
 refine zb ?_
 refine zd ?_
 refine x6 [0,4,5,6,7,8,9,10,11,12,13,14,15,16,17,18,19,20,21] (fun fr W=>l.find? (fun q=>decide (q.1=n))=none∧St A N w W [] []) ?_ ?_
 ·refine zP ?_
  refine xY (α:=List (ByteArray × Int) × Option Addr) [0,4,5,6,7,8,9,10,11,12,13,14,15,16,17,18,19,20,21] (fun x fr W=>fr 0 = .pointer x.2∧x.1.find? (fun q=>decide (q.1=n))=l.find? (fun q=>decide (q.1=n))∧St A N w W [] [x8 x.2 x.1]) (fun x=>x.1.length) (l,a) ⟨rfl,rfl,S⟩ ?_
  rintro ⟨l',a'⟩ g u ⟨q0,hf,S⟩
  try dsimp only at q0 hf S
  refine zd (zd (za ?_))
  refine wd (zk q0) ?_
  refine wd (does_nep0 un_dictum_types_with rfl rfl) ?_
  refine zb ?_
  cases l' with
  | nil =>
   have ha:=S.endScope 0
   subst ha
   refine zat rfl ?_
   refine yn ?_
   exact ⟨rfl,(((Dif.self _ _ _).upd rfl _).upd rfl _),hf.symm,S.pickZ zcc⟩
  | cons q l' =>
   obtain ⟨n',f'⟩ := q
   obtain ⟨p,nx,ha,S⟩ := S.openScope 0
   subst ha
   refine wc_true rfl ?_
   refine zB ?_
   refine zd ?_
   refine zP ?_
   refine zd (za ?_)
   refine wd (zk q0) ?_
   refine wd (zC rfl) ?_
   refine wd (ze fl_Scope_name rfl (o':=0) rfl) ?_
   refine wd (zl xq rfl ((S.blkZ 0).cell (Scope.get_name _))) ?_
   refine wd (xl rfl) ?_
   refine wd (vi rfl rfl) ?_
   refine zb ?_
   refine zG rfl (fun hc=>?_) (fun hc=>?_)
   ·refine zd (za ?_)
    refine wd (zk q0) ?_
    refine wd (zC rfl) ?_
    refine wd (ze fl_Scope_form rfl (o':=1) rfl) ?_
    refine wd (zl zR rfl ((S.blkZ 0).cell (Scope.get_form _))) ?_
    refine wd (zh rfl) ?_
    refine wd (zE rfl) ?_
    refine zb ?_
    refine zx ?_
    refine ⟨_,(xn (zf rfl) (zf rfl)),?_⟩
    rw [← hf,List.find?_cons_of_pos (by simpa using hc)]
    exact ⟨_,rfl,(S.pickZ zcc).nilE⟩
   ·refine zB ?_
    refine za ?_
    refine wd (zk q0) ?_
    refine wd (zC rfl) ?_
    refine wd (ze fl_Scope_next rfl (o':=2) rfl) ?_
    refine wd (zl on_dictum_types_with rfl ((S.blkZ 0).cell (Scope.get_next _))) ?_
    refine wd (xc rfl) ?_
    refine zb ?_
    refine ⟨rfl,?_,(l',nx),⟨rfl,?_,S.zs [1]⟩,by simp⟩
    ·exact (((((((((((((Dif.self _ _ _).upd rfl _).upd rfl _).upd rfl _).upd rfl _).upd rfl _).upd rfl _).upd rfl _).upd rfl _).upd rfl _).upd rfl _).upd rfl _).upd rfl _).upd rfl _
    ·rw [← hf,List.find?_cons_of_neg (by simpa using hc)]
 rintro g u ⟨hn,S⟩
 refine zd (za ?_)
 refine wd (yi kE (Bld.one rfl rfl (by rw [Refusal.len]; decide) (Refusal.set_code _ _) Bld.nil)) ?_
 refine zX rfl zca fun b w1 h1=>?_
 replace S:=S.new h1
 refine wd (does_makeInterface rfl) ?_
 refine wd (zh rfl) ?_
 refine wd (zE rfl) ?_
 refine zb ?_
 refine zx ?_
 refine ⟨_,(xn (zf rfl) (zf rfl)),?_⟩
 rw [hn]
 exact ⟨_,rfl,((S.nil xB 1 IC).front 1).mkE⟩
-- a slice of numbers,turned round in place
def revI (l:List Int):Nat→List Int
 | 0=>l
 | i + 1=>((revI l i).set i (at_ (0:Int) (revI l i) ((l.length:Int) - 1 - i))).set ((l.length:Int) - 1 - i).toNat (at_ (0:Int) (revI l i) i)
theorem revI_len (l:List Int) : ∀ i,(revI l i).length=l.length
 | 0=>rfl
 | i + 1=>by simp [revI,revI_len l i]
theorem revI_get (l:List Int) : ∀ (i:Nat),2 * i ≤ l.length → ∀ j,j < l.length→(revI l i)[j]? = if j < i∨l.length - 1 - i < j then l[l.length - 1 - j]? else l[j]?
 | 0,_,j,hj=>by
  rw [if_neg zcb]; rfl
 | i + 1,hi,j,hj=>by
  have ih:=revI_get l i zcb
  have hl:=revI_len l i
  have e1:((l.length:Int) - 1 - i).toNat=l.length - 1 - i:=by omega
  have g1:at_ (0:Int) (revI l i) ((l.length:Int) - 1 - i)=l[l.length - 1 - i]'(by omega):=by
   unfold at_
   rw [e1,List.getD_eq_getElem?_getD,ih _ zcb,if_neg zcb,List.getElem?_eq_getElem zcb]; rfl
  have g2:at_ (0:Int) (revI l i) (i:Int)=l[i]'(by omega):=by
   unfold at_
   rw [Int.toNat_natCast,List.getD_eq_getElem?_getD,ih _ zcb,if_neg zcb,List.getElem?_eq_getElem zcb]; rfl
  rw [revI,g1,g2,e1,List.getElem?_set,List.getElem?_set]
  simp only [List.length_set,hl]
  by_cases h1:l.length - 1 - i=j
  ·subst h1
   rw [if_pos rfl,if_pos zcb,if_pos zcb,List.getElem?_eq_getElem zcb]
   congr 2; omega
  ·rw [if_neg h1]
   by_cases h2:i=j
   ·subst h2
    rw [if_pos rfl,if_pos zcb,if_pos zcb,List.getElem?_eq_getElem zcb]
   ·rw [if_neg h2,ih j hj]
    by_cases h3:j < i∨l.length - 1 - i < j
    ·rw [if_pos h3,if_pos zcb]
    ·rw [if_neg h3,if_neg zcb]
theorem revI_rev (l:List Int) (i:Nat) (h1:2 * i ≤ l.length) (h2:¬ (i:Int) < (l.length:Int) - 1 - i):revI l i=l.reverse:=by
 refine List.ext_getElem? fun j=>?_
 by_cases hj:j < l.length
 ·rw [revI_get l i h1 j hj,List.getElem?_reverse hj]
  split
  ·rfl
  ·congr 1; omega
 ·rw [List.getElem?_eq_none (by rw [revI_len]; omega),List.getElem?_eq_none (by simp; omega)]
theorem uQ {L:Nat→Bool} {i:Nat} {l:List Nat} (h : ∀ q,q ∈ l→L q=true) : ∀ q,q ∈ l→plus L i q=true:=fun q hq=>by
 unfold plus; rw [h q hq]; simp
def zcp.f (l:List Int):Option (List Int):=some l.reverse
theorem zbo {a0:List Int} {s_0:SlV} (S:St A N w w [oS xB 1 IC s_0 a0] []) {r:List Int} (H:zcp.f a0=some r) :
  Calls PP jB #[s_0.v] w fun e w' => ∃ v,e = .returned v∧(v = .tuple #[]∧St A N w w' [oS xB 1 IC s_0 r] []):=by
 cases H
 have hlen:=S.lenO 0
 refine zz (n:=28) zbm rfl rfl zcc ?_
 refine zd (za ?_)
 refine wd (zA rfl) ?_
 refine wd (xg xG rfl (S.rdO 0)) ?_
 refine wd (zaK rfl rfl (c:=(a0.length:Int) - 1) rfl zcb zcb) ?_
 refine wd (zh rfl) ?_
 refine wd (zh rfl) ?_
 refine zb ?_
 refine x6 [2,3,7,8,9,10,11,12,13,14,15,16,17,18,19,20,21,22,23,24,25,26,27] (fun fr W=>St A N w W [oS xB 1 IC s_0 a0.reverse] []) ?_ ?_
 ·refine zP ?_
  refine xY (α:=Nat) [2,3,7,8,9,10,11,12,13,14,15,16,17,18,19,20,21,22,23,24,25,26,27] (fun x fr W=>fr 2 = .int .i64 (x:Int)∧fr 3 = .int .i64 ((a0.length:Int) - 1 - x)∧2 * x ≤ a0.length∧St A N w W [oS xB 1 IC s_0 (revI a0 x)] []) (fun x=>a0.length - x) 0 ⟨rfl,by simp; rfl,by omega,S⟩ ?_
  rintro i g u ⟨q2,q3,hi,S⟩
  try dsimp only at q2 q3 hi S
  refine zd (zd (za ?_))
  refine wd (zg q2) ?_
  refine wd (zg q3) ?_
  refine wd (xQ rfl rfl) ?_
  refine zb ?_
  refine zG rfl (fun hc=>?_) (fun hc=>?_)
  rotate_left
  ·refine yn ?_
   rw [revI_rev a0 i hi (of_decide_eq_false hc)] at S
   exact ⟨rfl,(((Dif.self _ _ _).upd rfl _).upd rfl _).upd rfl _,S⟩
  have hlt:(i:Int) < (a0.length:Int) - 1 - i:=of_decide_eq_true hc
  refine zB ?_
  have hlr:=revI_len a0 i
  have hb1:0 ≤ (i:Int)∧(i:Int) < (revI a0 i).length:=by omega
  have hb2:0 ≤ (a0.length:Int) - 1 - i∧(a0.length:Int) - 1 - i < (revI a0 i).length:=by omega
  generalize hcur:revI a0 i=cur at hlr hb1 hb2 S
  generalize hj:(a0.length:Int) - 1 - i=j at hlt hb2 q3
  have hO:=S.sl 0
  refine zd ?_
  refine zP ?_
  refine wc_draw3 14 ⟨fun L v=>Chg s_0.fp u v∧(L 13=false→Ext u v)∧(L 13=true→Own v 0 xB 1 s_0 ((cur.set (i:Int).toNat (at_ (0:Int) cur j)).map IC))∧(L 13=true → ∀ q,q ∈ [6,7,10,11,12]→L q=true),fun L a c=>Chg s_0.fp a c∧(L 13=true→Ext a c),fun k v _=>match k with
   | 0=>v=SlV.v s_0
   | 1=>v=Value.int .i64 (i:Int)
   | 2=>v=SlV.v s_0
   | 3=>v=Value.int .i64 j
   | 4=>v=SlV.v s_0
   | 5=>v=Value.int .i64 j
   | 6=>v=Value.pointer (some ⟨s_0.blk,s_0.off + j.toNat * 1,none⟩)
   | 7=>v=Value.int .i64 (at_ (0:Int) cur j)
   | 8=>v=SlV.v s_0
   | 9=>v=Value.int .i64 (i:Int)
   | 10=>v=Value.pointer (some ⟨s_0.blk,s_0.off + (i:Int).toNat * 1,none⟩)
   | 11=>v=Value.int .i64 (at_ (0:Int) cur (i:Int))
   | 12=>v=Value.pointer (some ⟨s_0.blk,s_0.off + (i:Int).toNat * 1,none⟩)
   | _=>True⟩ hmix zcd (fun _ _ _ _ _ _ _ hv=>hv) ⟨(Ext.drawn _).mono (fun _ _ x=>x.elim),fun _=>Ext.drawn _,fun h=>(by cases h),fun h=>(by cases h)⟩ ⟨?_,?_,?_,?_,?_,?_,?_,?_,?_,?_,?_,?_,?_,?_,trivial⟩ ?_
  ·rintro L g v hL hcl hT 
   refine wd (zA rfl) (zb (ob2 ⟨hT.1,fun h=>hT.2.1 h,fun h=>hT.2.2.1 h,fun h=>uQ (hT.2.2.2 h)⟩ ⟨Chg.refl _ _,fun _=>Ext.refl _⟩ rfl))
  ·rintro L g v hL hcl hT 
   refine wd (zg q2) (zb (ob2 ⟨hT.1,fun h=>hT.2.1 h,fun h=>hT.2.2.1 h,fun h=>uQ (hT.2.2.2 h)⟩ ⟨Chg.refl _ _,fun _=>Ext.refl _⟩ rfl))
  ·rintro L g v hL hcl hT 
   refine wd (zA rfl) (zb (ob2 ⟨hT.1,fun h=>hT.2.1 h,fun h=>hT.2.2.1 h,fun h=>uQ (hT.2.2.2 h)⟩ ⟨Chg.refl _ _,fun _=>Ext.refl _⟩ rfl))
  ·rintro L g v hL hcl hT 
   refine wd (zg q3) (zb (ob2 ⟨hT.1,fun h=>hT.2.1 h,fun h=>hT.2.2.1 h,fun h=>uQ (hT.2.2.2 h)⟩ ⟨Chg.refl _ _,fun _=>Ext.refl _⟩ rfl))
  ·rintro L g v hL hcl hT 
   refine wd (zA rfl) (zb (ob2 ⟨hT.1,fun h=>hT.2.1 h,fun h=>hT.2.2.1 h,fun h=>uQ (hT.2.2.2 h)⟩ ⟨Chg.refl _ _,fun _=>Ext.refl _⟩ rfl))
  ·rintro L g v hL hcl hT 
   refine wd (zg q3) (zb (ob2 ⟨hT.1,fun h=>hT.2.1 h,fun h=>hT.2.2.1 h,fun h=>uQ (hT.2.2.2 h)⟩ ⟨Chg.refl _ _,fun _=>Ext.refl _⟩ rfl))
  ·rintro L g v hL hcl hT hv4 hv5
   have h13:L 13=false:=(by cases h:L 13 with | false=>rfl | true=>exact absurd (hT.2.2.2 h 6 zca) (by rw [hL]; decide))
   refine wd (xa xG hv4 hv5 (hO.ext (hT.2.1 h13)).toRd hb2.1 hb2.2) (zb (ob2 ⟨hT.1,fun h=>hT.2.1 h,fun h=>hT.2.2.1 h,fun h=>uQ (hT.2.2.2 h)⟩ ⟨Chg.refl _ _,fun _=>Ext.refl _⟩ rfl))
  ·rintro L g v hL hcl hT hv6
   have h13:L 13=false:=(by cases h:L 13 with | false=>rfl | true=>exact absurd (hT.2.2.2 h 7 zca) (by rw [hL]; decide))
   refine wd (zl zR hv6 ((hO.ext (hT.2.1 h13)).toRd.one (ym (0:Int) hb2) rfl)) (zb (ob2 ⟨hT.1,fun h=>hT.2.1 h,fun h=>hT.2.2.1 h,fun h=>uQ (hT.2.2.2 h)⟩ ⟨Chg.refl _ _,fun _=>Ext.refl _⟩ rfl))
  ·rintro L g v hL hcl hT 
   refine wd (zA rfl) (zb (ob2 ⟨hT.1,fun h=>hT.2.1 h,fun h=>hT.2.2.1 h,fun h=>uQ (hT.2.2.2 h)⟩ ⟨Chg.refl _ _,fun _=>Ext.refl _⟩ rfl))
  ·rintro L g v hL hcl hT 
   refine wd (zg q2) (zb (ob2 ⟨hT.1,fun h=>hT.2.1 h,fun h=>hT.2.2.1 h,fun h=>uQ (hT.2.2.2 h)⟩ ⟨Chg.refl _ _,fun _=>Ext.refl _⟩ rfl))
  ·rintro L g v hL hcl hT hv8 hv9
   have h13:L 13=false:=(by cases h:L 13 with | false=>rfl | true=>exact absurd (hT.2.2.2 h 10 zca) (by rw [hL]; decide))
   refine wd (xa xG hv8 hv9 (hO.ext (hT.2.1 h13)).toRd hb1.1 hb1.2) (zb (ob2 ⟨hT.1,fun h=>hT.2.1 h,fun h=>hT.2.2.1 h,fun h=>uQ (hT.2.2.2 h)⟩ ⟨Chg.refl _ _,fun _=>Ext.refl _⟩ rfl))
  ·rintro L g v hL hcl hT hv10
   have h13:L 13=false:=(by cases h:L 13 with | false=>rfl | true=>exact absurd (hT.2.2.2 h 11 zca) (by rw [hL]; decide))
   refine wd (zl zR hv10 ((hO.ext (hT.2.1 h13)).toRd.one (ym (0:Int) hb1) rfl)) (zb (ob2 ⟨hT.1,fun h=>hT.2.1 h,fun h=>hT.2.2.1 h,fun h=>uQ (hT.2.2.2 h)⟩ ⟨Chg.refl _ _,fun _=>Ext.refl _⟩ rfl))
  ·rintro L g v hL hcl hT hv0 hv1
   have h13:L 13=false:=(by cases h:L 13 with | false=>rfl | true=>exact absurd (hT.2.2.2 h 12 zca) (by rw [hL]; decide))
   refine wd (xa xG hv0 hv1 (hO.ext (hT.2.1 h13)).toRd hb1.1 hb1.2) (zb (ob2 ⟨hT.1,fun h=>hT.2.1 h,fun h=>hT.2.2.1 h,fun h=>uQ (hT.2.2.2 h)⟩ ⟨Chg.refl _ _,fun _=>Ext.refl _⟩ rfl))
  ·rintro L g v hL hcl hT hv12 hv7
   refine zbZ (C:=IC) (a:=at_ (0:Int) cur j) zR hv12 hv7 (hO.ext (hT.2.1 hL)) hb1 rfl rfl fun v' O hc=>zb (ob0 ⟨hT.1.trans hc,fun h=>(by cases h),fun _=>O,fun _=>uQ fun q hq=>hcl q ?_⟩ ⟨hc,fun h=>(by rw [hL] at h; cases h)⟩ (fun _=>trivial))
   simp only [List.mem_cons,List.not_mem_nil,or_false] at hq
   rcases hq with rfl | rfl | rfl | rfl | rfl <;> kernel_rfl
  rintro L g w4 hLm hT hv0 hv1 hv2 hv3 hv4 hv5 hv6 hv7 hv8 hv9 hv10 hv11 hv12 _
  have hlO:=S.lenO 0
  replace S:St A N w w4 [oS xB 1 IC s_0 (cur.set (i:Int).toNat (at_ (0:Int) cur j))] []:=S.push 0 (hT.2.2.1 (by rw [hLm]; rfl)) (by rw [List.length_set]; exact hlO) hT.1 (fun i hi => .inl hi)
  have hb3:0 ≤ j∧j < (cur.set (i:Int).toNat (at_ (0:Int) cur j)).length:=by rw [List.length_set]; exact hb2
  refine wd (xa xG hv2 hv3 (S.rdO 0) hb3.1 hb3.2) ?_
  refine zbZ (C:=IC) (a:=at_ (0:Int) cur (i:Int)) zR rfl hv11 (S.sl 0) hb3 rfl rfl fun w5 O hw5=>?_
  have hlO2:=S.lenO 0
  replace S:St A N w w5 [oS xB 1 IC s_0 ((cur.set (i:Int).toNat (at_ (0:Int) cur j)).set j.toNat (at_ (0:Int) cur (i:Int)))] []:=S.push 0 O (by rw [List.length_set]; exact hlO2) hw5 (fun i hi => .inl hi)
  refine zb ?_
  refine za ?_
  refine wd (zg q2) ?_
  refine wd (xK rfl rfl (c:=(i:Int) + 1) rfl zcb zcb) ?_
  refine wd (zg q3) ?_
  refine wd (zaK rfl rfl (c:=j - 1) rfl zcb zcb) ?_
  refine wd (zh rfl) ?_
  refine wd (zh rfl) ?_
  refine zb ?_
  refine ⟨rfl,?_,i + 1,⟨?_,?_,by omega,?_⟩,by omega⟩
  ·exact (((((((((((Dif.self _ _ _).upd rfl _).upd rfl _).upd rfl _).mask rfl _).upd rfl _).upd rfl _).upd rfl _).upd rfl _).upd rfl _).upd rfl _).upd rfl _
  ·exact congrArg (Value.int .i64) zcb
  ·exact congrArg (Value.int .i64) zcb
  ·have hr:revI a0 (i + 1)=(cur.set (i:Int).toNat (at_ (0:Int) cur j)).set j.toNat (at_ (0:Int) cur (i:Int)):=by
    rw [revI,hcur,hj,Int.toNat_natCast]
   rw [hr]; exact S
 rintro g u S
 exact ⟨_,rets0,rfl,S⟩
mutual
def sizeT:PTerm→Nat
 | .mk _ _ _ _ s=>1 + sizeL s
def sizeL:List PTerm→Nat
 | []=>0
 | x :: l=>sizeT x + sizeL l
end
theorem zbg (x:PTerm):sizeT x=1 + sizeL x.sub:=by cases x; simp [sizeT,PTerm.sub]
theorem sizeT_pos (x:PTerm):1 ≤ sizeT x:=by rw [zbg]; omega
def zcq.f (x:PTerm):Option Int:=some (min (sizeT x) 65537:Nat)
theorem sizeL_take : ∀ {l:List PTerm} {i:Nat} {x:PTerm},l[i]? = some x→sizeL (l.take (i + 1))=sizeL (l.take i) + sizeT x
 | [],_,_,h=>by simp at h
 | y :: l,0,x,h=>by simp at h; subst h; simp [sizeL]
 | y :: l,i + 1,x,h=>by
  have:=sizeL_take (l:=l) (i:=i) (by simpa using h)
  simp only [List.take_succ_cons,sizeL]; omega
theorem sizeL_le : ∀ {l:List PTerm} (i:Nat),sizeL (l.take i) ≤ sizeL l
 | [],i=>by simp
 | y :: l,0=>by simp [sizeL]
 | y :: l,i + 1=>by have:=sizeL_le (l:=l) i; simp only [List.take_succ_cons,sizeL]; omega
theorem does_lenM {P:Program} {f:Fr} {w:World} {d:Option Tmp} {ty:TypeId} {pos:String} {af:Array Edge} {gd:Option (Nat × Bool)} {ms:List Term} {x:Operand} {t e k:Nat} {s:SlV} (ht:yM P t e k) (hx:evF f x=s.v) (h:(fT s ms).on w):Does P ⟨d,.call ⟨.builtin .len,#[x],#[t]⟩,ty,pos,af,gd⟩ f w (.int .i64 ms.length) w:=by
 have:=does_lenS (P:=P) (f:=f) (w:=w) (d:=d) (ty:=ty) (pos:=pos) (af:=af) (gd:=gd) ht hx
 rw [(fT.sl h).len,List.length_map] at this; exact this
def cntV (b3 b4:Nat):Value := .func (.func zbD) #[] #[.pointer (some ⟨b3,0,none⟩),.pointer (some ⟨b4,0,none⟩)]
theorem size_count : ∀ (d:Nat) {A:Nat→Prop} {N:Oth} {w:World} {b3 b4:Nat} {m:Term} {x:PTerm} {n:Nat},n ≤ 65536→St A N w w [oB b3 xB [.int .i64 (n:Int)]] [oB b4 y2 [cntV b3 b4],fTm d m x] →
  Calls PP zbD #[.agg (Term.C m).toArray,.pointer (some ⟨b3,0,none⟩),.pointer (some ⟨b4,0,none⟩)] w fun e w' => ∃ v,e = .returned v∧(v = .tuple #[]∧St A N w w' [oB b3 xB [.int .i64 ((min (n + sizeT x) 65537:Nat):Int)]] [])
 | 0,_,_,_,_,_,_,_,_,_,S=>(S.frz 1 rfl).elim fun _ h=>h.1.elim
 | d + 1,A,N,w,b3,b4,m,x,n,hn,S=>by
  have S1:=S.unandZ 1 (a:=OA.pure (m.kind=x.kind∧m.name=x.name∧m.other=x.other∧m.form=x.form)) (b:=OA.ex fun (ms:List Term)=>(fT m.sub ms).and (bigA (fTm d) ms x.sub)) rfl
  obtain ⟨ms,S2⟩ := S1.unexZ 1 (f:=fun (ms:List Term)=>(fT m.sub ms).and (bigA (fTm d) ms x.sub)) rfl
  have S3:=S2.unandZ 0 (a:=fT m.sub ms) (b:=bigA (fTm d) ms x.sub) rfl
  replace S:St A N w w [oB b3 xB [.int .i64 (n:Int)]] [oB b4 y2 [cntV b3 b4],fT m.sub ms,bigA (fTm d) ms x.sub]:=S3.zs [5,0,1]
  clear S1 S2 S3
  have hl:ms.length=x.sub.length:=(S.frz 2 rfl).elim fun _ h=>zbP h
  have hb:=fT.len (S.onZ 1)
  refine zz (n:=25) fn_term_Size_1 rfl rfl zcc ?_
  refine zd (za ?_)
  refine zX rfl zca fun bx w1 h1=>?_
  replace S:=S.new h1
  refine zb ?_
  refine zd (za ?_)
  refine wd (zl zR rfl ((S.blk 1).cell rfl)) ?_
  refine wd (xK rfl rfl (c:=(n:Int) + 1) rfl zcb zcb) ?_
  refine yI zR rfl rfl (S.blk 1) zcc rfl rfl fun w2 B2 hw2 z2=>?_
  replace S:St A N w w2 [oB b3 xB [.int .i64 ((n:Int) + 1)],oB bx zj (Term.C m)] [oB b4 y2 [cntV b3 b4],fT m.sub ms,bigA (fTm d) ms x.sub]:=S.store 1 B2 hw2
  clear B2
  refine zb ?_
  refine zd (za ?_)
  refine wd (zh rfl) ?_
  refine zb ?_
  refine x6 [4,7,8,9,10,11,12,13,14,15,16,17,18,19,20,21,22,23,24] (fun fr W=>St A N w W [oB b3 xB [.int .i64 ((min (n + sizeT x) 65537:Nat):Int)]] []) ?_ ?_
  ·refine zP ?_
   refine xY (α:=Nat × Nat) [4,7,8,9,10,11,12,13,14,15,16,17,18,19,20,21,22,23,24] (fun q fr W=>fr 4 = .int .i64 (q.1:Int)∧q.1 ≤ x.sub.length∧q.2=min (n + 1 + sizeL (x.sub.take q.1)) 65537∧St A N w W [oB b3 xB [.int .i64 (q.2:Int)],oB bx zj (Term.C m)] [oB b4 y2 [cntV b3 b4],fT m.sub ms,bigA (fTm d) ms x.sub]) (fun q=>x.sub.length - q.1) (0,n + 1) ⟨rfl,Nat.zero_le _,by simp [sizeL]; omega,S⟩ ?_
   rintro ⟨i,c⟩ g u ⟨q4,hi,hcq,S⟩
   try dsimp only at q4 hi hcq S
   refine zd (zd (za ?_))
   refine wd (zg q4) ?_
   refine wd (ze xf rfl (o':=4) rfl) ?_
   refine wd (zl zY rfl ((S.blk 1).cell (Term.get_sub _))) ?_
   refine wd (does_lenM zN rfl (S.onZ 1)) ?_
   refine wd (xQ rfl rfl) ?_
   refine wd (zL rfl) ?_
   refine zH (j:=5) (pol:=true) rfl rfl rfl zca (fun hg=>zl zR rfl ((S.blk 0).cell rfl)) zca ?_
   refine zH (j:=5) (pol:=true) rfl rfl rfl zca (fun hg=>does_le (zw hg) rfl) zca ?_
   refine wd (xt rfl (fun hp=>(zw (xE hp)))) ?_
   refine zb ?_
   refine zG rfl (fun hc=>?_) (fun hc=>?_)
   rotate_left
   ·refine yn ?_
    have he:c=min (n + sizeT x) 65537:=by
     have h2:=sizeL_le (l:=x.sub) i
     rw [zbg]
     simp only [Bool.and_eq_false_iff,decide_eq_false_iff_not] at hc
     rcases hc with hc | hc
     ·rw [List.take_of_length_le zcb] at hcq; omega
     ·omega
    rw [← he]
    exact ⟨rfl,(((((((((Dif.self _ _ _).upd rfl _).upd rfl _).upd rfl _).upd rfl _).upd rfl _).upd rfl _).upd rfl _).upd rfl _).upd rfl _,S.arr [0] []⟩
   refine zB ?_
   simp only [Bool.and_eq_true,decide_eq_true_eq] at hc
   have hi1:i < ms.length:=by omega
   have hi2:i < x.sub.length:=by omega
   have he1:ms[i]? = some ms[i]:=List.getElem?_eq_getElem hi1
   have he2:x.sub[i]? = some x.sub[i]:=List.getElem?_eq_getElem hi2
   refine zd ?_
   refine zP ?_
   refine yz 6 (Ext u) hmix zcd zcd (Ext.drawn _) ?_
   refine zy (fun v K=>zl kP rfl (((S.ext K).blkZ 0).cell rfl)) ?_
   refine zy (fun v K=>ze xf rfl (o':=4) rfl) ?_
   refine zy (fun v K=>zl zY rfl (((S.ext K).blk 1).cell (Term.get_sub _))) ?_
   refine zy (fun v K=>zg q4) ?_
   refine zy (fun v K=>does_indexS zN rfl rfl (fT.sl ((S.ext K).onZ 1)) zcb (by rw [List.length_map]; omega) rfl) ?_
   refine zy (fun v K=>zm zD rfl (fT.at ((S.ext K).onZ 1) (show ms[((i:Nat):Int).toNat]? = some ms[i] by rw [Int.toNat_natCast]; exact he1)) (Term.len _)) ?_
   refine vD fun w3 K=>?_
   replace S:=S.ext K
   clear K
   have S':=S.part 2 (a:=bigA (fTm d) ms x.sub) (b:=fTm d ms[i] x.sub[i]) (fun F h=>bigA_at h he1 he2)
   obtain ⟨B,M,SB,back⟩ := S'.calln 1 (.z 1 rfl (.z 0 rfl .nil))
   refine zu (kH ca_term_Size_1 rfl) zca (size_count d zcb SB) ?_
   rintro _ w4 ⟨rfl,S2⟩
   replace S:St A N w w4 [oB b3 xB [.int .i64 ((min (c + sizeT x.sub[i]) 65537:Nat):Int)],oB bx zj (Term.C m)] [fTm d ms[i] x.sub[i],oB b4 y2 [cntV b3 b4],fT m.sub ms,bigA (fTm d) ms x.sub]:=back _ _ _ _ S2 rfl
   clear back S2 SB S'
   refine zb ?_
   refine za ?_
   refine wd (zg q4) ?_
   refine wd (xK rfl rfl (c:=(i:Int) + 1) rfl zcb zcb) ?_
   refine wd (zh rfl) ?_
   refine zb ?_
   refine ⟨rfl,?_,(i + 1,min (c + sizeT x.sub[i]) 65537),⟨?_,by omega,?_,S.zs [1,2,3]⟩,by dsimp only; omega⟩
   ·exact (((((((((((((((((((Dif.self _ _ _).upd rfl _).upd rfl _).upd rfl _).upd rfl _).upd rfl _).upd rfl _).upd rfl _).upd rfl _).upd rfl _).upd rfl _).upd rfl _).upd rfl _).upd rfl _).upd rfl _).upd rfl _).upd rfl _).upd rfl _).upd rfl _).upd rfl _
   ·rfl
   ·dsimp only
    rw [sizeL_take he2]; omega
  rintro g u S
  exact ⟨_,rets0,rfl,S⟩
theorem term_Size_st {a0:PTerm} {s_0:SlV} (S:St A N w w [] [zn s_0 a0.sub]) {r:Int} (H:zcq.f a0=some r) :
  Calls PP F_term_Size #[.agg (Term.C (⟨a0.kind,a0.name,a0.other,a0.form,s_0⟩ : Term)).toArray] w fun e w' => ∃ v,e = .returned v∧(v = .int .i64 r∧St A N w w' [] []):=by
 cases H
 obtain ⟨d,S⟩ : ∃ d,St A N w w [] [fTm d (mT a0 s_0) a0]:=by
  have h1:=S.part 0 (a:=zn s_0 a0.sub) (b:=xh (mT a0 s_0) a0) (fun F q=>⟨F,fTerm_mk q,fun _ q=>q⟩)
  obtain ⟨d,h2⟩ := h1.unexZ 0 (f:=fun (d:Nat)=>fTm d (mT a0 s_0) a0) rfl
  exact ⟨d,h2.zs [0]⟩
 refine zz (n:=10) fn_term_Size rfl rfl zcc ?_
 refine zd (za ?_)
 refine zX rfl zca fun b1 w1 h1=>?_
 replace S:=S.new h1
 refine wd (zh rfl) ?_
 refine zb ?_
 refine zd (za ?_)
 refine xd ze_int zca fun b3 w2 h2=>?_
 replace S:=S.new h2
 refine yI zR rfl rfl (S.blk 0) zcc rfl rfl fun w3 B3 hw3 z3=>?_
 replace S:St A N w w3 [oB b3 xB [.int .i64 0],oB b1 zj (Term.C (mT a0 s_0))] [fTm d (mT a0 s_0) a0]:=S.store 0 B3 hw3
 clear B3
 refine zb ?_
 refine zd (za ?_)
 refine xd ze_func_api_Term zca fun b4 w4 h4=>?_
 replace S:=S.new h4
 refine zb ?_
 refine zd (za ?_)
 refine wd does_funcl ?_
 refine yI kP rfl rfl (S.blk 0) zcc rfl rfl fun w5 B5 hw5 z5=>?_
 replace S:St A N w w5 [oB b4 y2 [cntV b3 b4],oB b3 xB [.int .i64 0],oB b1 zj (Term.C (mT a0 s_0))] [fTm d (mT a0 s_0) a0]:=S.store 0 B5 hw5
 clear B5
 replace S:=S.frzO 0
 replace S:St A N w w5 [oB b3 xB [.int .i64 ((0:Nat):Int)],oB b1 zj (Term.C (mT a0 s_0))] [oB b4 y2 [cntV b3 b4],fTm d (mT a0 s_0) a0]:=S
 refine zb ?_
 refine zd (za ?_)
 refine wd (zl kP rfl ((S.blkZ 0).cell rfl)) ?_
 refine wd (zm zD rfl ((S.blk 1).all _ (Term.len _)) (Term.len _)) ?_
 obtain ⟨B,M,SB,back⟩ := S.calln 1 (.z 0 rfl (.z 1 rfl .nil))
 refine zu (kH ca_term_Size_1 rfl) zca (size_count d zcb SB) ?_
 rintro _ w6 ⟨rfl,S2⟩
 replace S:St A N w w6 [oB b3 xB [.int .i64 ((min (0 + sizeT a0) 65537:Nat):Int)],oB b1 zj (Term.C (mT a0 s_0))] [oB b4 y2 [cntV b3 b4],fTm d (mT a0 s_0) a0]:=back _ _ _ _ S2 rfl
 clear back S2 SB
 refine zb ?_
 refine zd (za ?_)
 refine wd (zl zR rfl ((S.blk 0).cell rfl)) ?_
 refine wd (zh rfl) ?_
 refine zb ?_
 refine zx ?_
 exact ⟨.int .i64 ((min (0 + sizeT a0) 65537:Nat):Int),zS (zf rfl),congrArg (Value.int .i64) (by rw [Nat.zero_add]),S.arr [] []⟩
end
end
section
open Gw Go.RowKit
set_option maxHeartbeats 4000000
set_option maxRecDepth 20000
theorem take_succ' {M:List Nd} {i:Nat} (h:i < M.length):M.take (i + 1)=M.take i ++ [M[i]]:=List.take_succ_eq_append_getElem h
theorem take_new {M:List Nd} (hn:M.Nodup) {i:Nat} (h:i < M.length):(M.take i).idxOf? M[i]=none:=by
 rw [List.idxOf?_eq_none_iff]
 intro hm
 obtain ⟨j,hj,e⟩ := List.getElem_of_mem hm
 rw [List.length_take] at hj
 rw [List.getElem_take] at e
 exact List.pairwise_iff_getElem.1 hn j i zcb h zcb e
section
variable {P:Program} {f:Fr} {w:World} {d:Option Tmp} {ty:TypeId} {pos:String} {af:Array Edge} {gd:Option (Nat × Bool)}
theorem zav (op:BinOp) (t:TypeId) (x y:Operand) (a b:Option Addr):(eqGuard op t x y (.pointer a) (.pointer b)).run P w = .ok () w:=by
 unfold eqGuard
 split <;> rfl
theorem does_isnilp {t u e:TypeId} {x y:Operand} {a:Option Addr} {b:Bool} (ht:P.underlying t=some (.pointer e)) (hx:evF f x = .pointer a) (hy:evF f y = .pointer none) (hb:a.isNone=b):Does P ⟨d,.binOp .eql t x y u,ty,pos,af,gd⟩ f w (.bool b) w:=by
 have ht':P.underlying t=some (.pointer (P.pointee t)):=by rw [ht]; unfold Program.pointee; rw [ht]
 simp only [Does,execOp,hx,hy,Sem.run_bind,zav,Result.andThen_ok,run_eql_pointer_nil (w:=w) (t:=t) (p:=a) ht',Sem.run_pure,hb]
end
section
variable {A:Nat→Prop} {N:Oth} {w0 w:World}
theorem formula_Table_Copy_raw {a:Option Addr} {t:Tb} (S:St A N w w [] [oT a t]) (hn : ∀ M,t=some M→M.Nodup):Calls PP uS #[.pointer a] w fun e w' => ∃ v,e = .returned v ∧ ∃ a':Option Addr,(v = .pointer a'∧(a'.isNone=t.isNone∧St A N w w' [oT a' t] [])):=by
 refine zz (n:=38) fn_formula_Table_Copy rfl rfl zcc ?_
 refine zd (za ?_)
 refine wd (xc rfl) ?_
 refine zb ?_
 refine zd (zd (za ?_))
 refine wd (zk rfl) ?_
 cases t with
 | none =>
  obtain ⟨F,hF⟩ := S.frz 0 rfl
  refine zu (zq xH) zca (vY _ (oT.dead hF)) ?_
  rintro _ w1 ⟨rfl,h1⟩
  replace S:=S.ext h1
  refine wd (xk rfl) ?_
  refine zb ?_
  refine wc_true rfl ?_
  refine zd (za ?_)
  refine wd (xc rfl) ?_
  refine zb ?_
  refine zx ?_
  exact ⟨_,(zS (zf rfl)),none,rfl,rfl,(S.zs (Z':=[]) []).nil_oT⟩
 | some M =>
  have hnd:=hn M rfl
  obtain ⟨F,p,rfl,T,hN⟩ := S.frz 0 rfl
  refine zu (zq xH) zca (yE _ T) ?_
  rintro _ w1 ⟨rfl,h1⟩
  replace S:=S.ext h1
  refine wd (xk rfl) ?_
  refine zb ?_
  refine zat rfl ?_
  refine zB ?_
  refine zd (za ?_)
  obtain ⟨B,MB,SB,back⟩ := S.call [] [] .nil
  refine zu (zq kb) zca (km SB rfl) ?_
  rintro _ w2 ⟨a1,rfl,S2⟩
  replace S:St A N w w2 [oT a1 (some [])] [oT (some ⟨p,0,none⟩) (some M)]:=back _ _ _ _ S2 rfl
  clear back S2 SB
  refine wd (xc rfl) ?_
  refine zb ?_
  obtain ⟨p1,s1,m1,rfl,_,S⟩ := S.openT
  obtain ⟨p',s,m,hp,_,S⟩ := S.seeT 0
  cases hp
  refine zd (zd (za ?_))
  refine wd (zk rfl) ?_
  refine wd (zC rfl) ?_
  refine wd (ze yR rfl (o':=0) rfl) ?_
  refine wd (zl xy rfl ((S.blkZ 0).cell (Tab.get_rows _))) ?_
  refine wd (xg xe rfl (S.rd 1)) ?_
  refine wd (zg rfl) ?_
  refine zb ?_
  refine x6 [4,5,15,16,17,18,19,20,21,22,23,24,25,26,27,28,29,30,31,32,33,34,35,36] (fun fr W => ∃ sl,St A N w W [oB p1 vF (Tab.C ⟨sl,some m1⟩),oM m1 ndV (Value.int .i64) (zipT M),oS T_Nd 4 Nd.C sl M] []) ?_ ?_
  ·refine zP ?_
   refine xY (α:=Nat × SlV) [4,5,15,16,17,18,19,20,21,22,23,24,25,26,27,28,29,30,31,32,33,34,35,36] (fun q fr W=>fr 15 = .int .i64 (q.1:Int)∧q.1 ≤ M.length∧St A N w W [oB p1 vF (Tab.C ⟨q.2,some m1⟩),oM m1 ndV (Value.int .i64) (zipT (M.take q.1)),oS T_Nd 4 Nd.C q.2 (M.take q.1)] [oB p vF (Tab.C ⟨s,some m⟩),fS 4 Nd.C s M]) (fun q=>M.length - q.1) (0,s1) ⟨rfl,Nat.zero_le _,S.zs [0,1]⟩ ?_
   rintro ⟨i,sc⟩ g u ⟨q15,hi,S⟩
   try dsimp only at q15 hi S
   refine zd (za ?_)
   refine wd (xQ q15 rfl) ?_
   refine zb ?_
   refine zd ?_
   refine zG rfl (fun hc=>?_) (fun hc=>?_)
   rotate_left
   ·refine yn ?_
    have hi':¬ (i:Int) < (M.length:Int):=of_decide_eq_false hc
    rw [List.take_of_length_le zcb] at S
    exact ⟨rfl,(Dif.self _ _ _).upd rfl _,sc,S.zs []⟩
   have hlt:i < M.length:=by have:=of_decide_eq_true hc; omega
   refine zB ?_
   have hb:0 ≤ (i:Int)∧(i:Int) < (M.length:Int):=by omega
   have hat:at_ Nd.z M (i:Int)=M[i]:=by simp [at_,List.getD_eq_getElem?_getD,hlt]
   refine zd ?_
   refine zP ?_
   refine zd (za ?_)
   refine wd (zg q15) ?_
   refine wd (xa xe rfl q15 (S.rd 1) hb.1 hb.2) ?_
   refine wd (zm x7 rfl ((S.rd 1).at (ym Nd.z hb)) (Nd.len _)) ?_
   refine xd uD zca fun b5 w3 hw3=>?_
   replace S:St A N w w3 [oB b5 T_Nd (Nd.C Nd.z),oB p1 vF (Tab.C ⟨sc,some m1⟩),oM m1 ndV (Value.int .i64) (zipT (M.take i)),oS T_Nd 4 Nd.C sc (M.take i)] [oB p vF (Tab.C ⟨s,some m⟩),fS 4 Nd.C s M]:=S.new hw3
   refine wd (zh rfl) ?_
   refine zI x7 rfl rfl (S.blk 0) (Nd.len _) (by rw [Nd.len]; decide) (Nd.one _) (zT (Nd.len _)) fun w4 B4 hw4 _=>?_
   replace S:St A N w w4 [oB b5 T_Nd (Nd.C (at_ Nd.z M (i:Int))),oB p1 vF (Tab.C ⟨sc,some m1⟩),oM m1 ndV (Value.int .i64) (zipT (M.take i)),oS T_Nd 4 Nd.C sc (M.take i)] [oB p vF (Tab.C ⟨s,some m⟩),fS 4 Nd.C s M]:=S.store 0 B4 hw4
   clear B4
   rw [hat] at S
   refine zb ?_
   refine zd ?_
   have hSO:=S.sl 3
   have hSlt:=hSO.lt
   have hli:(M.take i).length=i:=by rw [List.length_take]; omega
   have SH : ∀ v,Chg sc.fp w4 v→St A (N.or sc.fp) w v [oB b5 T_Nd (Nd.C M[i]),oB p1 vF (Tab.C ⟨sc,some m1⟩),oM m1 ndV (Value.int .i64) (zipT (M.take i))] [oB p vF (Tab.C ⟨s,some m⟩),fS 4 Nd.C s M]:=fun v hc=>S.away 3 (hc:=hc)
   refine wc_draw 8 ⟨fun L v=>Chg sc.fp w4 v∧(L 7=false→Ext w4 v),fun L a b=>Chg sc.fp a b∧(L 7=true→Ext a b),fun k v u=>match k with
    | 0=>v=Value.pointer (some ⟨p1,0,none⟩)
    | 1=>v=Value.pointer (some ⟨p1,0,none⟩)
    | 2=>v=Value.pointer (some ⟨p1,0,none⟩)
    | 3=>v=Value.pointer (some ⟨p1,0,none⟩)
    | 4=>v=sc.v
    | 5=>v=Value.agg (Nd.C M[i]).toArray
    | 6 => ∃ b sl,v=SlV.v sl∧sl=⟨some ⟨b,0,none⟩,1,1⟩ ∧ Blk u b T_Nd (Nd.C M[i])∧¬ sc.fp b
    | 7 => ∃ s',v=SlV.v s'∧Own u 0 T_Nd 4 s' (((M.take i) ++ [M[i]]).map Nd.C) ∧ ∀ j,s'.fp j→sc.fp j∨w4.heap.size ≤ j
    | _=>True⟩ hmix zcd ?_ ⟨(Ext.drawn _).mono (fun _ _ x=>x.elim),fun _=>Ext.drawn _⟩ ⟨?_,?_,?_,?_,?_,?_,?_,?_,trivial⟩ ?_
   ·intro L k v a b hLi hle hv
    match k,hLi,hv with
    | 0,_,hv=>exact hv
    | 1,_,hv=>exact hv
    | 2,_,hv=>exact hv
    | 3,_,hv=>exact hv
    | 4,_,hv=>exact hv
    | 5,_,hv=>exact hv
    | 6,_,⟨b,sl,e1,e2,hb,hn⟩ => exact ⟨b,sl,e1,e2,hb.chg hle.1 hn,hn⟩
    | 7,hLi,⟨s',e1,ho,hg⟩ => exact ⟨s',e1,ho.ext (hle.2 hLi),hg⟩
    | _ + 8,_,_=>exact trivial
   ·rintro L g v hL hT
    refine zi (zk rfl) zca (zb (ob ⟨hT.1,fun h=>hT.2 h⟩ ⟨Chg.refl _ _,fun _=>Ext.refl _⟩ rfl))
   ·rintro L g v hL hT
    refine zi (zk rfl) zca (zb (ob ⟨hT.1,fun h=>hT.2 h⟩ ⟨Chg.refl _ _,fun _=>Ext.refl _⟩ rfl))
   ·rintro L g v hL hT hv1
    refine zi (zC hv1) zca (zb (ob ⟨hT.1,fun h=>hT.2 h⟩ ⟨Chg.refl _ _,fun _=>Ext.refl _⟩ rfl))
   ·rintro L g v hL hT hv2
    refine zi (ze yR hv2 (o':=0) rfl) zca (zb (ob ⟨hT.1,fun h=>hT.2 h⟩ ⟨Chg.refl _ _,fun _=>Ext.refl _⟩ rfl))
   ·rintro L g v hL hT hv3
    refine zi (zl xy hv3 (((SH v hT.1).blk 1).cell (Tab.get_rows _))) zca (zb (ob ⟨hT.1,fun h=>hT.2 h⟩ ⟨Chg.refl _ _,fun _=>Ext.refl _⟩ rfl))
   ·rintro L g v hL hT
    refine zi (zm x7 rfl (((SH v hT.1).blk 0).all _ (Nd.len _)) (Nd.len _)) zca (zb (ob ⟨hT.1,fun h=>hT.2 h⟩ ⟨Chg.refl _ _,fun _=>Ext.refl _⟩ rfl))
   ·rintro L g v hL hT hv5
    refine wl_lit1 xe el_Nd.zero hv5 rfl (Nd.len _) zca zca fun b v' sl hn hq=>zb (ob ⟨hT.1.thenExt hn.ext,fun h=>(hT.2 h).trans hn.ext⟩ ⟨hn.ext.mono (fun _ _ x=>x.elim),fun _=>hn.ext⟩ ⟨b,sl,rfl,hq,hn.blk,fun e=>by have:=hSlt _ e; have:=hn.at_; have:=hT.1.size; omega⟩)
   ·rintro L g v hL hT hv4 ⟨b,sl,hv6,hq,hb,hnb⟩
    refine wl_push (C:=Nd.C) xe el_Nd hv4 hv6 (hSO.ext (hT.2 hL)) hb hq (Nd.len _) (Nd.one _) zcb zcb zca fun s' v' ho hc hg=>zb (ob ⟨hT.1.trans hc,fun h=>(by cases h)⟩ ⟨hc,fun h=>(by rw [hL] at h; cases h)⟩ ⟨s',rfl,ho,fun i e=>(hg i e).imp id (fun h=>Nat.le_trans hT.1.size h)⟩)
   rintro L g5 w5 hLm hT hv0 hv1 hv2 hv3 hv4 hv5 ⟨b,sl,hv6,hq,hbb,hnb⟩ ⟨s9,hv7,O,gO⟩
   replace S:St A N w w5 [oS T_Nd 4 Nd.C s9 (M.take i ++ [M[i]]),oB b5 T_Nd (Nd.C M[i]),oB p1 vF (Tab.C ⟨sc,some m1⟩),oM m1 ndV (Value.int .i64) (zipT (M.take i))] [oB p vF (Tab.C ⟨s,some m⟩),fS 4 Nd.C s M]:=S.push 3 O (by rw [List.length_append,List.length_singleton]; omega) hT.1 gO
   clear O gO SH hSO hSlt
   refine wd (zC hv0) ?_
   refine wd (ze yR rfl (o':=0) rfl) ?_
   refine yI xy rfl hv7 (S.blk 2) (by rw [Tab.len]; decide) (SlV.one _ _ rfl) (Tab.set_rows _ _) fun w6 B6 hw6 _=>?_
   replace S:St A N w w6 [oB p1 vF (Tab.C ⟨s9,some m1⟩),oS T_Nd 4 Nd.C s9 (M.take i ++ [M[i]]),oB b5 T_Nd (Nd.C M[i]),oM m1 ndV (Value.int .i64) (zipT (M.take i))] [oB p vF (Tab.C ⟨s,some m⟩),fS 4 Nd.C s M]:=S.store 2 B6 hw6
   clear B6
   refine zb ?_
   refine yz 6 (Ext w6) hmix zcd zcd (Ext.drawn _) ?_
   refine zy (fun v K=>zk rfl) ?_
   refine zy (fun v K=>zC rfl) ?_
   refine zy (fun v K=>ze kK rfl (o':=1) rfl) ?_
   refine zy (fun v K=>zl vo rfl (((S.ext K).blk 0).cell (Tab.get_at_ _))) ?_
   refine zy (fun v K=>zm x7 rfl (((S.ext K).blk 2).all _ (Nd.len _)) (Nd.len _)) ?_
   refine zy (fun v K=>zg rfl) ?_
   refine vD fun w7 K=>?_
   replace S:=S.ext K
   clear K
   refine zaG (C:=ndV) (D:=Value.int .i64) (key:=M[i]) (v:=(i:Int)) vp key_Nd rfl rfl rfl (S.map 3) fun w8 hm8 hc8 hs8=>?_
   replace S:=S.mapSet 3 ⟨hm8,hc8,hs8⟩
   refine zb ?_
   refine za ?_
   refine wd (xK q15 rfl (c:=(i:Int) + 1) rfl zcb zcb) ?_
   refine wd (zg rfl) ?_
   refine zb ?_
   have hz:Gw.ins M[i] (i:Int) (zipT (M.take i))=zipT (M.take (i + 1)):=by
    have:=ins_rows (take_new hnd hlt)
    rw [hli] at this
    rw [this,take_succ' hlt]
   refine ⟨rfl,?_,(i + 1,s9),⟨rfl,by omega,?_⟩,by dsimp only; omega⟩
   ·repeat (first | exact Dif.self _ _ _ | refine Dif.upd ?_ rfl _ | refine Dif.mask ?_ rfl _)
   ·dsimp only
    rw [← hz,take_succ' hlt]
    exact S.arr [1,0,2] [0,1]
  rintro g u ⟨sl,S⟩
  refine zd (za ?_)
  refine wd (zk rfl) ?_
  refine wd (xc rfl) ?_
  refine zb ?_
  refine zx ?_
  exact ⟨_,(zS (zf rfl)),some ⟨p1,0,none⟩,rfl,rfl,S.shutT hN rfl⟩
def zcr.f (t:Tb):Option Tb:=chk (match t with | none=>true | some M=>decide M.Nodup) (some t)
theorem formula_Table_Copy_st {a:Option Addr} {t:Tb} (S:St A N w w [] [oT a t]) {r:Tb} (H:zcr.f t=some r):Calls PP uS #[.pointer a] w fun e w' => ∃ v,e = .returned v ∧ ∃ a':Option Addr,(v = .pointer a'∧a'.isNone=r.isNone∧St A N w w' [oT a' r] []):=by
 obtain ⟨hn,H⟩ := xo H
 obtain rfl:=zce H
 exact formula_Table_Copy_raw S fun M hM=>by subst hM; exact of_decide_eq_true hn
end
end
section
open Gw Go.RowKit
section
variable {A:Nat→Prop} {N:Oth} {w:World}
theorem del_mid {x:Nd} {v:Int} : ∀ {l r:List (Nd × Int)},(∀ q ∈ l,q.1 ≠ x)→del x (l ++ (x,v) :: r)=l ++ r
 | [],r,_=>by unfold del; simp
 | (k,y) :: l,r,h=>by
  have h1:¬ x=k:=fun e=>h (k,y) zcc e.symm
  rw [List.cons_append]; unfold del; rw [if_neg h1,del_mid (fun q hq=>h q (by simp [hq]))]; rfl
def cutT (M:List Nd) (k i:Nat):List (Nd × Int):=zipT (M.take k) ++ (((M.drop k).zipIdx k).map fun q=>(q.1,(q.2:Int))).drop i
theorem cutT_0 {M:List Nd} {k:Nat} (h:k ≤ M.length):zipT M=cutT M k 0:=by
 unfold cutT zipT
 conv=>lhs; rw [← List.take_append_drop k M,List.zipIdx_append]
 rw [List.map_append,List.drop_zero]; simp [Nat.min_eq_left h]
theorem cutT_end {M:List Nd} {k:Nat}:cutT M k (M.drop k).length=zipT (M.take k):=by
 unfold cutT
 rw [List.drop_eq_nil_of_le zcc]; simp
theorem cutT_step {M:List Nd} {k i:Nat} (nd:M.Nodup) {x:Nd} (hx:(M.drop k)[i]? = some x):del x (cutT M k i)=cutT M k (i + 1):=by
 unfold cutT
 have hi:i < (M.drop k).length:=(List.getElem?_eq_some_iff.1 hx).1
 have hx':=(List.getElem?_eq_some_iff.1 hx).2
 rw [List.drop_eq_getElem_cons (by simpa using hi)]
 simp only [List.getElem_map,List.getElem_zipIdx]
 rw [hx']
 refine del_mid fun q hq e=>?_
 obtain ⟨q',hq',rfl⟩ := List.mem_map.1 hq
 have h1:q'.1 ∈ M.take k:=by
  obtain ⟨a,b⟩ := q'
  have:=List.mem_zipIdx hq'
  rw [this.2.2]; exact List.getElem_mem _
 have h2:x ∈ M.drop k:=List.mem_of_getElem? hx
 rw [← List.take_append_drop k M,List.nodup_append] at nd
 exact nd.2.2 _ h1 _ h2 e
def zcs.f (t:Tb) (k:Int):Option (Tb × Int):=match t with
 | none=>some (none,1)
 | some M=>if (decide (k < 0) || decide ((M.length:Int) < k))=true then some (some M,2) else chk (decide M.Nodup) (some (some (M.take k.toNat),0))
theorem formula_Table_Cut_st {a:Option Addr} {t:Tb} {k:Int} (S:St A N w w [oT a t] []) {r:Tb × Int} (H:zcs.f t k=some r):Calls PP zaw #[.pointer a,.int .i64 k] w fun e w' => ∃ v,e = .returned v∧(v = .int .i64 r.2∧St A N w w' [oT a r.1] []):=by
 refine zz (n:=49) fn_formula_Table_Cut rfl rfl zcc ?_
 repeat (first | refine zd ?_ | refine za ?_ | refine zP ?_)
 refine zi (zh rfl) zca ?_
 refine zb ?_
 repeat (first | refine zd ?_ | refine za ?_ | refine zP ?_)
 refine zi (zk rfl) zca ?_
 cases t with
 | none =>
  obtain ⟨F,hF⟩ := S.own 0 rfl
  refine zu (zq xH) zca (vY _ (oT.dead hF)) ?_
  rintro _ w1 ⟨rfl,h1⟩
  replace S:=S.ext h1
  refine zi (xk rfl) zca ?_
  refine zi (zo rfl) zca ?_
  refine zb ?_
  refine wc_true rfl ?_
  repeat (first | refine zd ?_ | refine za ?_ | refine zP ?_)
  refine zi (zh rfl) zca ?_
  refine zb ?_
  refine zx ?_
  obtain rfl:=zce H
  exact ⟨_,(zS (zf rfl)),rfl,S⟩
 | some M =>
  obtain ⟨F,p,rfl,T,hN⟩ := S.own 0 rfl
  refine zu (zq xH) zca (yE _ T) ?_
  rintro _ w1 ⟨rfl,h1⟩
  replace S:=S.ext h1
  refine zi (xk rfl) zca ?_
  refine zi (zo rfl) zca ?_
  refine zb ?_
  refine zat rfl ?_
  obtain ⟨p',s,m,hp,_,S⟩ := S.openT
  cases hp
  repeat (first | refine zd ?_ | refine za ?_ | refine zP ?_)
  refine zi (zg rfl) zca ?_
  refine zi (xQ rfl rfl) zca ?_
  refine zi (zL rfl) zca ?_
  refine zH (j:=2) (pol:=false) rfl rfl rfl zca (fun hg=>zg rfl) zca ?_
  refine zH (j:=2) (pol:=false) rfl rfl rfl zca (fun hg=>zk rfl) zca ?_
  refine zH (j:=2) (pol:=false) rfl rfl rfl zca (fun hg=>zC (zw hg)) zca ?_
  refine zH (j:=2) (pol:=false) rfl rfl rfl zca (fun hg=>ze yR (zw hg) (o':=0) rfl) zca ?_
  refine zH (j:=2) (pol:=false) rfl rfl rfl zca (fun hg=>zl xy (zw hg) ((S.blk 0).cell (Tab.get_rows _))) zca ?_
  refine zH (j:=2) (pol:=false) rfl rfl rfl zca (fun hg=>xg xe (zw hg) (S.sl 2).toRd) zca ?_
  refine zH (j:=2) (pol:=false) rfl rfl rfl zca (fun hg=>kU (zw hg) (zw hg)) zca ?_
  refine zi (xO rfl (fun hp=>(zw (xE hp)))) zca ?_
  refine zi (zo rfl) zca ?_
  refine zb ?_
  dsimp only [zcs.f] at H
  refine zG rfl (fun hc=>?_) (fun hc=>?_)
  ·rw [if_pos hc] at H
   repeat (first | refine zd ?_ | refine za ?_ | refine zP ?_)
   refine zi (zh rfl) zca ?_
   refine zb ?_
   refine zx ?_
   obtain rfl:=zce H
   exact ⟨_,(zS (zf rfl)),rfl,S.shutT hN rfl⟩
  replace H:chk (decide M.Nodup) (some (some (M.take k.toNat),0))=some r:=by simpa [hc] using H
  obtain ⟨nd,H⟩ := xo H
  obtain rfl:=zce H
  clear H
  replace nd:M.Nodup:=of_decide_eq_true nd
  simp only [Bool.or_eq_false_iff,decide_eq_false_iff_not] at hc
  have hk:0 ≤ k∧k ≤ M.length:=by omega
  refine zB ?_
  repeat (first | refine zd ?_ | refine za ?_ | refine zP ?_)
  refine zi (zk rfl) zca ?_
  refine zi (zC rfl) zca ?_
  refine zi (ze yR rfl (o':=0) rfl) zca ?_
  refine zi (zl xy rfl ((S.blk 0).cell (Tab.get_rows _))) zca ?_
  refine zi (zg rfl) zca ?_
  refine zi (does_suf xe rfl rfl (S.sl 2).toRd hk) zca ?_
  refine zi (xg xe rfl ((S.sl 2).toRd.suf hk).1) zca ?_
  refine zi (zg rfl) zca ?_
  refine zb ?_
  rw [cutT_0 (M:=M) (k:=k.toNat) zcb] at S
  clear h1
  refine x6 [6,30,31,32,33,34,35,36,37,38,39] (fun fr W=>St A N w W [oB p vF (Tab.C ⟨s,some m⟩),oM m ndV (Value.int .i64) (cutT M k.toNat (M.drop k.toNat).length),oS T_Nd 4 Nd.C s M] []) ?_ ?_
  ·refine zP ?_
   refine xY (α:=Nat) [6,30,31,32,33,34,35,36,37,38,39] (fun i fr W=>i ≤ (M.drop k.toNat).length∧fr 30 = .int .i64 i∧St A N w W [oB p vF (Tab.C ⟨s,some m⟩),oM m ndV (Value.int .i64) (cutT M k.toNat i),oS T_Nd 4 Nd.C s M] []) (fun i=>(M.drop k.toNat).length - i) 0 ⟨Nat.zero_le _,rfl,S⟩ ?_
   rintro i g u ⟨hi,q,S⟩
   try dsimp only at q
   repeat (first | refine zd ?_ | refine za ?_ | refine zP ?_)
   refine zi (xQ q rfl) zca ?_
   refine zb ?_
   repeat (first | refine zd ?_ | refine za ?_ | refine zP ?_)
   refine zG rfl (fun hc=>?_) (fun hc=>?_)
   rotate_left
   ·refine yn ?_
    have hge:¬ ((i:Int) < ((M.drop k.toNat).length:Int)):=of_decide_eq_false hc
    obtain rfl:i=(M.drop k.toNat).length:=by omega
    exact ⟨rfl,by repeat (first | exact Dif.self _ _ _ | exact Dif.refl _ _ | refine Dif.upd ?_ rfl _),S⟩
   refine zB ?_
   have hlt:i < (M.drop k.toNat).length:=by simpa using hc
   have hd:(M.drop k.toNat).length ≤ 1024:=by simp; omega
   have hrd:=((S.sl 2).toRd.suf hk).1
   obtain ⟨x,hx⟩ : ∃ x,(M.drop k.toNat)[i]? = some x:=⟨_,List.getElem?_eq_getElem hlt⟩
   repeat (first | refine zd ?_ | refine za ?_ | refine zP ?_)
   refine zi (xa xe rfl q hrd zcb zcb) zca ?_
   refine zi (zm x7 rfl (hrd.at (show (M.drop k.toNat)[Int.toNat (i:Int)]? = some x from hx)) (Nd.len _)) zca ?_
   refine xd uD zca fun b2 w2 hw2=>?_
   replace S:=S.new hw2
   refine zI x7 rfl rfl (S.blk 0) (Nd.len _) (by rw [Nd.len]; decide) (Nd.one _) (zT (Nd.len _)) fun w3 B3 hw3 zw3=>?_
   replace S:St A N w w3 [oB b2 T_Nd (Nd.C x),oB p vF (Tab.C ⟨s,some m⟩),oM m ndV (Value.int .i64) (cutT M k.toNat i),oS T_Nd 4 Nd.C s M] []:=S.store 0 B3 hw3
   refine zb ?_
   refine yz 5 (Ext w3) hmix zcd zcd (Ext.drawn _) ?_
   refine zy (fun v K=>zk rfl) ?_
   refine zy (fun v K=>zC rfl) ?_
   refine zy (fun v K=>ze kK rfl (o':=1) rfl) ?_
   refine zy (fun v K=>zl vo rfl (((S.ext K).blk 1).cell (Tab.get_at_ _))) ?_
   refine zy (fun v K=>zm x7 rfl (((S.ext K).blk 0).all _ (Nd.len _)) (Nd.len _)) ?_
   refine vD fun w4 K=>?_
   replace S:=S.ext K
   refine wl_delete0 (C:=fun x:Nd => .agg (Nd.C x).toArray) (key:=x) vp key_Nd rfl rfl (S.map 2) fun w5 B5 h5 z5=>?_
   rw [cutT_step nd hx] at B5
   replace S:St A N w w5 [oM m ndV (Value.int .i64) (cutT M k.toNat (i + 1)),oB b2 T_Nd (Nd.C x),oB p vF (Tab.C ⟨s,some m⟩),oS T_Nd 4 Nd.C s M] []:=S.mapSet 2 ⟨B5,h5,z5⟩
   replace S:St A N w w5 [oM m ndV (Value.int .i64) (cutT M k.toNat (i + 1)),oB p vF (Tab.C ⟨s,some m⟩),oS T_Nd 4 Nd.C s M] []:=S.drop 1
   replace S:St A N w w5 [oB p vF (Tab.C ⟨s,some m⟩),oM m ndV (Value.int .i64) (cutT M k.toNat (i + 1)),oS T_Nd 4 Nd.C s M] []:=S.front 1
   refine zb ?_
   repeat (first | refine zd ?_ | refine za ?_ | refine zP ?_)
   refine zi (xK q rfl (c:=(i:Int) + 1) rfl zcb zcb) zca ?_
   refine zi (zg rfl) zca ?_
   refine zb ?_
   exact ⟨rfl,by repeat (first | exact Dif.self _ _ _ | exact Dif.refl _ _ | refine Dif.upd ?_ rfl _),i + 1,⟨by omega,rfl,S⟩,by omega⟩
  ·rintro g u S
   rw [cutT_end] at S
   repeat (first | refine zd ?_ | refine za ?_ | refine zP ?_)
   refine zi (zk rfl) zca ?_
   refine zi (zk rfl) zca ?_
   refine zi (zC rfl) zca ?_
   refine zi (ze yR rfl (o':=0) rfl) zca ?_
   refine zi (zl xy rfl ((S.blk 0).cell (Tab.get_rows _))) zca ?_
   refine zi (zg rfl) zca ?_
   refine zi (does_pre xe rfl rfl (S.sl 2) hk) zca ?_
   refine zi (zC rfl) zca ?_
   refine zi (ze yR rfl (o':=0) rfl) zca ?_
   refine yI xy rfl rfl (S.blk 0) (by rw [Tab.len]; decide) (SlV.one _ _ rfl) (Tab.set_rows _ _) fun w5 B h5 z5=>?_
   replace S:St A N w w5 [oB p vF (Tab.C ⟨⟨s.p,k.toNat,s.c⟩,some m⟩),oM m ndV (Value.int .i64) (zipT (M.take k.toNat)),oS T_Nd 4 Nd.C s M] []:=S.store 0 B h5
   replace S:St A N w w5 [oS T_Nd 4 Nd.C ⟨s.p,k.toNat,s.c⟩ (M.take k.toNat),oB p vF (Tab.C ⟨⟨s.p,k.toNat,s.c⟩,some m⟩),oM m ndV (Value.int .i64) (zipT (M.take k.toNat))] []:=S.push 2 (s:=s) (l:=M) (l':=M.take k.toNat) ((S.sl 2).preL hk ((S.sl 2).clip hk) (Nat.le_refl _)) (by simp; omega) (Chg.refl _ _) (fun i hi => .inl hi)
   replace S:=S.front 2
   replace S:St A N w w5 [oB p vF (Tab.C ⟨⟨s.p,k.toNat,s.c⟩,some m⟩),oM m ndV (Value.int .i64) (zipT (M.take k.toNat)),oS T_Nd 4 Nd.C ⟨s.p,k.toNat,s.c⟩ (M.take k.toNat)] []:=S.front 2
   refine zb ?_
   repeat (first | refine zd ?_ | refine za ?_ | refine zP ?_)
   refine zi (zh rfl) zca ?_
   refine zb ?_
   refine zx ?_
   exact ⟨_,(zS (zf rfl)),rfl,S.shutT (by simp; omega) rfl⟩
end
end
section
open Go.RowKit
namespace Gw
section
variable {P:Program} {rd:Option Nat} {n:Nat} {dm:List Nat} {ops:Array Oper} {Q:Post} {f:Fr} {w:World} {rest:List Oper} {ty:TypeId} {pos:String} {af:Array Edge}
theorem Sl.flat {k:Nat} {s:SlV} {rows:List (List Value)} (h:Sl w k s rows) (hk:0 < k) {b:Addr} (hb:s.p=some b) : ∀ j u,rows.flatten[j]? = some u→w.cell? (b.add j)=some u:=by
 intro j u hj
 have hl:rows.flatten.length=rows.length * k:=kL h.row
 have hlt:j < rows.length * k:=by rw [← hl]; exact (List.getElem?_eq_some_iff.1 hj).1
 have hq:j / k < rows.length:=Nat.div_lt_of_lt_mul (by rw [Nat.mul_comm]; exact hlt)
 obtain ⟨hp,hc⟩ := h.cells (j / k) _ (List.getElem?_eq_getElem hq)
 rw [hp] at hb; cases hb
 rw [zaT]
 have hmod:j % k < k:=Nat.mod_lt _ hk
 have hf:=flat_at rows (j / k) _ (j % k) hmod h.row (List.getElem?_eq_getElem hq)
 rw [Nat.div_add_mod' j k,hj] at hf
 have:=hc (j % k) u hf.symm
 rw [Nat.add_assoc,Nat.div_add_mod' j k] at this
 exact this
theorem wl_appendC {α:Type} {C:α→List Value} {dd:Tmp} {t e k bytes:Nat} {x y:Operand} {s r:SlV} {l m:List α} (ht:yM P t e k) (he:uN P e k bytes) (hx:evF f x=s.v) (hy:evF f y=r.v) (hs:Rd w k s (l.map C)) (hfull:s.c=s.n) (hr:Rd w k r (m.map C)) (hne:m ≠ [])
  (hm:(l.length + m.length) * bytes ≤ 140737488355328) (hm2:l.length + m.length ≤ 140737488355328) (hd:dd < n)
  (h : ∀ (s':SlV) w',Own w' 0 e k s' ((l ++ m).map C)→Ext w w'→(∀ i,s'.fp i→w.heap.size ≤ i)→wl P rd n dm ops rest Q (upd f dd s'.v) w'):wl P rd n dm ops (⟨some dd,.call ⟨.builtin .append,#[x,y],#[t,t]⟩,ty,pos,af,none⟩ :: rest) Q f w:=by
 obtain ⟨i,z,hi,hz,hsz,hby,hzs,hk0⟩ := he
 have hrows:(l ++ m).map C=l.map C ++ m.map C:=List.map_append
 rw [hrows] at h
 have hne':m.map C ≠ []:=fun q=>hne (List.map_eq_nil_iff.1 q)
 have hl1:(l.map C).length=l.length:=List.length_map _
 have hl2:(m.map C).length=m.length:=List.length_map _
 generalize hR:l.map C=rows at *
 generalize hW:m.map C=news at *
 have hp:r.p=some ⟨r.blk,r.off,none⟩ := by
  cases news with
  | nil=>exact absurd rfl hne'
  | cons q news=>exact (hr.sl.cells 0 q rfl).1
 have hnl:news.flatten.length=news.length * k:=kL hr.sl.row
 have hol:rows.flatten.length=rows.length * k:=kL hs.sl.row
 have hpos:0 < news.length:=List.length_pos_iff.2 hne'
 have hnews:=hr.sl.flat hk0 hp
 have hrow : ∀ l ∈ rows ++ news,l.length=k:=fun l hl=>(List.mem_append.1 hl).elim (hs.sl.row l) (hr.sl.row l)
 have hwrap : ∀ (s':SlV) w',(Builtin.append_ #[t,t] ty #[s.v,.slice (some ⟨r.blk,r.off,none⟩) news.length r.c]).run P w = .ok s'.v w'→Does P ⟨some dd,.call ⟨.builtin .append,#[x,y],#[t,t]⟩,ty,pos,af,none⟩ f w s'.v w':=by
  intro s' w' hrun
  unfold Does
  show (execOp (evF f) _).run P w=_
  unfold execOp
  have hrv:r.v = .slice (some ⟨r.blk,r.off,none⟩) news.length r.c:=by rw [SlV.eq,hp,hr.sl.len]
  simp only [resolve,invoke,builtin,Sem.run_bind,Sem.run_pure,Result.andThen_ok,List.map_toArray,List.map_cons,List.map_nil,hx,hy]
  rw [hrv,hrun]
  rfl
 have fresh : ∀ (old:Nat),(Builtin.append_ #[t,t] ty #[s.v,.slice (some ⟨r.blk,r.off,none⟩) news.length r.c]).run P w = .ok (.slice (some ⟨w.heap.size,0,none⟩) (rows.length + news.length) (grownCap w (rows.length + news.length) old e)) (w.drew.alloc (.cells (rows.flatten.toArray ++ news.flatten.toArray ++ Builtin.zeroCells z.cells (grownCap w (rows.length + news.length) old e - (rows.length + news.length))) e))→wl P rd n dm ops (⟨some dd,.call ⟨.builtin .append,#[x,y],#[t,t]⟩,ty,pos,af,none⟩ :: rest) Q f w:=by
  intro old hr2
  have hge:=grownCap_ge w (rows.length + news.length) old e
  refine zi (v:=(⟨some ⟨w.heap.size,0,none⟩,rows.length + news.length,grownCap w (rows.length + news.length) old e⟩ : SlV).v) (hwrap _ _ (by simp only [SlV.eq] at hr2 ⊢; exact hr2)) hd (h _ _ ⟨.inr ⟨w.heap.size,grownCap w (rows.length + news.length) old e,_,by simp,Nat.zero_le _,heap_alloc_new w.drew _,by simpa using hge,?_,?_⟩,hrow⟩ ⟨rfl,rfl,rfl,by simp,fun b hb _=>heap_alloc_old (w:=w.drew) (h:=hb) ..,zbb w.drew _ (ve.cells _ _)⟩ (fun j hj=>Nat.le_of_eq hj.2.symm))
  ·simp only [Array.size_append,List.size_toArray,size_zeroCells,hzs,hol,hnl,← Nat.add_mul]
   exact Nat.mul_le_mul_right k zcb
  ·simp only [Array.toList_append,List.append_assoc,List.flatten_append,List.length_append]
   rw [← List.append_assoc,Nat.add_mul,← hol,← hnl,← List.length_append]
   exact List.take_left
 cases hsp:s.p with
 | none =>
  have hr0:rows=[]:=by
   cases rows with
   | nil=>rfl
   | cons q rows=>have:=(hs.sl.cells 0 q rfl).1; rw [hsp] at this; cases this
  have hn0:s.n=0:=by rw [hs.sl.len,hr0]; rfl
  have hs0:s.v = .slice none 0 0:=by rw [SlV.eq,hsp,hfull,hn0]
  subst hr0
  have hr2:=run_append_nil (P:=P) w t ty e i z ht.1 hi hz ⟨r.blk,r.off,none⟩ news.length r.c news.flatten (by rw [hnl,hsz]) hnews hpos (by simp only [List.length_nil] at hl1; omega) (by rw [hby]; simp only [List.length_nil] at hl1; rw [← hl1,Nat.zero_add,← hl2] at hm; omega)
  refine fresh 0 ?_
  rw [hs0]
  simpa using hr2
 | some b =>
  have hr2:=run_append_grow (P:=P) w t ty e i z ht.1 hi hz b rows.length s.c rows.flatten (by rw [hsz]; exact hol) (hs.sl.flat hk0 hsp) ⟨r.blk,r.off,none⟩ news.length r.c news.flatten (by rw [hnl,hsz]) hnews (by have:=hs.sl.len; omega) zcb (growslice_fits (by have:=hs.sl.len; omega) (by rw [hby,hl1,hl2]; exact hm))
  refine fresh s.c ?_
  have e1:s.v = .slice (some b) rows.length s.c:=by rw [SlV.eq,hsp,hs.sl.len]
  rw [e1]; exact hr2
end
end Gw
end
section
open Go.RowKit
namespace Gw
def obPost4 (dm:List Nat) (D:Draw) (T:(Nat→Bool)→Fr→World→Prop) (L:Nat→Bool) (i:Nat) (d:Option Tmp) (g f:Fr) (w:World):Post:=fun dm' e f' w'=>e = .normal∧dm'=dm∧D.Le L w w'∧match d with
 | some d => ∃ v,f'=upd f d v∧D.V i v w'∧T (plus L i) (upd g d v) w'
 | none=>f'=f∧(∀ v,D.V i v w')∧T (plus L i) g w'
theorem ob4 {dm:List Nat} {D:Draw} {T:(Nat→Bool)→Fr→World→Prop} {L:Nat→Bool} {i:Nat} {d:Tmp} {g f:Fr} {w w':World} {v:Value} (hL:D.Le L w w') (hV:D.V i v w') (hT:T (plus L i) (upd g d v) w'):obPost4 dm D T L i (some d) g f w dm .normal (upd f d v) w':=⟨rfl,rfl,hL,v,rfl,hV,hT⟩
theorem ob40 {dm:List Nat} {D:Draw} {T:(Nat→Bool)→Fr→World→Prop} {L:Nat→Bool} {i:Nat} {g f:Fr} {w w':World} (hL:D.Le L w w') (hV : ∀ v,D.V i v w') (hT:T (plus L i) g w'):obPost4 dm D T L i none g f w dm .normal f w':=⟨rfl,rfl,hL,rfl,hV,hT⟩
def Owe4 (P:Program) (rd:Option Nat) (n:Nat) (dm:List Nat) (ops:Array Oper) (ds:List Nat) (D:Draw) (T:(Nat→Bool)→Fr→World→Prop) (f:Fr) (i:Nat) (o:Oper):Prop :=
 ∀ (L:Nat→Bool) (g:Fr) (w:World),L i=false→(∀ j,((Region.before ops).getD i 0).testBit j=true→L j=true)→T L g w→givens ops D g w (y3 o) (wl P rd n dm ops [o] (obPost4 dm D T L i o.dst g (mask ds g f) w) (mask ds g f) w)
def Owes4 (P:Program) (rd:Option Nat) (n:Nat) (dm:List Nat) (ops:Array Oper) (ds:List Nat) (D:Draw) (T:(Nat→Bool)→Fr→World→Prop) (f:Fr):List Oper→Nat→Prop
 | [],_=>True
 | o :: l,i=>Owe4 P rd n dm ops ds D T f i o∧Owes4 P rd n dm ops ds D T f l (i + 1)
section
variable {P:Program} {rd:Option Nat} {n m:Nat} {dm:List Nat} {ops:Array Oper} {Q:Post} {f:Fr} {w:World}
theorem owes4_at {ds:List Nat} {D:Draw} {T:(Nat→Bool)→Fr→World→Prop} : ∀ (l:List Oper) (i:Nat),Owes4 P rd n dm ops ds D T f l i → ∀ j o,l[j]? = some o→Owe4 P rd n dm ops ds D T f (i + j) o
 | [],_,_,j,o,hj=>by simp at hj
 | o :: l,i,h,0,o',hj=>by simp at hj; subst hj; exact h.1
 | o :: l,i,h,j + 1,o',hj=>by
  have:=owes4_at l (i + 1) h.2 j o' (by simpa using hj)
  rwa [show i + 1 + j=i + (j + 1) by omega] at this
theorem wc_draw4 {id:Nat} {l:List Oper} (m:Nat) (D:Draw) (T:(Nat→Bool)→Fr→World→Prop) (hm:P.follows .mixedOrders=true) (hB:drawB2 l.toArray m=true)
  (hst : ∀ L i v w w',L i=true→D.Le L w w'→D.V i v w→D.V i v w') (hT : ∀ g,T (fun _=>false) g { w with drawn:=w.drawn + 1 })
  (ho:Owes4 P rd n dm l.toArray ((l.take m).filterMap (·.dst)) D T f (l.take m) 0)
  (hq : ∀ L g w,(∀ j,L j=decide (j < m))→T L g w→allV D g w (l.take m) 0 (wl P rd n dm l.toArray (l.drop m) Q (mask ((l.take m).filterMap (·.dst)) g f) w)):wc P rd n dm (.region id l.toArray true) Q f w:=by
 intro a ha
 refine wpIn_region_any hm ?_
 simp only [drawB2,Bool.and_eq_true,decide_eq_true_eq,List.all_eq_true] at hB
 obtain ⟨⟨⟨hnd,hback⟩,htail⟩,hml⟩ := hB
 simp only [List.size_toArray] at hml
 generalize hds:(l.take m).filterMap (·.dst)=ds at *
 have hb:Back l.toArray:=by
  intro i o hi e he hbd
  have:=hback (o,i) (by
   rw [List.mem_zipIdx_iff_getElem?]
   simpa using hi) e (by simpa using he)
  simp only [hbd,Bool.not_true,Bool.false_or,decide_eq_true_eq] at this
  exact this
 have hord : ∀ k,m ≤ k→k < l.toArray.size → ∀ listed:Array Bool,listed.size=l.toArray.size→k ∈ Region.ready .any l.toArray listed→Closed l.toArray listed → ∀ j,j < k→listed.getD j false=true:=by
  intro k hmk hk listed hs hr hc j hj
  have hkl:k < l.length:=by simpa using hk
  have h1:=htail (l[k],k) (by
   rw [List.mem_zipIdx_iff_getElem?]
   simp)
  simp only [Bool.or_eq_true,decide_eq_true_eq] at h1
  rcases h1 with h1 | h1
  ·omega
  ·rw [List.all_eq_true] at h1
   have h2:=h1 j (by simpa using hj)
   rw [mem_ready] at hr
   obtain ⟨_,o,ho',hall⟩ := hr
   refine uw hc [] #[] rfl zcc zcc l.toArray.toList zcc k hk j ?_ ?_
   ·unfold Region.before at h2
    rw [← Array.foldl_toList] at h2
    exact h2
   ·rw [ho']
    simpa using hall
 have hmd : ∀ j o,(l.take m)[j]? = some o→j < m∧l.toArray[j]? = some o ∧ ∀ d,o.dst=some d→d ∈ ds:=by
  intro j o hj
  have hjm:j < m:=by
   have:=(List.getElem?_eq_some_iff.1 hj).1
   simp at this; omega
  have hjo:l[j]? = some o:=by rw [List.getElem?_take] at hj; simpa [hjm] using hj
  exact ⟨hjm,by simpa using hjo,fun d hd=>by rw [← hds]; exact List.mem_filterMap.2 ⟨o,List.mem_of_getElem? hj,hd⟩⟩
 have hinj : ∀ (i j:Nat) (oi oj:Oper) (d:Nat),(l.take m)[i]? = some oi→(l.take m)[j]? = some oj→oi.dst=some d→oj.dst=some d→i=j:=by
  have hgen : ∀ (L:List Oper),(L.filterMap (·.dst)).Nodup → ∀ (i j:Nat) (oi oj:Oper) (d:Nat),L[i]? = some oi→L[j]? = some oj→oi.dst=some d→oj.dst=some d→i=j:=by
   intro L
   induction L with
   | nil=>intro _ i j oi oj d h; simp at h
   | cons o L ih =>
    intro hn i j oi oj d hi hj hdi hdj
    have hn':(L.filterMap (·.dst)).Nodup:=by
     rw [List.filterMap_cons] at hn
     split at hn
     ·exact hn
     ·exact (List.nodup_cons.1 hn).2
    have hno : ∀ (k:Nat) (ok:Oper) (dd:Nat),L[k]? = some ok→o.dst=some dd→ok.dst ≠ some dd:=by
     intro k ok dd hk hod hkd
     rw [List.filterMap_cons,hod] at hn
     exact (List.nodup_cons.1 hn).1 (List.mem_filterMap.2 ⟨ok,List.mem_of_getElem? hk,hkd⟩)
    cases i with
    | zero =>
     cases j with
     | zero=>rfl
     | succ j=>simp at hi; subst hi; exact absurd hdj (hno j oj d (by simpa using hj) hdi)
    | succ i =>
     cases j with
     | zero=>simp at hj; subst hj; exact absurd hdi (hno i oi d (by simpa using hi) hdj)
     | succ j=>rw [ih hn' i j oi oj d (by simpa using hi) (by simpa using hj) hdi hdj]
  exact hgen _ (by rw [hds]; exact hnd)
 have main : ∀ (fuel:Nat) (listed:Array Bool) (g:Fr) (a:Act) (w:World),listed.size=l.length→fuel + cnt listed l.length=l.length→Closed l.toArray listed→(∀ j,m ≤ j→j < l.length→listed.getD j false=false) →
   Is n dm a (mask ds g f)→T (fun j=>listed.getD j false) g w→(∀ j o,(l.take m)[j]? = some o→listed.getD j false=true→overV D g w j o.dst)→wpAnyIn (fen rd) 0 P .any l.toArray (lift n Q) fuel listed a w:=by
  intro fuel
  induction fuel with
  | zero =>
   intro listed g a w hs hcnt hc hno ha hT hV
   have hall:=zbR listed l.length zcb
   have hm':m=l.length:=by
    by_cases h:m < l.length
    ·have:=hno m (Nat.le_refl _) h
     rw [hall m h] at this
     cases this
    ·omega
   have hfin:=uh (l.take m) 0 (fun j o hj=>by rw [Nat.zero_add]; exact (hV j o hj (hall j (by have:=(hmd j o hj).1; omega))).get) (hq _ g w (fun j=>by
    by_cases hj:j < l.length
    ·rw [hall j hj,decide_eq_true zcb]
    ·rw [uk listed j zcb,decide_eq_false zcb]) hT)
   rw [List.drop_eq_nil_of_le zcb] at hfin
   refine ⟨?_,?_⟩
   ·refine List.eq_nil_iff_forall_not_mem.2 fun i hi=>?_
    obtain ⟨h1,h2⟩ := ul (ops:=l.toArray) (by simpa using hs) hi
    rw [hall i (by simpa using h1)] at h2
    cases h2
   ·exact hfin a ha
  | succ fuel ih =>
   intro listed g a w hs hcnt hc hno ha hT hV
   have hs':listed.size=l.toArray.size:=by simpa using hs
   refine ⟨fun hr=>?_,fun i hi=>?_⟩
   ·have hall:=ready_nil hb hs' hr
    have:=kg listed l.length (fun j hj=>hall j (by simpa using hj))
    omega
   ·obtain ⟨h1,h2⟩ := ul hs' hi
    have h1':i < l.length:=by simpa using h1
    by_cases him:i < m
    ·have hio:(l.take m)[i]? = some l[i]:=by
      rw [List.getElem?_take,if_pos him]
      exact List.getElem?_eq_getElem h1'
     obtain ⟨_,hio',hdds⟩ := hmd i _ hio
     have howe:=owes4_at _ 0 ho i _ hio (fun j=>listed.getD j false) g w (by rw [Nat.zero_add]; exact h2) (fun j hj=>by rw [Nat.zero_add] at hj; exact ord_of h1' hj hi hc) hT
     rw [Nat.zero_add] at howe
     have hready:=hi
     rw [mem_ready] at hready
     obtain ⟨_,o,hoo,hall⟩ := hready
     rw [hio'] at hoo
     cases hoo
     have hwl:=jY (ops:=l.toArray) (y3 l[i]) (fun j hj=>by
      unfold y3 at hj
      obtain ⟨e,he,rfl⟩ := List.mem_map.1 hj
      obtain ⟨he1,he2⟩ := List.mem_filter.1 he
      have hbd:Region.binds .any e=true:=by
       unfold Region.binds
       cases hg:e.ground <;> rw [hg] at he2 <;> simp at he2 ⊢
      have hlt:=hb i _ hio' e (by simpa using he1) hbd
      have hlst:=hall e (by simpa using he1) hbd
      have hjm:e.on < m:=by omega
      have hjo:(l.take m)[e.on]? = some l[e.on]:=by
       rw [List.getElem?_take,if_pos hjm]
       exact List.getElem?_eq_getElem zcb
      have:=(hV e.on _ hjo hlst).get
      unfold yO
      obtain ⟨_,hj2,_⟩ := hmd _ _ hjo
      rw [hj2]
      simp only [Option.bind_some]
      exact this) howe
     refine zbi hio' hwl (fun dm e f' w' q=>q.1) ?_ ha
     rintro dm' a' f' w' ha' ⟨_,rfl,hL',hV'⟩
     cases hd:l[i].dst with
     | none =>
      rw [hd] at hV'
      obtain ⟨rfl,hV',hT'⟩ := hV'
      rw [zbf listed i zcb] at hT'
      refine ih _ g a' w' (by simpa using hs) ?_ (hc.set hs' hi) ?_ ha' hT' ?_
      ·rw [zaD listed i zcb h2,if_pos h1']; omega
      ·intro j hmj hjl
       rw [yN _ _ _ zcb,if_neg zcb]
       exact hno j hmj hjl
      ·intro j oj hj hlj
       rw [yN _ _ _ zcb] at hlj
       by_cases hij:i=j
       ·subst hij
        rw [hio] at hj
        cases hj
        rw [hd]
        exact hV'
       ·rw [if_neg hij] at hlj
        have hvj:=hV j oj hj hlj
        cases hdj:oj.dst with
        | none=>rw [hdj] at hvj; exact fun v=>hst _ j _ _ _ hlj hL' (hvj v)
        | some dj=>rw [hdj] at hvj; exact hst _ j _ _ _ hlj hL' hvj
     | some d =>
     rw [hd] at hV'
     obtain ⟨v,rfl,hV',hT'⟩ := hV'
     rw [zbf listed i zcb] at hT'
     have hdds:=hdds d hd
     have hmask:upd (mask ds g f) d v=mask ds (upd g d v) f:=by
      funext k
      by_cases hk:k=d
      ·subst hk
       rw [upd_same,xW hdds,upd_same]
      ·rw [zF _ _ _ _ hk]
       by_cases hkd:k ∈ ds
       ·rw [xW hkd,xW hkd,zF _ _ _ _ hk]
       ·rw [xJ hkd,xJ hkd]
     rw [hmask] at ha'
     refine ih _ (upd g d v) a' w' (by simpa using hs) ?_ (hc.set hs' hi) ?_ ha' hT' ?_
     ·rw [zaD listed i zcb h2,if_pos h1']; omega
     ·intro j hmj hjl
      rw [yN _ _ _ zcb,if_neg zcb]
      exact hno j hmj hjl
     ·intro j oj hj hlj
      rw [yN _ _ _ zcb] at hlj
      by_cases hij:i=j
      ·subst hij
       rw [hio] at hj
       cases hj
       rw [hd]
       show D.V i (upd g d v d) _
       rw [upd_same]
       exact hV'
      ·rw [if_neg hij] at hlj
       have hvj:=hV j oj hj hlj
       cases hdj:oj.dst with
       | none=>rw [hdj] at hvj; exact fun v=>hst _ j _ _ _ hlj hL' (hvj v)
       | some dj =>
        rw [hdj] at hvj
        have hne:dj ≠ d:=fun e=>hij (hinj i j _ oj d hio hj hd (by rw [hdj,e]))
        show D.V j (upd g d v dj) _
        rw [zF _ _ _ _ hne]
        exact hst _ j _ _ _ hlj hL' hvj
    ·have hallj:=hord i zcb h1 listed hs' hi hc
     have him':i=m:=by
      by_cases h:m < i
      ·have:=hno m (Nat.le_refl _) zcb
       rw [hallj m h] at this
       cases this
      ·omega
     subst him'
     have hfin:=uh (l.take i) 0 (fun j o hj=>by rw [Nat.zero_add]; exact (hV j o hj (hallj j (by have:=(hmd j o hj).1; omega))).get) (hq _ g w (fun j=>by
      by_cases hj:j < i
      ·rw [hallj j hj,decide_eq_true hj]
      ·rw [decide_eq_false hj]
       by_cases hjl:j < l.length
       ·exact hno j zcb hjl
       ·exact uk listed j zcb) hT)
     have hfa:=hfin a ha
     have hcn:cnt listed l.length=i:=by
      have hz : ∀ k,i ≤ k→k ≤ l.length→cnt listed k=i:=by
       intro k
       induction k with
       | zero=>intro h _; rw [show i=0 by omega]; rfl
       | succ k ihk =>
        intro h1 h2
        by_cases hk:i ≤ k
        ·rw [kh,ihk hk zcb,hno k hk zcb]; simp
        ·have:k + 1=i:=by omega
         rw [this]
         exact kg listed i hallj
      exact hz _ zcb (Nat.le_refl _)
     have htl:=any_tail (rd:=rd) (P:=P) (m:=i) (R:=lift n Q) hb hord (fuel + 1) i listed a w (Nat.le_refl _) hs' hc (fun j hj=>⟨(fun h=>by
      refine Nat.lt_of_not_le fun hij=>?_
      rw [hno j hij (by simpa using hj)] at h
      cases h),hallj j⟩) (by simp; omega) hfa
     exact htl.2 i hi
 have h0:Is n dm a (mask ds f f):=by
  have:mask ds f f=f:=by funext k; unfold mask; cases ds.elem k <;> rfl
  rw [this]; exact ha
 have hz:cnt (Array.replicate l.toArray.size false) l.length=0:=by
  unfold cnt
  rw [List.length_eq_zero_iff]
  refine List.filter_eq_nil_iff.2 fun j hj=>?_
  rw [xR]
  simp
 refine main _ _ f a _ zcc (by rw [hz]; simp) ?_ (by intro j _ _; rw [xR]) h0 (by rw [show (fun j=>(Array.replicate l.toArray.size false).getD j false)=fun _=>false from funext fun j=>xR _ j]; exact hT _) ?_
 ·intro j o _ h; rw [xR] at h; cases h
 ·intro j o _ h; rw [xR] at h; cases h
end
def TT (w0:World) (ia ist da t:Nat) (zc fc:List Value) (L:Nat→Bool) (g:Fr) (v:World):Prop :=
 Ext w0 v∧(L ia=true → ∃ b,g da = .pointer (some ⟨b,0,none⟩)∧w0.heap.size ≤ b∧Blk v b t (bif L ist then fc else zc))∧(L ist=true→L ia=true)
section
variable {w0:World} {ia ist da t d i:Nat} {zc fc:List Value} {L:Nat→Bool} {g:Fr} {v v':World} {x:Value}
theorem zp {j:Nat} (h:Nat.beq j i=false):plus L i j=L j:=by simp only [plus,h,Bool.false_or]
theorem TT.init {w:World} (g:Fr) (h:Ext w0 w):TT w0 ia ist da t zc fc (fun _=>false) g w:=⟨h,fun h=>(by cases h),fun h=>(by cases h)⟩
theorem TT.keep (hT:TT w0 ia ist da t zc fc L g v) (hx:Ext v v') (h1:Nat.beq ia i=false) (h2:Nat.beq ist i=false) (h3:da ≠ d):TT w0 ia ist da t zc fc (plus L i) (upd g d x) v':=by
 obtain ⟨a,b,c⟩ := hT
 refine ⟨a.thenExt hx,fun h=>?_,fun h=>?_⟩
 ·rw [zp h1] at h
  obtain ⟨q,e,hl,hb⟩ := b h
  refine ⟨q,by rw [zF _ _ _ _ h3]; exact e,hl,?_⟩
  rw [zp h2]; exact hb.ext hx
 ·rw [zp h1]; rw [zp h2] at h; exact c h
theorem TT.made {b:Nat} (hT:TT w0 ia ist da t zc fc L g v) (hL:L ia=false) (h2:Nat.beq ist ia=false) (hn:New v v' b t zc):TT w0 ia ist da t zc fc (plus L ia) (upd g da (.pointer (some ⟨b,0,none⟩))) v':=by
 obtain ⟨a,_,c⟩ := hT
 have hs:L ist=false:=by cases h:L ist with | false=>rfl | true=>rw [c h] at hL; cases hL
 refine ⟨a.thenExt hn.ext,fun _=>⟨b,upd_same _ _ _,by have:=hn.at_; have:=a.size; omega,?_⟩,fun h=>by simp [plus]⟩
 rw [zp h2,hs]; exact hn.blk
theorem TT.put {b:Nat} (hT:TT w0 ia ist da t zc fc L g v) (hl:w0.heap.size ≤ b) (hg:g da = .pointer (some ⟨b,0,none⟩)) (hi:L ia=true) (hb:Blk v' b t fc) (hc:Chg (· = b) v v'):TT w0 ia ist da t zc fc (plus L ist) g v':=by
 obtain ⟨a,_,_⟩ := hT
 have h5:plus L ist ist=true:=by simp [plus]
 have h6:plus L ist ia=true:=by simp [plus,hi]
 refine ⟨a.thenChg hc (fun i hi e=>absurd hi (by have e:i=b:=e; omega)),fun _=>⟨b,hg,hl,by rw [h5]; exact hb⟩,fun _=>h6⟩
end
end Gw
end
section
open Go.RowKit
namespace Gw
def Owe5 (P:Program) (rd:Option Nat) (n:Nat) (dm:List Nat) (ops:Array Oper) (ds:List Nat) (D:Draw) (T:(Nat→Bool)→Fr→World→Prop) (f:Fr) (i:Nat) (o:Oper):Prop :=
 ∀ (L:Nat→Bool) (g:Fr) (w:World),L i=false→(∀ j,((Region.before ops).getD i 0).testBit j=true→L j=true)→(∀ j q,L j=true→((Region.before ops).getD j 0).testBit q=true→L q=true)→T L g w→givens ops D g w (y3 o) (wl P rd n dm ops [o] (obPost4 dm D T L i o.dst g (mask ds g f) w) (mask ds g f) w)
def Owes5 (P:Program) (rd:Option Nat) (n:Nat) (dm:List Nat) (ops:Array Oper) (ds:List Nat) (D:Draw) (T:(Nat→Bool)→Fr→World→Prop) (f:Fr):List Oper→Nat→Prop
 | [],_=>True
 | o :: l,i=>Owe5 P rd n dm ops ds D T f i o∧Owes5 P rd n dm ops ds D T f l (i + 1)
section
variable {P:Program} {rd:Option Nat} {n m:Nat} {dm:List Nat} {ops:Array Oper} {Q:Post} {f:Fr} {w:World}
theorem clos_of {l:List Oper} {j q:Nat} {listed:Array Bool} (hc:Closed l.toArray listed) (hj:listed.getD j false=true) (hq:((Region.before l.toArray).getD j 0).testBit q=true):listed.getD q false=true:=by
 by_cases hl:j < l.length
 ·have ho:l.toArray[j]? = some l[j]:=by simp [hl]
  refine uw hc [] #[] rfl zcc zcc l.toArray.toList zcc j (by simpa using hl) q ?_ ?_
  ·unfold Region.before at hq
   rw [← Array.foldl_toList] at hq
   exact hq
  ·rw [ho]
   intro e he hb
   exact hc j _ ho hj e (by simpa using he) hb
 ·have h0:(Region.before l.toArray).getD j 0=0:=by
   have hs:(Region.before l.toArray).size=l.length:=by
    unfold Region.before
    rw [← Array.foldl_toList]
    have:=before_foldl l #[]
    simpa using this
   rw [Array.getD_eq_getD_getElem?,Array.getElem?_eq_none zcb]; rfl
  rw [h0] at hq; simp at hq
theorem owes5_at {ds:List Nat} {D:Draw} {T:(Nat→Bool)→Fr→World→Prop} : ∀ (l:List Oper) (i:Nat),Owes5 P rd n dm ops ds D T f l i → ∀ j o,l[j]? = some o→Owe5 P rd n dm ops ds D T f (i + j) o
 | [],_,_,j,o,hj=>by simp at hj
 | o :: l,i,h,0,o',hj=>by simp at hj; subst hj; exact h.1
 | o :: l,i,h,j + 1,o',hj=>by
  have:=owes5_at l (i + 1) h.2 j o' (by simpa using hj)
  rwa [show i + 1 + j=i + (j + 1) by omega] at this
theorem un {id:Nat} {l:List Oper} (m:Nat) (D:Draw) (T:(Nat→Bool)→Fr→World→Prop) (hm:P.follows .mixedOrders=true) (hB:drawB2 l.toArray m=true)
  (hst : ∀ L i v w w',L i=true→D.Le L w w'→D.V i v w→D.V i v w') (hT : ∀ g,T (fun _=>false) g { w with drawn:=w.drawn + 1 })
  (ho:Owes5 P rd n dm l.toArray ((l.take m).filterMap (·.dst)) D T f (l.take m) 0)
  (hq : ∀ L g w,(∀ j,L j=decide (j < m))→T L g w→allV D g w (l.take m) 0 (wl P rd n dm l.toArray (l.drop m) Q (mask ((l.take m).filterMap (·.dst)) g f) w)):wc P rd n dm (.region id l.toArray true) Q f w:=by
 intro a ha
 refine wpIn_region_any hm ?_
 simp only [drawB2,Bool.and_eq_true,decide_eq_true_eq,List.all_eq_true] at hB
 obtain ⟨⟨⟨hnd,hback⟩,htail⟩,hml⟩ := hB
 simp only [List.size_toArray] at hml
 generalize hds:(l.take m).filterMap (·.dst)=ds at *
 have hb:Back l.toArray:=by
  intro i o hi e he hbd
  have:=hback (o,i) (by
   rw [List.mem_zipIdx_iff_getElem?]
   simpa using hi) e (by simpa using he)
  simp only [hbd,Bool.not_true,Bool.false_or,decide_eq_true_eq] at this
  exact this
 have hord : ∀ k,m ≤ k→k < l.toArray.size → ∀ listed:Array Bool,listed.size=l.toArray.size→k ∈ Region.ready .any l.toArray listed→Closed l.toArray listed → ∀ j,j < k→listed.getD j false=true:=by
  intro k hmk hk listed hs hr hc j hj
  have hkl:k < l.length:=by simpa using hk
  have h1:=htail (l[k],k) (by
   rw [List.mem_zipIdx_iff_getElem?]
   simp)
  simp only [Bool.or_eq_true,decide_eq_true_eq] at h1
  rcases h1 with h1 | h1
  ·omega
  ·rw [List.all_eq_true] at h1
   have h2:=h1 j (by simpa using hj)
   rw [mem_ready] at hr
   obtain ⟨_,o,ho',hall⟩ := hr
   refine uw hc [] #[] rfl zcc zcc l.toArray.toList zcc k hk j ?_ ?_
   ·unfold Region.before at h2
    rw [← Array.foldl_toList] at h2
    exact h2
   ·rw [ho']
    simpa using hall
 have hmd : ∀ j o,(l.take m)[j]? = some o→j < m∧l.toArray[j]? = some o ∧ ∀ d,o.dst=some d→d ∈ ds:=by
  intro j o hj
  have hjm:j < m:=by
   have:=(List.getElem?_eq_some_iff.1 hj).1
   simp at this; omega
  have hjo:l[j]? = some o:=by rw [List.getElem?_take] at hj; simpa [hjm] using hj
  exact ⟨hjm,by simpa using hjo,fun d hd=>by rw [← hds]; exact List.mem_filterMap.2 ⟨o,List.mem_of_getElem? hj,hd⟩⟩
 have hinj : ∀ (i j:Nat) (oi oj:Oper) (d:Nat),(l.take m)[i]? = some oi→(l.take m)[j]? = some oj→oi.dst=some d→oj.dst=some d→i=j:=by
  have hgen : ∀ (L:List Oper),(L.filterMap (·.dst)).Nodup → ∀ (i j:Nat) (oi oj:Oper) (d:Nat),L[i]? = some oi→L[j]? = some oj→oi.dst=some d→oj.dst=some d→i=j:=by
   intro L
   induction L with
   | nil=>intro _ i j oi oj d h; simp at h
   | cons o L ih =>
    intro hn i j oi oj d hi hj hdi hdj
    have hn':(L.filterMap (·.dst)).Nodup:=by
     rw [List.filterMap_cons] at hn
     split at hn
     ·exact hn
     ·exact (List.nodup_cons.1 hn).2
    have hno : ∀ (k:Nat) (ok:Oper) (dd:Nat),L[k]? = some ok→o.dst=some dd→ok.dst ≠ some dd:=by
     intro k ok dd hk hod hkd
     rw [List.filterMap_cons,hod] at hn
     exact (List.nodup_cons.1 hn).1 (List.mem_filterMap.2 ⟨ok,List.mem_of_getElem? hk,hkd⟩)
    cases i with
    | zero =>
     cases j with
     | zero=>rfl
     | succ j=>simp at hi; subst hi; exact absurd hdj (hno j oj d (by simpa using hj) hdi)
    | succ i =>
     cases j with
     | zero=>simp at hj; subst hj; exact absurd hdi (hno i oi d (by simpa using hi) hdj)
     | succ j=>rw [ih hn' i j oi oj d (by simpa using hi) (by simpa using hj) hdi hdj]
  exact hgen _ (by rw [hds]; exact hnd)
 have main : ∀ (fuel:Nat) (listed:Array Bool) (g:Fr) (a:Act) (w:World),listed.size=l.length→fuel + cnt listed l.length=l.length→Closed l.toArray listed→(∀ j,m ≤ j→j < l.length→listed.getD j false=false) →
   Is n dm a (mask ds g f)→T (fun j=>listed.getD j false) g w→(∀ j o,(l.take m)[j]? = some o→listed.getD j false=true→overV D g w j o.dst)→wpAnyIn (fen rd) 0 P .any l.toArray (lift n Q) fuel listed a w:=by
  intro fuel
  induction fuel with
  | zero =>
   intro listed g a w hs hcnt hc hno ha hT hV
   have hall:=zbR listed l.length zcb
   have hm':m=l.length:=by
    by_cases h:m < l.length
    ·have:=hno m (Nat.le_refl _) h
     rw [hall m h] at this
     cases this
    ·omega
   have hfin:=uh (l.take m) 0 (fun j o hj=>by rw [Nat.zero_add]; exact (hV j o hj (hall j (by have:=(hmd j o hj).1; omega))).get) (hq _ g w (fun j=>by
    by_cases hj:j < l.length
    ·rw [hall j hj,decide_eq_true zcb]
    ·rw [uk listed j zcb,decide_eq_false zcb]) hT)
   rw [List.drop_eq_nil_of_le zcb] at hfin
   refine ⟨?_,?_⟩
   ·refine List.eq_nil_iff_forall_not_mem.2 fun i hi=>?_
    obtain ⟨h1,h2⟩ := ul (ops:=l.toArray) (by simpa using hs) hi
    rw [hall i (by simpa using h1)] at h2
    cases h2
   ·exact hfin a ha
  | succ fuel ih =>
   intro listed g a w hs hcnt hc hno ha hT hV
   have hs':listed.size=l.toArray.size:=by simpa using hs
   refine ⟨fun hr=>?_,fun i hi=>?_⟩
   ·have hall:=ready_nil hb hs' hr
    have:=kg listed l.length (fun j hj=>hall j (by simpa using hj))
    omega
   ·obtain ⟨h1,h2⟩ := ul hs' hi
    have h1':i < l.length:=by simpa using h1
    by_cases him:i < m
    ·have hio:(l.take m)[i]? = some l[i]:=by
      rw [List.getElem?_take,if_pos him]
      exact List.getElem?_eq_getElem h1'
     obtain ⟨_,hio',hdds⟩ := hmd i _ hio
     have howe:=owes5_at _ 0 ho i _ hio (fun j=>listed.getD j false) g w (by rw [Nat.zero_add]; exact h2) (fun j hj=>by rw [Nat.zero_add] at hj; exact ord_of h1' hj hi hc) (fun j q hj hq=>clos_of hc hj hq) hT
     rw [Nat.zero_add] at howe
     have hready:=hi
     rw [mem_ready] at hready
     obtain ⟨_,o,hoo,hall⟩ := hready
     rw [hio'] at hoo
     cases hoo
     have hwl:=jY (ops:=l.toArray) (y3 l[i]) (fun j hj=>by
      unfold y3 at hj
      obtain ⟨e,he,rfl⟩ := List.mem_map.1 hj
      obtain ⟨he1,he2⟩ := List.mem_filter.1 he
      have hbd:Region.binds .any e=true:=by
       unfold Region.binds
       cases hg:e.ground <;> rw [hg] at he2 <;> simp at he2 ⊢
      have hlt:=hb i _ hio' e (by simpa using he1) hbd
      have hlst:=hall e (by simpa using he1) hbd
      have hjm:e.on < m:=by omega
      have hjo:(l.take m)[e.on]? = some l[e.on]:=by
       rw [List.getElem?_take,if_pos hjm]
       exact List.getElem?_eq_getElem zcb
      have:=(hV e.on _ hjo hlst).get
      unfold yO
      obtain ⟨_,hj2,_⟩ := hmd _ _ hjo
      rw [hj2]
      simp only [Option.bind_some]
      exact this) howe
     refine zbi hio' hwl (fun dm e f' w' q=>q.1) ?_ ha
     rintro dm' a' f' w' ha' ⟨_,rfl,hL',hV'⟩
     cases hd:l[i].dst with
     | none =>
      rw [hd] at hV'
      obtain ⟨rfl,hV',hT'⟩ := hV'
      rw [zbf listed i zcb] at hT'
      refine ih _ g a' w' (by simpa using hs) ?_ (hc.set hs' hi) ?_ ha' hT' ?_
      ·rw [zaD listed i zcb h2,if_pos h1']; omega
      ·intro j hmj hjl
       rw [yN _ _ _ zcb,if_neg zcb]
       exact hno j hmj hjl
      ·intro j oj hj hlj
       rw [yN _ _ _ zcb] at hlj
       by_cases hij:i=j
       ·subst hij
        rw [hio] at hj
        cases hj
        rw [hd]
        exact hV'
       ·rw [if_neg hij] at hlj
        have hvj:=hV j oj hj hlj
        cases hdj:oj.dst with
        | none=>rw [hdj] at hvj; exact fun v=>hst _ j _ _ _ hlj hL' (hvj v)
        | some dj=>rw [hdj] at hvj; exact hst _ j _ _ _ hlj hL' hvj
     | some d =>
     rw [hd] at hV'
     obtain ⟨v,rfl,hV',hT'⟩ := hV'
     rw [zbf listed i zcb] at hT'
     have hdds:=hdds d hd
     have hmask:upd (mask ds g f) d v=mask ds (upd g d v) f:=by
      funext k
      by_cases hk:k=d
      ·subst hk
       rw [upd_same,xW hdds,upd_same]
      ·rw [zF _ _ _ _ hk]
       by_cases hkd:k ∈ ds
       ·rw [xW hkd,xW hkd,zF _ _ _ _ hk]
       ·rw [xJ hkd,xJ hkd]
     rw [hmask] at ha'
     refine ih _ (upd g d v) a' w' (by simpa using hs) ?_ (hc.set hs' hi) ?_ ha' hT' ?_
     ·rw [zaD listed i zcb h2,if_pos h1']; omega
     ·intro j hmj hjl
      rw [yN _ _ _ zcb,if_neg zcb]
      exact hno j hmj hjl
     ·intro j oj hj hlj
      rw [yN _ _ _ zcb] at hlj
      by_cases hij:i=j
      ·subst hij
       rw [hio] at hj
       cases hj
       rw [hd]
       show D.V i (upd g d v d) _
       rw [upd_same]
       exact hV'
      ·rw [if_neg hij] at hlj
       have hvj:=hV j oj hj hlj
       cases hdj:oj.dst with
       | none=>rw [hdj] at hvj; exact fun v=>hst _ j _ _ _ hlj hL' (hvj v)
       | some dj =>
        rw [hdj] at hvj
        have hne:dj ≠ d:=fun e=>hij (hinj i j _ oj d hio hj hd (by rw [hdj,e]))
        show D.V j (upd g d v dj) _
        rw [zF _ _ _ _ hne]
        exact hst _ j _ _ _ hlj hL' hvj
    ·have hallj:=hord i zcb h1 listed hs' hi hc
     have him':i=m:=by
      by_cases h:m < i
      ·have:=hno m (Nat.le_refl _) zcb
       rw [hallj m h] at this
       cases this
      ·omega
     subst him'
     have hfin:=uh (l.take i) 0 (fun j o hj=>by rw [Nat.zero_add]; exact (hV j o hj (hallj j (by have:=(hmd j o hj).1; omega))).get) (hq _ g w (fun j=>by
      by_cases hj:j < i
      ·rw [hallj j hj,decide_eq_true hj]
      ·rw [decide_eq_false hj]
       by_cases hjl:j < l.length
       ·exact hno j zcb hjl
       ·exact uk listed j zcb) hT)
     have hfa:=hfin a ha
     have hcn:cnt listed l.length=i:=by
      have hz : ∀ k,i ≤ k→k ≤ l.length→cnt listed k=i:=by
       intro k
       induction k with
       | zero=>intro h _; rw [show i=0 by omega]; rfl
       | succ k ihk =>
        intro h1 h2
        by_cases hk:i ≤ k
        ·rw [kh,ihk hk zcb,hno k hk zcb]; simp
        ·have:k + 1=i:=by omega
         rw [this]
         exact kg listed i hallj
      exact hz _ zcb (Nat.le_refl _)
     have htl:=any_tail (rd:=rd) (P:=P) (m:=i) (R:=lift n Q) hb hord (fuel + 1) i listed a w (Nat.le_refl _) hs' hc (fun j hj=>⟨(fun h=>by
      refine Nat.lt_of_not_le fun hij=>?_
      rw [hno j hij (by simpa using hj)] at h
      cases h),hallj j⟩) (by simp; omega) hfa
     exact htl.2 i hi
 have h0:Is n dm a (mask ds f f):=by
  have:mask ds f f=f:=by funext k; unfold mask; cases ds.elem k <;> rfl
  rw [this]; exact ha
 have hz:cnt (Array.replicate l.toArray.size false) l.length=0:=by
  unfold cnt
  rw [List.length_eq_zero_iff]
  refine List.filter_eq_nil_iff.2 fun j hj=>?_
  rw [xR]
  simp
 refine main _ _ f a _ zcc (by rw [hz]; simp) ?_ (by intro j _ _; rw [xR]) h0 (by rw [show (fun j=>(Array.replicate l.toArray.size false).getD j false)=fun _=>false from funext fun j=>xR _ j]; exact hT _) ?_
 ·intro j o _ h; rw [xR] at h; cases h
 ·intro j o _ h; rw [xR] at h; cases h
theorem y1 {L:Nat→Bool} {i:Nat}:plus L i i=true:=by simp [plus]
end
end Gw
end
section
open Gw Go.RowKit
def oCl (b o:Nat) (l:List Value):OA where
 holds:=fun w F=>j0 w b o l∧b < w.heap.size ∧ ∀ i,F i↔i=b
 loc:=fun h hc hs=>⟨j0.chg h.1 hc (hs _ ((h.2.2 _).2 rfl)),Nat.lt_of_lt_of_le h.2.1 hc.size,h.2.2⟩
 lt:=fun h i hi=>by rw [(h.2.2 i).1 hi]; exact h.2.1
section
variable {A:Nat→Prop} {N:Oth} {w0 w:World} {L Z:List OA}
theorem Gw.St.cl (h:St A N w0 w L Z) (k:Nat) {b o:Nat} {l:List Value} (e:Z[k]? = some (oCl b o l):=by rfl):j0 w b o l:=(h.frz k e).elim fun _ q=>q.1
theorem Gw.St.viewTermC (h:St A N w0 w L Z) (k:Nat) {s:SlV} {l:List PTerm} {i:Int} (hi:0 ≤ i∧i < l.length) (e:Z[k]? = some (zn s l):=by rfl) :
  ∃ n:SlV,St A N w0 w L (oCl s.blk (s.off + Int.toNat i * 5) (Term.C ⟨(at_ PTerm.z l i).kind,(at_ PTerm.z l i).name,(at_ PTerm.z l i).other,(at_ PTerm.z l i).form,n⟩) :: zn n (at_ PTerm.z l i).sub :: Z):=by
 obtain ⟨n,hc,S⟩ := h.viewTerm k hi e
 refine ⟨n,S.part (k + 1) (a:=zn s l) (b:=oCl s.blk (s.off + Int.toNat i * 5) (Term.C ⟨(at_ PTerm.z l i).kind,(at_ PTerm.z l i).name,(at_ PTerm.z l i).other,(at_ PTerm.z l i).form,n⟩)) (fun F hF=>⟨fun j=>j=s.blk,⟨hc,?_,fun _=>Iff.rfl⟩,fun j hj=>?_⟩) (by simpa using e)⟩
 ·exact World.block_lt_of_cell? (a:=⟨_,_,none⟩) w (hc 0 (.int .i64 (at_ PTerm.z l i).kind) rfl)
 ·obtain ⟨⟨d,ms⟩,G,H,g,hh,q⟩ := hF
  have hl:=zbP hh
  rw [hj]
  refine (q _).2 (.inl ((g.2 _).2 ⟨fun e0=>?_,rfl⟩))
  have e0':ms=[]:=e0
  rw [e0'] at hl
  simp at hl
  omega
end
end
section
open Gw Go.RowKit
structure PMaker where
 t:Tb
 l:List Ln
 bad:Int
structure PPattern where
 t:Tb
 seen:List (Int × Int)
structure PRMaker where
 t:Tb
 l:List Ln
 bad:Int
abbrev oMB (m:Nat) (l:List (Int × Int)):OA:=oM m (Value.int .u8) (Value.int .i64) l
abbrev oMI (m:Nat) (l:List (Int × Int)):OA:=oM m (Value.int .i64) (Value.int .i64) l
def oK (a ta:Option Addr) (x:PMaker):OA:=OA.ex fun (q:Nat × SlV)=>(OA.pure (a=some ⟨q.1,0,none⟩)).star ((oB q.1 xv (Maker.C ⟨ta,q.2,x.bad⟩)).star ((oT ta x.t).star (oS T_Ln 4 Ln.C q.2 x.l)))
def oPa (a ta:Option Addr) (x:PPattern):OA:=OA.ex fun (q:Nat × Nat)=>(OA.pure (a=some ⟨q.1,0,none⟩)).star ((oB q.1 zaH (Pattern.C ⟨ta,some q.2⟩)).star ((oT ta x.t).star (oMB q.2 x.seen)))
section
variable {A:Nat→Prop} {N:Oth} {w0 w w':World} {L Z:List OA}
theorem Gw.St.open_oK (h:St A N w0 w L Z) (k:Nat) {a ta:Option Addr} {x:PMaker} {L':List OA} (e:L[k]? = some (oK a ta x):=by rfl) (e':L.eraseIdx k=L':=by rfl) :
  ∃ p ss,a=some ⟨p,0,none⟩ ∧ St A N w0 w (oB p xv (Maker.C ⟨ta,ss,x.bad⟩) :: oT ta x.t :: oS T_Ln 4 Ln.C ss x.l :: L') Z:=by
 subst e'
 obtain ⟨⟨p,ss⟩,h1⟩ := h.unex k e
 have h2:=h1.unstar 0
 have hp:=h2.getp 0
 have h3:=h2.drop 0
 have h4:=h3.unstar 0
 have h5:=h4.unstar 1
 exact ⟨p,ss,hp,(h5.front 2).front 1 |>.front 1⟩
theorem Gw.St.shut_oK {p:Nat} {ta a:Option Addr} {ss:SlV} {bad:Int} {t:Tb} {l:List Ln} (h:St A N w0 w (oB p xv (Maker.C ⟨ta,ss,bad⟩) :: oT ta t :: oS T_Ln 4 Ln.C ss l :: L) Z) (ha:a=some ⟨p,0,none⟩):St A N w0 w (oK a ta ⟨t,l,bad⟩ :: L) Z:=by
 have h1:St A N w0 w (oT ta t :: oS T_Ln 4 Ln.C ss l :: oB p xv (Maker.C ⟨ta,ss,bad⟩) :: L) Z:=(h.front 2).front 2
 have h2:St A N w0 w (oB p xv (Maker.C ⟨ta,ss,bad⟩) :: (oT ta t).star (oS T_Ln 4 Ln.C ss l) :: L) Z:=h1.star.front 1
 exact St.toex (f:=fun (q:Nat × SlV)=>(OA.pure (a=some ⟨q.1,0,none⟩)).star ((oB q.1 xv (Maker.C ⟨ta,q.2,bad⟩)).star ((oT ta t).star (oS T_Ln 4 Ln.C q.2 l)))) (p,ss) ((h2.star.putp ha).star)
theorem Gw.St.open_oPa (h:St A N w0 w L Z) (k:Nat) {a ta:Option Addr} {x:PPattern} {L':List OA} (e:L[k]? = some (oPa a ta x):=by rfl) (e':L.eraseIdx k=L':=by rfl) :
  ∃ p m,a=some ⟨p,0,none⟩ ∧ St A N w0 w (oB p zaH (Pattern.C ⟨ta,some m⟩) :: oT ta x.t :: oMB m x.seen :: L') Z:=by
 subst e'
 obtain ⟨⟨p,m⟩,h1⟩ := h.unex k e
 have h2:=h1.unstar 0
 have hp:=h2.getp 0
 have h3:=h2.drop 0
 have h4:=h3.unstar 0
 have h5:=h4.unstar 1
 exact ⟨p,m,hp,(h5.front 2).front 1 |>.front 1⟩
theorem Gw.St.shut_oPa {p m:Nat} {ta a:Option Addr} {t:Tb} {l:List (Int × Int)} (h:St A N w0 w (oB p zaH (Pattern.C ⟨ta,some m⟩) :: oT ta t :: oMB m l :: L) Z) (ha:a=some ⟨p,0,none⟩):St A N w0 w (oPa a ta ⟨t,l⟩ :: L) Z:=by
 have h1:St A N w0 w (oT ta t :: oMB m l :: oB p zaH (Pattern.C ⟨ta,some m⟩) :: L) Z:=(h.front 2).front 2
 have h2:St A N w0 w (oB p zaH (Pattern.C ⟨ta,some m⟩) :: (oT ta t).star (oMB m l) :: L) Z:=h1.star.front 1
 exact St.toex (f:=fun (q:Nat × Nat)=>(OA.pure (a=some ⟨q.1,0,none⟩)).star ((oB q.1 zaH (Pattern.C ⟨ta,some q.2⟩)).star ((oT ta t).star (oMB q.2 l)))) (p,m) ((h2.star.putp ha).star)
end
section
variable {P:Program} {f:Fr} {w:World} {d:Option Tmp} {ty:TypeId} {pos:String} {af:Array Edge} {gd:Option (Nat × Bool)} {m:Nat} {α β:Type} {C:α→Value} {D:β→Value} {l:List (α × β)}
theorem does_lookup1 [DecidableEq α] {t kt et:Nat} {x y:Operand} {key:α} {zv:β} (ht:P.underlying t=some (.map kt et)) (K:KeyT P kt C) (hz:(P.info? et).bind (·.zero)=some (D zv)) (hx:evF f x = .map (some m)) (hy:evF f y=C key) (hm:MapB w m C D l) :
  Does P ⟨d,.lookup t x y false,ty,pos,af,gd⟩ f w (D ((Gw.look key l).getD zv)) w:=by
 obtain ⟨es,c,hb,he⟩ := hm
 have hz':(zeroValue et).run P w = .ok (D zv) w:=by
  cases hq:P.info? et with
  | none=>simp [hq] at hz
  | some i=>simp [hq] at hz; simp [zeroValue,typeInfo,hq,hz]
 simp only [Does,execOp,hx,hy,Instr.lookup,Sem.run_bind,run_underlying ht,Result.andThen_ok,MapKept.run_getObj_map hb,Sem.run_pure,K.check,run_findKey K key es.toList l he]
 cases hs:spot key l with
 | none=>simp [zbV,hs,hz']
 | some i =>
  obtain ⟨v,hv⟩ := spot_key key l i hs
  simp [zbV,hs,hv]
def sfrom (s:ByteArray) (i:Int):ByteArray:=s.extract i.toNat s.size
theorem does_sliceStr {t:Nat} {x y:Operand} {kd:IntKind} {s:ByteArray} {i:Int} (ht:P.underlying t=some .string) (hx:evF f x = .string s) (hy:evF f y = .int kd i) (h0:0 ≤ i) (h1:i ≤ s.size):Does P ⟨d,.slice t x (some y) none none,ty,pos,af,gd⟩ f w (.string (sfrom s i)) w:=by
 have h2:(w:World)→(Instr.slice t (.string s) (some (.int kd i)) none none).run P w = .ok (.string (sfrom s i)) w:=fun w=>run_slice_string_l (w:=w) (t:=t) (s:=s) (ht:=ht) kd i h0 h1
 unfold Does execOp
 simp only [hx,Sem.run_bind,run_sliceAt_string (P:=P) w t _ _ _ _ ht,Option.map_some,Option.map_none,hy,h2,Result.andThen_ok,Sem.run_pure]
end
end
section
open Gw Go.RowKit
abbrev T_A10:TypeId:=163
def schL:List ByteArray:=[⟨#[]⟩,⟨#[62,65,62,66,65]⟩,⟨#[62,62,65,62,66,67,62,62,65,66,62,65,67]⟩,⟨#[62,38,65,66,65]⟩,⟨#[62,38,65,66,66]⟩,⟨#[62,65,62,66,38,65,66]⟩,⟨#[62,65,124,65,66]⟩,⟨#[62,66,124,65,66]⟩,⟨#[62,62,65,67,62,62,66,67,62,124,65,66,67]⟩,⟨#[62,48,65]⟩]
theorem ag_A10:AggT PP T_A10 10:=⟨⟨_,Tryz.underlying163,rfl⟩,by kernel_rfl⟩
theorem ar_A10:ArrT PP T_A10 10 T_string 1:=⟨Tryz.underlying163,by kernel_rfl⟩
theorem ze_A10:ZeroT PP T_A10 (List.replicate 10 (.string ByteArray.empty)):=⟨.agg (List.replicate 10 (.string ByteArray.empty)).toArray,by kernel_rfl,by simp [Value.cells]⟩
theorem Gw.St.addO' {A:Nat→Prop} {N:Oth} {w0 w w':World} {L Z:List OA} (h:St A N w0 w L Z) (hc:Ext w w') {e k:Nat} {α:Type} {C:α→List Value} {s:SlV} {l:List α} (ho:Own w' 0 e k s (l.map C)) (hl:l.length ≤ 140737488355328) (hf : ∀ i,s.fp i→w.heap.size ≤ i):St A N w0 w' (oS e k C s l :: L) Z :=
 h.add (b:=oS e k C s l) (G:=s.fp) hc ⟨⟨ho,hl⟩,fun _=>Iff.rfl⟩ hf
theorem does_builds {P:Program} {f:Fr} {w:World} {d:Option Tmp} {ty:TypeId} {pos:String} {af:Array Edge} {gd:Option (Nat × Bool)} {t:Nat} {out:List Value} {parts:Array (Nat × Operand)} {vs:List (Nat × Value)} (hv:parts.toList.map (fun q=>(q.1,evF f q.2))=vs) (hb:P.built t vs=some out.toArray):Does P ⟨d,.build t parts,ty,pos,af,gd⟩ f w (.agg out.toArray) w:=by
 subst hv
 have h:=run_build (P:=P) w t (parts.map fun q=>(q.1,evF f q.2)) out.toArray (by rw [Array.toList_map]; exact hb)
 unfold Does
 show (execOp (evF f) _).run P w=_
 unfold execOp
 simp only [Sem.run_bind,h,Result.andThen_ok,Sem.run_pure]
def zct.f (a0:Int):Option ByteArray:=if (decide (a0 < 0)) || (decide (10 ≤ a0)) then some ⟨#[]⟩ else chk (inb a0 schL.length) (some (at_ ByteArray.empty schL a0))
theorem hilbert_scheme_st {A:Nat→Prop} {N:Oth} {w:World} {a0:Int} (S:St A N w w [] []) {r:ByteArray} (H:zct.f a0=some r) :
  Calls PP zbN #[.int .i64 a0] w fun e w' => ∃ v,e = .returned v∧(v = .string r∧St A N w w' [] []):=by
 unfold zct.f at H
 refine zz (n:=14) fn_hilbert_scheme rfl rfl zcc ?_
 refine zd (za ?_)
 refine wd (xZ rfl) ?_
 refine zb ?_
 refine zd (za ?_)
 refine wd (does_builds (out:=schL.map Value.string) rfl zcd) ?_
 refine xd ze_A10 zca fun b2 w1 hw1=>?_
 replace S:St A N w w1 [oB b2 T_A10 (List.replicate 10 (.string ByteArray.empty))] []:=S.new hw1
 refine zI ag_A10 rfl rfl (S.blk 0) rfl zca (by intro v hv; obtain ⟨x,_,rfl⟩ := List.mem_map.1 hv; rfl) (by rfl) fun w3 B hw3 zw3=>?_
 replace S:St A N w w3 [oB b2 T_A10 (schL.map Value.string)] []:=S.store 0 B hw3
 clear B
 refine zb ?_
 refine zd (zd (za ?_))
 refine wd (zg rfl) ?_
 refine wd (xQ rfl rfl) ?_
 refine wd (zL rfl) ?_
 refine zH (j:=2) (pol:=false) rfl rfl rfl zca (fun hg=>zg rfl) zca ?_
 refine zH (j:=2) (pol:=false) rfl rfl rfl zca (fun hg=>uc (zw hg) rfl) zca ?_
 refine wd (xO rfl (fun hp=>(zw (xE hp)))) ?_
 refine zb ?_
 refine zG rfl (fun hc4=>?_) (fun hc4=>?_)
 ·replace H:=if_t hc4 H
  refine zd (za ?_)
  refine wd (xZ rfl) ?_
  refine zb ?_
  refine zx ?_
  refine ⟨_,(zS (zf rfl)),?_⟩
  replace S:St A N w w3 [] []:=S.arr [] []
  obtain rfl:=zce H
  exact ⟨rfl,S⟩
 replace H:=if_f hc4 H
 refine zB ?_
 refine zd (za ?_)
 refine wd (zg rfl) ?_
 obtain ⟨hi5,H⟩ := xo H
 have hb:=zO hi5
 refine wd (does_indexArr ar_A10 rfl rfl hb.1 hb.2 (o':=(a0).toNat) zcc) ?_
 refine wd (zl xq rfl ((S.blk 0).cell (v := .string (at_ ByteArray.empty schL a0)) (by rw [List.getElem?_map,ym ByteArray.empty hb]; rfl))) ?_
 refine wd (xZ rfl) ?_
 refine zb ?_
 refine zx ?_
 refine ⟨_,(zS (zf rfl)),?_⟩
 replace S:St A N w w3 [] []:=S.arr [] []
 obtain rfl:=zce H
 exact ⟨rfl,S⟩
section
variable {A:Nat→Prop} {N:Oth} {w:World}
def zcu.f (l:List Hyp):Option (List Hyp):=chk (decide (l.length ≤ 1000000000)) (some l)
theorem kw {l:List Hyp} {s:SlV} (S:St A N w w [] [fS 2 Hyp.C s l]) {r:List Hyp} (H:zcu.f l=some r):Calls PP ug #[s.v] w fun e w' => ∃ v,e = .returned v ∧ ∃ s':SlV,(v=s'.v∧St A N w w' [oS xN 2 Hyp.C s' r] []):=by
 obtain ⟨hl,H⟩ := xo H
 obtain rfl:=zce H
 replace hl:=of_decide_eq_true hl
 refine zz (n:=8) ku rfl rfl zcc ?_
 repeat (first | refine zd ?_ | refine za ?_ | refine zP ?_)
 repeat (first | refine zi (zh rfl) zca ?_ | refine zi (zg rfl) zca ?_ | refine zi (zk rfl) zca ?_ | refine zi (zA rfl) zca ?_ | refine zi (zo rfl) zca ?_ | refine zi (xw) zca ?_)
 refine zb ?_
 repeat (first | refine zd ?_ | refine za ?_ | refine zP ?_)
 repeat (first | refine zi (zh rfl) zca ?_ | refine zi (zg rfl) zca ?_ | refine zi (zk rfl) zca ?_ | refine zi (zA rfl) zca ?_ | refine zi (zo rfl) zca ?_ | refine zi (xw) zca ?_)
 refine zi (does_isnil yk rfl rfl) zca ?_
 refine zb ?_
 refine zG rfl (fun hc=>?_) (fun hc=>?_)
 ·repeat (first | refine zd ?_ | refine za ?_ | refine zP ?_)
  repeat (first | refine zi (zh rfl) zca ?_ | refine zi (zg rfl) zca ?_ | refine zi (zk rfl) zca ?_ | refine zi (zA rfl) zca ?_ | refine zi (zo rfl) zca ?_ | refine zi (xw) zca ?_)
  refine zb ?_
  refine zx ?_
  refine ⟨_,(zS (zf rfl)),SlV.nil,rfl,?_⟩
  have hr:=(S.rd 0).sl
  obtain rfl:l=[]:=by
   cases l with
   | nil=>rfl
   | cons a l =>
    have:=(hr.cells 0 (Hyp.C a) rfl).1
    rw [this] at hc; cases hc
  exact (S.zs (Z':=[]) []).nil xN 2 Hyp.C
 ·refine zB ?_
  repeat (first | refine zd ?_ | refine za ?_ | refine zP ?_)
  refine xD (C:=Hyp.C) (l:=[]) (vs:=[]) yk el_Hyp.zero rfl rfl zcc zca rfl zca fun b w1 s1 hB h1=>?_
  replace S:St A N w w1 [oS xN 2 Hyp.C s1 []] [fS 2 Hyp.C s l]:=S.lit hB h1 zcc
  repeat (first | refine zi (zh rfl) zca ?_ | refine zi (zg rfl) zca ?_ | refine zi (zk rfl) zca ?_ | refine zi (zA rfl) zca ?_ | refine zi (zo rfl) zca ?_ | refine zi (xw) zca ?_)
  refine wl_appendm (C:=Hyp.C) yk el_Hyp rfl rfl (S.sl 0) (S.rd 0) Hyp.one (by simp; omega) (by simp; omega) zca fun s2 w2 O h2 g2=>?_
  replace S:St A N w w2 [oS xN 2 Hyp.C s2 l] [fS 2 Hyp.C s l]:=S.push 0 (l':=[] ++ l) O (by simp; omega) h2 g2
  refine zi (xP rfl) zca ?_
  refine zb ?_
  refine zx ?_
  exact ⟨_,(zS (zf rfl)),s2,rfl,S.zs (Z':=[]) []⟩
def SlV.clip (s:SlV):SlV:=⟨s.p,s.n,s.n⟩
theorem clip_rd {w:World} {k:Nat} {s:SlV} {rows:List (List Value)} (h:Rd w k s rows):Rd w k (SlV.clip s) rows:=⟨⟨h.sl.len,h.sl.row,h.sl.cells⟩,h.lt,Nat.le_refl _⟩
theorem kS {w:World} {s:SlV} {l:List Hyp} (hr:Rd w 2 s (l.map Hyp.C)):Calls PP uo #[s.v] w fun e w' => ∃ v,e = .returned v∧(v=(SlV.clip s).v∧Ext w w'):=by
 refine zz (n:=9) kM rfl rfl zcc ?_
 refine zd (za ?_)
 refine wd xw ?_
 refine zb ?_
 refine zd (za ?_)
 refine wd (zA rfl) ?_
 refine wd (zA rfl) ?_
 refine wd (xg yk rfl hr) ?_
 refine wd (zA rfl) ?_
 refine wd (xg yk rfl hr) ?_
 have hn:s.n=l.length:=by have:=hr.sl.len; simpa using this
 have hc:(l.length:Int) ≤ s.c:=by have:=hr.room; omega
 have e0:((l.length:Nat):Int).toNat=l.length:=by omega
 refine wd (does_sliceG yk rfl (bounds_him (kd := .i64) (kd' := .i64) (i:=(l.length:Int)) zcb hc)) ?_
 have es:(⟨if ((l.length:Nat):Int).toNat=0 then s.p else s.p.map (·.add (0 * 2)),((l.length:Nat):Int).toNat - 0,((l.length:Nat):Int).toNat - 0⟩ : SlV)=SlV.clip s:=by
  have hp:s.p.map (·.add (0 * 2))=s.p:=by
   cases s.p with
   | none=>rfl
   | some a=>simp [Addr.add]
  rw [hp,e0,ite_self,Nat.sub_zero,SlV.clip,hn]
 rw [es]
 refine wd (xP rfl) ?_
 refine zb ?_
 refine zx ?_
 exact ⟨_,(zS (zf rfl)),rfl,Ext.refl w⟩
def zcv.f (l m:List Hyp):Option (List Hyp):=chk (decide (m ≠ []) && decide ((l.length + m.length) * 24 ≤ 140737488355328)) (some (l ++ m))
theorem zbn {l m:List Hyp} {s s2:SlV} (S:St A N w w [] [fS 2 Hyp.C s l,fS 2 Hyp.C s2 m]) {r:List Hyp} (H:zcv.f l m=some r):Calls PP jA #[s.v,s2.v] w fun e w' => ∃ v,e = .returned v ∧ ∃ s':SlV,(v=s'.v∧St A N w w' [oS xN 2 Hyp.C s' r] []):=by
 obtain ⟨hc,H⟩ := xo H
 obtain rfl:=zce H
 simp only [Bool.and_eq_true,decide_eq_true_eq] at hc
 obtain ⟨hne,hb⟩ := hc
 refine zz (n:=9) zbl rfl rfl zcc ?_
 refine zd (za ?_)
 refine wd xw ?_
 refine zb ?_
 refine zd (za ?_)
 refine wd (zA rfl) ?_
 refine zu (zq kF) zca (kS (S.rd 0)) ?_
 rintro _ w1 ⟨rfl,h1⟩
 replace S:=S.ext h1
 refine wd (zA rfl) ?_
 refine wl_appendC (C:=Hyp.C) (l:=l) (m:=m) yk el_Hyp rfl rfl (clip_rd (S.rd 0)) rfl (S.rd 1) hne hb zcb zca fun s' w2 O hx hf=>?_
 replace S:St A N w w2 [oS xN 2 Hyp.C s' (l ++ m)] [fS 2 Hyp.C s l,fS 2 Hyp.C s2 m]:=S.addO' hx O (by rw [List.length_append]; omega) hf
 refine wd (xP rfl) ?_
 refine zb ?_
 refine zx ?_
 exact ⟨_,(zS (zf rfl)),s',rfl,S.zs (Z':=[]) []⟩
end
end
section
open Gw
def zcw.b0 (a0:List Nd) (i5:Int) (x5_0:Tb):Option (Stp Tb (Tb × Int)) :=
 (zcj.f x5_0 (at_ Nd.z a0 i5)).bind fun r11=>if (decide (r11.2.2=0)) && (decide (r11.2.1 ≠ i5)) then if decide (31 ≠ 0) then some (.ret (none,31)) else some (.go r11.1) else if decide (r11.2.2 ≠ 0) then some (.ret (none,r11.2.2)) else some (.go r11.1)
def zcw.f (a0:List Nd):Option (Tb × Int) :=
 (zcm.f).bind fun r1=>(forN (fun i s=>zcw.b0 a0 i s) ((a0.length:Int) - 0).toNat 0 r1).bind (aft fun (s5:Tb)=>some (s5,0))
def zcx.f (a0:Tb) (a1:Int):Option Bool :=
 chk a0.isSome (some ((decide (0 ≤ a1)) && (decide (a1 < ((a0.getD []).length:Int)))))
def zcy.b0 (a0:Tb) (a1:Nd) (i4:Int):Option (Stp Unit (Int × Bool)) :=
 if decide (at_ Nd.z (a0.getD []) i4=a1) then some (.ret (i4,true)) else some (.go ())
def zcy.f (a0:Tb) (a1:Nd):Option (Int × Bool) :=
 chk a0.isSome ((forN (fun i s=>zcy.b0 a0 a1 i) (((a0.getD []).length:Int) - 0).toNat 0 ()).bind (aft fun (s4:Unit)=>some (0,false)))
def zcz.f (a0:Tb) (a1:Nd):Option (Tb × Int × Int) :=
 (if decide (a1.kind=1) then if (decide (a1.l ≠ 0)) || (decide (a1.r ≠ 0)) then some (.inr (a0,0,31)) else (zcl.f a1.name).bind fun r6=>if !r6 then some (.inr (a0,0,32)) else some (.inl a0) else if decide (a1.kind=2) then if ((decide (a1.name ≠ (⟨#[]⟩ : ByteArray))) || (decide (a1.l ≠ 0))) || (decide (a1.r ≠ 0)) then some (.inr (a0,0,31)) else some (.inl a0) else (if decide (a1.kind=3) then some (decide (a1.kind=3)) else if decide (a1.kind=4) then some (decide (a1.kind=4)) else some (decide (a1.kind=5))).bind fun (o12:Bool)=>if o12 then (if (!(decide (a1.name ≠ (⟨#[]⟩ : ByteArray)))) then zcx.f a0 a1.l else some false).bind fun r18=>(if (!((decide (a1.name ≠ (⟨#[]⟩ : ByteArray))) || (!r18))) then zcx.f a0 a1.r else some false).bind fun r20=>if ((decide (a1.name ≠ (⟨#[]⟩ : ByteArray))) || (!r18)) || (!r20) then some (.inr (a0,0,31)) else some (.inl a0) else some (.inr (a0,0,31))).bind (aft fun (s3:Tb)=>(zcy.f s3 a1).bind fun r25=>if r25.2 then some (s3,r25.1,0) else chk s3.isSome (if decide (1024 ≤ ((s3.getD []).length:Int)) then some ((some (s3.getD [])),0,30) else chk (decide (((s3.getD []).length + 1) * 40 ≤ 140737488355328)) (some ((some ((s3.getD []) ++ [a1])),IntKind.i64.wrap ((((s3.getD []) ++ [a1]).length:Int) - 1),0))))
def zcA.b0 (a0:List Nd) (i3:Int) (x3_0:Tb):Option (Stp Tb (Tb × Int)) :=
 (zcz.f x3_0 (at_ Nd.z a0 i3)).bind fun r6=>if decide (r6.2.2 ≠ 0) then some (.ret (none,r6.2.2)) else if decide (r6.2.1 ≠ i3) then some (.ret (none,31)) else some (.go r6.1)
def zcA.f (a0:List Nd):Option (Tb × Int) :=
 (forN (fun i s=>zcA.b0 a0 i s) ((a0.length:Int) - 0).toNat 0 (some [])).bind (aft fun (s3:Tb)=>some (s3,0))
def zcB.f (a0:List Nd):Option (Tb × Tb × Bool) :=
 chk (decide ((([]:List Nd).length + a0.length) * 40 ≤ 140737488355328)) ((zcA.f a0).bind fun r7=>if decide (r7.2 ≠ 0) then some (none,none,false) else (zcw.f (([]:List Nd) ++ a0)).bind fun r12=>some (r12.1,r7.1,true))
end
section
open Gw
def zcC.g (zea:PPattern→Int→ByteArray→Option (PPattern × ByteArray × Bool)) (a0:PPattern) (a1:Int) (a2:ByteArray):Option (PPattern × ByteArray × Bool) :=
 chk (inb 0 a2.size) (chk (decide (0 ≤ (1:Int)∧(1:Int) ≤ (a2.size:Int))) ((zcf.f a0.t a1).bind fun r7=>(if decide (sb a2 0=62) then some (.inl (5,a0)) else if decide (sb a2 0=38) then some (.inl (3,a0)) else if decide (sb a2 0=124) then some (.inl (4,a0)) else if decide (sb a2 0=48) then some (.inr (a0,sfrom a2 1,decide (r7.1.kind=2))) else some (.inr ((⟨a0.t,Gw.ins (sb a2 0) a1 a0.seen⟩ : PPattern),sfrom a2 1,(!((Gw.look (sb a2 0) a0.seen).isSome)) || (decide ((Gw.look (sb a2 0) a0.seen).getD 0=a1))))).bind (aft fun (s13:Int × PPattern)=>if decide (r7.1.kind ≠ s13.1) then some (s13.2,(⟨#[]⟩ : ByteArray),false) else (zea s13.2 r7.1.l (sfrom a2 1)).bind fun r29=>if !r29.2.2 then some (r29.1,(⟨#[]⟩ : ByteArray),false) else (zea r29.1 r7.1.r r29.2.1).bind fun r33=>some (r33.1,r33.2.1,r33.2.2))))
def zcC.f:Nat→PPattern→Int→ByteArray→Option (PPattern × ByteArray × Bool)
 | 0=>fun _ _ _=>none
 | k + 1=>zcC.g (zcC.f k)
def zcD.f (k:Nat) (a0:Tb) (a1:Int) (a2:Int):Option (Tb × Bool) :=
 (zct.f a1).bind fun r1=>if decide (r1=(⟨#[]⟩ : ByteArray)) then some (a0,false) else (zcC.f k (⟨a0,([]:List (Int × Int))⟩ : PPattern) a2 r1).bind fun r9=>some (r9.1.t,r9.2.2)
def zcE.f (a0:Int) (a1:Int):Option Bool :=
 some ((decide (a0 < 0)) || (decide (a1 ≤ a0)))
def zcF.b0 (a0:List Int) (a1_0:Int) (i1:Int):Option (Stp Unit Int) :=
 (zcE.f (at_ (0:Int) a0 i1) a1_0).bind fun r4=>if r4 then some (.ret i1) else some (.go ())
def zcF.f (a0:List Int) (a1_0:Int):Option Int :=
 (forN (fun i s=>zcF.b0 a0 a1_0 i) ((a0.length:Int) - 0).toNat 0 ()).bind (aft fun (s1:Unit)=>some (-1))
def zcG.f (a0:List Int) (a1_0:Int):Option Bool :=
 (zcF.f a0 a1_0).bind fun r1=>some (decide (0 ≤ r1))
def zcH.f (a0:Tb) (a1:List Int):Option Int :=
 (zcr.f a0).bind fun r1=>if r1.isNone then some 1 else (zcg.f a0).bind fun r6=>(zcG.f a1 r6).bind fun r12=>if r12 then some 31 else some 0
def zcI.f (k:Nat) (a0:Tb) (a1:Int) (a2:Int):Option (Tb × Bool × Int) :=
 (zcH.f a0 ([a2])).bind fun r4=>if decide (r4 ≠ 0) then some (a0,false,r4) else (zcD.f k a0 a1 a2).bind fun r8=>some (r8.1,r8.2,0)
end
section
open Gw
def zcJ.f (k:Nat) (a0:Tb) (a1:List (Int × Int)) (a2:List Ln) (a3:Int):Option (Tb × Bool) :=
 chk (inb a3 a2.length) (if decide ((at_ Ln.z a2 a3).kind ≠ 11) then (if (!((decide ((at_ Ln.z a2 a3).kind=10)) && (decide (0 < (Gw.look ((at_ Ln.z a2 a3).form) a1).getD 0)))) then zcD.f k a0 ((at_ Ln.z a2 a3).kind) ((at_ Ln.z a2 a3).form) else some (a0,false)).bind fun r6=>some (r6.1,((decide ((at_ Ln.z a2 a3).a=0)) && (decide ((at_ Ln.z a2 a3).b=0))) && (((decide ((at_ Ln.z a2 a3).kind=10)) && (decide (0 < (Gw.look ((at_ Ln.z a2 a3).form) a1).getD 0))) || r6.2)) else if (decide ((if (at_ Ln.z a2 a3).b < (at_ Ln.z a2 a3).a then (at_ Ln.z a2 a3).b else (at_ Ln.z a2 a3).a) < 0)) || (decide (a3 ≤ (if (at_ Ln.z a2 a3).a < (at_ Ln.z a2 a3).b then (at_ Ln.z a2 a3).b else (at_ Ln.z a2 a3).a))) then some (a0,false) else chk (inb ((at_ Ln.z a2 a3).a) a2.length) ((zcf.f a0 ((at_ Ln.z a2 ((at_ Ln.z a2 a3).a)).form)).bind fun r11=>chk (inb ((at_ Ln.z a2 a3).b) a2.length) (some (a0,decide (r11.1={ Nd.z with kind:=5,l:=(at_ Ln.z a2 ((at_ Ln.z a2 a3).b)).form,r:=(at_ Ln.z a2 a3).form })))))
def zcK.b0 (a0:Tb) (a2:List Ln) (i5:Int):Option (Stp Unit (Tb × Int)) :=
 (zcH.f a0 ([(at_ Ln.z a2 i5).form])).bind fun r14=>if decide (r14 ≠ 0) then some (.ret (a0,r14)) else some (.go ())
def zcK.b1 (a1:List Int) (i22:Int) (x22_0:List (Int × Int)):Option (List (Int × Int)) :=
 some (Gw.ins (at_ (0:Int) a1 i22) (IntKind.i64.wrap (((Gw.look (at_ (0:Int) a1 i22) x22_0).getD 0) + 1)) x22_0)
def zcK.b2 (k:Nat) (o22:(List (Int × Int))) (a2:List Ln) (i28:Int) (x28_0:Tb):Option (Stp Tb (Tb × Int)) :=
 (zcJ.f k x28_0 o22 a2 i28).bind fun r30=>if !r30.2 then some (.ret (r30.1,160)) else some (.go r30.1)
def zcK.f (k:Nat) (a0:Tb) (a1:List Int) (a2:List Ln):Option (Tb × Int) :=
 (zcH.f a0 a1).bind fun r1=>if decide (r1 ≠ 0) then some (a0,r1) else (forN (fun i s=>zcK.b0 a0 a2 i) ((a2.length:Int) - 0).toNat 0 ()).bind (aft fun (s5:Unit)=>(forS (fun i s=>zcK.b1 a1 i s) ((a1.length:Int) - 0).toNat 0 ([]:List (Int × Int))).bind fun (o22:(List (Int × Int)))=>(forN (fun i s=>zcK.b2 k o22 a2 i s) ((a2.length:Int) - 0).toNat 0 a0).bind (aft fun (s28:Tb)=>if decide ((a2.length:Int)=0) then some (s28,160) else some (s28,0)))
def zcL.f (k:Nat) (a0:Tb) (a1:List Int) (a2:List Ln):Option (Tb × Int × Int) :=
 (zcK.f k a0 a1 a2).bind fun r1=>if decide (r1.2 ≠ 0) then some (r1.1,0,r1.2) else chk (inb (IntKind.i64.wrap ((a2.length:Int) - 1)) a2.length) (some (r1.1,(at_ Ln.z a2 (IntKind.i64.wrap ((a2.length:Int) - 1))).form,0))
def zcM.f (a0:PMaker) (a1:Int) (a2:Int) (a3:Int):Option (PMaker × Int) :=
 if decide (a0.bad ≠ 0) then some (a0,0) else (zcj.f a0.t ({ Nd.z with kind:=a1,l:=a2,r:=a3 })).bind fun r8=>some ((⟨r8.1,a0.l,r8.2.2⟩ : PMaker),r8.2.1)
def zcN.f (a0:PMaker) (a1:Int) (a2:Int):Option (PMaker × Int) :=
 (zcM.f a0 5 a1 a2).bind fun r1=>some (r1.1,r1.2)
def zcO.f (a0:PMaker) (a1:Ln):Option (PMaker × Int) :=
 (if (decide (a0.bad=0)) && (decide ((a0.l.length:Int)=4096)) then some ((⟨a0.t,a0.l,150⟩ : PMaker)) else some (a0)).bind fun (o6:PMaker)=>if decide (o6.bad=0) then chk (decide ((o6.l.length + 1) * 32 ≤ 140737488355328)) (some ((⟨o6.t,o6.l ++ [a1],o6.bad⟩ : PMaker),IntKind.i64.wrap (((o6.l ++ [a1]).length:Int) - 1))) else some (o6,IntKind.i64.wrap ((o6.l.length:Int) - 1))
def zcP.f (a0:PMaker) (a1:Int) (a2:Int):Option (PMaker × Int) :=
 if decide (a0.bad ≠ 0) then some (a0,0) else chk (inb a1 a0.l.length) ((zcf.f a0.t ((at_ Ln.z a0.l a1).form)).bind fun r9=>(zcO.f a0 (⟨11,r9.1.r,a1,a2⟩ : Ln)).bind fun r13=>some (r13.1,r13.2))
def zcQ.f (a0:PMaker) (a1:Int) (a2:Int):Option (PMaker × Int) :=
 (zcO.f a0 ({ Ln.z with kind:=a1,form:=a2 })).bind fun r1=>some (r1.1,r1.2)
def zcR.f (a0:PMaker) (a1:Int) (a2:Int):Option (PMaker × Int) :=
 (zcN.f a0 a2 a1).bind fun r1=>(zcN.f r1.1 a1 r1.2).bind fun r4=>(zcQ.f r4.1 1 r4.2).bind fun r7=>some (r7.1,r7.2)
def zcS.f (a0:PMaker) (a1:Int) (a2:Int) (a3:Int):Option (PMaker × Int) :=
 (zcN.f a0 a2 a3).bind fun r1=>(zcN.f r1.1 a1 r1.2).bind fun r4=>(zcN.f r4.1 a1 a2).bind fun r7=>(zcN.f r7.1 a1 a3).bind fun r10=>(zcN.f r10.1 r7.2 r10.2).bind fun r13=>(zcN.f r13.1 r4.2 r13.2).bind fun r16=>(zcQ.f r16.1 2 r16.2).bind fun r19=>some (r19.1,r19.2)
def zcT.b0 (a1:List Ln) (a2:Int) (i7:Int) (x7_0:List Int) (x7_1:PMaker):Option (Stp (List Int × PMaker) (Tb × List Ln × Int)) :=
 if decide (x7_1.bad ≠ 0) then some (.ret (x7_1.t,([]:List Ln),x7_1.bad)) else if decide ((at_ Ln.z a1 i7).form=a2) then (zcN.f x7_1 a2 a2).bind fun r25=>(zcS.f r25.1 a2 r25.2 a2).bind fun r28=>(zcR.f r28.1 a2 r25.2).bind fun r31=>(zcP.f r31.1 r28.2 r31.2).bind fun r34=>(zcR.f r34.1 a2 a2).bind fun r37=>(zcP.f r37.1 r34.2 r37.2).bind fun r40=>chk (inb i7 x7_0.length) (some (.go (x7_0.set (i7).toNat r40.2,r40.1))) else if decide ((at_ Ln.z a1 i7).kind=11) then chk (inb ((at_ Ln.z a1 i7).b) a1.length) ((zcS.f x7_1 a2 ((at_ Ln.z a1 ((at_ Ln.z a1 i7).b)).form) ((at_ Ln.z a1 i7).form)).bind fun r48=>chk (inb ((at_ Ln.z a1 i7).a) x7_0.length) ((zcP.f r48.1 r48.2 (at_ (0:Int) x7_0 ((at_ Ln.z a1 i7).a))).bind fun r52=>chk (inb ((at_ Ln.z a1 i7).b) x7_0.length) ((zcP.f r52.1 r52.2 (at_ (0:Int) x7_0 ((at_ Ln.z a1 i7).b))).bind fun r56=>chk (inb i7 x7_0.length) (some (.go (x7_0.set (i7).toNat r56.2,r56.1)))))) else (zcO.f x7_1 (at_ Ln.z a1 i7)).bind fun r72=>(zcR.f r72.1 ((at_ Ln.z a1 i7).form) a2).bind fun r75=>(zcP.f r75.1 r75.2 r72.2).bind fun r78=>chk (inb i7 x7_0.length) (some (.go (x7_0.set (i7).toNat r78.2,r78.1)))
def zcT.f (a0:Tb) (a1:List Ln) (a2:Int):Option (Tb × List Ln × Int) :=
 chk (decide (0 ≤ (a1.length:Int)∧((a1.length:Int)).toNat ≤ 16777216)) ((forN (fun i s=>zcT.b0 a1 a2 i s.1 s.2) ((a1.length:Int) - 0).toNat 0 (List.replicate ((a1.length:Int)).toNat (0:Int),(⟨a0,([]:List Ln),0⟩ : PMaker))).bind (aft fun (s7:List Int × PMaker)=>some (s7.2.t,s7.2.l,s7.2.bad)))
def zcU.f (a0:Tb) (a1:Int) (a2:List Ln) (a3:Int):Option (Tb × List Ln × Int) :=
 if decide (a3 ≠ 0) then (zcs.f a0 a1).bind fun r2=>some (r2.1,([]:List Ln),a3) else some (a0,a2,0)
def zcV.f (k:Nat) (a0:Tb) (a1:List Int) (a2:List Ln) (a3:Int):Option (Tb × List Ln × Int) :=
 (zcH.f a0 ([a3])).bind fun r4=>if decide (r4 ≠ 0) then some (a0,([]:List Ln),r4) else (zcK.f k a0 a1 a2).bind fun r8=>if decide (r8.2 ≠ 0) then some (r8.1,([]:List Ln),r8.2) else (zcg.f r8.1).bind fun r12=>(zcT.f r8.1 a2 a3).bind fun r15=>(zcU.f r15.1 r12 r15.2.1 r15.2.2).bind fun r19=>some (r19.1,r19.2.1,r19.2.2)
end
section
open Gw
def zcW.f (a0:Int):Option (Int × Bool × Bool × Bool) :=
 if decide (a0=1) then some (0,true,false,true) else if decide (a0=2) then some (1,true,false,true) else if decide (a0=12) then some (2,true,false,true) else if decide (a0=9) then some (3,true,true,true) else (if decide (a0=5) then some (decide (a0=5)) else if decide (a0=6) then some (decide (a0=6)) else if decide (a0=7) then some (decide (a0=7)) else if decide (a0=8) then some (decide (a0=8)) else if decide (a0=10) then some (decide (a0=10)) else some (decide (a0=11))).bind fun (o5:Bool)=>if o5 then some (1,false,false,true) else if decide (a0=3) then if decide (a0=3) then some (2,false,false,true) else some (0,false,false,false) else if decide (a0=4) then some (2,false,false,true) else some (0,false,false,false)
def zcX.f (a0:ByteArray) (a1:Bool):Option Bool :=
 if !a1 then some (decide (a0=(⟨#[]⟩ : ByteArray))) else (zck.f a0).bind fun r2=>some r2
def zcY.b0 (a0:PTerm) (a1:Int) (zed:PTerm→Int→Option Int) (x4_0:Int) (x4_1:Int):Option (Stp (Int × Int) Int) :=
 if (decide (x4_1 < (a0.sub.length:Int))) && (decide (x4_0 < IntKind.i64.wrap (a1 - 1))) then chk (inb x4_1 a0.sub.length) ((zed (at_ PTerm.z a0.sub x4_1) (IntKind.i64.wrap (a1 - 1))).bind fun r9=>some (.go ((if x4_0 < r9 then r9 else x4_0),IntKind.i64.wrap (x4_1 + 1)))) else some (.brk (x4_0,x4_1))
def zcY.g (zed:PTerm→Int→Option Int) (k:Nat) (a0:PTerm) (a1:Int):Option Int :=
 if decide (a1 ≤ 1) then some a1 else (iter (fun s=>zcY.b0 a0 a1 zed s.1 s.2) k (0,0)).bind (aft fun (s4:Int × Int)=>some (IntKind.i64.wrap (s4.1 + 1)))
def zcY.f:Nat→PTerm→Int→Option Int
 | 0=>fun _ _=>none
 | k + 1=>zcY.g (zcY.f k) k
def zcZ.f (k:Nat) (a0:PTerm):Option Int :=
 (zcY.f k a0 1025).bind fun r3=>some r3
end
section
open Gw
def zda.g (zee:PTerm→Option Bool) (a0:PTerm):Option Bool :=
 (zee a0).bind fun r3=>some (!r3)
def zdb.b0 (zee:PTerm→Option Bool) (a0:List PTerm) (i1:Int):Option (Stp Unit Int) :=
 (zda.g zee (at_ PTerm.z a0 i1)).bind fun r6=>if r6 then some (.ret i1) else some (.go ())
def zdb.g (zee:PTerm→Option Bool) (a0:List PTerm):Option Int :=
 (forN (fun i s=>zdb.b0 zee a0 i) ((a0.length:Int) - 0).toNat 0 ()).bind (aft fun (s1:Unit)=>some (-1))
def zdc.g (zee:PTerm→Option Bool) (a0:List PTerm):Option Bool :=
 (zdb.g zee a0).bind fun r1=>some (decide (0 ≤ r1))
def zdd.g (zee:PTerm→Option Bool) (a0:PTerm):Option Bool :=
 (zcW.f a0.kind).bind fun r3=>(if (!((!r3.2.2.2) || (decide ((a0.sub.length:Int) ≠ r3.1)))) then zcX.f a0.name r3.2.1 else some false).bind fun r6=>(if (!(((!r3.2.2.2) || (decide ((a0.sub.length:Int) ≠ r3.1))) || (!r6))) then zcX.f a0.other r3.2.2.1 else some false).bind fun r8=>if (((!r3.2.2.2) || (decide ((a0.sub.length:Int) ≠ r3.1))) || (!r6)) || (!r8) then some false else if (((decide (a0.kind ≠ 11)) && (decide (a0.form ≠ 0))) || (decide (a0.form < 0))) || (decide (1024 ≤ a0.form)) then some false else (zdc.g zee a0.sub).bind fun r12=>some (!r12)
def zdd.f:Nat→PTerm→Option Bool
 | 0=>fun _=>none
 | k + 1=>zdd.g (zdd.f k)
def zde.f (k:Nat) (a0:PTerm):Option Int :=
 (zcq.f a0).bind fun r3=>(if (!(decide (65536 < r3))) then zcZ.f k a0 else some 0).bind fun r6=>if (decide (65536 < r3)) || (decide (1024 < r6)) then some 121 else (zdd.f k a0).bind fun r9=>if !r9 then some 120 else some 0
end
section
open Gw
def zdf.f (a0:Int) (a1:Option (Int × List Int)):Option (Option (Int × List Int)) :=
 match a1 with
 | none=>some none
 | some (c0,up0)=>chk (decide ((up0.length + 1) * 8 ≤ 140737488355328)) (some (some (c0,up0 ++ [a0])))
def zdg.f (a0:Option (Int × List Int)):Option (List Int × Int) :=
 match a0 with
 | none=>some (([]:List Int),0)
 | some (c0,up0)=>(zcp.f up0).bind fun r9=>some (r9,c0)
end
end Go.Proofs.YtflieamjacclnaaGreatDoor
