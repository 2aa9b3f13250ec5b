/- HilbertDeduces, where what it reads is of the bulk that the row names: the row's statement and its card. The package variables that the row lists read as the program lays them. Printed by card16.py, a program of mine. -/
import Derived.Test.YtflieamjacclnaaGreatDoorMHD5
import Derived.Test.YtflieamjacclnaaGreatDoorCards
import Derived.Test.YtflieamjacclnaaGreatDoorTie
import Derived.WalkKit
import Derived.ProofKit
import Derived.OpenShut
import Derived.Deep.DeepHandedRow
import Derived.Deep.Slices
import Derived.LaidHandle
import Derived.Lib.LaidTab
import Derived.Lib.TrailingZeros
import Derived.ChangeSame
set_option linter.unusedVariables false
set_option linter.unusedSimpArgs false
section
namespace Go.Proofs.YtflieamjacclnaaGreatDoor
open Gw
inductive Res where
 | ok (t:List Nd) (l:List Ln) (v:Int)
 | no (t:List Nd) (l:List Ln) (e:Int)
def Res.bind (r:Res) (k:List Nd→List Ln→Int→Res):Res:=match r with
 | .ok t l v=>k t l v
 | .no t l e => .no t l e
abbrev Act:=List Nd→List Ln→Res
def Act.then (a:Act) (k:Int→Act):Act:=fun t l=>(a t l).bind fun t l v=>k v t l
def impR (a b:Int):Act:=fun t l=>if (putS t (impN a b)).2.2=0 then .ok (putS t (impN a b)).1 l (putS t (impN a b)).2.1 else .no t l (putS t (impN a b)).2.2
def kG (x:Ln):Act:=fun t l=>if 4096 ≤ l.length then .no t l 150 else .ok t (l ++ [x]) l.length
def mpR (a b:Int):Act:=fun t l=>kG ⟨11,(nd t (at_ Ln.z l a).form).r,a,b⟩ t l
def axR (k f:Int):Act:=kG ⟨k,f,0,0⟩
def kR (a b:Int):Act:=(impR b a).then fun x=>(impR a x).then fun y=>axR 1 y
def sR (a b c:Int):Act:=(impR b c).then fun x1=>(impR a x1).then fun x=>(impR a b).then fun y=>(impR a c).then fun z=>(impR y z).then fun u=>(impR x u).then fun f=>axR 2 f
-- what is kept
theorem zaR {t t':List Nd} (h:t <+: t') {i:Int} (hi:inb i t.length=true):nd t' i=nd t i:=by
 obtain ⟨r,rfl⟩ := h
 have h1:=zC hi
 have h2:i.toNat < t.length:=by omega
 unfold nd zap vm
 rw [if_pos (by simp; omega),if_pos (by simp; omega)]
 simp only
 rw [List.getD_eq_getElem?_getD,List.getElem?_append_left h2,← List.getD_eq_getElem?_getD]
theorem zbw {α:Type} {t t':List α} (h:t <+: t') {i:Int} (hi:inb i t.length=true):inb i t'.length=true:=by
 have h1:=zC hi
 have h2:=h.length_le
 exact yV h1.1 (by omega)
theorem putZ {t:List Nd} {n:Nd} (hw:Wf t) (he:(putS t n).2.2=0):t <+: (putS t n).1∧Wf (putS t n).1∧inb (putS t n).2.1 (putS t n).1.length=true∧nd (putS t n).1 (putS t n).2.1=n:=by
 by_cases hf:y2 t n=0
 ·cases hk:t.idxOf? n with
  | some k =>
   rw [put_old hf hk]
   obtain ⟨hlt,hget,_⟩ := List.idxOf?_eq_some_iff.1 hk
   refine ⟨List.prefix_refl _,hw,yV (by simp) (by simpa using hlt),?_⟩
   unfold nd zap vm
   rw [if_pos (by simp; exact hlt)]
   simp [List.getD_eq_getElem?_getD,hlt]
   simpa using hget
  | none =>
   by_cases hl:1024 ≤ t.length
   ·rw [put_full hf hk hl] at he; simp at he
   ·rw [put_new hf hk hl]
    refine ⟨List.prefix_append _ _,wf_push hw hf (by omega) (List.idxOf?_eq_none_iff.1 hk),yV (by simp) (by simp; omega),?_⟩
    unfold nd zap vm
    rw [if_pos (by simp; omega)]
    simp
 ·rw [put_bad hf] at he; exact absurd he hf
theorem put_no {t:List Nd} {n:Nd} (he:(putS t n).2.2 ≠ 0):(putS t n).1=t:=by
 by_cases hf:y2 t n=0
 ·cases hk:t.idxOf? n with
  | some k=>rw [put_old hf hk] at he; simp at he
  | none =>
   by_cases hl:1024 ≤ t.length
   ·rw [put_full hf hk hl]
   ·rw [put_new hf hk hl] at he; simp at he
 ·rw [put_bad hf]
def Grown (t t':List Nd):Prop:=t <+: t'∧Wf t'
theorem Grown.trans {a b c:List Nd} (h:Grown a b) (k:Grown b c):Grown a c:=⟨h.1.trans k.1,k.2⟩
theorem Grown.refl {t:List Nd} (h:Wf t):Grown t t:=⟨List.prefix_refl _,h⟩
def Imp (t:List Nd) (v a b:Int):Prop:=inb v t.length=true∧nd t v=impN a b
theorem Imp.pre {t t':List Nd} {v a b:Int} (h:Imp t v a b) (g:t <+: t'):Imp t' v a b:=⟨zbw g h.1,by rw [zaR g h.1]; exact h.2⟩
theorem yH {t t':List Nd} {l l':List Ln} {a b v:Int} (hw:Wf t) (h:impR a b t l = .ok t' l' v):Grown t t'∧l'=l∧Imp t' v a b:=by
 unfold impR at h
 split at h
 ·rename_i he
  obtain ⟨h1,h2,h3,h4⟩ := putZ hw he
  cases h
  exact ⟨⟨h1,h2⟩,rfl,h3,h4⟩
 ·cases h
theorem then_ok {a:Act} {k:Int→Act} {t t':List Nd} {l l':List Ln} {v:Int} (h:(a.then k) t l = .ok t' l' v) : ∃ t1 l1 v1,a t l = .ok t1 l1 v1∧k v1 t1 l1 = .ok t' l' v:=by
 unfold Act.then Res.bind at h
 cases ha:a t l with
 | ok t1 l1 v1=>rw [ha] at h; exact ⟨_,_,_,rfl,h⟩
 | no t1 l1 e=>rw [ha] at h; cases h
theorem zae {x:Ln} {t t':List Nd} {l l':List Ln} {v:Int} (h:kG x t l = .ok t' l' v):t'=t∧l'=l ++ [x]∧v=l.length∧l.length < 4096:=by
 unfold kG at h
 split at h
 ·cases h
 ·cases h; exact ⟨rfl,rfl,rfl,by omega⟩
theorem kR_ok {a b v:Int} {t t':List Nd} {l l':List Ln} (hw:Wf t) (h:kR a b t l = .ok t' l' v) : ∃ f g,Grown t t'∧l'=l ++ [⟨1,f,0,0⟩]∧v=l.length∧l.length < 4096∧Imp t' f a g∧Imp t' g b a:=by
 obtain ⟨t1,l1,x,h1,k1⟩ := then_ok h
 obtain ⟨t2,l2,y,h2,k2⟩ := then_ok k1
 clear h k1
 obtain ⟨g1,rfl,i1⟩ := yH hw h1
 obtain ⟨g2,rfl,i2⟩ := yH g1.2 h2
 obtain ⟨rfl,rfl,rfl,hl⟩ := zae (show kG _ _ _=_ from k2)
 exact ⟨y,x,g1.trans g2,rfl,rfl,hl,i2,i1.pre g2.1⟩
theorem sR_ok {a b c v:Int} {t t':List Nd} {l l':List Ln} (hw:Wf t) (h:sR a b c t l = .ok t' l' v) : ∃ f x x1 u y z,Grown t t'∧l'=l ++ [⟨2,f,0,0⟩]∧v=l.length∧l.length < 4096∧Imp t' f x u∧Imp t' x a x1∧Imp t' x1 b c∧Imp t' u y z∧Imp t' y a b∧Imp t' z a c:=by
 obtain ⟨t1,l1,x1,h1,k1⟩ := then_ok h
 obtain ⟨t2,l2,x,h2,k2⟩ := then_ok k1
 obtain ⟨t3,l3,y,h3,k3⟩ := then_ok k2
 obtain ⟨t4,l4,z,h4,k4⟩ := then_ok k3
 obtain ⟨t5,l5,u,h5,k5⟩ := then_ok k4
 obtain ⟨t6,l6,f,h6,k6⟩ := then_ok k5
 clear h k1 k2 k3 k4 k5
 obtain ⟨g1,rfl,i1⟩ := yH hw h1
 obtain ⟨g2,rfl,i2⟩ := yH g1.2 h2
 obtain ⟨g3,rfl,i3⟩ := yH g2.2 h3
 obtain ⟨g4,rfl,i4⟩ := yH g3.2 h4
 obtain ⟨g5,rfl,i5⟩ := yH g4.2 h5
 obtain ⟨g6,rfl,i6⟩ := yH g5.2 h6
 obtain ⟨rfl,rfl,rfl,hl⟩ := zae (show kG _ _ _=_ from k6)
 have p2:=g2.1.trans (g3.1.trans (g4.1.trans (g5.1.trans g6.1)))
 have p3:=g3.1.trans (g4.1.trans (g5.1.trans g6.1))
 have p4:=g4.1.trans (g5.1.trans g6.1)
 have p5:=g5.1.trans g6.1
 exact ⟨f,x,x1,u,y,z,((((g1.trans g2).trans g3).trans g4).trans g5).trans g6,rfl,rfl,hl,i6,i2.pre p3,i1.pre p2,i5.pre g6.1,i3.pre p4,i4.pre p5⟩
-- the program and the document do so
section
variable {μ:Type} (mk:Tb→List Ln→Int→μ)
def Tell (x:Option (μ × Int)):Res→Prop
 | .ok t l v=>(l.length ≤ 4096∧t.length ≤ 1024)∧x=some (mk (some t) l 0,v)
 | .no t l e=>e ≠ 0 ∧ ∃ v,x=some (mk (some t) l e,v)
def ke (f:μ→Option (μ × Int)):Prop := ∀ t l e,e ≠ 0 → ∃ v,f (mk (some t) l e)=some (mk (some t) l e,v)
variable {mk}
theorem Tell.bind {x:Option (μ × Int)} {r:Res} {g:μ × Int→Option (μ × Int)} {k:List Nd→List Ln→Int→Res} (h:Tell mk x r) (hg : ∀ t l v,r = .ok t l v→l.length ≤ 4096→t.length ≤ 1024→Tell mk (g (mk (some t) l 0,v)) (k t l v)) (hs : ∀ t l e v,e ≠ 0 → ∃ v',g (mk (some t) l e,v)=some (mk (some t) l e,v')):Tell mk (x.bind g) (r.bind k):=by
 cases r with
 | ok t l v =>
  obtain ⟨⟨h1,h2⟩,rfl⟩ := h
  exact hg t l v rfl h1 h2
 | no t l e =>
  obtain ⟨he,v,rfl⟩ := h
  exact ⟨he,hs t l e v he⟩
theorem Tell.ret {x:Option (μ × Int)} {r:Res} (h:Tell mk x r):Tell mk (x.bind fun q=>some (q.1,q.2)) r:=by
 cases x with
 | none=>cases r with
  | ok t l v=>exact absurd h.2 (by simp)
  | no t l e=>obtain ⟨_,v,h⟩ := h; cases h
 | some q=>exact h
theorem ke.ret {f:μ→Option (μ × Int)} (h:ke mk f):ke mk fun m=>(f m).bind fun q=>some (q.1,q.2):=fun t l e he=>by
 obtain ⟨v,h1⟩ := h t l e he
 exact ⟨v,by simp only [h1,Option.bind_some]⟩
end
abbrev mkP (t:Tb) (l:List Ln) (e:Int):PMaker:=⟨t,l,e⟩
abbrev mkD (t:Tb) (l:List Ln) (e:Int):PRMaker:=⟨t,l,e⟩
theorem impN_eq (a b:Int):({ Nd.z with kind:=5,l:=a,r:=b }:Nd)=impN a b:=rfl
theorem small0:(impN 0 0).name.size < 9223372036854775808:=by decide
theorem jl {t:List Nd} {l:List Ln} (ht:Wf t) (hl:l.length ≤ 4096) (a b:Int):Tell mkP (hilbert_maker_imp.f ⟨some t,l,0⟩ a b) (impR a b t l):=by
 have h1:hilbert_maker_imp.f ⟨some t,l,0⟩ a b=some (⟨some (putS t (impN a b)).1,l,(putS t (impN a b)).2.2⟩,(putS t (impN a b)).2.1):=by
  unfold hilbert_maker_imp.f hilbert_maker_form.f
  simp only [ne_eq,not_true_eq_false,decide_false,Bool.false_eq_true,if_false,impN_eq,progPut (n:=impN a b) small0,Option.bind_some]
 rw [h1]
 unfold impR
 split
 ·rename_i he
  rw [he]
  exact ⟨⟨hl,(putZ ht he).2.1.len⟩,rfl⟩
 ·rename_i he
  exact ⟨he,_,by rw [put_no he]⟩
theorem uE (a b:Int):ke mkP (fun m=>hilbert_maker_imp.f m a b):=fun t l e he=>⟨0,by simp [hilbert_maker_imp.f,hilbert_maker_form.f,he]⟩
theorem lineP_tell {t:List Nd} {l:List Ln} (ht:Wf t) (hl:l.length ≤ 4096) (x:Ln):Tell mkP (hilbert_maker_line.f ⟨some t,l,0⟩ x) (kG x t l):=by
 unfold hilbert_maker_line.f kG
 by_cases h:4096 ≤ l.length
 ·have h1:(l.length:Int)=4096:=by omega
  rw [if_pos h]
  refine ⟨by decide,IntKind.i64.wrap ((l.length:Int) - 1),?_⟩
  simp [h1]
 ·have h1:¬ (l.length:Int)=4096:=by omega
  have h2:(l.length + 1) * 32 ≤ 140737488355328:=by omega
  rw [if_neg h]
  refine ⟨⟨by simp; omega,ht.len⟩,?_⟩
  simp only [h1,decide_true,decide_false,Bool.and_false,Bool.false_eq_true,if_false,Option.bind_some,if_true,h2,chk]
  rw [wrap_small (by simp; omega)]
  simp
theorem lineP_still (x:Ln):ke mkP (fun m=>hilbert_maker_line.f m x):=fun t l e he=>by
 unfold hilbert_maker_line.f
 exact ⟨_,by simp [he]; rfl⟩
theorem mpP_tell {t:List Nd} {l:List Ln} (ht:Wf t) (hl:l.length ≤ 4096) {a b:Int} (ha:inb a l.length=true):Tell mkP (hilbert_maker_mp.f ⟨some t,l,0⟩ a b) (mpR a b t l):=by
 unfold hilbert_maker_mp.f mpR
 simp only [ne_eq,not_true_eq_false,decide_false,Bool.false_eq_true,if_false,chk,ha,if_true,node_of,Option.bind_some]
 exact (lineP_tell ht hl _).ret
theorem vH (a b:Int):ke mkP (fun m=>hilbert_maker_mp.f m a b):=fun t l e he=>⟨0,by simp [hilbert_maker_mp.f,he]⟩
theorem axP_tell {t:List Nd} {l:List Ln} (ht:Wf t) (hl:l.length ≤ 4096) (k f:Int):Tell mkP (hilbert_maker_axiom.f ⟨some t,l,0⟩ k f) (axR k f t l):=(lineP_tell ht hl _).ret
theorem uI (k f:Int):ke mkP (fun m=>hilbert_maker_axiom.f m k f):=(lineP_still _).ret
theorem ke.two {μ:Type} {mk:Tb→List Ln→Int→μ} {f:μ→Option (μ × Int)} {g:μ × Int→Option (μ × Int)} (h:ke mk f) (hg : ∀ v,ke mk fun m=>g (m,v)):ke mk fun m=>(f m).bind g:=fun t l e he=>by
 obtain ⟨v,h1⟩ := h t l e he
 obtain ⟨v2,h2⟩ := hg v t l e he
 exact ⟨v2,by simp only [h1,Option.bind_some]; exact h2⟩
theorem Tell.two {μ:Type} {mk:Tb→List Ln→Int→μ} {x:Option (μ × Int)} {r:Res} {g:μ × Int→Option (μ × Int)} {k:List Nd→List Ln→Int→Res} (h:Tell mk x r) (hs : ∀ v,ke mk fun m=>g (m,v)) (hg : ∀ t l v,r = .ok t l v→l.length ≤ 4096→t.length ≤ 1024→Tell mk (g (mk (some t) l 0,v)) (k t l v)):Tell mk (x.bind g) (r.bind k) :=
 h.bind hg fun t l e v he=>hs v t l e he
theorem kP_tell {t:List Nd} {l:List Ln} (ht:Wf t) (hl:l.length ≤ 4096) (a b:Int):Tell mkP (hilbert_maker_k.f ⟨some t,l,0⟩ a b) (kR a b t l):=by
 refine (jl ht hl b a).two (fun v=>(uE _ _).two fun v=>(uI _ _).ret) fun t1 l1 v1 h1 b1 _=>?_
 obtain ⟨g1,_,_⟩ := yH ht h1
 refine (jl g1.2 b1 a v1).two (fun v=>(uI _ _).ret) fun t2 l2 v2 h2 b2 _=>?_
 obtain ⟨g2,_,_⟩ := yH g1.2 h2
 exact (axP_tell g2.2 b2 1 v2).ret
theorem zaU (a b:Int):ke mkP (fun m=>hilbert_maker_k.f m a b):=(uE _ _).two fun v=>(uE _ _).two fun v=>(uI _ _).ret
theorem sP_tell {t:List Nd} {l:List Ln} (ht:Wf t) (hl:l.length ≤ 4096) (a b c:Int):Tell mkP (hilbert_maker_s.f ⟨some t,l,0⟩ a b c) (sR a b c t l):=by
 refine (jl ht hl b c).two (fun _=>by dsimp only; repeat (first | exact (uI _ _).ret | (refine (uE _ _).two fun _=>?_; dsimp only))) fun t1 l1 v1 h1 b1 _=>?_
 obtain ⟨g1,_,_⟩ := yH ht h1
 refine (jl g1.2 b1 a v1).two (fun _=>by dsimp only; repeat (first | exact (uI _ _).ret | (refine (uE _ _).two fun _=>?_; dsimp only))) fun t2 l2 v2 h2 b2 _=>?_
 obtain ⟨g2,_,_⟩ := yH g1.2 h2
 refine (jl g2.2 b2 a b).two (fun _=>by dsimp only; repeat (first | exact (uI _ _).ret | (refine (uE _ _).two fun _=>?_; dsimp only))) fun t3 l3 v3 h3 b3 _=>?_
 obtain ⟨g3,_,_⟩ := yH g2.2 h3
 refine (jl g3.2 b3 a c).two (fun _=>by dsimp only; repeat (first | exact (uI _ _).ret | (refine (uE _ _).two fun _=>?_; dsimp only))) fun t4 l4 v4 h4 b4 _=>?_
 obtain ⟨g4,_,_⟩ := yH g3.2 h4
 refine (jl g4.2 b4 v3 v4).two (fun _=>by dsimp only; repeat (first | exact (uI _ _).ret | (refine (uE _ _).two fun _=>?_; dsimp only))) fun t5 l5 v5 h5 b5 _=>?_
 obtain ⟨g5,_,_⟩ := yH g4.2 h5
 refine (jl g5.2 b5 v2 v5).two (fun _=>(uI _ _).ret) fun t6 l6 v6 h6 b6 _=>?_
 obtain ⟨g6,_,_⟩ := yH g5.2 h6
 exact (axP_tell g6.2 b6 2 v6).ret
theorem sP_still (a b c:Int):ke mkP (fun m=>hilbert_maker_s.f m a b c):=by unfold hilbert_maker_s.f; repeat (first | exact (uI _ _).ret | (refine (uE _ _).two fun _=>?_; dsimp only))
-- the document
theorem uK {t:List Nd} {l:List Ln} (ht:Wf t) (hl:l.length ≤ 4096) (a b:Int):Tell mkD (ref16_maker_imp.f ⟨some t,l,0⟩ a b) (impR a b t l):=by
 have h1:ref16_maker_imp.f ⟨some t,l,0⟩ a b=some (⟨some (putS t (impN a b)).1,l,(putS t (impN a b)).2.2⟩,(putS t (impN a b)).2.1):=by
  unfold ref16_maker_imp.f ref16_maker_two.f ref03_T_Two.f
  simp only [ne_eq,not_true_eq_false,decide_false,Bool.false_eq_true,if_false,impN_eq,docPut (n:=impN a b) ht.len small0,Option.bind_some]
 rw [h1]
 unfold impR
 split
 ·rename_i he
  rw [he]
  exact ⟨⟨hl,(putZ ht he).2.1.len⟩,rfl⟩
 ·rename_i he
  exact ⟨he,_,by rw [put_no he]⟩
theorem vJ (a b:Int):ke mkD (fun m=>ref16_maker_imp.f m a b):=fun t l e he=>⟨0,by simp [ref16_maker_imp.f,ref16_maker_two.f,he]⟩
theorem putD_tell {t:List Nd} {l:List Ln} (ht:Wf t) (hl:l.length ≤ 4096) (k f a b:Int):Tell mkD (ref16_maker_put.f ⟨some t,l,0⟩ k f a b) (kG ⟨k,f,a,b⟩ t l):=by
 unfold ref16_maker_put.f kG
 by_cases h:4096 ≤ l.length
 ·have h1:(4096:Int) ≤ (l.length:Int):=by omega
  rw [if_pos h]
  exact ⟨by decide,0,by simp [h1]⟩
 ·have h1:¬ (4096:Int) ≤ (l.length:Int):=by omega
  have h2:(l.length + [(⟨k,f,a,b⟩ : Ln)].length) * 32 ≤ 140737488355328:=by simp; omega
  rw [if_neg h]
  refine ⟨⟨by simp; omega,ht.len⟩,?_⟩
  simp only [h1,decide_true,decide_false,Bool.and_false,Bool.false_eq_true,if_false,Option.bind_some,ne_eq,not_true_eq_false,if_true,h2,chk]
  rw [wrap_small (by simp; omega)]
  simp
theorem uc (k f a b:Int):ke mkD (fun m=>ref16_maker_put.f m k f a b):=fun t l e he=>⟨0,by simp [ref16_maker_put.f,he]⟩
theorem mpD_tell {t:List Nd} {l:List Ln} (ht:Wf t) (hl:l.length ≤ 4096) {a b:Int} (ha:inb a l.length=true) (hf:inb (at_ Ln.z l a).form t.length=true):Tell mkD (ref16_maker_mp.f ⟨some t,l,0⟩ a b) (mpR a b t l):=by
 unfold ref16_maker_mp.f mpR
 simp only [ne_eq,not_true_eq_false,decide_false,Bool.false_eq_true,if_false,chk,ha,hf,if_true,Option.isSome_some,Option.getD_some,zbL hf]
 exact (putD_tell ht hl _ _ _ _).ret
theorem vG (a b:Int):ke mkD (fun m=>ref16_maker_mp.f m a b):=fun t l e he=>⟨0,by simp [ref16_maker_mp.f,he]⟩
theorem kD_tell {t:List Nd} {l:List Ln} (ht:Wf t) (hl:l.length ≤ 4096) (a b:Int):Tell mkD (ref16_maker_k.f ⟨some t,l,0⟩ a b) (kR a b t l):=by
 refine (uK ht hl b a).two (fun v=>(vJ _ _).two fun v=>(uc _ _ _ _).ret) fun t1 l1 v1 h1 b1 _=>?_
 obtain ⟨g1,_,_⟩ := yH ht h1
 refine (uK g1.2 b1 a v1).two (fun v=>(uc _ _ _ _).ret) fun t2 l2 v2 h2 b2 _=>?_
 obtain ⟨g2,_,_⟩ := yH g1.2 h2
 exact (putD_tell g2.2 b2 1 v2 0 0).ret
theorem zaQ (a b:Int):ke mkD (fun m=>ref16_maker_k.f m a b):=(vJ _ _).two fun v=>(vJ _ _).two fun v=>(uc _ _ _ _).ret
theorem sD_tell {t:List Nd} {l:List Ln} (ht:Wf t) (hl:l.length ≤ 4096) (a b c:Int):Tell mkD (ref16_maker_s.f ⟨some t,l,0⟩ a b c) (sR a b c t l):=by
 refine (uK ht hl b c).two (fun _=>by dsimp only; repeat (first | exact (uc _ _ _ _).ret | (refine (vJ _ _).two fun _=>?_; dsimp only))) fun t1 l1 v1 h1 b1 _=>?_
 obtain ⟨g1,_,_⟩ := yH ht h1
 refine (uK g1.2 b1 a v1).two (fun _=>by dsimp only; repeat (first | exact (uc _ _ _ _).ret | (refine (vJ _ _).two fun _=>?_; dsimp only))) fun t2 l2 v2 h2 b2 _=>?_
 obtain ⟨g2,_,_⟩ := yH g1.2 h2
 refine (uK g2.2 b2 a b).two (fun _=>by dsimp only; repeat (first | exact (uc _ _ _ _).ret | (refine (vJ _ _).two fun _=>?_; dsimp only))) fun t3 l3 v3 h3 b3 _=>?_
 obtain ⟨g3,_,_⟩ := yH g2.2 h3
 refine (uK g3.2 b3 a c).two (fun _=>by dsimp only; repeat (first | exact (uc _ _ _ _).ret | (refine (vJ _ _).two fun _=>?_; dsimp only))) fun t4 l4 v4 h4 b4 _=>?_
 obtain ⟨g4,_,_⟩ := yH g3.2 h4
 refine (uK g4.2 b4 v3 v4).two (fun _=>by dsimp only; repeat (first | exact (uc _ _ _ _).ret | (refine (vJ _ _).two fun _=>?_; dsimp only))) fun t5 l5 v5 h5 b5 _=>?_
 obtain ⟨g5,_,_⟩ := yH g4.2 h5
 refine (uK g5.2 b5 v2 v5).two (fun _=>(uc _ _ _ _).ret) fun t6 l6 v6 h6 b6 _=>?_
 obtain ⟨g6,_,_⟩ := yH g5.2 h6
 exact (putD_tell g6.2 b6 2 v6 0 0).ret
theorem sD_still (a b c:Int):ke mkD (fun m=>ref16_maker_s.f m a b c):=by unfold ref16_maker_s.f; repeat (first | exact (uc _ _ _ _).ret | (refine (vJ _ _).two fun _=>?_; dsimp only))
end Go.Proofs.YtflieamjacclnaaGreatDoor
end
section
namespace Go.Proofs.YtflieamjacclnaaGreatDoor
open Gw
theorem ax_pre {t t':List Nd} (hw:Wf t) (g:t <+: t') {k i:Int} (hi:inb i t.length=true) (h:axS t k i=true):axS t' k i=true:=by
 have e0:=zaR g hi
 have k0:(nd t i).kind=5:=by
  unfold axS at h
  simp only [Bool.and_eq_true,decide_eq_true_eq] at h
  exact h.1
 have hl:=hw.l5 hi k0
 have hr:=hw.r5 hi k0
 have e1:=zaR g hl
 have e2:=zaR g hr
 unfold axS at h ⊢
 simp only [e0,e1,e2] at h ⊢
 by_cases y5:(nd t (nd t i).r).kind=5
 ·have h3:=hw.l5 hr y5
  have h4:=hw.r5 hr y5
  have e3:=zaR g h3
  have e4:=zaR g h4
  simp only [e3,e4] at h ⊢
  by_cases x5:(nd t (nd t i).l).kind=5
  ·have e5:=zaR g (hw.r5 hl x5)
   simp only [e5] at h ⊢
   by_cases c5:(nd t (nd t (nd t i).r).r).kind=5
   ·have e6:=zaR g (hw.l5 h4 c5)
    simp only [e6] at h ⊢; exact h
   ·simp only [c5,decide_false,Bool.false_and,Bool.and_false] at h ⊢; exact h
  ·simp only [x5,decide_false,Bool.false_and,Bool.and_false] at h ⊢; exact h
 ·simp only [y5,decide_false,Bool.false_and] at h ⊢; exact h
theorem jb {t:List Nd} (hw:Wf t) {u v a b:Int} (h:Imp t u a b) (k:Imp t v a b):u=v:=by
 have h1:=zC h.1
 have h2:=zC k.1
 have e1 : ∀ {i:Int},inb i t.length=true → ∃ (hi:i.toNat < t.length),nd t i=t[i.toNat]:=fun {i} hi=>by
  have:=zC hi
  have hlt:i.toNat < t.length:=by omega
  refine ⟨hlt,?_⟩
  rw [← zbL hi]; unfold at_; simp [List.getD_eq_getElem?_getD,hlt]
 obtain ⟨l1,q1⟩ := e1 h.1
 obtain ⟨l2,q2⟩ := e1 k.1
 have:t[u.toNat]=t[v.toNat]:=by rw [← q1,← q2,h.2,k.2]
 have:=(List.getElem_inj hw.nodup).1 this
 omega
theorem at_pre {l l':List Ln} (h:l <+: l') {i:Int} (hi:inb i l.length=true):at_ Ln.z l' i=at_ Ln.z l i:=by
 obtain ⟨r,rfl⟩ := h
 have h1:=zC hi
 have h2:i.toNat < l.length:=by omega
 unfold at_
 rw [List.getD_eq_getElem?_getD,List.getElem?_append_left h2,← List.getD_eq_getElem?_getD]
def HasF (l:List Ln) (v f:Int):Prop:=inb v l.length=true∧(at_ Ln.z l v).form=f
theorem HasF.pre {l l':List Ln} {v f:Int} (h:HasF l v f) (g:l <+: l'):HasF l' v f:=⟨zbw g h.1,by rw [at_pre g h.1]; exact h.2⟩
theorem HasF.last (l:List Ln) (x:Ln):HasF (l ++ [x]) l.length x.form:=⟨yV (by omega) (by simp; omega),by unfold at_; simp⟩
def All (t:List Nd) (hy:List Int) (l:List Ln):Prop:=jz t l=true ∧ ∀ j:Int,inb j l.length=true→yY t hy l j=true
theorem right_pre {t:List Nd} {hy:List Int} {l l':List Ln} (g:l <+: l') {j:Int} (hj:inb j l.length=true) (h:yY t hy l j=true):yY t hy l' j=true:=by
 have h1:=zC hj
 unfold yY at h ⊢
 rw [at_pre g hj]
 by_cases k:(at_ Ln.z l j).kind=11
 ·simp only [k,if_true,Bool.and_eq_true,decide_eq_true_eq] at h ⊢
  obtain ⟨⟨⟨⟨⟨⟨a0,a1⟩,b0⟩,b1⟩,c⟩,d⟩,e⟩ := h
  have ia:inb (at_ Ln.z l j).a l.length=true:=yV a0 (by omega)
  have ib:inb (at_ Ln.z l j).b l.length=true:=yV b0 (by omega)
  rw [at_pre g ia,at_pre g ib]
  exact ⟨⟨⟨⟨⟨⟨a0,a1⟩,b0⟩,b1⟩,c⟩,d⟩,e⟩
 ·simp only [k,if_false] at h ⊢; exact h
theorem right_grow {t t':List Nd} (hw:Wf t) (g:t <+: t') {hy:List Int} {l:List Ln} (hf:jz t l=true) {j:Int} (hj:inb j l.length=true) (h:yY t hy l j=true):yY t' hy l j=true:=by
 have h1:=zC hj
 unfold yY at h ⊢
 by_cases k:(at_ Ln.z l j).kind=11
 ·simp only [k,if_true,Bool.and_eq_true,decide_eq_true_eq] at h ⊢
  obtain ⟨⟨⟨⟨⟨⟨a0,a1⟩,b0⟩,b1⟩,c⟩,d⟩,e⟩ := h
  have ia:inb (at_ Ln.z l j).a l.length=true:=yV a0 (by omega)
  rw [zaR g (zaB hf ia)]
  exact ⟨⟨⟨⟨⟨⟨a0,a1⟩,b0⟩,b1⟩,c⟩,d⟩,e⟩
 ·simp only [k,if_false,Bool.and_eq_true] at h ⊢
  refine ⟨h.1,?_⟩
  by_cases k10:(at_ Ln.z l j).kind=10
  ·rw [if_pos k10] at h ⊢; exact h.2
  ·rw [if_neg k10] at h ⊢
   exact ax_pre hw g (zaB hf hj) h.2
theorem forms_grow {t t':List Nd} (g:t <+: t') {l:List Ln} (h:jz t l=true):jz t' l=true :=
 List.all_eq_true.2 fun x hx=>zbw g (List.all_eq_true.1 h x hx)
theorem All.grow {t t':List Nd} {hy:List Int} {l:List Ln} (h:All t hy l) (hw:Wf t) (g:t <+: t'):All t' hy l:=⟨forms_grow g h.1,fun j hj=>right_grow hw g h.1 hj (h.2 j hj)⟩
theorem All.push {t:List Nd} {hy:List Int} {l:List Ln} {x:Ln} (h:All t hy l) (hx:inb x.form t.length=true) (hr:yY t hy (l ++ [x]) l.length=true):All t hy (l ++ [x]):=by
 refine ⟨?_,fun j hj=>?_⟩
 ·unfold jz
  rw [List.all_append]
  simp only [List.all_cons,List.all_nil,Bool.and_true,Bool.and_eq_true]
  exact ⟨h.1,hx⟩
 ·by_cases e:j=l.length
  ·rw [e]; exact hr
  ·have h1:=zC hj
   simp at h1
   have hj':inb j l.length=true:=yV h1.1 (by omega)
   exact right_pre (List.prefix_append _ _) hj' (h.2 j hj')
theorem at_last (l:List Ln) (x:Ln):at_ Ln.z (l ++ [x]) l.length=x:=by unfold at_; simp
theorem right_ax {t:List Nd} {hy:List Int} {l:List Ln} {k f:Int} (hk:k ≠ 11∧k ≠ 10) (h:axS t k f=true):yY t hy (l ++ [⟨k,f,0,0⟩]) l.length=true:=by
 unfold yY
 rw [at_last]
 simp [hk.1,hk.2,h]
structure Goes (t:List Nd) (hy:List Int) (l:List Ln) (t':List Nd) (l':List Ln):Prop where
 grown:Grown t t'
 pre:l <+: l'
 all:All t' hy l'
theorem Goes.trans {t t' t'':List Nd} {hy:List Int} {l l' l'':List Ln} (h:Goes t hy l t' l') (k:Goes t' hy l' t'' l''):Goes t hy l t'' l'':=⟨h.grown.trans k.grown,h.pre.trans k.pre,k.all⟩
theorem k_step {t t':List Nd} {hy:List Int} {l l':List Ln} {a b v:Int} (hw:Wf t) (ha:All t hy l) (h:kR a b t l = .ok t' l' v):Goes t hy l t' l'∧v + 1=l'.length ∧ ∃ f g,HasF l' v f∧Imp t' f a g∧Imp t' g b a:=by
 obtain ⟨f,g,h1,rfl,rfl,_,i1,i2⟩ := kR_ok hw h
 refine ⟨⟨h1,List.prefix_append _ _,(ha.grow hw h1.1).push i1.1 (right_ax (by decide) ?_)⟩,by simp,f,g,HasF.last _ _,i1,i2⟩
 unfold axS
 simp [i1.2,i2.2,impN]
theorem s_step {t t':List Nd} {hy:List Int} {l l':List Ln} {a b c v:Int} (hw:Wf t) (ha:All t hy l) (h:sR a b c t l = .ok t' l' v):Goes t hy l t' l'∧v + 1=l'.length ∧ ∃ f x x1 u y z,HasF l' v f∧Imp t' f x u∧Imp t' x a x1∧Imp t' x1 b c∧Imp t' u y z∧Imp t' y a b∧Imp t' z a c:=by
 obtain ⟨f,x,x1,u,y,z,h1,rfl,rfl,_,i1,i2,i3,i4,i5,i6⟩ := sR_ok hw h
 refine ⟨⟨h1,List.prefix_append _ _,(ha.grow hw h1.1).push i1.1 (right_ax (by decide) ?_)⟩,by simp,f,x,x1,u,y,z,HasF.last _ _,i1,i2,i3,i4,i5,i6⟩
 unfold axS
 simp [i1.2,i2.2,i3.2,i4.2,i5.2,i6.2,impN]
theorem mp_step {t t':List Nd} {hy:List Int} {l l':List Ln} {a b f g c v:Int} (hw:Wf t) (ha:All t hy l) (h1:HasF l a f) (h2:HasF l b g) (hi:Imp t f g c) (h:mpR a b t l = .ok t' l' v):t'=t∧Goes t hy l t l'∧v + 1=l'.length∧HasF l' v c:=by
 unfold mpR at h
 obtain ⟨q1,q2,q3,_⟩ := zae h
 rw [q1,q2,q3]
 clear h q1 q2 q3
 have e:(nd t (at_ Ln.z l a).form).r=c:=by rw [h1.2,hi.2]; rfl
 have hc:inb c t.length=true:=by
  have:=hw.r5 hi.1 (by rw [hi.2]; rfl)
  rwa [hi.2] at this
 refine ⟨rfl,⟨Grown.refl hw,List.prefix_append _ _,ha.push (by rw [e]; exact hc) ?_⟩,by simp,?_⟩
 ·have q1:=zC h1.1
  have q2:=zC h2.1
  unfold yY
  rw [at_last]
  simp only [if_true,at_pre (List.prefix_append l _) h1.1,at_pre (List.prefix_append l _) h2.1,Bool.and_eq_true,decide_eq_true_eq]
  exact ⟨⟨⟨⟨⟨⟨q1.1,q1.2⟩,q2.1⟩,q2.2⟩,by rw [h1.2,hi.2]; rfl⟩,by rw [h1.2,hi.2,h2.2]; rfl⟩,trivial⟩
 ·have:=HasF.last l ⟨11,(nd t (at_ Ln.z l a).form).r,a,b⟩
  rwa [e] at this ⊢
-- the deduction
def stepR (ls:List Ln) (img:List Int) (h i:Int):Act :=
 let x:=at_ Ln.z ls i
 if x.form=h then (impR h h).then fun hh=>(sR h hh h).then fun s=>(kR h hh).then fun k=>(mpR s k).then fun p=>(kR h h).then fun k2=>mpR p k2
 else if x.kind=11 then (sR h (at_ Ln.z ls x.b).form x.form).then fun s=>(mpR s (at_ 0 img x.a)).then fun p=>mpR p (at_ 0 img x.b)
 else (kG x).then fun a=>(kR x.form h).then fun k=>mpR k a
def dedR (ls:List Ln) (h:Int):Nat→Nat→List Int→Act
 | 0,_,_=>fun t l => .ok t l 0
 | n + 1,i,img=>fun t l=>(stepR ls img h i t l).bind fun t' l' v=>dedR ls h n (i + 1) (img.set i v) t' l'
def Imgs (ls:List Ln) (h:Int) (t:List Nd) (l:List Ln) (img:List Int) (i:Nat):Prop := ∀ j:Nat,j < i → ∃ f,HasF l (at_ 0 img j) f∧Imp t f h (at_ Ln.z ls j).form
theorem step_ok {M t t':List Nd} {hyps:List Int} {ls l l':List Ln} {img:List Int} {h v:Int} {i:Nat} (hM:Wf M) (hf:jz M ls=true) (hi:i < ls.length) (hr:yY M hyps ls i=true) (hg:Grown M t) (hh:inb h M.length=true)
  (ha:All t (hyps.filter fun x=>x ≠ h) l) (him:Imgs ls h t l img i) (hs:stepR ls img h i t l = .ok t' l' v) :
  Goes t (hyps.filter fun x=>x ≠ h) l t' l'∧v + 1=l'.length ∧ ∃ f,HasF l' v f∧Imp t' f h (at_ Ln.z ls i).form:=by
 have hw:=hg.2
 have hin:inb (i:Int) ls.length=true:=yV (by omega) (by omega)
 unfold stepR at hs
 generalize hx:at_ Ln.z ls i=x at *
 by_cases c1:x.form=h
 ·rw [if_pos c1] at hs
  obtain ⟨t1,l1,hh1,s1,k1⟩ := then_ok hs
  obtain ⟨t2,l2,sv,s2,k2⟩ := then_ok k1
  obtain ⟨t3,l3,kv,s3,k3⟩ := then_ok k2
  obtain ⟨t4,l4,pv,s4,k4⟩ := then_ok k3
  obtain ⟨t5,l5,k2v,s5,k5⟩ := then_ok k4
  clear hs k1 k2 k3 k4
  obtain ⟨g1,rfl,i1⟩ := yH hw s1
  have a1:=ha.grow hw g1.1
  obtain ⟨st2,_,f2,X,X1,U,Y,Z,F2,j1,j2,j3,j4,j5,j6⟩ := s_step g1.2 a1 s2
  obtain ⟨st3,_,f3,G,F3,m1,m2⟩ := k_step st2.grown.2 st2.all s3
  have w3:=st3.grown.2
  have p23:=st3.grown.1
  have eX1:X1=G:=jb w3 (j3.pre p23) m2
  subst eX1
  have eX:X=f3:=jb w3 (j2.pre p23) m1
  subst eX
  obtain ⟨rfl,st4,_,F4⟩ := mp_step w3 st3.all (F2.pre st3.pre) F3 (j1.pre p23) s4
  obtain ⟨st5,_,f5,G2,F5,n1,n2⟩ := k_step w3 st4.all s5
  have w5:=st5.grown.2
  have p35:=st5.grown.1
  have e1:hh1=G2:=jb w5 (i1.pre (st2.grown.1.trans (p23.trans p35))) n2
  subst e1
  have e2:Y=f5:=jb w5 (j5.pre (p23.trans p35)) n1
  subst e2
  obtain ⟨rfl,st6,e6,F6⟩ := mp_step w5 st5.all (F4.pre st5.pre) F5 (j4.pre (p23.trans p35)) k5
  have st1:Goes t (hyps.filter fun x=>x ≠ h) l1 t1 l1:=⟨g1,List.prefix_refl _,a1⟩
  exact ⟨((((st1.trans st2).trans st3).trans st4).trans st5).trans st6,e6,Z,F6,by rw [c1]; exact j6.pre (p23.trans p35)⟩
 rw [if_neg c1] at hs
 by_cases c2:x.kind=11
 ·rw [if_pos c2] at hs
  unfold yY at hr
  rw [hx] at hr
  simp only [c2,if_true,Bool.and_eq_true,decide_eq_true_eq] at hr
  obtain ⟨⟨⟨⟨⟨⟨a0,a1⟩,b0⟩,b1⟩,c⟩,d⟩,e⟩ := hr
  have ia:inb x.a ls.length=true:=yV a0 (by omega)
  have ib:inb x.b ls.length=true:=yV b0 (by omega)
  have hfa:=zaB hf ia
  have iX:Imp t (at_ Ln.z ls x.a).form (at_ Ln.z ls x.b).form x.form:=by
   refine ⟨zbw hg.1 hfa,?_⟩
   rw [zaR hg.1 hfa]
   have hb:=hM.bare hfa (.inr (.inr c))
   cases hn:nd M (at_ Ln.z ls x.a).form with
   | mk kd nm ll rr =>
    rw [hn] at c d e hb
    simp only at c d e hb
    rw [c,d,e,hb]; rfl
  obtain ⟨fa,Fa,Ia⟩ := him x.a.toNat (by omega)
  obtain ⟨fb,Fb,Ib⟩ := him x.b.toNat (by omega)
  rw [show ((x.a.toNat:Nat):Int)=x.a by omega] at Fa Ia
  rw [show ((x.b.toNat:Nat):Int)=x.b by omega] at Fb Ib
  obtain ⟨t1,l1,sv,s1,k1⟩ := then_ok hs
  obtain ⟨t2,l2,pv,s2,k2⟩ := then_ok k1
  clear hs k1
  obtain ⟨st1,_,f1,X,X1,U,Y,Z,F1,j1,j2,j3,j4,j5,j6⟩ := s_step hw ha s1
  have w1:=st1.grown.2
  have e1:X1=(at_ Ln.z ls x.a).form:=jb w1 j3 (iX.pre st1.grown.1)
  subst e1
  have e2:X=fa:=jb w1 j2 (Ia.pre st1.grown.1)
  subst e2
  obtain ⟨rfl,st2,_,F2⟩ := mp_step w1 st1.all F1 (Fa.pre st1.pre) j1 s2
  have e3:Y=fb:=jb w1 j5 (Ib.pre st1.grown.1)
  subst e3
  obtain ⟨rfl,st3,e4,F3⟩ := mp_step w1 st2.all F2 (Fb.pre (st1.pre.trans st2.pre)) j4 k2
  exact ⟨(st1.trans st2).trans st3,e4,Z,F3,j6⟩
 ·rw [if_neg c2] at hs
  obtain ⟨t1,l1,av,s1,k1⟩ := then_ok hs
  obtain ⟨t2,l2,kv,s2,k2⟩ := then_ok k1
  clear hs k1
  obtain ⟨rfl,rfl,rfl,_⟩ := zae s1
  have hfx:inb x.form M.length=true:=by have:=zaB hf hin; rwa [hx] at this
  have hst:Goes t1 (hyps.filter fun x=>x ≠ h) l t1 (l ++ [x]):=by
   refine ⟨Grown.refl hw,List.prefix_append _ _,ha.push (zbw hg.1 hfx) ?_⟩
   unfold yY at hr ⊢
   rw [hx] at hr
   rw [at_last]
   simp only [c2,if_false,Bool.and_eq_true] at hr ⊢
   refine ⟨hr.1,?_⟩
   by_cases k10:x.kind=10
   ·rw [if_pos k10] at hr ⊢
    rw [List.any_eq_true] at hr ⊢
    obtain ⟨_,y,hy,hye⟩ := hr
    have hye:=of_decide_eq_true hye
    exact ⟨y,List.mem_filter.2 ⟨hy,by simpa [hye] using c1⟩,by simpa using hye⟩
   ·rw [if_neg k10] at hr ⊢
    exact ax_pre hM hg.1 hfx hr.2
  obtain ⟨st2,_,f2,G,F2,m1,m2⟩ := k_step hw hst.all s2
  obtain ⟨rfl,st3,e3,F3⟩ := mp_step st2.grown.2 st2.all F2 ((HasF.last l x).pre st2.pre) m1 k2
  exact ⟨(hst.trans st2).trans st3,e3,G,F3,m2⟩
end Go.Proofs.YtflieamjacclnaaGreatDoor
end
section
namespace Go.Proofs.YtflieamjacclnaaGreatDoor
open Gw
def Res.rows:Res→List Nd
 | .ok t _ _=>t
 | .no t _ _=>t
def Gr (a:Act):Prop := ∀ t l,Wf t→Grown t (a t l).rows
theorem gr_imp (a b:Int):Gr (impR a b):=fun t l hw=>by
 unfold impR
 split
 ·rename_i he
  have:=putZ hw he
  exact ⟨this.1,this.2.1⟩
 ·exact Grown.refl hw
theorem gr_line (x:Ln):Gr (kG x):=fun t l hw=>by
 unfold kG
 split <;> exact Grown.refl hw
theorem vY {a:Act} {k:Int→Act} (ha:Gr a) (hk : ∀ v,Gr (k v)):Gr (a.then k):=fun t l hw=>by
 have h:=ha t l hw
 unfold Act.then Res.bind
 cases hr:a t l with
 | ok t1 l1 v=>rw [hr] at h; exact h.trans (hk v t1 l1 h.2)
 | no t1 l1 e=>rw [hr] at h; exact h
theorem gr_mp (a b:Int):Gr (mpR a b):=fun t l hw=>gr_line _ t l hw
theorem gr_k (a b:Int):Gr (kR a b):=vY (gr_imp _ _) fun _=>vY (gr_imp _ _) fun _=>gr_line _
theorem gr_s (a b c:Int):Gr (sR a b c):=vY (gr_imp _ _) fun _=>vY (gr_imp _ _) fun _=>vY (gr_imp _ _) fun _=>vY (gr_imp _ _) fun _=>vY (gr_imp _ _) fun _=>vY (gr_imp _ _) fun _=>gr_line _
theorem gr_step (ls:List Ln) (img:List Int) (h i:Int):Gr (stepR ls img h i):=by
 unfold stepR
 intro t l hw
 simp only
 split
 ·exact vY (gr_imp _ _) (fun _=>vY (gr_s _ _ _) fun _=>vY (gr_k _ _) fun _=>vY (gr_mp _ _) fun _=>vY (gr_k _ _) fun _=>gr_mp _ _) t l hw
 split
 ·exact vY (gr_s _ _ _) (fun _=>vY (gr_mp _ _) fun _=>gr_mp _ _) t l hw
 ·exact vY (gr_line _) (fun _=>vY (gr_k _ _) fun _=>gr_mp _ _) t l hw
theorem gr_ded (ls:List Ln) (h:Int) : ∀ (n i:Nat) (img:List Int),Gr (dedR ls h n i img)
 | 0,_,_=>fun t l hw=>Grown.refl hw
 | n + 1,i,img=>fun t l hw=>by
  have h1:=gr_step ls img h i t l hw
  unfold dedR Res.bind
  cases hr:stepR ls img h i t l with
  | ok t1 l1 v=>rw [hr] at h1; exact h1.trans (gr_ded ls h n (i + 1) _ t1 l1 h1.2)
  | no t1 l1 e=>rw [hr] at h1; exact h1
structure Ready (M:List Nd) (hyps:List Int) (ls:List Ln) (h:Int) (t:List Nd) (l:List Ln) (img:List Int) (i:Nat):Prop where
 wf:Wf M
 forms:jz M ls=true
 i_lt:i < ls.length
 right:yY M hyps ls i=true
 grown:Grown M t
 h_in:inb h M.length=true
 all:All t (hyps.filter fun x=>x ≠ h) l
 imgs:Imgs ls h t l img i
 len:l.length ≤ 4096
 imgl:img.length=ls.length
def stepP (ls:List Ln) (img:List Int) (h i:Int) (m:PMaker):Option (PMaker × Int) :=
 if (at_ Ln.z ls i).form=h then (hilbert_maker_imp.f m h h).bind fun r25=>(hilbert_maker_s.f r25.1 h r25.2 h).bind fun r28=>(hilbert_maker_k.f r28.1 h r25.2).bind fun r31=>(hilbert_maker_mp.f r31.1 r28.2 r31.2).bind fun r34=>(hilbert_maker_k.f r34.1 h h).bind fun r37=>hilbert_maker_mp.f r37.1 r34.2 r37.2
 else if (at_ Ln.z ls i).kind=11 then (hilbert_maker_s.f m h ((at_ Ln.z ls ((at_ Ln.z ls i).b)).form) ((at_ Ln.z ls i).form)).bind fun r48=>(hilbert_maker_mp.f r48.1 r48.2 (at_ (0:Int) img ((at_ Ln.z ls i).a))).bind fun r52=>hilbert_maker_mp.f r52.1 r52.2 (at_ (0:Int) img ((at_ Ln.z ls i).b))
 else (hilbert_maker_line.f m (at_ Ln.z ls i)).bind fun r72=>(hilbert_maker_k.f r72.1 ((at_ Ln.z ls i).form) h).bind fun r75=>hilbert_maker_mp.f r75.1 r75.2 r72.2
theorem stepP_tell {M:List Nd} {hyps:List Int} {ls l:List Ln} {h:Int} {t:List Nd} {img:List Int} {i:Nat} (R:Ready M hyps ls h t l img i):Tell mkP (stepP ls img h i ⟨some t,l,0⟩) (stepR ls img h i t l):=by
 have hw:=R.grown.2
 have hin:inb (i:Int) ls.length=true:=yV (by omega) (by have:=R.i_lt; omega)
 have hr:=R.right
 unfold stepP stepR
 generalize hx:at_ Ln.z ls i=x at *
 by_cases c1:x.form=h
 ·rw [if_pos c1,if_pos c1]
  refine (jl hw R.len h h).two (fun _=>by dsimp only; refine (sP_still _ _ _).two fun _=>?_; dsimp only; refine (zaU _ _).two fun _=>?_; dsimp only; refine (vH _ _).two fun _=>?_; dsimp only; exact (zaU _ _).two fun _=>vH _ _) fun t1 l1 v1 h1 b1 _=>?_
  obtain ⟨g1,rfl,i1⟩ := yH hw h1
  refine (sP_tell g1.2 b1 _ _ _).two (fun _=>by dsimp only; refine (zaU _ _).two fun _=>?_; dsimp only; refine (vH _ _).two fun _=>?_; dsimp only; exact (zaU _ _).two fun _=>vH _ _) fun t2 l2 v2 h2 b2 _=>?_
  obtain ⟨st2,e2,_,_,_,_,_,_,F2,_⟩ := s_step g1.2 (R.all.grow hw g1.1) h2
  refine (kP_tell st2.grown.2 b2 _ _).two (fun _=>by dsimp only; refine (vH _ _).two fun _=>?_; dsimp only; exact (zaU _ _).two fun _=>vH _ _) fun t3 l3 v3 h3 b3 _=>?_
  obtain ⟨st3,e3,_⟩ := k_step st2.grown.2 st2.all h3
  refine (mpP_tell st3.grown.2 b3 (F2.pre st3.pre).1).two (fun _=>by dsimp only; exact (zaU _ _).two fun _=>vH _ _) fun t4 l4 v4 h4 b4 _=>?_
  obtain ⟨q1,q2,q3,_⟩ := zae (show kG _ _ _=_ from h4)
  have hi4:inb v4 l4.length=true:=by rw [q2,q3]; exact yV (by omega) (by simp; omega)
  refine (kP_tell (by rw [q1]; exact st3.grown.2) b4 _ _).two (fun _=>vH _ _) fun t5 l5 v5 h5 b5 _=>?_
  obtain ⟨f,g,g5,rfl,_,_,_,_⟩ := kR_ok (by rw [q1]; exact st3.grown.2) h5
  exact mpP_tell g5.2 b5 (zbw (List.prefix_append _ _) hi4)
 rw [if_neg c1,if_neg c1]
 by_cases c2:x.kind=11
 ·rw [if_pos c2,if_pos c2]
  refine (sP_tell hw R.len _ _ _).two (fun _=>by dsimp only; refine (vH _ _).two fun _=>?_; dsimp only; exact vH _ _) fun t2 l2 v2 h2 b2 _=>?_
  obtain ⟨st2,e2,_,_,_,_,_,_,F2,_⟩ := s_step hw R.all h2
  refine (mpP_tell st2.grown.2 b2 F2.1).two (fun _=>vH _ _) fun t4 l4 v4 h4 b4 _=>?_
  obtain ⟨q1,q2,q3,_⟩ := zae (show kG _ _ _=_ from h4)
  have hi4:inb v4 l4.length=true:=by rw [q2,q3]; exact yV (by omega) (by simp; omega)
  exact mpP_tell (by rw [q1]; exact st2.grown.2) b4 hi4
 ·rw [if_neg c2,if_neg c2]
  refine (lineP_tell hw R.len _).two (fun _=>by dsimp only; refine (zaU _ _).two fun _=>?_; dsimp only; exact vH _ _) fun t1 l1 v1 h1 b1 _=>?_
  obtain ⟨q1,q2,q3,_⟩ := zae h1
  refine (kP_tell (by rw [q1]; exact hw) b1 _ _).two (fun _=>vH _ _) fun t2 l2 v2 h2 b2 _=>?_
  obtain ⟨f,g,g5,q4,q5,_,_,_⟩ := kR_ok (by rw [q1]; exact hw) h2
  exact mpP_tell g5.2 b2 (by rw [q4,q5]; exact yV (by omega) (by simp; omega))
def stepD (ls:List Ln) (img:List Int) (h i:Int) (m:PRMaker):Option (PRMaker × Int) :=
 if (at_ Ln.z ls i).form=h then (ref16_maker_imp.f m h h).bind fun r17=>(ref16_maker_s.f r17.1 h r17.2 h).bind fun r20=>(ref16_maker_imp.f r20.1 h h).bind fun r23=>(ref16_maker_k.f r23.1 h r23.2).bind fun r26=>(ref16_maker_mp.f r26.1 r20.2 r26.2).bind fun r29=>(ref16_maker_k.f r29.1 h h).bind fun r32=>ref16_maker_mp.f r32.1 r29.2 r32.2
 else if ¬ (at_ Ln.z ls i).kind=11 then (ref16_maker_put.f m ((at_ Ln.z ls i).kind) ((at_ Ln.z ls i).form) 0 0).bind fun r41=>(ref16_maker_k.f r41.1 ((at_ Ln.z ls i).form) h).bind fun r44=>ref16_maker_mp.f r44.1 r44.2 r41.2
 else (ref16_maker_s.f m h ((at_ Ln.z ls ((at_ Ln.z ls i).b)).form) ((at_ Ln.z ls i).form)).bind fun r54=>(ref16_maker_mp.f r54.1 r54.2 (at_ (0:Int) img ((at_ Ln.z ls i).a))).bind fun r58=>ref16_maker_mp.f r58.1 r58.2 (at_ (0:Int) img ((at_ Ln.z ls i).b))
theorem impR_again {t:List Nd} {l:List Ln} {v a b:Int} (hw:Wf t) (h:Imp t v a b):impR a b t l = .ok t l v:=by
 have h1:=zC h.1
 have hlt:v.toNat < t.length:=by omega
 have e:t[v.toNat]=impN a b:=by
  rw [← h.2,← zbL h.1]; unfold at_; simp [List.getD_eq_getElem?_getD,hlt]
 have hf:y2 t (impN a b)=0:=by
  have h5:=hw.fits v.toNat _ (by rw [List.getElem?_eq_getElem hlt,e])
  have h6 : ∀ j,vm (t.take v.toNat) j=true→vm t j=true:=fun j hj=>by
   simp only [vm,Bool.and_eq_true,decide_eq_true_eq,List.length_take] at hj ⊢; omega
  unfold y2 impN at h5 ⊢
  simp only [show ¬ ((5:Int)=1) by decide,show ¬ ((5:Int)=2) by decide,if_false,or_true,if_true] at h5 ⊢
  split at h5
  ·simp at h5
  ·rename_i hh
   simp only [not_or,Bool.not_eq_false] at hh
   rw [if_neg (by simp only [not_or,Bool.not_eq_false]; exact ⟨⟨hh.1.1,h6 _ hh.1.2⟩,h6 _ hh.2⟩)]
 have hk:t.idxOf? (impN a b)=some v.toNat:=by
  rw [List.idxOf?_eq_some_iff]
  refine ⟨hlt,by simpa using e,fun j hj=>?_⟩
  intro q
  have q:t[j]=impN a b:=by simpa using q
  have:=(List.getElem_inj (i:=j) (j:=v.toNat) (h₀:=by omega) (h₁:=hlt) hw.nodup).1 (q.trans e.symm)
  omega
 unfold impR
 rw [put_old hf hk]
 simp only [if_true]
 rw [show ((v.toNat:Nat):Int)=v by omega]
theorem stepD_tell {M:List Nd} {hyps:List Int} {ls l:List Ln} {h:Int} {t:List Nd} {img:List Int} {i:Nat} (R:Ready M hyps ls h t l img i):Tell mkD (stepD ls img h i ⟨some t,l,0⟩) (stepR ls img h i t l):=by
 have hw:=R.grown.2
 have hin:inb (i:Int) ls.length=true:=yV (by omega) (by have:=R.i_lt; omega)
 have hr:=R.right
 unfold stepD stepR
 generalize hx:at_ Ln.z ls i=x at *
 by_cases c1:x.form=h
 ·rw [if_pos c1,if_pos c1]
  refine (uK hw R.len h h).two (fun _=>by dsimp only; refine (sD_still _ _ _).two fun _=>?_; dsimp only; refine (vJ _ _).two fun _=>?_; dsimp only; refine (zaQ _ _).two fun _=>?_; dsimp only; refine (vG _ _).two fun _=>?_; dsimp only; exact (zaQ _ _).two fun _=>vG _ _) fun t1 l1 v1 h1 b1 _=>?_
  obtain ⟨g1,rfl,i1⟩ := yH hw h1
  have st1:Goes t (hyps.filter fun x=>x ≠ h) l1 t1 l1:=⟨g1,List.prefix_refl _,R.all.grow hw g1.1⟩
  refine (sD_tell g1.2 b1 _ _ _).two (fun _=>by dsimp only; refine (vJ _ _).two fun _=>?_; dsimp only; refine (zaQ _ _).two fun _=>?_; dsimp only; refine (vG _ _).two fun _=>?_; dsimp only; exact (zaQ _ _).two fun _=>vG _ _) fun t2 l2 v2 h2 b2 c2=>?_
  obtain ⟨st2,e2,f2,X,X1,U,Y,Z,F2,j1,j2,j3,j4,j5,j6⟩ := s_step g1.2 st1.all h2
  have hag:=impR_again (l:=l2) st2.grown.2 (i1.pre st2.grown.1)
  have hd:=uK st2.grown.2 b2 h h
  rw [hag] at hd
  rw [hd.2]
  simp only [Option.bind_some]
  refine (kD_tell st2.grown.2 b2 _ _).two (fun _=>by dsimp only; refine (vG _ _).two fun _=>?_; dsimp only; exact (zaQ _ _).two fun _=>vG _ _) fun t3 l3 v3 h3 b3 _=>?_
  obtain ⟨st3,e3,f3,G,F3,m1,m2⟩ := k_step st2.grown.2 st2.all h3
  have w3:=st3.grown.2
  have eX1:X1=G:=jb w3 (j3.pre st3.grown.1) m2
  subst eX1
  have eX:X=f3:=jb w3 (j2.pre st3.grown.1) m1
  subst eX
  have F2':=F2.pre st3.pre
  refine (mpD_tell w3 b3 F2'.1 (by rw [F2'.2]; exact (j1.pre st3.grown.1).1)).two (fun _=>by dsimp only; exact (zaQ _ _).two fun _=>vG _ _) fun t4 l4 v4 h4 b4 _=>?_
  obtain ⟨rfl,st4,_,F4⟩ := mp_step w3 st3.all F2' F3 (j1.pre st3.grown.1) h4
  refine (kD_tell w3 b4 _ _).two (fun _=>vG _ _) fun t5 l5 v5 h5 b5 _=>?_
  obtain ⟨st5,_,f5,G2,F5,n1,n2⟩ := k_step w3 st4.all h5
  have F4':=F4.pre st5.pre
  exact mpD_tell st5.grown.2 b5 F4'.1 (by rw [F4'.2]; exact zbw (st3.grown.1.trans st5.grown.1) j4.1)
 rw [if_neg c1,if_neg c1]
 by_cases c2:x.kind=11
 ·rw [if_neg (by simpa using c2),if_pos c2]
  unfold yY at hr
  rw [hx] at hr
  simp only [c2,if_true,Bool.and_eq_true,decide_eq_true_eq] at hr
  obtain ⟨⟨⟨⟨⟨⟨a0,a1⟩,b0⟩,b1⟩,c⟩,d⟩,e⟩ := hr
  have hil:=R.i_lt
  have ia:inb x.a ls.length=true:=yV a0 (by omega)
  have hfa:=zaB R.forms ia
  have iX:Imp t (at_ Ln.z ls x.a).form (at_ Ln.z ls x.b).form x.form:=by
   refine ⟨zbw R.grown.1 hfa,?_⟩
   rw [zaR R.grown.1 hfa]
   have hb:=R.wf.bare hfa (.inr (.inr c))
   cases hn:nd M (at_ Ln.z ls x.a).form with
   | mk kd nm ll rr =>
    rw [hn] at c d e hb
    simp only at c d e hb
    rw [c,d,e,hb]; rfl
  obtain ⟨fa,Fa,Ia⟩ := R.imgs x.a.toNat (by omega)
  rw [show ((x.a.toNat:Nat):Int)=x.a by omega] at Fa Ia
  refine (sD_tell hw R.len _ _ _).two (fun _=>by dsimp only; refine (vG _ _).two fun _=>?_; dsimp only; exact vG _ _) fun t1 l1 v1 h1 q1 _=>?_
  obtain ⟨st1,_,f1,X,X1,U,Y,Z,F1,j1,j2,j3,j4,j5,j6⟩ := s_step hw R.all h1
  have w1:=st1.grown.2
  have e1:X1=(at_ Ln.z ls x.a).form:=jb w1 j3 (iX.pre st1.grown.1)
  subst e1
  have e2:X=fa:=jb w1 j2 (Ia.pre st1.grown.1)
  subst e2
  refine (mpD_tell w1 q1 F1.1 (by rw [F1.2]; exact j1.1)).two (fun _=>vG _ _) fun t2 l2 v2 h2 q2 _=>?_
  obtain ⟨rfl,st2,_,F2⟩ := mp_step w1 st1.all F1 (Fa.pre st1.pre) j1 h2
  exact mpD_tell w1 q2 F2.1 (by rw [F2.2]; exact j4.1)
 ·rw [if_pos (by simpa using c2),if_neg c2]
  have hx0:x=⟨x.kind,x.form,0,0⟩ := by
   unfold yY at hr
   rw [hx] at hr
   simp only [c2,if_false,Bool.and_eq_true,decide_eq_true_eq] at hr
   obtain ⟨⟨ha,hb⟩,_⟩ := hr
   cases x; simp only at ha hb; subst ha hb; rfl
  have hfx:inb x.form M.length=true:=by have:=zaB R.forms hin; rwa [hx] at this
  have e0:kG x=kG ⟨x.kind,x.form,0,0⟩ := congrArg kG hx0
  rw [e0]
  refine (putD_tell hw R.len _ _ _ _).two (fun _=>by dsimp only; refine (zaQ _ _).two fun _=>?_; dsimp only; exact vG _ _) fun t1 l1 v1 h1 b1 _=>?_
  obtain ⟨q1,q2,q3,_⟩ := zae h1
  refine (kD_tell (by rw [q1]; exact hw) b1 _ _).two (fun _=>vG _ _) fun t2 l2 v2 h2 b2 _=>?_
  obtain ⟨f,g,g5,q4,q5,_,i5,_⟩ := kR_ok (by rw [q1]; exact hw) h2
  refine mpD_tell g5.2 b2 (by rw [q4,q5]; exact yV (by omega) (by simp; omega)) ?_
  rw [q4,q5,at_last]; exact i5.1
theorem ready_b {M:List Nd} {hyps:List Int} {ls l:List Ln} {h:Int} {t:List Nd} {img:List Int} {i:Nat} (R:Ready M hyps ls h t l img i) (c2:(at_ Ln.z ls i).kind=11):inb (at_ Ln.z ls i).b ls.length=true∧inb (at_ Ln.z ls i).a img.length=true∧inb (at_ Ln.z ls i).b img.length=true:=by
 have hr:=R.right
 have hi:=R.i_lt
 unfold yY at hr
 simp only [c2,if_true,Bool.and_eq_true,decide_eq_true_eq] at hr
 obtain ⟨⟨⟨⟨⟨⟨a0,a1⟩,b0⟩,b1⟩,c⟩,d⟩,e⟩ := hr
 rw [R.imgl]
 exact ⟨yV b0 (by omega),yV a0 (by omega),yV b0 (by omega)⟩
theorem b0P {M:List Nd} {hyps:List Int} {ls l:List Ln} {h:Int} {t:List Nd} {img:List Int} {i:Nat} (R:Ready M hyps ls h t l img i):hilbert_deduce.b0 ls h i img ⟨some t,l,0⟩ = (stepP ls img h i ⟨some t,l,0⟩).bind fun r=>some (.go (img.set i r.2,r.1)):=by
 have hii:inb (i:Int) img.length=true:=by rw [R.imgl]; exact yV (by omega) (by have:=R.i_lt; omega)
 unfold hilbert_deduce.b0 stepP
 simp only [ne_eq,not_true_eq_false,decide_false,Bool.false_eq_true,if_false,hii,chk,if_true,Int.toNat_natCast]
 by_cases c1:(at_ Ln.z ls i).form=h
 ·simp only [c1,decide_true,if_true,Option.bind_assoc]
 ·by_cases c2:(at_ Ln.z ls i).kind=11
  ·obtain ⟨e1,e2,e3⟩ := ready_b R c2
   simp only [c1,c2,decide_false,decide_true,Bool.false_eq_true,if_false,if_true,Option.bind_assoc,e1,e2,e3]
  ·simp only [c1,c2,decide_false,Bool.false_eq_true,if_false,Option.bind_assoc]
structure Loop16 (M:List Nd) (hyps:List Int) (ls:List Ln) (h:Int):Prop where
 wf:Wf M
 forms:jz M ls=true
 right : ∀ j:Nat,j < ls.length→yY M hyps ls j=true
 h_in:inb h M.length=true
theorem Imgs.set {ls l l':List Ln} {h:Int} {t t':List Nd} {img:List Int} {i:Nat} {v:Int} (him:Imgs ls h t l img i) (hl:i < img.length) (g:t <+: t') (p:l <+: l') {f:Int} (F:HasF l' v f) (I:Imp t' f h (at_ Ln.z ls i).form):Imgs ls h t' l' (img.set i v) (i + 1):=fun j hj=>by
 have hset:at_ 0 (img.set i v) (j:Int)=if j=i then v else at_ 0 img (j:Int):=by
  unfold at_
  rw [Int.toNat_natCast,List.getD_eq_getElem?_getD,List.getD_eq_getElem?_getD,List.getElem?_set]
  by_cases q:i=j
  ·subst q; rw [if_pos rfl,if_pos hl,if_pos rfl]; rfl
  ·rw [if_neg q,if_neg (fun q'=>q q'.symm)]
 rw [hset]
 by_cases q:j=i
 ·rw [if_pos q,q]; exact ⟨f,F,I⟩
 ·rw [if_neg q]
  obtain ⟨f2,F2,I2⟩ := him j (by omega)
  exact ⟨f2,F2.pre p,I2.pre g⟩
def DP (o:(List Int × PMaker) ⊕ (Tb × List Ln × Int)):Res→Prop
 | .ok t l _ => ∃ img',o = .inl (img',⟨some t,l,0⟩)
 | .no t l e=>e ≠ 0∧((∃ img',o = .inl (img',⟨some t,l,e⟩))∨o = .inr (some t,[],e))
theorem dedP {M:List Nd} {hyps:List Int} {ls:List Ln} {h:Int} (C:Loop16 M hyps ls h) : ∀ (n i:Nat) (img:List Int) (t:List Nd) (l:List Ln),i + n=ls.length→img.length=ls.length→Grown M t→All t (hyps.filter fun x=>x ≠ h) l→Imgs ls h t l img i→l.length ≤ 4096 →
  ∃ o,forN (fun i s=>hilbert_deduce.b0 ls h i s.1 s.2) n i (img,⟨some t,l,0⟩)=some o∧DP o (dedR ls h n i img t l)
 | 0,i,img,t,l,hi,hl,hg,ha,him,hb=>⟨_,rfl,img,rfl⟩
 | n + 1,i,img,t,l,hi,hl,hg,ha,him,hb=>by
  have R:Ready M hyps ls h t l img i:=⟨C.wf,C.forms,by omega,C.right i (by omega),hg,C.h_in,ha,him,hb,hl⟩
  have hT:=stepP_tell R
  simp only [forN,b0P R]
  unfold dedR Res.bind
  cases hs:stepR ls img h i t l with
  | ok t1 l1 v1 =>
   rw [hs] at hT
   obtain ⟨⟨hl1,_⟩,hT⟩ := hT
   obtain ⟨st,e1,f,F,I⟩ := step_ok C.wf C.forms (by omega) (C.right i (by omega)) hg C.h_in ha him hs
   rw [hT]
   simp only [Option.bind_some]
   exact dedP C n (i + 1) (img.set i v1) t1 l1 (by omega) (by simpa using hl) (hg.trans st.grown) st.all (him.set (by omega) st.grown.1 st.pre F I) hl1
  | no t1 l1 e =>
   rw [hs] at hT
   obtain ⟨he,v,hT⟩ := hT
   rw [hT]
   simp only [Option.bind_some]
   cases n with
   | zero=>exact ⟨_,rfl,he,.inl ⟨_,rfl⟩⟩
   | succ n =>
    refine ⟨.inr (some t1,[],e),?_,he,.inr rfl⟩
    simp only [forN]
    rw [show hilbert_deduce.b0 ls h ((i:Int) + 1) (img.set i v) (mkP (some t1) l1 e)=some (.ret (some t1,[],e)) by unfold hilbert_deduce.b0; simp [he]]
    rfl
theorem all_nil (t:List Nd) (hy:List Int):All t hy []:=⟨rfl,fun j hj=>absurd (zC hj) (by simp)⟩
theorem deduceP {M:List Nd} {hyps:List Int} {ls:List Ln} {h:Int} (C:Loop16 M hyps ls h) (hl:ls.length ≤ 16777216):match dedR ls h ls.length 0 (List.replicate ls.length 0) M [] with
  | .ok t l _=>hilbert_deduce.f (some M) ls h=some (some t,l,0)
  | .no t l e=>e ≠ 0 ∧ ∃ l',hilbert_deduce.f (some M) ls h=some (some t,l',e):=by
 obtain ⟨o,h1,h2⟩ := dedP C ls.length 0 (List.replicate ls.length 0) M [] (by omega) (by simp) (Grown.refl C.wf) (all_nil _ _) (fun j hj=>absurd hj (by omega)) (by simp)
 have e0:(((ls.length:Nat):Int) - 0).toNat=ls.length:=by omega
 have e1:hilbert_deduce.f (some M) ls h=(some o).bind (aft fun (s7:List Int × PMaker)=>some (s7.2.t,s7.2.l,s7.2.bad)):=by
  unfold hilbert_deduce.f
  rw [chk,if_pos (by simp; omega),e0,Int.toNat_natCast]
  rw [← h1]; rfl
 rw [e1]
 cases hd:dedR ls h ls.length 0 (List.replicate ls.length 0) M [] with
 | ok t l v=>rw [hd] at h2; obtain ⟨img',rfl⟩ := h2; rfl
 | no t l e =>
  rw [hd] at h2
  obtain ⟨he,⟨img',rfl⟩ | rfl⟩ := h2
  ·exact ⟨he,l,rfl⟩
  ·exact ⟨he,[],rfl⟩
-- the document's loop
theorem b0D {M:List Nd} {hyps:List Int} {ls l:List Ln} {h:Int} {t:List Nd} {img:List Int} {i:Nat} (R:Ready M hyps ls h t l img i) (hb:ls.length < 4611686018427387904):ref16_deduce.b0 ls h i img ⟨some t,l,0⟩ = (stepD ls img h i ⟨some t,l,0⟩).bind fun r=>some (.go (((i + 1:Nat):Int),img.set i r.2,r.1)):=by
 have hil:=R.i_lt
 have hii:inb (i:Int) img.length=true:=by rw [R.imgl]; exact yV (by omega) (by omega)
 have hil2:inb (i:Int) ls.length=true:=yV (by omega) (by omega)
 have hlt:(i:Int) < (ls.length:Int):=by omega
 have hwr:IntKind.i64.wrap ((i:Int) + 1)=((i + 1:Nat):Int):=by rw [wrap_small ⟨by omega,by omega⟩]; omega
 unfold ref16_deduce.b0 stepD
 simp only [hlt,decide_true,Bool.and_self,if_true,hil2,hii,chk,Int.toNat_natCast,hwr]
 by_cases c1:(at_ Ln.z ls i).form=h
 ·simp only [c1,decide_true,if_true,Option.bind_assoc]
 ·by_cases c2:(at_ Ln.z ls i).kind=11
  ·obtain ⟨e1,e2,e3⟩ := ready_b R c2
   simp only [c1,c2,decide_false,decide_true,ne_eq,not_true_eq_false,Bool.false_eq_true,if_false,if_true,Option.bind_assoc,e1,e2,e3]
  ·simp only [c1,c2,decide_false,decide_true,ne_eq,not_false_eq_true,Bool.false_eq_true,if_false,if_true,Option.bind_assoc]
def DD (o:(Int × List Int × PRMaker) ⊕ (Tb × List Ln × Int)):Res→Prop
 | .ok t l _ => ∃ i img',o = .inl (i,img',⟨some t,l,0⟩)
 | .no t l e=>e ≠ 0 ∧ ∃ i img',o = .inl (i,img',⟨some t,l,e⟩)
theorem dedD {M:List Nd} {hyps:List Int} {ls:List Ln} {h:Int} (C:Loop16 M hyps ls h) (hlb:ls.length < 4611686018427387904) : ∀ (n k i:Nat) (img:List Int) (t:List Nd) (l:List Ln),n < k→i + n=ls.length→img.length=ls.length→Grown M t→All t (hyps.filter fun x=>x ≠ h) l→Imgs ls h t l img i→l.length ≤ 4096 →
  ∃ o,iter (fun s=>ref16_deduce.b0 ls h s.1 s.2.1 s.2.2) k ((i:Int),img,⟨some t,l,0⟩)=some o∧DD o (dedR ls h n i img t l)
 | 0,k + 1,i,img,t,l,hk,hi,hl,hg,ha,him,hb=>by
  refine ⟨.inl ((i:Int),img,⟨some t,l,0⟩),?_,_,img,rfl⟩
  simp only [iter]
  rw [show ref16_deduce.b0 ls h (i:Int) img ⟨some t,l,0⟩ = some (.brk ((i:Int),img,⟨some t,l,0⟩)) by unfold ref16_deduce.b0; simp [show ¬ (i:Int) < (ls.length:Int) by omega]]
  rfl
 | n + 1,k + 1,i,img,t,l,hk,hi,hl,hg,ha,him,hb=>by
  have R:Ready M hyps ls h t l img i:=⟨C.wf,C.forms,by omega,C.right i (by omega),hg,C.h_in,ha,him,hb,hl⟩
  have hT:=stepD_tell R
  simp only [iter,b0D R hlb]
  unfold dedR Res.bind
  cases hs:stepR ls img h i t l with
  | ok t1 l1 v1 =>
   rw [hs] at hT
   obtain ⟨⟨hl1,_⟩,hT⟩ := hT
   obtain ⟨st,e1,f,F,I⟩ := step_ok C.wf C.forms (by omega) (C.right i (by omega)) hg C.h_in ha him hs
   rw [hT]
   simp only [Option.bind_some]
   exact dedD C hlb n k (i + 1) (img.set i v1) t1 l1 (by omega) (by omega) (by simpa using hl) (hg.trans st.grown) st.all (him.set (by omega) st.grown.1 st.pre F I) hl1
  | no t1 l1 e =>
   rw [hs] at hT
   obtain ⟨he,v,hT⟩ := hT
   rw [hT]
   simp only [Option.bind_some]
   obtain ⟨k,rfl⟩ : ∃ k',k=k' + 1:=⟨k - 1,by omega⟩
   refine ⟨.inl (((i + 1:Nat):Int),img.set i v,⟨some t1,l1,e⟩),?_,he,_,_,rfl⟩
   simp only [iter]
   rw [show ref16_deduce.b0 ls h ((i + 1:Nat):Int) (img.set i v) (mkD (some t1) l1 e)=some (.brk (((i + 1:Nat):Int),img.set i v,mkD (some t1) l1 e)) by unfold ref16_deduce.b0; simp [he]]
   rfl
theorem deduceD {M:List Nd} {hyps:List Int} {ls:List Ln} {h:Int} (C:Loop16 M hyps ls h) {K:Nat} (hl:ls.length ≤ 16777216) (hK:ls.length < K):match dedR ls h ls.length 0 (List.replicate ls.length 0) M [] with
  | .ok t l _=>ref16_deduce.f K (some M) ls h=some (some t,l,0)
  | .no t l e=>e ≠ 0 ∧ ∃ l',ref16_deduce.f K (some M) ls h=some (some t,l',e):=by
 obtain ⟨o,h1,h2⟩ := dedD C (by omega) ls.length K 0 (List.replicate ls.length 0) M [] hK (by omega) (by simp) (Grown.refl C.wf) (all_nil _ _) (fun j hj=>absurd hj (by omega)) (by simp)
 have e1:ref16_deduce.f K (some M) ls h=(some o).bind (aft fun (s7:Int × List Int × PRMaker)=>some (s7.2.2.t,s7.2.2.l,s7.2.2.bad)):=by
  unfold ref16_deduce.f
  rw [chk,if_pos (by simp; omega),Int.toNat_natCast]
  rw [← h1]; rfl
 rw [e1]
 cases hd:dedR ls h ls.length 0 (List.replicate ls.length 0) M [] with
 | ok t l v=>rw [hd] at h2; obtain ⟨i,img',rfl⟩ := h2; rfl
 | no t l e =>
  rw [hd] at h2
  obtain ⟨he,i,img',rfl⟩ := h2
  exact ⟨he,l,rfl⟩
def zbt (M:List Nd) (hyps:List Int) (ls:List Ln) (h:Int):List Nd × List Ln × Int :=
 if inb h M.length=true then (if zbJ M hyps ls=0 then (match dedR ls h ls.length 0 (List.replicate ls.length 0) M [] with | .ok t l _=>(t,l,0) | .no _ _ e=>(M,[],e)) else (M,[],zbJ M hyps ls)) else (M,[],31)
theorem loop_of {M:List Nd} (hw:Wf M) {hyps:List Int} {ls:List Ln} {h:Int} (hh:inb h M.length=true) (hc:zbJ M hyps ls=0):Loop16 M hyps ls h∧ls ≠ []:=by
 unfold zbJ at hc
 split at hc
 ·rename_i h1
  split at hc
  ·rename_i h2
   simp only [Bool.and_eq_true] at h1 h2
   refine ⟨⟨hw,h1.2,fun j hj=>List.all_eq_true.1 h2.1 j (by simp; omega),hh⟩,fun e=>?_⟩
   rw [e] at h2; simp at h2
  ·simp at hc
 ·simp at hc
theorem take_pre {M t:List Nd} (h:M <+: t):t.take M.length=M:=(List.prefix_iff_eq_take.1 h).symm
theorem cutP16 {M t:List Nd} (h:Grown M t):formula_Table_Cut.f (some t) (M.length:Int)=some (some M,0):=by
 have h1:=h.1.length_le
 unfold formula_Table_Cut.f
 simp only
 rw [if_neg (by simp; omega),chk,if_pos (decide_eq_true h.2.nodup),Int.toNat_natCast,take_pre h.1]
theorem cutD16 {M t:List Nd} (h:Grown M t):ref03_T_Cut.f (some t) (M.length:Int)=some (some M,0):=by
 have h1:=h.1.length_le
 unfold ref03_T_Cut.f
 simp only [Option.isSome_some,chk,if_true,Option.getD_some]
 rw [if_neg (by simp; omega),if_pos (by simp; omega),Int.toNat_natCast,take_pre h.1]
theorem DeduceP_some {M:List Nd} (hw:Wf M) {K:Nat} (hK:10 ≤ K) {hyps:List Int} {ls:List Ln} {h:Int} (h1:hyps.length ≤ 16777216) (h2:ls.length ≤ 16777216):hilbert_Deduce.f K (some M) hyps ls h=some (some (zbt M hyps ls h).1,(zbt M hyps ls h).2.1,(zbt M hyps ls h).2.2):=by
 unfold hilbert_Deduce.f zbt
 rw [has_some16 hw.nodup]
 cases hh:inb h M.length with
 | false=>simp [hh]
 | true =>
  simp only [List.all_cons,hh,List.all_nil,Bool.and_self,if_true,Option.bind_some,ne_eq,not_true_eq_false,decide_false,Bool.false_eq_true,if_false,CheckH_some hw hK (show hyps.length < 4611686018427387904 by omega)]
  by_cases hc:zbJ M hyps ls=0
  ·obtain ⟨C,_⟩ := loop_of hw hh hc
   have hd:=deduceP C h2
   have hg:=gr_ded ls h ls.length 0 (List.replicate ls.length 0) M [] hw
   simp only [hc,not_true_eq_false,decide_false,Bool.false_eq_true,if_false,if_true,formula_Table_Len.f,Option.map_some,Option.bind_some]
   cases hr:dedR ls h ls.length 0 (List.replicate ls.length 0) M [] with
   | ok t l v =>
    rw [hr] at hd
    rw [hd]
    simp [hilbert_kept.f]
   | no t l e =>
    rw [hr] at hd hg
    obtain ⟨he,l',hd⟩ := hd
    have hg:Grown M t:=hg
    rw [hd]
    simp only [Option.bind_some,hilbert_kept.f,ne_eq,he,not_false_eq_true,decide_true,if_true,cutP16 hg]
  ·simp [hc]
theorem DeduceD_some {M:List Nd} (hw:Wf M) {K:Nat} {hyps:List Int} {ls:List Ln} {h:Int} (h2:ls.length ≤ 16777216) (hK:ls.length < K):ref16_Deduce.f K (some M) hyps ls h=some (some (zbt M hyps ls h).1,(zbt M hyps ls h).2.1,(zbt M hyps ls h).2.2):=by
 unfold ref16_Deduce.f zbt
 have hh0:ref03_T_Has.f (some M) h=some (inb h M.length):=by simp [ref03_T_Has.f,chk,inb]
 rw [hh0]
 cases hh:inb h M.length with
 | false=>simp
 | true =>
  simp only [Option.bind_some,Bool.not_true,Bool.false_eq_true,if_false,CheckH_doc hw,if_true]
  by_cases hc:zbJ M hyps ls=0
  ·obtain ⟨C,_⟩ := loop_of hw hh hc
   have hd:=deduceD C h2 hK
   have hg:=gr_ded ls h ls.length 0 (List.replicate ls.length 0) M [] hw
   simp only [hc,ne_eq,not_true_eq_false,decide_false,Bool.false_eq_true,if_false,if_true,Option.isSome_some,chk,Option.getD_some]
   cases hr:dedR ls h ls.length 0 (List.replicate ls.length 0) M [] with
   | ok t l v =>
    rw [hr] at hd
    rw [hd]
    simp
   | no t l e =>
    rw [hr] at hd hg
    obtain ⟨he,l',hd⟩ := hd
    have hg:Grown M t:=hg
    rw [hd]
    simp only [Option.bind_some,ne_eq,he,not_false_eq_true,decide_true,if_true,cutD16 hg]
  ·simp [hc]
theorem HilbertDeduces_true {K:Nat} (hh:law16_heads.f K=some true) {rows:List Nd} (hn : ∀ n ∈ rows,n.name.size < 9223372036854775808) (hl:rows.length * 40 ≤ 140737488355328) {hyps:List Int} {ls:List Ln} (h:Int) (h1:hyps.length ≤ 16777216) (h2:ls.length ≤ 1048576) (hK:1048576 < K):law16_HilbertDeduces.f K rows hyps ls h=some true:=by
 obtain ⟨M,ht,hw,_⟩ := tables16 hn hl
 unfold law16_HilbertDeduces.f
 rw [ht]
 simp only [Option.bind_some,List.nil_append,DeduceP_some hw (show 10 ≤ K by omega) h1 (show ls.length ≤ 16777216 by omega),DeduceD_some hw (show ls.length ≤ 16777216 by omega) (show ls.length < K by omega),law16_num.f]
 rw [chk,if_pos (by simp; omega)]
 have hs : ∀ t,law04_Same.f (some t) (some t)=some true:=fun t=>by unfold law04_Same.f; rw [like_self]; rfl
 simp [lines_self,hs,hh]
end Go.Proofs.YtflieamjacclnaaGreatDoor
end
section
namespace Go.Proofs.YtflieamjacclnaaGreatDoor
open Gw
end Go.Proofs.YtflieamjacclnaaGreatDoor
end
section
namespace Go.Proofs.YtflieamjacclnaaGreatDoor
open Gw
set_option maxRecDepth 100000
theorem heads16b:law16_heads.f 2200000=some true:=by decide +kernel
end Go.Proofs.YtflieamjacclnaaGreatDoor
end
section
namespace Go.Proofs.YtflieamjacclnaaGreatDoor
end Go.Proofs.YtflieamjacclnaaGreatDoor
end
section
namespace Go.Proofs.YtflieamjacclnaaGreatDoor
open Gw
-- terms: nodes,levels,what is right
mutual
def depT:PTerm→Nat
 | .mk _ _ _ _ s=>1 + depL s
def depL:List PTerm→Nat
 | []=>0
 | x :: l=>max (depT x) (depL l)
end
def partsS (k:Int):Int:=if k=1 then 0 else if k=9 then 3 else if k=3∨k=4∨k=12 then 2 else if k=2∨k=5∨k=6∨k=7∨k=8∨k=10∨k=11 then 1 else -1
def nodeR (x:PTerm):Bool :=
 decide (partsS x.kind=x.sub.length) && (if x.kind=1∨x.kind=2∨x.kind=9∨x.kind=12 then decide (isWord x.name) else decide (x.name=⟨#[]⟩)) &&
  (if x.kind=9 then decide (isWord x.other) else decide (x.other=⟨#[]⟩)) && (if x.kind=11 then decide (0 ≤ x.form) && decide (x.form < 1024) else decide (x.form=0))
mutual
def rightT:PTerm→Bool
 | .mk k n o f s=>nodeR (.mk k n o f s) && rightL s
def rightL:List PTerm→Bool
 | []=>true
 | x :: l=>rightT x && rightL l
end
mutual
def nmT:PTerm→Prop
 | .mk _ n o _ s=>n.size < 9223372036854775808∧o.size < 9223372036854775808∧nmL s
def nmL:List PTerm→Prop
 | []=>True
 | x :: l=>nmT x∧nmL l
end
inductive TR where
 | ok (f:Int)
 | no (c:Int) (way:List Int)
 deriving DecidableEq
namespace TR
def at_ (i:Int):TR→TR
 | ok f=>ok f
 | no c w=>no c (i :: w)
def bind (r:TR) (k:Int→TR):TR:=match r with
 | ok f=>k f
 | no c w=>no c w
def code:TR→Int
 | ok _=>0
 | no c _=>c
def way:TR→List Int
 | ok _=>[]
 | no _ w=>w
def form:TR→Int
 | ok f=>f
 | no _ _=>0
end TR
abbrev Sc:=List (ByteArray × Int)
def ofK (M:List Nd) (f k:Int) (g:Nd→TR):TR:=if (nd M f).kind=k then g (nd M f) else .no 130 []
def toldS (M:List Nd) (P:Int→Sc→Option Int→TR) (s:Sc) (x:PTerm):TR :=
 if x.kind=1 then (match s.find? (fun q=>decide (q.1=x.name)) with | some q => .ok q.2 | none => .no 131 [])
 else if x.kind=3 then (P 0 s none).bind fun f=>ofK M f 5 fun n=>(P 1 s (some n.l)).bind fun _ => .ok n.r
 else if x.kind=5 then (P 0 s none).bind fun f=>ofK M f 3 fun n => .ok n.l
 else if x.kind=6 then (P 0 s none).bind fun f=>ofK M f 3 fun n => .ok n.r
 else if x.kind=11 then (if inb x.form M.length then (P 0 s (some x.form)).bind fun _ => .ok x.form else .no 31 [])
 else if x.kind=12 then (P 0 s none).bind fun f=>P 1 ((x.name,f) :: s) none
 else if x.kind=9 then (P 0 s none).bind fun f=>ofK M f 4 fun n=>(P 1 ((x.name,n.l) :: s) none).bind fun a=>(P 2 ((x.other,n.r) :: s) none).bind fun b=>if a=b then .ok a else .no 130 []
 else .no 132 []
def chkdS (M:List Nd) (P:Int→Sc→Option Int→TR) (s:Sc) (x:PTerm) (id:Int):TR :=
 if x.kind=2 then ofK M id 5 fun n=>P 0 ((x.name,n.l) :: s) (some n.r)
 else if x.kind=4 then ofK M id 3 fun n=>(P 0 s (some n.l)).bind fun _=>P 1 s (some n.r)
 else if x.kind=7 then ofK M id 4 fun n=>P 0 s (some n.l)
 else if x.kind=8 then ofK M id 4 fun n=>P 0 s (some n.r)
 else if x.kind=9 then (P 0 s none).bind fun f=>ofK M f 4 fun n=>(P 1 ((x.name,n.l) :: s) (some id)).bind fun _=>P 2 ((x.other,n.r) :: s) (some id)
 else if x.kind=10 then (P 0 s none).bind fun f=>ofK M f 2 fun _ => .ok id
 else if x.kind=12 then (P 0 s none).bind fun f=>P 1 ((x.name,f) :: s) (some id)
 else (toldS M P s x).bind fun f=>if f=id then .ok id else .no 130 []
def tyS (M:List Nd):Nat→PTerm→Sc→Option Int→TR
 | 0,_,_,_ => .no 132 []
 | k + 1,x,s,want =>
  let P:Int→Sc→Option Int→TR:=fun i s' w=>(tyS M k (at_ PTerm.z x.sub i) s' w).at_ i
  match want with
  | none=>toldS M P s x
  | some id=>chkdS M P s x id
end Go.Proofs.YtflieamjacclnaaGreatDoor
end
section
namespace Go.Proofs.YtflieamjacclnaaGreatDoor
open Gw
end Go.Proofs.YtflieamjacclnaaGreatDoor
end
section
namespace Go.Proofs.YtflieamjacclnaaGreatDoor
open Gw
def err:TR→Option (Int × List Int)
 | .ok _=>none
 | .no c w=>some (c,w.reverse)
abbrev Tc:Type:=PChecker→PTerm→List (ByteArray × Int)→Option (Int × Option (Int × List Int))
abbrev Cc:Type:=PChecker→PTerm→List (ByteArray × Int)→Int→Option (Option (Int × List Int))
def Sok (M:List Nd) (s:Sc):Prop := ∀ q ∈ s,inb q.2 M.length=true
def Tells (M:List Nd) (r:Option (Int × Option (Int × List Int))) (t:TR):Prop := ∃ i,r=some (i,err t) ∧ ∀ f,t = .ok f→i=f∧inb f M.length=true
section
variable {M:List Nd} {x:PTerm} {k:Nat} {T:Tc} {C:Cc}
structure Parts (M:List Nd) (k:Nat) (x:PTerm) (T:Tc) (C:Cc):Prop where
 told : ∀ i,inb i x.sub.length=true → ∀ s,Sok M s→Tells M (T ⟨some M⟩ (at_ PTerm.z x.sub i) s) (tyS M k (at_ PTerm.z x.sub i) s none)
 chkd : ∀ i,inb i x.sub.length=true → ∀ s,Sok M s → ∀ id,inb id M.length=true→C ⟨some M⟩ (at_ PTerm.z x.sub i) s id=some (err (tyS M k (at_ PTerm.z x.sub i) s (some id)))
end
end Go.Proofs.YtflieamjacclnaaGreatDoor
end
section
namespace Go.Proofs.YtflieamjacclnaaGreatDoor
open Gw
end Go.Proofs.YtflieamjacclnaaGreatDoor
end
section
namespace Go.Proofs.YtflieamjacclnaaGreatDoor
open Gw Go.ChangeShapes Go.WideShapes Go.ChangeAt Go.RowKit
set_option maxRecDepth 100000
theorem ownKnob_none:ownKnob PP.godebug=none:=by kernel_rfl
theorem laidOut_PP:laidOutB PP=true:=by kernel_rfl
theorem trodAll_stays {H:Type} {enc:TypeId × Value→H} {W W':World} {sp:Nat→Bool} : ∀ {ts:List TypeId} {vs:List Value} {ds:List (DataW H)} {ps:List MemPlace},(∀ t ∈ ts,PP.readableRec t=true∧t < PP.types.size) →
  DataW.TrodAll enc PP W 0 (fun _=>true) true ts vs ds ps→(∀ p ∈ ps,W.sameAt W' p)→(∀ p ∈ ps,sp p.block=true)→DataW.TrodAll enc PP W' 0 sp true ts vs ds ps
 | [],vs,ds,ps,_,h,_,_=>by
  obtain ⟨rfl,rfl,rfl⟩ := trodAll_nil h
  exact trodAll_mk0
 | t :: ts,vs,ds,ps,hr,h,h1,h2=>by
  obtain ⟨v,vs,d,ds,p,q,rfl,rfl,rfl,h0,h3⟩ := trodAll_cons h
  have ht:=hr t (by simp)
  exact trodAll_cons_mk (WideElems.Trod_stays laidOut_PP ht.1 ht.2 h0 (fun x hx=>h1 x (by simp [hx])) (fun x hx=>h2 x (by simp [hx])))
   (trodAll_stays (fun t ht=>hr t (by simp [ht])) h3 (fun x hx=>h1 x (by simp [hx])) (fun x hx=>h2 x (by simp [hx])))
def oth0:Oth:=⟨fun _=>False,[],fun _ h=>by cases h⟩
section
variable {P:Program} {W:World} {b t:Nat} {k:IntKind} {v:Value}
theorem cell_int (ht:P.underlying t=some (.int k)) (h:Cell.okWide P W .any b t v) : ∃ n,v = .int k n∧k.has n:=by
 simp only [Cell.okWide,ht] at h
 cases v <;> simp_all [Cell.ok]
theorem int_of (ht:P.underlying t=some (.int k)) (h:Value.okWide P W .any b t v) : ∃ n,v = .int k n∧k.has n:=by
 unfold Value.okWide at h
 rw [ht] at h
 exact cell_int ht h
end
section
variable {H:Type} {enc:TypeId × Value→H} {P:Program} {W:World} {t:TypeId} {fuel:Nat} {cs:List Value} {x:DataW H × List MemPlace} {sp:Nat→Bool} {hd:Bool} {b0:Nat}
theorem take_one {l:List Value} {o:Nat} {v:Value} (h:(l.drop o).take 1=[v]):l[o]? = some v:=by
 have:((l.drop o).take 1)[0]? = some v:=by rw [h]; rfl
 rw [List.getElem?_take] at this
 simpa using this
theorem fld_int {i off ft:Nat} {k:IntKind} (hf:zaP P t i off ft) (hk:P.underlying ft=some (.int k)) (hc:P.cellsOf ft=1) (h:DataW.trod enc P W b0 sp hd fuel t cs=some x) : ∃ n,cs[off]? = some (.int k n):=by
 obtain ⟨fs,fd,hu,hi,rfl,rfl⟩ := hf
 obtain ⟨xs,n,_,_,hl,hx,hall⟩ := DataW.trod_struct hu h
 have h1:=hall i fd hi
 have h2:i < xs.length:=by rw [hx]; exact (Array.getElem?_eq_some_iff.1 hi).1
 rw [List.getElem?_eq_getElem h2,hc] at h1
 obtain ⟨n,e,_⟩ := DataW.trod_int hk h1
 exact ⟨n,take_one e⟩
theorem fld_str {i off ft:Nat} (hf:zaP P t i off ft) (hk:P.underlying ft=some .string) (hc:P.cellsOf ft=1) (h:DataW.trod enc P W b0 sp hd fuel t cs=some x) : ∃ s:ByteArray,cs[off]? = some (.string s)∧s.size ≤ maxLen:=by
 obtain ⟨fs,fd,hu,hi,rfl,rfl⟩ := hf
 obtain ⟨xs,n,_,_,hl,hx,hall⟩ := DataW.trod_struct hu h
 have h1:=hall i fd hi
 have h2:i < xs.length:=by rw [hx]; exact (Array.getElem?_eq_some_iff.1 hi).1
 rw [List.getElem?_eq_getElem h2,hc] at h1
 obtain ⟨s,e,_,hs⟩ := DataW.trod_string hk h1
 exact ⟨s,take_one e,hs⟩
theorem slice_of {α:Type} [Inhabited α] {e k:Nat} {C:α→List Value} {Q:α→Prop} {base:Nat} {v:Value} {d:DataW H} {ps:List MemPlace} (ht:P.underlying t=some (.slice e)) (hk:P.cellsOf e=k) (hC : ∀ a,(C a).length=k) (hk0:0 < k)
  (hel : ∀ (n:Nat) (cs:List Value) (x:DataW H × List MemPlace),DataW.trod enc P W 0 (fun _=>true) true n e cs=some x → ∃ a,cs=C a∧Q a)
  (hval:Value.okWide P W .any base t v) (h:DataW.Trod enc P W 0 (fun _=>true) true t v d ps) :
  ∃ (l:List α) (s:SlV),v=s.v∧Rd W k s (l.map C)∧(∀ a ∈ l,Q a)∧(l=[] ∨ ∃ elems spare,d = .slice elems spare∧elems.length=l.length):=by
 obtain ⟨a0,len0,cap0,rfl⟩ := okWide_slice ht hval
 obtain ⟨fuel,hf⟩ := h
 rcases Deep.open_slice ht hf with ⟨h1,h2⟩ | ⟨a,len,cap,m,n,D,Pl,h1,_,hlc,hcm,hm,h2,hx⟩
 ·simp [Value.cells] at h1
  obtain ⟨rfl,rfl,rfl⟩ := h1
  exact ⟨[],SlV.nil,SlV.nil_eq,Rd.nil W k,by simp,.inl rfl⟩
 ·simp [Value.cells] at h1
  obtain ⟨rfl,rfl,rfl⟩ := h1
  have hval2:=hval
  simp only [Value.okWide,ht,Cell.okWide,Cell.ok] at hval2
  obtain ⟨_,_,_,hspot,row,cells,hshape,_⟩ := hval2
  obtain ⟨ab,ao,asp⟩ := a
  obtain rfl:asp=none:=hspot
  simp only at hshape
  have hlt:ab < W.heap.size:=by
   unfold World.shape? at hshape
   cases hh:W.heap[ab]? with
   | none=>rw [hh] at hshape; cases hshape
   | some o=>exact (Array.getElem?_eq_some_iff.1 hh).1
  have hmc:m=cap0:=by rw [hm]; rfl
  obtain ⟨f,hfx⟩ := Deep.choose_lt (α:=α) (n:=len0) (p:=fun i y=>W.cells? 0 ((⟨ab,ao,none⟩ : Addr).add (i * P.cellsOf e)) (P.cellsOf e)=some (C y)∧Q y) (fun i hi=>by
   obtain ⟨cs',hc,ht'⟩ := hx i (by omega)
   obtain ⟨y,rfl,hq⟩ := hel _ _ _ ht'
   exact ⟨y,hc,hq⟩)
  refine ⟨(List.range len0).map f,⟨some ⟨ab,ao,none⟩,len0,cap0⟩,by rw [SlV.eq],⟨⟨by simp,?_,?_⟩,?_,hlc⟩,?_,.inr ⟨_,_,by simpa using congrArg Prod.fst h2,by simp⟩⟩
  ·intro r hr
   obtain ⟨y,_,rfl⟩ := List.mem_map.1 hr
   exact hC y
  ·intro i r hr
   rw [List.getElem?_map,List.getElem?_map] at hr
   have hi:i < len0:=by
    refine Nat.lt_of_not_le fun q=>?_
    rw [List.getElem?_eq_none (by simpa using q)] at hr; cases hr
   rw [List.getElem?_eq_getElem (by simpa using hi)] at hr
   simp only [List.getElem_range,Option.map_some,Option.some.injEq] at hr
   subst hr
   obtain ⟨h3,_⟩ := hfx i hi
   obtain ⟨_,hl,hc⟩ := World.cells?_some h3
   refine ⟨rfl,fun j v hv=>?_⟩
   have hj:j < k:=by have:=(List.getElem?_eq_some_iff.1 hv).1; rw [hC] at this; exact this
   have h4:=hc j (by rw [hk]; exact hj)
   rw [hv] at h4
   have hadd:((⟨ab,ao,none⟩ : Addr).add (i * P.cellsOf e)).add j=⟨ab,ao + i * k + j,none⟩ := by
    rw [hk]
    unfold Addr.add
    by_cases h5:i * k=0
    ·by_cases h6:j=0
     ·simp [h5,h6]
     ·simp [h5,h6]
    ·by_cases h6:j=0
     ·simp [h5,h6]
     ·simp [h5,h6]
   rw [hadd] at h4
   exact h4
  ·rintro i ⟨_,rfl⟩
   exact hlt
  ·intro y hy
   obtain ⟨i,hi,rfl⟩ := List.mem_map.1 hy
   exact (hfx i (List.mem_range.1 hi)).2
end
instance:Inhabited Nd:=⟨Nd.z⟩
theorem nds_of {H:Type} {enc:TypeId × Value→H} {W:World} {base:Nat} {v:Value} {d:DataW H} {ps:List MemPlace} (hval:Value.okWide PP W .any base uz v) (h:DataW.Trod enc PP W 0 (fun _=>true) true uz v d ps) :
  ∃ (l:List Nd) (s:SlV),v=s.v∧Rd W 4 s (l.map Nd.C)∧(∀ a ∈ l,a.name.size < 9223372036854775808)∧(l=[] ∨ ∃ elems spare,d = .slice elems spare∧elems.length=l.length):=by
 refine slice_of zK.1 (by kernel_rfl) Nd.len (by decide) (fun n cs x hx=>?_) hval h
 obtain ⟨a,ha⟩ := fld_int fv_Nd_kind un_api_Kind (by kernel_rfl) hx
 obtain ⟨b,hb,hbs⟩ := fld_str fv_Nd_name vc (by kernel_rfl) hx
 obtain ⟨c,hc⟩ := fld_int fv_Nd_l un_int (by kernel_rfl) hx
 obtain ⟨d,hd⟩ := fld_int fv_Nd_r un_int (by kernel_rfl) hx
 obtain ⟨fs,fd,hu,_⟩ := fv_Nd_kind
 obtain ⟨xs,n',_,_,hl,_⟩ := DataW.trod_struct hu hx
 have hl:cs.length=4:=hl.trans (by kernel_rfl)
 refine ⟨⟨a,b,c,d⟩,?_,by have:maxLen=9223372036854775807:=rfl; show b.size < _; omega⟩
 match cs,hl with
 | [v0,v1,v2,v3],_ =>
  simp at ha hb hc hd
  subst ha hb hc hd
  rfl
theorem bulk_one {H:Type} (d:DataW H):1 ≤ Rows.uptoBulk d:=by
 cases d with
 | lit l=>cases l <;> simp [Rows.uptoBulk]
 | nil=>simp [Rows.uptoBulk]
 | ptr d=>simp [Rows.uptoBulk]
 | slice elems spare=>simp [Rows.uptoBulk]
 | agg parts=>simp [Rows.uptoBulk]
 | iface t d=>simp [Rows.uptoBulk]
 | map entries=>simp [Rows.uptoBulk]
 | held h=>simp [Rows.uptoBulk]
theorem bulk_part {H:Type} {d:DataW H} {l:List (DataW H)} (h:d ∈ l):Rows.uptoBulk d ≤ Rows.uptoBulkAll l:=by
 induction l with
 | nil=>cases h
 | cons x r ih =>
  simp only [Rows.uptoBulkAll]
  cases List.mem_cons.1 h with
  | inl e=>subst e; omega
  | inr e=>have:=ih e; omega
theorem bulk_len {H:Type} (l:List (DataW H)):l.length ≤ Rows.uptoBulkAll l:=by
 induction l with
 | nil=>simp [Rows.uptoBulkAll]
 | cons x r ih=>have:=bulk_one x; simp only [Rows.uptoBulkAll,List.length_cons]; omega
theorem small_len {H:Type} {α:Type} {l:List α} {d:DataW H} {ds:List (DataW H)} (hk:Rows.uptoSmall H ds=true) (hd:d ∈ ds) (h:l=[] ∨ ∃ elems spare,d = .slice elems spare∧elems.length=l.length):l.length ≤ 1048576:=by
 rcases h with rfl | ⟨elems,spare,rfl,he⟩
 ·simp
 ·have h1:=bulk_part hd
  have h2:=bulk_len elems
  have h3:Rows.uptoBulkAll ds ≤ 1048576:=by simpa [Rows.uptoSmall] using hk
  simp only [Rows.uptoBulk] at h1
  omega
def Held (W:World) (Z:List OA):Prop := ∀ z ∈ Z,∃ F,z.holds W F
theorem Held.nil {W:World}:Held W []:=fun _ h=>by cases h
theorem Held.cons {W:World} {z:OA} {Z:List OA} (h : ∃ F,z.holds W F) (hz:Held W Z):Held W (z :: Z):=fun x hx=>by
 rcases List.mem_cons.1 hx with rfl | hx
 ·exact h
 ·exact hz x hx
theorem Held.s {W:World} {Z:List OA} {k:Nat} {α:Type} {C:α→List Value} {s:SlV} {l:List α} (hr:Rd W k s (l.map C)) (hl:l.length ≤ 140737488355328) (hz:Held W Z):Held W (fS k C s l :: Z) :=
 .cons ⟨s.fp,⟨hr,hl⟩,fun _=>Iff.rfl⟩ hz
theorem stheld {W:World} {Z:List OA} (h:Held W Z):St (fun _=>False) oth0 W W [] Z :=
 ⟨fun _=>False,fun _ h=>h.elim,fun _ h=>h.elim,Chg.refl _ _,trivial,fun z hz=>by
  obtain ⟨F,hF⟩ := h z hz
  exact ⟨F,hF,fun i _ q=>q.elim (fun x=>x) (fun x=>x)⟩,fun d hd=>absurd hd (by simp [oth0])⟩
theorem gEt:PP.globalNamed "errors.errorType" = some 0:=by kernel_rfl
theorem gRt:(PP.cutTypes.find? (·.1 == "internal/reflectlite.rtype")).map (·.2)=some 233:=by kernel_rfl
theorem gSize:PP.types.size=285:=by kernel_rfl
theorem gRow:((List.range 285).filter fun t=>PP.rowNamed t [101,114,114,111,114])=[170]:=by kernel_rfl
theorem gHandle:typeHandle PP 170 = .pointer (some ⟨4,170,none⟩):=by kernel_rfl
theorem et_core {W:World} (h:handlesMet PP [("errors.errorType",Rows.laid_errors_errorType)] W):Et W:=by
 obtain ⟨name,u,ty,e1,e2,e3,e4,e5⟩ := h _ (List.mem_singleton.2 rfl)
 have en:name=[101,114,114,111,114]:=(Option.some.inj e1).symm
 subst en
 obtain rfl:=Option.some.inj (gRt.symm.trans e2)
 have hm:ty ∈ (List.range 285).filter fun t=>PP.rowNamed t [101,114,114,111,114]:=List.mem_filter.2 ⟨List.mem_range.2 (by rw [← gSize]; exact e3),e4⟩
 rw [gRow] at hm
 obtain rfl:=List.mem_singleton.1 hm
 rw [gHandle] at e5
 intro j v hj
 cases j with
 | zero=>simp at hj; subst hj; simpa [etV] using World.var?_cell gEt e5 0
 | succ j=>simp at hj
theorem Held.et {W:World} {Z:List OA} (h:Et W) (hz:Held W Z):Held W (oEt :: Z) := .cons ⟨fun i=>i=0,h,fun _=>Iff.rfl⟩ hz
-- terms
instance:Inhabited Term:=⟨Term.z⟩
instance:Inhabited PTerm:=⟨PTerm.z⟩
instance:Inhabited Hyp:=⟨Hyp.z⟩
end Go.Proofs.YtflieamjacclnaaGreatDoor
end
section
namespace Go.Proofs.YtflieamjacclnaaGreatDoor
open Gw Go.ChangeShapes Go.WideShapes Go.ChangeAt Go.RowKit
set_option maxRecDepth 100000
def tz64:List Int:=Lib.deBruijn64tab.map fun (z:Nat)=>(z:Int)
def tz32:List Int:=Lib.deBruijn32tab.map fun (z:Nat)=>(z:Int)
theorem laidMet_tail {P:Program} {w:World} {x:String × DataW Unit} {l:List (String × DataW Unit)} (h:laidMet P (x :: l) w):laidMet P l w:=by
 obtain ⟨ps,⟨g,t,cs,fuel,p,q,_,_,_,_,hv,rfl⟩,hn,hr⟩ := h
 exact ⟨q,hv,(List.nodup_append.1 hn).2.1,fun b off hp=>hr b off (List.mem_append_right _ hp)⟩
theorem post_old {H:Type} {enc:TypeId × Value→H} {P:Program} {f:Func} {s:ChangeSpec} {apart fresh handsOn again:Bool} {W W':World} {args:Array Value} {v:Value} {ds gs:List (DataW H)} {before pa pv:List MemPlace}
  (hW:DataW.Whole enc P f.params.toList s.vars apart W args.toList ds gs before)
  (hres : ∀ (b:Nat) (sp:Nat→Bool) (hd:Bool),DataW.TrodAll enc P W' b sp hd f.resultTypes.toList (v.resultList f.resultTypes.size) (s.fn H (ds ++ gs)).results [])
  (hargs : ∀ sp:Nat→Bool,(∀ p ∈ before,sp p.block=true)→DataW.TrodAll enc P W' 0 sp true f.params.toList args.toList (s.fn H (ds ++ gs)).args pa)
  (hvars : ∀ sp:Nat→Bool,(∀ p ∈ before,sp p.block=true)→DataW.TrodVars enc P W' sp s.vars (s.fn H (ds ++ gs)).vars pv)
  (hps:before=pa ++ pv) (hk:W.keptBut W' (· ∈ before)) (hfz : ∀ a,a.block < W.heap.size→W'.frozen? a=W.frozen? a)
  (hok : ∀ (j:Nat) (t:TypeId) (r:Value),f.resultTypes[j]? = some t→(v.resultList f.resultTypes.size)[j]? = some r→Value.okWide P W' .any 0 t r) :
  s.post enc P f apart fresh handsOn again W args v W':=by
 have hlt : ∀ p ∈ before,p.block < W.heap.size:=fun p hp=>hW.lt p hp
 have h0 : ∀ p ∈ before,(fun b=>decide (b < W.heap.size)) p.block=true:=fun p hp=>decide_eq_true (hlt p hp)
 have hin : ∀ p ∈ before,p ∈ pa∨p ∈ pv:=fun p hp=>List.mem_append.1 (hps ▸ hp)
 have hin' : ∀ p,p ∈ ([] ++ pa) ++ pv→p ∈ before:=fun p hp=>by rw [hps]; simpa using hp
 refine ⟨ds,gs,before,[],pa,pv,hW,hres _ _ _,hargs _ h0,hvars _ h0,World.keptBut_mono (fun p hp=>⟨hp,.inr (hin p hp)⟩) hk,fun _=>?_⟩
 obtain ⟨_,_,_,_,_,hz,hn⟩ := hW
 refine ⟨hok,_,_,([] ++ pa) ++ pv,⟨[] ++ pa,pv,trodAll_append (hargs _ fun _ _=>rfl) (hres _ _ _),hvars _ (fun _ _=>rfl),rfl,fun b off hp=>?_,fun ha=>?_⟩,fun p hp _=>hin' p hp⟩
 ·have hb:=hin' _ hp
  rw [hfz _ (hlt _ hb)]; exact hz b off hb
 ·have:=hn ha
  rw [hps] at this
  simpa using this
theorem pw_core {W:World} {rest:List (String × DataW Unit)} (h:laidMet PP (("internal/strconv.uint64pow10",Rows.laid_internal_strconv_uint64pow10) :: rest) W):Pw W :=
 Lib.tabIs_of_head (rest:=rest) gPw (t:=T_20_uint64) (e:=T_uint64) (n:=20) (by kernel_rfl) ar_20_uint64.1 (by kernel_rfl) (by kernel_rfl) (by kernel_rfl) h
theorem laid_four {W:World} (h:laidMetH PP [("math/bits.deBruijn32tab",Rows.laid_math_bits_deBruijn32tab),("math/bits.deBruijn64tab",Rows.laid_math_bits_deBruijn64tab),("internal/strconv.uint64pow10",Rows.laid_internal_strconv_uint64pow10),("errors.errorType",Rows.laid_errors_errorType)] W):Pw W∧Et W:=by
 have h':laidMet PP [("math/bits.deBruijn32tab",Rows.laid_math_bits_deBruijn32tab),("math/bits.deBruijn64tab",Rows.laid_math_bits_deBruijn64tab),("internal/strconv.uint64pow10",Rows.laid_internal_strconv_uint64pow10)] W∧handlesMet PP [("errors.errorType",Rows.laid_errors_errorType)] W:=h
 exact ⟨pw_core (laidMet_tail (laidMet_tail h'.1)),et_core h'.2⟩
theorem Held.pw {W:World} {Z:List OA} (h:Pw W) (hz:Held W Z):Held W (oPw :: Z) := .cons ⟨fun i=>i=1,⟨h,fun _=>Iff.rfl⟩⟩ hz
instance:Inhabited Ln:=⟨Ln.z⟩
theorem lns_of {H:Type} {enc:TypeId × Value→H} {W:World} {base:Nat} {v:Value} {d:DataW H} {ps:List MemPlace} (hval:Value.okWide PP W .any base yF v) (h:DataW.Trod enc PP W 0 (fun _=>true) true yF v d ps) :
  ∃ (l:List Ln) (s:SlV),v=s.v∧Rd W 4 s (l.map Ln.C)∧(∀ a ∈ l,True)∧(l=[] ∨ ∃ elems spare,d = .slice elems spare∧elems.length=l.length):=by
 refine slice_of zU.1 (by kernel_rfl) Ln.len (by decide) (fun n cs x hx=>?_) hval h
 obtain ⟨a,ha⟩ := fld_int fv_Ln_kind un_api_LineKind (by kernel_rfl) hx
 obtain ⟨b,hb⟩ := fld_int fv_Ln_form un_int (by kernel_rfl) hx
 obtain ⟨c,hc⟩ := fld_int fv_Ln_a un_int (by kernel_rfl) hx
 obtain ⟨d,hd⟩ := fld_int fv_Ln_b un_int (by kernel_rfl) hx
 obtain ⟨fs,fd,hu,_⟩ := fv_Ln_kind
 obtain ⟨xs,n',_,_,hl,_⟩ := DataW.trod_struct hu hx
 have hl:cs.length=4:=hl.trans (by kernel_rfl)
 refine ⟨⟨a,b,c,d⟩,?_,trivial⟩
 match cs,hl with
 | [v0,v1,v2,v3],_ =>
  simp at ha hb hc hd
  subst ha hb hc hd
  rfl
theorem ints_of {H:Type} {enc:TypeId × Value→H} {W:World} {base:Nat} {v:Value} {d:DataW H} {ps:List MemPlace} (hval:Value.okWide PP W .any base T_L_int v) (h:DataW.Trod enc PP W 0 (fun _=>true) true T_L_int v d ps) :
  ∃ (l:List Int) (s:SlV),v=s.v∧Rd W 1 s (l.map IC)∧(∀ a ∈ l,True)∧(l=[] ∨ ∃ elems spare,d = .slice elems spare∧elems.length=l.length):=by
 refine slice_of xx.1 (by kernel_rfl) (fun _=>rfl) (by decide) (fun n cs x hx=>?_) hval h
 obtain ⟨n,rfl,_⟩ := DataW.trod_int un_int hx
 exact ⟨n,rfl,trivial⟩
instance:Inhabited ByteArray:=⟨ByteArray.empty⟩
end Go.Proofs.YtflieamjacclnaaGreatDoor
end
section
namespace Go.Proofs.YtflieamjacclnaaGreatDoor
open Gw Go.ChangeShapes Go.WideShapes Go.ChangeAt Go.RowKit
set_option maxRecDepth 100000
namespace LawHilbertDeduces
theorem contract (H:Type) (enc:TypeId × Value→H) (W:World) (base:Nat) (args:Array Value) (ds gs:List (DataW H)) (before:List MemPlace)
  (hval : ∀ (j:Nat) t v,xu.params[j]? = some t→args[j]? = some v→Value.okWide PP W .any base t v)
  (hW:DataW.Whole enc PP xu.params.toList Rows.hilbertDeducesSpec.vars false W args.toList ds gs before) (hL:laidMetH PP Rows.hilbertDeducesUptoRow.laid W) (hsm:Rows.uptoSmall H (ds ++ gs)=true) :
  Calls PP yv args W fun e W' => ∃ v,e = .returned v∧Rows.hilbertDeducesSpec.post enc PP xu false true false false W args v W':=by
 have hW':=hW
 have hlt:=hW.lt
 obtain ⟨p,q,hA0,hV,rfl,hfz,hnd⟩ := hW
 have hA:DataW.TrodAll enc PP W 0 (fun _=>true) true xu.params.toList args.toList ds p:=hA0
 have hpar:xu.params = #[uz,T_L_int,yF,xS]:=by kernel_rfl
 rw [hpar] at hA hval
 obtain ⟨v0,v1,v2,v3,d0,d1,d2,d3,p0,p1,p2,p3,rfl,rfl,rfl,h0,h1,h2,h3⟩ := trodAll_four hA
 obtain ⟨rfl,rfl⟩ := trodVars_none hV
 obtain ⟨a0,s0,rfl,hrd0,hnm0,hsl0⟩ := nds_of (hval 0 _ _ rfl rfl) h0
 have hln0:=small_len hsm (by simp) hsl0
 obtain ⟨a1,s1,rfl,hrd1,hnm1,hsl1⟩ := ints_of (hval 1 _ _ rfl rfl) h1
 have hln1:=small_len hsm (by simp) hsl1
 obtain ⟨a2,s2,rfl,hrd2,hnm2,hsl2⟩ := lns_of (hval 2 _ _ rfl rfl) h2
 have hln2:=small_len hsm (by simp) hsl2
 obtain ⟨a3,rfl,hr3⟩ := int_of (k := .i64) un_int (hval 3 _ _ rfl rfl)
 have S:=stheld (W:=W) (.s hrd0 (by omega) (.s hrd1 (by omega) (.s hrd2 (by omega) (.et (laid_four hL).2 (.pw (laid_four hL).1 .nil)))))
 refine (zbZ S (HilbertDeduces_true (K:=2200000) heads16b hnm0 (by omega) a3 (by omega) (by omega) (by omega))).mono fun e W' ⟨v,he,hv,hS⟩ => ?_
 subst hv
 have hx:=hS.frame
 refine ⟨_,he,post_old (pa:=p0 ++ p1 ++ p2 ++ p3) (pv:=[]) hW' (fun _ _ _=>trodAll_cons_mk (shut_bool un_bool _) trodAll_mk0) (fun sp hsp=>?_) (fun _ _=>rfl) (by simp) ((Ext.below hx).frame _) hx.froz (ok_one (by kernel_rfl) rfl (okWide_bool_mk un_bool _))⟩
 rw [hpar]
 refine trodAll_stays (ts:=[uz,T_L_int,yF,xS]) (fun t ht=>?_) hA (fun p hp=>(Ext.below hx).same (hlt p (by simpa using hp))) (fun p hp=>hsp p (by simpa using hp))
 simp only [List.mem_cons,List.not_mem_nil,or_false] at ht
 rcases ht with rfl | rfl | rfl | rfl <;> exact ⟨by kernel_rfl,of_decide_eq_true (by kernel_rfl)⟩
noncomputable def laidWorld0 (os:Os):World :=
 { World.holding PP os ⟨#[],#[],[]⟩ with heap:=(World.holding PP os ⟨#[],#[],[]⟩).heap.modify 0 fun
   | .cells _ t frozen => .cells #[etV] t frozen
   | o=>o }
noncomputable def laidWorld1 (os:Os):World :=
 { laidWorld0 os with heap:=(laidWorld0 os).heap.modify 3 fun
   | .cells _ t frozen => .cells (tz64.map (Value.int .u8)).toArray t frozen
   | o=>o }
noncomputable def laidWorld2 (os:Os):World :=
 { laidWorld1 os with heap:=(laidWorld1 os).heap.modify 2 fun
   | .cells _ t frozen => .cells (tz32.map (Value.int .u8)).toArray t frozen
   | o=>o }
noncomputable def laidWorld (os:Os):World :=
 { laidWorld2 os with heap:=(laidWorld2 os).heap.modify 1 fun
   | .cells _ t frozen => .cells (Lib.pow10Tab.map (Value.int .u64)).toArray t frozen
   | o=>o }
def argsN:Array Value := #[.slice none 0 0,.slice none 0 0,.slice none 0 0,.int .i64 0]
theorem laid_met (os:Os):laidMetH PP Rows.hilbertDeducesUptoRow.laid ((laidWorld os).forCall (fun _ _=>0) ⟨#[],argsN,[]⟩).memory :=
 laidMetH_of_parts (laidMet_of_run' 8 (by kernel_rfl) (by kernel_rfl)) (by kernel_rfl)
def ddN (H:Type):List (DataW H):=[.nil,.nil,.nil,.lit (.int .i64 0)]
theorem reads (os:Os) {H:Type} (enc:TypeId × Value→H) : ∃ places,DataW.whole enc PP ((laidWorld os).forCall (fun _ _=>0) ⟨#[],argsN,[]⟩).memory xu.params.toList Rows.hilbertDeducesSpec.vars false argsN.toList 8=some (ddN H,[],places) :=
 ⟨[],by kernel_rfl⟩
theorem lifted (os:Os) (started:os.Started) (H:Type) (enc:TypeId × Value→H) (F:Stop.Interp) :
  ReturnsInHanded {} Tryz.checked os yv .any ((Rows.OpenSpec.upto Rows.hilbertDeducesSpec).preRow enc PP xu Rows.hilbertDeducesUptoRow.domain false Rows.hilbertDeducesUptoRow.laid) (((Rows.OpenSpec.upto Rows.hilbertDeducesSpec).at F).post enc PP xu false true false false):=by
 obtain ⟨places,hx⟩ := reads os enc
 refine returnsInHanded_of_row (C:=Tryz.checked) (s:=Rows.OpenSpec.upto Rows.hilbertDeducesSpec) ownKnob_none started (by kernel_rfl) vi
  (witness_row_at (enc:=enc) (C:=Tryz.checked) false (laidWorld os) argsN rfl (by kernel_rfl) (by kernel_rfl) (by kernel_rfl)
   (OpenSpec.preRow_of_cond 8 hx (by kernel_rfl) (fun k hk=>by cases hk; kernel_rfl) (by kernel_rfl) (laid_met os))) ?_
 intro W base args ds gs before hval hW _ hcond _ hL _ _
 exact contract H enc W base args ds gs before hval hW hL (hcond _ rfl)
theorem said:Rows.HilbertDeducesUptoSaid :=
 OpenClaim.holds_of_cond yv xu rfl rfl rfl rfl rfl rfl rfl ⟨rfl,rfl,rfl,rfl,rfl⟩ rfl rfl rfl rfl rfl (by kernel_rfl) vi (by kernel_rfl)
  (of_decide_eq_true (by kernel_rfl)) (by unfold Func.isWrapper; first | (rw [if_pos (by decide +kernel)]; kernel_rfl) | (rw [if_neg (by decide +kernel)]; exact ⟨rfl,rfl⟩))
  (fun os started H enc _ F=>by rw [OpenClaim.pre_eq_preRow]; exact lifted os started H enc F)
theorem plain (f:FuncId) (fn:Func) (hf:Tryz.pinned.checked.prog.funcNamed "dictum/dictumlaw16.HilbertDeduces" = some f) (hfn:Tryz.pinned.checked.prog.funcs[f]? = some fn) :
  true=Tryz.pinned.checked.prog.looks [] ∧ ∀ (j:Nat) t,fn.params[j]? = some t→Tryz.pinned.checked.prog.wantsStandIn t=false:=by
 obtain rfl:f=yv:=Option.some.inj ((show PP.funcNamed "dictum/dictumlaw16.HilbertDeduces" = some yv by kernel_rfl).symm.trans hf) |>.symm
 obtain rfl:fn=xu:=(Option.some.inj (vi.symm.trans hfn)).symm
 refine ⟨by kernel_rfl,fun j t ht=>?_⟩
 rw [show xu.params = #[uz,T_L_int,yF,xS] by kernel_rfl] at ht
 have hm:t ∈ [uz,T_L_int,yF,xS]:=by simpa using Array.mem_of_getElem? ht
 simp only [List.mem_cons,List.not_mem_nil,or_false] at hm
 rcases hm with rfl | rfl | rfl | rfl
 ·exact (show PP.wantsStandIn uz=false by kernel_rfl)
 ·exact (show PP.wantsStandIn T_L_int=false by kernel_rfl)
 ·exact (show PP.wantsStandIn yF=false by kernel_rfl)
 ·exact (show PP.wantsStandIn xS=false by kernel_rfl)
theorem card:Rows.HilbertDeducesUptoCardSaid :=
 Claim7.holds_tied_plain_at .later [] _ _ _ _ said (fun _ h=>by cases h) (by kernel_rfl) (fun _ h=>by cases h) hilbertDeducesUpto_row_tie rfl ⟨rfl,rfl⟩ (by kernel_rfl) rfl plain (by kernel_rfl)
end LawHilbertDeduces
end Go.Proofs.YtflieamjacclnaaGreatDoor
end
