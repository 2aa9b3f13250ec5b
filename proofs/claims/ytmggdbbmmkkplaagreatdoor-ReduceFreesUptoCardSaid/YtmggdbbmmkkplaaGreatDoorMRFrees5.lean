/- ReduceFrees, where what it reads is of the bulk that the row names: the row's statement and its card. The package variables that the row lists read as the program lays them. Printed by card14.py, a program of mine. -/
import Derived.Test.YtmggdbbmmkkplaaGreatDoorMRFrees4
import Derived.Test.YtmggdbbmmkkplaaGreatDoorCards
import Derived.Test.YtmggdbbmmkkplaaGreatDoorTie
import Derived.WalkKit
import Derived.ProofKit
import Derived.OpenShut
import Derived.Deep.DeepHandedRow
import Derived.Deep.Slices
import Derived.Lib.LaidTab
import Derived.Lib.TrailingZeros
import Derived.ChangeSame
set_option linter.unusedVariables false
set_option linter.unusedSimpArgs false
namespace Go.Proofs.YtmggdbbmmkkplaaGreatDoor
section
open Gw
abbrev theT (a:PTerm) (f:Int):PTerm:=⟨11,⟨#[]⟩,⟨#[]⟩,f,[a]⟩
def jY (x:PTerm) (a:PTerm) (b:Bool):PTerm × Int:=if b then putV (kid x 2) x.other a else putV (kid x 1) x.name a
def xH (M:List Nd) (x:PTerm):PTerm × Int :=
 let p:=kid x 0; let q:=kid p 0; let f:=nd M p.form
 if rowV M x=1 then putV (kid p 0) p.name (kid x 1)
 else if rowV M x=2 then (let r:=putV (kid q 0) q.name (theT (kid x 1) f.l); if r.2 ≠ 0 then r else (theT r.1 f.r,0))
 else if rowV M x=3 then (if x.kind=6 then kid p 1 else kid p 0,0)
 else if rowV M x=4 then (if x.kind=6 then theT (kid q 1) f.r else theT (kid q 0) f.l,0)
 else if rowV M x=5 then jY x (kid p 0) (decide (p.kind=8))
 else if rowV M x=6 then jY x (theT (kid q 0) (if besV M p 8 4=2 then f.r else f.l)) (decide (besV M p 8 4=2))
 else if rowV M x=7 then putV (kid x 1) x.name (kid x 0)
 else if rowV M x=8 then (kid x 0,0)
 else (PTerm.z,140)
theorem uH {M:List Nd} {p:PTerm} {k f:Int} (h:besV M p k f=2):p.kind=11∧(kid p 0).kind=k∧(nd M p.form).kind=f:=by
 unfold besV at h
 by_cases c:p.kind=k
 ·rw [if_pos c] at h; exact absurd h zam
 ·rw [if_neg c] at h
  by_cases c2:p.kind=11∧(kid p 0).kind=k∧(nd M p.form).kind=f
  ·exact c2
  ·rw [if_neg c2] at h; exact absurd h zam
theorem nm_z:nmT PTerm.z:=by unfold PTerm.z; simp [nmT,nmL]
theorem nm_mem : ∀ {l:List PTerm},nmL l → ∀ y ∈ l,nmT y
 | [],_,_,h=>by simp at h
 | a :: l,h,y,hy=>by
  rcases List.mem_cons.1 hy with rfl | hy
  ·exact h.1
  ·exact nm_mem h.2 y hy
theorem yC {x:PTerm} (h:nmT x) (i:Int):nmT (kid x i):=by
 rcases at_or (l:=x.sub) i with q | q
 ·exact nm_mem ((j7 x).1 h).2.2 _ q
 ·unfold kid; rw [q]; exact nm_z
theorem nm_the {a:PTerm} (h:nmT a) (f:Int):nmT (theT a f):=by
 rw [j7]; exact ⟨by show (0:Nat) < _; decide,by show (0:Nat) < _; decide,⟨h,trivial⟩⟩
theorem size_the (a:PTerm) (f:Int):sizeT (theT a f)=1 + sizeT a:=by rw [x9]; rfl
section
variable {M:List Nd} {x:PTerm} {K:Nat}
theorem xC {x:PTerm} (hr:rightT x=true) {i:Int} {n:Nat} (h:x.sub.length=n) (hi:0 ≤ i∧i < n):rightT (kid x i)=true:=by
 obtain ⟨j,rfl⟩ : ∃ j:Nat,i=j:=⟨i.toNat,by omega⟩
 exact kid_right hr zan
theorem zag (hl:0 < x.sub.length) (b:Bool):zaP.f (some M) x b=some (if b then (nd M (kid x 0).form).r else (nd M (kid x 0).form).l):=by
 unfold zaP.f zas.f
 rw [chk,if_pos (un zan zan)]
 simp only [Option.map_some,zar]
 cases b <;> rfl
theorem into_some (hK:200000 ≤ K) (hn:nmT x) {a:PTerm} (ha:nmT a) (hl:x.sub.length=3) (b:Bool):zbv.f K x a b=some (jY x a b):=by
 unfold zbv.f jY
 have hnx:=(j7 x).1 hn
 cases b
 ·rw [if_neg zam,if_neg zam,chk,if_pos (un zan zan),Put14 hK (yC hn 1) ha hnx.1]; rfl
 ·rw [if_pos rfl,if_pos rfl,chk,if_pos (un zan zan),Put14 hK (yC hn 2) ha hnx.2.1]; rfl
theorem cont14 (hK:200000 ≤ K) (hr:rightT x=true) (hn:nmT x) (hf:(kid x 0).kind=11→inb (kid x 0).form M.length=true) (h0:rowV M x ≠ 0) :
  ∃ p,zbz.f K (rowV M x - 1) (some M) x=some p∧p.2=(xH M x).2∧(p.2=0→p.1=(xH M x).1):=by
 obtain ⟨l2,l1,l3⟩ := kids (hr:=hr)
 have b12:=(row_iff (M:=M) (x:=x)).2.2.2.2.2.2.2.2
 have hin : ∀ {y:PTerm} {i:Int} {n:Nat},y.sub.length=n→(0 ≤ i∧i < n)→inb i y.sub.length=true:=fun h hi=>un hi.1 zan
 have hc:rowV M x=1∨rowV M x=2∨rowV M x=3∨rowV M x=4∨rowV M x=5∨rowV M x=6∨rowV M x=7∨rowV M x=8:=by omega
 rcases hc with e | e | e | e | e | e | e | e
 ·obtain ⟨k3,kp⟩ := (row_iff (M:=M) (x:=x)).1.1 e
  have hl:=l2 (.inl k3)
  have hp:=xC hr hl (i:=0) zan
  have hpl:(kid x 0).sub.length=1:=(xM hp).2.1 kp
  have hv:xH M x=putV (kid (kid x 0) 0) (kid x 0).name (kid x 1):=by unfold xH; simp only [e]; rfl
  refine ⟨xH M x,?_,rfl,fun _=>rfl⟩
  rw [hv,e]
  show zbt.f K (some M) x=_
  unfold zbt.f
  rw [chk,if_pos (hin (i:=0) hl zan),chk,if_pos (hin (y:=kid x 0) (i:=0) hpl zan),chk,if_pos (hin (i:=0) hl zan),chk,if_pos (hin (i:=1) hl zan)]
  rw [Put14 hK (yC (yC hn 0) 0) (yC hn 1) ((j7 _).1 (yC hn 0)).1]; rfl
 ·obtain ⟨k3,kb⟩ := (row_iff (M:=M) (x:=x)).2.1.1 e
  obtain ⟨kp,kq,_⟩ := uH kb
  have hl:=l2 (.inl k3)
  have hp:=xC hr hl (i:=0) zan
  have hpl:(kid x 0).sub.length=1:=(xM hp).2.2.2.2 kp
  have hq:=xC hp hpl (i:=0) zan
  have hql:(kid (kid x 0) 0).sub.length=1:=(xM hq).2.1 kq
  have hv:xH M x=(let r:=putV (kid (kid (kid x 0) 0) 0) (kid (kid x 0) 0).name (theT (kid x 1) (nd M (kid x 0).form).l); if r.2 ≠ 0 then r else (theT r.1 (nd M (kid x 0).form).r,0)):=by unfold xH; simp only [e]; rfl
  have ht:nmT (theT (kid x 1) (nd M (kid x 0).form).l):=nm_the (yC hn 1) _
  refine ⟨(theT (putV (kid (kid (kid x 0) 0) 0) (kid (kid x 0) 0).name (theT (kid x 1) (nd M (kid x 0).form).l)).1 (nd M (kid x 0).form).r,(putV (kid (kid (kid x 0) 0) 0) (kid (kid x 0) 0).name (theT (kid x 1) (nd M (kid x 0).form).l)).2),?_,?_,?_⟩
  ·rw [e]
   show zbu.f K (some M) x=_
   unfold zbu.f
   rw [chk,if_pos (hin (i:=0) hl zan),chk,if_pos (hin (y:=kid x 0) (i:=0) hpl zan),chk,if_pos (hin (y:=kid (kid x 0) 0) (i:=0) hql zan),chk,if_pos (hin (i:=1) hl zan),zag zan,zar]
   unfold zaM.f
   rw [zar]
   show ((zbs.f K (kid (kid (kid x 0) 0) 0) (kid (kid x 0) 0).name (theT (kid x 1) (nd M (kid x 0).form).l)).bind _)=_
   rw [Put14 hK (yC (yC (yC hn 0) 0) 0) ht ((j7 _).1 (yC (yC hn 0) 0)).1,zar,zag zan]
   rfl
  ·rw [hv]; dsimp only; split <;> simp_all
  ·intro z; rw [hv]; dsimp only at z ⊢; rw [if_neg (fun c=>c z)]
 ·obtain ⟨k56,kp⟩ := (row_iff (M:=M) (x:=x)).2.2.1.1 e
  have hl:=l1 zan
  have hp:=xC hr hl (i:=0) zan
  have hpl:(kid x 0).sub.length=2:=by have:=uo hp; rw [kp] at this; simp [yD] at this; omega
  have hv:xH M x=(if x.kind=6 then kid (kid x 0) 1 else kid (kid x 0) 0,0):=by unfold xH; simp only [e]; rfl
  refine ⟨xH M x,?_,rfl,fun _=>rfl⟩
  rw [hv,e]
  show zaX.f (some M) x=_
  unfold zaX.f zaR.f
  rw [chk,if_pos (hin (i:=0) hl zan)]
  by_cases k6:x.kind=6
  ·rw [if_pos (by simpa using k6),chk,if_pos (hin (y:=kid x 0) (i:=1) hpl zan),if_pos k6]; rfl
  ·rw [if_neg (by simpa using k6),chk,if_pos (hin (y:=kid x 0) (i:=0) hpl zan),if_neg k6]; rfl
 ·obtain ⟨k56,kb⟩ := (row_iff (M:=M) (x:=x)).2.2.2.1.1 e
  obtain ⟨kp,kq,_⟩ := uH kb
  have hl:=l1 zan
  have hp:=xC hr hl (i:=0) zan
  have hpl:(kid x 0).sub.length=1:=(xM hp).2.2.2.2 kp
  have hq:=xC hp hpl (i:=0) zan
  have hql:(kid (kid x 0) 0).sub.length=2:=by have:=uo hq; rw [kq] at this; simp [yD] at this; omega
  have hv:xH M x=(if x.kind=6 then theT (kid (kid (kid x 0) 0) 1) (nd M (kid x 0).form).r else theT (kid (kid (kid x 0) 0) 0) (nd M (kid x 0).form).l,0):=by unfold xH; simp only [e]; rfl
  refine ⟨xH M x,?_,rfl,fun _=>rfl⟩
  rw [hv,e]
  show zaZ.f (some M) x=_
  unfold zaZ.f zaR.f zaM.f
  rw [chk,if_pos (hin (i:=0) hl zan),chk,if_pos (hin (y:=kid x 0) (i:=0) hpl zan)]
  by_cases k6:x.kind=6
  ·rw [if_pos (by simpa using k6),chk,if_pos (hin (y:=kid (kid x 0) 0) (i:=1) hql zan),zar,zag zan,if_pos k6]; simp [k6]; rfl
  ·rw [if_neg (by simpa using k6),chk,if_pos (hin (y:=kid (kid x 0) 0) (i:=0) hql zan),zar,zag zan,if_neg k6]; simp [k6]; rfl
 ·obtain ⟨k9,kp⟩ := (row_iff (M:=M) (x:=x)).2.2.2.2.1.1 e
  have hl:=l3 k9
  have hp:=xC hr hl (i:=0) zan
  have hpl:(kid x 0).sub.length=1:=by have:=uo hp; rcases kp with kp | kp <;> rw [kp] at this <;> simp [yD] at this <;> omega
  have hv:xH M x=jY x (kid (kid x 0) 0) (decide ((kid x 0).kind=8)):=by unfold xH; simp only [e]; rfl
  refine ⟨xH M x,?_,rfl,fun _=>rfl⟩
  rw [hv,e]
  show zbw.f K (some M) x=_
  unfold zbw.f
  have hj : ∃ b,zaS.f x=some (decide ((kid x 0).kind=8),b):=by
   unfold zaS.f
   rw [vM zan,zar,if_pos (by simpa using k9),vM zan,zar]
   by_cases c7:(kid x 0).kind=7
   ·rw [if_neg (by simp [c7]),zar]; exact ⟨_,rfl⟩
   ·rw [if_pos (by simp [k9,c7]),zar]; exact ⟨_,rfl⟩
  obtain ⟨b,hj⟩ := hj
  rw [hj,zar,chk,if_pos (hin (i:=0) hl zan),chk,if_pos (hin (y:=kid x 0) (i:=0) hpl zan)]
  rw [into_some hK hn (yC (yC hn 0) 0) hl]; rfl
 ·obtain ⟨k9,kb⟩ := (row_iff (M:=M) (x:=x)).2.2.2.2.2.1.1 e
  have hl:=l3 k9
  have hp:=xC hr hl (i:=0) zan
  have hk:(kid x 0).kind=11∧((kid (kid x 0) 0).kind=8∨(kid (kid x 0) 0).kind=7):=by
   rcases kb with kb | kb
   ·obtain ⟨a,b,_⟩ := uH kb; exact ⟨a,.inl b⟩
   ·obtain ⟨a,b,_⟩ := uH kb; exact ⟨a,.inr b⟩
  have hpl:(kid x 0).sub.length=1:=(xM hp).2.2.2.2 hk.1
  have hq:=xC hp hpl (i:=0) zan
  have hql:(kid (kid x 0) 0).sub.length=1:=by have:=uo hq; rcases hk.2 with kp | kp <;> rw [kp] at this <;> simp [yD] at this <;> omega
  have hv:xH M x=jY x (theT (kid (kid (kid x 0) 0) 0) (if besV M (kid x 0) 8 4=2 then (nd M (kid x 0).form).r else (nd M (kid x 0).form).l)) (decide (besV M (kid x 0) 8 4=2)):=by unfold xH; simp only [e]; rfl
  refine ⟨xH M x,?_,rfl,fun _=>rfl⟩
  rw [hv,e]
  show zbx.f K (some M) x=_
  unfold zbx.f
  have hj : ∃ b,zaT.f (some M) x=some (decide (besV M (kid x 0) 8 4=2),b):=by
   unfold zaT.f
   rw [uj zan hp hf zam,zar]
   by_cases c8:besV M (kid x 0) 8 4=2
   ·rw [if_neg (by simp [c8]),zar]; exact ⟨_,rfl⟩
   ·rw [if_pos (by simp [k9,c8]),uj zan hp hf zam,zar]; exact ⟨_,rfl⟩
  obtain ⟨b,hj⟩ := hj
  rw [hj,zar,chk,if_pos (hin (i:=0) hl zan),chk,if_pos (hin (y:=kid x 0) (i:=0) hpl zan),chk,if_pos (hin (y:=kid (kid x 0) 0) (i:=0) hql zan),zag zan,zar]
  unfold zaM.f
  rw [zar]
  have hsel:(if decide (besV M (kid x 0) 8 4=2)=true then (nd M (kid x 0).form).r else (nd M (kid x 0).form).l)=(if besV M (kid x 0) 8 4=2 then (nd M (kid x 0).form).r else (nd M (kid x 0).form).l):=by
   by_cases c:besV M (kid x 0) 8 4=2 <;> simp [c]
  show ((zbv.f K x (theT (kid (kid (kid x 0) 0) 0) (if decide (besV M (kid x 0) 8 4=2)=true then (nd M (kid x 0).form).r else (nd M (kid x 0).form).l)) (decide (besV M (kid x 0) 8 4=2))).bind fun r44=>some (r44.1,r44.2))=_
  rw [hsel,into_some hK hn (nm_the (yC (yC (yC hn 0) 0) 0) _) hl]; rfl
 ·have k12:=(row_iff (M:=M) (x:=x)).2.2.2.2.2.2.1.1 e
  have hl:=l2 (.inr k12)
  have hv:xH M x=putV (kid x 1) x.name (kid x 0):=by unfold xH; simp only [e]; rfl
  refine ⟨xH M x,?_,rfl,fun _=>rfl⟩
  rw [hv,e]
  show zby.f K (some M) x=_
  unfold zby.f
  rw [chk,if_pos (hin (i:=1) hl zan),chk,if_pos (hin (i:=0) hl zan),Put14 hK (yC hn 1) (yC hn 0) ((j7 _).1 hn).1]; rfl
 ·obtain ⟨k11,_⟩ := (row_iff (M:=M) (x:=x)).2.2.2.2.2.2.2.1.1 e
  have hl:=l1 zan
  have hv:xH M x=(kid x 0,0):=by unfold xH; simp only [e]; rfl
  refine ⟨xH M x,?_,rfl,fun _=>rfl⟩
  rw [hv,e]
  show zbe.f (some M) x=_
  unfold zbe.f
  rw [chk,if_pos (hin (i:=0) hl zan)]
end
end
section
open Gw
theorem sizeL_put {n:ByteArray} {k:Int} {nm ot:ByteArray} {m:Nat} : ∀ (l:List PTerm) (i:Nat) (f:Nat→PTerm→PTerm),(∀ j (h:j < l.length),sizeT (f j l[j])=sizeT l[j] + (if ye k nm ot (i + j)=n then 0 else cntT n l[j]) * m)→sizeL (l.mapIdx f)=sizeL l + cntL n k nm ot i l * m
 | [],i,f,_=>by simp [sizeL,cntL]
 | y :: l,i,f,h=>by
  have h0:=h 0 zao
  have ih:=sizeL_put (n:=n) (k:=k) (nm:=nm) (ot:=ot) (m:=m) l (i + 1) (fun j=>f (j + 1)) (fun j hj=>by
   have:=h (j + 1) (by simpa using hj)
   rw [show i + 1 + j=i + (j + 1) by omega]
   simpa using this)
  rw [List.mapIdx_cons]
  simp only [sizeL,cntL]
  rw [ih]
  simp only [List.getElem_cons_zero,Nat.add_zero] at h0
  rw [h0,Nat.add_mul]; omega
theorem size_put : ∀ (d:Nat) (x:PTerm),depT x ≤ d→rightT x=true → ∀ (n:ByteArray) (y:PTerm),rightT y=true→sizeT x + sizeT y + 4 < 9223372036854775808→sizeT (putT x n y)=sizeT x + cntT n x * (sizeT y - 1)
 | 0,x,h,_,_,_,_,_=>by have:=vd x; omega
 | d + 1,x,h,hr,n,y,hy,hb=>by
  have hd:=yL x
  have hs:=x9 x
  have hsy:=uU y
  by_cases hk:x.kind=1
  ·have h0:x.sub=[]:=(xM hr).1 hk
   have hs1:sizeT x=1:=by rw [hs,h0]; rfl
   rw [put_var n y hk,vg,if_pos hk]
   by_cases e:x.name=n
   ·rw [if_pos e,if_pos e,hs1]; omega
   ·rw [if_neg e,if_neg e]; omega
  rw [zai n y hk,x9,vg,if_neg hk]
  show 1 + sizeL (x.sub.mapIdx fun i p=>putC putT x n y i p)=_
  rw [sizeL_put (n:=n) (k:=x.kind) (nm:=x.name) (ot:=x.other) (m:=sizeT y - 1) x.sub 0 (fun i p=>putC putT x n y i p) (fun j hj=>?_),hs]
  ·omega
  ·rw [Nat.zero_add]
   have hp:depT x.sub[j] ≤ d:=by have:=yV _ (List.getElem_mem hj); omega
   have hsp:sizeT x.sub[j] ≤ sizeL x.sub:=yO (List.getElem_mem hj)
   have hrp:=vK hr hj
   by_cases c1:zO x j=n∨¬ xr n x.sub[j]
   ·rw [putC,if_pos c1]
    rcases c1 with c | c
    ·have c':ye x.kind x.name x.other j=n:=c
     rw [if_pos c']; omega
    ·have g:cntT n x.sub[j]=0:=by unfold xr at c; omega
     rw [g]; split <;> omega
   have c1':zO x j ≠ n∧xr n x.sub[j]:=⟨fun q=>c1 (.inl q),Classical.byContradiction fun q=>c1 (.inr q)⟩
   have c':¬ ye x.kind x.name x.other j=n:=c1'.1
   rw [if_neg c']
   by_cases c3:zO x j ≠ ⟨#[]⟩ ∧ xr (zO x j) y
   ·rw [putC,if_neg c1,if_pos c3]
    obtain ⟨f1,f2,f3⟩ := fresh_ok (p:=x.sub[j]) (y:=y) (n:=n) zan
    have hvr:rightT (varT (xG x.sub[j] y n))=true:=kk (uN _ _ _)
    have hv1:sizeT (varT (xG x.sub[j] y n))=1:=rfl
    have hq:=kj d _ hp hrp (zO x j) _ hvr
    have hsr:=size_ren x.sub[j] (zO x j) (xG x.sub[j] y n)
    rw [size_put d _ (Nat.le_trans (dep_ren _ _ _) hp) hq n y hy zan,size_put d _ hp hrp (zO x j) _ hvr zan,hv1]
    have hcv:cntT n (varT (xG x.sub[j] y n))=0:=by
     rw [vg]; show (if (1:Int)=1 then (if xG x.sub[j] y n=n then 1 else 0) else _)=0
     rw [if_pos rfl,if_neg f3]
    rw [cnt_put d _ hp hrp (zO x j) _ hvr zan n,hcv,if_neg (fun q=>c1'.1 q.symm)]
    simp
   ·rw [putC,if_neg c1,if_neg c3,size_put d _ hp hrp n y hy zan]
end
section
open Gw
theorem putV_ok {x:PTerm} {n:ByteArray} {y:PTerm} (h:(putV x n y).2=0):xB x=0∧xB y=0∧isWord n∧(putV x n y).1=putT x n y∧sizeT (putT x n y) ≤ 65536:=by
 unfold putV at h ⊢
 by_cases cx:xB x=0
 rotate_left
 ·rw [if_pos cx] at h; exact absurd h cx
 rw [if_neg (fun q=>q cx)] at h ⊢
 by_cases cy:xB y=0
 rotate_left
 ·rw [if_pos cy] at h; exact absurd h cy
 rw [if_neg (fun q=>q cy)] at h ⊢
 by_cases w:isWord n
 rotate_left
 ·rw [if_pos w] at h; exact absurd h zam
 rw [if_neg (fun q=>q w)] at h ⊢
 by_cases c:65536 < sizeT x + cntT n x * (sizeT y - 1)∨1024 < gD true n (depT y) x
 ·rw [if_pos c] at h; exact absurd h zam
 rw [if_neg c]
 obtain ⟨x1,x2,x3⟩ := xY.1 cx
 obtain ⟨y1,y2,y3⟩ := xY.1 cy
 refine ⟨cx,cy,w,rfl,?_⟩
 rw [size_put _ x (Nat.le_refl _) x3 n y y3 zan]
 omega
section
variable {M:List Nd} {x:PTerm} {K:Nat}
end
end
section
open Gw
mutual
def toldB (M:List Nd):PTerm→Bool
 | .mk k _ _ f s=>(if k=11 then inb f M.length else true) && toldBL M s
def toldBL (M:List Nd):List PTerm→Bool
 | []=>true
 | x :: l=>toldB M x && toldBL M l
end
theorem uF (M:List Nd) (x:PTerm):toldB M x=((if x.kind=11 then inb x.form M.length else true) && toldBL M x.sub):=by cases x; simp only [toldB]; rfl
theorem jJ (M:List Nd) : ∀ l:List PTerm,toldBL M l=l.all (toldB M)
 | []=>rfl
 | x :: l=>by simp only [toldBL,List.all_cons,jJ M l]
theorem told_kid {M:List Nd} {x:PTerm} (h:toldB M x=true) {i:Nat} (hi:i < x.sub.length):toldB M x.sub[i]=true:=by
 rw [uF,Bool.and_eq_true_iff,jJ,List.all_eq_true] at h
 exact h.2 _ (List.getElem_mem hi)
theorem told_form {M:List Nd} {x:PTerm} (h:toldB M x=true) (hk:x.kind=11):inb x.form M.length=true:=by
 rw [uF,Bool.and_eq_true_iff,if_pos hk] at h
 exact h.1
theorem containsB {rec:Tb→PTerm→Option Bool} {T:Tb} {p:PTerm→Bool} {l:List PTerm} (h : ∀ x ∈ l,rec T x=some (p x)) (hl:l.length < 9223372036854775807):zbh.g rec l T=some (!l.all p):=by
 unfold zbh.g zbg.g
 have hf:=forN_find (b:=fun i s=>zbg.b0 rec l T i) (p:=fun j => !p (l.getD j PTerm.z)) (r:=fun j=>(j:Int)) l.length 0 () (fun j h1 h2=>by
  have hj:j < l.length:=by omega
  show zbg.b0 rec l T (j:Int)=_
  unfold zbg.b0 zbf.g
  rw [jz hj,h _ (List.getElem_mem hj),getD_at hj]
  cases p l[j] <;> rfl)
 have hf:forN (fun i s=>zbg.b0 rec l T i) l.length 0 ()=_:=hf
 rw [show ((l.length:Int) - 0).toNat=l.length by omega,hf]
 cases q:(List.range' 0 l.length).find? fun j => !p (l.getD j PTerm.z) with
 | some j =>
  have h1:=List.find?_some q
  have h2:=List.mem_range'_1.1 (List.mem_of_find?_eq_some q)
  have hj:j < l.length:=by omega
  rw [getD_at hj] at h1
  show some (decide ((0:Int) ≤ (j:Int)))=_
  rw [decide_eq_true zan]
  have:l.all p=false:=List.all_eq_false.2 ⟨_,List.getElem_mem hj,by simpa using h1⟩
  rw [this]; rfl
 | none =>
  have h1:=List.find?_eq_none.1 q
  show some (decide ((0:Int) ≤ -1))=_
  have:l.all p=true:=by
   rw [List.all_eq_true]
   intro y hy
   obtain ⟨j,hj,rfl⟩ := List.getElem_of_mem hy
   have:=h1 j (List.mem_range'_1.2 ⟨by omega,by omega⟩)
   rw [getD_at hj] at this
   simpa using this
  rw [this]; rfl
theorem known14 {M:List Nd} : ∀ (K:Nat) (x:PTerm),depT x ≤ K→rightT x=true→zbi.f K (some M) x=some (toldB M x)
 | 0,x,h,_=>by have:=vd x; omega
 | K + 1,x,h,hr=>by
  have hd:=yL x
  have h3:=len3 hr
  show zbi.g (zbi.f K) (some M) x=_
  unfold zbi.g zat.f
  have hh:(if decide (x.kind=11)=true then (some M).map (fun N=>(N.length:Int)) else some 0)=some (if x.kind=11 then (M.length:Int) else 0):=by
   by_cases k:x.kind=11
   ·rw [if_pos (by simpa using k),if_pos k]; rfl
   ·rw [if_neg (by simpa using k),if_neg k]
  rw [hh,zar,uF,jJ]
  have hc:=containsB (rec:=zbi.f K) (T:=some M) (p:=toldB M) (l:=x.sub) (fun y hy=>by
   obtain ⟨j,hj,rfl⟩ := List.getElem_of_mem hy
   exact known14 K _ (by have:=yV _ (List.getElem_mem hj); omega) (vK hr hj)) zan
  by_cases k:x.kind=11
  ·rw [if_pos k,if_pos k]
   have hf:=(yi hr).fm k
   by_cases c:(M.length:Int) ≤ x.form
   ·have:inb x.form M.length=false:=by
     unfold inb; rw [decide_eq_false (p:=x.form < (M.length:Int)) zan]; simp
    rw [if_pos (by simp [k,c]),this]; rfl
   ·rw [if_neg (by simp [k]; omega),hc,zar,un hf.1 zan,Bool.true_and,Bool.not_not]
  ·rw [if_neg (by simp [k]),hc,zar,if_neg k,Bool.true_and,Bool.not_not]
end
section
open Gw
def yP (M:List Nd) (x:PTerm):Int:=if xB x ≠ 0 then xB x else if toldB M x then 0 else 31
theorem begun14 {M:List Nd} {K:Nat} {x:PTerm} (hK:200000 ≤ K) (hn:nmT x) (hM:M.Nodup):zbk.f K (some M) x=some (decide (yP M x=0),yP M x):=by
 unfold zbk.f yP
 have hc:zaL.f (some M)=some (some M):=by
  unfold zaL.f; rw [chk,if_pos (by simpa using hM)]
 rw [hc,zar,if_neg zao,ko zan hn,zar]
 by_cases c:xB x=0
 ·obtain ⟨c1,c2,c3⟩ := xY.1 c
  rw [if_neg (by simpa using c),known14 K x zan c3,zar,c]
  unfold zbj.f
  cases toldB M x <;> simp
 ·rw [if_pos (by simpa using c),if_pos c,decide_eq_false c]
theorem je {M:List Nd} {x:PTerm}:yP M x=0↔(sizeT x ≤ 65536∧depT x ≤ 1024∧rightT x=true)∧toldB M x=true:=by
 unfold yP
 rw [← xY]
 by_cases c:xB x=0
 ·rw [if_neg (fun q=>q c)]
  cases h:toldB M x with
  | true=>simp [c]
  | false=>simp
 ·rw [if_pos c]; simp [c]
def doV (M:List Nd):PTerm→List Int→PTerm × Int
 | x,[]=>xH M x
 | x,k :: w=>if k < 0∨(x.sub.length:Int) ≤ k then (PTerm.z,140) else if (doV M (kid x k) w).2 ≠ 0 then (PTerm.z,(doV M (kid x k) w).2) else (⟨x.kind,x.name,x.other,x.form,x.sub.set k.toNat (doV M (kid x k) w).1⟩,0)
theorem kid_form {M:List Nd} {x:PTerm} (ht:toldB M x=true):(kid x 0).kind=11→inb (kid x 0).form M.length=true:=by
 intro h
 by_cases hl:0 < x.sub.length
 ·have e:kid x ((0:Nat):Int)=x.sub[0]:=kid_at hl
  have e':kid x 0=x.sub[0]:=e
  rw [e'] at h ⊢
  exact told_form (told_kid ht hl) h
 ·exfalso
  have h0:x.sub=[]:=List.eq_nil_of_length_eq_zero zan
  unfold kid at h
  rw [h0] at h
  exact absurd h zam
theorem do14 {M:List Nd} : ∀ (K:Nat) (x:PTerm) (w:List Int),200000 + depT x ≤ K→nmT x→rightT x=true→toldB M x=true → ∃ p,zbE.f K (some M) x w=some p∧p.2=(doV M x w).2∧(p.2=0→p.1=(doV M x w).1)
 | 0,x,w,h,_,_,_=>by omega
 | K + 1,x,w,h,hn,hr,ht=>by
  have hd:=yL x
  have hdp:=vd x
  have h3:=len3 hr
  show ∃ p,zbE.g (zbE.f K) K (some M) x w=some p∧_
  unfold zbE.g
  match w with
  | [] =>
   rw [if_pos zam,fits14 hr (kid_form ht),zar]
   by_cases c:rowV M x=0
   ·rw [if_pos c,if_pos zam]
    have hv:xH M x=(PTerm.z,140):=by unfold xH; simp only [c]; rfl
    exact ⟨(PTerm.z,140),rfl,by show _=(xH M x).2; rw [hv],fun q=>absurd q zam⟩
   ·rw [if_neg c,if_neg zao]
    obtain ⟨p,e1,e2,e3⟩ := cont14 (K:=K) zan hr hn (kid_form ht) c
    rw [show ((rowV M x - 1,true):Int × Bool).1=rowV M x - 1 from rfl,e1]
    exact ⟨p,rfl,e2,e3⟩
  | k :: w =>
   rw [if_neg (by simp; omega),chk,if_pos (by simp [inb])]
   have hk:at_ (0:Int) (k :: w) 0=k:=rfl
   rw [hk]
   have hdo:doV M x (k :: w)=if k < 0∨(x.sub.length:Int) ≤ k then (PTerm.z,140) else if (doV M (kid x k) w).2 ≠ 0 then (PTerm.z,(doV M (kid x k) w).2) else (⟨x.kind,x.name,x.other,x.form,x.sub.set k.toNat (doV M (kid x k) w).1⟩,0):=by rw [doV]
   rw [hdo]
   by_cases c:k < 0∨(x.sub.length:Int) ≤ k
   ·rw [if_pos (by simpa using c),if_pos c]
    exact ⟨(PTerm.z,140),rfl,rfl,fun _=>rfl⟩
   ·rw [if_neg (by simpa using c),if_neg c,chk,if_pos (un zan zan),chk,if_pos (by simp; omega)]
    obtain ⟨j,rfl⟩ : ∃ j:Nat,k=j:=⟨k.toNat,by omega⟩
    have hj:j < x.sub.length:=by omega
    have hkj:kid x (j:Int)=x.sub[j]:=kid_at hj
    obtain ⟨p,e1,e2,e3⟩ := do14 K (kid x (j:Int)) w (by rw [hkj]; have:=yV _ (List.getElem_mem hj); omega) (yC hn _) (by rw [hkj]; exact vK hr hj) (by rw [hkj]; exact told_kid ht hj)
    rw [show ((((j:Int) :: w).drop ((1:Int)).toNat))=w from rfl,e1,zar]
    by_cases z:p.2=0
    ·have z':(doV M (kid x (j:Int)) w).2=0:=by rw [← e2]; exact z
     have hcl:zaz.f x.sub=some x.sub:=by
      unfold zaz.f; rw [chk,if_pos (by simp; omega)]
     rw [if_neg (by simpa using z),if_neg (fun q=>q z'),hcl,zar,chk,if_pos (un zan zan),e3 z]
     exact ⟨_,rfl,rfl,fun _=>rfl⟩
    ·have z':(doV M (kid x (j:Int)) w).2 ≠ 0:=by rw [← e2]; exact z
     rw [if_pos (by simpa using z),if_pos z']
     exact ⟨_,rfl,e2,fun q=>absurd q z⟩
end
section
open Gw
theorem nm_all : ∀ {l:List PTerm},(∀ y ∈ l,nmT y)→nmL l
 | [],_=>trivial
 | a :: l,h=>⟨h a zao,nm_all fun y hy=>h y (by simp [hy])⟩
theorem vNm_size (k:Nat):(vNm k).size < 9223372036854775808:=by
 rw [vNm_eq,ba_size]; have:=decK_len 20 k; simp; omega
theorem nm_var {w:ByteArray} (h:w.size < 9223372036854775808):nmT (varT w):=by
 rw [j7]; exact ⟨h,by show (0:Nat) < _; decide,trivial⟩
theorem nmC_size {x:PTerm} (h:x.name.size < 9223372036854775808) (n:ByteArray) (y:PTerm):(nmC x n y).size < 9223372036854775808:=by
 by_cases q:(x.kind=2∨x.kind=12∨x.kind=9)∧renC x n y (if x.kind=2 then 0 else 1) (x.sub.getD (if x.kind=2 then 0 else 1) PTerm.z)
 ·rw [nmC_pos q]; exact vNm_size _
 ·rw [nmC_neg q]; exact h
theorem otC_size {x:PTerm} (h:x.other.size < 9223372036854775808) (n:ByteArray) (y:PTerm):(otC x n y).size < 9223372036854775808:=by
 by_cases q:x.kind=9∧renC x n y 2 (x.sub.getD 2 PTerm.z)
 ·rw [otC_pos q]; exact vNm_size _
 ·rw [otC_neg q]; exact h
theorem nm_put : ∀ (d:Nat) (x:PTerm),depT x ≤ d→nmT x → ∀ (n:ByteArray) (y:PTerm),nmT y→nmT (putT x n y)
 | 0,x,h,_,_,_,_=>by have:=vd x; omega
 | d + 1,x,h,hn,n,y,hy=>by
  have hd:=yL x
  have hx:=(j7 x).1 hn
  by_cases hk:x.kind=1
  ·rw [put_var n y hk]; split
   ·exact hy
   ·exact hn
  rw [zai n y hk,j7]
  refine ⟨nmC_size hx.1 n y,otC_size hx.2.1 n y,nm_all fun z hz=>?_⟩
  have hz:z ∈ x.sub.mapIdx fun i p=>putC putT x n y i p:=hz
  obtain ⟨j,hj,rfl⟩ := List.getElem_of_mem hz
  have hj':j < x.sub.length:=by simpa using hj
  rw [List.getElem_mapIdx]
  have hp:depT x.sub[j] ≤ d:=by have:=yV _ (List.getElem_mem hj'); omega
  have hnp:nmT x.sub[j]:=nm_mem hx.2.2 _ (List.getElem_mem hj')
  unfold putC
  split
  ·exact hnp
  ·split
   ·exact nm_put d _ (Nat.le_trans (dep_ren _ _ _) hp) (nm_put d _ hp hnp _ _ (nm_var (vNm_size _))) n y hy
   ·exact nm_put d _ hp hnp n y hy
theorem nm_putV {x:PTerm} (hx:nmT x) (n:ByteArray) {y:PTerm} (hy:nmT y):nmT (putV x n y).1:=by
 unfold putV
 split
 ·exact nm_z
 ·split
  ·exact nm_z
  ·split
   ·exact nm_z
   ·split
    ·exact nm_z
    ·exact nm_put _ x (Nat.le_refl _) hx n y hy
theorem nm_into {x a:PTerm} (hx:nmT x) (ha:nmT a) (b:Bool):nmT (jY x a b).1:=by
 unfold jY; split
 ·exact nm_putV (yC hx 2) _ ha
 ·exact nm_putV (yC hx 1) _ ha
theorem nm_cont {M:List Nd} {x:PTerm} (hx:nmT x):nmT (xH M x).1:=by
 have k:=fun i=>yC hx i
 have k2:=fun i j=>yC (k i) j
 have k3:=fun i j l=>yC (k2 i j) l
 unfold xH
 dsimp only
 split
 ·exact nm_putV (k2 0 0) _ (k 1)
 ·split
  ·split
   ·exact nm_putV (k3 0 0 0) _ (nm_the (k 1) _)
   ·exact nm_the (nm_putV (k3 0 0 0) _ (nm_the (k 1) _)) _
  ·split
   ·show nmT (if x.kind=6 then kid (kid x 0) 1 else kid (kid x 0) 0)
    split
    ·exact k2 0 1
    ·exact k2 0 0
   ·split
    ·show nmT (if x.kind=6 then theT (kid (kid (kid x 0) 0) 1) _ else theT (kid (kid (kid x 0) 0) 0) _)
     split
     ·exact nm_the (k3 0 0 1) _
     ·exact nm_the (k3 0 0 0) _
    ·split
     ·exact nm_into hx (k2 0 0) _
     ·split
      ·exact nm_into hx (nm_the (k3 0 0 0) _) _
      ·split
       ·exact nm_putV (k 1) _ (k 0)
       ·split
        ·exact k 0
        ·exact nm_z
theorem nm_do {M:List Nd} : ∀ (w:List Int) (x:PTerm),nmT x→nmT (doV M x w).1
 | [],x,hx=>by rw [doV]; exact nm_cont hx
 | k :: w,x,hx=>by
  rw [doV]
  split
  ·exact nm_z
  ·split
   ·exact nm_z
   ·have h:=(j7 x).1 hx
    rw [j7]
    refine ⟨h.1,h.2.1,nm_all fun y hy=>?_⟩
    rcases List.mem_or_eq_of_mem_set (show y ∈ x.sub.set k.toNat (doV M (kid x k) w).1 from hy) with q | q
    ·exact nm_mem h.2.2 y q
    ·rw [q]; exact nm_do w _ (yC hx k)
end
section
open Gw
theorem rclone14 : ∀ (K:Nat) (x:PTerm),sizeT x + 2 ≤ K→sizeT x ≤ 1000000000→zbB.f K x=some x
 | 0,x,h,_=>by omega
 | K + 1,x,h,hb=>by
  have hs:=x9 x
  have hl:=jZ x.sub
  show zbB.g (zbB.f K) x=_
  unfold zbB.g zaz.f
  rw [chk,if_pos (by simp; omega),zar,PTerm.eta,show ((x.sub.length:Int) - 0).toNat=x.sub.length by omega]
  have hloop:=forS_inv (b:=fun i s=>zbB.b0 (zbB.f K) i s) (inv:=fun _=>x) x.sub.length 0 (fun j _ hj=>by
   have hj:j < x.sub.length:=by omega
   have hm:sizeT x.sub[j] ≤ sizeL x.sub:=yO (List.getElem_mem hj)
   show zbB.b0 (zbB.f K) (j:Int) x=_
   unfold zbB.b0
   rw [chk,if_pos (un zan zan),jz hj,rclone14 K _ zan zan,zar,chk,if_pos (un zan zan)]
   show some (⟨x.kind,x.name,x.other,x.form,x.sub.set j x.sub[j]⟩ : PTerm)=_
   rw [List.set_getElem_self,PTerm.eta])
  have hloop:forS (fun i s=>zbB.b0 (zbB.f K) i s) x.sub.length 0 x=some x:=hloop
  rw [hloop,zar,PTerm.eta]
def yx (M:List Nd) (x:PTerm) (w:List Int):PTerm × Int :=
 if (doV M x w).2 ≠ 0 then (PTerm.z,(doV M x w).2) else if xB (doV M x w).1 ≠ 0 then (PTerm.z,121) else ((doV M x w).1,0)
theorem done14 {M:List Nd} {K:Nat} {x:PTerm} {w:List Int} (hK:300000 ≤ K) (hn:nmT x) (ha:yP M x=0):zbF.f K (some M) x w=some (yx M x w):=by
 obtain ⟨⟨a1,a2,a3⟩,a4⟩ := je.1 ha
 obtain ⟨p,e1,e2,e3⟩ := do14 K x w zan hn a3 a4
 unfold zbF.f
 rw [e1,zar]
 by_cases c:p.2=0
 ·have c':(doV M x w).2=0:=by rw [← e2]; exact c
  rw [if_pos (by simpa using c),e3 c,ko zan (nm_do w x hn),zar]
  by_cases k:xB (doV M x w).1=0
  ·obtain ⟨k1,_,_⟩ := xY.1 k
   have hv:yx M x w=((doV M x w).1,0):=by unfold yx; rw [if_neg (fun q=>q c'),if_neg (fun q=>q k)]
   rw [hv,if_neg (by simp [k]),if_neg (by simpa using c),rclone14 K _ zan zan]; rfl
  ·have hv:yx M x w=(PTerm.z,121):=by unfold yx; rw [if_neg (fun q=>q c'),if_pos k]
   rw [hv,if_pos (by simp [c,k]),if_pos zam]; rfl
 ·have c':(doV M x w).2 ≠ 0:=by rw [← e2]; exact c
  have hv:yx M x w=(PTerm.z,(doV M x w).2):=by unfold yx; rw [if_pos c']
  rw [hv,if_neg (by simpa using c),zar,if_neg (by simp [c]),if_pos (by simpa using c),e2]; rfl
end
section
open Gw
end
section
open Gw
end
section
open Gw
mutual
def gaT (M:List Nd):PTerm→List Int→List (List Int)→List (List Int)
 | .mk k n o f s,way,l=>if 1000 ≤ l.length then l else gaL M 0 s way (if rowV M (.mk k n o f s) ≠ 0 then l ++ [way] else l)
def gaL (M:List Nd):Nat→List PTerm→List Int→List (List Int)→List (List Int)
 | _,[],_,l=>l
 | i,y :: r,way,l=>gaL M (i + 1) r way (gaT M y (way ++ [(i:Int)]) l)
end
mutual
theorem gaT_len (M:List Nd) : ∀ (x:PTerm) (way:List Int) (l:List (List Int)),l.length ≤ 1000→(gaT M x way l).length ≤ 1000
 | .mk k n o f s,way,l,h=>by
  simp only [gaT]
  split
  ·exact h
  ·refine gaL_len M s 0 way _ ?_
   split
   ·rw [List.length_append,List.length_singleton]; omega
   ·exact h
theorem gaL_len (M:List Nd) : ∀ (r:List PTerm) (i:Nat) (way:List Int) (l:List (List Int)),l.length ≤ 1000→(gaL M i r way l).length ≤ 1000
 | [],i,way,l,h=>by simpa only [gaL] using h
 | y :: r,i,way,l,h=>by simp only [gaL]; exact gaL_len M r (i + 1) way _ (gaT_len M y _ l h)
end
end
section
open Gw
theorem gaL_nil (M:List Nd) (i:Nat) (way:List Int) (l:List (List Int)):gaL M i [] way l=l:=by simp only [gaL]
theorem gaL_cons (M:List Nd) (i:Nat) (y:PTerm) (r:List PTerm) (way:List Int) (l:List (List Int)):gaL M i (y :: r) way l=gaL M (i + 1) r way (gaT M y (way ++ [(i:Int)]) l):=by simp only [gaL]
end
section
open Gw
end
section
open Gw
end
section
open Gw
mutual
def fiT (M:List Nd):PTerm→List Int→Option (List Int)
 | .mk k n o f s,way=>if rowV M (.mk k n o f s) ≠ 0 then some way else fiL M 0 s way
def fiL (M:List Nd):Nat→List PTerm→List Int→Option (List Int)
 | _,[],_=>none
 | i,y :: r,way=>match fiT M y (way ++ [(i:Int)]) with
  | some w=>some w
  | none=>fiL M (i + 1) r way
end
theorem fiT_eq (M:List Nd) (x:PTerm) (way:List Int):fiT M x way=if rowV M x ≠ 0 then some way else fiL M 0 x.sub way:=by cases x; simp only [fiT]; rfl
mutual
theorem gaT_head (M:List Nd) : ∀ (x:PTerm) (way a:List Int) (l:List (List Int)),(gaT M x way (a :: l)).head? = some a
 | .mk k n o f s,way,a,l=>by
  simp only [gaT]
  split
  ·rfl
  ·split
   ·exact ga_head M s 0 way a (l ++ [way])
   ·exact ga_head M s 0 way a l
theorem ga_head (M:List Nd) : ∀ (r:List PTerm) (i:Nat) (way a:List Int) (l:List (List Int)),(gaL M i r way (a :: l)).head? = some a
 | [],i,way,a,l=>by rw [gaL_nil]; rfl
 | y :: r,i,way,a,l=>by
  have h:=gaT_head M y (way ++ [(i:Int)]) a l
  rw [gaL_cons]
  cases q:gaT M y (way ++ [(i:Int)]) (a :: l) with
  | nil=>rw [q] at h; cases h
  | cons b l'=>rw [q] at h; cases h; exact ga_head M r (i + 1) way a l'
end
mutual
theorem fi_ga (M:List Nd) : ∀ (x:PTerm) (way:List Int),(gaT M x way []).head? = fiT M x way
 | .mk k n o f s,way=>by
  have h:=gaL_fi M s 0 way
  simp only [gaT,fiT]
  rw [if_neg zao]
  by_cases c:rowV M (.mk k n o f s) ≠ 0
  ·rw [if_pos c,if_pos c]; exact ga_head M s 0 way way [] 
  ·rw [if_neg c,if_neg c]; exact h
theorem gaL_fi (M:List Nd) : ∀ (r:List PTerm) (i:Nat) (way:List Int),(gaL M i r way []).head? = fiL M i r way
 | [],i,way=>by simp only [gaL,fiL]; rfl
 | y :: r,i,way=>by
  have h:=fi_ga M y (way ++ [(i:Int)])
  rw [gaL_cons,fiL]
  cases q:gaT M y (way ++ [(i:Int)]) [] with
  | nil=>rw [q] at h; rw [← h]; exact gaL_fi M r (i + 1) way
  | cons a l=>rw [q] at h; rw [← h]; exact ga_head M r (i + 1) way a l
end
end
section
open Gw
theorem fiL_nil (M:List Nd) (i:Nat) (way:List Int):fiL M i [] way=none:=by rw [fiL]
theorem fiL_cons (M:List Nd) (i:Nat) (y:PTerm) (r:List PTerm) (way:List Int):fiL M i (y :: r) way=(fiT M y (way ++ [(i:Int)])).or (fiL M (i + 1) r way):=by
 rw [fiL]; cases fiT M y (way ++ [(i:Int)]) <;> rfl
theorem eachR14 {M:List Nd} : ∀ (K:Nat) (x:PTerm) (way a:List Int),depT x ≤ K→way.length + depT x ≤ 100000→rightT x=true→toldB M x=true →
  zbM.f K (some M) x way a=some ((fiT M x way).getD a,(fiT M x way).isNone)
 | 0,x,_,_,h,_,_,_=>by have:=vd x; omega
 | K + 1,x,way,a,h,hw,hr,ht=>by
  have hd:=yL x
  show zbM.g (zbM.f K) (some M) x way a=_
  have loop : ∀ (m j:Nat),j + m=x.sub.length→forN (fun i s=>zbM.b0 way (zbM.f K) (some M) x i s) m (j:Int) a=some (match fiL M j (x.sub.drop j) way with | some w => .inr (w,false) | none => .inl a):=by
   intro m
   induction m with
   | zero=>intro j hj; rw [List.drop_of_length_le zan,fiL_nil]; rfl
   | succ m ih =>
    intro j hj
    have hjl:j < x.sub.length:=by omega
    have hdp:depT x.sub[j] ≤ depL x.sub:=yV _ (List.getElem_mem hjl)
    have hb:zbM.b0 way (zbM.f K) (some M) x (j:Int) a=some (match fiT M x.sub[j] (way ++ [(j:Int)]) with | some w => .ret (w,false) | none => .go a):=by
     unfold zbM.b0
     rw [chk,if_pos zao,chk,if_pos (by rw [List.length_take,List.length_singleton]; simp; omega),jz hjl,show way.take (Int.toNat (way.length:Int))=way from List.take_length,eachR14 K _ _ a zan (by rw [List.length_append,List.length_singleton]; omega) (vK hr hjl) (told_kid ht hjl),zar]
     cases fiT M x.sub[j] (way ++ [(j:Int)]) <;> rfl
    rw [drop_at hjl,fiL_cons]
    simp only [forN,hb,zar]
    cases q:fiT M x.sub[j] (way ++ [(j:Int)]) with
    | some w=>rfl
    | none=>rw [show ((j:Int) + 1)=((j + 1:Nat):Int) by omega]; exact ih (j + 1) zan
  unfold zbM.g
  rw [fits14 hr (kid_form ht),zar,fiT_eq]
  by_cases c:rowV M x=0
  ·have l0:=loop x.sub.length 0 zan
   rw [List.drop_zero,show ((0:Nat):Int)=0 from rfl] at l0
   have hg:(if rowV M x ≠ 0 then some way else fiL M 0 x.sub way)=fiL M 0 x.sub way:=if_neg (fun q=>q c)
   rw [hg,if_pos c,if_neg zao,zar,if_neg zao,show ((x.sub.length:Int) - 0).toNat=x.sub.length by omega,l0]
   cases fiL M 0 x.sub way <;> rfl
  ·have hg:(if rowV M x ≠ 0 then some way else fiL M 0 x.sub way)=some way:=if_pos c
   rw [hg,if_neg c,if_pos zao]
   unfold zbL.f zaA.f
   rw [chk,if_pos (by simp; omega)]
   rfl
end
section
open Gw
theorem told_all {M:List Nd} {l:List PTerm} (h : ∀ y ∈ l,toldB M y=true):toldBL M l=true:=by rw [jJ,List.all_eq_true]; exact h
theorem told_var (M:List Nd) (w:ByteArray):toldB M (varT w)=true:=by rw [uF]; rfl
theorem told_put {M:List Nd} : ∀ (d:Nat) (x:PTerm),depT x ≤ d→toldB M x=true → ∀ (n:ByteArray) (y:PTerm),toldB M y=true→toldB M (putT x n y)=true
 | 0,x,h,_,_,_,_=>by have:=vd x; omega
 | d + 1,x,h,hn,n,y,hy=>by
  have hd:=yL x
  by_cases hk:x.kind=1
  ·rw [put_var n y hk]; split
   ·exact hy
   ·exact hn
  have hx:=hn
  rw [uF,Bool.and_eq_true_iff] at hx
  rw [zai n y hk,uF,Bool.and_eq_true_iff]
  refine ⟨hx.1,told_all fun z hz=>?_⟩
  have hz:z ∈ x.sub.mapIdx fun i p=>putC putT x n y i p:=hz
  obtain ⟨j,hj,rfl⟩ := List.getElem_of_mem hz
  have hj':j < x.sub.length:=by simpa using hj
  rw [List.getElem_mapIdx]
  have hp:depT x.sub[j] ≤ d:=by have:=yV _ (List.getElem_mem hj'); omega
  have hnp:=told_kid hn hj'
  unfold putC
  split
  ·exact hnp
  ·split
   ·exact told_put d _ (Nat.le_trans (dep_ren _ _ _) hp) (told_put d _ hp hnp _ _ (told_var M _)) n y hy
   ·exact told_put d _ hp hnp n y hy
end
section
open Gw
theorem told_z (M:List Nd):toldB M PTerm.z=true:=by rw [uF]; rfl
theorem j2 {M:List Nd} {x:PTerm} (h:toldB M x=true) (i:Int):toldB M (kid x i)=true:=by
 unfold kid at_
 rw [List.getD_eq_getElem?_getD]
 by_cases c:i.toNat < x.sub.length
 ·rw [List.getElem?_eq_getElem c]; exact told_kid h c
 ·rw [List.getElem?_eq_none zan]; exact told_z M
theorem told_the {M:List Nd} {a:PTerm} {f:Int} (ha:toldB M a=true) (hf:inb f M.length=true):toldB M (theT a f)=true:=by
 rw [uF,jJ]
 show ((if (11:Int)=11 then inb f M.length else true) && [a].all (toldB M))=true
 simp [hf,ha]
theorem zak {M:List Nd} {x:PTerm} {n:ByteArray} {y:PTerm} (hx:toldB M x=true) (hy:toldB M y=true) (h:(putV x n y).2=0):toldB M (putV x n y).1=true:=by
 rw [(putV_ok h).2.2.2.1]; exact told_put _ x (Nat.le_refl _) hx n y hy
theorem told_into {M:List Nd} {x a:PTerm} (hx:toldB M x=true) (ha:toldB M a=true) (b:Bool) (h:(jY x a b).2=0):toldB M (jY x a b).1=true:=by
 unfold jY at h ⊢
 cases b
 ·exact zak (j2 hx 1) ha h
 ·exact zak (j2 hx 2) ha h
theorem kx {M:List Nd} (hw:Wf M) {p:PTerm} (hp:toldB M p=true) {k f:Int} (hf:f=3∨f=4∨f=5) (h:besV M p k f=2):inb (nd M p.form).l M.length=true∧inb (nd M p.form).r M.length=true:=by
 obtain ⟨h1,h2,h3⟩ := uH h
 have hi:=told_form hp h1
 rw [← h3] at hf
 exact ⟨hw.left hi hf,hw.right hi hf⟩
theorem told_cont {M:List Nd} (hw:Wf M) {x:PTerm} (ht:toldB M x=true) (h:(xH M x).2=0):toldB M (xH M x).1=true:=by
 obtain ⟨r1,r2,r3,r4,r5,r6,r7⟩ := @row_iff M x
 have tk : ∀ i,toldB M (kid x i)=true:=j2 ht
 have tk2 : ∀ i j,toldB M (kid (kid x i) j)=true:=fun i j=>j2 (tk i) j
 have tk3 : ∀ i j l,toldB M (kid (kid (kid x i) j) l)=true:=fun i j l=>j2 (tk2 i j) l
 unfold xH at h ⊢
 dsimp only at h ⊢
 split at h
 ·rename_i c; rw [if_pos c]; exact zak (tk2 _ _) (tk _) h
 rename_i c1; rw [if_neg c1]
 split at h
 ·rename_i c; rw [if_pos c]
  have hb:=kx hw (tk 0) (.inr (.inr rfl)) (r2.1 c).2
  split at h
  ·rename_i d; exact absurd h d
  ·rename_i d
   rw [if_neg d]
   exact told_the (zak (tk3 _ _ _) (told_the (tk _) hb.1) (by simpa using d)) hb.2
 rename_i c2; rw [if_neg c2]
 split at h
 ·rename_i c; rw [if_pos c]
  show toldB M (if x.kind=6 then kid (kid x 0) 1 else kid (kid x 0) 0)=true
  split <;> exact tk2 _ _
 rename_i c3; rw [if_neg c3]
 split at h
 ·rename_i c; rw [if_pos c]
  have hb:=kx hw (tk 0) (.inl rfl) (r4.1 c).2
  show toldB M (if x.kind=6 then theT (kid (kid (kid x 0) 0) 1) _ else theT (kid (kid (kid x 0) 0) 0) _)=true
  split
  ·exact told_the (tk3 _ _ _) hb.2
  ·exact told_the (tk3 _ _ _) hb.1
 rename_i c4; rw [if_neg c4]
 split at h
 ·rename_i c; rw [if_pos c]; exact told_into ht (tk2 _ _) _ h
 rename_i c5; rw [if_neg c5]
 split at h
 ·rename_i c; rw [if_pos c]
  have hb:inb (nd M (kid x 0).form).l M.length=true∧inb (nd M (kid x 0).form).r M.length=true:=by
   have h6:=r6.1 c
   rcases h6.2 with q | q
   ·exact kx hw (tk 0) (.inr (.inl rfl)) q
   ·exact kx hw (tk 0) (.inr (.inl rfl)) q
  refine told_into ht (told_the (tk3 _ _ _) ?_) _ h
  split
  ·exact hb.2
  ·exact hb.1
 rename_i c6; rw [if_neg c6]
 split at h
 ·rename_i c; rw [if_pos c]; exact zak (tk _) (tk _) h
 rename_i c7; rw [if_neg c7]
 split at h
 ·rename_i c; rw [if_pos c]; exact tk _
 ·exact absurd h zam
theorem told_set {M:List Nd} {x y:PTerm} (hx:toldB M x=true) (hy:toldB M y=true) (j:Nat):toldB M ⟨x.kind,x.name,x.other,x.form,x.sub.set j y⟩ = true:=by
 have hx':=hx
 rw [uF,Bool.and_eq_true_iff,jJ,List.all_eq_true] at hx'
 rw [uF,Bool.and_eq_true_iff]
 refine ⟨hx'.1,told_all fun z hz=>?_⟩
 rcases List.mem_or_eq_of_mem_set hz with q | rfl
 ·exact hx'.2 z q
 ·exact hy
theorem told_do {M:List Nd} (hw:Wf M) : ∀ (w:List Int) (x:PTerm),toldB M x=true→(doV M x w).2=0→toldB M (doV M x w).1=true
 | [],x,ht,h=>by rw [doV] at h ⊢; exact told_cont hw ht h
 | k :: w,x,ht,h=>by
  rw [doV] at h ⊢
  by_cases c:k < 0∨(x.sub.length:Int) ≤ k
  ·rw [if_pos c] at h; exact absurd h zam
  rw [if_neg c] at h ⊢
  by_cases z:(doV M (kid x k) w).2=0
  ·rw [if_neg (fun q=>q z)]
   exact told_set ht (told_do hw w _ (j2 ht k) z) _
  ·rw [if_pos z] at h; exact absurd h z
theorem done_ok {M:List Nd} {x:PTerm} {w:List Int} (h:(yx M x w).2=0):(doV M x w).2=0∧xB (doV M x w).1=0∧yx M x w=((doV M x w).1,0):=by
 unfold yx at h ⊢
 by_cases c:(doV M x w).2=0
 ·rw [if_neg (fun q=>q c)] at h ⊢
  by_cases k:xB (doV M x w).1=0
  ·rw [if_neg (fun q=>q k)]; exact ⟨c,k,rfl⟩
  ·rw [if_pos k] at h; exact absurd h zam
 ·rw [if_pos c] at h; exact absurd h c
theorem ahead_done {M:List Nd} (hw:Wf M) {x:PTerm} {w:List Int} (ha:yP M x=0) (h:(yx M x w).2=0):yP M (yx M x w).1=0:=by
 obtain ⟨h1,h2,h3⟩ := done_ok h
 rw [h3,je]
 exact ⟨xY.1 h2,told_do hw w x (je.1 ha).2 h1⟩
theorem nm_done {M:List Nd} {x:PTerm} {w:List Int} (hn:nmT x) (h:(yx M x w).2=0):nmT (yx M x w).1:=by
 obtain ⟨h1,h2,h3⟩ := done_ok h
 rw [h3]; exact nm_do w x hn
end
section
open Gw
def runV (M:List Nd):Nat→PTerm→Int→PTerm × Int × Bool × Int
 | 0,x,n=>(x,n,(fiT M x []).isNone,0)
 | m + 1,x,n=>match fiT M x [] with
  | none=>(x,n,true,0)
  | some w=>if (yx M x w).2 ≠ 0 then (x,n,false,(yx M x w).2) else runV M m (yx M x w).1 (n + 1)
theorem uT {M:List Nd} {m:Nat} {x:PTerm} {n:Int} (h:fiT M x []=none):runV M m x n=(x,n,true,0):=by
 cases m with
 | zero=>simp only [runV,h]; rfl
 | succ m=>simp only [runV,h]
theorem runV_out {M:List Nd} {x:PTerm} {n:Int} {w:List Int} (h:fiT M x []=some w):runV M 0 x n=(x,n,false,0):=by simp only [runV,h]; rfl
theorem jI {M:List Nd} {m:Nat} {x:PTerm} {n:Int} {w:List Int} (h:fiT M x []=some w) (hd:(yx M x w).2 ≠ 0):runV M (m + 1) x n=(x,n,false,(yx M x w).2):=by simp only [runV,h]; rw [if_pos hd]
theorem kO {M:List Nd} {m:Nat} {x:PTerm} {n:Int} {w:List Int} (h:fiT M x []=some w) (hd:(yx M x w).2=0):runV M (m + 1) x n=runV M m (yx M x w).1 (n + 1):=by simp only [runV,h]; rw [if_neg (fun q=>q hd)]
theorem runV_true {M:List Nd} : ∀ {m:Nat} {x:PTerm} {n:Int},(runV M m x n).2.2.1=true→(runV M m x n).2.2.2=0
 | 0,x,n,h=>by simp only [runV]
 | m + 1,x,n,h=>by
  cases q:fiT M x [] with
  | none=>rw [uT q]
  | some w =>
   by_cases d:(yx M x w).2=0
   ·rw [kO q d] at h ⊢; exact runV_true h
   ·rw [jI q d] at h; exact absurd h zao
def RunV (M:List Nd) (x:PTerm) (fuel:Int):PTerm × Int × Bool × Int :=
 if yP M x ≠ 0 then (PTerm.z,0,false,yP M x) else if fuel < 0∨4096 < fuel then (PTerm.z,0,false,2) else runV M fuel.toNat x 0
theorem run_prog {M:List Nd} (hw:Wf M) {K:Nat} (hK:300000 ≤ K) : ∀ (m n k:Nat) (x:PTerm),n + m ≤ 4096→m < k→nmT x→yP M x=0 →
  iter (fun s=>zbN.b0 K (some M) ((n + m:Nat):Int) s.1 s.2.1 s.2.2) k ((n:Int),x,PTerm.z)=some (if (runV M m x n).2.2.1=true then .inl ((runV M m x n).2.1,(runV M m x n).1,PTerm.z) else .inr (runV M m x n))
 | m,n,0,x,_,hk,_,_=>by omega
 | m,n,k + 1,x,hm,hk,hn,ha=>by
  obtain ⟨⟨a1,a2,a3⟩,a4⟩ := je.1 ha
  simp only [iter]
  have hf:=eachR14 (M:=M) K x [] [] zan (by simp; omega) a3 a4
  have hb:zbN.b0 K (some M) ((n + m:Nat):Int) (n:Int) x PTerm.z=match fiT M x [] with
    | none=>some (.brk ((n:Int),x,PTerm.z))
    | some w=>if m=0 then some (.ret (x,(n:Int),false,0)) else if (yx M x w).2 ≠ 0 then some (.ret (x,(n:Int),false,(yx M x w).2)) else some (.go (((n + 1:Nat):Int),(yx M x w).1,PTerm.z)):=by
   unfold zbN.b0
   rw [hf,zar]
   cases q:fiT M x [] with
   | none=>rfl
   | some w =>
    simp only [Option.getD_some,Option.isNone_some,Bool.false_eq_true,if_false]
    by_cases hm0:m=0
    ·rw [if_pos (by simp; omega),if_pos hm0]
    ·rw [if_neg (by simp; omega),if_neg hm0,done14 hK hn ha,zar]
     by_cases d:(yx M x w).2=0
     ·rw [if_neg (by simpa using d),if_neg (fun q=>q d),wrap_succ zan]
     ·rw [if_pos (by simpa using d),if_pos d]
  rw [hb]
  cases q:fiT M x [] with
  | none=>rw [uT q]; rfl
  | some w =>
   simp only []
   match m,hm,hk with
   | 0,hm,hk=>rw [if_pos rfl,runV_out q]; rfl
   | m + 1,hm,hk =>
    rw [if_neg zan]
    by_cases d:(yx M x w).2=0
    ·rw [if_neg (fun q=>q d),kO q d]
     have ih:=run_prog hw hK m (n + 1) k (yx M x w).1 zan zan (nm_done hn d) (ahead_done hw ha d)
     rw [show n + 1 + m=n + (m + 1) by omega] at ih
     exact ih
    ·rw [if_pos d,jI q d]; rfl
theorem RunV_ref {M:List Nd} {x:PTerm} {fuel:Int} (h:yP M x ≠ 0):RunV M x fuel=(PTerm.z,0,false,yP M x):=by unfold RunV; rw [if_pos h]
theorem RunV_arg {M:List Nd} {x:PTerm} {fuel:Int} (h:yP M x=0) (f:fuel < 0∨4096 < fuel):RunV M x fuel=(PTerm.z,0,false,2):=by unfold RunV; rw [if_neg (fun q=>q h),if_pos f]
theorem RunV_run {M:List Nd} {x:PTerm} {fuel:Int} (h:yP M x=0) (f:¬ (fuel < 0∨4096 < fuel)):RunV M x fuel=runV M fuel.toNat x 0:=by unfold RunV; rw [if_neg (fun q=>q h),if_neg f]
theorem Run14 {M:List Nd} (hw:Wf M) {K:Nat} (hK:300000 ≤ K) {x:PTerm} (hn:nmT x) (hb:sizeT x ≤ 1000000000) (fuel:Int):zbN.f K (some M) x fuel=some (RunV M x fuel):=by
 unfold zbN.f
 rw [begun14 zan hn hw.nodup,zar]
 by_cases c:yP M x=0
 rotate_left
 ·rw [if_pos (by simpa using c),RunV_ref c]; rfl
 rw [if_neg (by simpa using c)]
 by_cases f:fuel < 0∨4096 < fuel
 ·rw [if_pos (by simpa using f),RunV_arg c f]; rfl
 rw [if_neg (by simpa using f),RunV_run c f]
 obtain ⟨⟨a1,a2,a3⟩,a4⟩ := je.1 c
 have hr:=run_prog hw hK fuel.toNat 0 K x zan zan hn c
 rw [show ((0 + fuel.toNat:Nat):Int)=fuel by omega] at hr
 have hr:iter (fun s=>zbN.b0 K (some M) fuel s.1 s.2.1 s.2.2) K (0,x,(⟨0,ByteArray.empty,ByteArray.empty,0,[]⟩ : PTerm))=some (if (runV M fuel.toNat x 0).2.2.1=true then .inl ((runV M fuel.toNat x 0).2.1,(runV M fuel.toNat x 0).1,PTerm.z) else .inr (runV M fuel.toNat x 0)):=hr
 rw [rclone14 K x zan zan,zar,chk,if_pos (by simpa using c),hr,zar]
 have ht:=@runV_true M fuel.toNat x 0
 generalize runV M fuel.toNat x 0=r at ht
 obtain ⟨r1,r2,r3,r4⟩ := r
 cases r3 with
 | true=>simp only [] at ht; rw [ht trivial]; rfl
 | false=>rfl
end
section
open Gw
theorem wf_nil:Wf []:=⟨by simp,by simp,fun i hi=>absurd (zG hi) zao,fun i hi=>absurd (zG hi) zao,fun j n h=>by simp at h⟩
theorem tables14 {rows:List Nd} (hn : ∀ n ∈ rows,n.name.size < 9223372036854775808) (hl:rows.length * 40 ≤ 140737488355328) : ∃ M,zcb.f rows=some (some M,some M)∧Wf M:=by
 unfold zcb.f
 rcases both_some hn hl with h | ⟨h,hw⟩
 ·exact ⟨[],by rw [h]; rfl,wf_nil⟩
 ·exact ⟨rows,by rw [h]; rfl,hw⟩
theorem same_refl : ∀ (K:Nat) (x:PTerm),sizeT x + 2 ≤ K→sizeT x ≤ 1000000000→zbY.f K x x=some true
 | 0,x,h,_=>by omega
 | K + 1,x,h,hb=>by
  have hs:=x9 x
  have hl:=jZ x.sub
  show zbY.g (zbY.f K) K x x=_
  unfold zbY.g
  rw [if_neg zao]
  have hloop:=iter_brk (b:=fun s=>zbY.b0 x x (zbY.f K) s) (inv:=fun i=>(i:Int)) (s:=(x.sub.length:Int)) x.sub.length 0 K zan (fun j _ hj=>by
   have hj:j < x.sub.length:=by omega
   have hm:sizeT x.sub[j] ≤ sizeL x.sub:=yO (List.getElem_mem hj)
   show zbY.b0 x x (zbY.f K) (j:Int)=_
   unfold zbY.b0
   rw [if_pos (by simp; omega),chk,if_pos (un zan zan),chk,if_pos (un zan zan),jz hj,same_refl K _ zan zan,zar,if_neg zao,wrap_succ zan]) (by
   show zbY.b0 x x (zbY.f K) ((0 + x.sub.length:Nat):Int)=_
   unfold zbY.b0
   rw [Nat.zero_add,if_neg zao])
  have hloop:iter (fun s=>zbY.b0 x x (zbY.f K) s) K 0=_:=hloop
  rw [hloop]; rfl
theorem runV_ok {M:List Nd} (hw:Wf M) : ∀ {m:Nat} {x:PTerm} {n:Int},nmT x→yP M x=0→yP M (runV M m x n).1=0∧nmT (runV M m x n).1
 | 0,x,n,hn,ha=>by simp only [runV]; exact ⟨ha,hn⟩
 | m + 1,x,n,hn,ha=>by
  cases q:fiT M x [] with
  | none=>rw [uT q]; exact ⟨ha,hn⟩
  | some w =>
   by_cases d:(yx M x w).2=0
   ·rw [kO q d]; exact runV_ok hw (nm_done hn d) (ahead_done hw ha d)
   ·rw [jI q d]; exact ⟨ha,hn⟩
end
section
open Gw
def InT (M:List Nd):List Int→PTerm→Prop
 | [],x=>rowV M x ≠ 0
 | k :: w,x=>0 ≤ k∧k < (x.sub.length:Int)∧InT M w (kid x k)
mutual
theorem gaT_in (M:List Nd) : ∀ (x:PTerm) (way:List Int) (l:List (List Int)) (w:List Int),w ∈ gaT M x way l→w ∈ l ∨ ∃ v,w=way ++ v∧InT M v x
 | .mk k n o f s,way,l,w,hw=>by
  simp only [gaT] at hw
  split at hw
  ·exact .inl hw
  ·rcases gaL_in M s 0 way _ w hw with q | ⟨j,v,hj,e,h⟩
   ·split at q
    ·rename_i c
     rcases List.mem_append.1 q with q | q
     ·exact .inl q
     ·rw [List.mem_singleton] at q; subst q
      exact .inr ⟨[],by simp,c⟩
    ·exact .inl q
   ·refine .inr ⟨(j:Int) :: v,by rw [e,Nat.zero_add],?_⟩
    refine ⟨by omega,by show (j:Int) < (s.length:Int); omega,?_⟩
    rw [show kid (PTerm.mk k n o f s) (j:Int)=s[j] from kid_at hj]; exact h
theorem gaL_in (M:List Nd) : ∀ (r:List PTerm) (i:Nat) (way:List Int) (l:List (List Int)) (w:List Int),w ∈ gaL M i r way l→w ∈ l ∨ ∃ j v,∃ h:j < r.length,w=way ++ ((i + j:Nat):Int) :: v∧InT M v r[j]
 | [],i,way,l,w,hw=>by rw [gaL_nil] at hw; exact .inl hw
 | y :: r,i,way,l,w,hw=>by
  rw [gaL_cons] at hw
  rcases gaL_in M r (i + 1) way _ w hw with q | ⟨j,v,hj,e,h⟩
  ·rcases gaT_in M y _ l w q with p | ⟨v,e,h⟩
   ·exact .inl p
   ·exact .inr ⟨0,v,by simp,by rw [e]; simp,h⟩
  ·exact .inr ⟨j + 1,v,by simpa using hj,by rw [e,show i + 1 + j=i + (j + 1) by omega],h⟩
end
theorem ga_in {M:List Nd} {x:PTerm} {w:List Int} (h:w ∈ gaT M x [] []):InT M w x:=by
 rcases gaT_in M x [] [] w h with q | ⟨v,e,h⟩
 ·simp at q
 ·rw [e]; exact h
theorem fi_in {M:List Nd} {x:PTerm} {w:List Int} (h:fiT M x []=some w):InT M w x:=by
 rw [← fi_ga] at h
 exact ga_in (List.mem_of_mem_head? h)
theorem kid_lt {x:PTerm} {i:Int} (h0:0 ≤ i) (h1:i < (x.sub.length:Int)):sizeT (kid x i) < sizeT x∧depT (kid x i) < depT x:=by
 obtain ⟨j,rfl⟩ : ∃ j:Nat,i=j:=⟨i.toNat,by omega⟩
 have hj:j < x.sub.length:=by omega
 have:=yO (List.getElem_mem hj); have:=yV _ (List.getElem_mem hj); have:=x9 x; have:=yL x
 rw [show kid x (j:Int)=x.sub[j] from kid_at hj]; omega
theorem right_the {a:PTerm} {f:Int} (ha:rightT a=true) (h:0 ≤ f∧f < 1024):rightT (theT a f)=true:=by
 refine right_of ⟨rfl,fun q=>absurd q (by simp [PTerm.kind]),fun _=>rfl,fun q=>absurd q (by simp [PTerm.kind]),fun _=>rfl,fun _=>h,fun q=>absurd rfl q⟩ fun i hi=>?_
 have:i=0:=by simpa [PTerm.sub] using hi
 subst this; exact ha
theorem jH {x y:PTerm} {n:ByteArray} (hx:xB x=0) (hy:xB y=0) (hn:isWord n):(putV x n y).2=0∨(putV x n y).2=121:=by
 unfold putV
 rw [if_neg (fun q=>q hx),if_neg (fun q=>q hy),if_neg (fun q=>q hn)]
 split
 ·exact .inr rfl
 ·exact .inl rfl
theorem form_lt {M:List Nd} (hw:Wf M) {i:Int} (h:inb i M.length=true):0 ≤ i∧i < 1024:=by
 have:=zG h; have:=hw.len; omega
theorem none9 {r:Int} (h0:0 ≤ r) (h8:r ≤ 8) (c0:r ≠ 0) (c1:¬ r=1) (c2:¬ r=2) (c3:¬ r=3) (c4:¬ r=4) (c5:¬ r=5) (c6:¬ r=6) (c7:¬ r=7) (c8:¬ r=8):False:=by omega
theorem cont_code {M:List Nd} (hw:Wf M) {x:PTerm} (hc:xB x=0) (ht:toldB M x=true) (h:rowV M x ≠ 0):(xH M x).2=0∨(xH M x).2=121:=by
 obtain ⟨hs,hd,hr⟩ := xY.1 hc
 obtain ⟨r1,r2,r3,r4,r5,r6,r7,r8⟩ := @row_iff M x
 obtain ⟨l2,l1,l3⟩ := kids (hr:=hr)
 have ck : ∀ {i:Int},0 ≤ i→i < (x.sub.length:Int)→xB (kid x i)=0∧sizeT (kid x i) < sizeT x∧depT (kid x i) < depT x∧rightT (kid x i)=true:=fun {i} h0 h1=>by
  have:=kid_lt h0 h1
  have hk:=xC hr rfl ⟨h0,h1⟩
  exact ⟨xY.2 ⟨by omega,by omega,hk⟩,this.1,this.2,hk⟩
 have ck2 : ∀ {p:PTerm} {i:Int},rightT p=true→sizeT p < sizeT x→depT p < depT x→0 ≤ i→i < (p.sub.length:Int)→xB (kid p i)=0∧sizeT (kid p i) + 1 < sizeT x∧depT (kid p i) + 1 < depT x∧rightT (kid p i)=true:=fun {p i} hp h1 h2 h3 h4=>by
  have:=kid_lt h3 h4
  have hk:=xC hp rfl ⟨h3,h4⟩
  exact ⟨xY.2 ⟨by omega,by omega,hk⟩,by omega,by omega,hk⟩
 have the0 : ∀ {a:PTerm} {f:Int},rightT a=true→sizeT a < sizeT x→depT a < depT x→inb f M.length=true→xB (theT a f)=0:=fun {a f} h1 h2 h3 h4=>by
  refine xY.2 ⟨by rw [size_the]; omega,?_,right_the h1 (form_lt hw h4)⟩
  have e:depT (theT a f)=1 + depL [a]:=yL (theT a f)
  have e2:depL [a]=depT a:=by simp [depL]
  omega
 have tk0:=j2 ht 0
 unfold xH
 dsimp only
 split
 ·rename_i c
  obtain ⟨k3,k2⟩ := r1.1 c
  have hl:=l2 (.inl k3)
  obtain ⟨c0,s0,d0,p0⟩ := ck (i:=0) zan zan
  have hl0:=(xM p0).2.1 k2
  exact jH (ck2 p0 s0 d0 (i:=0) zan zan).1 (ck (i:=1) zan zan).1 ((yi p0).nm (.inr (.inl k2)))
 split
 ·rename_i _ c
  obtain ⟨k3,b⟩ := r2.1 c
  have hl:=l2 (.inl k3)
  obtain ⟨c0,s0,d0,p0⟩ := ck (i:=0) zan zan
  obtain ⟨b1,b2,b3⟩ := uH b
  have hl0:=(xM p0).2.2.2.2 b1
  obtain ⟨c1,s1,d1,p1⟩ := ck2 p0 s0 d0 (i:=0) zan zan
  have hl1:=(xM p1).2.1 b2
  obtain ⟨c2,s2,d2,p2⟩ := ck2 p1 zan zan (i:=0) zan zan
  obtain ⟨cy,sy,dy,py⟩ := ck (i:=1) zan zan
  have hf:=kx hw tk0 (.inr (.inr rfl)) b
  rcases jH c2 (the0 py sy dy hf.1) ((yi p1).nm (.inr (.inl b2))) with q | q
  ·rw [if_neg (fun z=>z q)]; exact .inl rfl
  ·rw [if_pos (by rw [q]; decide)]; exact .inr q
 split
 ·exact .inl rfl
 split
 ·exact .inl rfl
 split
 ·rename_i c
  have h5:=r5.1 c
  have hl:=l3 h5.1
  obtain ⟨c0,s0,d0,p0⟩ := ck (i:=0) zan zan
  have hl0:(kid x 0).sub.length=1:=by
   have:=uo p0
   rcases h5.2 with q | q <;> rw [q] at this <;> simp [yD] at this <;> omega
  have hy:=(ck2 p0 s0 d0 (i:=0) zan zan).1
  unfold jY
  split
  ·exact jH (ck (i:=2) zan zan).1 hy ((yi hr).ot h5.1)
  ·exact jH (ck (i:=1) zan zan).1 hy ((yi hr).nm (.inr (.inr (.inl h5.1))))
 split
 ·rename_i c
  have h6:=r6.1 c
  have hl:=l3 h6.1
  obtain ⟨c0,s0,d0,p0⟩ := ck (i:=0) zan zan
  have hb:(kid x 0).kind=11∧((kid (kid x 0) 0).kind=7∨(kid (kid x 0) 0).kind=8)∧inb (nd M (kid x 0).form).l M.length=true∧inb (nd M (kid x 0).form).r M.length=true:=by
   rcases h6.2 with q | q
   ·have b:=uH q; exact ⟨b.1,by omega,kx hw tk0 (.inr (.inl rfl)) q⟩
   ·have b:=uH q; exact ⟨b.1,by omega,kx hw tk0 (.inr (.inl rfl)) q⟩
  obtain ⟨b1,b2,b3,b4⟩ := hb
  have hl0:=(xM p0).2.2.2.2 b1
  obtain ⟨c1,s1,d1,p1⟩ := ck2 p0 s0 d0 (i:=0) zan zan
  have hl1:(kid (kid x 0) 0).sub.length=1:=by
   have:=uo p1
   rcases b2 with q | q <;> rw [q] at this <;> simp [yD] at this <;> omega
  obtain ⟨c2,s2,d2,p2⟩ := ck2 p1 zan zan (i:=0) zan zan
  have hy:xB (theT (kid (kid (kid x 0) 0) 0) (if besV M (kid x 0) 8 4=2 then (nd M (kid x 0).form).r else (nd M (kid x 0).form).l))=0:=the0 p2 zan zan (by split <;> assumption)
  unfold jY
  split
  ·exact jH (ck (i:=2) zan zan).1 hy ((yi hr).ot h6.1)
  ·exact jH (ck (i:=1) zan zan).1 hy ((yi hr).nm (.inr (.inr (.inl h6.1))))
 split
 ·rename_i c
  have k12:=r7.1 c
  have hl:=l2 (.inr k12)
  exact jH (ck (i:=1) zan zan).1 (ck (i:=0) zan zan).1 ((yi hr).nm (.inr (.inr (.inr k12))))
 split
 ·exact .inl rfl
 ·rename_i c1 c2 c3 c4 c5 c6 c7 c8
  exfalso
  obtain ⟨-,q0,q8⟩ := r8
  exact none9 q0 q8 h c1 c2 c3 c4 c5 c6 c7 c8
theorem do_code {M:List Nd} (hw:Wf M) : ∀ (w:List Int) {x:PTerm},xB x=0→toldB M x=true→InT M w x→(doV M x w).2=0∨(doV M x w).2=121
 | [],x,hc,ht,h=>by rw [doV]; exact cont_code hw hc ht h
 | k :: w,x,hc,ht,h=>by
  obtain ⟨hs,hd,hr⟩ := xY.1 hc
  have hk:=kid_lt h.1 h.2.1
  rw [doV,if_neg (by have:=h.1; have:=h.2.1; omega)]
  have ih:=do_code hw w (xY.2 ⟨by omega,by omega,xC hr rfl ⟨h.1,h.2.1⟩⟩) (j2 ht k) h.2.2
  split
  ·exact ih
  ·exact .inl rfl
theorem done_code {M:List Nd} (hw:Wf M) {x:PTerm} {w:List Int} (ha:yP M x=0) (h:InT M w x):(yx M x w).2=0∨(yx M x w).2=121:=by
 obtain ⟨a1,a2⟩ := je.1 ha
 have:=do_code hw w (xY.2 a1) a2 h
 unfold yx
 split
 ·exact this
 ·split
  ·exact .inr rfl
  ·exact .inl rfl
theorem runV_code {M:List Nd} (hw:Wf M) : ∀ {m:Nat} {x:PTerm} {n:Int},nmT x→yP M x=0→(runV M m x n).2.2.2=0∨(runV M m x n).2.2.2=121
 | 0,x,n,hn,ha => .inl (by simp only [runV])
 | m + 1,x,n,hn,ha=>by
  cases q:fiT M x [] with
  | none=>rw [uT q]; exact .inl rfl
  | some w =>
   by_cases d:(yx M x w).2=0
   ·rw [kO q d]; exact runV_code hw (nm_done hn d) (ahead_done hw ha d)
   ·rw [jI q d]; exact done_code hw ha (fi_in q)
end
section
open Gw
theorem cont_0 {M:List Nd} {x:PTerm} (h:rowV M x=0):xH M x=(PTerm.z,140):=by unfold xH; simp only [h]; rfl
theorem cont_2 {M:List Nd} {x:PTerm} (h:rowV M x=2):xH M x=if (putV (kid (kid (kid x 0) 0) 0) (kid (kid x 0) 0).name (theT (kid x 1) (nd M (kid x 0).form).l)).2 ≠ 0 then putV (kid (kid (kid x 0) 0) 0) (kid (kid x 0) 0).name (theT (kid x 1) (nd M (kid x 0).form).l) else (theT (putV (kid (kid (kid x 0) 0) 0) (kid (kid x 0) 0).name (theT (kid x 1) (nd M (kid x 0).form).l)).1 (nd M (kid x 0).form).r,0):=by unfold xH; simp only [h]; rfl
theorem cont_4 {M:List Nd} {x:PTerm} (h:rowV M x=4):xH M x=(if x.kind=6 then theT (kid (kid (kid x 0) 0) 1) (nd M (kid x 0).form).r else theT (kid (kid (kid x 0) 0) 0) (nd M (kid x 0).form).l,0):=by unfold xH; simp only [h]; rfl
theorem cont_6 {M:List Nd} {x:PTerm} (h:rowV M x=6):xH M x=jY x (theT (kid (kid (kid x 0) 0) 0) (if besV M (kid x 0) 8 4=2 then (nd M (kid x 0).form).r else (nd M (kid x 0).form).l)) (decide (besV M (kid x 0) 8 4=2)):=by unfold xH; simp only [h]; rfl
theorem cont_7 {M:List Nd} {x:PTerm} (h:rowV M x=7):xH M x=putV (kid x 1) x.name (kid x 0):=by unfold xH; simp only [h]; rfl
theorem cont_8 {M:List Nd} {x:PTerm} (h:rowV M x=8):xH M x=(kid x 0,0):=by unfold xH; simp only [h]; rfl
end
section
open Gw
theorem cont_1 {M:List Nd} {x:PTerm} (h:rowV M x=1):xH M x=putV (kid (kid x 0) 0) (kid x 0).name (kid x 1):=by unfold xH; simp only [h]; rfl
theorem cont_3 {M:List Nd} {x:PTerm} (h:rowV M x=3):xH M x=(if x.kind=6 then kid (kid x 0) 1 else kid (kid x 0) 0,0):=by unfold xH; simp only [h]; rfl
theorem cont_5 {M:List Nd} {x:PTerm} (h:rowV M x=5):xH M x=jY x (kid (kid x 0) 0) (decide ((kid x 0).kind=8)):=by unfold xH; simp only [h]; rfl
theorem row_cases {r:Int} (h0:0 ≤ r) (h8:r ≤ 8) (c0:r ≠ 0) (c8:r ≠ 8):r=1∨r=2∨r=3∨r=4∨r=5∨r=6∨r=7:=by omega
end
section
open Gw
theorem mul_ne {a b:Nat}:a * b ≠ 0↔a ≠ 0∧b ≠ 0:=by rw [Ne,Nat.mul_eq_zero]; omega
theorem free_put {x:PTerm} {n:ByteArray} {y:PTerm} (hx:rightT x=true) (hy:rightT y=true) (hb:sizeT x + sizeT y + 4 < 9223372036854775808) (z:ByteArray):xr z (putT x n y)↔(xr z x∧z ≠ n)∨(xr n x∧xr z y):=by
 unfold xr
 rw [cnt_put _ x (Nat.le_refl _) hx n y hy hb z]
 by_cases e:z=n
 ·rw [if_pos e,e,Nat.zero_add]
  exact ⟨fun h => .inr (mul_ne.1 h),fun h=>h.elim (fun q=>absurd rfl q.2) (fun q=>mul_ne.2 q)⟩
 ·rw [if_neg e,← mul_ne (a:=cntT n x)]
  generalize cntT n x * cntT z y=m
  constructor
  ·intro h
   by_cases q:cntT z x=0
   ·right; omega
   ·exact .inl ⟨q,e⟩
  ·intro h
   rcases h with h | h
   ·have:=h.1; omega
   ·omega
end
section
open Gw
def PosM (F:List (ByteArray × Int)):Prop := ∀ z v,Gw.look z F=some v→0 < v
theorem pos_ins {F:List (ByteArray × Int)} {n:ByteArray} {v:Int} (h:PosM F) (hv:0 < v):PosM (Gw.ins n v F):=fun z u hz=>by
 rw [look_insB] at hz
 split at hz
 ·cases hz; exact hv
 ·exact h z u hz
theorem ins_len (n:ByteArray) (v:Int) : ∀ F:List (ByteArray × Int),(Gw.ins n v F).length ≤ F.length + 1
 | []=>by simp [Gw.ins]
 | (k,u) :: F=>by
  have:=ins_len n v F
  unfold Gw.ins
  split <;> simp only [List.length_cons] <;> omega
theorem mem_look (z:ByteArray) : ∀ F:List (ByteArray × Int),z ∈ F.map (·.1) ↔ ∃ v,Gw.look z F=some v
 | []=>by simp [Gw.look]
 | (k,u) :: F=>by
  have ih:=mem_look z F
  unfold Gw.look
  by_cases e:z=k
  ·simp [e]
  ·simp only [List.map_cons,List.mem_cons,if_neg e,← ih]
   exact ⟨fun h=>h.resolve_left e,.inr⟩
theorem names14p : ∀ (K:Nat) (x:PTerm) (B F:List (ByteArray × Int)),sizeT x + 2 ≤ K→(∀ z,0 ≤ vL B z∧vL B z + sizeT x ≤ 1000000000000)→(∀ z,0 ≤ vL F z∧vL F z + sizeT x ≤ 1000000000000) →
  ∃ B' F',zbn.f K x B F=some (B',F')∧(∀ z,vL B' z=vL B z)∧(∀ z,vL F' z=vL F z + (if vL B z=0 then (cntT z x:Int) else 0))∧(PosM F→PosM F')∧F'.length ≤ F.length + sizeT x
 | 0,x,B,F,h,_,_=>by omega
 | K + 1,x,B,F,h,hB,hF=>by
  have hs:=x9 x
  have hl:=jZ x.sub
  show ∃ B' F',zbn.g (zbn.f K) x B F=_∧_
  unfold zbn.g
  by_cases hk:x.kind=1
  ·rw [if_pos (by simpa using hk)]
   have hc : ∀ z,(cntT z x:Int)=if z=x.name then 1 else 0:=fun z=>by
    rw [vg,if_pos hk]
    by_cases e:x.name=z
    ·rw [if_pos e,if_pos e.symm]; rfl
    ·rw [if_neg e,if_neg (fun q=>e q.symm)]; rfl
   by_cases h0:vL B x.name=0
   ·refine ⟨B,Gw.ins x.name (IntKind.i64.wrap (vL F x.name + 1)) F,?_,fun _=>rfl,fun z=>?_,fun hp=>pos_ins hp (by rw [wrap_small ⟨by have:=(hF x.name).1; omega,by have:=(hF x.name).2; omega⟩]; have:=(hF x.name).1; omega),by have:=ins_len x.name (IntKind.i64.wrap (vL F x.name + 1)) F; omega⟩
    ·show ((if decide (vL B x.name=0) then some (Gw.ins x.name (IntKind.i64.wrap (vL F x.name + 1)) F) else some F).bind fun o4=>some (B,o4))=_
     rw [if_pos (by simpa using h0)]; rfl
    ·rw [vL_ins,wrap_small ⟨by have:=(hF x.name).1; omega,by have:=(hF x.name).2; omega⟩,hc]
     by_cases e:z=x.name
     ·rw [if_pos e,if_pos e,e,if_pos h0]
     ·rw [if_neg e,if_neg e]; split <;> omega
   ·refine ⟨B,F,?_,fun _=>rfl,fun z=>?_,fun hp=>hp,by omega⟩
    ·show ((if decide (vL B x.name=0) then some (Gw.ins x.name (IntKind.i64.wrap (vL F x.name + 1)) F) else some F).bind fun o4=>some (B,o4))=_
     rw [if_neg (by simpa using h0)]; rfl
    ·rw [hc]
     by_cases e:z=x.name
     ·rw [e,if_neg h0]; omega
     ·rw [if_neg e]; split <;> omega
  rw [if_neg (by simpa using hk)]
  have loop : ∀ (m j:Nat) (B F:List (ByteArray × Int)),j + m=x.sub.length→(∀ z,0 ≤ vL B z∧vL B z + (1 + sizeL (x.sub.drop j)) ≤ 1000000000000)→(∀ z,0 ≤ vL F z∧vL F z + sizeL (x.sub.drop j) ≤ 1000000000000) →
    ∃ B' F',forS (fun i s=>zbn.b0 x (zbn.f K) i s.1 s.2) m (j:Int) (B,F)=some (B',F')∧(∀ z,vL B' z=vL B z)∧(∀ z,vL F' z=vL F z + (if vL B z=0 then (cntL z x.kind x.name x.other j (x.sub.drop j):Int) else 0))∧(PosM F→PosM F')∧F'.length ≤ F.length + sizeL (x.sub.drop j):=by
   intro m
   induction m with
   | zero =>
    intro j B F hj _ _
    refine ⟨B,F,rfl,fun _=>rfl,fun z=>?_,fun hp=>hp,by omega⟩
    rw [List.drop_of_length_le zan]
    simp [cntL]
   | succ m ih =>
    intro j B F hj hB hF
    have hjl:j < x.sub.length:=by omega
    have hd:=drop_at hjl
    have hsd:sizeL (x.sub.drop j)=sizeT x.sub[j] + sizeL (x.sub.drop (j + 1)):=by rw [hd]; rfl
    have hm:sizeT x.sub[j] ≤ sizeL x.sub:=yO (List.getElem_mem hjl)
    have hsp:=uU x.sub[j]
    have hw1:IntKind.i64.wrap (vL B (zO x j) + 1)=vL B (zO x j) + 1:=wrap_small ⟨by have:=(hB (zO x j)).1; omega,by have:=(hB (zO x j)).2; omega⟩
    have hB1 : ∀ z,vL (Gw.ins (zO x j) (vL B (zO x j) + 1) B) z=if z=zO x j then vL B (zO x j) + 1 else vL B z:=fun z=>vL_ins _ _ _ z
    obtain ⟨B2,F2,e1,e2,e3,e4,e5⟩ := names14p K x.sub[j] (Gw.ins (zO x j) (vL B (zO x j) + 1) B) F zan (fun z=>by
     rw [hB1]; have:=hB z; have:=hB (zO x j); split <;> omega) (fun z=>by have:=hF z; omega)
    have hb2:vL B2 (zO x j)=vL B (zO x j) + 1:=by rw [e2,hB1,if_pos rfl]
    have hw2:IntKind.i64.wrap (vL B2 (zO x j) - 1)=vL B (zO x j):=by
     rw [hb2,wrap_small ⟨by have:=(hB (zO x j)).1; omega,by have:=(hB (zO x j)).2; omega⟩]; omega
    have hB3 : ∀ z,vL (Gw.ins (zO x j) (vL B (zO x j)) B2) z=vL B z:=fun z=>by
     rw [vL_ins,e2,hB1]
     by_cases e:z=zO x j
     ·rw [if_pos e,e]
     ·rw [if_neg e,if_neg e]
    have hF2 : ∀ z,vL F2 z=vL F z + (if vL B z=0 then (if zO x j=z then 0 else (cntT z x.sub[j]:Int)) else 0):=fun z=>by
     rw [e3,hB1]
     by_cases e:z=zO x j
     ·have:=(hB (zO x j)).1
      rw [if_pos e,if_neg zan,if_pos e.symm]; split <;> omega
     ·have e':¬ zO x j=z:=fun q=>e q.symm
      simp only [if_neg e,if_neg e']
    obtain ⟨B4,F4,g1,g2,g3,g4,g5⟩ := ih (j + 1) (Gw.ins (zO x j) (vL B (zO x j)) B2) F2 zan (fun z=>by rw [hB3]; have:=hB z; omega) (fun z=>by
     have h1:=hF z; have h2:=cnt_le z x.sub[j]; rw [hF2]; split
     ·split <;> omega
     ·omega)
    refine ⟨B4,F4,?_,fun z=>by rw [g2,hB3],fun z=>?_,fun hp=>g4 (e4 hp),by omega⟩
    ·have hbody:zbn.b0 x (zbn.f K) (j:Int) B F=some (Gw.ins (zO x j) (vL B (zO x j)) B2,F2):=by
      unfold zbn.b0
      rw [bind14,zar,jz hjl]
      show ((zbn.f K x.sub[j] (Gw.ins (zO x j) (IntKind.i64.wrap (vL B (zO x j) + 1)) B) F).bind fun r21=>some (Gw.ins (zO x j) (IntKind.i64.wrap (vL r21.1 (zO x j) - 1)) r21.1,r21.2))=_
      rw [hw1,e1,zar,hw2]
     simp only [forS,hbody,zar]
     rw [show ((j:Int) + 1)=((j + 1:Nat):Int) by omega]
     exact g1
    ·rw [g3,hB3,hF2,hd]
     have hcl:cntL z x.kind x.name x.other j (x.sub[j] :: x.sub.drop (j + 1))=(if zO x j=z then 0 else cntT z x.sub[j]) + cntL z x.kind x.name x.other (j + 1) (x.sub.drop (j + 1)):=by rw [cntL]
     rw [hcl]
     by_cases e:zO x j=z
     ·simp only [if_pos e]; split <;> omega
     ·simp only [if_neg e]; split <;> omega
  obtain ⟨B',F',e1,e2,e3,e4,e5⟩ := loop x.sub.length 0 B F zan (fun z=>by have:=hB z; rw [List.drop_zero]; omega) (fun z=>by have:=hF z; rw [List.drop_zero]; omega)
  refine ⟨B',F',?_,e2,fun z=>?_,e4,by rw [List.drop_zero] at e5; omega⟩
  ·rw [show ((x.sub.length:Int) - 0).toNat=x.sub.length by omega]
   have e1:forS (fun i s=>zbn.b0 x (zbn.f K) i s.1 s.2) x.sub.length 0 (B,F)=some (B',F'):=e1
   rw [e1]; rfl
  ·rw [e3,vg,if_neg hk,List.drop_zero]
theorem keys14 {K:Nat} {x:PTerm} (hK:sizeT x + 2 ≤ K) (hb:sizeT x ≤ 1000000000) : ∃ F,zbo.f K x=some F∧(∀ z,z ∈ F.map (·.1)↔xr z x)∧F.length ≤ sizeT x:=by
 obtain ⟨B',F',e1,_,e3,e4,e5⟩ := names14p K x [] [] hK (fun z=>⟨Int.le_refl _,by show (0:Int) + _ ≤ _; omega⟩) (fun z=>⟨Int.le_refl _,by show (0:Int) + _ ≤ _; omega⟩)
 have hv : ∀ z,vL F' z=cntT z x:=fun z=>by
  rw [e3]
  show (0:Int) + (if (0:Int)=0 then _ else _)=_
  rw [if_pos rfl]; omega
 have hp:=e4 (fun z v h=>by simp [Gw.look] at h)
 refine ⟨F',by unfold zbo.f; rw [e1]; rfl,fun z=>?_,by simpa using e5⟩
 rw [mem_look]
 have h1:=hv z
 unfold vL at h1
 constructor
 ·rintro ⟨v,h⟩
  have:=hp z v h
  rw [h] at h1
  simp only [Option.getD_some] at h1
  unfold xr; omega
 ·intro h
  unfold xr at h
  cases q:Gw.look z F' with
  | some v=>exact ⟨v,rfl⟩
  | none=>rw [q] at h1; simp only [Option.getD_none] at h1; omega
theorem Free14 {K:Nat} {x:PTerm} (hK:200000 ≤ K) (hn:nmT x) : ∃ l,zcd.f K x=some (l,xB x)∧(xB x=0 → ∀ z,z ∈ l↔xr z x)∧l.length ≤ 65536:=by
 unfold zcd.f
 rw [ko zan hn,zar]
 by_cases c:xB x=0
 ·obtain ⟨c1,c2,c3⟩ := xY.1 c
  obtain ⟨F,e1,e2,e3⟩ := keys14 (K:=K) (x:=x) zan zan
  refine ⟨kP (F.map (·.1)),?_,fun _ z=>?_,by rw [sortB_len,List.length_map]; omega⟩
  ·rw [if_neg (by simpa using c),e1,zar,chk,if_pos (by simp; omega),c]
  ·rw [(sortB_perm _).mem_iff]; exact e2 z
 ·exact ⟨[],by rw [if_pos (by simpa using c)],fun q=>absurd q c,by simp⟩
end
section
open Gw
section
variable {M:List Nd} {x:PTerm} {z:ByteArray}
theorem x6 {i:Int} {j:Nat} (hi:i=j) (hk:x.kind ≠ 1) (hj:j < x.sub.length) (hb:zO x j ≠ z) (h:xr z (kid x i)):xr z x:=by
 subst hi
 rw [kid_at hj] at h
 exact (zae z x).2 (.inr ⟨hk,j,hj,hb,h⟩)
theorem yY {j:Nat} (hz:z ≠ ⟨#[]⟩) (h:¬ (x.kind=2∨j=1∧(x.kind=12∨x.kind=9))) (h2:¬ (x.kind=9∧j=2)):zO x j ≠ z:=by
 unfold zO ye; rw [if_neg h,if_neg h2]; exact hz.symm
theorem bind_nm {j:Nat} (h:x.kind=2∨j=1∧(x.kind=12∨x.kind=9)):zO x j=x.name:=by
 unfold zO ye; rw [if_pos h]
theorem bind_ot (h:x.kind=9):zO x 2=x.other:=by
 unfold zO ye; rw [if_neg zan,if_pos ⟨h,rfl⟩]
theorem zaf {a:PTerm} {f:Int} (h:xr z (theT a f)):xr z a:=by
 rcases (zae z _).1 h with ⟨q,_⟩ | ⟨_,j,hj,_,h⟩
 ·exact absurd q (by show ¬ (11:Int)=1; decide)
 ·have:j=0:=by simpa [PTerm.sub] using hj
  subst this; exact h
theorem jC {a y:PTerm} {n:ByteArray} (h0:(putV a n y).2=0) (h:xr z (putV a n y).1):(xr z a∧z ≠ n)∨xr z y:=by
 obtain ⟨cx,cy,hn,e,g⟩ := putV_ok h0
 rw [e] at h
 have h1:=xY.1 cx
 have h2:=xY.1 cy
 rcases (free_put h1.2.2 h2.2.2 zan z).1 h with q | q
 ·exact .inl q
 ·exact .inr q.2
theorem free_cont (hr:rightT x=true) (hz:z ≠ ⟨#[]⟩) (h0:(xH M x).2=0) (h:xr z (xH M x).1):xr z x:=by
 obtain ⟨r1,r2,r3,r4,r5,r6,r7,r8,q0,q8⟩ := @row_iff M x
 obtain ⟨l2,l1,l3⟩ := kids (hr:=hr)
 have hrow0:rowV M x ≠ 0:=fun q=>by rw [cont_0 q] at h0; exact absurd h0 zam
 by_cases c8:rowV M x=8
 ·obtain ⟨k,_⟩ := r8.1 c8
  have hl:=l1 zan
  rw [cont_8 c8] at h
  exact x6 (j:=0) rfl zan zan (yY hz zan zan) h
 rcases row_cases q0 q8 hrow0 c8 with c | c | c | c | c | c | c
 ·obtain ⟨k3,k2⟩ := r1.1 c
  have hl:=l2 (.inl k3)
  have hp:=xC hr hl (i:=0) ⟨by omega,by omega⟩
  have hlp:=(xM hp).2.1 k2
  rw [cont_1 c] at h0 h
  rcases jC h0 h with ⟨q,hne⟩ | q
  ·exact x6 (i:=0) (j:=0) rfl zan zan (yY hz zan zan) (x6 (i:=0) (j:=0) rfl zan zan (by rw [bind_nm (.inl k2)]; exact hne.symm) q)
  ·exact x6 (i:=1) (j:=1) rfl zan zan (yY hz zan zan) q
 ·obtain ⟨k3,b⟩ := r2.1 c
  obtain ⟨b1,b2,b3⟩ := uH b
  have hl:=l2 (.inl k3)
  have hp:=xC hr hl (i:=0) ⟨by omega,by omega⟩
  have hlp:=(xM hp).2.2.2.2 b1
  have hu:=xC hp hlp (i:=0) ⟨by omega,by omega⟩
  have hlu:=(xM hu).2.1 b2
  rw [cont_2 c] at h0 h
  split at h0
  ·rename_i d; exact absurd h0 d
  rename_i d
  rw [if_neg d] at h
  rcases jC (by simpa using d) (zaf h) with ⟨q,hne⟩ | q
  ·exact x6 (i:=0) (j:=0) rfl zan zan (yY hz zan zan) (x6 (i:=0) (j:=0) rfl zan zan (yY hz zan zan) (x6 (i:=0) (j:=0) rfl zan zan (by rw [bind_nm (.inl b2)]; exact hne.symm) q))
  ·exact x6 (i:=1) (j:=1) rfl zan zan (yY hz zan zan) (zaf q)
 ·obtain ⟨k56,k4⟩ := r3.1 c
  have hl:=l1 zan
  have hp:=xC hr hl (i:=0) ⟨by omega,by omega⟩
  have hlp:(kid x 0).sub.length=2:=by have:=uo hp; rw [k4] at this; simp [yD] at this; omega
  rw [cont_3 c] at h
  refine x6 (i:=0) (j:=0) rfl zan zan (yY hz zan zan) ?_
  dsimp only at h
  split at h
  ·exact x6 (i:=1) (j:=1) rfl zan zan (yY hz zan zan) h
  ·exact x6 (i:=0) (j:=0) rfl zan zan (yY hz zan zan) h
 ·obtain ⟨k56,b⟩ := r4.1 c
  obtain ⟨b1,b2,b3⟩ := uH b
  have hl:=l1 zan
  have hp:=xC hr hl (i:=0) ⟨by omega,by omega⟩
  have hlp:=(xM hp).2.2.2.2 b1
  have hu:=xC hp hlp (i:=0) ⟨by omega,by omega⟩
  have hlu:(kid (kid x 0) 0).sub.length=2:=by have:=uo hu; rw [b2] at this; simp [yD] at this; omega
  rw [cont_4 c] at h
  refine x6 (i:=0) (j:=0) rfl zan zan (yY hz zan zan) (x6 (i:=0) (j:=0) rfl zan zan (yY hz zan zan) ?_)
  dsimp only at h
  split at h
  ·exact x6 (i:=1) (j:=1) rfl zan zan (yY hz zan zan) (zaf h)
  ·exact x6 (i:=0) (j:=0) rfl zan zan (yY hz zan zan) (zaf h)
 ·obtain ⟨k9,k78⟩ := r5.1 c
  have hl:=l3 k9
  have hp:=xC hr hl (i:=0) ⟨by omega,by omega⟩
  have hlp:(kid x 0).sub.length=1:=by have:=uo hp; rcases k78 with k | k <;> rw [k] at this <;> simp [yD] at this <;> omega
  rw [cont_5 c] at h0 h
  have ha:xr z (kid (kid x 0) 0)→xr z x:=fun q=>x6 (i:=0) (j:=0) rfl zan zan (yY hz zan zan) (x6 (i:=0) (j:=0) rfl zan zan (yY hz zan zan) q)
  unfold jY at h0 h
  split at h0
  ·rename_i d; rw [if_pos d] at h
   rcases jC h0 h with ⟨q,hne⟩ | q
   ·exact x6 (i:=2) (j:=2) rfl zan zan (by rw [bind_ot k9]; exact hne.symm) q
   ·exact ha q
  ·rename_i d; rw [if_neg d] at h
   rcases jC h0 h with ⟨q,hne⟩ | q
   ·exact x6 (i:=1) (j:=1) rfl zan zan (by rw [bind_nm (.inr ⟨rfl,.inr k9⟩)]; exact hne.symm) q
   ·exact ha q
 ·obtain ⟨k9,b⟩ := r6.1 c
  have hl:=l3 k9
  have hp:=xC hr hl (i:=0) ⟨by omega,by omega⟩
  have hb:(kid x 0).kind=11∧((kid (kid x 0) 0).kind=7∨(kid (kid x 0) 0).kind=8):=by
   rcases b with b | b
   ·have q:=uH b; exact ⟨q.1,.inr q.2.1⟩
   ·have q:=uH b; exact ⟨q.1,.inl q.2.1⟩
  obtain ⟨b1,b2⟩ := hb
  have hlp:=(xM hp).2.2.2.2 b1
  have hu:=xC hp hlp (i:=0) ⟨by omega,by omega⟩
  have hlu:(kid (kid x 0) 0).sub.length=1:=by have:=uo hu; rcases b2 with k | k <;> rw [k] at this <;> simp [yD] at this <;> omega
  rw [cont_6 c] at h0 h
  have ha:xr z (kid (kid (kid x 0) 0) 0)→xr z x:=fun q=>x6 (i:=0) (j:=0) rfl zan zan (yY hz zan zan) (x6 (i:=0) (j:=0) rfl zan zan (yY hz zan zan) (x6 (i:=0) (j:=0) rfl zan zan (yY hz zan zan) q))
  unfold jY at h0 h
  split at h0
  ·rename_i d; rw [if_pos d] at h
   rcases jC h0 h with ⟨q,hne⟩ | q
   ·exact x6 (i:=2) (j:=2) rfl zan zan (by rw [bind_ot k9]; exact hne.symm) q
   ·exact ha (zaf q)
  ·rename_i d; rw [if_neg d] at h
   rcases jC h0 h with ⟨q,hne⟩ | q
   ·exact x6 (i:=1) (j:=1) rfl zan zan (by rw [bind_nm (.inr ⟨rfl,.inr k9⟩)]; exact hne.symm) q
   ·exact ha (zaf q)
 ·have k12:=r7.1 c
  have hl:=l2 (.inr k12)
  rw [cont_7 c] at h0 h
  rcases jC h0 h with ⟨q,hne⟩ | q
  ·exact x6 (i:=1) (j:=1) rfl zan zan (by rw [bind_nm (.inr ⟨rfl,.inl k12⟩)]; exact hne.symm) q
  ·exact x6 (i:=0) (j:=0) rfl zan zan (yY hz zan zan) q
end
theorem free_do {M:List Nd} {z:ByteArray} (hz:z ≠ ⟨#[]⟩) : ∀ (w:List Int) {x:PTerm},rightT x=true→(doV M x w).2=0→xr z (doV M x w).1→xr z x
 | [],x,hr,h0,h=>by rw [doV] at h0 h; exact free_cont hr hz h0 h
 | k :: w,x,hr,h0,h=>by
  rw [doV] at h0 h
  by_cases c:k < 0∨(x.sub.length:Int) ≤ k
  ·rw [if_pos c] at h0; exact absurd h0 zam
  rw [if_neg c] at h0 h
  by_cases q:(doV M (kid x k) w).2=0
  rotate_left
  ·rw [if_pos q] at h0; exact absurd h0 q
  rw [if_neg (fun u=>u q)] at h
  obtain ⟨j,rfl⟩ : ∃ j:Nat,k=j:=⟨k.toNat,by omega⟩
  have hj:j < x.sub.length:=by omega
  have ih:=free_do hz w (xC hr rfl ⟨by omega,by omega⟩) q
  have hkj:kid x (j:Int)=x.sub[j]:=kid_at hj
  rw [Int.toNat_natCast] at h
  generalize (doV M (kid x (j:Int)) w).1=y at ih h
  rcases (zae z _).1 h with ⟨a,b⟩ | ⟨a,i,hi,hb,hf⟩
  ·exact (zae z x).2 (.inl ⟨a,b⟩)
  ·have hi':i < x.sub.length:=by simpa [PTerm.sub] using hi
   refine (zae z x).2 (.inr ⟨a,i,hi',hb,?_⟩)
   have hg:xr z ((x.sub.set j y)[i]'(by simpa using hi')):=hf
   clear hf
   rw [List.getElem_set] at hg
   split at hg
   ·rename_i e; subst e; have:=ih hg; rwa [hkj] at this
   ·exact hg
theorem free_run {M:List Nd} {z:ByteArray} (hw:Wf M) (hz:z ≠ ⟨#[]⟩) : ∀ {m:Nat} {x:PTerm} {n:Int},nmT x→yP M x=0→xr z (runV M m x n).1→xr z x
 | 0,x,n,hn,ha,h=>by simp only [runV] at h; exact h
 | m + 1,x,n,hn,ha,h=>by
  cases q:fiT M x [] with
  | none=>rw [uT q] at h; exact h
  | some w =>
   by_cases d:(yx M x w).2=0
   ·rw [kO q d] at h
    have h1:=free_run hw hz (nm_done hn d) (ahead_done hw ha d) h
    obtain ⟨d1,d2,d3⟩ := done_ok d
    rw [d3] at h1
    exact free_do hz w (je.1 ha).1.2.2 d1 h1
   ·rw [jI q d] at h; exact h
theorem run_pre {M:List Nd} : ∀ (m:Nat) (x:PTerm) (k:Int),∃ j:Nat,j ≤ m∧(runV M m x k).2.1=k + j ∧ ∃ b,runV M j x k=((runV M m x k).1,k + j,b,0)
 | 0,x,k=>⟨0,Nat.le_refl _,by simp [runV],(fiT M x []).isNone,by simp [runV]⟩
 | m + 1,x,k=>by
  cases q:fiT M x [] with
  | none=>exact ⟨0,Nat.zero_le _,by rw [uT q]; simp,true,by rw [uT q,uT q]; simp⟩
  | some w =>
   by_cases d:(yx M x w).2=0
   ·obtain ⟨j,h1,h2,b,h3⟩ := run_pre m (yx M x w).1 (k + 1)
    refine ⟨j + 1,by omega,by rw [kO q d,h2]; omega,b,?_⟩
    rw [kO q d,kO q d,h3]
    refine Prod.ext rfl (Prod.ext ?_ rfl)
    show k + 1 + (j:Int)=k + ((j + 1:Nat):Int)
    omega
   ·exact ⟨0,Nat.zero_le _,by rw [jI q d]; simp,false,by rw [jI q d,runV_out q]; simp⟩
theorem at_strs {L:List ByteArray} {j:Nat} (h:j < L.length):at_ ByteArray.empty L (j:Int)=L[j]:=by
 unfold at_; rw [Int.toNat_natCast,List.getD_eq_getElem?_getD,List.getElem?_eq_getElem h]; rfl
theorem there_loop (a b:List ByteArray) (c1 c2:Int) (i:Nat) (hi:i < b.length) : ∀ (m j:Nat) (t:Bool),j + m=a.length→forS (fun q s=>zce.b1 (a,c1) (b,c2) (i:Int) q s) m (j:Int) t=some (t || (a.drop j).any fun u=>decide (u=b[i]))
 | 0,j,t,h=>by rw [List.drop_of_length_le zan]; simp [forS]
 | m + 1,j,t,h=>by
  have hj:j < a.length:=by omega
  have ih:=there_loop a b c1 c2 i hi m (j + 1) (t || decide (a[j]=b[i])) zan
  have hb:zce.b1 (a,c1) (b,c2) (i:Int) (j:Int) t=some (t || decide (a[j]=b[i])):=by
   unfold zce.b1
   simp only [at_strs hj,at_strs hi]
  simp only [forS,hb,zar]
  rw [show ((j:Int) + 1)=((j + 1:Nat):Int) by omega,ih,List.drop_eq_getElem_cons hj,List.any_cons,Bool.or_assoc]
theorem ReduceFrees_true {K:Nat} (hK:1100000 ≤ K) (hh:zca.f K=some true) {rows:List Nd} (hn : ∀ n ∈ rows,n.name.size < 9223372036854775808) (hl:rows.length * 40 ≤ 140737488355328) {x:PTerm} (hx:nmT x) (hs:sizeT x ≤ 1048576) (fuel:Int):zce.f K rows x fuel=some true:=by
 obtain ⟨M,ht,hw⟩ := tables14 hn hl
 obtain ⟨a,a1,a2,a3⟩ := Free14 (K:=K) (x:=x) zan hx
 unfold zce.f
 rw [ht,zar,a1,zar,copy12 K x zan zan,zar,Run14 hw zan hx zan,zar]
 simp only [zbW.f,zar]
 by_cases hc:xB x=0
 rotate_left
 ·have ha:yP M x ≠ 0:=fun q=>hc (xY.2 (je.1 q).1)
  rw [RunV_ref ha]; simp [hc,hh]
 by_cases ha:yP M x=0
 rotate_left
 ·have ha31:yP M x=31:=by
   unfold yP at ha ⊢
   rw [if_neg (fun q=>q hc)] at ha ⊢
   split
   ·rename_i q; rw [if_pos q] at ha; exact absurd rfl ha
   ·rfl
  rw [RunV_ref ha]; simp [hc,hh,ha31]
 by_cases f:fuel < 0∨4096 < fuel
 ·rw [RunV_arg ha f]; simp [hc,hh]
 rw [RunV_run ha f]
 obtain ⟨j,p1,p2,b0,p3⟩ := run_pre (M:=M) fuel.toNat x 0
 have hok:=runV_ok hw (m:=fuel.toNat) (n:=0) hx ha
 have hcode:=runV_code hw (m:=fuel.toNat) (n:=0) hx ha
 have hfr:=fun z (hz:z ≠ ⟨#[]⟩)=>free_run hw hz (m:=fuel.toNat) (n:=0) hx ha (z:=z)
 have hRj:RunV M x (j:Int)=runV M j x 0:=by
  rw [RunV_run ha zan]; simp
 rw [Int.zero_add] at p2 p3
 generalize runV M fuel.toNat x 0=r at hok hcode hfr p2 p3
 obtain ⟨y,n,ok,e⟩ := r
 simp only at hok hcode hfr p2 p3 ⊢
 subst p2
 have hcy:=xY.2 (je.1 hok.1).1
 have hsy:=(xY.1 hcy).1
 obtain ⟨b,b1,b2,b3⟩ := Free14 (K:=K) (x:=y) zan hok.2
 have hif:¬ ((decide (xB x ≠ 0) || decide (e ≠ 0) && decide ((if (!(decide (xB x ≠ 0)) && decide (e ≠ 0))=true then e else 0) ≠ 121))=true):=by
  rcases hcode with q | q <;> simp [hc,q]
 have hloop:forN (fun i s=>zce.b0 (a,xB x) (b,xB y) i) ((b.length:Int) - 0).toNat 0 ()=some (.inl ()):=by
  have hone : ∀ i:Nat,i < b.length→zce.b0 (a,xB x) (b,xB y) (i:Int)=some (.go ()):=fun i hi=>by
   have ht:=there_loop a b (xB x) (xB y) i hi a.length 0 false zan
   have hm:b[i] ∈ a:=by
    have h1:=(b2 hcy b[i]).1 (List.getElem_mem hi)
    have hz:=word_ne (free_word _ y (Nat.le_refl _) (xY.1 hcy).2.2 b[i] h1)
    exact (a2 hc b[i]).2 (hfr b[i] hz h1)
   unfold zce.b0
   rw [show (((a,xB x):List ByteArray × Int).1.length:Int) - 0=(a.length:Int) by simp,Int.toNat_natCast]
   rw [show ((0:Nat):Int)=0 from rfl,List.drop_zero] at ht
   rw [ht,List.any_eq_true.2 ⟨b[i],hm,by simp⟩]; simp
  have hall : ∀ (m i:Nat),i + m=b.length→forN (fun i (s:Unit)=>zce.b0 (a,xB x) (b,xB y) i) m (i:Int) ()=some (.inl ()):=by
   intro m
   induction m with
   | zero=>intro i _; rfl
   | succ m ih =>
    intro i hi
    simp only [forN,hone i zan,zar]
    rw [show ((i:Int) + 1)=((i + 1:Nat):Int) by omega]; exact ih (i + 1) zan
  have:=hall b.length 0 zan
  rw [show ((b.length:Int) - 0).toNat=b.length by omega]; exact this
 have q1:=copy12 K x zan zan
 have q2:=Run14 hw (K:=K) zan hx zan (j:Int)
 rw [hRj,p3] at q2
 have q3:=same_refl K y zan zan
 simp only [hc,ne_eq,not_true_eq_false,decide_false,Bool.not_false,if_true,zar,Bool.true_and,Bool.false_or]
 rcases hcode with q | q
 ·subst q
  simp only [b1,zar,hcy]
  rw [hcy,hc] at hloop
  simp [q1,q2,q3,hh]
  rw [if_neg zan]
  simp at hloop
  rw [hloop]
  simp [aft,q1,q2,q3,hh]
 ·subst q
  simp only [b1,zar,hcy]
  rw [hcy,hc] at hloop
  simp [q1,q2,q3,hh]
  rw [if_neg zan]
  simp at hloop
  rw [hloop]
  simp [aft,q1,q2,q3,hh]
end
section
open Gw
set_option maxRecDepth 100000
theorem heads14b:zca.f 1100000=some true:=by decide +kernel
end
section
open Gw Go.ChangeShapes Go.WideShapes Go.ChangeAt Go.RowKit
set_option maxRecDepth 100000
theorem ownKnob_none:ownKnob PP.godebug=none:=by kernel_rfl
theorem laidOut_PP:laidOutB PP=true:=by kernel_rfl
theorem trodAll_stays {H:Type} {enc:TypeId × Value→H} {W W':World} {sp:Nat→Bool} : ∀ {ts:List TypeId} {vs:List Value} {ds:List (DataW H)} {ps:List MemPlace},(∀ t ∈ ts,PP.readableRec t=true∧t < PP.types.size) →
  DataW.TrodAll enc PP W 0 (fun _=>true) true ts vs ds ps→(∀ p ∈ ps,W.sameAt W' p)→(∀ p ∈ ps,sp p.block=true)→DataW.TrodAll enc PP W' 0 sp true ts vs ds ps
 | [],vs,ds,ps,_,h,_,_=>by
  obtain ⟨rfl,rfl,rfl⟩ := trodAll_nil h
  exact trodAll_mk0
 | t :: ts,vs,ds,ps,hr,h,h1,h2=>by
  obtain ⟨v,vs,d,ds,p,q,rfl,rfl,rfl,h0,h3⟩ := trodAll_cons h
  have ht:=hr t zao
  exact trodAll_cons_mk (WideElems.Trod_stays laidOut_PP ht.1 ht.2 h0 (fun x hx=>h1 x (by simp [hx])) (fun x hx=>h2 x (by simp [hx])))
   (trodAll_stays (fun t ht=>hr t (by simp [ht])) h3 (fun x hx=>h1 x (by simp [hx])) (fun x hx=>h2 x (by simp [hx])))
def oth0:Oth:=⟨fun _=>False,[],fun _ h=>by cases h⟩
section
variable {P:Program} {W:World} {b t:Nat} {k:IntKind} {v:Value}
theorem cell_int (ht:P.underlying t=some (.int k)) (h:Cell.okWide P W .any b t v) : ∃ n,v = .int k n∧k.has n:=by
 simp only [Cell.okWide,ht] at h
 cases v <;> simp_all [Cell.ok]
theorem int_of (ht:P.underlying t=some (.int k)) (h:Value.okWide P W .any b t v) : ∃ n,v = .int k n∧k.has n:=by
 unfold Value.okWide at h
 rw [ht] at h
 exact cell_int ht h
end
section
variable {H:Type} {enc:TypeId × Value→H} {P:Program} {W:World} {t:TypeId} {fuel:Nat} {cs:List Value} {x:DataW H × List MemPlace} {sp:Nat→Bool} {hd:Bool} {b0:Nat}
theorem take_one {l:List Value} {o:Nat} {v:Value} (h:(l.drop o).take 1=[v]):l[o]? = some v:=by
 have:((l.drop o).take 1)[0]? = some v:=by rw [h]; rfl
 rw [List.getElem?_take] at this
 simpa using this
theorem fld_int {i off ft:Nat} {k:IntKind} (hf:kw P t i off ft) (hk:P.underlying ft=some (.int k)) (hc:P.cellsOf ft=1) (h:DataW.trod enc P W b0 sp hd fuel t cs=some x) : ∃ n,cs[off]? = some (.int k n):=by
 obtain ⟨fs,fd,hu,hi,rfl,rfl⟩ := hf
 obtain ⟨xs,n,_,_,hl,hx,hall⟩ := DataW.trod_struct hu h
 have h1:=hall i fd hi
 have h2:i < xs.length:=by rw [hx]; exact (Array.getElem?_eq_some_iff.1 hi).1
 rw [List.getElem?_eq_getElem h2,hc] at h1
 obtain ⟨n,e,_⟩ := DataW.trod_int hk h1
 exact ⟨n,take_one e⟩
theorem fld_str {i off ft:Nat} (hf:kw P t i off ft) (hk:P.underlying ft=some .string) (hc:P.cellsOf ft=1) (h:DataW.trod enc P W b0 sp hd fuel t cs=some x) : ∃ s:ByteArray,cs[off]? = some (.string s)∧s.size ≤ maxLen:=by
 obtain ⟨fs,fd,hu,hi,rfl,rfl⟩ := hf
 obtain ⟨xs,n,_,_,hl,hx,hall⟩ := DataW.trod_struct hu h
 have h1:=hall i fd hi
 have h2:i < xs.length:=by rw [hx]; exact (Array.getElem?_eq_some_iff.1 hi).1
 rw [List.getElem?_eq_getElem h2,hc] at h1
 obtain ⟨s,e,_,hs⟩ := DataW.trod_string hk h1
 exact ⟨s,take_one e,hs⟩
theorem slice_of {α:Type} [Inhabited α] {e k:Nat} {C:α→List Value} {Q:α→Prop} {base:Nat} {v:Value} {d:DataW H} {ps:List MemPlace} (ht:P.underlying t=some (.slice e)) (hk:P.cellsOf e=k) (hC : ∀ a,(C a).length=k) (hk0:0 < k)
  (hel : ∀ (n:Nat) (cs:List Value) (x:DataW H × List MemPlace),DataW.trod enc P W 0 (fun _=>true) true n e cs=some x → ∃ a,cs=C a∧Q a)
  (hval:Value.okWide P W .any base t v) (h:DataW.Trod enc P W 0 (fun _=>true) true t v d ps) :
  ∃ (l:List α) (s:SlV),v=s.v∧Rd W k s (l.map C)∧(∀ a ∈ l,Q a)∧(l=[] ∨ ∃ elems spare,d = .slice elems spare∧elems.length=l.length):=by
 obtain ⟨a0,len0,cap0,rfl⟩ := okWide_slice ht hval
 obtain ⟨fuel,hf⟩ := h
 rcases Deep.open_slice ht hf with ⟨h1,h2⟩ | ⟨a,len,cap,m,n,D,Pl,h1,_,hlc,hcm,hm,h2,hx⟩
 ·simp [Value.cells] at h1
  obtain ⟨rfl,rfl,rfl⟩ := h1
  exact ⟨[],SlV.nil,SlV.nil_eq,Rd.nil W k,by simp,.inl rfl⟩
 ·simp [Value.cells] at h1
  obtain ⟨rfl,rfl,rfl⟩ := h1
  have hval2:=hval
  simp only [Value.okWide,ht,Cell.okWide,Cell.ok] at hval2
  obtain ⟨_,_,_,hspot,row,cells,hshape,_⟩ := hval2
  obtain ⟨ab,ao,asp⟩ := a
  obtain rfl:asp=none:=hspot
  simp only at hshape
  have hlt:ab < W.heap.size:=by
   unfold World.shape? at hshape
   cases hh:W.heap[ab]? with
   | none=>rw [hh] at hshape; cases hshape
   | some o=>exact (Array.getElem?_eq_some_iff.1 hh).1
  have hmc:m=cap0:=by rw [hm]; rfl
  obtain ⟨f,hfx⟩ := Deep.choose_lt (α:=α) (n:=len0) (p:=fun i y=>W.cells? 0 ((⟨ab,ao,none⟩ : Addr).add (i * P.cellsOf e)) (P.cellsOf e)=some (C y)∧Q y) (fun i hi=>by
   obtain ⟨cs',hc,ht'⟩ := hx i zan
   obtain ⟨y,rfl,hq⟩ := hel _ _ _ ht'
   exact ⟨y,hc,hq⟩)
  refine ⟨(List.range len0).map f,⟨some ⟨ab,ao,none⟩,len0,cap0⟩,by rw [SlV.eq],⟨⟨by simp,?_,?_⟩,?_,hlc⟩,?_,.inr ⟨_,_,by simpa using congrArg Prod.fst h2,by simp⟩⟩
  ·intro r hr
   obtain ⟨y,_,rfl⟩ := List.mem_map.1 hr
   exact hC y
  ·intro i r hr
   rw [List.getElem?_map,List.getElem?_map] at hr
   have hi:i < len0:=by
    refine Nat.lt_of_not_le fun q=>?_
    rw [List.getElem?_eq_none (by simpa using q)] at hr; cases hr
   rw [List.getElem?_eq_getElem (by simpa using hi)] at hr
   simp only [List.getElem_range,Option.map_some,Option.some.injEq] at hr
   subst hr
   obtain ⟨h3,_⟩ := hfx i hi
   obtain ⟨_,hl,hc⟩ := World.cells?_some h3
   refine ⟨rfl,fun j v hv=>?_⟩
   have hj:j < k:=by have:=(List.getElem?_eq_some_iff.1 hv).1; rw [hC] at this; exact this
   have h4:=hc j (by rw [hk]; exact hj)
   rw [hv] at h4
   have hadd:((⟨ab,ao,none⟩ : Addr).add (i * P.cellsOf e)).add j=⟨ab,ao + i * k + j,none⟩ := by
    rw [hk]
    unfold Addr.add
    by_cases h5:i * k=0
    ·by_cases h6:j=0
     ·simp [h5,h6]
     ·simp [h5,h6]
    ·by_cases h6:j=0
     ·simp [h5,h6]
     ·simp [h5,h6]
   rw [hadd] at h4
   exact h4
  ·rintro i ⟨_,rfl⟩
   exact hlt
  ·intro y hy
   obtain ⟨i,hi,rfl⟩ := List.mem_map.1 hy
   exact (hfx i (List.mem_range.1 hi)).2
end
instance:Inhabited Nd:=⟨Nd.z⟩
theorem nds_of {H:Type} {enc:TypeId × Value→H} {W:World} {base:Nat} {v:Value} {d:DataW H} {ps:List MemPlace} (hval:Value.okWide PP W .any base vN v) (h:DataW.Trod enc PP W 0 (fun _=>true) true vN v d ps) :
  ∃ (l:List Nd) (s:SlV),v=s.v∧Rd W 4 s (l.map Nd.C)∧(∀ a ∈ l,a.name.size < 9223372036854775808)∧(l=[] ∨ ∃ elems spare,d = .slice elems spare∧elems.length=l.length):=by
 refine slice_of xd.1 zap Nd.len zam (fun n cs x hx=>?_) hval h
 obtain ⟨a,ha⟩ := fld_int fv_Nd_kind un_api_Kind zap hx
 obtain ⟨b,hb,hbs⟩ := fld_str fv_Nd_name yu zap hx
 obtain ⟨c,hc⟩ := fld_int fv_Nd_l un_int zap hx
 obtain ⟨d,hd⟩ := fld_int fv_Nd_r un_int zap hx
 obtain ⟨fs,fd,hu,_⟩ := fv_Nd_kind
 obtain ⟨xs,n',_,_,hl,_⟩ := DataW.trod_struct hu hx
 have hl:cs.length=4:=hl.trans zap
 refine ⟨⟨a,b,c,d⟩,?_,by have:maxLen=9223372036854775807:=rfl; show b.size < _; omega⟩
 match cs,hl with
 | [v0,v1,v2,v3],_ =>
  simp at ha hb hc hd
  subst ha hb hc hd
  rfl
theorem bulk_one {H:Type} (d:DataW H):1 ≤ Rows.uptoBulk d:=by
 cases d with
 | lit l=>cases l <;> simp [Rows.uptoBulk]
 | nil=>simp [Rows.uptoBulk]
 | ptr d=>simp [Rows.uptoBulk]
 | slice elems spare=>simp [Rows.uptoBulk]
 | agg parts=>simp [Rows.uptoBulk]
 | iface t d=>simp [Rows.uptoBulk]
 | map entries=>simp [Rows.uptoBulk]
 | held h=>simp [Rows.uptoBulk]
theorem bulk_part {H:Type} {d:DataW H} {l:List (DataW H)} (h:d ∈ l):Rows.uptoBulk d ≤ Rows.uptoBulkAll l:=by
 induction l with
 | nil=>cases h
 | cons x r ih =>
  simp only [Rows.uptoBulkAll]
  cases List.mem_cons.1 h with
  | inl e=>subst e; omega
  | inr e=>have:=ih e; omega
theorem bulk_len {H:Type} (l:List (DataW H)):l.length ≤ Rows.uptoBulkAll l:=by
 induction l with
 | nil=>simp [Rows.uptoBulkAll]
 | cons x r ih=>have:=bulk_one x; simp only [Rows.uptoBulkAll,List.length_cons]; omega
theorem small_len {H:Type} {α:Type} {l:List α} {d:DataW H} {ds:List (DataW H)} (hk:Rows.uptoSmall H ds=true) (hd:d ∈ ds) (h:l=[] ∨ ∃ elems spare,d = .slice elems spare∧elems.length=l.length):l.length ≤ 1048576:=by
 rcases h with rfl | ⟨elems,spare,rfl,he⟩
 ·simp
 ·have h1:=bulk_part hd
  have h2:=bulk_len elems
  have h3:Rows.uptoBulkAll ds ≤ 1048576:=by simpa [Rows.uptoSmall] using hk
  simp only [Rows.uptoBulk] at h1
  omega
def Held (W:World) (Z:List OA):Prop := ∀ z ∈ Z,∃ F,z.holds W F
theorem Held.nil {W:World}:Held W []:=fun _ h=>by cases h
theorem Held.cons {W:World} {z:OA} {Z:List OA} (h : ∃ F,z.holds W F) (hz:Held W Z):Held W (z :: Z):=fun x hx=>by
 rcases List.mem_cons.1 hx with rfl | hx
 ·exact h
 ·exact hz x hx
theorem Held.s {W:World} {Z:List OA} {k:Nat} {α:Type} {C:α→List Value} {s:SlV} {l:List α} (hr:Rd W k s (l.map C)) (hl:l.length ≤ 140737488355328) (hz:Held W Z):Held W (fS k C s l :: Z) :=
 .cons ⟨s.fp,⟨hr,hl⟩,fun _=>Iff.rfl⟩ hz
theorem stheld {W:World} {Z:List OA} (h:Held W Z):St (fun _=>False) oth0 W W [] Z :=
 ⟨fun _=>False,fun _ h=>h.elim,fun _ h=>h.elim,Chg.refl _ _,trivial,fun z hz=>by
  obtain ⟨F,hF⟩ := h z hz
  exact ⟨F,hF,fun i _ q=>q.elim (fun x=>x) (fun x=>x)⟩,fun d hd=>absurd hd (by simp [oth0])⟩
instance:Inhabited Term:=⟨Term.z⟩
instance:Inhabited PTerm:=⟨PTerm.z⟩
theorem bulk_get {H:Type} {xs:List (DataW H × List MemPlace)} {i:Nat} {z:DataW H × List MemPlace} (h:xs[i]? = some z):Rows.uptoBulk z.1 ≤ Rows.uptoBulkAll (xs.map (·.1)) :=
 bulk_part (List.mem_map.2 ⟨z,List.mem_of_getElem? h,rfl⟩)
theorem bigA_of {w:World} {μ α:Type} {R:μ→α→OA} : ∀ {ms:List μ} {l:List α},ms.length=l.length→(∀ (i:Nat) m x,ms[i]? = some m→l[i]? = some x → ∃ F,(R m x).holds w F) → ∃ F,(bigA R ms l).holds w F
 | [],[],_,_=>⟨fun _=>False,trivial,fun _ x=>x⟩
 | m :: ms,x :: xs,hl,h=>by
  obtain ⟨F,hF⟩ := h 0 m x rfl rfl
  obtain ⟨G,hG⟩ := bigA_of (ms:=ms) (l:=xs) (by simpa using hl) fun i m x h1 h2=>h (i + 1) m x (by simpa using h1) (by simpa using h2)
  exact ⟨fun i=>F i∨G i,F,G,hF,hG,fun _=>Iff.rfl⟩
 | [],_ :: _,hl,_=>by simp at hl
 | _ :: _,[],hl,_=>by simp at hl
theorem nmL_of : ∀ {l:List PTerm},(∀ x ∈ l,nmT x)→nmL l
 | [],_=>trivial
 | x :: l,h=>⟨h x zao,nmL_of fun y hy=>h y (by simp [hy])⟩
theorem sizeL_bulk {H:Type} : ∀ {l:List PTerm} {ds:List (DataW H)},l.length=ds.length→(∀ (i:Nat) x d,l[i]? = some x→ds[i]? = some d→sizeT x ≤ Rows.uptoBulk d)→sizeL l ≤ Rows.uptoBulkAll ds
 | [],[],_,_=>by simp [sizeL]
 | x :: l,d :: ds,hl,h=>by
  have h1:=h 0 x d rfl rfl
  have h2:=sizeL_bulk (l:=l) (ds:=ds) (by simpa using hl) fun i x d h3 h4=>h (i + 1) x d (by simpa using h3) (by simpa using h4)
  simp only [sizeL,Rows.uptoBulkAll]; omega
 | [],_ :: _,hl,_=>by simp at hl
 | _ :: _,[],hl,_=>by simp at hl
theorem term_trod {H:Type} {enc:TypeId × Value→H} {W:World} (fuel:Nat) : ∀ {cs:List Value} {x:DataW H × List MemPlace},DataW.trod enc PP W 0 (fun _=>true) true fuel zm cs=some x→Rows.uptoBulk x.1 ≤ 1048576 →
  ∃ (m:Term) (y:PTerm),cs=Term.C m∧(m.kind=y.kind∧m.name=y.name∧m.other=y.other∧m.form=y.form)∧(nmT y∧sizeT y ≤ Rows.uptoBulk x.1) ∧ ∃ F,(yB m.sub y.sub).holds W F:=by
 induction fuel using Nat.strongRecOn with
 | _ fuel ih =>
 intro cs x hx hb
 obtain ⟨k,hk⟩ := fld_int fv_Term_kind un_api_TermKind zap hx
 obtain ⟨n,hn,hns⟩ := fld_str fv_Term_name yu zap hx
 obtain ⟨o,ho,hos⟩ := fld_str fv_Term_other yu zap hx
 obtain ⟨f,hf⟩ := fld_int fv_Term_form un_int zap hx
 obtain ⟨fs,fd,hu,hi,hoff,hty⟩ := fv_Term_sub
 obtain ⟨xs,n1,hfu,hxx,hl,hlen,hall⟩ := DataW.trod_struct hu hx
 have hl:cs.length=5:=hl.trans zap
 have h1:=hall 4 fd hi
 have h2:4 < xs.length:=by rw [hlen]; exact (Array.getElem?_eq_some_iff.1 hi).1
 rw [hoff,hty,show PP.cellsOf T_L_api_Term=1 from by kernel_rfl,List.getElem?_eq_getElem h2] at h1
 have hbx:1 + Rows.uptoBulk (xs[4]).1 ≤ Rows.uptoBulk x.1:=by
  have:=bulk_get (List.getElem?_eq_getElem h2)
  rw [hxx]
  simp only [Rows.uptoBulk]
  omega
 have hbz:Rows.uptoBulk (xs[4]).1 ≤ 1048576:=by omega
 have hmax:maxLen=9223372036854775807:=rfl
 have hcs : ∀ v4,cs[4]? = some v4→cs=[.int .i64 k,.string n,.string o,.int .i64 f,v4]:=by
  intro v4 h4
  match cs,hl with
  | [c0,c1,c2,c3,c4],_ =>
   simp at hk hn ho hf h4
   subst hk hn ho hf h4
   rfl
 rcases DataW.trod_slice zq.1 h1 with ⟨e1,e2⟩ | ⟨a,len,cap,elems,rest,n2,hfu2,e1,e2,_,hlc,hcm,hel,hget,_⟩
 ·have h4:=hcs _ (take_one e1)
  refine ⟨⟨k,n,o,f,SlV.nil⟩,.mk k n o f [],?_,⟨rfl,rfl,rfl,rfl⟩,⟨⟨by show n.size < _; omega,by show o.size < _; omega,trivial⟩,by rw [x9]; simp only [PTerm.sub,sizeL]; omega⟩,fun _=>False,(0,[]),fun _=>False,fun _=>False,⟨⟨Sl.nil W 5,by simp⟩,fun i=>⟨fun x=>x.elim,fun x=>absurd rfl x.1⟩⟩,⟨trivial,fun _ x=>x⟩,fun _=>⟨fun x=>x.elim,fun x=>x.elim id id⟩⟩
  rw [h4,SlV.nil_eq]; rfl
 ·have h4:=hcs _ (take_one e1)
  have hbe:Rows.uptoBulkAll (elems.map (·.1)) ≤ 1048576:=by
   rw [e2] at hbz
   simp only [Rows.uptoBulk] at hbz
   omega
  have hlen2:len ≤ 1048576:=by
   have:=bulk_len (elems.map (·.1))
   rw [List.length_map,hel] at this
   omega
  have hone : ∀ i,i < len → ∃ q:Term × PTerm,(W.cells? 0 (a.add (i * PP.cellsOf zm)) (PP.cellsOf zm)=some (Term.C q.1))∧(q.1.kind=q.2.kind∧q.1.name=q.2.name∧q.1.other=q.2.other∧q.1.form=q.2.form)∧(nmT q.2 ∧ ∀ z,elems[i]? = some z→sizeT q.2 ≤ Rows.uptoBulk z.1) ∧ ∃ F,(yB q.1.sub q.2.sub).holds W F:=by
   intro i hi'
   have h5:=hget i hi'
   have h6:i < elems.length:=by omega
   rw [List.getElem?_eq_getElem h6] at h5
   cases hc:W.cells? 0 (a.add (i * PP.cellsOf zm)) (PP.cellsOf zm) with
   | none=>rw [hc] at h5; simp at h5
   | some cs' =>
    rw [hc] at h5
    simp only [zar] at h5
    obtain ⟨m,y,rfl,hm,hy,hF⟩ := ih n2 zan h5 (by have:=bulk_get (List.getElem?_eq_getElem h6); omega)
    exact ⟨(m,y),rfl,hm,⟨hy.1,fun z hz=>by cases (List.getElem?_eq_getElem h6).symm.trans hz; exact hy.2⟩,hF⟩
  obtain ⟨g,hg⟩ := Deep.choose_lt (α:=Term × PTerm) hone
  have hsz:PP.cellsOf zm=5:=by kernel_rfl
  refine ⟨⟨k,n,o,f,⟨some a,len,cap⟩⟩,.mk k n o f ((List.range len).map fun i=>(g i).2),?_,⟨rfl,rfl,rfl,rfl⟩,⟨⟨by show n.size < _; omega,by show o.size < _; omega,nmL_of fun y hy=>?_⟩,?_⟩,?_⟩
  ·rw [h4]; show _=[_,_,_,_,SlV.v _]; rw [SlV.eq]
  ·obtain ⟨i,hi',rfl⟩ := List.mem_map.1 hy
   exact (hg i (List.mem_range.1 hi')).2.2.1.1
  ·have hs:sizeL ((List.range len).map fun i=>(g i).2) ≤ Rows.uptoBulkAll (elems.map (·.1)):=by
    refine sizeL_bulk (by simp [hel]) fun i y d h1 h2=>?_
    have hi':i < len:=by
     refine Nat.lt_of_not_le fun q=>?_
     rw [List.getElem?_eq_none (by simpa using q)] at h1; cases h1
    rw [List.getElem?_map] at h1 h2
    rw [List.getElem?_range hi'] at h1
    simp only [Option.map_some,Option.some.injEq] at h1
    subst h1
    cases hz:elems[i]? with
    | none=>rw [hz] at h2; cases h2
    | some z=>rw [hz] at h2; cases h2; exact (hg i hi').2.2.1.2 z hz
   rw [x9]
   have:Rows.uptoBulkAll (elems.map (·.1)) ≤ Rows.uptoBulk (xs[4]).1:=by
    rw [e2]; simp only [Rows.uptoBulk]; omega
   simp only [PTerm.sub]; omega
  ·have hsl:Sl W 5 ⟨some a,len,cap⟩ (((List.range len).map fun i=>(g i).1).map Term.C):=by
    refine ⟨by simp,?_,?_⟩
    ·intro r hr
     obtain ⟨y,_,rfl⟩ := List.mem_map.1 hr
     exact Term.len y
    ·intro i r hr
     rw [List.getElem?_map,List.getElem?_map] at hr
     have hi':i < len:=by
      refine Nat.lt_of_not_le fun q=>?_
      rw [List.getElem?_eq_none (by simpa using q)] at hr; cases hr
     rw [List.getElem?_eq_getElem (by simpa using hi')] at hr
     simp only [List.getElem_range,Option.map_some,Option.some.injEq] at hr
     subst hr
     obtain ⟨_,_,hc0⟩ := World.cells?_some (hg 0 zan).1
     obtain ⟨ab,ao,asp⟩ := a
     have hsp:asp=none:=by
      have h7:=hc0 0 (by rw [hsz]; decide)
      simp only [Nat.zero_mul,Addr.add,if_true] at h7
      cases asp with
      | none=>rfl
      | some q =>
       unfold World.cell? at h7
       simp only [Option.isSome_some,if_true] at h7
       split at h7
       ·exact absurd h7.symm (by simp [Term.C])
       ·exact absurd h7.symm (by simp [Term.C])
     subst hsp
     obtain ⟨_,_,hc⟩ := World.cells?_some (hg i hi').1
     refine ⟨rfl,fun j v hv=>?_⟩
     have hj:j < 5:=by have:=(List.getElem?_eq_some_iff.1 hv).1; rw [Term.len] at this; exact this
     have h8:=hc j (by rw [hsz]; exact hj)
     rw [hv] at h8
     have hadd:((⟨ab,ao,none⟩ : Addr).add (i * PP.cellsOf zm)).add j=⟨ab,ao + i * 5 + j,none⟩ := by
      rw [hsz]
      unfold Addr.add
      by_cases h5:i * 5=0
      ·by_cases h6:j=0
       ·simp [h5,h6]
       ·simp [h5,h6]
      ·by_cases h6:j=0
       ·simp [h5,h6]
       ·simp [h5,h6]
     rw [hadd] at h8
     exact h8
   have hbig : ∃ F,(bigA xk ((List.range len).map fun i=>(g i).1) ((List.range len).map fun i=>(g i).2)).holds W F:=by
    refine bigA_of zao fun i m x h1 h2=>?_
    rw [List.getElem?_map] at h1 h2
    have hi':i < len:=by
     refine Nat.lt_of_not_le fun q=>?_
     rw [List.getElem?_eq_none (by simpa using q)] at h1; cases h1
    rw [List.getElem?_range hi'] at h1 h2
    simp only [Option.map_some,Option.some.injEq] at h1 h2
    subst h1 h2
    obtain ⟨_,he,_,F,hF⟩ := hg i hi'
    have:=zab (s:=(g i).1.sub) hF
    rw [show mT (g i).2 (g i).1.sub=(g i).1 from by rw [mT,← he.1,← he.2.1,← he.2.2.1,← he.2.2.2]] at this
    exact ⟨F,this⟩
   obtain ⟨F,hF⟩ := hbig
   exact ⟨_,fTerms_mk (F:=fun i=>((List.range len).map fun i=>(g i).1) ≠ []∧i=_) ⟨⟨hsl,by simp; omega⟩,fun _=>Iff.rfl⟩ hF⟩
theorem term_of {H:Type} {enc:TypeId × Value→H} {W:World} {v:Value} {d:DataW H} {ds:List (DataW H)} {ps:List MemPlace} {base:Nat} (hval:Value.okWide PP W .any base zm v) (h:DataW.Trod enc PP W 0 (fun _=>true) true zm v d ps) (hk:Rows.uptoSmall H ds=true) (hd:d ∈ ds) :
  ∃ (y:PTerm) (s:SlV),v = .agg (Term.C (⟨y.kind,y.name,y.other,y.form,s⟩ : Term)).toArray∧(nmT y∧sizeT y ≤ 1048576) ∧ ∃ F,(ze s y.sub).holds W F:=by
 obtain ⟨fuel,hf⟩ := h
 have hb:Rows.uptoBulk d ≤ 1048576:=by
  have h1:=bulk_part hd
  have h3:Rows.uptoBulkAll ds ≤ 1048576:=by simpa [Rows.uptoSmall] using hk
  omega
 obtain ⟨m,y,hc,he,hn,hF⟩ := term_trod fuel hf hb
 have hu : ∃ fs,PP.underlying zm=some (.struct fs):=by
  obtain ⟨fs,fd,hu,_⟩ := fv_Term_sub; exact ⟨fs,hu⟩
 obtain ⟨fs,hu⟩ := hu
 unfold Value.okWide at hval
 rw [hu] at hval
 obtain ⟨cs,rfl,_⟩ := hval
 refine ⟨y,m.sub,?_,⟨hn.1,Nat.le_trans hn.2 hb⟩,hF⟩
 have hm:m=(⟨y.kind,y.name,y.other,y.form,m.sub⟩ : Term):=by rw [← he.1,← he.2.1,← he.2.2.1,← he.2.2.2]
 rw [← hm]
 have hc':cs.toList=Term.C m:=hc
 rw [← hc']
theorem Held.f {W:World} {Z:List OA} {s:SlV} {l:List PTerm} (h : ∃ F,(ze s l).holds W F) (hz:Held W Z):Held W (ze s l :: Z) := .cons h hz
end
section
open Gw Go.ChangeShapes Go.WideShapes Go.ChangeAt Go.RowKit
set_option maxRecDepth 100000
def tz64:List Int:=Lib.deBruijn64tab.map fun (z:Nat)=>(z:Int)
def tz32:List Int:=Lib.deBruijn32tab.map fun (z:Nat)=>(z:Int)
theorem laidMet_tail {P:Program} {w:World} {x:String × DataW Unit} {l:List (String × DataW Unit)} (h:laidMet P (x :: l) w):laidMet P l w:=by
 obtain ⟨ps,⟨g,t,cs,fuel,p,q,_,_,_,_,hv,rfl⟩,hn,hr⟩ := h
 exact ⟨q,hv,(List.nodup_append.1 hn).2.1,fun b off hp=>hr b off (List.mem_append_right _ hp)⟩
theorem post_old {H:Type} {enc:TypeId × Value→H} {P:Program} {f:Func} {s:ChangeSpec} {apart fresh handsOn again:Bool} {W W':World} {args:Array Value} {v:Value} {ds gs:List (DataW H)} {before pa pv:List MemPlace}
  (hW:DataW.Whole enc P f.params.toList s.vars apart W args.toList ds gs before)
  (hres : ∀ (b:Nat) (sp:Nat→Bool) (hd:Bool),DataW.TrodAll enc P W' b sp hd f.resultTypes.toList (v.resultList f.resultTypes.size) (s.fn H (ds ++ gs)).results [])
  (hargs : ∀ sp:Nat→Bool,(∀ p ∈ before,sp p.block=true)→DataW.TrodAll enc P W' 0 sp true f.params.toList args.toList (s.fn H (ds ++ gs)).args pa)
  (hvars : ∀ sp:Nat→Bool,(∀ p ∈ before,sp p.block=true)→DataW.TrodVars enc P W' sp s.vars (s.fn H (ds ++ gs)).vars pv)
  (hps:before=pa ++ pv) (hk:W.keptBut W' (· ∈ before)) (hfz : ∀ a,a.block < W.heap.size→W'.frozen? a=W.frozen? a)
  (hok : ∀ (j:Nat) (t:TypeId) (r:Value),f.resultTypes[j]? = some t→(v.resultList f.resultTypes.size)[j]? = some r→Value.okWide P W' .any 0 t r) :
  s.post enc P f apart fresh handsOn again W args v W':=by
 have hlt : ∀ p ∈ before,p.block < W.heap.size:=fun p hp=>hW.lt p hp
 have h0 : ∀ p ∈ before,(fun b=>decide (b < W.heap.size)) p.block=true:=fun p hp=>decide_eq_true (hlt p hp)
 have hin : ∀ p ∈ before,p ∈ pa∨p ∈ pv:=fun p hp=>List.mem_append.1 (hps ▸ hp)
 have hin' : ∀ p,p ∈ ([] ++ pa) ++ pv→p ∈ before:=fun p hp=>by rw [hps]; simpa using hp
 refine ⟨ds,gs,before,[],pa,pv,hW,hres _ _ _,hargs _ h0,hvars _ h0,World.keptBut_mono (fun p hp=>⟨hp,.inr (hin p hp)⟩) hk,fun _=>?_⟩
 obtain ⟨_,_,_,_,_,hz,hn⟩ := hW
 refine ⟨hok,_,_,([] ++ pa) ++ pv,⟨[] ++ pa,pv,trodAll_append (hargs _ fun _ _=>rfl) (hres _ _ _),hvars _ (fun _ _=>rfl),rfl,fun b off hp=>?_,fun ha=>?_⟩,fun p hp _=>hin' p hp⟩
 ·have hb:=hin' _ hp
  rw [hfz _ (hlt _ hb)]; exact hz b off hb
 ·have:=hn ha
  rw [hps] at this
  simpa using this
theorem pw_core {W:World} {rest:List (String × DataW Unit)} (h:laidMet PP (("internal/strconv.uint64pow10",Rows.laid_internal_strconv_uint64pow10) :: rest) W):Pw W :=
 Lib.tabIs_of_head (rest:=rest) gPw (t:=T_20_uint64) (e:=T_uint64) (n:=20) zap ar_20_uint64.1 zap zap zap h
theorem laid_three {W:World} (h:laidMetH PP [("math/bits.deBruijn32tab",Rows.laid_math_bits_deBruijn32tab),("math/bits.deBruijn64tab",Rows.laid_math_bits_deBruijn64tab),("internal/strconv.uint64pow10",Rows.laid_internal_strconv_uint64pow10)] W):Pw W:=by
 have h':laidMet PP [("math/bits.deBruijn32tab",Rows.laid_math_bits_deBruijn32tab),("math/bits.deBruijn64tab",Rows.laid_math_bits_deBruijn64tab),("internal/strconv.uint64pow10",Rows.laid_internal_strconv_uint64pow10)] W:=h
 exact pw_core (laidMet_tail (laidMet_tail h'))
theorem Held.pw {W:World} {Z:List OA} (h:Pw W) (hz:Held W Z):Held W (oPw :: Z) := .cons ⟨fun i=>i=1,⟨h,fun _=>Iff.rfl⟩⟩ hz
instance:Inhabited ByteArray:=⟨ByteArray.empty⟩
end
section
open Gw Go.ChangeShapes Go.WideShapes Go.ChangeAt Go.RowKit
set_option maxRecDepth 100000
namespace LawReduceFrees
theorem contract (H:Type) (enc:TypeId × Value→H) (W:World) (base:Nat) (args:Array Value) (ds gs:List (DataW H)) (before:List MemPlace)
  (hval : ∀ (j:Nat) t v,xu.params[j]? = some t→args[j]? = some v→Value.okWide PP W .any base t v)
  (hW:DataW.Whole enc PP xu.params.toList Rows.reduceFreesSpec.vars false W args.toList ds gs before) (hL:laidMetH PP Rows.reduceFreesUptoRow.laid W) (hsm:Rows.uptoSmall H (ds ++ gs)=true) :
  Calls PP x4 args W fun e W' => ∃ v,e = .returned v∧Rows.reduceFreesSpec.post enc PP xu false true false false W args v W':=by
 have hW':=hW
 have hlt:=hW.lt
 obtain ⟨p,q,hA0,hV,rfl,hfz,hnd⟩ := hW
 have hA:DataW.TrodAll enc PP W 0 (fun _=>true) true xu.params.toList args.toList ds p:=hA0
 have hpar:xu.params = #[vN,zm,xy]:=by kernel_rfl
 rw [hpar] at hA hval
 obtain ⟨v0,v1,v2,d0,d1,d2,p0,p1,p2,rfl,rfl,rfl,h0,h1,h2⟩ := trodAll_three hA
 obtain ⟨rfl,rfl⟩ := trodVars_none hV
 obtain ⟨a0,s0,rfl,hrd0,hnm0,hsl0⟩ := nds_of (hval 0 _ _ rfl rfl) h0
 have hln0:=small_len hsm zao hsl0
 obtain ⟨a1,s1,rfl,⟨hnm1,hbg1⟩,hf1⟩ := term_of (hval 1 _ _ rfl rfl) h1 hsm zao
 obtain ⟨a2,rfl,hr2⟩ := int_of (k := .i64) un_int (hval 2 _ _ rfl rfl)
 have S:=stheld (W:=W) (.s hrd0 zan (.f hf1 (.pw (laid_three hL) .nil)))
 refine (law14_ReduceFrees_st S (ReduceFrees_true (K:=1100000) zan heads14b hnm0 zan hnm1 hbg1 a2)).mono fun e W' ⟨v,he,hv,hS⟩ => ?_
 subst hv
 have hx:=hS.frame
 refine ⟨_,he,post_old (pa:=p0 ++ p1 ++ p2) (pv:=[]) hW' (fun _ _ _=>trodAll_cons_mk (shut_bool un_bool _) trodAll_mk0) (fun sp hsp=>?_) (fun _ _=>rfl) zao ((Ext.below hx).frame _) hx.froz (ok_one zap rfl (okWide_bool_mk un_bool _))⟩
 rw [hpar]
 refine trodAll_stays (ts:=[vN,zm,xy]) (fun t ht=>?_) hA (fun p hp=>(Ext.below hx).same (hlt p (by simpa using hp))) (fun p hp=>hsp p (by simpa using hp))
 simp only [List.mem_cons,List.not_mem_nil,or_false] at ht
 rcases ht with rfl | rfl | rfl <;> exact ⟨by kernel_rfl,of_decide_eq_true zap⟩
noncomputable def laidWorld1 (os:Os):World :=
 { World.holding PP os ⟨#[],#[],[]⟩ with heap:=(World.holding PP os ⟨#[],#[],[]⟩).heap.modify 3 fun
   | .cells _ t frozen => .cells (tz64.map (Value.int .u8)).toArray t frozen
   | o=>o }
noncomputable def laidWorld2 (os:Os):World :=
 { laidWorld1 os with heap:=(laidWorld1 os).heap.modify 2 fun
   | .cells _ t frozen => .cells (tz32.map (Value.int .u8)).toArray t frozen
   | o=>o }
noncomputable def laidWorld (os:Os):World :=
 { laidWorld2 os with heap:=(laidWorld2 os).heap.modify 1 fun
   | .cells _ t frozen => .cells (Lib.pow10Tab.map (Value.int .u64)).toArray t frozen
   | o=>o }
def argsN:Array Value := #[.slice none 0 0,.agg #[.int .i64 0,.string ByteArray.empty,.string ByteArray.empty,.int .i64 0,.slice none 0 0],.int .i64 0]
theorem laid_met (os:Os):laidMet PP Rows.reduceFreesUptoRow.laid ((laidWorld os).forCall (fun _ _=>0) ⟨#[],argsN,[]⟩).memory :=
 laidMet_of_run' 8 zap zap
def ddN (H:Type):List (DataW H):=[.nil,.agg [.lit (.int .i64 0),.lit (.string []),.lit (.string []),.lit (.int .i64 0),.nil],.lit (.int .i64 0)]
theorem reads (os:Os) {H:Type} (enc:TypeId × Value→H) : ∃ places,DataW.whole enc PP ((laidWorld os).forCall (fun _ _=>0) ⟨#[],argsN,[]⟩).memory xu.params.toList Rows.reduceFreesSpec.vars false argsN.toList 8=some (ddN H,[],places) :=
 ⟨[],by kernel_rfl⟩
theorem lifted (os:Os) (started:os.Started) (H:Type) (enc:TypeId × Value→H) (F:Stop.Interp) :
  ReturnsInHanded {} Tryz.checked os x4 .any ((Rows.OpenSpec.upto Rows.reduceFreesSpec).preRow enc PP xu Rows.reduceFreesUptoRow.domain false Rows.reduceFreesUptoRow.laid) (((Rows.OpenSpec.upto Rows.reduceFreesSpec).at F).post enc PP xu false true false false):=by
 obtain ⟨places,hx⟩ := reads os enc
 refine returnsInHanded_of_row (C:=Tryz.checked) (s:=Rows.OpenSpec.upto Rows.reduceFreesSpec) ownKnob_none started zap vu
  (witness_row_at (enc:=enc) (C:=Tryz.checked) false (laidWorld os) argsN rfl zap zap zap
   (OpenSpec.preRow_of_cond 8 hx zap (fun k hk=>by cases hk; kernel_rfl) zap (laid_met os))) ?_
 intro W base args ds gs before hval hW _ hcond _ hL _ _
 exact contract H enc W base args ds gs before hval hW hL (hcond _ rfl)
theorem said:Rows.ReduceFreesUptoSaid :=
 OpenClaim.holds_of_cond x4 xu rfl rfl rfl rfl rfl rfl rfl ⟨rfl,rfl,rfl,rfl,rfl⟩ rfl rfl rfl rfl rfl zap vu zap
  (of_decide_eq_true zap) (by unfold Func.isWrapper; first | (rw [if_pos (by decide +kernel)]; kernel_rfl) | (rw [if_neg (by decide +kernel)]; exact ⟨rfl,rfl⟩))
  (fun os started H enc _ F=>by rw [OpenClaim.pre_eq_preRow]; exact lifted os started H enc F)
theorem plain (f:FuncId) (fn:Func) (hf:Tryz.pinned.checked.prog.funcNamed "dictum/dictumlaw14.ReduceFrees" = some f) (hfn:Tryz.pinned.checked.prog.funcs[f]? = some fn) :
  true=Tryz.pinned.checked.prog.looks [] ∧ ∀ (j:Nat) t,fn.params[j]? = some t→Tryz.pinned.checked.prog.wantsStandIn t=false:=by
 obtain rfl:f=x4:=zaq ((show PP.funcNamed "dictum/dictumlaw14.ReduceFrees" = some x4 by kernel_rfl).symm.trans hf) |>.symm
 obtain rfl:fn=xu:=(zaq (vu.symm.trans hfn)).symm
 refine ⟨by kernel_rfl,fun j t ht=>?_⟩
 rw [show xu.params = #[vN,zm,xy] by kernel_rfl] at ht
 have hm:t ∈ [vN,zm,xy]:=by simpa using Array.mem_of_getElem? ht
 simp only [List.mem_cons,List.not_mem_nil,or_false] at hm
 rcases hm with rfl | rfl | rfl
 ·exact (show PP.wantsStandIn vN=false by kernel_rfl)
 ·exact (show PP.wantsStandIn zm=false by kernel_rfl)
 ·exact (show PP.wantsStandIn xy=false by kernel_rfl)
theorem card:Rows.ReduceFreesUptoCardSaid :=
 Claim7.holds_tied_plain_at .later [] _ _ _ _ said (fun _ h=>by cases h) zap (fun _ h=>by cases h) reduceFreesUpto_row_tie rfl ⟨rfl,rfl⟩ zap rfl plain zap
end LawReduceFrees
end
end Go.Proofs.YtmggdbbmmkkplaaGreatDoor
