/- Texts put together. -/
import Derived.WalkKit
import Derived.WalkSpells
import Derived.Laws.Rows
import Derived.Sort.LoopGhostIn
import Derived.RangeFuncLeaves
import Derived.OrdersIn
import Derived.TacticsIn
import Derived.OwnWalk
import Derived.Maps.AppendAt
import Derived.Orders
import Derived.RangeFuncRecord
import Derived.ChangeKeysEq
import Derived.MapKept
import Derived.Test.YtmggdbbmmkkplaaGreatDoorProg
import Derived.KernelRfl
set_option linter.unusedVariables false
set_option linter.unusedSimpArgs false
namespace Go.Proofs.YtmggdbbmmkkplaaGreatDoor
theorem zam {p:Prop} (h:p:=by decide):p:=h
theorem zan {p:Prop} (h:p:=by omega):p:=h
theorem zao {p:Prop} (h:p:=by simp):p:=h
theorem zap {p:Prop} (h:p:=by kernel_rfl):p:=h
theorem zaq {α:Type _} {a b:α} (h:some a=some b):a=b:=Option.some.inj h
theorem zar {α β:Type _} (a:α) (f:α→Option β):(some a).bind f=f a:=rfl
section
open Go.RowKit
namespace Gw
abbrev Fr:=Nat→Value
def upd (f:Fr) (d:Nat) (v:Value):Fr:=fun i=>bif Nat.beq i d then v else f i
def evF (f:Fr):Operand→Value
 | .tmp t=>f t
 | .const v=>v
 | .global g => .pointer (some ⟨g,0,none⟩)
 | .func k => .func (.func k) #[] #[]
def fr0 (args:List Value):Fr:=fun i=>args.getD i undef
def mask (ds:List Nat) (g f:Fr):Fr:=fun k=>bif ds.elem k then g k else f k
theorem yb {ds:List Nat} {g f:Fr} {k:Nat} (h:k ∈ ds):mask ds g f k=g k:=by simp [mask,h]
theorem x7 {ds:List Nat} {g f:Fr} {k:Nat} (h:k ∉ ds):mask ds g f k=f k:=by simp [mask,h]
def Dif (ds:List Nat) (f f':Fr):Prop := ∃ g,f'=mask ds g f
theorem Dif.refl (ds:List Nat) (f:Fr):Dif ds f f:=⟨f,by funext k; unfold mask; cases ds.elem k <;> rfl⟩
def mark (D:Nat):Deferred:={ target := .collected D,args := #[] }
structure Is (n:Nat) (dm:List Nat) (a:Act) (f:Fr):Prop where
 defers:a.defers=dm.map mark
 size:a.tmps.size=n
 get : ∀ i,a.tmps.getD i undef=f i
theorem Is.eval {n:Nat} {dm:List Nat} {a:Act} {f:Fr} (h:Is n dm a f):a.eval=evF f:=by
 funext x
 cases x <;> simp [Act.eval,evF,← h.get]
theorem upd_same (f:Fr) (d:Nat) (v:Value):upd f d v d=v:=by simp [upd]
theorem ya (f:Fr) (d i:Nat) (v:Value) (h:i ≠ d):upd f d v i=f i:=by
 have:Nat.beq i d=false:=by
  cases hb:Nat.beq i d with
  | false=>rfl
  | true=>exact absurd (Nat.eq_of_beq_eq_true hb) h
 simp [upd,this]
theorem Is.put {n:Nat} {dm:List Nat} {a:Act} {f:Fr} (h:Is n dm a f) {d:Nat} (hd:d < n) (v:Value):Is n dm (a.put (some d) v) (upd f d v) where
 defers:=h.defers
 size:=by simp [Act.put,h.size]
 get:=fun i=>by
  by_cases hi:i=d
  ·subst hi
   rw [upd_same]
   simp only [Act.put,Array.getD_eq_getD_getElem?]
   rw [Array.getElem?_setIfInBounds_self_of_lt (by rw [h.size]; exact hd)]
   rfl
  ·rw [ya _ _ _ _ hi,← h.get i]
   simp only [Act.put,Array.getD_eq_getD_getElem?]
   rw [Array.getElem?_setIfInBounds_ne (fun e=>hi e.symm)]
theorem Dif.self (ds:List Nat) (g f:Fr):Dif ds f (mask ds g f):=⟨g,rfl⟩
theorem Dif.upd {ds:List Nat} {f f':Fr} (h:Dif ds f f') {d:Nat} (hd:ds.elem d=true) (v:Value):Dif ds f (upd f' d v):=by
 obtain ⟨g,rfl⟩ := h
 refine ⟨Gw.upd g d v,?_⟩
 have hd':d ∈ ds:=by simpa using hd
 funext k
 by_cases hk:k=d
 ·subst hk; rw [upd_same,yb hd',upd_same]
 ·rw [ya _ _ _ _ hk]
  by_cases hkd:k ∈ ds
  ·rw [yb hkd,yb hkd,ya _ _ _ _ hk]
  ·rw [x7 hkd,x7 hkd]
theorem Dif.mask {ds ds':List Nat} {f f':Fr} (h:Dif ds f f') (hs:ds'.all (fun d=>ds.elem d)=true) (g:Fr):Dif ds f (mask ds' g f'):=by
 obtain ⟨g0,rfl⟩ := h
 refine ⟨Gw.mask ds' g g0,?_⟩
 have hs' : ∀ d ∈ ds',d ∈ ds:=fun d hd=>by simpa using List.all_eq_true.1 hs d hd
 funext k
 by_cases hk:k ∈ ds'
 ·rw [yb hk,yb (hs' k hk),yb hk]
 ·rw [x7 hk]
  by_cases hkd:k ∈ ds
  ·rw [yb hkd,yb hkd,x7 hk]
  ·rw [x7 hkd,x7 hkd]
theorem df {ds:List Nat} {f f':Fr} (h:Dif ds f f':=by repeat first | exact Dif.refl _ _ | exact Dif.self _ _ _ | refine Dif.upd ?_ rfl _ | refine Dif.mask ?_ rfl _):Dif ds f f':=h
theorem cd2 {α:Sort _} (a b:α):cond true a b=a∧cond false a b=b:=⟨rfl,rfl⟩
theorem la2 {α:Type _}:(∀ l:List α,[] ++ l=l)∧(∀ l m n:List α,l ++ m ++ n=l ++ (m ++ n)) ∧ ∀ (a:α) (l m:List α),a :: l ++ m=a :: (l ++ m):=⟨List.nil_append,List.append_assoc,fun _ _ _=>List.cons_append⟩
abbrev rg (a n:Nat):List Nat:=List.range' a n
abbrev Rt (R:Value→World→Prop):Ending→World→Prop:=fun e w' => ∃ v,e = .returned v∧R v w'
abbrev Post:=List Nat→Exit→Fr→World→Prop
def lift (n:Nat) (Q:Post):Exit→Act→World→Prop:=fun e a w => ∃ dm f,Is n dm a f∧Q dm e f w
@[reducible] def fen (rd:Option Nat):Fence:={ Fence.wide with round:=rd }
def wc (P:Program) (rd:Option Nat) (n:Nat) (dm:List Nat) (c:Code) (Q:Post) (f:Fr) (w:World):Prop := ∀ a,Is n dm a f→c.wpIn (fen rd) 0 P (lift n Q) a w
def wl (P:Program) (rd:Option Nat) (n:Nat) (dm:List Nat) (ops:Array Oper) (l:List Oper) (Q:Post) (f:Fr) (w:World):Prop := ∀ a,Is n dm a f→wpListIn (fen rd) 0 P ops (lift n Q) l a w
def thenP (next:List Nat→Fr→World→Prop) (Q:Post):Post:=fun dm e f w=>match e with | .normal=>next dm f w | e=>Q dm e f w
section rules
variable {P:Program} {rd:Option Nat} {n:Nat} {dm:List Nat} {ops:Array Oper} {Q:Post} {f:Fr} {w:World} {rest:List Oper}
theorem wc_mono {c:Code} {Q':Post} (h:wc P rd n dm c Q f w) (hq : ∀ dm e f w,Q dm e f w→Q' dm e f w):wc P rd n dm c Q' f w :=
 fun a ha=>wpIn_mono (h a ha) fun _ _ _ ⟨dm,f,hf,q⟩ => ⟨dm,f,hf,hq _ _ _ _ q⟩
theorem zw (h:Q dm .normal f w):wc P rd n dm .skip Q f w:=fun _ ha=>wpIn_skip ⟨dm,f,ha,h⟩
theorem zr (h:Q dm .ret f w):wc P rd n dm .ret Q f w:=fun _ ha=>wpIn_ret ⟨dm,f,ha,h⟩
theorem xO {id:Nat} (h:Q dm (.exit id) f w):wc P rd n dm (.exit id) Q f w:=fun _ ha=>wpIn_exit ⟨dm,f,ha,h⟩
theorem zb {x y:Code} (h:wc P rd n dm x (thenP (fun dm f w=>wc P rd n dm y Q f w) Q) f w):wc P rd n dm (.seq x y) Q f w:=fun a ha =>
 wpIn_seq (wpIn_mono (h a ha) fun e a' w' ⟨dm',f',hf',q⟩ => by
  cases e with
  | normal=>exact q a' hf'
  | _=>exact ⟨dm',f',hf',q⟩)
theorem zL {id:Nat} {c:Code} (h:wc P rd n dm c (fun dm e f w=>match e with | .exit id'=>if id'=id then Q dm .normal f w else Q dm (.exit id') f w | e=>Q dm e f w) f w):wc P rd n dm (.block id c) Q f w:=fun a ha =>
 wpIn_block (wpIn_mono (h a ha) fun e a' w' ⟨dm',f',hf',q⟩ => by
  cases e with
  | exit id' =>
   by_cases hid:id'=id
   ·simp only [Exit.inBlock,hid,if_true] at q ⊢
    exact ⟨dm',f',hf',q⟩
   ·simp only [Exit.inBlock,hid,if_false] at q ⊢
    exact ⟨dm',f',hf',q⟩
  | _=>exact ⟨dm',f',hf',q⟩)
theorem zI {c:Operand} {x y:Code} {t:Bool} (hc:evF f c = .bool t) (h1:t=true→wc P rd n dm x Q f w) (h2:t=false→wc P rd n dm y Q f w):wc P rd n dm (.cond c x y) Q f w:=fun a ha=>by
 cases t with
 | true=>exact wpIn_cond_true (by rw [ha.eval]; exact hc) (h1 rfl a ha)
 | false=>exact wpIn_cond_false (by rw [ha.eval]; exact hc) (h2 rfl a ha)
theorem jO {c:Operand} {x y:Code} (hc:evF f c = .bool true) (h1:wc P rd n dm x Q f w):wc P rd n dm (.cond c x y) Q f w:=zI hc (fun _=>h1) (fun h=>by cases h)
theorem wc_false {c:Operand} {x y:Code} (hc:evF f c = .bool false) (h1:wc P rd n dm y Q f w):wc P rd n dm (.cond c x y) Q f w:=zI hc (fun h=>by cases h) (fun _=>h1)
theorem wc_loop {c:Code} {α:Type} (I:α→Fr→World→Prop) (μ:α→Nat) (x:α) (h0:I x f w)
  (round : ∀ x f w,I x f w→wc P rd n dm c (thenP (fun dm' f' w'=>dm'=dm ∧ ∃ y,I y f' w'∧μ y < μ x) Q) f w):wc P rd n dm (.loop c) Q f w:=by
 intro a ha
 refine wpIn_loop_ghost (P:=P) (Q:=lift n Q) (c:=c) (fun m a w => ∃ y f,μ y=m∧Is n dm a f∧I y f w) (μ x) ⟨x,f,rfl,ha,h0⟩ ?_
 rintro m a w ⟨y,f,rfl,ha,hI⟩
 refine wpIn_mono (round y f w hI a ha) ?_
 rintro e a' w' ⟨dm',f',hf',q⟩
 cases e with
 | normal =>
  obtain ⟨rfl,z,hz,hlt⟩ := q
  exact ⟨μ z,hlt,z,f',rfl,hf',hz⟩
 | _=>exact ⟨dm',f',hf',q⟩
theorem xI {c:Code} {α:Type} (ds:List Nat) (I:α→Fr→World→Prop) (μ:α→Nat) (x:α) (h0:I x f w)
  (round : ∀ x g u,I x g u→wc P rd n dm c (thenP (fun dm' f' u'=>dm'=dm∧Dif ds f f' ∧ ∃ y,I y f' u'∧μ y < μ x) Q) (mask ds g f) u) (hI : ∀ x g u,I x (mask ds g f) u→I x g u:=by exact fun _ _ _ h=>h):wc P rd n dm (.loop c) Q f w:=by
 refine wc_loop (fun x f' u => ∃ g,f'=mask ds g f∧I x g u) μ x ⟨f,by funext k; unfold mask; cases ds.elem k <;> rfl,h0⟩ ?_
 rintro x f' u ⟨g,rfl,hg⟩
 refine wc_mono (round x g u hg) ?_
 rintro dm' e f' u' q
 cases e with
 | normal =>
  obtain ⟨rfl,⟨g',rfl⟩,y,hy,hlt⟩ := q
  exact ⟨rfl,y,⟨g',rfl,hI _ _ _ hy⟩,hlt⟩
 | _=>exact q
theorem za {id:Nat} {l:List Oper} (h:wl P rd n dm l.toArray l Q f w):wc P rd n dm (.region id l.toArray false) Q f w:=fun a ha=>wpIn_region_lit (h a ha)
theorem zd (h:Q dm .normal f w):wl P rd n dm ops [] Q f w:=fun _ ha=>⟨dm,f,ha,h⟩
def Does (P:Program) (o:Oper) (f:Fr) (w:World) (v:Value) (w':World):Prop:=(execOp (evF f) o).run P w = .ok (.value v) w'
def Acts (P:Program) (o:Oper) (f:Fr) (w:World) (w':World):Prop:=(execOp (evF f) o).run P w = .ok .skip w'
def Enters (P:Program) (o:Oper) (f:Fr) (w:World) (g:FuncId) (args:Array Value):Prop:=(execOp (evF f) o).run P w = .ok (.enter g args) w
theorem sem_at {o:Oper} {x:Next} {w':World} (h:(execOp (evF f) o).run P w = .ok x w') (hx : ∀ d,x ≠ .defer d):(o.semAt rd (evF f)).run P w = .ok x w':=by
 have hd : ∀ c,o.op ≠ .defer c:=by
  intro c hc
  obtain ⟨dst,op,ty,pos,af,gd⟩ := o
  simp only at hc
  subst hc
  simp only [execOp,Sem.run_bind] at h
  cases hr:(resolve (evF f) c ty).run P w with
  | ok d w1 =>
   rw [hr] at h
   simp only [Result.andThen_ok,Sem.run_pure] at h
   injection h with h1 h2
   exact hx _ h1.symm
  | halt e w1=>rw [hr] at h; simp [Result.andThen] at h
 rw [Oper.semAt_eq rd (evF f) o hd]
 exact h
theorem op_wp {o:Oper} {a:Act} (ha:Is n dm a f) {K:Act→World→Prop} {R:Exit→Act→World→Prop} {x:Next} {w':World} (h:(execOp (evF f) o).run P w = .ok x w') (hx : ∀ d,x ≠ .defer d) (hk:o.uponIn (fen rd) 0 P a K R (.ok x w')):o.wpIn (fen rd) 0 P a w K R:=by
 refine ⟨fun _ _=>trivial,?_⟩
 rw [ha.eval,show (o.semAt (fen rd).round (evF f)).run P w=_ from sem_at h hx]
 exact hk
theorem zj {d:Tmp} {op:Op} {ty:TypeId} {pos:String} {af:Array Edge} {v:Value} {w':World} (hr:Does P ⟨some d,op,ty,pos,af,none⟩ f w v w') (hd:d < n)
  (h:wl P rd n dm ops rest Q (upd f d v) w'):wl P rd n dm ops (⟨some d,op,ty,pos,af,none⟩ :: rest) Q f w:=fun a ha=>by
 refine wpListIn_plain rfl fun K hK=>?_
 exact op_wp ha hr zao (hK _ _ (h _ (ha.put hd v)))
theorem wl_acts {op:Op} {ty:TypeId} {pos:String} {af:Array Edge} {w':World} (hr:Acts P ⟨none,op,ty,pos,af,none⟩ f w w')
  (h:wl P rd n dm ops rest Q f w'):wl P rd n dm ops (⟨none,op,ty,pos,af,none⟩ :: rest) Q f w:=fun a ha=>by
 refine wpListIn_plain rfl fun K hK=>?_
 exact op_wp ha hr zao (hK _ _ (h _ ha))
theorem zA {d:Tmp} {op:Op} {ty:TypeId} {pos:String} {af:Array Edge} {g:FuncId} {args:Array Value} {R:Value→World→Prop} (hr:Enters P ⟨some d,op,ty,pos,af,none⟩ f w g args) (hd:d < n)
  (hc:Calls P g args w fun e w' => ∃ v,e = .returned v∧R v w')
  (h : ∀ v w',R v w'→wl P rd n dm ops rest Q (upd f d v) w'):wl P rd n dm ops (⟨some d,op,ty,pos,af,none⟩ :: rest) Q f w:=fun a ha=>by
 refine wpListIn_plain rfl fun K hK=>?_
 refine op_wp ha hr zao (show _∧_ from ⟨fun h=>(by cases h),?_⟩)
 refine CallsIn.mono (show CallsIn (fen rd) _ P g args w _ from callsIn_wide.2 hc) ?_
 rintro e w' ⟨v,rfl,hv⟩
 exact hK _ _ (h v w' hv _ (ha.put hd v))
def retSem (f:Fr):ResultVar→Sem Value
 | .tmp t=>pure (f t)
 | .cell a t=>do loadVar t (← asAddr (f a))
def Rets (P:Program) (rs:Array ResultVar) (f:Fr) (w:World) (v:Value):Prop :=
 ((do
  let vs ← rs.mapM (retSem f)
  pure (if h:vs.size=1 then vs[0] else .tuple vs):Sem Value).run P w) = .ok v w
def Taken (P:Program):List Nat→World→World→Prop
 | [],w,w'=>w'=w
 | D :: l,w,w' => ∃ w1,(Instr.takeDeferred D).run P w = .ok [] w1∧Taken P l w1 w'
def endPost (P:Program) (rs:Array ResultVar) (R:Value→World→Prop):Post:=fun dm e f w=>match e with
 | .normal | .ret=>match dm with
  | [] => ∃ v,Rets P rs f w v∧R v w
  | dm => ∃ w',Taken P dm w w' ∧ ∃ v,Rets P rs f w' v∧R v w'
 | _=>False
theorem endPost_iff {P:Program} {rs:Array ResultVar} {R:Value→World→Prop} {dm:List Nat} {f:Fr} {w:World} {e:Exit} (he:e = .normal∨e = .ret) (h:endPost P rs R dm e f w) : ∃ w',Taken P dm w w' ∧ ∃ v,Rets P rs f w' v∧R v w':=by
 rcases he with rfl | rfl <;> cases dm <;> first | exact ⟨w,rfl,h⟩ | exact h
theorem results_fr (fn:Func) {a:Act} {f:Fr} (ha:Is n dm a f):results fn a.tmps=(do
  let vs ← fn.results.mapM (retSem f)
  pure (if h:vs.size=1 then vs[0] else .tuple vs):Sem Value):=by
 unfold results
 congr 1
 congr 1
 funext r
 cases r <;> simp only [retSem,ha.get]
theorem leaves_marks {fn:Func} {tmps:Array Value} {R:Ending→World→Prop} : ∀ (dm:List Nat) (w w':World),Taken P dm w w'→LeavesIn (fen none) 0 P fn tmps R [] .returning w'→LeavesInM (fen none) 0 P fn tmps R (dm.map mark) .returning w
 | [],w,w',ht,h=>by cases ht; exact h
 | D :: l,w,w',⟨w1,h1,ht⟩,h=>⟨by simp,.inl ⟨D,w1,rfl,h1,leaves_marks l w1 w' ht h⟩⟩
theorem zu {g:FuncId} {fn:Func} {c:Code} {args:Array Value} {R:Value→World→Prop} (hf:P.funcs[g]? = some fn) (hb:fn.body=some c) (hn:fn.ntmps=n) (hs:args.size ≤ n)
  (h:wc P none n [] c (endPost P fn.results R) (fr0 args.toList) w):Calls P g args w fun e w' => ∃ v,e = .returned v∧R v w':=by
 refine (callsIn_wide (n:=0)).1 ?_
 refine callsIn_of_wp_marks hf hb trivial ?_
 have ha:Is n [] { tmps:=args ++ Array.replicate (fn.ntmps - args.size) undef,defers:=[] } (fr0 args.toList):=by
  refine ⟨rfl,by simp; omega,fun i=>?_⟩
  simp only [fr0,Array.getD_eq_getD_getElem?,List.getD_eq_getElem?_getD,Array.getElem?_toList]
  by_cases hi:i < args.size
  ·rw [Array.getElem?_append_left hi]
  ·rw [Array.getElem?_append_right zan,Array.getElem?_eq_none (by omega:args.size ≤ i)]
   by_cases h2:i - args.size < fn.ntmps - args.size
   ·rw [Array.getElem?_replicate,if_pos h2]; rfl
   ·rw [Array.getElem?_replicate,if_neg h2]
 refine wpIn_mono (h _ ha) ?_
 have key : ∀ (a':Act) (w':World) (dm:List Nat) (f':Fr) (e:Exit),e = .normal∨e = .ret→Is n dm a' f'→endPost P fn.results R dm e f' w'→LeavesInM (fen none) 0 P fn a'.tmps (fun e w' => ∃ v,e = .returned v∧R v w') a'.defers .returning w':=by
  intro a' w' dm f' e he hf' q
  obtain ⟨w2,ht,v,hv,hR⟩ := endPost_iff he q
  rw [hf'.defers]
  refine leaves_marks dm w' w2 ht ?_
  refine ⟨v,?_,v,rfl,hR⟩
  exact (results_fr fn hf').symm ▸ hv
 rintro e a' w' ⟨dm',f',hf',q⟩
 cases e with
 | normal=>exact key a' w' dm' f' .normal (.inl rfl) hf' q
 | ret=>exact key a' w' dm' f' .ret (.inr rfl) hf' q
 | _=>exact q.elim
end rules
end Gw
end
section
open Go.RowKit
namespace Gw
section
variable {P:Program} {f:Fr} {w:World} {d:Option Tmp} {ty:TypeId} {pos:String} {af:Array Edge} {gd:Option (Nat × Bool)}
theorem evF_const (v:Value):evF f (.const v)=v:=rfl
theorem Does.val {o:Oper} {v v':Value} {w':World} (h:Does P o f w v w') (e:v=v'):Does P o f w v' w':=e ▸ h
theorem uR {x:Operand} {v:Value} (h:evF f x=v):Does P ⟨d,.move x,ty,pos,af,gd⟩ f w v w:=by subst h; rfl
theorem ul {x:Operand} {v:Value} (h:evF f x=v):Does P ⟨d,.assign x,ty,pos,af,gd⟩ f w v w:=by subst h; rfl
theorem zk {x:Operand} {k:IntKind} {v:Int} (h:evF f x = .int k v):Does P ⟨d,.move x,ty,pos,af,gd⟩ f w (.int k v) w:=uR h
theorem zh {x:Operand} {k:IntKind} {v:Int} (h:evF f x = .int k v):Does P ⟨d,.assign x,ty,pos,af,gd⟩ f w (.int k v) w:=ul h
theorem zy {x:Operand} {v:Bool} (h:evF f x = .bool v):Does P ⟨d,.move x,ty,pos,af,gd⟩ f w (.bool v) w:=uR h
theorem zi {x:Operand} {v:Bool} (h:evF f x = .bool v):Does P ⟨d,.assign x,ty,pos,af,gd⟩ f w (.bool v) w:=ul h
theorem zB {x:Operand} {v:Option Addr} (h:evF f x = .pointer v):Does P ⟨d,.move x,ty,pos,af,gd⟩ f w (.pointer v) w:=uR h
theorem zZ {x:Operand} {v:Option Addr} (h:evF f x = .pointer v):Does P ⟨d,.assign x,ty,pos,af,gd⟩ f w (.pointer v) w:=ul h
theorem zW {x:Operand} {v:ByteArray} (h:evF f x = .string v):Does P ⟨d,.move x,ty,pos,af,gd⟩ f w (.string v) w:=uR h
theorem vI {x:Operand} {v:ByteArray} (h:evF f x = .string v):Does P ⟨d,.assign x,ty,pos,af,gd⟩ f w (.string v) w:=ul h
theorem xb {x:Operand} {v:Array Value} (h:evF f x = .tuple v):Does P ⟨d,.move x,ty,pos,af,gd⟩ f w (.tuple v) w:=uR h
theorem zV {c a:Operand} {t x:Bool} (hc:evF f c = .bool t) (ha:t=true→evF f a = .bool x):Does P ⟨d,.pick c a (.const (.bool false)),ty,pos,af,gd⟩ f w (.bool (t && x)) w:=by
 unfold Does execOp
 simp only [hc]
 cases t with
 | true=>rw [ha rfl]; rfl
 | false=>rfl
theorem xv {c a:Operand} {t x:Bool} (hc:evF f c = .bool t) (ha:t=false→evF f a = .bool x):Does P ⟨d,.pick c (.const (.bool true)) a,ty,pos,af,gd⟩ f w (.bool (t || x)) w:=by
 unfold Does execOp
 simp only [hc]
 cases t with
 | false=>rw [ha rfl]; rfl
 | true=>rfl
theorem xf {u:TypeId} {x:Operand} {t:Bool} (h:evF f x = .bool t):Does P ⟨d,.unOp .not u x,ty,pos,af,gd⟩ f w (.bool (!t)) w:=by
 simp [Does,execOp,h,Op.unary]
theorem zS {x:Operand} {a:Addr} (h:evF f x = .pointer (some a)):Does P ⟨d,.nilCheck x,ty,pos,af,gd⟩ f w (.pointer (some a)) w:=by
 simp [Does,execOp,h]
theorem zo {x:Operand} {vs:Array Value} {i:Nat} {v:Value} (h:evF f x = .tuple vs) (hi:vs[i]? = some v):Does P ⟨d,.extract x i,ty,pos,af,gd⟩ f w v w:=by
 simp [Does,execOp,h,Instr.extract,hi]
-- integers
theorem run_eqGuard_int (op:BinOp) (t:TypeId) (x y:Operand) (k k':IntKind) (a b:Int):(eqGuard op t x y (.int k a) (.int k' b)).run P w = .ok () w:=by
 unfold eqGuard
 split <;> rfl
theorem uP (op:BinOp) (t:TypeId) (x y:Operand) (a b:ByteArray):(eqGuard op t x y (.string a) (.string b)).run P w = .ok () w:=by
 unfold eqGuard
 split <;> rfl
theorem ka (op:BinOp) (t:TypeId) (x y:Operand) (a b:Option Addr):(eqGuard op t x y (.pointer a) (.pointer b)).run P w = .ok () w:=by
 unfold eqGuard
 split <;> rfl
theorem run_eqGuard_map (op:BinOp) (t:TypeId) (x y:Operand) (a b:Option Nat):(eqGuard op t x y (.map a) (.map b)).run P w = .ok () w:=by
 unfold eqGuard
 split <;> rfl
theorem jk {op:BinOp} {t u:TypeId} {x y:Operand} {k:IntKind} {a b:Int} {v:Value} (hx:evF f x = .int k a) (hy:evF f y = .int k b)
  (h:(binOp op t (.int k a) (.int k b)).run P w = .ok v w):Does P ⟨d,.binOp op t x y u,ty,pos,af,gd⟩ f w v w:=by
 simp only [Does,execOp,hx,hy,Sem.run_bind,run_eqGuard_int,Result.andThen_ok,h,Sem.run_pure]
section ints
variable {t u:TypeId} {x y:Operand} {k:IntKind} {a b:Int}
theorem zR (hx:evF f x = .int k a) (hy:evF f y = .int k b):Does P ⟨d,.binOp .eql t x y u,ty,pos,af,gd⟩ f w (.bool (decide (a=b))) w :=
 jk hx hy (by simp [binOp,Op.intCmp]; rfl)
theorem xq (hx:evF f x = .int k a) (hy:evF f y = .int k b):Does P ⟨d,.binOp .neq t x y u,ty,pos,af,gd⟩ f w (.bool (decide (a ≠ b))) w :=
 jk hx hy (by simp [binOp,Op.intCmp,bne]; by_cases h:a=b <;> simp [h])
theorem xp (hx:evF f x = .int k a) (hy:evF f y = .int k b):Does P ⟨d,.binOp .lss t x y u,ty,pos,af,gd⟩ f w (.bool (decide (a < b))) w :=
 jk hx hy (by simp [binOp,Op.intCmp])
theorem does_le (hx:evF f x = .int k a) (hy:evF f y = .int k b):Does P ⟨d,.binOp .leq t x y u,ty,pos,af,gd⟩ f w (.bool (decide (a ≤ b))) w :=
 jk hx hy (by simp [binOp,Op.intCmp])
theorem jL (hx:evF f x = .int k a) (hy:evF f y = .int k b):Does P ⟨d,.binOp .gtr t x y u,ty,pos,af,gd⟩ f w (.bool (decide (b < a))) w :=
 jk hx hy (by simp [binOp,Op.intCmp])
theorem ut (hx:evF f x = .int k a) (hy:evF f y = .int k b):Does P ⟨d,.binOp .geq t x y u,ty,pos,af,gd⟩ f w (.bool (decide (b ≤ a))) w :=
 jk hx hy (by simp [binOp,Op.intCmp])
theorem vT (hx:evF f x = .int k a) (hy:evF f y = .int k b):Does P ⟨d,.binOp .add t x y u,ty,pos,af,gd⟩ f w (.int k (k.wrap (a + b))) w :=
 jk hx hy (by simp [binOp,Op.intArith])
theorem does_sub (hx:evF f x = .int k a) (hy:evF f y = .int k b):Does P ⟨d,.binOp .sub t x y u,ty,pos,af,gd⟩ f w (.int k (k.wrap (a - b))) w :=
 jk hx hy (by simp [binOp,Op.intArith])
theorem xi {c:Int} (hx:evF f x = .int .i64 a) (hy:evF f y = .int .i64 b) (hc:a + b=c) (h0 : -9223372036854775808 ≤ c) (h1:c ≤ 9223372036854775807):Does P ⟨d,.binOp .add t x y u,ty,pos,af,gd⟩ f w (.int .i64 c) w:=by
 subst hc
 have:=vT (P:=P) (d:=d) (ty:=ty) (pos:=pos) (af:=af) (gd:=gd) (w:=w) (t:=t) (u:=u) hx hy
 rwa [IntWalk.i64_in _ ⟨h0,h1⟩] at this
end ints
def bitsOp (op:BinOp) (k:IntKind) (a b:Int):Int :=
 let x:=BitVec.ofInt k.bits a
 let y:=BitVec.ofInt k.bits b
 k.wrap (match op with | .and=>(x &&& y) | .or=>(x ||| y) | .xor=>(x ^^^ y) | _=>(x &&& ~~~y)).toNat
theorem does_bits {op:BinOp} {t u:TypeId} {x y:Operand} {k:IntKind} {a b:Int} (ho:op = .and∨op = .or∨op = .xor∨op = .andNot) (hx:evF f x = .int k a) (hy:evF f y = .int k b):Does P ⟨d,.binOp op t x y u,ty,pos,af,gd⟩ f w (.int k (bitsOp op k a b)) w :=
 jk hx hy (by rcases ho with rfl | rfl | rfl | rfl <;> simp [binOp,Op.intBits,bitsOp])
theorem beq_toList (a b:ByteArray):(a.toList == b.toList)=decide (a=b):=by
 rw [ByteArray.toList_eq,ByteArray.toList_eq,Bool.eq_iff_iff]
 simp only [beq_iff_eq,decide_eq_true_eq]
 constructor
 ·intro h
  exact ByteArray.ext (Array.toList_inj.1 h)
 ·rintro rfl; rfl
theorem yo {t u:TypeId} {x y:Operand} {a b:ByteArray} (hx:evF f x = .string a) (hy:evF f y = .string b):Does P ⟨d,.binOp .eql t x y u,ty,pos,af,gd⟩ f w (.bool (decide (a=b))) w:=by
 have h:=beq_toList a b
 simp only [Does,execOp,hx,hy,Sem.run_bind,uP,Result.andThen_ok,binOp,Op.stringOp,Sem.run_pure,h]
theorem um {t u:TypeId} {x y:Operand} {a b:ByteArray} (hx:evF f x = .string a) (hy:evF f y = .string b):Does P ⟨d,.binOp .neq t x y u,ty,pos,af,gd⟩ f w (.bool (decide (a ≠ b))) w:=by
 have h:(!(a.toList == b.toList))=decide (a ≠ b):=by rw [beq_toList]; simp
 simp only [Does,execOp,hx,hy,Sem.run_bind,uP,Result.andThen_ok,binOp,Op.stringOp,Sem.run_pure,h]
theorem does_nep0 {t u e:TypeId} {x y:Operand} {a:Option Addr} (ht:P.underlying t=some (.pointer e)) (hx:evF f x = .pointer a) (hy:evF f y = .pointer none):Does P ⟨d,.binOp .neq t x y u,ty,pos,af,gd⟩ f w (.bool a.isSome) w:=by
 have h:(binOp .neq t (.pointer a) (.pointer none)).run P w = .ok (.bool a.isSome) w:=by
  have hp:P.pointee t=e:=by unfold Program.pointee; rw [ht]
  have:=run_neq_pointer_nil (P:=P) w t a (by rw [hp]; exact ht)
  rw [this]
  cases a <;> rfl
 simp only [Does,execOp,hx,hy,Sem.run_bind,ka,Result.andThen_ok,h,Sem.run_pure]
theorem does_nem0 {t u k e:TypeId} {x y:Operand} {a:Option Nat} (ht:P.underlying t=some (.map k e)) (hx:evF f x = .map a) (hy:evF f y = .map none):Does P ⟨d,.binOp .neq t x y u,ty,pos,af,gd⟩ f w (.bool a.isSome) w:=by
 have h:=run_neq_map_nil (P:=P) w t k e a ht
 simp only [Does,execOp,hx,hy,Sem.run_bind,run_eqGuard_map,Result.andThen_ok,h,Sem.run_pure]
 cases a <;> rfl
-- guarded operations
variable {rd:Option Nat} {n:Nat} {dm:List Nat} {ops:Array Oper} {Q:Post} {rest:List Oper}
@[irreducible] def gv (c:Bool) (v:Value):Value:=bif c then v else undef
theorem zn {c:Bool} {v:Value} (h:c=true):gv c v=v:=by subst h; unfold gv; rfl
theorem gv_t (v:Value):v=gv true v:=by unfold gv; rfl
theorem gv_f (v:Value):gv false v=undef:=by unfold gv; rfl
theorem and_b {c t pol:Bool} (h1:c=true) (h2:t=pol):(c && (t == pol))=true:=by subst h1 h2; cases t <;> rfl
theorem xl {t pol:Bool} (h2:t=pol):(t == pol)=true:=by subst h2; cases t <;> rfl
theorem km {a:Act} (ha:Is n dm a f) {o:Oper} {j:Nat} {pol c t:Bool} {oj:Oper} {dj:Tmp} (hg:o.guard=some (j,pol)) (hj:ops[j]? = some oj) (hdj:oj.dst=some dj) (ht:f dj=gv c (.bool t)) (hdn:dj < n) :
  Region.wanted o (yielded ops a.tmps)=(c && (t == pol)):=by
 have h1:=ha.get dj
 rw [ht] at h1
 have hlt:dj < a.tmps.size:=by rw [ha.size]; exact hdn
 rw [Array.getD_eq_getD_getElem?,Array.getElem?_eq_getElem hlt,Option.getD_some] at h1
 cases c with
 | true =>
  rw [← gv_t] at h1
  have h2:a.tmps[dj]? = some (.bool t):=by rw [Array.getElem?_eq_getElem hlt,h1]
  have hy:yielded ops a.tmps j=some t:=by simp [yielded,hj,hdj,h2]
  simp only [Region.wanted,hg,hy]
  cases t <;> cases pol <;> rfl
 | false =>
  rw [gv_f] at h1
  have h2:a.tmps[dj]? = some undef:=by rw [Array.getElem?_eq_getElem hlt,h1]
  have hy:yielded ops a.tmps j=none:=by
   simp only [yielded,hj,hdj,h2,zar]
   rfl
  simp only [Region.wanted,hg,hy]
  rfl
theorem xj {dd:Tmp} {op:Op} {j:Nat} {pol c t:Bool} {v:Value} {oj:Oper} {dj:Tmp} (hj:ops[j]? = some oj) (hdj:oj.dst=some dj) (ht:f dj=gv c (.bool t)) (hdn:dj < n)
  (hr:(c && (t == pol))=true→Does P ⟨some dd,op,ty,pos,af,some (j,pol)⟩ f w v w) (hd:dd < n)
  (h:wl P rd n dm ops rest Q (upd f dd (gv (c && (t == pol)) v)) w):wl P rd n dm ops (⟨some dd,op,ty,pos,af,some (j,pol)⟩ :: rest) Q f w:=fun a ha=>by
 refine wpListIn_step fun K hK=>?_
 rw [km ha rfl hj hdj ht hdn]
 cases hc:(c && (t == pol)) with
 | true =>
  rw [if_pos rfl]
  rw [hc,zn rfl] at h
  exact op_wp ha (hr hc) zao (hK _ _ (h _ (ha.put hd _)))
 | false =>
  rw [if_neg zao]
  rw [hc,gv_f] at h
  exact ⟨fun _ _=>trivial,hK _ _ (h _ (ha.put hd _))⟩
theorem zJ {dd:Tmp} {op:Op} {j:Nat} {pol t:Bool} {v:Value} {oj:Oper} {dj:Tmp} (hj:ops[j]? = some oj) (hdj:oj.dst=some dj) (ht:f dj = .bool t) (hdn:dj < n)
  (hr:(t == pol)=true→Does P ⟨some dd,op,ty,pos,af,some (j,pol)⟩ f w v w) (hd:dd < n)
  (h:wl P rd n dm ops rest Q (upd f dd (gv (t == pol) v)) w):wl P rd n dm ops (⟨some dd,op,ty,pos,af,some (j,pol)⟩ :: rest) Q f w :=
 xj (c:=true) hj hdj (by rw [ht]; exact gv_t _) hdn hr hd h
end
-- results
section
variable {P:Program} {f:Fr} {w:World}
def vZ (P:Program) (r:ResultVar) (f:Fr) (w:World) (v:Value):Prop:=(retSem f r).run P w = .ok v w
theorem zf {t:Tmp} {v:Value} (h:f t=v):vZ P (.tmp t) f w v:=by subst h; rfl
theorem zP {r:ResultVar} {v:Value} (h:vZ P r f w v):Rets P #[r] f w v:=by
 unfold Rets
 unfold vZ at h
 simp only [Array.mapM_eq_mapM_toList,List.mapM_cons,List.mapM_nil]
 simp [h]
theorem xm {r1 r2:ResultVar} {v1 v2:Value} (h1:vZ P r1 f w v1) (h2:vZ P r2 f w v2):Rets P #[r1,r2] f w (.tuple #[v1,v2]):=by
 unfold Rets
 unfold vZ at h1 h2
 simp only [Array.mapM_eq_mapM_toList,List.mapM_cons,List.mapM_nil]
 simp [h1,h2]
theorem rets3 {r1 r2 r3:ResultVar} {v1 v2 v3:Value} (h1:vZ P r1 f w v1) (h2:vZ P r2 f w v2) (h3:vZ P r3 f w v3):Rets P #[r1,r2,r3] f w (.tuple #[v1,v2,v3]):=by
 unfold Rets
 unfold vZ at h1 h2 h3
 simp only [Array.mapM_eq_mapM_toList,List.mapM_cons,List.mapM_nil]
 simp [h1,h2,h3]
theorem rets0:Rets P #[] f w (.tuple #[]):=by
 unfold Rets
 simp
end
end Gw
end
section
open Go.RowKit
namespace Gw
structure Chg (S:Nat→Prop) (w w':World):Prop where
 os:w'.os=w.os
 tape:w'.tape=w.tape
 output:w'.output=w.output
 size:w.heap.size ≤ w'.heap.size
 block : ∀ k,k < w.heap.size→¬ S k→w'.heap[k]? = w.heap[k]?
 froz : ∀ a,a.block < w.heap.size→w'.frozen? a=w.frozen? a
abbrev Ext (w w':World):Prop:=Chg (fun _=>False) w w'
def ve (o:Option Obj):Prop := ∀ c t q,o=some (.cells c t q)→q=(0,0)
theorem ve.none:ve none:=fun _ _ _ h=>by cases h
theorem ve.cells (c:Array Value) (t:TypeId):ve (some (.cells c t (0,0))):=fun _ _ _ h=>by cases h; rfl
theorem ve.not {w:World} {a:Addr} (h:ve w.heap[a.block]?):w.frozen? a=false:=by
 unfold World.frozen?
 split
 ·rename_i c t lo hi e
  have:=h _ _ _ e
  cases this
  simp
 ·rfl
theorem froz_at {w w':World} (b:Nat) (h1:ve w'.heap[b]?) (h2:ve w.heap[b]?) (hk : ∀ k,k ≠ b→w'.heap[k]? = w.heap[k]?) (a:Addr) (_:a.block < w.heap.size):w'.frozen? a=w.frozen? a:=by
 by_cases h:a.block=b
 ·subst h; rw [h1.not,h2.not]
 ·unfold World.frozen?; rw [hk _ h]
theorem kD (w:World) (o:Obj) (h:ve (some o)) (a:Addr) (ha:a.block < w.heap.size):(w.alloc o).frozen? a=w.frozen? a:=by
 refine froz_at w.heap.size (by rw [show (w.alloc o).heap[w.heap.size]? = some o from heap_alloc_new w o]; exact h) (by simp [ve.none]) (fun k hk=>?_) a ha
 by_cases hl:k < w.heap.size
 ·exact heap_alloc_old (h:=hl) ..
 ·rw [Array.getElem?_eq_none (show (w.alloc o).heap.size ≤ k by rw [show (w.alloc o).heap.size=w.heap.size + 1 by simp]; omega),Array.getElem?_eq_none zan]
theorem Chg.refl (S:Nat→Prop) (w:World):Chg S w w:=⟨rfl,rfl,rfl,Nat.le_refl _,fun _ _ _=>rfl,fun _ _=>rfl⟩
theorem Ext.refl (w:World):Ext w w:=Chg.refl _ w
theorem Chg.trans {S:Nat→Prop} {a b c:World} (h:Chg S a b) (k:Chg S b c):Chg S a c :=
 ⟨k.os.trans h.os,k.tape.trans h.tape,k.output.trans h.output,Nat.le_trans h.size k.size,fun i hi hs=>(k.block i (Nat.lt_of_lt_of_le hi h.size) hs).trans (h.block i hi hs),fun a ha=>(k.froz a (Nat.lt_of_lt_of_le ha h.size)).trans (h.froz a ha)⟩
theorem Chg.mono {S T:Nat→Prop} {a b:World} (h:Chg S a b) (hst : ∀ k,k < a.heap.size→S k→T k):Chg T a b :=
 ⟨h.os,h.tape,h.output,h.size,fun i hi hs=>h.block i hi (fun hS=>hs (hst i hi hS)),h.froz⟩
theorem Chg.trans' {S T U:Nat→Prop} {a b c:World} (h:Chg S a b) (k:Chg T b c) (h1 : ∀ i,i < a.heap.size→S i→U i) (h2 : ∀ i,i < a.heap.size→T i→U i):Chg U a c :=
 ⟨k.os.trans h.os,k.tape.trans h.tape,k.output.trans h.output,Nat.le_trans h.size k.size,
  fun i hi hs=>(k.block i (Nat.lt_of_lt_of_le hi h.size) (fun hT=>hs (h2 i hi hT))).trans (h.block i hi (fun hS=>hs (h1 i hi hS))),fun a ha=>(k.froz a (Nat.lt_of_lt_of_le ha h.size)).trans (h.froz a ha)⟩
theorem Chg.thenExt {S:Nat→Prop} {a b c:World} (h:Chg S a b) (k:Ext b c):Chg S a c:=h.trans (k.mono fun _ _ x=>x.elim)
theorem Chg.thenChg {S T:Nat→Prop} {a b c:World} (h:Chg S a b) (k:Chg T b c) (hs : ∀ i,i < a.heap.size→T i→S i):Chg S a c:=h.trans' k (fun _ _ x=>x) hs
theorem Ext.drawn (w:World):Ext w { w with drawn:=w.drawn + 1 }:=⟨rfl,rfl,rfl,Nat.le_refl _,fun _ _ _=>rfl,fun _ _=>rfl⟩
theorem Ext.below {w w':World} (h:Ext w w'):Below w.heap.size w w':=⟨h.os,h.tape,h.output,h.size,fun k hk=>h.block k hk (fun x=>x)⟩
def Blk (w:World) (b:Nat) (t:TypeId) (l:List Value):Prop:=w.heap[b]? = some (.cells l.toArray t (0,0))
theorem Blk.lt {w:World} {b:Nat} {t:TypeId} {l:List Value} (h:Blk w b t l):b < w.heap.size:=(Array.getElem?_eq_some_iff.1 h).1
theorem Blk.chg {S:Nat→Prop} {w w':World} {b:Nat} {t:TypeId} {l:List Value} (h:Blk w b t l) (hc:Chg S w w') (hs:¬ S b):Blk w' b t l:=(hc.block b h.lt hs).trans h
theorem Blk.ext {w w':World} {b:Nat} {t:TypeId} {l:List Value} (h:Blk w b t l) (hc:Ext w w'):Blk w' b t l:=h.chg hc (fun x=>x)
def ub (w:World) (b o:Nat) (l:List Value):Prop := ∀ j v,l[j]? = some v→w.cell? ⟨b,o + j,none⟩ = some v
theorem Blk.cells {w:World} {b:Nat} {t:TypeId} {l:List Value} (h:Blk w b t l) {o k:Nat} {l':List Value} (hl:(l.drop o).take k=l'):ub w b o l':=by
 intro j v hj
 subst hl
 rw [cell_of_row w b (o + j) _ t _ h]
 rw [List.getElem?_take] at hj
 split at hj
 ·rw [List.getElem?_drop] at hj
  simpa using hj
 ·cases hj
theorem Blk.all {w:World} {b:Nat} {t:TypeId} {l:List Value} (h:Blk w b t l) (k:Nat) (hk:l.length=k):ub w b 0 l :=
 h.cells (o:=0) (k:=k) (by rw [List.drop_zero]; exact List.take_of_length_le (Nat.le_of_eq hk))
theorem Blk.cell {w:World} {b:Nat} {t:TypeId} {l:List Value} (h:Blk w b t l) {o:Nat} {v:Value} (hl:l[o]? = some v):w.cell? ⟨b,o,none⟩ = some v:=by
 rw [cell_of_row w b o _ t _ h]; simpa using hl
theorem ub.chg {S:Nat→Prop} {w w':World} {b o:Nat} {l:List Value} (h:ub w b o l) (hc:Chg S w w') (hs:¬ S b):ub w' b o l:=by
 intro j v hj
 have hw:=h j v hj
 have hlt:b < w.heap.size:=World.block_lt_of_cell? (a:=⟨b,o + j,none⟩) w hw
 rw [World.cell?_of_block (w:=w) (w':=w') (a:=⟨b,o + j,none⟩) (hc.block b hlt hs)]
 exact hw
def AggT (P:Program) (t k:Nat):Prop:=(∃ d,P.underlying t=some d∧(match d with | .struct _ | .array _ _=>true | _=>false)=true)∧(P.info? t).map (·.size)=some k
def OneT (P:Program) (t:Nat):Prop:=(∃ d,P.underlying t=some d∧(match d with | .struct _ | .array _ _=>true | _=>false)=false)∧(P.info? t).map (·.size)=some 1
def uh (P:Program) (s i off:Nat):Prop := ∃ fs fd k,P.underlying s=some (.struct fs)∧fs[i]? = some fd∧fd.offset=off∧(P.info? fd.type).map (·.size)=some (k + 1)
def kw (P:Program) (s i off ft:Nat):Prop := ∃ fs fd,P.underlying s=some (.struct fs)∧fs[i]? = some fd∧fd.offset=off∧fd.type=ft
def xV (P:Program) (t e k:Nat):Prop:=P.underlying t=some (.slice e)∧(P.info? e).map (·.size)=some k
def ArrT (P:Program) (t len e k:Nat):Prop:=P.underlying t=some (.array len e)∧(P.info? e).map (·.size)=some k
def ZeroT (P:Program) (t:Nat) (z:List Value):Prop := ∃ v,(P.info? t).bind (·.zero)=some v∧v.cells.toList=z
def zF (P:Program) (g:FuncId):Prop := ∃ fn,P.funcs[g]? = some fn∧(fn.name == "runtime.NumGoroutine")=false∧fn.body.isNone=false
section
variable {P:Program} {f:Fr} {w:World} {d:Option Tmp} {ty:TypeId} {pos:String} {af:Array Edge} {gd:Option (Nat × Bool)}
theorem run_sizeOf {t k:Nat} (h:(P.info? t).map (·.size)=some k) (w:World):(sizeOf t).run P w = .ok k w:=by
 cases hq:P.info? t with
 | none=>simp [hq] at h
 | some i=>simp [sizeOf,typeInfo,hq] at h ⊢; exact h
theorem run_isAgg_true {t k:Nat} (h:AggT P t k) (w:World):(isAgg t).run P w = .ok true w:=by
 obtain ⟨⟨d,hu,hd⟩,_⟩ := h
 unfold isAgg
 rw [Sem.run_bind,run_underlying hu w]
 cases d <;> simp_all
theorem ke {t:Nat} (h:OneT P t) (w:World):(isAgg t).run P w = .ok false w:=by
 obtain ⟨⟨d,hu,hd⟩,_⟩ := h
 unfold isAgg
 rw [Sem.run_bind,run_underlying hu w]
 cases d <;> simp_all
theorem k8 (b o n:Nat):(⟨b,o,none⟩ : Addr).add n=⟨b,o + n,none⟩ := by unfold Addr.add; split <;> simp_all
theorem run_loadVar_agg {t k b o:Nat} {l:List Value} (ht:AggT P t k) (hc:ub w b o l) (hk:l.length=k):(loadVar t ⟨b,o,none⟩).run P w = .ok (.agg l.toArray) w:=by
 have hl:(loadCells ⟨b,o,none⟩ l.length).run P w = .ok l.toArray w :=
  run_loadCells_list (P:=P) w ⟨b,o,none⟩ l (fun j v hv=>by rw [k8]; exact hc j v hv)
 rw [hk] at hl
 simp [loadVar,Sem.run_bind,run_isAgg_true ht,run_sizeOf ht.2,hl]
theorem run_loadVar_one {t b o:Nat} {v:Value} (ht:OneT P t) (hc:w.cell? ⟨b,o,none⟩ = some v):(loadVar t ⟨b,o,none⟩).run P w = .ok v w:=by
 simp [loadVar,Sem.run_bind,ke ht,hc]
theorem zt {x:Operand} {t k b o:Nat} {l:List Value} (ht:AggT P t k) (hx:evF f x = .pointer (some ⟨b,o,none⟩)) (hc:ub w b o l) (hk:l.length=k):Does P ⟨d,.load t x,ty,pos,af,gd⟩ f w (.agg l.toArray) w:=by
 simp [Does,execOp,hx,Instr.loadAt,Instr.sureAddr,run_loadVar_agg ht hc hk]
theorem zl {x:Operand} {t b o:Nat} {v:Value} (ht:OneT P t) (hx:evF f x = .pointer (some ⟨b,o,none⟩)) (hc:w.cell? ⟨b,o,none⟩ = some v):Does P ⟨d,.load t x,ty,pos,af,gd⟩ f w v w:=by
 simp [Does,execOp,hx,Instr.loadAt,Instr.sureAddr,run_loadVar_one ht hc]
theorem zg {x:Operand} {s i off b o o':Nat} (ht:uh P s i off) (hx:evF f x = .pointer (some ⟨b,o,none⟩)) (ho:o + off=o'):Does P ⟨d,.fieldAddr s x i,ty,pos,af,gd⟩ f w (.pointer (some ⟨b,o',none⟩)) w:=by
 obtain ⟨fs,fd,k,hu,hf,hoff,hz⟩ := ht
 subst ho hoff
 simp [Does,execOp,hx,Instr.fieldAt,Instr.sureAddr,run_underlying hu,hf,fieldPlace,run_sizeOf hz,k8]
theorem does_indexSl {x y:Operand} {t e k b o len cap o':Nat} {kd:IntKind} {i:Int} (ht:xV P t e k) (hx:evF f x = .slice (some ⟨b,o,none⟩) len cap) (hy:evF f y = .int kd i) (h0:0 ≤ i) (h1:i < len) (ho:o + i.toNat * k=o') :
  Does P ⟨d,.indexAddr t x y,ty,pos,af,gd⟩ f w (.pointer (some ⟨b,o',none⟩)) w:=by
 subst ho
 simp [Does,execOp,hx,hy,Instr.indexAt,asIntOf,run_underlying ht.1,h0,h1,run_sizeOf ht.2,k8]
theorem does_len {x:Operand} {t e k:Nat} {p:Option Addr} {n c:Nat} (ht:xV P t e k) (hx:evF f x = .slice p n c):Does P ⟨d,.call ⟨.builtin .len,#[x],#[t]⟩,ty,pos,af,gd⟩ f w (.int .i64 n) w:=by
 unfold Does execOp
 simp only [resolve,invoke,Sem.run_bind,Sem.run_pure,Result.andThen_ok,List.map_toArray,List.map_cons,List.map_nil,builtin,hx,Builtin.len_]
 simp [run_underlying ht.1,goInt]
theorem yS {p t k b o:Nat} {l:List Value} (ht:AggT P t k) (hp:f p = .pointer (some ⟨b,o,none⟩)) (hc:ub w b o l) (hk:l.length=k):vZ P (.cell p t) f w (.agg l.toArray):=by
 unfold vZ retSem
 simp [hp,asAddr,run_loadVar_agg ht hc hk]
def Bld (pl:List (Nat × Nat)) (cs:List Value) (vals:List (Nat × Value)) (out:List Value):Prop:=Instr.fill (fun i=>pl.toArray[i]?) cs.toArray vals=some out.toArray
def BuT (P:Program) (t:Nat) (pl:List (Nat × Nat)) (z:List Value):Prop := ∀ parts,P.built t parts=Instr.fill (fun i=>pl.toArray[i]?) z.toArray parts
theorem Bld.nil {pl:List (Nat × Nat)} {cs:List Value}:Bld pl cs [] cs:=rfl
theorem foldl_put : ∀ (vs:List Value) (k o:Nat) (a:Array Value) ,o + k + vs.length ≤ a.size→(vs.zipIdx k).foldl (fun (cs:Array Value) (q:Value × Nat)=>cs.setIfInBounds (o + q.2) q.1) a=(a.toList.take (o + k) ++ vs ++ a.toList.drop (o + k + vs.length)).toArray
 | [],k,o,a,h=>by simp
 | u :: us,k,o,a,h=>by
  simp only [List.length_cons] at h
  simp only [List.zipIdx_cons,List.foldl_cons]
  rw [foldl_put us (k + 1) o _ (by simp; omega)]
  have hs:(a.setIfInBounds (o + k) u).toList=a.toList.take (o + k) ++ u :: a.toList.drop (o + k + 1):=by
   rw [Array.toList_setIfInBounds,List.set_eq_take_append_cons_drop,if_pos (by simp; omega)]
  rw [hs]
  have e:(a.toList.take (o + k)).length=o + k:=by simp; omega
  congr 1
  rw [show o + (k + 1)=(a.toList.take (o + k)).length + 1 by omega,List.take_append,show (a.toList.take (o + k)).length + 1 + us.length=(a.toList.take (o + k)).length + (us.length + 1) by omega,List.drop_append]
  simp [e]
  rw [List.take_of_length_le (by omega:(List.take (o + k) a.toList).length ≤ o + k + 1),List.drop_eq_nil_of_le (by omega:(List.take (o + k) a.toList).length ≤ o + k + (us.length + 1)),List.nil_append,show o + k + 1 + us.length=o + k + (us.length + 1) by omega]
theorem Bld.step {pl:List (Nat × Nat)} {cs cs' out l:List Value} {i off k:Nat} {v:Value} {rest:List (Nat × Value)} (hpl:pl.toArray[i]? = some (off,k)) (hv:v.cells=l.toArray) (hk:l.length=k) (hlen:off + k ≤ cs.length)
  (he:cs.take off ++ l ++ cs.drop (off + k)=cs') (h:Bld pl cs' rest out):Bld pl cs ((i,v) :: rest) out:=by
 subst hk he
 unfold Bld at h ⊢
 rw [Instr.fill,hpl]
 simp only [hv,List.size_toArray]
 rw [if_neg (by simp; omega)]
 have e:=foldl_put l 0 off cs.toArray (by simpa using hlen)
 simp only [Nat.add_zero] at e
 have e5:(l.toArray.zipIdx.foldl (fun cs (c,j)=>cs.setIfInBounds (off + j) c) cs.toArray)=(cs.take off ++ l ++ cs.drop (off + l.length)).toArray:=by
  rw [← Array.foldl_toList,Array.toList_zipIdx]
  exact e
 rw [e5]
 exact h
theorem Bld.one {pl:List (Nat × Nat)} {cs cs' out:List Value} {i off:Nat} {v:Value} {rest:List (Nat × Value)} (hpl:pl.toArray[i]? = some (off,1)) (hv:v.oneCell'=true) (hlen:off < cs.length)
  (he:cs.set off v=cs') (h:Bld pl cs' rest out):Bld pl cs ((i,v) :: rest) out:=by
 have hc:v.cells = #[v]:=by cases v <;> simp_all [Value.oneCell',Value.cells]
 refine Bld.step (l:=[v]) hpl hc rfl zan ?_ h
 rw [← he,List.set_eq_take_append_cons_drop,if_pos hlen]
 simp
theorem vP {t:Nat} {pl:List (Nat × Nat)} {z out:List Value} {parts:Array (Nat × Operand)} (hb:BuT P t pl z) (hf:Bld pl z (parts.toList.map fun q=>(q.1,evF f q.2)) out):Does P ⟨d,.build t parts,ty,pos,af,gd⟩ f w (.agg out.toArray) w:=by
 have h:=run_build (P:=P) w t (parts.map fun q=>(q.1,evF f q.2)) out.toArray (by rw [hb,Array.toList_map]; exact hf)
 unfold Does
 show (execOp (evF f) _).run P w=_
 unfold execOp
 simp only [Sem.run_bind,h,Result.andThen_ok,Sem.run_pure]
theorem zx {g:FuncId} {xs:Array Operand} {ats:Array TypeId} (hg:zF P g):Enters P ⟨d,.call ⟨.value (.func g),xs,ats⟩,ty,pos,af,gd⟩ f w g (xs.toList.map (evF f)).toArray:=by
 obtain ⟨fn,hf,hn,hb⟩ := hg
 have hx:(xs.toList.map (evF f)).toArray=xs.map (evF f):=by rw [← Array.toList_map]
 have h1:execOp (evF f) ⟨d,.call ⟨.value (.func g),xs,ats⟩,ty,pos,af,gd⟩ = callFunc g (#[] ++ xs.map (evF f) ++ #[]):=rfl
 unfold Enters
 rw [h1,hx]
 simp only [callFunc,Sem.run_bind,run_program,Result.andThen_ok,hf,hn,hb]
 simp
theorem zN {a b:Value} {l l':List Value} (h:a=b) (hl:l=l'):a :: l=b :: l':=by rw [h,hl]
theorem zK {g:FuncId} {xs:Array Operand} {ats:Array TypeId} {l:List Value} (hg:zF P g) (hx:xs.toList.map (evF f)=l):Enters P ⟨d,.call ⟨.value (.func g),xs,ats⟩,ty,pos,af,gd⟩ f w g l.toArray:=hx ▸ zx hg
theorem yr {c:Operand} {g:FuncId} {fi ca xs ats:_} (hg:zF P g) (hv:evF f c = .func (.func g) fi ca):Enters P ⟨d,.call ⟨.value c,xs,ats⟩,ty,pos,af,gd⟩ f w g (fi.toList ++ xs.toList.map (evF f) ++ ca.toList).toArray:=by
 obtain ⟨fn,hf,hn,hb⟩ := hg
 have h1:execOp (evF f) ⟨d,.call ⟨.value c,xs,ats⟩,ty,pos,af,gd⟩ = (do let d ← Deferred.ofValue (evF f c) (xs.map (evF f)); invoke d.target d.args):=rfl
 have hx:(fi.toList ++ xs.toList.map (evF f) ++ ca.toList).toArray=fi ++ xs.map (evF f) ++ ca:=by
  apply Array.toList_inj.1
  simp
 unfold Enters
 rw [h1,hx,hv]
 simp only [Deferred.ofValue,Sem.run_bind,Sem.run_pure,Result.andThen_ok,invoke,callFunc,run_program,hf,hn,hb]
 simp
theorem does_func {fn:Fn} {first captured:Array Operand} {fi ca:Array Value} (h1:first.map (evF f)=fi) (h2:captured.map (evF f)=ca):Does P ⟨d,.makeFunc fn first captured,ty,pos,af,gd⟩ f w (.func fn fi ca) w:=by
 subst h1 h2; rfl
theorem does_funcl {fn:Fn} {fs cs:List Operand}:Does P ⟨d,.makeFunc fn fs.toArray cs.toArray,ty,pos,af,gd⟩ f w (.func fn (fs.map (evF f)).toArray (cs.map (evF f)).toArray) w:=does_func zao zao
theorem uS {x:Operand} {a:Fn} {b c:Array Value} (h:evF f x = .func a b c):Does P ⟨d,.move x,ty,pos,af,gd⟩ f w (.func a b c) w:=uR h
theorem yj {x:Operand} {v:Option Nat} (h:evF f x = .map v):Does P ⟨d,.move x,ty,pos,af,gd⟩ f w (.map v) w:=uR h
theorem does_as_m {x:Operand} {v:Option Nat} (h:evF f x = .map v):Does P ⟨d,.assign x,ty,pos,af,gd⟩ f w (.map v) w:=ul h
theorem does_max {x y:Operand} {ats:Array TypeId} {k:IntKind} {a b:Int} (hx:evF f x = .int k a) (hy:evF f y = .int k b):Does P ⟨d,.call ⟨.builtin .max,#[x,y],ats⟩,ty,pos,af,gd⟩ f w (.int k (if a < b then b else a)) w:=by
 unfold Does execOp
 simp only [resolve,invoke,Sem.run_bind,Sem.run_pure,Result.andThen_ok,List.map_toArray,List.map_cons,List.map_nil,builtin,hx,hy,Builtin.max_]
 simp [Builtin.max2]
structure New (w w':World) (b:Nat) (t:TypeId) (l:List Value):Prop where
 at_:b=w.heap.size
 eq:w'=w.alloc (.cells l.toArray t)
theorem New.blk {w w':World} {b:Nat} {t:TypeId} {l:List Value} (h:New w w' b t l):Blk w' b t l:=by
 obtain ⟨rfl,rfl⟩ := h
 exact heap_alloc_new w _
theorem New.ext {w w':World} {b:Nat} {t:TypeId} {l:List Value} (h:New w w' b t l):Ext w w':=by
 obtain ⟨rfl,rfl⟩ := h
 exact ⟨rfl,rfl,rfl,by simp,fun k hk _=>heap_alloc_old (h:=hk) ..,kD _ _ (ve.cells _ _)⟩
variable {rd:Option Nat} {n:Nat} {dm:List Nat} {ops:Array Oper} {Q:Post} {rest:List Oper}
def sb (s:ByteArray) (i:Nat):Int:=((s[i]?).map fun b=>(b.toNat:Int)).getD 0
theorem sb_byte (s:ByteArray) (i:Nat):0 ≤ sb s i∧sb s i < 256:=by
 unfold sb
 cases s[i]? with
 | none=>decide
 | some b=>have:=b.toNat_lt; simp; omega
theorem vA {x y:Operand} {t:Nat} {kd:IntKind} {i:Int} {s:ByteArray} (ht:P.underlying t=some .string) (hx:evF f x = .string s) (hy:evF f y = .int kd i) (h0:0 ≤ i) (h1:i < s.size):Does P ⟨d,.index t x y,ty,pos,af,gd⟩ f w (.int .u8 (sb s i.toNat)) w:=by
 have hlt:i.toNat < s.size:=by omega
 simp [Does,execOp,hx,hy,Instr.index,asIntOf,run_underlying ht,h0,hlt,sb]
theorem jV {x:Operand} {t:Nat} {s:ByteArray} (ht:P.underlying t=some .string) (hx:evF f x = .string s):Does P ⟨d,.call ⟨.builtin .len,#[x],#[t]⟩,ty,pos,af,gd⟩ f w (.int .i64 s.size) w:=by
 unfold Does execOp
 simp only [resolve,invoke,Sem.run_bind,Sem.run_pure,Result.andThen_ok,List.map_toArray,List.map_cons,List.map_nil,builtin,hx,Builtin.len_]
 simp [goInt,run_underlying ht]
theorem wl_gcall2 {dd:Tmp} {op:Op} {j:Nat} {pol c t:Bool} {v:Value} {oj:Oper} {dj:Tmp} {g:FuncId} {args:Array Value} (hj:ops[j]? = some oj) (hdj:oj.dst=some dj) (ht:f dj=gv c (.bool t)) (hdn:dj < n)
  (he:(c && (t == pol))=true→Enters P ⟨some dd,op,ty,pos,af,some (j,pol)⟩ f w g args) (hd:dd < n)
  (hc:(c && (t == pol))=true→Calls P g args w fun e w' => ∃ v',e = .returned v'∧(v'=v∧Ext w w'))
  (h : ∀ w',Ext w w'→wl P rd n dm ops rest Q (upd f dd (gv (c && (t == pol)) v)) w'):wl P rd n dm ops (⟨some dd,op,ty,pos,af,some (j,pol)⟩ :: rest) Q f w:=fun a ha=>by
 refine wpListIn_step fun K hK=>?_
 rw [km ha rfl hj hdj ht hdn]
 cases hcc:(c && (t == pol)) with
 | true =>
  rw [if_pos rfl]
  refine op_wp ha (he hcc) zao (show _∧_ from ⟨fun h=>(by cases h),?_⟩)
  refine CallsIn.mono (show CallsIn (fen rd) _ P g args w _ from callsIn_wide.2 (hc hcc)) ?_
  rintro e w' ⟨v',rfl,rfl,hx⟩
  have h2:=h w' hx
  rw [hcc,zn rfl] at h2
  exact hK _ _ (h2 _ (ha.put hd _))
 | false =>
  rw [if_neg zao]
  have h2:=h w (Ext.refl w)
  rw [hcc,gv_f] at h2
  exact ⟨fun _ _=>trivial,hK _ _ (h2 _ (ha.put hd _))⟩
theorem xJ {dd:Tmp} {op:Op} {j:Nat} {pol t:Bool} {v:Value} {oj:Oper} {dj:Tmp} {g:FuncId} {args:Array Value} (hj:ops[j]? = some oj) (hdj:oj.dst=some dj) (ht:f dj = .bool t) (hdn:dj < n)
  (he:(t == pol)=true→Enters P ⟨some dd,op,ty,pos,af,some (j,pol)⟩ f w g args) (hd:dd < n)
  (hc:(t == pol)=true→Calls P g args w fun e w' => ∃ v',e = .returned v'∧(v'=v∧Ext w w'))
  (h : ∀ w',Ext w w'→wl P rd n dm ops rest Q (upd f dd (gv (t == pol) v)) w'):wl P rd n dm ops (⟨some dd,op,ty,pos,af,some (j,pol)⟩ :: rest) Q f w :=
 wl_gcall2 (c:=true) hj hdj (by rw [ht]; exact gv_t _) hdn he hd hc h
theorem wl_box {dd:Tmp} {x:Operand} {t:TypeId} {v:Value} {l:List Value} (hx:evF f x=v) (hl:v.cells.toList=l) (hd:dd < n)
  (h : ∀ b w',New w w' b t l→wl P rd n dm ops rest Q (upd f dd (.pointer (some ⟨b,0,none⟩))) w'):wl P rd n dm ops (⟨some dd,.box t x,ty,pos,af,none⟩ :: rest) Q f w:=by
 refine zj (v := .pointer (some ⟨w.heap.size,0,none⟩)) (w':=w.alloc (.cells l.toArray t)) ?_ hd (h _ _ ⟨rfl,rfl⟩)
 subst hx hl
 simp [Does,execOp,Instr.box,newVar,newRow]
theorem zQ {dd:Tmp} {t:TypeId} {l:List Value} (hz:ZeroT P t l) (hd:dd < n)
  (h : ∀ b w',New w w' b t l→wl P rd n dm ops rest Q (upd f dd (.pointer (some ⟨b,0,none⟩))) w'):wl P rd n dm ops (⟨some dd,.alloc t,ty,pos,af,none⟩ :: rest) Q f w:=by
 obtain ⟨v,hv,rfl⟩ := hz
 refine zj (v := .pointer (some ⟨w.heap.size,0,none⟩)) (w':=w.alloc (.cells v.cells t)) ?_ hd (h _ _ ⟨rfl,by simp⟩)
 cases hq:P.info? t with
 | none=>simp [hq] at hv
 | some i =>
  have hi:i.zero=some v:=by simpa [hq] using hv
  simp [Does,execOp,Instr.alloc,zeroValue,typeInfo,hq,hi,newVar,newRow]
theorem zH {dd:Tmp} {x:Operand} {t:TypeId} {l:List Value} (hx:evF f x = .agg l.toArray) (hd:dd < n)
  (h : ∀ b w',New w w' b t l→wl P rd n dm ops rest Q (upd f dd (.pointer (some ⟨b,0,none⟩))) w'):wl P rd n dm ops (⟨some dd,.box t x,ty,pos,af,none⟩ :: rest) Q f w :=
 wl_box hx rfl hd h
theorem wl_box_p {dd:Tmp} {x:Operand} {t:TypeId} {v:Option Addr} (hx:evF f x = .pointer v) (hd:dd < n)
  (h : ∀ b w',New w w' b t [.pointer v]→wl P rd n dm ops rest Q (upd f dd (.pointer (some ⟨b,0,none⟩))) w'):wl P rd n dm ops (⟨some dd,.box t x,ty,pos,af,none⟩ :: rest) Q f w :=
 wl_box hx rfl hd h
theorem setRow_chg {w:World} {b:Nat} {t:TypeId} {l l':List Value} (hb:Blk w b t l):Blk (w.setRow b l'.toArray) b t l'∧Chg (· = b) w (w.setRow b l'.toArray)∧(w.setRow b l'.toArray).heap.size=w.heap.size :=
 ⟨setRow_heap w b _ _ t _ hb,⟨rfl,rfl,rfl,by simp,fun k _ hk=>setRow_other w b k _ hk,froz_at b (by rw [setRow_heap w b _ _ t _ hb]; exact ve.cells _ _) (by rw [hb]; exact ve.cells _ _) fun k hk=>setRow_other w b k _ hk⟩,by simp⟩
theorem xx {l vs:List Value} {k:Nat} (h:l.length=k):l.take 0 ++ vs ++ l.drop (0 + k)=vs:=by subst h; simp
theorem z7 {t s k b o:Nat} {x y:Operand} {l vs l':List Value} (ht:AggT P s k) (hx:evF f x = .pointer (some ⟨b,o,none⟩)) (hy:evF f y = .agg vs.toArray) (hb:Blk w b t l) (hk:vs.length=k) (hl:o + k ≤ l.length)
  (h1 : ∀ v ∈ vs,v.oneCell'=true) (he:l.take o ++ vs ++ l.drop (o + k)=l')
  (h : ∀ w',Blk w' b t l'→Chg (· = b) w w'→w'.heap.size=w.heap.size→wl P rd n dm ops rest Q f w'):wl P rd n dm ops (⟨none,.store s x y,ty,pos,af,none⟩ :: rest) Q f w:=by
 subst he hk
 obtain ⟨r1,r2,r3⟩ := setRow_chg (l':=l.take o ++ vs ++ l.drop (o + vs.length)) hb
 refine wl_acts ?_ (h _ r1 r2 r3)
 have:=run_storeCells_at (P:=P) b o t vs 0 l.toArray w hb (by simpa using hl) h1
 simp only [Nat.add_zero] at this
 simp [Acts,execOp,hx,hy,Instr.storeAt,Instr.sureAddr,storeVar,run_sizeOf ht.2,Value.cells,this]
theorem yE {t s b o:Nat} {x y:Operand} {l l':List Value} {v:Value} (ht:OneT P s) (hx:evF f x = .pointer (some ⟨b,o,none⟩)) (hy:evF f y=v) (hb:Blk w b t l) (hl:o < l.length)
  (h1:v.oneCell'=true) (he:l.set o v=l')
  (h : ∀ w',Blk w' b t l'→Chg (· = b) w w'→w'.heap.size=w.heap.size→wl P rd n dm ops rest Q f w'):wl P rd n dm ops (⟨none,.store s x y,ty,pos,af,none⟩ :: rest) Q f w:=by
 subst he
 have hs:l.set o v=l.take o ++ [v] ++ l.drop (o + 1):=by
  rw [List.set_eq_take_append_cons_drop,if_pos hl]; simp
 obtain ⟨r1,r2,r3⟩ := setRow_chg (l':=l.set o v) hb
 refine wl_acts ?_ (h _ r1 r2 r3)
 have:=run_storeCells_at (P:=P) b o t [v] 0 l.toArray w hb (by simp; omega) (by simpa using h1)
 simp only [Nat.add_zero] at this
 have hc:v.cells = #[v]:=by cases v <;> simp_all [Value.oneCell',Value.cells]
 rw [hs]
 simp at this
 simp [Acts,execOp,hx,hy,Instr.storeAt,Instr.sureAddr,storeVar,run_sizeOf ht.2,hc,this]
end
end Gw
end
section
open Go.RowKit
structure SlV where
 p:Option Addr
 n:Nat
 c:Nat
@[irreducible] def SlV.v (x:SlV):Value := .slice x.p x.n x.c
def SlV.nil:SlV:=⟨none,0,0⟩
theorem SlV.eq (x:SlV):x.v = .slice x.p x.n x.c:=by unfold SlV.v; rfl
theorem SlV.nil_eq:Value.slice none 0 0=SlV.nil.v:=by rw [SlV.eq]; rfl
theorem SlV.inj {x y:SlV} (h:x.v=y.v):x=y:=by
 rw [SlV.eq,SlV.eq] at h
 cases x; cases y; simp at h; simp [h]
theorem SlV.one (x:SlV) (v:Value) (h:v=x.v):v.oneCell'=true:=by subst h; rw [SlV.eq]; rfl
inductive FnV where
 | nil
 | mk (fn:Fn) (first captured:Array Value)
def FnV.v:FnV→Value
 | .nil => .nilFunc
 | .mk a b c => .func a b c
theorem FnV.one (x:FnV) (v:Value) (h:v=x.v):v.oneCell'=true:=by subst h; cases x <;> rfl
def SlV.blk (x:SlV):Nat:=match x.p with | some a=>a.block | none=>0
def SlV.off (x:SlV):Nat:=match x.p with | some a=>a.off | none=>0
def SlV.fp (x:SlV) (i:Nat):Prop:=x.p ≠ none∧i=x.blk
namespace Gw
structure Sl (w:World) (k:Nat) (x:SlV) (rows:List (List Value)):Prop where
 len:x.n=rows.length
 row : ∀ r ∈ rows,r.length=k
 cells : ∀ i r,rows[i]? = some r→x.p=some ⟨x.blk,x.off,none⟩ ∧ ub w x.blk (x.off + i * k) r
theorem Sl.nil (w:World) (k:Nat):Sl w k SlV.nil []:=⟨rfl,by simp,by simp⟩
theorem Sl.chg {S:Nat→Prop} {w w':World} {k:Nat} {x:SlV} {rows:List (List Value)} (h:Sl w k x rows) (hc:Chg S w w') (hs:rows ≠ []→¬ S x.blk):Sl w' k x rows :=
 ⟨h.len,h.row,fun i r hi=>⟨(h.cells i r hi).1,(h.cells i r hi).2.chg hc (hs (fun e=>by subst e; simp at hi))⟩⟩
theorem Sl.keep {S:Nat→Prop} {w w':World} {k:Nat} {x:SlV} {rows:List (List Value)} (h:Sl w k x rows) (hc:Chg S w w') (hs : ∀ i,x.fp i→¬ S i):Sl w' k x rows :=
 h.chg hc (fun hne=>hs _ ⟨by cases rows with | nil=>exact absurd rfl hne | cons r l=>rw [(h.cells 0 r rfl).1]; simp,rfl⟩)
theorem Sl.ext {w w':World} {k:Nat} {x:SlV} {rows:List (List Value)} (h:Sl w k x rows) (hc:Ext w w'):Sl w' k x rows:=h.chg hc (fun _ x=>x)
section
variable {P:Program} {f:Fr} {w:World} {d:Option Tmp} {ty:TypeId} {pos:String} {af:Array Edge} {gd:Option (Nat × Bool)}
theorem zM {x:Operand} {s:SlV} (h:evF f x=s.v):Does P ⟨d,.move x,ty,pos,af,gd⟩ f w s.v w:=uR h
theorem yM {x:Operand} {s:SlV} (h:evF f x=s.v):Does P ⟨d,.assign x,ty,pos,af,gd⟩ f w s.v w:=ul h
theorem xT:Does P ⟨d,.assign (.const (.slice none 0 0)),ty,pos,af,gd⟩ f w SlV.nil.v w:=ul (by rw [evF_const,SlV.nil_eq])
theorem does_lenS {x:Operand} {t e k:Nat} {s:SlV} (ht:xV P t e k) (hx:evF f x=s.v):Does P ⟨d,.call ⟨.builtin .len,#[x],#[t]⟩,ty,pos,af,gd⟩ f w (.int .i64 s.n) w :=
 does_len ht (by rw [hx,SlV.eq])
theorem does_indexS {x y:Operand} {t e k o':Nat} {kd:IntKind} {i:Int} {s:SlV} {rows:List (List Value)} (ht:xV P t e k) (hx:evF f x=s.v) (hy:evF f y = .int kd i) (hS:Sl w k s rows) (h0:0 ≤ i) (h1:i < rows.length)
  (ho:s.off + i.toNat * k=o'):Does P ⟨d,.indexAddr t x y,ty,pos,af,gd⟩ f w (.pointer (some ⟨s.blk,o',none⟩)) w:=by
 have hlt:i.toNat < rows.length:=by omega
 have hp:=(hS.cells i.toNat _ (List.getElem?_eq_getElem hlt)).1
 exact does_indexSl (len:=s.n) (cap:=s.c) ht (by rw [hx,SlV.eq,hp]) hy h0 (by rw [hS.len]; exact h1) ho
variable {rd:Option Nat} {n:Nat} {dm:List Nat} {ops:Array Oper} {Q:Post} {rest:List Oper}
theorem fill_seq (place:Nat→Option (Nat × Nat)) : ∀ (parts:List (Nat × Value)) (pre:List Value) (post:List Value) (m:Nat),
  (∀ j q,parts[j]? = some q→q.1=m + j∧place (m + j)=some (pre.length + ((parts.take j).map (fun q=>q.2.cells.size)).sum,q.2.cells.size)) →
  post.length=(parts.map (fun q=>q.2.cells.size)).sum →
  Instr.fill place (pre ++ post).toArray parts=some (pre ++ (parts.map (fun q=>q.2.cells.toList)).flatten).toArray
 | [],pre,post,m,_,hp=>by
  have:post=[]:=List.eq_nil_of_length_eq_zero (by simpa using hp)
  subst this
  simp [Instr.fill]
 | (i,v) :: rest,pre,post,m,h,hp=>by
  have h0:=h 0 (i,v) rfl
  simp only [List.take_zero,List.map_nil,List.sum_nil,Nat.add_zero] at h0
  obtain ⟨rfl,hpl⟩ := h0
  have hlen:v.cells.size ≤ post.length:=by simp at hp; omega
  have hset : ∀ (vs:List Value) (k:Nat) (a:List Value) (c:List Value),vs.length ≤ c.length→(vs.zipIdx k).foldl (fun (cs:Array Value) (q:Value × Nat)=>cs.setIfInBounds (a.length - k + q.2) q.1) (a ++ c).toArray=(a ++ vs ++ c.drop vs.length).toArray∨a.length < k:=by
   intro vs
   induction vs with
   | nil=>intro k a c _; left; simp
   | cons u us ih =>
    intro k a c hc
    by_cases hk:a.length < k
    ·exact Or.inr hk
    ·left
     cases c with
     | nil=>simp at hc
     | cons c0 c =>
      have e1:a.length - k + k=a.length:=by omega
      simp only [List.zipIdx_cons,List.foldl_cons,e1]
      have e2:(a ++ c0 :: c).toArray.setIfInBounds a.length u=((a ++ [u]) ++ c).toArray:=by simp
      rw [e2]
      have:=ih (k + 1) (a ++ [u]) c (by simpa using hc)
      rcases this with h1 | h1
      ·have e3:(a ++ [u]).length - (k + 1)=a.length - k:=by simp
       rw [e3] at h1
       rw [h1]
       simp
      ·simp at h1; omega
  rw [Instr.fill,hpl]
  simp only [ne_eq,not_true_eq_false]
  rw [if_neg (by simp; omega)]
  have e4:=hset v.cells.toList 0 pre post (by simpa using hlen)
  rcases e4 with e4 | e4
  ·have e5:(v.cells.zipIdx.foldl (fun cs (c,j)=>cs.setIfInBounds (pre.length + j) c) (pre ++ post).toArray)=(pre ++ v.cells.toList ++ post.drop v.cells.size).toArray:=by
    rw [← Array.foldl_toList,Array.toList_zipIdx]
    simpa using e4
   rw [e5]
   have:=fill_seq place rest (pre ++ v.cells.toList) (post.drop v.cells.size) (i + 1) (fun j q hj=>by
    have:=h (j + 1) q (by simpa using hj)
    simp only [List.take_succ_cons,List.map_cons,List.sum_cons] at this
    refine ⟨by omega,?_⟩
    rw [show i + 1 + j=i + (j + 1) by omega,this.2]
    simp; omega) (by simp at hp ⊢; omega)
   rw [this]
   simp
  ·omega
theorem does_buildSlice {dd:Tmp} {gd:Option (Nat × Bool)} {t e k len:Nat} {parts:Array (Nat × Operand)} {vs:List Value} {rows:List (List Value)} (ht:xV P t e k) (hz : ∃ z,(P.info? e).bind (·.zero)=some z)
  (hv:parts.toList.map (fun q=>(q.1,evF f q.2))=vs.zipIdx.map (fun q=>(q.2,q.1))) (hr:vs.map (fun v=>v.cells.toList)=rows) (hk : ∀ r ∈ rows,r.length=k) (hlen:rows.length=len) (h24:len * k ≤ 16777216) :
  ∃ w',Does P ⟨some dd,.buildSlice t len parts,ty,pos,af,gd⟩ f w (⟨some ⟨w.heap.size,0,none⟩,len,len⟩ : SlV).v w'∧New w w' w.heap.size e rows.flatten:=by
 obtain ⟨z,hz⟩ := hz
 subst hr
 have hvl:vs.length=len:=by simpa using hlen
 have hsum : ∀ (l:List Value),(∀ v ∈ l,v.cells.size=k)→(l.map (fun v=>v.cells.size)).sum=l.length * k:=by
  intro l
  induction l with
  | nil=>intro _; simp
  | cons v l ih=>intro hl; simp [ih (fun x hx=>hl x (by simp [hx])),hl v zao,Nat.add_mul]; omega
 have hk' : ∀ v ∈ vs,v.cells.size=k:=fun v hv=>by
  have:=hk v.cells.toList (by simp only [List.mem_map]; exact ⟨v,hv,rfl⟩)
  simpa using this
 have hfill : ∀ zc:Array Value,zc.size=len * k→Instr.fill (fun i=>some (i * k,k)) zc (vs.zipIdx.map (fun q=>(q.2,q.1)))=some (vs.map (fun v=>v.cells.toList)).flatten.toArray:=by
  intro zc hzc
  have h1:=fill_seq (fun i=>some (i * k,k)) (vs.zipIdx.map (fun q=>(q.2,q.1))) [] zc.toList 0 (fun j q hj=>by
   simp only [List.getElem?_map,List.getElem?_zipIdx,Option.map_map,Option.map_eq_some_iff] at hj
   obtain ⟨v,hj,rfl⟩ := hj
   have hjl:j < vs.length:=(List.getElem?_eq_some_iff.1 hj).1
   have hvm:v ∈ vs:=List.mem_of_getElem? hj
   refine ⟨by simp,?_⟩
   have e1:((vs.zipIdx.map (fun q:Value × Nat=>(q.2,q.1))).take j).map (fun q=>q.2.cells.size)=(vs.take j).map (fun v=>v.cells.size):=by
    rw [← List.map_take,List.map_map]
    have:(vs.zipIdx.take j).map Prod.fst=vs.take j:=by rw [List.map_take]; simp [List.zipIdx_map_fst]
    rw [← this,List.map_map]
    rfl
   rw [e1,hsum (vs.take j) (fun x hx=>hk' x (List.mem_of_mem_take hx))]
   simp [List.length_take,hk' v hvm]
   rw [Nat.min_eq_left zan]) (by
   have e1:(vs.zipIdx.map (fun q:Value × Nat=>(q.2,q.1))).map (fun q=>q.2.cells.size)=vs.map (fun v=>v.cells.size):=by
    rw [List.map_map]
    have:vs.zipIdx.map Prod.fst=vs:=by simp [List.zipIdx_map_fst]
    conv=>rhs; rw [← this,List.map_map]
    rfl
   rw [e1,hsum vs hk']
   simp [hzc,hvl])
  simp only [List.nil_append,Array.toArray_toList] at h1
  rw [h1]
  congr 2
  rw [List.map_map]
  have:vs.zipIdx.map Prod.fst=vs:=by simp [List.zipIdx_map_fst]
  conv=>rhs; rw [← this,List.map_map]
  rfl
 refine ⟨w.alloc (.cells (vs.map (fun v=>v.cells.toList)).flatten.toArray e),?_,⟨rfl,rfl⟩⟩
 unfold Does
 show (execOp (evF f) _).run P w=_
 unfold execOp
 have hp:(parts.map fun q=>(q.1,evF f q.2)).toList=vs.zipIdx.map (fun q=>(q.2,q.1)):=by rw [Array.toList_map]; exact hv
 simp only [Instr.buildSlice,Sem.run_bind,run_underlying ht.1,Result.andThen_ok,run_sizeOf ht.2]
 rw [if_neg (by simpa using Nat.not_lt.2 h24)]
 have hzero:(zeroValue e).run P w = .ok z w:=by
  cases hq:P.info? e with
  | none=>simp [hq] at hz
  | some i =>
   have:i.zero=some z:=by simpa [hq] using hz
   simp [zeroValue,typeInfo,hq,this]
 by_cases h0:len * k=0
 ·simp only [h0,if_true,Sem.run_pure,Result.andThen_ok,Sem.run_bind]
  rw [show (Array.map (fun x=>(x.fst,evF f x.snd)) parts).toList=_ from hp,hfill _ (by simp [h0])]
  simp [newRow,SlV.eq]
 ·simp only [h0,if_false,Sem.run_bind,hzero,Result.andThen_ok,Sem.run_pure]
  rw [show (Array.map (fun x=>(x.fst,evF f x.snd)) parts).toList=_ from hp,hfill _ zao]
  simp [newRow,SlV.eq]
theorem wl_buildSlice {dd:Tmp} {t e k len:Nat} {parts:Array (Nat × Operand)} {vs:List Value} {rows:List (List Value)} (ht:xV P t e k) (hz : ∃ z,(P.info? e).bind (·.zero)=some z)
  (hv:parts.toList.map (fun q=>(q.1,evF f q.2))=vs.zipIdx.map (fun q=>(q.2,q.1))) (hr:vs.map (fun v=>v.cells.toList)=rows) (hk : ∀ r ∈ rows,r.length=k) (hlen:rows.length=len) (h24:len * k ≤ 16777216) (hd:dd < n)
  (h : ∀ b w' (s:SlV),New w w' b e rows.flatten→s=⟨some ⟨b,0,none⟩,len,len⟩ → wl P rd n dm ops rest Q (upd f dd s.v) w'):wl P rd n dm ops (⟨some dd,.buildSlice t len parts,ty,pos,af,none⟩ :: rest) Q f w:=by
 obtain ⟨w',h1,h2⟩ := does_buildSlice (P:=P) (f:=f) (w:=w) (dd:=dd) (ty:=ty) (pos:=pos) (af:=af) (gd:=none) ht hz hv hr hk hlen h24
 exact zj h1 hd (h _ _ _ h2 rfl)
theorem wl_lit1 {dd:Tmp} {t e k:Nat} {x:Operand} {v:Value} {r:List Value} (ht:xV P t e k) (hz : ∃ z,(P.info? e).bind (·.zero)=some z) (hx:evF f x=v) (hr:v.cells=r.toArray) (hk:r.length=k) (h24:k ≤ 16777216) (hd:dd < n)
  (h : ∀ b w' (s:SlV),New w w' b e r→s=⟨some ⟨b,0,none⟩,1,1⟩ → wl P rd n dm ops rest Q (upd f dd s.v) w'):wl P rd n dm ops (⟨some dd,.buildSlice t 1 #[(0,x)],ty,pos,af,none⟩ :: rest) Q f w :=
 wl_buildSlice (vs:=[v]) (rows:=[r]) ht hz (by simp [hx]) (by simp [hr]) (by simpa using hk) rfl (by simpa using h24) hd (fun b w' s hn hs=>h b w' s (by simpa using hn) hs)
theorem Sl.of_blk {w:World} {b e k m c:Nat} {rows:List (List Value)} (hb:Blk w b e rows.flatten) (hk : ∀ r ∈ rows,r.length=k) (hm:m=rows.length):Sl w k ⟨some ⟨b,0,none⟩,m,c⟩ rows:=by
 refine ⟨hm,hk,fun i r hi=>⟨rfl,?_⟩⟩
 have hflat : ∀ (rows:List (List Value)) (i:Nat) (r:List Value),(∀ r ∈ rows,r.length=k)→rows[i]? = some r→(rows.flatten.drop (i * k)).take k=r:=by
  intro rows
  induction rows with
  | nil=>intro i r _ h; simp at h
  | cons r0 rows ih =>
   intro i r hk h
   have h0:=hk r0 zao
   cases i with
   | zero =>
    simp at h; subst h
    simp [h0]
   | succ i =>
    have:=ih i r (fun r hr=>hk r (by simp [hr])) (by simpa using h)
    rw [List.flatten_cons,show (i + 1) * k=r0.length + i * k by rw [h0,Nat.add_mul]; omega,List.drop_append,List.drop_eq_nil_of_le zan,List.nil_append,Nat.add_sub_cancel_left]
    exact this
 have:=Blk.cells hb (o:=i * k) (k:=k) (hflat rows i r hk hi)
 simpa [SlV.blk,SlV.off] using this
-- append
theorem jB {k:Nat} : ∀ {rows:List (List Value)},(∀ r ∈ rows,r.length=k)→rows.flatten.length=rows.length * k
 | [],_=>by simp
 | a :: l,h=>by simp [jB (rows:=l) fun r hr=>h r (by simp [hr]),h a zao,Nat.add_mul]; omega
theorem flat_at {k:Nat} (rows:List (List Value)) (i:Nat) (r:List Value) (j:Nat) (hj:j < k) (hk : ∀ r ∈ rows,r.length=k) (h:rows[i]? = some r):rows.flatten[i * k + j]? = r[j]? := by
 induction rows generalizing i with
 | nil=>simp at h
 | cons r0 rows ih =>
  have h0:=hk r0 zao
  cases i with
  | zero =>
   simp at h; subst h
   rw [List.flatten_cons,List.getElem?_append_left zan]
   simp
  | succ i =>
   have:=ih i (fun r hr=>hk r (by simp [hr])) (by simpa using h)
   rw [List.flatten_cons,List.getElem?_append_right (by rw [h0,Nat.add_mul]; omega)]
   rw [← this]
   congr 1
   rw [h0,Nat.add_mul]; omega
structure Own (w:World) (lo e k:Nat) (x:SlV) (rows:List (List Value)):Prop where
 own:(x=SlV.nil∧rows=[]) ∨ ∃ g cap cur,x=⟨some ⟨g,0,none⟩,rows.length,cap⟩ ∧ lo ≤ g∧w.heap[g]? = some (.cells cur e (0,0))∧rows.length ≤ cap∧cap * k ≤ cur.size∧cur.toList.take (rows.length * k)=rows.flatten
 row : ∀ r ∈ rows,r.length=k
theorem Own.nil (w:World) (lo e k:Nat):Own w lo e k SlV.nil []:=⟨.inl ⟨rfl,rfl⟩,by simp⟩
theorem Own.of {w:World} {lo e k:Nat} {x:SlV} {rows:List (List Value)} (h:w.ownsRow lo e k x.v rows.length rows.flatten) (hr : ∀ r ∈ rows,r.length=k):Own w lo e k x rows:=by
 refine ⟨?_,hr⟩
 rcases h.2 with ⟨hv,hn⟩ | ⟨g,cap,cur,hv,hg,hh,hnc,hm,hs,ht⟩
 ·left
  rw [SlV.nil_eq] at hv
  exact ⟨SlV.inj hv,List.eq_nil_of_length_eq_zero hn⟩
 ·exact .inr ⟨g,cap,cur,SlV.inj (by rw [hv,SlV.eq]),hg,hh,hnc,by omega,ht⟩
theorem Own.shape {w:World} {lo e k:Nat} {x:SlV} {rows:List (List Value)} (h:Own w lo e k x rows):(x=SlV.nil∧rows=[])∨(x.p=some ⟨x.blk,0,none⟩ ∧ x.n=rows.length∧lo ≤ x.blk∧x.blk < w.heap.size ∧ ∀ j v,rows.flatten[j]? = some v→w.cell? ⟨x.blk,j,none⟩ = some v):=by
 rcases h.own with h0 | ⟨g,cap,cur,rfl,hg,hh,_,_,ht⟩
 ·exact .inl h0
 ·right
  refine ⟨rfl,rfl,hg,(Array.getElem?_eq_some_iff.1 hh).1,fun j v hj=>?_⟩
  show w.cell? ⟨g,j,none⟩ = _
  rw [cell_of_row w g j cur e _ hh]
  rw [← ht] at hj
  rw [List.getElem?_take] at hj
  split at hj
  ·simpa using hj
  ·cases hj
theorem Own.sl {w:World} {lo e k:Nat} {x:SlV} {rows:List (List Value)} (h:Own w lo e k x rows):Sl w k x rows:=by
 rcases h.shape with ⟨rfl,rfl⟩ | ⟨hp,hn,_,_,hc⟩
 ·exact Sl.nil w k
 ·refine ⟨hn,h.row,fun i r hi=>?_⟩
  have ho:x.off=0:=by unfold SlV.off; rw [hp]
  rw [ho]
  refine ⟨hp,fun j v hj=>?_⟩
  have hjk:j < k:=by rw [← h.row r (List.mem_of_getElem? hi)]; exact (List.getElem?_eq_some_iff.1 hj).1
  rw [Nat.zero_add]
  refine hc _ _ ?_
  rw [flat_at rows i r j hjk h.row hi]
  exact hj
theorem Own.chg {S:Nat→Prop} {w w':World} {lo e k:Nat} {x:SlV} {rows:List (List Value)} (h:Own w lo e k x rows) (hc:Chg S w w') (hs:rows ≠ []∨x.p ≠ none→¬ S x.blk):Own w' lo e k x rows:=by
 refine ⟨?_,h.row⟩
 rcases h.own with h0 | ⟨g,cap,cur,rfl,hg,hh,r⟩
 ·exact .inl h0
 ·refine .inr ⟨g,cap,cur,rfl,hg,?_,r⟩
  rw [hc.block g (Array.getElem?_eq_some_iff.1 hh).1 (hs (Or.inr zao))]
  exact hh
theorem Own.keep {S:Nat→Prop} {w w':World} {lo e k:Nat} {x:SlV} {rows:List (List Value)} (h:Own w lo e k x rows) (hc:Chg S w w') (hs : ∀ i,x.fp i→¬ S i):Own w' lo e k x rows :=
 h.chg hc (fun hne=>hs _ ⟨by rcases h.shape with ⟨rfl,rfl⟩ | ⟨hp,_⟩ <;> simp_all [SlV.nil],rfl⟩)
theorem Own.lt {w:World} {lo e k:Nat} {x:SlV} {rows:List (List Value)} (h:Own w lo e k x rows) : ∀ i,x.fp i→i < w.heap.size:=by
 rintro i ⟨h1,rfl⟩
 rcases h.shape with ⟨rfl,rfl⟩ | ⟨hp,_,_,hl,_⟩
 ·exact absurd rfl h1
 ·exact hl
theorem Own.ext {w w':World} {lo e k:Nat} {x:SlV} {rows:List (List Value)} (h:Own w lo e k x rows) (hc:Ext w w'):Own w' lo e k x rows:=h.chg hc (fun _ x=>x)
theorem Own.room {w:World} {lo e k:Nat} {x:SlV} {rows:List (List Value)} (h:Own w lo e k x rows):x.n ≤ x.c:=by
 rcases h.own with ⟨rfl,_⟩ | ⟨g,cap,cur,rfl,_,_,h1,_⟩
 ·exact Nat.le_refl _
 ·exact h1
def uc (P:Program) (e k bytes:Nat):Prop := ∃ i z,P.info? e=some i∧i.zero=some z∧i.size=k∧i.bytes=bytes∧z.cells.size=k∧0 < k
theorem uc.of {e k bytes:Nat} {z:Value} (h:(P.info? e).map (fun i=>(i.zero,i.size,i.bytes))=some (some z,k,bytes)) (hz:z.cells.size=k) (hk:0 < k):uc P e k bytes:=by
 obtain ⟨i,h1,h2,h3,h4⟩ := info_parts h
 exact ⟨i,z,h1,h2,h3,h4,hz,hk⟩
theorem uc.zero {e k bytes:Nat} (h:uc P e k bytes) : ∃ z,(P.info? e).bind (·.zero)=some z:=by
 obtain ⟨i,z,hi,hz,_⟩ := h
 exact ⟨z,by simp [hi,hz]⟩
theorem wl_append {dd:Tmp} {t e k bytes lo:Nat} {x y:Operand} {s r:SlV} {rows news:List (List Value)} (ht:xV P t e k) (he:uc P e k bytes) (hx:evF f x=s.v) (hy:evF f y=r.v) (hs:Own w lo e k s rows) (hr:Sl w k r news) (hne:news ≠ [])
  (h1 : ∀ l ∈ news,∀ v ∈ l,v.oneCell'=true) (hm:(rows.length + news.length) * bytes ≤ 140737488355328) (hm2:rows.length + news.length ≤ 140737488355328) (hlo:lo ≤ w.heap.size) (hd:dd < n)
  (h : ∀ (s':SlV) w',Own w' lo e k s' (rows ++ news)→Chg s.fp w w'→(∀ i,s'.fp i→s.fp i∨w.heap.size ≤ i)→wl P rd n dm ops rest Q (upd f dd s'.v) w'):wl P rd n dm ops (⟨some dd,.call ⟨.builtin .append,#[x,y],#[t,t]⟩,ty,pos,af,none⟩ :: rest) Q f w:=by
 obtain ⟨i,z,hi,hz,hsz,hby,hzs,hk0⟩ := he
 have hp:r.p=some ⟨r.blk,r.off,none⟩ := by
  cases news with
  | nil=>exact absurd rfl hne
  | cons l news=>exact (hr.cells 0 l rfl).1
 have hnl:news.flatten.length=news.length * k:=jB hr.row
 have hol:rows.flatten.length=rows.length * k:=jB hs.row
 have hpos:0 < news.length:=List.length_pos_iff.2 hne
 have hnews : ∀ j u,news.flatten[j]? = some u→w.cell? ((⟨r.blk,r.off,none⟩ : Addr).add j)=some u:=by
  intro j u hj
  rw [k8]
  have hlt:j < news.length * k:=by rw [← hnl]; exact (List.getElem?_eq_some_iff.1 hj).1
  have hq:j / k < news.length:=Nat.div_lt_of_lt_mul (by rw [Nat.mul_comm]; exact hlt)
  have hc:=(hr.cells (j / k) _ (List.getElem?_eq_getElem hq)).2
  have hmod:j % k < k:=Nat.mod_lt _ hk0
  have hf:=flat_at news (j / k) _ (j % k) hmod hr.row (List.getElem?_eq_getElem hq)
  rw [Nat.div_add_mod' j k,hj] at hf
  have:=hc (j % k) u hf.symm
  rw [Nat.add_assoc,Nat.div_add_mod' j k] at this
  exact this
 have hrow : ∀ l ∈ rows ++ news,l.length=k:=fun l hl=>(List.mem_append.1 hl).elim (hs.row l) (hr.row l)
 have hwrap : ∀ (s':SlV) w',(Builtin.append_ #[t,t] ty #[s.v,.slice (some ⟨r.blk,r.off,none⟩) news.length r.c]).run P w = .ok s'.v w'→Does P ⟨some dd,.call ⟨.builtin .append,#[x,y],#[t,t]⟩,ty,pos,af,none⟩ f w s'.v w':=by
  intro s' w' hrun
  unfold Does
  show (execOp (evF f) _).run P w=_
  unfold execOp
  have hrv:r.v = .slice (some ⟨r.blk,r.off,none⟩) news.length r.c:=by rw [SlV.eq,hp,hr.len]
  simp only [resolve,invoke,builtin,Sem.run_bind,Sem.run_pure,Result.andThen_ok,List.map_toArray,List.map_cons,List.map_nil,hx,hy]
  rw [hrv,hrun]
  rfl
 -- a block of its own
 have fresh : ∀ (old:Nat),(Builtin.append_ #[t,t] ty #[s.v,.slice (some ⟨r.blk,r.off,none⟩) news.length r.c]).run P w = .ok (.slice (some ⟨w.heap.size,0,none⟩) (rows.length + news.length) (grownCap w (rows.length + news.length) old e)) (w.drew.alloc (.cells (rows.flatten.toArray ++ news.flatten.toArray ++ Builtin.zeroCells z.cells (grownCap w (rows.length + news.length) old e - (rows.length + news.length))) e))→wl P rd n dm ops (⟨some dd,.call ⟨.builtin .append,#[x,y],#[t,t]⟩,ty,pos,af,none⟩ :: rest) Q f w:=by
  intro old hr2
  have hge:=grownCap_ge w (rows.length + news.length) old e
  refine zj (v:=(⟨some ⟨w.heap.size,0,none⟩,rows.length + news.length,grownCap w (rows.length + news.length) old e⟩ : SlV).v) (hwrap _ _ (by simp only [SlV.eq] at hr2 ⊢; exact hr2)) hd (h _ _ ⟨.inr ⟨w.heap.size,grownCap w (rows.length + news.length) old e,_,by simp,hlo,heap_alloc_new w.drew _,by simpa using hge,?_,?_⟩,hrow⟩ ⟨rfl,rfl,rfl,by simp,fun b hb _=>heap_alloc_old (w:=w.drew) (h:=hb) ..,kD w.drew _ (ve.cells _ _)⟩ (fun j hj => .inr (Nat.le_of_eq hj.2.symm)))
  ·simp only [Array.size_append,List.size_toArray,size_zeroCells,hzs,hol,hnl,← Nat.add_mul]
   exact Nat.mul_le_mul_right k zan
  ·simp only [Array.toList_append,List.append_assoc,List.flatten_append,List.length_append]
   rw [← List.append_assoc,Nat.add_mul,← hol,← hnl,← List.length_append]
   exact List.take_left
 rcases hs.own with ⟨rfl,rfl⟩ | ⟨g,cap,cur,rfl,hg,hh,hnc,hcs,htake⟩
 ·have hr2:=run_append_nil (P:=P) w t ty e i z ht.1 hi hz ⟨r.blk,r.off,none⟩ news.length r.c news.flatten (by rw [hnl,hsz]) hnews hpos zan (by have:=hm; simp only [List.length_nil,Nat.zero_add] at this; rw [hby]; omega)
  refine fresh 0 ?_
  rw [← SlV.nil_eq]
  simpa using hr2
 ·by_cases hroom:rows.length + news.length ≤ cap
  ·have hfit:rows.length * i.size + news.flatten.length ≤ cur.size:=by rw [hnl,hsz,← Nat.add_mul]; exact Nat.le_trans (Nat.mul_le_mul_right _ hroom) hcs
   have hr2:=run_append_room (P:=P) w t ty e i ht.1 hi g rows.length cap cur hh ⟨r.blk,r.off,none⟩ news.length r.c news.flatten (by rw [hnl,hsz]) hnews (fun u hu=>by obtain ⟨l,hl,hul⟩ := List.mem_flatten.1 hu; exact h1 l hl u hul) hroom hfit
   rw [hsz] at hr2 hfit
   refine zj (v:=(⟨some ⟨g,0,none⟩,rows.length + news.length,cap⟩ : SlV).v) (hwrap _ _ (by simp only [SlV.eq] at hr2 ⊢; exact hr2)) hd (h _ _ ⟨.inr ⟨g,cap,_,by simp,hg,setRow_heap w g cur _ e _ hh,by simpa using hroom,?_,?_⟩,hrow⟩ ⟨rfl,rfl,rfl,by simp,fun b hb hS=>setRow_other w g b _ (fun e=>hS ⟨by simp,e⟩),froz_at g (by rw [setRow_heap w g cur _ e _ hh]; exact ve.cells _ _) (by rw [hh]; exact ve.cells _ _) fun k hk=>setRow_other w g k _ hk⟩ (fun j hj => .inl hj))
   ·simp only [List.size_toArray,List.length_append,List.length_take,List.length_drop,Array.length_toList]
    omega
   ·rw [htake,List.flatten_append,List.length_append,Nat.add_mul,← hol,← hnl,← List.length_append]
    exact List.take_left
  ·have holds : ∀ j u,rows.flatten[j]? = some u→w.cell? ((⟨g,0,none⟩ : Addr).add j)=some u:=by
    intro j u hj
    rw [k8,Nat.zero_add,cell_of_row w g j cur e _ hh]
    rw [← htake,List.getElem?_take] at hj
    split at hj
    ·simpa using hj
    ·cases hj
   have hr2:=run_append_grow (P:=P) w t ty e i z ht.1 hi hz ⟨g,0,none⟩ rows.length cap rows.flatten (by rw [hsz]; exact hol) holds ⟨r.blk,r.off,none⟩ news.length r.c news.flatten (by rw [hnl,hsz]) hnews zan zan (growslice_fits zan (by rw [hby]; exact hm))
   exact fresh cap (by rw [SlV.eq]; exact hr2)
-- what is read,and what is pushed,by typed lists
structure Rd (w:World) (k:Nat) (x:SlV) (rows:List (List Value)):Prop where
 sl:Sl w k x rows
 lt : ∀ i,x.fp i→i < w.heap.size
 room:x.n ≤ x.c
theorem Rd.ext {w w':World} {k:Nat} {x:SlV} {rows:List (List Value)} (h:Rd w k x rows) (hc:Ext w w'):Rd w' k x rows:=⟨h.sl.ext hc,fun i hi=>Nat.lt_of_lt_of_le (h.lt i hi) hc.size,h.room⟩
theorem Rd.keep {S:Nat→Prop} {w w':World} {k:Nat} {x:SlV} {rows:List (List Value)} (h:Rd w k x rows) (hc:Chg S w w') (hs : ∀ i,x.fp i→¬ S i):Rd w' k x rows:=⟨h.sl.keep hc hs,fun i hi=>Nat.lt_of_lt_of_le (h.lt i hi) hc.size,h.room⟩
theorem Own.toRd {w:World} {lo e k:Nat} {x:SlV} {rows:List (List Value)} (h:Own w lo e k x rows):Rd w k x rows:=⟨h.sl,h.lt,h.room⟩
theorem Rd.at {α:Type} {C:α→List Value} {w:World} {k:Nat} {x:SlV} {l:List α} (h:Rd w k x (l.map C)) {i:Nat} {a:α} (hi:l[i]? = some a):ub w x.blk (x.off + i * k) (C a) :=
 (h.sl.cells i (C a) (by simp [hi])).2
theorem Rd.one {α:Type} {C:α→List Value} {w:World} {k:Nat} {x:SlV} {l:List α} (h:Rd w k x (l.map C)) {i:Nat} {a:α} {v:Value} (hi:l[i]? = some a) (hv:C a=[v]):w.cell? ⟨x.blk,x.off + i * k,none⟩ = some v:=by
 have:=h.at hi 0 v (by rw [hv]; rfl)
 simpa using this
theorem Rd.len {α:Type} {C:α→List Value} {w:World} {k:Nat} {x:SlV} {l:List α} (h:Rd w k x (l.map C)):(x.n:Int)=(l.length:Int):=by rw [h.sl.len]; simp
theorem Blk.rdl {α:Type} {C:α→List Value} {w:World} {b et k n c:Nat} {r:SlV} {l:List α} (hb:Blk w b et (l.map C).flatten) (hk : ∀ a ∈ l,(C a).length=k) (hr:r=⟨some ⟨b,0,none⟩,n,c⟩) (hn:n=l.length) (hc:n ≤ c:=by decide):Rd w k r (l.map C):=by
 subst hr hn
 exact ⟨Sl.of_blk hb (by simpa using hk) zao,fun i hi=>by have:=hb.lt; have:=hi.2; subst this; exact hb.lt,hc⟩
theorem fp_at {r:SlV} {b n c:Nat} (hr:r=⟨some ⟨b,0,none⟩,n,c⟩) {i:Nat} (hi:r.fp i):i=b:=by subst hr; exact hi.2
theorem Rd.nil (w:World) (k:Nat):Rd w k SlV.nil []:=⟨Sl.nil w k,fun _ hi=>absurd rfl hi.1,Nat.le_refl _⟩
theorem xE {α:Type} {C:α→List Value} {d:Option Tmp} {gd:Option (Nat × Bool)} {x:Operand} {t e k k':Nat} {s:SlV} {l:List α} (ht:xV P t e k) (hx:evF f x=s.v) (h:Rd w k' s (l.map C)):Does P ⟨d,.call ⟨.builtin .len,#[x],#[t]⟩,ty,pos,af,gd⟩ f w (.int .i64 l.length) w :=
 Does.val (does_lenS ht hx) (by rw [h.len])
theorem xg {α:Type} {C:α→List Value} {d:Option Tmp} {gd:Option (Nat × Bool)} {x y:Operand} {t e k:Nat} {kd:IntKind} {i:Int} {s:SlV} {l:List α} (ht:xV P t e k) (hx:evF f x=s.v) (hy:evF f y = .int kd i) (h:Rd w k s (l.map C)) (h0:0 ≤ i) (h1:i < l.length) :
  Does P ⟨d,.indexAddr t x y,ty,pos,af,gd⟩ f w (.pointer (some ⟨s.blk,s.off + i.toNat * k,none⟩)) w:=does_indexS ht hx hy h.sl h0 (by simpa using h1) rfl
theorem wl_push {α:Type} {C:α→List Value} {dd:Tmp} {t e k bytes b et:Nat} {x y:Operand} {s r:SlV} {l:List α} {a:α} (ht:xV P t e k) (he:uc P e k bytes) (hx:evF f x=s.v) (hy:evF f y=r.v) (hs:Own w 0 e k s (l.map C)) (hb:Blk w b et (C a)) (hr:r=⟨some ⟨b,0,none⟩,1,1⟩)
  (hk:(C a).length=k) (h1 : ∀ v ∈ C a,v.oneCell'=true) (hm:(l.length + 1) * bytes ≤ 140737488355328) (hm2:l.length + 1 ≤ 140737488355328) (hd:dd < n)
  (h : ∀ (s':SlV) w',Own w' 0 e k s' ((l ++ [a]).map C)→Chg s.fp w w'→(∀ i,s'.fp i→s.fp i∨w.heap.size ≤ i)→wl P rd n dm ops rest Q (upd f dd s'.v) w'):wl P rd n dm ops (⟨some dd,.call ⟨.builtin .append,#[x,y],#[t,t]⟩,ty,pos,af,none⟩ :: rest) Q f w:=by
 subst hr
 refine wl_append (news:=[C a]) ht he hx hy hs (Sl.of_blk (by simpa using hb) (by simpa using hk) rfl) zao (by simpa using h1) (by simpa using hm) (by simpa using hm2) (Nat.zero_le _) hd fun s' w' ho hc hg=>?_
 exact h s' w' (by simpa using ho) hc hg
end
def IC (n:Int):List Value:=[.int .i64 n]
end Gw
end
section
open Gw Go.RowKit
structure Term where
 kind:Int
 name:ByteArray
 other:ByteArray
 form:Int
 sub:SlV
def Term.C (x:Term):List Value:=[(.int .i64 x.kind)] ++ [(.string x.name)] ++ [(.string x.other)] ++ [(.int .i64 x.form)] ++ [x.sub.v]
def Term.z:Term:=⟨0,ByteArray.empty,ByteArray.empty,0,⟨none,0,0⟩⟩
theorem Term.len (x:Term):(Term.C x).length=5:=by simp [Term.C]
theorem Term.one (x:Term) : ∀ v ∈ Term.C x,v.oneCell'=true:=by
 intro v hv; simp only [Term.C,List.mem_append,List.mem_singleton] at hv
 rcases hv with (((hv | hv) | hv) | hv) | hv
 all_goals first
  | (subst hv; rfl)
  | exact FnV.one _ _ hv
  | exact SlV.one _ _ hv
theorem Term.get_kind (x:Term):(Term.C x)[0]? = some (.int .i64 x.kind):=by simp [Term.C,List.getElem?_append]
theorem Term.set_kind (x:Term) (y:Int):(Term.C x).set 0 (.int .i64 y)=Term.C { x with kind:=y }:=by simp [Term.C,List.set_append]
theorem Term.get_name (x:Term):(Term.C x)[1]? = some (.string x.name):=by simp [Term.C,List.getElem?_append]
theorem Term.set_name (x:Term) (y:ByteArray):(Term.C x).set 1 (.string y)=Term.C { x with name:=y }:=by simp [Term.C,List.set_append]
theorem Term.get_other (x:Term):(Term.C x)[2]? = some (.string x.other):=by simp [Term.C,List.getElem?_append]
theorem Term.set_other (x:Term) (y:ByteArray):(Term.C x).set 2 (.string y)=Term.C { x with other:=y }:=by simp [Term.C,List.set_append]
theorem Term.get_form (x:Term):(Term.C x)[3]? = some (.int .i64 x.form):=by simp [Term.C,List.getElem?_append]
theorem Term.set_form (x:Term) (y:Int):(Term.C x).set 3 (.int .i64 y)=Term.C { x with form:=y }:=by simp [Term.C,List.set_append]
theorem Term.get_sub (x:Term):(Term.C x)[4]? = some x.sub.v:=by simp [Term.C,List.getElem?_append]
theorem Term.set_sub (x:Term) (y:SlV):(Term.C x).set 4 y.v=Term.C { x with sub:=y }:=by simp [Term.C,List.set_append]
structure Nd where
 kind:Int
 name:ByteArray
 l:Int
 r:Int
 deriving DecidableEq
def Nd.C (x:Nd):List Value:=[(.int .i64 x.kind)] ++ [(.string x.name)] ++ [(.int .i64 x.l)] ++ [(.int .i64 x.r)]
def Nd.z:Nd:=⟨0,ByteArray.empty,0,0⟩
theorem Nd.len (x:Nd):(Nd.C x).length=4:=by simp [Nd.C]
theorem Nd.one (x:Nd) : ∀ v ∈ Nd.C x,v.oneCell'=true:=by
 intro v hv; simp only [Nd.C,List.mem_append,List.mem_singleton] at hv
 rcases hv with ((hv | hv) | hv) | hv
 all_goals first
  | (subst hv; rfl)
  | exact FnV.one _ _ hv
  | exact SlV.one _ _ hv
theorem Nd.get_kind (x:Nd):(Nd.C x)[0]? = some (.int .i64 x.kind):=by simp [Nd.C,List.getElem?_append]
theorem Nd.set_kind (x:Nd) (y:Int):(Nd.C x).set 0 (.int .i64 y)=Nd.C { x with kind:=y }:=by simp [Nd.C,List.set_append]
theorem Nd.get_name (x:Nd):(Nd.C x)[1]? = some (.string x.name):=by simp [Nd.C,List.getElem?_append]
theorem Nd.set_name (x:Nd) (y:ByteArray):(Nd.C x).set 1 (.string y)=Nd.C { x with name:=y }:=by simp [Nd.C,List.set_append]
theorem Nd.get_l (x:Nd):(Nd.C x)[2]? = some (.int .i64 x.l):=by simp [Nd.C,List.getElem?_append]
theorem Nd.set_l (x:Nd) (y:Int):(Nd.C x).set 2 (.int .i64 y)=Nd.C { x with l:=y }:=by simp [Nd.C,List.set_append]
theorem Nd.get_r (x:Nd):(Nd.C x)[3]? = some (.int .i64 x.r):=by simp [Nd.C,List.getElem?_append]
theorem Nd.set_r (x:Nd) (y:Int):(Nd.C x).set 3 (.int .i64 y)=Nd.C { x with r:=y }:=by simp [Nd.C,List.set_append]
structure RTab where
 n:SlV
def RTab.C (x:RTab):List Value:=[x.n.v]
def RTab.z:RTab:=⟨⟨none,0,0⟩⟩
theorem RTab.len (x:RTab):(RTab.C x).length=1:=by simp [RTab.C]
theorem RTab.get_n (x:RTab):(RTab.C x)[0]? = some x.n.v:=by simp [RTab.C,List.getElem?_append]
theorem RTab.set_n (x:RTab) (y:SlV):(RTab.C x).set 0 y.v=RTab.C { x with n:=y }:=by simp [RTab.C,List.set_append]
structure Checker where
 t:Option Addr
structure Tab where
 rows:SlV
 at_:Option Nat
def Tab.C (x:Tab):List Value:=[x.rows.v] ++ [(.map x.at_)]
def Tab.z:Tab:=⟨⟨none,0,0⟩,none⟩
theorem Tab.len (x:Tab):(Tab.C x).length=2:=by simp [Tab.C]
theorem Tab.get_rows (x:Tab):(Tab.C x)[0]? = some x.rows.v:=by simp [Tab.C,List.getElem?_append]
theorem Tab.set_rows (x:Tab) (y:SlV):(Tab.C x).set 0 y.v=Tab.C { x with rows:=y }:=by simp [Tab.C,List.set_append]
theorem Tab.get_at_ (x:Tab):(Tab.C x)[1]? = some (.map x.at_):=by simp [Tab.C,List.getElem?_append]
theorem Tab.set_at_ (x:Tab) (y:Option Nat):(Tab.C x).set 1 (.map y)=Tab.C { x with at_:=y }:=by simp [Tab.C,List.set_append]
structure Machine where
 t:Option Addr
 rules:SlV
def Machine.C (x:Machine):List Value:=[(.pointer x.t)] ++ [x.rules.v]
def Machine.z:Machine:=⟨none,⟨none,0,0⟩⟩
theorem Machine.len (x:Machine):(Machine.C x).length=2:=by simp [Machine.C]
theorem Machine.get_t (x:Machine):(Machine.C x)[0]? = some (.pointer x.t):=by simp [Machine.C,List.getElem?_append]
theorem Machine.set_t (x:Machine) (y:Option Addr):(Machine.C x).set 0 (.pointer y)=Machine.C { x with t:=y }:=by simp [Machine.C,List.set_append]
theorem Machine.get_rules (x:Machine):(Machine.C x)[1]? = some x.rules.v:=by simp [Machine.C,List.getElem?_append]
theorem Machine.set_rules (x:Machine) (y:SlV):(Machine.C x).set 1 y.v=Machine.C { x with rules:=y }:=by simp [Machine.C,List.set_append]
structure RRule where
 fits:FnV
 does:FnV
def RRule.C (x:RRule):List Value:=[x.fits.v] ++ [x.does.v]
def RRule.z:RRule:=⟨.nil,.nil⟩
theorem RRule.len (x:RRule):(RRule.C x).length=2:=by simp [RRule.C]
theorem RRule.one (x:RRule) : ∀ v ∈ RRule.C x,v.oneCell'=true:=by
 intro v hv; simp only [RRule.C,List.mem_append,List.mem_singleton] at hv
 rcases hv with hv | hv
 all_goals first
  | (subst hv; rfl)
  | exact FnV.one _ _ hv
  | exact SlV.one _ _ hv
theorem RRule.get_fits (x:RRule):(RRule.C x)[0]? = some x.fits.v:=by simp [RRule.C,List.getElem?_append]
theorem RRule.set_fits (x:RRule) (y:FnV):(RRule.C x).set 0 y.v=RRule.C { x with fits:=y }:=by simp [RRule.C,List.set_append]
theorem RRule.get_does (x:RRule):(RRule.C x)[1]? = some x.does.v:=by simp [RRule.C,List.getElem?_append]
theorem RRule.set_does (x:RRule) (y:FnV):(RRule.C x).set 1 y.v=RRule.C { x with does:=y }:=by simp [RRule.C,List.set_append]
structure Hyp where
 name:ByteArray
 form:Int
 deriving DecidableEq
structure Refusal where
 code:Int
 up_:SlV
structure Scope where
 name:ByteArray
 form:Int
 next:Option Addr
end
section
open Go.RowKit
namespace Gw
abbrev Veil:=Nat→Value→World→Prop
structure Draw where
 T:(Nat→Bool)→World→Prop
 Le:(Nat→Bool)→World→World→Prop
 V:Veil
def plus (L:Nat→Bool) (i:Nat):Nat→Bool:=fun j=>Nat.beq j i || L j
def obPost (dm:List Nat) (D:Draw) (L:Nat→Bool) (i:Nat) (d:Tmp) (f:Fr) (w:World):Post:=fun dm' e f' w'=>e = .normal∧dm'=dm∧D.T (plus L i) w'∧D.Le L w w' ∧ ∃ v,f'=upd f d v∧D.V i v w'
theorem ob {dm:List Nat} {D:Draw} {L:Nat→Bool} {i:Nat} {d:Tmp} {f:Fr} {w w':World} {v:Value} (hT:D.T (plus L i) w') (hL:D.Le L w w') (hV:D.V i v w'):obPost dm D L i d f w dm .normal (upd f d v) w':=⟨rfl,rfl,hT,hL,v,rfl,hV⟩
def v8 (o:Oper):List Nat:=(o.after.toList.filter fun e=>match e.ground with | .data | .guard=>true | _=>false).map (·.on)
def vq (ops:Array Oper) (j:Nat):Tmp:=((ops[j]?).bind (·.dst)).getD 0
def givens (ops:Array Oper) (D:Draw) (g:Fr) (w:World):List Nat→Prop→Prop
 | [],p=>p
 | j :: l,p=>D.V j (g (vq ops j)) w→givens ops D g w l p
def Owe (P:Program) (rd:Option Nat) (n:Nat) (dm:List Nat) (ops:Array Oper) (ds:List Nat) (D:Draw) (f:Fr) (i:Nat) (o:Oper):Prop :=
 ∀ (L:Nat→Bool) (g:Fr) (w:World),L i=false→D.T L w→givens ops D g w (v8 o) (wl P rd n dm ops [o] (obPost dm D L i (o.dst.getD 0) (mask ds g f) w) (mask ds g f) w)
def Owes (P:Program) (rd:Option Nat) (n:Nat) (dm:List Nat) (ops:Array Oper) (ds:List Nat) (D:Draw) (f:Fr):List Oper→Nat→Prop
 | [],_=>True
 | o :: l,i=>Owe P rd n dm ops ds D f i o∧Owes P rd n dm ops ds D f l (i + 1)
def allV (D:Draw) (g:Fr) (w:World):List Oper→Nat→Prop→Prop
 | [],_,p=>p
 | o :: l,i,p=>D.V i (g (o.dst.getD 0)) w→allV D g w l (i + 1) p
def drawB (ops:Array Oper) (m:Nat):Bool :=
 (ops.toList.take m).all (fun o=>o.dst.isSome) &&
 decide (((ops.toList.take m).filterMap (·.dst)).Nodup) &&
 ops.toList.zipIdx.all (fun q=>q.1.after.toList.all fun e => !Region.binds .any e || decide (e.on < q.2)) &&
 ops.toList.zipIdx.all (fun q=>decide (q.2 < m) || (List.range q.2).all fun i=>((Region.before ops).getD q.2 0).testBit i) &&
 decide (m ≤ ops.size)
section
variable {P:Program} {rd:Option Nat} {n m:Nat} {dm:List Nat} {ops:Array Oper} {Q:Post} {f:Fr} {w:World}
theorem upon_mono2 {F:Fence} {nn:Nat} {o:Oper} {a:Act} {w:World} {K K':Act→World→Prop} {R R':Exit→Act→World→Prop} (h : ∀ a w,K a w→K' a w) (hr : ∀ e a w,e ≠ .normal→R e a w→R' e a w)
  (hh:o.wpIn F nn P a w K R):o.wpIn F nn P a w K' R':=by
 unfold Oper.wpIn at *
 refine ⟨hh.1,?_⟩
 have hh:=hh.2
 generalize (o.semAt F.round a.eval).run P w=r at *
 have out:LetsOut R→LetsOut R':=fun ⟨a,w,q⟩ => ⟨a,w,hr _ _ _ zao q⟩
 cases r with
 | ok x w' =>
  cases x <;> simp only [Oper.uponIn] at hh ⊢ <;>
   first
    | exact h _ _ hh
    | exact ⟨hh.1,CallsIn.mono hh.2 (fun e w'' he=>by cases e <;> first | exact h _ _ he | exact hr _ _ _ zao he | exact out he)⟩
    | exact ⟨hh.1,RowsIn.mono hh.2 (fun _ _ he=>h _ _ he)⟩
    | exact ⟨hh.1,RoundIn.mono hh.2 (fun e w'' he=>by cases e <;> first | exact h _ _ he | exact hr _ _ _ zao he | exact out he)⟩
 | halt x w'=>cases x <;> simp only [Oper.uponIn] at hh ⊢ <;> first | exact hr _ _ _ zao hh | exact hh
theorem wpOp_of_wl {i:Nat} {o:Oper} (hi:ops[i]? = some o) {Q1:Post} {R:Exit→Act→World→Prop} {K:Act→World→Prop} (h:wl P rd n dm ops [o] Q1 f w) (hQ : ∀ dm e f w,Q1 dm e f w→e = .normal) (hK : ∀ dm' a f w,Is n dm' a f→Q1 dm' .normal f w→K a w)
  {a:Act} (ha:Is n dm a f):wpOpIn (fen rd) 0 P ops R i K a w:=by
 have h1:=h a ha
 unfold wpOpIn
 rw [hi]
 show if Region.wanted o (yielded ops a.tmps)=true then o.wpIn (fen rd) 0 P a w K R else _∧K (a.put o.dst undef) w
 simp only [wpListIn] at h1
 split
 ·rename_i hw
  rw [if_pos hw] at h1
  refine upon_mono2 ?_ ?_ h1
  ·rintro a w ⟨dm',f,hf,q⟩; exact hK dm' a f w hf q
  ·rintro e a w he ⟨dm',f,hf,q⟩; exact absurd (hQ _ _ _ _ q) he
 ·rename_i hw
  rw [if_neg hw] at h1
  obtain ⟨h0,dm',f',hf',q⟩ := h1
  exact ⟨h0,hK _ _ _ _ hf' q⟩
theorem wpOp_of_wpList {F:Fence} {nn:Nat} {i:Nat} {o:Oper} {rest:List Oper} (hi:ops[i]? = some o) {R:Exit→Act→World→Prop} {a:Act} (h:wpListIn F nn P ops R (o :: rest) a w):wpOpIn F nn P ops R i (wpListIn F nn P ops R rest) a w:=by
 unfold wpOpIn
 rw [hi]
 exact h
def cnt (listed:Array Bool) (k:Nat):Nat:=((List.range k).filter fun j=>listed.getD j false).length
theorem cnt_le (listed:Array Bool) (k:Nat):cnt listed k ≤ k:=by
 unfold cnt
 have:=List.length_filter_le (fun j=>listed.getD j false) (List.range k)
 simpa using this
theorem kB (listed:Array Bool) (k:Nat):cnt listed (k + 1)=cnt listed k + (if listed.getD k false then 1 else 0):=by
 unfold cnt
 rw [List.range_succ,List.filter_append,List.length_append]
 congr 1
 by_cases h:listed.getD k false=true
 ·rw [if_pos h,List.filter_cons_of_pos (by exact h)]; rfl
 ·rw [if_neg h,List.filter_cons_of_neg (by exact h)]; rfl
theorem vJ (listed:Array Bool) (i j:Nat) (hi:i < listed.size):(listed.setIfInBounds i true).getD j false=if i=j then true else listed.getD j false:=by
 simp only [Array.getD_eq_getD_getElem?]
 by_cases h:i=j
 ·subst h; simp [hi]
 ·rw [Array.getElem?_setIfInBounds_ne h,if_neg h]
theorem cnt_set (listed:Array Bool) (i:Nat) (hi:i < listed.size) (hf:listed.getD i false=false) : ∀ k,cnt (listed.setIfInBounds i true) k=cnt listed k + (if i < k then 1 else 0)
 | 0=>by simp [cnt]
 | k + 1=>by
  rw [kB,kB,cnt_set listed i hi hf k,vJ listed i k hi]
  by_cases h:i=k
  ·subst h
   simp [hf]
  ·rw [if_neg h]
   by_cases h2:i < k
   ·have h3:i < k + 1:=by omega
    simp only [h2,h3,if_true]; omega
   ·have h3:¬ i < k + 1:=by omega
    simp only [h2,h3,if_false]; omega
theorem cnt_full (listed:Array Bool) : ∀ k,cnt listed k=k → ∀ j,j < k→listed.getD j false=true
 | 0,_,j,hj=>absurd hj zan
 | k + 1,h,j,hj=>by
  rw [kB] at h
  have hle:=cnt_le listed k
  by_cases hk:listed.getD k false=true
  ·rw [if_pos hk] at h
   by_cases hjk:j=k
   ·subst hjk; exact hk
   ·exact cnt_full listed k zan j zan
  ·rw [if_neg hk] at h; omega
theorem cnt_all (listed:Array Bool) : ∀ k,(∀ j,j < k→listed.getD j false=true)→cnt listed k=k
 | 0,_=>by simp [cnt]
 | k + 1,h=>by rw [kB,cnt_all listed k (fun j hj=>h j zan),if_pos (h k zan)]
def Back (ops:Array Oper):Prop := ∀ (i:Nat) (o:Oper),ops[i]? = some o → ∀ e ∈ o.after,Region.binds .any e=true→e.on < i
theorem ready_nil (hb:Back ops) {listed:Array Bool} (hs:listed.size=ops.size) (hr:Region.ready .any ops listed=[]) : ∀ j,j < ops.size→listed.getD j false=true:=by
 intro j
 induction j using Nat.strongRecOn with
 | _ j ih =>
  intro hj
  by_cases hl:listed.getD j false=true
  ·exact hl
  ·exfalso
   have:j ∈ Region.ready .any ops listed:=by
    rw [mem_ready]
    refine ⟨?_,ops[j],Array.getElem?_eq_getElem hj,fun e he hbind=>?_⟩
    ·simp only [Array.getD_eq_getD_getElem?] at hl ⊢
     rw [Array.getElem?_eq_getElem zan] at hl ⊢
     simpa using hl
    ·have hlt:=hb j _ (Array.getElem?_eq_getElem hj) e he hbind
     exact ih e.on hlt zan
   rw [hr] at this
   cases this
theorem jo {listed:Array Bool} {i:Nat} (hs:listed.size=ops.size) (h:i ∈ Region.ready .any ops listed):i < ops.size∧listed.getD i false=false:=by
 rw [mem_ready] at h
 obtain ⟨h0,o,ho,_⟩ := h
 have hlt:i < ops.size:=(Array.getElem?_eq_some_iff.1 ho).1
 refine ⟨hlt,?_⟩
 simp only [Array.getD_eq_getD_getElem?] at h0 ⊢
 rw [Array.getElem?_eq_getElem zan] at h0 ⊢
 exact h0
def Closed (ops:Array Oper) (listed:Array Bool):Prop := ∀ (j:Nat) (o:Oper),ops[j]? = some o→listed.getD j false=true → ∀ e ∈ o.after,Region.binds .any e=true→listed.getD e.on false=true
theorem Closed.set {listed:Array Bool} {i:Nat} (h:Closed ops listed) (hs:listed.size=ops.size) (hr:i ∈ Region.ready .any ops listed):Closed ops (listed.setIfInBounds i true):=by
 have hlt:=(jo hs hr).1
 rw [mem_ready] at hr
 obtain ⟨_,o,ho,hall⟩ := hr
 intro j oj hoj hl e he hb
 rw [vJ _ _ _ zan] at hl ⊢
 by_cases hij:i=j
 ·subst hij
  rw [ho] at hoj
  cases hoj
  rw [hall e he hb]
  simp
 ·rw [if_neg hij] at hl
  rw [h j oj hoj hl e he hb]
  simp
theorem any_tail {R:Exit→Act→World→Prop} (hb:Back ops) (hord : ∀ k,m ≤ k→k < ops.size → ∀ listed,listed.size=ops.size→k ∈ Region.ready .any ops listed→Closed ops listed → ∀ j,j < k→listed.getD j false=true) :
  ∀ (fuel k:Nat) (listed:Array Bool) (a:Act) (w:World),m ≤ k→listed.size=ops.size→Closed ops listed→(∀ j,j < ops.size→(listed.getD j false=true↔j < k))→fuel + k=ops.size→wpListIn (fen rd) 0 P ops R (ops.toList.drop k) a w→wpAnyIn (fen rd) 0 P .any ops R fuel listed a w:=by
 intro fuel
 induction fuel with
 | zero =>
  intro k listed a w hmk hs hc hl hk h
  refine ⟨?_,?_⟩
  ·refine List.eq_nil_iff_forall_not_mem.2 fun i hi=>?_
   obtain ⟨h1,h2⟩ := jo hs hi
   rw [(hl i h1).2 zan] at h2
   cases h2
  ·rw [List.drop_eq_nil_of_le (by simp; omega)] at h
   exact h
 | succ fuel ih =>
  intro k listed a w hmk hs hc hl hk h
  have hkl:k < ops.size:=by omega
  have hd:ops.toList.drop k=ops[k] :: ops.toList.drop (k + 1):=by
   rw [List.drop_eq_getElem_cons (by simpa using hkl)]
   simp
  rw [hd] at h
  refine ⟨fun hr=>?_,fun i hi=>?_⟩
  ·have:=ready_nil hb hs hr k hkl
   rw [hl k hkl] at this
   omega
  ·obtain ⟨h1,h2⟩ := jo hs hi
   have hge:k ≤ i:=by
    refine Nat.le_of_not_lt fun hlt=>?_
    rw [(hl i h1).2 hlt] at h2
    cases h2
   have hik:i=k:=by
    by_cases hki:k < i
    ·have:=hord i zan h1 listed hs hi hc k hki
     rw [hl k hkl] at this
     omega
    ·omega
   subst hik
   refine wpOpIn_mono (fun a' w' h'=>?_) (wpOp_of_wpList (Array.getElem?_eq_getElem hkl) h)
   refine ih (i + 1) _ a' w' zan (by simpa using hs) (hc.set hs hi) (fun j hj=>?_) zan h'
   rw [vJ _ _ _ zan]
   by_cases hij:i=j
   ·subst hij; simp
   ·rw [if_neg hij,hl j hj]
    omega
theorem before_foldl (ops:List Oper) : ∀ (acc:Array Nat),(ops.foldl (init:=acc) fun acc o=>acc.push (o.after.foldl (fun s e=>if Region.binds .any e then s ||| 2 ^ e.on ||| acc.getD e.on 0 else s) 0)).size=acc.size + ops.length
  := by
 induction ops with
 | nil=>intro acc; simp
 | cons o l ih=>intro acc; simp only [List.foldl_cons,ih,Array.size_push,List.length_cons]; omega
theorem jf {listed:Array Bool} (hc:Closed ops listed) :
  ∀ (pre:List Oper) (acc:Array Nat),acc.size=pre.length→(∀ (j:Nat) (o:Oper),pre[j]? = some o→ops[j]? = some o) →
   (∀ j,j < acc.size → ∀ b,(acc.getD j 0).testBit b=true→(∀ e ∈ ((ops[j]?).map (·.after)).getD #[],Region.binds .any e=true→listed.getD e.on false=true)→listed.getD b false=true) →
   ∀ (suf:List Oper),ops.toList=pre ++ suf →
   ∀ j,j < ops.size → ∀ b,((suf.foldl (init:=acc) fun acc o=>acc.push (o.after.foldl (fun s e=>if Region.binds .any e then s ||| 2 ^ e.on ||| acc.getD e.on 0 else s) 0)).getD j 0).testBit b=true →
    (∀ e ∈ ((ops[j]?).map (·.after)).getD #[],Region.binds .any e=true→listed.getD e.on false=true)→listed.getD b false=true:=by
 intro pre acc hsz hpre hacc suf
 induction suf generalizing pre acc with
 | nil =>
  intro he j hj b hb hall
  have:j < acc.size:=by rw [hsz]; rw [List.append_nil] at he; rw [← he]; simpa using hj
  exact hacc j this b hb hall
 | cons o suf ih =>
  intro he
  refine ih (pre ++ [o]) _ (by simp [hsz]) ?_ ?_ (by simp [he])
  ·intro j oj hj
   have:=congrArg (fun l=>l[j]?) he
   simp only [Array.getElem?_toList] at this
   rw [this]
   by_cases h:j < (pre ++ [o]).length
   ·rw [show pre ++ o :: suf=(pre ++ [o]) ++ suf by simp,List.getElem?_append_left h]
    exact hj
   ·rw [List.getElem?_eq_none zan] at hj
    cases hj
  ·intro j hj b hb hall
   rw [Array.size_push] at hj
   by_cases hjl:j < acc.size
   ·refine hacc j hjl b ?_ hall
    simp only [Array.getD_eq_getD_getElem?] at hb ⊢
    rw [Array.getElem?_push_lt hjl] at hb
    rw [Array.getElem?_eq_getElem hjl]
    exact hb
   ·have hje:j=acc.size:=by omega
    subst hje
    have ho:ops[acc.size]? = some o:=by
     have:=congrArg (fun l=>l[acc.size]?) he
     simp only [Array.getElem?_toList] at this
     rw [this,List.getElem?_append_right zan]
     simp [hsz]
    rw [ho] at hall
    simp only [Option.map_some,Option.getD_some] at hall
    have hb':(o.after.foldl (fun s e=>if Region.binds .any e then s ||| 2 ^ e.on ||| acc.getD e.on 0 else s) 0).testBit b=true:=by
     simpa [Array.getD_eq_getD_getElem?] using hb
    have key : ∀ (es:List Edge) (s:Nat),(∀ e ∈ es,Region.binds .any e=true→listed.getD e.on false=true)→(s.testBit b=true→listed.getD b false=true) →
      (es.foldl (fun s e=>if Region.binds .any e then s ||| 2 ^ e.on ||| acc.getD e.on 0 else s) s).testBit b=true→listed.getD b false=true:=by
     intro es
     induction es with
     | nil=>intro s _ hs h; exact hs h
     | cons e es ihe =>
      intro s hall hs h
      rw [List.foldl_cons] at h
      refine ihe _ (fun e' he'=>hall e' (by simp [he'])) ?_ h
      by_cases hbd:Region.binds .any e=true
      ·rw [if_pos hbd]
       intro ht
       have hel:=hall e zao hbd
       rw [Nat.testBit_or,Nat.testBit_or] at ht
       simp only [Bool.or_eq_true] at ht
       rcases ht with (ht | ht) | ht
       ·exact hs ht
       ·have:e.on=b:=by
         rw [Nat.testBit_two_pow] at ht
         simpa using ht
        rw [← this]; exact hel
       ·by_cases hes:e.on < acc.size
        ·refine hacc e.on hes b ht ?_
         intro e' he' hb'
         cases hoe:ops[e.on]? with
         | none=>rw [hoe] at he'; simp at he'
         | some oe =>
          rw [hoe] at he'
          exact hc e.on oe hoe hel e' (by simpa using he') hb'
        ·simp only [Array.getD_eq_getD_getElem?] at ht
         rw [Array.getElem?_eq_none zan] at ht
         simp at ht
      ·rw [if_neg hbd]; exact hs
    refine key o.after.toList 0 (fun e he hb=>hall e (by simpa using he) hb) zao ?_
    rw [Array.foldl_toList]
    exact hb'
theorem jy {D:Draw} {g:Fr} {w:World} {p:Prop} : ∀ (l:List Oper) (i:Nat),(∀ j o,l[j]? = some o→D.V (i + j) (g (o.dst.getD 0)) w)→allV D g w l i p→p
 | [],_,_,h=>h
 | o :: l,i,hv,h=>jy l (i + 1) (fun j o' hj=>by
   have:=hv (j + 1) o' (by simpa using hj)
   rwa [show i + (j + 1)=i + 1 + j by omega] at this) (h (hv 0 o rfl))
theorem kL {D:Draw} {g:Fr} {w:World} {p:Prop} : ∀ (l:List Nat),(∀ j ∈ l,D.V j (g (vq ops j)) w)→givens ops D g w l p→p
 | [],_,h=>h
 | j :: l,hv,h=>kL l (fun j' hj=>hv j' (by simp [hj])) (h (hv j zao))
theorem owes_at {ds:List Nat} {D:Draw} : ∀ (l:List Oper) (i:Nat),Owes P rd n dm ops ds D f l i → ∀ j o,l[j]? = some o→Owe P rd n dm ops ds D f (i + j) o
 | [],_,_,j,o,hj=>by simp at hj
 | o :: l,i,h,0,o',hj=>by simp at hj; subst hj; exact h.1
 | o :: l,i,h,j + 1,o',hj=>by
  have:=owes_at l (i + 1) h.2 j o' (by simpa using hj)
  rwa [show i + 1 + j=i + (j + 1) by omega] at this
theorem jF (listed:Array Bool) (j:Nat) (h:listed.size ≤ j):listed.getD j false=false:=by
 rw [Array.getD_eq_getD_getElem?,Array.getElem?_eq_none h]; rfl
theorem plus_set (listed:Array Bool) (i:Nat) (hi:i < listed.size):plus (fun j=>listed.getD j false) i=fun j=>(listed.setIfInBounds i true).getD j false:=by
 funext j
 rw [vJ _ _ _ hi]
 unfold plus
 by_cases h:i=j
 ·subst h; simp
 ·rw [if_neg h]
  cases hb:Nat.beq j i with
  | true=>exact absurd (Nat.eq_of_beq_eq_true hb).symm h
  | false=>rfl
theorem yR (k j:Nat):(Array.replicate k false).getD j false=false:=by
 simp only [Array.getD_eq_getD_getElem?,Array.getElem?_replicate]
 split <;> rfl
theorem wc_draw {id:Nat} {l:List Oper} (m:Nat) (D:Draw) (hm:P.follows .mixedOrders=true) (hB:drawB l.toArray m=true)
  (hst : ∀ L i v w w',L i=true→D.Le L w w'→D.V i v w→D.V i v w') (hT:D.T (fun _=>false) { w with drawn:=w.drawn + 1 })
  (ho:Owes P rd n dm l.toArray ((l.take m).filterMap (·.dst)) D f (l.take m) 0)
  (hq : ∀ L g w,(∀ j,L j=decide (j < m))→D.T L w→allV D g w (l.take m) 0 (wl P rd n dm l.toArray (l.drop m) Q (mask ((l.take m).filterMap (·.dst)) g f) w)):wc P rd n dm (.region id l.toArray true) Q f w:=by
 intro a ha
 refine wpIn_region_any hm ?_
 simp only [drawB,Bool.and_eq_true,decide_eq_true_eq,List.all_eq_true] at hB
 obtain ⟨⟨⟨⟨hsome,hnd⟩,hback⟩,htail⟩,hml⟩ := hB
 simp only [List.size_toArray] at hml
 generalize hds:(l.take m).filterMap (·.dst)=ds at *
 have hb:Back l.toArray:=by
  intro i o hi e he hbd
  have:=hback (o,i) (by
   rw [List.mem_zipIdx_iff_getElem?]
   simpa using hi) e (by simpa using he)
  simp only [hbd,Bool.not_true,Bool.false_or,decide_eq_true_eq] at this
  exact this
 have hord : ∀ k,m ≤ k→k < l.toArray.size → ∀ listed:Array Bool,listed.size=l.toArray.size→k ∈ Region.ready .any l.toArray listed→Closed l.toArray listed → ∀ j,j < k→listed.getD j false=true:=by
  intro k hmk hk listed hs hr hc j hj
  have hkl:k < l.length:=by simpa using hk
  have h1:=htail (l[k],k) (by
   rw [List.mem_zipIdx_iff_getElem?]
   simp)
  simp only [Bool.or_eq_true,decide_eq_true_eq] at h1
  rcases h1 with h1 | h1
  ·omega
  ·rw [List.all_eq_true] at h1
   have h2:=h1 j (by simpa using hj)
   rw [mem_ready] at hr
   obtain ⟨_,o,ho',hall⟩ := hr
   refine jf hc [] #[] rfl zao zao l.toArray.toList zao k hk j ?_ ?_
   ·unfold Region.before at h2
    rw [← Array.foldl_toList] at h2
    exact h2
   ·rw [ho']
    simpa using hall
 have hmd : ∀ j o,(l.take m)[j]? = some o→j < m∧l.toArray[j]? = some o ∧ ∃ d,o.dst=some d∧d ∈ ds:=by
  intro j o hj
  have hjm:j < m:=by
   have:=(List.getElem?_eq_some_iff.1 hj).1
   simp at this; omega
  have hjo:l[j]? = some o:=by rw [List.getElem?_take] at hj; simpa [hjm] using hj
  have hso:=hsome o (List.mem_of_getElem? hj)
  cases hd:o.dst with
  | none=>rw [hd] at hso; simp at hso
  | some d=>exact ⟨hjm,by simpa using hjo,d,rfl,by rw [← hds]; exact List.mem_filterMap.2 ⟨o,List.mem_of_getElem? hj,hd⟩⟩
 have hinj : ∀ (i j:Nat) (oi oj:Oper) (d:Nat),(l.take m)[i]? = some oi→(l.take m)[j]? = some oj→oi.dst=some d→oj.dst=some d→i=j:=by
  have hgen : ∀ (L:List Oper),(L.filterMap (·.dst)).Nodup → ∀ (i j:Nat) (oi oj:Oper) (d:Nat),L[i]? = some oi→L[j]? = some oj→oi.dst=some d→oj.dst=some d→i=j:=by
   intro L
   induction L with
   | nil=>intro _ i j oi oj d h; simp at h
   | cons o L ih =>
    intro hn i j oi oj d hi hj hdi hdj
    have hn':(L.filterMap (·.dst)).Nodup:=by
     rw [List.filterMap_cons] at hn
     split at hn
     ·exact hn
     ·exact (List.nodup_cons.1 hn).2
    have hno : ∀ (k:Nat) (ok:Oper) (dd:Nat),L[k]? = some ok→o.dst=some dd→ok.dst ≠ some dd:=by
     intro k ok dd hk hod hkd
     rw [List.filterMap_cons,hod] at hn
     exact (List.nodup_cons.1 hn).1 (List.mem_filterMap.2 ⟨ok,List.mem_of_getElem? hk,hkd⟩)
    cases i with
    | zero =>
     cases j with
     | zero=>rfl
     | succ j=>simp at hi; subst hi; exact absurd hdj (hno j oj d (by simpa using hj) hdi)
    | succ i =>
     cases j with
     | zero=>simp at hj; subst hj; exact absurd hdi (hno i oi d (by simpa using hi) hdj)
     | succ j=>rw [ih hn' i j oi oj d (by simpa using hi) (by simpa using hj) hdi hdj]
  exact hgen _ (by rw [hds]; exact hnd)
 have main : ∀ (fuel:Nat) (listed:Array Bool) (g:Fr) (a:Act) (w:World),listed.size=l.length→fuel + cnt listed l.length=l.length→Closed l.toArray listed→(∀ j,m ≤ j→j < l.length→listed.getD j false=false) →
   Is n dm a (mask ds g f)→D.T (fun j=>listed.getD j false) w→(∀ j o,(l.take m)[j]? = some o→listed.getD j false=true→D.V j (g (o.dst.getD 0)) w)→wpAnyIn (fen rd) 0 P .any l.toArray (lift n Q) fuel listed a w:=by
  intro fuel
  induction fuel with
  | zero =>
   intro listed g a w hs hcnt hc hno ha hT hV
   have hall:=cnt_full listed l.length zan
   have hm':m=l.length:=by
    by_cases h:m < l.length
    ·have:=hno m (Nat.le_refl _) h
     rw [hall m h] at this
     cases this
    ·omega
   have hfin:=jy (l.take m) 0 (fun j o hj=>by rw [Nat.zero_add]; exact hV j o hj (hall j (by have:=(hmd j o hj).1; omega))) (hq _ g w (fun j=>by
    by_cases hj:j < l.length
    ·rw [hall j hj,decide_eq_true zan]
    ·rw [jF listed j zan,decide_eq_false zan]) hT)
   rw [List.drop_eq_nil_of_le zan] at hfin
   refine ⟨?_,?_⟩
   ·refine List.eq_nil_iff_forall_not_mem.2 fun i hi=>?_
    obtain ⟨h1,h2⟩ := jo (ops:=l.toArray) (by simpa using hs) hi
    rw [hall i (by simpa using h1)] at h2
    cases h2
   ·exact hfin a ha
  | succ fuel ih =>
   intro listed g a w hs hcnt hc hno ha hT hV
   have hs':listed.size=l.toArray.size:=by simpa using hs
   refine ⟨fun hr=>?_,fun i hi=>?_⟩
   ·have hall:=ready_nil hb hs' hr
    have:=cnt_all listed l.length (fun j hj=>hall j (by simpa using hj))
    omega
   ·obtain ⟨h1,h2⟩ := jo hs' hi
    have h1':i < l.length:=by simpa using h1
    by_cases him:i < m
    ·have hio:(l.take m)[i]? = some l[i]:=by
      rw [List.getElem?_take,if_pos him]
      exact List.getElem?_eq_getElem h1'
     obtain ⟨_,hio',d,hd,hdds⟩ := hmd i _ hio
     have howe:=owes_at _ 0 ho i _ hio (fun j=>listed.getD j false) g w (by rw [Nat.zero_add]; exact h2) hT
     rw [Nat.zero_add] at howe
     have hready:=hi
     rw [mem_ready] at hready
     obtain ⟨_,o,hoo,hall⟩ := hready
     rw [hio'] at hoo
     cases hoo
     have hwl:=kL (ops:=l.toArray) (v8 l[i]) (fun j hj=>by
      unfold v8 at hj
      obtain ⟨e,he,rfl⟩ := List.mem_map.1 hj
      obtain ⟨he1,he2⟩ := List.mem_filter.1 he
      have hbd:Region.binds .any e=true:=by
       unfold Region.binds
       cases hg:e.ground <;> rw [hg] at he2 <;> simp at he2 ⊢
      have hlt:=hb i _ hio' e (by simpa using he1) hbd
      have hlst:=hall e (by simpa using he1) hbd
      have hjm:e.on < m:=by omega
      have hjo:(l.take m)[e.on]? = some l[e.on]:=by
       rw [List.getElem?_take,if_pos hjm]
       exact List.getElem?_eq_getElem zan
      have:=hV e.on _ hjo hlst
      unfold vq
      obtain ⟨_,hj2,dj,hdj,_⟩ := hmd _ _ hjo
      rw [hj2]
      simp only [zar]
      exact this) howe
     rw [hd] at hwl
     refine wpOp_of_wl hio' hwl (fun dm e f' w' q=>q.1) ?_ ha
     rintro dm' a' f' w' ha' ⟨_,rfl,hT',hL',v,rfl,hV'⟩
     have hmask:upd (mask ds g f) d v=mask ds (upd g d v) f:=by
      funext k
      by_cases hk:k=d
      ·subst hk
       rw [upd_same,yb hdds,upd_same]
      ·rw [ya _ _ _ _ hk]
       by_cases hkd:k ∈ ds
       ·rw [yb hkd,yb hkd,ya _ _ _ _ hk]
       ·rw [x7 hkd,x7 hkd]
     simp only [Option.getD_some] at ha'
     rw [hmask] at ha'
     rw [plus_set listed i zan] at hT'
     refine ih _ (upd g d v) a' w' (by simpa using hs) ?_ (hc.set hs' hi) ?_ ha' hT' ?_
     ·rw [cnt_set listed i zan h2,if_pos h1']; omega
     ·intro j hmj hjl
      rw [vJ _ _ _ zan,if_neg zan]
      exact hno j hmj hjl
     ·intro j oj hj hlj
      obtain ⟨_,_,dj,hdj,_⟩ := hmd j oj hj
      rw [vJ _ _ _ zan] at hlj
      by_cases hij:i=j
      ·subst hij
       rw [hio] at hj
       cases hj
       rw [hd]
       simp only [Option.getD_some,upd_same]
       exact hV'
      ·rw [if_neg hij] at hlj
       have hne:dj ≠ d:=fun e=>hij (hinj i j _ oj d hio hj hd (by rw [hdj,e]))
       have:=hst _ j _ _ _ hlj hL' (hV j oj hj hlj)
       rw [hdj] at this ⊢
       simp only [Option.getD_some] at this ⊢
       rw [ya _ _ _ _ hne]
       exact this
    ·have hallj:=hord i zan h1 listed hs' hi hc
     have him':i=m:=by
      by_cases h:m < i
      ·have:=hno m (Nat.le_refl _) zan
       rw [hallj m h] at this
       cases this
      ·omega
     subst him'
     have hfin:=jy (l.take i) 0 (fun j o hj=>by rw [Nat.zero_add]; exact hV j o hj (hallj j (by have:=(hmd j o hj).1; omega))) (hq _ g w (fun j=>by
      by_cases hj:j < i
      ·rw [hallj j hj,decide_eq_true hj]
      ·rw [decide_eq_false hj]
       by_cases hjl:j < l.length
       ·exact hno j zan hjl
       ·exact jF listed j zan) hT)
     have hfa:=hfin a ha
     have hcn:cnt listed l.length=i:=by
      have hz : ∀ k,i ≤ k→k ≤ l.length→cnt listed k=i:=by
       intro k
       induction k with
       | zero=>intro h _; rw [show i=0 by omega]; rfl
       | succ k ihk =>
        intro h1 h2
        by_cases hk:i ≤ k
        ·rw [kB,ihk hk zan,hno k hk zan]; simp
        ·have:k + 1=i:=by omega
         rw [this]
         exact cnt_all listed i hallj
      exact hz _ zan (Nat.le_refl _)
     have htl:=any_tail (rd:=rd) (P:=P) (m:=i) (R:=lift n Q) hb hord (fuel + 1) i listed a w (Nat.le_refl _) hs' hc (fun j hj=>⟨(fun h=>by
      refine Nat.lt_of_not_le fun hij=>?_
      rw [hno j hij (by simpa using hj)] at h
      cases h),hallj j⟩) (by simp; omega) hfa
     exact htl.2 i hi
 have h0:Is n dm a (mask ds f f):=by
  have:mask ds f f=f:=by funext k; unfold mask; cases ds.elem k <;> rfl
  rw [this]; exact ha
 have hz:cnt (Array.replicate l.toArray.size false) l.length=0:=by
  unfold cnt
  rw [List.length_eq_zero_iff]
  refine List.filter_eq_nil_iff.2 fun j hj=>?_
  rw [yR]
  simp
 refine main _ _ f a _ zao (by rw [hz]; simp) ?_ (by intro j _ _; rw [yR]) h0 (by rw [show (fun j=>(Array.replicate l.toArray.size false).getD j false)=fun _=>false from funext fun j=>yR _ j]; exact hT) ?_
 ·intro j o _ h; rw [yR] at h; cases h
 ·intro j o _ h; rw [yR] at h; cases h
end
end Gw
end
section
open Go.RowKit
namespace Gw
def QRun (P:Program) (T:World→Prop) (o:Oper) (f:Fr) (v:Value):Prop := ∀ w,T w→match (execOp (evF f) o).run P w with
 | .ok (.value v') w'=>v'=v∧T w'
 | .ok (.enter g args) w'=>Calls P g args w' fun e w''=>e = .returned v∧T w''
 | _=>False
def QOp (P:Program) (ops:Array Oper) (T:World→Prop) (o:Oper) (f:Fr) (v:Value):Prop:=match o.guard with
 | none=>QRun P T o f v
 | some (j,pol) => ∃ c t,f (vq ops j)=gv c (.bool t)∧(ops[j]?).isSome∧((c && (t == pol))=true→QRun P T o f v)∧((c && (t == pol))=false→v=undef)
def wq (P:Program) (ops:Array Oper) (T:World→Prop):List Oper→(Fr→Prop)→Fr→Prop
 | [],K,f=>K f
 | o :: l,K,f => ∃ v,QOp P ops T o f v∧wq P ops T l K (upd f (o.dst.getD 0) v)
def needsB (ops:Array Oper) (m n:Nat):Bool :=
 let ds:=(ops.toList.take m).filterMap (·.dst)
 (ops.toList.take m).all fun o =>
  (o.op.operands.toList.all fun x=>match x with
   | .tmp t => !ds.elem t || (v8 o).any fun j=>(((ops[j]?).bind (·.dst)) == some t)
   | _=>true) &&
  (match o.guard with
   | none=>true
   | some (j,_)=>(v8 o).elem j && (((ops[j]?).bind (·.dst)).any fun t=>decide (t < n))) &&
  (match o.op with | .select .. => false | _=>true) &&
  (match o.dst with | some d=>decide (d < n) | none=>false)
section
variable {P:Program} {rd:Option Nat} {n m:Nat} {dm:List Nat} {ops:Array Oper} {Q:Post} {f:Fr} {w:World} {T:World→Prop} {l:List Oper} {K:Fr→Prop}
theorem qrun_does {o:Oper} {v:Value} (h : ∀ w,T w→Does P o f w v w):QRun P T o f v:=fun w hw=>by
 rw [show (execOp (evF f) o).run P w=_ from h w hw]
 exact ⟨rfl,hw⟩
theorem qrun_call {o:Oper} {v:Value} {g:FuncId} {args:Array Value} (he : ∀ w,Enters P o f w g args) (h : ∀ w,T w→Calls P g args w fun e w' => ∃ v',e = .returned v'∧(v'=v∧Ext w w')) (hT : ∀ w w',T w→Ext w w'→T w'):QRun P T o f v:=fun w hw=>by
 rw [show (execOp (evF f) o).run P w=_ from he w]
 exact (h w hw).mono fun e w' ⟨v',he,hv,hx⟩ => ⟨by rw [he,hv],hT w w' hw hx⟩
theorem vj (h:K f):wq P ops T [] K f:=h
theorem zC {d:Tmp} {op:Op} {ty:TypeId} {pos:String} {af:Array Edge} {v:Value} (h : ∀ w,T w→Does P ⟨some d,op,ty,pos,af,none⟩ f w v w) (k:wq P ops T l K (upd f d v)):wq P ops T (⟨some d,op,ty,pos,af,none⟩ :: l) K f :=
 ⟨v,qrun_does h,k⟩
theorem wq_call {d:Tmp} {op:Op} {ty:TypeId} {pos:String} {af:Array Edge} {v:Value} {g:FuncId} {args:Array Value} (he : ∀ w,Enters P ⟨some d,op,ty,pos,af,none⟩ f w g args) (h : ∀ w,T w→Calls P g args w fun e w' => ∃ v',e = .returned v'∧(v'=v∧Ext w w'))
  (hT : ∀ w w',T w→Ext w w'→T w') (k:wq P ops T l K (upd f d v)):wq P ops T (⟨some d,op,ty,pos,af,none⟩ :: l) K f :=
 ⟨v,qrun_call he h hT,k⟩
theorem wq_guard2 {d:Tmp} {op:Op} {ty:TypeId} {pos:String} {af:Array Edge} {j:Nat} {pol c t:Bool} {v:Value} {oj:Oper} {dj:Tmp} (hj:ops[j]? = some oj) (hdj:oj.dst=some dj) (ht:f dj=gv c (.bool t))
  (h:(c && (t == pol))=true → ∀ w,T w→Does P ⟨some d,op,ty,pos,af,some (j,pol)⟩ f w v w) (k:wq P ops T l K (upd f d (gv (c && (t == pol)) v))):wq P ops T (⟨some d,op,ty,pos,af,some (j,pol)⟩ :: l) K f:=by
 refine ⟨gv (c && (t == pol)) v,⟨c,t,by simp [vq,hj,hdj,ht],by simp [hj],fun e=>?_,fun e=>?_⟩,k⟩
 ·rw [zn e]; exact qrun_does (h e)
 ·rw [e,gv_f]
theorem vy {d:Tmp} {op:Op} {ty:TypeId} {pos:String} {af:Array Edge} {j:Nat} {pol t:Bool} {v:Value} {oj:Oper} {dj:Tmp} (hj:ops[j]? = some oj) (hdj:oj.dst=some dj) (ht:f dj = .bool t)
  (h:(t == pol)=true → ∀ w,T w→Does P ⟨some d,op,ty,pos,af,some (j,pol)⟩ f w v w) (k:wq P ops T l K (upd f d (gv (t == pol) v))):wq P ops T (⟨some d,op,ty,pos,af,some (j,pol)⟩ :: l) K f :=
 wq_guard2 (c:=true) hj hdj (by rw [ht]; exact gv_t _) h k
theorem wq_gcall2 {d:Tmp} {op:Op} {ty:TypeId} {pos:String} {af:Array Edge} {j:Nat} {pol c t:Bool} {v:Value} {oj:Oper} {dj:Tmp} {g:FuncId} {args:Array Value} (hj:ops[j]? = some oj) (hdj:oj.dst=some dj) (ht:f dj=gv c (.bool t))
  (he:(c && (t == pol))=true → ∀ w,Enters P ⟨some d,op,ty,pos,af,some (j,pol)⟩ f w g args) (h:(c && (t == pol))=true → ∀ w,T w→Calls P g args w fun e w' => ∃ v',e = .returned v'∧(v'=v∧Ext w w'))
  (hT : ∀ w w',T w→Ext w w'→T w') (k:wq P ops T l K (upd f d (gv (c && (t == pol)) v))):wq P ops T (⟨some d,op,ty,pos,af,some (j,pol)⟩ :: l) K f:=by
 refine ⟨gv (c && (t == pol)) v,⟨c,t,by simp [vq,hj,hdj,ht],by simp [hj],fun e=>?_,fun e=>?_⟩,k⟩
 ·rw [zn e]; exact qrun_call (he e) (h e) hT
 ·rw [e,gv_f]
theorem wq_gcall {d:Tmp} {op:Op} {ty:TypeId} {pos:String} {af:Array Edge} {j:Nat} {pol t:Bool} {v:Value} {oj:Oper} {dj:Tmp} {g:FuncId} {args:Array Value} (hj:ops[j]? = some oj) (hdj:oj.dst=some dj) (ht:f dj = .bool t)
  (he:(t == pol)=true → ∀ w,Enters P ⟨some d,op,ty,pos,af,some (j,pol)⟩ f w g args) (h:(t == pol)=true → ∀ w,T w→Calls P g args w fun e w' => ∃ v',e = .returned v'∧(v'=v∧Ext w w'))
  (hT : ∀ w w',T w→Ext w w'→T w') (k:wq P ops T l K (upd f d (gv (t == pol) v))):wq P ops T (⟨some d,op,ty,pos,af,some (j,pol)⟩ :: l) K f :=
 wq_gcall2 (c:=true) hj hdj (by rw [ht]; exact gv_t _) he h hT k
theorem wq_vals : ∀ (l:List Oper) (f:Fr),wq P ops T l K f → ∃ F:Nat→Fr,F 0=f∧K (F l.length) ∧ ∀ (i:Nat) (o:Oper),l[i]? = some o → ∃ v,QOp P ops T o (F i) v∧F (i + 1)=upd (F i) (o.dst.getD 0) v
 | [],f,h=>⟨fun _=>f,rfl,h,fun i o hi=>by simp at hi⟩
 | o :: l,f,h=>by
  obtain ⟨v,hv,hk⟩ := h
  obtain ⟨F,h0,hK,hF⟩ := wq_vals l _ hk
  refine ⟨fun i=>match i with | 0=>f | i + 1=>F i,rfl,hK,fun i o' hi=>?_⟩
  cases i with
  | zero =>
   simp at hi; subst hi
   exact ⟨v,hv,h0⟩
  | succ i=>exact hF i o' (by simpa using hi)
theorem qrun_congr {o:Oper} {f f':Fr} {v:Value} (hs : ∀ cs b,o.op ≠ .select cs b) (h : ∀ x ∈ o.op.operands,evF f x=evF f' x) (q:QRun P T o f v):QRun P T o f' v:=by
 unfold QRun at q ⊢
 rw [← execOp_congr o hs h]
 exact q
theorem wl_of_qrun {d:Tmp} {op:Op} {ty:TypeId} {pos:String} {af:Array Edge} {gd:Option (Nat × Bool)} {v:Value} {f:Fr} (q:QRun P T ⟨some d,op,ty,pos,af,gd⟩ f v) (hd:d < n) (hw:T w) {a:Act} (ha:Is n dm a f) :
  ∀ (K':Act→World→Prop) (R:Exit→Act→World→Prop),(∀ w',T w'→K' (a.put (some d) v) w')→(⟨some d,op,ty,pos,af,gd⟩ : Oper).wpIn (fen rd) 0 P a w K' R:=by
 intro K' R hK
 have h:=q w hw
 generalize hr:(execOp (evF f) (⟨some d,op,ty,pos,af,gd⟩ : Oper)).run P w=r at h
 cases r with
 | halt x w'=>exact h.elim
 | ok nx w' =>
  cases nx with
  | value v'=>obtain ⟨rfl,hT⟩ := h; exact op_wp ha hr zao (hK _ hT)
  | enter g args =>
   refine op_wp ha hr zao (show _∧_ from ⟨fun h=>(by cases h),?_⟩)
   refine CallsIn.mono (show CallsIn (fen rd) _ P g args w' _ from callsIn_wide.2 h) fun e w'' ⟨he,hT⟩ => ?_
   subst he; exact hK _ hT
  | _=>exact h.elim
theorem x0 {id:Nat} {l:List Oper} (m:Nat) (T:World→Prop) (hm:P.follows .mixedOrders=true) (hB:drawB l.toArray m=true) (hN:needsB l.toArray m n=true) (hT:T { w with drawn:=w.drawn + 1 })
  (h:wq P l.toArray T (l.take m) (fun f' => ∀ w,T w→wl P rd n dm l.toArray (l.drop m) Q f' w) f):wc P rd n dm (.region id l.toArray true) Q f w:=by
 obtain ⟨F,hF0,hFK,hF⟩ := wq_vals _ _ h
 have hB':=hB
 simp only [drawB,Bool.and_eq_true,decide_eq_true_eq,List.all_eq_true] at hB
 obtain ⟨⟨⟨⟨hsome,hnd⟩,hback⟩,htail⟩,hml⟩ := hB
 simp only [List.size_toArray] at hml
 have hlen:(l.take m).length=m:=by simp; omega
 -- the values
 have hval : ∀ (i:Nat) (o:Oper),(l.take m)[i]? = some o → ∃ v,QOp P l.toArray T o (F i) v∧F (i + 1)=upd (F i) (o.dst.getD 0) v:=hF
 let V:Veil:=fun i v _ => ∀ o,(l.take m)[i]? = some o→v=F (i + 1) (o.dst.getD 0)
 -- slots of later operations keep what earlier ones have made
 have hdist : ∀ (i j:Nat) (oi oj:Oper) (d:Nat),(l.take m)[i]? = some oi→(l.take m)[j]? = some oj→oi.dst=some d→oj.dst=some d→i=j:=by
  have hgen : ∀ (L:List Oper),(L.filterMap (·.dst)).Nodup → ∀ (i j:Nat) (oi oj:Oper) (d:Nat),L[i]? = some oi→L[j]? = some oj→oi.dst=some d→oj.dst=some d→i=j:=by
   intro L
   induction L with
   | nil=>intro _ i j oi oj d h; simp at h
   | cons o L ih =>
    intro hn i j oi oj d hi hj hdi hdj
    have hn':(L.filterMap (·.dst)).Nodup:=by
     rw [List.filterMap_cons] at hn
     split at hn
     ·exact hn
     ·exact (List.nodup_cons.1 hn).2
    have hno : ∀ (k:Nat) (ok:Oper) (dd:Nat),L[k]? = some ok→o.dst=some dd→ok.dst ≠ some dd:=by
     intro k ok dd hk hod hkd
     rw [List.filterMap_cons,hod] at hn
     exact (List.nodup_cons.1 hn).1 (List.mem_filterMap.2 ⟨ok,List.mem_of_getElem? hk,hkd⟩)
    cases i with
    | zero =>
     cases j with
     | zero=>rfl
     | succ j=>simp at hi; subst hi; exact absurd hdj (hno j oj d (by simpa using hj) hdi)
    | succ i =>
     cases j with
     | zero=>simp at hj; subst hj; exact absurd hdi (hno i oi d (by simpa using hi) hdj)
     | succ j=>rw [ih hn' i j oi oj d (by simpa using hi) (by simpa using hj) hdi hdj]
  exact hgen _ hnd
 have hdst : ∀ (i:Nat) (o:Oper),(l.take m)[i]? = some o → ∃ d,o.dst=some d:=by
  intro i o hi
  have:=hsome o (List.mem_of_getElem? hi)
  cases hd:o.dst with
  | none=>rw [hd] at this; simp at this
  | some d=>exact ⟨d,rfl⟩
 -- F k at a slot: what the one operation behind has made,or f's
 have hkeep : ∀ (k i:Nat) (o:Oper) (d:Nat),(l.take m)[i]? = some o→o.dst=some d→i < k→k ≤ m→F k d=F (i + 1) d:=by
  intro k
  induction k with
  | zero=>intro i o d _ _ h; omega
  | succ k ih =>
   intro i o d hi hd hik hkm
   by_cases hik':i=k
   ·subst hik'; rfl
   ·have hkl:k < (l.take m).length:=by omega
    obtain ⟨v,_,hFk⟩ := hval k _ (List.getElem?_eq_getElem hkl)
    obtain ⟨dk,hdk⟩ := hdst k _ (List.getElem?_eq_getElem hkl)
    rw [hFk,hdk]
    simp only [Option.getD_some]
    rw [ya _ _ _ _ (by
     intro e
     exact hik' (hdist i k o _ d hi (List.getElem?_eq_getElem hkl) hd (by rw [hdk,e])))]
    exact ih i o d hi hd zan zan
 have hout : ∀ (k d:Nat),k ≤ m→d ∉ (l.take m).filterMap (·.dst)→F k d=f d:=by
  intro k
  induction k with
  | zero=>intro d _ _; rw [hF0]
  | succ k ih =>
   intro d hkm hd
   have hkl:k < (l.take m).length:=by omega
   obtain ⟨v,_,hFk⟩ := hval k _ (List.getElem?_eq_getElem hkl)
   obtain ⟨dk,hdk⟩ := hdst k _ (List.getElem?_eq_getElem hkl)
   rw [hFk,hdk]
   simp only [Option.getD_some]
   rw [ya _ _ _ _ (by
    intro e; subst e
    exact hd (List.mem_filterMap.2 ⟨_,List.getElem_mem hkl,hdk⟩))]
   exact ih d zan hd
 refine wc_draw m ⟨fun _=>T,fun _ _ _=>True,V⟩ hm hB' (fun L i v w w' _ _ h=>h) hT ?_ ?_
 ·-- each operation
  have howe : ∀ (L:List Oper) (k:Nat),(∀ j o,L[j]? = some o→(l.take m)[k + j]? = some o)→Owes P rd n dm l.toArray ((l.take m).filterMap (·.dst)) ⟨fun _=>T,fun _ _ _=>True,V⟩ f L k:=by
   intro L
   induction L with
   | nil=>intro k _; trivial
   | cons o L ih =>
    intro k hL
    refine ⟨?_,ih (k + 1) (fun j o' hj=>by
     have:=hL (j + 1) o' (by simpa using hj)
     rwa [show k + (j + 1)=k + 1 + j by omega] at this)⟩
    have hk:(l.take m)[k]? = some o:=hL 0 o rfl
    have hkm:k < m:=by have:=(List.getElem?_eq_some_iff.1 hk).1; omega
    obtain ⟨v,hq,hFk⟩ := hval k o hk
    obtain ⟨d,hd⟩ := hdst k o hk
    intro L g w hLi hTw
    refine (show ∀ (p:Prop),((∀ j ∈ v8 o,V j (g (vq l.toArray j)) w)→p)→givens l.toArray ⟨fun _=>T,fun _ _ _=>True,V⟩ g w (v8 o) p from ?_) _ ?_
    ·intro p
     generalize v8 o=nl
     induction nl with
     | nil=>intro hp; exact hp zao
     | cons j nl ihn =>
      intro hp hj
      exact ihn (fun h'=>hp (fun j' hj'=>by
       rcases List.mem_cons.1 hj' with rfl | hj'
       ·exact hj
       ·exact h' j' hj'))
    intro hneed
    simp only [needsB,List.all_eq_true,Bool.and_eq_true] at hN
    have hNo:=hN o (List.mem_of_getElem? hk)
    obtain ⟨⟨⟨hops,hgd⟩,hsel⟩,hdn⟩ := hNo
    rw [hd] at hdn
    simp only [decide_eq_true_eq] at hdn
    have hsel' : ∀ cs b,o.op ≠ .select cs b:=by
     intro cs b e
     rw [e] at hsel
     cases hsel
    -- a needed slot holds what the run has made
    have hslot : ∀ (j:Nat) (oj:Oper) (t:Nat),j ∈ v8 o→l.toArray[j]? = some oj→oj.dst=some t→mask ((l.take m).filterMap (·.dst)) g f t=F k t:=by
     intro j oj t hj hoj hdj
     have hjk:j < k:=by
      unfold v8 at hj
      obtain ⟨e,he,rfl⟩ := List.mem_map.1 hj
      obtain ⟨he1,he2⟩ := List.mem_filter.1 he
      have hbd:Region.binds .any e=true:=by
       unfold Region.binds
       cases hg:e.ground <;> rw [hg] at he2 <;> simp at he2 ⊢
      have hlk:l[k]? = some o:=by rw [List.getElem?_take] at hk; simpa [hkm] using hk
      have:=hback (o,k) (by rw [List.mem_zipIdx_iff_getElem?]; simpa using hlk) e (by simpa using he1)
      simp only [hbd,Bool.not_true,Bool.false_or,decide_eq_true_eq] at this
      exact this
     have hjm:(l.take m)[j]? = some oj:=by
      rw [List.getElem?_take,if_pos zan]
      simpa using hoj
     have ht:t ∈ (l.take m).filterMap (·.dst):=List.mem_filterMap.2 ⟨oj,List.mem_of_getElem? hjm,hdj⟩
     rw [yb ht,hkeep k j oj t hjm hdj hjk zan]
     have:=hneed j hj oj hjm
     have hda:vq l.toArray j=t:=by simp [vq,hoj,hdj]
     rw [hda,hdj] at this
     exact this
    have hoper : ∀ x ∈ o.op.operands,evF (F k) x=evF (mask ((l.take m).filterMap (·.dst)) g f) x:=by
     intro x hx
     cases x with
     | tmp t =>
      have:=hops (.tmp t) (by simpa using hx)
      simp only [Bool.or_eq_true] at this
      show F k t=mask _ g f t
      by_cases ht:t ∈ (l.take m).filterMap (·.dst)
      ·rcases this with h1 | h1
       ·simp at h1
        obtain ⟨x,hx1,hx2⟩ := List.mem_filterMap.1 ht
        exact absurd hx2 (h1 x hx1)
       ·obtain ⟨j,hj,hjt⟩ := List.any_eq_true.1 h1
        cases hoj:l.toArray[j]? with
        | none=>rw [hoj] at hjt; simp at hjt
        | some oj =>
         rw [hoj] at hjt
         exact (hslot j oj t hj hoj (by simpa using hjt)).symm
      ·rw [x7 ht]; exact hout k t zan ht
     | _=>rfl
    -- run it
    have hVnew:V k v w→True:=fun _=>trivial
    have hvk:v=F (k + 1) (o.dst.getD 0):=by rw [hFk,upd_same]
    have hfin : ∀ w',T w'→obPost dm ⟨fun _=>T,fun _ _ _=>True,V⟩ L k (o.dst.getD 0) (mask ((l.take m).filterMap (·.dst)) g f) w dm .normal (upd (mask ((l.take m).filterMap (·.dst)) g f) (o.dst.getD 0) v) w':=by
     intro w' hT'
     refine ob (D:=⟨fun _=>T,fun _ _ _=>True,V⟩) hT' trivial ?_
     intro o' ho'
     rw [hk] at ho'
     cases ho'
     exact hvk
    obtain ⟨od,oop,oty,opos,oaf,ogd⟩ := o
    simp only at hd
    subst hd
    simp only [Option.getD_some] at hfin
    intro a ha
    cases ogd with
    | none =>
     have q:=qrun_congr hsel' hoper (show QRun P T _ (F k) v from hq)
     refine wpListIn_plain rfl fun K' hK=>?_
     refine wl_of_qrun q hdn hTw ha _ _ fun w' hT'=>hK _ _ ?_
     exact ⟨_,_,ha.put hdn v,hfin w' hT'⟩
    | some gp =>
     obtain ⟨j,pol⟩ := gp
     obtain ⟨c,t,ht,hjs,hqy,hqn⟩ := hq
     simp only [Bool.and_eq_true] at hgd
     obtain ⟨hjn,hjd⟩ := hgd
     cases hoj:l.toArray[j]? with
     | none=>rw [hoj] at hjs; simp at hjs
     | some oj =>
      rw [hoj] at hjd
      simp only [zar,Option.any_eq_true] at hjd
      obtain ⟨dj,hdj,hdjn⟩ := hjd
      have hsl:=hslot j oj dj (by simpa using hjn) hoj hdj
      have hda:vq l.toArray j=dj:=by simp [vq,hoj,hdj]
      rw [hda,← hsl] at ht
      refine wpListIn_step fun K' hK=>?_
      rw [km ha rfl hoj hdj ht (by simpa using hdjn)]
      cases hc:(c && (t == pol)) with
      | true =>
       rw [if_pos rfl]
       have q:=qrun_congr hsel' hoper (hqy hc)
       refine wl_of_qrun q hdn hTw ha _ _ fun w' hT'=>hK _ _ ?_
       exact ⟨_,_,ha.put hdn v,hfin w' hT'⟩
      | false =>
       rw [if_neg zao]
       have hv:v=undef:=hqn hc
       have:=hfin w hTw
       rw [hv] at this
       exact ⟨fun _ _=>trivial,hK _ _ ⟨_,_,ha.put hdn undef,this⟩⟩
  exact howe _ 0 (fun j o hj=>by rw [Nat.zero_add]; exact hj)
 ·-- the tail
  intro L g w _ hTw
  have hall : ∀ (L:List Oper) (k:Nat) (p:Prop),((∀ j o,L[j]? = some o→V (k + j) (g (o.dst.getD 0)) w)→p)→allV ⟨fun _=>T,fun _ _ _=>True,V⟩ g w L k p:=by
   intro L
   induction L with
   | nil=>intro k p hp; exact hp (by intro j o h; simp at h)
   | cons o L ih =>
    intro k p hp hv
    refine ih (k + 1) p fun h'=>hp fun j o' hj=>?_
    cases j with
    | zero=>simp at hj; subst hj; exact hv
    | succ j =>
     have:=h' j o' (by simpa using hj)
     rwa [show k + 1 + j=k + (j + 1) by omega] at this
  refine hall _ 0 _ fun hv=>?_
  have heq:mask ((l.take m).filterMap (·.dst)) g f=F (l.take m).length:=by
   funext k
   by_cases hk:k ∈ (l.take m).filterMap (·.dst)
   ·rw [yb hk]
    obtain ⟨o,ho,hd⟩ := List.mem_filterMap.1 hk
    obtain ⟨i,hi⟩ := List.getElem?_of_mem ho
    have:=hv i o hi
    rw [Nat.zero_add,hd] at this
    have:=this o hi
    rw [hd] at this
    simp only [Option.getD_some] at this
    rw [this]
    exact (hkeep _ i o k hi hd (List.getElem?_eq_some_iff.1 hi).1 zan).symm
   ·rw [x7 hk]; exact (hout _ k zan hk).symm
  rw [heq]
  exact hFK w hTw
end
end Gw
end
section
open Go.RowKit
namespace Gw
def Ob (w:World) (b:Nat) (o:Obj):Prop:=w.heap[b]? = some o
theorem Ob.lt {w:World} {b:Nat} {o:Obj} (h:Ob w b o):b < w.heap.size:=(Array.getElem?_eq_some_iff.1 h).1
theorem Ob.chg {S:Nat→Prop} {w w':World} {b:Nat} {o:Obj} (h:Ob w b o) (hc:Chg S w w') (hs:¬ S b):Ob w' b o:=(hc.block b h.lt hs).trans h
theorem Ob.put {w:World} {b:Nat} {o:Obj} (h:Ob w b o) (o':Obj):Ob (w.putObj b o') b o':=World.putObj_heap_same h.lt
theorem Ob.thaw {w:World} {b:Nat} {o:Obj} (h:Ob w b o) (ho:ve (some o):=by exact fun _ _ _ h=>by cases h):ve w.heap[b]? := by rw [show w.heap[b]? = some o from h]; exact ho
theorem Chg.put (w:World) (b:Nat) (o:Obj) (h2:ve w.heap[b]?) (hb:b < w.heap.size) (h1:ve (some o):=by exact fun _ _ _ h=>by cases h):Chg (· = b) w (w.putObj b o):=⟨rfl,rfl,rfl,by simp,fun k _ hk=>World.putObj_heap_other hk,froz_at b (by rw [World.putObj_heap_same hb]; exact h1) h2 fun k hk=>World.putObj_heap_other hk⟩
theorem Ob.alloc_new (w:World) (o:Obj):Ob (w.alloc o) w.heap.size o:=World.alloc_heap_new w o
theorem Ext.alloc (w:World) (o:Obj) (h:ve (some o):=by exact fun _ _ _ h=>by cases h):Ext w (w.alloc o):=⟨rfl,rfl,rfl,by simp,fun k hk _=>heap_alloc_old (h:=hk) ..,kD w o h⟩
section
variable {P:Program} {rd:Option Nat} {n:Nat} {dm:List Nat} {ops:Array Oper} {Q:Post} {f:Fr} {w:World} {rest:List Oper} {ty:TypeId} {pos:String} {af:Array Edge}
end
end Gw
end
section
open Go.RowKit
namespace Gw
def EqV (P:Program) (m t:Nat) (x y:Value) (b:Bool):Prop := ∀ (d:Nat) (w:World),(Op.equalIn (d + m) t x y).run P w = .ok b w
def EqF (P:Program) (m:Nat) (xs ys:Array Value) (fs:List Field) (b:Bool):Prop := ∀ (d:Nat) (w:World),(Op.eqFields (d + m) xs ys fs).run P w = .ok b w
section
variable {P:Program} {f:Fr} {w:World} {d:Option Tmp} {ty:TypeId} {pos:String} {af:Array Edge} {gd:Option (Nat × Bool)}
theorem EqV.le {m m' t:Nat} {x y:Value} {b:Bool} (h:EqV P m t x y b) (hm:m ≤ m'):EqV P m' t x y b:=fun d w=>by
 have:=h (d + (m' - m)) w
 rwa [show d + (m' - m) + m=d + m' by omega] at this
theorem EqV.int {t:Nat} {k k':IntKind} {a b:Int} (h:P.underlying t=some (.int k')):EqV P 1 t (.int k a) (.int k b) (decide (a=b)):=fun d w=>by
 rw [run_equalIn_int w d t k k' a b h]; congr 1
theorem EqV.str {t:Nat} {a b:ByteArray} (h:P.underlying t=some .string):EqV P 1 t (.string a) (.string b) (decide (a=b)):=fun d w=>by
 rw [run_equalIn_string w d t a b h,beq_toList]
theorem EqF.nil {m:Nat} {xs ys:Array Value}:EqF P m xs ys [] true:=fun d w=>by simp [Op.eqFields]
theorem EqF.one {m:Nat} {xs ys:List Value} {fd:Field} {fs:List Field} {a b:Value} {r1 r2:Bool} (hn:(fd.name == "_")=false) (ht:OneT P fd.type) (hx:xs[fd.offset]? = some a) (hy:ys[fd.offset]? = some b) (he:EqV P m fd.type a b r1)
  (hr:EqF P m xs.toArray ys.toArray fs r2):EqF P m xs.toArray ys.toArray (fd :: fs) (r1 && r2):=fun d w=>by
 have hn':fd.name ≠ "_" := by intro e; rw [e] at hn; simp at hn
 simp only [Op.eqFields,hn',ne_eq,not_false_eq_true,if_true,Sem.run_bind,part,ke ht,Result.andThen_ok,Bool.false_eq_true,if_false,List.getElem?_toArray,hx,hy,Sem.run_pure,he d w]
 cases r1
 ·simp
 ·simpa using hr d w
theorem EqV.struct {m t:Nat} {fs:Array Field} {xs ys:Array Value} {r:Bool} (hu:P.underlying t=some (.struct fs)) (hp:P.stoodInHeld t=false) (h:EqF P m xs ys fs.toList r):EqV P (m + 1) t (.agg xs) (.agg ys) r:=fun d w=>by
 have hf:P.fieldsOf t=fs:=by unfold Program.fieldsOf; rw [hu]
 rw [show d + (m + 1)=(d + m) + 1 from rfl,run_equalIn_struct w (d + m) t xs ys (by rw [hf]; exact hu) hp,hf]
 exact h d w
theorem does_eqv {t u m:TypeId} {x y:Operand} {a b:Array Value} {r:Bool} (hg:P.eqGuardType P.depth t=false) (h:EqV P m t (.agg a) (.agg b) r) (hm:m ≤ 10000) (hx:evF f x = .agg a) (hy:evF f y = .agg b):Does P ⟨d,.binOp .eql t x y u,ty,pos,af,gd⟩ f w (.bool r) w:=by
 have h1:=h.le hm 0 w
 simp only [Nat.zero_add] at h1
 simp only [Does,execOp,hx,hy,Sem.run_bind,run_eqGuard_agg w .eql t x y a b hg,Result.andThen_ok,run_eql_struct,h1,Sem.run_pure]
theorem does_nev {t u m:TypeId} {x y:Operand} {a b:Array Value} {r:Bool} (hg:P.eqGuardType P.depth t=false) (h:EqV P m t (.agg a) (.agg b) r) (hm:m ≤ 10000) (hx:evF f x = .agg a) (hy:evF f y = .agg b):Does P ⟨d,.binOp .neq t x y u,ty,pos,af,gd⟩ f w (.bool (!r)) w:=by
 have h1:=h.le hm 0 w
 simp only [Nat.zero_add] at h1
 simp only [Does,execOp,hx,hy,Sem.run_bind,run_eqGuard_agg w .neq t x y a b hg,Result.andThen_ok,run_neq_struct,h1,Sem.run_pure]
end
-- maps
structure KeyT (P:Program) (t:Nat) {α:Type} [DecidableEq α] (enc:α→Value):Prop where
 eq : ∀ (a b:α) (w:World),(Op.equal t (enc a) (enc b)).run P w = .ok (decide (a=b)) w
 check : ∀ (e:Bool) (a:α) (w:World),(Instr.checkKey e 10000 t (enc a)).run P w = .ok () w
 same : ∀ (a:α),Instr.sameBits 10000 (enc a) (enc a)=true
 now : ∃ desc,P.underlying t=some desc ∧ ∀ a b,Instr.sameNow desc (enc a) (enc b)=none∨Instr.sameNow desc (enc a) (enc b)=some (decide (a=b))
def ChkV (P:Program) (m t:Nat) (v:Value):Prop := ∀ (e:Bool) (d:Nat) (w:World),(Instr.checkKey e (d + m) t v).run P w = .ok () w
theorem ChkV.le {P:Program} {m m' t:Nat} {v:Value} (h:ChkV P m t v) (hm:m ≤ m'):ChkV P m' t v:=fun e d w=>by
 have:=h e (d + (m' - m)) w
 rwa [show d + (m' - m) + m=d + m' by omega] at this
theorem ChkV.int {P:Program} {t:Nat} {k k':IntKind} {a:Int} (h:P.underlying t=some (.int k')):ChkV P 1 t (.int k a):=fun e d w=>by simp [Instr.checkKey,run_underlying h]
theorem ChkV.str {P:Program} {t:Nat} {a:ByteArray} (h:P.underlying t=some .string):ChkV P 1 t (.string a):=fun e d w=>by simp [Instr.checkKey,run_underlying h]
inductive ChkF (P:Program) (m:Nat) (xs:List Value):List Field→Prop
 | nil:ChkF P m xs []
 | one {fd:Field} {fs:List Field} {a:Value} (ht:OneT P fd.type) (hx:xs[fd.offset]? = some a) (he:ChkV P m fd.type a) (hr:ChkF P m xs fs):ChkF P m xs (fd :: fs)
 | agg {fd:Field} {fs:List Field} {a:List Value} {k:Nat} (ht:AggT P fd.type k) (hx:(xs.drop fd.offset).take k=a) (he:ChkV P m fd.type (.agg a.toArray)) (hr:ChkF P m xs fs):ChkF P m xs (fd :: fs)
theorem ChkV.struct {P:Program} {m t:Nat} {fs:Array Field} {xs:List Value} (hu:P.underlying t=some (.struct fs)) (h:ChkF P m xs fs.toList):ChkV P (m + 1) t (.agg xs.toArray):=fun e d w=>by
 rw [show d + (m + 1)=(d + m) + 1 from rfl]
 unfold Instr.checkKey
 simp only [Sem.run_bind,run_underlying hu,Result.andThen_ok]
 rw [← Array.forIn_toList]
 generalize fs.toList=l at h
 clear hu
 induction h with
 | nil=>simp
 | one ht hx he hr ih =>
  rename_i fd fs a
  rw [List.forIn_cons]
  by_cases hn:fd.name = "_"
  ·simpa [hn] using ih
  ·simpa [hn,part,ke ht,hx,he e d w] using ih
 | agg ht hx he hr ih =>
  rename_i fd fs a k
  subst hx
  have h1:(part fd.type xs.toArray fd.offset).run P w = .ok (.agg ((xs.drop fd.offset).take k).toArray) w:=by
   simp [part,run_isAgg_true ht,run_sizeOf ht.2,List.take_drop]
  rw [List.forIn_cons]
  by_cases hn:fd.name = "_"
  ·simpa [hn] using ih
  ·simpa [hn,h1,he e d w] using ih
theorem sameBits_one {k:Nat} {v:Value} (h:(match v with | .int .. | .string _ | .bool _=>true | _=>false)=true):Instr.sameBits k v v=true:=by
 cases v <;> simp at h <;> cases k <;> simp [Instr.sameBits,beq_toListBytes]
theorem sameBits_agg {k:Nat} {l:List Value} (h : ∀ v ∈ l,Instr.sameBits k v v=true):Instr.sameBits (k + 1) (.agg l.toArray) (.agg l.toArray)=true:=by
 have : ∀ (l:List Value),(∀ v ∈ l,Instr.sameBits k v v=true)→((l.zip l).all fun q=>Instr.sameBits k q.1 q.2)=true:=by
  intro l
  induction l with
  | nil=>intro _; rfl
  | cons a l ih=>intro h; simp only [List.zip_cons_cons,List.all_cons,h a zao,Bool.true_and]; exact ih (fun v hv=>h v (by simp [hv]))
 simp only [Instr.sameBits,beq_self_eq_true,Bool.true_and]
 exact this l h
def Fresh (es:Array MapEntry) (c:Nat):Prop:=(es.toList.map (·.born)).Nodup ∧ ∀ e ∈ es.toList,e.born < c
theorem Fresh.push {es:Array MapEntry} {c:Nat} (h:Fresh es c) (k v:Value):Fresh (es.push { key:=k,val:=v,born:=c }) (c + 1):=by
 obtain ⟨h1,h2⟩ := h
 refine ⟨?_,fun e he=>?_⟩
 ·rw [Array.toList_push,List.map_append,List.nodup_append]
  refine ⟨h1,by simp,fun a ha b hb=>?_⟩
  obtain ⟨e,he,rfl⟩ := List.mem_map.1 ha
  simp only [List.map_cons,List.map_nil,List.mem_singleton] at hb
  subst hb
  exact Nat.ne_of_lt (h2 e he)
 ·rw [Array.toList_push] at he
  rcases List.mem_append.1 he with he | he
  ·exact Nat.lt_succ_of_lt (h2 e he)
  ·rw [List.mem_singleton] at he; subst he; exact Nat.lt_succ_self _
theorem Fresh.of_born {es es':Array MapEntry} {c:Nat} (h:Fresh es c) (hb:es'.toList.map (·.born)=es.toList.map (·.born)):Fresh es' c:=by
 refine ⟨by rw [hb]; exact h.1,fun e he=>?_⟩
 have hm:e.born ∈ es.toList.map (·.born):=by rw [← hb]; exact List.mem_map.2 ⟨e,he,rfl⟩
 obtain ⟨e',he',q⟩ := List.mem_map.1 hm
 rw [← q]; exact h.2 e' he'
theorem Fresh.modify {es:Array MapEntry} {c:Nat} (h:Fresh es c) (i:Nat) (k v:Value):Fresh (es.modify i fun e=>{ e with key:=k,val:=v }) c:=by
 refine h.of_born ?_
 apply List.ext_getElem?
 intro j
 simp only [List.getElem?_map,Array.toList_modify,List.getElem?_modify]
 by_cases hij:i=j
 ·subst hij; simp only [if_true]; cases es.toList[i]? <;> rfl
 ·simp only [hij,if_false]; cases es.toList[j]? <;> rfl
def MapB (w:World) (m:Nat) {α β:Type} (C:α→Value) (D:β→Value) (l:List (α × β)):Prop :=
 ∃ (es:Array MapEntry) (clock:Nat),w.heap[m]? = some (.map es clock)∧es.toList.map (fun e=>(e.key,e.val))=(l.map fun q=>(C q.1,D q.2))∧Fresh es clock
section
variable {P:Program} {f:Fr} {w w':World} {d:Option Tmp} {ty:TypeId} {pos:String} {af:Array Edge} {gd:Option (Nat × Bool)} {α β:Type} {C:α→Value} {D:β→Value} {l:List (α × β)} {m:Nat}
theorem MapB.lt (h:MapB w m C D l):m < w.heap.size:=by obtain ⟨es,c,h,_⟩ := h; exact (Array.getElem?_eq_some_iff.1 h).1
theorem MapB.chg {S:Nat→Prop} (h:MapB w m C D l) (hc:Chg S w w') (hs:¬ S m):MapB w' m C D l:=by
 have hl:=h.lt
 obtain ⟨es,c,h,he⟩ := h
 exact ⟨es,c,(hc.block m hl hs).trans h,he⟩
theorem MapB.ext (h:MapB w m C D l) (hc:Ext w w'):MapB w' m C D l:=h.chg hc (fun x=>x)
def look [DecidableEq α] (x:α):List (α × β)→Option β
 | []=>none
 | (k,v) :: l=>if x=k then some v else look x l
def ins [DecidableEq α] (x:α) (y:β):List (α × β)→List (α × β)
 | []=>[(x,y)]
 | (k,v) :: l=>if x=k then (k,y) :: l else (k,v) :: ins x y l
def spot [DecidableEq α] (x:α):List (α × β)→Option Nat
 | []=>none
 | (k,_) :: l=>if x=k then some 0 else (spot x l).map (· + 1)
theorem zah [DecidableEq α] (x:α) : ∀ (l:List (α × β)),look x l=(spot x l).bind fun i=>(l[i]?).map (·.2)
 | []=>rfl
 | (k,v) :: l=>by
  unfold look spot
  by_cases h:x=k
  ·simp [h]
  ·rw [if_neg h,if_neg h,zah x l]
   cases spot x l <;> simp
theorem ins_spot [DecidableEq α] (x:α) (y:β) : ∀ (l:List (α × β)),ins x y l=match spot x l with | none=>l ++ [(x,y)] | some i=>l.modify i fun q=>(q.1,y)
 | []=>rfl
 | (k,v) :: l=>by
  unfold ins spot
  by_cases h:x=k
  ·simp [h]
  ·rw [if_neg h,if_neg h,ins_spot x y l]
   cases spot x l <;> simp
theorem spot_key [DecidableEq α] (x:α) : ∀ (l:List (α × β)) (i:Nat),spot x l=some i → ∃ v,l[i]? = some (x,v)
 | [],i,h=>by cases h
 | (k,v) :: l,i,h=>by
  unfold spot at h
  by_cases e:x=k
  ·subst e
   rw [if_pos rfl] at h; cases h; exact ⟨v,rfl⟩
  ·rw [if_neg e] at h
   cases hs:spot x l with
   | none=>rw [hs] at h; cases h
   | some j =>
    rw [hs] at h
    cases h
    obtain ⟨v',hv⟩ := spot_key x l j hs
    exact ⟨v',by simpa using hv⟩
theorem run_findKey [DecidableEq α] {t:Nat} (K:KeyT P t C) (x:α) (es:List MapEntry) (l:List (α × β)) (he:es.map (fun e=>(e.key,e.val))=l.map fun q=>(C q.1,D q.2)) (w:World) :
  (Instr.findKey t (C x) es).run P w = .ok ((spot x l).bind fun i=>(l[i]?).map fun q=>(i,D q.2)) w:=by
 obtain ⟨desc,hu,hn⟩ := K.now
 have ask : ∀ (es:List MapEntry) (l:List (α × β)) (j:Nat),es.map (fun e=>(e.key,e.val))=l.map (fun q=>(C q.1,D q.2))→(Instr.findAsking t (C x) es j).run P w = .ok ((spot x l).bind fun i=>(l[i]?).map fun q=>(i + j,D q.2)) w:=by
  intro es
  induction es with
  | nil=>intro l j he; cases l with | nil=>rfl | cons=>simp at he
  | cons e es ih =>
   intro l j he
   cases l with
   | nil=>simp at he
   | cons q l =>
    obtain ⟨k,v⟩ := q
    simp only [List.map_cons,List.cons.injEq,Prod.mk.injEq] at he
    obtain ⟨⟨h1,h2⟩,h3⟩ := he
    unfold Instr.findAsking spot
    simp only [Sem.run_bind,h1,K.eq,Result.andThen_ok]
    by_cases hk:x=k
    ·simp [hk,h2]
    ·simp only [hk,decide_false,Bool.false_eq_true,if_false]
     rw [ih l (j + 1) h3]
     cases spot x l with
     | none=>rfl
     | some i=>simp [Nat.add_assoc,Nat.add_comm 1 j]
 have now : ∀ (es:List MapEntry) (l:List (α × β)) (j:Nat),es.map (fun e=>(e.key,e.val))=l.map (fun q=>(C q.1,D q.2))→Instr.findNow desc (C x) es j=none∨Instr.findNow desc (C x) es j=some ((spot x l).bind fun i=>(l[i]?).map fun q=>(i + j,D q.2)):=by
  intro es
  induction es with
  | nil=>intro l j he; cases l with | nil=>exact .inr rfl | cons=>simp at he
  | cons e es ih =>
   intro l j he
   cases l with
   | nil=>simp at he
   | cons q l =>
    obtain ⟨k,v⟩ := q
    simp only [List.map_cons,List.cons.injEq,Prod.mk.injEq] at he
    obtain ⟨⟨h1,h2⟩,h3⟩ := he
    unfold Instr.findNow spot
    rw [h1]
    rcases hn x k with h | h
    ·rw [h]; exact .inl rfl
    ·rw [h]
     by_cases hk:x=k
     ·simp [hk,h2]
     ·simp only [hk,decide_false,if_false]
      rcases ih l (j + 1) h3 with h4 | h4
      ·exact .inl h4
      ·right; rw [h4]; cases spot x l with
       | none=>rfl
       | some i=>simp [Nat.add_assoc,Nat.add_comm 1 j]
 unfold Instr.findKey
 simp only [Sem.run_bind,run_underlying hu,Result.andThen_ok]
 rcases now es l 0 he with h | h
 ·rw [h]; simpa using ask es l 0 he
 ·rw [h]; simp
theorem does_lookup_ok [DecidableEq α] {t kt et:Nat} {x y:Operand} {key:α} {zv:β} (ht:P.underlying t=some (.map kt et)) (K:KeyT P kt C) (hz:(P.info? et).bind (·.zero)=some (D zv)) (hx:evF f x = .map (some m)) (hy:evF f y=C key) (hm:MapB w m C D l) :
  Does P ⟨d,.lookup t x y true,ty,pos,af,gd⟩ f w (.tuple #[D ((look key l).getD zv),.bool (look key l).isSome]) w:=by
 obtain ⟨es,c,hb,he,hF⟩ := hm
 have hz':(zeroValue et).run P w = .ok (D zv) w:=by
  cases hq:P.info? et with
  | none=>simp [hq] at hz
  | some i=>simp [hq] at hz; simp [zeroValue,typeInfo,hq,hz]
 simp only [Does,execOp,hx,hy,Instr.lookup,Sem.run_bind,run_underlying ht,Result.andThen_ok,MapKept.run_getObj_map hb,Sem.run_pure,K.check,run_findKey K key es.toList l he]
 cases hs:spot key l with
 | none=>simp [zah,hs,hz']
 | some i =>
  obtain ⟨v,hv⟩ := spot_key key l i hs
  simp [zah,hs,hv]
def MapStep (w w':World) (m:Nat) (C:α→Value) (D:β→Value) (l:List (α × β)):Prop:=MapB w' m C D l∧Chg (· = m) w w'∧w'.heap.size=w.heap.size
theorem map_step {es es0:Array MapEntry} {c c0:Nat} (hb:w.heap[m]? = some (.map es0 c0)) (he:es.toList.map (fun e=>(e.key,e.val))=l.map fun q=>(C q.1,D q.2)) (hF:Fresh es c):MapStep w (w.putObj m (.map es c)) m C D l :=
 ⟨⟨es,c,World.putObj_heap_same (Array.getElem?_eq_some_iff.1 hb).1,he,hF⟩,Chg.put _ _ _ (by rw [hb]; exact fun _ _ _ h=>by cases h) (Array.getElem?_eq_some_iff.1 hb).1,by simp⟩
theorem uK {es:Array MapEntry} {c:Nat} (o:Obj) (h:w.heap[m]? = some (.map es c)):(setObj m o).run P w = .ok () (w.putObj m o):=by simp [setObj,Sem.run,h,World.putObj]
variable {rd:Option Nat} {n:Nat} {dm:List Nat} {ops:Array Oper} {Q:Post} {rest:List Oper}
theorem js [DecidableEq α] {t kt et:Nat} {x y z:Operand} {key:α} {v:β} (ht:P.underlying t=some (.map kt et)) (K:KeyT P kt C) (hx:evF f x = .map (some m)) (hy:evF f y=C key) (hz:evF f z=D v) (hm:MapB w m C D l)
  (h : ∀ w',MapB w' m C D (ins key v l)→Chg (· = m) w w'→w'.heap.size=w.heap.size→wl P rd n dm ops rest Q f w'):wl P rd n dm ops (⟨none,.mapUpdate t x y z,ty,pos,af,none⟩ :: rest) Q f w:=by
 obtain ⟨es,c,hb,he,hF⟩ := hm
 have hf:=run_findKey K key es.toList l he w
 rw [ins_spot] at h
 cases hs:spot key l with
 | none =>
  rw [hs] at h hf
  obtain ⟨s1,s2,s3⟩ := map_step (w:=w) (m:=m) (C:=C) (D:=D) (es:=es.push { key:=C key,val:=D v,born:=c }) (c:=c + 1) (l:=l ++ [(key,v)]) hb (by simp [he]) (hF.push _ _)
  refine wl_acts ?_ (h _ s1 s2 s3)
  simp only [Acts,execOp,hx,hy,hz,Instr.mapUpdate,Sem.run_bind,run_underlying ht,Result.andThen_ok,MapKept.run_getObj_map hb,K.check,hf,Option.bind_none,uK _ hb,Sem.run_pure]
 | some i =>
  obtain ⟨v0,hv⟩ := spot_key key l i hs
  rw [hs] at h hf
  have hei:(es.toList[i]?).map (fun e=>(e.key,e.val))=some (C key,D v0):=by
   have:=congrArg (fun l=>l[i]?) he
   simp only [List.getElem?_map,hv,Option.map_some] at this
   exact this
  obtain ⟨e0,he0,hek⟩ : ∃ e0,es[i]? = some e0∧e0.key=C key:=by
   simp only [Array.getElem?_toList] at hei
   cases hq:es[i]? with
   | none=>rw [hq] at hei; cases hei
   | some e0=>rw [hq] at hei; simp only [Option.map_some,Option.some.injEq,Prod.mk.injEq] at hei; exact ⟨e0,rfl,hei.1⟩
  have hmod:(es.modify i fun e=>{ e with key:=C key,val:=D v }).toList.map (fun e=>(e.key,e.val))=(l.modify i fun q=>(q.1,v)).map fun q=>(C q.1,D q.2):=by
   apply List.ext_getElem?
   intro j
   have hj:=congrArg (fun l=>l[j]?) he
   simp only [List.getElem?_map] at hj
   simp only [List.getElem?_map,Array.toList_modify,List.getElem?_modify]
   by_cases hij:i=j
   ·subst hij
    simp only [if_true]
    rw [hv]
    simp only [Array.getElem?_toList,he0]
    rfl
   ·simp only [hij,if_false]
    simpa using hj
  obtain ⟨s1,s2,s3⟩ := map_step (w:=w) (m:=m) (C:=C) (D:=D) (c:=c) hb hmod (hF.modify _ _ _)
  refine wl_acts ?_ (h _ s1 s2 s3)
  have hst:(Instr.keyThatStays (C key) (C key)).run P w = .ok (C key) w:=by
   unfold Instr.keyThatStays
   rw [K.same,if_pos rfl]; simp
  simp only [Acts,execOp,hx,hy,hz,Instr.mapUpdate,Sem.run_bind,run_underlying ht,Result.andThen_ok,MapKept.run_getObj_map hb,K.check,hf,hv,zar,Option.map_some,he0,Option.getD_some,hek,hst,uK _ hb,Sem.run_pure]
end
end Gw
end
section
open Go.RowKit
namespace Gw
def givs (ops:Array Oper) (V:Veil) (sm:List Nat) (g:Fr) (w:World) (o:Oper):Prop := ∀ j ∈ v8 o,sm.elem j=true→V j (g (vq ops j)) w
def SRun (P:Program) (w0:World) (o:Oper) (f:Fr) (H:World→Prop) (V:Value→World→Prop):Prop := ∀ w,Ext w0 w→H w→match (execOp (evF f) o).run P w with
 | .ok (.value v) w'=>Ext w w'∧V v w'
 | .ok (.enter g args) w'=>Calls P g args w' fun e w'' => ∃ v,e = .returned v∧Ext w w''∧V v w''
 | _=>False
def SOp (P:Program) (ops:Array Oper) (w0:World) (o:Oper) (f:Fr) (H:World→Prop) (V:Value→World→Prop):Prop:=match o.guard with
 | none=>SRun P w0 o f H V
 | some (j,pol) => ∃ c t,f (vq ops j)=gv c (.bool t)∧(ops[j]?).isSome∧((c && (t == pol))=true→SRun P w0 o f H V)∧((c && (t == pol))=false → ∀ w,V undef w)
def wm (P:Program) (ops:Array Oper) (w0:World) (V:Veil) (sm ss:List Nat):List Oper→Nat→(Fr→Prop)→Fr→Prop
 | [],_,K,f=>K f
 | o :: l,i,K,f=>bif sm.elem i then ((∀ g,SOp P ops w0 o (mask ss g f) (fun w=>givs ops V sm g w o) (V i))∧wm P ops w0 V sm ss l (i + 1) K f)
   else ∃ v,SOp P ops w0 o f (fun _=>True) (fun v' _=>v'=v)∧wm P ops w0 V sm ss l (i + 1) K (upd f (o.dst.getD 0) v)
def kf (ops:Array Oper) (sm:List Nat):List Nat:=sm.map (vq ops)
section
variable {P:Program} {rd:Option Nat} {n m:Nat} {dm:List Nat} {ops:Array Oper} {Q:Post} {f:Fr} {w w0:World} {V:Veil} {sm ss:List Nat} {l:List Oper} {i:Nat} {K:Fr→Prop}
theorem srun_does {o:Oper} {v:Value} (h : ∀ w,Ext w0 w→Does P o f w v w):SRun P w0 o f (fun _=>True) (fun v' _=>v'=v):=fun w hw _=>by
 rw [show (execOp (evF f) o).run P w=_ from h w hw]
 exact ⟨Ext.refl w,rfl⟩
theorem kg (h:K f):wm P ops w0 V sm ss [] i K f:=h
theorem wm_q {o:Oper} {v:Value} (hs:sm.elem i=false) (h:SOp P ops w0 o f (fun _=>True) (fun v' _=>v'=v)) (k:wm P ops w0 V sm ss l (i + 1) K (upd f (o.dst.getD 0) v)):wm P ops w0 V sm ss (o :: l) i K f:=by
 unfold wm; rw [hs]; exact ⟨v,h,k⟩
section
variable {d:Tmp} {op:Op} {ty:TypeId} {pos:String} {af:Array Edge}
theorem zT {v:Value} (h : ∀ w,Ext w0 w→Does P ⟨some d,op,ty,pos,af,none⟩ f w v w) (hs:sm.elem i=false) (k:wm P ops w0 V sm ss l (i + 1) K (upd f d v)):wm P ops w0 V sm ss (⟨some d,op,ty,pos,af,none⟩ :: l) i K f:=wm_q hs (srun_does h) k
end
theorem wm_vals : ∀ (l:List Oper) (i:Nat) (f:Fr),wm P ops w0 V sm ss l i K f → ∃ F:Nat→Fr,F i=f∧K (F (i + l.length)) ∧ ∀ (j:Nat) (o:Oper),l[j]? = some o →
  (sm.elem (i + j)=true→(∀ g,SOp P ops w0 o (mask ss g (F (i + j))) (fun w=>givs ops V sm g w o) (V (i + j)))∧F (i + j + 1)=F (i + j))∧(sm.elem (i + j)=false → ∃ v,SOp P ops w0 o (F (i + j)) (fun _=>True) (fun v' _=>v'=v)∧F (i + j + 1)=upd (F (i + j)) (o.dst.getD 0) v)
 | [],i,f,h=>⟨fun _=>f,rfl,h,fun j o hj=>by simp at hj⟩
 | o :: l,i,f,h=>by
  cases hs:sm.elem i with
  | true =>
   unfold wm at h
   rw [hs] at h
   obtain ⟨h1,hk⟩ := h
   obtain ⟨F,h0,hK,hF⟩ := wm_vals l (i + 1) f hk
   refine ⟨fun k=>if k=i then f else F k,by simp,by rw [List.length_cons,show i + (l.length + 1)=i + 1 + l.length by omega]; simpa only [show i + 1 + l.length ≠ i by omega,if_false] using hK,fun j o' hj=>?_⟩
   cases j with
   | zero =>
    simp at hj; subst hj
    refine ⟨fun _=>?_,fun e=>by rw [Nat.add_zero,hs] at e; cases e⟩
    simp only [Nat.add_zero,if_true,show i + 1 ≠ i by omega,if_false,h0]
    exact ⟨h1,trivial⟩
   | succ j =>
    have:=hF j o' (by simpa using hj)
    simp only [show i + (j + 1)=i + 1 + j by omega,show i + 1 + j ≠ i by omega,show i + 1 + j + 1 ≠ i by omega,if_false]
    exact this
  | false =>
   unfold wm at h
   rw [hs] at h
   obtain ⟨v,hv,hk⟩ := h
   obtain ⟨F,h0,hK,hF⟩ := wm_vals l (i + 1) _ hk
   refine ⟨fun k=>if k=i then f else F k,by simp,by rw [List.length_cons,show i + (l.length + 1)=i + 1 + l.length by omega]; simpa only [show i + 1 + l.length ≠ i by omega,if_false] using hK,fun j o' hj=>?_⟩
   cases j with
   | zero =>
    simp at hj; subst hj
    refine ⟨fun e=>(by rw [Nat.add_zero,hs] at e; cases e),fun _=>?_⟩
    simp only [Nat.add_zero,if_true,show i + 1 ≠ i by omega,if_false,h0]
    exact ⟨v,hv,rfl⟩
   | succ j =>
    have:=hF j o' (by simpa using hj)
    simp only [show i + (j + 1)=i + 1 + j by omega,show i + 1 + j ≠ i by omega,show i + 1 + j + 1 ≠ i by omega,if_false]
    exact this
theorem srun_congr {o:Oper} {f f':Fr} {H:World→Prop} {V:Value→World→Prop} (hs : ∀ cs b,o.op ≠ .select cs b) (h : ∀ x ∈ o.op.operands,evF f x=evF f' x) (q:SRun P w0 o f H V):SRun P w0 o f' H V:=by
 unfold SRun at q ⊢
 rw [← execOp_congr o hs h]
 exact q
theorem wl_of_srun {d:Tmp} {op:Op} {ty:TypeId} {pos:String} {af:Array Edge} {gd:Option (Nat × Bool)} {f:Fr} {H:World→Prop} {V:Value→World→Prop} (q:SRun P w0 ⟨some d,op,ty,pos,af,gd⟩ f H V) (hw:Ext w0 w) (hH:H w) {a:Act} (ha:Is n dm a f) :
  ∀ (K':Act→World→Prop) (R:Exit→Act→World→Prop),(∀ v w',Ext w w'→V v w'→K' (a.put (some d) v) w')→(⟨some d,op,ty,pos,af,gd⟩ : Oper).wpIn (fen rd) 0 P a w K' R:=by
 intro K' R hK
 have h:=q w hw hH
 generalize hr:(execOp (evF f) (⟨some d,op,ty,pos,af,gd⟩ : Oper)).run P w=r at h
 cases r with
 | halt x w'=>exact h.elim
 | ok nx w' =>
  cases nx with
  | value v'=>exact op_wp ha hr zao (hK _ _ h.1 h.2)
  | enter g args =>
   refine op_wp ha hr zao (show _∧_ from ⟨fun h=>(by cases h),?_⟩)
   refine CallsIn.mono (show CallsIn (fen rd) _ P g args w' _ from callsIn_wide.2 h) fun e w'' ⟨v,he,hx,hv⟩ => ?_
   subst he; exact hK _ _ hx hv
  | _=>exact h.elim
end
end Gw
end
section
open Gw
noncomputable abbrev PP:Program:=Tryz.prog
theorem hmix:PP.follows .mixedOrders=true:=by kernel_rfl
abbrev xy:TypeId:=3
theorem xQ:OneT PP 3:=⟨⟨_,Tryz.underlying3,rfl⟩,by kernel_rfl⟩
theorem ze_int:ZeroT PP 3 [.int .i64 0]:=⟨.int .i64 0,by kernel_rfl,rfl⟩
theorem el_int:uc PP 3 1 8:=uc.of (z := .int .i64 0) zap rfl zam
theorem zv_int:(PP.info? 3).bind (·.zero)=some (.int .i64 0):=by kernel_rfl
theorem un_int:PP.underlying 3=some (.int .i64):=Tryz.underlying3
theorem un_bool:PP.underlying 4=some .bool:=Tryz.underlying4
abbrev vS:TypeId:=9
theorem xt:OneT PP 9:=⟨⟨_,Tryz.underlying9,rfl⟩,by kernel_rfl⟩
theorem el_string:uc PP 9 1 16:=uc.of (z := .string ByteArray.empty) zap rfl zam
theorem yu:PP.underlying 9=some .string:=Tryz.underlying9
abbrev vN:TypeId:=22
theorem xA:OneT PP 22:=⟨⟨_,Tryz.underlying22,rfl⟩,by kernel_rfl⟩
theorem xd:xV PP 22 67 4:=⟨Tryz.underlying22,by kernel_rfl⟩
theorem zU:OneT PP 23:=⟨⟨_,Tryz.underlying23,rfl⟩,by kernel_rfl⟩
theorem un_api_TermKind:PP.underlying 23=some (.int .i64):=Tryz.underlying23
abbrev T_L_api_Term:TypeId:=24
theorem zz:OneT PP 24:=⟨⟨_,Tryz.underlying24,rfl⟩,by kernel_rfl⟩
theorem zq:xV PP 24 26 5:=⟨Tryz.underlying24,by kernel_rfl⟩
abbrev zm:TypeId:=26
theorem z1:AggT PP 26 5:=⟨⟨_,Tryz.underlying26,rfl⟩,by kernel_rfl⟩
theorem xn:ZeroT PP 26 (Term.C Term.z):=⟨.agg #[.int .i64 0,.string ByteArray.empty,.string ByteArray.empty,.int .i64 0,.slice none 0 0],by kernel_rfl,by first | rfl | (simp [Value.cells,Term.C,Term.z,SlV.eq]; done) | (simp [Value.cells,Term.C,Term.z,SlV.eq]; rfl)⟩
theorem uu:uc PP 26 5 72:=uc.of (z := .agg #[.int .i64 0,.string ByteArray.empty,.string ByteArray.empty,.int .i64 0,.slice none 0 0]) zap rfl zam
theorem yl:BuT PP 26 [(0,1),(1,1),(2,1),(3,1),(4,1)] (Term.C Term.z):=fun parts=>(show PP.built 26 parts=Instr.fill (fun i=>[(0,1),(1,1),(2,1),(3,1),(4,1)].toArray[i]?) (.agg #[.int .i64 0,.string ByteArray.empty,.string ByteArray.empty,.int .i64 0,.slice none 0 0]:Value).cells parts by kernel_rfl).trans (by rw [show (.agg #[.int .i64 0,.string ByteArray.empty,.string ByteArray.empty,.int .i64 0,.slice none 0 0]:Value).cells=(Term.C Term.z).toArray by first | rfl | (simp [Value.cells,Term.C,Term.z,SlV.eq]; done) | (simp [Value.cells,Term.C,Term.z,SlV.eq]; rfl)])
theorem xh:uh PP 26 0 0:=⟨_,_,0,Tryz.underlying26,rfl,rfl,by kernel_rfl⟩
theorem fv_Term_kind:kw PP 26 0 0 23:=⟨_,_,Tryz.underlying26,rfl,rfl,rfl⟩
theorem xW:uh PP 26 1 1:=⟨_,_,0,Tryz.underlying26,rfl,rfl,by kernel_rfl⟩
theorem fv_Term_name:kw PP 26 1 1 9:=⟨_,_,Tryz.underlying26,rfl,rfl,rfl⟩
theorem vX:uh PP 26 2 2:=⟨_,_,0,Tryz.underlying26,rfl,rfl,by kernel_rfl⟩
theorem fv_Term_other:kw PP 26 2 2 9:=⟨_,_,Tryz.underlying26,rfl,rfl,rfl⟩
theorem vt:uh PP 26 3 3:=⟨_,_,0,Tryz.underlying26,rfl,rfl,by kernel_rfl⟩
theorem fv_Term_form:kw PP 26 3 3 3:=⟨_,_,Tryz.underlying26,rfl,rfl,rfl⟩
theorem zD:uh PP 26 4 4:=⟨_,_,0,Tryz.underlying26,rfl,rfl,by kernel_rfl⟩
theorem fv_Term_sub:kw PP 26 4 4 24:=⟨_,_,Tryz.underlying26,rfl,rfl,rfl⟩
abbrev xw:TypeId:=27
theorem on_L_int:OneT PP 27:=⟨⟨_,Tryz.underlying27,rfl⟩,by kernel_rfl⟩
theorem el_L_int:uc PP 27 1 24:=uc.of (z := .slice none 0 0) zap rfl zam
theorem zs_L_int:ZeroT PP 27 [SlV.nil.v]:=⟨.slice none 0 0,by kernel_rfl,by rw [← SlV.nil_eq]; rfl⟩
theorem xZ:xV PP 27 3 1:=⟨Tryz.underlying27,by kernel_rfl⟩
abbrev yA:TypeId:=28
theorem xo:OneT PP 28:=⟨⟨_,Tryz.underlying28,rfl⟩,by kernel_rfl⟩
theorem vh:PP.underlying 28=some (.pointer 119):=Tryz.underlying28
abbrev xe:TypeId:=33
theorem jD:OneT PP 33:=⟨⟨_,Tryz.underlying33,rfl⟩,by kernel_rfl⟩
theorem zs_L_L_int:ZeroT PP 33 [SlV.nil.v]:=⟨.slice none 0 0,by kernel_rfl,by rw [← SlV.nil_eq]; rfl⟩
theorem vC:xV PP 33 27 1:=⟨Tryz.underlying33,by kernel_rfl⟩
theorem j0:OneT PP 65:=⟨⟨_,Tryz.underlying65,rfl⟩,by kernel_rfl⟩
theorem un_api_Kind:PP.underlying 65=some (.int .i64):=Tryz.underlying65
abbrev T_Nd:TypeId:=67
theorem v7:AggT PP 67 4:=⟨⟨_,Tryz.underlying67,rfl⟩,by kernel_rfl⟩
theorem ze_Nd:ZeroT PP 67 (Nd.C Nd.z):=⟨.agg #[.int .i64 0,.string ByteArray.empty,.int .i64 0,.int .i64 0],by kernel_rfl,by first | rfl | (simp [Value.cells,Nd.C,Nd.z,SlV.eq]; done) | (simp [Value.cells,Nd.C,Nd.z,SlV.eq]; rfl)⟩
theorem el_Nd:uc PP 67 4 40:=uc.of (z := .agg #[.int .i64 0,.string ByteArray.empty,.int .i64 0,.int .i64 0]) zap rfl zam
theorem bu_Nd:BuT PP 67 [(0,1),(1,1),(2,1),(3,1)] (Nd.C Nd.z):=fun parts=>(show PP.built 67 parts=Instr.fill (fun i=>[(0,1),(1,1),(2,1),(3,1)].toArray[i]?) (.agg #[.int .i64 0,.string ByteArray.empty,.int .i64 0,.int .i64 0]:Value).cells parts by kernel_rfl).trans (by rw [show (.agg #[.int .i64 0,.string ByteArray.empty,.int .i64 0,.int .i64 0]:Value).cells=(Nd.C Nd.z).toArray by first | rfl | (simp [Value.cells,Nd.C,Nd.z,SlV.eq]; done) | (simp [Value.cells,Nd.C,Nd.z,SlV.eq]; rfl)])
theorem fl_Nd_kind:uh PP 67 0 0:=⟨_,_,0,Tryz.underlying67,rfl,rfl,by kernel_rfl⟩
theorem fv_Nd_kind:kw PP 67 0 0 65:=⟨_,_,Tryz.underlying67,rfl,rfl,rfl⟩
theorem uM:uh PP 67 1 1:=⟨_,_,0,Tryz.underlying67,rfl,rfl,by kernel_rfl⟩
theorem fv_Nd_name:kw PP 67 1 1 9:=⟨_,_,Tryz.underlying67,rfl,rfl,rfl⟩
theorem kJ:uh PP 67 2 2:=⟨_,_,0,Tryz.underlying67,rfl,rfl,by kernel_rfl⟩
theorem fv_Nd_l:kw PP 67 2 2 3:=⟨_,_,Tryz.underlying67,rfl,rfl,rfl⟩
theorem kK:uh PP 67 3 3:=⟨_,_,0,Tryz.underlying67,rfl,rfl,by kernel_rfl⟩
theorem fv_Nd_r:kw PP 67 3 3 3:=⟨_,_,Tryz.underlying67,rfl,rfl,rfl⟩
abbrev T_RTab:TypeId:=69
theorem bu_RTab:BuT PP 69 [(0,1)] (RTab.C RTab.z):=fun parts=>(show PP.built 69 parts=Instr.fill (fun i=>[(0,1)].toArray[i]?) (.agg #[.slice none 0 0]:Value).cells parts by kernel_rfl).trans (by rw [show (.agg #[.slice none 0 0]:Value).cells=(RTab.C RTab.z).toArray by first | rfl | (simp [Value.cells,RTab.C,RTab.z,SlV.eq]; done) | (simp [Value.cells,RTab.C,RTab.z,SlV.eq]; rfl)])
theorem jA:uh PP 69 0 0:=⟨_,_,0,Tryz.underlying69,rfl,rfl,by kernel_rfl⟩
theorem vw:xV PP 71 9 1:=⟨Tryz.underlying71,by kernel_rfl⟩
theorem xF:PP.underlying 98=some (.map 9 3):=Tryz.underlying98
theorem vv:OneT PP 117:=⟨⟨_,Tryz.underlying117,rfl⟩,by kernel_rfl⟩
theorem vx:PP.underlying 117=some (.map 67 3):=Tryz.underlying117
abbrev ui:TypeId:=119
theorem bu_Tab:BuT PP 119 [(0,1),(1,1)] (Tab.C Tab.z):=fun parts=>(show PP.built 119 parts=Instr.fill (fun i=>[(0,1),(1,1)].toArray[i]?) (.agg #[.slice none 0 0,.map none]:Value).cells parts by kernel_rfl).trans (by rw [show (.agg #[.slice none 0 0,.map none]:Value).cells=(Tab.C Tab.z).toArray by first | rfl | (simp [Value.cells,Tab.C,Tab.z,SlV.eq]; done) | (simp [Value.cells,Tab.C,Tab.z,SlV.eq]; rfl)])
theorem vr:uh PP 119 0 0:=⟨_,_,0,Tryz.underlying119,rfl,rfl,by kernel_rfl⟩
theorem kC:uh PP 119 1 1:=⟨_,_,0,Tryz.underlying119,rfl,rfl,by kernel_rfl⟩
theorem zY:OneT PP 121:=⟨⟨_,Tryz.underlying121,rfl⟩,by kernel_rfl⟩
theorem on_L_reduce_rule:OneT PP 122:=⟨⟨_,Tryz.underlying122,rfl⟩,by kernel_rfl⟩
theorem xN:xV PP 122 128 2:=⟨Tryz.underlying122,by kernel_rfl⟩
abbrev jx:TypeId:=125
theorem bu_Machine:BuT PP 125 [(0,1),(1,1)] (Machine.C Machine.z):=fun parts=>(show PP.built 125 parts=Instr.fill (fun i=>[(0,1),(1,1)].toArray[i]?) (.agg #[.pointer none,.slice none 0 0]:Value).cells parts by kernel_rfl).trans (by rw [show (.agg #[.pointer none,.slice none 0 0]:Value).cells=(Machine.C Machine.z).toArray by first | rfl | (simp [Value.cells,Machine.C,Machine.z,SlV.eq]; done) | (simp [Value.cells,Machine.C,Machine.z,SlV.eq]; rfl)])
theorem y0:uh PP 125 0 0:=⟨_,_,0,Tryz.underlying125,rfl,rfl,by kernel_rfl⟩
theorem fl_Machine_rules:uh PP 125 1 1:=⟨_,_,0,Tryz.underlying125,rfl,rfl,by kernel_rfl⟩
theorem vb:OneT PP 126:=⟨⟨_,Tryz.underlying126,rfl⟩,by kernel_rfl⟩
abbrev uG:TypeId:=128
theorem xc:AggT PP 128 2:=⟨⟨_,Tryz.underlying128,rfl⟩,by kernel_rfl⟩
theorem vV:ZeroT PP 128 (RRule.C RRule.z):=⟨.agg #[.nilFunc,.nilFunc],by kernel_rfl,by first | rfl | (simp [Value.cells,RRule.C,RRule.z,SlV.eq]; done) | (simp [Value.cells,RRule.C,RRule.z,SlV.eq]; rfl)⟩
theorem el_RRule:uc PP 128 2 16:=uc.of (z := .agg #[.nilFunc,.nilFunc]) zap rfl zam
theorem jg:BuT PP 128 [(0,1),(1,1)] (RRule.C RRule.z):=fun parts=>(show PP.built 128 parts=Instr.fill (fun i=>[(0,1),(1,1)].toArray[i]?) (.agg #[.nilFunc,.nilFunc]:Value).cells parts by kernel_rfl).trans (by rw [show (.agg #[.nilFunc,.nilFunc]:Value).cells=(RRule.C RRule.z).toArray by first | rfl | (simp [Value.cells,RRule.C,RRule.z,SlV.eq]; done) | (simp [Value.cells,RRule.C,RRule.z,SlV.eq]; rfl)])
theorem y6:uh PP 128 0 0:=⟨_,_,0,Tryz.underlying128,rfl,rfl,by kernel_rfl⟩
theorem fl_RRule_does:uh PP 128 1 1:=⟨_,_,0,Tryz.underlying128,rfl,rfl,by kernel_rfl⟩
abbrev yk:TypeId:=179
theorem jE:OneT PP 179:=⟨⟨_,Tryz.underlying179,rfl⟩,by kernel_rfl⟩
theorem ze_func_api_Term:ZeroT PP 179 [.nilFunc]:=⟨.nilFunc,by kernel_rfl,rfl⟩
abbrev T_uint64:TypeId:=198
theorem ar_20_uint64:ArrT PP 256 20 198 1:=⟨Tryz.underlying256,by kernel_rfl⟩
abbrev T_20_uint64:TypeId:=256
theorem eg_Nd:PP.eqGuardType PP.depth 67=false:=by kernel_rfl
theorem eq_Nd (x y:Nd):EqV PP 2 67 (.agg (Nd.C x).toArray) (.agg (Nd.C y).toArray) (decide (x=y)):=by
 have h:=EqV.struct (m:=1) Tryz.underlying67 zap (EqF.one rfl j0 (Nd.get_kind x) (Nd.get_kind y) ((EqV.int Tryz.underlying65).le zam) (EqF.one rfl xt (Nd.get_name x) (Nd.get_name y) ((EqV.str Tryz.underlying9).le zam) (EqF.one rfl xQ (Nd.get_l x) (Nd.get_l y) ((EqV.int Tryz.underlying3).le zam) (EqF.one rfl xQ (Nd.get_r x) (Nd.get_r y) ((EqV.int Tryz.underlying3).le zam) EqF.nil))))
 refine (congrArg (EqV PP 2 67 _ _) ?_).mp h
 rw [Bool.eq_iff_iff]; cases x; cases y; simp [Nd.mk.injEq]
theorem ck_Nd (x:Nd):ChkV PP 2 67 (.agg (Nd.C x).toArray):=ChkV.struct (m:=1) Tryz.underlying67 (ChkF.one j0 (Nd.get_kind x) ((ChkV.int Tryz.underlying65).le zam) (ChkF.one xt (Nd.get_name x) ((ChkV.str Tryz.underlying9).le zam) (ChkF.one xQ (Nd.get_l x) ((ChkV.int Tryz.underlying3).le zam) (ChkF.one xQ (Nd.get_r x) ((ChkV.int Tryz.underlying3).le zam) ChkF.nil))))
theorem yQ:KeyT PP 9 (Value.string) where
 eq:=fun a b w=>by have:=(EqV.str (P:=PP) Tryz.underlying9:EqV PP 1 9 (Value.string a) (Value.string b) _).le (show 1 ≤ 10000 by decide) 0 w; simpa [Op.equal,Op.maxDepth] using this
 check:=fun e a w=>by have:=(ChkV.str (P:=PP) Tryz.underlying9:ChkV PP 1 9 (Value.string a)).le (show 1 ≤ 10000 by decide) e 0 w; simpa using this
 same:=fun a=>sameBits_one rfl
 now:=⟨_,Tryz.underlying9,fun a b => .inr (by simp [Instr.sameNow,beq_toListBytes,beq_toList] <;> (rw [Bool.eq_iff_iff]; simp))⟩
theorem sb_Nd (x:Nd) (k:Nat) : ∀ v ∈ Nd.C x,Instr.sameBits k v v=true:=by
 intro v hv; simp only [Nd.C,List.mem_append,List.mem_singleton,List.mem_map] at hv
 rcases hv with ((hv | hv) | hv) | hv
 all_goals first | (subst hv; exact sameBits_one rfl) | (obtain ⟨_,_,rfl⟩ := hv; exact sameBits_one rfl)
theorem key_Nd:KeyT PP 67 (fun x:Nd => .agg (Nd.C x).toArray) where
 eq:=fun a b w=>by have:=(eq_Nd a b).le (show 2 ≤ 10000 by decide) 0 w; simpa [Op.equal,Op.maxDepth] using this
 check:=fun e a w=>by have:=(ck_Nd a).le (show 2 ≤ 10000 by decide) e 0 w; simpa using this
 same:=fun a=>sameBits_agg (sb_Nd a _)
 now:=⟨_,Tryz.underlying67,fun _ _ => .inl rfl⟩
theorem cK {n:Nat} {fn:Func} (h:PP.funcs[n]? = some fn) (h1:(fn.name == "runtime.NumGoroutine")=false:=by kernel_rfl) (h2:fn.body.isNone=false:=by kernel_rfl):zF PP n:=⟨_,h,h1,h2⟩
abbrev x4:Nat:=7
noncomputable abbrev xu:Func:=Tryz.f7
theorem vu:PP.funcs[x4]? = some xu:=Tryz.func7
abbrev F_law04_Tables:Nat:=9
theorem ca_law04_Tables:zF PP 9:=cK Tryz.func9
abbrev uY:Nat:=10
theorem kS:zF PP 10:=cK Tryz.func10
abbrev k5:Nat:=12
theorem kI:zF PP 12:=cK Tryz.func12
abbrev F_ref14_Ways:Nat:=13
theorem ca_ref14_Ways:zF PP 13:=cK Tryz.func13
abbrev F_law14_num:Nat:=14
theorem yg:zF PP 14:=cK Tryz.func14
abbrev F_reduce_Normal:Nat:=15
theorem ca_reduce_Normal:zF PP 15:=cK Tryz.func15
abbrev F_reduce_Do:Nat:=16
theorem ca_reduce_Do:zF PP 16:=cK Tryz.func16
abbrev F_reduce_Strip:Nat:=18
theorem ca_reduce_Strip:zF PP 18:=cK Tryz.func18
abbrev uZ:Nat:=20
theorem uE:zF PP 20:=cK Tryz.func20
abbrev F_ref03_Ints:Nat:=21
theorem ca_ref03_Ints:zF PP 21:=cK Tryz.func21
abbrev F_law14_heads:Nat:=23
theorem ca_law14_heads:zF PP 23:=cK Tryz.func23
abbrev F_reduce_Run:Nat:=24
theorem kR:zF PP 24:=cK Tryz.func24
abbrev F_ref03_T_Has:Nat:=31
theorem ca_ref03_T_Has:zF PP 31:=cK Tryz.func31
abbrev F_term_Free:Nat:=32
theorem ca_term_Free:zF PP 32:=cK Tryz.func32
abbrev F_law03_Both:Nat:=34
theorem ca_law03_Both:zF PP 34:=cK Tryz.func34
abbrev F_formula_New:Nat:=35
theorem jh:zF PP 35:=cK Tryz.func35
abbrev F_reduce_begun:Nat:=38
theorem j4:zF PP 38:=cK Tryz.func38
abbrev xz:Nat:=39
theorem yZ:zF PP 39:=cK Tryz.func39
abbrev x8:Nat:=40
theorem ca_reduce_Redexes_1:zF PP 40:=cK Tryz.func40
abbrev u7:Nat:=41
theorem uQ:zF PP 41:=cK Tryz.func41
abbrev jt:Nat:=42
theorem jj:zF PP 42:=cK Tryz.func42
abbrev F_term_Check:Nat:=45
theorem vW:zF PP 45:=cK Tryz.func45
abbrev ug:Nat:=46
theorem j5:zF PP 46:=cK Tryz.func46
abbrev jP:Nat:=49
theorem ca_formula_Table_Atom:zF PP 49:=cK Tryz.func49
abbrev uz:Nat:=50
theorem ca_formula_Table_Imp:zF PP 50:=cK Tryz.func50
abbrev F_law14_name:Nat:=51
theorem vz:zF PP 51:=cK Tryz.func51
abbrev uf:Nat:=52
theorem uI:zF PP 52:=cK Tryz.func52
abbrev vc:Nat:=53
theorem ca_reduce_Run_1:zF PP 53:=cK Tryz.func53
abbrev F_term_freely:Nat:=58
theorem kA:zF PP 58:=cK Tryz.func58
abbrev ki:Nat:=59
theorem j6:zF PP 59:=cK Tryz.func59
abbrev F_ref03_From:Nat:=63
theorem ca_ref03_From:zF PP 63:=cK Tryz.func63
abbrev F_formula_From:Nat:=64
theorem ca_formula_From:zF PP 64:=cK Tryz.func64
abbrev ud:Nat:=66
theorem ca_formula_Table_Copy:zF PP 66:=cK Tryz.func66
abbrev yz:Nat:=67
theorem ca_reduce_known:zF PP 67:=cK Tryz.func67
abbrev F_reduce_rules:Nat:=68
theorem ca_reduce_rules:zF PP 68:=cK Tryz.func68
abbrev ju:Nat:=69
theorem vO:zF PP 69:=cK Tryz.func69
abbrev yU:Nat:=70
theorem jT:zF PP 70:=cK Tryz.func70
abbrev F_term_Size:Nat:=75
theorem ca_term_Size:zF PP 75:=cK Tryz.func75
abbrev F_term_Deep:Nat:=76
theorem ca_term_Deep:zF PP 76:=cK Tryz.func76
abbrev vo:Nat:=77
theorem ca_term_right:zF PP 77:=cK Tryz.func77
abbrev vn:Nat:=78
theorem yc:zF PP 78:=cK Tryz.func78
abbrev uA:Nat:=81
theorem ca_formula_Table_Len:zF PP 81:=cK Tryz.func81
abbrev uB:Nat:=82
theorem uk:zF PP 82:=cK Tryz.func82
abbrev F_term_binds:Nat:=84
theorem kT:zF PP 84:=cK Tryz.func84
abbrev jc:Nat:=87
theorem ca_term_names:zF PP 87:=cK Tryz.func87
abbrev ue:Nat:=92
theorem jv:zF PP 92:=cK Tryz.func92
abbrev F_ref03_T_Put:Nat:=99
theorem ca_ref03_T_Put:zF PP 99:=cK Tryz.func99
abbrev ym:Nat:=100
theorem yf:zF PP 100:=cK Tryz.func100
abbrev xP:Nat:=101
theorem yn:zF PP 101:=cK Tryz.func101
abbrev uq:Nat:=102
theorem ca_reduce_known_1:zF PP 102:=cK Tryz.func102
abbrev vD:Nat:=103
theorem ca_reduce_rules_1:zF PP 103:=cK Tryz.func103
abbrev F_reduce_headed:Nat:=104
theorem yq:zF PP 104:=cK Tryz.func104
abbrev y7:Nat:=105
theorem ca_reduce_rules_2:zF PP 105:=cK Tryz.func105
abbrev F_term_Put:Nat:=106
theorem jU:zF PP 106:=cK Tryz.func106
abbrev vE:Nat:=107
theorem ca_reduce_rules_3:zF PP 107:=cK Tryz.func107
abbrev F_reduce_beside:Nat:=108
theorem ur:zF PP 108:=cK Tryz.func108
abbrev y8:Nat:=109
theorem ca_reduce_rules_4:zF PP 109:=cK Tryz.func109
abbrev F_reduce_the:Nat:=110
theorem jK:zF PP 110:=cK Tryz.func110
abbrev F_reduce_half:Nat:=111
theorem ji:zF PP 111:=cK Tryz.func111
abbrev vF:Nat:=112
theorem ca_reduce_rules_5:zF PP 112:=cK Tryz.func112
abbrev F_reduce_takes:Nat:=113
theorem ca_reduce_takes:zF PP 113:=cK Tryz.func113
abbrev y9:Nat:=114
theorem ca_reduce_rules_6:zF PP 114:=cK Tryz.func114
abbrev F_reduce_side:Nat:=115
theorem ca_reduce_side:zF PP 115:=cK Tryz.func115
abbrev vG:Nat:=116
theorem ca_reduce_rules_7:zF PP 116:=cK Tryz.func116
abbrev va:Nat:=117
theorem ca_reduce_rules_8:zF PP 117:=cK Tryz.func117
abbrev vH:Nat:=118
theorem ca_reduce_rules_9:zF PP 118:=cK Tryz.func118
abbrev kH:Nat:=119
theorem kz:zF PP 119:=cK Tryz.func119
abbrev yG:Nat:=120
theorem ca_reduce_rules_10:zF PP 120:=cK Tryz.func120
abbrev F_reduce_into:Nat:=121
theorem ca_reduce_into:zF PP 121:=cK Tryz.func121
abbrev vk:Nat:=122
theorem ca_reduce_rules_11:zF PP 122:=cK Tryz.func122
abbrev F_reduce_told:Nat:=123
theorem ca_reduce_told:zF PP 123:=cK Tryz.func123
abbrev yH:Nat:=124
theorem ca_reduce_rules_12:zF PP 124:=cK Tryz.func124
abbrev vl:Nat:=125
theorem ca_reduce_rules_13:zF PP 125:=cK Tryz.func125
abbrev yI:Nat:=126
theorem ca_reduce_rules_14:zF PP 126:=cK Tryz.func126
abbrev vm:Nat:=127
theorem ca_reduce_rules_15:zF PP 127:=cK Tryz.func127
abbrev yJ:Nat:=128
theorem ca_reduce_rules_16:zF PP 128:=cK Tryz.func128
abbrev F_ref03_Word:Nat:=134
theorem ca_ref03_Word:zF PP 134:=cK Tryz.func134
abbrev kQ:Nat:=135
theorem ca_term_Size_1:zF PP 135:=cK Tryz.func135
abbrev jS:Nat:=136
theorem ca_term_deep:zF PP 136:=cK Tryz.func136
abbrev F_term_shape:Nat:=137
theorem ca_term_shape:zF PP 137:=cK Tryz.func137
abbrev F_term_named:Nat:=138
theorem ca_term_named:zF PP 138:=cK Tryz.func138
abbrev jd:Nat:=139
theorem ca_term_right_1:zF PP 139:=cK Tryz.func139
abbrev jQ:Nat:=141
theorem ca_formula_Table_fits:zF PP 141:=cK Tryz.func141
abbrev kh:Nat:=154
theorem xS:zF PP 154:=cK Tryz.func154
abbrev F_ref03_T_Find:Nat:=161
theorem ca_ref03_T_Find:zF PP 161:=cK Tryz.func161
abbrev x5:Nat:=162
theorem yK:zF PP 162:=cK Tryz.func162
abbrev kr:Nat:=163
theorem j3:zF PP 163:=cK Tryz.func163
abbrev jb:Nat:=164
theorem ca_term_grown:zF PP 164:=cK Tryz.func164
abbrev kv:Nat:=165
theorem ca_term_put:zF PP 165:=cK Tryz.func165
abbrev F_ref03_letter:Nat:=168
theorem ca_ref03_letter:zF PP 168:=cK Tryz.func168
abbrev k7:Nat:=169
theorem ca_ref03_Reserved:zF PP 169:=cK Tryz.func169
abbrev ku:Nat:=179
theorem ca_formula_reserved:zF PP 179:=cK Tryz.func179
abbrev ja:Nat:=180
theorem kU:zF PP 180:=cK Tryz.func180
abbrev F_term_fresh:Nat:=181
theorem ca_term_fresh:zF PP 181:=cK Tryz.func181
end
section
open Gw Go.RowKit
def isL (c:Int):Bool:=(decide (97 ≤ c) && decide (c ≤ 122)) || (decide (65 ≤ c) && decide (c ≤ 90))
def isC (c:Int):Bool:=isL c || (decide (48 ≤ c) && decide (c ≤ 57)) || decide (c=95) || decide (c=39)
def resv:List ByteArray:=[⟨#[97,98,111,114,116]⟩,⟨#[99,97,115,101]⟩,⟨#[102,97,108,115,101]⟩,⟨#[102,115,116]⟩,⟨#[102,117,110]⟩,⟨#[105,110]⟩,⟨#[105,110,108]⟩,⟨#[105,110,114]⟩,⟨#[108,101,116]⟩,⟨#[111,102]⟩,⟨#[115,110,100]⟩,⟨#[116,114,117,101]⟩]
def jn (s:ByteArray):Bool:=resv.any fun t=>decide (s=t)
theorem uJ {s:ByteArray} (t:ByteArray) (h:jn t=true) (e:s=t):Value.bool true=Value.bool (jn s):=by rw [e,h]
theorem resv_no {s:ByteArray} (h:¬ s=⟨#[97,98,111,114,116]⟩ ∧ ¬ s=⟨#[99,97,115,101]⟩ ∧ ¬ s=⟨#[102,97,108,115,101]⟩ ∧ ¬ s=⟨#[102,115,116]⟩ ∧ ¬ s=⟨#[102,117,110]⟩ ∧ ¬ s=⟨#[105,110]⟩ ∧ ¬ s=⟨#[105,110,108]⟩ ∧ ¬ s=⟨#[105,110,114]⟩ ∧ ¬ s=⟨#[108,101,116]⟩ ∧ ¬ s=⟨#[111,102]⟩ ∧ ¬ s=⟨#[115,110,100]⟩ ∧ ¬ s=⟨#[116,114,117,101]⟩):Value.bool false=Value.bool (jn s):=by
 obtain ⟨h1,h2,h3,h4,h5,h6,h7,h8,h9,h10,h11,h12⟩ := h
 simp only [jn,resv,List.any_cons,List.any_nil,decide_eq_false h1,decide_eq_false h2,decide_eq_false h3,decide_eq_false h4,decide_eq_false h5,decide_eq_false h6,decide_eq_false h7,decide_eq_false h8,decide_eq_false h9,decide_eq_false h10,decide_eq_false h11,decide_eq_false h12,Bool.or_false]
def SC (s:ByteArray):List Value:=[.string s]
def okAt (s:ByteArray) (i:Nat):Prop:=(if i=0 then isL (sb s i) else isC (sb s i))=true
instance (s:ByteArray) (i:Nat):Decidable (okAt s i):=inferInstanceAs (Decidable ((if i=0 then isL (sb s i) else isC (sb s i))=true))
def isWord (s:ByteArray):Prop:=1 ≤ s.size∧s.size ≤ 31∧(∀ i,i < s.size→okAt s i)∧jn s=false
instance (s:ByteArray):Decidable (isWord s):=inferInstanceAs (Decidable (1 ≤ s.size∧s.size ≤ 31∧(∀ i,i < s.size→okAt s i)∧jn s=false))
theorem letter_walk (c:Int):(decide (97 ≤ c) && decide (c ≤ 122) || decide (65 ≤ c) && decide (c ≤ 90))=isL c:=rfl
theorem small_walk : ∀ c:Nat,c < 256→(decide (97 ≤ bitsOp .or .u8 (c:Int) 32) && decide (bitsOp .or .u8 (c:Int) 32 ≤ 122))=isL c:=by decide +kernel
theorem small_byte {c:Int} (h:0 ≤ c∧c < 256):(decide (97 ≤ bitsOp .or .u8 c 32) && decide (bitsOp .or .u8 c 32 ≤ 122))=isL c:=by
 have:=small_walk c.toNat zan
 rwa [show ((c.toNat:Nat):Int)=c by omega] at this
theorem word_cond {s:ByteArray} {x:Nat}:(!(decide (97 ≤ bitsOp .or .u8 (sb s (x:Int).toNat) 32) && decide (bitsOp .or .u8 (sb s (x:Int).toNat) 32 ≤ 122)) && (decide ((x:Int)=0) || decide (sb s (x:Int).toNat ≠ 95) && decide (sb s (x:Int).toNat ≠ 39) && (decide (sb s (x:Int).toNat < 48) || decide (57 < sb s (x:Int).toNat)))) = !decide (okAt s x):=by
 rw [small_byte (sb_byte s _)]
 rw [Int.toNat_natCast,Bool.eq_iff_iff]
 have e:decide (okAt s x)=true↔(if x=0 then isL (sb s x) else isC (sb s x))=true:=decide_eq_true_iff
 rw [Bool.not_eq_true',← Bool.not_eq_true,e]
 unfold isC
 generalize sb s x=c
 by_cases hx:x=0
 ·subst hx; simp
 ·have hx':¬ (x:Int)=0:=by omega
  rw [if_neg hx]
  cases h1:isL c <;> simp [hx',h1]
  omega
theorem word_end {s:ByteArray} (h : ∀ i,i < s.size→okAt s i):Value.bool (decide (s ≠ ⟨#[]⟩) && decide ((s.size:Int) ≤ 31) && !jn s)=Value.bool (decide (isWord s)):=by
 congr 1
 rw [Bool.eq_iff_iff]
 have e0:decide (isWord s)=true↔(1 ≤ s.size∧s.size ≤ 31∧(∀ i,i < s.size→okAt s i)∧jn s=false):=decide_eq_true_iff
 rw [e0]
 simp only [Bool.and_eq_true,decide_eq_true_eq,Bool.not_eq_true']
 have e:s ≠ ⟨#[]⟩ ↔ 1 ≤ s.size:=by
  constructor
  ·intro hn
   refine Nat.pos_of_ne_zero fun e=>hn ?_
   exact ByteArray.ext (Array.eq_empty_of_size_eq_zero e)
  ·rintro h rfl
   exact absurd h zam
 rw [e]
 constructor
 ·rintro ⟨⟨h1,h2⟩,h3⟩; exact ⟨h1,by omega,h,h3⟩
 ·rintro ⟨h1,h2,h3,h4⟩; exact ⟨⟨h1,by omega⟩,h4⟩
theorem word_cond2 {s:ByteArray} {x:Nat}:(!isL (sb s (x:Int).toNat) && !(decide (48 ≤ sb s (x:Int).toNat) && decide (sb s (x:Int).toNat ≤ 57)) && decide (sb s (x:Int).toNat ≠ 95) && decide (sb s (x:Int).toNat ≠ 39)) = !isC (sb s x):=by
 rw [Int.toNat_natCast]
 unfold isC
 generalize sb s x=c
 cases h1:isL c <;> simp
theorem okAt_0 {s:ByteArray} {i:Nat} (h:i < 1) (hl:isL (sb s 0)=true):okAt s i:=by
 have:i=0:=by omega
 subst this
 exact hl
theorem okAt_C {s:ByteArray} {i:Nat} (h:1 ≤ i) (hl:isC (sb s i)=true):okAt s i:=by
 unfold okAt; rw [if_neg zan]; exact hl
theorem okAt_not {s:ByteArray} {i:Nat} (h:1 ≤ i) (hl:isC (sb s i)=false) (ho:okAt s i):False:=by
 unfold okAt at ho; rw [if_neg zan,hl] at ho; cases ho
theorem word_bad {s:ByteArray} (h:((s.size:Int) < 1∨31 < (s.size:Int))∨isL (sb s (Int.toNat 0))=false):Value.bool false=Value.bool (decide (isWord s)):=by
 rw [decide_eq_false]
 rintro ⟨h1,h2,h3,_⟩
 rcases h with h | h
 ·omega
 ·have:=h3 0 h1
  unfold okAt at this
  rw [if_pos rfl] at this
  rw [show Int.toNat 0=0 from rfl,this] at h; cases h
theorem word_res {s t:ByteArray} {i:Nat} (h:resv[i]? = some t) (e:s=t):Value.bool false=Value.bool (decide (isWord s)):=by
 rw [decide_eq_false]
 rintro ⟨_,_,_,h4⟩
 have:jn s=true:=by
  unfold jn
  rw [List.any_eq_true]
  exact ⟨t,List.mem_of_getElem? h,by simpa using e⟩
 rw [this] at h4; cases h4
theorem word_yes {s:ByteArray} (h1:1 ≤ s.size) (h2:s.size ≤ 31) (h3 : ∀ i,i < s.size→okAt s i) (h4 : ∀ (i:Nat) t,resv[i]? = some t→s ≠ t):Value.bool true=Value.bool (decide (isWord s)):=by
 rw [decide_eq_true (show isWord s from ⟨h1,h2,h3,?_⟩)]
 unfold jn
 rw [List.any_eq_false]
 intro t ht
 obtain ⟨i,hi⟩ := List.getElem?_of_mem ht
 simpa using h4 i t hi
theorem word_no {s:ByteArray} {x:Nat} (hx:x < s.size) (h:¬ okAt s x):Value.bool false=Value.bool (decide (isWord s)):=by
 rw [decide_eq_false (fun hw=>h (hw.2.2.1 x hx))]
theorem ref03_letter_ok (w:World) (c:Int):Calls PP F_ref03_letter #[.int .u8 c] w <| Rt fun v w'=>(v = .bool (isL c)∧Ext w w'):=by
 refine zu (n:=17) Tryz.func168 rfl rfl zao ?_
 have E:=Ext.refl w
 refine zb (za (zj (zi rfl) zam (zd (zb (za (zj (zk rfl) zam (zj (ut rfl rfl) zam (zj (zy rfl) zam (zJ (j:=2) (pol:=true) rfl rfl rfl zam (fun hg=>zk rfl) zam (zJ (j:=2) (pol:=true) rfl rfl rfl zam (fun hg=>does_le (zn hg) rfl) zam (zj (zV rfl (fun hp=>(zn (xl hp)))) zam (zj (zy rfl) zam (zJ (j:=6) (pol:=false) rfl rfl rfl zam (fun hg=>zk rfl) zam (zJ (j:=6) (pol:=false) rfl rfl rfl zam (fun hg=>ut (zn hg) rfl) zam (zJ (j:=6) (pol:=false) rfl rfl rfl zam (fun hg=>zy (zn hg)) zam (xj (j:=9) (pol:=true) rfl rfl rfl zam (fun hg=>zk rfl) zam (xj (j:=9) (pol:=true) rfl rfl rfl zam (fun hg=>does_le (zn hg) rfl) zam (zJ (j:=6) (pol:=false) rfl rfl rfl zam (fun hg=>zV (zn hg) (fun hp=>(zn (and_b hg hp)))) zam (zj (xv rfl (fun hp=>(zn (xl hp)))) zam (zj (zi rfl) zam (zd (zr ?_))))))))))))))))))))))
 exact ⟨_,(zP (zf rfl)),congrArg Value.bool (letter_walk c),E⟩
theorem formula_reserved_ok (w:World) (s:ByteArray):Calls PP ku #[.string s] w <| Rt fun v w'=>(v = .bool (jn s)∧Ext w w'):=by
 refine zu (n:=17) Tryz.func179 rfl rfl zao ?_
 have E:=Ext.refl w
 refine zb (za (zj (zi rfl) zam (zd (zb (zb (za (zj (zW rfl) zam (zd ?_))))))))
 refine zL (zb (zb (za (zj (yo rfl rfl) zam (zj (zi rfl) zam (zd ?_))))))
 refine zI rfl (fun hc1=>?_) (fun hc1=>?_)
 all_goals try simp only [decide_eq_true_eq,decide_eq_false_iff_not] at hc1
 ·refine zw ?_
  refine zI rfl (fun hc2=>?_) (fun hc2=>?_)
  all_goals try simp only [decide_eq_true_eq,decide_eq_false_iff_not] at hc2
  ·refine zb (za (zj (zi rfl) zam (zd (zr ?_))))
   (refine ⟨.bool true,(zP (zf rfl)),?_,E⟩; exact (uJ ⟨#[97,98,111,114,116]⟩ zam ‹_›))
  refine zw (zb (za (zj (zi rfl) zam (zd (zr ?_)))))
  contradiction
 ·refine zb (za (zj (yo rfl rfl) zam (zj (zi rfl) zam (zd ?_))))
  refine zI rfl (fun hc3=>?_) (fun hc3=>?_)
  all_goals try simp only [decide_eq_true_eq,decide_eq_false_iff_not] at hc3
  ·refine zw ?_
   refine zI rfl (fun hc4=>?_) (fun hc4=>?_)
   all_goals try simp only [decide_eq_true_eq,decide_eq_false_iff_not] at hc4
   ·refine zb (za (zj (zi rfl) zam (zd (zr ?_))))
    (refine ⟨.bool true,(zP (zf rfl)),?_,E⟩; exact (uJ ⟨#[99,97,115,101]⟩ zam ‹_›))
   refine zw (zb (za (zj (zi rfl) zam (zd (zr ?_)))))
   contradiction
  ·refine zb (za (zj (yo rfl rfl) zam (zj (zi rfl) zam (zd ?_))))
   refine zI rfl (fun hc5=>?_) (fun hc5=>?_)
   all_goals try simp only [decide_eq_true_eq,decide_eq_false_iff_not] at hc5
   ·refine zw ?_
    refine zI rfl (fun hc6=>?_) (fun hc6=>?_)
    all_goals try simp only [decide_eq_true_eq,decide_eq_false_iff_not] at hc6
    ·refine zb (za (zj (zi rfl) zam (zd (zr ?_))))
     (refine ⟨.bool true,(zP (zf rfl)),?_,E⟩; exact (uJ ⟨#[102,97,108,115,101]⟩ zam ‹_›))
    refine zw (zb (za (zj (zi rfl) zam (zd (zr ?_)))))
    contradiction
   ·refine zb (za (zj (yo rfl rfl) zam (zj (zi rfl) zam (zd ?_))))
    refine zI rfl (fun hc7=>?_) (fun hc7=>?_)
    all_goals try simp only [decide_eq_true_eq,decide_eq_false_iff_not] at hc7
    ·refine zw ?_
     refine zI rfl (fun hc8=>?_) (fun hc8=>?_)
     all_goals try simp only [decide_eq_true_eq,decide_eq_false_iff_not] at hc8
     ·refine zb (za (zj (zi rfl) zam (zd (zr ?_))))
      (refine ⟨.bool true,(zP (zf rfl)),?_,E⟩; exact (uJ ⟨#[102,115,116]⟩ zam ‹_›))
     refine zw (zb (za (zj (zi rfl) zam (zd (zr ?_)))))
     contradiction
    ·refine zb (za (zj (yo rfl rfl) zam (zj (zi rfl) zam (zd ?_))))
     refine zI rfl (fun hc9=>?_) (fun hc9=>?_)
     all_goals try simp only [decide_eq_true_eq,decide_eq_false_iff_not] at hc9
     ·refine zw ?_
      refine zI rfl (fun hc10=>?_) (fun hc10=>?_)
      all_goals try simp only [decide_eq_true_eq,decide_eq_false_iff_not] at hc10
      ·refine zb (za (zj (zi rfl) zam (zd (zr ?_))))
       (refine ⟨.bool true,(zP (zf rfl)),?_,E⟩; exact (uJ ⟨#[102,117,110]⟩ zam ‹_›))
      refine zw (zb (za (zj (zi rfl) zam (zd (zr ?_)))))
      contradiction
     ·refine zb (za (zj (yo rfl rfl) zam (zj (zi rfl) zam (zd ?_))))
      refine zI rfl (fun hc11=>?_) (fun hc11=>?_)
      all_goals try simp only [decide_eq_true_eq,decide_eq_false_iff_not] at hc11
      ·refine zw ?_
       refine zI rfl (fun hc12=>?_) (fun hc12=>?_)
       all_goals try simp only [decide_eq_true_eq,decide_eq_false_iff_not] at hc12
       ·refine zb (za (zj (zi rfl) zam (zd (zr ?_))))
        (refine ⟨.bool true,(zP (zf rfl)),?_,E⟩; exact (uJ ⟨#[105,110]⟩ zam ‹_›))
       refine zw (zb (za (zj (zi rfl) zam (zd (zr ?_)))))
       contradiction
      ·refine zb (za (zj (yo rfl rfl) zam (zj (zi rfl) zam (zd ?_))))
       refine zI rfl (fun hc13=>?_) (fun hc13=>?_)
       all_goals try simp only [decide_eq_true_eq,decide_eq_false_iff_not] at hc13
       ·refine zw ?_
        refine zI rfl (fun hc14=>?_) (fun hc14=>?_)
        all_goals try simp only [decide_eq_true_eq,decide_eq_false_iff_not] at hc14
        ·refine zb (za (zj (zi rfl) zam (zd (zr ?_))))
         (refine ⟨.bool true,(zP (zf rfl)),?_,E⟩; exact (uJ ⟨#[105,110,108]⟩ zam ‹_›))
        refine zw (zb (za (zj (zi rfl) zam (zd (zr ?_)))))
        contradiction
       ·refine zb (za (zj (yo rfl rfl) zam (zj (zi rfl) zam (zd ?_))))
        refine zI rfl (fun hc15=>?_) (fun hc15=>?_)
        all_goals try simp only [decide_eq_true_eq,decide_eq_false_iff_not] at hc15
        ·refine zw ?_
         refine zI rfl (fun hc16=>?_) (fun hc16=>?_)
         all_goals try simp only [decide_eq_true_eq,decide_eq_false_iff_not] at hc16
         ·refine zb (za (zj (zi rfl) zam (zd (zr ?_))))
          (refine ⟨.bool true,(zP (zf rfl)),?_,E⟩; exact (uJ ⟨#[105,110,114]⟩ zam ‹_›))
         refine zw (zb (za (zj (zi rfl) zam (zd (zr ?_)))))
         contradiction
        ·refine zb (za (zj (yo rfl rfl) zam (zj (zi rfl) zam (zd ?_))))
         refine zI rfl (fun hc17=>?_) (fun hc17=>?_)
         all_goals try simp only [decide_eq_true_eq,decide_eq_false_iff_not] at hc17
         ·refine zw ?_
          refine zI rfl (fun hc18=>?_) (fun hc18=>?_)
          all_goals try simp only [decide_eq_true_eq,decide_eq_false_iff_not] at hc18
          ·refine zb (za (zj (zi rfl) zam (zd (zr ?_))))
           (refine ⟨.bool true,(zP (zf rfl)),?_,E⟩; exact (uJ ⟨#[108,101,116]⟩ zam ‹_›))
          refine zw (zb (za (zj (zi rfl) zam (zd (zr ?_)))))
          contradiction
         ·refine zb (za (zj (yo rfl rfl) zam (zj (zi rfl) zam (zd ?_))))
          refine zI rfl (fun hc19=>?_) (fun hc19=>?_)
          all_goals try simp only [decide_eq_true_eq,decide_eq_false_iff_not] at hc19
          ·refine zw ?_
           refine zI rfl (fun hc20=>?_) (fun hc20=>?_)
           all_goals try simp only [decide_eq_true_eq,decide_eq_false_iff_not] at hc20
           ·refine zb (za (zj (zi rfl) zam (zd (zr ?_))))
            (refine ⟨.bool true,(zP (zf rfl)),?_,E⟩; exact (uJ ⟨#[111,102]⟩ zam ‹_›))
           refine zw (zb (za (zj (zi rfl) zam (zd (zr ?_)))))
           contradiction
          ·refine zb (za (zj (yo rfl rfl) zam (zj (zi rfl) zam (zd ?_))))
           refine zI rfl (fun hc21=>?_) (fun hc21=>?_)
           all_goals try simp only [decide_eq_true_eq,decide_eq_false_iff_not] at hc21
           ·refine zw ?_
            refine zI rfl (fun hc22=>?_) (fun hc22=>?_)
            all_goals try simp only [decide_eq_true_eq,decide_eq_false_iff_not] at hc22
            ·refine zb (za (zj (zi rfl) zam (zd (zr ?_))))
             (refine ⟨.bool true,(zP (zf rfl)),?_,E⟩; exact (uJ ⟨#[115,110,100]⟩ zam ‹_›))
            refine zw (zb (za (zj (zi rfl) zam (zd (zr ?_)))))
            contradiction
           ·refine za (zj (yo rfl rfl) zam (zj (zi rfl) zam (zd ?_)))
            refine zI rfl (fun hc23=>?_) (fun hc23=>?_)
            all_goals try simp only [decide_eq_true_eq,decide_eq_false_iff_not,Bool.and_eq_true,Bool.or_eq_true,Bool.and_eq_false_iff,Bool.or_eq_false_iff,Bool.not_eq_true',Bool.not_eq_false',Int.not_lt,Int.not_le,ne_eq,Decidable.not_not] at hc23
            ·refine zb (za (zj (zi rfl) zam (zd (zr ?_))))
             (refine ⟨.bool true,(zP (zf rfl)),?_,E⟩; exact (uJ ⟨#[116,114,117,101]⟩ zam ‹_›))
            refine zw (zb (za (zj (zi rfl) zam (zd (zr ?_)))))
            (refine ⟨.bool false,(zP (zf rfl)),?_,E⟩; exact resv_no (by refine ⟨?_,?_,?_,?_,?_,?_,?_,?_,?_,?_,?_,?_⟩ <;> assumption))
theorem formula_Word_ok (w:World) (s:ByteArray) (hs:s.size < 9223372036854775808):Calls PP kr #[.string s] w <| Rt fun v w'=>(v = .bool (decide (isWord s))∧Ext w w'):=by
 refine zu (n:=58) Tryz.func163 rfl rfl zao ?_
 have E:=Ext.refl w
 refine zb (za (zj (zi rfl) zam (zd (zb (zb (za (zj (zW rfl) zam (zj (jV yu rfl) zam (zj (zk rfl) zam (zd ?_))))))))))
 refine zL ?_
 refine xI (α:=Nat) ([2,3,4,5,6] ++ rg 9 37) (fun x fr W=>(fr 9 = .int .i64 (x:Nat))∧(Ext w W)∧(x ≤ s.size)∧(∀ i,i < x→okAt s i)) (fun x=>s.size - x) 0 ⟨rfl,Chg.refl _ _,by omega,fun i h=>by omega⟩ ?_
 rintro x g0 u0 ⟨s0_9,K0,hx,hp⟩
 replace E:=E.thenExt K0
 refine zb (za (zj (xp s0_9 rfl) zam (zd (zb ?_))))
 refine zI rfl (fun hc1=>?_) (fun hc1=>?_)
 all_goals try simp only [decide_eq_true_eq,decide_eq_false_iff_not,Bool.and_eq_true,Bool.or_eq_true,Bool.and_eq_false_iff,Bool.or_eq_false_iff,Bool.not_eq_true',Bool.not_eq_false',Int.not_lt,Int.not_le,ne_eq,Decidable.not_not] at hc1
 rotate_left
 ·refine xO (zb (za (zj (zW rfl) zam (zj (um rfl rfl) zam (zj (zy rfl) zam (zJ (j:=2) (pol:=true) rfl rfl rfl zam (fun hg=>zW rfl) zam (zJ (j:=2) (pol:=true) rfl rfl rfl zam (fun hg=>jV yu (zn hg)) zam (zJ (j:=2) (pol:=true) rfl rfl rfl zam (fun hg=>does_le (zn hg) rfl) zam (zj (zV rfl (fun hp=>(zn (xl hp)))) zam (zj (zy rfl) zam (zJ (j:=7) (pol:=true) rfl rfl rfl zam (fun hg=>zW rfl) zam ?_)))))))))))
  refine xJ (j:=7) (pol:=true) rfl rfl rfl zam (fun hg=>zK ca_formula_reserved (zN (zn hg) rfl)) zam (fun hg=>formula_reserved_ok _ _) fun w1 h1=>?_
  replace E:=E.thenExt h1
  refine zJ (j:=7) (pol:=true) rfl rfl rfl zam (fun hg=>xf (zn hg)) zam (zj (zV rfl (fun hp=>(zn (xl hp)))) zam (zj (zi rfl) zam (zd (zr ?_))))
  exact ⟨.bool (decide (s ≠ ⟨#[]⟩) && decide ((s.size:Int) ≤ 31) && !jn s),(zP (zf rfl)),word_end (fun i h=>hp i zan),E⟩
 refine zw (zb ?_)
 refine zL (zb (za (zj (zk s0_9) zam (zj (zh rfl) zam (zd (zb (za (zj (zW rfl) zam (zj (zk rfl) zam (zj (vA yu rfl rfl zan zan) zam (zj (zh rfl) zam (zd (zb (za (zj (zk rfl) zam (zj (does_bits zao rfl rfl) zam (zj (zh rfl) zam (zd (zb (za (zj (zk rfl) zam (zj (ut rfl rfl) zam (zj (zy rfl) zam (zJ (j:=2) (pol:=true) rfl rfl rfl zam (fun hg=>zk rfl) zam (zJ (j:=2) (pol:=true) rfl rfl rfl zam (fun hg=>does_le (zn hg) rfl) zam (zj (zV rfl (fun hp=>(zn (xl hp)))) zam (zj (zi rfl) zam (zd (zb (za (zj (zy rfl) zam (zj (xf rfl) zam (zj (zy rfl) zam (zJ (j:=2) (pol:=true) rfl rfl rfl zam (fun hg=>zk rfl) zam (zJ (j:=2) (pol:=true) rfl rfl rfl zam (fun hg=>zR (zn hg) rfl) zam (zJ (j:=2) (pol:=true) rfl rfl rfl zam (fun hg=>zy (zn hg)) zam (xj (j:=5) (pol:=false) rfl rfl rfl zam (fun hg=>zk rfl) zam (xj (j:=5) (pol:=false) rfl rfl rfl zam (fun hg=>xq (zn hg) rfl) zam ?_))))))))))))))))))))))))))))))))))))))
 refine xj (j:=5) (pol:=false) rfl rfl rfl zam (fun hg=>zy (zn hg)) zam (xj (j:=8) (pol:=true) rfl rfl rfl zam (fun hg=>zk rfl) zam (xj (j:=8) (pol:=true) rfl rfl rfl zam (fun hg=>xq (zn hg) rfl) zam (xj (j:=5) (pol:=false) rfl rfl rfl zam (fun hg=>zV (zn hg) (fun hp=>(zn (and_b hg hp)))) zam (xj (j:=5) (pol:=false) rfl rfl rfl zam (fun hg=>zy (zn hg)) zam (xj (j:=12) (pol:=true) rfl rfl rfl zam (fun hg=>zk rfl) zam (xj (j:=12) (pol:=true) rfl rfl rfl zam (fun hg=>xp (zn hg) rfl) zam (xj (j:=12) (pol:=true) rfl rfl rfl zam (fun hg=>zy (zn hg)) zam (xj (j:=15) (pol:=false) rfl rfl rfl zam (fun hg=>zk rfl) zam (xj (j:=15) (pol:=false) rfl rfl rfl zam (fun hg=>jL (zn hg) rfl) zam (xj (j:=12) (pol:=true) rfl rfl rfl zam (fun hg=>xv (zn hg) (fun hp=>(zn (and_b hg hp)))) zam (xj (j:=5) (pol:=false) rfl rfl rfl zam (fun hg=>zV (zn hg) (fun hp=>(zn (and_b hg hp)))) zam (zJ (j:=2) (pol:=true) rfl rfl rfl zam (fun hg=>xv (zn hg) (fun hp=>(zn (and_b hg hp)))) zam (zj (zV rfl (fun hp=>(zn (xl hp)))) zam (zd ?_))))))))))))))
 refine zI rfl (fun hc2=>?_) (fun hc2=>?_)
 all_goals rw [word_cond] at hc2; simp only [Bool.not_eq_true',Bool.not_eq_false',decide_eq_false_iff_not,decide_eq_true_eq] at hc2
 ·refine zb (za (zj (zi rfl) zam (zd (zr ?_))))
  exact ⟨.bool false,(zP (zf rfl)),word_no zan hc2,E⟩
 refine zw (za (zj (xi s0_9 rfl (c:=_) rfl zan zan) zam (zj (zk rfl) zam (zd ?_))))
 exact ⟨rfl,df,x + 1,⟨rfl,K0,by omega,fun i h=>(Nat.lt_or_eq_of_le (Nat.le_of_lt_succ h)).elim (hp i) (fun e=>by subst e; exact hc2)⟩,by (try dsimp only); omega⟩
theorem ref03_Reserved_ok (w:World):Calls PP k7 #[] w <| Rt fun v w'=>(∃ s,v=SlV.v s∧Rd w' 1 s (resv.map SC)∧(∀ i,s.fp i→w.heap.size ≤ i)∧Ext w w'):=by
 refine zu (n:=2) Tryz.func169 rfl rfl zao ?_
 have E:=Ext.refl w
 refine zb (za (zj (xT) zam (zd (zb (za ?_)))))
 refine wl_buildSlice (vs:=resv.map Value.string) (rows:=resv.map SC) vw el_string.zero rfl rfl zam rfl zam zam fun b1 w1 s1 h1 q1=>?_
 have l_b1:w.heap.size ≤ b1:=by have:=h1.at_; have:=E.size; omega
 have B1:=h1.blk
 replace E:=E.thenExt h1.ext
 refine zj (yM rfl) zam (zd (zr ?_))
 exact ⟨_,(zP (zf rfl)),s1,rfl,B1.rdl (fun a _=>rfl) q1 rfl,(fun i hi=>by rw [fp_at q1 hi]; exact l_b1),E⟩
theorem ref03_Word_ok (w:World) (s:ByteArray) (hs:s.size < 9223372036854775808):Calls PP F_ref03_Word #[.string s] w <| Rt fun v w'=>(v = .bool (decide (isWord s))∧Ext w w'):=by
 refine zu (n:=69) Tryz.func134 rfl rfl zao ?_
 have E:=Ext.refl w
 refine zb (za (zj (zi rfl) zam (zd (zb (zb (za (zj (zW rfl) zam (zj (jV yu rfl) zam (zj (xp rfl rfl) zam (zj (zy rfl) zam (zJ (j:=3) (pol:=false) rfl rfl rfl zam (fun hg=>zW rfl) zam (zJ (j:=3) (pol:=false) rfl rfl rfl zam (fun hg=>jV yu (zn hg)) zam (zJ (j:=3) (pol:=false) rfl rfl rfl zam (fun hg=>jL (zn hg) rfl) zam (zj (xv rfl (fun hp=>(zn (xl hp)))) zam (zj (zy rfl) zam (zJ (j:=8) (pol:=false) rfl rfl rfl zam (fun hg=>zW rfl) zam (zJ (j:=8) (pol:=false) rfl rfl rfl zam (fun hg=>vA yu (zn hg) rfl (by simp at hg; omega) (by simp at hg; omega)) zam ?_)))))))))))))))))
 refine xJ (j:=8) (pol:=false) rfl rfl rfl zam (fun hg=>zK ca_ref03_letter (zN (zn hg) rfl)) zam (fun hg=>ref03_letter_ok _ _) fun w1 h1=>?_
 replace E:=E.thenExt h1
 refine zJ (j:=8) (pol:=false) rfl rfl rfl zam (fun hg=>xf (zn hg)) zam (zj (xv rfl (fun hp=>(zn (xl hp)))) zam (zd ?_))
 refine zI rfl (fun hc1=>?_) (fun hc1=>?_)
 all_goals try simp only [decide_eq_true_eq,decide_eq_false_iff_not,Bool.and_eq_true,Bool.or_eq_true,Bool.and_eq_false_iff,Bool.or_eq_false_iff,Bool.not_eq_true',Bool.not_eq_false',Int.not_lt,Int.not_le,ne_eq,Decidable.not_not] at hc1
 ·refine zb (za (zj (zi rfl) zam (zd (zr ?_))))
  exact ⟨.bool false,(zP (zf rfl)),word_bad hc1,E⟩
 refine zw (zb (zb (za (zj (zh rfl) zam (zd ?_)))))
 refine zL ?_
 refine xI (α:=Nat) ([2,3] ++ rg 20 36) (fun x fr W=>(fr 3 = .int .i64 (x:Nat))∧(Ext w1 W)∧(1 ≤ x∧x ≤ s.size)∧(∀ i,i < x→okAt s i)) (fun x=>s.size - x) 1 ⟨rfl,Chg.refl _ _,by omega,fun i h=>okAt_0 h hc1.2⟩ ?_
 rintro x g0 u0 ⟨s0_3,K0,hx,hp⟩
 replace E:=E.thenExt K0
 refine zb (zb (za (zj (zk s0_3) zam (zj (zW rfl) zam (zj (jV yu rfl) zam (zj (xp rfl rfl) zam (zd ?_)))))))
 refine zI rfl (fun hc2=>?_) (fun hc2=>?_)
 all_goals try simp only [decide_eq_true_eq,decide_eq_false_iff_not,Bool.and_eq_true,Bool.or_eq_true,Bool.and_eq_false_iff,Bool.or_eq_false_iff,Bool.not_eq_true',Bool.not_eq_false',Int.not_lt,Int.not_le,ne_eq,Decidable.not_not] at hc2
 rotate_left
 ·refine xO (zb (za ?_))
  refine zA (zx ca_ref03_Reserved) zam (ref03_Reserved_ok _ ) ?_
  rintro _ w2 ⟨s56,rfl,R56,m56,h2⟩
  have n_R56 : ∀ i,s56.fp i→w.heap.size ≤ i:=fun i e=>by have:=m56 _ e; have:=E.size; omega
  replace E:=E.thenExt h2
  refine zj (yM rfl) zam (zd (zb (zb (za (zj (zh rfl) zam (zd ?_))))))
  refine zL ?_
  refine xI (α:=Nat) ([2,5] ++ rg 57 12) (fun y fr W=>(fr 5 = .int .i64 (y:Nat))∧(Ext w2 W)∧(y ≤ 12)∧(∀ (i:Nat) t,i < y→resv[i]? = some t→s ≠ t)) (fun y=>12 - y) 0 ⟨rfl,Chg.refl _ _,by omega,fun i t h=>by omega⟩ ?_
  rintro y g1 u1 ⟨s1_5,K1,hy,hq⟩
  replace R56:=R56.ext K1
  replace E:=E.thenExt K1
  have hrl:resv.length=12:=rfl
  obtain ⟨a,ha⟩ : ∃ a,y < 12→resv[y]? = some a:=⟨resv.getD y ⟨#[]⟩,fun h=>by have:y < resv.length:=h; simp [this]⟩
  refine zb (zb (za (zj (zk s1_5) zam (zj (zM rfl) zam (zj (xE vw rfl R56) zam (zj (xp rfl rfl) zam (zd ?_)))))))
  refine zI rfl (fun hc3=>?_) (fun hc3=>?_)
  all_goals try simp only [decide_eq_true_eq,decide_eq_false_iff_not,Bool.and_eq_true,Bool.or_eq_true,Bool.and_eq_false_iff,Bool.or_eq_false_iff,Bool.not_eq_true',Bool.not_eq_false',Int.not_lt,Int.not_le,ne_eq,Decidable.not_not] at hc3
  rotate_left
  ·refine xO (zb (za (zj (zi rfl) zam (zd (zr ?_)))))
   exact ⟨.bool true,(zP (zf rfl)),word_yes zan zan (fun i h=>hp i zan) (fun i t h=>hq i t (by have:i < resv.length:=(List.getElem?_eq_some_iff.1 h).1; have:resv.length=12:=rfl; omega) h),E⟩
  refine zw (zb ?_)
  refine zL (zb (za (zj (zM rfl) zam (zj (zk s1_5) zam (zj (xg vw rfl rfl R56 zan zan) zam (zj (zl xt rfl (R56.one (ha zan) rfl)) zam (zj (zW rfl) zam (zj (yo rfl rfl) zam (zd ?_)))))))))
  refine zI rfl (fun hc4=>?_) (fun hc4=>?_)
  all_goals try simp only [decide_eq_true_eq,decide_eq_false_iff_not] at hc4
  ·refine zb (za (zj (zi rfl) zam (zd (zr ?_))))
   exact ⟨.bool false,(zP (zf rfl)),word_res (ha zan) hc4.symm,E⟩
  refine zw (za (zj (zk s1_5) zam (zj (xi rfl rfl (c:=_) rfl zan zan) zam (zj (zh rfl) zam (zd ?_)))))
  exact ⟨rfl,df,y + 1,⟨rfl,K1,by omega,fun i t h e=>(Nat.lt_or_eq_of_le (Nat.le_of_lt_succ h)).elim (fun h=>hq i t h e) (fun e2=>by subst e2; rw [ha zan] at e; injection e with e; subst e; exact fun h=>hc4 h.symm)⟩,by (try dsimp only); omega⟩
 refine zw (zb ?_)
 refine zL (zb (za (zj (zW rfl) zam (zj (zk s0_3) zam (zj (vA yu rfl rfl zan zan) zam ?_)))))
 refine zA (zx ca_ref03_letter) zam (ref03_letter_ok _ _) ?_
 rintro _ w3 ⟨rfl,h3⟩
 replace E:=E.thenExt h3
 replace K0:=K0.thenExt h3
 refine zj (xf rfl) zam (zj (zy rfl) zam (zJ (j:=5) (pol:=true) rfl rfl rfl zam (fun hg=>zW rfl) zam (zJ (j:=5) (pol:=true) rfl rfl rfl zam (fun hg=>zk s0_3) zam (zJ (j:=5) (pol:=true) rfl rfl rfl zam (fun hg=>vA yu (zn hg) (zn hg) (by simp at hg; omega) (by simp at hg; omega)) zam (zJ (j:=5) (pol:=true) rfl rfl rfl zam (fun hg=>ut (zn hg) rfl) zam (zJ (j:=5) (pol:=true) rfl rfl rfl zam (fun hg=>zy (zn hg)) zam (xj (j:=10) (pol:=true) rfl rfl rfl zam (fun hg=>zW rfl) zam (xj (j:=10) (pol:=true) rfl rfl rfl zam (fun hg=>zk s0_3) zam (xj (j:=10) (pol:=true) rfl rfl rfl zam (fun hg=>vA yu (zn hg) (zn hg) (by simp at hg; omega) (by simp at hg; omega)) zam (xj (j:=10) (pol:=true) rfl rfl rfl zam (fun hg=>does_le (zn hg) rfl) zam (zJ (j:=5) (pol:=true) rfl rfl rfl zam (fun hg=>zV (zn hg) (fun hp=>(zn (and_b hg hp)))) zam (zJ (j:=5) (pol:=true) rfl rfl rfl zam (fun hg=>xf (zn hg)) zam (zj (zV rfl (fun hp=>(zn (xl hp)))) zam (zj (zy rfl) zam (zJ (j:=18) (pol:=true) rfl rfl rfl zam (fun hg=>zW rfl) zam (zJ (j:=18) (pol:=true) rfl rfl rfl zam (fun hg=>zk s0_3) zam (zJ (j:=18) (pol:=true) rfl rfl rfl zam (fun hg=>vA yu (zn hg) (zn hg) (by simp at hg; omega) (by simp at hg; omega)) zam (zJ (j:=18) (pol:=true) rfl rfl rfl zam (fun hg=>xq (zn hg) rfl) zam (zj (zV rfl (fun hp=>(zn (xl hp)))) zam (zj (zy rfl) zam (zJ (j:=24) (pol:=true) rfl rfl rfl zam (fun hg=>zW rfl) zam (zJ (j:=24) (pol:=true) rfl rfl rfl zam (fun hg=>zk s0_3) zam (zJ (j:=24) (pol:=true) rfl rfl rfl zam (fun hg=>vA yu (zn hg) (zn hg) (by simp at hg; omega) (by simp at hg; omega)) zam (zJ (j:=24) (pol:=true) rfl rfl rfl zam (fun hg=>xq (zn hg) rfl) zam (zj (zV rfl (fun hp=>(zn (xl hp)))) zam (zd ?_))))))))))))))))))))))))))
 refine zI rfl (fun hc5=>?_) (fun hc5=>?_)
 all_goals rw [word_cond2] at hc5; simp only [Bool.not_eq_true',Bool.not_eq_false'] at hc5
 ·refine zb (za (zj (zi rfl) zam (zd (zr ?_))))
  exact ⟨.bool false,(zP (zf rfl)),word_no zan (fun h=>okAt_not zan hc5 h),E⟩
 refine zw (za (zj (zk s0_3) zam (zj (xi rfl rfl (c:=_) rfl zan zan) zam (zj (zh rfl) zam (zd ?_)))))
 exact ⟨rfl,df,x + 1,⟨rfl,K0,by omega,fun i h=>(Nat.lt_or_eq_of_le (Nat.le_of_lt_succ h)).elim (hp i) (fun e=>by subst e; exact okAt_C zan hc5)⟩,by (try dsimp only); omega⟩
end
section
open Gw Go.RowKit
def uO (N:List Nd) (i:Int):Bool:=decide (0 ≤ i) && decide (i < N.length)
def nodeS (N:List Nd) (i:Int):Nd × Bool:=if uO N i=true then (N.getD i.toNat Nd.z,true) else (Nd.z,false)
theorem row_of {N:List Nd} {i:Int} (h:uO N i=true):0 ≤ i∧i < N.length ∧ ∃ a,N[i.toNat]? = some a:=by
 simp only [uO,Bool.and_eq_true,decide_eq_true_eq] at h
 exact ⟨h.1,h.2,_,List.getElem?_eq_getElem zan⟩
theorem node_no {N:List Nd} {i:Int} (h:uO N i=false):nodeS N i=(Nd.z,false):=by rw [nodeS,h]; rfl
theorem node_yes {N:List Nd} {i:Int} {a:Nd} (h:uO N i=true) (ha:N[i.toNat]? = some a):nodeS N i=(a,true):=by rw [nodeS,if_pos h,List.getD_eq_getElem?_getD,ha]; rfl
def yW (N:List Nd) (n:Nd):Int :=
 if n.kind=1 then (if ¬ n.l=0∨¬ n.r=0 then 31 else if isWord n.name then 0 else 32)
 else if n.kind=2 then (if n={ Nd.z with kind:=2 } then 0 else 31)
 else if n.kind=3∨n.kind=4∨n.kind=5 then (if (¬ n.name=⟨#[]⟩ ∨ uO N n.l=false)∨uO N n.r=false then 31 else 0)
 else 31
def putS (N:List Nd) (n:Nd):List Nd × Int × Int :=
 if yW N n=0 then (match N.idxOf? n with
  | some k=>(N,(k:Int),0)
  | none=>if 1024 ≤ N.length then (N,0,30) else (N ++ [n],(N.length:Int),0))
 else (N,0,yW N n)
theorem put_bad {N:List Nd} {n:Nd} (h:¬ yW N n=0):putS N n=(N,0,yW N n):=by rw [putS,if_neg h]
theorem put_old {N:List Nd} {n:Nd} {k:Nat} (h:yW N n=0) (hk:N.idxOf? n=some k):putS N n=(N,(k:Int),0):=by rw [putS,if_pos h,hk]
theorem put_full {N:List Nd} {n:Nd} (h:yW N n=0) (hk:N.idxOf? n=none) (hl:1024 ≤ N.length):putS N n=(N,0,30):=by rw [putS,if_pos h,hk]; exact if_pos hl
theorem put_new {N:List Nd} {n:Nd} (h:yW N n=0) (hk:N.idxOf? n=none) (hl:¬ 1024 ≤ N.length):putS N n=(N ++ [n],(N.length:Int),0):=by rw [putS,if_pos h,hk]; exact if_neg hl
theorem look_zip (n:Nd) : ∀ (N:List Nd) (k:Nat),Gw.look n ((N.zipIdx k).map fun q=>(q.1,(q.2:Int)))=(N.idxOf? n).map fun i=>((i + k:Nat):Int)
 | [],k=>rfl
 | a :: N,k=>by
  rw [List.zipIdx_cons,List.map_cons,List.idxOf?_cons]
  unfold Gw.look
  by_cases h:n=a
  ·subst h; simp
  ·have h2:(a == n)=false:=by simpa using fun e=>h e.symm
   rw [if_neg h,h2,look_zip n N (k + 1)]
   cases N.idxOf? n with
   | none=>rfl
   | some i=>simp; omega
theorem look_rows {n:Nd} {N:List Nd}:Gw.look n (N.zipIdx.map fun q=>(q.1,(q.2:Int)))=(N.idxOf? n).map fun (i:Nat)=>(i:Int):=by simpa using look_zip n N 0
theorem idx_none {n:Nd} {N:List Nd} (h:(Gw.look n (N.zipIdx.map fun q=>(q.1,(q.2:Int)))).isSome=false):N.idxOf? n=none:=by
 rw [look_rows] at h
 cases hq:N.idxOf? n with
 | none=>rfl
 | some k=>rw [hq] at h; cases h
theorem ins_none {x:Nd} {y:Int} : ∀ (l:List (Nd × Int)),Gw.look x l=none→ins x y l=l ++ [(x,y)]
 | [],_=>rfl
 | (k,v) :: l,h=>by
  unfold Gw.look at h
  unfold ins
  by_cases e:x=k
  ·rw [if_pos e] at h; cases h
  ·rw [if_neg e] at h ⊢; rw [ins_none l h]; rfl
theorem ins_rows {n:Nd} {N:List Nd} (h:N.idxOf? n=none):ins n (N.length:Int) (N.zipIdx.map fun q=>(q.1,(q.2:Int)))=(N ++ [n]).zipIdx.map fun q=>(q.1,(q.2:Int)):=by
 rw [ins_none _ (by rw [look_rows,h]; rfl),List.zipIdx_append]; simp
def ndV (x:Nd):Value := .agg (Nd.C x).toArray
structure TabIs (w:World) (p:Nat) (N:List Nd) (A:Nat→Prop) (s:SlV) (m:Nat):Prop where
 bp:Blk w p ui (Tab.C ⟨s,some m⟩)
 own:Own w 0 T_Nd 4 s (N.map Nd.C)
 map:MapB w m ndV (Value.int .i64) (N.zipIdx.map fun q=>(q.1,(q.2:Int)))
 pm:p ≠ m
 ps:¬ s.fp p
 ms:¬ s.fp m
 fp : ∀ i,A i↔(i=p∨i=m∨s.fp i)
def TabAt (w:World) (p:Nat) (N:List Nd) (A:Nat→Prop):Prop := ∃ s m,Blk w p ui (Tab.C ⟨s,some m⟩)∧Own w 0 T_Nd 4 s (N.map Nd.C)∧MapB w m ndV (Value.int .i64) (N.zipIdx.map fun q=>(q.1,(q.2:Int)))∧p ≠ m∧¬ s.fp p∧¬ s.fp m∧(∀ i,A i↔(i=p∨i=m∨s.fp i))
theorem TabAt.mk {w:World} {p:Nat} {N:List Nd} {A:Nat→Prop} {s:SlV} {m:Nat} (bp:Blk w p ui (Tab.C ⟨s,some m⟩)) (own:Own w 0 T_Nd 4 s (N.map Nd.C)) (map:MapB w m ndV (Value.int .i64) (N.zipIdx.map fun q=>(q.1,(q.2:Int)))) (pm:p ≠ m) (ps:¬ s.fp p) (ms:¬ s.fp m)
  (fp : ∀ i,A i↔(i=p∨i=m∨s.fp i)):TabAt w p N A:=⟨s,m,bp,own,map,pm,ps,ms,fp⟩
theorem TabAt.lt {w:World} {p:Nat} {N:List Nd} {A:Nat→Prop} (h:TabAt w p N A) : ∀ i,A i→i < w.heap.size:=by
 obtain ⟨s,m,b,o,mm,_,_,_,hA⟩ := h
 intro i hi
 rcases (hA i).1 hi with rfl | rfl | hi
 ·exact b.lt
 ·exact mm.lt
 ·exact o.lt i hi
theorem TabAt.keep {S:Nat→Prop} {w w':World} {p:Nat} {N:List Nd} {A:Nat→Prop} (h:TabAt w p N A) (hc:Chg S w w') (hs : ∀ i,A i→¬ S i):TabAt w' p N A:=by
 obtain ⟨s,m,b,o,mm,h1,h2,h3,hA⟩ := h
 exact ⟨s,m,b.chg hc (hs _ ((hA _).2 (.inl rfl))),o.keep hc (fun i hi=>hs _ ((hA _).2 (.inr (.inr hi)))),mm.chg hc (hs _ ((hA _).2 (.inr (.inl rfl)))),h1,h2,h3,hA⟩
theorem y4 (w:World) {p:Nat} {N:List Nd} {A:Nat→Prop} (T:TabAt w p N A):Calls PP ym #[.pointer (some ⟨p,0,none⟩)] w <| Rt fun v w'=>(v = .bool true∧Ext w w'):=by
 obtain ⟨s,m,Bp,O,M,hpm,d_p_O,d_m_O,hA⟩ := T
 refine zu (n:=12) Tryz.func100 rfl rfl zao ?_
 have E:=Ext.refl w
 refine zb (za (zj (zi rfl) zam (zd (zb (za (zj (zB rfl) zam (zj (does_nep0 vh rfl rfl) zam (zj (zy rfl) zam (zJ (j:=2) (pol:=true) rfl rfl rfl zam (fun hg=>zB rfl) zam (zJ (j:=2) (pol:=true) rfl rfl rfl zam (fun hg=>zS (zn hg)) zam (zJ (j:=2) (pol:=true) rfl rfl rfl zam (fun hg=>zg kC (zn hg) (o':=1) rfl) zam (zJ (j:=2) (pol:=true) rfl rfl rfl zam (fun hg=>zl vv (zn hg) (Bp.cell (Tab.get_at_ _))) zam (zJ (j:=2) (pol:=true) rfl rfl rfl zam (fun hg=>does_nem0 vx (zn hg) rfl) zam (zj (zV rfl (fun hp=>(zn (xl hp)))) zam (zj (zi rfl) zam (zd (zr ?_)))))))))))))))))
 exact ⟨_,(zP (zf rfl)),rfl,E⟩
theorem xU (w:World) (i:Int) {p:Nat} {N:List Nd} {A:Nat→Prop} (T:TabAt w p N A):Calls PP kh #[.pointer (some ⟨p,0,none⟩),.int .i64 i] w <| Rt fun v w'=>(v = .bool (uO N i)∧Ext w w'):=by
 obtain ⟨s,m,Bp,O,M,hpm,d_p_O,d_m_O,hA⟩ := T
 refine zu (n:=16) Tryz.func154 rfl rfl zao ?_
 have E:=Ext.refl w
 refine zb (za (zj (zi rfl) zam (zd (zb (za (zj (zk rfl) zam (zj (ut rfl rfl) zam (zj (zy rfl) zam (zJ (j:=2) (pol:=true) rfl rfl rfl zam (fun hg=>zk rfl) zam (zJ (j:=2) (pol:=true) rfl rfl rfl zam (fun hg=>zB rfl) zam (zJ (j:=2) (pol:=true) rfl rfl rfl zam (fun hg=>zS (zn hg)) zam (zJ (j:=2) (pol:=true) rfl rfl rfl zam (fun hg=>zg vr (zn hg) (o':=0) rfl) zam (zJ (j:=2) (pol:=true) rfl rfl rfl zam (fun hg=>zl xA (zn hg) (Bp.cell (Tab.get_rows _))) zam (zJ (j:=2) (pol:=true) rfl rfl rfl zam (fun hg=>xE xd (zn hg) O.toRd) zam (zJ (j:=2) (pol:=true) rfl rfl rfl zam (fun hg=>xp (zn hg) (zn hg)) zam (zj (zV rfl (fun hp=>(zn (xl hp)))) zam (zj (zi rfl) zam (zd (zr ?_)))))))))))))))))))
 exact ⟨_,(zP (zf rfl)),rfl,E⟩
theorem formula_Table_Len_ok (w:World) {p:Nat} {N:List Nd} {A:Nat→Prop} (T:TabAt w p N A):Calls PP uA #[.pointer (some ⟨p,0,none⟩)] w <| Rt fun v w'=>(v = .int .i64 N.length∧Ext w w'):=by
 obtain ⟨s,m,Bp,O,M,hpm,d_p_O,d_m_O,hA⟩ := T
 refine zu (n:=11) Tryz.func81 rfl rfl zao ?_
 have E:=Ext.refl w
 refine zb (za (zj (zh rfl) zam (zd (zb (zb (za (zj (zB rfl) zam ?_)))))))
 refine zA (zx yf) zam (y4 _ (TabAt.mk Bp O M hpm d_p_O d_m_O hA)) ?_
 rintro _ w1 ⟨rfl,h1⟩
 replace Bp:=Bp.ext h1
 replace O:=O.ext h1
 replace M:=M.ext h1
 replace E:=E.thenExt h1
 refine zj (xf rfl) zam (zd ?_)
 refine wc_false rfl (zw (zb (za (zj (zB rfl) zam (zj (zS rfl) zam (zj (zg vr rfl (o':=0) rfl) zam (zj (zl xA rfl (Bp.cell (Tab.get_rows _))) zam (zj (xE xd rfl O.toRd) zam (zj (zh rfl) zam (zd (zr ?_)))))))))))
 exact ⟨_,(zP (zf rfl)),rfl,E⟩
theorem formula_Table_Node_ok (w:World) (i:Int) {p:Nat} {N:List Nd} {A:Nat→Prop} (T:TabAt w p N A):Calls PP ue #[.pointer (some ⟨p,0,none⟩),.int .i64 i] w <| Rt fun v w'=>(v = .tuple #[.agg (Nd.C (nodeS N i).1).toArray,.bool (nodeS N i).2]∧Ext w w'):=by
 obtain ⟨s,m,Bp,O,M,hpm,d_p_O,d_m_O,hA⟩ := T
 refine zu (n:=23) Tryz.func92 rfl rfl zao ?_
 have E:=Ext.refl w
 refine zb (za ?_)
 refine zQ ze_Nd zam fun b4 w1 h1=>?_
 have l_b4:w.heap.size ≤ b4:=by have:=h1.at_; have:=E.size; omega
 have o_b4_p:p < b4:=by have:=Bp.lt; have:=h1.at_; omega
 have d_b4_O:¬ s.fp b4:=fun e=>by have:=O.lt _ e; have:=h1.at_; omega
 have o_b4_m:m < b4:=by have:=M.lt; have:=h1.at_; omega
 have B4:=h1.blk
 replace Bp:=Bp.ext h1.ext
 replace O:=O.ext h1.ext
 replace M:=M.ext h1.ext
 replace E:=E.thenExt h1.ext
 refine zj (zi rfl) zam (zd (zb (zb (za (zj (zB rfl) zam ?_)))))
 refine zA (zx yf) zam (y4 _ (TabAt.mk Bp O M hpm d_p_O d_m_O hA)) ?_
 rintro _ w2 ⟨rfl,h2⟩
 replace Bp:=Bp.ext h2
 replace O:=O.ext h2
 replace M:=M.ext h2
 replace B4:=B4.ext h2
 replace E:=E.thenExt h2
 refine zj (xf rfl) zam (zj (zy rfl) zam (zJ (j:=3) (pol:=false) rfl rfl rfl zam (fun hg=>zB rfl) zam (zJ (j:=3) (pol:=false) rfl rfl rfl zam (fun hg=>zk rfl) zam ?_)))
 refine xJ (j:=3) (pol:=false) rfl rfl rfl zam (fun hg=>zK xS (zN (zn hg) (zN (zn hg) rfl))) zam (fun hg=>xU _ _ (TabAt.mk Bp O M hpm d_p_O d_m_O hA)) fun w3 h3=>?_
 replace Bp:=Bp.ext h3
 replace O:=O.ext h3
 replace M:=M.ext h3
 replace B4:=B4.ext h3
 replace E:=E.thenExt h3
 refine zJ (j:=3) (pol:=false) rfl rfl rfl zam (fun hg=>xf (zn hg)) zam (zj (xv rfl (fun hp=>(zn (xl hp)))) zam (zd ?_))
 refine zI rfl (fun hc1=>?_) (fun hc1=>?_)
 all_goals simp only [Bool.not_true,Bool.false_or,Bool.not_eq_true',Bool.not_eq_false'] at hc1
 ·refine zb (za (zj (vP bu_Nd Bld.nil) zam ?_))
  refine z7 v7 rfl rfl B4 (Nd.len _) (by rw [Nd.len]; decide) (Nd.one _) (xx (Nd.len _)) fun w4 B h4 z4=>?_
  replace B4:=B; clear B
  replace Bp:=Bp.chg h4 (fun (e:p=b4)=>by omega)
  replace O:=O.keep h4 (fun i hi (e:i=b4)=>d_b4_O (e ▸ hi))
  replace M:=M.chg h4 (fun (e:m=b4)=>by omega)
  replace E:=E.thenChg h4 (fun i hi (e:i=b4)=>absurd hi zan)
  refine zj (zi rfl) zam (zd (zr ?_))
  exact ⟨.tuple #[.agg (Nd.C Nd.z).toArray,.bool false],(xm (yS v7 rfl (B4.all _ (Nd.len _)) (Nd.len _)) (zf rfl)),by rw [node_no hc1],E⟩
 refine zw ?_
 obtain ⟨hr0,hr1,a,ha⟩ := row_of hc1
 refine zb (za (zj (zB rfl) zam (zj (zS rfl) zam (zj (zg vr rfl (o':=0) rfl) zam (zj (zl xA rfl (Bp.cell (Tab.get_rows _))) zam (zj (zk rfl) zam (zj (xg xd rfl rfl O.toRd zan zan) zam (zj (zt v7 rfl (O.toRd.at ha) (Nd.len _)) zam ?_))))))))
 refine z7 v7 rfl rfl B4 (Nd.len _) (by rw [Nd.len]; decide) (Nd.one _) (xx (Nd.len _)) fun w5 B h5 z5=>?_
 replace B4:=B; clear B
 replace Bp:=Bp.chg h5 (fun (e:p=b4)=>by omega)
 replace O:=O.keep h5 (fun i hi (e:i=b4)=>d_b4_O (e ▸ hi))
 replace M:=M.chg h5 (fun (e:m=b4)=>by omega)
 replace E:=E.thenChg h5 (fun i hi (e:i=b4)=>absurd hi zan)
 refine zj (zi rfl) zam (zd (zr ?_))
 exact ⟨.tuple #[.agg (Nd.C a).toArray,.bool true],(xm (yS v7 rfl (B4.all _ (Nd.len _)) (Nd.len _)) (zf rfl)),by rw [node_yes hc1 ha],E⟩
theorem formula_Table_fits_ok (w:World) (n:Nd) {p:Nat} {N:List Nd} {A:Nat→Prop} (T:TabAt w p N A) (hs:n.name.size < 9223372036854775808):Calls PP jQ #[.pointer (some ⟨p,0,none⟩),.agg n.C.toArray] w <| Rt fun v w'=>(v = .int .i64 (yW N n)∧Ext w w'):=by
 obtain ⟨s,m,Bp,O,M,hpm,d_p_O,d_m_O,hA⟩ := T
 refine zu (n:=47) Tryz.func141 rfl rfl zao ?_
 have E:=Ext.refl w
 refine zb (za ?_)
 refine zH rfl zam fun b3 w1 h1=>?_
 have l_b3:w.heap.size ≤ b3:=by have:=h1.at_; have:=E.size; omega
 have o_b3_p:p < b3:=by have:=Bp.lt; have:=h1.at_; omega
 have d_b3_O:¬ s.fp b3:=fun e=>by have:=O.lt _ e; have:=h1.at_; omega
 have o_b3_m:m < b3:=by have:=M.lt; have:=h1.at_; omega
 have B3:=h1.blk
 replace Bp:=Bp.ext h1.ext
 replace O:=O.ext h1.ext
 replace M:=M.ext h1.ext
 replace E:=E.thenExt h1.ext
 refine zj (zh rfl) zam (zd (zb (zb (za (zj (zg fl_Nd_kind rfl (o':=0) rfl) zam (zj (zl j0 rfl (B3.cell (Nd.get_kind _))) zam (zd ?_)))))))
 refine zL (zb (za (zj (zR rfl rfl) zam (zj (zi rfl) zam (zd ?_)))))
 refine zI rfl (fun hc1=>?_) (fun hc1=>?_)
 ·refine zb (zb (za (zj (zg kJ rfl (o':=2) rfl) zam (zj (zl xQ rfl (B3.cell (Nd.get_l _))) zam (zj (xq rfl rfl) zam (zj (zy rfl) zam (zJ (j:=3) (pol:=false) rfl rfl rfl zam (fun hg=>zg kK rfl (o':=3) rfl) zam (zJ (j:=3) (pol:=false) rfl rfl rfl zam (fun hg=>zl xQ (zn hg) (B3.cell (Nd.get_r _))) zam (zJ (j:=3) (pol:=false) rfl rfl rfl zam (fun hg=>xq (zn hg) rfl) zam (zj (xv rfl (fun hp=>(zn (xl hp)))) zam (zd ?_)))))))))))
  refine zI rfl (fun hc2=>?_) (fun hc2=>?_)
  ·refine zb (za (zj (zh rfl) zam (zd (zr ?_))))
   exact ⟨_,(zP (zf rfl)),congrArg (Value.int .i64) (by unfold yW; first | (simp_all; done) | (rw [if_neg zan,if_neg zan,if_pos zan,if_pos ‹_›])),E⟩
  refine zw (zb (za (zj (zg uM rfl (o':=1) rfl) zam (zj (zl xt rfl (B3.cell (Nd.get_name _))) zam ?_))))
  refine zA (zx j3) zam (formula_Word_ok _ _ hs) ?_
  rintro _ w2 ⟨rfl,h2⟩
  replace Bp:=Bp.ext h2
  replace O:=O.ext h2
  replace M:=M.ext h2
  replace B3:=B3.ext h2
  replace E:=E.thenExt h2
  refine zj (xf rfl) zam (zd ?_)
  refine zI rfl (fun hc3=>?_) (fun hc3=>?_)
  ·refine zb (za (zj (zh rfl) zam (zd (zr ?_))))
   exact ⟨_,(zP (zf rfl)),congrArg (Value.int .i64) (by unfold yW; first | (simp_all; done) | (rw [if_neg zan,if_neg zan,if_pos zan,if_pos ‹_›])),E⟩
  refine zw (zb (za (zj (zh rfl) zam (zd (zr ?_)))))
  exact ⟨_,(zP (zf rfl)),congrArg (Value.int .i64) (by unfold yW; first | (simp_all; done) | (rw [if_neg zan,if_neg zan,if_pos zan,if_pos ‹_›])),E⟩
 ·refine zb (za (zj (zR rfl rfl) zam (zj (zi rfl) zam (zd ?_))))
  refine zI rfl (fun hc4=>?_) (fun hc4=>?_)
  ·refine zb (za (zj (zt v7 rfl (B3.all _ (Nd.len _)) (Nd.len _)) zam (zj (vP bu_Nd (Bld.one rfl rfl (by rw [Nd.len]; decide) (Nd.set_kind _ _) Bld.nil)) zam (zj (does_nev eg_Nd (eq_Nd _ _) zam rfl rfl) zam (zd ?_)))))
   refine zI rfl (fun hc5=>?_) (fun hc5=>?_)
   ·refine zb (za (zj (zh rfl) zam (zd (zr ?_))))
    exact ⟨_,(zP (zf rfl)),congrArg (Value.int .i64) (by unfold yW; first | (simp_all; done) | (rw [if_neg zan,if_neg zan,if_pos zan,if_pos ‹_›])),E⟩
   refine zw (zb (za (zj (zh rfl) zam (zd (zr ?_)))))
   exact ⟨_,(zP (zf rfl)),congrArg (Value.int .i64) (by unfold yW; first | (simp_all; done) | (rw [if_neg zan,if_neg zan,if_pos zan,if_pos ‹_›])),E⟩
  ·refine zb (zb (za (zj (zR rfl rfl) zam (zj (zi rfl) zam (zd ?_)))))
   refine zI rfl (fun hc6=>?_) (fun hc6=>?_)
   ·refine zw ?_
    refine zI rfl (fun hc7=>?_) (fun hc7=>?_)
    rotate_left
    ·refine zb (za (zj (zh rfl) zam (zd (zr ?_))))
     exact ⟨_,(zP (zf rfl)),congrArg (Value.int .i64) (by unfold yW; first | (simp_all; done) | (rw [if_neg zan,if_neg zan,if_pos zan,if_pos ‹_›])),E⟩
    refine zb (za (zj (zg uM rfl (o':=1) rfl) zam (zj (zl xt rfl (B3.cell (Nd.get_name _))) zam (zj (um rfl rfl) zam (zj (zy rfl) zam (zJ (j:=3) (pol:=false) rfl rfl rfl zam (fun hg=>zB rfl) zam (zJ (j:=3) (pol:=false) rfl rfl rfl zam (fun hg=>zg kJ rfl (o':=2) rfl) zam (zJ (j:=3) (pol:=false) rfl rfl rfl zam (fun hg=>zl xQ (zn hg) (B3.cell (Nd.get_l _))) zam ?_))))))))
    refine xJ (j:=3) (pol:=false) rfl rfl rfl zam (fun hg=>zK xS (zN (zn hg) (zN (zn hg) rfl))) zam (fun hg=>xU _ _ (TabAt.mk Bp O M hpm d_p_O d_m_O hA)) fun w3 h3=>?_
    replace Bp:=Bp.ext h3
    replace O:=O.ext h3
    replace M:=M.ext h3
    replace B3:=B3.ext h3
    replace E:=E.thenExt h3
    refine zJ (j:=3) (pol:=false) rfl rfl rfl zam (fun hg=>xf (zn hg)) zam (zj (xv rfl (fun hp=>(zn (xl hp)))) zam (zj (zy rfl) zam (zJ (j:=10) (pol:=false) rfl rfl rfl zam (fun hg=>zB rfl) zam (zJ (j:=10) (pol:=false) rfl rfl rfl zam (fun hg=>zg kK rfl (o':=3) rfl) zam (zJ (j:=10) (pol:=false) rfl rfl rfl zam (fun hg=>zl xQ (zn hg) (B3.cell (Nd.get_r _))) zam ?_)))))
    refine xJ (j:=10) (pol:=false) rfl rfl rfl zam (fun hg=>zK xS (zN (zn hg) (zN (zn hg) rfl))) zam (fun hg=>xU _ _ (TabAt.mk Bp O M hpm d_p_O d_m_O hA)) fun w4 h4=>?_
    replace Bp:=Bp.ext h4
    replace O:=O.ext h4
    replace M:=M.ext h4
    replace B3:=B3.ext h4
    replace E:=E.thenExt h4
    refine zJ (j:=10) (pol:=false) rfl rfl rfl zam (fun hg=>xf (zn hg)) zam (zj (xv rfl (fun hp=>(zn (xl hp)))) zam (zd ?_))
    refine zI rfl (fun hc8=>?_) (fun hc8=>?_)
    ·refine zb (za (zj (zh rfl) zam (zd (zr ?_))))
     exact ⟨_,(zP (zf rfl)),congrArg (Value.int .i64) (by unfold yW; first | (simp_all; done) | (rw [if_neg zan,if_neg zan,if_pos zan,if_pos ‹_›])),E⟩
    refine zw (zb (za (zj (zh rfl) zam (zd (zr ?_)))))
    exact ⟨_,(zP (zf rfl)),congrArg (Value.int .i64) (by unfold yW; first | (simp_all; done) | (rw [if_neg zan,if_neg zan,if_pos zan,if_pos ‹_›])),E⟩
   ·refine zb (za (zj (zR rfl rfl) zam (zj (zi rfl) zam (zd ?_))))
    refine zI rfl (fun hc9=>?_) (fun hc9=>?_)
    ·refine zw ?_
     refine zI rfl (fun hc10=>?_) (fun hc10=>?_)
     rotate_left
     ·refine zb (za (zj (zh rfl) zam (zd (zr ?_))))
      exact ⟨_,(zP (zf rfl)),congrArg (Value.int .i64) (by unfold yW; first | (simp_all; done) | (rw [if_neg zan,if_neg zan,if_pos zan,if_pos ‹_›])),E⟩
     refine zb (za (zj (zg uM rfl (o':=1) rfl) zam (zj (zl xt rfl (B3.cell (Nd.get_name _))) zam (zj (um rfl rfl) zam (zj (zy rfl) zam (zJ (j:=3) (pol:=false) rfl rfl rfl zam (fun hg=>zB rfl) zam (zJ (j:=3) (pol:=false) rfl rfl rfl zam (fun hg=>zg kJ rfl (o':=2) rfl) zam (zJ (j:=3) (pol:=false) rfl rfl rfl zam (fun hg=>zl xQ (zn hg) (B3.cell (Nd.get_l _))) zam ?_))))))))
     refine xJ (j:=3) (pol:=false) rfl rfl rfl zam (fun hg=>zK xS (zN (zn hg) (zN (zn hg) rfl))) zam (fun hg=>xU _ _ (TabAt.mk Bp O M hpm d_p_O d_m_O hA)) fun w5 h5=>?_
     replace Bp:=Bp.ext h5
     replace O:=O.ext h5
     replace M:=M.ext h5
     replace B3:=B3.ext h5
     replace E:=E.thenExt h5
     refine zJ (j:=3) (pol:=false) rfl rfl rfl zam (fun hg=>xf (zn hg)) zam (zj (xv rfl (fun hp=>(zn (xl hp)))) zam (zj (zy rfl) zam (zJ (j:=10) (pol:=false) rfl rfl rfl zam (fun hg=>zB rfl) zam (zJ (j:=10) (pol:=false) rfl rfl rfl zam (fun hg=>zg kK rfl (o':=3) rfl) zam (zJ (j:=10) (pol:=false) rfl rfl rfl zam (fun hg=>zl xQ (zn hg) (B3.cell (Nd.get_r _))) zam ?_)))))
     refine xJ (j:=10) (pol:=false) rfl rfl rfl zam (fun hg=>zK xS (zN (zn hg) (zN (zn hg) rfl))) zam (fun hg=>xU _ _ (TabAt.mk Bp O M hpm d_p_O d_m_O hA)) fun w6 h6=>?_
     replace Bp:=Bp.ext h6
     replace O:=O.ext h6
     replace M:=M.ext h6
     replace B3:=B3.ext h6
     replace E:=E.thenExt h6
     refine zJ (j:=10) (pol:=false) rfl rfl rfl zam (fun hg=>xf (zn hg)) zam (zj (xv rfl (fun hp=>(zn (xl hp)))) zam (zd ?_))
     refine zI rfl (fun hc11=>?_) (fun hc11=>?_)
     ·refine zb (za (zj (zh rfl) zam (zd (zr ?_))))
      exact ⟨_,(zP (zf rfl)),congrArg (Value.int .i64) (by unfold yW; first | (simp_all; done) | (rw [if_neg zan,if_neg zan,if_pos zan,if_pos ‹_›])),E⟩
     refine zw (zb (za (zj (zh rfl) zam (zd (zr ?_)))))
     exact ⟨_,(zP (zf rfl)),congrArg (Value.int .i64) (by unfold yW; first | (simp_all; done) | (rw [if_neg zan,if_neg zan,if_pos zan,if_pos ‹_›])),E⟩
    ·refine za (zj (zR rfl rfl) zam (zj (zi rfl) zam (zd ?_)))
     refine zI rfl (fun hc12=>?_) (fun hc12=>?_)
     rotate_left
     ·refine zb (za (zj (zh rfl) zam (zd (zr ?_))))
      exact ⟨_,(zP (zf rfl)),congrArg (Value.int .i64) (by unfold yW; first | (simp_all; done) | (rw [if_neg zan,if_neg zan,if_pos zan,if_pos ‹_›])),E⟩
     refine zb (za (zj (zg uM rfl (o':=1) rfl) zam (zj (zl xt rfl (B3.cell (Nd.get_name _))) zam (zj (um rfl rfl) zam (zj (zy rfl) zam (zJ (j:=3) (pol:=false) rfl rfl rfl zam (fun hg=>zB rfl) zam (zJ (j:=3) (pol:=false) rfl rfl rfl zam (fun hg=>zg kJ rfl (o':=2) rfl) zam (zJ (j:=3) (pol:=false) rfl rfl rfl zam (fun hg=>zl xQ (zn hg) (B3.cell (Nd.get_l _))) zam ?_))))))))
     refine xJ (j:=3) (pol:=false) rfl rfl rfl zam (fun hg=>zK xS (zN (zn hg) (zN (zn hg) rfl))) zam (fun hg=>xU _ _ (TabAt.mk Bp O M hpm d_p_O d_m_O hA)) fun w7 h7=>?_
     replace Bp:=Bp.ext h7
     replace O:=O.ext h7
     replace M:=M.ext h7
     replace B3:=B3.ext h7
     replace E:=E.thenExt h7
     refine zJ (j:=3) (pol:=false) rfl rfl rfl zam (fun hg=>xf (zn hg)) zam (zj (xv rfl (fun hp=>(zn (xl hp)))) zam (zj (zy rfl) zam (zJ (j:=10) (pol:=false) rfl rfl rfl zam (fun hg=>zB rfl) zam (zJ (j:=10) (pol:=false) rfl rfl rfl zam (fun hg=>zg kK rfl (o':=3) rfl) zam (zJ (j:=10) (pol:=false) rfl rfl rfl zam (fun hg=>zl xQ (zn hg) (B3.cell (Nd.get_r _))) zam ?_)))))
     refine xJ (j:=10) (pol:=false) rfl rfl rfl zam (fun hg=>zK xS (zN (zn hg) (zN (zn hg) rfl))) zam (fun hg=>xU _ _ (TabAt.mk Bp O M hpm d_p_O d_m_O hA)) fun w8 h8=>?_
     replace Bp:=Bp.ext h8
     replace O:=O.ext h8
     replace M:=M.ext h8
     replace B3:=B3.ext h8
     replace E:=E.thenExt h8
     refine zJ (j:=10) (pol:=false) rfl rfl rfl zam (fun hg=>xf (zn hg)) zam (zj (xv rfl (fun hp=>(zn (xl hp)))) zam (zd ?_))
     refine zI rfl (fun hc13=>?_) (fun hc13=>?_)
     ·refine zb (za (zj (zh rfl) zam (zd (zr ?_))))
      exact ⟨_,(zP (zf rfl)),congrArg (Value.int .i64) (by unfold yW; first | (simp_all; done) | (rw [if_neg zan,if_neg zan,if_pos zan,if_pos ‹_›])),E⟩
     refine zw (zb (za (zj (zh rfl) zam (zd (zr ?_)))))
     exact ⟨_,(zP (zf rfl)),congrArg (Value.int .i64) (by unfold yW; first | (simp_all; done) | (rw [if_neg zan,if_neg zan,if_pos zan,if_pos ‹_›])),E⟩
theorem jW (w:World) (n:Nd) {p:Nat} {N:List Nd} {A:Nat→Prop} (T:TabAt w p N A) (hs:n.name.size < 9223372036854775808) (hN:N.length ≤ 1024):Calls PP uB #[.pointer (some ⟨p,0,none⟩),.agg n.C.toArray] w <| Rt fun v w'=>(∃ A',v = .tuple #[.int .i64 (putS N n).2.1,.int .i64 (putS N n).2.2]∧TabAt w' p (putS N n).1 A'∧Chg A w w'∧(∀ i,A' i→A i∨w.heap.size ≤ i)):=by
 obtain ⟨s,m,Bp,O,M,hpm,d_p_O,d_m_O,hA⟩ := T
 refine zu (n:=54) Tryz.func82 rfl rfl zao ?_
 have E:=Ext.refl w
 refine zb (za ?_)
 refine zH rfl zam fun b3 w1 h1=>?_
 have l_b3:w.heap.size ≤ b3:=by have:=h1.at_; have:=E.size; omega
 have o_b3_p:p < b3:=by have:=Bp.lt; have:=h1.at_; omega
 have d_b3_O:¬ s.fp b3:=fun e=>by have:=O.lt _ e; have:=h1.at_; omega
 have o_b3_m:m < b3:=by have:=M.lt; have:=h1.at_; omega
 have B3:=h1.blk
 replace Bp:=Bp.ext h1.ext
 replace O:=O.ext h1.ext
 replace M:=M.ext h1.ext
 replace E:=E.thenExt h1.ext
 refine zj (zh rfl) zam (zj (zh rfl) zam (zd (zb (zb (za (zj (zB rfl) zam ?_))))))
 refine zA (zx yf) zam (y4 _ (TabAt.mk Bp O M hpm d_p_O d_m_O hA)) ?_
 rintro _ w2 ⟨rfl,h2⟩
 replace Bp:=Bp.ext h2
 replace O:=O.ext h2
 replace M:=M.ext h2
 replace B3:=B3.ext h2
 replace E:=E.thenExt h2
 refine zj (xf rfl) zam (zd ?_)
 refine wc_false rfl (zw (zb (zb (za (zj (zB rfl) zam (zj (zt v7 rfl (B3.all _ (Nd.len _)) (Nd.len _)) zam ?_))))))
 refine zA (zx ca_formula_Table_fits) zam (formula_Table_fits_ok _ _ (TabAt.mk Bp O M hpm d_p_O d_m_O hA) hs) ?_
 rintro _ w3 ⟨rfl,h3⟩
 replace Bp:=Bp.ext h3
 replace O:=O.ext h3
 replace M:=M.ext h3
 replace B3:=B3.ext h3
 replace E:=E.thenExt h3
 refine zj (zh rfl) zam (zd (zb (za (zj (zk rfl) zam (zj (xq rfl rfl) zam (zd ?_))))))
 refine zI rfl (fun hc2=>?_) (fun hc2=>?_)
 all_goals try simp only [decide_eq_true_eq,decide_eq_false_iff_not,Bool.and_eq_true,Bool.or_eq_true,Bool.and_eq_false_iff,Bool.or_eq_false_iff,Bool.not_eq_true',Bool.not_eq_false',Int.not_lt,Int.not_le,ne_eq,Decidable.not_not] at hc2
 ·refine zb (za (zj (zk rfl) zam (zj (zh rfl) zam (zj (zh rfl) zam (zd (zr ?_))))))
  exact ⟨.tuple #[.int .i64 0,.int .i64 (yW N n)],(xm (zf rfl) (zf rfl)),A,by rw [put_bad hc2],by rw [put_bad hc2]; exact TabAt.mk Bp O M hpm d_p_O d_m_O hA,E.mono (fun _ _ x=>x.elim),fun i h => .inl h⟩
 refine zw (zb (zb ?_))
 refine x0 10 (Ext w3) hmix zap zap (Ext.drawn _) (zC (fun v K=>zB rfl) (zC (fun v K=>zS rfl) (zC (fun v K=>zg kC rfl (o':=1) rfl) (zC (fun v K=>zl vv rfl ((Bp.ext K).cell (Tab.get_at_ _))) (zC (fun v K=>zt v7 rfl ((B3.ext K).all _ (Nd.len _)) (Nd.len _)) (zC (fun v K=>does_lookup_ok vx key_Nd zv_int rfl rfl (M.ext K)) (zC (fun v K=>xb rfl) (zC (fun v K=>zo rfl rfl) (zC (fun v K=>zo rfl rfl) (zC (fun v K=>zh rfl) ?_))))))))))
 refine vj fun w4 K=>?_
 replace Bp:=Bp.ext K
 replace O:=O.ext K
 replace M:=M.ext K
 replace B3:=B3.ext K
 replace E:=E.thenExt K
 clear K
 refine zj (zi rfl) zam (zd (zb (za (zj (zy rfl) zam (zd ?_)))))
 refine zI rfl (fun hc3=>?_) (fun hc3=>?_)
 all_goals skip
 ·refine zb (za (zj (zk rfl) zam (zj (zh rfl) zam (zj (zh rfl) zam (zd (zr ?_))))))
  rw [look_rows] at hc3
  obtain ⟨k,hk⟩ : ∃ k,N.idxOf? n=some k:=by cases hq:N.idxOf? n with | none=>rw [hq] at hc3; cases hc3 | some k=>exact ⟨k,rfl⟩
  exact ⟨.tuple #[.int .i64 ((Gw.look n (N.zipIdx.map fun q=>(q.1,(q.2:Int)))).getD 0),.int .i64 0],(xm (zf rfl) (zf rfl)),A,by rw [put_old hc2 hk,look_rows,hk]; rfl,by rw [put_old hc2 hk]; exact TabAt.mk Bp O M hpm d_p_O d_m_O hA,E.mono (fun _ _ x=>x.elim),fun i h => .inl h⟩
 refine zw (zb (za (zj (zB rfl) zam (zj (zS rfl) zam (zj (zg vr rfl (o':=0) rfl) zam (zj (zl xA rfl (Bp.cell (Tab.get_rows _))) zam (zj (xE xd rfl O.toRd) zam (zj (zh rfl) zam (zd (zb (zb (za (zj (zk rfl) zam (zj (ut rfl rfl) zam (zd ?_)))))))))))))))
 refine zI rfl (fun hc4=>?_) (fun hc4=>?_)
 all_goals try simp only [decide_eq_true_eq,decide_eq_false_iff_not,Bool.and_eq_true,Bool.or_eq_true,Bool.and_eq_false_iff,Bool.or_eq_false_iff,Bool.not_eq_true',Bool.not_eq_false',Int.not_lt,Int.not_le,ne_eq,Decidable.not_not] at hc4
 ·refine zb (za (zj (zh rfl) zam (zj (zh rfl) zam (zd (zr ?_)))))
  have hk:=idx_none hc3
  exact ⟨.tuple #[.int .i64 0,.int .i64 30],(xm (zf rfl) (zf rfl)),A,by rw [put_full hc2 hk zan],by rw [put_full hc2 hk zan]; exact TabAt.mk Bp O M hpm d_p_O d_m_O hA,E.mono (fun _ _ x=>x.elim),fun i h => .inl h⟩
 refine zw (zb ?_)
 have hszO:=E.size
 refine wc_draw 8 ⟨fun L v=>Chg s.fp w4 v∧(L 7=false→Ext w4 v),fun L a b=>Chg s.fp a b∧(L 7=true→Ext a b),fun i v u=>match i with
  | 0=>v=Value.pointer (some ⟨p,0,none⟩)
  | 1=>v=Value.pointer (some ⟨p,0,none⟩)
  | 2=>v=Value.pointer (some ⟨p,0,none⟩)
  | 3=>v=Value.pointer (some ⟨p,0,none⟩)
  | 4=>v=s.v
  | 5=>v = .agg n.C.toArray
  | 6 => ∃ b sl,v=SlV.v sl∧sl=⟨some ⟨b,0,none⟩,1,1⟩ ∧ Blk u b T_Nd (Nd.C n)∧¬ s.fp b
  | 7 => ∃ s',v=SlV.v s'∧Own u 0 T_Nd 4 s' ((N ++ [n]).map Nd.C) ∧ ∀ i,s'.fp i→s.fp i∨w4.heap.size ≤ i
  | _=>True⟩ hmix zap ?_ ⟨(Ext.drawn _).mono (fun _ _ x=>x.elim),fun _=>Ext.drawn _⟩ ⟨?_,?_,?_,?_,?_,?_,?_,?_,trivial⟩ ?_
 ·intro L i v a b hLi hle hv
  match i,hLi,hv with
  | 0,_,hv=>exact hv
  | 1,_,hv=>exact hv
  | 2,_,hv=>exact hv
  | 3,_,hv=>exact hv
  | 4,_,hv=>exact hv
  | 5,_,hv=>exact hv
  | 6,_,⟨b,sl,e1,e2,hb,hn⟩ => exact ⟨b,sl,e1,e2,hb.chg hle.1 hn,hn⟩
  | 7,hLi,⟨s',e1,ho,hg⟩ => exact ⟨s',e1,ho.ext (hle.2 hLi),hg⟩
  | _ + 8,_,_=>exact trivial
 ·rintro L g v hL hT 
  refine zj (zB rfl) zam (zd (ob ⟨hT.1,fun h=>hT.2 h⟩ ⟨Chg.refl _ _,fun _=>Ext.refl _⟩ rfl))
 ·rintro L g v hL hT 
  refine zj (zB rfl) zam (zd (ob ⟨hT.1,fun h=>hT.2 h⟩ ⟨Chg.refl _ _,fun _=>Ext.refl _⟩ rfl))
 ·rintro L g v hL hT hv1
  refine zj (zS hv1) zam (zd (ob ⟨hT.1,fun h=>hT.2 h⟩ ⟨Chg.refl _ _,fun _=>Ext.refl _⟩ rfl))
 ·rintro L g v hL hT hv2
  refine zj (zg vr hv2 (o':=0) rfl) zam (zd (ob ⟨hT.1,fun h=>hT.2 h⟩ ⟨Chg.refl _ _,fun _=>Ext.refl _⟩ rfl))
 ·rintro L g v hL hT hv3
  refine zj (zl xA hv3 ((Bp.chg hT.1 d_p_O).cell (Tab.get_rows _))) zam (zd (ob ⟨hT.1,fun h=>hT.2 h⟩ ⟨Chg.refl _ _,fun _=>Ext.refl _⟩ rfl))
 ·rintro L g v hL hT 
  refine zj (zt v7 rfl ((B3.chg hT.1 d_b3_O).all _ (Nd.len _)) (Nd.len _)) zam (zd (ob ⟨hT.1,fun h=>hT.2 h⟩ ⟨Chg.refl _ _,fun _=>Ext.refl _⟩ rfl))
 ·rintro L g v hL hT hv5
  refine wl_lit1 xd el_Nd.zero hv5 rfl (Nd.len _) zam zam fun b v' sl hn hq=>zd (ob ⟨hT.1.thenExt hn.ext,fun h=>(hT.2 h).trans hn.ext⟩ ⟨hn.ext.mono (fun _ _ x=>x.elim),fun _=>hn.ext⟩ ⟨b,sl,rfl,hq,hn.blk,fun e=>by have:=O.lt _ e; have:=hn.at_; have:=hT.1.size; omega⟩)
 ·rintro L g v hL hT hv4 ⟨b,sl,hv6,hq,hb,hnb⟩
  refine wl_push (C:=Nd.C) xd el_Nd hv4 hv6 (O.ext (hT.2 hL)) hb hq (Nd.len _) (Nd.one _) (by (try simp only [List.length_map,List.length_append,List.length_nil]); omega) (by (try simp only [List.length_map,List.length_append,List.length_nil]); omega) zam fun s' v' ho hc hg=>zd (ob ⟨hT.1.trans hc,fun h=>(by cases h)⟩ ⟨hc,fun h=>(by rw [hL] at h; cases h)⟩ ⟨s',rfl,ho,fun i e=>(hg i e).imp id (fun h=>Nat.le_trans hT.1.size h)⟩)
 rintro L g w5 hLm hT hv0 hv1 hv2 hv3 hv4 hv5 ⟨b,sl,hv6,hq,hb,hnb⟩ ⟨s44,hv7,O44,g5⟩
 have hcw5:=hT.1
 have d_p_O44:¬ s44.fp p:=fun e=>(g5 _ e).elim d_p_O (fun e=>by have:=Bp.lt; omega)
 have d_m_O44:¬ s44.fp m:=fun e=>(g5 _ e).elim d_m_O (fun e=>by have:=M.lt; omega)
 have d_b3_O44:¬ s44.fp b3:=fun e=>(g5 _ e).elim d_b3_O (fun e=>by have:=B3.lt; omega)
 replace Bp:=Bp.chg hcw5 d_p_O
 replace M:=M.chg hcw5 d_m_O
 replace B3:=B3.chg hcw5 d_b3_O
 replace E:Chg A w w4:=E.mono (fun _ _ x=>x.elim)
 replace E:=E.thenChg hcw5 (fun i hi e=>(hA i).2 (.inr (.inr e)))
 refine zj (zS hv0) zam (zj (zg vr rfl (o':=0) rfl) zam ?_)
 refine yE xA rfl hv7 Bp (by rw [Tab.len]; decide) (SlV.one _ _ rfl) (Tab.set_rows _ _) fun w6 B h6 z6=>?_
 replace Bp:=B; clear B
 replace M:=M.chg h6 (fun (e:m=p)=>by omega)
 replace B3:=B3.chg h6 (fun (e:b3=p)=>by omega)
 replace O44:=O44.keep h6 (fun i hi (e:i=p)=>d_p_O44 (e ▸ hi))
 replace E:=E.thenChg h6 (fun i hi (e:i=p)=>(hA i).2 (.inl e))
 refine zd (zb ?_)
 refine x0 6 (Ext w6) hmix zap zap (Ext.drawn _) (zC (fun v K=>zB rfl) (zC (fun v K=>zS rfl) (zC (fun v K=>zg kC rfl (o':=1) rfl) (zC (fun v K=>zl vv rfl ((Bp.ext K).cell (Tab.get_at_ _))) (zC (fun v K=>zt v7 rfl ((B3.ext K).all _ (Nd.len _)) (Nd.len _)) (zC (fun v K=>zk rfl) ?_))))))
 refine vj fun w7 K=>?_
 replace Bp:=Bp.ext K
 replace M:=M.ext K
 replace B3:=B3.ext K
 replace O44:=O44.ext K
 replace E:=E.thenExt K
 clear K
 refine js (D:=Value.int .i64) vx key_Nd rfl rfl rfl M fun w8 B h8 z8=>?_
 replace M:=B; clear B
 replace Bp:=Bp.chg h8 (fun (e:p=m)=>by omega)
 replace B3:=B3.chg h8 (fun (e:b3=m)=>by omega)
 replace O44:=O44.keep h8 (fun i hi (e:i=m)=>d_m_O44 (e ▸ hi))
 replace E:=E.thenChg h8 (fun i hi (e:i=m)=>(hA i).2 (.inr (.inl e)))
 refine zd (zb (za (zj (zk rfl) zam (zj (zh rfl) zam (zj (zh rfl) zam (zd (zr ?_)))))))
 have hk:=idx_none hc3
 rw [ins_rows hk] at M
 exact ⟨.tuple #[.int .i64 N.length,.int .i64 0],(xm (zf rfl) (zf rfl)),fun i=>i=p∨i=m∨s44.fp i,by rw [put_new hc2 hk zan],by rw [put_new hc2 hk zan]; exact TabAt.mk Bp O44 M hpm d_p_O44 d_m_O44 (fun i=>Iff.rfl),E,fun i h=>by
   rcases h with h | h | h
   ·exact .inl ((hA i).2 (.inl h))
   ·exact .inl ((hA i).2 (.inr (.inl h)))
   ·rcases g5 i h with h | h
    ·exact .inl ((hA i).2 (.inr (.inr h)))
    ·exact .inr (by have:=hszO; omega)⟩
end
section
open Gw Go.RowKit
def impN (a b:Int):Nd:=⟨5,⟨#[]⟩,a,b⟩
theorem empty_small:(⟨#[]⟩ : ByteArray).size < 9223372036854775808:=by decide
theorem put_len {N:List Nd} {n:Nd} (h:N.length ≤ 1024):(putS N n).1.length ≤ 1024:=by
 unfold putS
 split
 ·split
  ·exact h
  ·split
   ·exact h
   ·simp; omega
 ·exact h
theorem formula_Table_Imp_ok (w:World) (a b:Int) {p:Nat} {N:List Nd} {A:Nat→Prop} (T:TabAt w p N A) (hN:N.length ≤ 1024):Calls PP uz #[.pointer (some ⟨p,0,none⟩),.int .i64 a,.int .i64 b] w fun e w' => ∃ v,e = .returned v∧(∃ A',v = .tuple #[.int .i64 (putS N (impN a b)).2.1,.int .i64 (putS N (impN a b)).2.2]∧TabAt w' p (putS N (impN a b)).1 A'∧Chg A w w'∧(∀ i,A' i→A i∨w.heap.size ≤ i)):=by
 have n_T : ∀ i,A i→A i∨w.heap.size ≤ i:=fun i e => .inl e
 refine zu (n:=15) Tryz.func50 rfl rfl zao ?_
 have E:=Ext.refl w
 refine zb ?_
 refine za ?_
 refine zj (zh rfl) zam ?_
 refine zj (zh rfl) zam ?_
 refine zd ?_
 refine zb ?_
 refine za ?_
 refine zj (zB rfl) zam ?_
 refine zj (zk rfl) zam ?_
 refine zj (zk rfl) zam ?_
 refine zj (vP bu_Nd (Bld.one rfl rfl (by rw [Nd.len]; decide) (Nd.set_kind _ _) (Bld.one rfl rfl (by rw [Nd.len]; decide) (Nd.set_l _ _) (Bld.one rfl rfl (by rw [Nd.len]; decide) (Nd.set_r _ _) Bld.nil)))) zam ?_
 refine zA (zx uk) zam (jW _ (impN a b) T empty_small hN) ?_
 rintro _ w1 ⟨A1,rfl,T2,h1,g1⟩
 have n2 : ∀ i,A1 i→A i∨w.heap.size ≤ i:=fun i e=>(g1 _ e).elim (n_T i) (fun e => .inr (by have:=E.size; omega))
 replace E:Chg A w w:=E.mono (fun _ _ x=>x.elim)
 replace E:=E.thenChg h1 (fun i hi e=>(n_T i e).elim id (fun q=>absurd hi zan))
 replace T:=T2; replace n_T:=n2; clear T2 n2
 refine zj (zo rfl rfl) zam ?_
 refine zj (zo rfl rfl) zam ?_
 refine zj (zh rfl) zam ?_
 refine zj (zh rfl) zam ?_
 refine zd ?_
 refine zr ?_
 exact ⟨_,(xm (zf rfl) (zf rfl)),A1,rfl,T,E,n_T⟩
end
section
open Gw Go.RowKit
theorem zad (w:World):Calls PP ym #[.pointer none] w fun e w' => ∃ v,e = .returned v∧(v = .bool false∧Ext w w'):=by
 refine zu (n:=12) Tryz.func100 rfl rfl zao ?_
 have E:=Ext.refl w
 refine zb ?_
 refine za ?_
 refine zj (zi rfl) zam ?_
 refine zd ?_
 refine zb ?_
 refine za ?_
 refine zj (zB rfl) zam ?_
 refine zj (does_nep0 vh rfl rfl) zam ?_
 refine zj (zy rfl) zam ?_
 refine zJ (j:=2) (pol:=true) rfl rfl rfl zam (fun hg=>zB rfl) zam ?_
 refine zJ (j:=2) (pol:=true) rfl rfl rfl zam (fun hg=>absurd hg zam) zam ?_ (v := .bool false)
 refine zJ (j:=2) (pol:=true) rfl rfl rfl zam (fun hg=>absurd hg zam) zam ?_ (v := .bool false)
 refine zJ (j:=2) (pol:=true) rfl rfl rfl zam (fun hg=>absurd hg zam) zam ?_ (v := .bool false)
 refine zJ (j:=2) (pol:=true) rfl rfl rfl zam (fun hg=>absurd hg zam) zam ?_ (v := .bool false)
 refine zj (zV (x:=false) rfl (fun hp=>absurd hp zam)) zam ?_
 refine zj (zi rfl) zam ?_
 refine zd ?_
 refine zr ?_
 exact ⟨_,(zP (zf rfl)),rfl,E⟩
theorem kY (w:World) {p:Nat} (Bp:Blk w p ui (Tab.C Tab.z)):Calls PP ym #[.pointer (some ⟨p,0,none⟩)] w fun e w' => ∃ v,e = .returned v∧(v = .bool false∧Ext w w'):=by
 refine zu (n:=12) Tryz.func100 rfl rfl zao ?_
 have E:=Ext.refl w
 refine zb ?_
 refine za ?_
 refine zj (zi rfl) zam ?_
 refine zd ?_
 refine zb ?_
 refine za ?_
 refine zj (zB rfl) zam ?_
 refine zj (does_nep0 vh rfl rfl) zam ?_
 refine zj (zy rfl) zam ?_
 refine zJ (j:=2) (pol:=true) rfl rfl rfl zam (fun hg=>zB rfl) zam ?_
 refine zJ (j:=2) (pol:=true) rfl rfl rfl zam (fun hg=>zS (zn hg)) zam ?_
 refine zJ (j:=2) (pol:=true) rfl rfl rfl zam (fun hg=>zg kC (zn hg) (o':=1) rfl) zam ?_
 refine zJ (j:=2) (pol:=true) rfl rfl rfl zam (fun hg=>zl vv (zn hg) (Bp.cell (Tab.get_at_ _))) zam ?_
 refine zJ (j:=2) (pol:=true) rfl rfl rfl zam (fun hg=>does_nem0 vx (zn hg) rfl) zam ?_
 refine zj (zV rfl (fun hp=>(zn (xl hp)))) zam ?_
 refine zj (zi rfl) zam ?_
 refine zd ?_
 refine zr ?_
 exact ⟨_,(zP (zf rfl)),rfl,E⟩
def Dead (w:World) (a:Option Addr):Prop:=a=none ∨ ∃ p,a=some ⟨p,0,none⟩ ∧ Blk w p ui (Tab.C Tab.z)
theorem kX (w:World) {a:Option Addr} (D:Dead w a):Calls PP ym #[.pointer a] w fun e w' => ∃ v,e = .returned v∧(v = .bool false∧Ext w w'):=by
 rcases D with rfl | ⟨p,rfl,B⟩
 ·exact zad w
 ·exact kY w B
end
section
open Go.RowKit
namespace Gw
structure OA where
 holds:World→(Nat→Prop)→Prop
 loc : ∀ {S:Nat→Prop} {w w':World} {F:Nat→Prop},holds w F→Chg S w w'→(∀ i,F i→¬ S i)→holds w' F
 lt : ∀ {w:World} {F:Nat→Prop},holds w F → ∀ i,F i→i < w.heap.size
def Sep (w:World):(Nat→Prop)→List OA→Prop
 | _,[]=>True
 | U,a :: L => ∃ F,a.holds w F∧(∀ i,F i→U i)∧Sep w (fun i=>U i∧¬ F i) L
theorem Sep.mono {w:World} : ∀ {L:List OA} {U V:Nat→Prop},Sep w U L→(∀ i,U i→V i)→Sep w V L
 | [],_,_,_,_=>trivial
 | _ :: _,_,_,⟨F,h,hF,hL⟩,hv=>⟨F,h,fun i hi=>hv i (hF i hi),hL.mono fun i hi=>⟨hv i hi.1,hi.2⟩⟩
theorem Sep.chg {S:Nat→Prop} {w w':World} (hc:Chg S w w') : ∀ {L:List OA} {U:Nat→Prop},Sep w U L→(∀ i,U i→¬ S i)→Sep w' U L
 | [],_,_,_=>trivial
 | a :: _,_,⟨F,h,hF,hL⟩,hs=>⟨F,a.loc h hc (fun i hi=>hs i (hF i hi)),hF,Sep.chg hc hL fun i hi=>hs i hi.1⟩
theorem Sep.front {w:World} : ∀ {L:List OA} {U:Nat→Prop} (k:Nat) {a:OA},Sep w U L→L[k]? = some a→Sep w U (a :: L.eraseIdx k)
 | [],_,_,_,_,h=>by simp at h
 | _ :: _,_,0,_,h,e=>by simp at e; subst e; simpa using h
 | b :: L,U,k + 1,a,⟨F,h,hF,hL⟩,e=>by
  obtain ⟨G,g,hG,hR⟩ := hL.front k (by simpa using e)
  refine ⟨G,g,fun i hi=>(hG i hi).1,F,h,fun i hi=>⟨hF i hi,fun hg=>(hG i hg).2 hi⟩,?_⟩
  exact hR.mono fun i hi=>⟨⟨hi.1.1,hi.2⟩,hi.1.2⟩
theorem Sep.split {w:World} : ∀ {P R:List OA} {U:Nat→Prop},Sep w U (P ++ R) → ∃ A,(∀ i,A i→U i∧i < w.heap.size)∧Sep w A P∧Sep w (fun i=>U i∧¬ A i) R
 | [],_,_,h=>⟨fun _=>False,fun _ x=>x.elim,trivial,h.mono fun i hi=>⟨hi,fun x=>x⟩⟩
 | a :: P,R,U,⟨F,h,hF,hL⟩ => by
  obtain ⟨A,hA,hP,hR⟩ := Sep.split (P:=P) (R:=R) hL
  refine ⟨fun i=>F i∨A i,fun i hi=>hi.elim (fun hi=>⟨hF i hi,a.lt h i hi⟩) (fun hi=>⟨(hA i hi).1.1,(hA i hi).2⟩),⟨F,h,fun i hi => .inl hi,hP.mono fun i hi=>⟨.inr hi,(hA i hi).1.2⟩⟩,?_⟩
  exact hR.mono fun i hi=>⟨hi.1.1,fun h=>h.elim hi.1.2 hi.2⟩
theorem Sep.join {w:World} : ∀ {P R:List OA} {A B U:Nat→Prop},Sep w A P→Sep w B R→(∀ i,A i→U i)→(∀ i,B i→U i)→(∀ i,A i→¬ B i)→Sep w U (P ++ R)
 | [],_,_,_,_,_,h,_,hB,_=>h.mono hB
 | _ :: _,_,_,_,_,⟨F,h,hF,hL⟩,hR,hA,hB,hd=>⟨F,h,fun i hi=>hA i (hF i hi),Sep.join hL hR (fun i hi=>⟨hA i hi.1,hi.2⟩) (fun i hi=>⟨hB i hi,fun hf=>hd i (hF i hf) hi⟩) (fun i hi=>hd i hi.1)⟩
def Frz (w:World) (X:Nat→Prop) (Z:List OA):Prop := ∀ z ∈ Z,∃ F,z.holds w F ∧ ∀ i,F i→¬ X i
structure Oth where
 blk:Nat→Prop
 wat:List (Nat × Obj)
 ok : ∀ d ∈ wat,blk d.1
instance:CoeFun Oth (fun _=>Nat→Prop):=⟨Oth.blk⟩
def Wat (w:World) (N:Oth):Prop := ∀ d ∈ N.wat,Ob w d.1 d.2
theorem Wat.chg {S:Nat→Prop} {w w':World} {N:Oth} (h:Wat w N) (hc:Chg S w w') (hs : ∀ i,S i→¬ N i):Wat w' N:=fun d hd=>(h d hd).chg hc (fun q=>hs _ q (N.ok d hd))
def Oth.or (N:Oth) (F:Nat→Prop):Oth:=⟨fun i=>N i∨F i,N.wat,fun d hd => .inl (N.ok d hd)⟩
def St (A:Nat→Prop) (N:Oth) (w0 w:World) (L Z:List OA):Prop :=
 ∃ U,(∀ i,U i→(A i∨w0.heap.size ≤ i)∧i < w.heap.size∧¬ N i)∧(∀ i,N i→i < w.heap.size)∧Chg A w0 w∧Sep w U L∧Frz w (fun i=>U i∨N i) Z∧Wat w N
section
variable {A:Nat→Prop} {N:Oth} {w0 w w':World} {L Z:List OA}
theorem St.frame (h:St A N w0 w L Z):Chg A w0 w:=h.elim fun _ h=>h.2.2.1
theorem Frz.chg {S X Y:Nat→Prop} (h:Frz w X Z) (hc:Chg S w w') (hs : ∀ i,S i→X i) (hv : ∀ i,Y i→X i∨w.heap.size ≤ i):Frz w' Y Z:=fun z hz=>by
 obtain ⟨F,g,hF⟩ := h z hz
 exact ⟨F,z.loc g hc (fun i hi hsi=>hF i hi (hs i hsi)),fun i hi hv'=>(hv i hv').elim (hF i hi) (fun q=>by have:=z.lt g i hi; omega)⟩
theorem St.ext (h:St A N w0 w L Z) (hc:Ext w w'):St A N w0 w' L Z:=by
 obtain ⟨U,hU,hN,hA,hL,hZ,hW⟩ := h
 exact ⟨U,fun i hi=>⟨(hU i hi).1,Nat.lt_of_lt_of_le (hU i hi).2.1 hc.size,(hU i hi).2.2⟩,fun i hi=>Nat.lt_of_lt_of_le (hN i hi) hc.size,hA.thenExt hc,Sep.chg hc hL (fun _ _ x=>x),hZ.chg hc (fun _ x=>x.elim) (fun _ hi => .inl hi),hW.chg hc (fun _ x=>x.elim)⟩
theorem St.front (h:St A N w0 w L Z) (k:Nat) {a:OA} {L':List OA} (e:L[k]? = some a:=by rfl) (e':a :: L.eraseIdx k=L':=by rfl):St A N w0 w L' Z:=by
 subst e'
 obtain ⟨U,hU,hN,hA,hL,hZ,hW⟩ := h
 exact ⟨U,hU,hN,hA,hL.front k e,hZ,hW⟩
theorem St.own (h:St A N w0 w L Z) (k:Nat) {a:OA} (e:L[k]? = some a) : ∃ F,a.holds w F:=by
 obtain ⟨U,hU,hN,hA,hL,hZ,hW⟩ := h
 obtain ⟨F,hF,_⟩ := hL.front k e
 exact ⟨F,hF⟩
theorem St.frz (h:St A N w0 w L Z) (k:Nat) {a:OA} (e:Z[k]? = some a) : ∃ F,a.holds w F:=by
 obtain ⟨U,hU,hN,hA,hL,hZ,hW⟩ := h
 obtain ⟨F,hF,_⟩ := hZ a (List.mem_of_getElem? e)
 exact ⟨F,hF⟩
theorem St.upd (h:St A N w0 w L Z) (k:Nat) {a b:OA} {L':List OA} (hk : ∀ F,a.holds w F → ∃ G,b.holds w' G∧(∀ i,G i→F i∨w.heap.size ≤ i)∧Chg F w w') (e:L[k]? = some a:=by rfl) (e':b :: L.eraseIdx k=L':=by rfl):St A N w0 w' L' Z:=by
 subst e'
 obtain ⟨U,hU,hN,hA,hL,hZ,hW⟩ := h
 obtain ⟨F,g,hF,hR⟩ := hL.front k e
 obtain ⟨G,g',hG,hc⟩ := hk F g
 refine ⟨fun i=>U i∨(G i∧w.heap.size ≤ i),fun i hi=>?_,fun i hi=>Nat.lt_of_lt_of_le (hN i hi) hc.size,hA.thenChg hc (fun i hi hf=>?_),⟨G,g',fun i hi=>(hG i hi).imp (hF i) (fun q=>⟨hi,q⟩),?_⟩,hZ.chg hc (fun i hi => .inl (hF i hi)) (fun i hi=>?_),hW.chg hc (fun i hi=>(hU i (hF i hi)).2.2)⟩
 ·rcases hi with hi | hi
  ·exact ⟨(hU i hi).1,Nat.lt_of_lt_of_le (hU i hi).2.1 hc.size,(hU i hi).2.2⟩
  ·exact ⟨.inr (Nat.le_trans hA.size hi.2),b.lt g' i hi.1,fun hn=>absurd (hN i hn) zan⟩
 ·exact ((hU i (hF i hf)).1).elim id (fun q=>absurd hi zan)
 ·exact (Sep.chg hc hR fun i hi=>hi.2).mono fun i hi=>⟨.inl hi.1,fun hg=>(hG i hg).elim hi.2 (fun q=>absurd (hU i hi.1).2.1 zan)⟩
 ·rcases hi with (hi | hi) | hi
  ·exact .inl (.inl hi)
  ·exact .inr hi.2
  ·exact .inl (.inr hi)
theorem St.add (h:St A N w0 w L Z) {b:OA} {G:Nat→Prop} (hc:Ext w w') (hb:b.holds w' G) (hG : ∀ i,G i→w.heap.size ≤ i):St A N w0 w' (b :: L) Z:=by
 obtain ⟨U,hU,hN,hA,hL,hZ,hW⟩ := h
 refine ⟨fun i=>U i∨G i,fun i hi=>?_,fun i hi=>Nat.lt_of_lt_of_le (hN i hi) hc.size,hA.thenExt hc,⟨G,hb,fun i hi => .inr hi,?_⟩,hZ.chg hc (fun _ x=>x.elim) (fun i hi=>?_),hW.chg hc (fun _ x=>x.elim)⟩
 ·rcases hi with hi | hi
  ·exact ⟨(hU i hi).1,Nat.lt_of_lt_of_le (hU i hi).2.1 hc.size,(hU i hi).2.2⟩
  ·exact ⟨.inr (Nat.le_trans hA.size (hG i hi)),b.lt hb i hi,fun hn=>absurd (hN i hn) (by have:=hG i hi; omega)⟩
 ·exact (Sep.chg hc hL fun _ _ x=>x).mono fun i hi=>⟨.inl hi,fun hg=>absurd (hU i hi).2.1 (by have:=hG i hg; omega)⟩
 ·rcases hi with (hi | hi) | hi
  ·exact .inl (.inl hi)
  ·exact .inr (hG i hi)
  ·exact .inl (.inr hi)
theorem St.freeze (h:St A N w0 w L Z) (k:Nat) {a b:OA} {L':List OA} (hab : ∀ F,a.holds w F→b.holds w F) (e:L[k]? = some a:=by rfl) (e':L.eraseIdx k=L':=by rfl):St A N w0 w L' (b :: Z):=by
 subst e'
 obtain ⟨U,hU,hN,hA,hL,hZ,hW⟩ := h
 obtain ⟨F,g,hF,hR⟩ := hL.front k e
 refine ⟨fun i=>U i∧¬ F i,fun i hi=>hU i hi.1,hN,hA,hR,fun z hz=>?_,hW⟩
 rcases List.mem_cons.1 hz with rfl | hz
 ·exact ⟨F,hab F g,fun i hi q=>q.elim (fun q=>q.2 hi) (fun q=>(hU i (hF i hi)).2.2 q)⟩
 ·obtain ⟨G,g',hG⟩ := hZ z hz
  exact ⟨G,g',fun i hi q=>hG i hi (q.imp (·.1) id)⟩
theorem St.tell (h:St A N w0 w L Z) (k:Nat) {a b:OA} (hab : ∀ F,a.holds w F→b.holds w F) (e:Z[k]? = some a:=by rfl):St A N w0 w L (b :: Z):=by
 obtain ⟨U,hU,hN,hA,hL,hZ,hW⟩ := h
 refine ⟨U,hU,hN,hA,hL,fun z hz=>?_,hW⟩
 rcases List.mem_cons.1 hz with rfl | hz
 ·obtain ⟨F,g,hF⟩ := hZ a (List.mem_of_getElem? e)
  exact ⟨F,hab F g,hF⟩
 ·exact hZ z hz
theorem St.part (h:St A N w0 w L Z) (k:Nat) {a b:OA} (hab : ∀ F,a.holds w F → ∃ G,b.holds w G ∧ ∀ i,G i→F i) (e:Z[k]? = some a:=by rfl):St A N w0 w L (b :: Z):=by
 obtain ⟨U,hU,hN,hA,hL,hZ,hW⟩ := h
 refine ⟨U,hU,hN,hA,hL,fun z hz=>?_,hW⟩
 rcases List.mem_cons.1 hz with rfl | hz
 ·obtain ⟨F,g,hF⟩ := hZ a (List.mem_of_getElem? e)
  obtain ⟨G,g',hG⟩ := hab F g
  exact ⟨G,g',fun i hi=>hF i (hG i hi)⟩
 ·exact hZ z hz
theorem St.say (h:St A N w0 w L Z) {b:OA} (hb:b.holds w (fun _=>False)):St A N w0 w L (b :: Z):=by
 obtain ⟨U,hU,hN,hA,hL,hZ,hW⟩ := h
 refine ⟨U,hU,hN,hA,hL,fun z hz=>?_,hW⟩
 rcases List.mem_cons.1 hz with rfl | hz
 ·exact ⟨_,hb,fun _ x=>x.elim⟩
 ·exact hZ z hz
theorem St.pickZ (h:St A N w0 w L Z) {Z':List OA} (hz : ∀ z ∈ Z',z ∈ Z):St A N w0 w L Z':=by
 obtain ⟨U,hU,hN,hA,hL,hZ,hW⟩ := h
 exact ⟨U,hU,hN,hA,hL,fun z q=>hZ z (hz z q),hW⟩
def sel (Z:List OA) (l:List Nat):List OA:=l.filterMap fun k=>Z[k]?
theorem sel_mem {Z:List OA} {l:List Nat} : ∀ z ∈ sel Z l,z ∈ Z:=fun z hz=>by
 obtain ⟨k,_,hk⟩ := List.mem_filterMap.1 hz
 exact List.mem_of_getElem? hk
theorem St.zs (h:St A N w0 w L Z) (l:List Nat) {Z':List OA} (e:sel Z l=Z':=by rfl):St A N w0 w L Z':=e ▸ h.pickZ sel_mem
theorem St.sub (h:St A N w0 w L Z) (l:List Nat) (P R:List OA) {Zc:List OA} (e:L=P ++ R:=by rfl) (ez:sel Z l=Zc:=by rfl) : ∃ B M,St B M w w P Zc ∧ ∀ w' P' Z' L' Z'',St B M w w' P' Z'→P' ++ R=L'→Z' ++ Z=Z''→St A N w0 w' L' Z'':=by
 subst e ez
 obtain ⟨U,hU,hN,hA,hL,hZ,hW⟩ := h
 obtain ⟨B,hB,hP,hR⟩ := hL.split
 refine ⟨B,⟨fun i=>(U i∧¬ B i)∨N i,N.wat,fun d hd => .inr (N.ok d hd)⟩,⟨B,fun i hi=>⟨.inl hi,(hB i hi).2,fun q=>q.elim (fun q=>q.2 hi) (hU i (hB i hi).1).2.2⟩,fun i hi=>hi.elim (fun q=>(hU i q.1).2.1) (hN i),Chg.refl _ _,hP,fun z hz=>?_,hW⟩,?_⟩
 ·obtain ⟨F,g,hF⟩ := hZ z (sel_mem z hz)
  exact ⟨F,g,fun i hi hb=>hF i hi (hb.elim (fun q => .inl (hB i q).1) (fun q=>q.imp (·.1) id))⟩
 ·rintro w' P' Z' L' Z'' ⟨V,hV,hM,hc,hP',hZ',hW'⟩ rfl rfl
  have hR':=Sep.chg hc hR fun i hi=>hi.2
  refine ⟨fun i=>V i∨(U i∧¬ B i),fun i hi=>?_,fun i hi=>Nat.lt_of_lt_of_le (hN i hi) hc.size,hA.thenChg hc (fun i hi hb=>?_),?_,fun z hz=>?_,hW.chg hc (fun i hi=>(hU i (hB i hi).1).2.2)⟩
  ·rcases hi with hi | hi
   ·exact ⟨((hV i hi).1).elim (fun q=>(hU i (hB i q).1).1) (fun q => .inr (Nat.le_trans hA.size q)),(hV i hi).2.1,fun q=>(hV i hi).2.2 (.inr q)⟩
   ·exact ⟨(hU i hi.1).1,Nat.lt_of_lt_of_le (hU i hi.1).2.1 hc.size,(hU i hi.1).2.2⟩
  ·exact ((hU i (hB i hb).1).1).elim id (fun q=>absurd hi zan)
  ·refine Sep.join hP' hR' (fun i hi => .inl hi) (fun i hi => .inr hi) fun i hi q=>?_
   exact (hV i hi).2.2 (.inl q)
  ·rcases List.mem_append.1 hz with hz | hz
   ·obtain ⟨F,g,hF⟩ := hZ' z hz
    refine ⟨F,g,fun i hi q=>hF i hi ?_⟩
    rcases q with (q | q) | q
    ·exact .inl q
    ·exact .inr (.inl q)
    ·exact .inr (.inr q)
   ·obtain ⟨F,g,hF⟩ := hZ z hz
    refine ⟨F,z.loc g hc (fun i hi hb=>hF i hi (.inl (hB i hb).1)),fun i hi q=>?_⟩
    rcases q with (q | q) | q
    ·exact ((hV i q).1).elim (fun b=>hF i hi (.inl (hB i b).1)) (fun p=>absurd (z.lt g i hi) zan)
    ·exact hF i hi (.inl q.1)
    ·exact hF i hi (.inr q)
end
-- pieces
def oB (b:Nat) (t:TypeId) (l:List Value):OA where
 holds:=fun w F=>Blk w b t l ∧ ∀ i,F i↔i=b
 loc:=fun h hc hs=>⟨h.1.chg hc (hs b ((h.2 b).2 rfl)),h.2⟩
 lt:=fun h i hi=>by rw [(h.2 i).1 hi]; exact h.1.lt
def oS (e k:Nat) {α:Type} (C:α→List Value) (s:SlV) (l:List α):OA where
 holds:=fun w F=>(Own w 0 e k s (l.map C)∧l.length ≤ 140737488355328) ∧ ∀ i,F i↔s.fp i
 loc:=fun h hc hs=>⟨⟨h.1.1.keep hc (fun i hi=>hs i ((h.2 i).2 hi)),h.1.2⟩,h.2⟩
 lt:=fun h i hi=>h.1.1.lt i ((h.2 i).1 hi)
def fS (k:Nat) {α:Type} (C:α→List Value) (s:SlV) (l:List α):OA where
 holds:=fun w F=>(Rd w k s (l.map C)∧l.length ≤ 140737488355328) ∧ ∀ i,F i↔s.fp i
 loc:=fun h hc hs=>⟨⟨h.1.1.keep hc (fun i hi=>hs i ((h.2 i).2 hi)),h.1.2⟩,h.2⟩
 lt:=fun h i hi=>h.1.1.lt i ((h.2 i).1 hi)
def oM (m:Nat) {α β:Type} (C:α→Value) (D:β→Value) (l:List (α × β)):OA where
 holds:=fun w F=>MapB w m C D l ∧ ∀ i,F i↔i=m
 loc:=fun h hc hs=>⟨h.1.chg hc (hs m ((h.2 m).2 rfl)),h.2⟩
 lt:=fun h i hi=>by rw [(h.2 i).1 hi]; exact h.1.lt
section
variable {A:Nat→Prop} {N:Oth} {w0 w w':World} {L Z:List OA}
theorem St.blk (h:St A N w0 w L Z) (k:Nat) {b t:Nat} {l:List Value} (e:L[k]? = some (oB b t l):=by rfl):Blk w b t l:=(h.own k e).elim fun _ h=>h.1
theorem St.blkZ (h:St A N w0 w L Z) (k:Nat) {b t:Nat} {l:List Value} (e:Z[k]? = some (oB b t l):=by rfl):Blk w b t l:=(h.frz k e).elim fun _ h=>h.1
theorem St.sl (h:St A N w0 w L Z) (n:Nat) {e k:Nat} {α:Type} {C:α→List Value} {s:SlV} {l:List α} (q:L[n]? = some (oS e k C s l):=by rfl):Own w 0 e k s (l.map C):=(h.own n q).elim fun _ h=>h.1.1
theorem St.lenO (h:St A N w0 w L Z) (n:Nat) {e k:Nat} {α:Type} {C:α→List Value} {s:SlV} {l:List α} (q:L[n]? = some (oS e k C s l):=by rfl):l.length ≤ 140737488355328:=(h.own n q).elim fun _ h=>h.1.2
theorem St.len (h:St A N w0 w L Z) (n:Nat) {k:Nat} {α:Type} {C:α→List Value} {s:SlV} {l:List α} (q:Z[n]? = some (fS k C s l):=by rfl):l.length ≤ 140737488355328:=(h.frz n q).elim fun _ h=>h.1.2
theorem St.rdO (h:St A N w0 w L Z) (n:Nat) {e k:Nat} {α:Type} {C:α→List Value} {s:SlV} {l:List α} (q:L[n]? = some (oS e k C s l):=by rfl):Rd w k s (l.map C):=(h.sl n q).toRd
theorem St.rd (h:St A N w0 w L Z) (n:Nat) {k:Nat} {α:Type} {C:α→List Value} {s:SlV} {l:List α} (q:Z[n]? = some (fS k C s l):=by rfl):Rd w k s (l.map C):=(h.frz n q).elim fun _ h=>h.1.1
theorem St.map (h:St A N w0 w L Z) (k:Nat) {m:Nat} {α β:Type} {C:α→Value} {D:β→Value} {l:List (α × β)} (e:L[k]? = some (oM m C D l):=by rfl):MapB w m C D l:=(h.own k e).elim fun _ h=>h.1
theorem St.mapZ (h:St A N w0 w L Z) (k:Nat) {m:Nat} {α β:Type} {C:α→Value} {D:β→Value} {l:List (α × β)} (e:Z[k]? = some (oM m C D l):=by rfl):MapB w m C D l:=(h.frz k e).elim fun _ h=>h.1
theorem St.new (h:St A N w0 w L Z) {b t:Nat} {l:List Value} (hn:New w w' b t l):St A N w0 w' (oB b t l :: L) Z :=
 h.add (b:=oB b t l) (G:=(· = b)) hn.ext ⟨hn.blk,fun _=>Iff.rfl⟩ (fun i hi=>by rw [hi,hn.at_]; exact Nat.le_refl _)
theorem St.store (h:St A N w0 w L Z) (k:Nat) {b t:Nat} {l l':List Value} {L':List OA} (hb:Blk w' b t l') (hc:Chg (· = b) w w') (e:L[k]? = some (oB b t l):=by rfl) (e':oB b t l' :: L.eraseIdx k=L':=by rfl):St A N w0 w' L' Z :=
 h.upd k (a:=oB b t l) (b:=oB b t l') (fun F hF=>⟨F,⟨hb,hF.2⟩,fun i hi => .inl hi,hc.mono fun i _ hi=>(hF.2 i).2 hi⟩) e e'
theorem St.push (h:St A N w0 w L Z) (n:Nat) {e k:Nat} {α:Type} {C:α→List Value} {s s':SlV} {l l':List α} {L':List OA} (ho:Own w' 0 e k s' (l'.map C)) (hl:l'.length ≤ 140737488355328) (hc:Chg s.fp w w') (hg : ∀ i,s'.fp i→s.fp i∨w.heap.size ≤ i) (q:L[n]? = some (oS e k C s l):=by rfl) (q':oS e k C s' l' :: L.eraseIdx n=L':=by rfl):St A N w0 w' L' Z :=
 h.upd n (a:=oS e k C s l) (b:=oS e k C s' l') (fun F hF=>⟨s'.fp,⟨⟨ho,hl⟩,fun _=>Iff.rfl⟩,fun i hi=>(hg i hi).imp (fun x=>(hF.2 i).2 x) id,hc.mono fun i _ hi=>(hF.2 i).2 hi⟩) q q'
theorem St.mapSet (h:St A N w0 w L Z) (k:Nat) {m:Nat} {α β:Type} {C:α→Value} {D:β→Value} {l l':List (α × β)} {L':List OA} (hm:MapStep w w' m C D l') (e:L[k]? = some (oM m C D l):=by rfl) (e':oM m C D l' :: L.eraseIdx k=L':=by rfl):St A N w0 w' L' Z :=
 h.upd k (a:=oM m C D l) (b:=oM m C D l') (fun F hF=>⟨F,⟨hm.1,hF.2⟩,fun i hi => .inl hi,hm.2.1.mono fun i _ hi=>(hF.2 i).2 hi⟩) e e'
theorem St.nil (h:St A N w0 w L Z) (e k:Nat) {α:Type} (C:α→List Value):St A N w0 w (oS e k C SlV.nil [] :: L) Z :=
 h.add (b:=oS e k C SlV.nil []) (G:=SlV.nil.fp) (Ext.refl w) ⟨⟨by simpa using Own.nil w 0 e k,by simp⟩,fun _=>Iff.rfl⟩ (fun i hi=>absurd rfl hi.1)
theorem St.nilZ (h:St A N w0 w L Z) (k:Nat) {α:Type} (C:α→List Value):St A N w0 w L (fS k C SlV.nil [] :: Z) :=
 h.say (b:=fS k C SlV.nil []) ⟨⟨by simpa using Rd.nil w k,by simp⟩,fun i=>⟨fun x=>x.elim,fun x=>absurd rfl x.1⟩⟩
theorem St.frzS (h:St A N w0 w L Z) (n:Nat) {e k:Nat} {α:Type} {C:α→List Value} {s:SlV} {l:List α} {L':List OA} (q:L[n]? = some (oS e k C s l):=by rfl) (q':L.eraseIdx n=L':=by rfl):St A N w0 w L' (fS k C s l :: Z) :=
 h.freeze n (a:=oS e k C s l) (fun _ hF=>⟨⟨hF.1.1.toRd,hF.1.2⟩,hF.2⟩) q q'
inductive Lend (L Z:List OA):List OA→Prop
 | nil:Lend L Z []
 | z {a:OA} {l:List OA} (k:Nat) (e:Z[k]? = some a) (h:Lend L Z l):Lend L Z (a :: l)
 | o {a:OA} {l:List OA} (k:Nat) (e:L[k]? = some a) (h:Lend L Z l):Lend L Z (a :: l)
 | s {α:Type} {l:List OA} {e k':Nat} {C:α→List Value} {s:SlV} {x:List α} (k:Nat) (q:L[k]? = some (oS e k' C s x)) (h:Lend L Z l):Lend L Z (fS k' C s x :: l)
theorem Lend.mem {U B:Nat→Prop} (hL:Sep w (fun i=>U i∧¬ B i) L) (hZ:Frz w (fun i=>U i∨N i) Z) (hB : ∀ i,B i→U i) (hN : ∀ i,U i→¬ N i) : ∀ {l:List OA},Lend L Z l → ∀ z ∈ l,∃ F,z.holds w F ∧ ∀ i,F i→¬ (B i∨N i)
 | _,.nil=>fun _ h=>by simp at h
 | _,.z k e h=>fun z hz=>by
  rcases List.mem_cons.1 hz with rfl | hz
  ·obtain ⟨F,g,hF⟩ := hZ _ (List.mem_of_getElem? e)
   exact ⟨F,g,fun i hi q=>hF i hi (q.imp (hB i) id)⟩
  ·exact Lend.mem hL hZ hB hN h z hz
 | _,.o k e h=>fun z hz=>by
  rcases List.mem_cons.1 hz with rfl | hz
  ·obtain ⟨F,g,hF,_⟩ := hL.front k e
   exact ⟨F,g,fun i hi q=>q.elim (hF i hi).2 (hN i (hF i hi).1)⟩
  ·exact Lend.mem hL hZ hB hN h z hz
 | _,.s k e h=>fun z hz=>by
  rcases List.mem_cons.1 hz with rfl | hz
  ·obtain ⟨F,g,hF,_⟩ := hL.front k e
   exact ⟨F,⟨⟨g.1.1.toRd,g.1.2⟩,g.2⟩,fun i hi q=>q.elim (hF i hi).2 (hN i (hF i hi).1)⟩
  ·exact Lend.mem hL hZ hB hN h z hz
theorem St.call (h:St A N w0 w L Z) (P R:List OA) {Zc:List OA} (hl:Lend R Z Zc) (e:L=P ++ R:=by rfl) : ∃ B M,St B M w w P Zc ∧ ∀ w' P' Z' L',St B M w w' P' Z'→P' ++ R=L'→St A N w0 w' L' Z:=by
 subst e
 obtain ⟨U,hU,hN,hA,hL,hZ,hW⟩ := h
 obtain ⟨B,hB,hP,hR⟩ := hL.split
 have hUN : ∀ i,U i→¬ N i:=fun i hi=>(hU i hi).2.2
 refine ⟨B,N,⟨B,fun i hi=>⟨.inl hi,(hB i hi).2,hUN i (hB i hi).1⟩,hN,Chg.refl _ _,hP,Lend.mem hR hZ (fun i hi=>(hB i hi).1) hUN hl,hW⟩,?_⟩
 rintro w' P' Z' L' ⟨V,hV,hM,hc,hP',hZ',hW'⟩ rfl
 have hR':=Sep.chg hc hR fun i hi=>hi.2
 refine ⟨fun i=>V i∨(U i∧¬ B i),fun i hi=>?_,hM,hA.thenChg hc (fun i hi hb=>?_),?_,fun z hz=>?_,hW'⟩
 ·rcases hi with hi | hi
  ·exact ⟨((hV i hi).1).elim (fun q=>(hU i (hB i q).1).1) (fun q => .inr (Nat.le_trans hA.size q)),(hV i hi).2⟩
  ·exact ⟨(hU i hi.1).1,Nat.lt_of_lt_of_le (hU i hi.1).2.1 hc.size,(hU i hi.1).2.2⟩
 ·exact ((hU i (hB i hb).1).1).elim id (fun q=>absurd hi zan)
 ·refine Sep.join hP' hR' (fun i hi => .inl hi) (fun i hi => .inr hi) fun i hi q=>?_
  exact ((hV i hi).1).elim q.2 (fun p=>absurd (hU i q.1).2.1 zan)
 ·obtain ⟨F,g,hF⟩ := hZ z hz
  refine ⟨F,z.loc g hc (fun i hi hb=>hF i hi (.inl (hB i hb).1)),fun i hi q=>?_⟩
  rcases q with (q | q) | q
  ·exact ((hV i q).1).elim (fun b=>hF i hi (.inl (hB i b).1)) (fun p=>absurd (z.lt g i hi) zan)
  ·exact hF i hi (.inl q.1)
  ·exact hF i hi (.inr q)
theorem St.lend (h:St A N w0 w L Z) {Zc:List OA} (hl:Lend L Z Zc) : ∃ M,St (fun _=>False) M w w [] Zc:=by
 obtain ⟨U,hU,hN,hA,hL,hZ,hW⟩ := h
 exact ⟨N,fun _=>False,fun _ x=>x.elim,hN,Chg.refl _ _,trivial,Lend.mem (B:=fun _=>False) (hL.mono fun i hi=>⟨hi,fun x=>x⟩) hZ (fun _ x=>x.elim) (fun i hi=>(hU i hi).2.2) hl,hW⟩
theorem quiet {P:Program} {g:FuncId} {args:Array Value} {M:Oth} {R:Value→World→Prop} {v0:Value} (h:Calls P g args w fun e w' => ∃ v,e = .returned v∧R v w') (hR : ∀ v w',R v w'→v=v0 ∧ ∃ P' Z',St (fun _=>False) M w w' P' Z'):Calls P g args w fun e w' => ∃ v,e = .returned v∧(v=v0∧Ext w w') :=
 CallsIn.mono (F:=fen none) (n:=0) (callsIn_wide.2 h) (by rintro e w' ⟨v,rfl,hv⟩; obtain ⟨h1,P',Z',h2⟩ := hR v w' hv; exact ⟨v,rfl,h1,h2.frame⟩) |> callsIn_wide.1
end
end Gw
end
section
open Go.RowKit
namespace Gw
def chk {α:Type} (b:Bool) (x:Option α):Option α:=if b then x else none
def inb (i:Int) (n:Nat):Bool:=decide (0 ≤ i) && decide (i < n)
def at_ {α:Type} (d:α) (l:List α) (i:Int):α:=l.getD i.toNat d
theorem zp {α β:Type} {x:Option α} {f:α→Option β} {r:β} (h:x.bind f=some r) : ∃ a,x=some a∧f a=some r:=by
 cases x with
 | none=>cases h
 | some a=>exact ⟨a,rfl,h⟩
theorem zX {α:Type} {b:Bool} {x:Option α} {r:α} (h:chk b x=some r):b=true∧x=some r:=by
 unfold chk at h; split at h
 ·exact ⟨‹_›,h⟩
 ·cases h
theorem chk_g {α:Type} {c b:Bool} {x:Option α} {r:α} (h:chk (!c || b) x=some r):(c=true→b=true)∧x=some r:=by
 obtain ⟨h1,h2⟩ := zX h
 refine ⟨fun hc=>?_,h2⟩
 rw [hc] at h1; simpa using h1
theorem if_t {α:Type} {c:Bool} {x y r:α} (hc:c=true) (h:(if c then x else y)=r):x=r:=by rw [if_pos hc] at h; exact h
theorem if_f {α:Type} {c:Bool} {x y r:α} (hc:c=false) (h:(if c then x else y)=r):y=r:=by rw [hc] at h; exact h
theorem zG {i:Int} {n:Nat} (h:inb i n=true):0 ≤ i∧i < n:=by simpa [inb] using h
theorem vf {α:Type} (d:α) {l:List α} {i:Int} (h:0 ≤ i∧i < l.length):l[i.toNat]? = some (at_ d l i):=by
 have hl:i.toNat < l.length:=by omega
 simp [at_,List.getElem?_eq_getElem hl,List.getD_eq_getElem?_getD]
inductive Stp (σ ρ:Type) where
 | go (s:σ)
 | brk (s:σ)
 | ret (r:ρ)
def forN {σ ρ:Type} (b:Int→σ→Option (Stp σ ρ)):Nat→Int→σ→Option (σ ⊕ ρ)
 | 0,_,s=>some (.inl s)
 | n + 1,i,s=>(b i s).bind fun
  | .go s'=>forN b n (i + 1) s'
  | .brk s'=>some (.inl s')
  | .ret r=>some (.inr r)
def forS {σ:Type} (b:Int→σ→Option σ):Nat→Int→σ→Option σ
 | 0,_,s=>some s
 | n + 1,i,s=>(b i s).bind fun s'=>forS b n (i + 1) s'
def iter {σ ρ:Type} (b:σ→Option (Stp σ ρ)):Nat→σ→Option (σ ⊕ ρ)
 | 0,_=>none
 | n + 1,s=>(b s).bind fun
  | .go s'=>iter b n s'
  | .brk s'=>some (.inl s')
  | .ret r=>some (.inr r)
theorem kV {σ ρ:Type} {b:Int→σ→Option (Stp σ ρ)} {i:Int} {s:σ} {o:σ ⊕ ρ} (h:forN b 0 i s=some o):o = .inl s:=by
 simp only [forN] at h; exact (zaq h).symm
def nxt {σ ρ:Type} (g:σ→Option (σ ⊕ ρ)) (o:σ ⊕ ρ):Stp σ ρ→Prop
 | .go s=>g s=some o
 | .brk s=>o = .inl s
 | .ret r=>o = .inr r
theorem kW {σ ρ:Type} {b:Int→σ→Option (Stp σ ρ)} {n:Nat} {i:Int} {s:σ} {o:σ ⊕ ρ} (h:forN b (n + 1) i s=some o) : ∃ q,b i s=some q∧nxt (forN b n (i + 1)) o q:=by
 simp only [forN] at h
 obtain ⟨q,h1,h2⟩ := zp h
 refine ⟨q,h1,?_⟩
 cases q with
 | go s=>exact h2
 | brk s=>exact (zaq h2).symm
 | ret r=>exact (zaq h2).symm
theorem iter_s {σ ρ:Type} {b:σ→Option (Stp σ ρ)} {n:Nat} {s:σ} {o:σ ⊕ ρ} (h:iter b (n + 1) s=some o) : ∃ q,b s=some q∧nxt (iter b n) o q:=by
 simp only [iter] at h
 obtain ⟨q,h1,h2⟩ := zp h
 refine ⟨q,h1,?_⟩
 cases q with
 | go s=>exact h2
 | brk s=>exact (zaq h2).symm
 | ret r=>exact (zaq h2).symm
theorem forS_s {σ:Type} {b:Int→σ→Option σ} {n:Nat} {i:Int} {s o:σ} (h:forS b (n + 1) i s=some o) : ∃ q,b i s=some q∧forS b n (i + 1) q=some o:=by
 simp only [forS] at h
 exact zp h
theorem forS_0 {σ:Type} {b:Int→σ→Option σ} {i:Int} {s o:σ} (h:forS b 0 i s=some o):o=s:=by
 simp only [forS] at h; exact (zaq h).symm
def aft {σ ρ:Type} (k:σ→Option ρ):σ ⊕ ρ→Option ρ
 | .inl s=>k s
 | .inr r=>some r
theorem uD {σ ρ:Type} {k:σ→Option ρ} {x r:ρ} (h:aft k (.inr x)=some r):x=r:=zaq h
section
variable {P:Program} {rd:Option Nat} {n:Nat} {dm:List Nat} {Q:Post} {f:Fr} {w:World}
def rounds (P:Program) (rd:Option Nat) (n:Nat) (dm:List Nat) (c:Code) (Q:Post):Nat→Fr→World→Prop
 | 0,_,_=>False
 | m + 1,f,w=>wc P rd n dm c (thenP (fun dm' f' w'=>dm'=dm∧rounds P rd n dm c Q m f' w') Q) f w
theorem jr {c:Code} {m:Nat} (h:wc P rd n dm c (thenP (fun dm' f' w'=>dm'=dm∧rounds P rd n dm c Q m f' w') Q) f w):rounds P rd n dm c Q (m + 1) f w:=h
theorem wc_rounds {c:Code} (m:Nat) (h:rounds P rd n dm c Q m f w):wc P rd n dm (.loop c) Q f w :=
 wc_loop (fun m f w=>rounds P rd n dm c Q m f w) (fun m=>m) m h fun m f w hm=>by
  cases m with
  | zero=>exact hm.elim
  | succ m =>
   refine wc_mono hm fun dm' e f' w' q=>?_
   cases e with
   | normal=>exact ⟨q.1,m,q.2,Nat.lt_succ_self m⟩
   | _=>exact q
theorem xL {x:Code} (ds:List Nat) (I:Fr→World→Prop) (h:wc P rd n dm x (thenP (fun dm' f' u'=>dm'=dm∧Dif ds f f'∧I f' u') Q) f w) (hy : ∀ g u,I (mask ds g f) u→Q dm .normal (mask ds g f) u):wc P rd n dm x Q f w :=
 wc_mono h fun dm' e f' u' q=>by
  cases e with
  | normal=>obtain ⟨rfl,⟨g,rfl⟩,h2⟩ := q; exact hy g _ h2
  | _=>exact q
end
end Gw
end
section
open Go.RowKit
namespace Gw
def obPost2 (dm:List Nat) (D:Draw) (L:Nat→Bool) (i:Nat) (d:Option Tmp) (f:Fr) (w:World):Post:=fun dm' e f' w'=>e = .normal∧dm'=dm∧D.T (plus L i) w'∧D.Le L w w'∧match d with
 | some d => ∃ v,f'=upd f d v∧D.V i v w'
 | none=>f'=f ∧ ∀ v,D.V i v w'
def drawB2 (ops:Array Oper) (m:Nat):Bool :=
 decide (((ops.toList.take m).filterMap (·.dst)).Nodup) &&
 ops.toList.zipIdx.all (fun q=>q.1.after.toList.all fun e => !Region.binds .any e || decide (e.on < q.2)) &&
 ops.toList.zipIdx.all (fun q=>decide (q.2 < m) || (List.range q.2).all fun i=>((Region.before ops).getD q.2 0).testBit i) &&
 decide (m ≤ ops.size)
def overV (D:Draw) (g:Fr) (w:World) (j:Nat) (d:Option Tmp):Prop:=match d with
 | some d=>D.V j (g d) w
 | none => ∀ v,D.V j v w
theorem overV.get {D:Draw} {g:Fr} {w:World} {j:Nat} {d:Option Tmp} (h:overV D g w j d):D.V j (g (d.getD 0)) w:=by
 cases d with
 | none=>exact h _
 | some d=>exact h
section
variable {P:Program} {rd:Option Nat} {n m:Nat} {dm:List Nat} {ops:Array Oper} {Q:Post} {f:Fr} {w:World}
end
end Gw
end
section
open Go.RowKit
namespace Gw
def LC (x:SlV):List Value:=[x.v]
def SC (s:ByteArray):List Value:=[.string s]
theorem SlV.cells (x:SlV):x.v.cells = #[x.v]:=by rw [SlV.eq]; rfl
theorem xK {i:Nat} {a b:Value} {l l':List (Nat × Value)} (h:a=b) (hl:l=l'):(i,a) :: l=(i,b) :: l':=by rw [h,hl]
theorem ub.get {w:World} {b o i:Nat} {l:List Value} {v:Value} (h:ub w b o l) (hl:l[i]? = some v):w.cell? ⟨b,o + i,none⟩ = some v:=h _ _ hl
section
variable {P:Program} {rd:Option Nat} {n:Nat} {dm:List Nat} {ops:Array Oper} {Q:Post} {f:Fr} {w:World} {rest:List Oper} {ty:TypeId} {pos:String} {af:Array Edge}
theorem flat_len {α:Type} {C:α→List Value} {k:Nat} : ∀ {l:List α},(∀ a ∈ l,(C a).length=k)→((l.map C).flatten).length=l.length * k
 | [],_=>by simp
 | a :: l,h=>by
  have:=flat_len (C:=C) (l:=l) fun b hb=>h b (by simp [hb])
  simp only [List.map_cons,List.flatten_cons,List.length_append,List.length_cons,h a zao,this,Nat.add_mul]
  omega
theorem xa {d:Option Tmp} {gd:Option (Nat × Bool)} {t:Nat} {pl:List (Nat × Nat)} {z out:List Value} {parts:Array (Nat × Operand)} {vs:List (Nat × Value)} (hb:BuT P t pl z) (hv:parts.toList.map (fun q=>(q.1,evF f q.2))=vs) (hf:Bld pl z vs out):Does P ⟨d,.build t parts,ty,pos,af,gd⟩ f w (.agg out.toArray) w :=
 vP hb (hv ▸ hf)
theorem does_lits {α:Type} {C:α→List Value} {l:List α} {vs:List Value} {dd:Tmp} {gd:Option (Nat × Bool)} {t e k len:Nat} {parts:Array (Nat × Operand)} (ht:xV P t e k) (hz : ∃ z,(P.info? e).bind (·.zero)=some z)
  (hv:parts.toList.map (fun q=>(q.1,evF f q.2))=vs.zipIdx.map (fun q=>(q.2,q.1))) (hr:vs.map (fun v=>v.cells.toList)=l.map C) (hk : ∀ a ∈ l,(C a).length=k) (h24:len * k ≤ 16777216∧len ≤ 16777216) (hlen:l.length=len) :
  ∃ (s:SlV) (w':World),Does P ⟨some dd,.buildSlice t len parts,ty,pos,af,gd⟩ f w s.v w'∧Ext w w'∧Own w' 0 e k s (l.map C) ∧ ∀ i,s.fp i→i=w.heap.size:=by
 have hk' : ∀ r ∈ l.map C,r.length=k:=by
  intro r hr; obtain ⟨a,ha,rfl⟩ := List.mem_map.1 hr; exact hk a ha
 obtain ⟨w',h1,hn⟩ := does_buildSlice (P:=P) (f:=f) (w:=w) (dd:=dd) (ty:=ty) (pos:=pos) (af:=af) (gd:=gd) ht hz hv hr hk' (by simpa using hlen) h24.1
 refine ⟨_,w',h1,hn.ext,⟨.inr ⟨_,len,(l.map C).flatten.toArray,?_,Nat.zero_le _,hn.blk,?_,?_,?_⟩,hk'⟩,fun i hi=>hi.2⟩
 ·simp [hlen]
 ·simp [hlen]
 ·simp [flat_len hk,hlen]
 ·simp [flat_len hk,List.take_of_length_le]
theorem vi {α:Type} {C:α→List Value} {l:List α} {vs:List Value} {dd:Tmp} {t e k len:Nat} {parts:Array (Nat × Operand)} (ht:xV P t e k) (hz : ∃ z,(P.info? e).bind (·.zero)=some z)
  (hv:parts.toList.map (fun q=>(q.1,evF f q.2))=vs.zipIdx.map (fun q=>(q.2,q.1))) (hr:vs.map (fun v=>v.cells.toList)=l.map C) (hk : ∀ a ∈ l,(C a).length=k) (h24:len * k ≤ 16777216∧len ≤ 16777216) (hlen:l.length=len) (hd:dd < n)
  (h : ∀ b w' (s:SlV),(Own w' 0 e k s (l.map C) ∧ ∀ i,s.fp i→i=b)→(Ext w w'∧w.heap.size ≤ b)→wl P rd n dm ops rest Q (upd f dd s.v) w'):wl P rd n dm ops (⟨some dd,.buildSlice t len parts,ty,pos,af,none⟩ :: rest) Q f w:=by
 obtain ⟨s,w',h1,h2,h3,h4⟩ := does_lits (P:=P) (f:=f) (w:=w) (dd:=dd) (ty:=ty) (pos:=pos) (af:=af) (gd:=none) ht hz hv hr hk h24 hlen
 exact zj h1 hd (h w.heap.size w' s ⟨h3,h4⟩ ⟨h2,Nat.le_refl _⟩)
theorem wl_appends {α:Type} {C:α→List Value} {dd:Tmp} {t e k bytes:Nat} {x y:Operand} {s r:SlV} {l m:List α} (ht:xV P t e k) (he:uc P e k bytes) (hx:evF f x=s.v) (hy:evF f y=r.v) (hs:Own w 0 e k s (l.map C)) (hr:Rd w k r (m.map C)) (hne:m ≠ [])
  (h1 : ∀ a ∈ m,∀ v ∈ C a,v.oneCell'=true) (hm:(l.length + m.length) * bytes ≤ 140737488355328) (hm2:l.length + m.length ≤ 140737488355328) (hd:dd < n)
  (h : ∀ (s':SlV) w',Own w' 0 e k s' ((l ++ m).map C)→Chg s.fp w w'→(∀ i,s'.fp i→s.fp i∨w.heap.size ≤ i)→wl P rd n dm ops rest Q (upd f dd s'.v) w'):wl P rd n dm ops (⟨some dd,.call ⟨.builtin .append,#[x,y],#[t,t]⟩,ty,pos,af,none⟩ :: rest) Q f w:=by
 refine wl_append (news:=m.map C) ht he hx hy hs hr.sl (by simpa using hne) ?_ (by simpa using hm) (by simpa using hm2) (Nat.zero_le _) hd fun s' w' ho hc hg=>h s' w' (by simpa using ho) hc hg
 intro r hr v hv
 obtain ⟨a,ha,rfl⟩ := List.mem_map.1 hr
 exact h1 a ha v hv
theorem does_append0 {dd:Option Tmp} {gd:Option (Nat × Bool)} {t e k:Nat} {x y:Operand} {s r:SlV} (ht:xV P t e k) (hx:evF f x=s.v) (hy:evF f y=r.v) (hs:s.n ≤ s.c) (hr:r.n=0):Does P ⟨dd,.call ⟨.builtin .append,#[x,y],#[t,t]⟩,ty,pos,af,gd⟩ f w s.v w:=by
 obtain ⟨sp,sn,sc⟩ := s
 obtain ⟨rp,rn,rc⟩ := r
 simp only at hs hr
 subst hr
 unfold Does execOp
 simp only [resolve,invoke,builtin,Sem.run_bind,Sem.run_pure,Result.andThen_ok,List.map_toArray,List.map_cons,List.map_nil,hx,hy,SlV.eq]
 have hl : ∀ a:Addr,(loadCells a 0).run P w = .ok #[] w:=fun a=>rfl
 cases rp with
 | none=>cases sp <;> simp [Builtin.append_,run_underlying ht.1,run_sizeOf ht.2,Builtin.lenOf,Builtin.firstCells,hs,storeCells]
 | some a=>cases sp <;> simp [Builtin.append_,run_underlying ht.1,run_sizeOf ht.2,Builtin.lenOf,Builtin.firstCells,hs,storeCells,hl]
theorem wl_appendm {α:Type} {C:α→List Value} {dd:Tmp} {t e k bytes:Nat} {x y:Operand} {s r:SlV} {l m:List α} (ht:xV P t e k) (he:uc P e k bytes) (hx:evF f x=s.v) (hy:evF f y=r.v) (hs:Own w 0 e k s (l.map C)) (hr:Rd w k r (m.map C))
  (h1 : ∀ a,∀ v ∈ C a,v.oneCell'=true) (hm:(l.length + m.length) * bytes ≤ 140737488355328) (hm2:l.length + m.length ≤ 140737488355328) (hd:dd < n)
  (h : ∀ (s':SlV) w',Own w' 0 e k s' ((l ++ m).map C)→Chg s.fp w w'→(∀ i,s'.fp i→s.fp i∨w.heap.size ≤ i)→wl P rd n dm ops rest Q (upd f dd s'.v) w'):wl P rd n dm ops (⟨some dd,.call ⟨.builtin .append,#[x,y],#[t,t]⟩,ty,pos,af,none⟩ :: rest) Q f w:=by
 by_cases hne:m=[]
 ·subst hne
  refine zj (does_append0 ht hx hy hs.room (by have:=hr.sl.len; simpa using this)) hd ?_
  exact h s w (by simpa using hs) (Chg.refl _ _) (fun i hi => .inl hi)
 ·exact wl_appends ht he hx hy hs hr hne (fun a _=>h1 a) hm hm2 hd h
theorem add_addr' (b o k:Nat):(⟨b,o,none⟩ : Addr).add k=⟨b,o + k,none⟩ := by unfold Addr.add; split <;> simp_all
theorem does_sliceG {d:Option Tmp} {gd:Option (Nat × Bool)} {t e k l h m:Nat} {x:Operand} {lo hi mx:Option Operand} {s:SlV} (ht:xV P t e k) (hx:evF f x=s.v) (hb:(Instr.sliceBounds true s.n s.c (lo.map (evF f)) (hi.map (evF f)) (mx.map (evF f))).run P w = .ok (l,h,m) w) :
  Does P ⟨d,.slice t x lo hi mx,ty,pos,af,gd⟩ f w (⟨if m=l then s.p else s.p.map (·.add (l * k)),h - l,m - l⟩ : SlV).v w:=by
 have he:P.elem t=e:=by unfold Program.elem; rw [ht.1]
 unfold Does execOp
 simp only [hx,SlV.eq,Sem.run_bind,run_sliceAt_slice (P:=P) w t _ _ _ _ (by rw [he]; exact ht.1)]
 simp only [Instr.slice,Sem.run_bind,run_underlying ht.1,Result.andThen_ok,hb,run_sizeOf ht.2,Sem.run_pure]
theorem bounds_him {n c:Nat} {kd kd':IntKind} {i:Int} (h0:0 ≤ i) (h1:i ≤ c):(Instr.sliceBounds true n c none (some (.int kd i)) (some (.int kd' i))).run P w = .ok (0,i.toNat,i.toNat) w:=by
 have h2:i ≤ (i.toNat:Int):=by omega
 simp [Instr.sliceBounds,run_sliceBound,h0,h1,run_sliceBound (P:=P) w kd i i.toNat .slice3B h0 h2]
theorem bounds_lo {n c:Nat} {kd:IntKind} {i:Int} (h0:0 ≤ i) (h1:i ≤ n):(Instr.sliceBounds true n c (some (.int kd i)) none none).run P w = .ok (i.toNat,n,c) w:=by
 simp [Instr.sliceBounds,run_sliceBound,h0,h1]
theorem does_suf {α:Type} {C:α→List Value} {d:Option Tmp} {gd:Option (Nat × Bool)} {t e k:Nat} {x y:Operand} {s:SlV} {l:List α} {kd:IntKind} {i:Int} (ht:xV P t e k) (hx:evF f x=s.v) (hy:evF f y = .int kd i) (hs:Rd w k s (l.map C)) (hi:0 ≤ i∧i ≤ l.length) :
  Does P ⟨d,.slice t x (some y) none none,ty,pos,af,gd⟩ f w (⟨if s.c=i.toNat then s.p else s.p.map (·.add (i.toNat * k)),s.n - i.toNat,s.c - i.toNat⟩ : SlV).v w:=by
 have hn:=hs.sl.len
 rw [List.length_map] at hn
 exact does_sliceG (l:=i.toNat) (h:=s.n) (m:=s.c) ht hx (by simp only [Option.map_none,Option.map_some,hy]; exact bounds_lo hi.1 zan)
theorem Rd.suf {α:Type} {C:α→List Value} {k:Nat} {s:SlV} {l:List α} {i:Int} (hs:Rd w k s (l.map C)) (hi:0 ≤ i∧i ≤ l.length):Rd w k ⟨if s.c=i.toNat then s.p else s.p.map (·.add (i.toNat * k)),s.n - i.toNat,s.c - i.toNat⟩ ((l.drop i.toNat).map C) ∧ ∀ j,SlV.fp ⟨if s.c=i.toNat then s.p else s.p.map (·.add (i.toNat * k)),s.n - i.toNat,s.c - i.toNat⟩ j→s.fp j:=by
 have hn:=hs.sl.len
 rw [List.length_map] at hn
 have hfp : ∀ j,SlV.fp ⟨if s.c=i.toNat then s.p else s.p.map (·.add (i.toNat * k)),s.n - i.toNat,s.c - i.toNat⟩ j→s.fp j:=by
  rintro j ⟨h1,rfl⟩
  cases hp:s.p with
  | none=>simp [hp] at h1
  | some a =>
   refine ⟨by simp [hp],?_⟩
   simp only [SlV.blk,hp]
   by_cases hc:s.c=i.toNat
   ·simp [hc]
   ·simp only [hc,if_false,Option.map_some]; unfold Addr.add; split <;> rfl
 refine ⟨⟨⟨by simp [hn],fun r hr=>?_,fun j r hj=>?_⟩,fun j hj=>hs.lt j (hfp j hj),by have:=hs.room; simp only; omega⟩,hfp⟩
 ·obtain ⟨a,ha,rfl⟩ := List.mem_map.1 hr
  exact hs.sl.row _ (List.mem_map.2 ⟨a,List.mem_of_mem_drop ha,rfl⟩)
 ·have hj':(l.map C)[i.toNat + j]? = some r:=by
   rw [List.getElem?_map] at hj ⊢
   rw [List.getElem?_drop] at hj
   exact hj
  obtain ⟨hp,hc⟩ := hs.sl.cells _ _ hj'
  have hlt:i.toNat + j < l.length:=by
   have:=(List.getElem?_eq_some_iff.1 hj').1; simpa using this
  have hne:¬ s.c=i.toNat:=by have:=hs.room; omega
  have e1:(SlV.mk (if s.c=i.toNat then s.p else s.p.map (·.add (i.toNat * k))) (s.n - i.toNat) (s.c - i.toNat)).p=some ⟨s.blk,s.off + i.toNat * k,none⟩ := by
   simp only [hne,if_false,hp,Option.map_some]; rw [add_addr']
  have e2:SlV.blk (SlV.mk (if s.c=i.toNat then s.p else s.p.map (·.add (i.toNat * k))) (s.n - i.toNat) (s.c - i.toNat))=s.blk:=by
   unfold SlV.blk at *; rw [e1]
  have e3:SlV.off (SlV.mk (if s.c=i.toNat then s.p else s.p.map (·.add (i.toNat * k))) (s.n - i.toNat) (s.c - i.toNat))=s.off + i.toNat * k:=by
   unfold SlV.off at *; rw [e1]
  rw [e2,e3]
  refine ⟨e1,?_⟩
  rw [Nat.add_assoc,← Nat.add_mul]
  exact hc
end
section
variable {A:Nat→Prop} {N:Oth} {w0 w w':World} {L Z:List OA}
theorem St.lit (h:St A N w0 w L Z) {α:Type} {C:α→List Value} {l:List α} {e k b:Nat} {s:SlV} (ho:Own w' 0 e k s (l.map C) ∧ ∀ i,s.fp i→i=b) (hx:Ext w w'∧w.heap.size ≤ b) (hl:l.length ≤ 140737488355328):St A N w0 w' (oS e k C s l :: L) Z :=
 h.add (b:=oS e k C s l) (G:=s.fp) hx.1 ⟨⟨ho.1,hl⟩,fun _=>Iff.rfl⟩ (fun i hi=>by rw [ho.2 i hi]; exact hx.2)
theorem St.sufZ (h:St A N w0 w L Z) (n:Nat) {k:Nat} {α:Type} {C:α→List Value} {s:SlV} {l:List α} {i:Int} (hi:0 ≤ i∧i ≤ l.length) (q:Z[n]? = some (fS k C s l):=by rfl) :
  St A N w0 w L (fS k C ⟨if s.c=i.toNat then s.p else s.p.map (·.add (i.toNat * k)),s.n - i.toNat,s.c - i.toNat⟩ (l.drop i.toNat) :: Z) :=
 h.part n (a:=fS k C s l) (fun _ hF=>⟨_,⟨⟨(Rd.suf hF.1.1 hi).1,by have:=hF.1.2; simp only [List.length_drop]; omega⟩,fun _=>Iff.rfl⟩,fun j hj=>(hF.2 j).2 ((Rd.suf hF.1.1 hi).2 j hj)⟩) q
theorem St.away (h:St A N w0 w L Z) (n:Nat) {e k:Nat} {α:Type} {C:α→List Value} {s:SlV} {l:List α} {L':List OA} (q:L[n]? = some (oS e k C s l):=by rfl) (q':L.eraseIdx n=L':=by rfl) {v:World} (hc:Chg s.fp w v):St A (N.or s.fp) w0 v L' Z:=by
 subst q'
 obtain ⟨U,hU,hN,hA,hL,hZ,hW⟩ := h
 obtain ⟨F,hF,hFU,hR⟩ := hL.front n q
 have hlt : ∀ i,s.fp i→U i:=fun i hi=>hFU i ((hF.2 i).2 hi)
 refine ⟨fun i=>U i∧¬ F i,fun i hi=>⟨(hU i hi.1).1,Nat.lt_of_lt_of_le (hU i hi.1).2.1 hc.size,fun q=>q.elim (hU i hi.1).2.2 (fun q=>hi.2 ((hF.2 i).2 q))⟩,fun i hi=>Nat.lt_of_lt_of_le (hi.elim (hN i) (fun q=>(hU i (hlt i q)).2.1)) hc.size,hA.thenChg hc (fun i hi hs=>((hU i (hlt i hs)).1).elim id (fun q=>absurd hi zan)),Sep.chg hc hR (fun i hi hs=>hi.2 ((hF.2 i).2 hs)),fun z hz=>?_,Wat.chg (N:=N) hW hc (fun i hi=>(hU i (hlt i hi)).2.2)⟩
 obtain ⟨G,g,hG⟩ := hZ z hz
 refine ⟨G,z.loc g hc (fun i hi hs=>hG i hi (.inl (hlt i hs))),fun i hi q=>hG i hi ?_⟩
 rcases q with q | q | q
 ·exact .inl q.1
 ·exact .inr q
 ·exact .inl (hlt i q)
end
end Gw
end
end Go.Proofs.YtmggdbbmmkkplaaGreatDoor
