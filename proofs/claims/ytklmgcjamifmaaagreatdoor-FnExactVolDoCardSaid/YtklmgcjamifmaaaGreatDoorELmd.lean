/- Regions, loops and whole functions are what the interpreter says, and a law's reading fits them. Conditions: each theorem's own hypotheses. -/
import Derived.Test.YtklmgcjamifmaaaGreatDoorELmc
import Derived.Orders
import Derived.OrdersHeld
import Derived.Laws.StructEq
import Derived.WalkKit
import Derived.ProofKit
import Derived.OpenShut
import Derived.ShutString
import Derived.ChangeOld
import Derived.Below
import Derived.JoinedCond
import Derived.Lib.Bytealg
set_option linter.unusedVariables false
set_option linter.unusedSimpArgs false
namespace Go.LM
section
variable{P:Program}{Q:Exit→Act→World→Prop}
variable{w0:World}{F0 Z0:Reg}{n:Frm}{s s':St}{a a':Act}{w w':World}{ι ι':Nat→OI}{Z Z':Reg}
variable{E:Env}{o:Oper}{ρ : Type}{K:St→Option ρ}{r : ρ}{id:Nat}
def Lands(w0:World)(F0 Z0:Reg)(n:Frm)(K:St→Option ρ)(r : ρ)(a:Act)(w:World):Prop:=∃s,K s=some r∧Stands w0 F0 Z0 n s a w
theorem okDst_lt(hn:E.n=n)(h:okDst E o=true):∀k,o.dst=some k→k<n:=by
 intro k hk
 unfold okDst at h
 rw [hk] at h
 rw [← hn]
 exact Nat.le_of_ble_eq_true h
theorem Inv.know(h:Inv w0 F0 Z0 n s a w ι Z){d:Nat}{b:Bool}(hb:s.t d=.sc (.bool b)):Inv w0 F0 Z0 n (s.set d (.sc (.bool b))) a w ι Z∧a.tmps.getD d undef=.bool b:=by
 have hd:=h.tmps d
 rw [hb] at hd
 have hd':a.tmps.getD d undef=.bool b:=by simpa only [TVRep,CellRep] using hd
 refine⟨h.tmp rfl (fun k=>?_) h.size h.defers,hd'⟩
 have hm:Moves w Z s ι w Z (s.set d (.sc (.bool b))) ι := moves_tmp rfl
 show TVRep w Z (s.set d (.sc (.bool b))) ι (upd s.t d (.sc (.bool b)) k) (a.tmps.getD k undef)
 by_cases hk:d=k
 ·subst hk;rw [upd_same,hd'];simp only [TVRep,CellRep]
 ·rw [upd_ne hk];exact(h.tmps k).move hm
theorem skip_sound(h:Inv w0 F0 Z0 n s a w ι Z)(hd:∀k,o.dst=some k→k<n):Stands w0 F0 Z0 n (s.dst o.dst .gone) (a.put o.dst undef) w :=
 ⟨ι,Z,h.dst (by simp only [TVRep]) hd⟩
theorem oneK_sound{ops:Array Oper}(hO:Ok P E)(hn:E.n=n)(h:Inv w0 F0 Z0 n s a w ι Z)(hk:oneK E id ops.toList o s K=some r) :
  if Region.wanted o (yielded ops a.tmps) then o.wp P a w (Lands w0 F0 Z0 n K r) Q else Lands w0 F0 Z0 n K r (a.put o.dst undef) w:=by
 unfold oneK at hk
 cases hdst:okDst E o
 ·rw [hdst] at hk;cases hk
 rw [hdst] at hk
 simp only [cond_true] at hk
 have hd:=okDst_lt hn hdst
 have hdo:∀ {s1:St},Inv w0 F0 Z0 n s1 a w ι Z→opK E id o s1 K=some r→o.wp P a w (Lands w0 F0 Z0 n K r) Q:=by
  intro s1 h1 hk1
  obtain ⟨s',h2,h3⟩:=opK_sound (Q:=Q) hO h1 hd hk1
  exact Oper.wp_mono (fun a w hs=>⟨s',h2,hs⟩) h3
 have hno:∀ {s1:St},Inv w0 F0 Z0 n s1 a w ι Z→K (s1.dst o.dst .gone)=some r→Lands w0 F0 Z0 n K r (a.put o.dst undef) w:=fun h1 hk1=>⟨_,hk1,skip_sound h1 hd⟩
 unfold guardOf at hk
 cases hg:o.guard with
 | none =>
  rw [hg] at hk
  simp only at hk
  rw [if_pos (by simp [Region.wanted,hg])]
  exact hdo h hk
 | some jw =>
  obtain ⟨j,wt⟩:=jw
  rw [hg] at hk
  simp only at hk
  cases hj:(ops.toList[j]?).bind (·.dst) with
  | none=>rw [hj] at hk;simp at hk
  | some d =>
   rw [hj] at hk
   simp only at hk
   cases hst:s.t d with
   | sc c =>
    cases c with
    | bool b =>
     rw [hst] at hk
     simp only at hk
     obtain ⟨h1,h2⟩:=h.know hst
     have hy:yielded ops a.tmps j=some b:=by
      unfold yielded
      rw [Array.getElem?_toList] at hj
      rw [hj]
      simp only [obs]
      have hlt:d<a.tmps.size:=by
       rcases Nat.lt_or_ge d a.tmps.size with h | h
       ·exact h
       ·rw [Array.getD_eq_getD_getElem?,Array.getElem?_eq_none h] at h2
        simp [undef] at h2
      rw [Array.getD_eq_getD_getElem?,Array.getElem?_eq_getElem hlt] at h2
      rw [Array.getElem?_eq_getElem hlt]
      simp only [Option.getD_some] at h2
      rw [h2]
     have hw:Region.wanted o (yielded ops a.tmps)=(b==wt):=by
      simp only [Region.wanted,hg,hy]
      cases b <;> cases wt <;> rfl
     rw [hw]
     cases b <;> cases wt <;> simp only [cond_true,cond_false] at hk
     ·exact hdo h1 hk
     ·exact hno h1 hk
     ·exact hno h1 hk
     ·exact hdo h1 hk
    | _=>rw [hst] at hk;simp at hk
   | gone =>
    rw [hst] at hk
    simp only at hk
    have h2:=h.tmps d
    rw [hst] at h2
    simp only [TVRep] at h2
    have hy:yielded ops a.tmps j=none:=by
     unfold yielded
     rw [Array.getElem?_toList] at hj
     rw [hj]
     simp only [obs]
     rw [Array.getD_eq_getD_getElem?] at h2
     cases hd2:a.tmps[d]? with
     | none=>rfl
     | some v=>rw [hd2] at h2;simp only [Option.getD_some] at h2;subst h2;rfl
    have hw:Region.wanted o (yielded ops a.tmps)=false:=by
     simp only [Region.wanted,hg,hy]
     cases wt <;> rfl
    rw [hw]
    exact hno h hk
   | _=>rw [hst] at hk;simp at hk
theorem wpOps_step{ops:Array Oper}{R:Exit→Act→World→Prop}{i m:Nat}(hi:ops[i]?=some o)(hg:o.guard=none)(h:o.wp P a w (fun a w=>wpOps P ops R (List.range' (i+1) m) a w) R):wpOps P ops R (List.range' i (m+1)) a w:=by
 rw [List.range'_succ]
 simp only [wpOps,hi]
 rw [if_pos (by simp [Region.wanted,hg])]
 exact .inl h
theorem opsQ_sound{rid:Nat}{ops:Array Oper}(hO:Ok P E)(hn:E.n=n):∀(m:Nat) (l:List Oper) (i:Nat) (s:St) (a:Act) (w:World),l.length≤m→ops.toList.drop i=l→opsQ E rid ops.toList l i 0 s K=some r→Stands w0 F0 Z0 n s a w →
  wpOps P ops (fun e a w=>e=.normal∧Lands w0 F0 Z0 n K r a w) (List.range' i l.length) a w
 | _,[],i,s,a,w,_,_,hk,hs=>⟨rfl,s,hk,hs⟩
 | 0,_ :: _,_,_,_,_,hm,_,_,_=>by simp at hm
 | m+1,o :: l,i,s,a,w,hm,hl,hk,⟨ι,Z,h⟩=>by
  have hm:l.length≤m:=by simpa using hm
  have at_i:∀(j:Nat) (o:Oper) (l:List Oper),ops.toList.drop j=o :: l→ops[j]?=some o∧ops.toList.drop (j+1)=l:=by
   intro j o l hl
   refine⟨?_,by rw [← List.drop_drop,hl];rfl⟩
   rw [← Array.getElem?_toList]
   have:=congrArg (·[0]?) hl
   simpa using this
  obtain ⟨hi,hl'⟩:=at_i i o l hl
  simp only [opsQ] at hk
  cases hT:isTake E s o
  ·rw [hT] at hk
   simp only [cond_false] at hk
   rw [List.length_cons,List.range'_succ]
   have hone:=oneK_sound (Q:=fun e a w=>e=.normal∧Lands w0 F0 Z0 n K r a w) hO hn h hk
   simp only [wpOps,hi]
   have hnext:∀a w,Lands w0 F0 Z0 n (fun s'=>opsQ E rid ops.toList l (i+1) 0 s' K) r a w→wpOps P ops (fun e a w=>e=.normal∧Lands w0 F0 Z0 n K r a w) (List.range' (i+1) l.length) a w:=by
    rintro a w ⟨s',h1,h2⟩
    exact opsQ_sound hO hn m l (i+1) s' a w hm hl' h1 h2
   split
   ·rename_i hw
    rw [if_pos hw] at hone
    exact .inl (Oper.wp_mono hnext hone)
   ·rename_i hw
    rw [if_neg hw] at hone
    exact hnext _ _ hone
  ·rw [hT] at hk
   simp only [cond_true] at hk
   obtain ⟨o1,o2,o3,l',rfl,g0,g1,g2,g3,hwp⟩:=takeK_sound (Q:=fun e a w=>e=.normal∧Lands w0 F0 Z0 n K r a w) hO hn h hk
   obtain ⟨hi1,hl1⟩:=at_i _ _ _ hl'
   obtain ⟨hi2,hl2⟩:=at_i _ _ _ hl1
   obtain ⟨hi3,hl3⟩:=at_i _ _ _ hl2
   refine wpOps_step hi g0 (Oper.wp_mono (fun a w h=>wpOps_step hi1 g1 (Oper.wp_mono (fun a w h=>wpOps_step hi2 g2 (Oper.wp_mono (fun a w h=>wpOps_step hi3 g3 (Oper.wp_mono (fun a w h=>?_) h)) h)) h)) hwp)
   obtain ⟨s',h1,h2⟩:=h
   exact opsQ_sound hO hn m l' (i+1+1+1+1) s' a w (by simp at hm;omega) hl3 h1 h2
theorem opsK_sound{rid:Nat}{ops:Array Oper}(hO:Ok P E)(hn:E.n=n)(l:List Oper)(i:Nat)(s:St)(a:Act)(w:World)(hl:ops.toList.drop i=l)(hk:opsK E rid ops.toList l i s K=some r)(hs:Stands w0 F0 Z0 n s a w) :
  wpOps P ops (fun e a w=>e=.normal∧Lands w0 F0 Z0 n K r a w) (List.range' i l.length) a w:=opsQ_sound hO hn l.length l i s a w (Nat.le_refl _) hl hk hs
theorem region_sound{rid:Nat}{ops:Array Oper}(hO:Ok P E)(hn:E.n=n)(hk:opsK E rid ops.toList ops.toList 0 s K=some r)(hs:Stands w0 F0 Z0 n s a w)(b:Frame)(k:List Item)(cs:List Frame) :
  ∃a' w',Lands w0 F0 Z0 n K r a' w'∧Steps P (lone (b.at a (.code (.region rid ops false) :: k)) cs w) (lone (b.at a' k) cs w'):=by
 have h:=opsK_sound (w0:=w0) (F0:=F0) (Z0:=Z0) (n:=n) hO hn ops.toList 0 s a w rfl hk hs
 have h':wpOps P ops (fun e a w=>e=.normal∧Lands w0 F0 Z0 n K r a w) (List.range ops.size) a w:=by
  rw [List.range_eq_range'];simpa using h
 obtain ⟨e,a',w',⟨rfl,hl⟩,harr⟩:=wp_ops _ a w h' b k cs
 exact⟨a',w',hl,.head step_region harr⟩
end
end Go.LM
namespace Go.LM
section
variable{P:Program}{ops:Array Oper}{Q:Exit→Act→World→Prop}
abbrev Pend:=List (Nat×(World→Prop))
def Pend.after(ops:Array Oper)(j:Nat)(p:Pend):Pend:=p.filter fun x => !waits ops j x.1
def Pend.ok(p:Pend)(w:World):Prop:=∀x∈p,x.2 w
def wpAnyR(P:Program)(ops:Array Oper)(Q:Exit→Act→World→Prop):Nat→Array Bool→Pend→Act→World→Prop
 | 0,listed,_,a,w=>Region.ready .any ops listed=[]∧Q .normal a w
 | fuel+1,listed,pend,a,w =>
  (Region.ready .any ops listed=[]→Q .normal a w) ∧
  ∀j∈Region.ready .any ops listed,wpOp P ops Q j (fun a' w'=>(pend.after ops j).ok w'∧wpAnyR P ops Q fuel (listed.setIfInBounds j true) (pend.after ops j) a' w') a w
theorem wpAny_of_R:∀(fuel:Nat) (listed:Array Bool) (pend:Pend) (a:Act) (w:World),wpAnyR P ops Q fuel listed pend a w→wpAny P .any ops Q fuel listed a w
 | 0,_,_,_,_,h=>h
 | fuel+1,_,_,_,_,h=>⟨h.1,fun i hi=>wpOp_mono (fun a' w' h'=>wpAny_of_R fuel _ _ a' w' h'.2) (h.2 i hi)⟩
theorem Pend.after_sub{p q:Pend}(h:∀x∈p,x∈q)(j:Nat):∀x∈p.after ops j,x∈q.after ops j:=by
 intro x hx
 unfold Pend.after at *
 rw [List.mem_filter] at *
 exact⟨h x hx.1,hx.2⟩
theorem wpAnyR_mono:∀(fuel:Nat) (listed:Array Bool) (p q:Pend) (a:Act) (w:World),(∀x∈p,x∈q)→wpAnyR P ops Q fuel listed q a w→wpAnyR P ops Q fuel listed p a w
 | 0,_,_,_,_,_,_,h=>h
 | fuel+1,_,p,q,_,_,hs,h=>⟨h.1,fun i hi=>wpOp_mono (fun a' w' h'=>⟨fun x hx=>h'.1 x (Pend.after_sub hs i x hx),wpAnyR_mono fuel _ _ _ a' w' (Pend.after_sub hs i) h'.2⟩) (h.2 i hi)⟩
theorem Pend.after_of{p:Pend}{j:Nat}{x:Nat×(World→Prop)}(hx:x∈p.after ops j):x∈p:=(List.mem_filter.1 hx).1
theorem wpAnyR_first{i:Nat}{oi:Oper}{v:Value}{S:World→Prop}(hi:ops[i]?=some oi)(hsel:∀(j:Nat) (o:Oper) cs b,ops[j]?=some o→o.op≠.select cs b)
  (hQ:∀c a w,Q (.panic c) (a.put oi.dst v) w→Q (.panic c) a w) :
  ∀(fuel:Nat) (listed:Array Bool) (pend:Pend) (a:Act) (w:World),
   (∀j oj,ops[j]?=some oj→j≠i→listed.getD j true=false→(∀e∈oj.after,Region.binds .any e=true→e.on≠i)→oi.apart ops oj=true) →
   i∈Region.ready .any ops listed→YieldsIf P ops S oi v a→S w→pend.ok w →
   wpAnyR P ops Q fuel (listed.setIfInBounds i true) ((i,S) :: pend) (a.put oi.dst v) w→wpAnyR P ops Q (fuel+1) listed pend a w:=by
 intro fuel
 induction fuel with
 | zero =>
  intro listed pend a w _ hr hy hS hp H
  refine⟨fun h=>(by rw [h] at hr;cases hr),fun j hj=>?_⟩
  by_cases hji:j=i
  ·subst hji;exact hy.wpOp hi hS ⟨fun x hx=>hp x (Pend.after_of hx),H⟩
  ·have:=ready_mono hj hji
   rw [H.1] at this
   cases this
 | succ fuel ih =>
  intro listed pend a w hfree hr hy hS hp H
  refine⟨fun h=>(by rw [h] at hr;cases hr),fun j hj=>?_⟩
  by_cases hji:j=i
  ·subst hji
   exact hy.wpOp hi hS ⟨fun x hx=>hp x (Pend.after_of hx),wpAnyR_mono _ _ _ _ _ _ (fun x hx=>List.mem_cons_of_mem _ (Pend.after_of hx)) H⟩
  ·have h1:=H.2 j (ready_mono hj hji)
   obtain ⟨hjun,oj,hoj,hall⟩:=mem_ready.1 hj
   have hnot:∀e∈oj.after,Region.binds .any e=true→e.on≠i:=fun e he hb heq=>by
    have h1:=hall e he hb
    have h0:=(mem_ready.1 hr).1
    rw [heq] at h1
    rcases Nat.lt_or_ge i listed.size with h' | h'
    ·simp [h'] at h0 h1;rw [h0] at h1;cases h1
    ·simp [Array.getElem?_eq_none h'] at h1
   have hwait:waits ops j i=false:=by
    unfold waits
    rw [hoj]
    simp only
    rw [Bool.eq_false_iff]
    intro hany
    obtain ⟨e,he,hb⟩:=Array.any_eq_true'.1 hany
    simp only [Bool.and_eq_true] at hb
    exact hnot e he hb.1 (Nat.eq_of_beq_eq_true hb.2)
   have hcons:Pend.after ops j ((i,S) :: pend)=(i,S) :: pend.after ops j:=by
    unfold Pend.after
    rw [List.filter_cons_of_pos (by simp [hwait])]
   rw [hcons] at h1
   have h2:=wpOp_putIf hoj (hfree j oj hoj hji hjun hnot) (fun cs b=>hsel i oi cs b hi) (fun cs b=>hsel j oj cs b hoj) hQ hy h1
   have hfree':∀k ok,ops[k]?=some ok→k≠i→(listed.setIfInBounds j true).getD k true=false →
     (∀e∈ok.after,Region.binds .any e=true→e.on≠i)→oi.apart ops ok=true:=fun k ok hk hki hun hno=>by
    refine hfree k ok hk hki ?_ hno
    by_cases hjk:j=k
    ·subst hjk;exact hjun
    ·rw [getD_set_ne true hjk] at hun;exact hun
   refine wpOp_mono (fun a' w' h3=>⟨fun x hx=>h3.2.1 x (List.mem_cons_of_mem _ hx),ih (listed.setIfInBounds j true) _ a' w' hfree' (ready_mono hr (Ne.symm hji)) h3.1 (h3.2.1 _ List.mem_cons_self) (fun x hx=>h3.2.1 x (List.mem_cons_of_mem _ hx)) ?_⟩) h2
   rw [Array.setIfInBounds_comm _ _ hji]
   exact h3.2.2
end
end Go.LM
namespace Go.LM
section
variable{P:Program}{Q:Exit→Act→World→Prop}
variable{w0:World}{F0 Z0:Reg}{n:Frm}{s s':St}{a a':Act}{w w':World}{ι ι':Nat→OI}{Z Z':Reg}
variable{E:Env}{o:Oper}{ρ : Type}{K:St→Option ρ}{r : ρ}{id:Nat}
structure Frm.le(p q:Frm):Prop where
 n:q.n=p.n
 gv:q.gv=p.gv
 gc:∀e,e∈p.gc→e∈q.gc
theorem Frm.le.refl(n:Frm):Frm.le n n:=⟨rfl,rfl,fun _ h=>h⟩
theorem Frm.le.trans{a b c:Frm}(h:Frm.le a b)(k:Frm.le b c):Frm.le a c:=⟨k.n.trans h.n,k.gv.trans h.gv,fun e he=>k.gc e (h.gc e he)⟩
theorem Inv.forget{n':Frm}(h:Inv w0 F0 Z0 n' s a w ι Z)(hl:Frm.le n n'):Inv w0 F0 Z0 n s a w ι Z :=
 ⟨h.ext,h.zsub,h.zold,h.zin,h.objs,h.own,h.apart,h.apartZ,h.tmps,by rw [h.size,hl.n],by rw [← hl.gv];exact h.ghost,fun e he=>h.seen e (hl.gc e he),h.defers⟩
theorem Inv.see(h:Inv w0 F0 Z0 n s a w ι Z){e:Seen}(he:SeenAt w Z s ι e):Inv w0 F0 Z0 ⟨n.n,n.gv,e :: n.gc⟩ s a w ι Z :=
 ⟨h.ext,h.zsub,h.zold,h.zin,h.objs,h.own,h.apart,h.apartZ,h.tmps,h.size,h.ghost,fun x hx=>by rcases List.mem_cons.1 hx with rfl | hx;exact he;exact h.seen x hx,h.defers⟩
theorem le_see(n:Frm)(e:Seen):Frm.le n ⟨n.n,n.gv,e :: n.gc⟩:=⟨rfl,rfl,fun _ h=>List.mem_cons_of_mem _ h⟩
def SeenBy(n:Frm)(dp:List (Nat×Nat))(S:World→Prop):Prop:=(∀w,S w)∨∃b i vs,(⟨dp,b,i,vs⟩:Seen)∈n.gc∧S=fun w=>CellsAt w b i vs
theorem SeenBy.le{n':Frm}{dp:List (Nat×Nat)}{S:World→Prop}(h:SeenBy n dp S)(hl:Frm.le n n'):SeenBy n' dp S :=
 h.imp (fun h=>h) fun⟨b,i,vs,h1,h2⟩=>⟨b,i,vs,hl.gc _ h1,h2⟩
def Reads(P:Program)(w0:World)(F0 Z0:Reg)(n:Frm)(dp:List (Nat×Nat))(o:Oper)(a:Act)(w:World)(s':St):Prop :=
 ∃v S n',(∀w',S w'→(execOp a.eval o).run P w'=.ok (.value v) w')∧S w∧Stands w0 F0 Z0 n' s' (a.put o.dst v) w∧Frm.le n n'∧SeenBy n' dp S
theorem Pure.reads{dp:List (Nat×Nat)}(h:Pure P o a w (Stands w0 F0 Z0 n s')):Reads P w0 F0 Z0 n dp o a w s':=by
 obtain ⟨v,h1,h2⟩:=h
 exact⟨v,fun _=>True,n,fun w' _=>h1 w',trivial,h2,.refl n,.inl fun _=>trivial⟩
theorem op_loadR{t:Nat}{x:Operand}(hT:TyOk P E)(h:Inv w0 F0 Z0 n s a w ι Z)(hd:∀k,o.dst=some k→k<n)(ho:o.op=.load t x)(hk:opK E id o s K=some r) :
  ∃s',K s'=some r∧Reads P w0 F0 Z0 n (depsOf s o) o a w s':=by
 unfold opK at hk
 rw [ho] at hk
 simp only at hk
 have hx:=opd_rep h x
 have hrun:∀ {T:Ty} {b i:Nat} {vs:List Value} {w':World},E.ty t=some T→a.eval x=.pointer (some (at_ b i))→CellsAt w' b i vs→vs.length=T.size →
   (execOp a.eval o).run P w'=.ok (.value (wrapV T vs)) w':=by
  intro T b i vs w' ht he hc hl
  unfold execOp;rw [ho]
  refine run_v ?_
  simp only [Instr.loadAt,Instr.sureAddr,he,run_bind,run_pure,run_loadVar (hT.ty t T ht) hc hl]
 cases ht:E.ty t with
 | none=>rw [ht] at hk;simp at hk
 | some T =>
  rw [ht] at hk
  cases hxv:opd s x with
  | ptr p =>
   have hdp:depsOf s o=[(p.id,verOf s p.id)]:=by unfold depsOf;rw [ho];simp only [hxv]
   rw [hxv] at hk hx
   simp only at hk
   cases hrd:(readP s T.size p).bind (wrapT T) with
   | none=>rw [hrd] at hk;simp at hk
   | some v =>
    rw [hrd] at hk
    obtain ⟨cs,h1,h2⟩:=obi hrd
    simp only [TVRep] at hx
    obtain ⟨_,A,he,hp⟩:=hx
    obtain ⟨b,i,vs,rfl,hc,hat,hl,hlive,hF⟩:=readP_in h h1 hp
    have hseen:SeenAt w Z s ι ⟨depsOf s o,b,i,vs⟩:=by
     rw [hdp]
     refine⟨fun d hd=>?_,fun _=>⟨hat,fun j hj=>.inr ⟨_,List.mem_singleton.2 rfl,hF j (by simp only at hj;omega)⟩⟩⟩
     rw [List.mem_singleton] at hd
     subst hd
     exact⟨fun hn=>by rw [hn] at hlive;exact hlive,.inr (Nat.le_refl _)⟩
    exact⟨_,hk,_,fun w'=>CellsAt w' b i vs,_,fun w' hw=>hrun ht he hw hl,hat,⟨ι,Z,(h.see hseen).dst (wrapT_rep h2 hc) hd⟩,le_see n ⟨depsOf s o,_,_,_⟩,.inr ⟨b,i,vs,List.mem_cons_self,rfl⟩⟩
  | rp dp cs off =>
   have hdp:depsOf s o=dp:=by unfold depsOf;rw [ho];simp only [hxv]
   rw [hxv] at hk hx
   simp only at hk
   cases hrd:(takeN off T.size cs).bind (wrapT T) with
   | none=>rw [hrd] at hk;simp at hk
   | some v =>
    rw [hrd] at hk
    simp only at hk
    cases hal:alive s dp
    ·rw [hal] at hk;simp at hk
    rw [hal] at hk
    obtain ⟨ds,h1,h2⟩:=obi hrd
    obtain ⟨h3,rfl⟩:=takeN_some h1
    simp only [TVRep] at hx
    obtain ⟨hok,b,i,vs,he,hx⟩:=hx
    obtain ⟨hc,hat,hz⟩:=hx hal
    have hlen:=hc.len
    have hpart:CellsAt w b (i+off) (part vs off T.size):=hat.part off T.size
    have hpl:(part vs off T.size).length=T.size:=by simp [part];omega
    have hseen:SeenAt w Z s ι ⟨depsOf s o,b,i+off,part vs off T.size⟩:=by
     rw [hdp]
     refine⟨hok,fun _=>⟨hpart,fun j hj=>?_⟩⟩
     simp only at hj
     rw [hpl] at hj
     have:=hz (off+j) (by omega)
     rwa [← Nat.add_assoc] at this
    exact⟨_,hk,_,fun w'=>CellsAt w' b (i+off) (part vs off T.size),_,fun w' hw=>hrun ht he hw hpl,hpart,⟨ι,Z,(h.see hseen).dst (wrapT_rep h2 ((hc.drop _).take _)) hd⟩,le_see n ⟨depsOf s o,_,_,_⟩,.inr ⟨b,i+off,part vs off T.size,List.mem_cons_self,rfl⟩⟩
  | _=>rw [hxv] at hk;simp at hk
theorem opK_reads(hO:Ok P E)(h:Inv w0 F0 Z0 n s a w ι Z)(hd:∀k,o.dst=some k→k<n)(hrd:rdOp E o=true)(hk:opK E id o s K=some r) :
  ∃s',K s'=some r∧Reads P w0 F0 Z0 n (depsOf s o) o a w s':=by
 have pw:(∃s',K s'=some r∧Pure P o a w (Stands w0 F0 Z0 n s'))→∃s',K s'=some r∧Reads P w0 F0 Z0 n (depsOf s o) o a w s':=fun⟨s',h1,h2⟩=>⟨s',h1,h2.reads⟩
 unfold rdOp at hrd
 cases ho:o.op with
 | move x=>exact pw (op_move h hd (.inl ho) hk)
 | assign x=>exact pw (op_move h hd (.inr ho) hk)
 | pick c x y=>exact pw (op_pick h hd ho hk)
 | load t x=>exact op_loadR hO.ty h hd ho hk
 | nilCheck x=>exact pw (op_nilCheck h hd ho hk)
 | binOp op t x y yt=>exact pw (op_binOp hO.ty hO.eq h hd ho hk)
 | unOp op t x=>exact pw (op_unOp h hd ho hk)
 | convert st dt x =>
  rw [ho] at hrd
  simp only at hrd
  cases h1:E.ty st with
  | none=>rw [h1] at hrd;simp at hrd
  | some S =>
   cases h2:E.ty dt with
   | none=>rw [h1,h2] at hrd;cases S <;> simp at hrd
   | some T =>
    rw [h1,h2] at hrd
    cases S <;> cases T <;> simp only at hrd <;> first | (cases hrd;done) | exact pw (op_convInt hO.ty h hd ho h1 h2 hk)
 | build t ps=>exact pw (op_build hO.ty h hd ho hk)
 | makeFunc f first caps =>
  cases f with
  | func f=>exact pw (op_makeFunc h hd ho hk)
  | _=>unfold opK at hk;rw [ho] at hk;simp at hk
 | slice t x lo hi mx=>exact pw (op_slice hO.ty h hd ho hk)
 | fieldAddr t x f=>exact pw (op_fieldAddr hO.ty h hd ho hk)
 | field t x f=>exact pw (op_field hO.ty h hd ho hk)
 | indexAddr t x i=>exact pw (op_indexAddr hO.ty h hd ho hk)
 | index t x i=>exact pw (op_index hO.ty h hd ho hk)
 | extract x i=>exact pw (op_extract h hd ho hk)
 | call c =>
  rw [ho] at hrd
  simp only at hrd
  cases hc:c.callee with
  | builtin b =>
   rw [hc] at hrd
   by_cases hb:b=.append
   ·subst hb;simp at hrd
   ·by_cases hb2:b=.clear
    ·subst hb2;simp at hrd
    ·exact pw (builtin_sound hO.ty h hd ho hc hb hb2 hk)
  | value f=>rw [hc] at hrd;simp at hrd
  | invoke x m=>rw [hc] at hrd;simp at hrd
 | _=>rw [ho] at hrd;simp at hrd
theorem opd_know{d:Nat}{c:TV}(hst:s.t d=c)(x:Operand):opd (s.set d c) x=opd s x:=by
 cases x with
 | tmp t =>
  show upd s.t d c t=s.t t
  by_cases hd:d=t
  ·subst hd;rw [upd_same,hst]
  ·rw [upd_ne hd]
 | _=>rfl
theorem depsOf_know{d:Nat}{c:TV}(hst:s.t d=c):depsOf (s.set d c) o=depsOf s o:=by
 unfold depsOf
 cases ho:o.op <;> simp only
 rename_i t x
 rw [opd_know hst]
 rfl
theorem oneK_reads{ops:Array Oper}(hO:Ok P E)(hn:E.n=n)(hrd:rdOp E o=true)(h:Inv w0 F0 Z0 n s a w ι Z)(hk:oneK E id ops.toList o s K=some r) :
  ∃s' v S n',K s'=some r∧YieldsIf P ops S o v a∧S w∧Stands w0 F0 Z0 n' s' (a.put o.dst v) w∧Frm.le n n'∧SeenBy n' (depsOf s o) S:=by
 unfold oneK at hk
 cases hdst:okDst E o
 ·rw [hdst] at hk;cases hk
 rw [hdst] at hk
 simp only [cond_true] at hk
 have hd:=okDst_lt hn hdst
 have hdo:∀ {s1:St},Region.wanted o (yielded ops a.tmps)=true→depsOf s1 o=depsOf s o→Inv w0 F0 Z0 n s1 a w ι Z→opK E id o s1 K=some r→∃s' v S n',K s'=some r∧YieldsIf P ops S o v a∧S w∧Stands w0 F0 Z0 n' s' (a.put o.dst v) w∧Frm.le n n'∧SeenBy n' (depsOf s o) S:=by
  intro s1 hw he h1 hk1
  obtain ⟨s',h2,v,S,n',h3,h4,h5,h6,h7⟩:=opK_reads hO h1 hd hrd hk1
  exact⟨s',v,S,n',h2,.inl ⟨hw,h3⟩,h4,h5,h6,he ▸ h7⟩
 have hno:∀ {s1:St},Region.wanted o (yielded ops a.tmps)=false→Inv w0 F0 Z0 n s1 a w ι Z→K (s1.dst o.dst .gone)=some r→∃s' v S n',K s'=some r∧YieldsIf P ops S o v a∧S w∧Stands w0 F0 Z0 n' s' (a.put o.dst v) w∧Frm.le n n'∧SeenBy n' (depsOf s o) S:=fun hw h1 hk1 =>
  ⟨_,undef,fun _=>True,n,hk1,.inr ⟨hw,rfl⟩,trivial,skip_sound h1 hd,.refl n,.inl fun _=>trivial⟩
 unfold guardOf at hk
 cases hg:o.guard with
 | none =>
  rw [hg] at hk
  simp only at hk
  exact hdo (by simp [Region.wanted,hg]) rfl h hk
 | some jw =>
  obtain ⟨j,wt⟩:=jw
  rw [hg] at hk
  simp only at hk
  cases hj:(ops.toList[j]?).bind (·.dst) with
  | none=>rw [hj] at hk;simp at hk
  | some d =>
   rw [hj] at hk
   simp only at hk
   cases hst:s.t d with
   | sc c =>
    cases c with
    | bool b =>
     rw [hst] at hk
     simp only at hk
     obtain ⟨h1,h2⟩:=h.know hst
     have hy:yielded ops a.tmps j=some b:=by
      unfold yielded
      rw [Array.getElem?_toList] at hj
      rw [hj]
      simp only [obs]
      have hlt:d<a.tmps.size:=by
       rcases Nat.lt_or_ge d a.tmps.size with h | h
       ·exact h
       ·rw [Array.getD_eq_getD_getElem?,Array.getElem?_eq_none h] at h2
        simp [undef] at h2
      rw [Array.getD_eq_getD_getElem?,Array.getElem?_eq_getElem hlt] at h2
      rw [Array.getElem?_eq_getElem hlt]
      simp only [Option.getD_some] at h2
      rw [h2]
     have hw:Region.wanted o (yielded ops a.tmps)=(b==wt):=by
      simp only [Region.wanted,hg,hy]
      cases b <;> cases wt <;> rfl
     cases b <;> cases wt <;> simp only [cond_true,cond_false] at hk
     ·exact hdo hw (depsOf_know hst) h1 hk
     ·exact hno hw h1 hk
     ·exact hno hw h1 hk
     ·exact hdo hw (depsOf_know hst) h1 hk
    | _=>rw [hst] at hk;simp at hk
   | gone =>
    rw [hst] at hk
    simp only at hk
    have h2:=h.tmps d
    rw [hst] at h2
    simp only [TVRep] at h2
    have hy:yielded ops a.tmps j=none:=by
     unfold yielded
     rw [Array.getElem?_toList] at hj
     rw [hj]
     simp only [obs]
     rw [Array.getD_eq_getD_getElem?] at h2
     cases hd2:a.tmps[d]? with
     | none=>rfl
     | some v=>rw [hd2] at h2;simp only [Option.getD_some] at h2;subst h2;rfl
    have hw:Region.wanted o (yielded ops a.tmps)=false:=by
     simp only [Region.wanted,hg,hy]
     cases wt <;> rfl
    exact hno hw h hk
   | _=>rw [hst] at hk;simp at hk
theorem both_some{a b:Option ρ}(h:both a b=some r):a=some r∧b=some r:=by
 unfold both at h
 split at h
 ·rename_i he;subst he;exact⟨h,h⟩
 ·cases h
theorem bothL_some:∀ {l:List (Option ρ)},bothL l=some r→∀x∈l,x=some r
 | [x],h,y,hy=>by rw [List.mem_singleton] at hy;rw [hy];exact h
 | x :: z :: l,h,y,hy=>by
  simp only [bothL] at h
  obtain ⟨h1,h2⟩:=both_some h
  rcases List.mem_cons.1 hy with rfl | hy
  ·exact h1
  ·exact bothL_some (l:=z :: l) h2 y hy
def PendRel(n:Frm)(p:List (Nat×List (Nat×Nat)))(q:Pend):Prop:=∀x∈q,∃dp,(x.1,dp)∈p∧SeenBy n dp x.2
theorem PendRel.le{n':Frm}{p:List (Nat×List (Nat×Nat))}{q:Pend}(h:PendRel n p q)(hl:Frm.le n n'):PendRel n' p q :=
 fun x hx=>let ⟨dp,h1,h2⟩:=h x hx;⟨dp,h1,h2.le hl⟩
theorem allAlive_mem:∀ {p:List (Nat×List (Nat×Nat))},allAlive s p=true→∀x∈p,alive s x.2=true
 | [],_,_,hx=>by simp at hx
 | y :: p,h,x,hx=>by
  unfold allAlive at h
  cases ha:alive s y.2
  ·rw [ha] at h;cases h
  ·rw [ha] at h
   rcases List.mem_cons.1 hx with rfl | hx
   ·exact ha
   ·exact allAlive_mem h x hx
theorem drawRun_sound{rid:Nat}{ops:Array Oper}(hO:Ok P E)(hs:Region.noSelect ops=true):∀(m:Nat) (listed:Array Bool) (p:List (Nat×List (Nat×Nat))) (q:Pend) (n':Frm) (s:St) (a:Act) (w:World),
  E.n=n'→Frm.le n n'→drawRun E rid ops m listed p s K=some r→Stands w0 F0 Z0 n' s a w→PendRel n' p q→q.ok w →
  wpAnyR P ops (fun e a w=>e=.normal∧Lands w0 F0 Z0 n K r a w) m listed q a w
 | 0,listed,p,q,n',s,a,w,hn,hle,hk,⟨ι,Z,h⟩,hp,hq=>by
  unfold drawRun at hk
  cases hr:Region.ready .any ops listed with
  | nil=>rw [hr] at hk;exact⟨hr,rfl,s,hk,ι,Z,h.forget hle⟩
  | cons=>rw [hr] at hk;cases hk
 | m+1,listed,p,q,n',s,a,w,hn,hle,hk,⟨ι,Z,h⟩,hp,hq=>by
  unfold drawRun at hk
  cases hr:Region.ready .any ops listed with
  | nil =>
   rw [hr] at hk
   exact⟨fun _=>⟨rfl,s,hk,ι,Z,h.forget hle⟩,fun j hj=>by rw [hr] at hj;simp at hj⟩
  | cons i0 rs0 =>
   rw [hr] at hk
   simp only at hk
   cases hf:(i0 :: rs0).find? fun i=>rdAt E ops i&&Region.free .any ops listed i with
   | some i =>
    rw [hf] at hk
    simp only at hk
    have h3:=List.find?_some hf
    simp only [Bool.and_eq_true] at h3
    cases ho:ops[i]? with
    | none=>rw [ho] at hk;cases hk
    | some o =>
     rw [ho] at hk
     simp only at hk
     have hrd:rdOp E o=true:=by have:=h3.1;unfold rdAt at this;rw [ho] at this;exact this
     obtain ⟨s',v,S,n2,h1,h2,g3,h4,h5,h6⟩:=oneK_reads hO hn hrd h hk
     refine wpAnyR_first ho (Region.noSelect_spec hs) (fun c a w hh=>by simp at hh) m listed q a w (Region.free_spec ho h3.2) (by rw [hr];exact List.mem_of_find?_eq_some hf) h2 g3 hq ?_
     refine drawRun_sound hO hs m _ _ _ n2 s' _ w (hn.trans h5.n.symm) (hle.trans h5) h1 h4 ?_ ?_
     ·intro x hx
      rcases List.mem_cons.1 hx with rfl | hx
      ·exact⟨_,List.mem_cons_self,h6⟩
      ·obtain ⟨dp,g1,g2⟩:=hp x hx
       exact⟨dp,List.mem_cons_of_mem _ g1,g2.le h5⟩
     ·intro x hx
      rcases List.mem_cons.1 hx with rfl | hx
      ·exact g3
      ·exact hq x hx
   | none =>
    rw [hf] at hk
    simp only at hk
    refine⟨fun h0=>(by rw [hr] at h0;cases h0),fun j hj=>?_⟩
    rw [hr] at hj
    have hj':=bothL_some hk _ (List.mem_map.2 ⟨j,hj,rfl⟩)
    cases ho:ops[j]? with
    | none=>rw [ho] at hj';cases hj'
    | some o =>
     rw [ho] at hj'
     simp only at hj'
     cases hrd:rdOp E o
     case true=>rw [hrd] at hj';cases hj'
     rw [hrd] at hj'
     simp only [cond_false] at hj'
     have hone:=oneK_sound (Q:=fun e a w=>e=.normal∧Lands w0 F0 Z0 n K r a w) hO hn h hj'
     have hnext:∀a' w',Lands w0 F0 Z0 n' (fun s'=>cond (allAlive s' (p.filter fun p => !waits ops j p.1)) (drawRun E rid ops m (listed.setIfInBounds j true) (p.filter fun p => !waits ops j p.1) s' K) none) r a' w' →
       (q.after ops j).ok w'∧wpAnyR P ops (fun e a w=>e=.normal∧Lands w0 F0 Z0 n K r a w) m (listed.setIfInBounds j true) (q.after ops j) a' w':=by
      rintro a' w' ⟨s',k1,ι',Z',k2⟩
      dsimp only at k1
      cases hal:allAlive s' (p.filter fun p => !waits ops j p.1)
      ·rw [hal] at k1;cases k1
      rw [hal] at k1
      simp only [cond_true] at k1
      have hrel:PendRel n' (p.filter fun p => !waits ops j p.1) (q.after ops j):=by
       intro x hx
       obtain ⟨hx1,hx2⟩:=List.mem_filter.1 hx
       obtain ⟨dp,g1,g2⟩:=hp x hx1
       exact⟨dp,List.mem_filter.2 ⟨g1,hx2⟩,g2⟩
      have hok:(q.after ops j).ok w':=by
       intro x hx
       obtain ⟨dp,g1,g2⟩:=hrel x hx
       rcases g2 with g2 | ⟨b,i,vs,g2,g3⟩
       ·exact g2 w'
       ·rw [g3]
        exact((k2.seen _ g2).2 (allAlive_mem hal _ g1)).1
      exact⟨hok,drawRun_sound hO hs m _ _ _ n' s' a' w' hn hle k1 ⟨ι',Z',k2⟩ hrel hok⟩
     unfold wpOp
     simp only [ho]
     split
     ·rename_i hw
      rw [if_pos hw] at hone
      exact .inl (Oper.wp_mono hnext hone)
     ·rename_i hw
      rw [if_neg hw] at hone
      exact hnext _ _ hone
theorem draw_sound{rid:Nat}{ops:Array Oper}(hO:Ok P E)(hn:E.n=n)(hk:drawK E rid ops s K=some r)(hs:Stands w0 F0 Z0 n s a w)(b:Frame)(k:List Item)(cs:List Frame) :
  ∃a' w',Lands w0 F0 Z0 n K r a' w'∧Steps P (lone (b.at a (.code (.region rid ops true) :: k)) cs w) (lone (b.at a' k) cs w'):=by
 unfold drawK at hk
 cases hsel:Region.noSelect ops
 ·rw [hsel] at hk;cases hk
 rw [hsel] at hk
 simp only [cond_true] at hk
 obtain ⟨ι,Z,h⟩:=hs
 have h1:=drawRun_sound (n:=n) hO hsel ops.size _ [] [] n s a { w with drawn:=w.drawn+1 } hn (.refl n) hk ⟨ι,Z,h.drew _⟩ (fun x hx=>by simp at hx) (fun x hx=>by simp at hx)
 obtain ⟨e,a',w',⟨rfl,hl⟩,harr⟩:=(wp_region_any (id:=rid) hO.mix (wpAny_of_R _ _ _ _ _ h1)) b k cs
 exact⟨a',w',hl,harr⟩
end
end Go.LM
namespace Go.LM
section
variable{P:Program}{w0:World}{F0 Z0:Reg}{n:Frm}{E:Env}{ρ : Type}{r : ρ}
def conts:Code→List Item→List (Nat×List Item)
 | .region rid ops dr,k=>[(rid,.code (.region rid ops dr) :: k)]
 | .seq a b,k=>conts a (.code b :: k)++conts b k
 | .cond _ x y,k=>conts x k++conts y k
 | .block id c,k=>conts c (.inBlock id :: k)
 | .loop c,k=>conts c (.inLoop c :: k)
 | _,_=>[]
def contsL:List Item→List (Nat×List Item)
 | []=>[]
 | .code c :: k=>conts c k++contsL k
 | .inLoop c :: k=>conts c (.inLoop c :: k)++contsL k
 | _ :: k=>contsL k
theorem exit_conts{id:Nat} : ∀ {k k':List Item},exitTo id k=some k'→∀p,p∈contsL k'→p∈contsL k
 | [],_,h,_,_=>by simp [exitTo] at h
 | x :: k,k',h,p,hp=>by
  have key:(∃i,x=.inBlock i∧k'=k)∨exitTo id k=some k':=by
   cases x with
   | inBlock i =>
    simp only [exitTo] at h
    by_cases hi:(i==id)=true
    ·rw [if_pos hi] at h;exact .inl ⟨i,rfl,(osj h).symm⟩
    ·rw [if_neg hi] at h;exact .inr h
   | _=>exact .inr h
  rcases key with⟨i,rfl,rfl⟩ | hk
  ·exact hp
  ·have:=exit_conts hk p hp
   cases x <;> simp only [contsL] <;> first | exact this | exact List.mem_append_right _ this
def Stops(H:Hand ρ)(cuts:Nat→Bool)(r : ρ)(todo:List Item)(s:St):Prop :=
 (∃rid ops dr k,todo=.code (.region rid ops dr) :: k∧cuts rid=true∧H.cut rid todo s=some r)∨((todo=[]∨∃k,todo=.code .ret :: k)∧H.fin s=some r)
theorem seg_sound{cuts:Nat→Bool}{H:Hand ρ}(hO:Ok P E)(hn:E.n=n):∀(fuel:Nat) (first:Bool) (todo:List Item) (s:St) (a:Act) (w:World),
  seg E cuts H fuel first todo s=some r→Stands w0 F0 Z0 n s a w→∀(b:Frame) (cs:List Frame),
  ∃todo' s' a' w',Stands w0 F0 Z0 n s' a' w'∧Stops H cuts r todo' s'∧(∀p,p∈contsL todo'→p∈contsL todo)∧Steps P (lone (b.at a todo) cs w) (lone (b.at a' todo') cs w')
 | 0,_,_,_,_,_,hk,_=>by simp [seg] at hk
 | fuel+1,first,todo,s,a,w,hk,hs=>by
  intro b cs
  have ih:=fun first todo s a w hk hs=>seg_sound (H:=H) (cuts:=cuts) hO hn fuel first todo s a w hk hs b cs
  have one:∀ {todo1:List Item} {first:Bool},(∀p,p∈contsL todo1→p∈contsL todo)→step P (lone (b.at a todo) cs w)=.next (lone (b.at a todo1) cs w)→seg E cuts H fuel first todo1 s=some r →
    ∃todo' s' a' w',Stands w0 F0 Z0 n s' a' w'∧Stops H cuts r todo' s'∧(∀p,p∈contsL todo'→p∈contsL todo)∧Steps P (lone (b.at a todo) cs w) (lone (b.at a' todo') cs w'):=by
   intro todo1 first hcs hst hk1
   obtain ⟨t',s',a',w',h1,h2,h3,h4⟩:=ih first todo1 s a w hk1 hs
   exact⟨t',s',a',w',h1,h2,fun p hp=>hcs p (h3 p hp),.head hst h4⟩
  unfold seg at hk
  match todo,hk with
  | [],hk=>exact⟨[],s,a,w,hs,.inr ⟨.inl rfl,hk⟩,fun _ h=>h,.refl _ _⟩
  | .inBlock _ :: k,hk=>exact one (todo1:=k) (fun _ h=>h) step_inBlock hk
  | .inLoop c :: k,hk=>exact one (fun p hp=>by simp only [contsL,List.mem_append] at hp ⊢;exact hp.elim .inl fun h=>h) step_inLoop hk
  | .code .ret :: k,hk=>exact⟨_,s,a,w,hs,.inr ⟨.inr ⟨k,rfl⟩,hk⟩,fun _ h=>h,.refl _ _⟩
  | .code .skip :: k,hk=>exact one (todo1:=k) (fun _ h=>h) step_skip hk
  | .code (.seq x y) :: k,hk=>exact one (fun p hp=>by simp only [contsL,conts,List.mem_append] at hp ⊢;exact or_assoc.2 hp) step_seq hk
  | .code (.block id c) :: k,hk=>exact one (fun p hp=>by simpa only [contsL,conts] using hp) step_block hk
  | .code (.loop c) :: k,hk=>exact one (fun p hp=>by simp only [contsL,conts,List.mem_append] at hp ⊢;exact hp.elim .inl fun h=>h) step_loop hk
  | .code (.exit id) :: k,hk =>
   simp only at hk
   cases he:exitTo id k with
   | none=>rw [he] at hk;simp at hk
   | some k'=>rw [he] at hk;exact one (exit_conts he) (step_exit he) hk
  | .code (.cond c x y) :: k,hk =>
   simp only at hk
   obtain ⟨ι,Z,h⟩:=hs
   have hc:=opd_rep h c
   cases hcv:opd s c with
   | sc cc =>
    cases cc with
    | bool t =>
     rw [hcv] at hk hc
     simp only [TVRep,CellRep] at hc
     have hst:=step_cond (P:=P) (b:=b) (a:=a) (k:=k) (cs:=cs) (w:=w) (x:=x) (y:=y) hc
     cases t with
     | true=>exact one (fun p hp=>by simp only [contsL,conts,List.mem_append] at hp ⊢;exact hp.elim (fun h=>.inl (.inl h)) .inr) hst hk
     | false=>exact one (fun p hp=>by simp only [contsL,conts,List.mem_append] at hp ⊢;exact hp.elim (fun h=>.inl (.inr h)) .inr) hst hk
    | _=>rw [hcv] at hk;simp at hk
   | _=>rw [hcv] at hk;simp at hk
  | .code (.region rid ops dr) :: k,hk =>
   simp only at hk
   cases hcut:(cuts rid && !first)
   ·rw [hcut] at hk
    simp only [cond_false] at hk
    have hreg:∃a' w',Lands w0 F0 Z0 n (fun s'=>seg E cuts H fuel false k s') r a' w'∧Steps P (lone (b.at a (.code (.region rid ops dr) :: k)) cs w) (lone (b.at a' k) cs w'):=by
     cases dr with
     | false=>exact region_sound hO hn hk hs b k cs
     | true=>exact draw_sound hO hn hk hs b k cs
    obtain ⟨a1,w1,⟨s1,h1,h2⟩,hst⟩:=hreg
    obtain ⟨t',s',a',w',q1,q2,q3,q4⟩:=ih false k s1 a1 w1 h1 h2
    exact⟨t',s',a',w',q1,q2,fun p hp=>by simp only [contsL,List.mem_append];exact .inr (q3 p hp),hst.trans q4⟩
   ·rw [hcut] at hk
    simp only [cond_true] at hk
    simp only [Bool.and_eq_true] at hcut
    exact⟨_,s,a,w,hs,.inl ⟨rid,ops,dr,k,rfl,hcut.1,hk⟩,fun _ h=>h,.refl _ _⟩
  | .code (.goto _) :: _,hk | .code (.label _) :: _,hk | .code (.scope _) :: _,hk | .inRegion _ _ :: _,hk | .inScope _ :: _,hk=>simp at hk
end
end Go.LM
namespace Go.LM
def enterK(key:Nat):(ps:List PSpec)→(PSpec.ins ps).D→Nat→St→Option (List TV×St×Nat)
 | [],_,j,s=>some ([],s,j)
 | .fn _ _ :: ps,x,j,s=>(enterK key ps x j s).bind fun q=>some (.und :: q.1,q.2)
 | .val t m :: ps,x,j,s=>(t.expl m [] x.1 s j).bind fun r=>(wrapT t r.1).bind fun v=>(enterK key ps x.2 r.2.2 r.2.1).bind fun q=>some (v :: q.1,q.2)
 | .frz t :: ps,x,j,s=>(t.expl .R [] x.1 s j).bind fun r=>(wrapT t r.1).bind fun v=>(enterK key ps x.2 r.2.2 r.2.1).bind fun q=>some (v :: q.1,q.2)
 | .vm t m :: ps,x,j,s=>(t.expl m [] x.1 s j).bind fun r=>(wrapT t r.1).bind fun v=>(enterK key ps x.2 r.2.2 r.2.1).bind fun q=>some (v :: q.1,q.2)
 | .ref t :: ps,x,j,s=>(enterK key ps x.2 j s).bind fun q=>some (.rp [] (t.cells [] none x.1) 0 :: q.1,q.2)
 | .mut t m _ :: ps,x,j,s=>(t.expl m [] x.1 s j).bind fun r=>(mkObj r.2.1 r.2.2 (.var 0 r.1)).bind fun s1=>(enterK key ps x.2 (r.2.2+1) s1).bind fun q=>some (.ptr ⟨r.2.2,none,0⟩ :: q.1,q.2)
section
variable{P:Program}{w0:World}{F0 Z0:Reg}{n:Frm}{s s':St}{a a':Act}{w w':World}{ι ι':Nat→OI}{Z Z':Reg}
theorem Inv.start{F:Reg}(hZ:∀b o,Z b o→b<w.heap.size){m:Nat}(ha:a.tmps.size=m)(hd:a.defers=[]):Inv w F Z ⟨m,[],[]⟩ ⟨fun _=>.und,fun _=>.none,[]⟩ a w ι Z :=
 ⟨Ext.refl _ _,fun _ _ h=>.inl h,fun _ _ h=>h,hZ,fun _=>trivial,fun _ h=>h.elim,fun _ _ h=>h.elim,fun _ h=>h.elim,fun _=>by simp only [TVRep],ha,by simp only [TVsRep],fun _ h=>by simp at h,hd⟩
def EnterRes(w0:World)(F0 Z0:Reg)(n:Frm)(s:St)(a:Act)(w:World)(ι : Nat→OI)(Z:Reg)(us:List Value)(F:Reg)(q:List TV×St×Nat):Prop :=
 ∃ ι',Inv w0 F0 Z0 n q.2.1 a w ι' Z∧Held false w Z s ι w Z q.2.1 ι' (fun _ _=>True)∧TVsRep w Z q.2.1 ι' q.1 us∧∀X,Free w0 F0 s w ι Z X→Reg.apart X F→Free w0 F0 q.2.1 w ι' Z X
theorem held_refl:Held false w Z s ι w Z s ι (fun _ _=>True) :=
 ⟨fun _ _ h=>h,fun _ _ h=>h,fun _ _ h=>h,fun _ _ _ h=>⟨h,rfl⟩,fun h=>by simp at h,Same.refl _ _,Same.refl _ _,fun _ _ h=>h,fun _ _ _ h=>h⟩
theorem none_depF:Z.or (depF ι [])=Z:=by
 funext b o
 apply propext
 constructor
 ·rintro (h | ⟨d,hd,_⟩)
  ·exact h
  ·simp at hd
 ·exact .inl
theorem enter_sound{key:Nat} : ∀(ps:List PSpec) (x:(PSpec.ins ps).D) (us:List Value) (j:Nat) (s:St) (ι : Nat→OI) (F:Reg) (q:List TV×St×Nat),enterK key ps x j s=some q→Inv w0 F0 Z0 n s a w ι Z →
  ArgRep w Z key ps x us F→Free w0 F0 s w ι Z F→EnterRes w0 F0 Z0 n s a w ι Z us F q
 | [],x,us,j,s,ι,F,q,he,h,hA,hF=>by
  simp only [enterK,Option.some.injEq] at he
  subst he
  exact⟨ι,h,held_refl,hA,fun X hX _=>hX⟩
 | .fn nf nc :: ps,x,us,j,s,ι,F,q,he,h,hA,hF=>by
  simp only [enterK] at he
  obtain ⟨p,hp,he⟩:=obi he
  obtain rfl:=osj he
  obtain ⟨fa,fb,us',rfl,hsz,h4⟩:=hA
  obtain ⟨ι1,i1,held,hr,fr⟩:=enter_sound ps x us' j s ι F p hp h h4 hF
  refine⟨ι1,i1,held,?_,fr⟩
  simp only [TVsRep]
  exact⟨_,us',rfl,by simp only [TVRep],hr⟩
 | .ref t :: ps,x,us,j,s,ι,F,q,he,h,hA,hF=>by
  simp only [enterK] at he
  obtain ⟨p,hp,he⟩:=obi he
  obtain rfl:=osj he
  obtain ⟨b,o,vs,us',rfl,h1,h2,h3,h4⟩:=hA
  obtain ⟨ι1,i1,held,hr,fr⟩:=enter_sound ps x.2 us' j s ι F p hp h h4 hF
  refine⟨ι1,i1,held,?_,fr⟩
  simp only [TVsRep]
  refine⟨_,us',rfl,held.tv _ _ ?_,hr⟩
  simp only [TVRep]
  have hl:=(Ty.Rep.len t _ h2).1
  have hc:CellsRep w Z s ι (t.cells [] none x.1) vs:=Ty.cells_rep t [] none (by simp) (fun _=>by rw [none_depF];exact h2) ⟨_,_,_,h2⟩ .none
  refine⟨by simp,b,o,vs,by simp,fun _=>⟨hc,h1,fun k hk=>.inl (h3 k (by rw [← hc.len,hl] at hk;exact hk))⟩⟩
 | .val t m :: ps,x,us,j,s,ι,F,q,he,h,hA,hF=>by
  simp only [enterK] at he
  obtain ⟨r,hr,he⟩:=obi he
  obtain ⟨v,hv,he⟩:=obi he
  obtain ⟨p,hp,he⟩:=obi he
  obtain rfl:=osj he
  obtain ⟨vs,us',G,H,rfl,h1,h2,h3,h4,h5⟩:=hA
  obtain ⟨ι1,i1,gr1,c1,fr1⟩:=Ty.expl_sound t m [] x.1 s ι j r vs G hr h (by rw [none_depF];exact h1) (hF.sub h4) (by rintro b o _ ⟨d,hd,_⟩;simp at hd) (by simp)
  obtain ⟨ι2,i2,held,hrs,fr⟩:=enter_sound ps x.2 us' _ _ ι1 H p hp i1 h2 (fr1 H (hF.sub h5) fun b o x y=>h3 b o y x)
  refine⟨ι2,i2,(gr1.held _).trans held,?_,fun X hX hXa=>fr X (fr1 X hX fun b o x y=>hXa b o x (h4 b o y)) fun b o x y=>hXa b o x (h5 b o y)⟩
  simp only [TVsRep]
  exact⟨_,us',rfl,held.tv _ _ (wrapT_rep hv c1),hrs⟩
 | .frz t :: ps,x,us,j,s,ι,F,q,he,h,hA,hF=>by
  simp only [enterK] at he
  obtain ⟨r,hr,he⟩:=obi he
  obtain ⟨v,hv,he⟩:=obi he
  obtain ⟨p,hp,he⟩:=obi he
  obtain rfl:=osj he
  obtain ⟨vs,us',G,H,rfl,h1,h2,h3,h4,h5⟩:=hA
  obtain ⟨ι1,i1,gr1,c1,fr1⟩:=Ty.expl_sound t .R [] x.1 s ι j r vs G hr h (by rw [none_depF];exact h1) (hF.sub h4) (by rintro b o _ ⟨d,hd,_⟩;simp at hd) (by simp)
  obtain ⟨ι2,i2,held,hrs,fr⟩:=enter_sound ps x.2 us' _ _ ι1 H p hp i1 h2 (fr1 H (hF.sub h5) fun b o x y=>h3 b o y x)
  refine⟨ι2,i2,(gr1.held _).trans held,?_,fun X hX hXa=>fr X (fr1 X hX fun b o x y=>hXa b o x (h4 b o y)) fun b o x y=>hXa b o x (h5 b o y)⟩
  simp only [TVsRep]
  exact⟨_,us',rfl,held.tv _ _ (wrapT_rep hv c1),hrs⟩
 | .vm t m :: ps,x,us,j,s,ι,F,q,he,h,hA,hF=>by
  simp only [enterK] at he
  obtain ⟨r,hr,he⟩:=obi he
  obtain ⟨v,hv,he⟩:=obi he
  obtain ⟨p,hp,he⟩:=obi he
  obtain rfl:=osj he
  obtain ⟨vs,us',G,H,rfl,h1,h2,h3,h4,h5⟩:=hA
  obtain ⟨ι1,i1,gr1,c1,fr1⟩:=Ty.expl_sound t m [] x.1 s ι j r vs G hr h (by rw [none_depF];exact h1) (hF.sub h4) (by rintro b o _ ⟨d,hd,_⟩;simp at hd) (by simp)
  obtain ⟨ι2,i2,held,hrs,fr⟩:=enter_sound ps x.2 us' _ _ ι1 H p hp i1 h2 (fr1 H (hF.sub h5) fun b o x y=>h3 b o y x)
  refine⟨ι2,i2,(gr1.held _).trans held,?_,fun X hX hXa=>fr X (fr1 X hX fun b o x y=>hXa b o x (h4 b o y)) fun b o x y=>hXa b o x (h5 b o y)⟩
  simp only [TVsRep]
  exact⟨_,us',rfl,held.tv _ _ (wrapT_rep hv c1),hrs⟩
 | .mut t m m' :: ps,x,us,j,s,ι,F,q,he,h,hA,hF=>by
  simp only [enterK] at he
  obtain ⟨r,hr,he⟩:=obi he
  obtain ⟨s1,hm,he⟩:=obi he
  obtain ⟨p,hp,he⟩:=obi he
  obtain rfl:=osj he
  obtain ⟨hid,rfl⟩:=mkObj_some hm
  obtain ⟨b,o,vs,us',G,H,rfl,h1,hwr,h2,h3,h4,h5,h6,h7⟩:=hA
  have hG:Reg.sub G F:=fun b o x=>h6 b o (.inl x)
  have hR:Reg.sub (Reg.run b o t.size) F:=fun b o x=>h6 b o (.inr x)
  obtain ⟨ι1,i1,gr1,c1,fr1⟩:=Ty.expl_sound t m [] x.1 s ι j r vs G hr h (by rw [none_depF];exact h2) (hF.sub hG) (by rintro b o _ ⟨d,hd,_⟩;simp at hd) (by simp)
  have hl:=(Ty.Rep.len t _ h2).1
  have hcl:=c1.len
  have hfr:=fr1 _ (hF.sub hR) (fun b o x y=>h5 b o y x)
  obtain ⟨i2,held2,fr2,lv2⟩:=readopt_back' i1 (id:=r.2.2) (o:=.var 0 r.1) (i:=⟨some (at_ b o),0,Reg.run b o t.size⟩) (by rw [hid];exact fun h=>h) (fun o'=>by simp) (by rw [hid];exact .made _ _ _) (fun hm=>by
   refine⟨at_ b o,vs,rfl,rfl,c1.move hm,h1,fun k hk=>⟨hwr k (by omega),rfl,by simp [at_],by simp [at_];omega⟩⟩) hfr
  have hheld:=(gr1.held (w:=w) (Z:=Z) (fun _ _=>True)).trans held2
  have hfr':∀X,Free w0 F0 s w ι Z X→Reg.apart X (G.or (Reg.run b o t.size))→Free w0 F0 (r.2.1.putO r.2.2 (.var 0 r.1)) w (upd ι1 r.2.2 ⟨some (at_ b o),0,Reg.run b o t.size⟩) Z X:=fun X hX hXa =>
   fr2 X (fr1 X hX fun b o x y=>hXa b o x (.inl y)) fun b o x y=>hXa b o x (.inr y)
  obtain ⟨ι3,i3,held3,hrs,fr3⟩:=enter_sound ps x.2 us' _ _ _ H p hp i2 h3 (hfr' H (hF.sub h7) fun b o x y=>h4 b o y x)
  refine⟨ι3,i3,hheld.trans held3,?_,fun X hX hXa=>fr3 X (hfr' X hX fun b o x y=>hXa b o x (h6 b o y)) fun b o x y=>hXa b o x (h7 b o y)⟩
  simp only [TVsRep]
  refine⟨_,us',rfl,held3.tv _ _ ?_,hrs⟩
  simp only [TVRep]
  refine⟨by show upd r.2.1.o r.2.2 _ r.2.2≠_;rw [upd_same];simp,_,rfl,rfl,?_⟩
  show match (upd r.2.1.o r.2.2 _ r.2.2).core with | .var _ _=>_ | .row .. => _ | _=>_
  rw [upd_same]
  exact⟨rfl,at_ b o,by rw [upd_same],by simp [at_]⟩
end
end Go.LM
namespace Go.LM
def outV(t:Ty)(m:Md)(v:TV)(s:St):Option (t.D×St) :=
 cond (fitV t v) (match cellsT t v with
  | some cs=>(t.imp false m cs s []).bind fun r=>match r.2.1 with
   | []=>some (r.1,r.2.2.1)
   | _=>none
  | none=>none) none
def outM:(ps:List PSpec)→List TV→St→Option (PSpec.muts ps).D
 | [],_,_=>some ()
 | .mut t _ m' :: ps,gs,s =>
  match gs with
  | .ptr p :: gs =>
   match s.o p.id,p.ei with
   | .var _ cs,none=>cond (Nat.beq p.off 0&&Nat.beq cs.length t.size)
    ((t.imp false m' cs (s.putO p.id .dead) []).bind fun r=>match r.2.1 with
     | []=>(outM ps gs r.2.2.1).bind fun q=>some (r.1,q)
     | _=>none) none
   | _,_=>none
  | _=>none
 | .vm t m :: ps,gs,s =>
  match gs with
  | v :: gs=>(outV t m v s).bind fun r=>(outM ps gs r.2).bind fun q=>some (r.1,q)
  | []=>none
 | .val _ _ :: ps,gs,s =>
  match gs with
  | _ :: gs=>outM ps gs s
  | []=>none
 | .frz _ :: ps,gs,s =>
  match gs with
  | _ :: gs=>outM ps gs s
  | []=>none
 | .ref _ :: ps,gs,s =>
  match gs with
  | _ :: gs=>outM ps gs s
  | []=>none
 | .fn _ _ :: ps,gs,s =>
  match gs with
  | _ :: gs=>outM ps gs s
  | []=>none
section
variable{P:Program}{w0:World}{F0 Z0:Reg}{n:Frm}{s s':St}{a a':Act}{w w':World}{ι ι':Nat→OI}{Z Z':Reg}
theorem outV_sound{t:Ty}{m:Md}{v:TV}{u:Value}{r:t.D×St}(ho:outV t m v s=some r)(h:Inv w0 F0 Z0 n s a w ι Z)(hv:TVRep w Z s ι v u) :
  ∃vs F Z',u=wrapV t vs∧Inv w0 F0 Z0 n r.2 a w ι Z'∧Shrinks s ι Z r.2 Z'∧Free w0 F0 r.2 w ι Z' F∧t.Rep w Z' m r.1 vs F∧∀b o,F b o→∃id,(s.o id).live∧(ι id).F b o:=by
 unfold outV at ho
 cases hf:fitV t v
 ·rw [hf] at ho;simp at ho
 rw [hf] at ho
 simp only [cond_true] at ho
 cases hcs:cellsT t v with
 | none=>rw [hcs] at ho;simp at ho
 | some cs =>
  rw [hcs] at ho
  simp only at ho
  obtain ⟨q,hq,ho⟩:=obi ho
  cases hrr:q.2.1 with
  | cons=>rw [hrr] at ho;simp at ho
  | nil =>
   rw [hrr] at ho
   obtain rfl:=osj ho
   obtain ⟨us1,vs1,F1,Z1,e1,i1,s1,c1,f1,r1,_,n1,_,g1⟩:=Ty.imp_sound t false m cs s [] q _ Z hq h (cellsT_rep hcs hv) (by simp)
   rw [hrr] at c1
   have hvs1:vs1=[]:=by cases vs1 with | nil=>rfl | cons=>exact c1.elim
   subst hvs1
   rw [List.append_nil] at e1
   have hw:=fit_wrap hf hv
   rw [e1] at hw
   rw [n1 rfl,none_depF] at r1
   exact⟨us1,F1,Z1,hw,i1,s1,f1,r1,g1⟩
theorem outM_sound:∀(ps:List PSpec) (gs:List TV) (us:List Value) (s:St) (Z:Reg) (x:(PSpec.muts ps).D),outM ps gs s=some x→Inv w0 F0 Z0 n s a w ι Z→TVsRep w Z s ι gs us →
  ∃s' F Z',Inv w0 F0 Z0 n s' a w ι Z'∧Shrinks s ι Z s' Z'∧Free w0 F0 s' w ι Z' F∧OutRep w Z' ps us x F∧∀b o,F b o→∃id,(s.o id).live∧(ι id).F b o
 | [],gs,us,s,Z,x,ho,h,hv=>⟨s,Reg.none,Z,h,.refl,.none,trivial,fun _ _ h=>h.elim⟩
 | .val t m :: ps,gs,us,s,Z,x,ho,h,hv=>by
  cases gs with
  | nil=>simp [outM] at ho
  | cons v gs =>
   simp only [TVsRep] at hv
   obtain ⟨u,us',rfl,h1,h2⟩:=hv
   obtain ⟨s',F,Z',i1,s1,f1,r1,g1⟩:=outM_sound ps gs us' s Z x (by simp only [outM] at ho;exact ho) h h2
   exact⟨s',F,Z',i1,s1,f1,⟨u,us',rfl,r1⟩,g1⟩
 | .frz t :: ps,gs,us,s,Z,x,ho,h,hv=>by
  cases gs with
  | nil=>simp [outM] at ho
  | cons v gs =>
   simp only [TVsRep] at hv
   obtain ⟨u,us',rfl,h1,h2⟩:=hv
   obtain ⟨s',F,Z',i1,s1,f1,r1,g1⟩:=outM_sound ps gs us' s Z x (by simp only [outM] at ho;exact ho) h h2
   exact⟨s',F,Z',i1,s1,f1,⟨u,us',rfl,r1⟩,g1⟩
 | .ref t :: ps,gs,us,s,Z,x,ho,h,hv=>by
  cases gs with
  | nil=>simp [outM] at ho
  | cons v gs =>
   simp only [TVsRep] at hv
   obtain ⟨u,us',rfl,h1,h2⟩:=hv
   obtain ⟨s',F,Z',i1,s1,f1,r1,g1⟩:=outM_sound ps gs us' s Z x (by simp only [outM] at ho;exact ho) h h2
   exact⟨s',F,Z',i1,s1,f1,⟨u,us',rfl,r1⟩,g1⟩
 | .fn _ _ :: ps,gs,us,s,Z,x,ho,h,hv=>by
  cases gs with
  | nil=>simp [outM] at ho
  | cons v gs =>
   simp only [TVsRep] at hv
   obtain ⟨u,us',rfl,h1,h2⟩:=hv
   obtain ⟨s',F,Z',i1,s1,f1,r1,g1⟩:=outM_sound ps gs us' s Z x (by simp only [outM] at ho;exact ho) h h2
   exact⟨s',F,Z',i1,s1,f1,⟨u,us',rfl,r1⟩,g1⟩
 | .vm t m :: ps,gs,us,s,Z,x,ho,h,hv=>by
  cases gs with
  | nil=>simp [outM] at ho
  | cons v gs =>
   simp only [TVsRep] at hv
   obtain ⟨u,us',rfl,h1,h2⟩:=hv
   simp only [outM] at ho
   obtain ⟨r,hr,ho⟩:=obi ho
   obtain ⟨q,hq,ho⟩:=obi ho
   obtain rfl:=osj ho
   obtain ⟨vs,F1,Z1,rfl,i1,s1,f1,r1,g1⟩:=outV_sound hr h h1
   obtain ⟨s',F2,Z2,i2,s2,f2,r2,g2⟩:=outM_sound ps gs us' r.2 Z1 q hq i1 (TVsRep.move s1.moves h2)
   refine⟨s',F1.or F2,Z2,i2,s1.trans s2,(f1.shrink s2).or f2,⟨vs,us',F1,F2,rfl,Ty.Rep.mono s2.zsub _ _ (fun _ _ h=>h) r1,r2,?_,fun _ _ h=>.inl h,fun _ _ h=>.inr h⟩,?_⟩
   ·intro b o x y
    obtain ⟨id,hl,hf⟩:=g2 b o y
    exact f1.apart id hl b o x hf
   ·rintro b o (y | y)
    ·exact g1 b o y
    ·obtain ⟨id,hl,hf⟩:=g2 b o y;exact⟨id,(s1.live hl).1,hf⟩
 | .mut t m m' :: ps,gs,us,s,Z,x,ho,h,hv=>by
  cases gs with
  | nil=>simp [outM] at ho
  | cons v gs =>
   simp only [TVsRep] at hv
   obtain ⟨u,us',rfl,h1,h2⟩:=hv
   cases v <;> simp only [outM] at ho <;> try (simp at ho;done)
   rename_i p
   simp only [TVRep] at h1
   obtain ⟨hk,A,rfl,_,hp⟩:=h1
   cases hob:s.o p.id with
   | var ver cs =>
    rw [hob] at ho hp
    obtain ⟨he,a0,hbase,hA⟩:=hp
    rw [he] at ho
    simp only at ho
    cases hc:(Nat.beq p.off 0&&Nat.beq cs.length t.size)
    ·rw [hc] at ho;cases ho
    rw [hc] at ho
    simp only [Bool.and_eq_true] at hc
    have hoff:=Nat.eq_of_beq_eq_true hc.1
    have hlen:=Nat.eq_of_beq_eq_true hc.2
    simp only [cond_true] at ho
    obtain ⟨r,hr,ho⟩:=obi ho
    cases hrr:r.2.1 with
    | cons=>rw [hrr] at ho;cases ho
    | nil =>
     rw [hrr] at ho
     simp only at ho
     obtain ⟨q,hq,ho⟩:=obi ho
     obtain rfl:=osj ho
     have hlive:(s.o p.id).live:=by rw [hob];trivial
     have hobj:=h.objs p.id
     rw [hob] at hobj
     obtain ⟨⟨b,o,sp⟩,ws,hb',hsp,hc,hat,hF⟩:=hobj
     simp only at hsp
     subst hsp
     rw [hbase] at hb'
     obtain rfl:=osj hb'
     have hsh:Shrinks s ι Z (s.putO p.id .dead) Z:=shrinks_take p.id hlive
     have hi0:=h.take p.id (fun _ _ h=>h) (fun _ _ h=>.inl h)
     have hfree:=h.freed hlive
     obtain ⟨us1,vs1,F1,Z1,e1,i1,s1,c1,f1,r1,_,n1,_,g1⟩:=Ty.imp_sound t false m' cs _ [] r _ Z hr hi0 (hc.move hsh.moves) (by simp)
     rw [hrr] at c1
     have hvs1:vs1=[]:=by cases vs1 with | nil=>rfl | cons=>exact c1.elim
     subst hvs1
     rw [List.append_nil] at e1
     subst e1
     rw [n1 rfl,none_depF] at r1
     obtain ⟨s',F2,Z2,i2,s2,f2,r2,g2⟩:=outM_sound ps gs us' r.2.2.1 Z1 q hq i1 (TVsRep.move s1.moves (TVsRep.move hsh.moves h2))
     have hrun:Reg.sub (Reg.run b o t.size) (ι p.id).F:=by
      rintro b' o' ⟨rfl,h1,h2⟩
      have:=(hF (o'-o) (by omega)).2
      simp only at this
      rwa [show o +(o'-o)=o' by omega] at this
     have hfr:=(hfree.sub hrun).shrink s1
     have hapF:Reg.apart F1 (Reg.run b o t.size):=by
      intro b o x y
      obtain ⟨id,hl,hf⟩:=g1 b o x
      exact hfree.apart id hl b o (hrun b o y) hf
     have hU:Free w0 F0 r.2.2.1 w ι Z1 (F1.or (Reg.run b o t.size)):=f1.or hfr
     refine⟨s',(F1.or (Reg.run b o t.size)).or F2,Z2,i2,(hsh.trans s1).trans s2,(hU.shrink s2).or f2,⟨b,o,ws,us',F1,F2,?_,hat,Ty.Rep.mono s2.zsub _ _ (fun _ _ h=>h) r1,r2,?_,hapF,fun _ _ h=>.inl h,fun _ _ h=>.inr h⟩,?_⟩
     ·rw [hA,hoff];rfl
     ·intro b o x y
      obtain ⟨id,hl,hf⟩:=g2 b o y
      exact hU.apart id hl b o x hf
     ·rintro b o ((y | y) | y)
      ·obtain ⟨id,hl,hf⟩:=g1 b o y;exact⟨id,(hsh.live hl).1,hf⟩
      ·exact⟨p.id,hlive,hrun b o y⟩
      ·obtain ⟨id,hl,hf⟩:=g2 b o y;exact⟨id,(hsh.live (s1.live hl).1).1,hf⟩
   | _=>rw [hob] at ho;simp at ho
end
end Go.LM
namespace Go.LM
section
variable{P:Program}{w0:World}{F0 Z0:Reg}{n:Frm}{s s':St}{a a':Act}{w w':World}{ι ι':Nat→OI}{Z Z':Reg}
def outN(t:Ty)(m:Md)(v:TV)(s:St):Option (t.D×St) :=
 match v with
 | .ptr p =>
  match s.o p.id,p.ei with
  | .var _ cs,none=>cond (Nat.beq p.off 0&&Nat.beq cs.length t.size)
   ((t.imp false m cs (s.putO p.id .dead) []).bind fun r=>match r.2.1 with
    | []=>some (r.1,r.2.2.1)
    | _=>none) none
  | _,_=>none
 | _=>none
theorem outN_sound{t:Ty}{m:Md}{v:TV}{u:Value}{s:St}{Z:Reg}{x:t.D×St}(ho:outN t m v s=some x)(h:Inv w0 F0 Z0 n s a w ι Z)(h1:TVRep w Z s ι v u) :
  ∃b o vs F Z',u=.pointer (some (at_ b o))∧Inv w0 F0 Z0 n x.2 a w ι Z'∧Shrinks s ι Z x.2 Z'∧Free w0 F0 x.2 w ι Z' (F.or (Reg.run b o t.size))∧CellsAt w b o vs∧(∀j,j<t.size→Writable w b (o+j))∧t.Rep w Z' m x.1 vs F ∧
   Reg.apart F (Reg.run b o t.size)∧∀b' o',(F.or (Reg.run b o t.size)) b' o'→∃id,(s.o id).live∧(ι id).F b' o':=by
 cases v <;> simp only [outN] at ho <;> try (simp at ho;done)
 rename_i p
 simp only [TVRep] at h1
 obtain ⟨hk,A,rfl,_,hp⟩:=h1
 cases hob:s.o p.id with
 | var ver cs =>
  rw [hob] at ho hp
  obtain ⟨he,a0,hbase,hA⟩:=hp
  rw [he] at ho
  simp only at ho
  cases hc:(Nat.beq p.off 0&&Nat.beq cs.length t.size)
  ·rw [hc] at ho;cases ho
  rw [hc] at ho
  simp only [Bool.and_eq_true] at hc
  have hoff:=Nat.eq_of_beq_eq_true hc.1
  have hlen:=Nat.eq_of_beq_eq_true hc.2
  simp only [cond_true] at ho
  obtain ⟨r,hr,ho⟩:=obi ho
  cases hrr:r.2.1 with
  | cons=>rw [hrr] at ho;cases ho
  | nil =>
   rw [hrr] at ho
   obtain rfl:=osj ho
   have hlive:(s.o p.id).live:=by rw [hob];trivial
   have hobj:=h.objs p.id
   rw [hob] at hobj
   obtain ⟨a1,ws,hb',hsp,hcs,hat,hF⟩:=hobj
   rw [hbase] at hb'
   obtain rfl:=osj hb'
   obtain ⟨b,o,sp⟩:=a0
   simp only at hsp
   subst hsp
   have hsh:Shrinks s ι Z (s.putO p.id .dead) Z:=shrinks_take p.id hlive
   have hi0:=h.take p.id (fun _ _ h=>h) (fun _ _ h=>.inl h)
   have hfree:=h.freed hlive
   obtain ⟨us1,vs1,F1,Z1,e1,i1,s1,c1,f1,r1,_,n1,_,g1⟩:=Ty.imp_sound t false m cs _ [] r _ Z hr hi0 (hcs.move hsh.moves) (by simp)
   rw [hrr] at c1
   have hvs1:vs1=[]:=by cases vs1 with | nil=>rfl | cons=>exact c1.elim
   subst hvs1
   rw [List.append_nil] at e1
   subst e1
   rw [n1 rfl,none_depF] at r1
   have hrun:Reg.sub (Reg.run b o t.size) (ι p.id).F:=by
    rintro b' o' ⟨rfl,h1,h2⟩
    have:=(hF (o'-o) (by omega)).2
    simp only at this
    rwa [show o +(o'-o)=o' by omega] at this
   have hfr:=(hfree.sub hrun).shrink s1
   have hapF:Reg.apart F1 (Reg.run b o t.size):=by
    intro b o x y
    obtain ⟨id,hl,hf⟩:=g1 b o x
    exact hfree.apart id hl b o (hrun b o y) hf
   refine⟨b,o,_,F1,Z1,?_,i1,hsh.trans s1,f1.or hfr,hat,fun j hj=>(hF j (by omega)).1,r1,hapF,?_⟩
   ·rw [hA,hoff];rfl
   ·rintro b o (y | y)
    ·obtain ⟨id,hl,hf⟩:=g1 b o y;exact⟨id,(hsh.live hl).1,hf⟩
    ·exact⟨p.id,hlive,hrun b o y⟩
 | _=>rw [hob] at ho;simp at ho
def outO(gs:List TV)(a off:Nat)(t:Ty)(v:TV)(s:St):Option Int :=
 match v with
 | .nilp=>some (-1)
 | .opt id x =>
  match optOf s gs a off with
  | some k=>cond (Nat.beq k id&&rowTy s t id) (some x) none
  | none=>none
 | .ptr p =>
  match optOf s gs a off,p.ei with
  | some k,some i=>cond (Nat.beq k p.id&&rowTy s t p.id&&Nat.beq p.off 0) (some (i:Int)) none
  | _,_=>none
 | _=>none
theorem opt_out{gs:List TV}{us:List Value}{ar off id:Nat}{t:Ty}{i:Nat}{ad:Addr}(hop:optOf s gs ar off=some id)(hrt:rowTy s t id=true)(h:Inv w0 F0 Z0 n s a w ι Z)(hv:TVsRep w Z s ι gs us)
  (hp:PlaceAt s ι ⟨id,some i,0⟩ ad):OptRep w us ar off t.size (i:Int) (.pointer (some ad)):=by
 unfold optOf at hop
 cases hva:gs[ar]? with
 | none=>rw [hva] at hop;simp at hop
 | some va =>
  rw [hva] at hop
  cases va with
  | ptr pl =>
   simp only at hop
   cases hrd:readP s 1 { pl with off:=pl.off+off } with
   | none=>rw [hrd] at hop;simp at hop
   | some cs =>
    rw [hrd] at hop
    have hcs:cs=[.hd id none]:=by
     split at hop
     ·rename_i h;obtain rfl:=osj hop;exact osj h
     ·simp at hop
    subst hcs
    obtain ⟨u,hu1,hu2⟩:=hv.get ar hva
    simp only [TVRep] at hu2
    obtain ⟨hkn,A,rfl,hpa⟩:=hu2
    obtain ⟨b,o,sp⟩:=A
    have hsp:=hpa.1
    simp only at hsp
    subst hsp
    obtain ⟨b2,o2,ws,hA,hc1,hc2,hc3⟩:=readP_sound h hrd (PlaceAt.plus (b:=b) (o:=o) off hpa)
    simp only [at_,Addr.mk.injEq,and_true] at hA
    obtain ⟨rfl,rfl⟩:=hA
    match ws,hc1 with
    | [v0],hc1 =>
     obtain ⟨hk0,A,m,k,rfl,hh⟩:=hc1.1
     unfold rowTy at hrt
     cases hob:s.o id with
     | row u em ver xs =>
      rw [hob] at hrt
      have:=Ty.eq_of_beq _ _ hrt
      subst this
      obtain ⟨q1,q2,q3,q4,q5⟩:=hh u em ver xs (core_row hob)
      have q1:m=xs.length:=q1
      obtain ⟨hs,hp⟩:=hp
      have hp:match (s.o id).core with | .var _ cs=>_ | .row t _ _ xs=>_ | _=>_:=hp
      rw [core_row hob] at hp
      obtain ⟨i',hi,hlt,a0,hb0,had⟩:=hp
      obtain rfl:=osj hi
      rcases q5 with q5 | ⟨a1,ha0,ha1⟩
      ·omega
      ·rw [hb0] at ha0
       obtain rfl:=osj ha0
       right
       refine⟨by omega,b,o,a0.block,a0.off,m,k,hu1,?_,by simp;omega,?_⟩
       ·rw [hc2.head,ha1];simp [subLo,at_]
       ·rw [had];simp [at_]
     | _=>rw [hob] at hrt;cases hrt
  | _=>simp at hop
theorem outO_sound{gs:List TV}{us:List Value}{ar off:Nat}{t:Ty}{v:TV}{u:Value}{x:Int}(ho:outO gs ar off t v s=some x)(h:Inv w0 F0 Z0 n s a w ι Z)(hg:TVsRep w Z s ι gs us)(hv:TVRep w Z s ι v u):OptRep w us ar off t.size x u:=by
 cases v with
 | nilp =>
  obtain rfl:=osj ho
  simp only [TVRep] at hv
  exact .inl ⟨by omega,hv⟩
 | opt id y =>
  simp only [outO] at ho
  cases hop:optOf s gs ar off with
  | none=>rw [hop] at ho;cases ho
  | some k =>
   rw [hop] at ho
   cases hc:(Nat.beq k id&&rowTy s t id)
   ·simp only [hc] at ho;cases ho
   simp only [hc,cond_true] at ho
   obtain rfl:=osj ho
   simp only [Bool.and_eq_true] at hc
   obtain rfl:=Nat.eq_of_beq_eq_true hc.1
   simp only [TVRep] at hv
   obtain ⟨_,⟨h1,h2⟩ | ⟨h1,ad,rfl,h2⟩⟩:=hv
   ·exact .inl ⟨h1,h2⟩
   ·have:=opt_out hop hc.2 h hg h2
    rwa [Int.toNat_of_nonneg h1] at this
 | ptr p =>
  simp only [outO] at ho
  cases hop:optOf s gs ar off with
  | none=>rw [hop] at ho;cases ho
  | some k =>
   rw [hop] at ho
   cases hei:p.ei with
   | none=>rw [hei] at ho;cases ho
   | some i =>
    rw [hei] at ho
    simp only at ho
    cases hc:(Nat.beq k p.id&&rowTy s t p.id&&Nat.beq p.off 0)
    ·rw [hc] at ho;cases ho
    rw [hc] at ho
    obtain rfl:=osj ho
    simp only [Bool.and_eq_true] at hc
    have hk:=Nat.eq_of_beq_eq_true hc.1.1
    have h0:=Nat.eq_of_beq_eq_true hc.2
    obtain ⟨pid,pei,poff⟩:=p
    simp only at hk h0 hei hc
    subst hk h0 hei
    simp only [TVRep] at hv
    obtain ⟨_,ad,rfl,h2⟩:=hv
    exact opt_out hop hc.1.2 h hg h2
 | _=>cases ho
def anyOk(t:Ty)(v:TV):Bool :=
 fitV t v&&(match cellsT t v with
  | some cs=>Nat.beq cs.length t.size
  | none=>false)
theorem anyOk_sound{t:Ty}{v:TV}{u:Value}{s:St}{Z:Reg}(ho:anyOk t v=true)(h1:TVRep w Z s ι v u):u.cells.toList.length=t.size∧∀x∈u.cells.toList,oneC x=true:=by
 unfold anyOk at ho
 simp only [Bool.and_eq_true] at ho
 obtain ⟨hf,hc⟩:=ho
 cases hcs:cellsT t v with
 | none=>rw [hcs] at hc;cases hc
 | some cs =>
  rw [hcs] at hc
  have hl:=Nat.eq_of_beq_eq_true hc
  have hr:=cellsT_rep hcs h1
  exact⟨by rw [hr.len];exact hl,hr.oneC⟩
def outP(t:Ty)(v:TV)(s:St):Option (List t.D×St) :=
 match v with
 | .nilp=>some ([],s)
 | .rp dp cs off =>
  match takeN off t.size cs with
  | none=>none
  | some cs=>cond dp.isEmpty ((t.imp false .R cs s []).bind fun r=>match r.2.1 with
   | []=>some ([r.1],r.2.2.1)
   | _=>none) none
 | .may b dp cs=>cond b (cond (dp.isEmpty&&Nat.beq cs.length t.size) ((t.imp false .R cs s []).bind fun r=>match r.2.1 with
   | []=>some ([r.1],r.2.2.1)
   | _=>none) none) (some ([],s))
 | _=>none
theorem outP_sound{t:Ty}{v:TV}{u:Value}{s:St}{Z:Reg}{x:List t.D×St}(ho:outP t v s=some x)(h:Inv w0 F0 Z0 n s a w ι Z)(h1:TVRep w Z s ι v u) :
  ∃Z',Inv w0 F0 Z0 n x.2 a w ι Z'∧Shrinks s ι Z x.2 Z'∧((x.1=[]∧u=.pointer none)∨∃y b o vs,x.1=[y]∧u=.pointer (some (at_ b o))∧CellsAt w b o vs∧t.Rep w Z' .R y vs Reg.none∧∀j,j<t.size→Z' b (o+j)):=by
 have go:∀(cs:List HC) (b o:Nat) (vs:List Value) (x:List t.D×St),((t.imp false .R cs s []).bind fun r=>match r.2.1 with | []=>some ([r.1],r.2.2.1) | _=>none)=some x→CellsRep w Z s ι cs vs→CellsAt w b o vs→vs.length=t.size→(∀j,j<t.size→Z b (o+j))→u=.pointer (some (at_ b o)) →
   ∃Z',Inv w0 F0 Z0 n x.2 a w ι Z'∧Shrinks s ι Z x.2 Z'∧((x.1=[]∧u=.pointer none)∨∃y b o vs,x.1=[y]∧u=.pointer (some (at_ b o))∧CellsAt w b o vs∧t.Rep w Z' .R y vs Reg.none∧∀j,j<t.size→Z' b (o+j)):=by
  intro cs b o vs x ho hcr hat hl hz hu
  obtain ⟨r,hr,ho⟩:=obi ho
  cases hrr:r.2.1 with
  | cons=>rw [hrr] at ho;cases ho
  | nil =>
   rw [hrr] at ho
   obtain rfl:=osj ho
   obtain ⟨us1,vs1,F1,Z1,e1,i1,s1,c1,f1,r1,_,n1,_,g1⟩:=Ty.imp_sound t false .R cs s [] r _ Z hr h hcr (by simp)
   rw [hrr] at c1
   have hvs1:vs1=[]:=by cases vs1 with | nil=>rfl | cons=>exact c1.elim
   subst hvs1
   rw [List.append_nil] at e1
   subst e1
   rw [n1 rfl,none_depF] at r1
   exact⟨Z1,i1,s1,.inr ⟨r.1,b,o,_,rfl,hu,hat,rep_R_none r1,fun j hj=>s1.zsub _ _ (hz j hj)⟩⟩
 cases v <;> simp only [outP] at ho <;> try (simp at ho;done)
 ·rename_i dp cs off
  simp only [TVRep] at h1
  obtain ⟨h2,b,o,vs,rfl,h3⟩:=h1
  cases ht:takeN off t.size cs with
  | none=>rw [ht] at ho;cases ho
  | some ds =>
   rw [ht] at ho
   cases dp with
   | cons=>cases ho
   | nil =>
    obtain ⟨k1,k2,k3⟩:=h3 rfl
    obtain ⟨hle,rfl⟩:=takeN_some ht
    have hlen:=k1.len
    refine go _ b (o+off) ((vs.drop off).take t.size) x ho ((k1.drop off).take _) (k2.part off t.size) (by simp;omega) (fun j hj=>?_) rfl
    have:=k3 (off+j) (by omega)
    rw [none_depF] at this
    rwa [← Nat.add_assoc] at this
 ·simp only [TVRep] at h1
  obtain rfl:=osj ho
  exact⟨Z,h,.refl,.inl ⟨rfl,h1⟩⟩
 ·rename_i b dp cs
  simp only [TVRep] at h1
  rcases h1 with⟨rfl,h1⟩ | ⟨rfl,h2,b,o,vs,rfl,h3⟩
  ·obtain rfl:=osj ho
   exact⟨Z,h,.refl,.inl ⟨rfl,h1⟩⟩
  ·simp only [cond_true] at ho
   cases dp with
   | cons=>cases ho
   | nil =>
    cases hc:Nat.beq cs.length t.size
    ·rw [show(List.isEmpty ([]:List (Nat×Nat))&&Nat.beq cs.length t.size)=false by rw [hc];rfl] at ho;cases ho
    rw [show(List.isEmpty ([]:List (Nat×Nat))&&Nat.beq cs.length t.size)=true by rw [hc];rfl] at ho
    have hc:=Nat.eq_of_beq_eq_true hc
    obtain ⟨k1,k2,k3⟩:=h3 rfl
    have hlen:=k1.len
    refine go _ b (o+0) vs x ho k1 k2 (by omega) (fun j hj=>?_) rfl
    have:=k3 j (by omega)
    rw [none_depF] at this
    exact this
def outR(ps:List PSpec)(gs:List TV):(rs:List RSpec)→List TV→St→Option (RSpec.outs rs (PSpec.muts ps)).D
 | [],vs,s =>
  match vs with
  | []=>outM ps gs s
  | _=>none
 | .val t m :: rs,vs,s =>
  match vs with
  | v :: vs=>(outV t m v s).bind fun r=>(outR ps gs rs vs r.2).bind fun q=>some (r.1,q)
  | []=>none
 | .opt a off t :: rs,vs,s =>
  match vs with
  | v :: vs=>(outO gs a off t v s).bind fun x=>(outR ps gs rs vs s).bind fun q=>some (x,q)
  | []=>none
 | .any t :: rs,vs,s =>
  match vs with
  | v :: vs=>cond (anyOk t v) (outR ps gs rs vs s) none
  | []=>none
 | .optr t :: rs,vs,s =>
  match vs with
  | v :: vs=>(outP t v s).bind fun r=>(outR ps gs rs vs r.2).bind fun q=>some (r.1,q)
  | []=>none
 | .new t m :: rs,vs,s =>
  match vs with
  | v :: vs=>(outN t m v s).bind fun r=>(outR ps gs rs vs r.2).bind fun q=>some (r.1,q)
  | []=>none
theorem outR_nil{ps:List PSpec}{gs:List TV}{s:St} : outR ps gs [] [] s=outM ps gs s:=rfl
theorem outR_nil'{ps:List PSpec}{gs:List TV}{s:St}{v:TV}{vs:List TV} : outR ps gs [] (v :: vs) s=none:=rfl
theorem outR_opt{ps:List PSpec}{gs:List TV}{a o:Nat}{t:Ty}{rs:List RSpec}{s:St}{v:TV}{vs:List TV} : outR ps gs (.opt a o t :: rs) (v :: vs) s=(outO gs a o t v s).bind fun x=>(outR ps gs rs vs s).bind fun q=>some (x,q):=rfl
theorem outR_opt'{ps:List PSpec}{gs:List TV}{a o:Nat}{t:Ty}{rs:List RSpec}{s:St} : outR ps gs (.opt a o t :: rs) [] s=none:=rfl
theorem outR_val{ps:List PSpec}{gs:List TV}{t:Ty}{m:Md}{rs:List RSpec}{s:St}{v:TV}{vs:List TV} : outR ps gs (.val t m :: rs) (v :: vs) s=(outV t m v s).bind fun r=>(outR ps gs rs vs r.2).bind fun q=>some (r.1,q):=rfl
theorem outR_val'{ps:List PSpec}{gs:List TV}{t:Ty}{m:Md}{rs:List RSpec}{s:St} : outR ps gs (.val t m :: rs) [] s=none:=rfl
theorem outR_any{ps:List PSpec}{gs:List TV}{t:Ty}{rs:List RSpec}{s:St}{v:TV}{vs:List TV} : outR ps gs (.any t :: rs) (v :: vs) s=cond (anyOk t v) (outR ps gs rs vs s) none:=rfl
theorem outR_any'{ps:List PSpec}{gs:List TV}{t:Ty}{rs:List RSpec}{s:St} : outR ps gs (.any t :: rs) [] s=none:=rfl
theorem outR_optr{ps:List PSpec}{gs:List TV}{t:Ty}{rs:List RSpec}{s:St}{v:TV}{vs:List TV} : outR ps gs (.optr t :: rs) (v :: vs) s=(outP t v s).bind fun r=>(outR ps gs rs vs r.2).bind fun q=>some (r.1,q):=rfl
theorem outR_optr'{ps:List PSpec}{gs:List TV}{t:Ty}{rs:List RSpec}{s:St} : outR ps gs (.optr t :: rs) [] s=none:=rfl
theorem outR_new{ps:List PSpec}{gs:List TV}{t:Ty}{m:Md}{rs:List RSpec}{s:St}{v:TV}{vs:List TV} : outR ps gs (.new t m :: rs) (v :: vs) s=(outN t m v s).bind fun r=>(outR ps gs rs vs r.2).bind fun q=>some (r.1,q):=rfl
theorem outR_new'{ps:List PSpec}{gs:List TV}{t:Ty}{m:Md}{rs:List RSpec}{s:St} : outR ps gs (.new t m :: rs) [] s=none:=rfl
theorem outR_sound{ps:List PSpec}{gs:List TV}{us:List Value} : ∀(rs:List RSpec) (vs:List TV) (rvs:List Value) (s:St) (Z:Reg) (x:(RSpec.outs rs (PSpec.muts ps)).D),outR ps gs rs vs s=some x→Inv w0 F0 Z0 n s a w ι Z →
  TVsRep w Z s ι gs us→TVsRep w Z s ι vs rvs→∃s' F Z',Inv w0 F0 Z0 n s' a w ι Z'∧Shrinks s ι Z s' Z'∧Free w0 F0 s' w ι Z' F∧ResRep w Z' ps us rs x rvs F∧∀b o,F b o→∃id,(s.o id).live∧(ι id).F b o
 | [],vs,rvs,s,Z,x,ho,h,hg,hv=>by
  cases vs with
  | cons=>rw [outR_nil'] at ho;cases ho
  | nil =>
   rw [outR_nil] at ho
   simp only [TVsRep] at hv
   obtain ⟨s',F,Z',i1,s1,f1,r1,g1⟩:=outM_sound ps gs us s Z x ho h hg
   exact⟨s',F,Z',i1,s1,f1,⟨hv,r1⟩,g1⟩
 | .opt ar off t :: rs,vs,rvs,s,Z,x,ho,h,hg,hv=>by
  cases vs with
  | nil=>rw [outR_opt'] at ho;cases ho
  | cons v vs =>
   simp only [TVsRep] at hv
   obtain ⟨u,us',rfl,h1,h2⟩:=hv
   rw [outR_opt] at ho
   obtain ⟨y,hy,ho⟩:=obi ho
   obtain ⟨q,hq,ho⟩:=obi ho
   obtain rfl:=osj ho
   obtain ⟨s',F2,Z2,i2,s2,f2,r2,g2⟩:=outR_sound rs vs us' s Z q hq h hg h2
   exact⟨s',F2,Z2,i2,s2,f2,⟨u,us',rfl,outO_sound hy h hg h1,r2⟩,g2⟩
 | .any t :: rs,vs,rvs,s,Z,x,ho,h,hg,hv=>by
  cases vs with
  | nil=>rw [outR_any'] at ho;cases ho
  | cons v vs =>
   simp only [TVsRep] at hv
   obtain ⟨u,us',rfl,h1,h2⟩:=hv
   rw [outR_any] at ho
   cases hc:anyOk t v
   ·rw [hc] at ho;cases ho
   rw [hc] at ho
   obtain ⟨s',F2,Z2,i2,s2,f2,r2,g2⟩:=outR_sound rs vs us' s Z x ho h hg h2
   exact⟨s',F2,Z2,i2,s2,f2,⟨u,us',rfl,anyOk_sound hc h1,r2⟩,g2⟩
 | .optr t :: rs,vs,rvs,s,Z,x,ho,h,hg,hv=>by
  cases vs with
  | nil=>rw [outR_optr'] at ho;cases ho
  | cons v vs =>
   simp only [TVsRep] at hv
   obtain ⟨u,us',rfl,h1,h2⟩:=hv
   rw [outR_optr] at ho
   obtain ⟨r,hr,ho⟩:=obi ho
   obtain ⟨q,hq,ho⟩:=obi ho
   obtain rfl:=osj ho
   obtain ⟨Z1,i1,s1,r1⟩:=outP_sound hr h h1
   obtain ⟨s',F2,Z2,i2,s2,f2,r2,g2⟩:=outR_sound rs vs us' r.2 Z1 q hq i1 (TVsRep.move s1.moves hg) (TVsRep.move s1.moves h2)
   refine⟨s',F2,Z2,i2,s1.trans s2,f2,⟨u,us',rfl,r1.imp (fun h=>h) fun⟨y,b,o,vs,k1,k2,k3,k4,k5⟩=>⟨y,b,o,vs,k1,k2,k3,Ty.Rep.mono s2.zsub _ _ (fun _ _ h=>h) k4,fun j hj=>s2.zsub _ _ (k5 j hj)⟩,r2⟩,?_⟩
   intro b o y
   obtain ⟨id,hl,hf⟩:=g2 b o y
   exact⟨id,(s1.live hl).1,hf⟩
 | .new t m :: rs,vs,rvs,s,Z,x,ho,h,hg,hv=>by
  cases vs with
  | nil=>rw [outR_new'] at ho;cases ho
  | cons v vs =>
   simp only [TVsRep] at hv
   obtain ⟨u,us',rfl,h1,h2⟩:=hv
   rw [outR_new] at ho
   obtain ⟨r,hr,ho⟩:=obi ho
   obtain ⟨q,hq,ho⟩:=obi ho
   obtain rfl:=osj ho
   obtain ⟨b,o,ws,F1,Z1,rfl,i1,s1,f1,hat,hwr,r1,ap1,g1⟩:=outN_sound hr h h1
   obtain ⟨s',F2,Z2,i2,s2,f2,r2,g2⟩:=outR_sound rs vs us' r.2 Z1 q hq i1 (TVsRep.move s1.moves hg) (TVsRep.move s1.moves h2)
   refine⟨s',(F1.or (Reg.run b o t.size)).or F2,Z2,i2,s1.trans s2,(f1.shrink s2).or f2,⟨b,o,ws,us',F1,F2,rfl,hat,hwr,Ty.Rep.mono s2.zsub _ _ (fun _ _ h=>h) r1,r2,?_,ap1,fun _ _ h=>.inl h,fun _ _ h=>.inr h⟩,?_⟩
   ·intro b o x y
    obtain ⟨id,hl,hf⟩:=g2 b o y
    exact f1.apart id hl b o x hf
   ·rintro b o (y | y)
    ·exact g1 b o y
    ·obtain ⟨id,hl,hf⟩:=g2 b o y;exact⟨id,(s1.live hl).1,hf⟩
 | .val t m :: rs,vs,rvs,s,Z,x,ho,h,hg,hv=>by
  cases vs with
  | nil=>rw [outR_val'] at ho;cases ho
  | cons v vs =>
   simp only [TVsRep] at hv
   obtain ⟨u,us',rfl,h1,h2⟩:=hv
   rw [outR_val] at ho
   obtain ⟨r,hr,ho⟩:=obi ho
   obtain ⟨q,hq,ho⟩:=obi ho
   obtain rfl:=osj ho
   obtain ⟨ws,F1,Z1,rfl,i1,s1,f1,r1,g1⟩:=outV_sound hr h h1
   obtain ⟨s',F2,Z2,i2,s2,f2,r2,g2⟩:=outR_sound rs vs us' r.2 Z1 q hq i1 (TVsRep.move s1.moves hg) (TVsRep.move s1.moves h2)
   refine⟨s',F1.or F2,Z2,i2,s1.trans s2,(f1.shrink s2).or f2,⟨ws,us',F1,F2,rfl,Ty.Rep.mono s2.zsub _ _ (fun _ _ h=>h) r1,r2,?_,fun _ _ h=>.inl h,fun _ _ h=>.inr h⟩,?_⟩
   ·intro b o x y
    obtain ⟨id,hl,hf⟩:=g2 b o y
    exact f1.apart id hl b o x hf
   ·rintro b o (y | y)
    ·exact g1 b o y
    ·obtain ⟨id,hl,hf⟩:=g2 b o y;exact⟨id,(s1.live hl).1,hf⟩
end
end Go.LM
namespace Go.LM
inductive CT where
 | keep
 | lst (t:Ty) (dp:List Nat)
 | hd (c:Nat)
 | hp (c:Nat)
inductive TT where
 | cell (c:CT)
 | ag (cs:List CT)
 | ptr (c:Nat)
 | rp (dp:List Nat) (cs:List CT)
 | opt (c:Nat)
 | same
 | drop
 | fnc (a b:List (List CT))
inductive OT where
 | var (cs:List CT)
 | row (t:Ty) (em:Md)
structure Tpl where
 ts:List (Nat×TT)
 os:List (Nat×OT)
 gs:List TT
abbrev Ren:=List (Nat×Option Nat)
def lk:Ren→Nat→Option (Option Nat)
 | [],_=>none
 | (k,v) :: l,c=>cond (Nat.beq k c) (some v) (lk l c)
def isAt(r:Ren)(c id:Nat):Bool:=match lk r c with
 | some (some i)=>Nat.beq i id
 | _=>false
def isNo(r:Ren)(c:Nat):Bool:=match lk r c with
 | some none=>true
 | _=>false
def hasO:List (Nat×OT)→Nat→Bool
 | [],_=>false
 | (k,_) :: l,c=>cond (Nat.beq k c) true (hasO l c)
def renIds:Ren→List Nat
 | []=>[]
 | (_,some i) :: l=>i :: renIds l
 | (_,none) :: l=>renIds l
def nodupN:List Nat→Bool
 | []=>true
 | x :: l => !(l.any (Nat.beq x))&&nodupN l
def keysN:Ren→List Nat
 | []=>[]
 | (k,_) :: l=>k :: keysN l
def bindN(r:Ren)(c:Nat)(v:Option Nat):Ren:=match lk r c with
 | none=>(c,v) :: r
 | some _=>r
def bindDeps(r:Ren):List Nat→List (Nat×Nat)→Ren
 | c :: cs,d :: ds=>bindDeps (bindN r c (some d.1)) cs ds
 | _,_=>r
def findC(r:Ren):CT→HC→Ren
 | .hd c,.hd id _=>bindN r c (some id)
 | .hd c,.nil _=>bindN r c none
 | .hp c,.hd id _=>bindN r c (some id)
 | .lst _ dp,.lst _ ds _ _=>bindDeps r dp ds
 | .lst _ (c :: _),.hd id _=>bindN r c (some id)
 | _,_=>r
def findCs(r:Ren):List CT→List HC→Ren
 | c :: cs,x :: xs=>findCs (findC r c x) cs xs
 | _,_=>r
def findT(r:Ren):TT→TV→Ren
 | .cell c,.sc x=>findC r c x
 | .cell (.hd c),.nilc=>bindN r c none
 | .ag cs,.ag xs=>findCs r cs xs
 | .ptr c,.ptr p=>bindN r c (some p.id)
 | .rp dp cs,.rp ds xs _=>findCs (bindDeps r dp ds) cs xs
 | .opt c,.opt id _=>bindN r c (some id)
 | _,_=>r
def findTs(s:St)(r:Ren):List (Nat×TT)→Ren
 | []=>r
 | (d,t) :: l=>findTs s (findT r t (s.t d)) l
def findGs(r:Ren):List TT→List TV→Ren
 | t :: l,x :: xs=>findGs (findT r t x) l xs
 | _,_=>r
def findOs(s:St)(r:Ren):List (Nat×OT)→Ren
 | []=>r
 | (c,.var cs) :: l=>findOs s (match lk r c with
   | some (some id)=>(match s.o id with
    | .var _ xs=>findCs r cs xs
    | _=>r)
   | _=>r) l
 | _ :: l=>findOs s r l
def dp0(dp:List Nat):List (Nat×Nat):=dp.map fun c=>(c,0)
def normC(r:Ren)(os:List (Nat×OT))(s:St):CT→HC→Option HC
 | .keep,c=>match c with
  | .int k x=>some (.int k x)
  | .bool b=>some (.bool b)
  | .str x=>some (.str x)
  | _=>none
 | .lst t dp,c=>cond (dp.all (hasO os)&&(borrows s c).all fun d=>dp.any fun c=>isAt r c d.1) ((listOf s t c).bind fun x=>some (.lst t (dp0 dp) none x)) none
 | .hd k,c=>cond (hasO os k) (match c with
  | .hd id sub=>cond (isAt r k id) (some (.hd k sub)) none
  | .nil _=>cond (isNo r k) (some (.hd k none)) none
  | _=>none) none
 | .hp k,c=>cond (hasO os k) (match c with
  | .hd id sub=>(match s.o id with
   | .row _ _ _ xs=>cond (isAt r k id) (some (.hd k (some (subLo sub,subLen sub xs)))) none
   | _=>none)
  | _=>none) none
def normCs(r:Ren)(os:List (Nat×OT))(s:St):List CT→List HC→Option (List HC)
 | [],[]=>some []
 | c :: cs,x :: xs=>(normC r os s c x).bind fun y=>(normCs r os s cs xs).bind fun ys=>some (y :: ys)
 | _,_=>none
def normT(r:Ren)(os:List (Nat×OT))(s:St):TT→TV→Option TV
 | .cell c,.sc x=>(normC r os s c x).bind fun y=>some (.sc y)
 | .cell (.hd k),.nilc=>cond (hasO os k&&isNo r k) (some (.sc (.hd k none))) none
 | .cell (.lst t dp),.nilc=>cond (dp.all (hasO os)) (some (.sc (.lst t (dp0 dp) none []))) none
 | .ag cs,.ag xs=>(normCs r os s cs xs).bind fun ys=>some (.ag ys)
 | .ptr k,.ptr p=>cond (hasO os k&&isAt r k p.id) (some (.ptr { p with id:=k })) none
 | .rp dp cs,.rp ds xs off=>cond (dp.all (hasO os)&&alive s ds&&ds.all fun d=>dp.any fun c=>isAt r c d.1) ((normCs r os s cs xs).bind fun ys=>some (.rp (dp0 dp) ys off)) none
 | .opt k,.opt id o=>cond (hasO os k&&isAt r k id) (some (.opt k o)) none
 | .same,.nilp=>some .nilp
 | .same,.und=>some .und
 | .same,.fn f [] []=>some (.fn f [] [])
 | .drop,_=>some .und
 | _,_=>none
def normGs(r:Ren)(os:List (Nat×OT))(s:St):List TT→List TV→Option (List TV)
 | [],[]=>some []
 | t :: l,x :: xs=>(normT r os s t x).bind fun v=>(normGs r os s l xs).bind fun vs=>some (v :: vs)
 | _,_=>none
def normF(r:Ren)(os:List (Nat×OT))(s:St):TT→TV→Option TV
 | .fnc a b,.fn f xs ys=>(normGs r os s (a.map (TT.rp [])) xs).bind fun x=>(normGs r os s (b.map (TT.rp [])) ys).bind fun y=>some (.fn f x y)
 | t,x=>normT r os s t x
def normTs(r:Ren)(os:List (Nat×OT))(s:St):List (Nat×TT)→Option (Nat→TV)
 | []=>some fun _=>.und
 | (d,t) :: l=>(normF r os s t (s.t d)).bind fun v=>(normTs r os s l).bind fun f=>some (upd f d v)
def normO(r:Ren)(os:List (Nat×OT))(s:St)(c:Nat)(t:OT):Option LObj :=
 match lk r c with
 | some (some id)=>(match t,s.o id with
  | .row t em,.row u em' _ xs=>cond (Md.beq em' em||xs.isEmpty) ((castD (.sl u) (.sl t) xs).bind fun x=>some (.row t em 0 x)) none
  | .var cs,.var _ xs=>(normCs r os s cs xs).bind fun ys=>some (.var 0 ys)
  | _,_=>none)
 | some none=>(match t with
  | .row t em=>some (.row t em 0 [])
  | _=>none)
 | none=>none
def normOs(r:Ren)(os:List (Nat×OT))(s:St):List (Nat×OT)→Option (Nat→LObj)
 | []=>some fun _=>.none
 | (c,t) :: l=>(normO r os s c t).bind fun v=>(normOs r os s l).bind fun f=>some (upd f c v)
def normR(T:Tpl)(r:Ren)(s:St):Option St :=
 cond (nodupN (renIds r)&&nodupN (keysN r)) ((normTs r T.os s T.ts).bind fun t=>(normOs r T.os s T.os).bind fun o=>(normGs r T.os s T.gs s.g).bind fun g=>some ⟨t,o,g⟩) none
def norm(T:Tpl)(s:St):Option St:=normR T (findOs s (findGs (findTs s [] T.ts) T.gs s.g) T.os) s
section
variable{w0:World}{F0 Z0:Reg}{n:Frm}{s s0:St}{a:Act}{w:World}{ι ι0:Nat→OI}{Z:Reg}{r:Ren}{os:List (Nat×OT)}
mutual
theorem Ty.beq_refl:∀t:Ty,Ty.beq t t=true
 | .int k=>by simp [Ty.beq]
 | .bool=>rfl
 | .str=>rfl
 | .raw=>rfl
 | .sl t=>by simp only [Ty.beq];exact Ty.beq_refl t
 | .st ts=>by simp only [Ty.beq];exact Tys.beq_refl ts
theorem Tys.beq_refl:∀t:Tys,Tys.beq t t=true
 | .nil=>rfl
 | .cons t ts=>by simp only [Tys.beq,Ty.beq_refl t,Tys.beq_refl ts,cond_true]
end
def iota(r:Ren)(ι : Nat→OI):Nat→OI:=fun c=>match lk r c with
 | some (some id) => ι id
 | _=>⟨none,0,Reg.none⟩
theorem isAt_lk{c id:Nat}(h:isAt r c id=true):lk r c=some (some id):=by
 unfold isAt at h
 split at h
 ·rename_i i hi;rw [hi,Nat.eq_of_beq_eq_true h]
 ·cases h
theorem isNo_lk{c:Nat}(h:isNo r c=true):lk r c=some none:=by
 unfold isNo at h
 split at h
 ·rename_i hi;exact hi
 ·cases h
theorem iota_at{c id:Nat}(h:isAt r c id=true):iota r ι c = ι id:=by unfold iota;rw [isAt_lk h]
theorem iota_no{c:Nat}(h:isNo r c=true):iota r ι c=⟨none,0,Reg.none⟩:=by unfold iota;rw [isNo_lk h]
def ObjsTo(r:Ren)(os:List (Nat×OT))(s s0:St):Prop:=∀c,(s0.o c=.none∧hasO os c=false) ∨
 (∃id,lk r c=some (some id)∧((∃t em em1 ver xs,s.o id=.row t em1 ver xs∧s0.o c=.row t em 0 xs∧(em1=em∨xs=[]))∨(∃ver cs cs0 cts,s.o id=.var ver cs∧s0.o c=.var 0 cs0∧normCs r os s cts cs=some cs0))) ∨
 (lk r c=some none∧∃t em,s0.o c=.row t em 0 [])
theorem ObjsTo.known(h:ObjsTo r os s s0){c:Nat}(hc:hasO os c=true):LM.known s0 c:=by
 intro h0
 rcases h c with⟨_,h1⟩ | ⟨id,_,⟨t,em,em1,ver,xs,_,h1,_⟩ | ⟨ver,cs,cs0,cts,_,h1,_⟩⟩ | ⟨_,t,em,h1⟩
 ·rw [hc] at h1;cases h1
 all_goals rw [h1] at h0;cases h0
theorem ObjsTo.dep(h:ObjsTo r os s s0){c:Nat}(hc:hasO os c=true):okDep s0 (c,0):=⟨h.known hc,.inr (Nat.zero_le _)⟩
theorem dep_dp0(h:ObjsTo r os s s0){dp:List Nat}(hd:dp.all (hasO os)=true):∀d,d∈dp0 dp→okDep s0 d:=by
 intro d hd'
 unfold dp0 at hd'
 obtain ⟨c,hc,rfl⟩:=List.mem_map.1 hd'
 exact h.dep (List.all_eq_true.1 hd c hc)
theorem depF_sub{dp:List Nat}{ds:List (Nat×Nat)}(h:∀d,d∈ds→(dp.any fun c=>isAt r c d.1)=true):Reg.sub (depF ι ds) (depF (iota r ι) (dp0 dp)):=by
 rintro b o ⟨d,hd,hf⟩
 obtain ⟨c,hc,hat⟩:=List.any_eq_true.1 (h d hd)
 refine⟨(c,0),List.mem_map.2 ⟨c,hc,rfl⟩,?_⟩
 rw [iota_at hat]
 exact hf
theorem normC_sound(h:Inv w0 F0 Z0 n s a w ι Z)(hO:ObjsTo r os s s0){c:CT}{x y:HC}{v:Value}(hn:normC r os s c x=some y)(hx:CellRep w Z s ι x v):CellRep w Z s0 (iota r ι) y v:=by
 cases c with
 | keep =>
  cases x <;> simp only [normC,Option.some.injEq] at hn <;> first | (cases hn;done) | (subst hn;exact hx)
 | lst t dp =>
  simp only [normC] at hn
  cases hc:(dp.all (hasO os)&&(borrows s x).all fun d=>dp.any fun c=>isAt r c d.1)
  ·rw [hc] at hn;cases hn
  rw [hc] at hn
  simp only [cond_true] at hn
  simp only [Bool.and_eq_true] at hc
  obtain ⟨xs,hl,hn⟩:=obi hn
  obtain rfl:=osj hn
  obtain ⟨h1,h2,h3⟩:=listOf_sound h hl hx
  have hsub:=depF_sub (ι := ι) (r:=r) (dp:=dp) (ds:=borrows s x) fun d hd=>List.all_eq_true.1 hc.2 d hd
  have h4:=Ty.Rep.mono (Z':=Z.or (depF (iota r ι) (dp0 dp))) (fun b o hz=>hz.elim .inl fun h=>.inr (hsub b o h)) _ _ (fun _ _ h=>h) h1
  refine⟨dep_dp0 hO hc.1,?_,fun _=>h4,.none⟩
  simp only [Ty.Rep] at h4
  obtain ⟨A,c,hv,_⟩:=h4
  simp only [List.cons.injEq,and_true] at hv
  exact⟨A,_,c,hv⟩
 | hd k =>
  simp only [normC] at hn
  cases hc:hasO os k
  ·rw [hc] at hn;cases hn
  rw [hc] at hn
  simp only [cond_true] at hn
  cases x with
  | hd id sub =>
   simp only at hn
   cases hat:isAt r k id
   ·rw [hat] at hn;cases hn
   rw [hat] at hn
   obtain rfl:=osj hn
   obtain ⟨h1,A,m,cc,hv,h2⟩:=hx
   refine⟨hO.known hc,A,m,cc,hv,fun t em ver xs hob=>?_⟩
   rw [iota_at hat]
   rcases hO k with⟨h0,_⟩ | ⟨id',h0,⟨t',em',em1',ver',xs',g1,g2,ge⟩ | ⟨ver',cs,cs0,cts,g1,g2,_⟩⟩ | ⟨h0,t',em',g2⟩
   ·rw [h0] at hob;cases hob
   ·rw [isAt_lk hat] at h0
    injection h0 with h0;injection h0 with h0;subst h0
    rw [g2] at hob
    simp only [LObj.core,LObj.row.injEq] at hob
    obtain ⟨rfl,rfl,rfl,hob⟩:=hob
    have:=eq_of_heq hob;subst this
    exact h2 _ _ _ _ (core_row g1)
   ·rw [g2] at hob;cases hob
   ·rw [isAt_lk hat] at h0;cases h0
  | nil u =>
   simp only at hn
   cases hat:isNo r k
   ·rw [hat] at hn;cases hn
   rw [hat] at hn
   obtain rfl:=osj hn
   have hv:v=.slice none 0 0:=hx
   refine⟨hO.known hc,none,0,0,hv,fun t em ver xs hob=>?_⟩
   rw [iota_no hat]
   rcases hO k with⟨h0,_⟩ | ⟨id',h0,_⟩ | ⟨h0,t',em',g2⟩
   ·rw [h0] at hob;cases hob
   ·rw [isNo_lk hat] at h0;cases h0
   ·rw [g2] at hob
    simp only [LObj.core,LObj.row.injEq] at hob
    obtain ⟨rfl,rfl,rfl,hob⟩:=hob
    have:=eq_of_heq hob;subst this
    exact⟨rfl,Nat.le_refl _,Nat.le_refl _,Nat.le_refl _,.inl rfl⟩
  | _=>cases hn
 | hp k =>
  simp only [normC] at hn
  cases hc:hasO os k
  ·rw [hc] at hn;cases hn
  rw [hc] at hn
  simp only [cond_true] at hn
  cases x with
  | hd id sub =>
   simp only at hn
   cases hrow:s.o id with
   | row t2 em2 ver2 xs2 =>
    rw [hrow] at hn
    simp only at hn
    cases hat:isAt r k id
    ·rw [hat] at hn;cases hn
    rw [hat] at hn
    obtain rfl:=osj hn
    obtain ⟨h1,A,m,cc,hv,h2⟩:=hx
    refine⟨hO.known hc,A,m,cc,hv,fun t em ver xs hob=>?_⟩
    rw [iota_at hat]
    rcases hO k with⟨h0,_⟩ | ⟨id',h0,⟨t',em',em1',ver',xs',g1,g2,ge⟩ | ⟨ver',cs,cs0,cts,g1,g2,_⟩⟩ | ⟨h0,t',em',g2⟩
    ·rw [h0] at hob;cases hob
    ·rw [isAt_lk hat] at h0
     injection h0 with h0;injection h0 with h0;subst h0
     rw [g2] at hob
     simp only [LObj.core,LObj.row.injEq] at hob
     obtain ⟨rfl,rfl,rfl,hob⟩:=hob
     have:=eq_of_heq hob;subst this
     rw [hrow] at g1
     simp only [LObj.row.injEq] at g1
     obtain ⟨rfl,rfl,rfl,g1⟩:=g1
     have:=eq_of_heq g1;subst this
     have h3:=h2 _ _ _ _ (core_row hrow)
     cases sub with
     | none=>exact⟨h3.n_eq,h3.fits,h3.le,h3.cap,h3.at_⟩
     | some p=>exact h3
    ·rw [g2] at hob;cases hob
    ·rw [isAt_lk hat] at h0;cases h0
   | _=>rw [hrow] at hn;cases hn
  | _=>cases hn
theorem normCs_sound(h:Inv w0 F0 Z0 n s a w ι Z)(hO:ObjsTo r os s s0):∀ {cs:List CT} {xs ys:List HC} {vs:List Value},normCs r os s cs xs=some ys→CellsRep w Z s ι xs vs→CellsRep w Z s0 (iota r ι) ys vs
 | [],[],ys,vs,hn,hx=>by
  obtain rfl:=osj hn
  cases vs with
  | nil=>trivial
  | cons=>exact hx.elim
 | [],_ :: _,_,_,hn,_=>by cases hn
 | _ :: _,[],_,_,hn,_=>by cases hn
 | c :: cs,x :: xs,ys,vs,hn,hx=>by
  simp only [normCs] at hn
  obtain ⟨y,h1,hn⟩:=obi hn
  obtain ⟨ys',h2,hn⟩:=obi hn
  obtain rfl:=osj hn
  cases vs with
  | nil=>exact hx.elim
  | cons v vs=>exact⟨normC_sound h hO h1 hx.1,normCs_sound h hO h2 hx.2⟩
theorem normCs_len:∀ {cs:List CT} {xs ys:List HC},normCs r os s cs xs=some ys→ys.length=xs.length
 | [],[],_,hn=>by obtain rfl:=osj hn;rfl
 | [],_ :: _,_,hn=>by cases hn
 | _ :: _,[],_,hn=>by cases hn
 | c :: cs,x :: xs,ys,hn=>by
  simp only [normCs] at hn
  obtain ⟨y,h1,hn⟩:=obi hn
  obtain ⟨ys',h2,hn⟩:=obi hn
  obtain rfl:=osj hn
  simp [normCs_len h2]
theorem place_to(hO:ObjsTo r os s s0){k:Nat}{p:Place}{A:Addr}(hc:hasO os k=true)(hat:isAt r k p.id=true)(hp:PlaceAt s ι p A):PlaceAt s0 (iota r ι) { p with id:=k } A:=by
 obtain ⟨h1,h2⟩:=hp
 refine⟨h1,?_⟩
 show match (s0.o k).core with | .var _ cs=>_ | .row t _ _ xs=>_ | _=>_
 rw [iota_at hat]
 rcases hO k with⟨h0,_⟩ | ⟨id',h0,⟨t',em',em1',ver',xs',g1,g2,ge⟩ | ⟨ver',cs,cs0,cts,g1,g2,_⟩⟩ | ⟨h0,t',em',g2⟩
 ·rw [h0];trivial
 ·rw [isAt_lk hat] at h0
  injection h0 with h0;injection h0 with h0;subst h0
  rw [g2]
  rw [g1] at h2
  exact h2
 ·rw [isAt_lk hat] at h0
  injection h0 with h0;injection h0 with h0;subst h0
  rw [g2]
  rw [g1] at h2
  exact h2
 ·rw [isAt_lk hat] at h0;cases h0
theorem normT_sound(h:Inv w0 F0 Z0 n s a w ι Z)(hO:ObjsTo r os s s0){t:TT}{x y:TV}{v:Value}(hn:normT r os s t x=some y)(hx:TVRep w Z s ι x v):TVRep w Z s0 (iota r ι) y v:=by
 unfold normT at hn
 split at hn
 ·obtain ⟨z,h1,hn⟩:=obi hn
  obtain rfl:=osj hn
  simp only [TVRep] at hx ⊢
  exact normC_sound h hO h1 hx
 ·rename_i k
  cases hc:(hasO os k&&isNo r k)
  ·rw [hc] at hn;cases hn
  rw [hc] at hn
  simp only [Bool.and_eq_true] at hc
  obtain rfl:=osj hn
  simp only [TVRep] at hx ⊢
  exact normC_sound (c:=.hd k) (x:=.nil .bool) h hO (by simp only [normC];rw [hc.1,hc.2];rfl) hx
 ·rename_i t dp
  cases hc:dp.all (hasO os)
  ·rw [hc] at hn;cases hn
  rw [hc] at hn
  obtain rfl:=osj hn
  simp only [TVRep] at hx ⊢
  refine normC_sound (c:=.lst t dp) (x:=.nil t) h hO ?_ hx
  simp only [normC,hc,borrows,List.all_nil,Bool.and_true,cond_true]
  simp only [listOf,castD]
  rw [dif_pos (Ty.beq_refl _)]
  rfl
 ·obtain ⟨z,h1,hn⟩:=obi hn
  obtain rfl:=osj hn
  simp only [TVRep] at hx ⊢
  obtain ⟨vs,hv,hx⟩:=hx
  exact⟨vs,hv,normCs_sound h hO h1 hx⟩
 ·rename_i k p
  cases hc:(hasO os k&&isAt r k p.id)
  ·rw [hc] at hn;cases hn
  rw [hc] at hn
  simp only [Bool.and_eq_true] at hc
  obtain rfl:=osj hn
  simp only [TVRep] at hx ⊢
  obtain ⟨_,A,hv,hp⟩:=hx
  exact⟨hO.known hc.1,A,hv,place_to hO hc.1 hc.2 hp⟩
 ·rename_i dp cs ds xs off
  cases hc:(dp.all (hasO os)&&alive s ds&&ds.all fun d=>dp.any fun c=>isAt r c d.1)
  ·rw [hc] at hn;cases hn
  rw [hc] at hn
  simp only [Bool.and_eq_true] at hc
  simp only [cond_true] at hn
  obtain ⟨z,h1,hn⟩:=obi hn
  obtain rfl:=osj hn
  simp only [TVRep] at hx ⊢
  obtain ⟨_,b,o,vs,hv,hx⟩:=hx
  obtain ⟨g1,g2,g3⟩:=hx hc.1.2
  have hsub:=depF_sub (ι := ι) (r:=r) (dp:=dp) (ds:=ds) fun d hd=>List.all_eq_true.1 hc.2 d hd
  refine⟨dep_dp0 hO hc.1.1,b,o,vs,hv,fun _=>⟨normCs_sound h hO h1 g1,g2,fun j hj=>?_⟩⟩
  rw [normCs_len h1] at hj
  exact(g3 j hj).elim .inl fun h=>.inr (hsub _ _ h)
 ·rename_i k id o
  cases hc:(hasO os k&&isAt r k id)
  ·rw [hc] at hn;cases hn
  rw [hc] at hn
  simp only [Bool.and_eq_true] at hc
  obtain rfl:=osj hn
  simp only [TVRep] at hx ⊢
  obtain ⟨_,hx⟩:=hx
  exact⟨hO.known hc.1,hx.imp (fun h=>h) fun⟨h1,A,hv,hp⟩=>⟨h1,A,hv,place_to (p:=⟨id,some o.toNat,0⟩) hO hc.1 hc.2 hp⟩⟩
 ·obtain rfl:=osj hn
  simpa only [TVRep] using hx
 ·obtain rfl:=osj hn
  simp only [TVRep]
 ·obtain rfl:=osj hn
  simpa only [TVRep,TVsRep] using hx
 ·obtain rfl:=osj hn
  simp only [TVRep]
 ·cases hn
theorem normGs_sound(h:Inv w0 F0 Z0 n s a w ι Z)(hO:ObjsTo r os s s0):∀ {ts:List TT} {xs ys:List TV} {vs:List Value},normGs r os s ts xs=some ys→TVsRep w Z s ι xs vs→TVsRep w Z s0 (iota r ι) ys vs
 | [],[],ys,vs,hn,hx=>by obtain rfl:=osj hn;simpa only [TVsRep] using hx
 | [],_ :: _,_,_,hn,_=>by cases hn
 | _ :: _,[],_,_,hn,_=>by cases hn
 | t :: ts,x :: xs,ys,vs,hn,hx=>by
  simp only [normGs] at hn
  obtain ⟨y,h1,hn⟩:=obi hn
  obtain ⟨ys',h2,hn⟩:=obi hn
  obtain rfl:=osj hn
  simp only [TVsRep] at hx ⊢
  obtain ⟨v,vs',rfl,g1,g2⟩:=hx
  exact⟨v,vs',rfl,normT_sound h hO h1 g1,normGs_sound h hO h2 g2⟩
theorem normF_sound(h:Inv w0 F0 Z0 n s a w ι Z)(hO:ObjsTo r os s s0){t:TT}{x y:TV}{v:Value}(hn:normF r os s t x=some y)(hx:TVRep w Z s ι x v):TVRep w Z s0 (iota r ι) y v:=by
 unfold normF at hn
 split at hn
 ·obtain ⟨x1,h1,hn⟩:=obi hn
  obtain ⟨y1,h2,hn⟩:=obi hn
  obtain rfl:=osj hn
  simp only [TVRep] at hx ⊢
  obtain ⟨us,vs,rfl,k1,k2⟩:=hx
  exact⟨us,vs,rfl,normGs_sound h hO h1 k1,normGs_sound h hO h2 k2⟩
 ·exact normT_sound h hO hn hx
theorem normTs_sound(h:Inv w0 F0 Z0 n s a w ι Z)(hO:ObjsTo r os s s0):∀ {ts:List (Nat×TT)} {f:Nat→TV},normTs r os s ts=some f→∀k,TVRep w Z s0 (iota r ι) (f k) (a.tmps.getD k undef)
 | [],f,hn,k=>by obtain rfl:=osj hn;simp only [TVRep]
 | (d,t) :: l,f,hn,k=>by
  simp only [normTs] at hn
  obtain ⟨v,h1,hn⟩:=obi hn
  obtain ⟨g,h2,hn⟩:=obi hn
  obtain rfl:=osj hn
  by_cases hk:d=k
  ·subst hk;rw [upd_same];exact normF_sound h hO h1 (h.tmps d)
  ·rw [upd_ne hk];exact normTs_sound h hO h2 k
theorem normO_spec{c:Nat}{t:OT}{v:LObj}(hn:normO r os s c t=some v) :
  (∃id,lk r c=some (some id)∧((∃t em em1 ver xs,s.o id=.row t em1 ver xs∧v=.row t em 0 xs∧(em1=em∨xs=[]))∨(∃ver cs cs0 cts,s.o id=.var ver cs∧v=.var 0 cs0∧normCs r os s cts cs=some cs0)))∨(lk r c=some none∧∃t em,v=.row t em 0 []):=by
 unfold normO at hn
 split at hn
 ·rename_i id hl
  refine .inl ⟨id,hl,?_⟩
  split at hn
  ·rename_i t em u em' ver xs ho
   cases hb:(Md.beq em' em||xs.isEmpty)
   ·rw [hb] at hn;cases hn
   rw [hb] at hn
   obtain ⟨x,h1,hn⟩:=obi hn
   obtain rfl:=osj hn
   simp only [Bool.or_eq_true] at hb
   obtain ⟨e,rfl⟩:=castD_sl h1
   subst e
   refine .inl ⟨_,_,_,_,_,ho,rfl,?_⟩
   rcases hb with hb | hb
   ·exact .inl (Md.eq_of_beq _ _ hb)
   ·exact .inr (List.isEmpty_iff.1 hb)
  ·rename_i cs ver xs ho
   obtain ⟨ys,h1,hn⟩:=obi hn
   obtain rfl:=osj hn
   exact .inr ⟨_,_,_,_,ho,rfl,h1⟩
  ·cases hn
 ·rename_i hl
  split at hn
  ·obtain rfl:=osj hn;exact .inr ⟨hl,_,_,rfl⟩
  ·cases hn
 ·cases hn
theorem normOs_spec:∀ {l:List (Nat×OT)} {f:Nat→LObj},normOs r os s l=some f→∀c,(f c=.none∧hasO l c=false) ∨
  (∃id,lk r c=some (some id)∧((∃t em em1 ver xs,s.o id=.row t em1 ver xs∧f c=.row t em 0 xs∧(em1=em∨xs=[]))∨(∃ver cs cs0 cts,s.o id=.var ver cs∧f c=.var 0 cs0∧normCs r os s cts cs=some cs0))) ∨
  (lk r c=some none∧∃t em,f c=.row t em 0 [])
 | [],f,hn,c=>by obtain rfl:=osj hn;exact .inl ⟨rfl,rfl⟩
 | (d,t) :: l,f,hn,c=>by
  simp only [normOs] at hn
  obtain ⟨v,h1,hn⟩:=obi hn
  obtain ⟨g,h2,hn⟩:=obi hn
  obtain rfl:=osj hn
  by_cases hk:d=c
  ·subst hk;rw [upd_same];exact .inr (normO_spec h1)
  ·rw [upd_ne hk]
   rcases normOs_spec h2 c with⟨g1,g2⟩ | g
   ·refine .inl ⟨g1,?_⟩
    unfold hasO
    have:Nat.beq d c=false:=by
     cases hb:Nat.beq d c
     ·rfl
     ·exact absurd (Nat.eq_of_beq_eq_true hb) hk
    rw [this]
    exact g2
   ·exact .inr g
theorem lk_mem{c:Nat}{v:Option Nat} : ∀ {r:Ren},lk r c=some v→(c,v)∈r
 | [],h=>by cases h
 | (k,u) :: l,h=>by
  unfold lk at h
  cases hb:Nat.beq k c
  ·rw [hb] at h;exact List.mem_cons_of_mem _ (lk_mem h)
  ·rw [hb] at h
   obtain rfl:=osj h
   obtain rfl:=Nat.eq_of_beq_eq_true hb
   exact List.mem_cons_self
theorem mem_renIds{c id:Nat} : ∀ {r:Ren},(c,some id)∈r→id∈renIds r
 | (k,u) :: l,h=>by
  rcases List.mem_cons.1 h with h | h
  ·injection h with h1 h2
   subst h1 h2
   exact List.mem_cons_self
  ·have:=mem_renIds h
   cases u with
   | none=>exact this
   | some i=>exact List.mem_cons_of_mem _ this
theorem ren_inj{c c' id:Nat} : ∀ {r:Ren},nodupN (renIds r)=true→(c,some id)∈r→(c',some id)∈r→c=c'
 | (k,u) :: l,hn,h,h'=>by
  cases u with
  | none =>
   simp only [renIds] at hn
   rcases List.mem_cons.1 h with h | h
   ·injection h with _ h2;cases h2
   rcases List.mem_cons.1 h' with h' | h'
   ·injection h' with _ h2;cases h2
   exact ren_inj hn h h'
  | some i =>
   simp only [renIds,nodupN,Bool.and_eq_true,Bool.not_eq_true'] at hn
   have hno:∀ {x},(x,some i)∈l→False:=by
    intro x hx
    have:=mem_renIds hx
    have h3:=List.any_eq_false.1 hn.1 i this
    simp at h3
   rcases List.mem_cons.1 h with g | g
   ·injection g with h1 h2;injection h2 with h2
    rcases List.mem_cons.1 h' with g' | g'
    ·injection g' with h3 h4;rw [h1,h3]
    ·exact(hno (h2 ▸ g')).elim
   ·rcases List.mem_cons.1 h' with g' | g'
    ·injection g' with h1 h2;injection h2 with h2
     exact(hno (h2 ▸ g)).elim
    ·exact ren_inj hn.2 g g'
theorem normR_sound{T:Tpl}(hgc:n.gc=[])(hn:normR T r s=some s0)(hs:Stands w0 F0 Z0 n s a w):Stands w0 F0 Z0 n s0 a w:=by
 obtain ⟨ι,Z,h⟩:=hs
 unfold normR at hn
 cases hnd:(nodupN (renIds r)&&nodupN (keysN r))
 ·rw [hnd] at hn;cases hn
 rw [hnd] at hn
 simp only [Bool.and_eq_true] at hnd
 simp only [cond_true] at hn
 obtain ⟨ft,h1,hn⟩:=obi hn
 obtain ⟨fo,h2,hn⟩:=obi hn
 obtain ⟨fg,h3,hn⟩:=obi hn
 obtain rfl:=osj hn
 have hO:ObjsTo r T.os s ⟨ft,fo,fg⟩:=normOs_spec h2
 have live:∀c,(fo c).live→(∃id,lk r c=some (some id)∧(s.o id).live∧iota r ι c = ι id)∨(iota r ι c=⟨none,0,Reg.none⟩):=by
  intro c hl
  rcases normOs_spec h2 c with⟨g,_⟩ | ⟨id,g,⟨t,em,em1,ver,xs,g1,g2,ge⟩ | ⟨ver,cs,cs0,cts,g1,g2,_⟩⟩ | ⟨g,_⟩
  ·rw [g] at hl;exact hl.elim
  ·exact .inl ⟨id,g,by rw [g1];trivial,by unfold iota;rw [g]⟩
  ·exact .inl ⟨id,g,by rw [g1];trivial,by unfold iota;rw [g]⟩
  ·exact .inr (by unfold iota;rw [g])
 refine⟨iota r ι,Z,h.ext,h.zsub,h.zold,h.zin,?_,?_,?_,?_,normTs_sound h hO h1,h.size,normGs_sound h hO h3 h.ghost,by rw [hgc];intro e he;simp at he,h.defers⟩
 ·intro c
  show ObjRep w Z _ _ _ (fo c)
  rcases normOs_spec h2 c with⟨g,_⟩ | ⟨id,g,⟨t,em,em1,ver,xs,g1,g2,ge⟩ | ⟨ver,cs,cs0,cts,g1,g2,g3⟩⟩ | ⟨g,t,em,g2⟩
  ·rw [g];trivial
  ·rw [g2]
   have:=h.objs id
   rw [g1] at this
   have hi:iota r ι c = ι id:=by unfold iota;rw [g]
   rw [hi]
   rcases ge with rfl | rfl
   ·exact this
   ·rcases this with k | ⟨a0,k1,k2⟩
    ·exact .inl k
    ·obtain ⟨k3,k4,k5,k6,G,k7,k8,k9⟩:=k2
     exact .inr ⟨a0,k1,k3,k4,k5,k6,G,trivial,k8,k9⟩
  ·rw [g2]
   have:=h.objs id
   rw [g1] at this
   have hi:iota r ι c = ι id:=by unfold iota;rw [g]
   rw [hi]
   obtain ⟨a0,vs,k1,k2,k3,k4,k5⟩:=this
   exact⟨a0,vs,k1,k2,normCs_sound h hO g3 k3,k4,fun j hj=>k5 j (by rw [← normCs_len g3];exact hj)⟩
  ·rw [g2]
   exact .inl ⟨rfl,by unfold iota;rw [g]⟩
 ·intro c hl b o hf
  rcases live c hl with⟨id,_,g2,g3⟩ | g
  ·rw [g3] at hf;exact h.own id g2 b o hf
  ·rw [g] at hf;exact hf.elim
 ·intro c c' hl hl' hne b o hf hf'
  rcases live c hl with⟨id,g1,g2,g3⟩ | g
  ·rcases live c' hl' with⟨id',k1,k2,k3⟩ | k
   ·rw [g3] at hf
    rw [k3] at hf'
    refine h.apart id id' g2 k2 (fun e=>?_) b o hf hf'
    subst e
    exact hne (ren_inj hnd.1 (lk_mem g1) (lk_mem k1))
   ·rw [k] at hf';exact hf'.elim
  ·rw [g] at hf;exact hf.elim
 ·intro c hl b o hf hz
  rcases live c hl with⟨id,g1,g2,g3⟩ | g
  ·rw [g3] at hf;exact h.apartZ id g2 b o hf hz
  ·rw [g] at hf;exact hf.elim
theorem norm_sound{T:Tpl}(hgc:n.gc=[])(hn:norm T s=some s0)(hs:Stands w0 F0 Z0 n s a w):Stands w0 F0 Z0 n s0 a w:=normR_sound hgc hn hs
end
end Go.LM
namespace Go.LM
def findR:List (Nat×List Item)→Nat→Option (List Item)
 | [],_=>none
 | (k,x) :: l,r=>cond (Nat.beq k r) (some x) (findR l r)
def todoAt(body:Code)(rid:Nat):Option (List Item):=findR (contsL [.code body]) rid
def ridsOf:List (Nat×List Item)→List Nat
 | []=>[]
 | (k,_) :: l=>k :: ridsOf l
def oncePlace(body:Code):Bool:=nodupN (ridsOf (contsL [.code body]))
theorem ridsOf_mem{k:Nat}{x:List Item} : ∀ {l:List (Nat×List Item)},(k,x)∈l→k∈ridsOf l
 | (k',x') :: l,h=>by
  rcases List.mem_cons.1 h with h | h
  ·injection h with h1 h2;rw [h1];exact List.mem_cons_self
  ·exact List.mem_cons_of_mem _ (ridsOf_mem h)
theorem findR_mem{k:Nat}{x:List Item} : ∀ {l:List (Nat×List Item)},nodupN (ridsOf l)=true→(k,x)∈l→findR l k=some x
 | (k',x') :: l,hn,h=>by
  simp only [ridsOf,nodupN,Bool.and_eq_true,Bool.not_eq_true'] at hn
  unfold findR
  rcases List.mem_cons.1 h with h | h
  ·injection h with h1 h2
   rw [h1,Nat.beq_refl,h2]
   rfl
  ·have hne:Nat.beq k' k=false:=by
    have h3:=List.any_eq_false.1 hn.1 k (ridsOf_mem h)
    cases hb:Nat.beq k' k
    ·rfl
    ·rw [Nat.eq_of_beq_eq_true hb] at h3;simp at h3
   rw [hne]
   exact findR_mem hn.2 h
section
variable{ρ : Type}
def nextF(tpls:Nat→Option Tpl)(k:Nat→St→Option ρ)(rid:Nat)(s:St):Option ρ :=
 match tpls rid with
 | some T=>(norm T s).bind (k rid)
 | none=>none
def cutB(tpls:Nat→Option Tpl)(rid:Nat):Bool:=(tpls rid).isSome
def handF(tpls:Nat→Option Tpl)(fin:St→Option ρ)(k:Nat→St→Option ρ):Hand ρ :=⟨fun r _ s=>nextF tpls k r s,fin⟩
noncomputable def stepF(E:Env)(tpls:Nat→Option Tpl)(body:Code)(fin:St→Option ρ)(k:Nat→St→Option ρ)(rid:Nat)(s:St):Option ρ :=
 match todoAt body rid with
 | some todo=>seg E (cutB tpls) (handF tpls fin k) 100000 true todo s
 | none=>none
noncomputable def loopF(E:Env)(tpls:Nat→Option Tpl)(body:Code)(fin:St→Option ρ):Nat→Nat→St→Option ρ
 | 0,_,_=>none
 | m+1,rid,s=>stepF E tpls body fin (loopF E tpls body fin m) rid s
end
def resTV(E:Env):List ResultVar→St→Option (List TV)
 | [],_=>some []
 | .tmp t :: l,s=>(resTV E l s).bind fun vs=>some (s.t t :: vs)
 | .cell a ty :: l,s =>
  match E.ty ty,s.t a with
  | some T,.ptr p=>((readP s T.size p).bind (wrapT T)).bind fun v=>(resTV E l s).bind fun vs=>some (v :: vs)
  | _,_=>none
def fnTs(key:Nat):List PSpec→List TV→List TV
 | .fn nf _ :: _,_ :: l=>[.fn key (l.take nf) (l.drop nf)]
 | .val _ _ :: ps,v :: l | .frz _ :: ps,v :: l | .vm _ _ :: ps,v :: l | .ref _ :: ps,v :: l | .mut _ _ _ :: ps,v :: l=>v :: fnTs key ps l
 | _,_=>[]
def okFn:List PSpec→Bool
 | []=>true
 | .fn nf nc :: l=>Nat.beq l.length (nf+nc)
 | .val _ _ :: l | .frz _ :: l | .vm _ _ :: l | .ref _ :: l | .mut _ _ _ :: l=>okFn l
def enterSt(key:Nat)(e:Entry)(x:(PSpec.ins e.ps).D):Option St :=
 (enterK key e.ps x 1099511627776 ⟨fun _=>.und,fun _=>.none,[]⟩).bind fun q=>some ⟨fun k=>(fnTs key e.ps q.1).getD k .und,q.2.1.o,q.1⟩
def finF(E:Env)(fn:Func)(e:Entry)(s:St):Option (RSpec.outs e.rs (PSpec.muts e.ps)).D :=
 (resTV E fn.results.toList s).bind fun vs=>outR e.ps s.g e.rs vs s
noncomputable def startF(E:Env)(fn:Func)(body:Code)(tpls:Nat→Option Tpl)(key:Nat)(e:Entry)(k:Nat→St→Option (RSpec.outs e.rs (PSpec.muts e.ps)).D)(x:(PSpec.ins e.ps).D):Option (RSpec.outs e.rs (PSpec.muts e.ps)).D :=
 (enterSt key e x).bind fun s=>seg E (cutB tpls) (handF tpls (finF E fn e) k) 100000 false [.code body] s
section
variable{P:Program}{w0:World}{F0 Z0:Reg}{n:Frm}{s s':St}{a a':Act}{w w':World}{ι ι':Nat→OI}{Z Z':Reg}{E:Env}{ρ : Type}{r : ρ}
def AtEnd(w0:World)(F0 Z0:Reg)(n:Frm)(fin:St→Option ρ)(r : ρ)(todo:List Item)(a:Act)(w:World):Prop :=
 (todo=[]∨∃k,todo=.code .ret :: k)∧∃s,fin s=some r∧Stands w0 F0 Z0 n s a w
theorem walk_sound{tpls:Nat→Option Tpl}{body:Code}{fin:St→Option ρ}(hO:Ok P E)(hn:E.n=n)(hgc:n.gc=[])(hu:oncePlace body=true):∀(m:Nat) (fuel:Nat) (first:Bool) (todo:List Item) (s:St) (a:Act) (w:World),
  (∀p,p∈contsL todo→p∈contsL [.code body])→seg E (cutB tpls) (handF tpls fin (loopF E tpls body fin m)) fuel first todo s=some r→Stands w0 F0 Z0 n s a w→∀(b:Frame) (cs:List Frame),
  ∃todo' a' w',AtEnd w0 F0 Z0 n fin r todo' a' w'∧Steps P (lone (b.at a todo) cs w) (lone (b.at a' todo') cs w')
 | m,fuel,first,todo,s,a,w,hc,hk,hs,b,cs=>by
  obtain ⟨t1,s1,a1,w1,h1,h2,h3,h4⟩:=seg_sound hO hn fuel first todo s a w hk hs b cs
  rcases h2 with⟨rid,ops,dr,k,rfl,hcut,hnext⟩ | ⟨hend,hfin⟩
  ·have hnext':nextF tpls (loopF E tpls body fin m) rid s1=some r:=hnext
   unfold nextF at hnext'
   cases hT:tpls rid with
   | none=>rw [hT] at hnext';cases hnext'
   | some T =>
    rw [hT] at hnext'
    obtain ⟨s2,g1,g2⟩:=obi hnext'
    have hs2:=norm_sound hgc g1 h1
    cases m with
    | zero=>cases g2
    | succ m =>
     unfold loopF stepF at g2
     have hmem:(rid,(.code (.region rid ops dr) :: k:List Item))∈contsL [.code body]:=hc _ (h3 _ (by simp [contsL,conts]))
     have htodo:todoAt body rid=some (.code (.region rid ops dr) :: k):=findR_mem hu hmem
     rw [htodo] at g2
     simp only at g2
     obtain ⟨t',a',w',q1,q2⟩:=walk_sound hO hn hgc hu m 100000 true _ s2 a1 w1 (fun p hp=>hc p (h3 p hp)) g2 hs2 b cs
     exact⟨t',a',w',q1,h4.trans q2⟩
  ·exact⟨t1,a1,w1,⟨hend,s1,hfin,h1⟩,h4⟩
theorem sem_bind_pure{α : Type} : ∀x:Sem α,x.bind .pure=x
 | .pure a=>rfl
 | .load m a k=>by simp only [Sem.bind];exact congrArg _ (funext fun v=>sem_bind_pure (k v))
 | .store m a v k=>by simp only [Sem.bind];exact congrArg _ (sem_bind_pure k)
 | .new o k=>by simp only [Sem.bind];exact congrArg _ (funext fun v=>sem_bind_pure (k v))
 | .shape r k=>by simp only [Sem.bind];exact congrArg _ (funext fun v=>sem_bind_pure (k v))
 | .freeze a n k=>by simp only [Sem.bind];exact congrArg _ (sem_bind_pure k)
 | .frozen a k=>by simp only [Sem.bind];exact congrArg _ (funext fun v=>sem_bind_pure (k v))
 | .getObj r k=>by simp only [Sem.bind];exact congrArg _ (funext fun v=>sem_bind_pure (k v))
 | .setObj r o k=>by simp only [Sem.bind];exact congrArg _ (sem_bind_pure k)
 | .choose q k=>by simp only [Sem.bind];exact congrArg _ (funext fun v=>sem_bind_pure (k v))
 | .sys c k=>by simp only [Sem.bind];exact congrArg _ (funext fun v=>sem_bind_pure (k v))
 | .program k=>by simp only [Sem.bind];exact congrArg _ (funext fun v=>sem_bind_pure (k v))
 | .mark m k=>by simp only [Sem.bind];exact congrArg _ (sem_bind_pure k)
 | .halt h=>rfl
theorem sem_assoc{α β γ : Type}(f : α → Sem β)(g : β → Sem γ):∀x:Sem α,(x.bind f).bind g=x.bind fun a=>(f a).bind g
 | .pure a=>rfl
 | .load m a k=>by simp only [Sem.bind];exact congrArg _ (funext fun v=>sem_assoc f g (k v))
 | .store m a v k=>by simp only [Sem.bind];exact congrArg _ (sem_assoc f g k)
 | .new o k=>by simp only [Sem.bind];exact congrArg _ (funext fun v=>sem_assoc f g (k v))
 | .shape r k=>by simp only [Sem.bind];exact congrArg _ (funext fun v=>sem_assoc f g (k v))
 | .freeze a n k=>by simp only [Sem.bind];exact congrArg _ (sem_assoc f g k)
 | .frozen a k=>by simp only [Sem.bind];exact congrArg _ (funext fun v=>sem_assoc f g (k v))
 | .getObj r k=>by simp only [Sem.bind];exact congrArg _ (funext fun v=>sem_assoc f g (k v))
 | .setObj r o k=>by simp only [Sem.bind];exact congrArg _ (sem_assoc f g k)
 | .choose q k=>by simp only [Sem.bind];exact congrArg _ (funext fun v=>sem_assoc f g (k v))
 | .sys c k=>by simp only [Sem.bind];exact congrArg _ (funext fun v=>sem_assoc f g (k v))
 | .program k=>by simp only [Sem.bind];exact congrArg _ (funext fun v=>sem_assoc f g (k v))
 | .mark m k=>by simp only [Sem.bind];exact congrArg _ (sem_assoc f g k)
 | .halt h=>rfl
instance:LawfulMonad Sem:=LawfulMonad.mk' Sem (fun x=>sem_bind_pure x) (fun _ _=>rfl) (fun x f g=>sem_assoc f g x)
theorem run_mapL{α : Type}{f : α → Sem Value} : ∀ {as:List α} {vs:List Value},vs.length=as.length→(∀i (hi:i<as.length) (hi':i<vs.length),(f as[i]).run P w=.ok vs[i] w)→(as.mapM f).run P w=.ok vs w
 | [],[],_,_=>by rw [List.mapM_nil];exact run_pure _ _
 | [],_ :: _,h,_=>by simp at h
 | _ :: _,[],h,_=>by simp at h
 | x :: as,v :: vs,hl,h=>by
  have h0:=h 0 (by simp) (by simp)
  simp only [List.getElem_cons_zero] at h0
  rw [List.mapM_cons,run_bind,h0]
  simp only [run_bind]
  rw [run_mapL (as:=as) (vs:=vs) (by simpa using hl) fun i hi hi'=>h (i+1) (by simpa using hi) (by simpa using hi')]
  simp only [run_pure]
theorem run_mapM{α : Type}{f : α → Sem Value}{as:Array α}{vs:List Value}(hl:vs.length=as.size)(h:∀i (hi:i<as.toList.length) (hi':i<vs.length),(f as.toList[i]).run P w=.ok vs[i] w) :
  (as.mapM f).run P w=.ok vs.toArray w:=by
 rw [Array.mapM_eq_mapM_toList,map_eq_pure_bind,run_bind,run_mapL (by simpa using hl) h]
 rfl
theorem resTV_sound(hT:TyOk P E)(h:Inv w0 F0 Z0 n s a w ι Z):∀ {l:List ResultVar} {vs:List TV},resTV E l s=some vs →
  ∃us,us.length=l.length∧TVsRep w Z s ι vs us∧∀i (hi:i<l.length) (hi':i<us.length),((fun | .tmp t=>pure (a.tmps.getD t undef) | .cell b t=>do loadVar t (← asAddr (a.tmps.getD b undef)):ResultVar→Sem Value) l[i]).run P w=.ok us[i] w
 | [],vs,hr=>by
  obtain rfl:=osj hr
  exact⟨[],rfl,by simp only [TVsRep],fun i hi=>by simp at hi⟩
 | .tmp t :: l,vs,hr=>by
  simp only [resTV] at hr
  obtain ⟨vs',h1,hr⟩:=obi hr
  obtain rfl:=osj hr
  obtain ⟨us,g1,g2,g3⟩:=resTV_sound hT h h1
  refine⟨_ :: us,by simp [g1],by simp only [TVsRep];exact⟨_,_,rfl,h.tmps t,g2⟩,fun i hi hi'=>?_⟩
  cases i with
  | zero=>rfl
  | succ i=>exact g3 i (by simpa using hi) (by simpa using hi')
 | .cell b ty :: l,vs,hr=>by
  simp only [resTV] at hr
  cases ht:E.ty ty with
  | none=>rw [ht] at hr;simp at hr
  | some T =>
   rw [ht] at hr
   cases hp:s.t b with
   | ptr p =>
    rw [hp] at hr
    simp only at hr
    obtain ⟨v,hv,hr⟩:=obi hr
    obtain ⟨vs',h1,hr⟩:=obi hr
    obtain rfl:=osj hr
    obtain ⟨cs,k1,k2⟩:=obi hv
    obtain ⟨us,g1,g2,g3⟩:=resTV_sound hT h h1
    have hx:=h.tmps b
    rw [hp] at hx
    simp only [TVRep] at hx
    obtain ⟨_,A,he,hpl⟩:=hx
    obtain ⟨b0,i0,ws,rfl,hc,hat,hlen⟩:=readP_sound h k1 hpl
    refine⟨wrapV T ws :: us,by simp [g1],by simp only [TVsRep];exact⟨_,_,rfl,wrapT_rep k2 hc,g2⟩,fun i hi hi'=>?_⟩
    cases i with
    | zero =>
     show(do loadVar ty (← asAddr (a.tmps.getD b undef)):Sem Value).run P w=_
     rw [run_bind,he]
     show(loadVar ty (at_ b0 i0)).run P w=_
     exact run_loadVar (hT.ty ty T ht) hat hlen
    | succ i=>exact g3 i (by simpa using hi) (by simpa using hi')
   | _=>rw [hp] at hr;simp at hr
theorem results_sound{fn:Func}{vs:List TV}(hT:TyOk P E)(h:Inv w0 F0 Z0 n s a w ι Z)(hr:resTV E fn.results.toList s=some vs) :
  ∃us,TVsRep w Z s ι vs us∧(results fn a.tmps).run P w=.ok (retV us) w:=by
 obtain ⟨us,h1,h2,h3⟩:=resTV_sound hT h hr
 refine⟨us,h2,?_⟩
 unfold results
 rw [run_bind,run_mapM (vs:=us) (by simpa using h1) (fun i hi hi'=>by
  have:=h3 i hi hi'
  revert this
  cases fn.results.toList[i] <;> exact fun h=>h)]
 simp only
 rw [run_pure]
 congr 1
 unfold retV
 split
 ·rename_i hs
  match us,hs with
  | [v],_=>rfl
  | [],hs=>simp at hs
  | _ :: _ :: _,hs=>simp at hs
 ·rename_i hs
  match us,hs with
  | [v],hs=>simp at hs
  | [],_=>rfl
  | _ :: _ :: _,_=>rfl
theorem getD_args(us:List Value)(m k:Nat):((us.toArray++Array.replicate m undef).getD k undef)=us.getD k undef:=by
 rw [Array.getD_eq_getD_getElem?,List.getD_eq_getElem?_getD]
 by_cases hk:k<us.length
 ·rw [Array.getElem?_append_left (by simpa using hk)];simp
 ·rw [Array.getElem?_append_right (by simpa using Nat.le_of_not_lt hk)]
  rw [List.getElem?_eq_none (by omega)]
  simp only [List.size_toArray,Option.getD_none]
  by_cases hk':k-us.length<m
  ·rw [Array.getElem?_eq_getElem (by simpa using hk')];simp
  ·rw [Array.getElem?_eq_none (by simpa using Nat.le_of_not_lt hk')];rfl
theorem TVsRep.getD:∀ {xs:List TV} {us:List Value},TVsRep w Z s ι xs us→∀k,TVRep w Z s ι (xs.getD k .und) (us.getD k undef)
 | [],us,h,k=>by simp only [List.getD_nil,TVRep]
 | x :: xs,us,h,k=>by
  simp only [TVsRep] at h
  obtain ⟨u,us',rfl,h1,h2⟩:=h
  cases k with
  | zero=>exact h1
  | succ k=>exact TVsRep.getD h2 k
theorem TVsRep.len:∀ {xs:List TV} {us:List Value},TVsRep w Z s ι xs us→us.length=xs.length
 | [],us,h=>by simp only [TVsRep] at h;rw [h];rfl
 | x :: xs,us,h=>by
  simp only [TVsRep] at h
  obtain ⟨u,us',rfl,h1,h2⟩:=h
  simp [TVsRep.len h2]
theorem caps_wrap:∀ {t:Ty} {m:Md} {x:t.D} {vs us:List Value} {F:Reg},t.Rep w Z m x vs F→capsV (wrapV t vs :: us)=capsV us
 | .int k,_,_,_,_,_,h=>by simp only [Ty.Rep] at h;subst h;rfl
 | .bool,_,_,_,_,_,h=>by simp only [Ty.Rep] at h;subst h;rfl
 | .str,_,_,_,_,_,h=>by simp only [Ty.Rep] at h;obtain ⟨b,rfl,_⟩:=h;rfl
 | .raw,_,_,_,_,_,h=>by simp only [Ty.Rep] at h;obtain ⟨rfl,_,_,_,rfl⟩:=h;rfl
 | .sl t,.O e,_,_,_,_,h=>by simp only [Ty.Rep] at h;obtain ⟨A,c,rfl,_⟩:=h;rfl
 | .sl t,.R,_,_,_,_,h=>by simp only [Ty.Rep] at h;obtain ⟨A,c,rfl,_⟩:=h;rfl
 | .sl t,.S _,_,_,_,_,h=>by simp only [Ty.Rep] at h;obtain ⟨A,c,rfl,_⟩:=h;rfl
 | .st ts,_,_,_,_,_,_=>rfl
theorem arg_len{key:Nat} : ∀(ps:List PSpec) (x:(PSpec.ins ps).D) (U:List Value) (F:Reg),ArgRep w Z key ps x U F→U.length=ps.length
 | [],x,U,F,h=>by rw [show U=[] from h];rfl
 | .fn _ _ :: ps,x,U,F,h=>by obtain ⟨a,b,us',rfl,_,h2⟩:=h;simp [arg_len ps x us' F h2]
 | .val _ _ :: ps,x,U,F,h=>by obtain ⟨v,us',G,H,rfl,_,h2,_⟩:=h;simp [arg_len ps _ _ _ h2]
 | .frz _ :: ps,x,U,F,h=>by obtain ⟨v,us',G,H,rfl,_,h2,_⟩:=h;simp [arg_len ps _ _ _ h2]
 | .vm _ _ :: ps,x,U,F,h=>by obtain ⟨v,us',G,H,rfl,_,h2,_⟩:=h;simp [arg_len ps _ _ _ h2]
 | .ref _ :: ps,x,U,F,h=>by obtain ⟨b,o,v,us',rfl,_,_,_,h2⟩:=h;simp [arg_len ps _ _ _ h2]
 | .mut _ _ _ :: ps,x,U,F,h=>by obtain ⟨b,o,v,us',G,H,rfl,_,_,_,h2,_⟩:=h;simp [arg_len ps _ _ _ h2]
theorem TVsRep.split:∀ {q:List TV} {l k:List Value},TVsRep w Z s ι q (l++k)→TVsRep w Z s ι (q.take l.length) l∧TVsRep w Z s ι (q.drop l.length) k
 | q,[],k,h=>by simp only [List.length_nil,List.take_zero,List.drop_zero,TVsRep];exact⟨trivial,h⟩
 | [],u :: l,k,h=>by simp [TVsRep] at h
 | v :: q,u :: l,k,h=>by
  simp only [List.cons_append,TVsRep] at h
  obtain ⟨u2,us2,he,k1,k2⟩:=h
  injection he with e3 e4
  subst e3 e4
  obtain ⟨h1,h2⟩:=TVsRep.split (q:=q) (l:=l) (k:=k) k2
  refine⟨?_,?_⟩
  ·simp only [List.length_cons,List.take_succ_cons,TVsRep];exact⟨_,l,rfl,k1,h1⟩
  ·simpa only [List.length_cons,List.drop_succ_cons] using h2
theorem fnTs_rep{key:Nat} : ∀(ps:List PSpec) (x:(PSpec.ins ps).D) (U us:List Value) (F:Reg) (q:List TV),okFn ps=true→ArgRep w Z key ps x U F→U=us++capsV us→TVsRep w Z s ι q U→TVsRep w Z s ι (fnTs key ps q) us
 | [],x,U,us,F,q,_,hA,hU,hq=>by
  have hA:U=[]:=hA
  subst hA
  obtain ⟨rfl,_⟩:=List.append_eq_nil_iff.1 hU.symm
  cases q <;> simp only [fnTs,TVsRep]
 | .fn nf nc :: ps,x,U,us,F,q,hok,hA,hU,hq=>by
  obtain ⟨a,b,us',rfl,⟨ha,hb⟩,h2⟩:=hA
  have hl:=arg_len _ _ _ _ h2
  have hok1:=Nat.eq_of_beq_eq_true hok
  cases us with
  | nil=>cases hU
  | cons u us =>
   injection hU with e1 e2
   subst e1
   have hz:us=[]:=by
    have:=congrArg List.length e2
    simp [capsV] at this
    exact List.length_eq_zero_iff.1 (by omega)
   subst hz
   simp only [capsV,List.nil_append,List.append_nil] at e2
   subst e2
   cases q with
   | nil=>simp [TVsRep] at hq
   | cons v q =>
    simp only [TVsRep] at hq
    obtain ⟨u2,us2,he,_,k2⟩:=hq
    injection he with e3 e4
    subst e3 e4
    obtain ⟨k3,k4⟩:=TVsRep.split (l:=a.toList) (k:=b.toList) k2
    simp only [fnTs,TVsRep,TVRep]
    rw [Array.length_toList,ha] at k3 k4
    exact⟨_,[],rfl,⟨a.toList,b.toList,by simp,k3,k4⟩,rfl⟩
 | .val t m :: ps,x,U,us,F,q,hok,hA,hU,hq=>by
  obtain ⟨vs,us',G,H,rfl,h1,h2,_⟩:=hA
  cases us with
  | nil=>cases hU
  | cons u us =>
   injection hU with e1 e2
   subst e1
   rw [caps_wrap h1] at e2
   cases q with
   | nil=>simp [TVsRep] at hq
   | cons v q =>
    simp only [TVsRep] at hq
    obtain ⟨u2,us2,he,k1,k2⟩:=hq
    injection he with e3 e4
    subst e3 e4
    simp only [fnTs,TVsRep]
    exact⟨_,us,rfl,k1,fnTs_rep ps x.2 _ us _ q hok h2 e2 k2⟩
 | .frz t :: ps,x,U,us,F,q,hok,hA,hU,hq=>by
  obtain ⟨vs,us',G,H,rfl,h1,h2,_⟩:=hA
  cases us with
  | nil=>cases hU
  | cons u us =>
   injection hU with e1 e2
   subst e1
   rw [caps_wrap h1] at e2
   cases q with
   | nil=>simp [TVsRep] at hq
   | cons v q =>
    simp only [TVsRep] at hq
    obtain ⟨u2,us2,he,k1,k2⟩:=hq
    injection he with e3 e4
    subst e3 e4
    simp only [fnTs,TVsRep]
    exact⟨_,us,rfl,k1,fnTs_rep ps x.2 _ us _ q hok h2 e2 k2⟩
 | .vm t m :: ps,x,U,us,F,q,hok,hA,hU,hq=>by
  obtain ⟨vs,us',G,H,rfl,h1,h2,_⟩:=hA
  cases us with
  | nil=>cases hU
  | cons u us =>
   injection hU with e1 e2
   subst e1
   rw [caps_wrap h1] at e2
   cases q with
   | nil=>simp [TVsRep] at hq
   | cons v q =>
    simp only [TVsRep] at hq
    obtain ⟨u2,us2,he,k1,k2⟩:=hq
    injection he with e3 e4
    subst e3 e4
    simp only [fnTs,TVsRep]
    exact⟨_,us,rfl,k1,fnTs_rep ps x.2 _ us _ q hok h2 e2 k2⟩
 | .ref t :: ps,x,U,us,F,q,hok,hA,hU,hq=>by
  obtain ⟨b,o,vs,us',rfl,_,_,_,h2⟩:=hA
  cases us with
  | nil=>cases hU
  | cons u us =>
   injection hU with e1 e2
   subst e1
   have e2:us'=us++capsV us:=e2
   cases q with
   | nil=>simp [TVsRep] at hq
   | cons v q =>
    simp only [TVsRep] at hq
    obtain ⟨u2,us2,he,k1,k2⟩:=hq
    injection he with e3 e4
    subst e3 e4
    simp only [fnTs,TVsRep]
    exact⟨_,us,rfl,k1,fnTs_rep ps x.2 _ us _ q hok h2 e2 k2⟩
 | .mut t m m' :: ps,x,U,us,F,q,hok,hA,hU,hq=>by
  obtain ⟨b,o,vs,us',G,H,rfl,_,_,_,h2,_⟩:=hA
  cases us with
  | nil=>cases hU
  | cons u us =>
   injection hU with e1 e2
   subst e1
   have e2:us'=us++capsV us:=e2
   cases q with
   | nil=>simp [TVsRep] at hq
   | cons v q =>
    simp only [TVsRep] at hq
    obtain ⟨u2,us2,he,k1,k2⟩:=hq
    injection he with e3 e4
    subst e3 e4
    simp only [fnTs,TVsRep]
    exact⟨_,us,rfl,k1,fnTs_rep ps x.2 _ us _ q hok h2 e2 k2⟩
theorem fn_sound{f key:Nat}{fn:Func}{body:Code}{e:Entry}{tpls:Nat→Option Tpl}(hO:Ok P E)(hf:P.funcs[f]?=some fn)(hb:fn.body=some body)(hname:(fn.name == "runtime.NumGoroutine")=false)
  (hn:Nat.beq E.n fn.ntmps=true) (hps:okFn e.ps=true) (hlen:Nat.ble e.ps.length fn.ntmps=true) (hu:oncePlace body=true)
  (hF:∀x r,e.f x=some r→∃m,startF E fn body tpls key e (loopF E tpls body (finF E fn e) m) x=some r):Sound P f key e:=by
 refine⟨⟨fn,hf,by rw [hb];rfl,hname⟩,fun w Z F x us r hZ hF' hap hA hx=>?_⟩
 obtain ⟨m,hm⟩:=hF x r hx
 unfold startF at hm
 obtain ⟨st,hst,hm⟩:=obi hm
 unfold enterSt at hst
 obtain ⟨q,hq,hst⟩:=obi hst
 obtain rfl:=osj hst
 have hul:=arg_len _ _ _ _ hA
 rw [List.length_append] at hul
 have hle:=Nat.le_of_ble_eq_true hlen
 let a0:Act := { tmps:=us.toArray++Array.replicate (fn.ntmps-us.toArray.size) undef,defers:=[] }
 have hsz:a0.tmps.size=fn.ntmps:=by simp [a0];omega
 have hinv0:Inv w F Z ⟨fn.ntmps,[],[]⟩ ⟨fun _=>.und,fun _=>.none,[]⟩ a0 w (fun _=>⟨none,0,Reg.none⟩) Z:=Inv.start hZ hsz rfl
 obtain ⟨ι1,i1,held,hrep,fr⟩:=enter_sound e.ps x (us++capsV us) _ _ _ F q hq hinv0 hA ⟨fun b o h=>⟨.inl h,hF' b o h⟩,fun _ h=>h.elim,hap⟩
 have hinv:Inv w F Z ⟨fn.ntmps,us++capsV us,[]⟩ ⟨fun k=>(fnTs key e.ps q.1).getD k .und,q.2.1.o,q.1⟩ a0 w ι1 Z:=by
  have hm:Moves w Z q.2.1 ι1 w Z ⟨fun k=>(fnTs key e.ps q.1).getD k .und,q.2.1.o,q.1⟩ ι1:=moves_tmp rfl
  exact⟨i1.ext,i1.zsub,i1.zold,i1.zin,fun id=>ObjRep.move hm (id:=id) (fun _=>⟨rfl,rfl⟩) rfl (i1.objs id),i1.own,i1.apart,i1.apartZ,
   fun k=>by
    show TVRep w Z _ ι1 ((fnTs key e.ps q.1).getD k .und) ((us.toArray++Array.replicate (fn.ntmps-us.toArray.size) undef).getD k undef)
    rw [getD_args]
    exact(TVsRep.move hm (fnTs_rep e.ps x _ us F q.1 hps hA rfl hrep)).getD k,hsz,TVsRep.move hm hrep,fun e he=>by simp at he,rfl⟩
 intro cs
 let b0:Frame := { (default:Frame) with fn:=f,kind:=.normal }
 have henter:Frame.enter P f us.toArray .normal=b0.at a0 [.code body]:=by
  simp [Frame.enter,Frame.at,hf,hb,b0,a0]
 obtain ⟨t',a',w',⟨hend,s',hfin,ι',Z',hi'⟩,hsteps⟩:=walk_sound (n:=⟨fn.ntmps,us++capsV us,[]⟩) hO (Nat.eq_of_beq_eq_true hn) rfl hu m 100000 false [.code body] _ a0 w (fun _ h=>h) hm ⟨ι1,Z,hinv⟩ b0 cs
 unfold finF at hfin
 obtain ⟨vs,hvs,hfin⟩:=obi hfin
 obtain ⟨rvs,hr1,hr2⟩:=results_sound hO.ty hi' hvs
 obtain ⟨s2,F2,Z2,j1,j2,j3,j4,j5⟩:=outR_sound e.rs vs rvs s' Z' r hfin hi' hi'.ghost hr1
 have hends:Ends w Z F e us r (retV rvs) w':=by
  refine⟨rvs,Z2,F2,rfl,hi'.ext,j1.zold,fun b o hz=>?_,fun b o hf=>?_,j3.apartZ,j4⟩
  ·rcases j1.zsub b o hz with h1 | h1 | h1
   ·exact .inl h1
   ·exact .inr ⟨.inl h1,j1.zin b o hz⟩
   ·exact .inr ⟨.inr h1,j1.zin b o hz⟩
  ·exact j3.own b o hf
 rw [henter]
 rcases hend with rfl | ⟨k,rfl⟩
 ·exact⟨.returned (retV rvs),w',_,⟨_,rfl,hends⟩,Steps.trans hsteps (.one step_end),rfl,rfl,hi'.defers,rfl,fn,hf,hr2⟩
 ·exact⟨.returned (retV rvs),w',_,⟨_,rfl,hends⟩,Steps.trans hsteps (.one step_ret),rfl,rfl,hi'.defers,rfl,fn,hf,hr2⟩
end
end Go.LM
namespace Go.LM
mutual
def Ty.cmpB(P:Program):Ty→TypeId→Bool
 | .int _,_=>true
 | .bool,_=>true
 | .str,_=>true
 | .sl _,_=>false
 | .raw,_=>false
 | .st ts,id => !P.stoodInHeld id&&match P.underlying id with | some (.struct fs)=>ts.cmpFB P fs.toList | _=>false
def Tys.cmpFB(P:Program):Tys→List Field→Bool
 | .nil,_=>true
 | .cons t ts,fs=>match fs with
  | f :: fs'=>decide (f.name ≠ "_")&&t.cmpB P f.type&&ts.cmpFB P fs'
  | []=>false
end
mutual
def Ty.deep:Ty→Nat
 | .st ts=>ts.deep+1
 | _=>1
def Tys.deep:Tys→Nat
 | .nil=>0
 | .cons t ts=>t.deep+ts.deep
end
section
variable{P:Program}{w:World}{Z:Reg}{s:St}{ι : Nat→OI}
theorem cmp_int{k:IntKind}{cs ds:List HC}{r:Bool×List HC×List HC}(h:(Ty.int k).cmp cs ds=some r):∃x a y b,cs=.int k x :: a∧ds=.int k y :: b∧r=(x==y,a,b):=by
 cases cs with
 | nil=>simp [Ty.cmp] at h
 | cons c a=>cases ds with
  | nil=>cases c <;> simp [Ty.cmp] at h
  | cons d b =>
   cases c <;> cases d <;> simp only [Ty.cmp] at h <;> first | (cases h;done) | skip
   rename_i k1 x k2 y
   cases hk:(Nat.beq (kindNo k1) (kindNo k)&&Nat.beq (kindNo k2) (kindNo k))
   ·rw [hk] at h;cases h
   rw [hk] at h
   simp only [Bool.and_eq_true] at hk
   obtain rfl:=kindNo_inj (Nat.eq_of_beq_eq_true hk.1)
   obtain rfl:=kindNo_inj (Nat.eq_of_beq_eq_true hk.2)
   exact⟨x,a,y,b,rfl,rfl,(osj h).symm⟩
theorem cmp_bool{cs ds:List HC}{r:Bool×List HC×List HC}(h:Ty.bool.cmp cs ds=some r):∃x a y b,cs=.bool x :: a∧ds=.bool y :: b∧r=(x==y,a,b):=by
 cases cs with
 | nil=>simp [Ty.cmp] at h
 | cons c a=>cases ds with
  | nil=>cases c <;> simp [Ty.cmp] at h
  | cons d b =>
   cases c <;> try (simp [Ty.cmp] at h;done)
   cases d <;> try (simp [Ty.cmp] at h;done)
   simp only [Ty.cmp] at h
   exact⟨_,a,_,b,rfl,rfl,(osj h).symm⟩
theorem cmp_str{cs ds:List HC}{r:Bool×List HC×List HC}(h:Ty.str.cmp cs ds=some r):∃x a y b,cs=.str x :: a∧ds=.str y :: b∧r=(eqS x y,a,b):=by
 cases cs with
 | nil=>simp [Ty.cmp] at h
 | cons c a=>cases ds with
  | nil=>cases c <;> simp [Ty.cmp] at h
  | cons d b =>
   cases c <;> try (simp [Ty.cmp] at h;done)
   cases d <;> try (simp [Ty.cmp] at h;done)
   simp only [Ty.cmp] at h
   exact⟨_,a,_,b,rfl,rfl,(osj h).symm⟩
theorem two_cons{c c':HC}{a b:List HC}{us vs:List Value}(h1:CellsRep w Z s ι (c :: a) us)(h2:CellsRep w Z s ι (c' :: b) vs) :
  ∃u us2 v vs2,us=u :: us2∧vs=v :: vs2∧CellRep w Z s ι c u∧CellRep w Z s ι c' v∧CellsRep w Z s ι a us2∧CellsRep w Z s ι b vs2:=by
 cases us with
 | nil=>exact h1.elim
 | cons u us=>cases vs with
  | nil=>exact h2.elim
  | cons v vs=>exact⟨u,us,v,vs,rfl,rfl,h1.1,h2.1,h1.2,h2.2⟩
mutual
theorem Ty.cmp_sound:∀(t:Ty) (id:TypeId) (d:Nat) {cs ds:List HC} {r:Bool×List HC×List HC} {us vs:List Value},t.ok P id→t.cmpB P id=true→t.deep≤d→t.cmp cs ds=some r →
  CellsRep w Z s ι cs us→CellsRep w Z s ι ds vs→∃us1 us2 vs1 vs2,us=us1++us2∧vs=vs1++vs2∧us1.length=t.size∧vs1.length=t.size∧CellsRep w Z s ι r.2.1 us2∧CellsRep w Z s ι r.2.2 vs2 ∧
   (Op.equalIn d id (wrapV t us1) (wrapV t vs1)).run P w=.ok r.1 w
 | .int k,id,0,cs,ds,r,us,vs,ho,hc,hd,h,h1,h2=>by simp [Ty.deep] at hd
 | .int k,id,d+1,cs,ds,r,us,vs,ho,hc,hd,h,h1,h2=>by
  simp only [Ty.ok] at ho
  obtain ⟨x,a,y,b,rfl,rfl,rfl⟩:=cmp_int h
  obtain ⟨u,us2,v,vs2,rfl,rfl,e1,e2,g1,g2⟩:=two_cons h1 h2
  simp only [CellRep] at e1 e2
  subst e1 e2
  exact⟨[_],us2,[_],vs2,rfl,rfl,rfl,rfl,g1,g2,run_equalIn_int w d id _ _ x y ho.1⟩
 | .bool,id,0,cs,ds,r,us,vs,ho,hc,hd,h,h1,h2=>by simp [Ty.deep] at hd
 | .bool,id,d+1,cs,ds,r,us,vs,ho,hc,hd,h,h1,h2=>by
  simp only [Ty.ok] at ho
  obtain ⟨x,a,y,b,rfl,rfl,rfl⟩:=cmp_bool h
  obtain ⟨u,us2,v,vs2,rfl,rfl,e1,e2,g1,g2⟩:=two_cons h1 h2
  simp only [CellRep] at e1 e2
  subst e1 e2
  exact⟨[_],us2,[_],vs2,rfl,rfl,rfl,rfl,g1,g2,run_equalIn_bool w d id x y ho.1⟩
 | .str,id,0,cs,ds,r,us,vs,ho,hc,hd,h,h1,h2=>by simp [Ty.deep] at hd
 | .str,id,d+1,cs,ds,r,us,vs,ho,hc,hd,h,h1,h2=>by
  simp only [Ty.ok] at ho
  obtain ⟨x,a,y,b,rfl,rfl,rfl⟩:=cmp_str h
  obtain ⟨u,us2,v,vs2,rfl,rfl,e1,e2,g1,g2⟩:=two_cons h1 h2
  obtain ⟨bx,rfl,rfl⟩:=e1
  obtain ⟨by_,rfl,rfl⟩:=e2
  refine⟨[_],us2,[_],vs2,rfl,rfl,rfl,rfl,g1,g2,?_⟩
  rw [← toList_eqS]
  exact run_equalIn_string w d id bx by_ ho.1
 | .raw,id,d,cs,ds,r,us,vs,ho,hc,hd,h,h1,h2=>by simp [Ty.cmpB] at hc
 | .sl t,id,d,cs,ds,r,us,vs,ho,hc,hd,h,h1,h2=>by simp [Ty.cmpB] at hc
 | .st ts,id,0,cs,ds,r,us,vs,ho,hc,hd,h,h1,h2=>by simp [Ty.deep] at hd
 | .st ts,id,d+1,cs,ds,r,us,vs,ho,hc,hd,h,h1,h2=>by
  simp only [Ty.ok] at ho
  obtain ⟨_,fs,hu,hof⟩:=ho
  simp only [Ty.cmpB,Bool.and_eq_true,Bool.not_eq_true',hu] at hc
  simp only [Ty.deep] at hd
  simp only [Ty.cmp] at h
  obtain ⟨us1,us2,vs1,vs2,e1,e2,l1,l2,g1,g2,g3⟩:=Tys.cmp_sound ts fs.toList 0 d [] [] hof hc.2 (by omega) h h1 h2 rfl rfl
  refine⟨us1,us2,vs1,vs2,e1,e2,l1,l2,g1,g2,?_⟩
  have hfs:P.fieldsOf id=fs:=by simp [Program.fieldsOf,hu]
  show(Op.equalIn (d+1) id (.agg us1.toArray) (.agg vs1.toArray)).run P w=_
  rw [run_equalIn_struct w d id us1.toArray vs1.toArray (by rw [hfs];exact hu) hc.1,hfs]
  have:=g3 [] []
  simpa using this
theorem Tys.cmp_sound:∀(ts:Tys) (fs:List Field) (off d:Nat) {cs ds:List HC} {r:Bool×List HC×List HC} {us vs:List Value} (pre pre':List Value),ts.okF P fs off→ts.cmpFB P fs=true→ts.deep≤d→ts.cmp cs ds=some r →
  CellsRep w Z s ι cs us→CellsRep w Z s ι ds vs→pre.length=off→pre'.length=off→∃us1 us2 vs1 vs2,us=us1++us2∧vs=vs1++vs2∧us1.length=ts.size∧vs1.length=ts.size∧CellsRep w Z s ι r.2.1 us2∧CellsRep w Z s ι r.2.2 vs2 ∧
   ∀tl tl':List Value,(Op.eqFields d (pre++us1++tl).toArray (pre'++vs1++tl').toArray fs).run P w=.ok r.1 w
 | .nil,fs,off,d,cs,ds,r,us,vs,pre,pre',ho,hc,hd,h,h1,h2,hp,hp'=>by
  simp only [Tys.okF] at ho
  subst ho
  obtain rfl:=osj h
  exact⟨[],us,[],vs,rfl,rfl,rfl,rfl,h1,h2,fun _ _=>by simp only [Op.eqFields];exact run_pure _ _⟩
 | .cons t ts,fs,off,d,cs,ds,r,us,vs,pre,pre',ho,hc,hd,h,h1,h2,hp,hp'=>by
  simp only [Tys.okF] at ho
  obtain ⟨f,fs',rfl,hoff,ho1,ho2⟩:=ho
  simp only [Tys.cmpFB,Bool.and_eq_true,decide_eq_true_eq] at hc
  simp only [Tys.deep] at hd
  simp only [Tys.cmp] at h
  obtain ⟨r1,k1,h⟩:=obi h
  obtain ⟨r2,k2,h⟩:=obi h
  obtain rfl:=osj h
  obtain ⟨a1,a2,b1,b2,rfl,rfl,l1,l2,g1,g2,g3⟩:=Ty.cmp_sound t f.type d ho1 hc.1.2 (by omega) k1 h1 h2
  obtain ⟨a3,a4,b3,b4,rfl,rfl,l3,l4,g4,g5,g6⟩:=Tys.cmp_sound ts fs' (off+t.size) d (pre++a1) (pre'++b1) ho2 hc.2 (by omega) k2 g1 g2 (by simp;omega) (by simp;omega)
  refine⟨a1++a3,a4,b1++b3,b4,by simp,by simp,by simp [Tys.size];omega,by simp [Tys.size];omega,g4,g5,fun tl tl'=>?_⟩
  have p1:=run_part (P:=P) (w:=w) ho1 (cs:=pre++(a1++a3)++tl) (k:=off) (by simp;omega)
  have p2:=run_part (P:=P) (w:=w) ho1 (cs:=pre'++(b1++b3)++tl') (k:=off) (by simp;omega)
  have q1:((pre++(a1++a3)++tl).drop off).take t.size=a1:=by
   rw [← hp,← l1];simp
  have q2:((pre'++(b1++b3)++tl').drop off).take t.size=b1:=by
   rw [← hp',← l2];simp
  rw [q1] at p1
  rw [q2] at p2
  simp only [Op.eqFields]
  rw [if_pos hc.1.1,run_bind,hoff,p1]
  simp only
  rw [run_bind,p2]
  simp only
  rw [run_bind,g3]
  simp only
  cases hr:r1.1
  ·simp only [Bool.not_false,if_true,Bool.false_and];exact run_pure _ _
  ·simp only [Bool.not_true,Bool.false_eq_true,if_false,Bool.true_and]
   have:=g6 tl tl'
   simpa using this
end
def cmpOk(P:Program):List (Nat×Ty)→List Nat→Bool
 | _,[]=>true
 | tab,k :: l=>(match P.underlying k with | some (.struct _)=>true | _=>false) && !P.eqGuardType P.depth k&&(tab.all fun x => !Nat.beq x.1 k||x.2.cmpB P k&&Nat.ble x.2.deep 10000)&&cmpOk P tab l
theorem cmpOk_mem{tab:List (Nat×Ty)}{k:Nat} : ∀ {l:List Nat},cmpOk P tab l=true→k∈l→(∃fs,P.underlying k=some (.struct fs))∧P.eqGuardType P.depth k=false∧∀T,(k,T)∈tab→T.cmpB P k=true∧T.deep≤10000
 | x :: l,h,hm=>by
  simp only [cmpOk,Bool.and_eq_true,Bool.not_eq_true'] at h
  rcases List.mem_cons.1 hm with rfl | hm
  ·refine⟨?_,h.1.1.2,fun T hT=>?_⟩
   ·have h1:=h.1.1.1
    split at h1
    ·rename_i fs hk;exact⟨fs,hk⟩
    ·cases h1
   ·have h2:=List.all_eq_true.1 h.1.2 _ hT
    rw [Nat.beq_refl] at h2
    simp only [Bool.not_true,Bool.false_or,Bool.and_eq_true] at h2
    exact⟨h2.1,Nat.le_of_ble_eq_true h2.2⟩
  ·exact cmpOk_mem h.2 hm
theorem eq_struct{T:Ty}{k:Nat}(ho:T.ok P k)(hu:∃fs,P.underlying k=some (.struct fs))(hg:P.eqGuardType P.depth k=false)(hc:T.cmpB P k=true)(hd:T.deep≤10000)(op:BinOp)(xo yo:Operand)(w:World)(Z:Reg)(s:St)(ι : Nat→OI)
  (cs ds:List HC) (us vs:List Value) (q:Bool) (h1:CellsRep w Z s ι cs us) (h2:CellsRep w Z s ι ds vs) (h:T.cmp cs ds=some (q,[],[])) :
  (eqGuard op k xo yo (.agg us.toArray) (.agg vs.toArray)).run P w=.ok () w∧(op=.eql→(binOp op k (.agg us.toArray) (.agg vs.toArray)).run P w=.ok (.bool q) w) ∧
   (op=.neq→(binOp op k (.agg us.toArray) (.agg vs.toArray)).run P w=.ok (.bool (!q)) w):=by
 obtain ⟨us1,us2,vs1,vs2,rfl,rfl,l1,l2,g1,g2,g3⟩:=Ty.cmp_sound T k 10000 ho hc hd h h1 h2
 have n1:us2=[]:=by cases us2 with | nil=>rfl | cons=>exact g1.elim
 have n2:vs2=[]:=by cases vs2 with | nil=>rfl | cons=>exact g2.elim
 subst n1 n2
 have hT:∃ts,T=.st ts:=by
  obtain ⟨fs,hu⟩:=hu
  cases T with
  | st ts=>exact⟨ts,rfl⟩
  | int=>simp only [Ty.ok] at ho;rw [hu] at ho;cases ho.1
  | bool=>simp only [Ty.ok] at ho;rw [hu] at ho;cases ho.1
  | str=>simp only [Ty.ok] at ho;rw [hu] at ho;cases ho.1
  | sl t=>simp only [Ty.ok] at ho;obtain ⟨_,e,he,_⟩:=ho;rw [hu] at he;cases he
  | raw=>simp only [Ty.ok] at ho;obtain ⟨_,e,he⟩:=ho;rw [hu] at he;cases he
 obtain ⟨ts,rfl⟩:=hT
 simp only [List.append_nil]
 have heq:(Op.equal k (.agg us1.toArray) (.agg vs1.toArray)).run P w=.ok q w:=g3
 refine⟨?_,?_,?_⟩
 ·unfold eqGuard
  cases op <;> try rfl
  all_goals
   have hprog:∀w:World,(program:Sem Program).run P w=.ok P w:=fun _=>rfl
   simp only [Bool.not_true,Bool.false_eq_true,if_false,run_bind,hprog,hg,Bool.not_false,if_true]
   rfl
 ·rintro rfl
  show(do pure (.bool (← Op.equal k _ _)):Sem Value).run P w=_
  rw [run_bind,heq];rfl
 ·rintro rfl
  show(do pure (.bool (!(← Op.equal k _ _))):Sem Value).run P w=_
  rw [run_bind,heq];rfl
end
end Go.LM
namespace Go.LM
def zeroV:Value→Value→Bool
 | .int k x,.int k' y=>Nat.beq (kindNo k) (kindNo k')&&decide (x=y)
 | .bool a,.bool b=>a==b
 | .string a,.string b=>decide (a.data.toList=b.data.toList)
 | .slice none 0 0,.slice none 0 0=>true
 | _,_=>false
theorem zeroV_eq{u v:Value}(h:zeroV u v=true):u=v:=by
 unfold zeroV at h
 split at h
 ·simp only [Bool.and_eq_true,decide_eq_true_eq] at h
  rw [kindNo_inj (Nat.eq_of_beq_eq_true h.1),h.2]
 ·rw [eq_of_beq h]
 ·rename_i a b
  have h:=of_decide_eq_true h
  obtain ⟨⟨a⟩⟩:=a
  obtain ⟨⟨b⟩⟩:=b
  simp only at h
  rw [h]
 ·rfl
 ·cases h
def zerosV:List Value→List Value→Bool
 | [],[]=>true
 | u :: us,v :: vs=>cond (zeroV u v) (zerosV us vs) false
 | _,_=>false
theorem zerosV_eq:∀ {us vs:List Value},zerosV us vs=true→us=vs
 | [],[],_=>rfl
 | u :: us,v :: vs,h=>by
  unfold zerosV at h
  cases h1:zeroV u v
  ·rw [h1] at h;cases h
  ·rw [h1] at h;rw [zeroV_eq h1,zerosV_eq h]
 | [],_ :: _,h=>by cases h
 | _ :: _,[],h=>by cases h
def zeroT(t:Ty)(v:Value):Bool :=
 match t,v with
 | .st ts,.agg cs=>zerosV cs.toList ts.zvals
 | .st _,_=>false
 | .sl _,v=>zeroV v (.slice none 0 0)
 | t,v=>zeroV v (t.zvals.headD undef)
theorem zeroT_eq{t:Ty}{v:Value}(h:zeroT t v=true):v=wrapV t t.zvals:=by
 cases t with
 | st ts =>
  cases v <;> simp only [zeroT] at h <;> try (cases h;done)
  rename_i cs
  show Value.agg cs=.agg ts.zvals.toArray
  rw [← zerosV_eq h]
 | _=>exact zeroV_eq h
def infoB(P:Program)(id:TypeId)(t:Ty):Bool :=
 match P.info? id with
 | some i=>Nat.beq i.size t.size&&(match i.zero with | some v=>zeroT t v | none=>false)&&Nat.ble i.bytes 2048
 | none=>false
theorem infoB_ok{P:Program}{id:TypeId}{t:Ty}(h:infoB P id t=true):InfoOk P id t:=by
 unfold infoB at h
 cases hi:P.info? id with
 | none=>rw [hi] at h;cases h
 | some i =>
  rw [hi] at h
  simp only [Bool.and_eq_true] at h
  refine⟨i,hi,Nat.eq_of_beq_eq_true h.1.1,?_,Nat.le_of_ble_eq_true h.2⟩
  have h2:=h.1.2
  cases hz:i.zero with
  | none=>rw [hz] at h2;cases h2
  | some v=>rw [hz] at h2;rw [zeroT_eq h2]
mutual
def Ty.okB(P:Program):Ty→TypeId→Bool
 | .int k,id=>(match P.underlying id with | some (.int k')=>Nat.beq (kindNo k') (kindNo k) | _=>false)&&infoB P id (.int k)
 | .bool,id=>(match P.underlying id with | some .bool=>true | _=>false)&&infoB P id .bool
 | .str,id=>(match P.underlying id with | some .string=>true | _=>false)&&infoB P id .str
 | .raw,id=>infoB P id .raw&&match P.underlying id with | some (.slice _)=>true | _=>false
 | .sl t,id=>infoB P id (.sl t)&&match P.underlying id with | some (.slice e)=>t.okB P e | _=>false
 | .st ts,id=>infoB P id (.st ts)&&match P.underlying id with | some (.struct fs)=>ts.okFB P fs.toList 0 | _=>false
def Tys.okFB(P:Program):Tys→List Field→Nat→Bool
 | .nil,fs,_=>fs.isEmpty
 | .cons t ts,fs,off=>match fs with
  | f :: fs'=>Nat.beq f.offset off&&t.okB P f.type&&ts.okFB P fs' (off+t.size)
  | []=>false
end
mutual
theorem Ty.okB_ok{P:Program} : ∀(t:Ty) (id:TypeId),t.okB P id=true→t.ok P id
 | .int k,id,h=>by
  simp only [Ty.okB,Bool.and_eq_true] at h
  refine⟨?_,infoB_ok h.2⟩
  have h1:=h.1
  split at h1
  ·rename_i k' hk;rw [hk,kindNo_inj (Nat.eq_of_beq_eq_true h1)]
  ·cases h1
 | .bool,id,h=>by
  simp only [Ty.okB,Bool.and_eq_true] at h
  refine⟨?_,infoB_ok h.2⟩
  have h1:=h.1
  split at h1
  ·rename_i hk;exact hk
  ·cases h1
 | .str,id,h=>by
  simp only [Ty.okB,Bool.and_eq_true] at h
  refine⟨?_,infoB_ok h.2⟩
  have h1:=h.1
  split at h1
  ·rename_i hk;exact hk
  ·cases h1
 | .raw,id,h=>by
  simp only [Ty.okB,Bool.and_eq_true] at h
  refine⟨infoB_ok h.1,?_⟩
  have h1:=h.2
  split at h1
  ·rename_i e hk;exact⟨e,hk⟩
  ·cases h1
 | .sl t,id,h=>by
  simp only [Ty.okB,Bool.and_eq_true] at h
  refine⟨infoB_ok h.1,?_⟩
  have h1:=h.2
  split at h1
  ·rename_i e hk;exact⟨e,hk,Ty.okB_ok t e h1⟩
  ·cases h1
 | .st ts,id,h=>by
  simp only [Ty.okB,Bool.and_eq_true] at h
  refine⟨infoB_ok h.1,?_⟩
  have h1:=h.2
  split at h1
  ·rename_i fs hk;exact⟨fs,hk,Tys.okFB_ok ts _ _ h1⟩
  ·cases h1
theorem Tys.okFB_ok{P:Program} : ∀(ts:Tys) (fs:List Field) (off:Nat),ts.okFB P fs off=true→ts.okF P fs off
 | .nil,fs,off,h=>by
  simp only [Tys.okFB,List.isEmpty_iff] at h
  exact h
 | .cons t ts,fs,off,h=>by
  cases fs with
  | nil=>simp [Tys.okFB] at h
  | cons f fs =>
   simp only [Tys.okFB,Bool.and_eq_true] at h
   exact⟨f,fs,rfl,Nat.eq_of_beq_eq_true h.1.1,Ty.okB_ok t _ h.1.2,Tys.okFB_ok ts _ _ h.2⟩
end
def lkT:List (Nat×Ty)→Nat→Option Ty
 | [],_=>none
 | (k,t) :: l,i=>cond (Nat.beq k i) (some t) (lkT l i)
def tabOk(P:Program):List (Nat×Ty)→Bool
 | []=>true
 | (k,t) :: l=>t.okB P k&&tabOk P l
theorem lkT_ok{P:Program}{i:Nat}{T:Ty} : ∀ {l:List (Nat×Ty)},tabOk P l=true→lkT l i=some T→T.ok P i
 | (k,t) :: l,h,hl=>by
  simp only [tabOk,Bool.and_eq_true] at h
  unfold lkT at hl
  cases hb:Nat.beq k i
  ·rw [hb] at hl;exact lkT_ok h.2 hl
  ·rw [hb] at hl
   obtain rfl:=osj hl
   obtain rfl:=Nat.eq_of_beq_eq_true hb
   exact Ty.okB_ok _ _ h.1
def lkP:List Nat→Nat→Bool
 | [],_=>false
 | k :: l,i=>cond (Nat.beq k i) true (lkP l i)
def ptrsOk(P:Program):List Nat→Bool
 | []=>true
 | k :: l=>(match P.underlying k with | some (.pointer _)=>true | _=>false)&&ptrsOk P l
theorem lkP_ok{P:Program}{i:Nat} : ∀ {l:List Nat},ptrsOk P l=true→lkP l i=true→∃e,P.underlying i=some (.pointer e)
 | k :: l,h,hl=>by
  simp only [ptrsOk,Bool.and_eq_true] at h
  unfold lkP at hl
  cases hb:Nat.beq k i
  ·rw [hb] at hl;exact lkP_ok h.2 hl
  ·obtain rfl:=Nat.eq_of_beq_eq_true hb
   have h1:=h.1
   split at h1
   ·rename_i e hk;exact⟨e,hk⟩
   ·cases h1
def lkF:List (Nat×Entry)→Nat→Nat→Option Entry
 | [],_,_=>none
 | (k,e) :: l,f,key=>cond (Nat.blt f 1000000&&Nat.beq k (f+1000000*key)) (some e) (lkF l f key)
def FnsAll(P:Program):List (Nat×Entry)→Prop
 | []=>True
 | (k,e) :: l=>SoundX P (k % 1000000) (k / 1000000) e∧FnsAll P l
theorem lkF_ok{P:Program}{f key:Nat}{e:Entry} : ∀ {l:List (Nat×Entry)},FnsAll P l→lkF l f key=some e→SoundX P f key e
 | (k,e') :: l,h,hl=>by
  unfold lkF at hl
  cases hb:(Nat.blt f 1000000&&Nat.beq k (f+1000000*key))
  ·rw [hb] at hl;exact lkF_ok h.2 hl
  ·rw [hb] at hl
   obtain rfl:=osj hl
   simp only [Bool.and_eq_true] at hb
   have h1:=hb.1
   rw [Nat.blt_eq] at h1
   obtain rfl:=Nat.eq_of_beq_eq_true hb.2
   have h2:=h.1
   rw [show(f+1000000*key) % 1000000=f by omega,show(f+1000000*key) / 1000000=key by omega] at h2
   exact h2
def mkEnv(n:Nat)(tab:List (Nat×Ty))(ptrs eqs:List Nat)(fns:List (Nat×Entry)):Env:=⟨n,lkT tab,lkP eqs,lkP ptrs,lkF fns⟩
theorem lkP_mem{i:Nat} : ∀ {l:List Nat},lkP l i=true→i∈l
 | k :: l,h=>by
  unfold lkP at h
  cases hb:Nat.beq k i
  ·rw [hb] at h;exact List.mem_cons_of_mem _ (lkP_mem h)
  ·rw [Nat.eq_of_beq_eq_true hb];exact List.mem_cons_self
theorem lkT_mem{i:Nat}{T:Ty} : ∀ {l:List (Nat×Ty)},lkT l i=some T→(i,T)∈l
 | (k,t) :: l,hl=>by
  unfold lkT at hl
  cases hb:Nat.beq k i
  ·rw [hb] at hl;exact List.mem_cons_of_mem _ (lkT_mem hl)
  ·rw [hb] at hl
   obtain rfl:=osj hl
   rw [Nat.eq_of_beq_eq_true hb]
   exact List.mem_cons_self
theorem env_ok{P:Program}{n:Nat}{tab:List (Nat×Ty)}{ptrs eqs:List Nat}{fns:List (Nat×Entry)}(ht:tabOk P tab=true)(hp:ptrsOk P ptrs=true)(he:cmpOk P tab eqs=true)(hf:FnsAll P fns)(hm:P.follows .mixedOrders=true):Ok P (mkEnv n tab ptrs eqs fns):=by
 refine⟨⟨fun id T h=>lkT_ok ht h,fun id h=>lkP_ok hp h⟩,fun id T h hT=>?_,fun f key e h=>lkF_ok hf h,hm⟩
 obtain ⟨h1,h2,h3⟩:=cmpOk_mem he (lkP_mem h)
 obtain ⟨h4,h5⟩:=h3 T (lkT_mem hT)
 exact eq_struct (lkT_ok ht hT) h1 h2 h4 h5
@[irreducible] def BIG:Nat:=18446744073709551616
end Go.LM
namespace Go.LM
open Go.ChangeShapes Go.WideShapes Go.ChangeAt Go.RowKit
open Go.ChangeMaps (open_string shut_string)
mutual
def Ty.wfD:(t:Ty)→t.D→Prop
 | .int k,x=>(Lit.int k x).wf=true
 | .bool,_=>True
 | .str,x=>x.length≤maxLen
 | .raw,_=>True
 | .sl t,xs=>xs.length≤maxLen∧∀y,y∈xs→t.wfD y
 | .st ts,x=>ts.wfD x
def Tys.wfD:(ts:Tys)→ts.D→Prop
 | .nil,_=>True
 | .cons t ts,x=>t.wfD x.1∧ts.wfD x.2
end
mutual
def Ty.posT:Ty→Bool
 | .sl t=>Nat.blt 0 t.size&&t.posT
 | .raw=>false
 | .st ts=>ts.posT
 | _=>true
def Tys.posT:Tys→Bool
 | .nil=>true
 | .cons t ts=>t.posT&&ts.posT
end
def WfE:(ps:List PSpec)→(PSpec.ins ps).D→Prop
 | [],_=>True
 | .fn _ _ :: l,x=>WfE l x
 | .val t _ :: l,x=>t.wfD x.1∧WfE l x.2
 | .frz t :: l,x=>t.wfD x.1∧WfE l x.2
 | .vm t _ :: l,x=>t.wfD x.1∧WfE l x.2
 | .ref t :: l,x=>t.wfD x.1∧WfE l x.2
 | .mut t _ _ :: l,x=>t.wfD x.1∧WfE l x.2
def IsTrue:(rs:List RSpec)→(ts:Tys)→(RSpec.outs rs ts).D→Prop
 | [.val .bool .R],_,r=>r.1=true
 | _,_,_=>False
section
variable{H:Type}{enc:TypeId×Value→H}{P:Program}{w W W':World}{base:Nat}{spare:Nat→Bool}{held:Bool}{fuel:Nat}
def Old(w:World):Reg:=fun b _=>b<w.heap.size
theorem cell_old{a:Addr}{v:Value}(h:w.cell? a=some v):a.block<w.heap.size:=by
 rcases Nat.lt_or_ge a.block w.heap.size with h1 | h1
 ·exact h1
 ·simp [World.cell?,Array.getElem?_eq_none h1] at h
theorem cellsOf_ok{t:Ty}{id:TypeId}(h:t.ok P id):P.cellsOf id=t.size:=by
 obtain ⟨i,h1,h2,_⟩:=h.info
 unfold Program.cellsOf
 rw [h1]
 exact h2
theorem cells_some{a:Addr}{k:Nat}{cs:List Value}(h:w.cells? base a k=some cs):cs.length=k∧∀i v,cs[i]?=some v→w.cell? (a.add i)=some v:=by
 unfold World.cells? at h
 split at h
 ·have hl:cs.length=k:=by
   have:=List.length_of_mapM_some h
   simpa using this
  refine⟨hl,fun i v hv=>?_⟩
  have hi:i<k:=by
   rw [← hl]
   exact(List.getElem?_eq_some_iff.1 hv).1
  have:=mapM_get h i (by simpa using hi)
  rw [hv] at this
  simpa using this.symm
 ·cases h
where
 List.length_of_mapM_some {α β : Type} {f : α → Option β} : ∀ {l:List α} {r:List β},l.mapM f=some r→r.length=l.length
  | [],r,h=>by simp at h;subst h;rfl
  | x :: l,r,h=>by
   rw [List.mapM_cons] at h
   simp only [Option.bind_eq_bind,Option.bind_eq_some_iff] at h
   obtain ⟨y,h1,ys,h2,h3⟩:=h
   simp only [Option.pure_def,Option.some.injEq] at h3
   subst h3
   simp [List.length_of_mapM_some h2]
 mapM_get {α β : Type} {f : α → Option β} : ∀ {l:List α} {r:List β},l.mapM f=some r→∀i (hi:i<l.length),r[i]?=f l[i]
  | [],r,h,i,hi=>by simp at hi
  | x :: l,r,h,i,hi=>by
   rw [List.mapM_cons] at h
   simp only [Option.bind_eq_bind,Option.bind_eq_some_iff] at h
   obtain ⟨y,h1,ys,h2,h3⟩:=h
   simp only [Option.pure_def,Option.some.injEq] at h3
   subst h3
   cases i with
   | zero=>simp [h1]
   | succ i=>simpa using mapM_get h2 i (by simpa using hi)
mutual
theorem Ty.read:∀(t:Ty) (id:TypeId) (fuel:Nat) (cs:List Value) (x:DataW H×List MemPlace),t.ok P id→t.posT=true→DataW.trod enc P w base spare held fuel id cs=some x →
  ∃y:t.D,t.Rep w (Old w) .R y cs Reg.none∧t.wfD y
 | .int k,id,fuel,cs,x,ho,hp,h=>by
  obtain ⟨n,rfl,_,hw⟩:=DataW.trod_int (by simp only [Ty.ok] at ho;exact ho.1) h
  exact⟨n,by simp only [Ty.Rep],hw⟩
 | .bool,id,fuel,cs,x,ho,hp,h=>by
  obtain ⟨n,rfl,_⟩:=DataW.trod_bool (by simp only [Ty.ok] at ho;exact ho.1) h
  exact⟨n,by simp only [Ty.Rep],trivial⟩
 | .str,id,fuel,cs,x,ho,hp,h=>by
  obtain ⟨s,rfl,_,hs⟩:=DataW.trod_string (by simp only [Ty.ok] at ho;exact ho.1) h
  exact⟨s.data.toList,by simp only [Ty.Rep];exact⟨s,rfl,rfl⟩,by simp only [Ty.wfD,Array.length_toList];exact hs⟩
 | .raw,id,fuel,cs,x,ho,hp,h=>by simp [Ty.posT] at hp
 | .sl t,id,fuel,cs,x,ho,hp,h=>by
  simp only [Ty.ok] at ho
  obtain ⟨_,e,hu,hoe⟩:=ho
  simp only [Ty.posT,Bool.and_eq_true] at hp
  have hpos:0<t.size:=Nat.le_of_ble_eq_true hp.1
  rcases DataW.trod_slice hu h with⟨rfl,_⟩ | ⟨a,len,cap,elems,rest,m,_,rfl,_,_,hl,hm,hlen,hel,_,_⟩
  ·exact⟨[],by simp only [Ty.Rep];exact⟨none,0,rfl,.inl trivial⟩,by simp [Ty.wfD,maxLen]⟩
  ·have hsz:P.cellsOf e=t.size:=cellsOf_ok hoe
   rw [hsz] at hel
   have hget:∀i,i<len→∃cs' d,w.cells? base (a.add (i*t.size)) t.size=some cs'∧DataW.trod enc P w base spare held m e cs'=some d:=by
    intro i hi
    have h1:=hel i hi
    have h2:∃d,elems[i]?=some d:=⟨_,List.getElem?_eq_getElem (by omega)⟩
    obtain ⟨d,h2⟩:=h2
    rw [h2] at h1
    obtain ⟨cs',h3,h4⟩:=obi h1
    exact⟨cs',d,h3,h4⟩
   have hread:=fun(cs':List Value) (d:DataW H×List MemPlace)=>Ty.read t e m cs' d hoe hp.2
   have hsp0:0<len→a.spot=none∧a.block<w.heap.size:=by
    intro hn
    obtain ⟨cs',d,h1,h2⟩:=hget 0 hn
    obtain ⟨c1,c2⟩:=cells_some h1
    have hc0:=c2 0 cs'[0] (List.getElem?_eq_getElem (by omega))
    simp only [Nat.zero_mul,Addr.add,if_true] at hc0
    exact⟨World.cell?_spot hc0,cell_old hc0⟩
   have hrow:∀(n k:Nat),k+n≤len→∃xs:List t.D,xs.length=n∧Row w (fun y us _=>t.Rep w (Old w) .R y us Reg.none) t.size xs a.block (a.off+k*t.size) Reg.none∧(∀y,y∈xs→t.wfD y):=by
    intro n
    induction n with
    | zero=>intro k _;exact⟨[],rfl,trivial,by simp⟩
    | succ n ih =>
     intro k hk
     obtain ⟨cs',d,h1,h2⟩:=hget k (by omega)
     obtain ⟨y,h3,h4⟩:=hread cs' d h2
     obtain ⟨xs,g1,g3,g4⟩:=ih (k+1) (by omega)
     obtain ⟨c1,c2⟩:=cells_some h1
     obtain ⟨hsp,hblk⟩:=hsp0 (by omega)
     obtain ⟨ab,ao,asp⟩:=a
     simp only at hsp
     subst hsp
     refine⟨y :: xs,by simp [g1],⟨cs',Reg.none,Reg.none,h3,c1,?_,?_,fun _ _ h=>h.elim,fun _ _ h=>h,fun _ _ h=>h⟩,?_⟩
     ·intro i v hv
      have:=c2 i v hv
      rw [show(⟨ab,ao,none⟩:Addr)=at_ ab ao from rfl,add_at,add_at] at this
      exact this
     ·have e1:ao+k*t.size+t.size=ao +(k+1)*t.size:=by rw [Nat.add_mul];omega
      simp only
      rw [e1];exact g3
     ·intro z hz
      rcases List.mem_cons.1 hz with rfl | hz
      ·exact h4
      ·exact g4 z hz
   obtain ⟨xs,g1,g3,g4⟩:=hrow len 0 (by omega)
   refine⟨xs,?_,?_⟩
   ·simp only [Ty.Rep]
    refine⟨some a,cap,by rw [g1],?_⟩
    by_cases hx:xs=[]
    ·exact .inl hx
    ·have hn:0<len:=by
      rw [← g1]
      cases xs with
      | nil=>exact absurd rfl hx
      | cons=>simp
     exact .inr ⟨a,rfl,(hsp0 hn).1,by simpa using g3,fun j hj=>(hsp0 hn).2,by rw [g1];exact hl⟩
   ·simp only [Ty.wfD]
    exact⟨by rw [g1];omega,g4⟩
 | .st ts,id,fuel,cs,x,ho,hp,h=>by
  have hsz:=cellsOf_ok ho
  simp only [Ty.ok] at ho
  obtain ⟨_,fs,hu,hof⟩:=ho
  obtain ⟨xs,n,_,_,hl,hxl,hf⟩:=DataW.trod_struct hu h
  have hlen:cs.length=(Ty.st ts).size:=by rw [hl,hsz]
  have:=Tys.read ts fs.toList 0 n cs hof (by simpa only [Ty.posT] using hp) (by simpa only [Ty.size,Nat.zero_add] using hlen) (fun i f hfi=>by
   have hi:i<xs.length:=by
    rw [hxl]
    have:=(List.getElem?_eq_some_iff.1 hfi).1
    simpa using this
   exact⟨xs[i],by rw [hf i f (by rw [← Array.getElem?_toList];exact hfi),List.getElem?_eq_getElem hi]⟩)
  obtain ⟨y,h1,h2⟩:=this
  rw [List.drop_zero] at h1
  exact⟨y,by simp only [Ty.Rep];exact h1,by simp only [Ty.wfD];exact h2⟩
theorem Tys.read:∀(ts:Tys) (fs:List Field) (off:Nat) (fuel:Nat) (cs:List Value),ts.okF P fs off→ts.posT=true→cs.length=off+ts.size →
  (∀(i:Nat) (f:Field),fs[i]?=some f→∃x,DataW.trod enc P w base spare held fuel f.type ((cs.drop f.offset).take (P.cellsOf f.type))=some x)→∃y:ts.D,ts.Rep w (Old w) .nil y (cs.drop off) Reg.none∧ts.wfD y
 | .nil,fs,off,fuel,cs,ho,hp,hl,hf=>by
  simp only [Tys.size,Nat.add_zero] at hl
  exact⟨(),by simp only [Tys.Rep];rw [List.drop_of_length_le (by omega)],by simp only [Tys.wfD]⟩
 | .cons t ts,fs,off,fuel,cs,ho,hp,hl,hf=>by
  simp only [Tys.okF] at ho
  obtain ⟨f,fs',rfl,h1,h2,h3⟩:=ho
  simp only [Tys.posT,Bool.and_eq_true] at hp
  simp only [Tys.size] at hl
  obtain ⟨x,hx⟩:=hf 0 f rfl
  rw [h1,cellsOf_ok h2] at hx
  obtain ⟨y,g1,g2⟩:=Ty.read t f.type fuel _ x h2 hp.1 hx
  obtain ⟨ys,g3,g4⟩:=Tys.read ts fs' (off+t.size) fuel cs h3 hp.2 (by omega) fun i f' hfi=>hf (i+1) f' (by simpa using hfi)
  refine⟨(y,ys),?_,⟨g2,g4⟩⟩
  simp only [Tys.Rep]
  refine⟨_,_,Reg.none,Reg.none,?_,g1,g3,fun _ _ h=>h.elim,fun _ _ h=>h,fun _ _ h=>h⟩
  rw [← List.drop_drop,List.take_append_drop]
end
theorem wrap_okWide{t:Ty}{id:TypeId}{r:Reach}{v:Value}(ho:t.ok P id)(hv:Value.okWide P w r base id v):v=wrapV t v.cells.toList:=by
 cases t with
 | int k=>obtain ⟨n,rfl⟩:=okWide_int (by simp only [Ty.ok] at ho;exact ho.1) hv;rfl
 | bool=>obtain ⟨n,rfl⟩:=okWide_bool (by simp only [Ty.ok] at ho;exact ho.1) hv;rfl
 | str=>obtain ⟨n,rfl⟩:=okWide_string (by simp only [Ty.ok] at ho;exact ho.1) hv;rfl
 | sl t =>
  simp only [Ty.ok] at ho
  obtain ⟨_,e,hu,_⟩:=ho
  obtain ⟨a,l,c,rfl⟩:=okWide_slice hu hv
  rfl
 | raw =>
  simp only [Ty.ok] at ho
  obtain ⟨_,e,hu⟩:=ho
  obtain ⟨a,l,c,rfl⟩:=okWide_slice hu hv
  rfl
 | st ts =>
  simp only [Ty.ok] at ho
  obtain ⟨_,fs,hu,_⟩:=ho
  simp only [Value.okWide,hu] at hv
  obtain ⟨cs,rfl,_⟩:=hv
  simp [wrapV,Value.cells]
def valsOf:List (Nat×Ty)→List PSpec
 | []=>[]
 | a :: l=>.val a.2 .R :: valsOf l
def asOk(P:Program):List (Nat×Ty)→Bool
 | []=>true
 | a :: l=>a.2.okB P a.1&&a.2.posT&&P.readableRec a.1&&Nat.blt a.1 P.types.size&&asOk P l
theorem args_read{r:Reach}{b0:Nat} : ∀(as:List (Nat×Ty)) (vs:List Value) (ds:List (DataW H)) (p:List MemPlace),asOk P as=true →
  DataW.TrodAll enc P w 0 (fun _=>true) true (as.map (·.1)) vs ds p→(∀(j:Nat) t v,(as.map (·.1))[j]?=some t→vs[j]?=some v→Value.okWide P w r b0 t v) →
  ∃x:(PSpec.ins (valsOf as)).D,ArgRep w (Old w) 0 (valsOf as) x vs Reg.none∧WfE (valsOf as) x∧capsV vs=[]
 | [],vs,ds,p,ho,h,hv=>by
  obtain ⟨rfl,_,_⟩:=trodAll_nil h
  exact⟨(),rfl,trivial,rfl⟩
 | a :: as,vs,ds,p,ho,h,hv=>by
  simp only [asOk,Bool.and_eq_true] at ho
  obtain ⟨v,vs',d,ds',p',q',rfl,rfl,rfl,h1,h2⟩:=trodAll_cons (by simpa using h)
  obtain ⟨x,g1,g2,g3⟩:=args_read as vs' ds' q' ho.2 h2 fun j t u hj hu=>hv (j+1) t u (by simpa using hj) (by simpa using hu)
  have hok:=Ty.okB_ok _ _ ho.1.1.1.1
  obtain ⟨fuel,hf⟩:=h1
  obtain ⟨y,k1,k2⟩:=Ty.read a.2 a.1 fuel _ _ hok ho.1.1.1.2 hf
  have hw:=wrap_okWide hok (hv 0 a.1 v rfl rfl)
  refine⟨(y,x),⟨v.cells.toList,vs',Reg.none,Reg.none,by rw [← hw],k1,g1,fun _ _ h=>h.elim,fun _ _ h=>h,fun _ _ h=>h⟩,⟨k2,g2⟩,?_⟩
  rw [hw,caps_wrap k1]
  exact g3
theorem below_of_ext{w w':World}(h:Ext w w' Reg.none):Below w.heap.size w w':=by
 refine⟨h.os,h.tape,h.output,h.size,fun b hb=>?_⟩
 rcases h.block b hb with h1 | ⟨c,c',e,f,h1,h2,h3,h4⟩
 ·exact h1
 ·rw [h1,h2]
  have:c'=c:=by
   apply Array.ext h3
   intro i hi hi'
   have:=h4 i (fun h=>h.elim)
   rw [Array.getElem?_eq_getElem hi,Array.getElem?_eq_getElem hi'] at this
   exact osj this
  rw [this]
theorem args_stay(hl:laidOutB P=true):∀(as:List (Nat×Ty)) (vs:List Value) (ds:List (DataW H)) (p:List MemPlace),asOk P as=true →
  DataW.TrodAll enc P W 0 (fun _=>true) true (as.map (·.1)) vs ds p→Below W.heap.size W W'→DataW.TrodAll enc P W' 0 (fun b=>decide (b<W.heap.size)) true (as.map (·.1)) vs ds p
 | [],vs,ds,p,ho,h,hb=>by
  obtain ⟨rfl,rfl,rfl⟩:=trodAll_nil h
  exact trodAll_mk0
 | a :: as,vs,ds,p,ho,h,hb=>by
  simp only [asOk,Bool.and_eq_true] at ho
  obtain ⟨v,vs',d,ds',p',q',rfl,rfl,rfl,h1,h2⟩:=trodAll_cons (by simpa using h)
  have hlt:∀x∈p',x.block<W.heap.size:=by obtain ⟨m,hm⟩:=h1;exact DataW.trod_lt m _ _ _ hm
  exact trodAll_cons_mk (Below.trod hl ho.1.1.2 (Nat.le_of_ble_eq_true ho.1.2) h1 hb hlt) (args_stay hl as vs' ds' q' ho.2 h2 hb)
theorem law_main{f:Nat}{fn:Func}{e:Entry}{prs:List (Nat×Ty)}{r:Reach}{b0:Nat}{args:Array Value}{ds:List (DataW H)}{p:List MemPlace}(hS:Sound P f 0 e)(hps:e.ps=valsOf prs)
  (hparams:fn.params.toList=prs.map (·.1)) (hok:asOk P prs=true) (hlaid:laidOutB P=true) (hc:∀x:(PSpec.ins e.ps).D,WfE e.ps x→∃y,e.f x=some y∧IsTrue e.rs (PSpec.muts e.ps) y)
  (hval:∀(j:Nat) t v,fn.params[j]?=some t→args[j]?=some v→Value.okWide P W r b0 t v)
  (hA:DataW.TrodAll enc P W 0 (fun _=>true) true fn.params.toList args.toList ds p) :
  Calls P f args W fun end_ W'=>end_=.returned (.bool true)∧Below W.heap.size W W'∧DataW.TrodAll enc P W' 0 (fun b=>decide (b<W.heap.size)) true fn.params.toList args.toList ds p:=by
 obtain ⟨ps,rs,c⟩:=e
 simp only at hps
 subst hps
 rw [hparams] at hA
 obtain ⟨x,h1,h2,h3⟩:=args_read prs args.toList ds p hok hA fun j t v hj hv=>hval j t v (by rw [← Array.getElem?_toList,hparams];exact hj) (by rw [← Array.getElem?_toList];exact hv)
 obtain ⟨y,hy,ht⟩:=hc x h2
 have hcalls:=hS.calls W (Old W) Reg.none x args.toList y (fun _ _ h=>h) (fun _ _ h=>h.elim) (fun _ _ h=>h.elim) (by rw [h3,List.append_nil];exact h1) hy
 have hargs:args.toList.toArray=args:=by simp
 rw [hargs] at hcalls
 refine Calls.mono hcalls ?_
 rintro end_ w' ⟨v,rfl,hends⟩
 obtain ⟨rvs,Z',F',rfl,hx,_,_,_,_,hres⟩:=hends.out
 have hb:=below_of_ext hx
 refine⟨?_,hb,by rw [hparams];exact args_stay hlaid prs _ _ _ hok hA hb⟩
 have hfin:∀(rs:List RSpec) (ts:Tys) (ps:List PSpec) (us:List Value) (hts:ts=PSpec.muts ps) (y:(RSpec.outs rs (PSpec.muts ps)).D),IsTrue rs (PSpec.muts ps) y→∀F',ResRep w' Z' ps us rs y rvs F'→retV rvs=.bool true:=by
  intro rs ts ps us hts y ht F' hres
  match rs,y,ht,hres with
  | [.val .bool .R],y,ht,hres =>
   obtain ⟨vs,rvs',G,H',rfl,k1,k2,_⟩:=hres
   obtain ⟨rfl,_⟩:=k2
   simp only [Ty.Rep] at k1
   subst k1
   have ht:y.1=true:=ht
   rw [ht]
   rfl
 exact congrArg _ (hfin rs _ _ _ rfl y ht _ hres)
end
end Go.LM
namespace Go.LM
theorem w64_in{x:Int}(h : -9223372036854775808≤x)(h':x≤9223372036854775807):w64 x=x:=by
 show(if(true&&decide (x % 18446744073709551616≥9223372036854775808))=true then x % 18446744073709551616-18446744073709551616 else x % 18446744073709551616)=x
 by_cases hc:x % 18446744073709551616≥9223372036854775808
 ·rw [if_pos (by simp [hc])];omega
 ·rw [if_neg (by simp [hc])];omega
theorem ix_nat{n i:Nat}(h:i<n):ix n (i:Int)=some i:=by
 unfold ix
 rw [if_pos ⟨by omega,by omega⟩]
 simp
theorem gd_eq_get{t:Ty}{xs:List t.D}{i:Nat}(h:i<xs.length):gd t xs i=xs[i]:=by
 unfold gd
 rw [List.getD_eq_getElem?_getD,List.getElem?_eq_getElem h]
 rfl
theorem gd_set_same{t:Ty}{xs:List t.D}{i:Nat}{y:t.D}(h:i<xs.length):gd t (xs.set i y) i=y:=by
 rw [gd_eq_get (by simpa using h)]
 simp
theorem room_of{n:Nat}(h:n≤68719476736):room n=true:=Nat.ble_eq_true_of_le h
theorem rng_nat{n lo hi:Nat}(h:lo≤hi)(h':hi≤n):rng n (lo:Int) (hi:Int)=some (lo,hi):=by
 unfold rng
 rw [if_pos ⟨by omega,by omega,by omega⟩]
 simp
theorem both_same{α : Type}(a:Option α):both a a=a:=by unfold both;rw [if_pos rfl]
theorem dup_eq{α : Type}(a:Option α):dup a=a:=both_same a
theorem eqS_refl(s:List UInt8):eqS s s=true:=by simp [eqS]
end Go.LM
namespace Go.LM
structure Bk(P:Program) where
 tab:List (Nat×Ty)
 ptrs:List Nat
 eqs:List Nat
 ht:tabOk P tab=true
 hp:ptrsOk P ptrs=true
 he:cmpOk P tab eqs=true
 hm:P.follows .mixedOrders=true
noncomputable def bodyOf(fn:Func):Code:=match fn.body with
 | some c=>c
 | none=>.skip
noncomputable def chkF(fn:Func)(ps:List PSpec):Bool :=
 fn.body.isSome && !(fn.name == "runtime.NumGoroutine")&&okFn ps&&Nat.ble ps.length fn.ntmps&&oncePlace (bodyOf fn)
def lkTp:List (Nat×Tpl)→Nat→Option Tpl
 | [],_=>none
 | (k,t) :: l,r=>cond (Nat.beq r k) (some t) (lkTp l r)
section
variable{P:Program}
def Bk.env(B:Bk P)(fn:Func)(fns:List (Nat×Entry)):Env:=mkEnv fn.ntmps B.tab B.ptrs B.eqs fns
noncomputable def Bk.start(B:Bk P)(fn:Func)(fns:List (Nat×Entry))(T:List (Nat×Tpl))(e:Entry)(k:Nat→St→Option (RSpec.outs e.rs (PSpec.muts e.ps)).D)(x:(PSpec.ins e.ps).D):Option (RSpec.outs e.rs (PSpec.muts e.ps)).D :=
 startF (B.env fn fns) fn (bodyOf fn) (lkTp T) 0 e k x
noncomputable def Bk.startK(B:Bk P)(key:Nat)(fn:Func)(fns:List (Nat×Entry))(T:List (Nat×Tpl))(e:Entry)(k:Nat→St→Option (RSpec.outs e.rs (PSpec.muts e.ps)).D)(x:(PSpec.ins e.ps).D):Option (RSpec.outs e.rs (PSpec.muts e.ps)).D :=
 startF (B.env fn fns) fn (bodyOf fn) (lkTp T) key e k x
noncomputable def Bk.step(B:Bk P)(fn:Func)(fns:List (Nat×Entry))(T:List (Nat×Tpl))(e:Entry)(k:Nat→St→Option (RSpec.outs e.rs (PSpec.muts e.ps)).D):Nat→St→Option (RSpec.outs e.rs (PSpec.muts e.ps)).D :=
 stepF (B.env fn fns) (lkTp T) (bodyOf fn) (finF (B.env fn fns) fn e) k
theorem fn_all(B:Bk P){f:Nat}{fn:Func}{e:Entry}{fns:List (Nat×Entry)}(hs:FnsAll P fns)(hf:P.funcs[f]?=some fn)(hc:chkF fn e.ps=true)(T:List (Nat×Tpl))
  (hF:∀x r,e.f x=some r→∃m,startF (B.env fn fns) fn (bodyOf fn) (lkTp T) 0 e (loopF (B.env fn fns) (lkTp T) (bodyOf fn) (finF (B.env fn fns) fn e) m) x=some r):Sound P f 0 e:=by
 unfold chkF at hc
 simp only [Bool.and_eq_true,Bool.not_eq_true'] at hc
 obtain ⟨⟨⟨⟨h1,h2⟩,h3⟩,h4⟩,h5⟩:=hc
 refine fn_sound (env_ok (n:=fn.ntmps) (fns:=fns) B.ht B.hp B.he hs B.hm) hf ?_ h2 (Nat.beq_refl _) h3 h4 h5 hF
 unfold bodyOf
 cases hb:fn.body with
 | none=>rw [hb] at h1;cases h1
 | some c=>rfl
theorem fn0(B:Bk P){f:Nat}{fn:Func}{e:Entry}{fns:List (Nat×Entry)}(hs:FnsAll P fns)(hf:P.funcs[f]?=some fn)(hc:chkF fn e.ps=true)
  (h:∀x,B.start fn fns [] e (fun _ _=>none) x=e.f x):Sound P f 0 e :=
 fn_all B hs hf hc [] fun x r hx=>⟨0,by
  rw [show loopF (B.env fn fns) (lkTp []) (bodyOf fn) (finF (B.env fn fns) fn e) 0=fun _ _=>none from rfl]
  exact(h x).trans hx⟩
def iterK{K:Type}(s:K→K)(z:K):Nat→K
 | 0=>z
 | m+1=>s (iterK s z m)
theorem fn1(B:Bk P){f:Nat}{fn:Func}{e:Entry}{fns:List (Nat×Entry)}(hs:FnsAll P fns)(hf:P.funcs[f]?=some fn)(hc:chkF fn e.ps=true)(T:List (Nat×Tpl)){K:Type}
  (of:(Nat→St→Option (RSpec.outs e.rs (PSpec.muts e.ps)).D)→K) (step:K→K) (L:Nat→K) (g:K→(PSpec.ins e.ps).D→Option (RSpec.outs e.rs (PSpec.muts e.ps)).D)
  (h0:L 0=of fun _ _=>none) (hL:∀m,L (m+1)=step (L m)) (he:∀x,e.f x=g (L BIG) x)
  (hg:∀k x,B.start fn fns T e k x=g (of k) x)
  (hst:∀k,of (B.step fn fns T e k)=step (of k)):Sound P f 0 e :=
 fn_all B hs hf hc T fun x r hx=>⟨BIG,by
  have hl:∀m,of (loopF (B.env fn fns) (lkTp T) (bodyOf fn) (finF (B.env fn fns) fn e) m)=L m:=by
   intro m
   induction m with
   | zero=>exact h0.symm
   | succ m ih=>rw [hL,← ih];exact hst _
  rw [he,← hl BIG] at hx
  exact(hg _ x).trans hx⟩
theorem fn_allK(B:Bk P)(key:Nat){f:Nat}{fn:Func}{e:Entry}{fns:List (Nat×Entry)}(hs:FnsAll P fns)(hf:P.funcs[f]?=some fn)(hc:chkF fn e.ps=true)(T:List (Nat×Tpl))
  (hF:∀x r,e.f x=some r→∃m,startF (B.env fn fns) fn (bodyOf fn) (lkTp T) key e (loopF (B.env fn fns) (lkTp T) (bodyOf fn) (finF (B.env fn fns) fn e) m) x=some r):Sound P f key e:=by
 unfold chkF at hc
 simp only [Bool.and_eq_true,Bool.not_eq_true'] at hc
 obtain ⟨⟨⟨⟨h1,h2⟩,h3⟩,h4⟩,h5⟩:=hc
 refine fn_sound (env_ok (n:=fn.ntmps) (fns:=fns) B.ht B.hp B.he hs B.hm) hf ?_ h2 (Nat.beq_refl _) h3 h4 h5 hF
 unfold bodyOf
 cases hb:fn.body with
 | none=>rw [hb] at h1;cases h1
 | some c=>rfl
theorem fn0K(B:Bk P)(key:Nat){f:Nat}{fn:Func}{e:Entry}{fns:List (Nat×Entry)}(hs:FnsAll P fns)(hf:P.funcs[f]?=some fn)(hc:chkF fn e.ps=true)
  (h:∀x,B.startK key fn fns [] e (fun _ _=>none) x=e.f x):Sound P f key e :=
 fn_allK B key hs hf hc [] fun x r hx=>⟨0,by
  rw [show loopF (B.env fn fns) (lkTp []) (bodyOf fn) (finF (B.env fn fns) fn e) 0=fun _ _=>none from rfl]
  exact(h x).trans hx⟩
theorem fn1K(B:Bk P)(key:Nat){f:Nat}{fn:Func}{e:Entry}{fns:List (Nat×Entry)}(hs:FnsAll P fns)(hf:P.funcs[f]?=some fn)(hc:chkF fn e.ps=true)(T:List (Nat×Tpl)){K:Type}
  (of:(Nat→St→Option (RSpec.outs e.rs (PSpec.muts e.ps)).D)→K) (step:K→K) (L:Nat→K) (g:K→(PSpec.ins e.ps).D→Option (RSpec.outs e.rs (PSpec.muts e.ps)).D)
  (h0:L 0=of fun _ _=>none) (hL:∀m,L (m+1)=step (L m)) (he:∀x,e.f x=g (L BIG) x)
  (hg:∀k x,B.startK key fn fns T e k x=g (of k) x)
  (hst:∀k,of (B.step fn fns T e k)=step (of k)):Sound P f key e :=
 fn_allK B key hs hf hc T fun x r hx=>⟨BIG,by
  have hl:∀m,of (loopF (B.env fn fns) (lkTp T) (bodyOf fn) (finF (B.env fn fns) fn e) m)=L m:=by
   intro m
   induction m with
   | zero=>exact h0.symm
   | succ m ih=>rw [hL,← ih];exact hst _
  rw [he,← hl BIG] at hx
  exact(hg _ x).trans hx⟩
end
@[reducible] def vo(t:Ty):PSpec:=.val t t.own
@[reducible] def vr(t:Ty):PSpec:=.val t .R
@[reducible] def vf(t:Ty):PSpec:=.frz t
@[reducible] def vw(t:Ty):PSpec:=.vm t t.own
@[reducible] def vp(t:Ty):PSpec:=.ref t
@[reducible] def vq(t:Ty):PSpec:=.mut t t.own t.own
@[reducible] def ro(t:Ty):RSpec:=.val t t.own
@[reducible] def rr(t:Ty):RSpec:=.val t .R
def usT:List (Nat×TV)→Nat→TV
 | []=>fun _=>.und
 | (d,v) :: l=>upd (usT l) d v
def usO:List (Nat×LObj)→Nat→LObj
 | []=>fun _=>.none
 | (d,v) :: l=>upd (usO l) d v
def mkS(t:List (Nat×TV))(o:List (Nat×LObj))(g:List TV):St:=⟨usT t,usO o,g⟩
def sI(x:Int):TV:=.sc (.int .i64 x)
def sB(x:Bool):TV:=.sc (.bool x)
def sS(x:List UInt8):TV:=.sc (.str x)
def sL(t:Ty)(x:List t.D):TV:=.sc (.lst t [] none x)
def sP(c:Nat):TV:=.ptr ⟨c,none,0⟩
def dp1(dp:List Nat):List (Nat×Nat):=dp.map fun c=>(c,0)
mutual
def Ty.scl:(t:Ty)→Md→List Nat→t.D→Nat→List HC×List (Nat×LObj)×Nat
 | .int k,_,_,x,j=>([.int k x],[],j)
 | .bool,_,_,x,j=>([.bool x],[],j)
 | .str,_,_,x,j=>([.str x],[],j)
 | .raw,_,_,x,j=>([.raw x],[],j)
 | .sl t,.O e,_,x,j=>([.hd j none],[(j,.row t e 0 x)],j+1)
 | .sl t,_,dp,x,j=>([.lst t (dp1 dp) none x],[],j)
 | .st ts,m,dp,x,j=>ts.scl m.parts dp x j
def Tys.scl:(ts:Tys)→Mds→List Nat→ts.D→Nat→List HC×List (Nat×LObj)×Nat
 | .nil,_,_,_,j=>([],[],j)
 | .cons t ts,m,dp,x,j=>let r:=t.scl m.hd dp x.1 j;let q:=ts.scl m.tl dp x.2 r.2.2;(r.1++q.1,r.2.1++q.2.1,q.2.2)
end
mutual
def Ty.tcl:(t:Ty)→Md→List Nat→Nat→List CT×List (Nat×OT)×Nat
 | .sl t,.O e,_,j=>([.hd j],[(j,.row t e)],j+1)
 | .sl t,_,dp,j=>([.lst t dp],[],j)
 | .st ts,m,dp,j=>ts.tcl m.parts dp j
 | _,_,_,j=>([.keep],[],j)
def Tys.tcl:(ts:Tys)→Mds→List Nat→Nat→List CT×List (Nat×OT)×Nat
 | .nil,_,_,j=>([],[],j)
 | .cons t ts,m,dp,j=>let r:=t.tcl m.hd dp j;let q:=ts.tcl m.tl dp r.2.2;(r.1++q.1,r.2.1++q.2.1,q.2.2)
end
def sv(c:Nat)(t:Ty)(m:Md)(dp:List Nat)(x:t.D):List (Nat×LObj):=let r:=t.scl m dp x (c+1);(c,.var 0 r.1) :: r.2.1
def tv(c:Nat)(t:Ty)(m:Md)(dp:List Nat):List (Nat×OT):=let r:=t.tcl m dp (c+1);(c,.var r.1) :: r.2.1
def sc(t:Ty)(m:Md)(dp:List Nat)(x:t.D)(j:Nat):List HC:=(t.scl m dp x j).1
def tc(t:Ty)(m:Md)(dp:List Nat)(j:Nat):List CT:=(t.tcl m dp j).1
def sr(t:Ty)(m:Md)(x:t.D)(j:Nat):List (Nat×LObj):=(t.scl m [] x j).2.1
def tr(t:Ty)(m:Md)(j:Nat):List (Nat×OT):=(t.tcl m [] j).2.1
@[reducible] def tk:TT:=.cell .keep
end Go.LM
namespace Go.LM
theorem stub_soundX{P:Program}{f key:Nat}{e:Entry}(hf:∀x,e.f x=none):SoundX P f key e :=
 ⟨fun w Z F x us r _ _ _ _ hx=>by rw [hf x] at hx;cases hx⟩
theorem ends_int{w:World}{Z F:Reg}{e:Entry}{us:List Value}{k:IntKind}{x:Int}(hrs:e.rs=[.val (.int k) .R])(hm:PSpec.muts e.ps=.nil)(hZ:∀b o,Z b o→b<w.heap.size)(hF:∀b o,F b o→b<w.heap.size)(hap:Reg.apart F Z)
  (r:(RSpec.outs e.rs (PSpec.muts e.ps)).D) (hr:∀G,ResRep w Z e.ps (us++capsV us) e.rs r [.int k x] G):Ends w Z F e us r (.int k x) w :=
 ⟨[.int k x],Z,Reg.none,rfl,Ext.refl _ _,fun _ _ h=>h,fun _ _ h=>.inl h,fun _ _ h=>h.elim,fun _ _ h=>h.elim,hr _⟩
def byteE(g:List UInt8→UInt8→Int):Entry:=⟨[vr .str,vr (.int .u8)],[rr (.int .i64)],fun x=>some (g x.1 x.2.1.toNat.toUInt8,())⟩
theorem byte_soundX{P:Program}{f:FuncId}{fn:Func}{x:Array Value→Sem Value}(g:List UInt8→UInt8→Int)(hf:P.funcs[f]?=some fn)(hname:(fn.name == "runtime.NumGoroutine")=false)
  (hb:fn.body.isNone=true) (hn:Extern.findNext fn=none) (he:Extern.find fn=some x)
  (hx:∀(s:ByteArray) (c:Int) (w:World),(x #[.string s,.int .u8 c]).run P w=.ok (.int .i64 (g s.data.toList c.toNat.toUInt8)) w):SoundX P f 0 (byteE g):=by
 refine⟨fun w Z F y us r hZ hF hap hA hy=>?_⟩
 obtain rfl:=osj hy
 obtain ⟨vs1,us1,G1,H1,e1,k1,h1,_⟩:=hA
 obtain ⟨vs2,us2,G2,H2,e2,k2,h2,_⟩:=h1
 simp only [Ty.Rep] at k1 k2
 obtain ⟨s,rfl,hs⟩:=k1
 subst k2
 have h2:us2=[]:=h2
 subst h2
 subst e2
 have hus:us=[.string s,.int .u8 y.2.1]:=by
  cases us with
  | nil=>cases e1
  | cons u us =>
   cases us with
   | nil =>
    simp only [List.cons_append,List.nil_append] at e1
    injection e1 with e3 e4
    subst e3
    cases e4
   | cons u2 us =>
    simp only [List.cons_append] at e1
    injection e1 with e3 e4
    injection e4 with e4 e5
    subst e3 e4
    have:us=[]:=(List.append_eq_nil_iff.1 e5).1
    subst this
    rfl
 subst hus
 refine .inr ⟨.int .i64 (g s.data.toList y.2.1.toNat.toUInt8),w,?_,.int .i64 (g s.data.toList y.2.1.toNat.toUInt8),rfl,?_⟩
 ·rw [run_callFunc_extern hf hname hb hn he]
  have:=hx s y.2.1 w
  rw [show(([Value.string s,Value.int IntKind.u8 y.2.1]:List Value).toArray) = #[.string s,.int .u8 y.2.1] from rfl,this]
  rfl
 ·rw [hs]
  refine ends_int (e:=byteE g) rfl rfl hZ hF hap _ fun G=>?_
  refine⟨[_],[],Reg.none,Reg.none,rfl,?_,?_,fun _ _ h=>h.elim,fun _ _ h=>h.elim,fun _ _ h=>h.elim⟩
  ·simp only [Ty.Rep]
  ·exact⟨rfl,_,_,rfl,_,_,rfl,trivial⟩
theorem indexByte_soundX{P:Program}{f:FuncId}{fn:Func}(hf:P.funcs[f]?=some fn)(hname:(fn.name == "runtime.NumGoroutine")=false)
  (hb:fn.body.isNone=true) (hn:Extern.findNext fn=none) (he:Extern.find fn=some Extern.BytealgIndexByte.indexByte):SoundX P f 0 (byteE Lib.indexByte) :=
 byte_soundX _ hf hname hb hn he fun s c w=>Lib.run_indexByteString s c w
theorem countByte_soundX{P:Program}{f:FuncId}{fn:Func}(hf:P.funcs[f]?=some fn)(hname:(fn.name == "runtime.NumGoroutine")=false)
  (hb:fn.body.isNone=true) (hn:Extern.findNext fn=none) (he:Extern.find fn=some Extern.BytealgCount.count):SoundX P f 0 (byteE fun l c=>(Lib.countByte l c:Int)) :=
 byte_soundX _ hf hname hb hn he fun s c w=>Lib.run_countString s c w
end Go.LM
namespace Go.LM
mutual
def Ty.rw:Ty→Ty
 | .sl _=>.raw
 | .st ts=>.st ts.rw
 | .int k=>.int k
 | .bool=>.bool
 | .str=>.str
 | .raw=>.raw
def Tys.rw:Tys→Tys
 | .nil=>.nil
 | .cons t ts=>.cons t.rw ts.rw
end
mutual
def Ty.rel:(T T':Ty)→T.D→T'.D→Prop
 | .int _,.int _,x,y=>x=y
 | .bool,.bool,x,y=>x=y
 | .str,.str,x,y=>x=y
 | .sl _,.raw,_,_=>True
 | .raw,.raw,x,y=>x=y
 | .st ts,.st ts',x,y=>ts.rel ts' x y
 | _,_,_,_=>False
def Tys.rel:(T T':Tys)→T.D→T'.D→Prop
 | .nil,.nil,_,_=>True
 | .cons t ts,.cons t' ts',x,y=>t.rel t' x.1 y.1∧ts.rel ts' x.2 y.2
 | _,_,_,_=>False
end
mutual
theorem Ty.rw_size:∀t:Ty,t.rw.size=t.size
 | .int _=>rfl
 | .bool=>rfl
 | .str=>rfl
 | .sl _=>rfl
 | .raw=>rfl
 | .st ts=>by simp only [Ty.rw,Ty.size];exact Tys.rw_size ts
theorem Tys.rw_size:∀t:Tys,t.rw.size=t.size
 | .nil=>rfl
 | .cons t ts=>by simp only [Tys.rw,Tys.size,Ty.rw_size t,Tys.rw_size ts]
end
mutual
theorem Ty.to_raw{w:World}{Z:Reg} : ∀(T:Ty) (m:Md) {x:T.D} {vs:List Value} {F:Reg},T.Rep w Z m x vs F→∃y:T.rw.D,(∀(w':World) (Z':Reg) (m':Md) (F':Reg),T.rw.Rep w' Z' m' y vs F')∧T.rel T.rw x y
 | .int _,_,x,_,_,h=>by simp only [Ty.Rep] at h;subst h;exact⟨x,fun _ _ _ _=>by simp only [Ty.rw,Ty.Rep],by simp only [Ty.rw,Ty.rel]⟩
 | .bool,_,x,_,_,h=>by simp only [Ty.Rep] at h;subst h;exact⟨x,fun _ _ _ _=>by simp only [Ty.rw,Ty.Rep],by simp only [Ty.rw,Ty.rel]⟩
 | .str,_,x,_,_,h=>by simp only [Ty.Rep] at h;exact⟨x,fun _ _ _ _=>by simp only [Ty.rw,Ty.Rep];exact h,by simp only [Ty.rw,Ty.rel]⟩
 | .raw,_,x,_,_,h=>by simp only [Ty.Rep] at h;exact⟨x,fun _ _ _ _=>by simp only [Ty.rw,Ty.Rep];exact h,by simp only [Ty.rw,Ty.rel]⟩
 | .sl t,m,x,vs,F,h=>by
  have:∃A n c,vs=[.slice A n c]:=by
   cases m <;>(simp only [Ty.Rep] at h;obtain ⟨A,c,hv,_⟩:=h;exact⟨A,_,c,hv⟩)
  obtain ⟨A,n,c,rfl⟩:=this
  exact⟨(.slice A n c:Value),fun _ _ _ _=>by simp only [Ty.rw,Ty.Rep];exact⟨trivial,A,n,c,rfl⟩,by simp only [Ty.rw,Ty.rel]⟩
 | .st ts,m,x,vs,F,h=>by
  simp only [Ty.Rep] at h
  obtain ⟨y,h1,h2⟩:=Tys.to_raw ts m.parts h
  exact⟨y,fun w' Z' m' F'=>by simp only [Ty.rw,Ty.Rep];exact h1 w' Z' m'.parts F',by simp only [Ty.rw,Ty.rel];exact h2⟩
theorem Tys.to_raw{w:World}{Z:Reg} : ∀(T:Tys) (m:Mds) {x:T.D} {vs:List Value} {F:Reg},T.Rep w Z m x vs F→∃y:T.rw.D,(∀(w':World) (Z':Reg) (m':Mds) (F':Reg),T.rw.Rep w' Z' m' y vs F')∧T.rel T.rw x y
 | .nil,_,_,_,_,h=>by simp only [Tys.Rep] at h;exact⟨(),fun _ _ _ _=>by simp only [Tys.rw,Tys.Rep];exact h,by simp only [Tys.rw,Tys.rel]⟩
 | .cons t ts,m,x,vs,F,h=>by
  simp only [Tys.Rep] at h
  obtain ⟨us,vs',G,H,rfl,h1,h2,_⟩:=h
  obtain ⟨y,k1,k2⟩:=Ty.to_raw t m.hd h1
  obtain ⟨z,l1,l2⟩:=Tys.to_raw ts m.tl h2
  exact⟨(y,z),fun w' Z' m' F'=>by simp only [Tys.rw,Tys.Rep];exact⟨us,vs',Reg.none,Reg.none,rfl,k1 w' Z' m'.hd _,l1 w' Z' m'.tl _,fun _ _ h=>h.elim,fun _ _ h=>h.elim,fun _ _ h=>h.elim⟩,by simp only [Tys.rw,Tys.rel];exact⟨k2,l2⟩⟩
end
mutual
theorem Ty.raw_any{w w':World}{Z Z':Reg} : ∀(T:Ty) {m m':Md} {y:T.rw.D} {vs:List Value} {F F':Reg},T.rw.Rep w Z m y vs F→T.rw.Rep w' Z' m' y vs F'
 | .int _,_,_,_,_,_,_,h=>by simp only [Ty.rw,Ty.Rep] at h ⊢;exact h
 | .bool,_,_,_,_,_,_,h=>by simp only [Ty.rw,Ty.Rep] at h ⊢;exact h
 | .str,_,_,_,_,_,_,h=>by simp only [Ty.rw,Ty.Rep] at h ⊢;exact h
 | .sl _,_,_,_,_,_,_,h=>by simp only [Ty.rw,Ty.Rep] at h ⊢;exact h
 | .raw,_,_,_,_,_,_,h=>by simp only [Ty.rw,Ty.Rep] at h ⊢;exact h
 | .st ts,_,_,_,_,_,_,h=>by simp only [Ty.rw,Ty.Rep] at h ⊢;exact Tys.raw_any ts h
theorem Tys.raw_any{w w':World}{Z Z':Reg} : ∀(T:Tys) {m m':Mds} {y:T.rw.D} {vs:List Value} {F F':Reg},T.rw.Rep w Z m y vs F→T.rw.Rep w' Z' m' y vs F'
 | .nil,_,_,_,_,_,_,h=>by simp only [Tys.rw,Tys.Rep] at h ⊢;exact h
 | .cons t ts,_,_,_,_,_,_,h=>by
  simp only [Tys.rw,Tys.Rep] at h ⊢
  obtain ⟨a,b,_,_,rfl,h1,h2,_⟩:=h
  exact⟨a,b,Reg.none,Reg.none,rfl,Ty.raw_any t h1,Tys.raw_any ts h2,fun _ _ h=>h.elim,fun _ _ h=>h.elim,fun _ _ h=>h.elim⟩
end
mutual
theorem Ty.raw_inj{w w':World}{Z Z':Reg} : ∀(T:Ty) {m m':Md} {y:T.rw.D} {us vs:List Value} {F F':Reg},T.rw.Rep w Z m y us F→T.rw.Rep w' Z' m' y vs F'→us=vs
 | .int _,_,_,_,_,_,_,_,h,k=>by simp only [Ty.rw,Ty.Rep] at h k;rw [h,k]
 | .bool,_,_,_,_,_,_,_,h,k=>by simp only [Ty.rw,Ty.Rep] at h k;rw [h,k]
 | .str,_,_,_,_,_,_,_,h,k=>by
  simp only [Ty.rw,Ty.Rep] at h k
  obtain ⟨s,rfl,hs⟩:=h
  obtain ⟨s',rfl,hs'⟩:=k
  have:s=s':=by
   cases s;cases s'
   simp only at hs hs'
   congr 1
   apply Array.ext'
   rw [hs,hs']
  rw [this]
 | .sl _,_,_,_,_,_,_,_,h,k=>by simp only [Ty.rw,Ty.Rep] at h k;rw [h.1,k.1]
 | .raw,_,_,_,_,_,_,_,h,k=>by simp only [Ty.rw,Ty.Rep] at h k;rw [h.1,k.1]
 | .st ts,_,_,_,_,_,_,_,h,k=>by simp only [Ty.rw,Ty.Rep] at h k;exact Tys.raw_inj ts h k
theorem Tys.raw_inj{w w':World}{Z Z':Reg} : ∀(T:Tys) {m m':Mds} {y:T.rw.D} {us vs:List Value} {F F':Reg},T.rw.Rep w Z m y us F→T.rw.Rep w' Z' m' y vs F'→us=vs
 | .nil,_,_,_,_,_,_,_,h,k=>by simp only [Tys.rw,Tys.Rep] at h k;rw [h,k]
 | .cons t ts,_,_,_,_,_,_,_,h,k=>by
  simp only [Tys.rw,Tys.Rep] at h k
  obtain ⟨a,b,_,_,rfl,h1,h2,_⟩:=h
  obtain ⟨a',b',_,_,rfl,k1,k2,_⟩:=k
  rw [Ty.raw_inj t h1 k1,Tys.raw_inj ts h2 k2]
end
def Al(w:World)(Z:Reg)(T:Ty)(m:Md):List T.D→List T.rw.D→Reg→Prop
 | [],[],_=>True
 | x :: xs,y :: ys,G=>∃vs G1 G2,T.Rep w Z m x vs G1∧T.rw.Rep w Z .R y vs Reg.none∧T.rel T.rw x y∧Al w Z T m xs ys G2∧Reg.apart G1 G2∧Reg.sub G1 G∧Reg.sub G2 G
 | _,_,_=>False
section
variable{w w':World}{Z Z':Reg}{T:Ty}{m:Md}
theorem Al.len:∀ {xs:List T.D} {ys:List T.rw.D} {G:Reg},Al w Z T m xs ys G→ys.length=xs.length
 | [],[],_,_=>rfl
 | _ :: _,_ :: _,_,⟨_,_,_,_,_,_,h,_⟩=>by simp [Al.len h]
 | [],_ :: _,_,h=>h.elim
 | _ :: _,[],_,h=>h.elim
theorem Al.mono:∀ {xs:List T.D} {ys:List T.rw.D} {G G':Reg},Reg.sub G G'→Al w Z T m xs ys G→Al w Z T m xs ys G'
 | [],[],_,_,_,_=>trivial
 | _ :: _,_ :: _,_,_,hs,⟨vs,G1,G2,h1,h2,h3,h4,h5,h6,h7⟩=>⟨vs,G1,G2,h1,h2,h3,h4,h5,fun b o h=>hs b o (h6 b o h),fun b o h=>hs b o (h7 b o h)⟩
 | [],_ :: _,_,_,_,h=>h.elim
 | _ :: _,[],_,_,_,h=>h.elim
theorem Al.of_row:∀ {xs:List T.D} {b o:Nat} {G:Reg},Row w (T.Rep w Z m) T.size xs b o G→∃ys,Al w Z T m xs ys G∧∀(Z':Reg),Row w (T.rw.Rep w Z' .R) T.rw.size ys b o Reg.none
 | [],_,_,_,_=>⟨[],trivial,fun _=>trivial⟩
 | x :: xs,b,o,G,⟨vs,G1,G2,h1,h2,h3,h4,h5,h6,h7⟩=>by
  obtain ⟨ys,k1,k2⟩:=Al.of_row h4
  obtain ⟨y,l1,l2⟩:=Ty.to_raw T m h1
  refine⟨y :: ys,⟨vs,G1,G2,h1,l1 _ _ _ _,l2,k1,h5,h6,h7⟩,fun Z'=>⟨vs,Reg.none,Reg.none,l1 _ _ _ _,by rw [h2,Ty.rw_size],h3,?_,fun _ _ h=>h.elim,fun _ _ h=>h.elim,fun _ _ h=>h.elim⟩⟩
  have:=k2 Z'
  rw [Ty.rw_size] at this ⊢
  exact this
theorem Al.filter{p:T.D→Bool}{p':T.rw.D→Bool}(hp:∀x y,T.rel T.rw x y→p x=p' y):∀ {xs:List T.D} {ys:List T.rw.D} {G:Reg},Al w Z T m xs ys G→Al w Z T m (xs.filter p) (ys.filter p') G
 | [],[],_,_=>trivial
 | x :: xs,y :: ys,G,⟨vs,G1,G2,h1,h2,h3,h4,h5,h6,h7⟩=>by
  have ih:=Al.filter hp h4
  rw [List.filter_cons,List.filter_cons,hp x y h3]
  cases p' y
  ·exact ih.mono h7
  ·exact⟨vs,G1,G2,h1,h2,h3,ih,h5,h6,h7⟩
 | [],_ :: _,_,h=>h.elim
 | _ :: _,[],_,h=>h.elim
theorem Al.same:∀ {xs:List T.D} {ys:List T.rw.D} {G:Reg},Same w w' G→Al w Z T T.own xs ys G→Al w' Z' T T.own xs ys G
 | [],[],_,_,_=>trivial
 | x :: xs,y :: ys,G,hs,⟨vs,G1,G2,h1,h2,h3,h4,h5,h6,h7⟩=>by
  exact⟨vs,G1,G2,own_same T (hs.mono h6) h1,Ty.raw_any T h2,h3,Al.same (hs.mono h7) h4,h5,h6,h7⟩
 | [],_ :: _,_,_,h=>h.elim
 | _ :: _,[],_,_,h=>h.elim
theorem Al.row:∀ {xs:List T.D} {ys:List T.rw.D} {G:Reg} {b o:Nat} {H:Reg},Al w Z T m xs ys G→Row w (T.rw.Rep w Z' .R) T.rw.size ys b o H→Row w (T.Rep w Z m) T.size xs b o G
 | [],[],_,_,_,_,_,_=>trivial
 | x :: xs,y :: ys,G,b,o,H,⟨vs,G1,G2,h1,h2,h3,h4,h5,h6,h7⟩,⟨us,H1,H2,k1,k2,k3,k4,_⟩=>by
  have:us=vs:=Ty.raw_inj T k1 h2
  subst this
  rw [Ty.rw_size] at k2 k4
  exact⟨us,G1,G2,h1,k2,k3,Al.row h4 (by rw [Ty.rw_size];exact k4),h5,h6,h7⟩
 | [],_ :: _,_,_,_,_,h,_=>h.elim
 | _ :: _,[],_,_,_,_,h,_=>h.elim
theorem del_own{P:Program}{f:FuncId}{key:FuncId}{T':Ty}{p:T.D→Int→Bool}{p':T'.D→Int→Bool}(hT:T.rw=T')(hrel:∀x y i,T.rel T' x y→p x i=p' y i)
  {fq:(PSpec.ins [.val (.sl T') (.O .R),.fn 0 1,.ref (.int .i64)]).D→Option (RSpec.outs [.val (.sl T') (.O .R)] (PSpec.muts [.val (.sl T') (.O .R),.fn 0 1,.ref (.int .i64)])).D}
  (hS:SoundX P f key ⟨[.val (.sl T') (.O .R),.fn 0 1,.ref (.int .i64)],[.val (.sl T') (.O .R)],fq⟩)
  (hf:∀(ys:List T'.D) (i:Int),room ys.length=true→fq (ys,i,())=some (ys.filter (fun y=>p' y i),())) :
  SoundX P f key ⟨[.val (.sl T) (.O T.own),.fn 0 1,.ref (.int .i64)],[.val (.sl T) (.O T.own)],fun x=>cond (room x.1.length) (some (x.1.filter (fun y=>p y x.2.1),())) none⟩:=by
 subst hT
 refine⟨fun w Z F x us r hZ hF hFZ hA hr=>?_⟩
 obtain ⟨xs,i,u⟩:=x
 simp only at hr
 cases hroom:room xs.length
 ·rw [hroom] at hr;cases hr
 rw [hroom] at hr
 simp only [cond_true] at hr
 have hr:=osj hr
 obtain ⟨vs,us',G,H,e1,hrep,hrest,hGH,hGF,hHF⟩:=hA
 simp only [Ty.Rep] at hrep
 obtain ⟨A,c,rfl,hrep⟩:=hrep
 obtain ⟨ys,G1,G0,hal,hraw,hsubG1,hsubG0,hG10⟩:∃(ys:List T.rw.D) (G1 G0:Reg),Al w Z T T.own xs ys G1∧(Ty.sl T.rw).Rep w Z (.O .R) ys [.slice A xs.length c] G0∧Reg.sub G1 G∧Reg.sub G0 G∧Reg.apart G1 G0:=by
  rcases hrep with⟨rfl,rfl⟩ | ⟨a,rfl,hr⟩
  ·exact⟨[],Reg.none,Reg.none,trivial,by simp only [Ty.Rep];exact⟨A,0,rfl,.inl (by simp)⟩,fun _ _ h=>h.elim,fun _ _ h=>h.elim,fun _ _ h=>h.elim⟩
  ·obtain ⟨G1,g1,g2,g3⟩:=hr.row
   obtain ⟨ys,k1,k2⟩:=Al.of_row g1
   refine⟨ys,G1,Reg.run a.block a.off (c*T.size),k1,?_,g3,?_,?_⟩
   ·simp only [Ty.Rep]
    refine⟨some a,c,by rw [k1.len],.inr ⟨a,rfl,hr.spot,by rw [k1.len];exact hr.cap,?_,?_,Reg.none,?_,fun _ _ h=>h,fun _ _ h=>h.elim⟩⟩
    ·rw [Ty.rw_size];exact hr.wr
    ·rw [Ty.rw_size];exact fun j hj=>⟨rfl,by omega,by omega⟩
    ·exact k2 Z
   ·rintro b o ⟨rfl,h1,h2⟩
    have:=hr.inF (o-a.off) (by omega)
    rwa [show a.off +(o-a.off)=o by omega] at this
   ·rintro b o hg ⟨rfl,h1,h2⟩
    have:=g2 (o-a.off) (by omega)
    rw [show a.off +(o-a.off)=o by omega] at this
    exact this hg
 have hcall:=hS.calls w Z (G0.or H) (ys,i,u) us (ys.filter (fun y=>p' y i),()) hZ
  (fun b o h=>h.elim (fun h=>hF b o (hGF b o (hsubG0 b o h))) fun h=>hF b o (hHF b o h))
  (fun b o h hz=>h.elim (fun h=>hFZ b o (hGF b o (hsubG0 b o h)) hz) fun h=>hFZ b o (hHF b o h) hz)
  ⟨[.slice A xs.length c],us',G0,H,e1,hraw,hrest,fun b o h=>hGH b o (hsubG0 b o h),fun _ _ h=>.inl h,fun _ _ h=>.inr h⟩
  (hf ys i (by rw [hal.len];exact hroom))
 refine hcall.mono ?_
 rintro end_ w' ⟨v,rfl,⟨⟨rvs,Z',F',rfl,hx,hz1,hz2,hf2,ha2,hres⟩⟩⟩
 subst hr
 simp only [ResRep] at hres
 obtain ⟨vs1,rvs',G',Hh,rfl,hrep',⟨rfl,hout⟩,_,hG'F,_⟩:=hres
 have hG0old:∀b o,G1 b o→F b o∧b<w.heap.size:=fun b o h=>⟨hGF b o (hsubG1 b o h),hF b o (hGF b o (hsubG1 b o h))⟩
 have hG1F':Reg.apart G1 F':=by
  intro b o h1 h2
  rcases (hf2 b o h2).1 with(h3 | h3) | h3
  ·exact hG10 b o h1 h3
  ·exact hGH b o (hsubG1 b o h1) h3
  ·have:=(hG0old b o h1).2;omega
 have hsame:Same w w' G1:=Same.of_ext hx (fun b o h=>(hG0old b o h).2) (by
  rintro b o h1 (h3 | h3)
  ·exact hG10 b o h1 h3
  ·exact hGH b o (hsubG1 b o h1) h3)
 have hal2:Al w' Z' T T.own (xs.filter fun y=>p y i) (ys.filter fun y=>p' y i) G1:=(hal.same hsame).filter fun x y h=>hrel x y i h
 have hsz:T.rw.size=T.size:=Ty.rw_size T
 refine⟨_,rfl,⟨⟨_,Z',F'.or G1,rfl,?_,hz1,?_,?_,?_,?_⟩⟩⟩
 ·exact hx.mono fun b o hb h=>h.elim (fun h=>hGF b o (hsubG0 b o h)) fun h=>hHF b o h
 ·intro b o hz
  rcases hz2 b o hz with h1 | ⟨h1,h2⟩
  ·exact .inl h1
  ·exact .inr ⟨h1.imp (fun h=>h.elim (fun h=>hGF b o (hsubG0 b o h)) fun h=>hHF b o h) fun h=>h,h2⟩
 ·rintro b o (h1 | h1)
  ·obtain ⟨h2,h3⟩:=hf2 b o h1
   exact⟨h2.imp (fun h=>h.elim (fun h=>hGF b o (hsubG0 b o h)) fun h=>hHF b o h) fun h=>h,h3⟩
  ·exact⟨.inl (hG0old b o h1).1,Nat.lt_of_lt_of_le (hG0old b o h1).2 hx.size⟩
 ·rintro b o (h1 | h1) hz
  ·exact ha2 b o h1 hz
  ·rcases hz2 b o hz with h2 | ⟨(h2 | h2) | h2,_⟩
   ·exact hFZ b o (hG0old b o h1).1 h2
   ·exact hG10 b o h1 h2
   ·exact hGH b o (hsubG1 b o h1) h2
   ·have:=(hG0old b o h1).2;omega
 ·simp only [ResRep]
  refine⟨vs1,[],F'.or G1,Reg.none,rfl,?_,⟨rfl,by simp only [OutRep] at hout ⊢;exact hout⟩,fun _ _ _ h=>h.elim,fun _ _ h=>h,fun _ _ h=>h.elim⟩
  simp only [Ty.Rep] at hrep' ⊢
  obtain ⟨A',c',rfl,hrep'⟩:=hrep'
  refine⟨A',c',by rw [← hal2.len],?_⟩
  rcases hrep' with⟨h1,h2⟩ | ⟨a',hA',hr'⟩
  ·refine .inl ⟨List.eq_nil_of_length_eq_zero ?_,h2⟩
   rw [← hal2.len,h1];rfl
  ·obtain ⟨R0,r1,_⟩:=hr'.row
   refine .inr ⟨a',hA',hr'.spot,by rw [← hal2.len];exact hr'.cap,by have:=hr'.wr;rwa [hsz] at this,?_,G1,hal2.row r1,?_,fun _ _ h=>.inr h⟩
   ·intro j hj
    exact .inl (hG'F _ _ (hr'.inF j (by rw [hsz];exact hj)))
   ·intro j hj hg
    exact hG1F' _ _ hg (hG'F _ _ (hr'.inF j (by rw [hsz];exact hj)))
end
end Go.LM
