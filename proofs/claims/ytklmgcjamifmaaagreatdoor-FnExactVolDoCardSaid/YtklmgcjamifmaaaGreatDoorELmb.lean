/- Each operation of the model is what the interpreter says. Conditions: each theorem's own hypotheses. -/
import Derived.Test.YtklmgcjamifmaaaGreatDoorELma
import Derived.Laws.BytesString
import Derived.Laws.Tables
import Derived.Laws.Append
set_option linter.unusedVariables false
set_option linter.unusedSimpArgs false
namespace Go.LM
section
variable{P:Program}{Q:Exit→Act→World→Prop}
variable{w0:World}{F0 Z0:Reg}{n:Frm}{s s':St}{a a':Act}{w w':World}{ι ι':Nat→OI}{Z Z':Reg}
def Stands(w0:World)(F0 Z0:Reg)(n:Frm)(s:St)(a:Act)(w:World):Prop:=∃ ι Z,Inv w0 F0 Z0 n s a w ι Z
theorem constV_rep(v:Value):TVRep w Z s ι (constV v) v:=by
 unfold constV
 split <;> simp only [TVRep,CellRep]
 exact⟨_,rfl,rfl⟩
theorem opd_rep(h:Inv w0 F0 Z0 n s a w ι Z)(x:Operand):TVRep w Z s ι (opd s x) (a.eval x):=by
 cases x with
 | tmp t=>exact h.tmps t
 | const v=>exact constV_rep v
 | func f=>simp only [opd,Act.eval,TVRep];exact⟨[],[],rfl,by simp only [TVsRep],by simp only [TVsRep]⟩
 | global g=>simp only [opd,TVRep]
theorem typed_rep{E:Env}{t:Nat}{x y:TV}{v:Value}(h:typed E t x=some y)(hv:TVRep w Z s ι x v):TVRep w Z s ι y v:=by
 cases x <;> simp only [typed] at h <;> try (obtain rfl:=osj h;exact hv)
 ·simp at h
 ·simp at h
 ·cases ht:E.ty t with
  | none=>rw [ht] at h;simp at h
  | some T =>
   rw [ht] at h
   cases T <;> simp at h
   subst h
   simp only [TVRep] at hv ⊢
   exact hv
theorem run_v{α : Type}{sm:Sem α}{f : α → Next}{v : α}(h:sm.run P w=.ok v w'):(do pure (f (← sm)):Sem Next).run P w=.ok (f v) w':=by
 rw [run_bind,h];rfl
theorem wp_value{o:Oper}{v:Value}{x:TV}{s1:St}(hr:(execOp a.eval o).run P w=.ok (.value v) w')(h:Inv w0 F0 Z0 n s1 a w' ι Z)(hv:TVRep w' Z s1 ι x v)
  (hd:∀k,o.dst=some k→k<n):o.wp P a w (fun a' w'=>Stands w0 F0 Z0 n (s1.dst o.dst x) a' w') Q:=by
 unfold Oper.wp
 rw [hr,Oper.upon_value]
 exact⟨ι,Z,h.dst hv hd⟩
theorem wp_skip{o:Oper}{s1:St}(hr:(execOp a.eval o).run P w=.ok .skip w')(h:Inv w0 F0 Z0 n s1 a w' ι Z)
  (hd:∀k,o.dst=some k→k<n):o.wp P a w (fun a' w'=>Stands w0 F0 Z0 n (s1.dst o.dst .und) a' w') Q:=by
 unfold Oper.wp
 rw [hr,Oper.upon_skip]
 exact⟨ι,Z,h.dst (by simp only [TVRep]) hd⟩
def Pure(P:Program)(o:Oper)(a:Act)(w:World)(R:Act→World→Prop):Prop:=∃v,(∀w',(execOp a.eval o).run P w'=.ok (.value v) w')∧R (a.put o.dst v) w
theorem Pure.wp{o:Oper}{R:Act→World→Prop}(h:Pure P o a w R):o.wp P a w R Q:=by
 obtain ⟨v,h1,h2⟩:=h
 unfold Oper.wp
 rw [h1 w,Oper.upon_value]
 exact h2
theorem pure_value{o:Oper}{v:Value}{x:TV}{s1:St}(hr:∀w',(execOp a.eval o).run P w'=.ok (.value v) w')(h:Inv w0 F0 Z0 n s1 a w ι Z)(hv:TVRep w Z s1 ι x v)
  (hd:∀k,o.dst=some k→k<n):Pure P o a w (Stands w0 F0 Z0 n (s1.dst o.dst x)) :=
 ⟨v,hr,ι,Z,h.dst hv hd⟩
structure TyOk(P:Program)(E:Env):Prop where
 ty:∀id T,E.ty id=some T→T.ok P id
 ptr:∀id,E.ptrT id=true→∃e,P.underlying id=some (.pointer e)
variable{E:Env}{o:Oper}{ρ : Type}{K:St→Option ρ}{r : ρ}{id:Nat}
theorem op_move{x:Operand}(h:Inv w0 F0 Z0 n s a w ι Z)(hd:∀k,o.dst=some k→k<n)(ho:o.op=.move x∨o.op=.assign x)(hk:opK E id o s K=some r) :
  ∃s',K s'=some r∧Pure P o a w (Stands w0 F0 Z0 n s'):=by
 have hk':(match typed E o.type (opd s x) with | some v=>K (s.dst o.dst v) | none=>none)=some r:=by
  rcases ho with ho | ho <;>(unfold opK at hk;rw [ho] at hk;exact hk)
 cases ht:typed E o.type (opd s x) with
 | none=>rw [ht] at hk';simp at hk'
 | some v =>
  rw [ht] at hk'
  refine⟨_,hk',pure_value (v:=a.eval x) (fun w'=>?_) h (typed_rep ht (opd_rep h x)) hd⟩
  rcases ho with ho | ho <;>(unfold execOp;rw [ho];rfl)
theorem op_pick{c x y:Operand}(h:Inv w0 F0 Z0 n s a w ι Z)(hd:∀k,o.dst=some k→k<n)(ho:o.op=.pick c x y)(hk:opK E id o s K=some r) :
  ∃s',K s'=some r∧Pure P o a w (Stands w0 F0 Z0 n s'):=by
 unfold opK at hk
 rw [ho] at hk
 simp only at hk
 have hc:=opd_rep h c
 have hx:=opd_rep h x
 have hy:=opd_rep h y
 have hrun:∀t,a.eval c=.bool t→∀w',(execOp a.eval o).run P w'=.ok (.value (if t then a.eval x else a.eval y)) w':=by
  intro t ht w'
  unfold execOp;rw [ho]
  simp only [run_bind,asBool,ht,run_pure]
 cases hcv:opd s c with
 | sc cc =>
  rw [hcv] at hk hc
  cases cc with
  | bool t =>
   simp only [TVRep,CellRep] at hc
   have hr:=hrun t hc
   cases t with
   | true =>
    cases hxv:typed E o.type (opd s x) with
    | none=>rw [hxv] at hk;cases hyv:typed E o.type (opd s y) <;> rw [hyv] at hk <;> simp at hk
    | some v =>
     rw [hxv] at hk
     have:K (s.dst o.dst v)=some r:=by cases hyv:typed E o.type (opd s y) <;> rw [hyv] at hk <;> exact hk
     exact⟨_,this,pure_value hr h (typed_rep hxv hx) hd⟩
   | false =>
    cases hyv:typed E o.type (opd s y) with
    | none=>rw [hyv] at hk;cases hxv:typed E o.type (opd s x) <;> rw [hxv] at hk <;> simp at hk
    | some v =>
     rw [hyv] at hk
     have:K (s.dst o.dst v)=some r:=by cases hxv:typed E o.type (opd s x) <;> rw [hxv] at hk <;> exact hk
     exact⟨_,this,pure_value hr h (typed_rep hyv hy) hd⟩
  | _=>simp at hk
 | _=>rw [hcv] at hk;simp at hk
theorem mkObj_some{i:Nat}{ob:LObj}(h:mkObj s i ob=some s'):s.o i=.none∧s'=s.putO i ob:=by
 unfold mkObj at h
 cases ho:s.o i <;> rw [ho] at h <;> simp at h
 exact⟨rfl,h.symm⟩
theorem op_alloc{t:Nat}(hT:TyOk P E)(h:Inv w0 F0 Z0 n s a w ι Z)(hd:∀k,o.dst=some k→k<n)(ho:o.op=.alloc t)(hk:opK E id o s K=some r) :
  ∃s',K s'=some r∧o.wp P a w (Stands w0 F0 Z0 n s') Q:=by
 unfold opK at hk
 rw [ho] at hk
 simp only at hk
 cases ht:E.ty t with
 | none=>rw [ht] at hk;simp at hk
 | some T =>
  rw [ht] at hk
  simp only at hk
  cases hm:mkObj s id (.var 0 T.zcells) with
  | none=>rw [hm] at hk;simp at hk
  | some s1 =>
   rw [hm] at hk
   obtain ⟨hid,rfl⟩:=mkObj_some hm
   have hok:=hT.ty t T ht
   have hz:CellsRep w Z s ι T.zcells (wrapV T T.zvals).cells.toList:=by
    rw [wrapV_cells (Ty.zvals_len T) ((zcells_rep (w:=w) (Z:=Z) (s:=s) (ι := ι) T).oneC)]
    exact zcells_rep T
   have hn:=h.newVar hid hz t
   refine⟨_,hk,wp_value (v:=.pointer (some (at_ w.heap.size 0))) (w' := { w with heap:=w.heap.push (.cells (wrapV T T.zvals).cells t) }) ?_ hn ?_ hd⟩
   ·unfold execOp;rw [ho]
    refine run_v ?_
    simp only [Instr.alloc,run_bind,run_zeroValue hok,run_newVar,run_pure]
   ·simp only [TVRep]
    refine⟨by show upd s.o id _ id≠_;rw [upd_same];simp,_,rfl,rfl,?_⟩
    show match (upd s.o id _ id).core with | .var _ _=>_ | .row .. => _ | _=>_
    rw [upd_same]
    exact⟨rfl,_,by rw [upd_same],by simp [at_]⟩
theorem op_box{t:Nat}{x:Operand}(hT:TyOk P E)(h:Inv w0 F0 Z0 n s a w ι Z)(hd:∀k,o.dst=some k→k<n)(ho:o.op=.box t x)(hk:opK E id o s K=some r) :
  ∃s',K s'=some r∧o.wp P a w (Stands w0 F0 Z0 n s') Q:=by
 unfold opK at hk
 rw [ho] at hk
 simp only at hk
 cases ht:E.ty t with
 | none=>rw [ht] at hk;simp at hk
 | some T =>
  rw [ht] at hk
  simp only at hk
  cases hc:cellsT T (opd s x) with
  | none=>rw [hc] at hk;simp at hk
  | some cs =>
   rw [hc] at hk
   simp only at hk
   cases hb:Nat.beq cs.length T.size
   ·rw [hb] at hk;simp at hk
   rw [hb] at hk
   simp only [cond_true] at hk
   cases hm:mkObj s id (.var 0 cs) with
   | none=>rw [hm] at hk;simp at hk
   | some s1 =>
    rw [hm] at hk
    obtain ⟨hid,rfl⟩:=mkObj_some hm
    have hn:=h.newVar hid (cellsT_rep hc (opd_rep h x)) t
    refine⟨_,hk,wp_value (v:=.pointer (some (at_ w.heap.size 0))) (w' := { w with heap:=w.heap.push (.cells (a.eval x).cells t) }) ?_ hn ?_ hd⟩
    ·unfold execOp;rw [ho]
     refine run_v ?_
     simp only [Instr.box,run_bind,run_newVar,run_pure]
    ·simp only [TVRep]
     refine⟨by show upd s.o id _ id≠_;rw [upd_same];simp,_,rfl,rfl,?_⟩
     show match (upd s.o id _ id).core with | .var _ _=>_ | .row .. => _ | _=>_
     rw [upd_same]
     exact⟨rfl,_,by rw [upd_same],by simp [at_]⟩
theorem op_load{t:Nat}{x:Operand}(hT:TyOk P E)(h:Inv w0 F0 Z0 n s a w ι Z)(hd:∀k,o.dst=some k→k<n)(ho:o.op=.load t x)(hk:opK E id o s K=some r) :
  ∃s',K s'=some r∧o.wp P a w (Stands w0 F0 Z0 n s') Q:=by
 unfold opK at hk
 rw [ho] at hk
 simp only at hk
 have hx:=opd_rep h x
 have hrun:∀ {T:Ty} {b i:Nat} {vs:List Value},E.ty t=some T→a.eval x=.pointer (some (at_ b i))→CellsAt w b i vs→vs.length=T.size →
   (execOp a.eval o).run P w=.ok (.value (wrapV T vs)) w:=by
  intro T b i vs ht he hc hl
  unfold execOp;rw [ho]
  refine run_v ?_
  simp only [Instr.loadAt,Instr.sureAddr,he,run_bind,run_pure,run_loadVar (hT.ty t T ht) hc hl]
 cases ht:E.ty t with
 | none=>rw [ht] at hk;simp at hk
 | some T =>
  rw [ht] at hk
  cases hxv:opd s x with
  | ptr p =>
   rw [hxv] at hk hx
   simp only at hk
   cases hrd:(readP s T.size p).bind (wrapT T) with
   | none=>rw [hrd] at hk;simp at hk
   | some v =>
    rw [hrd] at hk
    obtain ⟨cs,h1,h2⟩:=obi hrd
    simp only [TVRep] at hx
    obtain ⟨_,A,he,hp⟩:=hx
    obtain ⟨b,i,vs,rfl,hc,hat,hl⟩:=readP_sound h h1 hp
    exact⟨_,hk,wp_value (hrun ht he hat hl) h (wrapT_rep h2 hc) hd⟩
  | rp dp cs off =>
   rw [hxv] at hk hx
   simp only at hk
   cases hrd:(takeN off T.size cs).bind (wrapT T) with
   | none=>rw [hrd] at hk;simp at hk
   | some v =>
    rw [hrd] at hk
    simp only at hk
    cases hal:alive s dp
    ·rw [hal] at hk;simp at hk
    rw [hal] at hk
    obtain ⟨ds,h1,h2⟩:=obi hrd
    obtain ⟨h3,rfl⟩:=takeN_some h1
    simp only [TVRep] at hx
    obtain ⟨_,b,i,vs,he,hx⟩:=hx
    obtain ⟨hc,hat,_⟩:=hx hal
    have hl:=hc.len
    exact⟨_,hk,wp_value (hrun ht he (hat.part off T.size) (by simp;omega)) h (wrapT_rep h2 ((hc.drop _).take _)) hd⟩
  | _=>rw [hxv] at hk;simp at hk
theorem Inv.scrap(h:Inv w0 F0 Z0 n s a w ι Z){id:Nat}(hlive:(s.o id).live)(hx:Ext w w' (ι id).F):Inv w0 F0 Z0 n (s.putO id .dead) a w' ι Z:=by
 have hm:Moves w Z s ι w' Z (s.putO id .dead) ι := by
  refine⟨fun j=>?_,fun _ _ h=>h,Same.of_ext hx h.kept_in ?_⟩
  ·show Turn (s.o j) (ι j) (upd s.o id .dead j) (ι j)
   by_cases hj:id=j
   ·subst hj;rw [upd_same];exact .dead _ _ _
   ·rw [upd_ne hj];exact .stay _ _
  ·rintro b o (hz | ⟨id',hl',hst',_,hf⟩) hf'
   ·exact h.apartZ id hlive b o hf' hz
   ·have hne:id'≠id:=by
     rintro rfl
     have:upd s.o id' .dead id'=s.o id':=hst'
     rw [upd_same] at this
     rw [← this] at hlive
     exact hlive
    exact h.apart id' id hl' hlive hne b o hf hf'
 have hlive':∀ {j},((s.putO id .dead).o j).live→id≠j∧(s.o j).live:=fun {j} hl=>by
  have hl:(upd s.o id .dead j).live:=hl
  by_cases hj:id=j
  ·subst hj;rw [upd_same] at hl;exact hl.elim
  ·rw [upd_ne hj] at hl;exact⟨hj,hl⟩
 refine h.next hm hx (fun b o hf=>(h.own id hlive b o hf).1) (fun _ _ h=>.inl h) ?_ ?_ (fun k=>(h.tmps k).move hm) h.size h.defers
 ·intro j hl hne
  exact absurd ⟨upd_ne (hlive' hl).1,rfl⟩ hne
 ·intro j hl
  exact h.apartZ j (hlive' hl).2
theorem op_store{t:Nat}{x y:Operand}(hT:TyOk P E)(h:Inv w0 F0 Z0 n s a w ι Z)(hd:∀k,o.dst=some k→k<n)(ho:o.op=.store t x y)(hk:opK E id o s K=some r) :
  ∃s',K s'=some r∧o.wp P a w (Stands w0 F0 Z0 n s') Q:=by
 unfold opK at hk
 rw [ho] at hk
 simp only at hk
 have hx:=opd_rep h x
 have hy:=opd_rep h y
 cases ht:E.ty t with
 | none=>rw [ht] at hk;simp at hk
 | some T =>
  rw [ht] at hk
  cases hxv:opd s x with
  | ptr p =>
   rw [hxv] at hk hx
   simp only at hk
   cases hc:cellsT T (opd s y) with
   | none =>
    rw [hc] at hk
    simp only at hk
    cases hyv:opd s y <;> rw [hyv] at hk <;> try (simp at hk;done)
    rename_i u
    cases hob:s.o p.id <;> rw [hob] at hk <;> try (simp at hk;done)
    rename_i ver old
    cases hei:p.ei with
    | some i=>rw [hei] at hk;simp at hk
    | none =>
     rw [hei] at hk
     simp only at hk
     cases hb:(Ty.beq u T&&Nat.beq p.off 0&&Nat.ble T.size old.length)
     ·rw [hb] at hk;simp at hk
     rw [hb] at hk
     simp only [cond_true] at hk
     simp only [Bool.and_eq_true] at hb
     obtain ⟨⟨hb1,hb2⟩,hb3⟩:=hb
     have:=Ty.eq_of_beq _ _ hb1
     subst this
     have hb2:=Nat.eq_of_beq_eq_true hb2
     have hb3:=Nat.le_of_ble_eq_true hb3
     rw [hyv] at hy
     simp only [TVRep] at hx hy
     obtain ⟨_,A,he,hp⟩:=hx
     obtain ⟨hwl,hw1⟩:=hy
     have hlive:(s.o p.id).live:=by rw [hob];trivial
     have hobj:=h.objs p.id
     rw [hob] at hobj
     obtain ⟨a0,us,hb',hsp,hcu,hat,hwr⟩:=hobj
     obtain ⟨hs,hp⟩:=hp
     rw [hob] at hp
     obtain ⟨_,a1,hb1',hA⟩:=hp
     rw [hb'] at hb1'
     obtain rfl:=osj hb1'
     rw [hb2] at hA
     subst hA
     have hx2:Ext w (setCells w a0.block (a0.off+0) (a.eval y).cells.toList) (ι p.id).F:=setCells_ext _ _ _ _ fun i hi=>by
      have:=(hwr i (by rw [hwl] at hi;omega)).2;simpa using this
     refine⟨_,hk,wp_skip (w':=setCells w a0.block (a0.off+0) (a.eval y).cells.toList) ?_ (h.scrap hlive hx2) hd⟩
     unfold execOp;rw [ho]
     have:=run_storeVar (P:=P) (w:=w) (hT.ty t _ ht) (b:=a0.block) (o:=a0.off+0) (v:=a.eval y) (by rw [← Array.length_toList,hwl]) hw1 (fun j hj=>by
      have:=(hwr j (by rw [← Array.length_toList,hwl] at hj;omega)).1;simpa using this)
     simp only [Instr.storeAt,Instr.sureAddr,he,run_bind,run_pure,this]
   | some cs =>
    rw [hc] at hk
    simp only at hk
    cases hb:Nat.beq cs.length T.size
    ·rw [hb] at hk;simp at hk
    rw [hb] at hk
    simp only [cond_true] at hk
    cases hwp:writeP s p cs with
    | none=>rw [hwp] at hk;simp at hk
    | some s1 =>
     rw [hwp] at hk
     have hb:=Nat.eq_of_beq_eq_true hb
     have hcr:=cellsT_rep hc hy
     simp only [TVRep] at hx
     obtain ⟨_,A,he,hp⟩:=hx
     obtain ⟨b,i,rfl,hw,ι',Z',hi⟩:=writeP_sound h hwp hp hcr
     have hl:=hcr.len
     refine⟨_,hk,wp_skip (w':=setCells w b i (a.eval y).cells.toList) ?_ hi hd⟩
     unfold execOp;rw [ho]
     have:=run_storeVar (P:=P) (w:=w) (hT.ty t T ht) (b:=b) (o:=i) (v:=a.eval y) (by simp at hl;omega) hcr.oneC (fun j hj=>hw j (by simpa using hj))
     simp only [Instr.storeAt,Instr.sureAddr,he,run_bind,run_pure,this]
  | _=>rw [hxv] at hk;simp at hk
end
end Go.LM
namespace Go.LM
section
variable{P:Program}{Q:Exit→Act→World→Prop}
variable{w0:World}{F0 Z0:Reg}{n:Frm}{s s':St}{a a':Act}{w w':World}{ι ι':Nat→OI}{Z Z':Reg}
variable{E:Env}{o:Oper}{ρ : Type}{K:St→Option ρ}{r : ρ}{id:Nat}
theorem ix_some{m:Nat}{i:Int}{k:Nat}(h:ix m i=some k):0≤i∧i<(m:Int)∧k=i.toNat∧k<m:=by
 unfold ix at h
 split at h
 ·rename_i hc
  have:=osj h
  exact⟨hc.1,hc.2,this.symm,by omega⟩
 ·simp at h
theorem rng_some{m:Nat}{lo hi:Int}{q:Nat×Nat}(h:rng m lo hi=some q):0≤lo∧lo≤hi∧hi≤(m:Int)∧q=(lo.toNat,hi.toNat):=by
 unfold rng at h
 split at h
 ·rename_i hc
  exact⟨hc.1,hc.2.1,hc.2.2,(osj h).symm⟩
 ·simp at h
theorem asInt?_rep{x:TV}{i:Int}{v:Value}(h:asInt? x=some i)(hv:TVRep w Z s ι x v):∃k,v=.int k i:=by
 cases x with
 | sc c =>
  cases c <;> simp [asInt?] at h
  subst h
  simp only [TVRep,CellRep] at hv
  exact⟨_,hv⟩
 | _=>simp [asInt?] at h
theorem op_nilCheck{x:Operand}(h:Inv w0 F0 Z0 n s a w ι Z)(hd:∀k,o.dst=some k→k<n)(ho:o.op=.nilCheck x)(hk:opK E id o s K=some r) :
  ∃s',K s'=some r∧Pure P o a w (Stands w0 F0 Z0 n s'):=by
 unfold opK at hk
 rw [ho] at hk
 simp only at hk
 have hx:=opd_rep h x
 cases hxv:opd s x with
 | ptr p =>
  rw [hxv] at hk hx
  refine⟨_,hk,pure_value (v:=a.eval x) (fun w'=>?_) h hx hd⟩
  simp only [TVRep] at hx
  obtain ⟨_,A,he,_⟩:=hx
  unfold execOp;rw [ho];simp only [he];rfl
 | rp dp cs off =>
  rw [hxv] at hk hx
  refine⟨_,hk,pure_value (v:=a.eval x) (fun w'=>?_) h hx hd⟩
  simp only [TVRep] at hx
  obtain ⟨_,b,i,vs,he,_⟩:=hx
  unfold execOp;rw [ho];simp only [he];rfl
 | may b dp cs =>
  rw [hxv] at hk hx
  cases b
  ·cases hk
  refine⟨_,hk,pure_value (v:=a.eval x) (fun w'=>?_) h ?_ hd⟩
  ·simp only [TVRep] at hx
   rcases hx with⟨hx,_⟩ | ⟨_,_,b,i,vs,he,_⟩
   ·cases hx
   unfold execOp;rw [ho];simp only [he];rfl
  ·simp only [TVRep] at hx ⊢
   rcases hx with⟨hx,_⟩ | ⟨_,hx⟩
   ·cases hx
   ·exact hx
 | fn f l m =>
  rw [hxv] at hk hx
  refine⟨_,hk,pure_value (v:=a.eval x) (fun w'=>?_) h hx hd⟩
  simp only [TVRep] at hx
  obtain ⟨us,vs,he,_⟩:=hx
  unfold execOp;rw [ho];simp only [he];rfl
 | opt i q =>
  rw [hxv] at hk hx
  simp only at hk
  obtain ⟨k,h1,hk⟩:=obi hk
  obtain ⟨h2,h3,rfl,h4⟩:=ix_some h1
  simp only [TVRep] at hx
  obtain ⟨hkn,hx⟩:=hx
  rcases hx with⟨hx,_⟩ | ⟨_,A,he,hp⟩
  ·omega
  refine⟨_,hk,pure_value (v:=a.eval x) (fun w'=>?_) h ?_ hd⟩
  ·unfold execOp;rw [ho];simp only [he];rfl
  ·simp only [TVRep];exact⟨hkn,A,he,hp⟩
 | _=>rw [hxv] at hk;simp at hk
theorem Tys.off_ok{P:Program} : ∀ {ts:Tys} {fs:List Field} {base i k:Nat} {u:Ty},ts.okF P fs base→ts.off i=some (k,u) →
  ∃f,fs[i]?=some f∧f.offset=base+k∧u.ok P f.type
 | .nil,_,_,_,_,_,_,h=>by simp [Tys.off] at h
 | .cons t ts,fs,base,0,k,u,ho,h=>by
  simp only [Tys.okF] at ho
  obtain ⟨f,fs',rfl,h1,h2,h3⟩:=ho
  simp only [Tys.off,Option.some.injEq,Prod.mk.injEq] at h
  obtain ⟨rfl,rfl⟩:=h
  exact⟨f,rfl,by simpa using h1,h2⟩
 | .cons t ts,fs,base,i+1,k,u,ho,h=>by
  simp only [Tys.okF] at ho
  obtain ⟨f,fs',rfl,h1,h2,h3⟩:=ho
  simp only [Tys.off] at h
  obtain ⟨q,h4,h5⟩:=obi h
  simp only [Option.some.injEq,Prod.mk.injEq] at h5
  obtain ⟨rfl,rfl⟩:=h5
  obtain ⟨f',k1,k2,k3⟩:=Tys.off_ok h3 h4
  exact⟨f',by simpa using k1,by omega,k3⟩
theorem st_ok{ts:Tys}{id:TypeId}(h:(Ty.st ts).ok P id):∃fs,P.underlying id=some (.struct fs)∧ts.okF P fs.toList 0:=by
 simp only [Ty.ok] at h;exact h.2
theorem sl_ok{t:Ty}{id:TypeId}(h:(Ty.sl t).ok P id):∃e,P.underlying id=some (.slice e)∧t.ok P e:=by
 simp only [Ty.ok] at h;exact h.2
theorem run_fieldPlace{f:Field}{u:Ty}{b i:Nat}(hu:u.ok P f.type)(hz:u.size≠0):(fieldPlace (at_ b i) f).run P w=.ok (at_ b (i+f.offset)) w:=by
 unfold fieldPlace
 rw [run_bind,run_sizeOf hu]
 simp only
 rw [if_neg hz,run_pure,add_at]
theorem op_fieldAddr{t:Nat}{x:Operand}{i:Nat}(hT:TyOk P E)(h:Inv w0 F0 Z0 n s a w ι Z)(hd:∀k,o.dst=some k→k<n)(ho:o.op=.fieldAddr t x i)(hk:opK E id o s K=some r) :
  ∃s',K s'=some r∧Pure P o a w (Stands w0 F0 Z0 n s'):=by
 unfold opK at hk
 rw [ho] at hk
 simp only at hk
 have hx:=opd_rep h x
 cases ht:E.ty t with
 | none=>rw [ht] at hk;simp at hk
 | some T =>
  rw [ht] at hk
  cases T with
  | st ts =>
   obtain ⟨fs,hu,hfs⟩:=st_ok (hT.ty t _ ht)
   have hrun:∀ {k:Nat} {u:Ty} {b j:Nat},ts.off i=some (k,u)→u.size≠0→a.eval x=.pointer (some (at_ b j))→∀ {w':World},
     (execOp a.eval o).run P w'=.ok (.value (.pointer (some (at_ b (j+k))))) w':=by
    intro k u b j hoff hz he w'
    obtain ⟨f,h1,h2,h3⟩:=Tys.off_ok hfs hoff
    rw [Array.getElem?_toList] at h1
    unfold execOp;rw [ho]
    refine run_v ?_
    simp only [Instr.fieldAt,run_bind,run_underlying hu,h1,Instr.sureAddr,he,run_pure,run_fieldPlace h3 hz,h2,Nat.zero_add]
   cases hxv:opd s x with
   | ptr p =>
    rw [hxv] at hk hx
    simp only at hk
    cases hoff:ts.off i with
    | none=>rw [hoff] at hk;simp at hk
    | some q =>
     obtain ⟨k,u⟩:=q
     rw [hoff] at hk
     simp only at hk
     cases hzz:Nat.beq u.size 0
     case true=>rw [hzz] at hk;simp at hk
     rw [hzz] at hk
     simp only [TVRep] at hx
     obtain ⟨hkn,A,he,hp⟩:=hx
     obtain ⟨b,j,sp⟩:=A
     obtain ⟨hsp,hp⟩:=hp
     simp only at hsp
     subst hsp
     refine⟨_,hk,pure_value (fun w'=>hrun hoff (fun e=>by rw [e] at hzz;simp at hzz) he) h ?_ hd⟩
     simp only [TVRep]
     refine⟨hkn,_,rfl,rfl,?_⟩
     cases hob:(s.o p.id).core with
     | var ver cs =>
      rw [hob] at hp
      obtain ⟨h1,a0,h2,h3⟩:=hp
      simp only [at_,Addr.mk.injEq] at h3
      exact⟨h1,a0,h2,by simp [at_,h3.1,h3.2.1];omega⟩
     | row t' em ver xs =>
      rw [hob] at hp
      obtain ⟨q,h1,h2,a0,h3,h4⟩:=hp
      simp only [at_,Addr.mk.injEq] at h4
      exact⟨q,h1,h2,a0,h3,by simp [at_,h4.1,h4.2.1];omega⟩
     | _=>trivial
   | rp dp cs off =>
    rw [hxv] at hk hx
    simp only at hk
    cases hoff:ts.off i with
    | none=>rw [hoff] at hk;simp at hk
    | some q =>
     obtain ⟨k,u⟩:=q
     rw [hoff] at hk
     simp only at hk
     cases hzz:Nat.beq u.size 0
     case true=>rw [hzz] at hk;simp at hk
     rw [hzz] at hk
     simp only [TVRep] at hx
     obtain ⟨hdp,b,j,vs,he,hx⟩:=hx
     refine⟨_,hk,pure_value (fun w'=>hrun hoff (fun e=>by rw [e] at hzz;simp at hzz) he) h ?_ hd⟩
     simp only [TVRep]
     exact⟨hdp,b,j,vs,by rw [Nat.add_assoc],hx⟩
   | _=>rw [hxv] at hk;simp at hk
  | _=>simp at hk
theorem run_part{u:Ty}{id:TypeId}{cs:List Value}{k:Nat}(hu:u.ok P id)(hk:k+u.size≤cs.length):(Go.part id cs.toArray k).run P w=.ok (wrapV u ((cs.drop k).take u.size)) w:=by
 unfold Go.part
 rw [run_bind,run_isAgg hu]
 simp only
 cases ha:u.agg
 ·have h1:=size_one ha
  simp only [Bool.false_eq_true,if_false]
  rw [h1] at hk ⊢
  have hlt:k<cs.length:=by omega
  have:(cs.drop k).take 1=[cs[k]]:=by
   rw [List.drop_eq_getElem_cons hlt,List.take_succ_cons,List.take_zero]
  rw [this,wrapV_one ha]
  simp [hlt,run_pure]
 ·simp only [if_true]
  rw [run_bind,run_sizeOf hu,wrapV_agg ha]
  simp only [run_pure]
  congr 2
  apply Array.ext'
  simp [List.take_drop,Nat.add_comm]
theorem op_field{t:Nat}{x:Operand}{i:Nat}(hT:TyOk P E)(h:Inv w0 F0 Z0 n s a w ι Z)(hd:∀k,o.dst=some k→k<n)(ho:o.op=.field t x i)(hk:opK E id o s K=some r) :
  ∃s',K s'=some r∧Pure P o a w (Stands w0 F0 Z0 n s'):=by
 unfold opK at hk
 rw [ho] at hk
 simp only at hk
 have hx:=opd_rep h x
 cases ht:E.ty t with
 | none=>rw [ht] at hk;simp at hk
 | some T =>
  rw [ht] at hk
  cases T with
  | st ts =>
   obtain ⟨fs,hu,hfs⟩:=st_ok (hT.ty t _ ht)
   cases hxv:opd s x with
   | ag cs =>
    rw [hxv] at hk hx
    simp only at hk
    cases hoff:ts.off i with
    | none=>rw [hoff] at hk;simp at hk
    | some q =>
     obtain ⟨k,u⟩:=q
     rw [hoff] at hk
     simp only at hk
     cases hw:(takeN k u.size cs).bind (wrapT u) with
     | none=>rw [hw] at hk;simp at hk
     | some v =>
      rw [hw] at hk
      obtain ⟨ds,h1,h2⟩:=obi hw
      obtain ⟨h3,rfl⟩:=takeN_some h1
      simp only [TVRep] at hx
      obtain ⟨vs,he,hc⟩:=hx
      obtain ⟨f,f1,f2,f3⟩:=Tys.off_ok hfs hoff
      rw [Array.getElem?_toList] at f1
      have hl:=hc.len
      refine⟨_,hk,pure_value (fun w'=>?_) h (wrapT_rep h2 ((hc.drop k).take u.size)) hd⟩
      unfold execOp;rw [ho]
      refine run_v ?_
      simp only [Instr.field,run_bind,run_underlying hu,f1,he,asAgg,run_pure]
      have:=run_part (P:=P) (w:=w') f3 (cs:=vs) (k:=k) (by omega)
      rw [f2,Nat.zero_add]
      exact this
   | _=>rw [hxv] at hk;simp at hk
  | _=>simp at hk
theorem op_extract{x:Operand}{i:Nat}(h:Inv w0 F0 Z0 n s a w ι Z)(hd:∀k,o.dst=some k→k<n)(ho:o.op=.extract x i)(hk:opK E id o s K=some r) :
  ∃s',K s'=some r∧Pure P o a w (Stands w0 F0 Z0 n s'):=by
 unfold opK at hk
 rw [ho] at hk
 simp only at hk
 have hx:=opd_rep h x
 cases hxv:opd s x with
 | tup l =>
  rw [hxv] at hk hx
  simp only at hk
  cases hi:l[i]? with
  | none=>rw [hi] at hk;simp at hk
  | some v =>
   rw [hi] at hk
   simp only [TVRep] at hx
   obtain ⟨vs,he,hl⟩:=hx
   have:∀(l:List TV) (vs:List Value) (i:Nat),TVsRep w Z s ι l vs→l[i]?=some v→∃u,vs[i]?=some u∧TVRep w Z s ι v u:=by
    intro l
    induction l with
    | nil=>intro vs i _ hi;simp at hi
    | cons y l ih =>
     intro vs i hl hi
     simp only [TVsRep] at hl
     obtain ⟨u,us,rfl,h1,h2⟩:=hl
     cases i with
     | zero=>simp at hi;subst hi;exact⟨u,rfl,h1⟩
     | succ i=>exact ih us i h2 (by simpa using hi)
   obtain ⟨u,h1,h2⟩:=this l vs i hl hi
   refine⟨_,hk,pure_value (v:=u) (fun w'=>?_) h h2 hd⟩
   unfold execOp;rw [ho]
   refine run_v ?_
   simp only [Instr.extract,he]
   simp [h1,run_pure]
 | _=>rw [hxv] at hk;simp at hk
theorem opds_rep(h:Inv w0 F0 Z0 n s a w ι Z):∀(l:List Operand),TVsRep w Z s ι (l.map (opd s)) (l.map a.eval)
 | []=>by simp only [List.map_nil,TVsRep]
 | x :: l=>by simp only [List.map_cons,TVsRep];exact⟨_,_,rfl,opd_rep h x,opds_rep h l⟩
theorem op_makeFunc{f:FuncId}{first caps:Array Operand}(h:Inv w0 F0 Z0 n s a w ι Z)(hd:∀k,o.dst=some k→k<n)(ho:o.op=.makeFunc (.func f) first caps)(hk:opK E id o s K=some r) :
  ∃s',K s'=some r∧Pure P o a w (Stands w0 F0 Z0 n s'):=by
 unfold opK at hk
 rw [ho] at hk
 simp only at hk
 refine⟨_,hk,pure_value (v:=.func (.func f) (first.map a.eval) (caps.map a.eval)) (fun w'=>?_) h ?_ hd⟩
 ·unfold execOp;rw [ho];rfl
 ·simp only [TVRep]
  refine⟨first.toList.map a.eval,caps.toList.map a.eval,?_,opds_rep h _,opds_rep h _⟩
  congr 1 <;>(apply Array.ext';simp)
end
end Go.LM
namespace Go.LM
section
variable{P:Program}{Q:Exit→Act→World→Prop}
variable{w0:World}{F0 Z0:Reg}{n:Frm}{s s':St}{a a':Act}{w w':World}{ι ι':Nat→OI}{Z Z':Reg}
variable{E:Env}{o:Oper}{ρ : Type}{K:St→Option ρ}{r : ρ}{id:Nat}
theorem asIntOf_run{k:IntKind}{i:Int} :(asIntOf (.int k i)).run P w=.ok (k,i) w:=rfl
theorem run_indexAt{t:TypeId}{u:Ty}{e:TypeId}{A:Addr}{b o len c:Nat}{k:IntKind}{i:Int}(hu:P.underlying t=some (.slice e))(he:u.ok P e)
  (h0:0≤i) (h1:i<(len:Int)):(Instr.indexAt t (.slice (some (at_ b o)) len c) (.int k i)).run P w=.ok (.pointer (some (at_ b (o+i.toNat*u.size)))) w:=by
 unfold Instr.indexAt
 simp only [run_bind,asIntOf_run,run_underlying hu,run_pure]
 rw [if_pos ⟨h0,h1⟩]
 simp only [run_bind,run_sizeOf he,run_pure,add_at]
theorem beq_eq{u v:Ty}(h:Ty.beq u v=true):u=v:=Ty.eq_of_beq _ _ h
theorem op_indexAddr{t:Nat}{x i:Operand}(hT:TyOk P E)(h:Inv w0 F0 Z0 n s a w ι Z)(hd:∀k,o.dst=some k→k<n)(ho:o.op=.indexAddr t x i)(hk:opK E id o s K=some r) :
  ∃s',K s'=some r∧Pure P o a w (Stands w0 F0 Z0 n s'):=by
 unfold opK at hk
 rw [ho] at hk
 simp only at hk
 have hx:=opd_rep h x
 have hi:=opd_rep h i
 cases ht:E.ty t with
 | none=>rw [ht] at hk;simp at hk
 | some T =>
  cases T with
  | sl u =>
   obtain ⟨e,hu,hue⟩:=sl_ok (hT.ty t _ ht)
   rw [ht] at hk
   cases hiv:asInt? (opd s i) with
   | none=>rw [hiv] at hk;cases opd s x <;> simp at hk
   | some q =>
    rw [hiv] at hk
    obtain ⟨kd,hie⟩:=asInt?_rep hiv hi
    cases hxv:opd s x with
    | sc c =>
     rw [hxv] at hk hx
     simp only [TVRep] at hx
     cases c with
     | hd j sub =>
      simp only at hk
      obtain ⟨hkn,A,m,c,hxe,hh⟩:=hx
      cases hob:s.o j with
      | row v em ver xs =>
       rw [hob] at hk
       simp only at hk
       cases hb:Ty.beq u v
       ·rw [hb] at hk;simp at hk
       rw [hb] at hk
       obtain rfl:=beq_eq hb
       obtain ⟨k,h1,hk⟩:=obi hk
       obtain ⟨h2,h3,rfl,h4⟩:=ix_some h1
       obtain ⟨g1,g2,g3,g4,g5⟩:=hh _ _ _ _ (core_row hob)
       have hm:subLen sub xs=m:=by
        cases sub with
        | none=>simp [subLen,g1]
        | some p=>obtain ⟨lo,l⟩:=p;simp [subLen,g1]
       rw [hm] at h3 h4
       rcases g5 with g5 | ⟨a0,hb0,rfl⟩
       ·omega
       refine⟨_,hk,pure_value (v:=.pointer (some (at_ a0.block (a0.off+subLo sub*u.size+q.toNat*u.size)))) (fun w'=>?_) h ?_ hd⟩
       ·unfold execOp;rw [ho]
        refine run_v ?_
        simp only [hxe,hie]
        exact run_indexAt (A:=a0) hu hue h2 h3
       ·simp only [TVRep]
        refine⟨hkn,_,rfl,rfl,?_⟩
        simp only
        rw [hob]
        exact⟨_,rfl,by omega,a0,hb0,by simp [at_,Nat.add_mul];omega⟩
      | _=>rw [hob] at hk;simp at hk
     | lst v dp og xs =>
      simp only at hk
      cases hb:(alive s dp&&Ty.beq u v)
      ·rw [hb] at hk;simp at hk
      rw [hb] at hk
      simp only [Bool.and_eq_true] at hb
      obtain ⟨hal,hb⟩:=hb
      obtain rfl:=beq_eq hb
      obtain ⟨k,h1,hk⟩:=obi hk
      obtain ⟨h2,h3,rfl,h4⟩:=ix_some h1
      obtain ⟨hdp,⟨A,m,c,hxe⟩,hrep,_⟩:=hx
      have hr:=hrep hal
      simp only [Ty.Rep] at hr
      obtain ⟨A',c',hv,hr⟩:=hr
      rw [hxe] at hv
      simp only [List.cons.injEq,Value.slice.injEq,and_true] at hv
      obtain ⟨rfl,rfl,rfl⟩:=hv
      rcases hr with hr | ⟨a0,rfl,hsp,hrow,hz,hcp⟩
      ·rw [hr] at h4;simp at h4
      obtain ⟨vs,G,k1,k2,k3,k4⟩:=hrow.get q.toNat h4
      obtain ⟨b0,o0,sp⟩:=a0
      simp only at hsp
      subst hsp
      refine⟨_,hk,pure_value (v:=.pointer (some (at_ b0 (o0+q.toNat*u.size)))) (fun w'=>?_) h ?_ hd⟩
      ·unfold execOp;rw [ho]
       refine run_v ?_
       simp only [hxe,hie]
       exact run_indexAt (A:=at_ b0 o0) hu hue h2 h3
      ·simp only [TVRep]
       refine⟨hdp,b0,o0+q.toNat*u.size,vs,rfl,fun _=>⟨?_,k3,fun j hj=>?_⟩⟩
       ·rw [gd_eq h4]
        exact Ty.cells_rep u dp none hdp (fun _=>k1) ⟨_,_,_,k1⟩ .none
       ·have hcl:(u.cells dp none (gd u xs q.toNat)).length=u.size:=by
         rw [gd_eq h4,← k2]
         exact((Ty.cells_rep (s:=s) (w:=w) (Z:=Z) (ι := ι) u dp none hdp (fun _=>k1) ⟨_,_,_,k1⟩ .none).len).symm
        rw [hcl] at hj
        have:=hz (q.toNat*u.size+j) (by
         have:(q.toNat+1)*u.size≤xs.length*u.size:=Nat.mul_le_mul_right _ h4
         rw [Nat.add_one_mul] at this;omega)
        rwa [← Nat.add_assoc] at this
     | _=>simp at hk
    | _=>rw [hxv] at hk;simp at hk
  | _=>rw [ht] at hk;simp at hk
theorem op_index{t:Nat}{x i:Operand}(hT:TyOk P E)(h:Inv w0 F0 Z0 n s a w ι Z)(hd:∀k,o.dst=some k→k<n)(ho:o.op=.index t x i)(hk:opK E id o s K=some r) :
  ∃s',K s'=some r∧Pure P o a w (Stands w0 F0 Z0 n s'):=by
 unfold opK at hk
 rw [ho] at hk
 simp only at hk
 have hx:=opd_rep h x
 have hi:=opd_rep h i
 cases ht:E.ty t with
 | none=>rw [ht] at hk;simp at hk
 | some T =>
  cases T with
  | str =>
   have hu:P.underlying t=some .string:=by have:=hT.ty t _ ht;simp only [Ty.ok] at this;exact this.1
   rw [ht] at hk
   cases hiv:asInt? (opd s i) with
   | none=>rw [hiv] at hk;cases hxv:opd s x with
    | sc c=>rw [hxv] at hk;cases c <;> simp at hk
    | _=>rw [hxv] at hk;simp at hk
   | some q =>
    rw [hiv] at hk
    obtain ⟨kd,hie⟩:=asInt?_rep hiv hi
    cases hxv:opd s x with
    | sc c =>
     rw [hxv] at hk hx
     simp only [TVRep] at hx
     cases c with
     | str b =>
      simp only at hk
      obtain ⟨k,h1,hk⟩:=obi hk
      obtain ⟨h2,h3,rfl,h4⟩:=ix_some h1
      obtain ⟨bs,hxe,rfl⟩:=hx
      refine⟨_,hk,pure_value (v:=.int .u8 ((bs.data.toList.getD q.toNat 0).toNat:Int)) (fun w'=>?_) h (by simp only [TVRep,CellRep]) hd⟩
      unfold execOp;rw [ho]
      refine run_v ?_
      have hsz:q.toNat<bs.size:=by simpa using h4
      simp only [Instr.index,hxe,hie,run_bind,asIntOf_run,run_underlying hu,if_pos h2]
      have hg:bs[q.toNat]?=some bs[q.toNat]:=by simp [hsz]
      rw [hg]
      simp only [run_pure]
      congr 3
      have:bs.data.toList.getD q.toNat 0=bs[q.toNat]:=by
       simp [List.getD_eq_getElem?_getD,hsz]
       rfl
      rw [this]
     | _=>simp at hk
    | _=>rw [hxv] at hk;simp at hk
  | _=>rw [ht] at hk;simp at hk
end
end Go.LM
namespace Go.LM
section
variable{P:Program}{Q:Exit→Act→World→Prop}
variable{w0:World}{F0 Z0:Reg}{n:Frm}{s s':St}{a a':Act}{w w':World}{ι ι':Nat→OI}{Z Z':Reg}
variable{E:Env}{o:Oper}{ρ : Type}{K:St→Option ρ}{r : ρ}{id:Nat}
theorem run_sliceBound{k:IntKind}{i:Int}{y:Nat}{code:BoundsCode}(h0:0≤i)(h1:i≤(y:Int)):(Instr.sliceBound (.int k i) y code).run P w=.ok i.toNat w:=by
 unfold Instr.sliceBound
 simp only [run_bind,asIntOf_run]
 rw [if_pos ⟨h0,h1⟩];rfl
theorem bound_some(h:Inv w0 F0 Z0 n s a w ι Z){x:Option Operand}{d i:Int}(hb:bound s x d=some i) :
  (x=none∧i=d)∨∃y k,x=some y∧a.eval y=.int k i:=by
 cases x with
 | none=>simp [bound] at hb;exact .inl ⟨rfl,hb.symm⟩
 | some y =>
  obtain ⟨k,hk⟩:=asInt?_rep (x:=opd s y) hb (opd_rep h y)
  exact .inr ⟨y,k,rfl,hk⟩
theorem run_bounds2(h:Inv w0 F0 Z0 n s a w ι Z){isS:Bool}{len cap:Nat}{lo hi:Option Operand}{l q:Int}(hl:bound s lo 0=some l)(hq:bound s hi len=some q)
  (h0:0≤l) (h1:l≤q) (h2:q≤(len:Int)) (hc:len≤cap) :
  (Instr.sliceBounds isS len cap (lo.map a.eval) (hi.map a.eval) none).run P w'=.ok (l.toNat,q.toNat,cap) w':=by
 unfold Instr.sliceBounds
 rcases bound_some h hl with⟨rfl,rfl⟩ | ⟨y,k,rfl,hy⟩ <;> rcases bound_some h hq with⟨rfl,rfl⟩ | ⟨y',k',rfl,hy'⟩
 ·simp only [Option.map_none,run_bind,run_pure,Int.toNat_natCast];rfl
 ·simp only [Option.map_none,Option.map_some,run_bind,run_pure,hy']
  rw [run_sliceBound (by omega) (by omega)];rfl
 ·simp only [Option.map_none,Option.map_some,run_bind,run_pure,hy,Int.toNat_natCast]
  simp only [Option.isSome_none,Bool.false_eq_true,if_false]
  rw [run_sliceBound h0 (by omega)]
 ·simp only [Option.map_some,run_bind,run_pure,hy,hy']
  rw [run_sliceBound (by omega) (by omega)]
  simp only [Option.isSome_none,Bool.false_eq_true,if_false]
  rw [run_sliceBound h0 (by omega)]
theorem run_bounds3(h:Inv w0 F0 Z0 n s a w ι Z){len cap:Nat}{lo:Option Operand}{y m:Operand}{l q:Int}{k k':IntKind}(hl:bound s lo 0=some l)(hy:a.eval y=.int k q)(hm:a.eval m=.int k' q)
  (h0:0≤l) (h1:l≤q) (h2:q≤(cap:Int)) :
  (Instr.sliceBounds true len cap (lo.map a.eval) (some (a.eval y)) (some (a.eval m))).run P w'=.ok (l.toNat,q.toNat,q.toNat) w':=by
 unfold Instr.sliceBounds
 rcases bound_some h hl with⟨rfl,rfl⟩ | ⟨z,kz,rfl,hz⟩
 ·simp only [Option.map_none,run_bind,run_pure,hy,hm,if_true]
  rw [run_sliceBound (by omega) h2]
  simp only
  rw [run_sliceBound (by omega) (by omega)]
  rfl
 ·simp only [Option.map_some,run_bind,run_pure,hy,hm,hz,if_true]
  rw [run_sliceBound (by omega) h2]
  simp only
  rw [run_sliceBound (by omega) (by omega)]
  simp only [Option.isSome_some,if_true]
  rw [run_sliceBound h0 (by omega)]
theorem extract_toList(b:ByteArray)(l h:Nat):(b.extract l h).data.toList=part b.data.toList l (h-l):=by
 unfold part
 rw [ByteArray.data_extract,Array.toList_extract,List.extract_eq_take_drop]
theorem cut_rep{T:Ty}{c c':HC}{A:Option Addr}{m k:Nat}{l q:Nat}{mx:Nat}{u:Ty}(hT:T=.sl u)(hf:fitsC s T c=true)(hlen:lenC s c=some m)
  (hcut:cutC c l (q-l)=some c') (hc:CellRep w Z s ι c (.slice A m k)) (h1:l≤q) (h2:q≤m) (h3:q≤mx) (h4:mx≤k) :
  CellRep w Z s ι c' (.slice (if mx=l then A else A.map (·.add (l*u.size))) (q-l) (mx-l)):=by
 subst hT
 cases c with
 | nil v =>
  obtain rfl:=osj hcut
  have hv:Value.slice A m k=.slice none 0 0:=hc
  simp only [Value.slice.injEq] at hv
  obtain ⟨rfl,rfl,rfl⟩:=hv
  have:l=0:=by omega
  have:mx=0:=by omega
  have:q=0:=by omega
  subst_vars
  exact rfl
 | lst v dp og xs =>
  obtain rfl:=osj hcut
  simp only [fitsC] at hf
  have huv:=beq_eq hf
  injection huv with huv
  subst huv
  obtain ⟨hd,_,hr,_⟩:=hc
  refine⟨hd,⟨_,_,_,rfl⟩,fun ha=>?_,.none⟩
  have:=hr ha
  simp only [Ty.Rep] at this ⊢
  obtain ⟨A',c0,hv,hx⟩:=this
  simp only [List.cons.injEq,Value.slice.injEq,and_true] at hv
  obtain ⟨rfl,rfl,rfl⟩:=hv
  have hpl:(part xs l (q-l)).length=q-l:=by simp only [part,List.length_take,List.length_drop];omega
  refine⟨_,_,by rw [hpl],?_⟩
  by_cases hql:q-l=0
  ·left;exact List.eq_nil_of_length_eq_zero (by rw [hpl,hql])
  ·right
   rcases hx with rfl | ⟨a0,rfl,hsp,hrow,hz,hcp⟩
   ·simp at h2;omega
   obtain ⟨b0,o0,sp⟩:=a0
   simp only at hsp
   subst hsp
   refine⟨at_ b0 (o0+l*u.size),?_,rfl,(hrow.drop l).take _,fun j hj=>?_,by rw [hpl];omega⟩
   ·rw [if_neg (by omega)]
    exact congrArg some (add_at _ _ _)
   ·rw [hpl] at hj
    have:=hz (l*u.size+j) (by
     have h5:(l +(q-l))*u.size≤xs.length*u.size:=Nat.mul_le_mul_right _ (by omega)
     rw [Nat.add_mul] at h5;omega)
    rwa [← Nat.add_assoc] at this
 | hd j sub =>
  obtain rfl:=osj hcut
  obtain ⟨hkn,A',m',k',hv,hh⟩:=hc
  simp only [Value.slice.injEq] at hv
  obtain ⟨rfl,rfl,rfl⟩:=hv
  refine⟨hkn,_,_,_,rfl,fun t em ver xs hob=>?_⟩
  obtain ⟨g1,g2,g3,g4,g5⟩:=hh t em ver xs hob
  have ht:t=u:=by
   simp only [fitsC] at hf
   cases hoo:s.o j with
   | row =>
    rw [hoo] at hf hob
    simp only [LObj.core,LObj.row.injEq] at hob
    obtain ⟨rfl,_⟩:=hob
    have:=beq_eq hf
    injection this with this
    exact this.symm
   | _=>rw [hoo] at hf;simp at hf
  subst ht
  have e1:subLo (some (subLo sub+l,q-l))=subLo sub+l:=rfl
  refine⟨rfl,by rw [e1];omega,by omega,by rw [e1];omega,?_⟩
  by_cases hml:mx=l
  ·left;omega
  ·right
   rcases g5 with g5 | ⟨a0,hb,rfl⟩
   ·omega
   ·refine⟨a0,hb,?_⟩
    rw [if_neg hml]
    simp only [Option.map_some,add_at,e1,Nat.add_mul,Nat.add_assoc]
 | _=>simp [cutC] at hcut <;>(simp [fitsC] at hf <;> simp [Ty.beq] at hf)
theorem header_of{T:Ty}{c:HC}{v:Value}{m:Nat}{u:Ty}(hT:T=.sl u)(hf:fitsC s T c=true)(hlen:lenC s c=some m)(hc:CellRep w Z s ι c v) :
  ∃A k,v=.slice A m k∧m≤k:=by
 subst hT
 cases c with
 | nil x=>simp only [lenC,Option.some.injEq] at hlen;subst hlen;exact⟨none,0,hc,Nat.le_refl _⟩
 | lst x dp og xs =>
  simp only [lenC] at hlen
  cases ha:alive s dp
  ·rw [ha] at hlen;simp at hlen
  rw [ha] at hlen
  simp only [cond_true,Option.some.injEq] at hlen
  subst hlen
  have:=hc.2.2.1 ha
  simp only [Ty.Rep] at this
  obtain ⟨A,c,hv,hx⟩:=this
  simp only [List.cons.injEq,and_true] at hv
  refine⟨A,c,hv,?_⟩
  rcases hx with rfl | ⟨_,_,_,_,_,hcp⟩
  ·simp
  ·exact hcp
 | hd j sub =>
  simp only [lenC] at hlen
  cases ho:s.o j with
  | row t em ver xs =>
   rw [ho] at hlen
   simp only [Option.some.injEq] at hlen
   obtain ⟨_,A,m',k,rfl,hh⟩:=hc
   obtain ⟨g1,g2,g3,g4,g5⟩:=hh _ _ _ _ (core_row ho)
   have:m'=m:=by
    rw [← hlen,g1]
    cases sub with
    | none=>rfl
    | some p=>rfl
   subst this
   exact⟨A,k,rfl,g3⟩
  | _=>rw [ho] at hlen;simp at hlen
 | _=>simp [fitsC,Ty.beq] at hf
theorem op_slice{t:Nat}{x:Operand}{lo hi mx:Option Operand}(hT:TyOk P E)(h:Inv w0 F0 Z0 n s a w ι Z)(hd:∀k,o.dst=some k→k<n)(ho:o.op=.slice t x lo hi mx)(hk:opK E id o s K=some r) :
  ∃s',K s'=some r∧Pure P o a w (Stands w0 F0 Z0 n s'):=by
 unfold opK at hk
 rw [ho] at hk
 simp only at hk
 have hx:=opd_rep h x
 cases ht:E.ty t with
 | none=>rw [ht] at hk;simp at hk
 | some T =>
  rw [ht] at hk
  simp only [sliceK] at hk
  cases hxv:opd s x with
  | sc c =>
   rw [hxv] at hk hx
   simp only at hk
   simp only [TVRep] at hx
   cases hf:fitsC s T c
   ·rw [hf] at hk;simp at hk
   rw [hf] at hk
   simp only [cond_true] at hk
   cases hlen:lenC s c with
   | none=>rw [hlen] at hk;simp at hk
   | some m =>
    rw [hlen] at hk
    simp only at hk
    cases hl:bound s lo 0 with
    | none=>rw [hl] at hk;simp at hk
    | some l =>
     cases hq:bound s hi (m:Int) with
     | none=>rw [hl,hq] at hk;simp at hk
     | some q =>
      rw [hl,hq] at hk
      simp only at hk
      have main:(rng m l q).bind (fun r=>match cutC c r.1 (r.2-r.1) with | some c'=>K (s.dst o.dst (.sc c')) | none=>none)=some r →
        ∃c',K (s.dst o.dst (.sc c'))=some r∧0≤l∧l≤q∧q≤(m:Int)∧cutC c l.toNat (q.toNat-l.toNat)=some c':=by
       intro hk
       obtain ⟨p,h1,hk⟩:=obi hk
       obtain ⟨h2,h3,h4,rfl⟩:=rng_some h1
       cases hcut:cutC c l.toNat (q.toNat-l.toNat) with
       | none=>simp only [hcut] at hk;simp at hk
       | some c'=>simp only [hcut] at hk;exact⟨c',hk,h2,h3,h4,rfl⟩
      cases mx with
      | none =>
       obtain ⟨c',hk,h2,h3,h4,hcut⟩:=main hk
       refine⟨_,hk,?_⟩
       by_cases hstr:T=.str
       ·subst hstr
        have hu:P.underlying t=some .string:=by have:=hT.ty t _ ht;simp only [Ty.ok] at this;exact this.1
        cases c <;> simp only [fitsC,Ty.beq] at hf <;> try (simp at hf;done)
        ·rename_i b
         obtain ⟨bs,hxe,rfl⟩:=hx
         simp only [lenC,Option.some.injEq] at hlen
         obtain rfl:=osj hcut
         refine pure_value (v:=.string (bs.extract l.toNat q.toNat)) (fun w'=>?_) h ?_ hd
         ·unfold execOp;rw [ho]
          refine run_v ?_
          have hsz:bs.size=m:=by rw [← hlen];simp
          simp only [Instr.sliceAt,Instr.slice,run_bind,run_underlying hu,hxe,Option.map_none]
          simp only [Option.isSome_none,Bool.false_eq_true,if_false]
          rw [hsz,run_bind,run_bounds2 h hl hq h2 h3 h4 (Nat.le_refl _)]
          rfl
         ·simp only [TVRep]
          exact⟨_,rfl,extract_toList _ _ _⟩
        ·cases ho2:s.o _ <;> rw [ho2] at hf <;> simp [Ty.beq] at hf
       ·cases T with
        | str=>exact absurd rfl hstr
        | sl u =>
         obtain ⟨e,hu,hue⟩:=sl_ok (hT.ty t _ ht)
         have hv:=header_of rfl hf hlen hx
         obtain ⟨A,k,hxe,hmk⟩:=hv
         rw [hxe] at hx
         refine pure_value (fun w'=>?_) h (x:=.sc c') (v:=.slice (if k=l.toNat then A else A.map (·.add (l.toNat*u.size))) (q.toNat-l.toNat) (k-l.toNat)) ?_ hd
         ·unfold execOp;rw [ho]
          refine run_v ?_
          simp only [Instr.sliceAt,Instr.slice,run_bind,run_underlying hu,hxe,Option.map_none]
          rw [run_bounds2 h hl hq h2 h3 h4 hmk]
          simp only [run_bind,run_sizeOf hue,run_pure]
         ·simp only [TVRep]
          exact cut_rep rfl hf hlen hcut hx (by omega) (by omega) (by omega) (Nat.le_refl _)
        | _=>cases c <;> simp only [fitsC,Ty.beq] at hf <;> first | (simp at hf;done) | (cases ho2:s.o _ <;> rw [ho2] at hf <;> simp [Ty.beq] at hf)
      | some mm =>
       simp only at hk
       cases hstr:Ty.beq T .str
       case true=>rw [hstr] at hk;simp at hk
       rw [hstr] at hk
       simp only [cond_false] at hk
       cases hmm:asInt? (opd s mm) with
       | none=>rw [hmm] at hk;simp at hk
       | some im =>
        rw [hmm] at hk
        simp only at hk
        cases hi with
        | none=>simp at hk
        | some y =>
         simp only [Option.isSome_some,cond_true,grd] at hk
         cases hqm:decide (q=im)
         ·rw [hqm] at hk;simp at hk
         rw [hqm] at hk
         have hqm:=of_decide_eq_true hqm
         subst hqm
         obtain ⟨c',hk,h2,h3,h4,hcut⟩:=main hk
         obtain ⟨k1,hy⟩:=asInt?_rep hq (opd_rep h y)
         obtain ⟨k2,hm2⟩:=asInt?_rep hmm (opd_rep h mm)
         refine⟨_,hk,?_⟩
         cases T with
         | str=>simp [Ty.beq] at hstr
         | sl u =>
          obtain ⟨e,hu,hue⟩:=sl_ok (hT.ty t _ ht)
          obtain ⟨A,k,hxe,hmk⟩:=header_of rfl hf hlen hx
          rw [hxe] at hx
          refine pure_value (fun w'=>?_) h (x:=.sc c') (v:=.slice (if q.toNat=l.toNat then A else A.map (·.add (l.toNat*u.size))) (q.toNat-l.toNat) (q.toNat-l.toNat)) ?_ hd
          ·unfold execOp;rw [ho]
           refine run_v ?_
           simp only [Instr.sliceAt,Instr.slice,run_bind,run_underlying hu,hxe,Option.map_some]
           rw [run_bounds3 h hl hy hm2 h2 h3 (by omega)]
           simp only [run_bind,run_sizeOf hue,run_pure]
          ·simp only [TVRep]
           exact cut_rep rfl hf hlen hcut hx (by omega) (by omega) (by omega) (by omega)
         | _=>cases c <;> simp only [fitsC,Ty.beq] at hf <;> first | (simp at hf;done) | (cases ho2:s.o _ <;> rw [ho2] at hf <;> simp [Ty.beq] at hf)
  | _=>rw [hxv] at hk;simp at hk
end
end Go.LM
namespace Go.LM
section
variable{P:Program}{Q:Exit→Act→World→Prop}
variable{w0:World}{F0 Z0:Reg}{n:Frm}{s s':St}{a a':Act}{w w':World}{ι ι':Nat→OI}{Z Z':Reg}
variable{E:Env}{o:Oper}{ρ : Type}{K:St→Option ρ}{r : ρ}{id:Nat}
theorem kind_eq{k k':IntKind}(h:Nat.beq (kindNo k) (kindNo k')=true):k=k':=kindNo_inj (Nat.eq_of_beq_eq_true h)
theorem grd_some{α : Type}{b:Bool}{x:Option α}{y : α}(h:grd b x=some y):b=true∧x=some y:=by
 cases b
 ·simp [grd] at h
 ·exact⟨rfl,h⟩
theorem toList_data(z:ByteArray):z.toList=z.data.toList:=by
 unfold ByteArray.toList
 have key:∀(m i:Nat) (r:List UInt8),z.size-i=m→i≤z.size→ByteArray.toList.loop z i r=r.reverse++z.data.toList.drop i:=by
  intro m
  induction m with
  | zero =>
   intro i r h hi
   unfold ByteArray.toList.loop
   rw [if_neg (by omega),List.drop_of_length_le (by simp;show z.data.size≤i;have:z.data.size=z.size:=rfl;omega)]
   simp
  | succ m ih =>
   intro i r h hi
   unfold ByteArray.toList.loop
   rw [if_pos (by omega),ih (i+1) _ (by omega) (by omega)]
   have hlt:i<z.data.toList.length:=by simp;show i<z.data.size;have:z.data.size=z.size:=rfl;omega
   rw [List.drop_eq_getElem_cons hlt]
   have hg:z.get! i=z.data.toList[i]:=by
    simp [ByteArray.get!]
    have:i<z.data.size:=by simpa using hlt
    exact getElem!_pos z.data i this
   rw [hg];simp
 have:=key z.size 0 [] rfl (by omega)
 simpa using this
theorem toList_eqS(x y:ByteArray):(x.toList==y.toList)=eqS x.data.toList y.data.toList:=by
 rw [toList_data,toList_data,Bool.eq_iff_iff]
 simp [eqS]
theorem lift_some{x:Option TV}{K:TV→Option ρ}(h:lift x K=some r):∃v,x=some v∧K v=some r:=by
 cases x with
 | none=>simp [lift] at h
 | some v=>exact⟨v,rfl,h⟩
theorem intBin_run{op:BinOp}{k:IntKind}{x y:Int}{v:TV}{ty yty:TypeId}{xo yo:Operand}(h:intBin op k x y=some v)(h1:op≠.shl)(h2:op≠.shr)(h3:op≠.quo)(h4:op≠.rem) :
  ∃u,(∀w:World,(binOp op ty (.int k x) (.int k y)).run P w=.ok u w)∧∀w Z s ι,TVRep w Z s ι v u:=by
 cases op <;> simp only [intBin] at h <;> first | (simp at h;done) | (obtain rfl:=osj h)
 all_goals
  refine⟨_,fun w=>by simp only [binOp];rw [if_neg (by simp)];rfl,fun w Z s ι => ?_⟩
  simp only [TVRep,CellRep]
  try rfl
theorem eqGuard_run{op:BinOp}{ty:TypeId}{xo yo:Operand}{u v:Value}(h1:(∃k x,u=.int k x)∨(∃x,u=.string x)∨(∃x,u=.bool x)∨(∃x,u=.pointer x)) :
  (eqGuard op ty xo yo u v).run P w=.ok () w:=by
 unfold eqGuard
 rcases h1 with⟨k,x,rfl⟩ | ⟨x,rfl⟩ | ⟨x,rfl⟩ | ⟨x,rfl⟩ <;>(cases op <;> rfl)
theorem run_binop{op:BinOp}{ty yty:TypeId}{xo yo:Operand}{u:Value}(ho:o.op=.binOp op ty xo yo yty)(hg:(eqGuard op ty xo yo (a.eval xo) (a.eval yo)).run P w=.ok () w)
  (hr:(binOp op ty (a.eval xo) (a.eval yo)).run P w=.ok u w):(execOp a.eval o).run P w=.ok (.value u) w:=by
 unfold execOp;rw [ho]
 refine run_v ?_
 rw [run_bind,hg]
 exact hr
theorem strCmp_run{op:BinOp}{x y:ByteArray}{v:TV}{ty:TypeId}(h:strCmp op x.data.toList y.data.toList=some v) :
  ∃u,(∀w:World,(binOp op ty (.string x) (.string y)).run P w=.ok u w)∧∀w Z s ι,TVRep w Z s ι v u:=by
 cases op <;> simp only [strCmp] at h <;> first | (simp at h;done) | (obtain rfl:=osj h)
 all_goals
  refine⟨_,fun w=>rfl,fun w Z s ι => ?_⟩
  have:=toList_eqS x y
  simp only [toList_data] at this
  simp only [TVRep,CellRep,ltS,toList_data,Value.bool.injEq,this]
theorem op_unOp{op:UnOp}{t:Nat}{x:Operand}(h:Inv w0 F0 Z0 n s a w ι Z)(hd:∀k,o.dst=some k→k<n)(ho:o.op=.unOp op t x)(hk:opK E id o s K=some r) :
  ∃s',K s'=some r∧Pure P o a w (Stands w0 F0 Z0 n s'):=by
 unfold opK at hk
 rw [ho] at hk
 simp only at hk
 have hx:=opd_rep h x
 have hrun:∀ {u:Value} {w:World},(Op.unary op (a.eval x)).run P w=.ok u w→(execOp a.eval o).run P w=.ok (.value u) w:=by
  intro u w hu;unfold execOp;rw [ho];exact run_v hu
 cases hxv:opd s x with
 | sc c =>
  rw [hxv] at hk hx
  simp only [TVRep] at hx
  cases op <;> cases c <;> simp only [unK] at hk <;> try (simp at hk;done)
  ·simp only [CellRep] at hx
   exact⟨_,hk,pure_value (fun w'=>hrun (by rw [hx];rfl)) h (by simp only [TVRep,CellRep]) hd⟩
  ·simp only [CellRep] at hx
   exact⟨_,hk,pure_value (fun w'=>hrun (by rw [hx];rfl)) h (by simp only [TVRep,CellRep];rfl) hd⟩
  ·simp only [CellRep] at hx
   exact⟨_,hk,pure_value (fun w'=>hrun (by rw [hx];rfl)) h (by simp only [TVRep,CellRep]) hd⟩
 | _=>rw [hxv] at hk;cases op <;> simp [unK] at hk
def EqOk(P:Program)(E:Env):Prop:=∀id T,E.eqt id=true→E.ty id=some T→∀(op:BinOp) (xo yo:Operand) (w:World) (Z:Reg) (s:St) (ι : Nat→OI) (cs ds:List HC) (us vs:List Value) (q:Bool),
  CellsRep w Z s ι cs us→CellsRep w Z s ι ds vs→T.cmp cs ds=some (q,[],[]) →
  (eqGuard op id xo yo (.agg us.toArray) (.agg vs.toArray)).run P w=.ok () w ∧
  (op=.eql→(binOp op id (.agg us.toArray) (.agg vs.toArray)).run P w=.ok (.bool q) w) ∧
  (op=.neq→(binOp op id (.agg us.toArray) (.agg vs.toArray)).run P w=.ok (.bool (!q)) w)
mutual
theorem Ty.cmp_any{w w':World}{Z:Reg}{s:St}{ι : Nat→OI} : ∀(t:Ty) {cs ds:List HC} {r:Bool×List HC×List HC} {us vs:List Value},t.cmp cs ds=some r→CellsRep w Z s ι cs us→CellsRep w Z s ι ds vs →
  ∃us1 us2 vs1 vs2 a b,us=us1++us2∧vs=vs1++vs2∧cs=a++r.2.1∧ds=b++r.2.2∧CellsRep w' Z s ι a us1∧CellsRep w' Z s ι b vs1∧CellsRep w Z s ι r.2.1 us2∧CellsRep w Z s ι r.2.2 vs2
 | .int k,.int k1 x :: a,.int k2 y :: b,r,us,vs,h,h1,h2=>by
  simp only [Ty.cmp] at h
  cases hk:(Nat.beq (kindNo k1) (kindNo k)&&Nat.beq (kindNo k2) (kindNo k))
  ·rw [hk] at h;cases h
  rw [hk] at h
  obtain rfl:=osj h
  cases us with
  | nil=>exact h1.elim
  | cons u us=>cases vs with
   | nil=>exact h2.elim
   | cons v vs=>exact⟨[u],us,[v],vs,[.int k1 x],[.int k2 y],rfl,rfl,rfl,rfl,⟨h1.1,trivial⟩,⟨h2.1,trivial⟩,h1.2,h2.2⟩
 | .bool,.bool x :: a,.bool y :: b,r,us,vs,h,h1,h2=>by
  obtain rfl:=osj h
  cases us with
  | nil=>exact h1.elim
  | cons u us=>cases vs with
   | nil=>exact h2.elim
   | cons v vs=>exact⟨[u],us,[v],vs,[.bool x],[.bool y],rfl,rfl,rfl,rfl,⟨h1.1,trivial⟩,⟨h2.1,trivial⟩,h1.2,h2.2⟩
 | .str,.str x :: a,.str y :: b,r,us,vs,h,h1,h2=>by
  obtain rfl:=osj h
  cases us with
  | nil=>exact h1.elim
  | cons u us=>cases vs with
   | nil=>exact h2.elim
   | cons v vs=>exact⟨[u],us,[v],vs,[.str x],[.str y],rfl,rfl,rfl,rfl,⟨h1.1,trivial⟩,⟨h2.1,trivial⟩,h1.2,h2.2⟩
 | .st ts,cs,ds,r,us,vs,h,h1,h2=>Tys.cmp_any ts (by simpa only [Ty.cmp] using h) h1 h2
 | .sl t,cs,ds,r,us,vs,h,h1,h2=>by simp [Ty.cmp] at h
 | .raw,cs,ds,r,us,vs,h,h1,h2=>by simp [Ty.cmp] at h
 | .int k,[],_,_,_,_,h,_,_=>by simp [Ty.cmp] at h
 | .bool,[],_,_,_,_,h,_,_=>by simp [Ty.cmp] at h
 | .str,[],_,_,_,_,h,_,_=>by simp [Ty.cmp] at h
 | .int k,c :: _,[],_,_,_,h,_,_=>by cases c <;> simp [Ty.cmp] at h
 | .bool,c :: _,[],_,_,_,h,_,_=>by cases c <;> simp [Ty.cmp] at h
 | .str,c :: _,[],_,_,_,h,_,_=>by cases c <;> simp [Ty.cmp] at h
 | .int k,.bool _ :: _,_ :: _,_,_,_,h,_,_ | .int k,.str _ :: _,_ :: _,_,_,_,h,_,_ | .int k,.nil _ :: _,_ :: _,_,_,_,h,_,_ | .int k,.lst _ _ _ _ :: _,_ :: _,_,_,_,h,_,_ | .int k,.hd _ _ :: _,_ :: _,_,_,_,h,_,_ | .int k,.raw _ :: _,_ :: _,_,_,_,h,_,_=>by simp [Ty.cmp] at h
 | .bool,.int _ _ :: _,_ :: _,_,_,_,h,_,_ | .bool,.str _ :: _,_ :: _,_,_,_,h,_,_ | .bool,.nil _ :: _,_ :: _,_,_,_,h,_,_ | .bool,.lst _ _ _ _ :: _,_ :: _,_,_,_,h,_,_ | .bool,.hd _ _ :: _,_ :: _,_,_,_,h,_,_ | .bool,.raw _ :: _,_ :: _,_,_,_,h,_,_=>by simp [Ty.cmp] at h
 | .str,.int _ _ :: _,_ :: _,_,_,_,h,_,_ | .str,.bool _ :: _,_ :: _,_,_,_,h,_,_ | .str,.nil _ :: _,_ :: _,_,_,_,h,_,_ | .str,.lst _ _ _ _ :: _,_ :: _,_,_,_,h,_,_ | .str,.hd _ _ :: _,_ :: _,_,_,_,h,_,_ | .str,.raw _ :: _,_ :: _,_,_,_,h,_,_=>by simp [Ty.cmp] at h
 | .int k,.int _ _ :: _,.bool _ :: _,_,_,_,h,_,_ | .int k,.int _ _ :: _,.str _ :: _,_,_,_,h,_,_ | .int k,.int _ _ :: _,.nil _ :: _,_,_,_,h,_,_ | .int k,.int _ _ :: _,.lst _ _ _ _ :: _,_,_,_,h,_,_ | .int k,.int _ _ :: _,.hd _ _ :: _,_,_,_,h,_,_ | .int k,.int _ _ :: _,.raw _ :: _,_,_,_,h,_,_=>by simp [Ty.cmp] at h
 | .bool,.bool _ :: _,.int _ _ :: _,_,_,_,h,_,_ | .bool,.bool _ :: _,.str _ :: _,_,_,_,h,_,_ | .bool,.bool _ :: _,.nil _ :: _,_,_,_,h,_,_ | .bool,.bool _ :: _,.lst _ _ _ _ :: _,_,_,_,h,_,_ | .bool,.bool _ :: _,.hd _ _ :: _,_,_,_,h,_,_ | .bool,.bool _ :: _,.raw _ :: _,_,_,_,h,_,_=>by simp [Ty.cmp] at h
 | .str,.str _ :: _,.int _ _ :: _,_,_,_,h,_,_ | .str,.str _ :: _,.bool _ :: _,_,_,_,h,_,_ | .str,.str _ :: _,.nil _ :: _,_,_,_,h,_,_ | .str,.str _ :: _,.lst _ _ _ _ :: _,_,_,_,h,_,_ | .str,.str _ :: _,.hd _ _ :: _,_,_,_,h,_,_ | .str,.str _ :: _,.raw _ :: _,_,_,_,h,_,_=>by simp [Ty.cmp] at h
theorem Tys.cmp_any{w w':World}{Z:Reg}{s:St}{ι : Nat→OI} : ∀(t:Tys) {cs ds:List HC} {r:Bool×List HC×List HC} {us vs:List Value},t.cmp cs ds=some r→CellsRep w Z s ι cs us→CellsRep w Z s ι ds vs →
  ∃us1 us2 vs1 vs2 a b,us=us1++us2∧vs=vs1++vs2∧cs=a++r.2.1∧ds=b++r.2.2∧CellsRep w' Z s ι a us1∧CellsRep w' Z s ι b vs1∧CellsRep w Z s ι r.2.1 us2∧CellsRep w Z s ι r.2.2 vs2
 | .nil,cs,ds,r,us,vs,h,h1,h2=>by
  obtain rfl:=osj h
  exact⟨[],us,[],vs,[],[],rfl,rfl,rfl,rfl,trivial,trivial,h1,h2⟩
 | .cons t ts,cs,ds,r,us,vs,h,h1,h2=>by
  simp only [Tys.cmp] at h
  obtain ⟨r1,g1,h⟩:=obi h
  obtain ⟨r2,g2,h⟩:=obi h
  obtain rfl:=osj h
  obtain ⟨a1,a2,b1,b2,a,b,rfl,rfl,e1,e2,k1,k2,k3,k4⟩:=Ty.cmp_any (w':=w') t g1 h1 h2
  obtain ⟨a3,a4,b3,b4,a',b',rfl,rfl,e3,e4,l1,l2,l3,l4⟩:=Tys.cmp_any (w':=w') ts g2 k3 k4
  exact⟨a1++a3,a4,b1++b3,b4,a++a',b++b',by simp,by simp,by rw [e1,e3];simp,by rw [e2,e4];simp,k1.append l1,k2.append l2,l3,l4⟩
end
theorem cmp_all{w:World}{Z:Reg}{s:St}{ι : Nat→OI}{T:Ty}{cs ds:List HC}{q:Bool}{us vs:List Value}(h:T.cmp cs ds=some (q,[],[]))(h1:CellsRep w Z s ι cs us)(h2:CellsRep w Z s ι ds vs)(w':World) :
  CellsRep w' Z s ι cs us∧CellsRep w' Z s ι ds vs:=by
 obtain ⟨us1,us2,vs1,vs2,a,b,e3,e4,e5,e6,k5,k6,k7,k8⟩:=Ty.cmp_any (w':=w') T h h1 h2
 have n1:us2=[]:=by cases us2 with | nil=>rfl | cons=>exact k7.elim
 have n2:vs2=[]:=by cases vs2 with | nil=>rfl | cons=>exact k8.elim
 subst n1 n2
 simp only [List.append_nil] at e3 e4 e5 e6
 rw [e3,e4,e5,e6]
 exact⟨k5,k6⟩
theorem op_binOp{op:BinOp}{t yt:Nat}{x y:Operand}(hT:TyOk P E)(hE:EqOk P E)(h:Inv w0 F0 Z0 n s a w ι Z)(hd:∀k,o.dst=some k→k<n)(ho:o.op=.binOp op t x y yt)(hk:opK E id o s K=some r) :
  ∃s',K s'=some r∧Pure P o a w (Stands w0 F0 Z0 n s'):=by
 unfold opK at hk
 rw [ho] at hk
 simp only at hk
 have hx:=opd_rep h x
 have hy:=opd_rep h y
 cases hxv:opd s x with
 | sc c =>
  rw [hxv] at hk hx
  simp only [TVRep] at hx
  cases hyv:opd s y with
  | sc d =>
   rw [hyv] at hk hy
   simp only [TVRep] at hy
   cases c <;> cases d <;> simp only [binK] at hk <;> try (simp at hk;done)
   ·rename_i k i k' j
    simp only [CellRep] at hx hy
    have hg:∀w:World,(eqGuard op t x y (a.eval x) (a.eval y)).run P w=.ok () w:=fun w=>eqGuard_run (by rw [hx];exact .inl ⟨_,_,rfl⟩)
    by_cases h1:op=.shl
    ·subst h1
     obtain ⟨h0,hk⟩:=grd_some hk
     have h0:=of_decide_eq_true h0
     refine⟨_,hk,pure_value (fun w'=>run_binop ho (hg w') (by rw [hx,hy];simp only [binOp,Op.shift];rw [if_neg (by omega)];rfl)) h (by simp only [TVRep,CellRep]) hd⟩
    by_cases h2:op=.shr
    ·subst h2
     obtain ⟨h0,hk⟩:=grd_some hk
     have h0:=of_decide_eq_true h0
     refine⟨_,hk,pure_value (fun w'=>run_binop ho (hg w') (by rw [hx,hy];simp only [binOp,Op.shift];rw [if_neg (by omega)];rfl)) h (by simp only [TVRep,CellRep]) hd⟩
    by_cases h3:op=.quo
    ·subst h3
     cases hkk:Nat.beq (kindNo k) (kindNo k')
     ·rw [hkk] at hk;simp at hk
     have hk1:grd (j != 0) (K (s.dst o.dst (.sc (.int k (k.wrap (i.tdiv j))))))=some r:=by
      have hk2:cond (Nat.beq (kindNo k) (kindNo k')) (grd (j != 0) (K (s.dst o.dst (.sc (.int k (k.wrap (i.tdiv j))))))) none=some r:=hk
      rw [hkk] at hk2;exact hk2
     clear hk
     obtain ⟨h0,hk⟩:=grd_some hk1
     obtain rfl:=kind_eq hkk
     have h0:j≠0:=by simpa using h0
     refine⟨_,hk,pure_value (fun w'=>run_binop ho (hg w') (by rw [hx,hy];simp only [binOp,Op.intDiv];rw [if_neg (by simp),if_neg h0];rfl)) h (by simp only [TVRep,CellRep]) hd⟩
    by_cases h4:op=.rem
    ·subst h4
     cases hkk:Nat.beq (kindNo k) (kindNo k')
     ·rw [hkk] at hk;simp at hk
     have hk1:grd (j != 0) (K (s.dst o.dst (.sc (.int k (i.tmod j)))))=some r:=by
      have hk2:cond (Nat.beq (kindNo k) (kindNo k')) (grd (j != 0) (K (s.dst o.dst (.sc (.int k (i.tmod j)))))) none=some r:=hk
      rw [hkk] at hk2;exact hk2
     clear hk
     obtain ⟨h0,hk⟩:=grd_some hk1
     obtain rfl:=kind_eq hkk
     have h0:j≠0:=by simpa using h0
     refine⟨_,hk,pure_value (fun w'=>run_binop ho (hg w') (by rw [hx,hy];simp only [binOp,Op.intDiv];rw [if_neg (by simp),if_neg h0];rfl)) h (by simp only [TVRep,CellRep]) hd⟩
    have hk':cond (Nat.beq (kindNo k) (kindNo k')) (lift (intBin op k i j) fun v=>K (s.dst o.dst v)) none=some r:=by
     cases op <;> first | exact hk | exact absurd rfl h1 | exact absurd rfl h2 | exact absurd rfl h3 | exact absurd rfl h4
    cases hkk:Nat.beq (kindNo k) (kindNo k')
    ·rw [hkk] at hk';simp at hk'
    rw [hkk] at hk'
    obtain rfl:=kind_eq hkk
    obtain ⟨v,hv,hk'⟩:=lift_some hk'
    obtain ⟨u,hu,hrep⟩:=intBin_run (P:=P) (ty:=t) (yty:=yt) (xo:=x) (yo:=y) hv h1 h2 h3 h4
    exact⟨_,hk',pure_value (fun w'=>run_binop ho (hg w') (by rw [hx,hy];exact hu w')) h (hrep _ _ _ _) hd⟩
   ·rename_i i j
    simp only [CellRep] at hx hy
    have hg:∀w:World,(eqGuard op t x y (a.eval x) (a.eval y)).run P w=.ok () w:=fun w=>eqGuard_run (by rw [hx];exact .inr (.inr (.inl ⟨_,rfl⟩)))
    cases ht:E.ty t with
    | none=>rw [ht] at hk;simp at hk
    | some T =>
     cases T with
     | bool =>
      rw [ht] at hk
      have hu:P.underlying t=some .bool:=by have:=hT.ty t _ ht;simp only [Ty.ok] at this;exact this.1
      have hb:∀(i j:Bool) {w:World},(Op.equal t (.bool i) (.bool j)).run P w=.ok (i==j) w:=by
       intro i j w
       unfold Op.equal Op.maxDepth Op.equalIn
       rw [run_bind,run_underlying hu]
       rfl
      cases op <;> simp only at hk <;> try (simp at hk;done)
      ·exact⟨_,hk,pure_value (fun w'=>run_binop ho (hg w') (by rw [hx,hy];simp only [binOp,run_bind,hb];rfl)) h (by simp only [TVRep,CellRep]) hd⟩
      ·exact⟨_,hk,pure_value (fun w'=>run_binop ho (hg w') (by rw [hx,hy];simp only [binOp,run_bind,hb];rfl)) h (by simp only [TVRep,CellRep]) hd⟩
     | _=>rw [ht] at hk;simp at hk
   ·obtain ⟨bx,hx,rfl⟩:=hx
    obtain ⟨by_,hy,rfl⟩:=hy
    have hg:∀w:World,(eqGuard op t x y (a.eval x) (a.eval y)).run P w=.ok () w:=fun w=>eqGuard_run (by rw [hx];exact .inr (.inl ⟨_,rfl⟩))
    by_cases h1:op=.add
    ·subst h1
     obtain ⟨h0,hk⟩:=grd_some hk
     have h0:=Nat.le_of_ble_eq_true h0
     simp only [Array.length_toList] at h0
     refine⟨_,hk,pure_value (v:=.string (bx++by_)) (fun w'=>run_binop ho (hg w') (by
      rw [hx,hy];simp only [binOp,Op.stringOp]
      rw [if_neg];rfl
      have e1:bx.data.size=bx.size:=rfl
      have e2:by_.data.size=by_.size:=rfl
      simp only [IntKind.max,IntKind.signed,IntKind.bits,if_true]
      omega)) h (by simp only [TVRep,CellRep];exact⟨_,rfl,by simp⟩) hd⟩
    ·have hk':lift (strCmp op bx.data.toList by_.data.toList) (fun v=>K (s.dst o.dst v))=some r:=by
      cases op <;> first | exact hk | exact absurd rfl h1
     obtain ⟨v,hv,hk'⟩:=lift_some hk'
     obtain ⟨u,hu,hrep⟩:=strCmp_run (P:=P) (ty:=t) hv
     exact⟨_,hk',pure_value (fun w'=>run_binop ho (hg w') (by rw [hx,hy];exact hu w')) h (hrep _ _ _ _) hd⟩
  | nilc =>
   rw [hyv] at hk hy
   simp only [TVRep] at hy
   cases c with
   | lst t' dp og xs =>
    cases dp with
    | cons=>simp [binK] at hk
    | nil =>
     simp only [binK] at hk
     cases htT:E.ty t with
     | none=>rw [htT] at hk;simp at hk
     | some T =>
      cases T with
      | sl u =>
       rw [htT] at hk
       obtain ⟨e,hu,_⟩:=sl_ok (hT.ty _ _ htT)
       obtain ⟨_,_,hrep,_⟩:=hx
       have hrep:=hrep rfl
       simp only [Ty.Rep] at hrep
       obtain ⟨A,c',hv,hor⟩:=hrep
       have hxe:a.eval x=.slice A xs.length c':=by simpa using hv
       have hg:∀w:World,(eqGuard op t x y (a.eval x) (a.eval y)).run P w=.ok () w:=fun w=>by
        rw [hxe,hy];unfold eqGuard;cases op <;> rfl
       have hb:∀ {w:World},(Op.equal t (.slice A xs.length c') (.slice none 0 0)).run P w=.ok A.isNone w:=by
        intro w
        unfold Op.equal Op.maxDepth Op.equalIn
        rw [run_bind,run_underlying hu]
        cases A <;> rfl
       have he:A.isNone=true→xs.isEmpty=true:=fun hA=>by
        rcases hor with hor | ⟨a0,hor,_⟩
        ·rw [hor];rfl
        ·rw [hor] at hA;cases hA
       have pick:∀ {k1 k0:Option ρ},nilK xs.isEmpty k1 k0=some r→(cond A.isNone k1 k0)=some r:=by
        intro k1 k0 hk
        unfold nilK both at hk
        cases hA:A.isNone
        ·rw [hA] at he
         cases hxs:xs.isEmpty
         ·rw [hxs] at hk;exact hk
         ·rw [hxs] at hk
          simp only [cond_true] at hk
          split at hk
          ·rename_i h;rw [cond_false,← h];exact hk
          ·cases hk
        ·rw [he hA] at hk
         simp only [cond_true] at hk ⊢
         split at hk
         ·exact hk
         ·cases hk
       cases op <;> simp only at hk <;> try (simp at hk;done)
       ·have hk:=pick hk
        refine⟨s.dst o.dst (.sc (.bool A.isNone)),by cases A <;> exact hk,pure_value (fun w'=>run_binop ho (hg w') (by rw [hxe,hy];simp only [binOp,run_bind,hb];rfl)) h (by simp only [TVRep,CellRep]) hd⟩
       ·have hk:=pick hk
        refine⟨s.dst o.dst (.sc (.bool (!A.isNone))),by cases A <;> exact hk,pure_value (fun w'=>run_binop ho (hg w') (by rw [hxe,hy];simp only [binOp,run_bind,hb];rfl)) h (by simp only [TVRep,CellRep]) hd⟩
      | _=>rw [htT] at hk;simp at hk
   | _=>simp [binK] at hk
  | _=>rw [hyv] at hk;cases c <;> simp [binK] at hk
 | ag cs =>
  rw [hxv] at hk hx
  simp only [TVRep] at hx
  cases hyv:opd s y with
  | ag ds =>
   rw [hyv] at hk hy
   simp only [TVRep] at hy
   obtain ⟨us,hx,hcx⟩:=hx
   obtain ⟨vs,hy,hcy⟩:=hy
   simp only [binK] at hk
   cases he:E.eqt t
   ·rw [he] at hk;simp at hk
   rw [he] at hk
   simp only [cond_true] at hk
   cases htT:E.ty t with
   | none=>rw [htT] at hk;simp at hk
   | some T =>
   rw [htT] at hk
   simp only at hk
   cases hq:T.cmp cs ds with
   | none=>rw [hq] at hk;cases op <;> simp at hk
   | some q =>
    obtain ⟨q,r1,r2⟩:=q
    rw [hq] at hk
    match r1,r2,hq,hk with
    | [],[],hq,hk =>
     have hE:=fun w'=>hE t T he htT op x y w' Z s ι cs ds us vs q (cmp_all hq hcx hcy w').1 (cmp_all hq hcx hcy w').2 hq
     cases op <;> simp only at hk <;> try (simp at hk;done)
     ·exact⟨_,hk,pure_value (fun w'=>run_binop ho (by rw [hx,hy];exact(hE w').1) (by rw [hx,hy];exact(hE w').2.1 rfl)) h (by simp only [TVRep,CellRep]) hd⟩
     ·exact⟨_,hk,pure_value (fun w'=>run_binop ho (by rw [hx,hy];exact(hE w').1) (by rw [hx,hy];exact(hE w').2.2 rfl)) h (by simp only [TVRep,CellRep]) hd⟩
    | _ :: _,_,_,hk=>cases op <;> simp at hk
    | [],_ :: _,_,hk=>cases op <;> simp at hk
  | _=>rw [hyv] at hk;simp [binK] at hk
 | opt j i =>
  rw [hxv] at hk hx
  simp only [TVRep] at hx
  cases hyv:opd s y with
  | nilp =>
   rw [hyv] at hk hy
   simp only [TVRep] at hy
   simp only [binK] at hk
   cases hpt:E.ptrT t
   ·rw [hpt] at hk;simp at hk
   rw [hpt] at hk
   obtain ⟨e,hu⟩:=hT.ptr t hpt
   have hg:∀w:World,(eqGuard op t x y (a.eval x) (a.eval y)).run P w=.ok () w:=by
    intro w
    rcases hx.2 with⟨_,hx⟩ | ⟨_,A,hx,_⟩ <;> exact eqGuard_run (by rw [hx];exact .inr (.inr (.inr ⟨_,rfl⟩)))
   have hb:∀ {w:World},(Op.equal t (a.eval x) (.pointer none)).run P w=.ok (decide (i<0)) w:=by
    intro w
    rcases hx.2 with⟨h0,hx⟩ | ⟨h0,A,hx,_⟩
    ·rw [hx]
     unfold Op.equal Op.maxDepth Op.equalIn
     rw [run_bind,run_underlying hu]
     simp [h0,run_pure]
    ·rw [hx]
     unfold Op.equal Op.maxDepth Op.equalIn
     rw [run_bind,run_underlying hu]
     have:¬i<0:=by omega
     simp [this,run_pure]
   have hbo:∀(op:BinOp) (v:Value),(op=.eql→v=.bool (decide (i<0)))→(op=.neq→v=.bool (!decide (i<0)))→(op=.eql∨op=.neq)→∀ {w:World},(binOp op t (a.eval x) (a.eval y)).run P w=.ok v w:=by
    intro op v h1 h2 h3 w
    rw [hy]
    have hpx:∃q,a.eval x=.pointer q:=by rcases hx.2 with⟨_,hx⟩ | ⟨_,A,hx,_⟩ <;> exact⟨_,hx⟩
    obtain ⟨q,hpx⟩:=hpx
    rw [hpx]
    have hb:∀ {w:World},(Op.equal t (.pointer q) (.pointer none)).run P w=.ok (decide (i<0)) w:=fun {w} => by rw [← hpx];exact hb
    rcases h3 with rfl | rfl
    ·rw [h1 rfl];simp only [binOp,run_bind,hb];rfl
    ·rw [h2 rfl];simp only [binOp,run_bind,hb];rfl
   cases op <;> simp only at hk <;> try (simp at hk;done)
   ·exact⟨_,hk,pure_value (fun w'=>run_binop ho (hg w') (hbo .eql _ (fun _=>rfl) (fun h=>by simp at h) (.inl rfl))) h (by simp only [TVRep,CellRep]) hd⟩
   ·exact⟨_,hk,pure_value (fun w'=>run_binop ho (hg w') (hbo .neq _ (fun h=>by simp at h) (fun _=>rfl) (.inr rfl))) h (by simp only [TVRep,CellRep]) hd⟩
  | _=>rw [hyv] at hk;simp [binK] at hk
 | may b dp cs =>
  rw [hxv] at hk hx
  simp only [TVRep] at hx
  cases hyv:opd s y with
  | nilp =>
   rw [hyv] at hk hy
   simp only [TVRep] at hy
   simp only [binK] at hk
   cases hpt:E.ptrT t
   ·rw [hpt] at hk;simp at hk
   rw [hpt] at hk
   obtain ⟨e,hu⟩:=hT.ptr t hpt
   have hg:∀w:World,(eqGuard op t x y (a.eval x) (a.eval y)).run P w=.ok () w:=by
    intro w
    rcases hx with⟨_,hx⟩ | ⟨_,_,_,_,_,hx,_⟩ <;> exact eqGuard_run (by rw [hx];exact .inr (.inr (.inr ⟨_,rfl⟩)))
   have hb:∀ {w:World},(Op.equal t (a.eval x) (.pointer none)).run P w=.ok (!b) w:=by
    intro w
    rcases hx with⟨h0,hx⟩ | ⟨h0,_,_,_,_,hx,_⟩
    ·rw [hx]
     unfold Op.equal Op.maxDepth Op.equalIn
     rw [run_bind,run_underlying hu]
     simp [h0,run_pure]
    ·rw [hx]
     unfold Op.equal Op.maxDepth Op.equalIn
     rw [run_bind,run_underlying hu]
     simp [h0,run_pure]
   have hbo:∀(op:BinOp) (v:Value),(op=.eql→v=.bool (!b))→(op=.neq→v=.bool (b))→(op=.eql∨op=.neq)→∀ {w:World},(binOp op t (a.eval x) (a.eval y)).run P w=.ok v w:=by
    intro op v h1 h2 h3 w
    rw [hy]
    have hpx:∃q,a.eval x=.pointer q:=by rcases hx with⟨_,hx⟩ | ⟨_,_,_,_,_,hx,_⟩ <;> exact⟨_,hx⟩
    obtain ⟨q,hpx⟩:=hpx
    rw [hpx]
    have hb:∀ {w:World},(Op.equal t (.pointer q) (.pointer none)).run P w=.ok (!b) w:=fun {w} => by rw [← hpx];exact hb
    rcases h3 with rfl | rfl
    ·rw [h1 rfl];simp only [binOp,run_bind,hb];rfl
    ·rw [h2 rfl];simp only [binOp,run_bind,hb];simp only [Bool.not_not];rfl
   cases op <;> simp only at hk <;> try (simp at hk;done)
   ·exact⟨_,hk,pure_value (fun w'=>run_binop ho (hg w') (hbo .eql _ (fun _=>rfl) (fun h=>by simp at h) (.inl rfl))) h (by simp only [TVRep,CellRep]) hd⟩
   ·exact⟨_,hk,pure_value (fun w'=>run_binop ho (hg w') (hbo .neq _ (fun h=>by simp at h) (fun _=>rfl) (.inr rfl))) h (by simp only [TVRep,CellRep]) hd⟩
  | _=>rw [hyv] at hk;simp [binK] at hk
 | ptr p =>
  rw [hxv] at hk hx
  simp only [TVRep] at hx
  obtain ⟨_,A,hx,_⟩:=hx
  cases hyv:opd s y with
  | nilp =>
   rw [hyv] at hk hy
   simp only [TVRep] at hy
   simp only [binK] at hk
   cases hpt:E.ptrT t
   ·rw [hpt] at hk;simp at hk
   rw [hpt] at hk
   obtain ⟨e,hu⟩:=hT.ptr t hpt
   have hg:∀w:World,(eqGuard op t x y (a.eval x) (a.eval y)).run P w=.ok () w:=fun w=>eqGuard_run (by rw [hx];exact .inr (.inr (.inr ⟨_,rfl⟩)))
   have hb:∀ {w:World},(Op.equal t (.pointer (some A)) (.pointer none)).run P w=.ok false w:=by
    intro w
    unfold Op.equal Op.maxDepth Op.equalIn
    rw [run_bind,run_underlying hu]
    rfl
   cases op <;> simp only at hk <;> try (simp at hk;done)
   ·exact⟨_,hk,pure_value (fun w'=>run_binop ho (hg w') (by rw [hx,hy];simp only [binOp,run_bind,hb];rfl)) h (by simp only [TVRep,CellRep]) hd⟩
   ·exact⟨_,hk,pure_value (fun w'=>run_binop ho (hg w') (by rw [hx,hy];simp only [binOp,run_bind,hb];rfl)) h (by simp only [TVRep,CellRep];rfl) hd⟩
  | _=>rw [hyv] at hk;simp [binK] at hk
 | _=>rw [hxv] at hk;simp [binK] at hk
end
end Go.LM
namespace Go.LM
def Els{α : Type}(R : α → List Value→Reg→Prop)(size:Nat):List α → List Value→Reg→Prop
 | [],vs,_=>vs=[]
 | x :: xs,vs,F=>∃us ts G H,vs=us++ts∧R x us G∧us.length=size∧Els R size xs ts H∧Reg.apart G H∧Reg.sub G F∧Reg.sub H F
section
variable{α : Type}{R R' : α → List Value→Reg→Prop}{size:Nat}{w:World}
theorem Els.len:∀ {xs:List α} {vs:List Value} {F:Reg},Els R size xs vs F→vs.length=xs.length*size
 | [],_,_,h=>by simp only [Els] at h;subst h;simp
 | x :: xs,_,_,h=>by
  obtain ⟨us,ts,G,H,rfl,_,h1,h2,_⟩:=h
  rw [List.length_append,h1,Els.len h2,List.length_cons,Nat.add_one_mul];omega
theorem Els.mono:∀ {xs:List α} {vs:List Value} {F F':Reg},Reg.sub F F'→Els R size xs vs F→Els R size xs vs F'
 | [],_,_,_,_,h=>h
 | x :: xs,_,_,_,hs,⟨us,ts,G,H,h1,h2,h3,h4,h5,h6,h7⟩=>⟨us,ts,G,H,h1,h2,h3,h4,h5,fun b o h=>hs b o (h6 b o h),fun b o h=>hs b o (h7 b o h)⟩
theorem Els.imp:∀ {xs:List α} {vs:List Value} {F:Reg},Els R size xs vs F→(∀y us G,Reg.sub G F→R y us G→R' y us G)→Els R' size xs vs F
 | [],_,_,h,_=>h
 | x :: xs,_,F,⟨us,ts,G,H,h1,h2,h3,h4,h5,h6,h7⟩,hR =>
  ⟨us,ts,G,H,h1,hR _ _ _ h6 h2,h3,Els.imp h4 (fun y us G' hs=>hR y us G' fun b o h=>h7 b o (hs b o h)),h5,h6,h7⟩
theorem Els.bare:∀ {xs:List α} {vs:List Value} {F:Reg},Els R size xs vs F→(∀y us G,Reg.sub G F→R y us G→R' y us Reg.none)→Els R' size xs vs Reg.none
 | [],_,_,h,_=>h
 | x :: xs,_,F,⟨us,ts,G,H,h1,h2,h3,h4,h5,h6,h7⟩,hR =>
  ⟨us,ts,Reg.none,Reg.none,h1,hR _ _ _ h6 h2,h3,Els.bare h4 (fun y us G' hs=>hR y us G' fun b o h=>h7 b o (hs b o h)),fun _ _ h=>h.elim,fun _ _ h=>h,fun _ _ h=>h⟩
theorem Els.append:∀ {xs ys:List α} {us vs:List Value} {F G:Reg},Els R size xs us F→Els R size ys vs G→Reg.apart F G→Els R size (xs++ys) (us++vs) (F.or G)
 | [],ys,us,vs,F,G,h,k,_=>by
  simp only [Els] at h;subst h
  exact k.mono fun _ _ h=>.inr h
 | x :: xs,ys,us,vs,F,G,⟨a,b,A,B,h1,h2,h3,h4,h5,h6,h7⟩,k,ha=>by
  refine⟨a,b++vs,A,B.or G,by rw [h1,List.append_assoc],h2,h3,Els.append h4 k (fun b o h=>ha b o (h7 b o h)),?_,fun b o h=>.inl (h6 b o h),fun b o h=>h.imp (h7 b o) id⟩
  rintro b o g (h | h)
  ·exact h5 b o g h
  ·exact ha b o (h6 b o g) h
theorem Els.row:∀ {xs:List α} {vs:List Value} {F:Reg} {b o:Nat},Els R size xs vs F→CellsAt w b o vs→Row w R size xs b o F
 | [],_,_,_,_,_,_=>trivial
 | x :: xs,_,_,b,o,⟨us,ts,G,H,h1,h2,h3,h4,h5,h6,h7⟩,hc=>by
  subst h1
  exact⟨us,G,H,h2,h3,hc.left,Els.row h4 (h3 ▸ hc.right),h5,h6,h7⟩
theorem Row.els:∀ {xs:List α} {b o:Nat} {F:Reg},Row w R size xs b o F→∃vs,Els R size xs vs F∧CellsAt w b o vs
 | [],_,_,_,_=>⟨[],rfl,CellsAt.nil _ _ _⟩
 | x :: xs,b,o,F,⟨us,G,H,h1,h2,h3,h4,h5,h6,h7⟩=>by
  obtain ⟨ts,k1,k2⟩:=Row.els h4
  exact⟨us++ts,⟨us,ts,G,H,rfl,h1,h2,k1,h5,h6,h7⟩,h3.append (by rw [h2];exact k2)⟩
theorem Els.replicate{x : α}{us:List Value}(hR:R x us Reg.none)(hl:us.length=size):∀n,Els R size (List.replicate n x) (List.replicate n us).flatten Reg.none
 | 0=>rfl
 | n+1=>by
  rw [List.replicate_succ,List.replicate_succ,List.flatten_cons]
  exact⟨us,_,Reg.none,Reg.none,rfl,hR,hl,Els.replicate hR hl n,fun _ _ h=>h.elim,fun _ _ h=>h,fun _ _ h=>h⟩
end
mutual
theorem zero_rep{w:World}{Z F:Reg} : ∀(t:Ty) (m:Md),t.Rep w Z m t.zero t.zvals F
 | .int _,_=>by simp only [Ty.Rep,Ty.zero,Ty.zvals]
 | .bool,_=>by simp only [Ty.Rep,Ty.zero,Ty.zvals]
 | .str,_=>by simp only [Ty.Rep,Ty.zero,Ty.zvals];exact⟨_,rfl,rfl⟩
 | .raw,_=>by simp only [Ty.Rep,Ty.zero,Ty.zvals];exact⟨trivial,_,_,_,rfl⟩
 | .sl t,.O e=>by simp only [Ty.Rep,Ty.zero,Ty.zvals];exact⟨none,0,rfl,.inl (by simp)⟩
 | .sl t,.R=>by simp only [Ty.Rep,Ty.zero,Ty.zvals];exact⟨none,0,rfl,.inl trivial⟩
 | .sl t,.S _=>by simp only [Ty.Rep,Ty.zero,Ty.zvals];exact⟨none,0,rfl,.inl trivial⟩
 | .st ts,m=>by simp only [Ty.Rep,Ty.zero,Ty.zvals];exact zeros_rep ts m.parts
theorem zeros_rep{w:World}{Z F:Reg} : ∀(ts:Tys) (m:Mds),ts.Rep w Z m ts.zero ts.zvals F
 | .nil,_=>by simp only [Tys.Rep,Tys.zvals]
 | .cons t ts,m=>by
  simp only [Tys.Rep,Tys.zero,Tys.zvals]
  exact⟨t.zvals,ts.zvals,Reg.none,Reg.none,rfl,zero_rep t m.hd,zeros_rep ts m.tl,fun _ _ h=>h.elim,fun _ _ h=>h.elim,fun _ _ h=>h.elim⟩
end
section
variable{P:Program}{Q:Exit→Act→World→Prop}
variable{w0:World}{F0 Z0:Reg}{n:Frm}{s s':St}{a a':Act}{w w':World}{ι ι':Nat→OI}{Z Z':Reg}
variable{E:Env}{o:Oper}{ρ : Type}{K:St→Option ρ}{r : ρ}{id:Nat}
theorem Free.ext{F S:Reg}(hf:Free w0 F0 s w ι Z F)(hx:Ext w w' S):Free w0 F0 s w' ι Z F :=
 ⟨fun b o h=>⟨(hf.own b o h).1,Nat.lt_of_lt_of_le (hf.own b o h).2 hx.size⟩,hf.apart,hf.apartZ⟩
theorem Inv.fresh(h:Inv w0 F0 Z0 n s a w ι Z){F:Reg}(hF:∀b o,F b o→w.heap.size≤b∧b<w'.heap.size):Free w0 F0 s w' ι Z F:=by
 have:=h.ext.size
 refine⟨fun b o hf=>⟨.inr (by have:=(hF b o hf).1;omega),(hF b o hf).2⟩,fun id hl b o h1 h2=>?_,fun b o h1 h2=>?_⟩
 ·have:=(h.own id hl b o h2).2;have:=(hF b o h1).1;omega
 ·have:=h.zin b o h2;have:=(hF b o h1).1;omega
def grown(w:World)(d:Nat)(arr:Array Value)(e:TypeId)(f:Nat×Nat):World := { w with drawn:=d,heap:=w.heap.push (.cells arr e f) }
theorem grown_ext(w:World)(d:Nat)(arr:Array Value)(e:TypeId)(f:Nat×Nat)(F:Reg):Ext w (grown w d arr e f) F :=
 ⟨rfl,rfl,rfl,by simp [grown],fun b hb=>.inl (by simp only [grown];rw [Array.getElem?_push,if_neg (by omega)])⟩
theorem grown_heap(w:World)(d:Nat)(arr:Array Value)(e:TypeId)(f:Nat×Nat):(grown w d arr e f).heap[w.heap.size]?=some (.cells arr e f):=by simp [grown]
theorem grown_cell(w:World)(d:Nat)(arr:Array Value)(e:TypeId)(f:Nat×Nat)(o:Nat):(grown w d arr e f).cell? (at_ w.heap.size o)=arr[o]?:=cell_of_heap (grown_heap ..) o
theorem grown_size(w:World)(d:Nat)(arr:Array Value)(e:TypeId)(f:Nat×Nat):(grown w d arr e f).heap.size=w.heap.size+1:=by simp [grown]
theorem Inv.newRow(h:Inv w0 F0 Z0 n s a w ι Z){id:Nat}(hid:s.o id=.none){t:Ty}{em:Md}{xs:List t.D}{vs:List Value}{G:Reg}
  (he:Els (t.Rep w Z em) t.size xs vs G) (hG:Free w0 F0 s w ι Z G) (d:Nat) (arr:Array Value) (e:TypeId) (f:Nat×Nat) (c:Nat)
  (hv:∀(j:Nat) (v:Value),vs[j]?=some v→arr[j]?=some v) (hc:xs.length≤c) (hsz:c*t.size≤arr.size) (hf:f.1=f.2∨c*t.size≤f.1) (hf2:t.size=1∨f.1=f.2) :
  Inv w0 F0 Z0 n (s.putO id (.row t em 0 xs)) a (grown w d arr e f) (upd ι id ⟨some (at_ w.heap.size 0),c,(Reg.run w.heap.size 0 (c*t.size)).or G⟩) Z:=by
 have hx:=grown_ext w d arr e f Reg.none
 have h1:=h.world hx
 have hfr:Free w0 F0 s (grown w d arr e f) ι Z (Reg.run w.heap.size 0 (c*t.size)):=h.fresh (by rintro b o ⟨rfl,_,_⟩;rw [grown_size];omega)
 have hG1:=hG.ext hx
 refine h1.adopt hid ?_ (hfr.or hG1)
 refine .inr ⟨at_ w.heap.size 0,rfl,rfl,hc,fun j hj=>⟨⟨⟨arr[j]'(by simp only at hj;omega),?_⟩,?_⟩,?_⟩,fun j hj=>.inl ⟨rfl,by simp [at_],by simpa [at_] using hj⟩,G,?_,?_,fun _ _ h=>.inr h⟩
 ·show World.cell? _ (at_ w.heap.size (0+j))=_
  rw [grown_cell];simp
 ·show World.frozen? _ (at_ w.heap.size (0+j))=_
  rw [frozen_eq,grown_heap]
  simp only at hj
  simp only [Bool.and_eq_false_iff,decide_eq_false_iff_not]
  omega
 ·refine hf2.imp (fun h=>h) fun h2 k=>?_
  show World.frozen? _ (at_ w.heap.size k)=_
  rw [frozen_eq,grown_heap]
  simp only [Bool.and_eq_false_iff,decide_eq_false_iff_not]
  omega
 ·refine Els.row (he.imp fun y us G' hs hr=>Ty.Rep.same (Same.of_ext hx h.zin fun _ _ _ h=>h) _ _ (Same.of_ext hx (fun b o hg=>(hG.own b o (hs b o hg)).2) fun _ _ _ h=>h) hr) ?_
  intro i v hi
  show World.cell? _ (at_ w.heap.size (0+i))=_
  rw [grown_cell,Nat.zero_add];exact hv i v hi
 ·intro j hj hg
  have:=(hG.own _ _ hg).2
  simp [at_] at this
theorem hd_new{id:Nat}{t:Ty}{em:Md}{ver:Nat}{xs:List t.D}{A:Addr}{c:Nat}{F:Reg}(hA:A.spot=none)(hc:xs.length≤c) :
  CellRep w Z (s.putO id (.row t em ver xs)) (upd ι id ⟨some A,c,F⟩) (.hd id none) (.slice (some A) xs.length c):=by
 refine⟨?_,some A,xs.length,c,rfl,?_⟩
 ·show upd s.o id _ id≠_
  rw [upd_same];simp
 ·intro t' em' ver' xs' ho
  have ho':(upd s.o id (LObj.row t em ver xs) id).core=.row t' em' ver' xs':=ho
  rw [upd_same] at ho' ⊢
  obtain ⟨rfl,_,_,h4⟩:=LObj.row.inj ho'
  have:=eq_of_heq h4;subst this
  refine⟨rfl,by simp [subLo],hc,by simp [subLo],.inr ⟨A,rfl,?_⟩⟩
  simp only [subLo,Nat.zero_mul,Nat.add_zero]
  cases A;simp_all [at_]
theorem getElem?_flat(us:List Value):∀(n j:Nat),j<n*us.length→(List.replicate n us).flatten[j]?=us[j % us.length]?
 | 0,j,h=>by simp at h
 | n+1,j,h=>by
  rw [List.replicate_succ,List.flatten_cons]
  by_cases hj:j<us.length
  ·rw [List.getElem?_append_left hj,Nat.mod_eq_of_lt hj]
  ·have h':j<n*us.length+us.length:=by rw [← Nat.add_one_mul];exact h
   rw [List.getElem?_append_right (by omega),getElem?_flat us n (j-us.length) (by omega),← Nat.mod_eq_sub_mod (by omega)]
theorem zeros_getElem?{z:Array Value}{m j:Nat}(us:List Value)(n:Nat)(hz:z.toList=us)(hm:m=n*us.length)(v:Value)(h:(List.replicate n us).flatten[j]?=some v) :
  ((Array.range m).map (z[· % z.size]!))[j]?=some v:=by
 subst hz
 have hj:j<n*z.toList.length:=by
  rcases Nat.lt_or_ge j (n*z.toList.length) with h1 | h1
  ·exact h1
  ·rw [List.getElem?_eq_none (by simp;simpa using h1)] at h;simp at h
 rw [getElem?_flat _ _ _ hj] at h
 have hl:z.toList.length=z.size:=by simp
 rw [hl] at h hj
 rw [Array.getElem?_map,Array.getElem?_range,if_pos (by rw [hm,hl];exact hj)]
 simp only [Option.map_some,Option.some.injEq]
 have hlt:j % z.size<z.size:=by
  apply Nat.mod_lt
  rcases Nat.eq_zero_or_pos z.size with h0 | h0
  ·rw [h0] at hj;simp at hj
  ·exact h0
 rw [getElem!_pos z _ hlt]
 simpa [hlt] using h
theorem wrap_i64{i:Int}(h0:0≤i)(h1:i≤68719476736):IntKind.wrap .i64 i=i:=by
 simp [IntKind.wrap,IntKind.bits,IntKind.signed]
 omega
theorem run_asInt{k:IntKind}{i:Int} :(asInt (.int k i)).run P w=.ok i w:=rfl
theorem zv_cells(T:Ty):(wrapV T T.zvals).cells.toList=T.zvals:=wrapV_cells (Ty.zvals_len T) ((zcells_rep (w:=default) (Z:=Reg.none) (s:=⟨fun _=>.und,fun _=>.none,[]⟩) (ι := fun _=>⟨none,0,Reg.none⟩) T).oneC)
theorem run_askRoom{b:Nat} :(askRoom b).run P w=.ok () w:=by
 unfold askRoom;split <;> rfl
theorem run_newRow{e:TypeId}{arr:Array Value} :(newRow e arr).run P w=.ok (at_ w.heap.size 0) (grown w w.drawn arr e (0,0)):=by
 simp [newRow,Go.newObj,run_bind,Sem.run,run_pure,at_,grown]
theorem run_makeSlice{T:Ty}{t e:TypeId}{k k':IntKind}{m:Int}(hu:P.underlying t=some (.slice e))(hok:T.ok P e)(h0:0≤m)(h1:m≤68719476736) :
  ∃arr:Array Value,(∀(j:Nat) (v:Value),(List.replicate m.toNat T.zvals).flatten[j]?=some v→arr[j]?=some v)∧arr.size=m.toNat*T.size ∧
   (Instr.makeSlice t (.int k m) (.int k' m)).run P w=.ok (.slice (some (at_ w.heap.size 0)) m.toNat m.toNat) (grown w w.drawn arr e (0,0)):=by
 obtain ⟨i,hi1,hi2,hi3,hi4⟩:=hok.info
 have hb:¬((i.bytes:Int)*m>2 ^ 48):=by
  have:(i.bytes:Int)*m≤2048*68719476736:=Int.mul_le_mul (by omega) h1 h0 (by omega)
  omega
 have hzl:(wrapV T T.zvals).cells.size=T.size:=by
  have:=congrArg List.length (zv_cells T)
  rw [Array.length_toList,Ty.zvals_len] at this;exact this
 refine⟨(Array.range (m.toNat*T.size)).map fun j=>(if m.toNat*T.size=0 then #[] else(wrapV T T.zvals).cells)[j % (if m.toNat*T.size=0 then #[] else(wrapV T T.zvals).cells).size]!,?_,by simp,?_⟩
 ·intro j v hj
  by_cases hz:m.toNat*T.size=0
  ·have:(List.replicate m.toNat T.zvals).flatten=[]:=by
    apply List.eq_nil_of_length_eq_zero
    simp [Ty.zvals_len];simpa using hz
   rw [this] at hj;simp at hj
  ·simp only [if_neg hz]
   exact zeros_getElem? T.zvals m.toNat (zv_cells T) (by rw [Ty.zvals_len]) v hj
 ·unfold Instr.makeSlice
  simp only [run_bind,run_underlying hu,run_asInt,run_typeInfo hi1,wrap_i64 h0 h1]
  have hneg:¬m<0:=by omega
  simp only [hneg,hb,decide_false,Bool.or_false,Bool.false_or,Bool.false_eq_true,if_false,gt_iff_lt,Int.lt_irrefl]
  simp only [run_bind,run_askRoom,run_sizeOf hok]
  by_cases hz:m.toNat*T.size=0
  ·simp only [if_pos hz,run_bind,run_pure,run_newRow]
  ·simp only [if_neg hz,run_bind,run_pure,run_newRow,run_zeroValue hok]
theorem op_makeSlice{t:Nat}{x y:Operand}(hT:TyOk P E)(h:Inv w0 F0 Z0 n s a w ι Z)(hd:∀k,o.dst=some k→k<n)(ho:o.op=.makeSlice t x y)(hk:opK E id o s K=some r) :
  ∃s',K s'=some r∧o.wp P a w (Stands w0 F0 Z0 n s') Q:=by
 unfold opK at hk
 rw [ho] at hk
 simp only at hk
 cases ht:E.ty t with
 | none=>rw [ht] at hk;simp at hk
 | some T =>
  rw [ht] at hk
  cases T with
  | sl T =>
   cases hx:asInt? (opd s x) with
   | none=>rw [hx] at hk;simp at hk
   | some m =>
    cases hy:asInt? (opd s y) with
    | none=>rw [hx,hy] at hk;simp at hk
    | some m' =>
     rw [hx,hy] at hk
     obtain ⟨hg,hk2⟩:=grd_some hk
     clear hk
     have hk:=hk2
     clear hk2
     simp only [Bool.and_eq_true,decide_eq_true_eq,room] at hg
     obtain ⟨⟨h0,rfl⟩,h1⟩:=hg
     have h1:=Nat.le_of_ble_eq_true h1
     cases hm:mkObj s id (.row T T.own 0 (List.replicate m.toNat T.zero)) with
     | none=>rw [hm] at hk;simp at hk
     | some s1 =>
      rw [hm] at hk
      obtain ⟨hid,rfl⟩:=mkObj_some hm
      obtain ⟨k,hx⟩:=asInt?_rep hx (opd_rep h x)
      obtain ⟨k',hy⟩:=asInt?_rep hy (opd_rep h y)
      obtain ⟨e,hu,hok⟩:=sl_ok (hT.ty t _ ht)
      obtain ⟨arr,ha,has,hr⟩:=run_makeSlice (P:=P) (w:=w) (k:=k) (k':=k') hu hok h0 (by omega)
      have hn:=h.newRow hid (Els.replicate (zero_rep T T.own) (Ty.zvals_len T) m.toNat) Free.none w.drawn arr e (0,0) m.toNat ha (by simp) (by omega) (.inl rfl) (.inr rfl)
      refine⟨_,hk,wp_value (v:=.slice (some (at_ w.heap.size 0)) m.toNat m.toNat) ?_ hn ?_ hd⟩
      ·unfold execOp;rw [ho]
       refine run_v ?_
       rw [hx,hy];exact hr
      ·simp only [TVRep]
       have:=hd_new (w:=grown w w.drawn arr e (0,0)) (Z:=Z) (s:=s) (ι := ι) (id:=id) (em:=T.own) (ver:=0) (xs:=List.replicate m.toNat T.zero) (A:=at_ w.heap.size 0) (c:=m.toNat) (F:=(Reg.run w.heap.size 0 (m.toNat*T.size)).or Reg.none) rfl (by simp)
       simpa using this
  | _=>simp at hk
end
end Go.LM
namespace Go.LM
section
variable{P:Program}{Q:Exit→Act→World→Prop}
variable{w0:World}{F0 Z0:Reg}{n:Frm}{s s':St}{a a':Act}{w w':World}{ι ι':Nat→OI}{Z Z':Reg}
variable{E:Env}{o:Oper}{ρ : Type}{K:St→Option ρ}{r : ρ}{id:Nat}
theorem int_ok{k:IntKind}{t:TypeId}(h:(Ty.int k).ok P t):P.underlying t=some (.int k):=by simp only [Ty.ok] at h;exact h.1
theorem str_ok{t:TypeId}(h:Ty.str.ok P t):P.underlying t=some .string:=by simp only [Ty.ok] at h;exact h.1
theorem els_ints{w:World}{Z:Reg}{k:IntKind} : ∀l:List Int,Els ((Ty.int k).Rep w Z .R) 1 l (l.map (Value.int k)) Reg.none
 | []=>rfl
 | x :: l=>⟨[.int k x],l.map (Value.int k),Reg.none,Reg.none,rfl,by simp only [Ty.Rep],rfl,els_ints l,fun _ _ h=>h.elim,fun _ _ h=>h,fun _ _ h=>h⟩
theorem run_stringToBytes{e:TypeId}{b:ByteArray} :
  ∃(arr:Array Value) (c d:Nat),(Conv.stringToBytes e b).run P w=.ok (.slice (some (at_ w.heap.size 0)) b.size c) (grown w d arr e (c,c+1))∧b.size≤c∧arr.size=c ∧
   ∀(j:Nat) (v:Value),((strBytes b.data.toList).map (Value.int .u8))[j]?=some v→arr[j]?=some v:=by
 have hq:(Question.appendCap b.size 0 e).forced=false:=rfl
 have hsz:b.data.size=b.size:=rfl
 refine⟨(b.data.map fun x=>Value.int .u8 x.toNat)++Array.replicate (b.size+w.tape w.drawn (.appendCap b.size 0 e) % (2 ^ 63-b.size)-b.size) (.int .u8 0),b.size+w.tape w.drawn (.appendCap b.size 0 e) % (2 ^ 63-b.size),w.drawn+1,?_,by omega,by simp [hsz],?_⟩
 ·unfold Conv.stringToBytes
  simp only [run_bind,choose,Sem.run,hq,Bool.false_eq_true,if_false,Question.cut]
  simp only [newRow,Go.newObj,run_bind,Sem.run,run_pure,markStringish,Go.shape,Go.freeze]
  simp only [World.shape?,Array.getElem?_push_size,Sem.run]
  simp only [World.freeze,grown]
  simp only [Nat.succ_ne_zero,if_false,Nat.one_ne_zero,Result.ok.injEq,World.mk.injEq,true_and,and_true]
  apply Array.ext_getElem?
  intro i
  rw [Array.getElem?_modify,Array.getElem?_push,Array.getElem?_push]
  by_cases hi:w.heap.size=i
  ·subst hi
   have:b.size +(w.tape w.drawn (Question.appendCap b.size 0 e) % (2 ^ 63-b.size)+b.size-b.size)=b.size+w.tape w.drawn (Question.appendCap b.size 0 e) % (2 ^ 63-b.size):=by omega
   simp [hsz]
  ·simp [hi]
   by_cases hi':i=w.heap.size
   ·exact absurd hi'.symm hi
   ·simp [hi']
 ·intro j v hj
  simp only [strBytes,List.map_map,List.getElem?_map,Option.map_eq_some_iff] at hj
  obtain ⟨x,hx,rfl⟩:=hj
  have hlt:j<b.data.size:=by
   rcases Nat.lt_or_ge j b.data.size with h | h
   ·exact h
   ·rw [List.getElem?_eq_none (by simpa using h)] at hx;simp at hx
  rw [Array.getElem?_append_left (by simpa using hlt),Array.getElem?_map]
  rw [Array.getElem?_toList] at hx
  rw [hx];rfl
theorem row_ints{w:World}{k:IntKind}{b:Nat} : ∀ {l:List Int} {o:Nat} {F:Reg},Row w (fun(y:Int) us _=>us=[Value.int k y]) 1 l b o F→CellsAt w b o (l.map (Value.int k))
 | [],_,_,_=>CellsAt.nil _ _ _
 | x :: l,o,_,⟨us,G,H,h1,h2,h3,h4,_⟩=>by
  subst h1
  exact CellsAt.cons h3.head (row_ints h4)
theorem foldl_bytes(l:List Int):∀b:ByteArray,(l.foldl (fun r n=>r.push (UInt8.ofNat n.toNat)) b).data.toList=b.data.toList++bytesStr l:=by
 induction l with
 | nil=>intro b;simp [bytesStr]
 | cons x l ih =>
  intro b
  rw [List.foldl_cons,ih]
  simp [bytesStr,ByteArray.push]
theorem op_convInt{src dst:Nat}{x:Operand}{k1 k2:IntKind}(hT:TyOk P E)(h:Inv w0 F0 Z0 n s a w ι Z)(hd:∀k,o.dst=some k→k<n)(ho:o.op=.convert src dst x)(hs:E.ty src=some (.int k1))(ht:E.ty dst=some (.int k2))(hk:opK E id o s K=some r) :
  ∃s',K s'=some r∧Pure P o a w (Stands w0 F0 Z0 n s'):=by
 unfold opK at hk
 rw [ho] at hk
 simp only at hk
 have hx:=opd_rep h x
 have hS:=hT.ty _ _ hs
 have hD:=hT.ty _ _ ht
 cases hxv:opd s x with
 | sc c =>
  rw [hxv] at hx hk
  simp only [TVRep] at hx
  unfold convK at hk
  rw [hs,ht] at hk
  cases c with
  | int k m =>
   simp only [CellRep] at hx
   refine⟨_,hk,pure_value (v:=.int k2 (k2.wrap m)) (fun w'=>?_) h (by simp only [TVRep,CellRep]) hd⟩
   unfold execOp;rw [ho]
   refine run_v ?_
   rw [hx]
   unfold convert
   simp only [run_bind,run_underlying (int_ok hS),run_underlying (int_ok hD)]
   rfl
  | _=>simp at hk
 | _=>rw [hxv] at hk;unfold convK at hk;rw [hs,ht] at hk;simp at hk
theorem op_convert{src dst:Nat}{x:Operand}(hT:TyOk P E)(h:Inv w0 F0 Z0 n s a w ι Z)(hd:∀k,o.dst=some k→k<n)(ho:o.op=.convert src dst x)(hk:opK E id o s K=some r) :
  ∃s',K s'=some r∧o.wp P a w (Stands w0 F0 Z0 n s') Q:=by
 unfold opK at hk
 rw [ho] at hk
 simp only at hk
 have hx:=opd_rep h x
 have hrun:∀ {u:Value} {w':World},(convert src dst (a.eval x)).run P w=.ok u w'→(execOp a.eval o).run P w=.ok (.value u) w':=by
  intro u w' hu;unfold execOp;rw [ho];exact run_v hu
 cases hs:E.ty src with
 | none=>unfold convK at hk;rw [hs] at hk;simp at hk
 | some S =>
 cases ht:E.ty dst with
 | none=>unfold convK at hk;rw [hs,ht] at hk;cases S <;> simp at hk
 | some T =>
 have hS:=hT.ty _ _ hs
 have hD:=hT.ty _ _ ht
 cases hxv:opd s x with
 | sc c =>
  rw [hxv] at hx
  simp only [TVRep] at hx
  have hk1:convK E id s src dst (.sc c) (fun v s=>K (s.dst o.dst v))=some r:=by rw [← hxv];exact hk
  unfold convK at hk1
  rw [hs,ht] at hk1
  split at hk1
  ·rename_i k0 k m heq1 heq2 heq3
   obtain rfl:=osj heq1
   obtain rfl:=osj heq2
   simp only [TV.sc.injEq] at heq3;subst heq3
   simp only [CellRep] at hx
   refine⟨_,hk1,wp_value (hrun (u:=.int k0 (k0.wrap m)) (w':=w) ?_) h (by simp only [TVRep,CellRep]) hd⟩
   rw [hx]
   unfold convert
   simp only [run_bind,run_underlying (int_ok hS),run_underlying (int_ok hD)]
   rfl
  ·rename_i b heq1 heq2 heq3
   obtain rfl:=osj heq1
   obtain rfl:=osj heq2
   simp only [TV.sc.injEq] at heq3;subst heq3
   obtain ⟨bb,hx,hbb⟩:=hx
   refine⟨_,hk1,wp_value (hrun (u:=a.eval x) (w':=w) ?_) h (by simp only [TVRep];exact⟨bb,hx,hbb⟩) hd⟩
   rw [hx]
   unfold convert
   simp only [run_bind,run_underlying (str_ok hS),run_underlying (str_ok hD)]
   rfl
  ·rename_i b heq1 heq2 heq3
   obtain rfl:=osj heq1
   obtain rfl:=osj heq2
   simp only [TV.sc.injEq] at heq3;subst heq3
   obtain ⟨bb,hx,rfl⟩:=hx
   obtain ⟨e,hu,hok⟩:=sl_ok hD
   cases hm:mkObj s id (.row (.int .u8) .R 0 (strBytes bb.data.toList)) with
   | none=>rw [hm] at hk1;simp at hk1
   | some s1 =>
    rw [hm] at hk1
    obtain ⟨hid,rfl⟩:=mkObj_some hm
    obtain ⟨arr,c,d,hr,hc,has,hv⟩:=run_stringToBytes (P:=P) (w:=w) (e:=e) (b:=bb)
    have hlen:(strBytes bb.data.toList).length=bb.size:=by simp [strBytes]
    have hn:=h.newRow hid (t:=.int .u8) (em:=.R) (els_ints (strBytes bb.data.toList)) Free.none d arr e (c,c+1) c hv (by rw [hlen];exact hc) (by simp only [Ty.size];omega) (.inr (by simp [Ty.size])) (.inl rfl)
    refine⟨_,hk1,wp_value (hrun (u:=.slice (some (at_ w.heap.size 0)) bb.size c) ?_) hn ?_ hd⟩
    ·rw [hx]
     unfold convert
     simp only [run_bind,run_underlying (str_ok hS),run_underlying hu,run_underlying (int_ok hok)]
     exact hr
    ·simp only [TVRep]
     have:=hd_new (w:=grown w d arr e (c,c+1)) (Z:=Z) (s:=s) (ι := ι) (id:=id) (em:=.R) (ver:=0) (t:=.int .u8) (xs:=strBytes bb.data.toList) (A:=at_ w.heap.size 0) (c:=c) (F:=(Reg.run w.heap.size 0 (c*(Ty.int .u8).size)).or Reg.none) rfl (by rw [hlen];exact hc)
     rw [hlen] at this
     exact this
  ·rename_i c' heq1 heq2 heq3
   obtain rfl:=osj heq1
   obtain rfl:=osj heq2
   simp only [TV.sc.injEq] at heq3;subst heq3
   obtain ⟨e,hu,hok⟩:=sl_ok hS
   cases hl:listOf s (.int .u8) c with
   | none=>rw [hl] at hk1;simp at hk1
   | some xs =>
    rw [hl] at hk1
    simp only at hk1
    obtain ⟨hrep,_,_⟩:=listOf_sound h hl hx
    simp only [Ty.Rep] at hrep
    obtain ⟨A,cp,hv,hrow⟩:=hrep
    simp only [List.cons.injEq,and_true] at hv
    have hconv:(convert src dst (a.eval x)).run P w=(Conv.bytesToString (a.eval x)).run P w:=by
     rw [hv]
     exact run_convert_bytes_string w src dst e A xs.length cp hu (int_ok hok) (str_ok hD)
    rcases hrow with rfl | ⟨a0,rfl,hsp,hrow,_,_⟩
    ·refine⟨_,hk1,wp_value (v:=.string .empty) (w':=w) (hrun ?_) h ?_ hd⟩
     ·rw [hconv,hv]
      cases A with
      | none=>rfl
      | some A =>
       exact run_bytesToString w A 0 cp [] (by rfl)
     ·simp only [TVRep,CellRep]
      exact⟨_,rfl,rfl⟩
    ·obtain ⟨b0,o0,sp⟩:=a0
     simp only at hsp
     subst hsp
     have hc:=row_ints (k:=.u8) (by simpa only [Ty.size] using hrow)
     have hlc:=run_loadCells (P:=P) hc
     rw [List.length_map] at hlc
     refine⟨_,hk1,wp_value (v:=.string (xs.foldl (fun r n=>r.push (UInt8.ofNat n.toNat)) ByteArray.empty)) (w':=w) (hrun ?_) h ?_ hd⟩
     ·rw [hconv,hv]
      exact run_bytesToString w _ xs.length cp xs hlc
     ·simp only [TVRep,CellRep]
      exact⟨_,rfl,by rw [foldl_bytes];rfl⟩
  ·simp at hk1
 | _ =>
  exfalso
  rw [hxv,convK.eq_def,hs,ht] at hk
  split at hk <;> simp_all
theorem minMaxGo_run{mx:Bool}{k:IntKind} : ∀(l:List TV) (x:Int) (vs:List Value) (k':IntKind) (z:Int),TVsRep w Z s ι l vs→minMaxGo mx k x l=some (k',z) →
  (vs.foldlM (if mx then Builtin.max2 else Builtin.min2) (.int k x)).run P w'=.ok (.int k' z) w'
 | [],x,vs,k',z,hr,h=>by
  simp only [TVsRep] at hr;subst hr
  simp only [minMaxGo,Option.some.injEq,Prod.mk.injEq] at h
  obtain ⟨rfl,rfl⟩:=h
  rfl
 | v :: l,x,vs,k',z,hr,h=>by
  simp only [TVsRep] at hr
  obtain ⟨u,us,rfl,h1,h2⟩:=hr
  cases v with
  | sc c =>
   cases c with
   | int ky y =>
    simp only [minMaxGo] at h
    simp only [TVRep,CellRep] at h1
    subst h1
    rw [List.foldlM_cons,run_bind]
    have ih:=minMaxGo_run l _ us k' z h2 h
    cases mx
    ·exact ih
    ·exact ih
   | _=>simp [minMaxGo] at h
  | _=>simp [minMaxGo] at h
theorem opds_rep'(h:Inv w0 F0 Z0 n s a w ι Z):∀l:List Operand,TVsRep w Z s ι (l.map (opd s)) (l.map a.eval)
 | []=>by simp only [List.map_nil,TVsRep]
 | x :: l=>by simp only [List.map_cons,TVsRep];exact⟨_,_,rfl,opd_rep h x,opds_rep' h l⟩
theorem builtin_sound{b:Builtin}{c:Call}(hT:TyOk P E)(h:Inv w0 F0 Z0 n s a w ι Z)(hd:∀k,o.dst=some k→k<n)(ho:o.op=.call c)(hb:c.callee=.builtin b)(hne:b≠.append)(hne2:b≠.clear)(hk:opK E id o s K=some r) :
  ∃s',K s'=some r∧Pure P o a w (Stands w0 F0 Z0 n s'):=by
 unfold opK at hk
 rw [ho] at hk
 simp only [hb] at hk
 have hvs:=opds_rep' h c.args.toList
 have hrun:∀ {u:Value} {cs:Array Bool} {w:World},(builtin b c.argTypes o.type (c.args.map fun | .const _=>true | _=>false) (c.args.map a.eval)).run P w=.ok (.value u) w→(execOp a.eval o).run P w=.ok (.value u) w:=by
  intro u _ w hu
  unfold execOp;rw [ho]
  simp only [run_bind,resolve,hb,run_pure,invoke]
  exact hu
 have hargs:(c.args.map a.eval).toList=c.args.toList.map a.eval:=by simp
 cases b with
 | append=>exact absurd rfl hne
 | clear=>exact absurd rfl hne2
 | len =>
  generalize hl:c.args.toList.map (opd s)=l at hk hvs
  match l,hk,hvs with
  | [.sc cc],hk,hvs =>
   simp only [builtinK] at hk
   cases hty:c.argTypes.toList with
   | nil=>rw [hty] at hk;simp at hk
   | cons t ts =>
    rw [hty] at hk
    simp only at hk
    cases ht:E.ty t with
    | none=>rw [ht] at hk;simp at hk
    | some T =>
     rw [ht] at hk
     simp only at hk
     cases hf:fitsC s T cc
     ·rw [hf] at hk;simp at hk
     rw [hf] at hk
     simp only [cond_true] at hk
     cases hlen:lenC s cc with
     | none=>rw [hlen] at hk;simp at hk
     | some m =>
      rw [hlen] at hk
      simp only [TVsRep,TVRep] at hvs
      obtain ⟨u,us,he,hc,rfl⟩:=hvs
      have ha0:(c.args.map a.eval)[0]?=some u:=by rw [← Array.getElem?_toList,hargs,he];rfl
      have ht0:c.argTypes[0]?=some t:=by rw [← Array.getElem?_toList,hty];rfl
      have hok:=hT.ty _ _ ht
      refine⟨_,hk,pure_value (v:=.int .i64 m) (fun w'=>hrun (cs := #[]) ?_) h (by simp only [TVRep,CellRep]) hd⟩
      unfold builtin
      refine run_v ?_
      unfold Builtin.len_
      rw [ha0,ht0]
      simp only
      have hcase:T=.str∨∃u,T=.sl u:=by
       cases cc <;> simp only [fitsC] at hf <;> try (simp at hf;done)
       ·exact .inl (beq_eq hf)
       ·exact .inr ⟨_,beq_eq hf⟩
       ·exact .inr ⟨_,beq_eq hf⟩
       ·split at hf
        ·exact .inr ⟨_,beq_eq hf⟩
        ·simp at hf
      rcases hcase with rfl | ⟨v,rfl⟩
      ·rw [run_bind,run_underlying (str_ok hok)]
       cases cc <;> simp only [fitsC] at hf <;> try (simp [Ty.beq] at hf;done)
       ·obtain ⟨bb,rfl,rfl⟩:=hc
        simp only [lenC,Option.some.injEq] at hlen
        subst hlen
        rfl
       ·split at hf <;> simp [Ty.beq] at hf
      ·obtain ⟨e,hu,_⟩:=sl_ok hok
       rw [run_bind,run_underlying hu]
       obtain ⟨A,k,rfl,_⟩:=header_of rfl hf hlen hc
       rfl
  | [],hk,_=>simp [builtinK] at hk
  | _ :: _ :: _,hk,_=>simp [builtinK] at hk
  | [.und],hk,_ | [.ag _],hk,_ | [.ptr _],hk,_ | [.rp _ _ _],hk,_ | [.nilp],hk,_ | [.nilc],hk,_ | [.opt _ _],hk,_ | [.may _ _ _],hk,_ | [.junk _],hk,_ | [.fn _ _ _],hk,_ | [.tup _],hk,_=>simp [builtinK] at hk
 | max =>
  simp only [builtinK] at hk
  cases hm:minMax true (c.args.toList.map (opd s)) with
  | none=>rw [hm] at hk;simp at hk
  | some q =>
   obtain ⟨k,z⟩:=q
   rw [hm] at hk
   simp only at hk
   refine⟨_,hk,pure_value (v:=.int k z) (fun w'=>hrun (cs := #[]) ?_) h (by simp only [TVRep,CellRep]) hd⟩
   unfold builtin
   refine run_v ?_
   unfold Builtin.max_
   rw [hargs]
   generalize c.args.toList.map (opd s)=l at hm hvs
   generalize c.args.toList.map a.eval=vs at hvs
   unfold minMax at hm
   split at hm
   ·simp only [TVsRep,TVRep,CellRep] at hvs
    obtain ⟨u,us,rfl,rfl,h2⟩:=hvs
    exact minMaxGo_run _ _ us k z h2 hm
   ·simp at hm
 | min =>
  simp only [builtinK] at hk
  cases hm:minMax false (c.args.toList.map (opd s)) with
  | none=>rw [hm] at hk;simp at hk
  | some q =>
   obtain ⟨k,z⟩:=q
   rw [hm] at hk
   simp only at hk
   refine⟨_,hk,pure_value (v:=.int k z) (fun w'=>hrun (cs := #[]) ?_) h (by simp only [TVRep,CellRep]) hd⟩
   unfold builtin
   refine run_v ?_
   unfold Builtin.min_
   rw [hargs]
   generalize c.args.toList.map (opd s)=l at hm hvs
   generalize c.args.toList.map a.eval=vs at hvs
   unfold minMax at hm
   split at hm
   ·simp only [TVsRep,TVRep,CellRep] at hvs
    obtain ⟨u,us,rfl,rfl,h2⟩:=hvs
    exact minMaxGo_run _ _ us k z h2 hm
   ·simp at hm
 | _=>simp [builtinK] at hk
end
end Go.LM
namespace Go.LM
theorem flatten_set{α : Type} : ∀(B:List (List α)) (i:Nat) (b cs:List α),B[i]?=some b→cs.length=b.length→(B.set i cs).flatten=splice B.flatten (B.take i).flatten.length cs
 | [],i,b,cs,h,_=>by simp at h
 | x :: B,0,b,cs,h,hl=>by
  simp at h;subst h
  simp only [List.set_cons_zero,List.flatten_cons,List.take_zero,List.flatten_nil,List.length_nil]
  unfold splice
  simp [hl]
 | x :: B,i+1,b,cs,h,hl=>by
  simp only [List.getElem?_cons_succ] at h
  simp only [List.set_cons_succ,List.flatten_cons,List.take_succ_cons,List.length_append]
  rw [splice_right (by omega),flatten_set B i b cs h hl]
  congr 2;omega
theorem splice_len_at{α : Type}{B:List (List α)}{i:Nat}{b:List α}(h:B[i]?=some b):(B.take i).flatten.length+b.length≤B.flatten.length:=by
 induction B generalizing i with
 | nil=>simp at h
 | cons x B ih =>
  cases i with
  | zero=>simp at h;subst h;simp
  | succ i =>
   simp only [List.getElem?_cons_succ] at h
   have:=ih h
   simp only [List.take_succ_cons,List.flatten_cons,List.length_append];omega
theorem fold_splice:∀(vs:List Value) (k off:Nat) (cells:Array Value),off+k+vs.length≤cells.size →
  ((vs.zipIdx k).foldl (fun cs (c,j)=>cs.setIfInBounds (off+j) c) cells).toList=splice cells.toList (off+k) vs
 | [],k,off,cells,_=>by simp [splice_nil]
 | v :: vs,k,off,cells,h=>by
  simp only [List.length_cons] at h
  rw [List.zipIdx_cons,List.foldl_cons,fold_splice vs (k+1) off _ (by simp;omega)]
  simp only [Array.toList_setIfInBounds]
  have hlt:off+k<cells.toList.length:=by simp;omega
  apply List.ext_getElem?
  intro j
  unfold splice
  simp only [List.getElem?_append,List.length_append,List.length_take,List.length_set,List.length_cons,List.getElem?_take,List.getElem?_drop,List.getElem?_set]
  have hm1:min (off +(k+1)) cells.toList.length=off+k+1:=by omega
  have hm2:min (off+k) cells.toList.length=off+k:=by omega
  rw [hm1,hm2]
  by_cases h1:j<off+k
  ·have:j≠off+k:=by omega
   simp [show j<off+k+1+vs.length by omega,show j<off+k+1 by omega,show j<off +(k+1) by omega,show j<off+k +(vs.length+1) by omega,h1,Ne.symm this]
  ·by_cases h2:j=off+k
   ·subst h2
    simp only [Array.length_toList] at hlt
    simp [show off+k<off+k+1+vs.length by omega,show off+k<off +(k+1) by omega,hlt]
   ·by_cases h3:j<off+k+1+vs.length
    ·rw [if_pos h3,if_neg (show ¬j<off+k+1 by omega),if_pos (show j<off+k +(vs.length+1) by omega),if_neg h1]
     rw [show j-(off+k)=(j-(off+k+1))+1 by omega,List.getElem?_cons_succ]
    ·rw [if_neg h3,if_neg (show ¬j<off+k +(vs.length+1) by omega)]
     rw [if_neg (by omega)]
     congr 1;omega
def Blocks(place:Nat→Option (Nat×Nat))(ty:Nat→Option Ty)(lens:List Nat):Prop :=
 ∀i t,ty i=some t→place i=some ((lens.take i).sum,t.size)∧lens[i]?=some t.size
section
variable{P:Program}{Q:Exit→Act→World→Prop}
variable{w0:World}{F0 Z0:Reg}{n:Frm}{s s':St}{a a':Act}{w w':World}{ι ι':Nat→OI}{Z Z':Reg}
variable{E:Env}{o:Oper}{ρ : Type}{K:St→Option ρ}{r : ρ}{id:Nat}
theorem flatten_len{α : Type}(B:List (List α)):B.flatten.length=(B.map List.length).sum:=by simp [List.length_flatten]
theorem fillB_sound(h:Inv w0 F0 Z0 n s a w ι Z){place:Nat→Option (Nat×Nat)}{ty:Nat→Option Ty}{lens:List Nat}(hB:Blocks place ty lens) :
  ∀(ps:List (Nat×Operand)) (B B':List (List HC)) (cells:Array Value),B.map List.length=lens→CellsRep w Z s ι B.flatten cells.toList→fillB s ty ps B=some B' →
   ∃cells',Instr.fill place cells (ps.map fun p=>(p.1,a.eval p.2))=some cells'∧CellsRep w Z s ι B'.flatten cells'.toList∧B'.map List.length=lens
 | [],B,B',cells,hl,hc,hf=>by
  simp only [fillB,Option.some.injEq] at hf;subst hf
  exact⟨cells,rfl,hc,hl⟩
 | (i,x) :: ps,B,B',cells,hl,hc,hf=>by
  simp only [fillB] at hf
  cases ht:ty i with
  | none=>rw [ht] at hf;simp at hf
  | some t =>
   rw [ht] at hf
   simp only at hf
   cases hcs:cellsT t (opd s x) with
   | none=>rw [hcs] at hf;simp at hf
   | some cs =>
    rw [hcs] at hf
    simp only at hf
    cases hb:Nat.beq cs.length t.size
    ·rw [hb] at hf;simp at hf
    rw [hb] at hf
    simp only [cond_true] at hf
    have hb:=Nat.eq_of_beq_eq_true hb
    obtain ⟨hp,hli⟩:=hB i t ht
    have hx:=cellsT_rep hcs (opd_rep h x)
    have hxl:=hx.len
    rw [hb] at hxl
    have hBi:∃b,B[i]?=some b∧b.length=t.size:=by
     rw [← hl,List.getElem?_map] at hli
     cases hbi:B[i]? with
     | none=>rw [hbi] at hli;simp at hli
     | some b=>rw [hbi] at hli;simp at hli;exact⟨b,rfl,hli⟩
    obtain ⟨b,hbi,hbl⟩:=hBi
    have hoff:(B.take i).flatten.length=(lens.take i).sum:=by rw [flatten_len,← hl,List.map_take]
    have hle:=splice_len_at hbi
    have hcl:=hc.len
    simp only [Array.length_toList] at hxl hcl
    have hnew:CellsRep w Z s ι (B.set i cs).flatten (splice cells.toList (lens.take i).sum (a.eval x).cells.toList):=by
     rw [flatten_set B i b cs hbi (by omega),hoff]
     unfold splice
     have:=CellsRep.splice hc hx (lens.take i).sum
     unfold splice at this
     exact this
    have hlen':(B.set i cs).map List.length=lens:=by
     rw [List.map_set,hl]
     apply List.ext_getElem?
     intro j
     rw [List.getElem?_set]
     by_cases hj:i=j
     ·subst hj
      rw [hli,if_pos rfl]
      have:i<lens.length:=by
       rcases Nat.lt_or_ge i lens.length with h | h
       ·exact h
       ·rw [List.getElem?_eq_none h] at hli;simp at hli
      rw [if_pos this,hb]
     ·rw [if_neg hj]
    have hfold:=fold_splice (a.eval x).cells.toList 0 (lens.take i).sum cells (by simp;omega)
    have ih:=fillB_sound h hB ps (B.set i cs) B' (((a.eval x).cells.zipIdx).foldl (fun cs (c,j)=>cs.setIfInBounds ((lens.take i).sum+j) c) cells) hlen' (by
     rw [← Array.foldl_toList,Array.toList_zipIdx]
     rw [hfold];exact hnew) hf
    obtain ⟨cells',h1,h2,h3⟩:=ih
    refine⟨cells',?_,h2,h3⟩
    rw [List.map_cons]
    unfold Instr.fill
    rw [hp]
    simp only
    rw [if_neg (by simp only [Bool.or_eq_true,decide_eq_true_eq,not_or,ne_eq,Decidable.not_not];omega)]
    exact h1
def Tys.places:Tys→Nat→List (Nat×Nat)
 | .nil,_=>[]
 | .cons t ts,off=>(off,t.size) :: Tys.places ts (off+t.size)
theorem places_ok:∀(ts:Tys) (fs:List Field) (off:Nat),ts.okF P fs off→fs.mapM (fun f=>(P.info? f.type).map fun i=>(f.offset,i.size))=some (ts.places off)
 | .nil,fs,off,h=>by simp only [Tys.okF] at h;subst h;rfl
 | .cons t ts,fs,off,h=>by
  simp only [Tys.okF] at h
  obtain ⟨f,fs',rfl,rfl,h1,h2⟩:=h
  obtain ⟨i,hi,hsz,_⟩:=h1.info
  have ih:=places_ok ts fs' _ h2
  simp only [List.mapM_cons,hi,Option.map_some,ih,Tys.places,hsz]
  rfl
theorem zblocks_len:∀ts:Tys,ts.zblocks.flatten=ts.zcells
 | .nil=>rfl
 | .cons t ts=>by simp only [Tys.zblocks,Tys.zcells,List.flatten_cons,zblocks_len ts]
theorem zcells_len(t:Ty):t.zcells.length=t.size:=by
 have:=(zcells_rep (w:=default) (Z:=Reg.none) (s:=⟨fun _=>.und,fun _=>.none,[]⟩) (ι := fun _=>⟨none,0,Reg.none⟩) t).len
 rw [← this,Ty.zvals_len]
theorem blocks_st:∀(ts:Tys) (off:Nat) (i:Nat) (t:Ty),ts.nth i=some t→(ts.places off)[i]?=some (off +((ts.zblocks.map List.length).take i).sum,t.size)∧(ts.zblocks.map List.length)[i]?=some t.size
 | .nil,_,_,_,h=>by simp [Tys.nth] at h
 | .cons u ts,off,0,t,h=>by
  simp only [Tys.nth,Option.some.injEq] at h;subst h
  simp [Tys.places,Tys.zblocks,zcells_len]
 | .cons u ts,off,i+1,t,h=>by
  simp only [Tys.nth] at h
  obtain ⟨h1,h2⟩:=blocks_st ts (off+u.size) i t h
  simp only [Tys.places,Tys.zblocks,List.map_cons,List.getElem?_cons_succ,List.take_succ_cons,List.sum_cons,zcells_len]
  exact⟨by rw [h1];simp;omega,h2⟩
theorem op_build{t:Nat}{parts:Array (Nat×Operand)}(hT:TyOk P E)(h:Inv w0 F0 Z0 n s a w ι Z)(hd:∀k,o.dst=some k→k<n)(ho:o.op=.build t parts)(hk:opK E id o s K=some r) :
  ∃s',K s'=some r∧Pure P o a w (Stands w0 F0 Z0 n s'):=by
 unfold opK at hk
 rw [ho] at hk
 simp only at hk
 cases ht:E.ty t with
 | none=>rw [ht] at hk;simp at hk
 | some T =>
  rw [ht] at hk
  cases T with
  | st ts =>
   simp only at hk
   cases hf:fillB s ts.nth parts.toList ts.zblocks with
   | none=>rw [hf] at hk;simp at hk
   | some B =>
    rw [hf] at hk
    have hok:=hT.ty t _ ht
    obtain ⟨it,hi1,hi2,hi3,hi4⟩:=hok.info
    simp only [Ty.ok] at hok
    obtain ⟨_,fs,hu,hfs⟩:=hok
    have hpl:=places_ok ts fs.toList 0 hfs
    have hbl:Blocks ((ts.places 0).toArray[·]?) ts.nth (ts.zblocks.map List.length):=by
     intro i t' hi
     have:=blocks_st ts 0 i t' hi
     simpa using this
    obtain ⟨cells',h1,h2,h3⟩:=fillB_sound h hbl parts.toList ts.zblocks B (wrapV (.st ts) (Ty.st ts).zvals).cells rfl (by
     rw [zblocks_len,zv_cells];exact zcells_rep (.st ts)) hf
    refine⟨_,hk,pure_value (v:=.agg cells') (fun w'=>?_) h (by simp only [TVRep];exact⟨cells'.toList,rfl,h2⟩) hd⟩
    unfold execOp;rw [ho]
    refine run_v ?_
    refine run_build w' t _ cells' ?_
    unfold Program.built
    rw [hi1,hu]
    simp only [hi3,hpl]
    rw [← h1]
    congr 1
    simp
  | _=>simp at hk
theorem els_depF_nil{t:Ty}{m:Md}{x:t.D}{us:List Value}{F:Reg}(h:t.Rep w (Z.or (depF ι [])) m x us F):t.Rep w Z m x us F :=
 Ty.Rep.mono (fun b o hz=>by rcases hz with h | ⟨d,hd,_⟩;exact h;simp at hd) t m (fun _ _ h=>h) h
theorem impAll_sound:∀(B:List (List HC)) (t:Ty) (m:Md) (s s1:St) (xs:List t.D) (vs:List Value) (Z:Reg),impAll t m B s=some (xs,s1)→Inv w0 F0 Z0 n s a w ι Z→CellsRep w Z s ι B.flatten vs →
  ∃F Z',Inv w0 F0 Z0 n s1 a w ι Z'∧Shrinks s ι Z s1 Z'∧Free w0 F0 s1 w ι Z' F∧Els (t.Rep w Z' m) t.size xs vs F∧∀b o,F b o→∃id,(s.o id).live∧(ι id).F b o
 | [],t,m,s,s1,xs,vs,Z,hi,h,hc=>by
  simp only [impAll,Option.some.injEq,Prod.mk.injEq] at hi
  obtain ⟨rfl,rfl⟩:=hi
  cases vs with
  | nil=>exact⟨Reg.none,Z,h,.refl,.none,rfl,fun _ _ h=>h.elim⟩
  | cons v vs=>exact hc.elim
 | cs :: B,t,m,s,s1,xs,vs,Z,hi,h,hc=>by
  simp only [impAll] at hi
  obtain ⟨r,hr,hi⟩:=obi hi
  rw [List.flatten_cons] at hc
  obtain ⟨us,ts,rfl,hul,hcu,hct⟩:=hc.split
  obtain ⟨us',vs',F,Z1,he,h1,hs1,hc1,hf1,hrep,_,hbs,_,hF⟩:=Ty.imp_sound t false m cs s [] r us Z hr h hcu (by simp)
  cases hrr:r.2.1 with
  | cons c l=>rw [hrr] at hi;simp at hi
  | nil =>
   rw [hrr] at hi hc1
   simp only at hi
   obtain ⟨q,hq,hi⟩:=obi hi
   simp only [Option.some.injEq,Prod.mk.injEq] at hi
   obtain ⟨rfl,rfl⟩:=hi
   cases vs' with
   | cons v l=>exact hc1.elim
   | nil =>
    rw [List.append_nil] at he
    subst he
    rw [hbs rfl] at hrep
    have hrep:=els_depF_nil hrep
    obtain ⟨G,Z2,h2,hs2,hf2,hels,hG⟩:=impAll_sound B t m r.2.2.1 q.2 q.1 ts Z1 hq h1 (shrink_vs hs1 hct)
    refine⟨F.or G,Z2,h2,hs1.trans hs2,(hf1.shrink hs2).or hf2,⟨us,ts,F,G,rfl,Ty.Rep.mono hs2.zsub t m (fun _ _ h=>h) hrep,(Ty.Rep.len t m hrep).1,hels,?_,fun _ _ h=>.inl h,fun _ _ h=>.inr h⟩,?_⟩
    ·intro b o hb hg
     obtain ⟨j,hj,hjf⟩:=hG b o hg
     exact hf1.apart j hj b o hb hjf
    ·rintro b o (hb | hb)
     ·exact hF b o hb
     ·obtain ⟨j,hj,hjf⟩:=hG b o hb
      obtain ⟨g1,g2⟩:=hs1.live hj
      exact⟨j,g1,hjf⟩
theorem impAll_len{t:Ty}{m:Md} : ∀(B:List (List HC)) (s:St) {xs:List t.D} {s1:St},impAll t m B s=some (xs,s1)→xs.length=B.length
 | [],s,xs,s1,h=>by simp only [impAll,Option.some.injEq,Prod.mk.injEq] at h;rw [← h.1];rfl
 | cs :: B,s,xs,s1,h=>by
  simp only [impAll] at h
  obtain ⟨r,hr,h⟩:=obi h
  split at h
  ·obtain ⟨q,hq,h⟩:=obi h
   simp only [Option.some.injEq,Prod.mk.injEq] at h
   rw [← h.1,List.length_cons,List.length_cons,impAll_len B _ hq]
  ·simp at h
theorem run_buildSlice'{T:Ty}{t e len:Nat}{parts:Array (Nat×Value)}{cells:Array Value}(hu:P.underlying t=some (.slice e))(hok:T.ok P e)(hs:len*T.size≤16777216)
  (hf:Instr.fill (fun i=>some (i*T.size,T.size)) ((Array.range (len*T.size)).map ((if len*T.size=0 then #[] else(wrapV T T.zvals).cells)[· % (if len*T.size=0 then #[] else(wrapV T T.zvals).cells).size]!)) parts.toList=some cells) :
  (Instr.buildSlice t len parts).run P w=.ok (.slice (some (at_ w.heap.size 0)) len len) (grown w w.drawn cells e (0,0)):=by
 unfold Instr.buildSlice
 simp only [run_bind,run_underlying hu,run_sizeOf hok]
 rw [if_neg (by omega)]
 by_cases hz:len*T.size=0
 ·simp only [hz,if_true] at hf ⊢
  simp only [run_bind,run_pure,hf,run_newRow]
 ·simp only [hz,if_false] at hf ⊢
  simp only [run_bind,run_pure,run_zeroValue hok,hf,run_newRow]
theorem op_buildSlice{t len:Nat}{parts:Array (Nat×Operand)}(hT:TyOk P E)(h:Inv w0 F0 Z0 n s a w ι Z)(hd:∀k,o.dst=some k→k<n)(ho:o.op=.buildSlice t len parts)(hk:opK E id o s K=some r) :
  ∃s',K s'=some r∧o.wp P a w (Stands w0 F0 Z0 n s') Q:=by
 unfold opK at hk
 rw [ho] at hk
 simp only at hk
 cases ht:E.ty t with
 | none=>rw [ht] at hk;simp at hk
 | some S =>
  rw [ht] at hk
  cases S with
  | sl T =>
   simp only at hk
   cases hle:Nat.ble (len*T.size) 16777216
   ·rw [hle] at hk;simp at hk
   rw [hle] at hk
   simp only [cond_true] at hk
   have hle:=Nat.le_of_ble_eq_true hle
   cases hf:fillB s (fun i=>cond (Nat.blt i len) (some T) none) parts.toList (List.replicate len T.zcells) with
   | none=>rw [hf] at hk;simp at hk
   | some B =>
    rw [hf] at hk
    simp only at hk
    generalize hm:firstMd T s B=m at hk
    cases hi:impAll T m B s with
    | none=>rw [hi] at hk;simp at hk
    | some q =>
     obtain ⟨xs,s1⟩:=q
     rw [hi] at hk
     simp only at hk
     cases hmk:mkObj s1 id (.row T m 0 xs) with
     | none=>rw [hmk] at hk;simp at hk
     | some s2 =>
      rw [hmk] at hk
      obtain ⟨hid,rfl⟩:=mkObj_some hmk
      obtain ⟨e,hu,hok⟩:=sl_ok (hT.ty t _ ht)
      have hbl:Blocks (fun i=>some (i*T.size,T.size)) (fun i=>cond (Nat.blt i len) (some T) none) (List.replicate len T.size):=by
       intro i t' hi
       have hi:cond (Nat.blt i len) (some T) none=some t':=hi
       cases hb:Nat.blt i len
       ·rw [hb] at hi;simp at hi
       ·rw [hb] at hi
        simp only [cond_true,Option.some.injEq] at hi
        subst hi
        have hlt:i<len:=Nat.lt_of_lt_of_le (Nat.lt_succ_self i) (Nat.le_of_ble_eq_true hb)
        refine⟨?_,by simp [List.getElem?_replicate,hlt]⟩
        rw [List.take_replicate,Nat.min_eq_left (by omega)]
        simp
      have hzf:∀k,CellsRep w Z s ι (List.replicate k T.zcells).flatten (List.replicate k T.zvals).flatten:=by
       intro k
       induction k with
       | zero=>exact trivial
       | succ k ih=>rw [List.replicate_succ,List.replicate_succ,List.flatten_cons,List.flatten_cons];exact(zcells_rep T).append ih
      have hcells:((Array.range (len*T.size)).map ((if len*T.size=0 then #[] else(wrapV T T.zvals).cells)[· % (if len*T.size=0 then #[] else(wrapV T T.zvals).cells).size]!)).toList=(List.replicate len T.zvals).flatten:=by
       apply List.ext_getElem?
       intro j
       have hfl:(List.replicate len T.zvals).flatten.length=len*T.size:=by simp [Ty.zvals_len]
       by_cases hj:j<len*T.size
       ·have hz:¬len*T.size=0:=by omega
        simp only [if_neg hz]
        obtain ⟨v,hv⟩:∃v,(List.replicate len T.zvals).flatten[j]?=some v:=⟨_,List.getElem?_eq_getElem (by omega)⟩
        rw [hv,Array.getElem?_toList]
        exact zeros_getElem? T.zvals len (zv_cells T) (by rw [Ty.zvals_len]) v hv
       ·rw [List.getElem?_eq_none (by simp;omega),List.getElem?_eq_none (by omega)]
      obtain ⟨cells',h1,h2,h3⟩:=fillB_sound h hbl parts.toList (List.replicate len T.zcells) B _ (by simp [zcells_len]) (by rw [hcells];exact hzf len) hf
      obtain ⟨F,Z1,hi1,hs1,hf1,hels,_⟩:=impAll_sound B T m s s1 xs _ Z hi h h2
      have hxl:xs.length=len:=by
       have e1:B.length=len:=by have:=congrArg List.length h3;simpa using this
       rw [← e1];exact impAll_len B s hi
      have hcs:len*T.size≤cells'.size:=by
       have:=hels.len
       simp only [Array.length_toList] at this
       rw [hxl] at this;omega
      have hn:=hi1.newRow hid hels hf1 w.drawn cells' e (0,0) len (fun j v hv=>by simpa using hv) (by omega) hcs (.inl rfl) (.inr rfl)
      refine⟨_,hk,wp_value (v:=.slice (some (at_ w.heap.size 0)) len len) ?_ hn ?_ hd⟩
      ·unfold execOp;rw [ho]
       refine run_v ?_
       refine run_buildSlice' hu hok hle ?_
       rw [← h1]
       congr 1
       simp
      ·simp only [TVRep]
       have:=hd_new (w:=grown w w.drawn cells' e (0,0)) (Z:=Z1) (s:=s1) (ι := ι) (id:=id) (em:=m) (ver:=0) (xs:=xs) (A:=at_ w.heap.size 0) (c:=len) (F:=(Reg.run w.heap.size 0 (len*T.size)).or F) rfl (by omega)
       rw [hxl] at this
       exact this
  | _=>simp at hk
end
end Go.LM
namespace Go.LM
section
variable{P:Program}{Q:Exit→Act→World→Prop}
variable{w0:World}{F0 Z0:Reg}{n:Frm}{s s':St}{a a':Act}{w w':World}{ι ι':Nat→OI}{Z Z':Reg}
variable{E:Env}{o:Oper}{ρ : Type}{K:St→Option ρ}{r : ρ}{id:Nat}
theorem Inv.scribble(h:Inv w0 F0 Z0 n s a w ι Z){S:Reg}(hF:Free w0 F0 s w ι Z S)(hx:Ext w w' S):Inv w0 F0 Z0 n s a w' ι Z:=by
 have hm:Moves w Z s ι w' Z s ι := by
  refine⟨fun id=>.stay _ _,fun _ _ h=>h,Same.of_ext hx h.kept_in ?_⟩
  rintro b o (hz | ⟨id,hl,_,_,hf⟩) hs
  ·exact hF.apartZ b o hs hz
  ·exact hF.apart id hl b o hs hf
 refine h.next hm hx (fun b o hs=>(hF.own b o hs).1) (fun _ _ h=>.inl h) ?_ h.apartZ (fun k=>(h.tmps k).move hm) h.size h.defers
 intro id _ hne;exact absurd ⟨rfl,rfl⟩ hne
theorem Inv.freeze(h:Inv w0 F0 Z0 n s a w ι Z){S:Reg}(hF:Free w0 F0 s w ι Z S):Inv w0 F0 Z0 n s a w ι (Z.or S):=by
 have hm:Moves w Z s ι w (Z.or S) s ι :=⟨fun id=>.stay _ _,fun _ _ h=>.inl h,Same.refl _ _⟩
 refine h.next hm (Ext.refl _ Reg.none) (fun _ _ h=>h.elim) ?_ ?_ ?_ (fun k=>(h.tmps k).move hm) h.size h.defers
 ·rintro b o (hz | hs)
  ·exact .inl hz
  ·exact .inr (hF.own b o hs)
 ·intro id _ hne;exact absurd ⟨rfl,rfl⟩ hne
 ·rintro id hl b o h1 (h2 | h2)
  ·exact h.apartZ id hl b o h1 h2
  ·exact hF.apart id hl b o h2 h1
theorem Free.freeze{F S:Reg}(hF:Free w0 F0 s w ι Z F)(ha:Reg.apart F S):Free w0 F0 s w ι (Z.or S) F :=
 ⟨hF.own,hF.apart,fun b o h1 h2=>h2.elim (hF.apartZ b o h1) (ha b o h1)⟩
theorem Free.sub{F G:Reg}(hF:Free w0 F0 s w ι Z F)(h:Reg.sub G F):Free w0 F0 s w ι Z G :=
 ⟨fun b o hg=>hF.own b o (h b o hg),fun id hl b o hg=>hF.apart id hl b o (h b o hg),fun b o hg=>hF.apartZ b o (h b o hg)⟩
def Reg.diff(F G:Reg):Reg:=fun b o=>F b o∧¬G b o
theorem els_oneC{t:Ty}{m:Md} : ∀ {xs:List t.D} {vs:List Value} {F:Reg},Els (t.Rep w Z m) t.size xs vs F→∀v∈vs,oneC v=true
 | [],_,_,h=>by simp only [Els] at h;subst h;simp
 | x :: xs,_,_,⟨us,ts,G,H,h1,h2,h3,h4,_⟩=>by
  subst h1
  intro v hv
  rcases List.mem_append.1 hv with h | h
  ·exact(Ty.Rep.len t m h2).2 v h
  ·exact els_oneC h4 v h
theorem run_firstCells{A:Option Addr}{size m c:Nat}{vs:List Value}(hl:vs.length=m*size)(h:m=0∨∃b o,A=some (at_ b o)∧CellsAt w b o vs) :
  (Builtin.firstCells size m (.slice A m c)).run P w=.ok vs.toArray w:=by
 unfold Builtin.firstCells
 rcases h with rfl | ⟨b,o,rfl,hc⟩
 ·have:vs=[]:=List.eq_nil_of_length_eq_zero (by simpa using hl)
  subst this
  cases A with
  | none=>rfl
  | some A=>simp only [Nat.zero_mul];rfl
 ·simp only [← hl]
  exact run_loadCells hc
theorem own_els{t:Ty}{e:Md}{xs:List t.D}{v:Value}{F:Reg}(h:(Ty.sl t).Rep w Z (.O e) xs [v] F) :
  ∃A c vs,v=.slice A xs.length c∧Els (t.Rep w Z e) t.size xs vs F∧∀d,(Builtin.firstCells t.size xs.length v).run P { w with drawn:=d } = .ok vs.toArray { w with drawn:=d } := by
 simp only [Ty.Rep] at h
 obtain ⟨A,c,hv,h⟩:=h
 simp only [List.cons.injEq,and_true] at hv
 subst hv
 rcases h with⟨rfl,rfl⟩ | ⟨⟨b,o,sp⟩,rfl,hr⟩
 ·exact⟨A,0,[],rfl,rfl,fun d=>run_firstCells (by simp) (.inl rfl)⟩
 ·obtain ⟨G,g1,g2,g3⟩:=hr.row
  have hsp:=hr.spot
  simp only at hsp
  subst hsp
  obtain ⟨vs,h1,h2⟩:=g1.els
  exact⟨_,c,vs,rfl,h1.mono g3,fun d=>run_firstCells h1.len (.inr ⟨b,o,rfl,h2⟩)⟩
theorem frozen_els{t:Ty}{xs:List t.D}{v:Value}{F:Reg}(h:(Ty.sl t).Rep w Z .R xs [v] F) :
  ∃A c vs,v=.slice A xs.length c∧Els (t.Rep w Z .R) t.size xs vs Reg.none∧∀d,(Builtin.firstCells t.size xs.length v).run P { w with drawn:=d } = .ok vs.toArray { w with drawn:=d } := by
 simp only [Ty.Rep] at h
 obtain ⟨A,c,hv,h⟩:=h
 simp only [List.cons.injEq,and_true] at hv
 subst hv
 rcases h with rfl | ⟨⟨b,o,sp⟩,rfl,hsp,hr,_,_⟩
 ·exact⟨A,c,[],rfl,rfl,fun d=>run_firstCells (by simp) (.inl rfl)⟩
 ·simp only at hsp
  subst hsp
  obtain ⟨vs,h1,h2⟩:=hr.els
  exact⟨_,c,vs,rfl,h1.imp (fun y us G hs hr=>rep_R_none hr |> fun h=>Ty.Rep.mono (fun _ _ h=>h) t .R (fun _ _ h=>h.elim) h),fun d=>run_firstCells h1.len (.inr ⟨b,o,rfl,h2⟩)⟩
theorem added_sound{t:Ty}{c:HC}{v:Value}{mb:Md}{ys:List t.D}{s1:St}(ha:added s t c=some (mb,ys,s1))(h:Inv w0 F0 Z0 n s a w ι Z)(hc:CellRep w Z s ι c v) :
  ∃vs F,(Builtin.lenOf v).run P w=.ok ys.length w∧(∀d,(Builtin.firstCells t.size ys.length v).run P { w with drawn:=d } = .ok vs.toArray { w with drawn:=d })∧Els (t.Rep w Z mb) t.size ys vs F ∧
   Inv w0 F0 Z0 n s1 a w ι Z∧Shrinks s ι Z s1 Z∧Free w0 F0 s1 w ι Z F:=by
 cases c with
 | nil u =>
  simp only [added] at ha
  obtain ⟨x,hx,ha⟩:=obi ha
  obtain ⟨e,rfl⟩:=castD_sl hx
  subst e
  simp only [Option.some.injEq,Prod.mk.injEq] at ha
  obtain ⟨rfl,rfl,rfl⟩:=ha
  have hv:v=.slice none 0 0:=hc
  subst hv
  exact⟨[],Reg.none,rfl,fun _=>rfl,rfl,h,.refl,.none⟩
 | lst u dp og xs =>
  simp only [added] at ha
  cases hal:alive s dp
  ·rw [hal] at ha;simp at ha
  cases hfl:(t.flat||dp.isEmpty)
  ·rw [hal,hfl] at ha;simp at ha
  rw [hal,hfl] at ha
  simp only [Bool.and_self,cond_true] at ha
  obtain ⟨x,hx,ha⟩:=obi ha
  obtain ⟨e,rfl⟩:=castD_sl hx
  subst e
  simp only [Option.some.injEq,Prod.mk.injEq] at ha
  obtain ⟨rfl,rfl,rfl⟩:=ha
  obtain ⟨A,cp,vs,rfl,h1,h2⟩:=frozen_els (P:=P) (hc.2.2.1 hal)
  refine⟨vs,Reg.none,rfl,h2,?_,h,.refl,.none⟩
  simp only [Bool.or_eq_true,List.isEmpty_iff] at hfl
  rcases hfl with hfl | rfl
  ·exact h1.imp fun y us G _ hr=>rep_flat u hfl hr
  ·exact h1.imp fun y us G _ hr=>els_depF_nil hr
 | hd j sub =>
  simp only [added] at ha
  obtain ⟨hk,A,m,cp,rfl,hh⟩:=hc
  cases ho:s.o j with
  | row u em ver xs =>
   rw [ho] at ha
   have hobj:=h.objs j
   rw [ho] at hobj
   have hlive:(s.o j).live:=by rw [ho];trivial
   have hown:=header_own hobj (hh u em ver xs (core_row ho))
   cases em with
   | R =>
    simp only at ha
    obtain ⟨x,hx,ha⟩:=obi ha
    obtain ⟨e,rfl⟩:=castD_sl hx
    subst e
    simp only [Option.some.injEq,Prod.mk.injEq] at ha
    obtain ⟨rfl,rfl,rfl⟩:=ha
    obtain ⟨A',c',vs,hv,h1,h2⟩:=own_els (P:=P) hown
    refine⟨vs,Reg.none,?_,h2,h1.bare fun y us G _ hr=>rep_R_none hr,h,.refl,.none⟩
    rw [hv];rfl
   | O e' =>
    simp only at ha
    obtain ⟨x,hx,ha⟩:=obi ha
    obtain ⟨e,rfl⟩:=castD_sl hx
    subst e
    simp only [Option.some.injEq,Prod.mk.injEq] at ha
    obtain ⟨rfl,rfl,rfl⟩:=ha
    obtain ⟨A',c',vs,hv,h1,h2⟩:=own_els (P:=P) hown
    refine⟨vs,(ι j).F,?_,h2,h1,h.take j (fun _ _ h=>h) (fun _ _ h=>.inl h),shrinks_take j hlive,h.freed hlive⟩
    rw [hv];rfl
   | S ms =>
    simp only at ha
    obtain ⟨x,hx,ha⟩:=obi ha
    obtain ⟨e,rfl⟩:=castD_sl hx
    subst e
    simp only [Option.some.injEq,Prod.mk.injEq] at ha
    obtain ⟨rfl,rfl,rfl⟩:=ha
    obtain ⟨A',c',vs,hv,h1,h2⟩:=own_els (P:=P) hown
    refine⟨vs,(ι j).F,?_,h2,h1,h.take j (fun _ _ h=>h) (fun _ _ h=>.inl h),shrinks_take j hlive,h.freed hlive⟩
    rw [hv];rfl
  | _=>rw [ho] at ha;simp at ha
 | str b =>
  simp only [added] at ha
  obtain ⟨x,hx,ha⟩:=obi ha
  obtain ⟨e,rfl⟩:=castD_sl hx
  subst e
  simp only [Option.some.injEq,Prod.mk.injEq] at ha
  obtain ⟨rfl,rfl,rfl⟩:=ha
  obtain ⟨bb,rfl,rfl⟩:=hc
  have hlen:(strBytes bb.data.toList).length=bb.size:=by simp [strBytes]
  refine⟨(strBytes bb.data.toList).map (Value.int .u8),Reg.none,?_,?_,els_ints _,h,.refl,.none⟩
  ·rw [hlen];rfl
  ·intro d
   rw [hlen]
   simp only [Builtin.firstCells,run_pure]
   congr 1
   apply Array.ext'
   simp [strBytes]
 | _=>simp [added] at ha
theorem taken_sound{t:Ty}{c:HC}{v:Value}{ma:Md}{xs:List t.D}{s1:St}(ha:taken s t c=some (ma,xs,s1))(h:Inv w0 F0 Z0 n s a w ι Z)(hc:CellRep w Z s ι c v) :
  ∃F,(Ty.sl t).Rep w Z (.O ma) xs [v] F∧Inv w0 F0 Z0 n s1 a w ι Z∧Shrinks s ι Z s1 Z∧Free w0 F0 s1 w ι Z F∧∀b o,F b o→∃id,(s.o id).live∧(ι id).F b o:=by
 cases c with
 | nil u =>
  simp only [taken] at ha
  obtain ⟨x,hx,ha⟩:=obi ha
  obtain ⟨e,rfl⟩:=castD_sl hx
  subst e
  simp only [Option.some.injEq,Prod.mk.injEq] at ha
  obtain ⟨rfl,rfl,rfl⟩:=ha
  have hv:v=.slice none 0 0:=hc
  subst hv
  refine⟨Reg.none,?_,h,.refl,.none,fun _ _ h=>h.elim⟩
  simp only [Ty.Rep]
  exact⟨none,0,rfl,.inl (by simp)⟩
 | hd j sub =>
  simp only [taken] at ha
  obtain ⟨hk,A,m,cp,rfl,hh⟩:=hc
  cases ho:s.o j with
  | row u em ver xs =>
   rw [ho] at ha
   simp only at ha
   have hobj:=h.objs j
   rw [ho] at hobj
   have hlive:(s.o j).live:=by rw [ho];trivial
   have hown:=header_own hobj (hh u em ver xs (core_row ho))
   obtain ⟨x,hx,ha⟩:=obi ha
   obtain ⟨e,rfl⟩:=castD_sl hx
   subst e
   simp only [Option.some.injEq,Prod.mk.injEq] at ha
   obtain ⟨rfl,rfl,rfl⟩:=ha
   exact⟨(ι j).F,hown,h.take j (fun _ _ h=>h) (fun _ _ h=>.inl h),shrinks_take j hlive,h.freed hlive,fun b o hf=>⟨j,hlive,hf⟩⟩
  | _=>rw [ho] at ha;simp at ha
 | _=>simp [taken] at ha
theorem meet_sound{t:Ty}{ma mb:Md}{xs ys:List t.D}{v:Value}{vs:List Value}{Fa Fb:Reg}(h:Inv w0 F0 Z0 n s a w ι Z)
  (hx:(Ty.sl t).Rep w Z (.O ma) xs [v] Fa) (hy:Els (t.Rep w Z mb) t.size ys vs Fb) (ha:Free w0 F0 s w ι Z Fa) (hb:Free w0 F0 s w ι Z Fb) (hab:Reg.apart Fa Fb) :
  ∃Z' Fa' Fb',Inv w0 F0 Z0 n s a w ι Z'∧Reg.sub Z Z'∧(Ty.sl t).Rep w Z' (.O (meet ma mb)) xs [v] Fa'∧Els (t.Rep w Z' (meet ma mb)) t.size ys vs Fb'∧Free w0 F0 s w ι Z' Fa'∧Free w0 F0 s w ι Z' Fb'∧Reg.apart Fa' Fb':=by
 unfold meet
 cases hm:Md.beq ma mb
 ·simp only [cond_false]
  obtain ⟨F',h1,h2⟩:=own_weaken hx
  have hS:Free w0 F0 s w ι Z ((Reg.diff Fa F').or Fb):=(ha.sub fun b o h=>h.1).or hb
  refine⟨_,F',Reg.none,h.freeze hS,fun _ _ h=>.inl h,Ty.Rep.mono ?_ _ _ (fun _ _ h=>h) h2,?_,?_,.none,fun _ _ _ h=>h⟩
  ·rintro b o (hz | hz)
   ·exact .inl hz
   ·exact .inr (.inl hz)
  ·exact hy.bare fun y us G hs hr=>Ty.Rep.read (fun _ _ h=>.inl h) t mb (fun b o hg=>.inr (.inr (hs b o hg))) hr
  ·refine(ha.sub h1).freeze ?_
   rintro b o hf (hg | hg)
   ·exact hg.2 hf
   ·exact hab b o (h1 b o hf) hg
 ·have:=Md.eq_of_beq _ _ hm
  subst this
  exact⟨Z,Fa,Fb,h,fun _ _ h=>h,hx,hy,ha,hb,hab⟩
theorem zeroCells_size(z:Array Value)(k:Nat):(Builtin.zeroCells z k).size=k*z.size:=by simp [Builtin.zeroCells]
theorem run_append_room{A:Option Addr}{m c k size:Nat}{vs:List Value}{vb:Value}{ta tb ty e:TypeId}{ats:Array TypeId}{args:Array Value}
  (h0:ats[0]?=some ta) (h1:ats[1]?=some tb) (h2:args[0]?=some (.slice A m c)) (h3:args[1]?=some vb) (hu:P.underlying ta=some (.slice e)) (hs:(sizeOf e).run P w=.ok size w)
  (hub:P.underlying tb=some .string∨∃e',P.underlying tb=some (.slice e')) (hneed:m+k≤c) (hl:(Builtin.lenOf vb).run P w=.ok k w) (hf:(Builtin.firstCells size k vb).run P w=.ok vs.toArray w)
  (hst:∀a,A=some a→(storeCells (a.add (m*size)) vs).run P w=.ok () w') (hn:A=none→w'=w):(Builtin.append_ ats ty args).run P w=.ok (.slice A (m+k) c) w':=by
 unfold Builtin.append_
 rcases hub with hub | ⟨e',hub⟩
 all_goals
  simp only [h0,h1,h2,h3,run_bind,run_underlying hu,hs,run_underlying hub,run_pure]
  simp only [Bool.false_eq_true,if_false,run_bind,hl,if_pos hneed,Bool.not_false,if_true,hf]
  cases A with
  | none=>rw [hn rfl];rfl
  | some a=>simp only [run_bind,hst a rfl,run_pure]
theorem run_append_grow{A:Option Addr}{m c k size:Nat}{us vs:List Value}{vb z:Value}{ta tb ty e:TypeId}{ats:Array TypeId}{args:Array Value}{i:TypeInfo}
  (h0:ats[0]?=some ta) (h1:ats[1]?=some tb) (h2:args[0]?=some (.slice A m c)) (h3:args[1]?=some vb) (hu:P.underlying ta=some (.slice e)) (hi:P.info? e=some i) (hsz:i.size=size) (hz:i.zero=some z)
  (hub:P.underlying tb=some .string∨∃e',P.underlying tb=some (.slice e')) (hneed:¬m+k≤c) (hl:(Builtin.lenOf vb).run P w=.ok k w)
  (hfx:∀d,(Builtin.firstCells size m (.slice A m c)).run P { w with drawn:=d } = .ok us.toArray { w with drawn:=d })
  (hf:∀d,(Builtin.firstCells size k vb).run P { w with drawn:=d } = .ok vs.toArray { w with drawn:=d })
  (hr:m+k≤68719476736) (hb:i.bytes≤2048) :
  ∃q,m+k≤q∧(Builtin.append_ ats ty args).run P w=.ok (.slice (some (at_ w.heap.size 0)) (m+k) q) (grown w (w.drawn+1) (us.toArray++vs.toArray++Builtin.zeroCells z.cells (q-(m+k))) e (0,0)):=by
 have hq:(Question.appendCap (m+k) c e).forced=false:=rfl
 have h63:¬(((m+k:Nat):Int)>IntKind.i64.max):=by simp [IntKind.max,IntKind.signed,IntKind.bits];omega
 have h48:¬(Builtin.nextslicecap (m+k) c*i.bytes>2 ^ 48):=by
  have h1:=nextslicecap_le (need:=m+k) (old:=c) (by omega)
  have h2:Builtin.nextslicecap (m+k) c*i.bytes≤(2*68719476736)*2048:=Nat.mul_le_mul (by omega) hb
  omega
 have hsize:(sizeOf e).run P w=.ok size w:=by simp [sizeOf,run_bind,run_typeInfo hi,run_pure,hsz]
 have hzero:∀w:World,(zeroValue e).run P w=.ok z w:=by intro w;simp [zeroValue,run_bind,run_typeInfo hi,run_pure,hz]
 refine⟨m+k+w.tape w.drawn (.appendCap (m+k) c e) % (2 ^ 63-(m+k)),by omega,?_⟩
 unfold Builtin.append_
 rcases hub with hub | ⟨e',hub⟩
 all_goals
  simp only [h0,h1,h2,h3,run_bind,run_underlying hu,hsize,run_underlying hub,run_pure]
  simp only [Bool.false_eq_true,if_false,run_bind,hl,if_neg hneed,Bool.not_false,if_true,h63,false_and,run_typeInfo hi,h48,choose,Sem.run,hq,Question.cut,run_askRoom,hfx,hf,hzero]
  rfl
theorem append_sound{t:Ty}{m:Md}{xs ys:List t.D}{va vb:Value}{vs:List Value}{Fa Fb:Reg}{ta tb ty e:TypeId}{ats:Array TypeId}{args:Array Value}
  (h0:ats[0]?=some ta) (h1:ats[1]?=some tb) (h2:args[0]?=some va) (h3:args[1]?=some vb) (hu:P.underlying ta=some (.slice e)) (hok:t.ok P e)
  (hub:P.underlying tb=some .string∨∃e',P.underlying tb=some (.slice e')) (hroom:xs.length+ys.length≤68719476736)
  (h:Inv w0 F0 Z0 n s a w ι Z) (hid:s.o id=.none) (hx:(Ty.sl t).Rep w Z (.O m) xs [va] Fa) (hy:Els (t.Rep w Z m) t.size ys vs Fb) (ha:Free w0 F0 s w ι Z Fa) (hb:Free w0 F0 s w ι Z Fb) (hab:Reg.apart Fa Fb)
  (hl:(Builtin.lenOf vb).run P w=.ok ys.length w) (hf:∀d,(Builtin.firstCells t.size ys.length vb).run P { w with drawn:=d } = .ok vs.toArray { w with drawn:=d }) :
  ∃u w' ι',(Builtin.append_ ats ty args).run P w=.ok u w'∧Inv w0 F0 Z0 n (s.putO id (.row t m 0 (xs++ys))) a w' ι' Z∧CellRep w' Z (s.putO id (.row t m 0 (xs++ys))) ι' (.hd id none) u:=by
 obtain ⟨A,c,us,rfl,hex,hfx⟩:=own_els (P:=P) hx
 obtain ⟨i,hi1,hi2,hi3,hi4⟩:=hok.info
 have hzl:(wrapV t t.zvals).cells.size=t.size:=by
  have:=congrArg List.length (zv_cells t)
  rw [Array.length_toList,Ty.zvals_len] at this;exact this
 have hf0:(Builtin.firstCells t.size ys.length vb).run P w=.ok vs.toArray w:=hf w.drawn
 have hfx0:(Builtin.firstCells t.size xs.length (.slice A xs.length c)).run P w=.ok us.toArray w:=hfx w.drawn
 have hlx:=hex.len
 have hly:=hy.len
 by_cases hneed:xs.length+ys.length≤c
 ·
  have hrow:=hx
  simp only [Ty.Rep] at hrow
  obtain ⟨A',c',hv,hrow⟩:=hrow
  simp only [List.cons.injEq,Value.slice.injEq,and_true,true_and] at hv
  obtain ⟨rfl,rfl⟩:=hv
  rcases hrow with⟨rfl,rfl⟩ | ⟨⟨b,o,sp⟩,rfl,hr⟩
  ·have hy0:ys=[]:=List.eq_nil_of_length_eq_zero (by simp at hneed;simpa using hneed)
   subst hy0
   have hv0:vs=[]:=List.eq_nil_of_length_eq_zero (by simpa using hly)
   subst hv0
   refine⟨.slice A 0 0,w,upd ι id ⟨none,0,Reg.none⟩,?_,h.adopt hid (.inl ⟨rfl,rfl⟩) .none,?_⟩
   ·exact run_append_room h0 h1 h2 h3 hu (run_sizeOf hok) hub (Nat.le_refl 0) hl hf0 (fun a _=>rfl) (fun _=>rfl)
   ·refine⟨by show upd s.o id _ id≠_;rw [upd_same];simp,A,0,0,rfl,?_⟩
    intro t' em' ver' xs' ho
    have ho':(upd s.o id (LObj.row t m 0 ([]++[])) id).core=.row t' em' ver' xs':=ho
    rw [upd_same] at ho'
    obtain ⟨rfl,_,_,h4⟩:=LObj.row.inj ho'
    have:=eq_of_heq h4;subst this
    exact⟨rfl,by simp [subLo],Nat.le_refl _,by simp [subLo],.inl rfl⟩
  ·have hsp:=hr.spot
   simp only at hsp
   subst hsp
   obtain ⟨G,g1,g2,g3⟩:=hr.row
   have hle:(xs.length+ys.length)*t.size≤c*t.size:=Nat.mul_le_mul_right _ hneed
   rw [Nat.add_mul] at hle
   have hwr:∀j,j<vs.length→Writable w b (o+xs.length*t.size+j):=fun j hj=>by
    have:=(hr.wr (xs.length*t.size+j) (by omega)).1
    rwa [← Nat.add_assoc] at this
   have hS:Free w0 F0 s w ι Z (Reg.run b o (c*t.size)):=ha.sub (by
    rintro b' o' ⟨rfl,h1,h2⟩
    have:=hr.inF (o'-o) (by omega)
    rwa [show o +(o'-o)=o' by omega] at this)
   have hGS:Reg.apart G (Reg.run b o (c*t.size)):=by
    rintro b' o' hg ⟨rfl,h1,h2⟩
    have:=g2 (o'-o) (by omega)
    exact this (by show G b' (o +(o'-o));rw [show o +(o'-o)=o' by omega];exact hg)
   have hx':Ext w (setCells w b (o+xs.length*t.size) vs) (Reg.run b o (c*t.size)):=setCells_ext b vs w _ (fun j hj=>⟨rfl,by omega,by omega⟩)
   have hinv:=h.scribble hS hx'
   obtain ⟨us',k1,k2⟩:=g1.els
   have k1l:=k1.len
   have hsame:∀F,Free w0 F0 s w ι Z F→Reg.apart F (Reg.run b o (c*t.size))→Same w (setCells w b (o+xs.length*t.size) vs) F:=fun F hF hFS=>Same.of_ext hx' (fun b o hf=>(hF.own b o hf).2) hFS
   have hsZ:Same w (setCells w b (o+xs.length*t.size) vs) Z:=Same.of_ext hx' h.zin (fun b o hz hs=>hS.apartZ b o hs hz)
   have hGfree:Free w0 F0 s w ι Z G:=ha.sub g3
   have hFbS:Reg.apart Fb (Reg.run b o (c*t.size)):=by
    rintro b' o' hb' ⟨rfl,h1,h2⟩
    have:=hr.inF (o'-o) (by omega)
    exact hab b' o' (by have h9:Fa b' (o +(o'-o)):=this;rwa [show o +(o'-o)=o' by omega] at h9) hb'
   have e1:Els (t.Rep (setCells w b (o+xs.length*t.size) vs) Z m) t.size xs us' G:=k1.imp fun y us G' hs hr=>Ty.Rep.same hsZ t m ((hsame G hGfree hGS).mono hs) hr
   have e2:Els (t.Rep (setCells w b (o+xs.length*t.size) vs) Z m) t.size ys vs Fb:=hy.imp fun y us G' hs hr=>Ty.Rep.same hsZ t m ((hsame Fb hb hFbS).mono hs) hr
   have hfr:Free w0 F0 s (setCells w b (o+xs.length*t.size) vs) ι Z (Fa.or Fb):=(ha.or hb).ext hx'
   refine⟨.slice (some (at_ b o)) (xs.length+ys.length) c,_,upd ι id ⟨some (at_ b o),c,Fa.or Fb⟩,?_,hinv.adopt hid ?_ hfr,?_⟩
   ·have hst:=run_storeCells (P:=P) (b:=b) (o:=o+xs.length*t.size) vs w 0 (els_oneC hy) (fun j hj=>by simpa using hwr j hj)
    simp only [Nat.add_zero] at hst
    refine run_append_room h0 h1 h2 h3 hu (run_sizeOf hok) hub hneed hl hf0 (fun a ha=>?_) (fun h=>by simp at h)
    obtain rfl:=osj ha
    rw [show(⟨b,o,none⟩:Addr).add (xs.length*t.size)=at_ b (o+xs.length*t.size) from add_at _ _ _]
    exact hst
   ·refine .inr ⟨at_ b o,rfl,rfl,by simpa using hneed,fun j hj=>(hx'.wrR (hr.wr j hj)),fun j hj=>.inl (hr.inF j hj),G.or Fb,?_,?_,fun b o h=>h.imp (g3 b o) (fun h=>h)⟩
    ·refine(e1.append e2 fun b o hg hf=>hab b o (g3 b o hg) hf).row ?_
     refine CellsAt.append (k2.of_eq fun j hj=>?_) ?_
     ·rw [k1l] at hj
      refine(setCells_cell b vs w _ (fun i hi=>(hwr i hi).1) b (o+j)).trans (if_neg ?_)
      omega
     ·rw [k1l];exact setCells_at hwr
    ·rintro j hj (hg | hg)
     ·exact g2 j hj hg
     ·exact hab _ _ (hr.inF j hj) hg
   ·have:=hd_new (w:=setCells w b (o+xs.length*t.size) vs) (Z:=Z) (s:=s) (ι := ι) (id:=id) (em:=m) (ver:=0) (xs:=xs++ys) (A:=at_ b o) (c:=c) (F:=Fa.or Fb) rfl (by simpa using hneed)
    rw [List.length_append] at this
    exact this
 ·
  obtain ⟨q,hq,hrun⟩:=run_append_grow (P:=P) (w:=w) (ty:=ty) h0 h1 h2 h3 hu hi1 hi2 hi3 hub hneed hl hfx hf hroom hi4
  have hn:=h.newRow hid (hex.append hy hab) (ha.or hb) (w.drawn+1) (us.toArray++vs.toArray++Builtin.zeroCells (wrapV t t.zvals).cells (q-(xs.length+ys.length))) e (0,0) q (by
   intro j v hv
   rw [Array.getElem?_append_left]
   ·simpa [← List.getElem?_append] using hv
   ·rcases Nat.lt_or_ge j (us++vs).length with h | h
    ·simpa using h
    ·rw [List.getElem?_eq_none h] at hv;simp at hv) (by simpa using hq) (by
   simp only [Array.size_append,List.size_toArray,zeroCells_size,hzl,hlx,hly]
   rw [Nat.sub_mul,Nat.add_mul]
   have:(xs.length+ys.length)*t.size≤q*t.size:=Nat.mul_le_mul_right _ hq
   rw [Nat.add_mul] at this
   omega) (.inl rfl) (.inr rfl)
  refine⟨_,_,_,hrun,hn,?_⟩
  have:=hd_new (w:=grown w (w.drawn+1) (us.toArray++vs.toArray++Builtin.zeroCells (wrapV t t.zvals).cells (q-(xs.length+ys.length))) e (0,0)) (Z:=Z) (s:=s) (ι := ι) (id:=id) (em:=m) (ver:=0) (xs:=xs++ys) (A:=at_ w.heap.size 0) (c:=q) (F:=(Reg.run w.heap.size 0 (q*t.size)).or (Fa.or Fb)) rfl (by simpa using hq)
  rw [List.length_append] at this
  exact this
theorem op_append{c:Call}(hT:TyOk P E)(h:Inv w0 F0 Z0 n s a w ι Z)(hd:∀k,o.dst=some k→k<n)(ho:o.op=.call c)(hb:c.callee=.builtin .append)(hk:opK E id o s K=some r) :
  ∃s',K s'=some r∧o.wp P a w (Stands w0 F0 Z0 n s') Q:=by
 unfold opK at hk
 rw [ho] at hk
 simp only [hb] at hk
 have hvs:=opds_rep' h c.args.toList
 have hargs:(c.args.map a.eval).toList=c.args.toList.map a.eval:=by simp
 generalize hl:c.args.toList.map (opd s)=l at hk hvs
 match l,hk,hvs with
 | [],hk,_=>simp [builtinK] at hk
 | [_],hk,_=>simp [builtinK] at hk
 | _ :: _ :: _ :: _,hk,_=>simp [builtinK] at hk
 | [va,vb],hk,hvs =>
  simp only [builtinK] at hk
  simp only [TVsRep] at hvs
  obtain ⟨ua,_,he,hva,ub,_,rfl,hvb,rfl⟩:=hvs
  cases hty:appTy E c.argTypes.toList with
  | none=>rw [hty] at hk;simp at hk
  | some t =>
   rw [hty] at hk
   simp only at hk
   have htys:∃ta tb rest e,c.argTypes.toList=ta :: tb :: rest∧P.underlying ta=some (.slice e)∧t.ok P e∧(P.underlying tb=some .string∨∃e',P.underlying tb=some (.slice e')):=by
    unfold appTy at hty
    split at hty
    ·rename_i ta tb rest htl
     split at hty
     ·rename_i t1 t2 h1 h2
      obtain rfl:=osj hty
      obtain ⟨e,hu,hok⟩:=sl_ok (hT.ty _ _ h1)
      obtain ⟨e',hu',_⟩:=sl_ok (hT.ty _ _ h2)
      exact⟨ta,tb,rest,e,htl,hu,hok,.inr ⟨e',hu'⟩⟩
     ·rename_i t1 h1 h2
      obtain rfl:=osj hty
      obtain ⟨e,hu,hok⟩:=sl_ok (hT.ty _ _ h1)
      exact⟨ta,tb,rest,e,htl,hu,hok,.inl (str_ok (hT.ty _ _ h2))⟩
     ·simp at hty
    ·simp at hty
   obtain ⟨ta,tb,rest,e,htl,hu,hok,hub⟩:=htys
   cases hca:oneCell t va with
   | none=>rw [hca] at hk;simp at hk
   | some ca =>
    cases hcb:oneCell t vb with
    | none=>rw [hca,hcb] at hk;simp at hk
    | some cb =>
      rw [hca,hcb] at hk
      simp only [appendK] at hk
      have hone:∀ {u:Value} {c:HC} {x:TV},oneCell t x=some c→TVRep w Z s ι x u→CellRep w Z s ι c u:=by
       intro u c x hx hr
       cases x <;> simp only [oneCell] at hx <;> try (simp at hx;done)
       ·obtain rfl:=osj hx
        simpa only [TVRep] using hr
       ·obtain rfl:=osj hx
        simp only [TVRep] at hr
        exact hr
      have ha1:=hone hca hva
      have hb1:=hone hcb hvb
      cases had:added s t cb with
      | none=>rw [had] at hk;simp at hk
      | some q =>
       obtain ⟨mb,ys,s1⟩:=q
       rw [had] at hk
       simp only at hk
       obtain ⟨vs,Fb,hlen,hfirst,hels,h1,hs1,hf1⟩:=added_sound (P:=P) had h hb1
       cases htk:taken s1 t ca with
       | none=>rw [htk] at hk;simp at hk
       | some q =>
        obtain ⟨ma,xs,s2⟩:=q
        rw [htk] at hk
        simp only at hk
        obtain ⟨Fa,hx,h2,hs2,hf2,hlive⟩:=taken_sound htk h1 (ha1.move hs1.moves)
        cases hmk:mkObj s2 id (.row t (meet ma mb) 0 (xs++ys)) with
        | none=>rw [hmk] at hk;simp at hk
        | some s3 =>
         rw [hmk] at hk
         obtain ⟨hroom,hk2⟩:=grd_some hk
         clear hk
         obtain ⟨hid,rfl⟩:=mkObj_some hmk
         obtain ⟨Z2,Fa',Fb',h3,_,hx',hy',ha',hb',hab'⟩:=meet_sound h2 hx hels hf2 (hf1.shrink hs2) (by
          intro b o hfa hfb
          obtain ⟨j,hj,hjf⟩:=hlive b o hfa
          exact hf1.apart j hj b o hfb hjf)
         obtain ⟨u,w',ι',hrun,hinv,hcell⟩:=append_sound (P:=P) (id:=id) (ty:=o.type) (ats:=c.argTypes) (args:=c.args.map a.eval) (by rw [← Array.getElem?_toList,htl];rfl) (by rw [← Array.getElem?_toList,htl];rfl)
          (by rw [← Array.getElem?_toList,hargs,he];rfl) (by rw [← Array.getElem?_toList,hargs,he];rfl) hu hok hub (Nat.le_of_ble_eq_true hroom) h3 hid hx' hy' ha' hb' hab' hlen hfirst
         refine⟨_,hk2,wp_value (v:=u) (w':=w') ?_ hinv (by simp only [TVRep];exact hcell) hd⟩
         unfold execOp;rw [ho]
         simp only [run_bind,resolve,hb,run_pure,invoke]
         unfold builtin
         exact run_v hrun
theorem Els.cut{α : Type}{R : α → List Value→Reg→Prop}{size:Nat} : ∀ {xs:List α} {vs:List Value} {F:Reg} (k:Nat),Els R size xs vs F→Els R size (xs.take k) (vs.take (k*size)) F∧Els R size (xs.drop k) (vs.drop (k*size)) F
 | xs,vs,F,0,h=>by simp only [Nat.zero_mul,List.take_zero,List.drop_zero];exact⟨rfl,h⟩
 | [],vs,F,k+1,h=>by simp only [Els] at h;subst h;simp [Els]
 | x :: xs,vs,F,k+1,⟨us,ts,G,H,h1,h2,h3,h4,h5,h6,h7⟩=>by
  obtain ⟨p,q⟩:=Els.cut k h4
  subst h1
  have e:(k+1)*size=us.length+k*size:=by rw [Nat.add_one_mul,h3];omega
  refine⟨⟨us,ts.take (k*size),G,H,?_,h2,h3,p,h5,h6,h7⟩,?_⟩
  ·rw [e,List.take_length_add_append]
  ·rw [e,List.drop_length_add_append];exact q.mono h7
theorem zeroCells_list(us:List Value)(z:Array Value)(hz:z.toList=us)(n:Nat):(Builtin.zeroCells z n).toList=(List.replicate n us).flatten:=by
 have hl:(Builtin.zeroCells z n).toList.length=(List.replicate n us).flatten.length:=by
  rw [Array.length_toList,zeroCells_size];subst hz;simp
 refine List.ext_getElem? fun j=>?_
 cases hj:(List.replicate n us).flatten[j]? with
 | none =>
  rw [List.getElem?_eq_none_iff] at hj ⊢
  omega
 | some v =>
  have:=zeros_getElem? (z:=z) (m:=n*z.size) us n hz (by subst hz;simp) v hj
  rw [Array.getElem?_toList]
  exact this
theorem Inv.rewrite(h:Inv w0 F0 Z0 n s a w ι Z){id:Nat}{t:Ty}{em:Md}{ver:Nat}{xs xs':List t.D}(ho:s.o id=.row t em ver xs)(hl:xs.length=xs'.length)(hx:Ext w w' (ι id).F)
  (hobj:Moves w Z s ι w' Z (s.putO id (.row t em (ver+1) xs')) ι → ObjRep w' Z (s.putO id (.row t em (ver+1) xs')) ι (ι id) (.row t em (ver+1) xs')):Inv w0 F0 Z0 n (s.putO id (.row t em (ver+1) xs')) a w' ι Z:=by
 have hlive:(s.o id).live:=by rw [ho];trivial
 let o':LObj:=.row t em (ver+1) xs'
 have hm:Moves w Z s ι w' Z (s.putO id o') ι := by
  refine⟨fun j=>?_,fun _ _ h=>h,Same.of_ext hx h.kept_in ?_⟩
  ·show Turn (s.o j) (ι j) (upd s.o id o' j) (ι j)
   by_cases hj:id=j
   ·subst hj;rw [upd_same,ho];exact .row _ _ _ _ _ _ _ _ _ (by omega) (by omega) rfl rfl
   ·rw [upd_ne hj];exact .stay _ _
  ·rintro b o (hz | ⟨id',hl',hst',_,hf⟩) hf'
   ·exact h.apartZ id hlive b o hf' hz
   ·have hne:id'≠id:=by
     rintro rfl
     have:upd s.o id' o' id'=s.o id':=hst'
     rw [upd_same,ho] at this
     injection this with h1 h2 h3
     omega
    exact h.apart id' id hl' hlive hne b o hf hf'
 have hlive':∀ {j},id≠j→((s.putO id o').o j).live→(s.o j).live:=fun hj hl=>by
  have:(upd s.o id o' _).live:=hl
  rwa [upd_ne hj] at this
 refine h.next hm hx (fun b o hf=>(h.own id hlive b o hf).1) (fun _ _ h=>.inl h) ?_ ?_ (fun k=>(h.tmps k).move hm) h.size h.defers
 ·intro j hl hne
  by_cases hj:id=j
  ·subst hj
   refine⟨?_,fun b o hf=>⟨(h.own _ hlive b o hf).1,Nat.lt_of_lt_of_le (h.own _ hlive b o hf).2 hx.size⟩,fun id' hl' hne'=>h.apart id id' hlive (hlive' hne' hl') hne'⟩
   show ObjRep _ _ _ _ _ (upd s.o id o' id)
   rw [upd_same]
   exact hobj hm
  ·exact absurd ⟨upd_ne hj,rfl⟩ hne
 ·intro j hl
  by_cases hj:id=j
  ·subst hj;exact h.apartZ _ hlive
  ·exact h.apartZ j (hlive' hj hl)
theorem run_clear{t e ty:TypeId}{T:Ty}{A:Option Addr}{k c:Nat}(hu:P.underlying t=some (.slice e))(hok:T.ok P e){b o:Nat}(hA:0<k→A=some (at_ b o))(hw:∀j,j<k*T.size→Writable w b (o+j)) :
  (Builtin.clear_ #[t] ty #[.slice A k c]).run P w=.ok (.tuple #[]) (setCells w b o (List.replicate k T.zvals).flatten):=by
 rcases Nat.eq_zero_or_pos k with rfl | hk
 ·unfold Builtin.clear_
  cases A <;>(simp only [List.getElem?_toArray,List.getElem?_cons_zero,run_bind,run_underlying hu];rfl)
 ·rw [hA hk]
  obtain ⟨m,rfl⟩:∃m,k=m+1:=⟨k-1,by omega⟩
  have hc:=zeroCells_list T.zvals (wrapV T T.zvals).cells (zv_cells T) (m+1)
  have h1:∀v∈(List.replicate (m+1) T.zvals).flatten,oneC v=true:=by
   intro v hv
   rw [List.mem_flatten] at hv
   obtain ⟨l,h1,h2⟩:=hv
   rw [(List.mem_replicate.1 h1).2] at h2
   exact((zcells_rep (w:=default) (Z:=Reg.none) (s:=⟨fun _=>.und,fun _=>.none,[]⟩) (ι := fun _=>⟨none,0,Reg.none⟩) T).oneC) v h2
  have hst:=run_storeCells (P:=P) (b:=b) (o:=o) _ w 0 h1 (fun i hi=>by
   have:=hw i (by simpa [Ty.zvals_len] using hi)
   simpa using this)
  unfold Builtin.clear_
  simp only [List.getElem?_toArray,List.getElem?_cons_zero,run_bind,run_underlying hu,run_zeroValue hok,hc]
  simp only [Nat.add_zero] at hst
  rw [hst]
  rfl
theorem op_clear{c:Call}(hT:TyOk P E)(h:Inv w0 F0 Z0 n s a w ι Z)(hd:∀k,o.dst=some k→k<n)(ho:o.op=.call c)(hb:c.callee=.builtin .clear)(hk:opK E id o s K=some r) :
  ∃s',K s'=some r∧o.wp P a w (Stands w0 F0 Z0 n s') Q:=by
 unfold opK at hk
 rw [ho] at hk
 simp only [hb] at hk
 have hvs:=opds_rep' h c.args.toList
 have hargs:(c.args.map a.eval).toList=c.args.toList.map a.eval:=by simp
 generalize hl:c.args.toList.map (opd s)=l at hk hvs
 match l,hk,hvs with
 | [.sc (.hd i sub)],hk,hvs =>
  simp only [builtinK] at hk
  cases hty:c.argTypes.toList with
  | nil=>rw [hty] at hk;simp at hk
  | cons t ts =>
   rw [hty] at hk
   simp only at hk
   cases ht:E.ty t with
   | none=>rw [ht] at hk;simp at hk
   | some T =>
    cases hob:s.o i with
    | row v em ver xs =>
     rw [ht,hob] at hk
     cases T with
     | sl u =>
      simp only at hk
      cases hf:(Ty.beq u v&&v.flat)
      ·rw [hf] at hk;simp at hk
      rw [hf] at hk
      simp only [cond_true] at hk
      simp only [Bool.and_eq_true] at hf
      obtain ⟨hf,hfl⟩:=hf
      have:=Ty.eq_of_beq _ _ hf
      subst this
      simp only [TVsRep,TVRep] at hvs
      obtain ⟨uv,us,he,⟨hkn,A,k,cc,rfl,hh⟩,rfl⟩:=hvs
      obtain ⟨e,hu,hok⟩:=sl_ok (hT.ty _ _ ht)
      have hr:=hh u em ver xs (core_row hob)
      obtain ⟨rn,rf,rl,rc,ra⟩:=hr
      have hkk:k=subLen sub xs:=by
       rw [rn];cases sub with
       | none=>rfl
       | some p=>rfl
      rw [← hkk] at hk
      generalize hlo:subLo sub=lo at *
      have ha0:(c.args.map a.eval) = #[.slice A k cc]:=by
       apply Array.ext'
       rw [hargs,he]
      have ht0:c.argTypes[0]?=some t:=by rw [← Array.getElem?_toList,hty];rfl
      have hlen:xs.length=(xs.take lo++List.replicate k u.zero++xs.drop (lo+k)).length:=by simp;omega
      have hobj0:=h.objs i
      rw [hob] at hobj0
      have hfin:∃(b oo:Nat),(0<k→A=some (at_ b oo))∧(∀j,j<k*u.size→Writable w b (oo+j))∧Inv w0 F0 Z0 n (s.putO i (.row u em (ver+1) (xs.take lo++List.replicate k u.zero++xs.drop (lo+k)))) a (setCells w b oo (List.replicate k u.zvals).flatten) ι Z:=by
       rcases hobj0 with⟨h1,h2⟩ | ⟨a0,hb0,hrow⟩
       ·have hk0:k=0:=by rw [h1] at rf;simp at rf;omega
        subst hk0
        refine⟨0,0,fun h=>by omega,fun j hj=>by omega,?_⟩
        refine h.rewrite hob hlen (Ext.refl _ _) fun _=>?_
        exact .inl ⟨by rw [h1];simp,h2⟩
       ·have hle:(lo+k)*u.size≤(ι i).cap*u.size:=Nat.mul_le_mul_right _ (by have:=hrow.cap;omega)
        rw [Nat.add_mul] at hle
        have hwr:∀j,j<k*u.size→Writable w a0.block (a0.off+lo*u.size+j):=fun j hj=>by
         have:=(hrow.wr (lo*u.size+j) (by omega)).1;rwa [← Nat.add_assoc] at this
        have hzl:(List.replicate k u.zvals).flatten.length=k*u.size:=by simp [Ty.zvals_len]
        have hx:Ext w (setCells w a0.block (a0.off+lo*u.size) (List.replicate k u.zvals).flatten) (ι i).F:=setCells_ext _ _ _ _ fun j hj=>by
         have:=hrow.inF (lo*u.size+j) (by omega);rwa [← Nat.add_assoc] at this
        refine⟨a0.block,a0.off+lo*u.size,fun hk0=>?_,hwr,h.rewrite hob hlen hx fun _=>.inr ⟨a0,hb0,hrow.spot,by rw [← hlen];exact hrow.cap,fun j hj=>hx.wrR (hrow.wr j hj),hrow.inF,Reg.none,?_,fun _ _ h=>h,fun _ _ h=>h.elim⟩⟩
        ·rcases ra with ra | ⟨a1,hb1,ra⟩
         ·omega
         ·rw [hb0] at hb1
          obtain rfl:=osj hb1
          exact ra
        ·obtain ⟨G,r1,r2,r3⟩:=hrow.row
         obtain ⟨us,e1,e2⟩:=Row.els r1
         have e1:Els (u.Rep (setCells w a0.block (a0.off+lo*u.size) (List.replicate k u.zvals).flatten) Z em) u.size xs us Reg.none:=e1.bare fun y us G' _ hy =>
          rep_flat u (F:=Reg.none) hfl (Ty.Rep.same (Z:=Reg.none) (fun _ _ h=>h.elim) u em (F:=Reg.none) (fun _ _ h=>h.elim) (rep_flat u hfl hy))
         have hul:=e1.len
         have hsp:=setCells_splice (k:=lo*u.size) (vs:=(List.replicate k u.zvals).flatten) e2 (fun i hi=>(hrow.wr i (by
          have:xs.length*u.size≤(ι _).cap*u.size:=Nat.mul_le_mul_right _ hrow.cap
          omega)).1) (by
          rw [hzl,hul,← Nat.add_mul];exact Nat.mul_le_mul_right _ (by omega))
         refine Els.row ?_ hsp
         have c1:=(e1.cut lo).1
         have c2:=(e1.cut (lo+k)).2
         have c3:=Els.replicate (R:=u.Rep (setCells w a0.block (a0.off+lo*u.size) (List.replicate k u.zvals).flatten) Z em) (zero_rep u em) (Ty.zvals_len u) k
         have:=((c1.append c3 fun _ _ h _=>h.elim).append c2 fun _ _ _ h=>h.elim)
         unfold splice
         rw [hzl,← Nat.add_mul]
         refine this.bare fun y us G _ hy=>rep_flat u hfl hy
      obtain ⟨b,oo,hA,hw,hi⟩:=hfin
      refine⟨_,hk,wp_value (v:=.tuple #[]) ?_ hi (by simp only [TVRep,TVsRep];exact⟨[],rfl,rfl⟩) hd⟩
      unfold execOp;rw [ho]
      simp only [run_bind,resolve,hb,run_pure,invoke]
      unfold builtin
      refine run_v ?_
      have hrun:=run_clear (P:=P) (w:=w) (ty:=o.type) (c:=cc) hu hok hA hw
      rw [ha0]
      have hcong:Builtin.clear_ c.argTypes o.type #[.slice A k cc]=Builtin.clear_ #[t] o.type #[.slice A k cc]:=by
       unfold Builtin.clear_;rw [ht0];rfl
      rw [hcong]
      exact hrun
     | _=>simp at hk
    | _=>rw [ht,hob] at hk;cases T <;> simp at hk
 | [],hk,_=>simp [builtinK] at hk
 | _ :: _ :: _,hk,_=>simp [builtinK] at hk
 | [.und],hk,_ | [.ag _],hk,_ | [.ptr _],hk,_ | [.rp _ _ _],hk,_ | [.nilp],hk,_ | [.nilc],hk,_ | [.opt _ _],hk,_ | [.may _ _ _],hk,_ | [.junk _],hk,_ | [.fn _ _ _],hk,_ | [.tup _],hk,_=>simp [builtinK] at hk
 | [.sc (.int _ _)],hk,_ | [.sc (.bool _)],hk,_ | [.sc (.str _)],hk,_ | [.sc (.nil _)],hk,_ | [.sc (.lst _ _ _ _)],hk,_=>simp [builtinK] at hk
end
end Go.LM
namespace Go.LM
theorem Row.split3{α : Type}{w:World}{R : α → List Value→Reg→Prop}{size:Nat} : ∀ {x:List α} {b o:Nat} {F:Reg} (i:Nat) (hi:i<x.length),Row w R size x b o F →
  ∃G1 Gi G2 vs,Row w R size (x.take i) b o G1∧R x[i] vs Gi∧vs.length=size∧CellsAt w b (o+i*size) vs∧Row w R size (x.drop (i+1)) b (o +(i+1)*size) G2 ∧
   Reg.apart G1 Gi∧Reg.apart G1 G2∧Reg.apart Gi G2∧Reg.sub G1 F∧Reg.sub Gi F∧Reg.sub G2 F
 | y :: x,b,o,F,0,_,⟨vs,G,H,h1,h2,h3,h4,h5,h6,h7⟩ =>
  ⟨Reg.none,G,H,vs,trivial,h1,h2,by simpa using h3,by simpa using h4,fun _ _ h=>h.elim,fun _ _ h=>h.elim,h5,fun _ _ h=>h.elim,h6,h7⟩
 | y :: x,b,o,F,i+1,hi,⟨vs,G,H,h1,h2,h3,h4,h5,h6,h7⟩=>by
  obtain ⟨G1,Gi,G2,us,k1,k2,k3,k4,k5,k6,k7,k8,k9,k10,k11⟩:=Row.split3 i (by simpa using hi) h4
  refine⟨G.or G1,Gi,G2,us,⟨vs,G,G1,h1,h2,h3,k1,fun b o h k=>h5 b o h (k9 b o k),fun _ _ h=>.inl h,fun _ _ h=>.inr h⟩,k2,k3,?_,?_,?_,?_,k8,?_,fun b o h=>h7 b o (k10 b o h),fun b o h=>h7 b o (k11 b o h)⟩
  ·rwa [show o +(i+1)*size=o+size+i*size by rw [Nat.add_one_mul];omega]
  ·have e:o +(i+1+1)*size=o+size +(i+1)*size:=by rw [Nat.add_one_mul (i+1)];omega
   rw [e];exact k5
  ·rintro b o (h | h) k
   ·exact h5 b o h (k10 b o k)
   ·exact k6 b o h k
  ·rintro b o (h | h) k
   ·exact h5 b o h (k11 b o k)
   ·exact k7 b o h k
  ·rintro b o (h | h)
   ·exact h6 b o h
   ·exact h7 b o (k9 b o h)
theorem Row.join3{α : Type}{w:World}{R : α → List Value→Reg→Prop}{size:Nat}{y : α}{vs:List Value}{Gi:Reg} : ∀ {x:List α} {b o:Nat} {G1 G2:Reg} (i:Nat),i<x.length→Row w R size (x.take i) b o G1→R y vs Gi→vs.length=size →
  CellsAt w b (o+i*size) vs→Row w R size (x.drop (i+1)) b (o +(i+1)*size) G2→Reg.apart G1 Gi→Reg.apart G1 G2→Reg.apart Gi G2→Row w R size (x.set i y) b o (G1.or (Gi.or G2))
 | [],_,_,_,_,_,hi,_,_,_,_,_,_,_,_=>by simp at hi
 | z :: x,b,o,G1,G2,0,_,_,h2,h3,h4,h5,_,_,h8 =>
  ⟨vs,Gi,G2,h2,h3,by simpa using h4,by simpa using h5,h8,fun _ _ h=>.inr (.inl h),fun _ _ h=>.inr (.inr h)⟩
 | z :: x,b,o,G1,G2,i+1,hi,⟨ws,A,B,a1,a2,a3,a4,a5,a6,a7⟩,h2,h3,h4,h5,h6,h7,h8=>by
  have e1:o +(i+1)*size=o+size+i*size:=by rw [Nat.add_one_mul];omega
  have e2:o +(i+1+1)*size=o+size +(i+1)*size:=by rw [Nat.add_one_mul (i+1)];omega
  have:=Row.join3 i (by simpa using hi) a4 h2 h3 (by rwa [← e1]) (by rw [← e2];exact h5) (fun b o x y=>h6 b o (a7 b o x) y) (fun b o x y=>h7 b o (a7 b o x) y) h8
  refine⟨ws,A,_,a1,a2,a3,this,?_,fun b o h=>.inl (a6 b o h),?_⟩
  ·rintro b o x (y | y | y)
   ·exact a5 b o x y
   ·exact h6 b o (a6 b o x) y
   ·exact h7 b o (a6 b o x) y
  ·rintro b o (y | y | y)
   ·exact .inl (a7 b o y)
   ·exact .inr (.inl y)
   ·exact .inr (.inr y)
mutual
theorem Ty.getAt_flat:∀(T:Ty) {off:Nat} {t:Ty} {x:T.D} {z:List t.D},T.flat=true→T.getAt off t x=some z→False
 | .int _,_,_,_,_,_,h=>by simp [Ty.getAt] at h
 | .bool,_,_,_,_,_,h=>by simp [Ty.getAt] at h
 | .str,_,_,_,_,_,h=>by simp [Ty.getAt] at h
 | .raw,_,_,_,_,_,h=>by simp [Ty.getAt] at h
 | .sl t,_,_,_,_,hf,_=>by simp [Ty.flat] at hf
 | .st ts,_,_,_,_,hf,h=>Tys.getAt_flat ts (by simpa only [Ty.flat] using hf) (by simpa only [Ty.getAt] using h)
theorem Tys.getAt_flat:∀(ts:Tys) {off:Nat} {t:Ty} {x:ts.D} {z:List t.D},ts.flat=true→ts.getAt off t x=some z→False
 | .nil,_,_,_,_,_,h=>by simp [Tys.getAt] at h
 | .cons T ts,off,t,x,z,hf,h=>by
  simp only [Tys.flat] at hf
  cases h1:T.flat
  ·rw [h1] at hf;cases hf
  rw [h1] at hf
  simp only [Tys.getAt] at h
  cases hb:Nat.blt off T.size
  ·rw [hb] at h;exact Tys.getAt_flat ts hf h
  ·rw [hb] at h;exact Ty.getAt_flat T h1 h
end
section
variable{w w2:World}{Z Z2:Reg}
theorem own_same(t:Ty){x:t.D}{vs:List Value}{F:Reg}(hF:Same w w2 F)(h:t.Rep w Z t.own x vs F):t.Rep w2 Z2 t.own x vs F :=
 rep_own t (Ty.Rep.same (Z:=Reg.none) (fun _ _ h=>h.elim) t t.own hF (rep_own t h))
theorem owns_same(t:Tys){x:t.D}{vs:List Value}{F:Reg}(hF:Same w w2 F)(h:t.Rep w Z t.own x vs F):t.Rep w2 Z2 t.own x vs F :=
 reps_own t (Tys.Rep.same (Z:=Reg.none) (fun _ _ h=>h.elim) t t.own hF (reps_own t h))
def Lens(w:World)(Z:Reg)(t:Ty)(z:List t.D)(v:Value)(H1 G1:Reg)(R:World→Reg→List t.D→Reg→Prop):Prop :=
 (Ty.sl t).Rep w Z (.O t.own) z [v] H1∧Reg.apart H1 G1∧∀(w2:World) (Z2 X:Reg) (y:List t.D),Same w w2 G1→(Ty.sl t).Rep w2 Z2 (.O t.own) y [v] X→Reg.apart X G1→R w2 Z2 y (X.or G1)
mutual
theorem Ty.lens:∀(T:Ty) (off:Nat) (t:Ty) {x:T.D} {z:List t.D} {us:List Value} {G:Reg},T.Rep w Z T.own x us G→T.getAt off t x=some z →
  ∃v H1 G1,us[off]?=some v∧Reg.sub H1 G∧Reg.sub G1 G∧Lens w Z t z v H1 G1 (fun w2 Z2 y U=>∀x',T.setAt off t y x=some x'→T.Rep w2 Z2 T.own x' us U)
 | .int _,_,_,_,_,_,_,_,h=>by simp [Ty.getAt] at h
 | .bool,_,_,_,_,_,_,_,h=>by simp [Ty.getAt] at h
 | .str,_,_,_,_,_,_,_,h=>by simp [Ty.getAt] at h
 | .raw,_,_,_,_,_,_,_,h=>by simp [Ty.getAt] at h
 | .sl u,off,t,x,z,us,G,hr,h=>by
  simp only [Ty.getAt] at h
  cases hb:Nat.beq off 0
  ·rw [hb] at h;cases h
  rw [hb] at h
  obtain rfl:=Nat.eq_of_beq_eq_true hb
  obtain ⟨e,rfl⟩:=castD_sl h
  subst e
  have hr':=hr
  simp only [Ty.own,Ty.Rep] at hr
  obtain ⟨A,c,rfl,_⟩:=hr
  refine⟨_,G,Reg.none,rfl,fun _ _ h=>h,fun _ _ h=>h.elim,hr',fun _ _ _ h=>h.elim,fun w2 Z2 X y _ h2 _ x' hs=>?_⟩
  simp only [Ty.setAt] at hs
  obtain ⟨e,rfl⟩:=castD_sl (show castD (.sl u) (.sl u) y=some x' from hs)
  exact Ty.Rep.mono (fun _ _ h=>h) _ _ (fun _ _ h=>.inl h) h2
 | .st ts,off,t,x,z,us,G,hr,h=>by
  have hfl:ts.flat=false:=by
   cases hf:ts.flat
   ·rfl
   ·exact(Ty.getAt_flat (.st ts) (by simpa only [Ty.flat] using hf) h).elim
  simp only [Ty.own,hfl,Bool.false_eq_true,if_false,Ty.Rep,Md.parts] at hr
  simp only [Ty.getAt] at h
  obtain ⟨v,H1,G1,h1,h2,h3,h4,h5,h6⟩:=Tys.lens ts off t hr h
  refine⟨v,H1,G1,h1,h2,h3,h4,h5,fun w2 Z2 X y k1 k2 k3 x' hs=>?_⟩
  simp only [Ty.setAt] at hs
  simp only [Ty.own,hfl,Bool.false_eq_true,if_false,Ty.Rep,Md.parts]
  exact h6 w2 Z2 X y k1 k2 k3 x' hs
theorem Tys.lens:∀(ts:Tys) (off:Nat) (t:Ty) {x:ts.D} {z:List t.D} {us:List Value} {G:Reg},ts.Rep w Z ts.own x us G→ts.getAt off t x=some z →
  ∃v H1 G1,us[off]?=some v∧Reg.sub H1 G∧Reg.sub G1 G∧Lens w Z t z v H1 G1 (fun w2 Z2 y U=>∀x',ts.setAt off t y x=some x'→ts.Rep w2 Z2 ts.own x' us U)
 | .nil,_,_,_,_,_,_,_,h=>by simp [Tys.getAt] at h
 | .cons T ts,off,t,x,z,us,G,hr,h=>by
  simp only [Tys.own,Tys.Rep,Mds.hd,Mds.tl] at hr
  obtain ⟨u1,u2,Ga,Gb,rfl,r1,r2,hap,ha,hb⟩:=hr
  have hl:=(Ty.Rep.len T _ r1).1
  simp only [Tys.getAt] at h
  cases hlt:Nat.blt off T.size
  ·rw [hlt] at h
   have hge:T.size≤off:=by
    rcases Nat.lt_or_ge off T.size with h1 | h1
    ·have:Nat.blt off T.size=true:=Nat.ble_eq_true_of_le h1
     rw [this] at hlt;cases hlt
    ·exact h1
   obtain ⟨v,H1,G1,h1,h2,h3,h4,h5,h6⟩:=Tys.lens ts (off-T.size) t r2 h
   refine⟨v,H1,Ga.or G1,?_,fun b o x=>hb b o (h2 b o x),?_,h4,?_,fun w2 Z2 X y k1 k2 k3 x' hs=>?_⟩
   ·rw [List.getElem?_append_right (by omega),hl];exact h1
   ·rintro b o (y | y)
    ·exact ha b o y
    ·exact hb b o (h3 b o y)
   ·rintro b o y (q | q)
    ·exact hap b o q (h2 b o y)
    ·exact h5 b o y q
   ·simp only [Tys.setAt,hlt,cond_false] at hs
    obtain ⟨z',hz,hs⟩:=obi hs
    obtain rfl:=osj hs
    simp only [Tys.own,Tys.Rep,Mds.hd,Mds.tl]
    refine⟨u1,u2,Ga,X.or G1,rfl,own_same T (k1.mono fun _ _ h=>.inl h) r1,h6 w2 Z2 X y (k1.mono fun _ _ h=>.inr h) k2 (fun b o p q=>k3 b o p (.inr q)) z' hz,?_,fun _ _ h=>.inr (.inl h),?_⟩
    ·rintro b o p (q | q)
     ·exact k3 b o q (.inl p)
     ·exact hap b o p (h3 b o q)
    ·rintro b o (q | q)
     ·exact .inl q
     ·exact .inr (.inr q)
  ·rw [hlt] at h
   have hge:off<T.size:=Nat.le_of_ble_eq_true hlt
   obtain ⟨v,H1,G1,h1,h2,h3,h4,h5,h6⟩:=Ty.lens T off t r1 h
   refine⟨v,H1,G1.or Gb,?_,fun b o x=>ha b o (h2 b o x),?_,h4,?_,fun w2 Z2 X y k1 k2 k3 x' hs=>?_⟩
   ·rw [List.getElem?_append_left (by omega)];exact h1
   ·rintro b o (y | y)
    ·exact ha b o (h3 b o y)
    ·exact hb b o y
   ·rintro b o y (q | q)
    ·exact h5 b o y q
    ·exact hap b o (h2 b o y) q
   ·simp only [Tys.setAt,hlt,cond_true] at hs
    obtain ⟨z',hz,hs⟩:=obi hs
    obtain rfl:=osj hs
    simp only [Tys.own,Tys.Rep,Mds.hd,Mds.tl]
    refine⟨u1,u2,X.or G1,Gb,rfl,h6 w2 Z2 X y (k1.mono fun _ _ h=>.inl h) k2 (fun b o p q=>k3 b o p (.inl q)) z' hz,owns_same ts (k1.mono fun _ _ h=>.inr h) r2,?_,?_,fun _ _ h=>.inr (.inr h)⟩
    ·rintro b o (p | p) q
     ·exact k3 b o p (.inr q)
     ·exact hap b o (h3 b o p) q
    ·rintro b o (q | q)
     ·exact .inl q
     ·exact .inr (.inl q)
end
theorem OwnRow.lens{T:Ty}{ys:List T.D}{a:Addr}{c:Nat}{F:Reg}{i off:Nat}{t:Ty}{z:List t.D}(h:OwnRow w (T.Rep w Z T.own) T.size ys a c F)(hi:i<ys.length)(hg:T.getAt off t (gd T ys i)=some z) :
  ∃v H1,w.cell? (at_ a.block (a.off+i*T.size+off))=some v∧(Ty.sl t).Rep w Z (.O t.own) z [v] H1∧Reg.sub H1 F ∧
   ∀(w2:World) (Z2 X:Reg) (y:List t.D) (x':T.D),Same w w2 (Reg.diff F H1)→(Ty.sl t).Rep w2 Z2 (.O t.own) y [v] X→Reg.apart X (Reg.diff F H1)→T.setAt off t y (gd T ys i)=some x' →
    OwnRow w2 (T.Rep w2 Z2 T.own) T.size (ys.set i x') a c (X.or (Reg.diff F H1)):=by
 rw [gd_eq hi] at hg ⊢
 obtain ⟨G,g1,g2,g3⟩:=h.row
 obtain ⟨Ga,Gi,Gb,vs,r1,ri,hvl,hat,r2,a1,a2,a3,s1,s2,s3⟩:=g1.split3 i hi
 obtain ⟨v,H1,G1,hv,k1,k2,k3,k4,k5⟩:=Ty.lens T off t ri hg
 have hH1G:Reg.sub H1 G:=fun b o x=>s2 b o (k1 b o x)
 have hle:ys.length*T.size≤c*T.size:=Nat.mul_le_mul_right _ h.cap
 have hi1:(i+1)*T.size≤ys.length*T.size:=Nat.mul_le_mul_right _ hi
 rw [Nat.add_one_mul] at hi1
 refine⟨v,H1,?_,k3,fun b o x=>g3 b o (hH1G b o x),fun w2 Z2 X y x' hs hr hap hset=>?_⟩
 ·have:=hat off v hv
  exact this
 have hdiff:∀ {A:Reg},Reg.sub A G→Reg.apart A H1→Reg.sub A (Reg.diff F H1):=fun hA hp b o x=>⟨g3 b o (hA b o x),fun y=>hp b o x y⟩
 have dA:Reg.sub Ga (Reg.diff F H1):=hdiff s1 fun b o x y=>a1 b o x (k1 b o y)
 have dB:Reg.sub Gb (Reg.diff F H1):=hdiff s3 fun b o x y=>a3 b o (k1 b o y) x
 have d1:Reg.sub G1 (Reg.diff F H1):=hdiff (fun b o x=>s2 b o (k2 b o x)) fun b o x y=>k4 b o y x
 have dC:∀j,j<c*T.size→Reg.diff F H1 a.block (a.off+j):=fun j hj=>⟨h.inF j hj,fun y=>g2 j hj (hH1G _ _ y)⟩
 have hcell:∀j,j<c*T.size→w2.cell? (at_ a.block (a.off+j))=w.cell? (at_ a.block (a.off+j)):=fun j hj=>(hs _ _ (dC j hj)).1
 have ei:=k5 w2 Z2 X y (hs.mono d1) hr (fun b o p q=>hap b o p (d1 b o q)) x' hset
 refine⟨h.spot,by simpa using h.cap,fun j hj=>hs.wrR (dC j hj) (h.wr j hj),fun j hj=>.inr (dC j hj),Ga.or ((X.or G1).or Gb),?_,?_,?_⟩
 ·refine Row.join3 i hi (r1.imp (fun y us G' hG hr=>own_same T (hs.mono fun b o p=>dA b o (hG b o p)) hr) fun j hj=>hcell j ?_) ei hvl (hat.of_eq fun j hj=>?_) (r2.imp (fun y us G' hG hr=>own_same T (hs.mono fun b o p=>dB b o (hG b o p)) hr) fun j hj=>?_) ?_ a2 ?_
  ·simp only [List.length_take] at hj
   have:min i ys.length*T.size≤ys.length*T.size:=Nat.mul_le_mul_right _ (Nat.min_le_right _ _)
   omega
  ·have:=hcell (i*T.size+j) (by omega)
   rwa [← Nat.add_assoc] at this
  ·simp only [List.length_drop] at hj
   have e1:(ys.length-(i+1))*T.size=ys.length*T.size-(i*T.size+T.size):=by rw [Nat.sub_mul,Nat.add_one_mul]
   rw [e1] at hj
   have:=hcell ((i+1)*T.size+j) (by rw [Nat.add_one_mul];omega)
   rwa [← Nat.add_assoc] at this
  ·rintro b o p (q | q)
   ·exact hap b o q (dA b o p)
   ·exact a1 b o p (k2 b o q)
  ·rintro b o (p | p) q
   ·exact hap b o p (dB b o q)
   ·exact a3 b o (k2 b o p) q
 ·rintro j hj (p | (p | p) | p)
  ·exact g2 j hj (s1 _ _ p)
  ·exact hap _ _ p (dC j hj)
  ·exact g2 j hj (s2 _ _ (k2 _ _ p))
  ·exact g2 j hj (s3 _ _ p)
 ·rintro b o (p | (p | p) | p)
  ·exact .inr (dA b o p)
  ·exact .inl p
  ·exact .inr (d1 b o p)
  ·exact .inr (dB b o p)
end
end Go.LM
