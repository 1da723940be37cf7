/- Each operation of the model is what the interpreter says. Conditions: each theorem's own hypotheses. -/
import Derived.Test.YtlkbjdmfbadhaaaGreatDoorTLma
import Derived.Laws.BytesString
import Derived.Laws.Tables
import Derived.Laws.Append
set_option linter.unusedVariables false
set_option linter.unusedSimpArgs false
namespace Go.LM
section
variable{P:Program}{Q:Exit→Act→World→Prop}
variable{w0:World}{F0 Z0:ag}{n:cB}{s aq:al}{a b6:Act}{w w':World}{ι bh:Nat→bC}{Z Z':ag}
def cQ(w0:World)(F0 Z0:ag)(n:cB)(s:al)(a:Act)(w:World):Prop:=∃ ι Z,Inv w0 F0 Z0 n s a w ι Z
theorem ab9(v:Value):aT w Z s ι (I6 v) v:=by
 unfold I6
 split <;> simp only [aT,cc]
 exact⟨_,rfl,rfl⟩
theorem eR(h:Inv w0 F0 Z0 n s a w ι Z)(x:Operand):aT w Z s ι (bR s x) (a.eval x):=by
 cases x with
 | tmp t=>exact h.tmps t
 | const v=>exact ab9 v
 | func f=>simp only [bR,Act.eval,aT];exact⟨[],[],rfl,by simp only [a8],by simp only [a8]⟩
 | global g=>simp only [bR,aT]
theorem JF{E:Env}{t:Nat}{x y:a'}{v:Value}(h:typed E t x=some y)(hv:aT w Z s ι x v):aT w Z s ι y v:=by
 cases x <;> simp only [typed] at h <;> try (obtain rfl:=aX h;exact hv)
 ·simp at h
 ·simp at h
 ·cases ht:E.ty t with
  | none=>rw [ht] at h;simp at h
  | some T =>
   rw [ht] at h
   cases T <;> simp at h
   subst h
   simp only [aT] at hv ⊢
   exact hv
theorem fU{α : Type}{nS:Sem α}{f : α → Next}{v : α}(h:nS.run P w=.ok v w'):(do pure (f (← nS)):Sem Next).run P w=.ok (f v) w':=by
 rw [run_bind,h];rfl
theorem lX{o:Oper}{v:Value}{x:a'}{s1:al}(hr:(execOp a.eval o).run P w=.ok (.value v) w')(h:Inv w0 F0 Z0 n s1 a w' ι Z)(hv:aT w' Z s1 ι x v)
  (ah:∀k,o.dst=some k→k<n):o.wp P a w (fun b6 w'=>cQ w0 F0 Z0 n (s1.dst o.dst x) b6 w') Q:=by
 unfold Oper.wp
 rw [hr,Oper.upon_value]
 exact⟨ι,Z,h.dst hv ah⟩
theorem wp_skip{o:Oper}{s1:al}(hr:(execOp a.eval o).run P w=.ok .skip w')(h:Inv w0 F0 Z0 n s1 a w' ι Z)
  (ah:∀k,o.dst=some k→k<n):o.wp P a w (fun b6 w'=>cQ w0 F0 Z0 n (s1.dst o.dst .aw) b6 w') Q:=by
 unfold Oper.wp
 rw [hr,Oper.upon_skip]
 exact⟨ι,Z,h.dst (by simp only [aT]) ah⟩
def Pure(P:Program)(o:Oper)(a:Act)(w:World)(R:Act→World→Prop):Prop:=∃v,(∀w',(execOp a.eval o).run P w'=.ok (.value v) w')∧R (a.put o.dst v) w
theorem Pure.wp{o:Oper}{R:Act→World→Prop}(h:Pure P o a w R):o.wp P a w R Q:=by
 obtain ⟨v,h1,h2⟩:=h
 unfold Oper.wp
 rw [h1 w,Oper.upon_value]
 exact h2
theorem dx{o:Oper}{v:Value}{x:a'}{s1:al}(hr:∀w',(execOp a.eval o).run P w'=.ok (.value v) w')(h:Inv w0 F0 Z0 n s1 a w ι Z)(hv:aT w Z s1 ι x v)
  (ah:∀k,o.dst=some k→k<n):Pure P o a w (cQ w0 F0 Z0 n (s1.dst o.dst x)) :=
 ⟨v,hr,ι,Z,h.dst hv ah⟩
structure gL(P:Program)(E:Env):Prop where
 ty:∀id T,E.ty id=some T→T.ok P id
 ptr:∀id,E.tx id=true→∃e,P.underlying id=some (.pointer e)
variable{E:Env}{o:Oper}{bs : Type}{K:al→Option bs}{r : bs}{id:Nat}
theorem BS{x:Operand}(h:Inv w0 F0 Z0 n s a w ι Z)(ah:∀k,o.dst=some k→k<n)(ho:o.op=.move x∨o.op=.assign x)(hk:cL E id o s K=some r) :
  ∃aq,K aq=some r∧Pure P o a w (cQ w0 F0 Z0 n aq):=by
 have eN:(match typed E o.type (bR s x) with | some v=>K (s.dst o.dst v) | none=>none)=some r:=by
  rcases ho with ho | ho <;>(unfold cL at hk;rw [ho] at hk;exact hk)
 cases ht:typed E o.type (bR s x) with
 | none=>rw [ht] at eN;simp at eN
 | some v =>
  rw [ht] at eN
  refine⟨_,eN,dx (v:=a.eval x) (fun w'=>?_) h (JF ht (eR h x)) ah⟩
  rcases ho with ho | ho <;>(unfold execOp;rw [ho];rfl)
theorem RM{c x y:Operand}(h:Inv w0 F0 Z0 n s a w ι Z)(ah:∀k,o.dst=some k→k<n)(ho:o.op=.pick c x y)(hk:cL E id o s K=some r) :
  ∃aq,K aq=some r∧Pure P o a w (cQ w0 F0 Z0 n aq):=by
 unfold cL at hk
 rw [ho] at hk
 simp only at hk
 have hc:=eR h c
 have hx:=eR h x
 have a_:=eR h y
 have hrun:∀t,a.eval c=.bool t→∀w',(execOp a.eval o).run P w'=.ok (.value (if t then a.eval x else a.eval y)) w':=by
  intro t ht w'
  unfold execOp;rw [ho]
  simp only [run_bind,asBool,ht,run_pure]
 cases hcv:bR s c with
 | aU jW =>
  rw [hcv] at hk hc
  cases jW with
  | bool t =>
   simp only [aT,cc] at hc
   have hr:=hrun t hc
   cases t with
   | true =>
    cases cF:typed E o.type (bR s x) with
    | none=>rw [cF] at hk;cases gl:typed E o.type (bR s y) <;> rw [gl] at hk <;> simp at hk
    | some v =>
     rw [cF] at hk
     have:K (s.dst o.dst v)=some r:=by cases gl:typed E o.type (bR s y) <;> rw [gl] at hk <;> exact hk
     exact⟨_,this,dx hr h (JF cF hx) ah⟩
   | false =>
    cases gl:typed E o.type (bR s y) with
    | none=>rw [gl] at hk;cases cF:typed E o.type (bR s x) <;> rw [cF] at hk <;> simp at hk
    | some v =>
     rw [gl] at hk
     have:K (s.dst o.dst v)=some r:=by cases cF:typed E o.type (bR s x) <;> rw [cF] at hk <;> exact hk
     exact⟨_,this,dx hr h (JF gl a_) ah⟩
  | _=>simp at hk
 | _=>rw [hcv] at hk;simp at hk
theorem qc{i:Nat}{eo:cj}(h:mkObj s i eo=some aq):s.o i=.none∧aq=s.bL i eo:=by
 unfold mkObj at h
 cases ho:s.o i <;> rw [ho] at h <;> simp at h
 exact⟨rfl,h.symm⟩
theorem ab_{t:Nat}(bX:gL P E)(h:Inv w0 F0 Z0 n s a w ι Z)(ah:∀k,o.dst=some k→k<n)(ho:o.op=.alloc t)(hk:cL E id o s K=some r) :
  ∃aq,K aq=some r∧o.wp P a w (cQ w0 F0 Z0 n aq) Q:=by
 unfold cL at hk
 rw [ho] at hk
 simp only at hk
 cases ht:E.ty t with
 | none=>rw [ht] at hk;simp at hk
 | some T =>
  rw [ht] at hk
  simp only at hk
  cases hm:mkObj s id (.var 0 T.jd) with
  | none=>rw [hm] at hk;simp at hk
  | some s1 =>
   rw [hm] at hk
   obtain ⟨cd,rfl⟩:=qc hm
   have cw:=bX.ty t T ht
   have hz:bF w Z s ι T.jd (dD T T.cI).cells.toList:=by
    rw [JE (aa.lh T) ((rM (w:=w) (Z:=Z) (s:=s) (ι := ι) T).dS)]
    exact rM T
   have hn:=h.newVar cd hz t
   refine⟨_,hk,lX (v:=.pointer (some (at_ w.heap.size 0))) (w' := { w with heap:=w.heap.push (.cells (dD T T.cI).cells t) }) ?_ hn ?_ ah⟩
   ·unfold execOp;rw [ho]
    refine fU ?_
    simp only [Instr.alloc,run_bind,BR cw,RL,run_pure]
   ·simp only [aT]
    refine⟨by show bP s.o id _ id≠_;rw [cz];simp,_,rfl,rfl,?_⟩
    show match (bP s.o id _ id).core with | .var _ _=>_ | .row .. => _ | _=>_
    rw [cz]
    exact⟨rfl,_,by rw [cz],by simp [at_]⟩
theorem ab'{t:Nat}{x:Operand}(bX:gL P E)(h:Inv w0 F0 Z0 n s a w ι Z)(ah:∀k,o.dst=some k→k<n)(ho:o.op=.box t x)(hk:cL E id o s K=some r) :
  ∃aq,K aq=some r∧o.wp P a w (cQ w0 F0 Z0 n aq) Q:=by
 unfold cL at hk
 rw [ho] at hk
 simp only at hk
 cases ht:E.ty t with
 | none=>rw [ht] at hk;simp at hk
 | some T =>
  rw [ht] at hk
  simp only at hk
  cases hc:iy T (bR s x) with
  | none=>rw [hc] at hk;simp at hk
  | some cs =>
   rw [hc] at hk
   simp only at hk
   cases hb:Nat.beq cs.length T.size
   ·rw [hb] at hk;simp at hk
   rw [hb] at hk
   simp only [cond_true] at hk
   cases hm:mkObj s id (.var 0 cs) with
   | none=>rw [hm] at hk;simp at hk
   | some s1 =>
    rw [hm] at hk
    obtain ⟨cd,rfl⟩:=qc hm
    have hn:=h.newVar cd (rL hc (eR h x)) t
    refine⟨_,hk,lX (v:=.pointer (some (at_ w.heap.size 0))) (w' := { w with heap:=w.heap.push (.cells (a.eval x).cells t) }) ?_ hn ?_ ah⟩
    ·unfold execOp;rw [ho]
     refine fU ?_
     simp only [Instr.box,run_bind,RL,run_pure]
    ·simp only [aT]
     refine⟨by show bP s.o id _ id≠_;rw [cz];simp,_,rfl,rfl,?_⟩
     show match (bP s.o id _ id).core with | .var _ _=>_ | .row .. => _ | _=>_
     rw [cz]
     exact⟨rfl,_,by rw [cz],by simp [at_]⟩
theorem aca{t:Nat}{x:Operand}(bX:gL P E)(h:Inv w0 F0 Z0 n s a w ι Z)(ah:∀k,o.dst=some k→k<n)(ho:o.op=.load t x)(hk:cL E id o s K=some r) :
  ∃aq,K aq=some r∧o.wp P a w (cQ w0 F0 Z0 n aq) Q:=by
 unfold cL at hk
 rw [ho] at hk
 simp only at hk
 have hx:=eR h x
 have hrun:∀ {T:aa} {b i:Nat} {vs:List Value},E.ty t=some T→a.eval x=.pointer (some (at_ b i))→b2 w b i vs→vs.length=T.size →
   (execOp a.eval o).run P w=.ok (.value (dD T vs)) w:=by
  intro T b i vs ht he hc hl
  unfold execOp;rw [ho]
  refine fU ?_
  simp only [Instr.loadAt,Instr.sureAddr,he,run_bind,run_pure,JB (bX.ty t T ht) hc hl]
 cases ht:E.ty t with
 | none=>rw [ht] at hk;simp at hk
 | some T =>
  rw [ht] at hk
  cases cF:bR s x with
  | ptr p =>
   rw [cF] at hk hx
   simp only at hk
   cases cX:(lS s T.size p).bind (jT T) with
   | none=>rw [cX] at hk;simp at hk
   | some v =>
    rw [cX] at hk
    obtain ⟨cs,h1,h2⟩:=bj cX
    simp only [aT] at hx
    obtain ⟨_,A,he,av⟩:=hx
    obtain ⟨b,i,vs,rfl,hc,cm,hl⟩:=yR h h1 av
    exact⟨_,hk,lX (hrun ht he cm hl) h (oV h2 hc) ah⟩
  | c3 dp cs off =>
   rw [cF] at hk hx
   simp only at hk
   cases cX:(takeN off T.size cs).bind (jT T) with
   | none=>rw [cX] at hk;simp at hk
   | some v =>
    rw [cX] at hk
    simp only at hk
    cases dq:alive s dp
    ·rw [dq] at hk;simp at hk
    rw [dq] at hk
    obtain ⟨ds,h1,h2⟩:=bj cX
    obtain ⟨h3,rfl⟩:=oS h1
    simp only [aT] at hx
    obtain ⟨_,b,i,vs,he,hx⟩:=hx
    obtain ⟨hc,cm,_⟩:=hx dq
    have hl:=hc.len
    exact⟨_,hk,lX (hrun ht he (cm.part off T.size) (by simp;omega)) h (oV h2 ((hc.drop _).take _)) ah⟩
  | _=>rw [cF] at hk;simp at hk
theorem Inv.acb(h:Inv w0 F0 Z0 n s a w ι Z){id:Nat}(b8:(s.o id).live)(hx:Ext w w' (ι id).F):Inv w0 F0 Z0 n (s.bL id .dead) a w' ι Z:=by
 have hm:eA w Z s ι w' Z (s.bL id .dead) ι := by
  refine⟨fun j=>?_,fun _ _ h=>h,b4.iE hx h.rI ?_⟩
  ·show iD (s.o j) (ι j) (bP s.o id .dead j) (ι j)
   by_cases hj:id=j
   ·subst hj;rw [cz];exact .dead _ _ _
   ·rw [cK hj];exact .stay _ _
  ·rintro b o (hz | ⟨dO,gf,p8,_,hf⟩) ib
   ·exact h.cW id b8 b o ib hz
   ·have hne:dO≠id:=by
     rintro rfl
     have:bP s.o dO .dead dO=s.o dO:=p8
     rw [cz] at this
     rw [← this] at b8
     exact b8
    exact h.apart dO id gf b8 hne b o hf ib
 have rK:∀ {j},((s.bL id .dead).o j).live→id≠j∧(s.o j).live:=fun {j} hl=>by
  have hl:(bP s.o id .dead j).live:=hl
  by_cases hj:id=j
  ·subst hj;rw [cz] at hl;exact hl.elim
  ·rw [cK hj] at hl;exact⟨hj,hl⟩
 refine h.next hm hx (fun b o hf=>(h.own id b8 b o hf).1) (fun _ _ h=>.inl h) ?_ ?_ (fun k=>(h.tmps k).move hm) h.size h.defers
 ·intro j hl hne
  exact absurd ⟨cK (rK hl).1,rfl⟩ hne
 ·intro j hl
  exact h.cW j (rK hl).2
theorem acd{t:Nat}{x y:Operand}(bX:gL P E)(h:Inv w0 F0 Z0 n s a w ι Z)(ah:∀k,o.dst=some k→k<n)(ho:o.op=.store t x y)(hk:cL E id o s K=some r) :
  ∃aq,K aq=some r∧o.wp P a w (cQ w0 F0 Z0 n aq) Q:=by
 unfold cL at hk
 rw [ho] at hk
 simp only at hk
 have hx:=eR h x
 have a_:=eR h y
 cases ht:E.ty t with
 | none=>rw [ht] at hk;simp at hk
 | some T =>
  rw [ht] at hk
  cases cF:bR s x with
  | ptr p =>
   rw [cF] at hk hx
   simp only at hk
   cases hc:iy T (bR s y) with
   | none =>
    rw [hc] at hk
    simp only at hk
    cases gl:bR s y <;> rw [gl] at hk <;> try (simp at hk;done)
    rename_i u
    cases bU:s.o p.id <;> rw [bU] at hk <;> try (simp at hk;done)
    rename_i ver old
    cases eS:p.fb with
    | some i=>rw [eS] at hk;simp at hk
    | none =>
     rw [eS] at hk
     simp only at hk
     cases hb:(aa.beq u T&&Nat.beq p.off 0&&Nat.ble T.size old.length)
     ·rw [hb] at hk;simp at hk
     rw [hb] at hk
     simp only [cond_true] at hk
     simp only [Bool.and_eq_true] at hb
     obtain ⟨⟨hb1,hb2⟩,hb3⟩:=hb
     have:=aa.eq_of_beq _ _ hb1
     subst this
     have hb2:=Nat.eq_of_beq_eq_true hb2
     have hb3:=Nat.le_of_ble_eq_true hb3
     rw [gl] at a_
     simp only [aT] at hx a_
     obtain ⟨_,A,he,av⟩:=hx
     obtain ⟨tL,hw1⟩:=a_
     have b8:(s.o p.id).live:=by rw [bU];trivial
     have cU:=h.fP p.id
     rw [bU] at cU
     obtain ⟨a0,us,dV,hsp,hcu,cm,hwr⟩:=cU
     obtain ⟨hs,av⟩:=av
     rw [bU] at av
     obtain ⟨_,a1,RN,hA⟩:=av
     rw [dV] at RN
     obtain rfl:=aX RN
     rw [hb2] at hA
     subst hA
     have hx2:Ext w (setCells w a0.block (a0.off+0) (a.eval y).cells.toList) (ι p.id).F:=nJ _ _ _ _ fun i hi=>by
      have:=(hwr i (by rw [tL] at hi;omega)).2;simpa using this
     refine⟨_,hk,wp_skip (w':=setCells w a0.block (a0.off+0) (a.eval y).cells.toList) ?_ (h.acb b8 hx2) ah⟩
     unfold execOp;rw [ho]
     have:=JD (P:=P) (w:=w) (bX.ty t _ ht) (b:=a0.block) (o:=a0.off+0) (v:=a.eval y) (by rw [← Array.length_toList,tL]) hw1 (fun j hj=>by
      have:=(hwr j (by rw [← Array.length_toList,tL] at hj;omega)).1;simpa using this)
     simp only [Instr.storeAt,Instr.sureAddr,he,run_bind,run_pure,this]
   | some cs =>
    rw [hc] at hk
    simp only at hk
    cases hb:Nat.beq cs.length T.size
    ·rw [hb] at hk;simp at hk
    rw [hb] at hk
    simp only [cond_true] at hk
    cases lY:BH s p cs with
    | none=>rw [lY] at hk;simp at hk
    | some s1 =>
     rw [lY] at hk
     have hb:=Nat.eq_of_beq_eq_true hb
     have tM:=rL hc a_
     simp only [aT] at hx
     obtain ⟨_,A,he,av⟩:=hx
     obtain ⟨b,i,rfl,hw,bh,Z',hi⟩:=ab3 h lY av tM
     have hl:=tM.len
     refine⟨_,hk,wp_skip (w':=setCells w b i (a.eval y).cells.toList) ?_ hi ah⟩
     unfold execOp;rw [ho]
     have:=JD (P:=P) (w:=w) (bX.ty t T ht) (b:=b) (o:=i) (v:=a.eval y) (by simp at hl;omega) tM.dS (fun j hj=>hw j (by simpa using hj))
     simp only [Instr.storeAt,Instr.sureAddr,he,run_bind,run_pure,this]
  | _=>rw [cF] at hk;simp at hk
end
end Go.LM
namespace Go.LM
section
variable{P:Program}{Q:Exit→Act→World→Prop}
variable{w0:World}{F0 Z0:ag}{n:cB}{s aq:al}{a b6:Act}{w w':World}{ι bh:Nat→bC}{Z Z':ag}
variable{E:Env}{o:Oper}{bs : Type}{K:al→Option bs}{r : bs}{id:Nat}
theorem yS{m:Nat}{i:Int}{k:Nat}(h:aL m i=some k):0≤i∧i<(m:Int)∧k=i.toNat∧k<m:=by
 unfold aL at h
 split at h
 ·rename_i hc
  have:=aX h
  exact⟨hc.1,hc.2,this.symm,by omega⟩
 ·simp at h
theorem ace{m:Nat}{lo hi:Int}{q:Nat×Nat}(h:dN m lo hi=some q):0≤lo∧lo≤hi∧hi≤(m:Int)∧q=(lo.toNat,hi.toNat):=by
 unfold dN at h
 split at h
 ·rename_i hc
  exact⟨hc.1,hc.2.1,hc.2.2,(aX h).symm⟩
 ·simp at h
theorem rN{x:a'}{i:Int}{v:Value}(h:kn x=some i)(hv:aT w Z s ι x v):∃k,v=.int k i:=by
 cases x with
 | aU c =>
  cases c <;> simp [kn] at h
  subst h
  simp only [aT,cc] at hv
  exact⟨_,hv⟩
 | _=>simp [kn] at h
theorem RO{x:Operand}(h:Inv w0 F0 Z0 n s a w ι Z)(ah:∀k,o.dst=some k→k<n)(ho:o.op=.nilCheck x)(hk:cL E id o s K=some r) :
  ∃aq,K aq=some r∧Pure P o a w (cQ w0 F0 Z0 n aq):=by
 unfold cL at hk
 rw [ho] at hk
 simp only at hk
 have hx:=eR h x
 cases cF:bR s x with
 | ptr p =>
  rw [cF] at hk hx
  refine⟨_,hk,dx (v:=a.eval x) (fun w'=>?_) h hx ah⟩
  simp only [aT] at hx
  obtain ⟨_,A,he,_⟩:=hx
  unfold execOp;rw [ho];simp only [he];rfl
 | c3 dp cs off =>
  rw [cF] at hk hx
  refine⟨_,hk,dx (v:=a.eval x) (fun w'=>?_) h hx ah⟩
  simp only [aT] at hx
  obtain ⟨_,b,i,vs,he,_⟩:=hx
  unfold execOp;rw [ho];simp only [he];rfl
 | may b dp cs =>
  rw [cF] at hk hx
  cases b
  ·cases hk
  refine⟨_,hk,dx (v:=a.eval x) (fun w'=>?_) h ?_ ah⟩
  ·simp only [aT] at hx
   rcases hx with⟨hx,_⟩ | ⟨_,_,b,i,vs,he,_⟩
   ·cases hx
   unfold execOp;rw [ho];simp only [he];rfl
  ·simp only [aT] at hx ⊢
   rcases hx with⟨hx,_⟩ | ⟨_,hx⟩
   ·cases hx
   ·exact hx
 | fn f l m =>
  rw [cF] at hk hx
  refine⟨_,hk,dx (v:=a.eval x) (fun w'=>?_) h hx ah⟩
  simp only [aT] at hx
  obtain ⟨us,vs,he,_⟩:=hx
  unfold execOp;rw [ho];simp only [he];rfl
 | opt i q =>
  rw [cF] at hk hx
  simp only at hk
  obtain ⟨k,h1,hk⟩:=bj hk
  obtain ⟨h2,h3,rfl,h4⟩:=yS h1
  simp only [aT] at hx
  obtain ⟨mP,hx⟩:=hx
  rcases hx with⟨hx,_⟩ | ⟨_,A,he,av⟩
  ·omega
  refine⟨_,hk,dx (v:=a.eval x) (fun w'=>?_) h ?_ ah⟩
  ·unfold execOp;rw [ho];simp only [he];rfl
  ·simp only [aT];exact⟨mP,A,he,av⟩
 | _=>rw [cF] at hk;simp at hk
theorem az.BT{P:Program} : ∀ {aj:az} {cn:List Field} {base i k:Nat} {u:aa},aj.okF P cn base→aj.off i=some (k,u) →
  ∃f,cn[i]?=some f∧f.offset=base+k∧u.ok P f.type
 | .nil,_,_,_,_,_,_,h=>by simp [az.off] at h
 | .cons t aj,cn,base,0,k,u,ho,h=>by
  simp only [az.okF] at ho
  obtain ⟨f,lg,rfl,h1,h2,h3⟩:=ho
  simp only [az.off,Option.some.injEq,Prod.mk.injEq] at h
  obtain ⟨rfl,rfl⟩:=h
  exact⟨f,rfl,by simpa using h1,h2⟩
 | .cons t aj,cn,base,i+1,k,u,ho,h=>by
  simp only [az.okF] at ho
  obtain ⟨f,lg,rfl,h1,h2,h3⟩:=ho
  simp only [az.off] at h
  obtain ⟨q,h4,a7⟩:=bj h
  simp only [Option.some.injEq,Prod.mk.injEq] at a7
  obtain ⟨rfl,rfl⟩:=a7
  obtain ⟨mK,k1,k2,k3⟩:=az.BT h3 h4
  exact⟨mK,by simpa using k1,by omega,k3⟩
theorem JG{aj:az}{id:TypeId}(h:(aa.st aj).ok P id):∃cn,P.underlying id=some (.struct cn)∧aj.okF P cn.toList 0:=by
 simp only [aa.ok] at h;exact h.2
theorem lj{t:aa}{id:TypeId}(h:(aa.sl t).ok P id):∃e,P.underlying id=some (.slice e)∧t.ok P e:=by
 simp only [aa.ok] at h;exact h.2
theorem RP{f:Field}{u:aa}{b i:Nat}(hu:u.ok P f.type)(hz:u.size≠0):(fieldPlace (at_ b i) f).run P w=.ok (at_ b (i+f.offset)) w:=by
 unfold fieldPlace
 rw [run_bind,run_sizeOf hu]
 simp only
 rw [if_neg hz,run_pure,p6]
theorem RQ{t:Nat}{x:Operand}{i:Nat}(bX:gL P E)(h:Inv w0 F0 Z0 n s a w ι Z)(ah:∀k,o.dst=some k→k<n)(ho:o.op=.fieldAddr t x i)(hk:cL E id o s K=some r) :
  ∃aq,K aq=some r∧Pure P o a w (cQ w0 F0 Z0 n aq):=by
 unfold cL at hk
 rw [ho] at hk
 simp only at hk
 have hx:=eR h x
 cases ht:E.ty t with
 | none=>rw [ht] at hk;simp at hk
 | some T =>
  rw [ht] at hk
  cases T with
  | st aj =>
   obtain ⟨cn,hu,kH⟩:=JG (bX.ty t _ ht)
   have hrun:∀ {k:Nat} {u:aa} {b j:Nat},aj.off i=some (k,u)→u.size≠0→a.eval x=.pointer (some (at_ b j))→∀ {w':World},
     (execOp a.eval o).run P w'=.ok (.value (.pointer (some (at_ b (j+k))))) w':=by
    intro k u b j fk hz he w'
    obtain ⟨f,h1,h2,h3⟩:=az.BT kH fk
    rw [Array.getElem?_toList] at h1
    unfold execOp;rw [ho]
    refine fU ?_
    simp only [Instr.fieldAt,run_bind,run_underlying hu,h1,Instr.sureAddr,he,run_pure,RP h3 hz,h2,Nat.zero_add]
   cases cF:bR s x with
   | ptr p =>
    rw [cF] at hk hx
    simp only at hk
    cases fk:aj.off i with
    | none=>rw [fk] at hk;simp at hk
    | some q =>
     obtain ⟨k,u⟩:=q
     rw [fk] at hk
     simp only at hk
     cases nU:Nat.beq u.size 0
     case true=>rw [nU] at hk;simp at hk
     rw [nU] at hk
     simp only [aT] at hx
     obtain ⟨mP,A,he,av⟩:=hx
     obtain ⟨b,j,sp⟩:=A
     obtain ⟨hsp,av⟩:=av
     simp only at hsp
     subst hsp
     refine⟨_,hk,dx (fun w'=>hrun fk (fun e=>by rw [e] at nU;simp at nU) he) h ?_ ah⟩
     simp only [aT]
     refine⟨mP,_,rfl,rfl,?_⟩
     cases bU:(s.o p.id).core with
     | var ver cs =>
      rw [bU] at av
      obtain ⟨h1,a0,h2,h3⟩:=av
      simp only [at_,Addr.mk.injEq] at h3
      exact⟨h1,a0,h2,by simp [at_,h3.1,h3.2.1];omega⟩
     | row cE em ver xs =>
      rw [bU] at av
      obtain ⟨q,h1,h2,a0,h3,h4⟩:=av
      simp only [at_,Addr.mk.injEq] at h4
      exact⟨q,h1,h2,a0,h3,by simp [at_,h4.1,h4.2.1];omega⟩
     | _=>trivial
   | c3 dp cs off =>
    rw [cF] at hk hx
    simp only at hk
    cases fk:aj.off i with
    | none=>rw [fk] at hk;simp at hk
    | some q =>
     obtain ⟨k,u⟩:=q
     rw [fk] at hk
     simp only at hk
     cases nU:Nat.beq u.size 0
     case true=>rw [nU] at hk;simp at hk
     rw [nU] at hk
     simp only [aT] at hx
     obtain ⟨mN,b,j,vs,he,hx⟩:=hx
     refine⟨_,hk,dx (fun w'=>hrun fk (fun e=>by rw [e] at nU;simp at nU) he) h ?_ ah⟩
     simp only [aT]
     exact⟨mN,b,j,vs,by rw [Nat.add_assoc],hx⟩
   | _=>rw [cF] at hk;simp at hk
  | _=>simp at hk
theorem JH{u:aa}{id:TypeId}{cs:List Value}{k:Nat}(hu:u.ok P id)(hk:k+u.size≤cs.length):(Go.part id cs.toArray k).run P w=.ok (dD u ((cs.drop k).take u.size)) w:=by
 unfold Go.part
 rw [run_bind,RK hu]
 simp only
 cases ha:u.agg
 ·have h1:=Jy ha
  simp only [Bool.false_eq_true,if_false]
  rw [h1] at hk ⊢
  have bY:k<cs.length:=by omega
  have:(cs.drop k).take 1=[cs[k]]:=by
   rw [List.drop_eq_getElem_cons bY,List.take_succ_cons,List.take_zero]
  rw [this,JA ha]
  simp [bY,run_pure]
 ·simp only [if_true]
  rw [run_bind,run_sizeOf hu,Jz ha]
  simp only [run_pure]
  congr 2
  apply Array.ext'
  simp [List.take_drop,Nat.add_comm]
theorem RR{t:Nat}{x:Operand}{i:Nat}(bX:gL P E)(h:Inv w0 F0 Z0 n s a w ι Z)(ah:∀k,o.dst=some k→k<n)(ho:o.op=.field t x i)(hk:cL E id o s K=some r) :
  ∃aq,K aq=some r∧Pure P o a w (cQ w0 F0 Z0 n aq):=by
 unfold cL at hk
 rw [ho] at hk
 simp only at hk
 have hx:=eR h x
 cases ht:E.ty t with
 | none=>rw [ht] at hk;simp at hk
 | some T =>
  rw [ht] at hk
  cases T with
  | st aj =>
   obtain ⟨cn,hu,kH⟩:=JG (bX.ty t _ ht)
   cases cF:bR s x with
   | h8 cs =>
    rw [cF] at hk hx
    simp only at hk
    cases fk:aj.off i with
    | none=>rw [fk] at hk;simp at hk
    | some q =>
     obtain ⟨k,u⟩:=q
     rw [fk] at hk
     simp only at hk
     cases hw:(takeN k u.size cs).bind (jT u) with
     | none=>rw [hw] at hk;simp at hk
     | some v =>
      rw [hw] at hk
      obtain ⟨ds,h1,h2⟩:=bj hw
      obtain ⟨h3,rfl⟩:=oS h1
      simp only [aT] at hx
      obtain ⟨vs,he,hc⟩:=hx
      obtain ⟨f,f1,f2,f3⟩:=az.BT kH fk
      rw [Array.getElem?_toList] at f1
      have hl:=hc.len
      refine⟨_,hk,dx (fun w'=>?_) h (oV h2 ((hc.drop k).take u.size)) ah⟩
      unfold execOp;rw [ho]
      refine fU ?_
      simp only [Instr.field,run_bind,run_underlying hu,f1,he,asAgg,run_pure]
      have:=JH (P:=P) (w:=w') f3 (cs:=vs) (k:=k) (by omega)
      rw [f2,Nat.zero_add]
      exact this
   | _=>rw [cF] at hk;simp at hk
  | _=>simp at hk
theorem RS{x:Operand}{i:Nat}(h:Inv w0 F0 Z0 n s a w ι Z)(ah:∀k,o.dst=some k→k<n)(ho:o.op=.extract x i)(hk:cL E id o s K=some r) :
  ∃aq,K aq=some r∧Pure P o a w (cQ w0 F0 Z0 n aq):=by
 unfold cL at hk
 rw [ho] at hk
 simp only at hk
 have hx:=eR h x
 cases cF:bR s x with
 | oK l =>
  rw [cF] at hk hx
  simp only at hk
  cases hi:l[i]? with
  | none=>rw [hi] at hk;simp at hk
  | some v =>
   rw [hi] at hk
   simp only [aT] at hx
   obtain ⟨vs,he,hl⟩:=hx
   have:∀(l:List a') (vs:List Value) (i:Nat),a8 w Z s ι l vs→l[i]?=some v→∃u,vs[i]?=some u∧aT w Z s ι v u:=by
    intro l
    induction l with
    | nil=>intro vs i _ hi;simp at hi
    | cons y l ih =>
     intro vs i hl hi
     simp only [a8] at hl
     obtain ⟨u,us,rfl,h1,h2⟩:=hl
     cases i with
     | zero=>simp at hi;subst hi;exact⟨u,rfl,h1⟩
     | succ i=>exact ih us i h2 (by simpa using hi)
   obtain ⟨u,h1,h2⟩:=this l vs i hl hi
   refine⟨_,hk,dx (v:=u) (fun w'=>?_) h h2 ah⟩
   unfold execOp;rw [ho]
   refine fU ?_
   simp only [Instr.extract,he]
   simp [h1,run_pure]
 | _=>rw [cF] at hk;simp at hk
theorem JI(h:Inv w0 F0 Z0 n s a w ι Z):∀(l:List Operand),a8 w Z s ι (l.map (bR s)) (l.map a.eval)
 | []=>by simp only [List.map_nil,a8]
 | x :: l=>by simp only [List.map_cons,a8];exact⟨_,_,rfl,eR h x,JI h l⟩
theorem RT{f:FuncId}{first k0:Array Operand}(h:Inv w0 F0 Z0 n s a w ι Z)(ah:∀k,o.dst=some k→k<n)(ho:o.op=.makeFunc (.func f) first k0)(hk:cL E id o s K=some r) :
  ∃aq,K aq=some r∧Pure P o a w (cQ w0 F0 Z0 n aq):=by
 unfold cL at hk
 rw [ho] at hk
 simp only at hk
 refine⟨_,hk,dx (v:=.func (.func f) (first.map a.eval) (k0.map a.eval)) (fun w'=>?_) h ?_ ah⟩
 ·unfold execOp;rw [ho];rfl
 ·simp only [aT]
  refine⟨first.toList.map a.eval,k0.toList.map a.eval,?_,JI h _,JI h _⟩
  congr 1 <;>(apply Array.ext';simp)
end
end Go.LM
namespace Go.LM
section
variable{P:Program}{Q:Exit→Act→World→Prop}
variable{w0:World}{F0 Z0:ag}{n:cB}{s aq:al}{a b6:Act}{w w':World}{ι bh:Nat→bC}{Z Z':ag}
variable{E:Env}{o:Oper}{bs : Type}{K:al→Option bs}{r : bs}{id:Nat}
theorem JJ{k:IntKind}{i:Int} :(asIntOf (.int k i)).run P w=.ok (k,i) w:=rfl
theorem JK{t:TypeId}{u:aa}{e:TypeId}{A:Addr}{b o len c:Nat}{k:IntKind}{i:Int}(hu:P.underlying t=some (.slice e))(he:u.ok P e)
  (h0:0≤i) (h1:i<(len:Int)):(Instr.indexAt t (.slice (some (at_ b o)) len c) (.int k i)).run P w=.ok (.pointer (some (at_ b (o+i.toNat*u.size)))) w:=by
 unfold Instr.indexAt
 simp only [run_bind,JJ,run_underlying hu,run_pure]
 rw [if_pos ⟨h0,h1⟩]
 simp only [run_bind,run_sizeOf he,run_pure,p6]
theorem beq_eq{u v:aa}(h:aa.beq u v=true):u=v:=aa.eq_of_beq _ _ h
theorem RU{t:Nat}{x i:Operand}(bX:gL P E)(h:Inv w0 F0 Z0 n s a w ι Z)(ah:∀k,o.dst=some k→k<n)(ho:o.op=.indexAddr t x i)(hk:cL E id o s K=some r) :
  ∃aq,K aq=some r∧Pure P o a w (cQ w0 F0 Z0 n aq):=by
 unfold cL at hk
 rw [ho] at hk
 simp only at hk
 have hx:=eR h x
 have hi:=eR h i
 cases ht:E.ty t with
 | none=>rw [ht] at hk;simp at hk
 | some T =>
  cases T with
  | sl u =>
   obtain ⟨e,hu,jg⟩:=lj (bX.ty t _ ht)
   rw [ht] at hk
   cases tN:kn (bR s i) with
   | none=>rw [tN] at hk;cases bR s x <;> simp at hk
   | some q =>
    rw [tN] at hk
    obtain ⟨da,wS⟩:=rN tN hi
    cases cF:bR s x with
    | aU c =>
     rw [cF] at hk hx
     simp only [aT] at hx
     cases c with
     | ah j sub =>
      simp only at hk
      obtain ⟨mP,A,m,c,iH,hh⟩:=hx
      cases bU:s.o j with
      | row v em ver xs =>
       rw [bU] at hk
       simp only at hk
       cases hb:aa.beq u v
       ·rw [hb] at hk;simp at hk
       rw [hb] at hk
       obtain rfl:=beq_eq hb
       obtain ⟨k,h1,hk⟩:=bj hk
       obtain ⟨h2,h3,rfl,h4⟩:=yS h1
       obtain ⟨g1,g2,g3,g4,g5⟩:=hh _ _ _ _ (k8 bU)
       have hm:k4 sub xs=m:=by
        cases sub with
        | none=>simp [k4,g1]
        | some p=>obtain ⟨lo,l⟩:=p;simp [k4,g1]
       rw [hm] at h3 h4
       rcases g5 with g5 | ⟨a0,gM,rfl⟩
       ·omega
       refine⟨_,hk,dx (v:=.pointer (some (at_ a0.block (a0.off+d_ sub*u.size+q.toNat*u.size)))) (fun w'=>?_) h ?_ ah⟩
       ·unfold execOp;rw [ho]
        refine fU ?_
        simp only [iH,wS]
        exact JK (A:=a0) hu jg h2 h3
       ·simp only [aT]
        refine⟨mP,_,rfl,rfl,?_⟩
        simp only
        rw [bU]
        exact⟨_,rfl,by omega,a0,gM,by simp [at_,Nat.add_mul];omega⟩
      | _=>rw [bU] at hk;simp at hk
     | bA v dp ct xs =>
      simp only at hk
      cases hb:(alive s dp&&aa.beq u v)
      ·rw [hb] at hk;simp at hk
      rw [hb] at hk
      simp only [Bool.and_eq_true] at hb
      obtain ⟨dq,hb⟩:=hb
      obtain rfl:=beq_eq hb
      obtain ⟨k,h1,hk⟩:=bj hk
      obtain ⟨h2,h3,rfl,h4⟩:=yS h1
      obtain ⟨mN,⟨A,m,c,iH⟩,cH,_⟩:=hx
      have hr:=cH dq
      simp only [aa.an] at hr
      obtain ⟨mQ,c',hv,hr⟩:=hr
      rw [iH] at hv
      simp only [List.cons.injEq,Value.slice.injEq,and_true] at hv
      obtain ⟨rfl,rfl,rfl⟩:=hv
      rcases hr with hr | ⟨a0,rfl,hsp,hrow,hz,JL⟩
      ·rw [hr] at h4;simp at h4
      obtain ⟨vs,G,k1,k2,k3,bf⟩:=hrow.get q.toNat h4
      obtain ⟨cJ,dF,sp⟩:=a0
      simp only at hsp
      subst hsp
      refine⟨_,hk,dx (v:=.pointer (some (at_ cJ (dF+q.toNat*u.size)))) (fun w'=>?_) h ?_ ah⟩
      ·unfold execOp;rw [ho]
       refine fU ?_
       simp only [iH,wS]
       exact JK (A:=at_ cJ dF) hu jg h2 h3
      ·simp only [aT]
       refine⟨mN,cJ,dF+q.toNat*u.size,vs,rfl,fun _=>⟨?_,k3,fun j hj=>?_⟩⟩
       ·rw [di h4]
        exact aa.p9 u dp none mN (fun _=>k1) ⟨_,_,_,k1⟩ .none
       ·have hcl:(u.cells dp none (J u xs q.toNat)).length=u.size:=by
         rw [di h4,← k2]
         exact((aa.p9 (s:=s) (w:=w) (Z:=Z) (ι := ι) u dp none mN (fun _=>k1) ⟨_,_,_,k1⟩ .none).len).symm
        rw [hcl] at hj
        have:=hz (q.toNat*u.size+j) (by
         have:(q.toNat+1)*u.size≤xs.length*u.size:=Nat.mul_le_mul_right _ h4
         rw [Nat.add_one_mul] at this;omega)
        rwa [← Nat.add_assoc] at this
     | _=>simp at hk
    | _=>rw [cF] at hk;simp at hk
  | _=>rw [ht] at hk;simp at hk
theorem RV{t:Nat}{x i:Operand}(bX:gL P E)(h:Inv w0 F0 Z0 n s a w ι Z)(ah:∀k,o.dst=some k→k<n)(ho:o.op=.index t x i)(hk:cL E id o s K=some r) :
  ∃aq,K aq=some r∧Pure P o a w (cQ w0 F0 Z0 n aq):=by
 unfold cL at hk
 rw [ho] at hk
 simp only at hk
 have hx:=eR h x
 have hi:=eR h i
 cases ht:E.ty t with
 | none=>rw [ht] at hk;simp at hk
 | some T =>
  cases T with
  | str =>
   have hu:P.underlying t=some .string:=by have:=bX.ty t _ ht;simp only [aa.ok] at this;exact this.1
   rw [ht] at hk
   cases tN:kn (bR s i) with
   | none=>rw [tN] at hk;cases cF:bR s x with
    | aU c=>rw [cF] at hk;cases c <;> simp at hk
    | _=>rw [cF] at hk;simp at hk
   | some q =>
    rw [tN] at hk
    obtain ⟨da,wS⟩:=rN tN hi
    cases cF:bR s x with
    | aU c =>
     rw [cF] at hk hx
     simp only [aT] at hx
     cases c with
     | str b =>
      simp only at hk
      obtain ⟨k,h1,hk⟩:=bj hk
      obtain ⟨h2,h3,rfl,h4⟩:=yS h1
      obtain ⟨bq,iH,rfl⟩:=hx
      refine⟨_,hk,dx (v:=.int .u8 ((bq.data.toList.getD q.toNat 0).toNat:Int)) (fun w'=>?_) h (by simp only [aT,cc]) ah⟩
      unfold execOp;rw [ho]
      refine fU ?_
      have hsz:q.toNat<bq.size:=by simpa using h4
      simp only [Instr.index,iH,wS,run_bind,JJ,run_underlying hu,if_pos h2]
      have aD:bq[q.toNat]?=some bq[q.toNat]:=by simp [hsz]
      rw [aD]
      simp only [run_pure]
      congr 3
      have:bq.data.toList.getD q.toNat 0=bq[q.toNat]:=by
       simp [List.getD_eq_getElem?_getD,hsz]
       rfl
      rw [this]
     | _=>simp at hk
    | _=>rw [cF] at hk;simp at hk
  | _=>rw [ht] at hk;simp at hk
end
end Go.LM
namespace Go.LM
section
variable{P:Program}{Q:Exit→Act→World→Prop}
variable{w0:World}{F0 Z0:ag}{n:cB}{s aq:al}{a b6:Act}{w w':World}{ι bh:Nat→bC}{Z Z':ag}
variable{E:Env}{o:Oper}{bs : Type}{K:al→Option bs}{r : bs}{id:Nat}
theorem run_sliceBound{k:IntKind}{i:Int}{y:Nat}{code:BoundsCode}(h0:0≤i)(h1:i≤(y:Int)):(Instr.sliceBound (.int k i) y code).run P w=.ok i.toNat w:=by
 unfold Instr.sliceBound
 simp only [run_bind,JJ]
 rw [if_pos ⟨h0,h1⟩];rfl
theorem JM(h:Inv w0 F0 Z0 n s a w ι Z){x:Option Operand}{d i:Int}(hb:bound s x d=some i) :
  (x=none∧i=d)∨∃y k,x=some y∧a.eval y=.int k i:=by
 cases x with
 | none=>simp [bound] at hb;exact .inl ⟨rfl,hb.symm⟩
 | some y =>
  obtain ⟨k,hk⟩:=rN (x:=bR s y) hb (eR h y)
  exact .inr ⟨y,k,rfl,hk⟩
theorem RW(h:Inv w0 F0 Z0 n s a w ι Z){acf:Bool}{len cap:Nat}{lo hi:Option Operand}{l q:Int}(hl:bound s lo 0=some l)(hq:bound s hi len=some q)
  (h0:0≤l) (h1:l≤q) (h2:q≤(len:Int)) (hc:len≤cap) :
  (Instr.sliceBounds acf len cap (lo.map a.eval) (hi.map a.eval) none).run P w'=.ok (l.toNat,q.toNat,cap) w':=by
 unfold Instr.sliceBounds
 rcases JM h hl with⟨rfl,rfl⟩ | ⟨y,k,rfl,a_⟩ <;> rcases JM h hq with⟨rfl,rfl⟩ | ⟨oP,k',rfl,BU⟩
 ·simp only [Option.map_none,run_bind,run_pure,Int.toNat_natCast];rfl
 ·simp only [Option.map_none,Option.map_some,run_bind,run_pure,BU]
  rw [run_sliceBound (by omega) (by omega)];rfl
 ·simp only [Option.map_none,Option.map_some,run_bind,run_pure,a_,Int.toNat_natCast]
  simp only [Option.isSome_none,Bool.false_eq_true,if_false]
  rw [run_sliceBound h0 (by omega)]
 ·simp only [Option.map_some,run_bind,run_pure,a_,BU]
  rw [run_sliceBound (by omega) (by omega)]
  simp only [Option.isSome_none,Bool.false_eq_true,if_false]
  rw [run_sliceBound h0 (by omega)]
theorem acg(h:Inv w0 F0 Z0 n s a w ι Z){len cap:Nat}{lo:Option Operand}{y m:Operand}{l q:Int}{k k':IntKind}(hl:bound s lo 0=some l)(a_:a.eval y=.int k q)(hm:a.eval m=.int k' q)
  (h0:0≤l) (h1:l≤q) (h2:q≤(cap:Int)) :
  (Instr.sliceBounds true len cap (lo.map a.eval) (some (a.eval y)) (some (a.eval m))).run P w'=.ok (l.toNat,q.toNat,q.toNat) w':=by
 unfold Instr.sliceBounds
 rcases JM h hl with⟨rfl,rfl⟩ | ⟨z,aqV,rfl,hz⟩
 ·simp only [Option.map_none,run_bind,run_pure,a_,hm,if_true]
  rw [run_sliceBound (by omega) h2]
  simp only
  rw [run_sliceBound (by omega) (by omega)]
  rfl
 ·simp only [Option.map_some,run_bind,run_pure,a_,hm,hz,if_true]
  rw [run_sliceBound (by omega) h2]
  simp only
  rw [run_sliceBound (by omega) (by omega)]
  simp only [Option.isSome_some,if_true]
  rw [run_sliceBound h0 (by omega)]
theorem extract_toList(b:ByteArray)(l h:Nat):(b.extract l h).data.toList=part b.data.toList l (h-l):=by
 unfold part
 rw [ByteArray.data_extract,Array.toList_extract,List.extract_eq_take_drop]
theorem RX{T:aa}{c c':bb}{A:Option Addr}{m k:Nat}{l q:Nat}{fi:Nat}{u:aa}(bX:T=.sl u)(hf:kG s T c=true)(hlen:nM s c=some m)
  (iI:wE c l (q-l)=some c') (hc:cc w Z s ι c (.slice A m k)) (h1:l≤q) (h2:q≤m) (h3:q≤fi) (h4:fi≤k) :
  cc w Z s ι c' (.slice (if fi=l then A else A.map (·.add (l*u.size))) (q-l) (fi-l)):=by
 subst bX
 cases c with
 | nil v =>
  obtain rfl:=aX iI
  have hv:Value.slice A m k=.slice none 0 0:=hc
  simp only [Value.slice.injEq] at hv
  obtain ⟨rfl,rfl,rfl⟩:=hv
  have:l=0:=by omega
  have:fi=0:=by omega
  have:q=0:=by omega
  subst_vars
  exact rfl
 | bA v dp ct xs =>
  obtain rfl:=aX iI
  simp only [kG] at hf
  have JN:=beq_eq hf
  injection JN with JN
  subst JN
  obtain ⟨ah,_,hr,_⟩:=hc
  refine⟨ah,⟨_,_,_,rfl⟩,fun ha=>?_,.none⟩
  have:=hr ha
  simp only [aa.an] at this ⊢
  obtain ⟨mQ,RY,hv,hx⟩:=this
  simp only [List.cons.injEq,Value.slice.injEq,and_true] at hv
  obtain ⟨rfl,rfl,rfl⟩:=hv
  have fV:(part xs l (q-l)).length=q-l:=by simp only [part,List.length_take,List.length_drop];omega
  refine⟨_,_,by rw [fV],?_⟩
  by_cases ach:q-l=0
  ·left;exact List.eq_nil_of_length_eq_zero (by rw [fV,ach])
  ·right
   rcases hx with rfl | ⟨a0,rfl,hsp,hrow,hz,JL⟩
   ·simp at h2;omega
   obtain ⟨cJ,dF,sp⟩:=a0
   simp only at hsp
   subst hsp
   refine⟨at_ cJ (dF+l*u.size),?_,rfl,(hrow.drop l).take _,fun j hj=>?_,by rw [fV];omega⟩
   ·rw [if_neg (by omega)]
    exact congrArg some (p6 _ _ _)
   ·rw [fV] at hj
    have:=hz (l*u.size+j) (by
     have a7:(l +(q-l))*u.size≤xs.length*u.size:=Nat.mul_le_mul_right _ (by omega)
     rw [Nat.add_mul] at a7;omega)
    rwa [← Nat.add_assoc] at this
 | ah j sub =>
  obtain rfl:=aX iI
  obtain ⟨mP,mQ,m',k',hv,hh⟩:=hc
  simp only [Value.slice.injEq] at hv
  obtain ⟨rfl,rfl,rfl⟩:=hv
  refine⟨mP,_,_,_,rfl,fun t em ver xs bU=>?_⟩
  obtain ⟨g1,g2,g3,g4,g5⟩:=hh t em ver xs bU
  have ht:t=u:=by
   simp only [kG] at hf
   cases wJ:s.o j with
   | row =>
    rw [wJ] at hf bU
    simp only [cj.core,cj.row.injEq] at bU
    obtain ⟨rfl,_⟩:=bU
    have:=beq_eq hf
    injection this with this
    exact this.symm
   | _=>rw [wJ] at hf;simp at hf
  subst ht
  have e1:d_ (some (d_ sub+l,q-l))=d_ sub+l:=rfl
  refine⟨rfl,by rw [e1];omega,by omega,by rw [e1];omega,?_⟩
  by_cases aci:fi=l
  ·left;omega
  ·right
   rcases g5 with g5 | ⟨a0,hb,rfl⟩
   ·omega
   ·refine⟨a0,hb,?_⟩
    rw [if_neg aci]
    simp only [Option.map_some,p6,e1,Nat.add_mul,Nat.add_assoc]
 | _=>simp [wE] at iI <;>(simp [kG] at hf <;> simp [aa.beq] at hf)
theorem JO{T:aa}{c:bb}{v:Value}{m:Nat}{u:aa}(bX:T=.sl u)(hf:kG s T c=true)(hlen:nM s c=some m)(hc:cc w Z s ι c v) :
  ∃A k,v=.slice A m k∧m≤k:=by
 subst bX
 cases c with
 | nil x=>simp only [nM,Option.some.injEq] at hlen;subst hlen;exact⟨none,0,hc,Nat.le_refl _⟩
 | bA x dp ct xs =>
  simp only [nM] at hlen
  cases ha:alive s dp
  ·rw [ha] at hlen;simp at hlen
  rw [ha] at hlen
  simp only [cond_true,Option.some.injEq] at hlen
  subst hlen
  have:=hc.2.2.1 ha
  simp only [aa.an] at this
  obtain ⟨A,c,hv,hx⟩:=this
  simp only [List.cons.injEq,and_true] at hv
  refine⟨A,c,hv,?_⟩
  rcases hx with rfl | ⟨_,_,_,_,_,JL⟩
  ·simp
  ·exact JL
 | ah j sub =>
  simp only [nM] at hlen
  cases ho:s.o j with
  | row t em ver xs =>
   rw [ho] at hlen
   simp only [Option.some.injEq] at hlen
   obtain ⟨_,A,m',k,rfl,hh⟩:=hc
   obtain ⟨g1,g2,g3,g4,g5⟩:=hh _ _ _ _ (k8 ho)
   have:m'=m:=by
    rw [← hlen,g1]
    cases sub with
    | none=>rfl
    | some p=>rfl
   subst this
   exact⟨A,k,rfl,g3⟩
  | _=>rw [ho] at hlen;simp at hlen
 | _=>simp [kG,aa.beq] at hf
theorem RZ{t:Nat}{x:Operand}{lo hi fi:Option Operand}(bX:gL P E)(h:Inv w0 F0 Z0 n s a w ι Z)(ah:∀k,o.dst=some k→k<n)(ho:o.op=.slice t x lo hi fi)(hk:cL E id o s K=some r) :
  ∃aq,K aq=some r∧Pure P o a w (cQ w0 F0 Z0 n aq):=by
 unfold cL at hk
 rw [ho] at hk
 simp only at hk
 have hx:=eR h x
 cases ht:E.ty t with
 | none=>rw [ht] at hk;simp at hk
 | some T =>
  rw [ht] at hk
  simp only [Rp] at hk
  cases cF:bR s x with
  | aU c =>
   rw [cF] at hk hx
   simp only at hk
   simp only [aT] at hx
   cases hf:kG s T c
   ·rw [hf] at hk;simp at hk
   rw [hf] at hk
   simp only [cond_true] at hk
   cases hlen:nM s c with
   | none=>rw [hlen] at hk;simp at hk
   | some m =>
    rw [hlen] at hk
    simp only at hk
    cases hl:bound s lo 0 with
    | none=>rw [hl] at hk;simp at hk
    | some l =>
     cases hq:bound s hi (m:Int) with
     | none=>rw [hl,hq] at hk;simp at hk
     | some q =>
      rw [hl,hq] at hk
      simp only at hk
      have main:(dN m l q).bind (fun r=>match wE c r.1 (r.2-r.1) with | some c'=>K (s.dst o.dst (.aU c')) | none=>none)=some r →
        ∃c',K (s.dst o.dst (.aU c'))=some r∧0≤l∧l≤q∧q≤(m:Int)∧wE c l.toNat (q.toNat-l.toNat)=some c':=by
       intro hk
       obtain ⟨p,h1,hk⟩:=bj hk
       obtain ⟨h2,h3,h4,rfl⟩:=ace h1
       cases iI:wE c l.toNat (q.toNat-l.toNat) with
       | none=>simp only [iI] at hk;simp at hk
       | some c'=>simp only [iI] at hk;exact⟨c',hk,h2,h3,h4,rfl⟩
      cases fi with
      | none =>
       obtain ⟨c',hk,h2,h3,h4,iI⟩:=main hk
       refine⟨_,hk,?_⟩
       by_cases wT:T=.str
       ·subst wT
        have hu:P.underlying t=some .string:=by have:=bX.ty t _ ht;simp only [aa.ok] at this;exact this.1
        cases c <;> simp only [kG,aa.beq] at hf <;> try (simp at hf;done)
        ·rename_i b
         obtain ⟨bq,iH,rfl⟩:=hx
         simp only [nM,Option.some.injEq] at hlen
         obtain rfl:=aX iI
         refine dx (v:=.string (bq.extract l.toNat q.toNat)) (fun w'=>?_) h ?_ ah
         ·unfold execOp;rw [ho]
          refine fU ?_
          have hsz:bq.size=m:=by rw [← hlen];simp
          simp only [Instr.sliceAt,Instr.slice,run_bind,run_underlying hu,iH,Option.map_none]
          simp only [Option.isSome_none,Bool.false_eq_true,if_false]
          rw [hsz,run_bind,RW h hl hq h2 h3 h4 (Nat.le_refl _)]
          rfl
         ·simp only [aT]
          exact⟨_,rfl,extract_toList _ _ _⟩
        ·cases jX:s.o _ <;> rw [jX] at hf <;> simp [aa.beq] at hf
       ·cases T with
        | str=>exact absurd rfl wT
        | sl u =>
         obtain ⟨e,hu,jg⟩:=lj (bX.ty t _ ht)
         have hv:=JO rfl hf hlen hx
         obtain ⟨A,k,iH,mR⟩:=hv
         rw [iH] at hx
         refine dx (fun w'=>?_) h (x:=.aU c') (v:=.slice (if k=l.toNat then A else A.map (·.add (l.toNat*u.size))) (q.toNat-l.toNat) (k-l.toNat)) ?_ ah
         ·unfold execOp;rw [ho]
          refine fU ?_
          simp only [Instr.sliceAt,Instr.slice,run_bind,run_underlying hu,iH,Option.map_none]
          rw [RW h hl hq h2 h3 h4 mR]
          simp only [run_bind,run_sizeOf jg,run_pure]
         ·simp only [aT]
          exact RX rfl hf hlen iI hx (by omega) (by omega) (by omega) (Nat.le_refl _)
        | _=>cases c <;> simp only [kG,aa.beq] at hf <;> first | (simp at hf;done) | (cases jX:s.o _ <;> rw [jX] at hf <;> simp [aa.beq] at hf)
      | some R0 =>
       simp only at hk
       cases wT:aa.beq T .str
       case true=>rw [wT] at hk;simp at hk
       rw [wT] at hk
       simp only [cond_false] at hk
       cases lZ:kn (bR s R0) with
       | none=>rw [lZ] at hk;simp at hk
       | some acj =>
        rw [lZ] at hk
        simp only at hk
        cases hi with
        | none=>simp at hk
        | some y =>
         simp only [Option.isSome_some,cond_true,jy] at hk
         cases yT:decide (q=acj)
         ·rw [yT] at hk;simp at hk
         rw [yT] at hk
         have yT:=of_decide_eq_true yT
         subst yT
         obtain ⟨c',hk,h2,h3,h4,iI⟩:=main hk
         obtain ⟨k1,a_⟩:=rN hq (eR h y)
         obtain ⟨k2,wU⟩:=rN lZ (eR h R0)
         refine⟨_,hk,?_⟩
         cases T with
         | str=>simp [aa.beq] at wT
         | sl u =>
          obtain ⟨e,hu,jg⟩:=lj (bX.ty t _ ht)
          obtain ⟨A,k,iH,mR⟩:=JO rfl hf hlen hx
          rw [iH] at hx
          refine dx (fun w'=>?_) h (x:=.aU c') (v:=.slice (if q.toNat=l.toNat then A else A.map (·.add (l.toNat*u.size))) (q.toNat-l.toNat) (q.toNat-l.toNat)) ?_ ah
          ·unfold execOp;rw [ho]
           refine fU ?_
           simp only [Instr.sliceAt,Instr.slice,run_bind,run_underlying hu,iH,Option.map_some]
           rw [acg h hl a_ wU h2 h3 (by omega)]
           simp only [run_bind,run_sizeOf jg,run_pure]
          ·simp only [aT]
           exact RX rfl hf hlen iI hx (by omega) (by omega) (by omega) (by omega)
         | _=>cases c <;> simp only [kG,aa.beq] at hf <;> first | (simp at hf;done) | (cases jX:s.o _ <;> rw [jX] at hf <;> simp [aa.beq] at hf)
  | _=>rw [cF] at hk;simp at hk
end
end Go.LM
namespace Go.LM
section
variable{P:Program}{Q:Exit→Act→World→Prop}
variable{w0:World}{F0 Z0:ag}{n:cB}{s aq:al}{a b6:Act}{w w':World}{ι bh:Nat→bC}{Z Z':ag}
variable{E:Env}{o:Oper}{bs : Type}{K:al→Option bs}{r : bs}{id:Nat}
theorem BV{k k':IntKind}(h:Nat.beq (dj k) (dj k')=true):k=k':=tw (Nat.eq_of_beq_eq_true h)
theorem rO{α : Type}{b:Bool}{x:Option α}{y : α}(h:jy b x=some y):b=true∧x=some y:=by
 cases b
 ·simp [jy] at h
 ·exact⟨rfl,h⟩
theorem toList_data(z:ByteArray):z.toList=z.data.toList:=by
 unfold ByteArray.toList
 have key:∀(m i:Nat) (r:List UInt8),z.size-i=m→i≤z.size→ByteArray.toList.loop z i r=r.reverse++z.data.toList.drop i:=by
  intro m
  induction m with
  | zero =>
   intro i r h hi
   unfold ByteArray.toList.loop
   rw [if_neg (by omega),List.drop_of_length_le (by simp;show z.data.size≤i;have:z.data.size=z.size:=rfl;omega)]
   simp
  | succ m ih =>
   intro i r h hi
   unfold ByteArray.toList.loop
   rw [if_pos (by omega),ih (i+1) _ (by omega) (by omega)]
   have bY:i<z.data.toList.length:=by simp;show i<z.data.size;have:z.data.size=z.size:=rfl;omega
   rw [List.drop_eq_getElem_cons bY]
   have aD:z.get! i=z.data.toList[i]:=by
    simp [ByteArray.get!]
    have:i<z.data.size:=by simpa using bY
    exact getElem!_pos z.data i this
   rw [aD];simp
 have:=key z.size 0 [] rfl (by omega)
 simpa using this
theorem R1(x y:ByteArray):(x.toList==y.toList)=bB x.data.toList y.data.toList:=by
 rw [toList_data,toList_data,Bool.eq_iff_iff]
 simp [bB]
theorem R2{x:Option a'}{K:a'→Option bs}(h:lift x K=some r):∃v,x=some v∧K v=some r:=by
 cases x with
 | none=>simp [lift] at h
 | some v=>exact⟨v,rfl,h⟩
theorem ack{op:BinOp}{k:IntKind}{x y:Int}{v:a'}{ty yty:TypeId}{xo yo:Operand}(h:BI op k x y=some v)(h1:op≠.shl)(h2:op≠.shr)(h3:op≠.quo)(h4:op≠.rem) :
  ∃u,(∀w:World,(binOp op ty (.int k x) (.int k y)).run P w=.ok u w)∧∀w Z s ι,aT w Z s ι v u:=by
 cases op <;> simp only [BI] at h <;> first | (simp at h;done) | (obtain rfl:=aX h)
 all_goals
  refine⟨_,fun w=>by simp only [binOp];rw [if_neg (by simp)];rfl,fun w Z s ι => ?_⟩
  simp only [aT,cc]
  try rfl
theorem wV{op:BinOp}{ty:TypeId}{xo yo:Operand}{u v:Value}(h1:(∃k x,u=.int k x)∨(∃x,u=.string x)∨(∃x,u=.bool x)∨(∃x,u=.pointer x)) :
  (eqGuard op ty xo yo u v).run P w=.ok () w:=by
 unfold eqGuard
 rcases h1 with⟨k,x,rfl⟩ | ⟨x,rfl⟩ | ⟨x,rfl⟩ | ⟨x,rfl⟩ <;>(cases op <;> rfl)
theorem jh{op:BinOp}{ty yty:TypeId}{xo yo:Operand}{u:Value}(ho:o.op=.binOp op ty xo yo yty)(aD:(eqGuard op ty xo yo (a.eval xo) (a.eval yo)).run P w=.ok () w)
  (hr:(binOp op ty (a.eval xo) (a.eval yo)).run P w=.ok u w):(execOp a.eval o).run P w=.ok (.value u) w:=by
 unfold execOp;rw [ho]
 refine fU ?_
 rw [run_bind,aD]
 exact hr
theorem acm{op:BinOp}{x y:ByteArray}{v:a'}{ty:TypeId}(h:BJ op x.data.toList y.data.toList=some v) :
  ∃u,(∀w:World,(binOp op ty (.string x) (.string y)).run P w=.ok u w)∧∀w Z s ι,aT w Z s ι v u:=by
 cases op <;> simp only [BJ] at h <;> first | (simp at h;done) | (obtain rfl:=aX h)
 all_goals
  refine⟨_,fun w=>rfl,fun w Z s ι => ?_⟩
  have:=R1 x y
  simp only [toList_data] at this
  simp only [aT,cc,dv,toList_data,Value.bool.injEq,this]
theorem R3{op:UnOp}{t:Nat}{x:Operand}(h:Inv w0 F0 Z0 n s a w ι Z)(ah:∀k,o.dst=some k→k<n)(ho:o.op=.unOp op t x)(hk:cL E id o s K=some r) :
  ∃aq,K aq=some r∧Pure P o a w (cQ w0 F0 Z0 n aq):=by
 unfold cL at hk
 rw [ho] at hk
 simp only at hk
 have hx:=eR h x
 have hrun:∀ {u:Value} {w:World},(Op.unary op (a.eval x)).run P w=.ok u w→(execOp a.eval o).run P w=.ok (.value u) w:=by
  intro u w hu;unfold execOp;rw [ho];exact fU hu
 cases cF:bR s x with
 | aU c =>
  rw [cF] at hk hx
  simp only [aT] at hx
  cases op <;> cases c <;> simp only [I7] at hk <;> try (simp at hk;done)
  ·simp only [cc] at hx
   exact⟨_,hk,dx (fun w'=>hrun (by rw [hx];rfl)) h (by simp only [aT,cc]) ah⟩
  ·simp only [cc] at hx
   exact⟨_,hk,dx (fun w'=>hrun (by rw [hx];rfl)) h (by simp only [aT,cc];rfl) ah⟩
  ·simp only [cc] at hx
   exact⟨_,hk,dx (fun w'=>hrun (by rw [hx];rfl)) h (by simp only [aT,cc]) ah⟩
 | _=>rw [cF] at hk;cases op <;> simp [I7] at hk
def R4(P:Program)(E:Env):Prop:=∀id T,E.I4 id=true→E.ty id=some T→∀(op:BinOp) (xo yo:Operand) (w:World) (Z:ag) (s:al) (ι : Nat→bC) (cs ds:List bb) (us vs:List Value) (q:Bool),
  bF w Z s ι cs us→bF w Z s ι ds vs→T.cmp cs ds=some (q,[],[]) →
  (eqGuard op id xo yo (.agg us.toArray) (.agg vs.toArray)).run P w=.ok () w ∧
  (op=.eql→(binOp op id (.agg us.toArray) (.agg vs.toArray)).run P w=.ok (.bool q) w) ∧
  (op=.neq→(binOp op id (.agg us.toArray) (.agg vs.toArray)).run P w=.ok (.bool (!q)) w)
mutual
theorem aa.yU{w w':World}{Z:ag}{s:al}{ι : Nat→bC} : ∀(t:aa) {cs ds:List bb} {r:Bool×List bb×List bb} {us vs:List Value},t.cmp cs ds=some r→bF w Z s ι cs us→bF w Z s ι ds vs →
  ∃us1 us2 vs1 vs2 a b,us=us1++us2∧vs=vs1++vs2∧cs=a++r.2.1∧ds=b++r.2.2∧bF w' Z s ι a us1∧bF w' Z s ι b vs1∧bF w Z s ι r.2.1 us2∧bF w Z s ι r.2.2 vs2
 | .int k,.int k1 x :: a,.int k2 y :: b,r,us,vs,h,h1,h2=>by
  simp only [aa.cmp] at h
  cases hk:(Nat.beq (dj k1) (dj k)&&Nat.beq (dj k2) (dj k))
  ·rw [hk] at h;cases h
  rw [hk] at h
  obtain rfl:=aX h
  cases us with
  | nil=>exact h1.elim
  | cons u us=>cases vs with
   | nil=>exact h2.elim
   | cons v vs=>exact⟨[u],us,[v],vs,[.int k1 x],[.int k2 y],rfl,rfl,rfl,rfl,⟨h1.1,trivial⟩,⟨h2.1,trivial⟩,h1.2,h2.2⟩
 | .bool,.bool x :: a,.bool y :: b,r,us,vs,h,h1,h2=>by
  obtain rfl:=aX h
  cases us with
  | nil=>exact h1.elim
  | cons u us=>cases vs with
   | nil=>exact h2.elim
   | cons v vs=>exact⟨[u],us,[v],vs,[.bool x],[.bool y],rfl,rfl,rfl,rfl,⟨h1.1,trivial⟩,⟨h2.1,trivial⟩,h1.2,h2.2⟩
 | .str,.str x :: a,.str y :: b,r,us,vs,h,h1,h2=>by
  obtain rfl:=aX h
  cases us with
  | nil=>exact h1.elim
  | cons u us=>cases vs with
   | nil=>exact h2.elim
   | cons v vs=>exact⟨[u],us,[v],vs,[.str x],[.str y],rfl,rfl,rfl,rfl,⟨h1.1,trivial⟩,⟨h2.1,trivial⟩,h1.2,h2.2⟩
 | .st aj,cs,ds,r,us,vs,h,h1,h2=>az.yU aj (by simpa only [aa.cmp] using h) h1 h2
 | .sl t,cs,ds,r,us,vs,h,h1,h2=>by simp [aa.cmp] at h
 | .raw,cs,ds,r,us,vs,h,h1,h2=>by simp [aa.cmp] at h
 | .int k,[],_,_,_,_,h,_,_=>by simp [aa.cmp] at h
 | .bool,[],_,_,_,_,h,_,_=>by simp [aa.cmp] at h
 | .str,[],_,_,_,_,h,_,_=>by simp [aa.cmp] at h
 | .int k,c :: _,[],_,_,_,h,_,_=>by cases c <;> simp [aa.cmp] at h
 | .bool,c :: _,[],_,_,_,h,_,_=>by cases c <;> simp [aa.cmp] at h
 | .str,c :: _,[],_,_,_,h,_,_=>by cases c <;> simp [aa.cmp] at h
 | .int k,.bool _ :: _,_ :: _,_,_,_,h,_,_ | .int k,.str _ :: _,_ :: _,_,_,_,h,_,_ | .int k,.nil _ :: _,_ :: _,_,_,_,h,_,_ | .int k,.bA _ _ _ _ :: _,_ :: _,_,_,_,h,_,_ | .int k,.ah _ _ :: _,_ :: _,_,_,_,h,_,_ | .int k,.raw _ :: _,_ :: _,_,_,_,h,_,_=>by simp [aa.cmp] at h
 | .bool,.int _ _ :: _,_ :: _,_,_,_,h,_,_ | .bool,.str _ :: _,_ :: _,_,_,_,h,_,_ | .bool,.nil _ :: _,_ :: _,_,_,_,h,_,_ | .bool,.bA _ _ _ _ :: _,_ :: _,_,_,_,h,_,_ | .bool,.ah _ _ :: _,_ :: _,_,_,_,h,_,_ | .bool,.raw _ :: _,_ :: _,_,_,_,h,_,_=>by simp [aa.cmp] at h
 | .str,.int _ _ :: _,_ :: _,_,_,_,h,_,_ | .str,.bool _ :: _,_ :: _,_,_,_,h,_,_ | .str,.nil _ :: _,_ :: _,_,_,_,h,_,_ | .str,.bA _ _ _ _ :: _,_ :: _,_,_,_,h,_,_ | .str,.ah _ _ :: _,_ :: _,_,_,_,h,_,_ | .str,.raw _ :: _,_ :: _,_,_,_,h,_,_=>by simp [aa.cmp] at h
 | .int k,.int _ _ :: _,.bool _ :: _,_,_,_,h,_,_ | .int k,.int _ _ :: _,.str _ :: _,_,_,_,h,_,_ | .int k,.int _ _ :: _,.nil _ :: _,_,_,_,h,_,_ | .int k,.int _ _ :: _,.bA _ _ _ _ :: _,_,_,_,h,_,_ | .int k,.int _ _ :: _,.ah _ _ :: _,_,_,_,h,_,_ | .int k,.int _ _ :: _,.raw _ :: _,_,_,_,h,_,_=>by simp [aa.cmp] at h
 | .bool,.bool _ :: _,.int _ _ :: _,_,_,_,h,_,_ | .bool,.bool _ :: _,.str _ :: _,_,_,_,h,_,_ | .bool,.bool _ :: _,.nil _ :: _,_,_,_,h,_,_ | .bool,.bool _ :: _,.bA _ _ _ _ :: _,_,_,_,h,_,_ | .bool,.bool _ :: _,.ah _ _ :: _,_,_,_,h,_,_ | .bool,.bool _ :: _,.raw _ :: _,_,_,_,h,_,_=>by simp [aa.cmp] at h
 | .str,.str _ :: _,.int _ _ :: _,_,_,_,h,_,_ | .str,.str _ :: _,.bool _ :: _,_,_,_,h,_,_ | .str,.str _ :: _,.nil _ :: _,_,_,_,h,_,_ | .str,.str _ :: _,.bA _ _ _ _ :: _,_,_,_,h,_,_ | .str,.str _ :: _,.ah _ _ :: _,_,_,_,h,_,_ | .str,.str _ :: _,.raw _ :: _,_,_,_,h,_,_=>by simp [aa.cmp] at h
theorem az.yU{w w':World}{Z:ag}{s:al}{ι : Nat→bC} : ∀(t:az) {cs ds:List bb} {r:Bool×List bb×List bb} {us vs:List Value},t.cmp cs ds=some r→bF w Z s ι cs us→bF w Z s ι ds vs →
  ∃us1 us2 vs1 vs2 a b,us=us1++us2∧vs=vs1++vs2∧cs=a++r.2.1∧ds=b++r.2.2∧bF w' Z s ι a us1∧bF w' Z s ι b vs1∧bF w Z s ι r.2.1 us2∧bF w Z s ι r.2.2 vs2
 | .nil,cs,ds,r,us,vs,h,h1,h2=>by
  obtain rfl:=aX h
  exact⟨[],us,[],vs,[],[],rfl,rfl,rfl,rfl,trivial,trivial,h1,h2⟩
 | .cons t aj,cs,ds,r,us,vs,h,h1,h2=>by
  simp only [az.cmp] at h
  obtain ⟨bw,g1,h⟩:=bj h
  obtain ⟨b9,g2,h⟩:=bj h
  obtain rfl:=aX h
  obtain ⟨a1,a2,iF,rJ,a,b,rfl,rfl,e1,e2,k1,k2,k3,bf⟩:=aa.yU (w':=w') t g1 h1 h2
  obtain ⟨a3,a4,qd,BW,b6,b',rfl,rfl,e3,eH,dn,eh,nZ,oU⟩:=az.yU (w':=w') aj g2 k3 bf
  exact⟨a1++a3,a4,iF++qd,BW,a++b6,b++b',by simp,by simp,by rw [e1,e3];simp,by rw [e2,eH];simp,k1.append dn,k2.append eh,nZ,oU⟩
end
theorem R5{w:World}{Z:ag}{s:al}{ι : Nat→bC}{T:aa}{cs ds:List bb}{q:Bool}{us vs:List Value}(h:T.cmp cs ds=some (q,[],[]))(h1:bF w Z s ι cs us)(h2:bF w Z s ι ds vs)(w':World) :
  bF w' Z s ι cs us∧bF w' Z s ι ds vs:=by
 obtain ⟨us1,us2,vs1,vs2,a,b,e3,eH,lk,BX,bm,dJ,dG,cY⟩:=aa.yU (w':=w') T h h1 h2
 have fj:us2=[]:=by cases us2 with | nil=>rfl | cons=>exact dG.elim
 have la:vs2=[]:=by cases vs2 with | nil=>rfl | cons=>exact cY.elim
 subst fj la
 simp only [List.append_nil] at e3 eH lk BX
 rw [e3,eH,lk,BX]
 exact⟨bm,dJ⟩
theorem R6{op:BinOp}{t BY:Nat}{x y:Operand}(bX:gL P E)(hE:R4 P E)(h:Inv w0 F0 Z0 n s a w ι Z)(ah:∀k,o.dst=some k→k<n)(ho:o.op=.binOp op t x y BY)(hk:cL E id o s K=some r) :
  ∃aq,K aq=some r∧Pure P o a w (cQ w0 F0 Z0 n aq):=by
 unfold cL at hk
 rw [ho] at hk
 simp only at hk
 have hx:=eR h x
 have a_:=eR h y
 cases cF:bR s x with
 | aU c =>
  rw [cF] at hk hx
  simp only [aT] at hx
  cases gl:bR s y with
  | aU d =>
   rw [gl] at hk a_
   simp only [aT] at a_
   cases c <;> cases d <;> simp only [kF] at hk <;> try (simp at hk;done)
   ·rename_i k i k' j
    simp only [cc] at hx a_
    have aD:∀w:World,(eqGuard op t x y (a.eval x) (a.eval y)).run P w=.ok () w:=fun w=>wV (by rw [hx];exact .inl ⟨_,_,rfl⟩)
    by_cases h1:op=.shl
    ·subst h1
     obtain ⟨h0,hk⟩:=rO hk
     have h0:=of_decide_eq_true h0
     refine⟨_,hk,dx (fun w'=>jh ho (aD w') (by rw [hx,a_];simp only [binOp,Op.shift];rw [if_neg (by omega)];rfl)) h (by simp only [aT,cc]) ah⟩
    by_cases h2:op=.shr
    ·subst h2
     obtain ⟨h0,hk⟩:=rO hk
     have h0:=of_decide_eq_true h0
     refine⟨_,hk,dx (fun w'=>jh ho (aD w') (by rw [hx,a_];simp only [binOp,Op.shift];rw [if_neg (by omega)];rfl)) h (by simp only [aT,cc]) ah⟩
    by_cases h3:op=.quo
    ·subst h3
     cases hkk:Nat.beq (dj k) (dj k')
     ·rw [hkk] at hk;simp at hk
     have hk1:jy (j != 0) (K (s.dst o.dst (.aU (.int k (k.wrap (i.tdiv j))))))=some r:=by
      have hk2:cond (Nat.beq (dj k) (dj k')) (jy (j != 0) (K (s.dst o.dst (.aU (.int k (k.wrap (i.tdiv j))))))) none=some r:=hk
      rw [hkk] at hk2;exact hk2
     clear hk
     obtain ⟨h0,hk⟩:=rO hk1
     obtain rfl:=BV hkk
     have h0:j≠0:=by simpa using h0
     refine⟨_,hk,dx (fun w'=>jh ho (aD w') (by rw [hx,a_];simp only [binOp,Op.intDiv];rw [if_neg (by simp),if_neg h0];rfl)) h (by simp only [aT,cc]) ah⟩
    by_cases h4:op=.rem
    ·subst h4
     cases hkk:Nat.beq (dj k) (dj k')
     ·rw [hkk] at hk;simp at hk
     have hk1:jy (j != 0) (K (s.dst o.dst (.aU (.int k (i.tmod j)))))=some r:=by
      have hk2:cond (Nat.beq (dj k) (dj k')) (jy (j != 0) (K (s.dst o.dst (.aU (.int k (i.tmod j)))))) none=some r:=hk
      rw [hkk] at hk2;exact hk2
     clear hk
     obtain ⟨h0,hk⟩:=rO hk1
     obtain rfl:=BV hkk
     have h0:j≠0:=by simpa using h0
     refine⟨_,hk,dx (fun w'=>jh ho (aD w') (by rw [hx,a_];simp only [binOp,Op.intDiv];rw [if_neg (by simp),if_neg h0];rfl)) h (by simp only [aT,cc]) ah⟩
    have eN:cond (Nat.beq (dj k) (dj k')) (lift (BI op k i j) fun v=>K (s.dst o.dst v)) none=some r:=by
     cases op <;> first | exact hk | exact absurd rfl h1 | exact absurd rfl h2 | exact absurd rfl h3 | exact absurd rfl h4
    cases hkk:Nat.beq (dj k) (dj k')
    ·rw [hkk] at eN;simp at eN
    rw [hkk] at eN
    obtain rfl:=BV hkk
    obtain ⟨v,hv,eN⟩:=R2 eN
    obtain ⟨u,hu,cH⟩:=ack (P:=P) (ty:=t) (yty:=BY) (xo:=x) (yo:=y) hv h1 h2 h3 h4
    exact⟨_,eN,dx (fun w'=>jh ho (aD w') (by rw [hx,a_];exact hu w')) h (cH _ _ _ _) ah⟩
   ·rename_i i j
    simp only [cc] at hx a_
    have aD:∀w:World,(eqGuard op t x y (a.eval x) (a.eval y)).run P w=.ok () w:=fun w=>wV (by rw [hx];exact .inr (.inr (.inl ⟨_,rfl⟩)))
    cases ht:E.ty t with
    | none=>rw [ht] at hk;simp at hk
    | some T =>
     cases T with
     | bool =>
      rw [ht] at hk
      have hu:P.underlying t=some .bool:=by have:=bX.ty t _ ht;simp only [aa.ok] at this;exact this.1
      have hb:∀(i j:Bool) {w:World},(Op.equal t (.bool i) (.bool j)).run P w=.ok (i==j) w:=by
       intro i j w
       unfold Op.equal Op.maxDepth Op.equalIn
       rw [run_bind,run_underlying hu]
       rfl
      cases op <;> simp only at hk <;> try (simp at hk;done)
      ·exact⟨_,hk,dx (fun w'=>jh ho (aD w') (by rw [hx,a_];simp only [binOp,run_bind,hb];rfl)) h (by simp only [aT,cc]) ah⟩
      ·exact⟨_,hk,dx (fun w'=>jh ho (aD w') (by rw [hx,a_];simp only [binOp,run_bind,hb];rfl)) h (by simp only [aT,cc]) ah⟩
     | _=>rw [ht] at hk;simp at hk
   ·obtain ⟨wW,hx,rfl⟩:=hx
    obtain ⟨wX,a_,rfl⟩:=a_
    have aD:∀w:World,(eqGuard op t x y (a.eval x) (a.eval y)).run P w=.ok () w:=fun w=>wV (by rw [hx];exact .inr (.inl ⟨_,rfl⟩))
    by_cases h1:op=.add
    ·subst h1
     obtain ⟨h0,hk⟩:=rO hk
     have h0:=Nat.le_of_ble_eq_true h0
     simp only [Array.length_toList] at h0
     refine⟨_,hk,dx (v:=.string (wW++wX)) (fun w'=>jh ho (aD w') (by
      rw [hx,a_];simp only [binOp,Op.stringOp]
      rw [if_neg];rfl
      have e1:wW.data.size=wW.size:=rfl
      have e2:wX.data.size=wX.size:=rfl
      simp only [IntKind.max,IntKind.signed,IntKind.bits,if_true]
      omega)) h (by simp only [aT,cc];exact⟨_,rfl,by simp⟩) ah⟩
    ·have eN:lift (BJ op wW.data.toList wX.data.toList) (fun v=>K (s.dst o.dst v))=some r:=by
      cases op <;> first | exact hk | exact absurd rfl h1
     obtain ⟨v,hv,eN⟩:=R2 eN
     obtain ⟨u,hu,cH⟩:=acm (P:=P) (ty:=t) hv
     exact⟨_,eN,dx (fun w'=>jh ho (aD w') (by rw [hx,a_];exact hu w')) h (cH _ _ _ _) ah⟩
  | kD =>
   rw [gl] at hk a_
   simp only [aT] at a_
   cases c with
   | bA cE dp ct xs =>
    cases dp with
    | cons=>simp [kF] at hk
    | nil =>
     simp only [kF] at hk
     cases rP:E.ty t with
     | none=>rw [rP] at hk;simp at hk
     | some T =>
      cases T with
      | sl u =>
       rw [rP] at hk
       obtain ⟨e,hu,_⟩:=lj (bX.ty _ _ rP)
       obtain ⟨_,_,cH,_⟩:=hx
       have cH:=cH rfl
       simp only [aa.an] at cH
       obtain ⟨A,c',hv,tJ⟩:=cH
       have iH:a.eval x=.slice A xs.length c':=by simpa using hv
       have aD:∀w:World,(eqGuard op t x y (a.eval x) (a.eval y)).run P w=.ok () w:=fun w=>by
        rw [iH,a_];unfold eqGuard;cases op <;> rfl
       have hb:∀ {w:World},(Op.equal t (.slice A xs.length c') (.slice none 0 0)).run P w=.ok A.isNone w:=by
        intro w
        unfold Op.equal Op.maxDepth Op.equalIn
        rw [run_bind,run_underlying hu]
        cases A <;> rfl
       have he:A.isNone=true→xs.isEmpty=true:=fun hA=>by
        rcases tJ with tJ | ⟨a0,tJ,_⟩
        ·rw [tJ];rfl
        ·rw [tJ] at hA;cases hA
       have pick:∀ {k1 jY:Option bs},BK xs.isEmpty k1 jY=some r→(cond A.isNone k1 jY)=some r:=by
        intro k1 jY hk
        unfold BK both at hk
        cases hA:A.isNone
        ·rw [hA] at he
         cases R7:xs.isEmpty
         ·rw [R7] at hk;exact hk
         ·rw [R7] at hk
          simp only [cond_true] at hk
          split at hk
          ·rename_i h;rw [cond_false,← h];exact hk
          ·cases hk
        ·rw [he hA] at hk
         simp only [cond_true] at hk ⊢
         split at hk
         ·exact hk
         ·cases hk
       cases op <;> simp only at hk <;> try (simp at hk;done)
       ·have hk:=pick hk
        refine⟨s.dst o.dst (.aU (.bool A.isNone)),by cases A <;> exact hk,dx (fun w'=>jh ho (aD w') (by rw [iH,a_];simp only [binOp,run_bind,hb];rfl)) h (by simp only [aT,cc]) ah⟩
       ·have hk:=pick hk
        refine⟨s.dst o.dst (.aU (.bool (!A.isNone))),by cases A <;> exact hk,dx (fun w'=>jh ho (aD w') (by rw [iH,a_];simp only [binOp,run_bind,hb];rfl)) h (by simp only [aT,cc]) ah⟩
      | _=>rw [rP] at hk;simp at hk
   | _=>simp [kF] at hk
  | _=>rw [gl] at hk;cases c <;> simp [kF] at hk
 | h8 cs =>
  rw [cF] at hk hx
  simp only [aT] at hx
  cases gl:bR s y with
  | h8 ds =>
   rw [gl] at hk a_
   simp only [aT] at a_
   obtain ⟨us,hx,R8⟩:=hx
   obtain ⟨vs,a_,R9⟩:=a_
   simp only [kF] at hk
   cases he:E.I4 t
   ·rw [he] at hk;simp at hk
   rw [he] at hk
   simp only [cond_true] at hk
   cases rP:E.ty t with
   | none=>rw [rP] at hk;simp at hk
   | some T =>
   rw [rP] at hk
   simp only at hk
   cases hq:T.cmp cs ds with
   | none=>rw [hq] at hk;cases op <;> simp at hk
   | some q =>
    obtain ⟨q,bw,b9⟩:=q
    rw [hq] at hk
    match bw,b9,hq,hk with
    | [],[],hq,hk =>
     have hE:=fun w'=>hE t T he rP op x y w' Z s ι cs ds us vs q (R5 hq R8 R9 w').1 (R5 hq R8 R9 w').2 hq
     cases op <;> simp only at hk <;> try (simp at hk;done)
     ·exact⟨_,hk,dx (fun w'=>jh ho (by rw [hx,a_];exact(hE w').1) (by rw [hx,a_];exact(hE w').2.1 rfl)) h (by simp only [aT,cc]) ah⟩
     ·exact⟨_,hk,dx (fun w'=>jh ho (by rw [hx,a_];exact(hE w').1) (by rw [hx,a_];exact(hE w').2.2 rfl)) h (by simp only [aT,cc]) ah⟩
    | _ :: _,_,_,hk=>cases op <;> simp at hk
    | [],_ :: _,_,hk=>cases op <;> simp at hk
  | _=>rw [gl] at hk;simp [kF] at hk
 | opt j i =>
  rw [cF] at hk hx
  simp only [aT] at hx
  cases gl:bR s y with
  | jS =>
   rw [gl] at hk a_
   simp only [aT] at a_
   simp only [kF] at hk
   cases l0:E.tx t
   ·rw [l0] at hk;simp at hk
   rw [l0] at hk
   obtain ⟨e,hu⟩:=bX.ptr t l0
   have aD:∀w:World,(eqGuard op t x y (a.eval x) (a.eval y)).run P w=.ok () w:=by
    intro w
    rcases hx.2 with⟨_,hx⟩ | ⟨_,A,hx,_⟩ <;> exact wV (by rw [hx];exact .inr (.inr (.inr ⟨_,rfl⟩)))
   have hb:∀ {w:World},(Op.equal t (a.eval x) (.pointer none)).run P w=.ok (decide (i<0)) w:=by
    intro w
    rcases hx.2 with⟨h0,hx⟩ | ⟨h0,A,hx,_⟩
    ·rw [hx]
     unfold Op.equal Op.maxDepth Op.equalIn
     rw [run_bind,run_underlying hu]
     simp [h0,run_pure]
    ·rw [hx]
     unfold Op.equal Op.maxDepth Op.equalIn
     rw [run_bind,run_underlying hu]
     have:¬i<0:=by omega
     simp [this,run_pure]
   have ll:∀(op:BinOp) (v:Value),(op=.eql→v=.bool (decide (i<0)))→(op=.neq→v=.bool (!decide (i<0)))→(op=.eql∨op=.neq)→∀ {w:World},(binOp op t (a.eval x) (a.eval y)).run P w=.ok v w:=by
    intro op v h1 h2 h3 w
    rw [a_]
    have qe:∃q,a.eval x=.pointer q:=by rcases hx.2 with⟨_,hx⟩ | ⟨_,A,hx,_⟩ <;> exact⟨_,hx⟩
    obtain ⟨q,qe⟩:=qe
    rw [qe]
    have hb:∀ {w:World},(Op.equal t (.pointer q) (.pointer none)).run P w=.ok (decide (i<0)) w:=fun {w} => by rw [← qe];exact hb
    rcases h3 with rfl | rfl
    ·rw [h1 rfl];simp only [binOp,run_bind,hb];rfl
    ·rw [h2 rfl];simp only [binOp,run_bind,hb];rfl
   cases op <;> simp only at hk <;> try (simp at hk;done)
   ·exact⟨_,hk,dx (fun w'=>jh ho (aD w') (ll .eql _ (fun _=>rfl) (fun h=>by simp at h) (.inl rfl))) h (by simp only [aT,cc]) ah⟩
   ·exact⟨_,hk,dx (fun w'=>jh ho (aD w') (ll .neq _ (fun h=>by simp at h) (fun _=>rfl) (.inr rfl))) h (by simp only [aT,cc]) ah⟩
  | _=>rw [gl] at hk;simp [kF] at hk
 | may b dp cs =>
  rw [cF] at hk hx
  simp only [aT] at hx
  cases gl:bR s y with
  | jS =>
   rw [gl] at hk a_
   simp only [aT] at a_
   simp only [kF] at hk
   cases l0:E.tx t
   ·rw [l0] at hk;simp at hk
   rw [l0] at hk
   obtain ⟨e,hu⟩:=bX.ptr t l0
   have aD:∀w:World,(eqGuard op t x y (a.eval x) (a.eval y)).run P w=.ok () w:=by
    intro w
    rcases hx with⟨_,hx⟩ | ⟨_,_,_,_,_,hx,_⟩ <;> exact wV (by rw [hx];exact .inr (.inr (.inr ⟨_,rfl⟩)))
   have hb:∀ {w:World},(Op.equal t (a.eval x) (.pointer none)).run P w=.ok (!b) w:=by
    intro w
    rcases hx with⟨h0,hx⟩ | ⟨h0,_,_,_,_,hx,_⟩
    ·rw [hx]
     unfold Op.equal Op.maxDepth Op.equalIn
     rw [run_bind,run_underlying hu]
     simp [h0,run_pure]
    ·rw [hx]
     unfold Op.equal Op.maxDepth Op.equalIn
     rw [run_bind,run_underlying hu]
     simp [h0,run_pure]
   have ll:∀(op:BinOp) (v:Value),(op=.eql→v=.bool (!b))→(op=.neq→v=.bool (b))→(op=.eql∨op=.neq)→∀ {w:World},(binOp op t (a.eval x) (a.eval y)).run P w=.ok v w:=by
    intro op v h1 h2 h3 w
    rw [a_]
    have qe:∃q,a.eval x=.pointer q:=by rcases hx with⟨_,hx⟩ | ⟨_,_,_,_,_,hx,_⟩ <;> exact⟨_,hx⟩
    obtain ⟨q,qe⟩:=qe
    rw [qe]
    have hb:∀ {w:World},(Op.equal t (.pointer q) (.pointer none)).run P w=.ok (!b) w:=fun {w} => by rw [← qe];exact hb
    rcases h3 with rfl | rfl
    ·rw [h1 rfl];simp only [binOp,run_bind,hb];rfl
    ·rw [h2 rfl];simp only [binOp,run_bind,hb];simp only [Bool.not_not];rfl
   cases op <;> simp only at hk <;> try (simp at hk;done)
   ·exact⟨_,hk,dx (fun w'=>jh ho (aD w') (ll .eql _ (fun _=>rfl) (fun h=>by simp at h) (.inl rfl))) h (by simp only [aT,cc]) ah⟩
   ·exact⟨_,hk,dx (fun w'=>jh ho (aD w') (ll .neq _ (fun h=>by simp at h) (fun _=>rfl) (.inr rfl))) h (by simp only [aT,cc]) ah⟩
  | _=>rw [gl] at hk;simp [kF] at hk
 | ptr p =>
  rw [cF] at hk hx
  simp only [aT] at hx
  obtain ⟨_,A,hx,_⟩:=hx
  cases gl:bR s y with
  | jS =>
   rw [gl] at hk a_
   simp only [aT] at a_
   simp only [kF] at hk
   cases l0:E.tx t
   ·rw [l0] at hk;simp at hk
   rw [l0] at hk
   obtain ⟨e,hu⟩:=bX.ptr t l0
   have aD:∀w:World,(eqGuard op t x y (a.eval x) (a.eval y)).run P w=.ok () w:=fun w=>wV (by rw [hx];exact .inr (.inr (.inr ⟨_,rfl⟩)))
   have hb:∀ {w:World},(Op.equal t (.pointer (some A)) (.pointer none)).run P w=.ok false w:=by
    intro w
    unfold Op.equal Op.maxDepth Op.equalIn
    rw [run_bind,run_underlying hu]
    rfl
   cases op <;> simp only at hk <;> try (simp at hk;done)
   ·exact⟨_,hk,dx (fun w'=>jh ho (aD w') (by rw [hx,a_];simp only [binOp,run_bind,hb];rfl)) h (by simp only [aT,cc]) ah⟩
   ·exact⟨_,hk,dx (fun w'=>jh ho (aD w') (by rw [hx,a_];simp only [binOp,run_bind,hb];rfl)) h (by simp only [aT,cc];rfl) ah⟩
  | _=>rw [gl] at hk;simp [kF] at hk
 | _=>rw [cF] at hk;simp [kF] at hk
end
end Go.LM
namespace Go.LM
def cV{α : Type}(R : α → List Value→ag→Prop)(size:Nat):List α → List Value→ag→Prop
 | [],vs,_=>vs=[]
 | x :: xs,vs,F=>∃us aj G H,vs=us++aj∧R x us G∧us.length=size∧cV R size xs aj H∧ag.apart G H∧ag.sub G F∧ag.sub H F
section
variable{α : Type}{R iB : α → List Value→ag→Prop}{size:Nat}{w:World}
theorem cV.len:∀ {xs:List α} {vs:List Value} {F:ag},cV R size xs vs F→vs.length=xs.length*size
 | [],_,_,h=>by simp only [cV] at h;subst h;simp
 | x :: xs,_,_,h=>by
  obtain ⟨us,aj,G,H,rfl,_,h1,h2,_⟩:=h
  rw [List.length_append,h1,cV.len h2,List.length_cons,Nat.add_one_mul];omega
theorem cV.mono:∀ {xs:List α} {vs:List Value} {F F':ag},ag.sub F F'→cV R size xs vs F→cV R size xs vs F'
 | [],_,_,_,_,h=>h
 | x :: xs,_,_,_,hs,⟨us,aj,G,H,h1,h2,h3,h4,a7,bp,bI⟩=>⟨us,aj,G,H,h1,h2,h3,h4,a7,fun b o h=>hs b o (bp b o h),fun b o h=>hs b o (bI b o h)⟩
theorem cV.imp:∀ {xs:List α} {vs:List Value} {F:ag},cV R size xs vs F→(∀y us G,ag.sub G F→R y us G→iB y us G)→cV iB size xs vs F
 | [],_,_,h,_=>h
 | x :: xs,_,F,⟨us,aj,G,H,h1,h2,h3,h4,a7,bp,bI⟩,eM =>
  ⟨us,aj,G,H,h1,eM _ _ _ bp h2,h3,cV.imp h4 (fun y us df hs=>eM y us df fun b o h=>bI b o (hs b o h)),a7,bp,bI⟩
theorem cV.bare:∀ {xs:List α} {vs:List Value} {F:ag},cV R size xs vs F→(∀y us G,ag.sub G F→R y us G→iB y us ag.none)→cV iB size xs vs ag.none
 | [],_,_,h,_=>h
 | x :: xs,_,F,⟨us,aj,G,H,h1,h2,h3,h4,a7,bp,bI⟩,eM =>
  ⟨us,aj,ag.none,ag.none,h1,eM _ _ _ bp h2,h3,cV.bare h4 (fun y us df hs=>eM y us df fun b o h=>bI b o (hs b o h)),fun _ _ h=>h.elim,fun _ _ h=>h,fun _ _ h=>h⟩
theorem cV.append:∀ {xs ys:List α} {us vs:List Value} {F G:ag},cV R size xs us F→cV R size ys vs G→ag.apart F G→cV R size (xs++ys) (us++vs) (F.or G)
 | [],ys,us,vs,F,G,h,k,_=>by
  simp only [cV] at h;subst h
  exact k.mono fun _ _ h=>.inr h
 | x :: xs,ys,us,vs,F,G,⟨a,b,A,B,h1,h2,h3,h4,a7,bp,bI⟩,k,ha=>by
  refine⟨a,b++vs,A,B.or G,by rw [h1,List.append_assoc],h2,h3,cV.append h4 k (fun b o h=>ha b o (bI b o h)),?_,fun b o h=>.inl (bp b o h),fun b o h=>h.imp (bI b o) id⟩
  rintro b o g (h | h)
  ·exact a7 b o g h
  ·exact ha b o (bp b o g) h
theorem cV.row:∀ {xs:List α} {vs:List Value} {F:ag} {b o:Nat},cV R size xs vs F→b2 w b o vs→Row w R size xs b o F
 | [],_,_,_,_,_,_=>trivial
 | x :: xs,_,_,b,o,⟨us,aj,G,H,h1,h2,h3,h4,a7,bp,bI⟩,hc=>by
  subst h1
  exact⟨us,G,H,h2,h3,hc.left,cV.row h4 (h3 ▸ hc.right),a7,bp,bI⟩
theorem Row.tq:∀ {xs:List α} {b o:Nat} {F:ag},Row w R size xs b o F→∃vs,cV R size xs vs F∧b2 w b o vs
 | [],_,_,_,_=>⟨[],rfl,b2.nil _ _ _⟩
 | x :: xs,b,o,F,⟨us,G,H,h1,h2,h3,h4,a7,bp,bI⟩=>by
  obtain ⟨aj,k1,k2⟩:=Row.tq h4
  exact⟨us++aj,⟨us,aj,G,H,rfl,h1,h2,k1,a7,bp,bI⟩,h3.append (by rw [h2];exact k2)⟩
theorem cV.replicate{x : α}{us:List Value}(eM:R x us ag.none)(hl:us.length=size):∀n,cV R size (List.replicate n x) (List.replicate n us).flatten ag.none
 | 0=>rfl
 | n+1=>by
  rw [List.replicate_succ,List.replicate_succ,List.flatten_cons]
  exact⟨us,_,ag.none,ag.none,rfl,eM,hl,cV.replicate eM hl n,fun _ _ h=>h.elim,fun _ _ h=>h,fun _ _ h=>h⟩
end
mutual
theorem JP{w:World}{Z F:ag} : ∀(t:aa) (m:bg),t.an w Z m t.zero t.cI F
 | .int _,_=>by simp only [aa.an,aa.zero,aa.cI]
 | .bool,_=>by simp only [aa.an,aa.zero,aa.cI]
 | .str,_=>by simp only [aa.an,aa.zero,aa.cI];exact⟨_,rfl,rfl⟩
 | .raw,_=>by simp only [aa.an,aa.zero,aa.cI];exact⟨trivial,_,_,_,rfl⟩
 | .sl t,.O e=>by simp only [aa.an,aa.zero,aa.cI];exact⟨none,0,rfl,.inl (by simp)⟩
 | .sl t,.R=>by simp only [aa.an,aa.zero,aa.cI];exact⟨none,0,rfl,.inl trivial⟩
 | .sl t,.S _=>by simp only [aa.an,aa.zero,aa.cI];exact⟨none,0,rfl,.inl trivial⟩
 | .st aj,m=>by simp only [aa.an,aa.zero,aa.cI];exact R_ aj m.parts
theorem R_{w:World}{Z F:ag} : ∀(aj:az) (m:cM),aj.an w Z m aj.zero aj.cI F
 | .nil,_=>by simp only [az.an,az.cI]
 | .cons t aj,m=>by
  simp only [az.an,az.zero,az.cI]
  exact⟨t.cI,aj.cI,ag.none,ag.none,rfl,JP t m.ah,R_ aj m.du,fun _ _ h=>h.elim,fun _ _ h=>h.elim,fun _ _ h=>h.elim⟩
end
section
variable{P:Program}{Q:Exit→Act→World→Prop}
variable{w0:World}{F0 Z0:ag}{n:cB}{s aq:al}{a b6:Act}{w w':World}{ι bh:Nat→bC}{Z Z':ag}
variable{E:Env}{o:Oper}{bs : Type}{K:al→Option bs}{r : bs}{id:Nat}
theorem bE.ext{F S:ag}(hf:bE w0 F0 s w ι Z F)(hx:Ext w w' S):bE w0 F0 s w' ι Z F :=
 ⟨fun b o h=>⟨(hf.own b o h).1,Nat.lt_of_lt_of_le (hf.own b o h).2 hx.size⟩,hf.apart,hf.cW⟩
theorem Inv.fresh(h:Inv w0 F0 Z0 n s a w ι Z){F:ag}(hF:∀b o,F b o→w.heap.size≤b∧b<w'.heap.size):bE w0 F0 s w' ι Z F:=by
 have:=h.ext.size
 refine⟨fun b o hf=>⟨.inr (by have:=(hF b o hf).1;omega),(hF b o hf).2⟩,fun id hl b o h1 h2=>?_,fun b o h1 h2=>?_⟩
 ·have:=(h.own id hl b o h2).2;have:=(hF b o h1).1;omega
 ·have:=h.iC b o h2;have:=(hF b o h1).1;omega
def grown(w:World)(d:Nat)(arr:Array Value)(e:TypeId)(f:Nat×Nat):World := { w with drawn:=d,heap:=w.heap.push (.cells arr e f) }
theorem Bz(w:World)(d:Nat)(arr:Array Value)(e:TypeId)(f:Nat×Nat)(F:ag):Ext w (grown w d arr e f) F :=
 ⟨rfl,rfl,rfl,by simp [grown],fun b hb=>.inl (by simp only [grown];rw [Array.getElem?_push,if_neg (by omega)])⟩
theorem yH(w:World)(d:Nat)(arr:Array Value)(e:TypeId)(f:Nat×Nat):(grown w d arr e f).heap[w.heap.size]?=some (.cells arr e f):=by simp [grown]
theorem yG(w:World)(d:Nat)(arr:Array Value)(e:TypeId)(f:Nat×Nat)(o:Nat):(grown w d arr e f).cell? (at_ w.heap.size o)=arr[o]?:=cell_of_heap (yH ..) o
theorem IX(w:World)(d:Nat)(arr:Array Value)(e:TypeId)(f:Nat×Nat):(grown w d arr e f).heap.size=w.heap.size+1:=by simp [grown]
theorem Inv.newRow(h:Inv w0 F0 Z0 n s a w ι Z){id:Nat}(cd:s.o id=.none){t:aa}{em:bg}{xs:List t.D}{vs:List Value}{G:ag}
  (he:cV (t.an w Z em) t.size xs vs G) (hG:bE w0 F0 s w ι Z G) (d:Nat) (arr:Array Value) (e:TypeId) (f:Nat×Nat) (c:Nat)
  (hv:∀(j:Nat) (v:Value),vs[j]?=some v→arr[j]?=some v) (hc:xs.length≤c) (hsz:c*t.size≤arr.size) (hf:f.1=f.2∨c*t.size≤f.1) (hf2:t.size=1∨f.1=f.2) :
  Inv w0 F0 Z0 n (s.bL id (.row t em 0 xs)) a (grown w d arr e f) (bP ι id ⟨some (at_ w.heap.size 0),c,(ag.run w.heap.size 0 (c*t.size)).or G⟩) Z:=by
 have hx:=Bz w d arr e f ag.none
 have h1:=h.world hx
 have kI:bE w0 F0 s (grown w d arr e f) ι Z (ag.run w.heap.size 0 (c*t.size)):=h.fresh (by rintro b o ⟨rfl,_,_⟩;rw [IX];omega)
 have eV:=hG.ext hx
 refine h1.BO cd ?_ (kI.or eV)
 refine .inr ⟨at_ w.heap.size 0,rfl,rfl,hc,fun j hj=>⟨⟨⟨arr[j]'(by simp only at hj;omega),?_⟩,?_⟩,?_⟩,fun j hj=>.inl ⟨rfl,by simp [at_],by simpa [at_] using hj⟩,G,?_,?_,fun _ _ h=>.inr h⟩
 ·show World.cell? _ (at_ w.heap.size (0+j))=_
  rw [yG];simp
 ·show World.frozen? _ (at_ w.heap.size (0+j))=_
  rw [p1,yH]
  simp only at hj
  simp only [Bool.and_eq_false_iff,decide_eq_false_iff_not]
  omega
 ·refine hf2.imp (fun h=>h) fun h2 k=>?_
  show World.frozen? _ (at_ w.heap.size k)=_
  rw [p1,yH]
  simp only [Bool.and_eq_false_iff,decide_eq_false_iff_not]
  omega
 ·refine cV.row (he.imp fun y us df hs hr=>aa.an.same (b4.iE hx h.iC fun _ _ _ h=>h) _ _ (b4.iE hx (fun b o aD=>(hG.own b o (hs b o aD)).2) fun _ _ _ h=>h) hr) ?_
  intro i v hi
  show World.cell? _ (at_ w.heap.size (0+i))=_
  rw [yG,Nat.zero_add];exact hv i v hi
 ·intro j hj aD
  have:=(hG.own _ _ aD).2
  simp [at_] at this
theorem yV{id:Nat}{t:aa}{em:bg}{ver:Nat}{xs:List t.D}{A:Addr}{c:Nat}{F:ag}(hA:A.spot=none)(hc:xs.length≤c) :
  cc w Z (s.bL id (.row t em ver xs)) (bP ι id ⟨some A,c,F⟩) (.ah id none) (.slice (some A) xs.length c):=by
 refine⟨?_,some A,xs.length,c,rfl,?_⟩
 ·show bP s.o id _ id≠_
  rw [cz];simp
 ·intro cE gk mS fQ ho
  have rH:(bP s.o id (cj.row t em ver xs) id).core=.row cE gk mS fQ:=ho
  rw [cz] at rH ⊢
  obtain ⟨rfl,_,_,h4⟩:=cj.row.inj rH
  have:=eq_of_heq h4;subst this
  refine⟨rfl,by simp [d_],hc,by simp [d_],.inr ⟨A,rfl,?_⟩⟩
  simp only [d_,Nat.zero_mul,Nat.add_zero]
  cases A;simp_all [at_]
theorem R'(us:List Value):∀(n j:Nat),j<n*us.length→(List.replicate n us).flatten[j]?=us[j % us.length]?
 | 0,j,h=>by simp at h
 | n+1,j,h=>by
  rw [List.replicate_succ,List.flatten_cons]
  by_cases hj:j<us.length
  ·rw [List.getElem?_append_left hj,Nat.mod_eq_of_lt hj]
  ·have h':j<n*us.length+us.length:=by rw [← Nat.add_one_mul];exact h
   rw [List.getElem?_append_right (by omega),R' us n (j-us.length) (by omega),← Nat.mod_eq_sub_mod (by omega)]
theorem JQ{z:Array Value}{m j:Nat}(us:List Value)(n:Nat)(hz:z.toList=us)(hm:m=n*us.length)(v:Value)(h:(List.replicate n us).flatten[j]?=some v) :
  ((Array.range m).map (z[· % z.size]!))[j]?=some v:=by
 subst hz
 have hj:j<n*z.toList.length:=by
  rcases Nat.lt_or_ge j (n*z.toList.length) with h1 | h1
  ·exact h1
  ·rw [List.getElem?_eq_none (by simp;simpa using h1)] at h;simp at h
 rw [R' _ _ _ hj] at h
 have hl:z.toList.length=z.size:=by simp
 rw [hl] at h hj
 rw [Array.getElem?_map,Array.getElem?_range,if_pos (by rw [hm,hl];exact hj)]
 simp only [Option.map_some,Option.some.injEq]
 have bY:j % z.size<z.size:=by
  apply Nat.mod_lt
  rcases Nat.eq_zero_or_pos z.size with h0 | h0
  ·rw [h0] at hj;simp at hj
  ·exact h0
 rw [getElem!_pos z _ bY]
 simpa [bY] using h
theorem wrap_i64{i:Int}(h0:0≤i)(h1:i≤68719476736):IntKind.wrap .i64 i=i:=by
 simp [IntKind.wrap,IntKind.bits,IntKind.signed]
 omega
theorem acn{k:IntKind}{i:Int} :(asInt (.int k i)).run P w=.ok i w:=rfl
theorem wY(T:aa):(dD T T.cI).cells.toList=T.cI:=JE (aa.lh T) ((rM (w:=default) (Z:=ag.none) (s:=⟨fun _=>.aw,fun _=>.none,[]⟩) (ι := fun _=>⟨none,0,ag.none⟩) T).dS)
theorem run_askRoom{b:Nat} :(askRoom b).run P w=.ok () w:=by
 unfold askRoom;split <;> rfl
theorem BZ{e:TypeId}{arr:Array Value} :(newRow e arr).run P w=.ok (at_ w.heap.size 0) (grown w w.drawn arr e (0,0)):=by
 simp [newRow,Go.newObj,run_bind,Sem.run,run_pure,at_,grown]
theorem run_makeSlice{T:aa}{t e:TypeId}{k k':IntKind}{m:Int}(hu:P.underlying t=some (.slice e))(cw:T.ok P e)(h0:0≤m)(h1:m≤68719476736) :
  ∃arr:Array Value,(∀(j:Nat) (v:Value),(List.replicate m.toNat T.cI).flatten[j]?=some v→arr[j]?=some v)∧arr.size=m.toNat*T.size ∧
   (Instr.makeSlice t (.int k m) (.int k' m)).run P w=.ok (.slice (some (at_ w.heap.size 0)) m.toNat m.toNat) (grown w w.drawn arr e (0,0)):=by
 obtain ⟨i,gw,ia,wZ,JR⟩:=cw.info
 have hb:¬((i.bytes:Int)*m>2 ^ 48):=by
  have:(i.bytes:Int)*m≤2048*68719476736:=Int.mul_le_mul (by omega) h1 h0 (by omega)
  omega
 have yW:(dD T T.cI).cells.size=T.size:=by
  have:=congrArg List.length (wY T)
  rw [Array.length_toList,aa.lh] at this;exact this
 refine⟨(Array.range (m.toNat*T.size)).map fun j=>(if m.toNat*T.size=0 then #[] else(dD T T.cI).cells)[j % (if m.toNat*T.size=0 then #[] else(dD T T.cI).cells).size]!,?_,by simp,?_⟩
 ·intro j v hj
  by_cases hz:m.toNat*T.size=0
  ·have:(List.replicate m.toNat T.cI).flatten=[]:=by
    apply List.eq_nil_of_length_eq_zero
    simp [aa.lh];simpa using hz
   rw [this] at hj;simp at hj
  ·simp only [if_neg hz]
   exact JQ T.cI m.toNat (wY T) (by rw [aa.lh]) v hj
 ·unfold Instr.makeSlice
  simp only [run_bind,run_underlying hu,acn,run_typeInfo gw,wrap_i64 h0 h1]
  have rQ:¬m<0:=by omega
  simp only [rQ,hb,decide_false,Bool.or_false,Bool.false_or,Bool.false_eq_true,if_false,gt_iff_lt,Int.lt_irrefl]
  simp only [run_bind,run_askRoom,run_sizeOf cw]
  by_cases hz:m.toNat*T.size=0
  ·simp only [if_pos hz,run_bind,run_pure,BZ]
  ·simp only [if_neg hz,run_bind,run_pure,BZ,BR cw]
theorem aco{t:Nat}{x y:Operand}(bX:gL P E)(h:Inv w0 F0 Z0 n s a w ι Z)(ah:∀k,o.dst=some k→k<n)(ho:o.op=.makeSlice t x y)(hk:cL E id o s K=some r) :
  ∃aq,K aq=some r∧o.wp P a w (cQ w0 F0 Z0 n aq) Q:=by
 unfold cL at hk
 rw [ho] at hk
 simp only at hk
 cases ht:E.ty t with
 | none=>rw [ht] at hk;simp at hk
 | some T =>
  rw [ht] at hk
  cases T with
  | sl T =>
   cases hx:kn (bR s x) with
   | none=>rw [hx] at hk;simp at hk
   | some m =>
    cases a_:kn (bR s y) with
    | none=>rw [hx,a_] at hk;simp at hk
    | some m' =>
     rw [hx,a_] at hk
     obtain ⟨aD,hk2⟩:=rO hk
     clear hk
     have hk:=hk2
     clear hk2
     simp only [Bool.and_eq_true,decide_eq_true_eq,room] at aD
     obtain ⟨⟨h0,rfl⟩,h1⟩:=aD
     have h1:=Nat.le_of_ble_eq_true h1
     cases hm:mkObj s id (.row T T.own 0 (List.replicate m.toNat T.zero)) with
     | none=>rw [hm] at hk;simp at hk
     | some s1 =>
      rw [hm] at hk
      obtain ⟨cd,rfl⟩:=qc hm
      obtain ⟨k,hx⟩:=rN hx (eR h x)
      obtain ⟨k',a_⟩:=rN a_ (eR h y)
      obtain ⟨e,hu,cw⟩:=lj (bX.ty t _ ht)
      obtain ⟨arr,ha,has,hr⟩:=run_makeSlice (P:=P) (w:=w) (k:=k) (k':=k') hu cw h0 (by omega)
      have hn:=h.newRow cd (cV.replicate (JP T T.own) (aa.lh T) m.toNat) bE.none w.drawn arr e (0,0) m.toNat ha (by simp) (by omega) (.inl rfl) (.inr rfl)
      refine⟨_,hk,lX (v:=.slice (some (at_ w.heap.size 0)) m.toNat m.toNat) ?_ hn ?_ ah⟩
      ·unfold execOp;rw [ho]
       refine fU ?_
       rw [hx,a_];exact hr
      ·simp only [aT]
       have:=yV (w:=grown w w.drawn arr e (0,0)) (Z:=Z) (s:=s) (ι := ι) (id:=id) (em:=T.own) (ver:=0) (xs:=List.replicate m.toNat T.zero) (A:=at_ w.heap.size 0) (c:=m.toNat) (F:=(ag.run w.heap.size 0 (m.toNat*T.size)).or ag.none) rfl (by simp)
       simpa using this
  | _=>simp at hk
end
end Go.LM
namespace Go.LM
section
variable{P:Program}{Q:Exit→Act→World→Prop}
variable{w0:World}{F0 Z0:ag}{n:cB}{s aq:al}{a b6:Act}{w w':World}{ι bh:Nat→bC}{Z Z':ag}
variable{E:Env}{o:Oper}{bs : Type}{K:al→Option bs}{r : bs}{id:Nat}
theorem w1{k:IntKind}{t:TypeId}(h:(aa.int k).ok P t):P.underlying t=some (.int k):=by simp only [aa.ok] at h;exact h.1
theorem w2{t:TypeId}(h:aa.str.ok P t):P.underlying t=some .string:=by simp only [aa.ok] at h;exact h.1
theorem JS{w:World}{Z:ag}{k:IntKind} : ∀l:List Int,cV ((aa.int k).an w Z .R) 1 l (l.map (Value.int k)) ag.none
 | []=>rfl
 | x :: l=>⟨[.int k x],l.map (Value.int k),ag.none,ag.none,rfl,by simp only [aa.an],rfl,JS l,fun _ _ h=>h.elim,fun _ _ h=>h,fun _ _ h=>h⟩
theorem acp{e:TypeId}{b:ByteArray} :
  ∃(arr:Array Value) (c d:Nat),(Conv.stringToBytes e b).run P w=.ok (.slice (some (at_ w.heap.size 0)) b.size c) (grown w d arr e (c,c+1))∧b.size≤c∧arr.size=c ∧
   ∀(j:Nat) (v:Value),((ek b.data.toList).map (Value.int .u8))[j]?=some v→arr[j]?=some v:=by
 have hq:(Question.appendCap b.size 0 e).forced=false:=rfl
 have hsz:b.data.size=b.size:=rfl
 refine⟨(b.data.map fun x=>Value.int .u8 x.toNat)++Array.replicate (b.size+w.tape w.drawn (.appendCap b.size 0 e) % (2 ^ 63-b.size)-b.size) (.int .u8 0),b.size+w.tape w.drawn (.appendCap b.size 0 e) % (2 ^ 63-b.size),w.drawn+1,?_,by omega,by simp [hsz],?_⟩
 ·unfold Conv.stringToBytes
  simp only [run_bind,choose,Sem.run,hq,Bool.false_eq_true,if_false,Question.cut]
  simp only [newRow,Go.newObj,run_bind,Sem.run,run_pure,markStringish,Go.shape,Go.freeze]
  simp only [World.shape?,Array.getElem?_push_size,Sem.run]
  simp only [World.freeze,grown]
  simp only [Nat.succ_ne_zero,if_false,Nat.one_ne_zero,Result.ok.injEq,World.mk.injEq,true_and,and_true]
  apply Array.ext_getElem?
  intro i
  rw [Array.getElem?_modify,Array.getElem?_push,Array.getElem?_push]
  by_cases hi:w.heap.size=i
  ·subst hi
   have:b.size +(w.tape w.drawn (Question.appendCap b.size 0 e) % (2 ^ 63-b.size)+b.size-b.size)=b.size+w.tape w.drawn (Question.appendCap b.size 0 e) % (2 ^ 63-b.size):=by omega
   simp [hsz]
  ·simp [hi]
   by_cases c6:i=w.heap.size
   ·exact absurd c6.symm hi
   ·simp [c6]
 ·intro j v hj
  simp only [ek,List.map_map,List.getElem?_map,Option.map_eq_some_iff] at hj
  obtain ⟨x,hx,rfl⟩:=hj
  have bY:j<b.data.size:=by
   rcases Nat.lt_or_ge j b.data.size with h | h
   ·exact h
   ·rw [List.getElem?_eq_none (by simpa using h)] at hx;simp at hx
  rw [Array.getElem?_append_left (by simpa using bY),Array.getElem?_map]
  rw [Array.getElem?_toList] at hx
  rw [hx];rfl
theorem Sa{w:World}{k:IntKind}{b:Nat} : ∀ {l:List Int} {o:Nat} {F:ag},Row w (fun(y:Int) us _=>us=[Value.int k y]) 1 l b o F→b2 w b o (l.map (Value.int k))
 | [],_,_,_=>b2.nil _ _ _
 | x :: l,o,_,⟨us,G,H,h1,h2,h3,h4,_⟩=>by
  subst h1
  exact b2.cons h3.head (Sa h4)
theorem acq(l:List Int):∀b:ByteArray,(l.foldl (fun r n=>r.push (UInt8.ofNat n.toNat)) b).data.toList=b.data.toList++ga l:=by
 induction l with
 | nil=>intro b;simp [ga]
 | cons x l ih =>
  intro b
  rw [List.foldl_cons,ih]
  simp [ga,ByteArray.push]
theorem acr{src dst:Nat}{x:Operand}{k1 k2:IntKind}(bX:gL P E)(h:Inv w0 F0 Z0 n s a w ι Z)(ah:∀k,o.dst=some k→k<n)(ho:o.op=.convert src dst x)(hs:E.ty src=some (.int k1))(ht:E.ty dst=some (.int k2))(hk:cL E id o s K=some r) :
  ∃aq,K aq=some r∧Pure P o a w (cQ w0 F0 Z0 n aq):=by
 unfold cL at hk
 rw [ho] at hk
 simp only at hk
 have hx:=eR h x
 have ef:=bX.ty _ _ hs
 have w3:=bX.ty _ _ ht
 cases cF:bR s x with
 | aU c =>
  rw [cF] at hx hk
  simp only [aT] at hx
  unfold rA at hk
  rw [hs,ht] at hk
  cases c with
  | int k m =>
   simp only [cc] at hx
   refine⟨_,hk,dx (v:=.int k2 (k2.wrap m)) (fun w'=>?_) h (by simp only [aT,cc]) ah⟩
   unfold execOp;rw [ho]
   refine fU ?_
   rw [hx]
   unfold convert
   simp only [run_bind,run_underlying (w1 ef),run_underlying (w1 w3)]
   rfl
  | _=>simp at hk
 | _=>rw [cF] at hk;unfold rA at hk;rw [hs,ht] at hk;simp at hk
theorem acs{src dst:Nat}{x:Operand}(bX:gL P E)(h:Inv w0 F0 Z0 n s a w ι Z)(ah:∀k,o.dst=some k→k<n)(ho:o.op=.convert src dst x)(hk:cL E id o s K=some r) :
  ∃aq,K aq=some r∧o.wp P a w (cQ w0 F0 Z0 n aq) Q:=by
 unfold cL at hk
 rw [ho] at hk
 simp only at hk
 have hx:=eR h x
 have hrun:∀ {u:Value} {w':World},(convert src dst (a.eval x)).run P w=.ok u w'→(execOp a.eval o).run P w=.ok (.value u) w':=by
  intro u w' hu;unfold execOp;rw [ho];exact fU hu
 cases hs:E.ty src with
 | none=>unfold rA at hk;rw [hs] at hk;simp at hk
 | some S =>
 cases ht:E.ty dst with
 | none=>unfold rA at hk;rw [hs,ht] at hk;cases S <;> simp at hk
 | some T =>
 have ef:=bX.ty _ _ hs
 have w3:=bX.ty _ _ ht
 cases cF:bR s x with
 | aU c =>
  rw [cF] at hx
  simp only [aT] at hx
  have hk1:rA E id s src dst (.aU c) (fun v s=>K (s.dst o.dst v))=some r:=by rw [← cF];exact hk
  unfold rA at hk1
  rw [hs,ht] at hk1
  split at hk1
  ·rename_i jY k m tO tP n0
   obtain rfl:=aX tO
   obtain rfl:=aX tP
   simp only [a'.aU.injEq] at n0;subst n0
   simp only [cc] at hx
   refine⟨_,hk1,lX (hrun (u:=.int jY (jY.wrap m)) (w':=w) ?_) h (by simp only [aT,cc]) ah⟩
   rw [hx]
   unfold convert
   simp only [run_bind,run_underlying (w1 ef),run_underlying (w1 w3)]
   rfl
  ·rename_i b tO tP n0
   obtain rfl:=aX tO
   obtain rfl:=aX tP
   simp only [a'.aU.injEq] at n0;subst n0
   obtain ⟨ji,hx,nT⟩:=hx
   refine⟨_,hk1,lX (hrun (u:=a.eval x) (w':=w) ?_) h (by simp only [aT];exact⟨ji,hx,nT⟩) ah⟩
   rw [hx]
   unfold convert
   simp only [run_bind,run_underlying (w2 ef),run_underlying (w2 w3)]
   rfl
  ·rename_i b tO tP n0
   obtain rfl:=aX tO
   obtain rfl:=aX tP
   simp only [a'.aU.injEq] at n0;subst n0
   obtain ⟨ji,hx,rfl⟩:=hx
   obtain ⟨e,hu,cw⟩:=lj w3
   cases hm:mkObj s id (.row (.int .u8) .R 0 (ek ji.data.toList)) with
   | none=>rw [hm] at hk1;simp at hk1
   | some s1 =>
    rw [hm] at hk1
    obtain ⟨cd,rfl⟩:=qc hm
    obtain ⟨arr,c,d,hr,hc,has,hv⟩:=acp (P:=P) (w:=w) (e:=e) (b:=ji)
    have hlen:(ek ji.data.toList).length=ji.size:=by simp [ek]
    have hn:=h.newRow cd (t:=.int .u8) (em:=.R) (JS (ek ji.data.toList)) bE.none d arr e (c,c+1) c hv (by rw [hlen];exact hc) (by simp only [aa.size];omega) (.inr (by simp [aa.size])) (.inl rfl)
    refine⟨_,hk1,lX (hrun (u:=.slice (some (at_ w.heap.size 0)) ji.size c) ?_) hn ?_ ah⟩
    ·rw [hx]
     unfold convert
     simp only [run_bind,run_underlying (w2 ef),run_underlying hu,run_underlying (w1 cw)]
     exact hr
    ·simp only [aT]
     have:=yV (w:=grown w d arr e (c,c+1)) (Z:=Z) (s:=s) (ι := ι) (id:=id) (em:=.R) (ver:=0) (t:=.int .u8) (xs:=ek ji.data.toList) (A:=at_ w.heap.size 0) (c:=c) (F:=(ag.run w.heap.size 0 (c*(aa.int .u8).size)).or ag.none) rfl (by rw [hlen];exact hc)
     rw [hlen] at this
     exact this
  ·rename_i c' tO tP n0
   obtain rfl:=aX tO
   obtain rfl:=aX tP
   simp only [a'.aU.injEq] at n0;subst n0
   obtain ⟨e,hu,cw⟩:=lj ef
   cases hl:oN s (.int .u8) c with
   | none=>rw [hl] at hk1;simp at hk1
   | some xs =>
    rw [hl] at hk1
    simp only at hk1
    obtain ⟨cH,_,_⟩:=Jo h hl hx
    simp only [aa.an] at cH
    obtain ⟨A,rR,hv,hrow⟩:=cH
    simp only [List.cons.injEq,and_true] at hv
    have Sb:(convert src dst (a.eval x)).run P w=(Conv.bytesToString (a.eval x)).run P w:=by
     rw [hv]
     exact run_convert_bytes_string w src dst e A xs.length rR hu (w1 cw) (w2 w3)
    rcases hrow with rfl | ⟨a0,rfl,hsp,hrow,_,_⟩
    ·refine⟨_,hk1,lX (v:=.string .empty) (w':=w) (hrun ?_) h ?_ ah⟩
     ·rw [Sb,hv]
      cases A with
      | none=>rfl
      | some A =>
       exact run_bytesToString w A 0 rR [] (by rfl)
     ·simp only [aT,cc]
      exact⟨_,rfl,rfl⟩
    ·obtain ⟨cJ,dF,sp⟩:=a0
     simp only at hsp
     subst hsp
     have hc:=Sa (k:=.u8) (by simpa only [aa.size] using hrow)
     have Sc:=run_loadCells (P:=P) hc
     rw [List.length_map] at Sc
     refine⟨_,hk1,lX (v:=.string (xs.foldl (fun r n=>r.push (UInt8.ofNat n.toNat)) ByteArray.empty)) (w':=w) (hrun ?_) h ?_ ah⟩
     ·rw [Sb,hv]
      exact run_bytesToString w _ xs.length rR xs Sc
     ·simp only [aT,cc]
      exact⟨_,rfl,by rw [acq];rfl⟩
  ·simp at hk1
 | _ =>
  exfalso
  rw [cF,rA.eq_def,hs,ht] at hk
  split at hk <;> simp_all
theorem JT{fi:Bool}{k:IntKind} : ∀(l:List a') (x:Int) (vs:List Value) (k':IntKind) (z:Int),a8 w Z s ι l vs→tA fi k x l=some (k',z) →
  (vs.foldlM (if fi then Builtin.max2 else Builtin.min2) (.int k x)).run P w'=.ok (.int k' z) w'
 | [],x,vs,k',z,hr,h=>by
  simp only [a8] at hr;subst hr
  simp only [tA,Option.some.injEq,Prod.mk.injEq] at h
  obtain ⟨rfl,rfl⟩:=h
  rfl
 | v :: l,x,vs,k',z,hr,h=>by
  simp only [a8] at hr
  obtain ⟨u,us,rfl,h1,h2⟩:=hr
  cases v with
  | aU c =>
   cases c with
   | int Sd y =>
    simp only [tA] at h
    simp only [aT,cc] at h1
    subst h1
    rw [List.foldlM_cons,run_bind]
    have ih:=JT l _ us k' z h2 h
    cases fi
    ·exact ih
    ·exact ih
   | _=>simp [tA] at h
  | _=>simp [tA] at h
theorem tQ(h:Inv w0 F0 Z0 n s a w ι Z):∀l:List Operand,a8 w Z s ι (l.map (bR s)) (l.map a.eval)
 | []=>by simp only [List.map_nil,a8]
 | x :: l=>by simp only [List.map_cons,a8];exact⟨_,_,rfl,eR h x,tQ h l⟩
theorem Se{b:Builtin}{c:Call}(bX:gL P E)(h:Inv w0 F0 Z0 n s a w ι Z)(ah:∀k,o.dst=some k→k<n)(ho:o.op=.call c)(hb:c.callee=.builtin b)(hne:b≠.append)(acu:b≠.clear)(hk:cL E id o s K=some r) :
  ∃aq,K aq=some r∧Pure P o a w (cQ w0 F0 Z0 n aq):=by
 unfold cL at hk
 rw [ho] at hk
 simp only [hb] at hk
 have hvs:=tQ h c.args.toList
 have hrun:∀ {u:Value} {cs:Array Bool} {w:World},(builtin b c.argTypes o.type (c.args.map fun | .const _=>true | _=>false) (c.args.map a.eval)).run P w=.ok (.value u) w→(execOp a.eval o).run P w=.ok (.value u) w:=by
  intro u _ w hu
  unfold execOp;rw [ho]
  simp only [run_bind,resolve,hb,run_pure,invoke]
  exact hu
 have ln:(c.args.map a.eval).toList=c.args.toList.map a.eval:=by simp
 cases b with
 | append=>exact absurd rfl hne
 | clear=>exact absurd rfl acu
 | len =>
  generalize hl:c.args.toList.map (bR s)=l at hk hvs
  match l,hk,hvs with
  | [.aU jW],hk,hvs =>
   simp only [jU] at hk
   cases gx:c.argTypes.toList with
   | nil=>rw [gx] at hk;simp at hk
   | cons t aj =>
    rw [gx] at hk
    simp only at hk
    cases ht:E.ty t with
    | none=>rw [ht] at hk;simp at hk
    | some T =>
     rw [ht] at hk
     simp only at hk
     cases hf:kG s T jW
     ·rw [hf] at hk;simp at hk
     rw [hf] at hk
     simp only [cond_true] at hk
     cases hlen:nM s jW with
     | none=>rw [hlen] at hk;simp at hk
     | some m =>
      rw [hlen] at hk
      simp only [a8,aT] at hvs
      obtain ⟨u,us,he,hc,rfl⟩:=hvs
      have mT:(c.args.map a.eval)[0]?=some u:=by rw [← Array.getElem?_toList,ln,he];rfl
      have oW:c.argTypes[0]?=some t:=by rw [← Array.getElem?_toList,gx];rfl
      have cw:=bX.ty _ _ ht
      refine⟨_,hk,dx (v:=.int .i64 m) (fun w'=>hrun (cs := #[]) ?_) h (by simp only [aT,cc]) ah⟩
      unfold builtin
      refine fU ?_
      unfold Builtin.len_
      rw [mT,oW]
      simp only
      have acv:T=.str∨∃u,T=.sl u:=by
       cases jW <;> simp only [kG] at hf <;> try (simp at hf;done)
       ·exact .inl (beq_eq hf)
       ·exact .inr ⟨_,beq_eq hf⟩
       ·exact .inr ⟨_,beq_eq hf⟩
       ·split at hf
        ·exact .inr ⟨_,beq_eq hf⟩
        ·simp at hf
      rcases acv with rfl | ⟨v,rfl⟩
      ·rw [run_bind,run_underlying (w2 cw)]
       cases jW <;> simp only [kG] at hf <;> try (simp [aa.beq] at hf;done)
       ·obtain ⟨ji,rfl,rfl⟩:=hc
        simp only [nM,Option.some.injEq] at hlen
        subst hlen
        rfl
       ·split at hf <;> simp [aa.beq] at hf
      ·obtain ⟨e,hu,_⟩:=lj cw
       rw [run_bind,run_underlying hu]
       obtain ⟨A,k,rfl,_⟩:=JO rfl hf hlen hc
       rfl
  | [],hk,_=>simp [jU] at hk
  | _ :: _ :: _,hk,_=>simp [jU] at hk
  | [.aw],hk,_ | [.h8 _],hk,_ | [.ptr _],hk,_ | [.c3 _ _ _],hk,_ | [.jS],hk,_ | [.kD],hk,_ | [.opt _ _],hk,_ | [.may _ _ _],hk,_ | [.ru _],hk,_ | [.fn _ _ _],hk,_ | [.oK _],hk,_=>simp [jU] at hk
 | max =>
  simp only [jU] at hk
  cases hm:wC true (c.args.toList.map (bR s)) with
  | none=>rw [hm] at hk;simp at hk
  | some q =>
   obtain ⟨k,z⟩:=q
   rw [hm] at hk
   simp only at hk
   refine⟨_,hk,dx (v:=.int k z) (fun w'=>hrun (cs := #[]) ?_) h (by simp only [aT,cc]) ah⟩
   unfold builtin
   refine fU ?_
   unfold Builtin.max_
   rw [ln]
   generalize c.args.toList.map (bR s)=l at hm hvs
   generalize c.args.toList.map a.eval=vs at hvs
   unfold wC at hm
   split at hm
   ·simp only [a8,aT,cc] at hvs
    obtain ⟨u,us,rfl,rfl,h2⟩:=hvs
    exact JT _ _ us k z h2 hm
   ·simp at hm
 | min =>
  simp only [jU] at hk
  cases hm:wC false (c.args.toList.map (bR s)) with
  | none=>rw [hm] at hk;simp at hk
  | some q =>
   obtain ⟨k,z⟩:=q
   rw [hm] at hk
   simp only at hk
   refine⟨_,hk,dx (v:=.int k z) (fun w'=>hrun (cs := #[]) ?_) h (by simp only [aT,cc]) ah⟩
   unfold builtin
   refine fU ?_
   unfold Builtin.min_
   rw [ln]
   generalize c.args.toList.map (bR s)=l at hm hvs
   generalize c.args.toList.map a.eval=vs at hvs
   unfold wC at hm
   split at hm
   ·simp only [a8,aT,cc] at hvs
    obtain ⟨u,us,rfl,rfl,h2⟩:=hvs
    exact JT _ _ us k z h2 hm
   ·simp at hm
 | _=>simp [jU] at hk
end
end Go.LM
namespace Go.LM
theorem Sf{α : Type} : ∀(B:List (List α)) (i:Nat) (b cs:List α),B[i]?=some b→cs.length=b.length→(B.set i cs).flatten=c9 B.flatten (B.take i).flatten.length cs
 | [],i,b,cs,h,_=>by simp at h
 | x :: B,0,b,cs,h,hl=>by
  simp at h;subst h
  simp only [List.set_cons_zero,List.flatten_cons,List.take_zero,List.flatten_nil,List.length_nil]
  unfold c9
  simp [hl]
 | x :: B,i+1,b,cs,h,hl=>by
  simp only [List.getElem?_cons_succ] at h
  simp only [List.set_cons_succ,List.flatten_cons,List.take_succ_cons,List.length_append]
  rw [RE (by omega),Sf B i b cs h hl]
  congr 2;omega
theorem acw{α : Type}{B:List (List α)}{i:Nat}{b:List α}(h:B[i]?=some b):(B.take i).flatten.length+b.length≤B.flatten.length:=by
 induction B generalizing i with
 | nil=>simp at h
 | cons x B ih =>
  cases i with
  | zero=>simp at h;subst h;simp
  | succ i =>
   simp only [List.getElem?_cons_succ] at h
   have:=ih h
   simp only [List.take_succ_cons,List.flatten_cons,List.length_append];omega
theorem Sg:∀(vs:List Value) (k off:Nat) (cells:Array Value),off+k+vs.length≤cells.size →
  ((vs.zipIdx k).foldl (fun cs (c,j)=>cs.setIfInBounds (off+j) c) cells).toList=c9 cells.toList (off+k) vs
 | [],k,off,cells,_=>by simp [BP]
 | v :: vs,k,off,cells,h=>by
  simp only [List.length_cons] at h
  rw [List.zipIdx_cons,List.foldl_cons,Sg vs (k+1) off _ (by simp;omega)]
  simp only [Array.toList_setIfInBounds]
  have bY:off+k<cells.toList.length:=by simp;omega
  apply List.ext_getElem?
  intro j
  unfold c9
  simp only [List.getElem?_append,List.length_append,List.length_take,List.length_set,List.length_cons,List.getElem?_take,List.getElem?_drop,List.getElem?_set]
  have rS:min (off +(k+1)) cells.toList.length=off+k+1:=by omega
  have wU:min (off+k) cells.toList.length=off+k:=by omega
  rw [rS,wU]
  by_cases h1:j<off+k
  ·have:j≠off+k:=by omega
   simp [show j<off+k+1+vs.length by omega,show j<off+k+1 by omega,show j<off +(k+1) by omega,show j<off+k +(vs.length+1) by omega,h1,Ne.symm this]
  ·by_cases h2:j=off+k
   ·subst h2
    simp only [Array.length_toList] at bY
    simp [show off+k<off+k+1+vs.length by omega,show off+k<off +(k+1) by omega,bY]
   ·by_cases h3:j<off+k+1+vs.length
    ·rw [if_pos h3,if_neg (show ¬j<off+k+1 by omega),if_pos (show j<off+k +(vs.length+1) by omega),if_neg h1]
     rw [show j-(off+k)=(j-(off+k+1))+1 by omega,List.getElem?_cons_succ]
    ·rw [if_neg h3,if_neg (show ¬j<off+k +(vs.length+1) by omega)]
     rw [if_neg (by omega)]
     congr 1;omega
def JU(place:Nat→Option (Nat×Nat))(ty:Nat→Option aa)(lens:List Nat):Prop :=
 ∀i t,ty i=some t→place i=some ((lens.take i).sum,t.size)∧lens[i]?=some t.size
section
variable{P:Program}{Q:Exit→Act→World→Prop}
variable{w0:World}{F0 Z0:ag}{n:cB}{s aq:al}{a b6:Act}{w w':World}{ι bh:Nat→bC}{Z Z':ag}
variable{E:Env}{o:Oper}{bs : Type}{K:al→Option bs}{r : bs}{id:Nat}
theorem acx{α : Type}(B:List (List α)):B.flatten.length=(B.map List.length).sum:=by simp [List.length_flatten]
theorem JV(h:Inv w0 F0 Z0 n s a w ι Z){place:Nat→Option (Nat×Nat)}{ty:Nat→Option aa}{lens:List Nat}(mU:JU place ty lens) :
  ∀(ps:List (Nat×Operand)) (B jZ:List (List bb)) (cells:Array Value),B.map List.length=lens→bF w Z s ι B.flatten cells.toList→ry s ty ps B=some jZ →
   ∃mV,Instr.fill place cells (ps.map fun p=>(p.1,a.eval p.2))=some mV∧bF w Z s ι jZ.flatten mV.toList∧jZ.map List.length=lens
 | [],B,jZ,cells,hl,hc,hf=>by
  simp only [ry,Option.some.injEq] at hf;subst hf
  exact⟨cells,rfl,hc,hl⟩
 | (i,x) :: ps,B,jZ,cells,hl,hc,hf=>by
  simp only [ry] at hf
  cases ht:ty i with
  | none=>rw [ht] at hf;simp at hf
  | some t =>
   rw [ht] at hf
   simp only at hf
   cases hcs:iy t (bR s x) with
   | none=>rw [hcs] at hf;simp at hf
   | some cs =>
    rw [hcs] at hf
    simp only at hf
    cases hb:Nat.beq cs.length t.size
    ·rw [hb] at hf;simp at hf
    rw [hb] at hf
    simp only [cond_true] at hf
    have hb:=Nat.eq_of_beq_eq_true hb
    obtain ⟨av,qf⟩:=mU i t ht
    have hx:=rL hcs (eR h x)
    have hxl:=hx.len
    rw [hb] at hxl
    have acy:∃b,B[i]?=some b∧b.length=t.size:=by
     rw [← hl,List.getElem?_map] at qf
     cases w4:B[i]? with
     | none=>rw [w4] at qf;simp at qf
     | some b=>rw [w4] at qf;simp at qf;exact⟨b,rfl,qf⟩
    obtain ⟨b,w4,B0⟩:=acy
    have fk:(B.take i).flatten.length=(lens.take i).sum:=by rw [acx,← hl,List.map_take]
    have hle:=acw w4
    have hcl:=hc.len
    simp only [Array.length_toList] at hxl hcl
    have hnew:bF w Z s ι (B.set i cs).flatten (c9 cells.toList (lens.take i).sum (a.eval x).cells.toList):=by
     rw [Sf B i b cs w4 (by omega),fk]
     unfold c9
     have:=bF.c9 hc hx (lens.take i).sum
     unfold c9 at this
     exact this
    have acz:(B.set i cs).map List.length=lens:=by
     rw [List.map_set,hl]
     apply List.ext_getElem?
     intro j
     rw [List.getElem?_set]
     by_cases hj:i=j
     ·subst hj
      rw [qf,if_pos rfl]
      have:i<lens.length:=by
       rcases Nat.lt_or_ge i lens.length with h | h
       ·exact h
       ·rw [List.getElem?_eq_none h] at qf;simp at qf
      rw [if_pos this,hb]
     ·rw [if_neg hj]
    have acA:=Sg (a.eval x).cells.toList 0 (lens.take i).sum cells (by simp;omega)
    have ih:=JV h mU ps (B.set i cs) jZ (((a.eval x).cells.zipIdx).foldl (fun cs (c,j)=>cs.setIfInBounds ((lens.take i).sum+j) c) cells) acz (by
     rw [← Array.foldl_toList,Array.toList_zipIdx]
     rw [acA];exact hnew) hf
    obtain ⟨mV,h1,h2,h3⟩:=ih
    refine⟨mV,?_,h2,h3⟩
    rw [List.map_cons]
    unfold Instr.fill
    rw [av]
    simp only
    rw [if_neg (by simp only [Bool.or_eq_true,decide_eq_true_eq,not_or,ne_eq,Decidable.not_not];omega)]
    exact h1
def az.places:az→Nat→List (Nat×Nat)
 | .nil,_=>[]
 | .cons t aj,off=>(off,t.size) :: az.places aj (off+t.size)
theorem Sh:∀(aj:az) (cn:List Field) (off:Nat),aj.okF P cn off→cn.mapM (fun f=>(P.info? f.type).map fun i=>(f.offset,i.size))=some (aj.places off)
 | .nil,cn,off,h=>by simp only [az.okF] at h;subst h;rfl
 | .cons t aj,cn,off,h=>by
  simp only [az.okF] at h
  obtain ⟨f,lg,rfl,rfl,h1,h2⟩:=h
  obtain ⟨i,hi,hsz,_⟩:=h1.info
  have ih:=Sh aj lg _ h2
  simp only [List.mapM_cons,hi,Option.map_some,ih,az.places,hsz]
  rfl
theorem Si:∀aj:az,aj.nN.flatten=aj.jd
 | .nil=>rfl
 | .cons t aj=>by simp only [az.nN,az.jd,List.flatten_cons,Si aj]
theorem JW(t:aa):t.jd.length=t.size:=by
 have:=(rM (w:=default) (Z:=ag.none) (s:=⟨fun _=>.aw,fun _=>.none,[]⟩) (ι := fun _=>⟨none,0,ag.none⟩) t).len
 rw [← this,aa.lh]
theorem Sj:∀(aj:az) (off:Nat) (i:Nat) (t:aa),aj.nth i=some t→(aj.places off)[i]?=some (off +((aj.nN.map List.length).take i).sum,t.size)∧(aj.nN.map List.length)[i]?=some t.size
 | .nil,_,_,_,h=>by simp [az.nth] at h
 | .cons u aj,off,0,t,h=>by
  simp only [az.nth,Option.some.injEq] at h;subst h
  simp [az.places,az.nN,JW]
 | .cons u aj,off,i+1,t,h=>by
  simp only [az.nth] at h
  obtain ⟨h1,h2⟩:=Sj aj (off+u.size) i t h
  simp only [az.places,az.nN,List.map_cons,List.getElem?_cons_succ,List.take_succ_cons,List.sum_cons,JW]
  exact⟨by rw [h1];simp;omega,h2⟩
theorem Sk{t:Nat}{parts:Array (Nat×Operand)}(bX:gL P E)(h:Inv w0 F0 Z0 n s a w ι Z)(ah:∀k,o.dst=some k→k<n)(ho:o.op=.build t parts)(hk:cL E id o s K=some r) :
  ∃aq,K aq=some r∧Pure P o a w (cQ w0 F0 Z0 n aq):=by
 unfold cL at hk
 rw [ho] at hk
 simp only at hk
 cases ht:E.ty t with
 | none=>rw [ht] at hk;simp at hk
 | some T =>
  rw [ht] at hk
  cases T with
  | st aj =>
   simp only at hk
   cases hf:ry s aj.nth parts.toList aj.nN with
   | none=>rw [hf] at hk;simp at hk
   | some B =>
    rw [hf] at hk
    have cw:=bX.ty t _ ht
    obtain ⟨it,gw,ia,wZ,JR⟩:=cw.info
    simp only [aa.ok] at cw
    obtain ⟨_,cn,hu,kH⟩:=cw
    have fV:=Sh aj cn.toList 0 kH
    have B0:JU ((aj.places 0).toArray[·]?) aj.nth (aj.nN.map List.length):=by
     intro i cE hi
     have:=Sj aj 0 i cE hi
     simpa using this
    obtain ⟨mV,h1,h2,h3⟩:=JV h B0 parts.toList aj.nN B (dD (.st aj) (aa.st aj).cI).cells rfl (by
     rw [Si,wY];exact rM (.st aj)) hf
    refine⟨_,hk,dx (v:=.agg mV) (fun w'=>?_) h (by simp only [aT];exact⟨mV.toList,rfl,h2⟩) ah⟩
    unfold execOp;rw [ho]
    refine fU ?_
    refine run_build w' t _ mV ?_
    unfold Program.built
    rw [gw,hu]
    simp only [wZ,fV]
    rw [← h1]
    congr 1
    simp
  | _=>simp at hk
theorem Sl{t:aa}{m:bg}{x:t.D}{us:List Value}{F:ag}(h:t.an w (Z.or (dd ι [])) m x us F):t.an w Z m x us F :=
 aa.an.mono (fun b o hz=>by rcases hz with h | ⟨d,ah,_⟩;exact h;simp at ah) t m (fun _ _ h=>h) h
theorem Sm:∀(B:List (List bb)) (t:aa) (m:bg) (s s1:al) (xs:List t.D) (vs:List Value) (Z:ag),p3 t m B s=some (xs,s1)→Inv w0 F0 Z0 n s a w ι Z→bF w Z s ι B.flatten vs →
  ∃F Z',Inv w0 F0 Z0 n s1 a w ι Z'∧eU s ι Z s1 Z'∧bE w0 F0 s1 w ι Z' F∧cV (t.an w Z' m) t.size xs vs F∧∀b o,F b o→∃id,(s.o id).live∧(ι id).F b o
 | [],t,m,s,s1,xs,vs,Z,hi,h,hc=>by
  simp only [p3,Option.some.injEq,Prod.mk.injEq] at hi
  obtain ⟨rfl,rfl⟩:=hi
  cases vs with
  | nil=>exact⟨ag.none,Z,h,.refl,.none,rfl,fun _ _ h=>h.elim⟩
  | cons v vs=>exact hc.elim
 | cs :: B,t,m,s,s1,xs,vs,Z,hi,h,hc=>by
  simp only [p3] at hi
  obtain ⟨r,hr,hi⟩:=bj hi
  rw [List.flatten_cons] at hc
  obtain ⟨us,aj,rfl,qa,hcu,acB⟩:=hc.split
  obtain ⟨aV,bD,F,cr,he,h1,hs1,hc1,n1,cH,_,Sn,_,hF⟩:=aa.k_ t false m cs s [] r us Z hr h hcu (by simp)
  cases ea:r.2.1 with
  | cons c l=>rw [ea] at hi;simp at hi
  | nil =>
   rw [ea] at hi hc1
   simp only at hi
   obtain ⟨q,hq,hi⟩:=bj hi
   simp only [Option.some.injEq,Prod.mk.injEq] at hi
   obtain ⟨rfl,rfl⟩:=hi
   cases bD with
   | cons v l=>exact hc1.elim
   | nil =>
    rw [List.append_nil] at he
    subst he
    rw [Sn rfl] at cH
    have cH:=Sl cH
    obtain ⟨G,bJ,h2,n2,hf2,hels,hG⟩:=Sm B t m r.2.2.1 q.2 q.1 aj cr hq h1 (ab0 hs1 acB)
    refine⟨F.or G,bJ,h2,hs1.trans n2,(n1.shrink n2).or hf2,⟨us,aj,F,G,rfl,aa.an.mono n2.dC t m (fun _ _ h=>h) cH,(aa.an.len t m cH).1,hels,?_,fun _ _ h=>.inl h,fun _ _ h=>.inr h⟩,?_⟩
    ·intro b o hb aD
     obtain ⟨j,hj,yX⟩:=hG b o aD
     exact n1.apart j hj b o hb yX
    ·rintro b o (hb | hb)
     ·exact hF b o hb
     ·obtain ⟨j,hj,yX⟩:=hG b o hb
      obtain ⟨g1,g2⟩:=hs1.live hj
      exact⟨j,g1,yX⟩
theorem So{t:aa}{m:bg} : ∀(B:List (List bb)) (s:al) {xs:List t.D} {s1:al},p3 t m B s=some (xs,s1)→xs.length=B.length
 | [],s,xs,s1,h=>by simp only [p3,Option.some.injEq,Prod.mk.injEq] at h;rw [← h.1];rfl
 | cs :: B,s,xs,s1,h=>by
  simp only [p3] at h
  obtain ⟨r,hr,h⟩:=bj h
  split at h
  ·obtain ⟨q,hq,h⟩:=bj h
   simp only [Option.some.injEq,Prod.mk.injEq] at h
   rw [← h.1,List.length_cons,List.length_cons,So B _ hq]
  ·simp at h
theorem acC{T:aa}{t e len:Nat}{parts:Array (Nat×Value)}{cells:Array Value}(hu:P.underlying t=some (.slice e))(cw:T.ok P e)(hs:len*T.size≤16777216)
  (hf:Instr.fill (fun i=>some (i*T.size,T.size)) ((Array.range (len*T.size)).map ((if len*T.size=0 then #[] else(dD T T.cI).cells)[· % (if len*T.size=0 then #[] else(dD T T.cI).cells).size]!)) parts.toList=some cells) :
  (Instr.buildSlice t len parts).run P w=.ok (.slice (some (at_ w.heap.size 0)) len len) (grown w w.drawn cells e (0,0)):=by
 unfold Instr.buildSlice
 simp only [run_bind,run_underlying hu,run_sizeOf cw]
 rw [if_neg (by omega)]
 by_cases hz:len*T.size=0
 ·simp only [hz,if_true] at hf ⊢
  simp only [run_bind,run_pure,hf,BZ]
 ·simp only [hz,if_false] at hf ⊢
  simp only [run_bind,run_pure,BR cw,hf,BZ]
theorem acD{t len:Nat}{parts:Array (Nat×Operand)}(bX:gL P E)(h:Inv w0 F0 Z0 n s a w ι Z)(ah:∀k,o.dst=some k→k<n)(ho:o.op=.buildSlice t len parts)(hk:cL E id o s K=some r) :
  ∃aq,K aq=some r∧o.wp P a w (cQ w0 F0 Z0 n aq) Q:=by
 unfold cL at hk
 rw [ho] at hk
 simp only at hk
 cases ht:E.ty t with
 | none=>rw [ht] at hk;simp at hk
 | some S =>
  rw [ht] at hk
  cases S with
  | sl T =>
   simp only at hk
   cases hle:Nat.ble (len*T.size) 16777216
   ·rw [hle] at hk;simp at hk
   rw [hle] at hk
   simp only [cond_true] at hk
   have hle:=Nat.le_of_ble_eq_true hle
   cases hf:ry s (fun i=>cond (Nat.blt i len) (some T) none) parts.toList (List.replicate len T.jd) with
   | none=>rw [hf] at hk;simp at hk
   | some B =>
    rw [hf] at hk
    simp only at hk
    generalize hm:I' T s B=m at hk
    cases hi:p3 T m B s with
    | none=>rw [hi] at hk;simp at hk
    | some q =>
     obtain ⟨xs,s1⟩:=q
     rw [hi] at hk
     simp only at hk
     cases mR:mkObj s1 id (.row T m 0 xs) with
     | none=>rw [mR] at hk;simp at hk
     | some s2 =>
      rw [mR] at hk
      obtain ⟨cd,rfl⟩:=qc mR
      obtain ⟨e,hu,cw⟩:=lj (bX.ty t _ ht)
      have B0:JU (fun i=>some (i*T.size,T.size)) (fun i=>cond (Nat.blt i len) (some T) none) (List.replicate len T.size):=by
       intro i cE hi
       have hi:cond (Nat.blt i len) (some T) none=some cE:=hi
       cases hb:Nat.blt i len
       ·rw [hb] at hi;simp at hi
       ·rw [hb] at hi
        simp only [cond_true,Option.some.injEq] at hi
        subst hi
        have bY:i<len:=Nat.lt_of_lt_of_le (Nat.lt_succ_self i) (Nat.le_of_ble_eq_true hb)
        refine⟨?_,by simp [List.getElem?_replicate,bY]⟩
        rw [List.take_replicate,Nat.min_eq_left (by omega)]
        simp
      have acE:∀k,bF w Z s ι (List.replicate k T.jd).flatten (List.replicate k T.cI).flatten:=by
       intro k
       induction k with
       | zero=>exact trivial
       | succ k ih=>rw [List.replicate_succ,List.replicate_succ,List.flatten_cons,List.flatten_cons];exact(rM T).append ih
      have hcells:((Array.range (len*T.size)).map ((if len*T.size=0 then #[] else(dD T T.cI).cells)[· % (if len*T.size=0 then #[] else(dD T T.cI).cells).size]!)).toList=(List.replicate len T.cI).flatten:=by
       apply List.ext_getElem?
       intro j
       have hR:(List.replicate len T.cI).flatten.length=len*T.size:=by simp [aa.lh]
       by_cases hj:j<len*T.size
       ·have hz:¬len*T.size=0:=by omega
        simp only [if_neg hz]
        obtain ⟨v,hv⟩:∃v,(List.replicate len T.cI).flatten[j]?=some v:=⟨_,List.getElem?_eq_getElem (by omega)⟩
        rw [hv,Array.getElem?_toList]
        exact JQ T.cI len (wY T) (by rw [aa.lh]) v hv
       ·rw [List.getElem?_eq_none (by simp;omega),List.getElem?_eq_none (by omega)]
      obtain ⟨mV,h1,h2,h3⟩:=JV h B0 parts.toList (List.replicate len T.jd) B _ (by simp [JW]) (by rw [hcells];exact acE len) hf
      obtain ⟨F,cr,gw,hs1,n1,hels,_⟩:=Sm B T m s s1 xs _ Z hi h h2
      have hxl:xs.length=len:=by
       have e1:B.length=len:=by have:=congrArg List.length h3;simpa using this
       rw [← e1];exact So B s hi
      have hcs:len*T.size≤mV.size:=by
       have:=hels.len
       simp only [Array.length_toList] at this
       rw [hxl] at this;omega
      have hn:=gw.newRow cd hels n1 w.drawn mV e (0,0) len (fun j v hv=>by simpa using hv) (by omega) hcs (.inl rfl) (.inr rfl)
      refine⟨_,hk,lX (v:=.slice (some (at_ w.heap.size 0)) len len) ?_ hn ?_ ah⟩
      ·unfold execOp;rw [ho]
       refine fU ?_
       refine acC hu cw hle ?_
       rw [← h1]
       congr 1
       simp
      ·simp only [aT]
       have:=yV (w:=grown w w.drawn mV e (0,0)) (Z:=cr) (s:=s1) (ι := ι) (id:=id) (em:=m) (ver:=0) (xs:=xs) (A:=at_ w.heap.size 0) (c:=len) (F:=(ag.run w.heap.size 0 (len*T.size)).or F) rfl (by omega)
       rw [hxl] at this
       exact this
  | _=>simp at hk
end
end Go.LM
namespace Go.LM
section
variable{P:Program}{Q:Exit→Act→World→Prop}
variable{w0:World}{F0 Z0:ag}{n:cB}{s aq:al}{a b6:Act}{w w':World}{ι bh:Nat→bC}{Z Z':ag}
variable{E:Env}{o:Oper}{bs : Type}{K:al→Option bs}{r : bs}{id:Nat}
theorem Inv.B1(h:Inv w0 F0 Z0 n s a w ι Z){S:ag}(hF:bE w0 F0 s w ι Z S)(hx:Ext w w' S):Inv w0 F0 Z0 n s a w' ι Z:=by
 have hm:eA w Z s ι w' Z s ι := by
  refine⟨fun id=>.stay _ _,fun _ _ h=>h,b4.iE hx h.rI ?_⟩
  rintro b o (hz | ⟨id,hl,_,_,hf⟩) hs
  ·exact hF.cW b o hs hz
  ·exact hF.apart id hl b o hs hf
 refine h.next hm hx (fun b o hs=>(hF.own b o hs).1) (fun _ _ h=>.inl h) ?_ h.cW (fun k=>(h.tmps k).move hm) h.size h.defers
 intro id _ hne;exact absurd ⟨rfl,rfl⟩ hne
theorem Inv.freeze(h:Inv w0 F0 Z0 n s a w ι Z){S:ag}(hF:bE w0 F0 s w ι Z S):Inv w0 F0 Z0 n s a w ι (Z.or S):=by
 have hm:eA w Z s ι w (Z.or S) s ι :=⟨fun id=>.stay _ _,fun _ _ h=>.inl h,b4.refl _ _⟩
 refine h.next hm (Ext.refl _ ag.none) (fun _ _ h=>h.elim) ?_ ?_ ?_ (fun k=>(h.tmps k).move hm) h.size h.defers
 ·rintro b o (hz | hs)
  ·exact .inl hz
  ·exact .inr (hF.own b o hs)
 ·intro id _ hne;exact absurd ⟨rfl,rfl⟩ hne
 ·rintro id hl b o h1 (h2 | h2)
  ·exact h.cW id hl b o h1 h2
  ·exact hF.apart id hl b o h2 h1
theorem bE.freeze{F S:ag}(hF:bE w0 F0 s w ι Z F)(ha:ag.apart F S):bE w0 F0 s w ι (Z.or S) F :=
 ⟨hF.own,hF.apart,fun b o h1 h2=>h2.elim (hF.cW b o h1) (ha b o h1)⟩
theorem bE.sub{F G:ag}(hF:bE w0 F0 s w ι Z F)(h:ag.sub G F):bE w0 F0 s w ι Z G :=
 ⟨fun b o aD=>hF.own b o (h b o aD),fun id hl b o aD=>hF.apart id hl b o (h b o aD),fun b o aD=>hF.cW b o (h b o aD)⟩
def ag.diff(F G:ag):ag:=fun b o=>F b o∧¬G b o
theorem BA{t:aa}{m:bg} : ∀ {xs:List t.D} {vs:List Value} {F:ag},cV (t.an w Z m) t.size xs vs F→∀v∈vs,dS v=true
 | [],_,_,h=>by simp only [cV] at h;subst h;simp
 | x :: xs,_,_,⟨us,aj,G,H,h1,h2,h3,h4,_⟩=>by
  subst h1
  intro v hv
  rcases List.mem_append.1 hv with h | h
  ·exact(aa.an.len t m h2).2 v h
  ·exact BA h4 v h
theorem rp{A:Option Addr}{size m c:Nat}{vs:List Value}(hl:vs.length=m*size)(h:m=0∨∃b o,A=some (at_ b o)∧b2 w b o vs) :
  (Builtin.firstCells size m (.slice A m c)).run P w=.ok vs.toArray w:=by
 unfold Builtin.firstCells
 rcases h with rfl | ⟨b,o,rfl,hc⟩
 ·have:vs=[]:=List.eq_nil_of_length_eq_zero (by simpa using hl)
  subst this
  cases A with
  | none=>rfl
  | some A=>simp only [Nat.zero_mul];rfl
 ·simp only [← hl]
  exact run_loadCells hc
theorem B2{t:aa}{e:bg}{xs:List t.D}{v:Value}{F:ag}(h:(aa.sl t).an w Z (.O e) xs [v] F) :
  ∃A c vs,v=.slice A xs.length c∧cV (t.an w Z e) t.size xs vs F∧∀d,(Builtin.firstCells t.size xs.length v).run P { w with drawn:=d } = .ok vs.toArray { w with drawn:=d } := by
 simp only [aa.an] at h
 obtain ⟨A,c,hv,h⟩:=h
 simp only [List.cons.injEq,and_true] at hv
 subst hv
 rcases h with⟨rfl,rfl⟩ | ⟨⟨b,o,sp⟩,rfl,hr⟩
 ·exact⟨A,0,[],rfl,rfl,fun d=>rp (by simp) (.inl rfl)⟩
 ·obtain ⟨G,g1,g2,g3⟩:=hr.row
  have hsp:=hr.spot
  simp only at hsp
  subst hsp
  obtain ⟨vs,h1,h2⟩:=g1.tq
  exact⟨_,c,vs,rfl,h1.mono g3,fun d=>rp h1.len (.inr ⟨b,o,rfl,h2⟩)⟩
theorem acF{t:aa}{xs:List t.D}{v:Value}{F:ag}(h:(aa.sl t).an w Z .R xs [v] F) :
  ∃A c vs,v=.slice A xs.length c∧cV (t.an w Z .R) t.size xs vs ag.none∧∀d,(Builtin.firstCells t.size xs.length v).run P { w with drawn:=d } = .ok vs.toArray { w with drawn:=d } := by
 simp only [aa.an] at h
 obtain ⟨A,c,hv,h⟩:=h
 simp only [List.cons.injEq,and_true] at hv
 subst hv
 rcases h with rfl | ⟨⟨b,o,sp⟩,rfl,hsp,hr,_,_⟩
 ·exact⟨A,c,[],rfl,rfl,fun d=>rp (by simp) (.inl rfl)⟩
 ·simp only at hsp
  subst hsp
  obtain ⟨vs,h1,h2⟩:=hr.tq
  exact⟨_,c,vs,rfl,h1.imp (fun y us G hs hr=>rC hr |> fun h=>aa.an.mono (fun _ _ h=>h) t .R (fun _ _ h=>h.elim) h),fun d=>rp h1.len (.inr ⟨b,o,rfl,h2⟩)⟩
theorem Sp{t:aa}{c:bb}{v:Value}{ko:bg}{ys:List t.D}{s1:al}(ha:added s t c=some (ko,ys,s1))(h:Inv w0 F0 Z0 n s a w ι Z)(hc:cc w Z s ι c v) :
  ∃vs F,(Builtin.lenOf v).run P w=.ok ys.length w∧(∀d,(Builtin.firstCells t.size ys.length v).run P { w with drawn:=d } = .ok vs.toArray { w with drawn:=d })∧cV (t.an w Z ko) t.size ys vs F ∧
   Inv w0 F0 Z0 n s1 a w ι Z∧eU s ι Z s1 Z∧bE w0 F0 s1 w ι Z F:=by
 cases c with
 | nil u =>
  simp only [added] at ha
  obtain ⟨x,hx,ha⟩:=bj ha
  obtain ⟨e,rfl⟩:=gK hx
  subst e
  simp only [Option.some.injEq,Prod.mk.injEq] at ha
  obtain ⟨rfl,rfl,rfl⟩:=ha
  have hv:v=.slice none 0 0:=hc
  subst hv
  exact⟨[],ag.none,rfl,fun _=>rfl,rfl,h,.refl,.none⟩
 | bA u dp ct xs =>
  simp only [added] at ha
  cases dq:alive s dp
  ·rw [dq] at ha;simp at ha
  cases hR:(t.flat||dp.isEmpty)
  ·rw [dq,hR] at ha;simp at ha
  rw [dq,hR] at ha
  simp only [Bool.and_self,cond_true] at ha
  obtain ⟨x,hx,ha⟩:=bj ha
  obtain ⟨e,rfl⟩:=gK hx
  subst e
  simp only [Option.some.injEq,Prod.mk.injEq] at ha
  obtain ⟨rfl,rfl,rfl⟩:=ha
  obtain ⟨A,rR,vs,rfl,h1,h2⟩:=acF (P:=P) (hc.2.2.1 dq)
  refine⟨vs,ag.none,rfl,h2,?_,h,.refl,.none⟩
  simp only [Bool.or_eq_true,List.isEmpty_iff] at hR
  rcases hR with hR | rfl
  ·exact h1.imp fun y us G _ hr=>rr u hR hr
  ·exact h1.imp fun y us G _ hr=>Sl hr
 | ah j sub =>
  simp only [added] at ha
  obtain ⟨hk,A,m,rR,rfl,hh⟩:=hc
  cases ho:s.o j with
  | row u em ver xs =>
   rw [ho] at ha
   have cU:=h.fP j
   rw [ho] at cU
   have b8:(s.o j).live:=by rw [ho];trivial
   have mW:=wN cU (hh u em ver xs (k8 ho))
   cases em with
   | R =>
    simp only at ha
    obtain ⟨x,hx,ha⟩:=bj ha
    obtain ⟨e,rfl⟩:=gK hx
    subst e
    simp only [Option.some.injEq,Prod.mk.injEq] at ha
    obtain ⟨rfl,rfl,rfl⟩:=ha
    obtain ⟨mQ,c',vs,hv,h1,h2⟩:=B2 (P:=P) mW
    refine⟨vs,ag.none,?_,h2,h1.bare fun y us G _ hr=>rC hr,h,.refl,.none⟩
    rw [hv];rfl
   | O gu =>
    simp only at ha
    obtain ⟨x,hx,ha⟩:=bj ha
    obtain ⟨e,rfl⟩:=gK hx
    subst e
    simp only [Option.some.injEq,Prod.mk.injEq] at ha
    obtain ⟨rfl,rfl,rfl⟩:=ha
    obtain ⟨mQ,c',vs,hv,h1,h2⟩:=B2 (P:=P) mW
    refine⟨vs,(ι j).F,?_,h2,h1,h.take j (fun _ _ h=>h) (fun _ _ h=>.inl h),wM j b8,h.wL b8⟩
    rw [hv];rfl
   | S ms =>
    simp only at ha
    obtain ⟨x,hx,ha⟩:=bj ha
    obtain ⟨e,rfl⟩:=gK hx
    subst e
    simp only [Option.some.injEq,Prod.mk.injEq] at ha
    obtain ⟨rfl,rfl,rfl⟩:=ha
    obtain ⟨mQ,c',vs,hv,h1,h2⟩:=B2 (P:=P) mW
    refine⟨vs,(ι j).F,?_,h2,h1,h.take j (fun _ _ h=>h) (fun _ _ h=>.inl h),wM j b8,h.wL b8⟩
    rw [hv];rfl
  | _=>rw [ho] at ha;simp at ha
 | str b =>
  simp only [added] at ha
  obtain ⟨x,hx,ha⟩:=bj ha
  obtain ⟨e,rfl⟩:=gK hx
  subst e
  simp only [Option.some.injEq,Prod.mk.injEq] at ha
  obtain ⟨rfl,rfl,rfl⟩:=ha
  obtain ⟨ji,rfl,rfl⟩:=hc
  have hlen:(ek ji.data.toList).length=ji.size:=by simp [ek]
  refine⟨(ek ji.data.toList).map (Value.int .u8),ag.none,?_,?_,JS _,h,.refl,.none⟩
  ·rw [hlen];rfl
  ·intro d
   rw [hlen]
   simp only [Builtin.firstCells,run_pure]
   congr 1
   apply Array.ext'
   simp [ek]
 | _=>simp [added] at ha
theorem Sq{t:aa}{c:bb}{v:Value}{nO:bg}{xs:List t.D}{s1:al}(ha:taken s t c=some (nO,xs,s1))(h:Inv w0 F0 Z0 n s a w ι Z)(hc:cc w Z s ι c v) :
  ∃F,(aa.sl t).an w Z (.O nO) xs [v] F∧Inv w0 F0 Z0 n s1 a w ι Z∧eU s ι Z s1 Z∧bE w0 F0 s1 w ι Z F∧∀b o,F b o→∃id,(s.o id).live∧(ι id).F b o:=by
 cases c with
 | nil u =>
  simp only [taken] at ha
  obtain ⟨x,hx,ha⟩:=bj ha
  obtain ⟨e,rfl⟩:=gK hx
  subst e
  simp only [Option.some.injEq,Prod.mk.injEq] at ha
  obtain ⟨rfl,rfl,rfl⟩:=ha
  have hv:v=.slice none 0 0:=hc
  subst hv
  refine⟨ag.none,?_,h,.refl,.none,fun _ _ h=>h.elim⟩
  simp only [aa.an]
  exact⟨none,0,rfl,.inl (by simp)⟩
 | ah j sub =>
  simp only [taken] at ha
  obtain ⟨hk,A,m,rR,rfl,hh⟩:=hc
  cases ho:s.o j with
  | row u em ver xs =>
   rw [ho] at ha
   simp only at ha
   have cU:=h.fP j
   rw [ho] at cU
   have b8:(s.o j).live:=by rw [ho];trivial
   have mW:=wN cU (hh u em ver xs (k8 ho))
   obtain ⟨x,hx,ha⟩:=bj ha
   obtain ⟨e,rfl⟩:=gK hx
   subst e
   simp only [Option.some.injEq,Prod.mk.injEq] at ha
   obtain ⟨rfl,rfl,rfl⟩:=ha
   exact⟨(ι j).F,mW,h.take j (fun _ _ h=>h) (fun _ _ h=>.inl h),wM j b8,h.wL b8,fun b o hf=>⟨j,b8,hf⟩⟩
  | _=>rw [ho] at ha;simp at ha
 | _=>simp [taken] at ha
theorem acG{t:aa}{nO ko:bg}{xs ys:List t.D}{v:Value}{vs:List Value}{kJ gN:ag}(h:Inv w0 F0 Z0 n s a w ι Z)
  (hx:(aa.sl t).an w Z (.O nO) xs [v] kJ) (a_:cV (t.an w Z ko) t.size ys vs gN) (ha:bE w0 F0 s w ι Z kJ) (hb:bE w0 F0 s w ι Z gN) (lp:ag.apart kJ gN) :
  ∃Z' B3 B4,Inv w0 F0 Z0 n s a w ι Z'∧ag.sub Z Z'∧(aa.sl t).an w Z' (.O (meet nO ko)) xs [v] B3∧cV (t.an w Z' (meet nO ko)) t.size ys vs B4∧bE w0 F0 s w ι Z' B3∧bE w0 F0 s w ι Z' B4∧ag.apart B3 B4:=by
 unfold meet
 cases hm:bg.beq nO ko
 ·simp only [cond_false]
  obtain ⟨F',h1,h2⟩:=RA hx
  have ef:bE w0 F0 s w ι Z ((ag.diff kJ F').or gN):=(ha.sub fun b o h=>h.1).or hb
  refine⟨_,F',ag.none,h.freeze ef,fun _ _ h=>.inl h,aa.an.mono ?_ _ _ (fun _ _ h=>h) h2,?_,?_,.none,fun _ _ _ h=>h⟩
  ·rintro b o (hz | hz)
   ·exact .inl hz
   ·exact .inr (.inl hz)
  ·exact a_.bare fun y us G hs hr=>aa.an.read (fun _ _ h=>.inl h) t ko (fun b o aD=>.inr (.inr (hs b o aD))) hr
  ·refine(ha.sub h1).freeze ?_
   rintro b o hf (aD | aD)
   ·exact aD.2 hf
   ·exact lp b o (h1 b o hf) aD
 ·have:=bg.eq_of_beq _ _ hm
  subst this
  exact⟨Z,kJ,gN,h,fun _ _ h=>h,hx,a_,ha,hb,lp⟩
theorem IV(z:Array Value)(k:Nat):(Builtin.zeroCells z k).size=k*z.size:=by simp [Builtin.zeroCells]
theorem run_append_room{A:Option Addr}{m c k size:Nat}{vs:List Value}{vb:Value}{g' hL ty e:TypeId}{ats:Array TypeId}{args:Array Value}
  (h0:ats[0]?=some g') (h1:ats[1]?=some hL) (h2:args[0]?=some (.slice A m c)) (h3:args[1]?=some vb) (hu:P.underlying g'=some (.slice e)) (hs:(sizeOf e).run P w=.ok size w)
  (j0:P.underlying hL=some .string∨∃gu,P.underlying hL=some (.slice gu)) (n3:m+k≤c) (hl:(Builtin.lenOf vb).run P w=.ok k w) (hf:(Builtin.firstCells size k vb).run P w=.ok vs.toArray w)
  (hst:∀a,A=some a→(storeCells (a.add (m*size)) vs).run P w=.ok () w') (hn:A=none→w'=w):(Builtin.append_ ats ty args).run P w=.ok (.slice A (m+k) c) w':=by
 unfold Builtin.append_
 rcases j0 with j0 | ⟨gu,j0⟩
 all_goals
  simp only [h0,h1,h2,h3,run_bind,run_underlying hu,hs,run_underlying j0,run_pure]
  simp only [Bool.false_eq_true,if_false,run_bind,hl,if_pos n3,Bool.not_false,if_true,hf]
  cases A with
  | none=>rw [hn rfl];rfl
  | some a=>simp only [run_bind,hst a rfl,run_pure]
theorem run_append_grow{A:Option Addr}{m c k size:Nat}{us vs:List Value}{vb z:Value}{g' hL ty e:TypeId}{ats:Array TypeId}{args:Array Value}{i:TypeInfo}
  (h0:ats[0]?=some g') (h1:ats[1]?=some hL) (h2:args[0]?=some (.slice A m c)) (h3:args[1]?=some vb) (hu:P.underlying g'=some (.slice e)) (hi:P.info? e=some i) (hsz:i.size=size) (hz:i.zero=some z)
  (j0:P.underlying hL=some .string∨∃gu,P.underlying hL=some (.slice gu)) (n3:¬m+k≤c) (hl:(Builtin.lenOf vb).run P w=.ok k w)
  (B5:∀d,(Builtin.firstCells size m (.slice A m c)).run P { w with drawn:=d } = .ok us.toArray { w with drawn:=d })
  (hf:∀d,(Builtin.firstCells size k vb).run P { w with drawn:=d } = .ok vs.toArray { w with drawn:=d })
  (hr:m+k≤68719476736) (hb:i.bytes≤2048) :
  ∃q,m+k≤q∧(Builtin.append_ ats ty args).run P w=.ok (.slice (some (at_ w.heap.size 0)) (m+k) q) (grown w (w.drawn+1) (us.toArray++vs.toArray++Builtin.zeroCells z.cells (q-(m+k))) e (0,0)):=by
 have hq:(Question.appendCap (m+k) c e).forced=false:=rfl
 have acH:¬(((m+k:Nat):Int)>IntKind.i64.max):=by simp [IntKind.max,IntKind.signed,IntKind.bits];omega
 have acI:¬(Builtin.nextslicecap (m+k) c*i.bytes>2 ^ 48):=by
  have h1:=nextslicecap_le (need:=m+k) (old:=c) (by omega)
  have h2:Builtin.nextslicecap (m+k) c*i.bytes≤(2*68719476736)*2048:=Nat.mul_le_mul (by omega) hb
  omega
 have acJ:(sizeOf e).run P w=.ok size w:=by simp [sizeOf,run_bind,run_typeInfo hi,run_pure,hsz]
 have hzero:∀w:World,(zeroValue e).run P w=.ok z w:=by intro w;simp [zeroValue,run_bind,run_typeInfo hi,run_pure,hz]
 refine⟨m+k+w.tape w.drawn (.appendCap (m+k) c e) % (2 ^ 63-(m+k)),by omega,?_⟩
 unfold Builtin.append_
 rcases j0 with j0 | ⟨gu,j0⟩
 all_goals
  simp only [h0,h1,h2,h3,run_bind,run_underlying hu,acJ,run_underlying j0,run_pure]
  simp only [Bool.false_eq_true,if_false,run_bind,hl,if_neg n3,Bool.not_false,if_true,acH,false_and,run_typeInfo hi,acI,choose,Sem.run,hq,Question.cut,run_askRoom,B5,hf,hzero]
  rfl
theorem Sr{t:aa}{m:bg}{xs ys:List t.D}{k7 vb:Value}{vs:List Value}{kJ gN:ag}{g' hL ty e:TypeId}{ats:Array TypeId}{args:Array Value}
  (h0:ats[0]?=some g') (h1:ats[1]?=some hL) (h2:args[0]?=some k7) (h3:args[1]?=some vb) (hu:P.underlying g'=some (.slice e)) (cw:t.ok P e)
  (j0:P.underlying hL=some .string∨∃gu,P.underlying hL=some (.slice gu)) (hroom:xs.length+ys.length≤68719476736)
  (h:Inv w0 F0 Z0 n s a w ι Z) (cd:s.o id=.none) (hx:(aa.sl t).an w Z (.O m) xs [k7] kJ) (a_:cV (t.an w Z m) t.size ys vs gN) (ha:bE w0 F0 s w ι Z kJ) (hb:bE w0 F0 s w ι Z gN) (lp:ag.apart kJ gN)
  (hl:(Builtin.lenOf vb).run P w=.ok ys.length w) (hf:∀d,(Builtin.firstCells t.size ys.length vb).run P { w with drawn:=d } = .ok vs.toArray { w with drawn:=d }) :
  ∃u w' i,(Builtin.append_ ats ty args).run P w=.ok u w'∧Inv w0 F0 Z0 n (s.bL id (.row t m 0 (xs++ys))) a w' (bP ι id i) Z∧cc w' Z (s.bL id (.row t m 0 (xs++ys))) (bP ι id i) (.ah id none) u:=by
 obtain ⟨A,c,us,rfl,hex,B5⟩:=B2 (P:=P) hx
 obtain ⟨i,gw,ia,wZ,JR⟩:=cw.info
 have yW:(dD t t.cI).cells.size=t.size:=by
  have:=congrArg List.length (wY t)
  rw [Array.length_toList,aa.lh] at this;exact this
 have Ss:(Builtin.firstCells t.size ys.length vb).run P w=.ok vs.toArray w:=hf w.drawn
 have aqW:(Builtin.firstCells t.size xs.length (.slice A xs.length c)).run P w=.ok us.toArray w:=B5 w.drawn
 have acK:=hex.len
 have St:=a_.len
 by_cases n3:xs.length+ys.length≤c
 ·
  have hrow:=hx
  simp only [aa.an] at hrow
  obtain ⟨mQ,c',hv,hrow⟩:=hrow
  simp only [List.cons.injEq,Value.slice.injEq,and_true,true_and] at hv
  obtain ⟨rfl,rfl⟩:=hv
  rcases hrow with⟨rfl,rfl⟩ | ⟨⟨b,o,sp⟩,rfl,hr⟩
  ·have acL:ys=[]:=List.eq_nil_of_length_eq_zero (by simp at n3;simpa using n3)
   subst acL
   have Su:vs=[]:=List.eq_nil_of_length_eq_zero (by simpa using St)
   subst Su
   refine⟨.slice A 0 0,w,⟨none,0,ag.none⟩,?_,h.BO cd (.inl ⟨rfl,rfl⟩) .none,?_⟩
   ·exact run_append_room h0 h1 h2 h3 hu (run_sizeOf cw) j0 (Nat.le_refl 0) hl Ss (fun a _=>rfl) (fun _=>rfl)
   ·refine⟨by show bP s.o id _ id≠_;rw [cz];simp,A,0,0,rfl,?_⟩
    intro cE gk mS fQ ho
    have rH:(bP s.o id (cj.row t m 0 ([]++[])) id).core=.row cE gk mS fQ:=ho
    rw [cz] at rH
    obtain ⟨rfl,_,_,h4⟩:=cj.row.inj rH
    have:=eq_of_heq h4;subst this
    exact⟨rfl,by simp [d_],Nat.le_refl _,by simp [d_],.inl rfl⟩
  ·have hsp:=hr.spot
   simp only at hsp
   subst hsp
   obtain ⟨G,g1,g2,g3⟩:=hr.row
   have hle:(xs.length+ys.length)*t.size≤c*t.size:=Nat.mul_le_mul_right _ n3
   rw [Nat.add_mul] at hle
   have hwr:∀j,j<vs.length→fa w b (o+xs.length*t.size+j):=fun j hj=>by
    have:=(hr.wr (xs.length*t.size+j) (by omega)).1
    rwa [← Nat.add_assoc] at this
   have ef:bE w0 F0 s w ι Z (ag.run b o (c*t.size)):=ha.sub (by
    rintro b' o' ⟨rfl,h1,h2⟩
    have:=hr.inF (o'-o) (by omega)
    rwa [show o +(o'-o)=o' by omega] at this)
   have acM:ag.apart G (ag.run b o (c*t.size)):=by
    rintro b' o' aD ⟨rfl,h1,h2⟩
    have:=g2 (o'-o) (by omega)
    exact this (by show G b' (o +(o'-o));rw [show o +(o'-o)=o' by omega];exact aD)
   have tT:Ext w (setCells w b (o+xs.length*t.size) vs) (ag.run b o (c*t.size)):=nJ b vs w _ (fun j hj=>⟨rfl,by omega,by omega⟩)
   have hinv:=h.B1 ef tT
   obtain ⟨aV,k1,k2⟩:=g1.tq
   have Sv:=k1.len
   have mX:∀F,bE w0 F0 s w ι Z F→ag.apart F (ag.run b o (c*t.size))→b4 w (setCells w b (o+xs.length*t.size) vs) F:=fun F hF JX=>b4.iE tT (fun b o hf=>(hF.own b o hf).2) JX
   have Sw:b4 w (setCells w b (o+xs.length*t.size) vs) Z:=b4.iE tT h.iC (fun b o hz hs=>ef.cW b o hs hz)
   have acN:bE w0 F0 s w ι Z G:=ha.sub g3
   have acO:ag.apart gN (ag.run b o (c*t.size)):=by
    rintro b' o' dV ⟨rfl,h1,h2⟩
    have:=hr.inF (o'-o) (by omega)
    exact lp b' o' (by have lq:kJ b' (o +(o'-o)):=this;rwa [show o +(o'-o)=o' by omega] at lq) dV
   have e1:cV (t.an (setCells w b (o+xs.length*t.size) vs) Z m) t.size xs aV G:=k1.imp fun y us df hs hr=>aa.an.same Sw t m ((mX G acN acM).mono hs) hr
   have e2:cV (t.an (setCells w b (o+xs.length*t.size) vs) Z m) t.size ys vs gN:=a_.imp fun y us df hs hr=>aa.an.same Sw t m ((mX gN hb acO).mono hs) hr
   have kI:bE w0 F0 s (setCells w b (o+xs.length*t.size) vs) ι Z (kJ.or gN):=(ha.or hb).ext tT
   refine⟨.slice (some (at_ b o)) (xs.length+ys.length) c,_,⟨some (at_ b o),c,kJ.or gN⟩,?_,hinv.BO cd ?_ kI,?_⟩
   ·have hst:=By (P:=P) (b:=b) (o:=o+xs.length*t.size) vs w 0 (BA a_) (fun j hj=>by simpa using hwr j hj)
    simp only [Nat.add_zero] at hst
    refine run_append_room h0 h1 h2 h3 hu (run_sizeOf cw) j0 n3 hl Ss (fun a ha=>?_) (fun h=>by simp at h)
    obtain rfl:=aX ha
    rw [show(⟨b,o,none⟩:Addr).add (xs.length*t.size)=at_ b (o+xs.length*t.size) from p6 _ _ _]
    exact hst
   ·refine .inr ⟨at_ b o,rfl,rfl,by simpa using n3,fun j hj=>(tT.kk (hr.wr j hj)),fun j hj=>.inl (hr.inF j hj),G.or gN,?_,?_,fun b o h=>h.imp (g3 b o) (fun h=>h)⟩
    ·refine(e1.append e2 fun b o aD hf=>lp b o (g3 b o aD) hf).row ?_
     refine b2.append (k2.of_eq fun j hj=>?_) ?_
     ·rw [Sv] at hj
      refine(wK b vs w _ (fun i hi=>(hwr i hi).1) b (o+j)).trans (if_neg ?_)
      omega
     ·rw [Sv];exact ab1 hwr
    ·rintro j hj (aD | aD)
     ·exact g2 j hj aD
     ·exact lp _ _ (hr.inF j hj) aD
   ·have:=yV (w:=setCells w b (o+xs.length*t.size) vs) (Z:=Z) (s:=s) (ι := ι) (id:=id) (em:=m) (ver:=0) (xs:=xs++ys) (A:=at_ b o) (c:=c) (F:=kJ.or gN) rfl (by simpa using n3)
    rw [List.length_append] at this
    exact this
 ·
  obtain ⟨q,hq,hrun⟩:=run_append_grow (P:=P) (w:=w) (ty:=ty) h0 h1 h2 h3 hu gw ia wZ j0 n3 hl B5 hf hroom JR
  have hn:=h.newRow cd (hex.append a_ lp) (ha.or hb) (w.drawn+1) (us.toArray++vs.toArray++Builtin.zeroCells (dD t t.cI).cells (q-(xs.length+ys.length))) e (0,0) q (by
   intro j v hv
   rw [Array.getElem?_append_left]
   ·simpa [← List.getElem?_append] using hv
   ·rcases Nat.lt_or_ge j (us++vs).length with h | h
    ·simpa using h
    ·rw [List.getElem?_eq_none h] at hv;simp at hv) (by simpa using hq) (by
   simp only [Array.size_append,List.size_toArray,IV,yW,acK,St]
   rw [Nat.sub_mul,Nat.add_mul]
   have:(xs.length+ys.length)*t.size≤q*t.size:=Nat.mul_le_mul_right _ hq
   rw [Nat.add_mul] at this
   omega) (.inl rfl) (.inr rfl)
  refine⟨_,_,_,hrun,hn,?_⟩
  have:=yV (w:=grown w (w.drawn+1) (us.toArray++vs.toArray++Builtin.zeroCells (dD t t.cI).cells (q-(xs.length+ys.length))) e (0,0)) (Z:=Z) (s:=s) (ι := ι) (id:=id) (em:=m) (ver:=0) (xs:=xs++ys) (A:=at_ w.heap.size 0) (c:=q) (F:=(ag.run w.heap.size 0 (q*t.size)).or (kJ.or gN)) rfl (by simpa using hq)
  rw [List.length_append] at this
  exact this
theorem Sx{aj:List Nat}{t:aa}(bX:gL P E)(gx:wD E aj=some t):∃g' hL rest e,aj=g' :: hL :: rest∧P.underlying g'=some (.slice e)∧t.ok P e∧(P.underlying hL=some .string∨∃gu,P.underlying hL=some (.slice gu)):=by
 unfold wD at gx
 split at gx
 ·rename_i g' hL rest
  split at gx
  ·rename_i t1 t2 h1 h2
   obtain rfl:=aX gx
   obtain ⟨e,hu,cw⟩:=lj (bX.ty _ _ h1)
   obtain ⟨gu,yY,_⟩:=lj (bX.ty _ _ h2)
   exact⟨g',hL,rest,e,rfl,hu,cw,.inr ⟨gu,yY⟩⟩
  ·rename_i t1 h1 h2
   obtain rfl:=aX gx
   obtain ⟨e,hu,cw⟩:=lj (bX.ty _ _ h1)
   exact⟨g',hL,rest,e,rfl,hu,cw,.inl (w2 (bX.ty _ _ h2))⟩
  ·simp at gx
 ·simp at gx
theorem JY{t:aa}{u:Value}{c:bb}{x:a'}(hx:oneCell t x=some c)(hr:aT w Z s ι x u):cc w Z s ι c u:=by
 cases x <;> simp only [oneCell] at hx <;> try (simp at hx;done)
 ·obtain rfl:=aX hx
  simpa only [aT] using hr
 ·obtain rfl:=aX hx
  simp only [aT] at hr
  exact hr
theorem acP{c:Call}(bX:gL P E)(h:Inv w0 F0 Z0 n s a w ι Z)(ah:∀k,o.dst=some k→k<n)(ho:o.op=.call c)(hb:c.callee=.builtin .append)(hk:cL E id o s K=some r) :
  ∃aq,K aq=some r∧o.wp P a w (cQ w0 F0 Z0 n aq) Q:=by
 unfold cL at hk
 rw [ho] at hk
 simp only [hb] at hk
 have hvs:=tQ h c.args.toList
 have ln:(c.args.map a.eval).toList=c.args.toList.map a.eval:=by simp
 generalize hl:c.args.toList.map (bR s)=l at hk hvs
 match l,hk,hvs with
 | [],hk,_=>simp [jU] at hk
 | [_],hk,_=>simp [jU] at hk
 | _ :: _ :: _ :: _,hk,_=>simp [jU] at hk
 | [k7,vb],hk,hvs =>
  simp only [jU] at hk
  simp only [a8] at hvs
  obtain ⟨Sy,_,he,mY,acQ,_,rfl,JZ,rfl⟩:=hvs
  cases gx:wD E c.argTypes.toList with
  | none=>rw [gx] at hk;simp at hk
  | some t =>
   rw [gx] at hk
   simp only at hk
   obtain ⟨g',hL,rest,e,l1,hu,cw,j0⟩:=Sx bX gx
   cases B6:oneCell t k7 with
   | none=>rw [B6] at hk;simp at hk
   | some J0 =>
    cases tU:oneCell t vb with
    | none=>rw [B6,tU] at hk;simp at hk
    | some cb =>
      rw [B6,tU] at hk
      simp only [Ro] at hk
      have mZ:=JY B6 mY
      have hb1:=JY tU JZ
      cases qg:added s t cb with
      | none=>rw [qg] at hk;simp at hk
      | some q =>
       obtain ⟨ko,ys,s1⟩:=q
       rw [qg] at hk
       simp only at hk
       obtain ⟨vs,gN,hlen,qh,hels,h1,hs1,n1⟩:=Sp (P:=P) qg h hb1
       cases oX:taken s1 t J0 with
       | none=>rw [oX] at hk;simp at hk
       | some q =>
        obtain ⟨nO,xs,s2⟩:=q
        rw [oX] at hk
        simp only at hk
        obtain ⟨kJ,hx,h2,n2,hf2,b8⟩:=Sq oX h1 (mZ.move hs1.d')
        cases mR:mkObj s2 id (.row t (meet nO ko) 0 (xs++ys)) with
        | none=>rw [mR] at hk;simp at hk
        | some s3 =>
         rw [mR] at hk
         obtain ⟨hroom,hk2⟩:=rO hk
         clear hk
         obtain ⟨cd,rfl⟩:=qc mR
         obtain ⟨bJ,B3,B4,h3,_,tT,BU,acR,dV,acS⟩:=acG h2 hx hels hf2 (n1.shrink n2) (by
          intro b o acT acU
          obtain ⟨j,hj,yX⟩:=b8 b o acT
          exact n1.apart j hj b o acU yX)
         obtain ⟨u,w',bh,hrun,hinv,hcell⟩:=Sr (P:=P) (id:=id) (ty:=o.type) (ats:=c.argTypes) (args:=c.args.map a.eval) (by rw [← Array.getElem?_toList,l1];rfl) (by rw [← Array.getElem?_toList,l1];rfl)
          (by rw [← Array.getElem?_toList,ln,he];rfl) (by rw [← Array.getElem?_toList,ln,he];rfl) hu cw j0 (Nat.le_of_ble_eq_true hroom) h3 cd tT BU acR dV acS hlen qh
         refine⟨_,hk2,lX (v:=u) (w':=w') ?_ hinv (by simp only [aT];exact hcell) ah⟩
         unfold execOp;rw [ho]
         simp only [run_bind,resolve,hb,run_pure,invoke]
         unfold builtin
         exact fU hrun
theorem cV.cut{α : Type}{R : α → List Value→ag→Prop}{size:Nat} : ∀ {xs:List α} {vs:List Value} {F:ag} (k:Nat),cV R size xs vs F→cV R size (xs.take k) (vs.take (k*size)) F∧cV R size (xs.drop k) (vs.drop (k*size)) F
 | xs,vs,F,0,h=>by simp only [Nat.zero_mul,List.take_zero,List.drop_zero];exact⟨rfl,h⟩
 | [],vs,F,k+1,h=>by simp only [cV] at h;subst h;simp [cV]
 | x :: xs,vs,F,k+1,⟨us,aj,G,H,h1,h2,h3,h4,a7,bp,bI⟩=>by
  obtain ⟨p,q⟩:=cV.cut k h4
  subst h1
  have e:(k+1)*size=us.length+k*size:=by rw [Nat.add_one_mul,h3];omega
  refine⟨⟨us,aj.take (k*size),G,H,?_,h2,h3,p,a7,bp,bI⟩,?_⟩
  ·rw [e,List.take_length_add_append]
  ·rw [e,List.drop_length_add_append];exact q.mono bI
theorem acV(us:List Value)(z:Array Value)(hz:z.toList=us)(n:Nat):(Builtin.zeroCells z n).toList=(List.replicate n us).flatten:=by
 have hl:(Builtin.zeroCells z n).toList.length=(List.replicate n us).flatten.length:=by
  rw [Array.length_toList,IV];subst hz;simp
 refine List.ext_getElem? fun j=>?_
 cases hj:(List.replicate n us).flatten[j]? with
 | none =>
  rw [List.getElem?_eq_none_iff] at hj ⊢
  omega
 | some v =>
  have:=JQ (z:=z) (m:=n*z.size) us n hz (by subst hz;simp) v hj
  rw [Array.getElem?_toList]
  exact this
theorem Inv.rewrite(h:Inv w0 F0 Z0 n s a w ι Z){id:Nat}{t:aa}{em:bg}{ver:Nat}{xs fQ:List t.D}(ho:s.o id=.row t em ver xs)(hl:xs.length=fQ.length)(hx:Ext w w' (ι id).F)
  (cU:eA w Z s ι w' Z (s.bL id (.row t em (ver+1) fQ)) ι → hO w' Z (s.bL id (.row t em (ver+1) fQ)) ι (ι id) (.row t em (ver+1) fQ)):Inv w0 F0 Z0 n (s.bL id (.row t em (ver+1) fQ)) a w' ι Z:=by
 have b8:(s.o id).live:=by rw [ho];trivial
 let o':cj:=.row t em (ver+1) fQ
 have hm:eA w Z s ι w' Z (s.bL id o') ι := by
  refine⟨fun j=>?_,fun _ _ h=>h,b4.iE hx h.rI ?_⟩
  ·show iD (s.o j) (ι j) (bP s.o id o' j) (ι j)
   by_cases hj:id=j
   ·subst hj;rw [cz,ho];exact .row _ _ _ _ _ _ _ _ _ (by omega) (by omega) rfl rfl
   ·rw [cK hj];exact .stay _ _
  ·rintro b o (hz | ⟨dO,gf,p8,_,hf⟩) ib
   ·exact h.cW id b8 b o ib hz
   ·have hne:dO≠id:=by
     rintro rfl
     have:bP s.o dO o' dO=s.o dO:=p8
     rw [cz,ho] at this
     injection this with h1 h2 h3
     omega
    exact h.apart dO id gf b8 hne b o hf ib
 have rK:∀ {j},id≠j→((s.bL id o').o j).live→(s.o j).live:=fun hj hl=>by
  have:(bP s.o id o' _).live:=hl
  rwa [cK hj] at this
 refine h.next hm hx (fun b o hf=>(h.own id b8 b o hf).1) (fun _ _ h=>.inl h) ?_ ?_ (fun k=>(h.tmps k).move hm) h.size h.defers
 ·intro j hl hne
  by_cases hj:id=j
  ·subst hj
   refine⟨?_,fun b o hf=>⟨(h.own _ b8 b o hf).1,Nat.lt_of_lt_of_le (h.own _ b8 b o hf).2 hx.size⟩,fun dO gf jB=>h.apart id dO b8 (rK jB gf) jB⟩
   show hO _ _ _ _ _ (bP s.o id o' id)
   rw [cz]
   exact cU hm
  ·exact absurd ⟨cK hj,rfl⟩ hne
 ·intro j hl
  by_cases hj:id=j
  ·subst hj;exact h.cW _ b8
  ·exact h.cW j (rK hj hl)
theorem acW{t e ty:TypeId}{T:aa}{A:Option Addr}{k c:Nat}(hu:P.underlying t=some (.slice e))(cw:T.ok P e){b o:Nat}(hA:0<k→A=some (at_ b o))(hw:∀j,j<k*T.size→fa w b (o+j)) :
  (Builtin.clear_ #[t] ty #[.slice A k c]).run P w=.ok (.tuple #[]) (setCells w b o (List.replicate k T.cI).flatten):=by
 rcases Nat.eq_zero_or_pos k with rfl | hk
 ·unfold Builtin.clear_
  cases A <;>(simp only [List.getElem?_toArray,List.getElem?_cons_zero,run_bind,run_underlying hu];rfl)
 ·rw [hA hk]
  obtain ⟨m,rfl⟩:∃m,k=m+1:=⟨k-1,by omega⟩
  have hc:=acV T.cI (dD T T.cI).cells (wY T) (m+1)
  have h1:∀v∈(List.replicate (m+1) T.cI).flatten,dS v=true:=by
   intro v hv
   rw [List.mem_flatten] at hv
   obtain ⟨l,h1,h2⟩:=hv
   rw [(List.mem_replicate.1 h1).2] at h2
   exact((rM (w:=default) (Z:=ag.none) (s:=⟨fun _=>.aw,fun _=>.none,[]⟩) (ι := fun _=>⟨none,0,ag.none⟩) T).dS) v h2
  have hst:=By (P:=P) (b:=b) (o:=o) _ w 0 h1 (fun i hi=>by
   have:=hw i (by simpa [aa.lh] using hi)
   simpa using this)
  unfold Builtin.clear_
  simp only [List.getElem?_toArray,List.getElem?_cons_zero,run_bind,run_underlying hu,BR cw,hc]
  simp only [Nat.add_zero] at hst
  rw [hst]
  rfl
theorem acX{c:Call}(bX:gL P E)(h:Inv w0 F0 Z0 n s a w ι Z)(ah:∀k,o.dst=some k→k<n)(ho:o.op=.call c)(hb:c.callee=.builtin .clear)(hk:cL E id o s K=some r) :
  ∃aq,K aq=some r∧o.wp P a w (cQ w0 F0 Z0 n aq) Q:=by
 unfold cL at hk
 rw [ho] at hk
 simp only [hb] at hk
 have hvs:=tQ h c.args.toList
 have ln:(c.args.map a.eval).toList=c.args.toList.map a.eval:=by simp
 generalize hl:c.args.toList.map (bR s)=l at hk hvs
 match l,hk,hvs with
 | [.aU (.ah i sub)],hk,hvs =>
  simp only [jU] at hk
  cases gx:c.argTypes.toList with
  | nil=>rw [gx] at hk;simp at hk
  | cons t aj =>
   rw [gx] at hk
   simp only at hk
   cases ht:E.ty t with
   | none=>rw [ht] at hk;simp at hk
   | some T =>
    cases bU:s.o i with
    | row v em ver xs =>
     rw [ht,bU] at hk
     cases T with
     | sl u =>
      simp only at hk
      cases hf:(aa.beq u v&&v.flat)
      ·rw [hf] at hk;simp at hk
      rw [hf] at hk
      simp only [cond_true] at hk
      simp only [Bool.and_eq_true] at hf
      obtain ⟨hf,hR⟩:=hf
      have:=aa.eq_of_beq _ _ hf
      subst this
      simp only [a8,aT] at hvs
      obtain ⟨aqX,us,he,⟨mP,A,k,jW,rfl,hh⟩,rfl⟩:=hvs
      obtain ⟨e,hu,cw⟩:=lj (bX.ty _ _ ht)
      have hr:=hh u em ver xs (k8 bU)
      obtain ⟨fW,Sz,aqY,rc,B7⟩:=hr
      have hkk:k=k4 sub xs:=by
       rw [fW];cases sub with
       | none=>rfl
       | some p=>rfl
      rw [← hkk] at hk
      generalize ic:d_ sub=lo at *
      have mT:(c.args.map a.eval) = #[.slice A k jW]:=by
       apply Array.ext'
       rw [ln,he]
      have oW:c.argTypes[0]?=some t:=by rw [← Array.getElem?_toList,gx];rfl
      have hlen:xs.length=(xs.take lo++List.replicate k u.zero++xs.drop (lo+k)).length:=by simp;omega
      have SA:=h.fP i
      rw [bU] at SA
      have hfin:∃(b B8:Nat),(0<k→A=some (at_ b B8))∧(∀j,j<k*u.size→fa w b (B8+j))∧Inv w0 F0 Z0 n (s.bL i (.row u em (ver+1) (xs.take lo++List.replicate k u.zero++xs.drop (lo+k)))) a (setCells w b B8 (List.replicate k u.cI).flatten) ι Z:=by
       rcases SA with⟨h1,h2⟩ | ⟨a0,gM,hrow⟩
       ·have hk0:k=0:=by rw [h1] at Sz;simp at Sz;omega
        subst hk0
        refine⟨0,0,fun h=>by omega,fun j hj=>by omega,?_⟩
        refine h.rewrite bU hlen (Ext.refl _ _) fun _=>?_
        exact .inl ⟨by rw [h1];simp,h2⟩
       ·have hle:(lo+k)*u.size≤(ι i).cap*u.size:=Nat.mul_le_mul_right _ (by have:=hrow.cap;omega)
        rw [Nat.add_mul] at hle
        have hwr:∀j,j<k*u.size→fa w a0.block (a0.off+lo*u.size+j):=fun j hj=>by
         have:=(hrow.wr (lo*u.size+j) (by omega)).1;rwa [← Nat.add_assoc] at this
        have yW:(List.replicate k u.cI).flatten.length=k*u.size:=by simp [aa.lh]
        have hx:Ext w (setCells w a0.block (a0.off+lo*u.size) (List.replicate k u.cI).flatten) (ι i).F:=nJ _ _ _ _ fun j hj=>by
         have:=hrow.inF (lo*u.size+j) (by omega);rwa [← Nat.add_assoc] at this
        refine⟨a0.block,a0.off+lo*u.size,fun hk0=>?_,hwr,h.rewrite bU hlen hx fun _=>.inr ⟨a0,gM,hrow.spot,by rw [← hlen];exact hrow.cap,fun j hj=>hx.kk (hrow.wr j hj),hrow.inF,ag.none,?_,fun _ _ h=>h,fun _ _ h=>h.elim⟩⟩
        ·rcases B7 with B7 | ⟨a1,hb1,B7⟩
         ·omega
         ·rw [gM] at hb1
          obtain rfl:=aX hb1
          exact B7
        ·obtain ⟨G,bw,b9,gd⟩:=hrow.row
         obtain ⟨us,e1,e2⟩:=Row.tq bw
         have e1:cV (u.an (setCells w a0.block (a0.off+lo*u.size) (List.replicate k u.cI).flatten) Z em) u.size xs us ag.none:=e1.bare fun y us df _ a_ =>
          rr u (F:=ag.none) hR (aa.an.same (Z:=ag.none) (fun _ _ h=>h.elim) u em (F:=ag.none) (fun _ _ h=>h.elim) (rr u hR a_))
         have qa:=e1.len
         have hsp:=rq (k:=lo*u.size) (vs:=(List.replicate k u.cI).flatten) e2 (fun i hi=>(hrow.wr i (by
          have:xs.length*u.size≤(ι _).cap*u.size:=Nat.mul_le_mul_right _ hrow.cap
          omega)).1) (by
          rw [yW,qa,← Nat.add_mul];exact Nat.mul_le_mul_right _ (by omega))
         refine cV.row ?_ hsp
         have c1:=(e1.cut lo).1
         have gv:=(e1.cut (lo+k)).2
         have yZ:=cV.replicate (R:=u.an (setCells w a0.block (a0.off+lo*u.size) (List.replicate k u.cI).flatten) Z em) (JP u em) (aa.lh u) k
         have:=((c1.append yZ fun _ _ h _=>h.elim).append gv fun _ _ _ h=>h.elim)
         unfold c9
         rw [yW,← Nat.add_mul]
         refine this.bare fun y us G _ a_=>rr u hR a_
      obtain ⟨b,B8,hA,hw,hi⟩:=hfin
      refine⟨_,hk,lX (v:=.tuple #[]) ?_ hi (by simp only [aT,a8];exact⟨[],rfl,rfl⟩) ah⟩
      unfold execOp;rw [ho]
      simp only [run_bind,resolve,hb,run_pure,invoke]
      unfold builtin
      refine fU ?_
      have hrun:=acW (P:=P) (w:=w) (ty:=o.type) (c:=jW) hu cw hA hw
      rw [mT]
      have acY:Builtin.clear_ c.argTypes o.type #[.slice A k jW]=Builtin.clear_ #[t] o.type #[.slice A k jW]:=by
       unfold Builtin.clear_;rw [oW];rfl
      rw [acY]
      exact hrun
     | _=>simp at hk
    | _=>rw [ht,bU] at hk;cases T <;> simp at hk
 | [],hk,_=>simp [jU] at hk
 | _ :: _ :: _,hk,_=>simp [jU] at hk
 | [.aw],hk,_ | [.h8 _],hk,_ | [.ptr _],hk,_ | [.c3 _ _ _],hk,_ | [.jS],hk,_ | [.kD],hk,_ | [.opt _ _],hk,_ | [.may _ _ _],hk,_ | [.ru _],hk,_ | [.fn _ _ _],hk,_ | [.oK _],hk,_=>simp [jU] at hk
 | [.aU (.int _ _)],hk,_ | [.aU (.bool _)],hk,_ | [.aU (.str _)],hk,_ | [.aU (.nil _)],hk,_ | [.aU (.bA _ _ _ _)],hk,_=>simp [jU] at hk
end
end Go.LM
namespace Go.LM
theorem Row.B9{α : Type}{w:World}{R : α → List Value→ag→Prop}{size:Nat} : ∀ {x:List α} {b o:Nat} {F:ag} (i:Nat) (hi:i<x.length),Row w R size x b o F →
  ∃G1 iJ G2 vs,Row w R size (x.take i) b o G1∧R x[i] vs iJ∧vs.length=size∧b2 w b (o+i*size) vs∧Row w R size (x.drop (i+1)) b (o +(i+1)*size) G2 ∧
   ag.apart G1 iJ∧ag.apart G1 G2∧ag.apart iJ G2∧ag.sub G1 F∧ag.sub iJ F∧ag.sub G2 F
 | y :: x,b,o,F,0,_,⟨vs,G,H,h1,h2,h3,h4,a7,bp,bI⟩ =>
  ⟨ag.none,G,H,vs,trivial,h1,h2,by simpa using h3,by simpa using h4,fun _ _ h=>h.elim,fun _ _ h=>h.elim,a7,fun _ _ h=>h.elim,bp,bI⟩
 | y :: x,b,o,F,i+1,hi,⟨vs,G,H,h1,h2,h3,h4,a7,bp,bI⟩=>by
  obtain ⟨G1,iJ,G2,us,k1,k2,k3,bf,bm,dJ,dG,cY,eb,dr,cC⟩:=Row.B9 i (by simpa using hi) h4
  refine⟨G.or G1,iJ,G2,us,⟨vs,G,G1,h1,h2,h3,k1,fun b o h k=>a7 b o h (eb b o k),fun _ _ h=>.inl h,fun _ _ h=>.inr h⟩,k2,k3,?_,?_,?_,?_,cY,?_,fun b o h=>bI b o (dr b o h),fun b o h=>bI b o (cC b o h)⟩
  ·rwa [show o +(i+1)*size=o+size+i*size by rw [Nat.add_one_mul];omega]
  ·have e:o +(i+1+1)*size=o+size +(i+1)*size:=by rw [Nat.add_one_mul (i+1)];omega
   rw [e];exact bm
  ·rintro b o (h | h) k
   ·exact a7 b o h (dr b o k)
   ·exact dJ b o h k
  ·rintro b o (h | h) k
   ·exact a7 b o h (cC b o k)
   ·exact dG b o h k
  ·rintro b o (h | h)
   ·exact bp b o h
   ·exact bI b o (eb b o h)
theorem Row.B_{α : Type}{w:World}{R : α → List Value→ag→Prop}{size:Nat}{y : α}{vs:List Value}{iJ:ag} : ∀ {x:List α} {b o:Nat} {G1 G2:ag} (i:Nat),i<x.length→Row w R size (x.take i) b o G1→R y vs iJ→vs.length=size →
  b2 w b (o+i*size) vs→Row w R size (x.drop (i+1)) b (o +(i+1)*size) G2→ag.apart G1 iJ→ag.apart G1 G2→ag.apart iJ G2→Row w R size (x.set i y) b o (G1.or (iJ.or G2))
 | [],_,_,_,_,_,hi,_,_,_,_,_,_,_,_=>by simp at hi
 | z :: x,b,o,G1,G2,0,_,_,h2,h3,h4,a7,_,_,c7 =>
  ⟨vs,iJ,G2,h2,h3,by simpa using h4,by simpa using a7,c7,fun _ _ h=>.inr (.inl h),fun _ _ h=>.inr (.inr h)⟩
 | z :: x,b,o,G1,G2,i+1,hi,⟨ws,A,B,a1,a2,a3,a4,a5,J1,J2⟩,h2,h3,h4,a7,bp,bI,c7=>by
  have e1:o +(i+1)*size=o+size+i*size:=by rw [Nat.add_one_mul];omega
  have e2:o +(i+1+1)*size=o+size +(i+1)*size:=by rw [Nat.add_one_mul (i+1)];omega
  have:=Row.B_ i (by simpa using hi) a4 h2 h3 (by rwa [← e1]) (by rw [← e2];exact a7) (fun b o x y=>bp b o (J2 b o x) y) (fun b o x y=>bI b o (J2 b o x) y) c7
  refine⟨ws,A,_,a1,a2,a3,this,?_,fun b o h=>.inl (J1 b o h),?_⟩
  ·rintro b o x (y | y | y)
   ·exact a5 b o x y
   ·exact bp b o (J1 b o x) y
   ·exact bI b o (J1 b o x) y
  ·rintro b o (y | y | y)
   ·exact .inl (J2 b o y)
   ·exact .inr (.inl y)
   ·exact .inr (.inr y)
mutual
theorem aa.w5:∀(T:aa) {off:Nat} {t:aa} {x:T.D} {z:List t.D},T.flat=true→T.getAt off t x=some z→False
 | .int _,_,_,_,_,_,h=>by simp [aa.getAt] at h
 | .bool,_,_,_,_,_,h=>by simp [aa.getAt] at h
 | .str,_,_,_,_,_,h=>by simp [aa.getAt] at h
 | .raw,_,_,_,_,_,h=>by simp [aa.getAt] at h
 | .sl t,_,_,_,_,hf,_=>by simp [aa.flat] at hf
 | .st aj,_,_,_,_,hf,h=>az.w5 aj (by simpa only [aa.flat] using hf) (by simpa only [aa.getAt] using h)
theorem az.w5:∀(aj:az) {off:Nat} {t:aa} {x:aj.D} {z:List t.D},aj.flat=true→aj.getAt off t x=some z→False
 | .nil,_,_,_,_,_,h=>by simp [az.getAt] at h
 | .cons T aj,off,t,x,z,hf,h=>by
  simp only [az.flat] at hf
  cases h1:T.flat
  ·rw [h1] at hf;cases hf
  rw [h1] at hf
  simp only [az.getAt] at h
  cases hb:Nat.blt off T.size
  ·rw [hb] at h;exact az.w5 aj hf h
  ·rw [hb] at h;exact aa.w5 T h1 h
end
section
variable{w b7:World}{Z bJ:ag}
theorem qi(t:aa){x:t.D}{vs:List Value}{F:ag}(hF:b4 w b7 F)(h:t.an w Z t.own x vs F):t.an b7 bJ t.own x vs F :=
 tG t (aa.an.same (Z:=ag.none) (fun _ _ h=>h.elim) t t.own hF (tG t h))
theorem SB(t:az){x:t.D}{vs:List Value}{F:ag}(hF:b4 w b7 F)(h:t.an w Z t.own x vs F):t.an b7 bJ t.own x vs F :=
 BN t (az.an.same (Z:=ag.none) (fun _ _ h=>h.elim) t t.own hF (BN t h))
def SC(w:World)(Z:ag)(t:aa)(z:List t.D)(v:Value)(H1 G1:ag)(R:World→ag→List t.D→ag→Prop):Prop :=
 (aa.sl t).an w Z (.O t.own) z [v] H1∧ag.apart H1 G1∧∀(b7:World) (bJ X:ag) (y:List t.D),b4 w b7 G1→(aa.sl t).an b7 bJ (.O t.own) y [v] X→ag.apart X G1→R b7 bJ y (X.or G1)
mutual
theorem aa.lens:∀(T:aa) (off:Nat) (t:aa) {x:T.D} {z:List t.D} {us:List Value} {G:ag},T.an w Z T.own x us G→T.getAt off t x=some z →
  ∃v H1 G1,us[off]?=some v∧ag.sub H1 G∧ag.sub G1 G∧SC w Z t z v H1 G1 (fun b7 bJ y eC=>∀cl,T.setAt off t y x=some cl→T.an b7 bJ T.own cl us eC)
 | .int _,_,_,_,_,_,_,_,h=>by simp [aa.getAt] at h
 | .bool,_,_,_,_,_,_,_,h=>by simp [aa.getAt] at h
 | .str,_,_,_,_,_,_,_,h=>by simp [aa.getAt] at h
 | .raw,_,_,_,_,_,_,_,h=>by simp [aa.getAt] at h
 | .sl u,off,t,x,z,us,G,hr,h=>by
  simp only [aa.getAt] at h
  cases hb:Nat.beq off 0
  ·rw [hb] at h;cases h
  rw [hb] at h
  obtain rfl:=Nat.eq_of_beq_eq_true hb
  obtain ⟨e,rfl⟩:=gK h
  subst e
  have jC:=hr
  simp only [aa.own,aa.an] at hr
  obtain ⟨A,c,rfl,_⟩:=hr
  refine⟨_,G,ag.none,rfl,fun _ _ h=>h,fun _ _ h=>h.elim,jC,fun _ _ _ h=>h.elim,fun b7 bJ X y _ h2 _ cl hs=>?_⟩
  simp only [aa.setAt] at hs
  obtain ⟨e,rfl⟩:=gK (show ew (.sl u) (.sl u) y=some cl from hs)
  exact aa.an.mono (fun _ _ h=>h) _ _ (fun _ _ h=>.inl h) h2
 | .st aj,off,t,x,z,us,G,hr,h=>by
  have hR:aj.flat=false:=by
   cases hf:aj.flat
   ·rfl
   ·exact(aa.w5 (.st aj) (by simpa only [aa.flat] using hf) h).elim
  simp only [aa.own,hR,Bool.false_eq_true,if_false,aa.an,bg.parts] at hr
  simp only [aa.getAt] at h
  obtain ⟨v,H1,G1,h1,h2,h3,h4,a7,bp⟩:=az.lens aj off t hr h
  refine⟨v,H1,G1,h1,h2,h3,h4,a7,fun b7 bJ X y k1 k2 k3 cl hs=>?_⟩
  simp only [aa.setAt] at hs
  simp only [aa.own,hR,Bool.false_eq_true,if_false,aa.an,bg.parts]
  exact bp b7 bJ X y k1 k2 k3 cl hs
theorem az.lens:∀(aj:az) (off:Nat) (t:aa) {x:aj.D} {z:List t.D} {us:List Value} {G:ag},aj.an w Z aj.own x us G→aj.getAt off t x=some z →
  ∃v H1 G1,us[off]?=some v∧ag.sub H1 G∧ag.sub G1 G∧SC w Z t z v H1 G1 (fun b7 bJ y eC=>∀cl,aj.setAt off t y x=some cl→aj.an b7 bJ aj.own cl us eC)
 | .nil,_,_,_,_,_,_,_,h=>by simp [az.getAt] at h
 | .cons T aj,off,t,x,z,us,G,hr,h=>by
  simp only [az.own,az.an,cM.ah,cM.du] at hr
  obtain ⟨mJ,iK,m0,m1,rfl,bw,b9,hap,ha,hb⟩:=hr
  have hl:=(aa.an.len T _ bw).1
  simp only [az.getAt] at h
  cases bY:Nat.blt off T.size
  ·rw [bY] at h
   have J3:T.size≤off:=by
    rcases Nat.lt_or_ge off T.size with h1 | h1
    ·have:Nat.blt off T.size=true:=Nat.ble_eq_true_of_le h1
     rw [this] at bY;cases bY
    ·exact h1
   obtain ⟨v,H1,G1,h1,h2,h3,h4,a7,bp⟩:=az.lens aj (off-T.size) t b9 h
   refine⟨v,H1,m0.or G1,?_,fun b o x=>hb b o (h2 b o x),?_,h4,?_,fun b7 bJ X y k1 k2 k3 cl hs=>?_⟩
   ·rw [List.getElem?_append_right (by omega),hl];exact h1
   ·rintro b o (y | y)
    ·exact ha b o y
    ·exact hb b o (h3 b o y)
   ·rintro b o y (q | q)
    ·exact hap b o q (h2 b o y)
    ·exact a7 b o y q
   ·simp only [az.setAt,bY,cond_false] at hs
    obtain ⟨n4,hz,hs⟩:=bj hs
    obtain rfl:=aX hs
    simp only [az.own,az.an,cM.ah,cM.du]
    refine⟨mJ,iK,m0,X.or G1,rfl,qi T (k1.mono fun _ _ h=>.inl h) bw,bp b7 bJ X y (k1.mono fun _ _ h=>.inr h) k2 (fun b o p q=>k3 b o p (.inr q)) n4 hz,?_,fun _ _ h=>.inr (.inl h),?_⟩
    ·rintro b o p (q | q)
     ·exact k3 b o q (.inl p)
     ·exact hap b o p (h3 b o q)
    ·rintro b o (q | q)
     ·exact .inl q
     ·exact .inr (.inr q)
  ·rw [bY] at h
   have J3:off<T.size:=Nat.le_of_ble_eq_true bY
   obtain ⟨v,H1,G1,h1,h2,h3,h4,a7,bp⟩:=aa.lens T off t bw h
   refine⟨v,H1,G1.or m1,?_,fun b o x=>ha b o (h2 b o x),?_,h4,?_,fun b7 bJ X y k1 k2 k3 cl hs=>?_⟩
   ·rw [List.getElem?_append_left (by omega)];exact h1
   ·rintro b o (y | y)
    ·exact ha b o (h3 b o y)
    ·exact hb b o y
   ·rintro b o y (q | q)
    ·exact a7 b o y q
    ·exact hap b o (h2 b o y) q
   ·simp only [az.setAt,bY,cond_true] at hs
    obtain ⟨n4,hz,hs⟩:=bj hs
    obtain rfl:=aX hs
    simp only [az.own,az.an,cM.ah,cM.du]
    refine⟨mJ,iK,X.or G1,m1,rfl,bp b7 bJ X y (k1.mono fun _ _ h=>.inl h) k2 (fun b o p q=>k3 b o p (.inl q)) n4 hz,SB aj (k1.mono fun _ _ h=>.inr h) b9,?_,?_,fun _ _ h=>.inr (.inr h)⟩
    ·rintro b o (p | p) q
     ·exact k3 b o p (.inr q)
     ·exact hap b o (h3 b o p) q
    ·rintro b o (q | q)
     ·exact .inl q
     ·exact .inr (.inl q)
end
theorem mG.lens{T:aa}{ys:List T.D}{a:Addr}{c:Nat}{F:ag}{i off:Nat}{t:aa}{z:List t.D}(h:mG w (T.an w Z T.own) T.size ys a c F)(hi:i<ys.length)(aD:T.getAt off t (J T ys i)=some z) :
  ∃v H1,w.cell? (at_ a.block (a.off+i*T.size+off))=some v∧(aa.sl t).an w Z (.O t.own) z [v] H1∧ag.sub H1 F ∧
   ∀(b7:World) (bJ X:ag) (y:List t.D) (cl:T.D),b4 w b7 (ag.diff F H1)→(aa.sl t).an b7 bJ (.O t.own) y [v] X→ag.apart X (ag.diff F H1)→T.setAt off t y (J T ys i)=some cl →
    mG b7 (T.an b7 bJ T.own) T.size (ys.set i cl) a c (X.or (ag.diff F H1)):=by
 rw [di hi] at aD ⊢
 obtain ⟨G,g1,g2,g3⟩:=h.row
 obtain ⟨m0,iJ,m1,vs,bw,J4,hvl,cm,b9,a1,a2,a3,s1,s2,s3⟩:=g1.B9 i hi
 obtain ⟨v,H1,G1,hv,k1,k2,k3,bf,bm⟩:=aa.lens T off t J4 aD
 have y0:ag.sub H1 G:=fun b o x=>s2 b o (k1 b o x)
 have hle:ys.length*T.size≤c*T.size:=Nat.mul_le_mul_right _ h.cap
 have gw:(i+1)*T.size≤ys.length*T.size:=Nat.mul_le_mul_right _ hi
 rw [Nat.add_one_mul] at gw
 refine⟨v,H1,?_,k3,fun b o x=>g3 b o (y0 b o x),fun b7 bJ X y cl hs hr hap J5=>?_⟩
 ·have:=cm off v hv
  exact this
 have tV:∀ {A:ag},ag.sub A G→ag.apart A H1→ag.sub A (ag.diff F H1):=fun hA av b o x=>⟨g3 b o (hA b o x),fun y=>av b o x y⟩
 have tW:ag.sub m0 (ag.diff F H1):=tV s1 fun b o x y=>a1 b o x (k1 b o y)
 have tX:ag.sub m1 (ag.diff F H1):=tV s3 fun b o x y=>a3 b o (k1 b o y) x
 have d1:ag.sub G1 (ag.diff F H1):=tV (fun b o x=>s2 b o (k2 b o x)) fun b o x y=>bf b o y x
 have oY:∀j,j<c*T.size→ag.diff F H1 a.block (a.off+j):=fun j hj=>⟨h.inF j hj,fun y=>g2 j hj (y0 _ _ y)⟩
 have hcell:∀j,j<c*T.size→b7.cell? (at_ a.block (a.off+j))=w.cell? (at_ a.block (a.off+j)):=fun j hj=>(hs _ _ (oY j hj)).1
 have fb:=bm b7 bJ X y (hs.mono d1) hr (fun b o p q=>hap b o p (d1 b o q)) cl J5
 refine⟨h.spot,by simpa using h.cap,fun j hj=>hs.kk (oY j hj) (h.wr j hj),fun j hj=>.inr (oY j hj),m0.or ((X.or G1).or m1),?_,?_,?_⟩
 ·refine Row.B_ i hi (bw.imp (fun y us df hG hr=>qi T (hs.mono fun b o p=>tW b o (hG b o p)) hr) fun j hj=>hcell j ?_) fb hvl (cm.of_eq fun j hj=>?_) (b9.imp (fun y us df hG hr=>qi T (hs.mono fun b o p=>tX b o (hG b o p)) hr) fun j hj=>?_) ?_ a2 ?_
  ·simp only [List.length_take] at hj
   have:min i ys.length*T.size≤ys.length*T.size:=Nat.mul_le_mul_right _ (Nat.min_le_right _ _)
   omega
  ·have:=hcell (i*T.size+j) (by omega)
   rwa [← Nat.add_assoc] at this
  ·simp only [List.length_drop] at hj
   have e1:(ys.length-(i+1))*T.size=ys.length*T.size-(i*T.size+T.size):=by rw [Nat.sub_mul,Nat.add_one_mul]
   rw [e1] at hj
   have:=hcell ((i+1)*T.size+j) (by rw [Nat.add_one_mul];omega)
   rwa [← Nat.add_assoc] at this
  ·rintro b o p (q | q)
   ·exact hap b o q (tW b o p)
   ·exact a1 b o p (k2 b o q)
  ·rintro b o (p | p) q
   ·exact hap b o p (tX b o q)
   ·exact a3 b o (k2 b o p) q
 ·rintro j hj (p | (p | p) | p)
  ·exact g2 j hj (s1 _ _ p)
  ·exact hap _ _ p (oY j hj)
  ·exact g2 j hj (s2 _ _ (k2 _ _ p))
  ·exact g2 j hj (s3 _ _ p)
 ·rintro b o (p | (p | p) | p)
  ·exact .inr (tW b o p)
  ·exact .inl p
  ·exact .inr (d1 b o p)
  ·exact .inr (tX b o p)
end
end Go.LM
