/- Each operation of the model is what the interpreter says. Conditions: each theorem's own hypotheses. -/
import Derived.Test.YtklmgcjamifmaaaGreatDoorNLma
import Derived.Laws.BytesString
import Derived.Laws.Tables
import Derived.Laws.Append
set_option linter.unusedVariables false
set_option linter.unusedSimpArgs false
namespace Go.LM
section
variable{P:Program}{Q:Exit→Act→World→Prop}
variable{w0:World}{F0 Z0:ah}{n:cB}{s ar:aq}{a b6:Act}{w w':World}{ι bd:Nat→bC}{Z Z':ah}
def cV(w0:World)(F0 Z0:ah)(n:cB)(s:aq)(a:Act)(w:World):Prop:=∃ ι Z,Inv w0 F0 Z0 n s a w ι Z
theorem XY(v:Value):aQ w Z s ι (GM v) v:=by
 unfold GM
 split <;> simp only [aQ,cf]
 exact⟨_,rfl,rfl⟩
theorem eT(h:Inv w0 F0 Z0 n s a w ι Z)(x:Operand):aQ w Z s ι (bT s x) (a.eval x):=by
 cases x with
 | tmp t=>exact h.tmps t
 | const v=>exact XY v
 | func f=>simp only [bT,Act.eval,aQ];exact⟨[],[],rfl,by simp only [aZ],by simp only [aZ]⟩
 | global g=>simp only [bT,aQ]
theorem Hq{E:Env}{t:Nat}{x y:a6}{v:Value}(h:typed E t x=some y)(hv:aQ w Z s ι x v):aQ w Z s ι y v:=by
 cases x <;> simp only [typed] at h <;> try (obtain rfl:=aV h;exact hv)
 ·simp at h
 ·simp at h
 ·cases ht:E.ty t with
  | none=>rw [ht] at h;simp at h
  | some T =>
   rw [ht] at h
   cases T <;> simp at h
   subst h
   simp only [aQ] at hv ⊢
   exact hv
theorem fH{α : Type}{nL:Sem α}{f : α → Next}{v : α}(h:nL.run P w=.ok v w'):(do pure (f (← nL)):Sem Next).run P w=.ok (f v) w':=by
 rw [run_bind,h];rfl
theorem lQ{o:Oper}{v:Value}{x:a6}{s1:aq}(hr:(execOp a.eval o).run P w=.ok (.value v) w')(h:Inv w0 F0 Z0 n s1 a w' ι Z)(hv:aQ w' Z s1 ι x v)
  (ag:∀k,o.dst=some k→k<n):o.wp P a w (fun b6 w'=>cV w0 F0 Z0 n (s1.dst o.dst x) b6 w') Q:=by
 unfold Oper.wp
 rw [hr,Oper.upon_value]
 exact⟨ι,Z,h.dst hv ag⟩
theorem wp_skip{o:Oper}{s1:aq}(hr:(execOp a.eval o).run P w=.ok .skip w')(h:Inv w0 F0 Z0 n s1 a w' ι Z)
  (ag:∀k,o.dst=some k→k<n):o.wp P a w (fun b6 w'=>cV w0 F0 Z0 n (s1.dst o.dst .aD) b6 w') Q:=by
 unfold Oper.wp
 rw [hr,Oper.upon_skip]
 exact⟨ι,Z,h.dst (by simp only [aQ]) ag⟩
def Pure(P:Program)(o:Oper)(a:Act)(w:World)(R:Act→World→Prop):Prop:=∃v,(∀w',(execOp a.eval o).run P w'=.ok (.value v) w')∧R (a.put o.dst v) w
theorem Pure.wp{o:Oper}{R:Act→World→Prop}(h:Pure P o a w R):o.wp P a w R Q:=by
 obtain ⟨v,h1,h2⟩:=h
 unfold Oper.wp
 rw [h1 w,Oper.upon_value]
 exact h2
theorem dw{o:Oper}{v:Value}{x:a6}{s1:aq}(hr:∀w',(execOp a.eval o).run P w'=.ok (.value v) w')(h:Inv w0 F0 Z0 n s1 a w ι Z)(hv:aQ w Z s1 ι x v)
  (ag:∀k,o.dst=some k→k<n):Pure P o a w (cV w0 F0 Z0 n (s1.dst o.dst x)) :=
 ⟨v,hr,ι,Z,h.dst hv ag⟩
structure gI(P:Program)(E:Env):Prop where
 ty:∀id T,E.ty id=some T→T.ok P id
 ptr:∀id,E.sI id=true→∃e,P.underlying id=some (.pointer e)
variable{E:Env}{o:Oper}{bs : Type}{K:aq→Option bs}{r : bs}{id:Nat}
theorem AU{x:Operand}(h:Inv w0 F0 Z0 n s a w ι Z)(ag:∀k,o.dst=some k→k<n)(ho:o.op=.move x∨o.op=.assign x)(hk:cQ E id o s K=some r) :
  ∃ar,K ar=some r∧Pure P o a w (cV w0 F0 Z0 n ar):=by
 have ee:(match typed E o.type (bT s x) with | some v=>K (s.dst o.dst v) | none=>none)=some r:=by
  rcases ho with ho | ho <;>(unfold cQ at hk;rw [ho] at hk;exact hk)
 cases ht:typed E o.type (bT s x) with
 | none=>rw [ht] at ee;simp at ee
 | some v =>
  rw [ht] at ee
  refine⟨_,ee,dw (v:=a.eval x) (fun w'=>?_) h (Hq ht (eT h x)) ag⟩
  rcases ho with ho | ho <;>(unfold execOp;rw [ho];rfl)
theorem Ow{c x y:Operand}(h:Inv w0 F0 Z0 n s a w ι Z)(ag:∀k,o.dst=some k→k<n)(ho:o.op=.pick c x y)(hk:cQ E id o s K=some r) :
  ∃ar,K ar=some r∧Pure P o a w (cV w0 F0 Z0 n ar):=by
 unfold cQ at hk
 rw [ho] at hk
 simp only at hk
 have hc:=eT h c
 have hx:=eT h x
 have aO:=eT h y
 have hrun:∀t,a.eval c=.bool t→∀w',(execOp a.eval o).run P w'=.ok (.value (if t then a.eval x else a.eval y)) w':=by
  intro t ht w'
  unfold execOp;rw [ho]
  simp only [run_bind,asBool,ht,run_pure]
 cases hcv:bT s c with
 | aU jH =>
  rw [hcv] at hk hc
  cases jH with
  | bool t =>
   simp only [aQ,cf] at hc
   have hr:=hrun t hc
   cases t with
   | true =>
    cases cJ:typed E o.type (bT s x) with
    | none=>rw [cJ] at hk;cases gg:typed E o.type (bT s y) <;> rw [gg] at hk <;> simp at hk
    | some v =>
     rw [cJ] at hk
     have:K (s.dst o.dst v)=some r:=by cases gg:typed E o.type (bT s y) <;> rw [gg] at hk <;> exact hk
     exact⟨_,this,dw hr h (Hq cJ hx) ag⟩
   | false =>
    cases gg:typed E o.type (bT s y) with
    | none=>rw [gg] at hk;cases cJ:typed E o.type (bT s x) <;> rw [cJ] at hk <;> simp at hk
    | some v =>
     rw [gg] at hk
     have:K (s.dst o.dst v)=some r:=by cases cJ:typed E o.type (bT s x) <;> rw [cJ] at hk <;> exact hk
     exact⟨_,this,dw hr h (Hq gg aO) ag⟩
  | _=>simp at hk
 | _=>rw [hcv] at hk;simp at hk
theorem p0{i:Nat}{er:ck}(h:mkObj s i er=some ar):s.o i=.none∧ar=s.bN i er:=by
 unfold mkObj at h
 cases ho:s.o i <;> rw [ho] at h <;> simp at h
 exact⟨rfl,h.symm⟩
theorem XZ{t:Nat}(bX:gI P E)(h:Inv w0 F0 Z0 n s a w ι Z)(ag:∀k,o.dst=some k→k<n)(ho:o.op=.alloc t)(hk:cQ E id o s K=some r) :
  ∃ar,K ar=some r∧o.wp P a w (cV w0 F0 Z0 n ar) Q:=by
 unfold cQ at hk
 rw [ho] at hk
 simp only at hk
 cases ht:E.ty t with
 | none=>rw [ht] at hk;simp at hk
 | some T =>
  rw [ht] at hk
  simp only at hk
  cases hm:mkObj s id (.var 0 T.iU) with
  | none=>rw [hm] at hk;simp at hk
  | some s1 =>
   rw [hm] at hk
   obtain ⟨b3,rfl⟩:=p0 hm
   have ca:=bX.ty t T ht
   have hz:bG w Z s ι T.iU (dB T T.cL).cells.toList:=by
    rw [Hp (ae.k9 T) ((rf (w:=w) (Z:=Z) (s:=s) (ι := ι) T).dY)]
    exact rf T
   have hn:=h.newVar b3 hz t
   refine⟨_,hk,lQ (v:=.pointer (some (at_ w.heap.size 0))) (w' := { w with heap:=w.heap.push (.cells (dB T T.cL).cells t) }) ?_ hn ?_ ag⟩
   ·unfold execOp;rw [ho]
    refine fH ?_
    simp only [Instr.alloc,run_bind,AT ca,Ov,run_pure]
   ·simp only [aQ]
    refine⟨by show bQ s.o id _ id≠_;rw [cw];simp,_,rfl,rfl,?_⟩
    show match (bQ s.o id _ id).core with | .var _ _=>_ | .row .. => _ | _=>_
    rw [cw]
    exact⟨rfl,_,by rw [cw],by simp [at_]⟩
theorem X0{t:Nat}{x:Operand}(bX:gI P E)(h:Inv w0 F0 Z0 n s a w ι Z)(ag:∀k,o.dst=some k→k<n)(ho:o.op=.box t x)(hk:cQ E id o s K=some r) :
  ∃ar,K ar=some r∧o.wp P a w (cV w0 F0 Z0 n ar) Q:=by
 unfold cQ at hk
 rw [ho] at hk
 simp only at hk
 cases ht:E.ty t with
 | none=>rw [ht] at hk;simp at hk
 | some T =>
  rw [ht] at hk
  simp only at hk
  cases hc:iy T (bT s x) with
  | none=>rw [hc] at hk;simp at hk
  | some cs =>
   rw [hc] at hk
   simp only at hk
   cases hb:Nat.beq cs.length T.size
   ·rw [hb] at hk;simp at hk
   rw [hb] at hk
   simp only [cond_true] at hk
   cases hm:mkObj s id (.var 0 cs) with
   | none=>rw [hm] at hk;simp at hk
   | some s1 =>
    rw [hm] at hk
    obtain ⟨b3,rfl⟩:=p0 hm
    have hn:=h.newVar b3 (re hc (eT h x)) t
    refine⟨_,hk,lQ (v:=.pointer (some (at_ w.heap.size 0))) (w' := { w with heap:=w.heap.push (.cells (a.eval x).cells t) }) ?_ hn ?_ ag⟩
    ·unfold execOp;rw [ho]
     refine fH ?_
     simp only [Instr.box,run_bind,Ov,run_pure]
    ·simp only [aQ]
     refine⟨by show bQ s.o id _ id≠_;rw [cw];simp,_,rfl,rfl,?_⟩
     show match (bQ s.o id _ id).core with | .var _ _=>_ | .row .. => _ | _=>_
     rw [cw]
     exact⟨rfl,_,by rw [cw],by simp [at_]⟩
theorem X1{t:Nat}{x:Operand}(bX:gI P E)(h:Inv w0 F0 Z0 n s a w ι Z)(ag:∀k,o.dst=some k→k<n)(ho:o.op=.load t x)(hk:cQ E id o s K=some r) :
  ∃ar,K ar=some r∧o.wp P a w (cV w0 F0 Z0 n ar) Q:=by
 unfold cQ at hk
 rw [ho] at hk
 simp only at hk
 have hx:=eT h x
 have hrun:∀ {T:ae} {b i:Nat} {vs:List Value},E.ty t=some T→a.eval x=.pointer (some (at_ b i))→b4 w b i vs→vs.length=T.size →
   (execOp a.eval o).run P w=.ok (.value (dB T vs)) w:=by
  intro T b i vs ht he hc hl
  unfold execOp;rw [ho]
  refine fH ?_
  simp only [Instr.loadAt,Instr.sureAddr,he,run_bind,run_pure,Hm (bX.ty t T ht) hc hl]
 cases ht:E.ty t with
 | none=>rw [ht] at hk;simp at hk
 | some T =>
  rw [ht] at hk
  cases cJ:bT s x with
  | ptr p =>
   rw [cJ] at hk hx
   simp only at hk
   cases c2:(lK s T.size p).bind (jE T) with
   | none=>rw [c2] at hk;simp at hk
   | some v =>
    rw [c2] at hk
    obtain ⟨cs,h1,h2⟩:=bf c2
    simp only [aQ] at hx
    obtain ⟨_,A,he,au⟩:=hx
    obtain ⟨b,i,vs,rfl,hc,cl,hl⟩:=xL h h1 au
    exact⟨_,hk,lQ (hrun ht he cl hl) h (oO h2 hc) ag⟩
  | dg dp cs off =>
   rw [cJ] at hk hx
   simp only at hk
   cases c2:(takeN off T.size cs).bind (jE T) with
   | none=>rw [c2] at hk;simp at hk
   | some v =>
    rw [c2] at hk
    simp only at hk
    cases dQ:alive s dp
    ·rw [dQ] at hk;simp at hk
    rw [dQ] at hk
    obtain ⟨ds,h1,h2⟩:=bf c2
    obtain ⟨h3,rfl⟩:=oL h1
    simp only [aQ] at hx
    obtain ⟨_,b,i,vs,he,hx⟩:=hx
    obtain ⟨hc,cl,_⟩:=hx dQ
    have hl:=hc.len
    exact⟨_,hk,lQ (hrun ht he (cl.part off T.size) (by simp;omega)) h (oO h2 ((hc.drop _).take _)) ag⟩
  | _=>rw [cJ] at hk;simp at hk
theorem Inv.X2(h:Inv w0 F0 Z0 n s a w ι Z){id:Nat}(b8:(s.o id).live)(hx:Ext w w' (ι id).F):Inv w0 F0 Z0 n (s.bN id .dead) a w' ι Z:=by
 have hm:eD w Z s ι w' Z (s.bN id .dead) ι := by
  refine⟨fun j=>?_,fun _ _ h=>h,b5.iE hx h.ra ?_⟩
  ·show iD (s.o j) (ι j) (bQ s.o id .dead j) (ι j)
   by_cases hj:id=j
   ·subst hj;rw [cw];exact .dead _ _ _
   ·rw [cO hj];exact .stay _ _
  ·rintro b o (hz | ⟨dV,fT,pU,_,hf⟩) ic
   ·exact h.c0 id b8 b o ic hz
   ·have hne:dV≠id:=by
     rintro rfl
     have:bQ s.o dV .dead dV=s.o dV:=pU
     rw [cw] at this
     rw [← this] at b8
     exact b8
    exact h.apart dV id fT b8 hne b o hf ic
 have rb:∀ {j},((s.bN id .dead).o j).live→id≠j∧(s.o j).live:=fun {j} hl=>by
  have hl:(bQ s.o id .dead j).live:=hl
  by_cases hj:id=j
  ·subst hj;rw [cw] at hl;exact hl.elim
  ·rw [cO hj] at hl;exact⟨hj,hl⟩
 refine h.next hm hx (fun b o hf=>(h.own id b8 b o hf).1) (fun _ _ h=>.inl h) ?_ ?_ (fun k=>(h.tmps k).move hm) h.size h.defers
 ·intro j hl hne
  exact absurd ⟨cO (rb hl).1,rfl⟩ hne
 ·intro j hl
  exact h.c0 j (rb hl).2
theorem X3{t:Nat}{x y:Operand}(bX:gI P E)(h:Inv w0 F0 Z0 n s a w ι Z)(ag:∀k,o.dst=some k→k<n)(ho:o.op=.store t x y)(hk:cQ E id o s K=some r) :
  ∃ar,K ar=some r∧o.wp P a w (cV w0 F0 Z0 n ar) Q:=by
 unfold cQ at hk
 rw [ho] at hk
 simp only at hk
 have hx:=eT h x
 have aO:=eT h y
 cases ht:E.ty t with
 | none=>rw [ht] at hk;simp at hk
 | some T =>
  rw [ht] at hk
  cases cJ:bT s x with
  | ptr p =>
   rw [cJ] at hk hx
   simp only at hk
   cases hc:iy T (bT s y) with
   | none =>
    rw [hc] at hk
    simp only at hk
    cases gg:bT s y <;> rw [gg] at hk <;> try (simp at hk;done)
    rename_i u
    cases bU:s.o p.id <;> rw [bU] at hk <;> try (simp at hk;done)
    rename_i ver old
    cases eL:p.fa with
    | some i=>rw [eL] at hk;simp at hk
    | none =>
     rw [eL] at hk
     simp only at hk
     cases hb:(ae.beq u T&&Nat.beq p.off 0&&Nat.ble T.size old.length)
     ·rw [hb] at hk;simp at hk
     rw [hb] at hk
     simp only [cond_true] at hk
     simp only [Bool.and_eq_true] at hb
     obtain ⟨⟨hb1,hb2⟩,hb3⟩:=hb
     have:=ae.eq_of_beq _ _ hb1
     subst this
     have hb2:=Nat.eq_of_beq_eq_true hb2
     have hb3:=Nat.le_of_ble_eq_true hb3
     rw [gg] at aO
     simp only [aQ] at hx aO
     obtain ⟨_,A,he,au⟩:=hx
     obtain ⟨sV,hw1⟩:=aO
     have b8:(s.o p.id).live:=by rw [bU];trivial
     have cX:=h.fC p.id
     rw [bU] at cX
     obtain ⟨a0,us,dA,hsp,hcu,cl,hwr⟩:=cX
     obtain ⟨hs,au⟩:=au
     rw [bU] at au
     obtain ⟨_,a1,Ox,hA⟩:=au
     rw [dA] at Ox
     obtain rfl:=aV Ox
     rw [hb2] at hA
     subst hA
     have hx2:Ext w (setCells w a0.block (a0.off+0) (a.eval y).cells.toList) (ι p.id).F:=nD _ _ _ _ fun i hi=>by
      have:=(hwr i (by rw [sV] at hi;omega)).2;simpa using this
     refine⟨_,hk,wp_skip (w':=setCells w a0.block (a0.off+0) (a.eval y).cells.toList) ?_ (h.X2 b8 hx2) ag⟩
     unfold execOp;rw [ho]
     have:=Ho (P:=P) (w:=w) (bX.ty t _ ht) (b:=a0.block) (o:=a0.off+0) (v:=a.eval y) (by rw [← Array.length_toList,sV]) hw1 (fun j hj=>by
      have:=(hwr j (by rw [← Array.length_toList,sV] at hj;omega)).1;simpa using this)
     simp only [Instr.storeAt,Instr.sureAddr,he,run_bind,run_pure,this]
   | some cs =>
    rw [hc] at hk
    simp only at hk
    cases hb:Nat.beq cs.length T.size
    ·rw [hb] at hk;simp at hk
    rw [hb] at hk
    simp only [cond_true] at hk
    cases lR:AJ s p cs with
    | none=>rw [lR] at hk;simp at hk
    | some s1 =>
     rw [lR] at hk
     have hb:=Nat.eq_of_beq_eq_true hb
     have oP:=re hc aO
     simp only [aQ] at hx
     obtain ⟨_,A,he,au⟩:=hx
     obtain ⟨b,i,rfl,hw,bd,Z',hi⟩:=XS h lR au oP
     have hl:=oP.len
     refine⟨_,hk,wp_skip (w':=setCells w b i (a.eval y).cells.toList) ?_ hi ag⟩
     unfold execOp;rw [ho]
     have:=Ho (P:=P) (w:=w) (bX.ty t T ht) (b:=b) (o:=i) (v:=a.eval y) (by simp at hl;omega) oP.dY (fun j hj=>hw j (by simpa using hj))
     simp only [Instr.storeAt,Instr.sureAddr,he,run_bind,run_pure,this]
  | _=>rw [cJ] at hk;simp at hk
end
end Go.LM
namespace Go.LM
section
variable{P:Program}{Q:Exit→Act→World→Prop}
variable{w0:World}{F0 Z0:ah}{n:cB}{s ar:aq}{a b6:Act}{w w':World}{ι bd:Nat→bC}{Z Z':ah}
variable{E:Env}{o:Oper}{bs : Type}{K:aq→Option bs}{r : bs}{id:Nat}
theorem xM{m:Nat}{i:Int}{k:Nat}(h:aN m i=some k):0≤i∧i<(m:Int)∧k=i.toNat∧k<m:=by
 unfold aN at h
 split at h
 ·rename_i hc
  have:=aV h
  exact⟨hc.1,hc.2,this.symm,by omega⟩
 ·simp at h
theorem X4{m:Nat}{lo hi:Int}{q:Nat×Nat}(h:dZ m lo hi=some q):0≤lo∧lo≤hi∧hi≤(m:Int)∧q=(lo.toNat,hi.toNat):=by
 unfold dZ at h
 split at h
 ·rename_i hc
  exact⟨hc.1,hc.2.1,hc.2.2,(aV h).symm⟩
 ·simp at h
theorem rh{x:a6}{i:Int}{v:Value}(h:j8 x=some i)(hv:aQ w Z s ι x v):∃k,v=.int k i:=by
 cases x with
 | aU c =>
  cases c <;> simp [j8] at h
  subst h
  simp only [aQ,cf] at hv
  exact⟨_,hv⟩
 | _=>simp [j8] at h
theorem Oy{x:Operand}(h:Inv w0 F0 Z0 n s a w ι Z)(ag:∀k,o.dst=some k→k<n)(ho:o.op=.nilCheck x)(hk:cQ E id o s K=some r) :
  ∃ar,K ar=some r∧Pure P o a w (cV w0 F0 Z0 n ar):=by
 unfold cQ at hk
 rw [ho] at hk
 simp only at hk
 have hx:=eT h x
 cases cJ:bT s x with
 | ptr p =>
  rw [cJ] at hk hx
  refine⟨_,hk,dw (v:=a.eval x) (fun w'=>?_) h hx ag⟩
  simp only [aQ] at hx
  obtain ⟨_,A,he,_⟩:=hx
  unfold execOp;rw [ho];simp only [he];rfl
 | dg dp cs off =>
  rw [cJ] at hk hx
  refine⟨_,hk,dw (v:=a.eval x) (fun w'=>?_) h hx ag⟩
  simp only [aQ] at hx
  obtain ⟨_,b,i,vs,he,_⟩:=hx
  unfold execOp;rw [ho];simp only [he];rfl
 | may b dp cs =>
  rw [cJ] at hk hx
  cases b
  ·cases hk
  refine⟨_,hk,dw (v:=a.eval x) (fun w'=>?_) h ?_ ag⟩
  ·simp only [aQ] at hx
   rcases hx with⟨hx,_⟩ | ⟨_,_,b,i,vs,he,_⟩
   ·cases hx
   unfold execOp;rw [ho];simp only [he];rfl
  ·simp only [aQ] at hx ⊢
   rcases hx with⟨hx,_⟩ | ⟨_,hx⟩
   ·cases hx
   ·exact hx
 | fn f l m =>
  rw [cJ] at hk hx
  refine⟨_,hk,dw (v:=a.eval x) (fun w'=>?_) h hx ag⟩
  simp only [aQ] at hx
  obtain ⟨us,vs,he,_⟩:=hx
  unfold execOp;rw [ho];simp only [he];rfl
 | opt i q =>
  rw [cJ] at hk hx
  simp only at hk
  obtain ⟨k,h1,hk⟩:=bf hk
  obtain ⟨h2,h3,rfl,h4⟩:=xM h1
  simp only [aQ] at hx
  obtain ⟨jI,hx⟩:=hx
  rcases hx with⟨hx,_⟩ | ⟨_,A,he,au⟩
  ·omega
  refine⟨_,hk,dw (v:=a.eval x) (fun w'=>?_) h ?_ ag⟩
  ·unfold execOp;rw [ho];simp only [he];rfl
  ·simp only [aQ];exact⟨jI,A,he,au⟩
 | _=>rw [cJ] at hk;simp at hk
theorem ay.AV{P:Program} : ∀ {aj:ay} {cm:List Field} {base i k:Nat} {u:ae},aj.okF P cm base→aj.off i=some (k,u) →
  ∃f,cm[i]?=some f∧f.offset=base+k∧u.ok P f.type
 | .nil,_,_,_,_,_,_,h=>by simp [ay.off] at h
 | .cons t aj,cm,base,0,k,u,ho,h=>by
  simp only [ay.okF] at ho
  obtain ⟨f,k8,rfl,h1,h2,h3⟩:=ho
  simp only [ay.off,Option.some.injEq,Prod.mk.injEq] at h
  obtain ⟨rfl,rfl⟩:=h
  exact⟨f,rfl,by simpa using h1,h2⟩
 | .cons t aj,cm,base,i+1,k,u,ho,h=>by
  simp only [ay.okF] at ho
  obtain ⟨f,k8,rfl,h1,h2,h3⟩:=ho
  simp only [ay.off] at h
  obtain ⟨q,h4,a7⟩:=bf h
  simp only [Option.some.injEq,Prod.mk.injEq] at a7
  obtain ⟨rfl,rfl⟩:=a7
  obtain ⟨mG,k1,k2,k3⟩:=ay.AV h3 h4
  exact⟨mG,by simpa using k1,by omega,k3⟩
theorem Hr{aj:ay}{id:TypeId}(h:(ae.st aj).ok P id):∃cm,P.underlying id=some (.struct cm)∧aj.okF P cm.toList 0:=by
 simp only [ae.ok] at h;exact h.2
theorem k_{t:ae}{id:TypeId}(h:(ae.sl t).ok P id):∃e,P.underlying id=some (.slice e)∧t.ok P e:=by
 simp only [ae.ok] at h;exact h.2
theorem Oz{f:Field}{u:ae}{b i:Nat}(hu:u.ok P f.type)(hz:u.size≠0):(fieldPlace (at_ b i) f).run P w=.ok (at_ b (i+f.offset)) w:=by
 unfold fieldPlace
 rw [run_bind,run_sizeOf hu]
 simp only
 rw [if_neg hz,run_pure,pS]
theorem OA{t:Nat}{x:Operand}{i:Nat}(bX:gI P E)(h:Inv w0 F0 Z0 n s a w ι Z)(ag:∀k,o.dst=some k→k<n)(ho:o.op=.fieldAddr t x i)(hk:cQ E id o s K=some r) :
  ∃ar,K ar=some r∧Pure P o a w (cV w0 F0 Z0 n ar):=by
 unfold cQ at hk
 rw [ho] at hk
 simp only at hk
 have hx:=eT h x
 cases ht:E.ty t with
 | none=>rw [ht] at hk;simp at hk
 | some T =>
  rw [ht] at hk
  cases T with
  | st aj =>
   obtain ⟨cm,hu,kx⟩:=Hr (bX.ty t _ ht)
   have hrun:∀ {k:Nat} {u:ae} {b j:Nat},aj.off i=some (k,u)→u.size≠0→a.eval x=.pointer (some (at_ b j))→∀ {w':World},
     (execOp a.eval o).run P w'=.ok (.value (.pointer (some (at_ b (j+k))))) w':=by
    intro k u b j fh hz he w'
    obtain ⟨f,h1,h2,h3⟩:=ay.AV kx fh
    rw [Array.getElem?_toList] at h1
    unfold execOp;rw [ho]
    refine fH ?_
    simp only [Instr.fieldAt,run_bind,run_underlying hu,h1,Instr.sureAddr,he,run_pure,Oz h3 hz,h2,Nat.zero_add]
   cases cJ:bT s x with
   | ptr p =>
    rw [cJ] at hk hx
    simp only at hk
    cases fh:aj.off i with
    | none=>rw [fh] at hk;simp at hk
    | some q =>
     obtain ⟨k,u⟩:=q
     rw [fh] at hk
     simp only at hk
     cases nN:Nat.beq u.size 0
     case true=>rw [nN] at hk;simp at hk
     rw [nN] at hk
     simp only [aQ] at hx
     obtain ⟨jI,A,he,au⟩:=hx
     obtain ⟨b,j,sp⟩:=A
     obtain ⟨hsp,au⟩:=au
     simp only at hsp
     subst hsp
     refine⟨_,hk,dw (fun w'=>hrun fh (fun e=>by rw [e] at nN;simp at nN) he) h ?_ ag⟩
     simp only [aQ]
     refine⟨jI,_,rfl,rfl,?_⟩
     cases bU:(s.o p.id).core with
     | var ver cs =>
      rw [bU] at au
      obtain ⟨h1,a0,h2,h3⟩:=au
      simp only [at_,Addr.mk.injEq] at h3
      exact⟨h1,a0,h2,by simp [at_,h3.1,h3.2.1];omega⟩
     | row c8 em ver xs =>
      rw [bU] at au
      obtain ⟨q,h1,h2,a0,h3,h4⟩:=au
      simp only [at_,Addr.mk.injEq] at h4
      exact⟨q,h1,h2,a0,h3,by simp [at_,h4.1,h4.2.1];omega⟩
     | _=>trivial
   | dg dp cs off =>
    rw [cJ] at hk hx
    simp only at hk
    cases fh:aj.off i with
    | none=>rw [fh] at hk;simp at hk
    | some q =>
     obtain ⟨k,u⟩:=q
     rw [fh] at hk
     simp only at hk
     cases nN:Nat.beq u.size 0
     case true=>rw [nN] at hk;simp at hk
     rw [nN] at hk
     simp only [aQ] at hx
     obtain ⟨mJ,b,j,vs,he,hx⟩:=hx
     refine⟨_,hk,dw (fun w'=>hrun fh (fun e=>by rw [e] at nN;simp at nN) he) h ?_ ag⟩
     simp only [aQ]
     exact⟨mJ,b,j,vs,by rw [Nat.add_assoc],hx⟩
   | _=>rw [cJ] at hk;simp at hk
  | _=>simp at hk
theorem Hs{u:ae}{id:TypeId}{cs:List Value}{k:Nat}(hu:u.ok P id)(hk:k+u.size≤cs.length):(Go.part id cs.toArray k).run P w=.ok (dB u ((cs.drop k).take u.size)) w:=by
 unfold Go.part
 rw [run_bind,Ou hu]
 simp only
 cases ha:u.agg
 ·have h1:=Hj ha
  simp only [Bool.false_eq_true,if_false]
  rw [h1] at hk ⊢
  have cz:k<cs.length:=by omega
  have:(cs.drop k).take 1=[cs[k]]:=by
   rw [List.drop_eq_getElem_cons cz,List.take_succ_cons,List.take_zero]
  rw [this,Hl ha]
  simp [cz,run_pure]
 ·simp only [if_true]
  rw [run_bind,run_sizeOf hu,Hk ha]
  simp only [run_pure]
  congr 2
  apply Array.ext'
  simp [List.take_drop,Nat.add_comm]
theorem OB{t:Nat}{x:Operand}{i:Nat}(bX:gI P E)(h:Inv w0 F0 Z0 n s a w ι Z)(ag:∀k,o.dst=some k→k<n)(ho:o.op=.field t x i)(hk:cQ E id o s K=some r) :
  ∃ar,K ar=some r∧Pure P o a w (cV w0 F0 Z0 n ar):=by
 unfold cQ at hk
 rw [ho] at hk
 simp only at hk
 have hx:=eT h x
 cases ht:E.ty t with
 | none=>rw [ht] at hk;simp at hk
 | some T =>
  rw [ht] at hk
  cases T with
  | st aj =>
   obtain ⟨cm,hu,kx⟩:=Hr (bX.ty t _ ht)
   cases cJ:bT s x with
   | h7 cs =>
    rw [cJ] at hk hx
    simp only at hk
    cases fh:aj.off i with
    | none=>rw [fh] at hk;simp at hk
    | some q =>
     obtain ⟨k,u⟩:=q
     rw [fh] at hk
     simp only at hk
     cases hw:(takeN k u.size cs).bind (jE u) with
     | none=>rw [hw] at hk;simp at hk
     | some v =>
      rw [hw] at hk
      obtain ⟨ds,h1,h2⟩:=bf hw
      obtain ⟨h3,rfl⟩:=oL h1
      simp only [aQ] at hx
      obtain ⟨vs,he,hc⟩:=hx
      obtain ⟨f,f1,f2,f3⟩:=ay.AV kx fh
      rw [Array.getElem?_toList] at f1
      have hl:=hc.len
      refine⟨_,hk,dw (fun w'=>?_) h (oO h2 ((hc.drop k).take u.size)) ag⟩
      unfold execOp;rw [ho]
      refine fH ?_
      simp only [Instr.field,run_bind,run_underlying hu,f1,he,asAgg,run_pure]
      have:=Hs (P:=P) (w:=w') f3 (cs:=vs) (k:=k) (by omega)
      rw [f2,Nat.zero_add]
      exact this
   | _=>rw [cJ] at hk;simp at hk
  | _=>simp at hk
theorem OC{x:Operand}{i:Nat}(h:Inv w0 F0 Z0 n s a w ι Z)(ag:∀k,o.dst=some k→k<n)(ho:o.op=.extract x i)(hk:cQ E id o s K=some r) :
  ∃ar,K ar=some r∧Pure P o a w (cV w0 F0 Z0 n ar):=by
 unfold cQ at hk
 rw [ho] at hk
 simp only at hk
 have hx:=eT h x
 cases cJ:bT s x with
 | oE l =>
  rw [cJ] at hk hx
  simp only at hk
  cases hi:l[i]? with
  | none=>rw [hi] at hk;simp at hk
  | some v =>
   rw [hi] at hk
   simp only [aQ] at hx
   obtain ⟨vs,he,hl⟩:=hx
   have:∀(l:List a6) (vs:List Value) (i:Nat),aZ w Z s ι l vs→l[i]?=some v→∃u,vs[i]?=some u∧aQ w Z s ι v u:=by
    intro l
    induction l with
    | nil=>intro vs i _ hi;simp at hi
    | cons y l ih =>
     intro vs i hl hi
     simp only [aZ] at hl
     obtain ⟨u,us,rfl,h1,h2⟩:=hl
     cases i with
     | zero=>simp at hi;subst hi;exact⟨u,rfl,h1⟩
     | succ i=>exact ih us i h2 (by simpa using hi)
   obtain ⟨u,h1,h2⟩:=this l vs i hl hi
   refine⟨_,hk,dw (v:=u) (fun w'=>?_) h h2 ag⟩
   unfold execOp;rw [ho]
   refine fH ?_
   simp only [Instr.extract,he]
   simp [h1,run_pure]
 | _=>rw [cJ] at hk;simp at hk
theorem Ht(h:Inv w0 F0 Z0 n s a w ι Z):∀(l:List Operand),aZ w Z s ι (l.map (bT s)) (l.map a.eval)
 | []=>by simp only [List.map_nil,aZ]
 | x :: l=>by simp only [List.map_cons,aZ];exact⟨_,_,rfl,eT h x,Ht h l⟩
theorem OD{f:FuncId}{first kU:Array Operand}(h:Inv w0 F0 Z0 n s a w ι Z)(ag:∀k,o.dst=some k→k<n)(ho:o.op=.makeFunc (.func f) first kU)(hk:cQ E id o s K=some r) :
  ∃ar,K ar=some r∧Pure P o a w (cV w0 F0 Z0 n ar):=by
 unfold cQ at hk
 rw [ho] at hk
 simp only at hk
 refine⟨_,hk,dw (v:=.func (.func f) (first.map a.eval) (kU.map a.eval)) (fun w'=>?_) h ?_ ag⟩
 ·unfold execOp;rw [ho];rfl
 ·simp only [aQ]
  refine⟨first.toList.map a.eval,kU.toList.map a.eval,?_,Ht h _,Ht h _⟩
  congr 1 <;>(apply Array.ext';simp)
end
end Go.LM
namespace Go.LM
section
variable{P:Program}{Q:Exit→Act→World→Prop}
variable{w0:World}{F0 Z0:ah}{n:cB}{s ar:aq}{a b6:Act}{w w':World}{ι bd:Nat→bC}{Z Z':ah}
variable{E:Env}{o:Oper}{bs : Type}{K:aq→Option bs}{r : bs}{id:Nat}
theorem Hu{k:IntKind}{i:Int} :(asIntOf (.int k i)).run P w=.ok (k,i) w:=rfl
theorem Hv{t:TypeId}{u:ae}{e:TypeId}{A:Addr}{b o len c:Nat}{k:IntKind}{i:Int}(hu:P.underlying t=some (.slice e))(he:u.ok P e)
  (h0:0≤i) (h1:i<(len:Int)):(Instr.indexAt t (.slice (some (at_ b o)) len c) (.int k i)).run P w=.ok (.pointer (some (at_ b (o+i.toNat*u.size)))) w:=by
 unfold Instr.indexAt
 simp only [run_bind,Hu,run_underlying hu,run_pure]
 rw [if_pos ⟨h0,h1⟩]
 simp only [run_bind,run_sizeOf he,run_pure,pS]
theorem beq_eq{u v:ae}(h:ae.beq u v=true):u=v:=ae.eq_of_beq _ _ h
theorem OE{t:Nat}{x i:Operand}(bX:gI P E)(h:Inv w0 F0 Z0 n s a w ι Z)(ag:∀k,o.dst=some k→k<n)(ho:o.op=.indexAddr t x i)(hk:cQ E id o s K=some r) :
  ∃ar,K ar=some r∧Pure P o a w (cV w0 F0 Z0 n ar):=by
 unfold cQ at hk
 rw [ho] at hk
 simp only at hk
 have hx:=eT h x
 have hi:=eT h i
 cases ht:E.ty t with
 | none=>rw [ht] at hk;simp at hk
 | some T =>
  cases T with
  | sl u =>
   obtain ⟨e,hu,iW⟩:=k_ (bX.ty t _ ht)
   rw [ht] at hk
   cases sW:j8 (bT s i) with
   | none=>rw [sW] at hk;cases bT s x <;> simp at hk
   | some q =>
    rw [sW] at hk
    obtain ⟨de,vv⟩:=rh sW hi
    cases cJ:bT s x with
    | aU c =>
     rw [cJ] at hk hx
     simp only [aQ] at hx
     cases c with
     | ag j sub =>
      simp only at hk
      obtain ⟨jI,A,m,c,iG,hh⟩:=hx
      cases bU:s.o j with
      | row v em ver xs =>
       rw [bU] at hk
       simp only at hk
       cases hb:ae.beq u v
       ·rw [hb] at hk;simp at hk
       rw [hb] at hk
       obtain rfl:=beq_eq hb
       obtain ⟨k,h1,hk⟩:=bf hk
       obtain ⟨h2,h3,rfl,h4⟩:=xM h1
       obtain ⟨g1,g2,g3,g4,g5⟩:=hh _ _ _ _ (k0 bU)
       have hm:kV sub xs=m:=by
        cases sub with
        | none=>simp [kV,g1]
        | some p=>obtain ⟨lo,l⟩:=p;simp [kV,g1]
       rw [hm] at h3 h4
       rcases g5 with g5 | ⟨a0,fW,rfl⟩
       ·omega
       refine⟨_,hk,dw (v:=.pointer (some (at_ a0.block (a0.off+eb sub*u.size+q.toNat*u.size)))) (fun w'=>?_) h ?_ ag⟩
       ·unfold execOp;rw [ho]
        refine fH ?_
        simp only [iG,vv]
        exact Hv (A:=a0) hu iW h2 h3
       ·simp only [aQ]
        refine⟨jI,_,rfl,rfl,?_⟩
        simp only
        rw [bU]
        exact⟨_,rfl,by omega,a0,fW,by simp [at_,Nat.add_mul];omega⟩
      | _=>rw [bU] at hk;simp at hk
     | bW v dp cr xs =>
      simp only at hk
      cases hb:(alive s dp&&ae.beq u v)
      ·rw [hb] at hk;simp at hk
      rw [hb] at hk
      simp only [Bool.and_eq_true] at hb
      obtain ⟨dQ,hb⟩:=hb
      obtain rfl:=beq_eq hb
      obtain ⟨k,h1,hk⟩:=bf hk
      obtain ⟨h2,h3,rfl,h4⟩:=xM h1
      obtain ⟨mJ,⟨A,m,c,iG⟩,cK,_⟩:=hx
      have hr:=cK dQ
      simp only [ae.al] at hr
      obtain ⟨oQ,c',hv,hr⟩:=hr
      rw [iG] at hv
      simp only [List.cons.injEq,Value.slice.injEq,and_true] at hv
      obtain ⟨rfl,rfl,rfl⟩:=hv
      rcases hr with hr | ⟨a0,rfl,hsp,hrow,hz,xN⟩
      ·rw [hr] at h4;simp at h4
      obtain ⟨vs,G,k1,k2,k3,bh⟩:=hrow.get q.toNat h4
      obtain ⟨cM,dI,sp⟩:=a0
      simp only at hsp
      subst hsp
      refine⟨_,hk,dw (v:=.pointer (some (at_ cM (dI+q.toNat*u.size)))) (fun w'=>?_) h ?_ ag⟩
      ·unfold execOp;rw [ho]
       refine fH ?_
       simp only [iG,vv]
       exact Hv (A:=at_ cM dI) hu iW h2 h3
      ·simp only [aQ]
       refine⟨mJ,cM,dI+q.toNat*u.size,vs,rfl,fun _=>⟨?_,k3,fun j hj=>?_⟩⟩
       ·rw [c7 h4]
        exact ae.pW u dp none mJ (fun _=>k1) ⟨_,_,_,k1⟩ .none
       ·have hcl:(u.cells dp none (J u xs q.toNat)).length=u.size:=by
         rw [c7 h4,← k2]
         exact((ae.pW (s:=s) (w:=w) (Z:=Z) (ι := ι) u dp none mJ (fun _=>k1) ⟨_,_,_,k1⟩ .none).len).symm
        rw [hcl] at hj
        have:=hz (q.toNat*u.size+j) (by
         have:(q.toNat+1)*u.size≤xs.length*u.size:=Nat.mul_le_mul_right _ h4
         rw [Nat.add_one_mul] at this;omega)
        rwa [← Nat.add_assoc] at this
     | _=>simp at hk
    | _=>rw [cJ] at hk;simp at hk
  | _=>rw [ht] at hk;simp at hk
theorem OF{t:Nat}{x i:Operand}(bX:gI P E)(h:Inv w0 F0 Z0 n s a w ι Z)(ag:∀k,o.dst=some k→k<n)(ho:o.op=.index t x i)(hk:cQ E id o s K=some r) :
  ∃ar,K ar=some r∧Pure P o a w (cV w0 F0 Z0 n ar):=by
 unfold cQ at hk
 rw [ho] at hk
 simp only at hk
 have hx:=eT h x
 have hi:=eT h i
 cases ht:E.ty t with
 | none=>rw [ht] at hk;simp at hk
 | some T =>
  cases T with
  | str =>
   have hu:P.underlying t=some .string:=by have:=bX.ty t _ ht;simp only [ae.ok] at this;exact this.1
   rw [ht] at hk
   cases sW:j8 (bT s i) with
   | none=>rw [sW] at hk;cases cJ:bT s x with
    | aU c=>rw [cJ] at hk;cases c <;> simp at hk
    | _=>rw [cJ] at hk;simp at hk
   | some q =>
    rw [sW] at hk
    obtain ⟨de,vv⟩:=rh sW hi
    cases cJ:bT s x with
    | aU c =>
     rw [cJ] at hk hx
     simp only [aQ] at hx
     cases c with
     | str b =>
      simp only at hk
      obtain ⟨k,h1,hk⟩:=bf hk
      obtain ⟨h2,h3,rfl,h4⟩:=xM h1
      obtain ⟨bn,iG,rfl⟩:=hx
      refine⟨_,hk,dw (v:=.int .u8 ((bn.data.toList.getD q.toNat 0).toNat:Int)) (fun w'=>?_) h (by simp only [aQ,cf]) ag⟩
      unfold execOp;rw [ho]
      refine fH ?_
      have hsz:q.toNat<bn.size:=by simpa using h4
      simp only [Instr.index,iG,vv,run_bind,Hu,run_underlying hu,if_pos h2]
      have aA:bn[q.toNat]?=some bn[q.toNat]:=by simp [hsz]
      rw [aA]
      simp only [run_pure]
      congr 3
      have:bn.data.toList.getD q.toNat 0=bn[q.toNat]:=by
       simp [List.getD_eq_getElem?_getD,hsz]
       rfl
      rw [this]
     | _=>simp at hk
    | _=>rw [cJ] at hk;simp at hk
  | _=>rw [ht] at hk;simp at hk
end
end Go.LM
namespace Go.LM
section
variable{P:Program}{Q:Exit→Act→World→Prop}
variable{w0:World}{F0 Z0:ah}{n:cB}{s ar:aq}{a b6:Act}{w w':World}{ι bd:Nat→bC}{Z Z':ah}
variable{E:Env}{o:Oper}{bs : Type}{K:aq→Option bs}{r : bs}{id:Nat}
theorem run_sliceBound{k:IntKind}{i:Int}{y:Nat}{code:BoundsCode}(h0:0≤i)(h1:i≤(y:Int)):(Instr.sliceBound (.int k i) y code).run P w=.ok i.toNat w:=by
 unfold Instr.sliceBound
 simp only [run_bind,Hu]
 rw [if_pos ⟨h0,h1⟩];rfl
theorem Hw(h:Inv w0 F0 Z0 n s a w ι Z){x:Option Operand}{d i:Int}(hb:bound s x d=some i) :
  (x=none∧i=d)∨∃y k,x=some y∧a.eval y=.int k i:=by
 cases x with
 | none=>simp [bound] at hb;exact .inl ⟨rfl,hb.symm⟩
 | some y =>
  obtain ⟨k,hk⟩:=rh (x:=bT s y) hb (eT h y)
  exact .inr ⟨y,k,rfl,hk⟩
theorem OG(h:Inv w0 F0 Z0 n s a w ι Z){X5:Bool}{len cap:Nat}{lo hi:Option Operand}{l q:Int}(hl:bound s lo 0=some l)(hq:bound s hi len=some q)
  (h0:0≤l) (h1:l≤q) (h2:q≤(len:Int)) (hc:len≤cap) :
  (Instr.sliceBounds X5 len cap (lo.map a.eval) (hi.map a.eval) none).run P w'=.ok (l.toNat,q.toNat,cap) w':=by
 unfold Instr.sliceBounds
 rcases Hw h hl with⟨rfl,rfl⟩ | ⟨y,k,rfl,aO⟩ <;> rcases Hw h hq with⟨rfl,rfl⟩ | ⟨lM,k',rfl,AW⟩
 ·simp only [Option.map_none,run_bind,run_pure,Int.toNat_natCast];rfl
 ·simp only [Option.map_none,Option.map_some,run_bind,run_pure,AW]
  rw [run_sliceBound (by omega) (by omega)];rfl
 ·simp only [Option.map_none,Option.map_some,run_bind,run_pure,aO,Int.toNat_natCast]
  simp only [Option.isSome_none,Bool.false_eq_true,if_false]
  rw [run_sliceBound h0 (by omega)]
 ·simp only [Option.map_some,run_bind,run_pure,aO,AW]
  rw [run_sliceBound (by omega) (by omega)]
  simp only [Option.isSome_none,Bool.false_eq_true,if_false]
  rw [run_sliceBound h0 (by omega)]
theorem X6(h:Inv w0 F0 Z0 n s a w ι Z){len cap:Nat}{lo:Option Operand}{y m:Operand}{l q:Int}{k k':IntKind}(hl:bound s lo 0=some l)(aO:a.eval y=.int k q)(hm:a.eval m=.int k' q)
  (h0:0≤l) (h1:l≤q) (h2:q≤(cap:Int)) :
  (Instr.sliceBounds true len cap (lo.map a.eval) (some (a.eval y)) (some (a.eval m))).run P w'=.ok (l.toNat,q.toNat,q.toNat) w':=by
 unfold Instr.sliceBounds
 rcases Hw h hl with⟨rfl,rfl⟩ | ⟨z,ako,rfl,hz⟩
 ·simp only [Option.map_none,run_bind,run_pure,aO,hm,if_true]
  rw [run_sliceBound (by omega) h2]
  simp only
  rw [run_sliceBound (by omega) (by omega)]
  rfl
 ·simp only [Option.map_some,run_bind,run_pure,aO,hm,hz,if_true]
  rw [run_sliceBound (by omega) h2]
  simp only
  rw [run_sliceBound (by omega) (by omega)]
  simp only [Option.isSome_some,if_true]
  rw [run_sliceBound h0 (by omega)]
theorem extract_toList(b:ByteArray)(l h:Nat):(b.extract l h).data.toList=part b.data.toList l (h-l):=by
 unfold part
 rw [ByteArray.data_extract,Array.toList_extract,List.extract_eq_take_drop]
theorem OH{T:ae}{c c':a8}{A:Option Addr}{m k:Nat}{l q:Nat}{gE:Nat}{u:ae}(bX:T=.sl u)(hf:kt s T c=true)(hlen:nF s c=some m)
  (iH:vg c l (q-l)=some c') (hc:cf w Z s ι c (.slice A m k)) (h1:l≤q) (h2:q≤m) (h3:q≤gE) (h4:gE≤k) :
  cf w Z s ι c' (.slice (if gE=l then A else A.map (·.add (l*u.size))) (q-l) (gE-l)):=by
 subst bX
 cases c with
 | nil v =>
  obtain rfl:=aV iH
  have hv:Value.slice A m k=.slice none 0 0:=hc
  simp only [Value.slice.injEq] at hv
  obtain ⟨rfl,rfl,rfl⟩:=hv
  have:l=0:=by omega
  have:gE=0:=by omega
  have:q=0:=by omega
  subst_vars
  exact rfl
 | bW v dp cr xs =>
  obtain rfl:=aV iH
  simp only [kt] at hf
  have Hy:=beq_eq hf
  injection Hy with Hy
  subst Hy
  obtain ⟨ag,_,hr,_⟩:=hc
  refine⟨ag,⟨_,_,_,rfl⟩,fun ha=>?_,.none⟩
  have:=hr ha
  simp only [ae.al] at this ⊢
  obtain ⟨oQ,Hz,hv,hx⟩:=this
  simp only [List.cons.injEq,Value.slice.injEq,and_true] at hv
  obtain ⟨rfl,rfl,rfl⟩:=hv
  have fI:(part xs l (q-l)).length=q-l:=by simp only [part,List.length_take,List.length_drop];omega
  refine⟨_,_,by rw [fI],?_⟩
  by_cases X7:q-l=0
  ·left;exact List.eq_nil_of_length_eq_zero (by rw [fI,X7])
  ·right
   rcases hx with rfl | ⟨a0,rfl,hsp,hrow,hz,xN⟩
   ·simp at h2;omega
   obtain ⟨cM,dI,sp⟩:=a0
   simp only at hsp
   subst hsp
   refine⟨at_ cM (dI+l*u.size),?_,rfl,(hrow.drop l).take _,fun j hj=>?_,by rw [fI];omega⟩
   ·rw [if_neg (by omega)]
    exact congrArg some (pS _ _ _)
   ·rw [fI] at hj
    have:=hz (l*u.size+j) (by
     have a7:(l +(q-l))*u.size≤xs.length*u.size:=Nat.mul_le_mul_right _ (by omega)
     rw [Nat.add_mul] at a7;omega)
    rwa [← Nat.add_assoc] at this
 | ag j sub =>
  obtain rfl:=aV iH
  obtain ⟨jI,oQ,m',k',hv,hh⟩:=hc
  simp only [Value.slice.injEq] at hv
  obtain ⟨rfl,rfl,rfl⟩:=hv
  refine⟨jI,_,_,_,rfl,fun t em ver xs bU=>?_⟩
  obtain ⟨g1,g2,g3,g4,g5⟩:=hh t em ver xs bU
  have ht:t=u:=by
   simp only [kt] at hf
   cases vl:s.o j with
   | row =>
    rw [vl] at hf bU
    simp only [ck.core,ck.row.injEq] at bU
    obtain ⟨rfl,_⟩:=bU
    have:=beq_eq hf
    injection this with this
    exact this.symm
   | _=>rw [vl] at hf;simp at hf
  subst ht
  have e1:eb (some (eb sub+l,q-l))=eb sub+l:=rfl
  refine⟨rfl,by rw [e1];omega,by omega,by rw [e1];omega,?_⟩
  by_cases X8:gE=l
  ·left;omega
  ·right
   rcases g5 with g5 | ⟨a0,hb,rfl⟩
   ·omega
   ·refine⟨a0,hb,?_⟩
    rw [if_neg X8]
    simp only [Option.map_some,pS,e1,Nat.add_mul,Nat.add_assoc]
 | _=>simp [vg] at iH <;>(simp [kt] at hf <;> simp [ae.beq] at hf)
theorem HA{T:ae}{c:a8}{v:Value}{m:Nat}{u:ae}(bX:T=.sl u)(hf:kt s T c=true)(hlen:nF s c=some m)(hc:cf w Z s ι c v) :
  ∃A k,v=.slice A m k∧m≤k:=by
 subst bX
 cases c with
 | nil x=>simp only [nF,Option.some.injEq] at hlen;subst hlen;exact⟨none,0,hc,Nat.le_refl _⟩
 | bW x dp cr xs =>
  simp only [nF] at hlen
  cases ha:alive s dp
  ·rw [ha] at hlen;simp at hlen
  rw [ha] at hlen
  simp only [cond_true,Option.some.injEq] at hlen
  subst hlen
  have:=hc.2.2.1 ha
  simp only [ae.al] at this
  obtain ⟨A,c,hv,hx⟩:=this
  simp only [List.cons.injEq,and_true] at hv
  refine⟨A,c,hv,?_⟩
  rcases hx with rfl | ⟨_,_,_,_,_,xN⟩
  ·simp
  ·exact xN
 | ag j sub =>
  simp only [nF] at hlen
  cases ho:s.o j with
  | row t em ver xs =>
   rw [ho] at hlen
   simp only [Option.some.injEq] at hlen
   obtain ⟨_,A,m',k,rfl,hh⟩:=hc
   obtain ⟨g1,g2,g3,g4,g5⟩:=hh _ _ _ _ (k0 ho)
   have:m'=m:=by
    rw [← hlen,g1]
    cases sub with
    | none=>rfl
    | some p=>rfl
   subst this
   exact⟨A,k,rfl,g3⟩
  | _=>rw [ho] at hlen;simp at hlen
 | _=>simp [kt,ae.beq] at hf
theorem OI{t:Nat}{x:Operand}{lo hi gE:Option Operand}(bX:gI P E)(h:Inv w0 F0 Z0 n s a w ι Z)(ag:∀k,o.dst=some k→k<n)(ho:o.op=.slice t x lo hi gE)(hk:cQ E id o s K=some r) :
  ∃ar,K ar=some r∧Pure P o a w (cV w0 F0 Z0 n ar):=by
 unfold cQ at hk
 rw [ho] at hk
 simp only at hk
 have hx:=eT h x
 cases ht:E.ty t with
 | none=>rw [ht] at hk;simp at hk
 | some T =>
  rw [ht] at hk
  simp only [N8] at hk
  cases cJ:bT s x with
  | aU c =>
   rw [cJ] at hk hx
   simp only at hk
   simp only [aQ] at hx
   cases hf:kt s T c
   ·rw [hf] at hk;simp at hk
   rw [hf] at hk
   simp only [cond_true] at hk
   cases hlen:nF s c with
   | none=>rw [hlen] at hk;simp at hk
   | some m =>
    rw [hlen] at hk
    simp only at hk
    cases hl:bound s lo 0 with
    | none=>rw [hl] at hk;simp at hk
    | some l =>
     cases hq:bound s hi (m:Int) with
     | none=>rw [hl,hq] at hk;simp at hk
     | some q =>
      rw [hl,hq] at hk
      simp only at hk
      have main:(dZ m l q).bind (fun r=>match vg c r.1 (r.2-r.1) with | some c'=>K (s.dst o.dst (.aU c')) | none=>none)=some r →
        ∃c',K (s.dst o.dst (.aU c'))=some r∧0≤l∧l≤q∧q≤(m:Int)∧vg c l.toNat (q.toNat-l.toNat)=some c':=by
       intro hk
       obtain ⟨p,h1,hk⟩:=bf hk
       obtain ⟨h2,h3,h4,rfl⟩:=X4 h1
       cases iH:vg c l.toNat (q.toNat-l.toNat) with
       | none=>simp only [iH] at hk;simp at hk
       | some c'=>simp only [iH] at hk;exact⟨c',hk,h2,h3,h4,rfl⟩
      cases gE with
      | none =>
       obtain ⟨c',hk,h2,h3,h4,iH⟩:=main hk
       refine⟨_,hk,?_⟩
       by_cases vw:T=.str
       ·subst vw
        have hu:P.underlying t=some .string:=by have:=bX.ty t _ ht;simp only [ae.ok] at this;exact this.1
        cases c <;> simp only [kt,ae.beq] at hf <;> try (simp at hf;done)
        ·rename_i b
         obtain ⟨bn,iG,rfl⟩:=hx
         simp only [nF,Option.some.injEq] at hlen
         obtain rfl:=aV iH
         refine dw (v:=.string (bn.extract l.toNat q.toNat)) (fun w'=>?_) h ?_ ag
         ·unfold execOp;rw [ho]
          refine fH ?_
          have hsz:bn.size=m:=by rw [← hlen];simp
          simp only [Instr.sliceAt,Instr.slice,run_bind,run_underlying hu,iG,Option.map_none]
          simp only [Option.isSome_none,Bool.false_eq_true,if_false]
          rw [hsz,run_bind,OG h hl hq h2 h3 h4 (Nat.le_refl _)]
          rfl
         ·simp only [aQ]
          exact⟨_,rfl,extract_toList _ _ _⟩
        ·cases jJ:s.o _ <;> rw [jJ] at hf <;> simp [ae.beq] at hf
       ·cases T with
        | str=>exact absurd rfl vw
        | sl u =>
         obtain ⟨e,hu,iW⟩:=k_ (bX.ty t _ ht)
         have hv:=HA rfl hf hlen hx
         obtain ⟨A,k,iG,mL⟩:=hv
         rw [iG] at hx
         refine dw (fun w'=>?_) h (x:=.aU c') (v:=.slice (if k=l.toNat then A else A.map (·.add (l.toNat*u.size))) (q.toNat-l.toNat) (k-l.toNat)) ?_ ag
         ·unfold execOp;rw [ho]
          refine fH ?_
          simp only [Instr.sliceAt,Instr.slice,run_bind,run_underlying hu,iG,Option.map_none]
          rw [OG h hl hq h2 h3 h4 mL]
          simp only [run_bind,run_sizeOf iW,run_pure]
         ·simp only [aQ]
          exact OH rfl hf hlen iH hx (by omega) (by omega) (by omega) (Nat.le_refl _)
        | _=>cases c <;> simp only [kt,ae.beq] at hf <;> first | (simp at hf;done) | (cases jJ:s.o _ <;> rw [jJ] at hf <;> simp [ae.beq] at hf)
      | some OJ =>
       simp only at hk
       cases vw:ae.beq T .str
       case true=>rw [vw] at hk;simp at hk
       rw [vw] at hk
       simp only [cond_false] at hk
       cases lS:j8 (bT s OJ) with
       | none=>rw [lS] at hk;simp at hk
       | some X9 =>
        rw [lS] at hk
        simp only at hk
        cases hi with
        | none=>simp at hk
        | some y =>
         simp only [Option.isSome_some,cond_true,jl] at hk
         cases xO:decide (q=X9)
         ·rw [xO] at hk;simp at hk
         rw [xO] at hk
         have xO:=of_decide_eq_true xO
         subst xO
         obtain ⟨c',hk,h2,h3,h4,iH⟩:=main hk
         obtain ⟨k1,aO⟩:=rh hq (eT h y)
         obtain ⟨k2,vx⟩:=rh lS (eT h OJ)
         refine⟨_,hk,?_⟩
         cases T with
         | str=>simp [ae.beq] at vw
         | sl u =>
          obtain ⟨e,hu,iW⟩:=k_ (bX.ty t _ ht)
          obtain ⟨A,k,iG,mL⟩:=HA rfl hf hlen hx
          rw [iG] at hx
          refine dw (fun w'=>?_) h (x:=.aU c') (v:=.slice (if q.toNat=l.toNat then A else A.map (·.add (l.toNat*u.size))) (q.toNat-l.toNat) (q.toNat-l.toNat)) ?_ ag
          ·unfold execOp;rw [ho]
           refine fH ?_
           simp only [Instr.sliceAt,Instr.slice,run_bind,run_underlying hu,iG,Option.map_some]
           rw [X6 h hl aO vx h2 h3 (by omega)]
           simp only [run_bind,run_sizeOf iW,run_pure]
          ·simp only [aQ]
           exact OH rfl hf hlen iH hx (by omega) (by omega) (by omega) (by omega)
         | _=>cases c <;> simp only [kt,ae.beq] at hf <;> first | (simp at hf;done) | (cases jJ:s.o _ <;> rw [jJ] at hf <;> simp [ae.beq] at hf)
  | _=>rw [cJ] at hk;simp at hk
end
end Go.LM
namespace Go.LM
section
variable{P:Program}{Q:Exit→Act→World→Prop}
variable{w0:World}{F0 Z0:ah}{n:cB}{s ar:aq}{a b6:Act}{w w':World}{ι bd:Nat→bC}{Z Z':ah}
variable{E:Env}{o:Oper}{bs : Type}{K:aq→Option bs}{r : bs}{id:Nat}
theorem AX{k k':IntKind}(h:Nat.beq (di k) (di k')=true):k=k':=sH (Nat.eq_of_beq_eq_true h)
theorem ri{α : Type}{b:Bool}{x:Option α}{y : α}(h:jl b x=some y):b=true∧x=some y:=by
 cases b
 ·simp [jl] at h
 ·exact⟨rfl,h⟩
theorem toList_data(z:ByteArray):z.toList=z.data.toList:=by
 unfold ByteArray.toList
 have key:∀(m i:Nat) (r:List UInt8),z.size-i=m→i≤z.size→ByteArray.toList.loop z i r=r.reverse++z.data.toList.drop i:=by
  intro m
  induction m with
  | zero =>
   intro i r h hi
   unfold ByteArray.toList.loop
   rw [if_neg (by omega),List.drop_of_length_le (by simp;show z.data.size≤i;have:z.data.size=z.size:=rfl;omega)]
   simp
  | succ m ih =>
   intro i r h hi
   unfold ByteArray.toList.loop
   rw [if_pos (by omega),ih (i+1) _ (by omega) (by omega)]
   have cz:i<z.data.toList.length:=by simp;show i<z.data.size;have:z.data.size=z.size:=rfl;omega
   rw [List.drop_eq_getElem_cons cz]
   have aA:z.get! i=z.data.toList[i]:=by
    simp [ByteArray.get!]
    have:i<z.data.size:=by simpa using cz
    exact getElem!_pos z.data i this
   rw [aA];simp
 have:=key z.size 0 [] rfl (by omega)
 simpa using this
theorem OK(x y:ByteArray):(x.toList==y.toList)=br x.data.toList y.data.toList:=by
 rw [toList_data,toList_data,Bool.eq_iff_iff]
 simp [br]
theorem OL{x:Option a6}{K:a6→Option bs}(h:lift x K=some r):∃v,x=some v∧K v=some r:=by
 cases x with
 | none=>simp [lift] at h
 | some v=>exact⟨v,rfl,h⟩
theorem X_{op:BinOp}{k:IntKind}{x y:Int}{v:a6}{ty yty:TypeId}{xo yo:Operand}(h:AK op k x y=some v)(h1:op≠.shl)(h2:op≠.shr)(h3:op≠.quo)(h4:op≠.rem) :
  ∃u,(∀w:World,(binOp op ty (.int k x) (.int k y)).run P w=.ok u w)∧∀w Z s ι,aQ w Z s ι v u:=by
 cases op <;> simp only [AK] at h <;> first | (simp at h;done) | (obtain rfl:=aV h)
 all_goals
  refine⟨_,fun w=>by simp only [binOp];rw [if_neg (by simp)];rfl,fun w Z s ι => ?_⟩
  simp only [aQ,cf]
  try rfl
theorem vy{op:BinOp}{ty:TypeId}{xo yo:Operand}{u v:Value}(h1:(∃k x,u=.int k x)∨(∃x,u=.string x)∨(∃x,u=.bool x)∨(∃x,u=.pointer x)) :
  (eqGuard op ty xo yo u v).run P w=.ok () w:=by
 unfold eqGuard
 rcases h1 with⟨k,x,rfl⟩ | ⟨x,rfl⟩ | ⟨x,rfl⟩ | ⟨x,rfl⟩ <;>(cases op <;> rfl)
theorem iX{op:BinOp}{ty yty:TypeId}{xo yo:Operand}{u:Value}(ho:o.op=.binOp op ty xo yo yty)(aA:(eqGuard op ty xo yo (a.eval xo) (a.eval yo)).run P w=.ok () w)
  (hr:(binOp op ty (a.eval xo) (a.eval yo)).run P w=.ok u w):(execOp a.eval o).run P w=.ok (.value u) w:=by
 unfold execOp;rw [ho]
 refine fH ?_
 rw [run_bind,aA]
 exact hr
theorem X'{op:BinOp}{x y:ByteArray}{v:a6}{ty:TypeId}(h:AL op x.data.toList y.data.toList=some v) :
  ∃u,(∀w:World,(binOp op ty (.string x) (.string y)).run P w=.ok u w)∧∀w Z s ι,aQ w Z s ι v u:=by
 cases op <;> simp only [AL] at h <;> first | (simp at h;done) | (obtain rfl:=aV h)
 all_goals
  refine⟨_,fun w=>rfl,fun w Z s ι => ?_⟩
  have:=OK x y
  simp only [toList_data] at this
  simp only [aQ,cf,du,toList_data,Value.bool.injEq,this]
theorem OM{op:UnOp}{t:Nat}{x:Operand}(h:Inv w0 F0 Z0 n s a w ι Z)(ag:∀k,o.dst=some k→k<n)(ho:o.op=.unOp op t x)(hk:cQ E id o s K=some r) :
  ∃ar,K ar=some r∧Pure P o a w (cV w0 F0 Z0 n ar):=by
 unfold cQ at hk
 rw [ho] at hk
 simp only at hk
 have hx:=eT h x
 have hrun:∀ {u:Value} {w:World},(Op.unary op (a.eval x)).run P w=.ok u w→(execOp a.eval o).run P w=.ok (.value u) w:=by
  intro u w hu;unfold execOp;rw [ho];exact fH hu
 cases cJ:bT s x with
 | aU c =>
  rw [cJ] at hk hx
  simp only [aQ] at hx
  cases op <;> cases c <;> simp only [GN] at hk <;> try (simp at hk;done)
  ·simp only [cf] at hx
   exact⟨_,hk,dw (fun w'=>hrun (by rw [hx];rfl)) h (by simp only [aQ,cf]) ag⟩
  ·simp only [cf] at hx
   exact⟨_,hk,dw (fun w'=>hrun (by rw [hx];rfl)) h (by simp only [aQ,cf];rfl) ag⟩
  ·simp only [cf] at hx
   exact⟨_,hk,dw (fun w'=>hrun (by rw [hx];rfl)) h (by simp only [aQ,cf]) ag⟩
 | _=>rw [cJ] at hk;cases op <;> simp [GN] at hk
def ON(P:Program)(E:Env):Prop:=∀id T,E.GK id=true→E.ty id=some T→∀(op:BinOp) (xo yo:Operand) (w:World) (Z:ah) (s:aq) (ι : Nat→bC) (cs ds:List a8) (us vs:List Value) (q:Bool),
  bG w Z s ι cs us→bG w Z s ι ds vs→T.cmp cs ds=some (q,[],[]) →
  (eqGuard op id xo yo (.agg us.toArray) (.agg vs.toArray)).run P w=.ok () w ∧
  (op=.eql→(binOp op id (.agg us.toArray) (.agg vs.toArray)).run P w=.ok (.bool q) w) ∧
  (op=.neq→(binOp op id (.agg us.toArray) (.agg vs.toArray)).run P w=.ok (.bool (!q)) w)
mutual
theorem ae.xP{w w':World}{Z:ah}{s:aq}{ι : Nat→bC} : ∀(t:ae) {cs ds:List a8} {r:Bool×List a8×List a8} {us vs:List Value},t.cmp cs ds=some r→bG w Z s ι cs us→bG w Z s ι ds vs →
  ∃us1 us2 vs1 vs2 a b,us=us1++us2∧vs=vs1++vs2∧cs=a++r.2.1∧ds=b++r.2.2∧bG w' Z s ι a us1∧bG w' Z s ι b vs1∧bG w Z s ι r.2.1 us2∧bG w Z s ι r.2.2 vs2
 | .int k,.int k1 x :: a,.int k2 y :: b,r,us,vs,h,h1,h2=>by
  simp only [ae.cmp] at h
  cases hk:(Nat.beq (di k1) (di k)&&Nat.beq (di k2) (di k))
  ·rw [hk] at h;cases h
  rw [hk] at h
  obtain rfl:=aV h
  cases us with
  | nil=>exact h1.elim
  | cons u us=>cases vs with
   | nil=>exact h2.elim
   | cons v vs=>exact⟨[u],us,[v],vs,[.int k1 x],[.int k2 y],rfl,rfl,rfl,rfl,⟨h1.1,trivial⟩,⟨h2.1,trivial⟩,h1.2,h2.2⟩
 | .bool,.bool x :: a,.bool y :: b,r,us,vs,h,h1,h2=>by
  obtain rfl:=aV h
  cases us with
  | nil=>exact h1.elim
  | cons u us=>cases vs with
   | nil=>exact h2.elim
   | cons v vs=>exact⟨[u],us,[v],vs,[.bool x],[.bool y],rfl,rfl,rfl,rfl,⟨h1.1,trivial⟩,⟨h2.1,trivial⟩,h1.2,h2.2⟩
 | .str,.str x :: a,.str y :: b,r,us,vs,h,h1,h2=>by
  obtain rfl:=aV h
  cases us with
  | nil=>exact h1.elim
  | cons u us=>cases vs with
   | nil=>exact h2.elim
   | cons v vs=>exact⟨[u],us,[v],vs,[.str x],[.str y],rfl,rfl,rfl,rfl,⟨h1.1,trivial⟩,⟨h2.1,trivial⟩,h1.2,h2.2⟩
 | .st aj,cs,ds,r,us,vs,h,h1,h2=>ay.xP aj (by simpa only [ae.cmp] using h) h1 h2
 | .sl t,cs,ds,r,us,vs,h,h1,h2=>by simp [ae.cmp] at h
 | .raw,cs,ds,r,us,vs,h,h1,h2=>by simp [ae.cmp] at h
 | .int k,[],_,_,_,_,h,_,_=>by simp [ae.cmp] at h
 | .bool,[],_,_,_,_,h,_,_=>by simp [ae.cmp] at h
 | .str,[],_,_,_,_,h,_,_=>by simp [ae.cmp] at h
 | .int k,c :: _,[],_,_,_,h,_,_=>by cases c <;> simp [ae.cmp] at h
 | .bool,c :: _,[],_,_,_,h,_,_=>by cases c <;> simp [ae.cmp] at h
 | .str,c :: _,[],_,_,_,h,_,_=>by cases c <;> simp [ae.cmp] at h
 | .int k,.bool _ :: _,_ :: _,_,_,_,h,_,_ | .int k,.str _ :: _,_ :: _,_,_,_,h,_,_ | .int k,.nil _ :: _,_ :: _,_,_,_,h,_,_ | .int k,.bW _ _ _ _ :: _,_ :: _,_,_,_,h,_,_ | .int k,.ag _ _ :: _,_ :: _,_,_,_,h,_,_ | .int k,.raw _ :: _,_ :: _,_,_,_,h,_,_=>by simp [ae.cmp] at h
 | .bool,.int _ _ :: _,_ :: _,_,_,_,h,_,_ | .bool,.str _ :: _,_ :: _,_,_,_,h,_,_ | .bool,.nil _ :: _,_ :: _,_,_,_,h,_,_ | .bool,.bW _ _ _ _ :: _,_ :: _,_,_,_,h,_,_ | .bool,.ag _ _ :: _,_ :: _,_,_,_,h,_,_ | .bool,.raw _ :: _,_ :: _,_,_,_,h,_,_=>by simp [ae.cmp] at h
 | .str,.int _ _ :: _,_ :: _,_,_,_,h,_,_ | .str,.bool _ :: _,_ :: _,_,_,_,h,_,_ | .str,.nil _ :: _,_ :: _,_,_,_,h,_,_ | .str,.bW _ _ _ _ :: _,_ :: _,_,_,_,h,_,_ | .str,.ag _ _ :: _,_ :: _,_,_,_,h,_,_ | .str,.raw _ :: _,_ :: _,_,_,_,h,_,_=>by simp [ae.cmp] at h
 | .int k,.int _ _ :: _,.bool _ :: _,_,_,_,h,_,_ | .int k,.int _ _ :: _,.str _ :: _,_,_,_,h,_,_ | .int k,.int _ _ :: _,.nil _ :: _,_,_,_,h,_,_ | .int k,.int _ _ :: _,.bW _ _ _ _ :: _,_,_,_,h,_,_ | .int k,.int _ _ :: _,.ag _ _ :: _,_,_,_,h,_,_ | .int k,.int _ _ :: _,.raw _ :: _,_,_,_,h,_,_=>by simp [ae.cmp] at h
 | .bool,.bool _ :: _,.int _ _ :: _,_,_,_,h,_,_ | .bool,.bool _ :: _,.str _ :: _,_,_,_,h,_,_ | .bool,.bool _ :: _,.nil _ :: _,_,_,_,h,_,_ | .bool,.bool _ :: _,.bW _ _ _ _ :: _,_,_,_,h,_,_ | .bool,.bool _ :: _,.ag _ _ :: _,_,_,_,h,_,_ | .bool,.bool _ :: _,.raw _ :: _,_,_,_,h,_,_=>by simp [ae.cmp] at h
 | .str,.str _ :: _,.int _ _ :: _,_,_,_,h,_,_ | .str,.str _ :: _,.bool _ :: _,_,_,_,h,_,_ | .str,.str _ :: _,.nil _ :: _,_,_,_,h,_,_ | .str,.str _ :: _,.bW _ _ _ _ :: _,_,_,_,h,_,_ | .str,.str _ :: _,.ag _ _ :: _,_,_,_,h,_,_ | .str,.str _ :: _,.raw _ :: _,_,_,_,h,_,_=>by simp [ae.cmp] at h
theorem ay.xP{w w':World}{Z:ah}{s:aq}{ι : Nat→bC} : ∀(t:ay) {cs ds:List a8} {r:Bool×List a8×List a8} {us vs:List Value},t.cmp cs ds=some r→bG w Z s ι cs us→bG w Z s ι ds vs →
  ∃us1 us2 vs1 vs2 a b,us=us1++us2∧vs=vs1++vs2∧cs=a++r.2.1∧ds=b++r.2.2∧bG w' Z s ι a us1∧bG w' Z s ι b vs1∧bG w Z s ι r.2.1 us2∧bG w Z s ι r.2.2 vs2
 | .nil,cs,ds,r,us,vs,h,h1,h2=>by
  obtain rfl:=aV h
  exact⟨[],us,[],vs,[],[],rfl,rfl,rfl,rfl,trivial,trivial,h1,h2⟩
 | .cons t aj,cs,ds,r,us,vs,h,h1,h2=>by
  simp only [ay.cmp] at h
  obtain ⟨bB,g1,h⟩:=bf h
  obtain ⟨cc,g2,h⟩:=bf h
  obtain rfl:=aV h
  obtain ⟨a1,a2,iF,pV,a,b,rfl,rfl,e1,e2,k1,k2,k3,bh⟩:=ae.xP (w':=w') t g1 h1 h2
  obtain ⟨a3,a4,rj,AY,b6,b',rfl,rfl,e3,fJ,dP,eF,nR,oN⟩:=ay.xP (w':=w') aj g2 k3 bh
  exact⟨a1++a3,a4,iF++rj,AY,a++b6,b++b',by simp,by simp,by rw [e1,e3];simp,by rw [e2,fJ];simp,k1.append dP,k2.append eF,nR,oN⟩
end
theorem OO{w:World}{Z:ah}{s:aq}{ι : Nat→bC}{T:ae}{cs ds:List a8}{q:Bool}{us vs:List Value}(h:T.cmp cs ds=some (q,[],[]))(h1:bG w Z s ι cs us)(h2:bG w Z s ι ds vs)(w':World) :
  bG w' Z s ι cs us∧bG w' Z s ι ds vs:=by
 obtain ⟨us1,us2,vs1,vs2,a,b,e3,fJ,sX,OP,bu,dd,dj,ef⟩:=ae.xP (w':=w') T h h1 h2
 have fF:us2=[]:=by cases us2 with | nil=>rfl | cons=>exact dj.elim
 have lN:vs2=[]:=by cases vs2 with | nil=>rfl | cons=>exact ef.elim
 subst fF lN
 simp only [List.append_nil] at e3 fJ sX OP
 rw [e3,fJ,sX,OP]
 exact⟨bu,dd⟩
theorem OQ{op:BinOp}{t AZ:Nat}{x y:Operand}(bX:gI P E)(hE:ON P E)(h:Inv w0 F0 Z0 n s a w ι Z)(ag:∀k,o.dst=some k→k<n)(ho:o.op=.binOp op t x y AZ)(hk:cQ E id o s K=some r) :
  ∃ar,K ar=some r∧Pure P o a w (cV w0 F0 Z0 n ar):=by
 unfold cQ at hk
 rw [ho] at hk
 simp only at hk
 have hx:=eT h x
 have aO:=eT h y
 cases cJ:bT s x with
 | aU c =>
  rw [cJ] at hk hx
  simp only [aQ] at hx
  cases gg:bT s y with
  | aU d =>
   rw [gg] at hk aO
   simp only [aQ] at aO
   cases c <;> cases d <;> simp only [ks] at hk <;> try (simp at hk;done)
   ·rename_i k i k' j
    simp only [cf] at hx aO
    have aA:∀w:World,(eqGuard op t x y (a.eval x) (a.eval y)).run P w=.ok () w:=fun w=>vy (by rw [hx];exact .inl ⟨_,_,rfl⟩)
    by_cases h1:op=.shl
    ·subst h1
     obtain ⟨h0,hk⟩:=ri hk
     have h0:=of_decide_eq_true h0
     refine⟨_,hk,dw (fun w'=>iX ho (aA w') (by rw [hx,aO];simp only [binOp,Op.shift];rw [if_neg (by omega)];rfl)) h (by simp only [aQ,cf]) ag⟩
    by_cases h2:op=.shr
    ·subst h2
     obtain ⟨h0,hk⟩:=ri hk
     have h0:=of_decide_eq_true h0
     refine⟨_,hk,dw (fun w'=>iX ho (aA w') (by rw [hx,aO];simp only [binOp,Op.shift];rw [if_neg (by omega)];rfl)) h (by simp only [aQ,cf]) ag⟩
    by_cases h3:op=.quo
    ·subst h3
     cases hkk:Nat.beq (di k) (di k')
     ·rw [hkk] at hk;simp at hk
     have hk1:jl (j != 0) (K (s.dst o.dst (.aU (.int k (k.wrap (i.tdiv j))))))=some r:=by
      have hk2:cond (Nat.beq (di k) (di k')) (jl (j != 0) (K (s.dst o.dst (.aU (.int k (k.wrap (i.tdiv j))))))) none=some r:=hk
      rw [hkk] at hk2;exact hk2
     clear hk
     obtain ⟨h0,hk⟩:=ri hk1
     obtain rfl:=AX hkk
     have h0:j≠0:=by simpa using h0
     refine⟨_,hk,dw (fun w'=>iX ho (aA w') (by rw [hx,aO];simp only [binOp,Op.intDiv];rw [if_neg (by simp),if_neg h0];rfl)) h (by simp only [aQ,cf]) ag⟩
    by_cases h4:op=.rem
    ·subst h4
     cases hkk:Nat.beq (di k) (di k')
     ·rw [hkk] at hk;simp at hk
     have hk1:jl (j != 0) (K (s.dst o.dst (.aU (.int k (i.tmod j)))))=some r:=by
      have hk2:cond (Nat.beq (di k) (di k')) (jl (j != 0) (K (s.dst o.dst (.aU (.int k (i.tmod j)))))) none=some r:=hk
      rw [hkk] at hk2;exact hk2
     clear hk
     obtain ⟨h0,hk⟩:=ri hk1
     obtain rfl:=AX hkk
     have h0:j≠0:=by simpa using h0
     refine⟨_,hk,dw (fun w'=>iX ho (aA w') (by rw [hx,aO];simp only [binOp,Op.intDiv];rw [if_neg (by simp),if_neg h0];rfl)) h (by simp only [aQ,cf]) ag⟩
    have ee:cond (Nat.beq (di k) (di k')) (lift (AK op k i j) fun v=>K (s.dst o.dst v)) none=some r:=by
     cases op <;> first | exact hk | exact absurd rfl h1 | exact absurd rfl h2 | exact absurd rfl h3 | exact absurd rfl h4
    cases hkk:Nat.beq (di k) (di k')
    ·rw [hkk] at ee;simp at ee
    rw [hkk] at ee
    obtain rfl:=AX hkk
    obtain ⟨v,hv,ee⟩:=OL ee
    obtain ⟨u,hu,cK⟩:=X_ (P:=P) (ty:=t) (yty:=AZ) (xo:=x) (yo:=y) hv h1 h2 h3 h4
    exact⟨_,ee,dw (fun w'=>iX ho (aA w') (by rw [hx,aO];exact hu w')) h (cK _ _ _ _) ag⟩
   ·rename_i i j
    simp only [cf] at hx aO
    have aA:∀w:World,(eqGuard op t x y (a.eval x) (a.eval y)).run P w=.ok () w:=fun w=>vy (by rw [hx];exact .inr (.inr (.inl ⟨_,rfl⟩)))
    cases ht:E.ty t with
    | none=>rw [ht] at hk;simp at hk
    | some T =>
     cases T with
     | bool =>
      rw [ht] at hk
      have hu:P.underlying t=some .bool:=by have:=bX.ty t _ ht;simp only [ae.ok] at this;exact this.1
      have hb:∀(i j:Bool) {w:World},(Op.equal t (.bool i) (.bool j)).run P w=.ok (i==j) w:=by
       intro i j w
       unfold Op.equal Op.maxDepth Op.equalIn
       rw [run_bind,run_underlying hu]
       rfl
      cases op <;> simp only at hk <;> try (simp at hk;done)
      ·exact⟨_,hk,dw (fun w'=>iX ho (aA w') (by rw [hx,aO];simp only [binOp,run_bind,hb];rfl)) h (by simp only [aQ,cf]) ag⟩
      ·exact⟨_,hk,dw (fun w'=>iX ho (aA w') (by rw [hx,aO];simp only [binOp,run_bind,hb];rfl)) h (by simp only [aQ,cf]) ag⟩
     | _=>rw [ht] at hk;simp at hk
   ·obtain ⟨vz,hx,rfl⟩:=hx
    obtain ⟨vA,aO,rfl⟩:=aO
    have aA:∀w:World,(eqGuard op t x y (a.eval x) (a.eval y)).run P w=.ok () w:=fun w=>vy (by rw [hx];exact .inr (.inl ⟨_,rfl⟩))
    by_cases h1:op=.add
    ·subst h1
     obtain ⟨h0,hk⟩:=ri hk
     have h0:=Nat.le_of_ble_eq_true h0
     simp only [Array.length_toList] at h0
     refine⟨_,hk,dw (v:=.string (vz++vA)) (fun w'=>iX ho (aA w') (by
      rw [hx,aO];simp only [binOp,Op.stringOp]
      rw [if_neg];rfl
      have e1:vz.data.size=vz.size:=rfl
      have e2:vA.data.size=vA.size:=rfl
      simp only [IntKind.max,IntKind.signed,IntKind.bits,if_true]
      omega)) h (by simp only [aQ,cf];exact⟨_,rfl,by simp⟩) ag⟩
    ·have ee:lift (AL op vz.data.toList vA.data.toList) (fun v=>K (s.dst o.dst v))=some r:=by
      cases op <;> first | exact hk | exact absurd rfl h1
     obtain ⟨v,hv,ee⟩:=OL ee
     obtain ⟨u,hu,cK⟩:=X' (P:=P) (ty:=t) hv
     exact⟨_,ee,dw (fun w'=>iX ho (aA w') (by rw [hx,aO];exact hu w')) h (cK _ _ _ _) ag⟩
  | kq =>
   rw [gg] at hk aO
   simp only [aQ] at aO
   cases c with
   | bW c8 dp cr xs =>
    cases dp with
    | cons=>simp [ks] at hk
    | nil =>
     simp only [ks] at hk
     cases rk:E.ty t with
     | none=>rw [rk] at hk;simp at hk
     | some T =>
      cases T with
      | sl u =>
       rw [rk] at hk
       obtain ⟨e,hu,_⟩:=k_ (bX.ty _ _ rk)
       obtain ⟨_,_,cK,_⟩:=hx
       have cK:=cK rfl
       simp only [ae.al] at cK
       obtain ⟨A,c',hv,sS⟩:=cK
       have iG:a.eval x=.slice A xs.length c':=by simpa using hv
       have aA:∀w:World,(eqGuard op t x y (a.eval x) (a.eval y)).run P w=.ok () w:=fun w=>by
        rw [iG,aO];unfold eqGuard;cases op <;> rfl
       have hb:∀ {w:World},(Op.equal t (.slice A xs.length c') (.slice none 0 0)).run P w=.ok A.isNone w:=by
        intro w
        unfold Op.equal Op.maxDepth Op.equalIn
        rw [run_bind,run_underlying hu]
        cases A <;> rfl
       have he:A.isNone=true→xs.isEmpty=true:=fun hA=>by
        rcases sS with sS | ⟨a0,sS,_⟩
        ·rw [sS];rfl
        ·rw [sS] at hA;cases hA
       have pick:∀ {k1 lT:Option bs},AM xs.isEmpty k1 lT=some r→(cond A.isNone k1 lT)=some r:=by
        intro k1 lT hk
        unfold AM both at hk
        cases hA:A.isNone
        ·rw [hA] at he
         cases OR:xs.isEmpty
         ·rw [OR] at hk;exact hk
         ·rw [OR] at hk
          simp only [cond_true] at hk
          split at hk
          ·rename_i h;rw [cond_false,← h];exact hk
          ·cases hk
        ·rw [he hA] at hk
         simp only [cond_true] at hk ⊢
         split at hk
         ·exact hk
         ·cases hk
       cases op <;> simp only at hk <;> try (simp at hk;done)
       ·have hk:=pick hk
        refine⟨s.dst o.dst (.aU (.bool A.isNone)),by cases A <;> exact hk,dw (fun w'=>iX ho (aA w') (by rw [iG,aO];simp only [binOp,run_bind,hb];rfl)) h (by simp only [aQ,cf]) ag⟩
       ·have hk:=pick hk
        refine⟨s.dst o.dst (.aU (.bool (!A.isNone))),by cases A <;> exact hk,dw (fun w'=>iX ho (aA w') (by rw [iG,aO];simp only [binOp,run_bind,hb];rfl)) h (by simp only [aQ,cf]) ag⟩
      | _=>rw [rk] at hk;simp at hk
   | _=>simp [ks] at hk
  | _=>rw [gg] at hk;cases c <;> simp [ks] at hk
 | h7 cs =>
  rw [cJ] at hk hx
  simp only [aQ] at hx
  cases gg:bT s y with
  | h7 ds =>
   rw [gg] at hk aO
   simp only [aQ] at aO
   obtain ⟨us,hx,OS⟩:=hx
   obtain ⟨vs,aO,OT⟩:=aO
   simp only [ks] at hk
   cases he:E.GK t
   ·rw [he] at hk;simp at hk
   rw [he] at hk
   simp only [cond_true] at hk
   cases rk:E.ty t with
   | none=>rw [rk] at hk;simp at hk
   | some T =>
   rw [rk] at hk
   simp only at hk
   cases hq:T.cmp cs ds with
   | none=>rw [hq] at hk;cases op <;> simp at hk
   | some q =>
    obtain ⟨q,bB,cc⟩:=q
    rw [hq] at hk
    match bB,cc,hq,hk with
    | [],[],hq,hk =>
     have hE:=fun w'=>hE t T he rk op x y w' Z s ι cs ds us vs q (OO hq OS OT w').1 (OO hq OS OT w').2 hq
     cases op <;> simp only at hk <;> try (simp at hk;done)
     ·exact⟨_,hk,dw (fun w'=>iX ho (by rw [hx,aO];exact(hE w').1) (by rw [hx,aO];exact(hE w').2.1 rfl)) h (by simp only [aQ,cf]) ag⟩
     ·exact⟨_,hk,dw (fun w'=>iX ho (by rw [hx,aO];exact(hE w').1) (by rw [hx,aO];exact(hE w').2.2 rfl)) h (by simp only [aQ,cf]) ag⟩
    | _ :: _,_,_,hk=>cases op <;> simp at hk
    | [],_ :: _,_,hk=>cases op <;> simp at hk
  | _=>rw [gg] at hk;simp [ks] at hk
 | opt j i =>
  rw [cJ] at hk hx
  simp only [aQ] at hx
  cases gg:bT s y with
  | jD =>
   rw [gg] at hk aO
   simp only [aQ] at aO
   simp only [ks] at hk
   cases lU:E.sI t
   ·rw [lU] at hk;simp at hk
   rw [lU] at hk
   obtain ⟨e,hu⟩:=bX.ptr t lU
   have aA:∀w:World,(eqGuard op t x y (a.eval x) (a.eval y)).run P w=.ok () w:=by
    intro w
    rcases hx.2 with⟨_,hx⟩ | ⟨_,A,hx,_⟩ <;> exact vy (by rw [hx];exact .inr (.inr (.inr ⟨_,rfl⟩)))
   have hb:∀ {w:World},(Op.equal t (a.eval x) (.pointer none)).run P w=.ok (decide (i<0)) w:=by
    intro w
    rcases hx.2 with⟨h0,hx⟩ | ⟨h0,A,hx,_⟩
    ·rw [hx]
     unfold Op.equal Op.maxDepth Op.equalIn
     rw [run_bind,run_underlying hu]
     simp [h0,run_pure]
    ·rw [hx]
     unfold Op.equal Op.maxDepth Op.equalIn
     rw [run_bind,run_underlying hu]
     have:¬i<0:=by omega
     simp [this,run_pure]
   have la:∀(op:BinOp) (v:Value),(op=.eql→v=.bool (decide (i<0)))→(op=.neq→v=.bool (!decide (i<0)))→(op=.eql∨op=.neq)→∀ {w:World},(binOp op t (a.eval x) (a.eval y)).run P w=.ok v w:=by
    intro op v h1 h2 h3 w
    rw [aO]
    have p1:∃q,a.eval x=.pointer q:=by rcases hx.2 with⟨_,hx⟩ | ⟨_,A,hx,_⟩ <;> exact⟨_,hx⟩
    obtain ⟨q,p1⟩:=p1
    rw [p1]
    have hb:∀ {w:World},(Op.equal t (.pointer q) (.pointer none)).run P w=.ok (decide (i<0)) w:=fun {w} => by rw [← p1];exact hb
    rcases h3 with rfl | rfl
    ·rw [h1 rfl];simp only [binOp,run_bind,hb];rfl
    ·rw [h2 rfl];simp only [binOp,run_bind,hb];rfl
   cases op <;> simp only at hk <;> try (simp at hk;done)
   ·exact⟨_,hk,dw (fun w'=>iX ho (aA w') (la .eql _ (fun _=>rfl) (fun h=>by simp at h) (.inl rfl))) h (by simp only [aQ,cf]) ag⟩
   ·exact⟨_,hk,dw (fun w'=>iX ho (aA w') (la .neq _ (fun h=>by simp at h) (fun _=>rfl) (.inr rfl))) h (by simp only [aQ,cf]) ag⟩
  | _=>rw [gg] at hk;simp [ks] at hk
 | may b dp cs =>
  rw [cJ] at hk hx
  simp only [aQ] at hx
  cases gg:bT s y with
  | jD =>
   rw [gg] at hk aO
   simp only [aQ] at aO
   simp only [ks] at hk
   cases lU:E.sI t
   ·rw [lU] at hk;simp at hk
   rw [lU] at hk
   obtain ⟨e,hu⟩:=bX.ptr t lU
   have aA:∀w:World,(eqGuard op t x y (a.eval x) (a.eval y)).run P w=.ok () w:=by
    intro w
    rcases hx with⟨_,hx⟩ | ⟨_,_,_,_,_,hx,_⟩ <;> exact vy (by rw [hx];exact .inr (.inr (.inr ⟨_,rfl⟩)))
   have hb:∀ {w:World},(Op.equal t (a.eval x) (.pointer none)).run P w=.ok (!b) w:=by
    intro w
    rcases hx with⟨h0,hx⟩ | ⟨h0,_,_,_,_,hx,_⟩
    ·rw [hx]
     unfold Op.equal Op.maxDepth Op.equalIn
     rw [run_bind,run_underlying hu]
     simp [h0,run_pure]
    ·rw [hx]
     unfold Op.equal Op.maxDepth Op.equalIn
     rw [run_bind,run_underlying hu]
     simp [h0,run_pure]
   have la:∀(op:BinOp) (v:Value),(op=.eql→v=.bool (!b))→(op=.neq→v=.bool (b))→(op=.eql∨op=.neq)→∀ {w:World},(binOp op t (a.eval x) (a.eval y)).run P w=.ok v w:=by
    intro op v h1 h2 h3 w
    rw [aO]
    have p1:∃q,a.eval x=.pointer q:=by rcases hx with⟨_,hx⟩ | ⟨_,_,_,_,_,hx,_⟩ <;> exact⟨_,hx⟩
    obtain ⟨q,p1⟩:=p1
    rw [p1]
    have hb:∀ {w:World},(Op.equal t (.pointer q) (.pointer none)).run P w=.ok (!b) w:=fun {w} => by rw [← p1];exact hb
    rcases h3 with rfl | rfl
    ·rw [h1 rfl];simp only [binOp,run_bind,hb];rfl
    ·rw [h2 rfl];simp only [binOp,run_bind,hb];simp only [Bool.not_not];rfl
   cases op <;> simp only at hk <;> try (simp at hk;done)
   ·exact⟨_,hk,dw (fun w'=>iX ho (aA w') (la .eql _ (fun _=>rfl) (fun h=>by simp at h) (.inl rfl))) h (by simp only [aQ,cf]) ag⟩
   ·exact⟨_,hk,dw (fun w'=>iX ho (aA w') (la .neq _ (fun h=>by simp at h) (fun _=>rfl) (.inr rfl))) h (by simp only [aQ,cf]) ag⟩
  | _=>rw [gg] at hk;simp [ks] at hk
 | ptr p =>
  rw [cJ] at hk hx
  simp only [aQ] at hx
  obtain ⟨_,A,hx,_⟩:=hx
  cases gg:bT s y with
  | jD =>
   rw [gg] at hk aO
   simp only [aQ] at aO
   simp only [ks] at hk
   cases lU:E.sI t
   ·rw [lU] at hk;simp at hk
   rw [lU] at hk
   obtain ⟨e,hu⟩:=bX.ptr t lU
   have aA:∀w:World,(eqGuard op t x y (a.eval x) (a.eval y)).run P w=.ok () w:=fun w=>vy (by rw [hx];exact .inr (.inr (.inr ⟨_,rfl⟩)))
   have hb:∀ {w:World},(Op.equal t (.pointer (some A)) (.pointer none)).run P w=.ok false w:=by
    intro w
    unfold Op.equal Op.maxDepth Op.equalIn
    rw [run_bind,run_underlying hu]
    rfl
   cases op <;> simp only at hk <;> try (simp at hk;done)
   ·exact⟨_,hk,dw (fun w'=>iX ho (aA w') (by rw [hx,aO];simp only [binOp,run_bind,hb];rfl)) h (by simp only [aQ,cf]) ag⟩
   ·exact⟨_,hk,dw (fun w'=>iX ho (aA w') (by rw [hx,aO];simp only [binOp,run_bind,hb];rfl)) h (by simp only [aQ,cf];rfl) ag⟩
  | _=>rw [gg] at hk;simp [ks] at hk
 | _=>rw [cJ] at hk;simp [ks] at hk
end
end Go.LM
namespace Go.LM
def cZ{α : Type}(R : α → List Value→ah→Prop)(size:Nat):List α → List Value→ah→Prop
 | [],vs,_=>vs=[]
 | x :: xs,vs,F=>∃us aj G H,vs=us++aj∧R x us G∧us.length=size∧cZ R size xs aj H∧ah.apart G H∧ah.sub G F∧ah.sub H F
section
variable{α : Type}{R iB : α → List Value→ah→Prop}{size:Nat}{w:World}
theorem cZ.len:∀ {xs:List α} {vs:List Value} {F:ah},cZ R size xs vs F→vs.length=xs.length*size
 | [],_,_,h=>by simp only [cZ] at h;subst h;simp
 | x :: xs,_,_,h=>by
  obtain ⟨us,aj,G,H,rfl,_,h1,h2,_⟩:=h
  rw [List.length_append,h1,cZ.len h2,List.length_cons,Nat.add_one_mul];omega
theorem cZ.mono:∀ {xs:List α} {vs:List Value} {F F':ah},ah.sub F F'→cZ R size xs vs F→cZ R size xs vs F'
 | [],_,_,_,_,h=>h
 | x :: xs,_,_,_,hs,⟨us,aj,G,H,h1,h2,h3,h4,a7,bj,bE⟩=>⟨us,aj,G,H,h1,h2,h3,h4,a7,fun b o h=>hs b o (bj b o h),fun b o h=>hs b o (bE b o h)⟩
theorem cZ.imp:∀ {xs:List α} {vs:List Value} {F:ah},cZ R size xs vs F→(∀y us G,ah.sub G F→R y us G→iB y us G)→cZ iB size xs vs F
 | [],_,_,h,_=>h
 | x :: xs,_,F,⟨us,aj,G,H,h1,h2,h3,h4,a7,bj,bE⟩,dG =>
  ⟨us,aj,G,H,h1,dG _ _ _ bj h2,h3,cZ.imp h4 (fun y us dh hs=>dG y us dh fun b o h=>bE b o (hs b o h)),a7,bj,bE⟩
theorem cZ.bare:∀ {xs:List α} {vs:List Value} {F:ah},cZ R size xs vs F→(∀y us G,ah.sub G F→R y us G→iB y us ah.none)→cZ iB size xs vs ah.none
 | [],_,_,h,_=>h
 | x :: xs,_,F,⟨us,aj,G,H,h1,h2,h3,h4,a7,bj,bE⟩,dG =>
  ⟨us,aj,ah.none,ah.none,h1,dG _ _ _ bj h2,h3,cZ.bare h4 (fun y us dh hs=>dG y us dh fun b o h=>bE b o (hs b o h)),fun _ _ h=>h.elim,fun _ _ h=>h,fun _ _ h=>h⟩
theorem cZ.append:∀ {xs ys:List α} {us vs:List Value} {F G:ah},cZ R size xs us F→cZ R size ys vs G→ah.apart F G→cZ R size (xs++ys) (us++vs) (F.or G)
 | [],ys,us,vs,F,G,h,k,_=>by
  simp only [cZ] at h;subst h
  exact k.mono fun _ _ h=>.inr h
 | x :: xs,ys,us,vs,F,G,⟨a,b,A,B,h1,h2,h3,h4,a7,bj,bE⟩,k,ha=>by
  refine⟨a,b++vs,A,B.or G,by rw [h1,List.append_assoc],h2,h3,cZ.append h4 k (fun b o h=>ha b o (bE b o h)),?_,fun b o h=>.inl (bj b o h),fun b o h=>h.imp (bE b o) id⟩
  rintro b o g (h | h)
  ·exact a7 b o g h
  ·exact ha b o (bj b o g) h
theorem cZ.row:∀ {xs:List α} {vs:List Value} {F:ah} {b o:Nat},cZ R size xs vs F→b4 w b o vs→Row w R size xs b o F
 | [],_,_,_,_,_,_=>trivial
 | x :: xs,_,_,b,o,⟨us,aj,G,H,h1,h2,h3,h4,a7,bj,bE⟩,hc=>by
  subst h1
  exact⟨us,G,H,h2,h3,hc.left,cZ.row h4 (h3 ▸ hc.right),a7,bj,bE⟩
theorem Row.sy:∀ {xs:List α} {b o:Nat} {F:ah},Row w R size xs b o F→∃vs,cZ R size xs vs F∧b4 w b o vs
 | [],_,_,_,_=>⟨[],rfl,b4.nil _ _ _⟩
 | x :: xs,b,o,F,⟨us,G,H,h1,h2,h3,h4,a7,bj,bE⟩=>by
  obtain ⟨aj,k1,k2⟩:=Row.sy h4
  exact⟨us++aj,⟨us,aj,G,H,rfl,h1,h2,k1,a7,bj,bE⟩,h3.append (by rw [h2];exact k2)⟩
theorem cZ.replicate{x : α}{us:List Value}(dG:R x us ah.none)(hl:us.length=size):∀n,cZ R size (List.replicate n x) (List.replicate n us).flatten ah.none
 | 0=>rfl
 | n+1=>by
  rw [List.replicate_succ,List.replicate_succ,List.flatten_cons]
  exact⟨us,_,ah.none,ah.none,rfl,dG,hl,cZ.replicate dG hl n,fun _ _ h=>h.elim,fun _ _ h=>h,fun _ _ h=>h⟩
end
mutual
theorem HB{w:World}{Z F:ah} : ∀(t:ae) (m:ba),t.al w Z m t.zero t.cL F
 | .int _,_=>by simp only [ae.al,ae.zero,ae.cL]
 | .bool,_=>by simp only [ae.al,ae.zero,ae.cL]
 | .str,_=>by simp only [ae.al,ae.zero,ae.cL];exact⟨_,rfl,rfl⟩
 | .raw,_=>by simp only [ae.al,ae.zero,ae.cL];exact⟨trivial,_,_,_,rfl⟩
 | .sl t,.O e=>by simp only [ae.al,ae.zero,ae.cL];exact⟨none,0,rfl,.inl (by simp)⟩
 | .sl t,.R=>by simp only [ae.al,ae.zero,ae.cL];exact⟨none,0,rfl,.inl trivial⟩
 | .sl t,.S _=>by simp only [ae.al,ae.zero,ae.cL];exact⟨none,0,rfl,.inl trivial⟩
 | .st aj,m=>by simp only [ae.al,ae.zero,ae.cL];exact OU aj m.parts
theorem OU{w:World}{Z F:ah} : ∀(aj:ay) (m:cS),aj.al w Z m aj.zero aj.cL F
 | .nil,_=>by simp only [ay.al,ay.cL]
 | .cons t aj,m=>by
  simp only [ay.al,ay.zero,ay.cL]
  exact⟨t.cL,aj.cL,ah.none,ah.none,rfl,HB t m.ag,OU aj m.dt,fun _ _ h=>h.elim,fun _ _ h=>h.elim,fun _ _ h=>h.elim⟩
end
section
variable{P:Program}{Q:Exit→Act→World→Prop}
variable{w0:World}{F0 Z0:ah}{n:cB}{s ar:aq}{a b6:Act}{w w':World}{ι bd:Nat→bC}{Z Z':ah}
variable{E:Env}{o:Oper}{bs : Type}{K:aq→Option bs}{r : bs}{id:Nat}
theorem bF.ext{F S:ah}(hf:bF w0 F0 s w ι Z F)(hx:Ext w w' S):bF w0 F0 s w' ι Z F :=
 ⟨fun b o h=>⟨(hf.own b o h).1,Nat.lt_of_lt_of_le (hf.own b o h).2 hx.size⟩,hf.apart,hf.c0⟩
theorem Inv.fresh(h:Inv w0 F0 Z0 n s a w ι Z){F:ah}(hF:∀b o,F b o→w.heap.size≤b∧b<w'.heap.size):bF w0 F0 s w' ι Z F:=by
 have:=h.ext.size
 refine⟨fun b o hf=>⟨.inr (by have:=(hF b o hf).1;omega),(hF b o hf).2⟩,fun id hl b o h1 h2=>?_,fun b o h1 h2=>?_⟩
 ·have:=(h.own id hl b o h2).2;have:=(hF b o h1).1;omega
 ·have:=h.iC b o h2;have:=(hF b o h1).1;omega
def grown(w:World)(d:Nat)(arr:Array Value)(e:TypeId)(f:Nat×Nat):World := { w with drawn:=d,heap:=w.heap.push (.cells arr e f) }
theorem AA(w:World)(d:Nat)(arr:Array Value)(e:TypeId)(f:Nat×Nat)(F:ah):Ext w (grown w d arr e f) F :=
 ⟨rfl,rfl,rfl,by simp [grown],fun b hb=>.inl (by simp only [grown];rw [Array.getElem?_push,if_neg (by omega)])⟩
theorem xC(w:World)(d:Nat)(arr:Array Value)(e:TypeId)(f:Nat×Nat):(grown w d arr e f).heap[w.heap.size]?=some (.cells arr e f):=by simp [grown]
theorem xB(w:World)(d:Nat)(arr:Array Value)(e:TypeId)(f:Nat×Nat)(o:Nat):(grown w d arr e f).cell? (at_ w.heap.size o)=arr[o]?:=cell_of_heap (xC ..) o
theorem GC(w:World)(d:Nat)(arr:Array Value)(e:TypeId)(f:Nat×Nat):(grown w d arr e f).heap.size=w.heap.size+1:=by simp [grown]
theorem Inv.newRow(h:Inv w0 F0 Z0 n s a w ι Z){id:Nat}(b3:s.o id=.none){t:ae}{em:ba}{xs:List t.D}{vs:List Value}{G:ah}
  (he:cZ (t.al w Z em) t.size xs vs G) (hG:bF w0 F0 s w ι Z G) (d:Nat) (arr:Array Value) (e:TypeId) (f:Nat×Nat) (c:Nat)
  (hv:∀(j:Nat) (v:Value),vs[j]?=some v→arr[j]?=some v) (hc:xs.length≤c) (hsz:c*t.size≤arr.size) (hf:f.1=f.2∨c*t.size≤f.1) (hf2:t.size=1∨f.1=f.2) :
  Inv w0 F0 Z0 n (s.bN id (.row t em 0 xs)) a (grown w d arr e f) (bQ ι id ⟨some (at_ w.heap.size 0),c,(ah.run w.heap.size 0 (c*t.size)).or G⟩) Z:=by
 have hx:=AA w d arr e f ah.none
 have h1:=h.world hx
 have jK:bF w0 F0 s (grown w d arr e f) ι Z (ah.run w.heap.size 0 (c*t.size)):=h.fresh (by rintro b o ⟨rfl,_,_⟩;rw [GC];omega)
 have eW:=hG.ext hx
 refine h1.AQ b3 ?_ (jK.or eW)
 refine .inr ⟨at_ w.heap.size 0,rfl,rfl,hc,fun j hj=>⟨⟨⟨arr[j]'(by simp only at hj;omega),?_⟩,?_⟩,?_⟩,fun j hj=>.inl ⟨rfl,by simp [at_],by simpa [at_] using hj⟩,G,?_,?_,fun _ _ h=>.inr h⟩
 ·show World.cell? _ (at_ w.heap.size (0+j))=_
  rw [xB];simp
 ·show World.frozen? _ (at_ w.heap.size (0+j))=_
  rw [pO,xC]
  simp only at hj
  simp only [Bool.and_eq_false_iff,decide_eq_false_iff_not]
  omega
 ·refine hf2.imp (fun h=>h) fun h2 k=>?_
  show World.frozen? _ (at_ w.heap.size k)=_
  rw [pO,xC]
  simp only [Bool.and_eq_false_iff,decide_eq_false_iff_not]
  omega
 ·refine cZ.row (he.imp fun y us dh hs hr=>ae.al.same (b5.iE hx h.iC fun _ _ _ h=>h) _ _ (b5.iE hx (fun b o aA=>(hG.own b o (hs b o aA)).2) fun _ _ _ h=>h) hr) ?_
  intro i v hi
  show World.cell? _ (at_ w.heap.size (0+i))=_
  rw [xB,Nat.zero_add];exact hv i v hi
 ·intro j hj aA
  have:=(hG.own _ _ aA).2
  simp [at_] at this
theorem xQ{id:Nat}{t:ae}{em:ba}{ver:Nat}{xs:List t.D}{A:Addr}{c:Nat}{F:ah}(hA:A.spot=none)(hc:xs.length≤c) :
  cf w Z (s.bN id (.row t em ver xs)) (bQ ι id ⟨some A,c,F⟩) (.ag id none) (.slice (some A) xs.length c):=by
 refine⟨?_,some A,xs.length,c,rfl,?_⟩
 ·show bQ s.o id _ id≠_
  rw [cw];simp
 ·intro c8 gd mM fD ho
  have q':(bQ s.o id (ck.row t em ver xs) id).core=.row c8 gd mM fD:=ho
  rw [cw] at q' ⊢
  obtain ⟨rfl,_,_,h4⟩:=ck.row.inj q'
  have:=eq_of_heq h4;subst this
  refine⟨rfl,by simp [eb],hc,by simp [eb],.inr ⟨A,rfl,?_⟩⟩
  simp only [eb,Nat.zero_mul,Nat.add_zero]
  cases A;simp_all [at_]
theorem OV(us:List Value):∀(n j:Nat),j<n*us.length→(List.replicate n us).flatten[j]?=us[j % us.length]?
 | 0,j,h=>by simp at h
 | n+1,j,h=>by
  rw [List.replicate_succ,List.flatten_cons]
  by_cases hj:j<us.length
  ·rw [List.getElem?_append_left hj,Nat.mod_eq_of_lt hj]
  ·have h':j<n*us.length+us.length:=by rw [← Nat.add_one_mul];exact h
   rw [List.getElem?_append_right (by omega),OV us n (j-us.length) (by omega),← Nat.mod_eq_sub_mod (by omega)]
theorem HC{z:Array Value}{m j:Nat}(us:List Value)(n:Nat)(hz:z.toList=us)(hm:m=n*us.length)(v:Value)(h:(List.replicate n us).flatten[j]?=some v) :
  ((Array.range m).map (z[· % z.size]!))[j]?=some v:=by
 subst hz
 have hj:j<n*z.toList.length:=by
  rcases Nat.lt_or_ge j (n*z.toList.length) with h1 | h1
  ·exact h1
  ·rw [List.getElem?_eq_none (by simp;simpa using h1)] at h;simp at h
 rw [OV _ _ _ hj] at h
 have hl:z.toList.length=z.size:=by simp
 rw [hl] at h hj
 rw [Array.getElem?_map,Array.getElem?_range,if_pos (by rw [hm,hl];exact hj)]
 simp only [Option.map_some,Option.some.injEq]
 have cz:j % z.size<z.size:=by
  apply Nat.mod_lt
  rcases Nat.eq_zero_or_pos z.size with h0 | h0
  ·rw [h0] at hj;simp at hj
  ·exact h0
 rw [getElem!_pos z _ cz]
 simpa [cz] using h
theorem wrap_i64{i:Int}(h0:0≤i)(h1:i≤68719476736):IntKind.wrap .i64 i=i:=by
 simp [IntKind.wrap,IntKind.bits,IntKind.signed]
 omega
theorem Ya{k:IntKind}{i:Int} :(asInt (.int k i)).run P w=.ok i w:=rfl
theorem vB(T:ae):(dB T T.cL).cells.toList=T.cL:=Hp (ae.k9 T) ((rf (w:=default) (Z:=ah.none) (s:=⟨fun _=>.aD,fun _=>.none,[]⟩) (ι := fun _=>⟨none,0,ah.none⟩) T).dY)
theorem run_askRoom{b:Nat} :(askRoom b).run P w=.ok () w:=by
 unfold askRoom;split <;> rfl
theorem A0{e:TypeId}{arr:Array Value} :(newRow e arr).run P w=.ok (at_ w.heap.size 0) (grown w w.drawn arr e (0,0)):=by
 simp [newRow,Go.newObj,run_bind,Sem.run,run_pure,at_,grown]
theorem run_makeSlice{T:ae}{t e:TypeId}{k k':IntKind}{m:Int}(hu:P.underlying t=some (.slice e))(ca:T.ok P e)(h0:0≤m)(h1:m≤68719476736) :
  ∃arr:Array Value,(∀(j:Nat) (v:Value),(List.replicate m.toNat T.cL).flatten[j]?=some v→arr[j]?=some v)∧arr.size=m.toNat*T.size ∧
   (Instr.makeSlice t (.int k m) (.int k' m)).run P w=.ok (.slice (some (at_ w.heap.size 0)) m.toNat m.toNat) (grown w w.drawn arr e (0,0)):=by
 obtain ⟨i,gu,gr,vC,HD⟩:=ca.info
 have hb:¬((i.bytes:Int)*m>2 ^ 48):=by
  have:(i.bytes:Int)*m≤2048*68719476736:=Int.mul_le_mul (by omega) h1 h0 (by omega)
  omega
 have xR:(dB T T.cL).cells.size=T.size:=by
  have:=congrArg List.length (vB T)
  rw [Array.length_toList,ae.k9] at this;exact this
 refine⟨(Array.range (m.toNat*T.size)).map fun j=>(if m.toNat*T.size=0 then #[] else(dB T T.cL).cells)[j % (if m.toNat*T.size=0 then #[] else(dB T T.cL).cells).size]!,?_,by simp,?_⟩
 ·intro j v hj
  by_cases hz:m.toNat*T.size=0
  ·have:(List.replicate m.toNat T.cL).flatten=[]:=by
    apply List.eq_nil_of_length_eq_zero
    simp [ae.k9];simpa using hz
   rw [this] at hj;simp at hj
  ·simp only [if_neg hz]
   exact HC T.cL m.toNat (vB T) (by rw [ae.k9]) v hj
 ·unfold Instr.makeSlice
  simp only [run_bind,run_underlying hu,Ya,run_typeInfo gu,wrap_i64 h0 h1]
  have A1:¬m<0:=by omega
  simp only [A1,hb,decide_false,Bool.or_false,Bool.false_or,Bool.false_eq_true,if_false,gt_iff_lt,Int.lt_irrefl]
  simp only [run_bind,run_askRoom,run_sizeOf ca]
  by_cases hz:m.toNat*T.size=0
  ·simp only [if_pos hz,run_bind,run_pure,A0]
  ·simp only [if_neg hz,run_bind,run_pure,A0,AT ca]
theorem Yb{t:Nat}{x y:Operand}(bX:gI P E)(h:Inv w0 F0 Z0 n s a w ι Z)(ag:∀k,o.dst=some k→k<n)(ho:o.op=.makeSlice t x y)(hk:cQ E id o s K=some r) :
  ∃ar,K ar=some r∧o.wp P a w (cV w0 F0 Z0 n ar) Q:=by
 unfold cQ at hk
 rw [ho] at hk
 simp only at hk
 cases ht:E.ty t with
 | none=>rw [ht] at hk;simp at hk
 | some T =>
  rw [ht] at hk
  cases T with
  | sl T =>
   cases hx:j8 (bT s x) with
   | none=>rw [hx] at hk;simp at hk
   | some m =>
    cases aO:j8 (bT s y) with
    | none=>rw [hx,aO] at hk;simp at hk
    | some m' =>
     rw [hx,aO] at hk
     obtain ⟨aA,hk2⟩:=ri hk
     clear hk
     have hk:=hk2
     clear hk2
     simp only [Bool.and_eq_true,decide_eq_true_eq,room] at aA
     obtain ⟨⟨h0,rfl⟩,h1⟩:=aA
     have h1:=Nat.le_of_ble_eq_true h1
     cases hm:mkObj s id (.row T T.own 0 (List.replicate m.toNat T.zero)) with
     | none=>rw [hm] at hk;simp at hk
     | some s1 =>
      rw [hm] at hk
      obtain ⟨b3,rfl⟩:=p0 hm
      obtain ⟨k,hx⟩:=rh hx (eT h x)
      obtain ⟨k',aO⟩:=rh aO (eT h y)
      obtain ⟨e,hu,ca⟩:=k_ (bX.ty t _ ht)
      obtain ⟨arr,ha,has,hr⟩:=run_makeSlice (P:=P) (w:=w) (k:=k) (k':=k') hu ca h0 (by omega)
      have hn:=h.newRow b3 (cZ.replicate (HB T T.own) (ae.k9 T) m.toNat) bF.none w.drawn arr e (0,0) m.toNat ha (by simp) (by omega) (.inl rfl) (.inr rfl)
      refine⟨_,hk,lQ (v:=.slice (some (at_ w.heap.size 0)) m.toNat m.toNat) ?_ hn ?_ ag⟩
      ·unfold execOp;rw [ho]
       refine fH ?_
       rw [hx,aO];exact hr
      ·simp only [aQ]
       have:=xQ (w:=grown w w.drawn arr e (0,0)) (Z:=Z) (s:=s) (ι := ι) (id:=id) (em:=T.own) (ver:=0) (xs:=List.replicate m.toNat T.zero) (A:=at_ w.heap.size 0) (c:=m.toNat) (F:=(ah.run w.heap.size 0 (m.toNat*T.size)).or ah.none) rfl (by simp)
       simpa using this
  | _=>simp at hk
end
end Go.LM
namespace Go.LM
section
variable{P:Program}{Q:Exit→Act→World→Prop}
variable{w0:World}{F0 Z0:ah}{n:cB}{s ar:aq}{a b6:Act}{w w':World}{ι bd:Nat→bC}{Z Z':ah}
variable{E:Env}{o:Oper}{bs : Type}{K:aq→Option bs}{r : bs}{id:Nat}
theorem vD{k:IntKind}{t:TypeId}(h:(ae.int k).ok P t):P.underlying t=some (.int k):=by simp only [ae.ok] at h;exact h.1
theorem vE{t:TypeId}(h:ae.str.ok P t):P.underlying t=some .string:=by simp only [ae.ok] at h;exact h.1
theorem HE{w:World}{Z:ah}{k:IntKind} : ∀l:List Int,cZ ((ae.int k).al w Z .R) 1 l (l.map (Value.int k)) ah.none
 | []=>rfl
 | x :: l=>⟨[.int k x],l.map (Value.int k),ah.none,ah.none,rfl,by simp only [ae.al],rfl,HE l,fun _ _ h=>h.elim,fun _ _ h=>h,fun _ _ h=>h⟩
theorem Yc{e:TypeId}{b:ByteArray} :
  ∃(arr:Array Value) (c d:Nat),(Conv.stringToBytes e b).run P w=.ok (.slice (some (at_ w.heap.size 0)) b.size c) (grown w d arr e (c,c+1))∧b.size≤c∧arr.size=c ∧
   ∀(j:Nat) (v:Value),((eo b.data.toList).map (Value.int .u8))[j]?=some v→arr[j]?=some v:=by
 have hq:(Question.appendCap b.size 0 e).forced=false:=rfl
 have hsz:b.data.size=b.size:=rfl
 refine⟨(b.data.map fun x=>Value.int .u8 x.toNat)++Array.replicate (b.size+w.tape w.drawn (.appendCap b.size 0 e) % (2 ^ 63-b.size)-b.size) (.int .u8 0),b.size+w.tape w.drawn (.appendCap b.size 0 e) % (2 ^ 63-b.size),w.drawn+1,?_,by omega,by simp [hsz],?_⟩
 ·unfold Conv.stringToBytes
  simp only [run_bind,choose,Sem.run,hq,Bool.false_eq_true,if_false,Question.cut]
  simp only [newRow,Go.newObj,run_bind,Sem.run,run_pure,markStringish,Go.shape,Go.freeze]
  simp only [World.shape?,Array.getElem?_push_size,Sem.run]
  simp only [World.freeze,grown]
  simp only [Nat.succ_ne_zero,if_false,Nat.one_ne_zero,Result.ok.injEq,World.mk.injEq,true_and,and_true]
  apply Array.ext_getElem?
  intro i
  rw [Array.getElem?_modify,Array.getElem?_push,Array.getElem?_push]
  by_cases hi:w.heap.size=i
  ·subst hi
   have:b.size +(w.tape w.drawn (Question.appendCap b.size 0 e) % (2 ^ 63-b.size)+b.size-b.size)=b.size+w.tape w.drawn (Question.appendCap b.size 0 e) % (2 ^ 63-b.size):=by omega
   simp [hsz]
  ·simp [hi]
   by_cases c5:i=w.heap.size
   ·exact absurd c5.symm hi
   ·simp [c5]
 ·intro j v hj
  simp only [eo,List.map_map,List.getElem?_map,Option.map_eq_some_iff] at hj
  obtain ⟨x,hx,rfl⟩:=hj
  have cz:j<b.data.size:=by
   rcases Nat.lt_or_ge j b.data.size with h | h
   ·exact h
   ·rw [List.getElem?_eq_none (by simpa using h)] at hx;simp at hx
  rw [Array.getElem?_append_left (by simpa using cz),Array.getElem?_map]
  rw [Array.getElem?_toList] at hx
  rw [hx];rfl
theorem OW{w:World}{k:IntKind}{b:Nat} : ∀ {l:List Int} {o:Nat} {F:ah},Row w (fun(y:Int) us _=>us=[Value.int k y]) 1 l b o F→b4 w b o (l.map (Value.int k))
 | [],_,_,_=>b4.nil _ _ _
 | x :: l,o,_,⟨us,G,H,h1,h2,h3,h4,_⟩=>by
  subst h1
  exact b4.cons h3.head (OW h4)
theorem Yd(l:List Int):∀b:ByteArray,(l.foldl (fun r n=>r.push (UInt8.ofNat n.toNat)) b).data.toList=b.data.toList++gp l:=by
 induction l with
 | nil=>intro b;simp [gp]
 | cons x l ih =>
  intro b
  rw [List.foldl_cons,ih]
  simp [gp,ByteArray.push]
theorem Ye{src dst:Nat}{x:Operand}{k1 k2:IntKind}(bX:gI P E)(h:Inv w0 F0 Z0 n s a w ι Z)(ag:∀k,o.dst=some k→k<n)(ho:o.op=.convert src dst x)(hs:E.ty src=some (.int k1))(ht:E.ty dst=some (.int k2))(hk:cQ E id o s K=some r) :
  ∃ar,K ar=some r∧Pure P o a w (cV w0 F0 Z0 n ar):=by
 unfold cQ at hk
 rw [ho] at hk
 simp only at hk
 have hx:=eT h x
 have dN:=bX.ty _ _ hs
 have p2:=bX.ty _ _ ht
 cases cJ:bT s x with
 | aU c =>
  rw [cJ] at hx hk
  simp only [aQ] at hx
  unfold q4 at hk
  rw [hs,ht] at hk
  cases c with
  | int k m =>
   simp only [cf] at hx
   refine⟨_,hk,dw (v:=.int k2 (k2.wrap m)) (fun w'=>?_) h (by simp only [aQ,cf]) ag⟩
   unfold execOp;rw [ho]
   refine fH ?_
   rw [hx]
   unfold convert
   simp only [run_bind,run_underlying (vD dN),run_underlying (vD p2)]
   rfl
  | _=>simp at hk
 | _=>rw [cJ] at hk;unfold q4 at hk;rw [hs,ht] at hk;simp at hk
theorem Yf{src dst:Nat}{x:Operand}(bX:gI P E)(h:Inv w0 F0 Z0 n s a w ι Z)(ag:∀k,o.dst=some k→k<n)(ho:o.op=.convert src dst x)(hk:cQ E id o s K=some r) :
  ∃ar,K ar=some r∧o.wp P a w (cV w0 F0 Z0 n ar) Q:=by
 unfold cQ at hk
 rw [ho] at hk
 simp only at hk
 have hx:=eT h x
 have hrun:∀ {u:Value} {w':World},(convert src dst (a.eval x)).run P w=.ok u w'→(execOp a.eval o).run P w=.ok (.value u) w':=by
  intro u w' hu;unfold execOp;rw [ho];exact fH hu
 cases hs:E.ty src with
 | none=>unfold q4 at hk;rw [hs] at hk;simp at hk
 | some S =>
 cases ht:E.ty dst with
 | none=>unfold q4 at hk;rw [hs,ht] at hk;cases S <;> simp at hk
 | some T =>
 have dN:=bX.ty _ _ hs
 have p2:=bX.ty _ _ ht
 cases cJ:bT s x with
 | aU c =>
  rw [cJ] at hx
  simp only [aQ] at hx
  have hk1:q4 E id s src dst (.aU c) (fun v s=>K (s.dst o.dst v))=some r:=by rw [← cJ];exact hk
  unfold q4 at hk1
  rw [hs,ht] at hk1
  split at hk1
  ·rename_i lT k m sY sZ nS
   obtain rfl:=aV sY
   obtain rfl:=aV sZ
   simp only [a6.aU.injEq] at nS;subst nS
   simp only [cf] at hx
   refine⟨_,hk1,lQ (hrun (u:=.int lT (lT.wrap m)) (w':=w) ?_) h (by simp only [aQ,cf]) ag⟩
   rw [hx]
   unfold convert
   simp only [run_bind,run_underlying (vD dN),run_underlying (vD p2)]
   rfl
  ·rename_i b sY sZ nS
   obtain rfl:=aV sY
   obtain rfl:=aV sZ
   simp only [a6.aU.injEq] at nS;subst nS
   obtain ⟨j_,hx,nM⟩:=hx
   refine⟨_,hk1,lQ (hrun (u:=a.eval x) (w':=w) ?_) h (by simp only [aQ];exact⟨j_,hx,nM⟩) ag⟩
   rw [hx]
   unfold convert
   simp only [run_bind,run_underlying (vE dN),run_underlying (vE p2)]
   rfl
  ·rename_i b sY sZ nS
   obtain rfl:=aV sY
   obtain rfl:=aV sZ
   simp only [a6.aU.injEq] at nS;subst nS
   obtain ⟨j_,hx,rfl⟩:=hx
   obtain ⟨e,hu,ca⟩:=k_ p2
   cases hm:mkObj s id (.row (.int .u8) .R 0 (eo j_.data.toList)) with
   | none=>rw [hm] at hk1;simp at hk1
   | some s1 =>
    rw [hm] at hk1
    obtain ⟨b3,rfl⟩:=p0 hm
    obtain ⟨arr,c,d,hr,hc,has,hv⟩:=Yc (P:=P) (w:=w) (e:=e) (b:=j_)
    have hlen:(eo j_.data.toList).length=j_.size:=by simp [eo]
    have hn:=h.newRow b3 (t:=.int .u8) (em:=.R) (HE (eo j_.data.toList)) bF.none d arr e (c,c+1) c hv (by rw [hlen];exact hc) (by simp only [ae.size];omega) (.inr (by simp [ae.size])) (.inl rfl)
    refine⟨_,hk1,lQ (hrun (u:=.slice (some (at_ w.heap.size 0)) j_.size c) ?_) hn ?_ ag⟩
    ·rw [hx]
     unfold convert
     simp only [run_bind,run_underlying (vE dN),run_underlying hu,run_underlying (vD ca)]
     exact hr
    ·simp only [aQ]
     have:=xQ (w:=grown w d arr e (c,c+1)) (Z:=Z) (s:=s) (ι := ι) (id:=id) (em:=.R) (ver:=0) (t:=.int .u8) (xs:=eo j_.data.toList) (A:=at_ w.heap.size 0) (c:=c) (F:=(ah.run w.heap.size 0 (c*(ae.int .u8).size)).or ah.none) rfl (by rw [hlen];exact hc)
     rw [hlen] at this
     exact this
  ·rename_i c' sY sZ nS
   obtain rfl:=aV sY
   obtain rfl:=aV sZ
   simp only [a6.aU.injEq] at nS;subst nS
   obtain ⟨e,hu,ca⟩:=k_ dN
   cases hl:oH s (.int .u8) c with
   | none=>rw [hl] at hk1;simp at hk1
   | some xs =>
    rw [hl] at hk1
    simp only at hk1
    obtain ⟨cK,_,_⟩:=G_ h hl hx
    simp only [ae.al] at cK
    obtain ⟨A,rl,hv,hrow⟩:=cK
    simp only [List.cons.injEq,and_true] at hv
    have OX:(convert src dst (a.eval x)).run P w=(Conv.bytesToString (a.eval x)).run P w:=by
     rw [hv]
     exact run_convert_bytes_string w src dst e A xs.length rl hu (vD ca) (vE p2)
    rcases hrow with rfl | ⟨a0,rfl,hsp,hrow,_,_⟩
    ·refine⟨_,hk1,lQ (v:=.string .empty) (w':=w) (hrun ?_) h ?_ ag⟩
     ·rw [OX,hv]
      cases A with
      | none=>rfl
      | some A =>
       exact run_bytesToString w A 0 rl [] (by rfl)
     ·simp only [aQ,cf]
      exact⟨_,rfl,rfl⟩
    ·obtain ⟨cM,dI,sp⟩:=a0
     simp only at hsp
     subst hsp
     have hc:=OW (k:=.u8) (by simpa only [ae.size] using hrow)
     have OY:=run_loadCells (P:=P) hc
     rw [List.length_map] at OY
     refine⟨_,hk1,lQ (v:=.string (xs.foldl (fun r n=>r.push (UInt8.ofNat n.toNat)) ByteArray.empty)) (w':=w) (hrun ?_) h ?_ ag⟩
     ·rw [OX,hv]
      exact run_bytesToString w _ xs.length rl xs OY
     ·simp only [aQ,cf]
      exact⟨_,rfl,by rw [Yd];rfl⟩
  ·simp at hk1
 | _ =>
  exfalso
  rw [cJ,q4.eq_def,hs,ht] at hk
  split at hk <;> simp_all
theorem HF{gE:Bool}{k:IntKind} : ∀(l:List a6) (x:Int) (vs:List Value) (k':IntKind) (z:Int),aZ w Z s ι l vs→sK gE k x l=some (k',z) →
  (vs.foldlM (if gE then Builtin.max2 else Builtin.min2) (.int k x)).run P w'=.ok (.int k' z) w'
 | [],x,vs,k',z,hr,h=>by
  simp only [aZ] at hr;subst hr
  simp only [sK,Option.some.injEq,Prod.mk.injEq] at h
  obtain ⟨rfl,rfl⟩:=h
  rfl
 | v :: l,x,vs,k',z,hr,h=>by
  simp only [aZ] at hr
  obtain ⟨u,us,rfl,h1,h2⟩:=hr
  cases v with
  | aU c =>
   cases c with
   | int OZ y =>
    simp only [sK] at h
    simp only [aQ,cf] at h1
    subst h1
    rw [List.foldlM_cons,run_bind]
    have ih:=HF l _ us k' z h2 h
    cases gE
    ·exact ih
    ·exact ih
   | _=>simp [sK] at h
  | _=>simp [sK] at h
theorem s4(h:Inv w0 F0 Z0 n s a w ι Z):∀l:List Operand,aZ w Z s ι (l.map (bT s)) (l.map a.eval)
 | []=>by simp only [List.map_nil,aZ]
 | x :: l=>by simp only [List.map_cons,aZ];exact⟨_,_,rfl,eT h x,s4 h l⟩
theorem O0{b:Builtin}{c:Call}(bX:gI P E)(h:Inv w0 F0 Z0 n s a w ι Z)(ag:∀k,o.dst=some k→k<n)(ho:o.op=.call c)(hb:c.callee=.builtin b)(hne:b≠.append)(Yg:b≠.clear)(hk:cQ E id o s K=some r) :
  ∃ar,K ar=some r∧Pure P o a w (cV w0 F0 Z0 n ar):=by
 unfold cQ at hk
 rw [ho] at hk
 simp only [hb] at hk
 have hvs:=s4 h c.args.toList
 have hrun:∀ {u:Value} {cs:Array Bool} {w:World},(builtin b c.argTypes o.type (c.args.map fun | .const _=>true | _=>false) (c.args.map a.eval)).run P w=.ok (.value u) w→(execOp a.eval o).run P w=.ok (.value u) w:=by
  intro u _ w hu
  unfold execOp;rw [ho]
  simp only [run_bind,resolve,hb,run_pure,invoke]
  exact hu
 have ld:(c.args.map a.eval).toList=c.args.toList.map a.eval:=by simp
 cases b with
 | append=>exact absurd rfl hne
 | clear=>exact absurd rfl Yg
 | len =>
  generalize hl:c.args.toList.map (bT s)=l at hk hvs
  match l,hk,hvs with
  | [.aU jH],hk,hvs =>
   simp only [jF] at hk
   cases gv:c.argTypes.toList with
   | nil=>rw [gv] at hk;simp at hk
   | cons t aj =>
    rw [gv] at hk
    simp only at hk
    cases ht:E.ty t with
    | none=>rw [ht] at hk;simp at hk
    | some T =>
     rw [ht] at hk
     simp only at hk
     cases hf:kt s T jH
     ·rw [hf] at hk;simp at hk
     rw [hf] at hk
     simp only [cond_true] at hk
     cases hlen:nF s jH with
     | none=>rw [hlen] at hk;simp at hk
     | some m =>
      rw [hlen] at hk
      simp only [aZ,aQ] at hvs
      obtain ⟨u,us,he,hc,rfl⟩:=hvs
      have mN:(c.args.map a.eval)[0]?=some u:=by rw [← Array.getElem?_toList,ld,he];rfl
      have lV:c.argTypes[0]?=some t:=by rw [← Array.getElem?_toList,gv];rfl
      have ca:=bX.ty _ _ ht
      refine⟨_,hk,dw (v:=.int .i64 m) (fun w'=>hrun (cs := #[]) ?_) h (by simp only [aQ,cf]) ag⟩
      unfold builtin
      refine fH ?_
      unfold Builtin.len_
      rw [mN,lV]
      simp only
      have Yh:T=.str∨∃u,T=.sl u:=by
       cases jH <;> simp only [kt] at hf <;> try (simp at hf;done)
       ·exact .inl (beq_eq hf)
       ·exact .inr ⟨_,beq_eq hf⟩
       ·exact .inr ⟨_,beq_eq hf⟩
       ·split at hf
        ·exact .inr ⟨_,beq_eq hf⟩
        ·simp at hf
      rcases Yh with rfl | ⟨v,rfl⟩
      ·rw [run_bind,run_underlying (vE ca)]
       cases jH <;> simp only [kt] at hf <;> try (simp [ae.beq] at hf;done)
       ·obtain ⟨j_,rfl,rfl⟩:=hc
        simp only [nF,Option.some.injEq] at hlen
        subst hlen
        rfl
       ·split at hf <;> simp [ae.beq] at hf
      ·obtain ⟨e,hu,_⟩:=k_ ca
       rw [run_bind,run_underlying hu]
       obtain ⟨A,k,rfl,_⟩:=HA rfl hf hlen hc
       rfl
  | [],hk,_=>simp [jF] at hk
  | _ :: _ :: _,hk,_=>simp [jF] at hk
  | [.aD],hk,_ | [.h7 _],hk,_ | [.ptr _],hk,_ | [.dg _ _ _],hk,_ | [.jD],hk,_ | [.kq],hk,_ | [.opt _ _],hk,_ | [.may _ _ _],hk,_ | [.q0 _],hk,_ | [.fn _ _ _],hk,_ | [.oE _],hk,_=>simp [jF] at hk
 | max =>
  simp only [jF] at hk
  cases hm:ve true (c.args.toList.map (bT s)) with
  | none=>rw [hm] at hk;simp at hk
  | some q =>
   obtain ⟨k,z⟩:=q
   rw [hm] at hk
   simp only at hk
   refine⟨_,hk,dw (v:=.int k z) (fun w'=>hrun (cs := #[]) ?_) h (by simp only [aQ,cf]) ag⟩
   unfold builtin
   refine fH ?_
   unfold Builtin.max_
   rw [ld]
   generalize c.args.toList.map (bT s)=l at hm hvs
   generalize c.args.toList.map a.eval=vs at hvs
   unfold ve at hm
   split at hm
   ·simp only [aZ,aQ,cf] at hvs
    obtain ⟨u,us,rfl,rfl,h2⟩:=hvs
    exact HF _ _ us k z h2 hm
   ·simp at hm
 | min =>
  simp only [jF] at hk
  cases hm:ve false (c.args.toList.map (bT s)) with
  | none=>rw [hm] at hk;simp at hk
  | some q =>
   obtain ⟨k,z⟩:=q
   rw [hm] at hk
   simp only at hk
   refine⟨_,hk,dw (v:=.int k z) (fun w'=>hrun (cs := #[]) ?_) h (by simp only [aQ,cf]) ag⟩
   unfold builtin
   refine fH ?_
   unfold Builtin.min_
   rw [ld]
   generalize c.args.toList.map (bT s)=l at hm hvs
   generalize c.args.toList.map a.eval=vs at hvs
   unfold ve at hm
   split at hm
   ·simp only [aZ,aQ,cf] at hvs
    obtain ⟨u,us,rfl,rfl,h2⟩:=hvs
    exact HF _ _ us k z h2 hm
   ·simp at hm
 | _=>simp [jF] at hk
end
end Go.LM
namespace Go.LM
theorem O1{α : Type} : ∀(B:List (List α)) (i:Nat) (b cs:List α),B[i]?=some b→cs.length=b.length→(B.set i cs).flatten=da B.flatten (B.take i).flatten.length cs
 | [],i,b,cs,h,_=>by simp at h
 | x :: B,0,b,cs,h,hl=>by
  simp at h;subst h
  simp only [List.set_cons_zero,List.flatten_cons,List.take_zero,List.flatten_nil,List.length_nil]
  unfold da
  simp [hl]
 | x :: B,i+1,b,cs,h,hl=>by
  simp only [List.getElem?_cons_succ] at h
  simp only [List.set_cons_succ,List.flatten_cons,List.take_succ_cons,List.length_append]
  rw [Ol (by omega),O1 B i b cs h hl]
  congr 2;omega
theorem Yi{α : Type}{B:List (List α)}{i:Nat}{b:List α}(h:B[i]?=some b):(B.take i).flatten.length+b.length≤B.flatten.length:=by
 induction B generalizing i with
 | nil=>simp at h
 | cons x B ih =>
  cases i with
  | zero=>simp at h;subst h;simp
  | succ i =>
   simp only [List.getElem?_cons_succ] at h
   have:=ih h
   simp only [List.take_succ_cons,List.flatten_cons,List.length_append];omega
theorem O2:∀(vs:List Value) (k off:Nat) (cells:Array Value),off+k+vs.length≤cells.size →
  ((vs.zipIdx k).foldl (fun cs (c,j)=>cs.setIfInBounds (off+j) c) cells).toList=da cells.toList (off+k) vs
 | [],k,off,cells,_=>by simp [AR]
 | v :: vs,k,off,cells,h=>by
  simp only [List.length_cons] at h
  rw [List.zipIdx_cons,List.foldl_cons,O2 vs (k+1) off _ (by simp;omega)]
  simp only [Array.toList_setIfInBounds]
  have cz:off+k<cells.toList.length:=by simp;omega
  apply List.ext_getElem?
  intro j
  unfold da
  simp only [List.getElem?_append,List.length_append,List.length_take,List.length_set,List.length_cons,List.getElem?_take,List.getElem?_drop,List.getElem?_set]
  have rm:min (off +(k+1)) cells.toList.length=off+k+1:=by omega
  have vx:min (off+k) cells.toList.length=off+k:=by omega
  rw [rm,vx]
  by_cases h1:j<off+k
  ·have:j≠off+k:=by omega
   simp [show j<off+k+1+vs.length by omega,show j<off+k+1 by omega,show j<off +(k+1) by omega,show j<off+k +(vs.length+1) by omega,h1,Ne.symm this]
  ·by_cases h2:j=off+k
   ·subst h2
    simp only [Array.length_toList] at cz
    simp [show off+k<off+k+1+vs.length by omega,show off+k<off +(k+1) by omega,cz]
   ·by_cases h3:j<off+k+1+vs.length
    ·rw [if_pos h3,if_neg (show ¬j<off+k+1 by omega),if_pos (show j<off+k +(vs.length+1) by omega),if_neg h1]
     rw [show j-(off+k)=(j-(off+k+1))+1 by omega,List.getElem?_cons_succ]
    ·rw [if_neg h3,if_neg (show ¬j<off+k +(vs.length+1) by omega)]
     rw [if_neg (by omega)]
     congr 1;omega
def HG(place:Nat→Option (Nat×Nat))(ty:Nat→Option ae)(lens:List Nat):Prop :=
 ∀i t,ty i=some t→place i=some ((lens.take i).sum,t.size)∧lens[i]?=some t.size
section
variable{P:Program}{Q:Exit→Act→World→Prop}
variable{w0:World}{F0 Z0:ah}{n:cB}{s ar:aq}{a b6:Act}{w w':World}{ι bd:Nat→bC}{Z Z':ah}
variable{E:Env}{o:Oper}{bs : Type}{K:aq→Option bs}{r : bs}{id:Nat}
theorem Yj{α : Type}(B:List (List α)):B.flatten.length=(B.map List.length).sum:=by simp [List.length_flatten]
theorem HH(h:Inv w0 F0 Z0 n s a w ι Z){place:Nat→Option (Nat×Nat)}{ty:Nat→Option ae}{lens:List Nat}(fp:HG place ty lens) :
  ∀(ps:List (Nat×Operand)) (B mO:List (List a8)) (cells:Array Value),B.map List.length=lens→bG w Z s ι B.flatten cells.toList→q2 s ty ps B=some mO →
   ∃mP,Instr.fill place cells (ps.map fun p=>(p.1,a.eval p.2))=some mP∧bG w Z s ι mO.flatten mP.toList∧mO.map List.length=lens
 | [],B,mO,cells,hl,hc,hf=>by
  simp only [q2,Option.some.injEq] at hf;subst hf
  exact⟨cells,rfl,hc,hl⟩
 | (i,x) :: ps,B,mO,cells,hl,hc,hf=>by
  simp only [q2] at hf
  cases ht:ty i with
  | none=>rw [ht] at hf;simp at hf
  | some t =>
   rw [ht] at hf
   simp only at hf
   cases hcs:iy t (bT s x) with
   | none=>rw [hcs] at hf;simp at hf
   | some cs =>
    rw [hcs] at hf
    simp only at hf
    cases hb:Nat.beq cs.length t.size
    ·rw [hb] at hf;simp at hf
    rw [hb] at hf
    simp only [cond_true] at hf
    have hb:=Nat.eq_of_beq_eq_true hb
    obtain ⟨au,p3⟩:=fp i t ht
    have hx:=re hcs (eT h x)
    have hxl:=hx.len
    rw [hb] at hxl
    have Yk:∃b,B[i]?=some b∧b.length=t.size:=by
     rw [← hl,List.getElem?_map] at p3
     cases vF:B[i]? with
     | none=>rw [vF] at p3;simp at p3
     | some b=>rw [vF] at p3;simp at p3;exact⟨b,rfl,p3⟩
    obtain ⟨b,vF,A2⟩:=Yk
    have fh:(B.take i).flatten.length=(lens.take i).sum:=by rw [Yj,← hl,List.map_take]
    have hle:=Yi vF
    have hcl:=hc.len
    simp only [Array.length_toList] at hxl hcl
    have hnew:bG w Z s ι (B.set i cs).flatten (da cells.toList (lens.take i).sum (a.eval x).cells.toList):=by
     rw [O1 B i b cs vF (by omega),fh]
     unfold da
     have:=bG.da hc hx (lens.take i).sum
     unfold da at this
     exact this
    have Yl:(B.set i cs).map List.length=lens:=by
     rw [List.map_set,hl]
     apply List.ext_getElem?
     intro j
     rw [List.getElem?_set]
     by_cases hj:i=j
     ·subst hj
      rw [p3,if_pos rfl]
      have:i<lens.length:=by
       rcases Nat.lt_or_ge i lens.length with h | h
       ·exact h
       ·rw [List.getElem?_eq_none h] at p3;simp at p3
      rw [if_pos this,hb]
     ·rw [if_neg hj]
    have Ym:=O2 (a.eval x).cells.toList 0 (lens.take i).sum cells (by simp;omega)
    have ih:=HH h fp ps (B.set i cs) mO (((a.eval x).cells.zipIdx).foldl (fun cs (c,j)=>cs.setIfInBounds ((lens.take i).sum+j) c) cells) Yl (by
     rw [← Array.foldl_toList,Array.toList_zipIdx]
     rw [Ym];exact hnew) hf
    obtain ⟨mP,h1,h2,h3⟩:=ih
    refine⟨mP,?_,h2,h3⟩
    rw [List.map_cons]
    unfold Instr.fill
    rw [au]
    simp only
    rw [if_neg (by simp only [Bool.or_eq_true,decide_eq_true_eq,not_or,ne_eq,Decidable.not_not];omega)]
    exact h1
def ay.places:ay→Nat→List (Nat×Nat)
 | .nil,_=>[]
 | .cons t aj,off=>(off,t.size) :: ay.places aj (off+t.size)
theorem O3:∀(aj:ay) (cm:List Field) (off:Nat),aj.okF P cm off→cm.mapM (fun f=>(P.info? f.type).map fun i=>(f.offset,i.size))=some (aj.places off)
 | .nil,cm,off,h=>by simp only [ay.okF] at h;subst h;rfl
 | .cons t aj,cm,off,h=>by
  simp only [ay.okF] at h
  obtain ⟨f,k8,rfl,rfl,h1,h2⟩:=h
  obtain ⟨i,hi,hsz,_⟩:=h1.info
  have ih:=O3 aj k8 _ h2
  simp only [List.mapM_cons,hi,Option.map_some,ih,ay.places,hsz]
  rfl
theorem O4:∀aj:ay,aj.nG.flatten=aj.iU
 | .nil=>rfl
 | .cons t aj=>by simp only [ay.nG,ay.iU,List.flatten_cons,O4 aj]
theorem HI(t:ae):t.iU.length=t.size:=by
 have:=(rf (w:=default) (Z:=ah.none) (s:=⟨fun _=>.aD,fun _=>.none,[]⟩) (ι := fun _=>⟨none,0,ah.none⟩) t).len
 rw [← this,ae.k9]
theorem O5:∀(aj:ay) (off:Nat) (i:Nat) (t:ae),aj.nth i=some t→(aj.places off)[i]?=some (off +((aj.nG.map List.length).take i).sum,t.size)∧(aj.nG.map List.length)[i]?=some t.size
 | .nil,_,_,_,h=>by simp [ay.nth] at h
 | .cons u aj,off,0,t,h=>by
  simp only [ay.nth,Option.some.injEq] at h;subst h
  simp [ay.places,ay.nG,HI]
 | .cons u aj,off,i+1,t,h=>by
  simp only [ay.nth] at h
  obtain ⟨h1,h2⟩:=O5 aj (off+u.size) i t h
  simp only [ay.places,ay.nG,List.map_cons,List.getElem?_cons_succ,List.take_succ_cons,List.sum_cons,HI]
  exact⟨by rw [h1];simp;omega,h2⟩
theorem O6{t:Nat}{parts:Array (Nat×Operand)}(bX:gI P E)(h:Inv w0 F0 Z0 n s a w ι Z)(ag:∀k,o.dst=some k→k<n)(ho:o.op=.build t parts)(hk:cQ E id o s K=some r) :
  ∃ar,K ar=some r∧Pure P o a w (cV w0 F0 Z0 n ar):=by
 unfold cQ at hk
 rw [ho] at hk
 simp only at hk
 cases ht:E.ty t with
 | none=>rw [ht] at hk;simp at hk
 | some T =>
  rw [ht] at hk
  cases T with
  | st aj =>
   simp only at hk
   cases hf:q2 s aj.nth parts.toList aj.nG with
   | none=>rw [hf] at hk;simp at hk
   | some B =>
    rw [hf] at hk
    have ca:=bX.ty t _ ht
    obtain ⟨it,gu,gr,vC,HD⟩:=ca.info
    simp only [ae.ok] at ca
    obtain ⟨_,cm,hu,kx⟩:=ca
    have fI:=O3 aj cm.toList 0 kx
    have A2:HG ((aj.places 0).toArray[·]?) aj.nth (aj.nG.map List.length):=by
     intro i c8 hi
     have:=O5 aj 0 i c8 hi
     simpa using this
    obtain ⟨mP,h1,h2,h3⟩:=HH h A2 parts.toList aj.nG B (dB (.st aj) (ae.st aj).cL).cells rfl (by
     rw [O4,vB];exact rf (.st aj)) hf
    refine⟨_,hk,dw (v:=.agg mP) (fun w'=>?_) h (by simp only [aQ];exact⟨mP.toList,rfl,h2⟩) ag⟩
    unfold execOp;rw [ho]
    refine fH ?_
    refine run_build w' t _ mP ?_
    unfold Program.built
    rw [gu,hu]
    simp only [vC,fI]
    rw [← h1]
    congr 1
    simp
  | _=>simp at hk
theorem O7{t:ae}{m:ba}{x:t.D}{us:List Value}{F:ah}(h:t.al w (Z.or (db ι [])) m x us F):t.al w Z m x us F :=
 ae.al.mono (fun b o hz=>by rcases hz with h | ⟨d,ag,_⟩;exact h;simp at ag) t m (fun _ _ h=>h) h
theorem O8:∀(B:List (List a8)) (t:ae) (m:ba) (s s1:aq) (xs:List t.D) (vs:List Value) (Z:ah),pP t m B s=some (xs,s1)→Inv w0 F0 Z0 n s a w ι Z→bG w Z s ι B.flatten vs →
  ∃F Z',Inv w0 F0 Z0 n s1 a w ι Z'∧eV s ι Z s1 Z'∧bF w0 F0 s1 w ι Z' F∧cZ (t.al w Z' m) t.size xs vs F∧∀b o,F b o→∃id,(s.o id).live∧(ι id).F b o
 | [],t,m,s,s1,xs,vs,Z,hi,h,hc=>by
  simp only [pP,Option.some.injEq,Prod.mk.injEq] at hi
  obtain ⟨rfl,rfl⟩:=hi
  cases vs with
  | nil=>exact⟨ah.none,Z,h,.refl,.none,rfl,fun _ _ h=>h.elim⟩
  | cons v vs=>exact hc.elim
 | cs :: B,t,m,s,s1,xs,vs,Z,hi,h,hc=>by
  simp only [pP] at hi
  obtain ⟨r,hr,hi⟩:=bf hi
  rw [List.flatten_cons] at hc
  obtain ⟨us,aj,rfl,pY,hcu,Yn⟩:=hc.split
  obtain ⟨aT,bD,F,cp,he,h1,hs1,hc1,nT,cK,_,O9,_,hF⟩:=ae.k5 t false m cs s [] r us Z hr h hcu (by simp)
  cases eg:r.2.1 with
  | cons c l=>rw [eg] at hi;simp at hi
  | nil =>
   rw [eg] at hi hc1
   simp only at hi
   obtain ⟨q,hq,hi⟩:=bf hi
   simp only [Option.some.injEq,Prod.mk.injEq] at hi
   obtain ⟨rfl,rfl⟩:=hi
   cases bD with
   | cons v l=>exact hc1.elim
   | nil =>
    rw [List.append_nil] at he
    subst he
    rw [O9 rfl] at cK
    have cK:=O7 cK
    obtain ⟨G,bK,h2,nU,hf2,hels,hG⟩:=O8 B t m r.2.2.1 q.2 q.1 aj cp hq h1 (XQ hs1 Yn)
    refine⟨F.or G,bK,h2,hs1.trans nU,(nT.shrink nU).or hf2,⟨us,aj,F,G,rfl,ae.al.mono nU.dz t m (fun _ _ h=>h) cK,(ae.al.len t m cK).1,hels,?_,fun _ _ h=>.inl h,fun _ _ h=>.inr h⟩,?_⟩
    ·intro b o hb aA
     obtain ⟨j,hj,xS⟩:=hG b o aA
     exact nT.apart j hj b o hb xS
    ·rintro b o (hb | hb)
     ·exact hF b o hb
     ·obtain ⟨j,hj,xS⟩:=hG b o hb
      obtain ⟨g1,g2⟩:=hs1.live hj
      exact⟨j,g1,xS⟩
theorem O_{t:ae}{m:ba} : ∀(B:List (List a8)) (s:aq) {xs:List t.D} {s1:aq},pP t m B s=some (xs,s1)→xs.length=B.length
 | [],s,xs,s1,h=>by simp only [pP,Option.some.injEq,Prod.mk.injEq] at h;rw [← h.1];rfl
 | cs :: B,s,xs,s1,h=>by
  simp only [pP] at h
  obtain ⟨r,hr,h⟩:=bf h
  split at h
  ·obtain ⟨q,hq,h⟩:=bf h
   simp only [Option.some.injEq,Prod.mk.injEq] at h
   rw [← h.1,List.length_cons,List.length_cons,O_ B _ hq]
  ·simp at h
theorem Yo{T:ae}{t e len:Nat}{parts:Array (Nat×Value)}{cells:Array Value}(hu:P.underlying t=some (.slice e))(ca:T.ok P e)(hs:len*T.size≤16777216)
  (hf:Instr.fill (fun i=>some (i*T.size,T.size)) ((Array.range (len*T.size)).map ((if len*T.size=0 then #[] else(dB T T.cL).cells)[· % (if len*T.size=0 then #[] else(dB T T.cL).cells).size]!)) parts.toList=some cells) :
  (Instr.buildSlice t len parts).run P w=.ok (.slice (some (at_ w.heap.size 0)) len len) (grown w w.drawn cells e (0,0)):=by
 unfold Instr.buildSlice
 simp only [run_bind,run_underlying hu,run_sizeOf ca]
 rw [if_neg (by omega)]
 by_cases hz:len*T.size=0
 ·simp only [hz,if_true] at hf ⊢
  simp only [run_bind,run_pure,hf,A0]
 ·simp only [hz,if_false] at hf ⊢
  simp only [run_bind,run_pure,AT ca,hf,A0]
theorem Yp{t len:Nat}{parts:Array (Nat×Operand)}(bX:gI P E)(h:Inv w0 F0 Z0 n s a w ι Z)(ag:∀k,o.dst=some k→k<n)(ho:o.op=.buildSlice t len parts)(hk:cQ E id o s K=some r) :
  ∃ar,K ar=some r∧o.wp P a w (cV w0 F0 Z0 n ar) Q:=by
 unfold cQ at hk
 rw [ho] at hk
 simp only at hk
 cases ht:E.ty t with
 | none=>rw [ht] at hk;simp at hk
 | some S =>
  rw [ht] at hk
  cases S with
  | sl T =>
   simp only at hk
   cases hle:Nat.ble (len*T.size) 16777216
   ·rw [hle] at hk;simp at hk
   rw [hle] at hk
   simp only [cond_true] at hk
   have hle:=Nat.le_of_ble_eq_true hle
   cases hf:q2 s (fun i=>cond (Nat.blt i len) (some T) none) parts.toList (List.replicate len T.iU) with
   | none=>rw [hf] at hk;simp at hk
   | some B =>
    rw [hf] at hk
    simp only at hk
    generalize hm:GR T s B=m at hk
    cases hi:pP T m B s with
    | none=>rw [hi] at hk;simp at hk
    | some q =>
     obtain ⟨xs,s1⟩:=q
     rw [hi] at hk
     simp only at hk
     cases mL:mkObj s1 id (.row T m 0 xs) with
     | none=>rw [mL] at hk;simp at hk
     | some s2 =>
      rw [mL] at hk
      obtain ⟨b3,rfl⟩:=p0 mL
      obtain ⟨e,hu,ca⟩:=k_ (bX.ty t _ ht)
      have A2:HG (fun i=>some (i*T.size,T.size)) (fun i=>cond (Nat.blt i len) (some T) none) (List.replicate len T.size):=by
       intro i c8 hi
       have hi:cond (Nat.blt i len) (some T) none=some c8:=hi
       cases hb:Nat.blt i len
       ·rw [hb] at hi;simp at hi
       ·rw [hb] at hi
        simp only [cond_true,Option.some.injEq] at hi
        subst hi
        have cz:i<len:=Nat.lt_of_lt_of_le (Nat.lt_succ_self i) (Nat.le_of_ble_eq_true hb)
        refine⟨?_,by simp [List.getElem?_replicate,cz]⟩
        rw [List.take_replicate,Nat.min_eq_left (by omega)]
        simp
      have Yq:∀k,bG w Z s ι (List.replicate k T.iU).flatten (List.replicate k T.cL).flatten:=by
       intro k
       induction k with
       | zero=>exact trivial
       | succ k ih=>rw [List.replicate_succ,List.replicate_succ,List.flatten_cons,List.flatten_cons];exact(rf T).append ih
      have hcells:((Array.range (len*T.size)).map ((if len*T.size=0 then #[] else(dB T T.cL).cells)[· % (if len*T.size=0 then #[] else(dB T T.cL).cells).size]!)).toList=(List.replicate len T.cL).flatten:=by
       apply List.ext_getElem?
       intro j
       have hM:(List.replicate len T.cL).flatten.length=len*T.size:=by simp [ae.k9]
       by_cases hj:j<len*T.size
       ·have hz:¬len*T.size=0:=by omega
        simp only [if_neg hz]
        obtain ⟨v,hv⟩:∃v,(List.replicate len T.cL).flatten[j]?=some v:=⟨_,List.getElem?_eq_getElem (by omega)⟩
        rw [hv,Array.getElem?_toList]
        exact HC T.cL len (vB T) (by rw [ae.k9]) v hv
       ·rw [List.getElem?_eq_none (by simp;omega),List.getElem?_eq_none (by omega)]
      obtain ⟨mP,h1,h2,h3⟩:=HH h A2 parts.toList (List.replicate len T.iU) B _ (by simp [HI]) (by rw [hcells];exact Yq len) hf
      obtain ⟨F,cp,gu,hs1,nT,hels,_⟩:=O8 B T m s s1 xs _ Z hi h h2
      have hxl:xs.length=len:=by
       have e1:B.length=len:=by have:=congrArg List.length h3;simpa using this
       rw [← e1];exact O_ B s hi
      have hcs:len*T.size≤mP.size:=by
       have:=hels.len
       simp only [Array.length_toList] at this
       rw [hxl] at this;omega
      have hn:=gu.newRow b3 hels nT w.drawn mP e (0,0) len (fun j v hv=>by simpa using hv) (by omega) hcs (.inl rfl) (.inr rfl)
      refine⟨_,hk,lQ (v:=.slice (some (at_ w.heap.size 0)) len len) ?_ hn ?_ ag⟩
      ·unfold execOp;rw [ho]
       refine fH ?_
       refine Yo hu ca hle ?_
       rw [← h1]
       congr 1
       simp
      ·simp only [aQ]
       have:=xQ (w:=grown w w.drawn mP e (0,0)) (Z:=cp) (s:=s1) (ι := ι) (id:=id) (em:=m) (ver:=0) (xs:=xs) (A:=at_ w.heap.size 0) (c:=len) (F:=(ah.run w.heap.size 0 (len*T.size)).or F) rfl (by omega)
       rw [hxl] at this
       exact this
  | _=>simp at hk
end
end Go.LM
namespace Go.LM
section
variable{P:Program}{Q:Exit→Act→World→Prop}
variable{w0:World}{F0 Z0:ah}{n:cB}{s ar:aq}{a b6:Act}{w w':World}{ι bd:Nat→bC}{Z Z':ah}
variable{E:Env}{o:Oper}{bs : Type}{K:aq→Option bs}{r : bs}{id:Nat}
theorem Inv.A3(h:Inv w0 F0 Z0 n s a w ι Z){S:ah}(hF:bF w0 F0 s w ι Z S)(hx:Ext w w' S):Inv w0 F0 Z0 n s a w' ι Z:=by
 have hm:eD w Z s ι w' Z s ι := by
  refine⟨fun id=>.stay _ _,fun _ _ h=>h,b5.iE hx h.ra ?_⟩
  rintro b o (hz | ⟨id,hl,_,_,hf⟩) hs
  ·exact hF.c0 b o hs hz
  ·exact hF.apart id hl b o hs hf
 refine h.next hm hx (fun b o hs=>(hF.own b o hs).1) (fun _ _ h=>.inl h) ?_ h.c0 (fun k=>(h.tmps k).move hm) h.size h.defers
 intro id _ hne;exact absurd ⟨rfl,rfl⟩ hne
theorem Inv.freeze(h:Inv w0 F0 Z0 n s a w ι Z){S:ah}(hF:bF w0 F0 s w ι Z S):Inv w0 F0 Z0 n s a w ι (Z.or S):=by
 have hm:eD w Z s ι w (Z.or S) s ι :=⟨fun id=>.stay _ _,fun _ _ h=>.inl h,b5.refl _ _⟩
 refine h.next hm (Ext.refl _ ah.none) (fun _ _ h=>h.elim) ?_ ?_ ?_ (fun k=>(h.tmps k).move hm) h.size h.defers
 ·rintro b o (hz | hs)
  ·exact .inl hz
  ·exact .inr (hF.own b o hs)
 ·intro id _ hne;exact absurd ⟨rfl,rfl⟩ hne
 ·rintro id hl b o h1 (h2 | h2)
  ·exact h.c0 id hl b o h1 h2
  ·exact hF.apart id hl b o h2 h1
theorem bF.freeze{F S:ah}(hF:bF w0 F0 s w ι Z F)(ha:ah.apart F S):bF w0 F0 s w ι (Z.or S) F :=
 ⟨hF.own,hF.apart,fun b o h1 h2=>h2.elim (hF.c0 b o h1) (ha b o h1)⟩
theorem bF.sub{F G:ah}(hF:bF w0 F0 s w ι Z F)(h:ah.sub G F):bF w0 F0 s w ι Z G :=
 ⟨fun b o aA=>hF.own b o (h b o aA),fun id hl b o aA=>hF.apart id hl b o (h b o aA),fun b o aA=>hF.c0 b o (h b o aA)⟩
def ah.diff(F G:ah):ah:=fun b o=>F b o∧¬G b o
theorem AB{t:ae}{m:ba} : ∀ {xs:List t.D} {vs:List Value} {F:ah},cZ (t.al w Z m) t.size xs vs F→∀v∈vs,dY v=true
 | [],_,_,h=>by simp only [cZ] at h;subst h;simp
 | x :: xs,_,_,⟨us,aj,G,H,h1,h2,h3,h4,_⟩=>by
  subst h1
  intro v hv
  rcases List.mem_append.1 hv with h | h
  ·exact(ae.al.len t m h2).2 v h
  ·exact AB h4 v h
theorem qX{A:Option Addr}{size m c:Nat}{vs:List Value}(hl:vs.length=m*size)(h:m=0∨∃b o,A=some (at_ b o)∧b4 w b o vs) :
  (Builtin.firstCells size m (.slice A m c)).run P w=.ok vs.toArray w:=by
 unfold Builtin.firstCells
 rcases h with rfl | ⟨b,o,rfl,hc⟩
 ·have:vs=[]:=List.eq_nil_of_length_eq_zero (by simpa using hl)
  subst this
  cases A with
  | none=>rfl
  | some A=>simp only [Nat.zero_mul];rfl
 ·simp only [← hl]
  exact run_loadCells hc
theorem A4{t:ae}{e:ba}{xs:List t.D}{v:Value}{F:ah}(h:(ae.sl t).al w Z (.O e) xs [v] F) :
  ∃A c vs,v=.slice A xs.length c∧cZ (t.al w Z e) t.size xs vs F∧∀d,(Builtin.firstCells t.size xs.length v).run P { w with drawn:=d } = .ok vs.toArray { w with drawn:=d } := by
 simp only [ae.al] at h
 obtain ⟨A,c,hv,h⟩:=h
 simp only [List.cons.injEq,and_true] at hv
 subst hv
 rcases h with⟨rfl,rfl⟩ | ⟨⟨b,o,sp⟩,rfl,hr⟩
 ·exact⟨A,0,[],rfl,rfl,fun d=>qX (by simp) (.inl rfl)⟩
 ·obtain ⟨G,g1,g2,g3⟩:=hr.row
  have hsp:=hr.spot
  simp only at hsp
  subst hsp
  obtain ⟨vs,h1,h2⟩:=g1.sy
  exact⟨_,c,vs,rfl,h1.mono g3,fun d=>qX h1.len (.inr ⟨b,o,rfl,h2⟩)⟩
theorem Yr{t:ae}{xs:List t.D}{v:Value}{F:ah}(h:(ae.sl t).al w Z .R xs [v] F) :
  ∃A c vs,v=.slice A xs.length c∧cZ (t.al w Z .R) t.size xs vs ah.none∧∀d,(Builtin.firstCells t.size xs.length v).run P { w with drawn:=d } = .ok vs.toArray { w with drawn:=d } := by
 simp only [ae.al] at h
 obtain ⟨A,c,hv,h⟩:=h
 simp only [List.cons.injEq,and_true] at hv
 subst hv
 rcases h with rfl | ⟨⟨b,o,sp⟩,rfl,hsp,hr,_,_⟩
 ·exact⟨A,c,[],rfl,rfl,fun d=>qX (by simp) (.inl rfl)⟩
 ·simp only at hsp
  subst hsp
  obtain ⟨vs,h1,h2⟩:=hr.sy
  exact⟨_,c,vs,rfl,h1.imp (fun y us G hs hr=>q6 hr |> fun h=>ae.al.mono (fun _ _ h=>h) t .R (fun _ _ h=>h.elim) h),fun d=>qX h1.len (.inr ⟨b,o,rfl,h2⟩)⟩
theorem O'{t:ae}{c:a8}{v:Value}{j9:ba}{ys:List t.D}{s1:aq}(ha:added s t c=some (j9,ys,s1))(h:Inv w0 F0 Z0 n s a w ι Z)(hc:cf w Z s ι c v) :
  ∃vs F,(Builtin.lenOf v).run P w=.ok ys.length w∧(∀d,(Builtin.firstCells t.size ys.length v).run P { w with drawn:=d } = .ok vs.toArray { w with drawn:=d })∧cZ (t.al w Z j9) t.size ys vs F ∧
   Inv w0 F0 Z0 n s1 a w ι Z∧eV s ι Z s1 Z∧bF w0 F0 s1 w ι Z F:=by
 cases c with
 | nil u =>
  simp only [added] at ha
  obtain ⟨x,hx,ha⟩:=bf ha
  obtain ⟨e,rfl⟩:=gH hx
  subst e
  simp only [Option.some.injEq,Prod.mk.injEq] at ha
  obtain ⟨rfl,rfl,rfl⟩:=ha
  have hv:v=.slice none 0 0:=hc
  subst hv
  exact⟨[],ah.none,rfl,fun _=>rfl,rfl,h,.refl,.none⟩
 | bW u dp cr xs =>
  simp only [added] at ha
  cases dQ:alive s dp
  ·rw [dQ] at ha;simp at ha
  cases hM:(t.flat||dp.isEmpty)
  ·rw [dQ,hM] at ha;simp at ha
  rw [dQ,hM] at ha
  simp only [Bool.and_self,cond_true] at ha
  obtain ⟨x,hx,ha⟩:=bf ha
  obtain ⟨e,rfl⟩:=gH hx
  subst e
  simp only [Option.some.injEq,Prod.mk.injEq] at ha
  obtain ⟨rfl,rfl,rfl⟩:=ha
  obtain ⟨A,rl,vs,rfl,h1,h2⟩:=Yr (P:=P) (hc.2.2.1 dQ)
  refine⟨vs,ah.none,rfl,h2,?_,h,.refl,.none⟩
  simp only [Bool.or_eq_true,List.isEmpty_iff] at hM
  rcases hM with hM | rfl
  ·exact h1.imp fun y us G _ hr=>qZ u hM hr
  ·exact h1.imp fun y us G _ hr=>O7 hr
 | ag j sub =>
  simp only [added] at ha
  obtain ⟨hk,A,m,rl,rfl,hh⟩:=hc
  cases ho:s.o j with
  | row u em ver xs =>
   rw [ho] at ha
   have cX:=h.fC j
   rw [ho] at cX
   have b8:(s.o j).live:=by rw [ho];trivial
   have mQ:=vp cX (hh u em ver xs (k0 ho))
   cases em with
   | R =>
    simp only at ha
    obtain ⟨x,hx,ha⟩:=bf ha
    obtain ⟨e,rfl⟩:=gH hx
    subst e
    simp only [Option.some.injEq,Prod.mk.injEq] at ha
    obtain ⟨rfl,rfl,rfl⟩:=ha
    obtain ⟨oQ,c',vs,hv,h1,h2⟩:=A4 (P:=P) mQ
    refine⟨vs,ah.none,?_,h2,h1.bare fun y us G _ hr=>q6 hr,h,.refl,.none⟩
    rw [hv];rfl
   | O gF =>
    simp only at ha
    obtain ⟨x,hx,ha⟩:=bf ha
    obtain ⟨e,rfl⟩:=gH hx
    subst e
    simp only [Option.some.injEq,Prod.mk.injEq] at ha
    obtain ⟨rfl,rfl,rfl⟩:=ha
    obtain ⟨oQ,c',vs,hv,h1,h2⟩:=A4 (P:=P) mQ
    refine⟨vs,(ι j).F,?_,h2,h1,h.take j (fun _ _ h=>h) (fun _ _ h=>.inl h),vo j b8,h.vn b8⟩
    rw [hv];rfl
   | S ms =>
    simp only at ha
    obtain ⟨x,hx,ha⟩:=bf ha
    obtain ⟨e,rfl⟩:=gH hx
    subst e
    simp only [Option.some.injEq,Prod.mk.injEq] at ha
    obtain ⟨rfl,rfl,rfl⟩:=ha
    obtain ⟨oQ,c',vs,hv,h1,h2⟩:=A4 (P:=P) mQ
    refine⟨vs,(ι j).F,?_,h2,h1,h.take j (fun _ _ h=>h) (fun _ _ h=>.inl h),vo j b8,h.vn b8⟩
    rw [hv];rfl
  | _=>rw [ho] at ha;simp at ha
 | str b =>
  simp only [added] at ha
  obtain ⟨x,hx,ha⟩:=bf ha
  obtain ⟨e,rfl⟩:=gH hx
  subst e
  simp only [Option.some.injEq,Prod.mk.injEq] at ha
  obtain ⟨rfl,rfl,rfl⟩:=ha
  obtain ⟨j_,rfl,rfl⟩:=hc
  have hlen:(eo j_.data.toList).length=j_.size:=by simp [eo]
  refine⟨(eo j_.data.toList).map (Value.int .u8),ah.none,?_,?_,HE _,h,.refl,.none⟩
  ·rw [hlen];rfl
  ·intro d
   rw [hlen]
   simp only [Builtin.firstCells,run_pure]
   congr 1
   apply Array.ext'
   simp [eo]
 | _=>simp [added] at ha
theorem Pb{t:ae}{c:a8}{v:Value}{nH:ba}{xs:List t.D}{s1:aq}(ha:taken s t c=some (nH,xs,s1))(h:Inv w0 F0 Z0 n s a w ι Z)(hc:cf w Z s ι c v) :
  ∃F,(ae.sl t).al w Z (.O nH) xs [v] F∧Inv w0 F0 Z0 n s1 a w ι Z∧eV s ι Z s1 Z∧bF w0 F0 s1 w ι Z F∧∀b o,F b o→∃id,(s.o id).live∧(ι id).F b o:=by
 cases c with
 | nil u =>
  simp only [taken] at ha
  obtain ⟨x,hx,ha⟩:=bf ha
  obtain ⟨e,rfl⟩:=gH hx
  subst e
  simp only [Option.some.injEq,Prod.mk.injEq] at ha
  obtain ⟨rfl,rfl,rfl⟩:=ha
  have hv:v=.slice none 0 0:=hc
  subst hv
  refine⟨ah.none,?_,h,.refl,.none,fun _ _ h=>h.elim⟩
  simp only [ae.al]
  exact⟨none,0,rfl,.inl (by simp)⟩
 | ag j sub =>
  simp only [taken] at ha
  obtain ⟨hk,A,m,rl,rfl,hh⟩:=hc
  cases ho:s.o j with
  | row u em ver xs =>
   rw [ho] at ha
   simp only at ha
   have cX:=h.fC j
   rw [ho] at cX
   have b8:(s.o j).live:=by rw [ho];trivial
   have mQ:=vp cX (hh u em ver xs (k0 ho))
   obtain ⟨x,hx,ha⟩:=bf ha
   obtain ⟨e,rfl⟩:=gH hx
   subst e
   simp only [Option.some.injEq,Prod.mk.injEq] at ha
   obtain ⟨rfl,rfl,rfl⟩:=ha
   exact⟨(ι j).F,mQ,h.take j (fun _ _ h=>h) (fun _ _ h=>.inl h),vo j b8,h.vn b8,fun b o hf=>⟨j,b8,hf⟩⟩
  | _=>rw [ho] at ha;simp at ha
 | _=>simp [taken] at ha
theorem Ys{t:ae}{nH j9:ba}{xs ys:List t.D}{v:Value}{vs:List Value}{ky gJ:ah}(h:Inv w0 F0 Z0 n s a w ι Z)
  (hx:(ae.sl t).al w Z (.O nH) xs [v] ky) (aO:cZ (t.al w Z j9) t.size ys vs gJ) (ha:bF w0 F0 s w ι Z ky) (hb:bF w0 F0 s w ι Z gJ) (lf:ah.apart ky gJ) :
  ∃Z' A5 A6,Inv w0 F0 Z0 n s a w ι Z'∧ah.sub Z Z'∧(ae.sl t).al w Z' (.O (meet nH j9)) xs [v] A5∧cZ (t.al w Z' (meet nH j9)) t.size ys vs A6∧bF w0 F0 s w ι Z' A5∧bF w0 F0 s w ι Z' A6∧ah.apart A5 A6:=by
 unfold meet
 cases hm:ba.beq nH j9
 ·simp only [cond_false]
  obtain ⟨F',h1,h2⟩:=Oh hx
  have dN:bF w0 F0 s w ι Z ((ah.diff ky F').or gJ):=(ha.sub fun b o h=>h.1).or hb
  refine⟨_,F',ah.none,h.freeze dN,fun _ _ h=>.inl h,ae.al.mono ?_ _ _ (fun _ _ h=>h) h2,?_,?_,.none,fun _ _ _ h=>h⟩
  ·rintro b o (hz | hz)
   ·exact .inl hz
   ·exact .inr (.inl hz)
  ·exact aO.bare fun y us G hs hr=>ae.al.read (fun _ _ h=>.inl h) t j9 (fun b o aA=>.inr (.inr (hs b o aA))) hr
  ·refine(ha.sub h1).freeze ?_
   rintro b o hf (aA | aA)
   ·exact aA.2 hf
   ·exact lf b o (h1 b o hf) aA
 ·have:=ba.eq_of_beq _ _ hm
  subst this
  exact⟨Z,ky,gJ,h,fun _ _ h=>h,hx,aO,ha,hb,lf⟩
theorem GA(z:Array Value)(k:Nat):(Builtin.zeroCells z k).size=k*z.size:=by simp [Builtin.zeroCells]
theorem run_append_room{A:Option Addr}{m c k size:Nat}{vs:List Value}{vb:Value}{gX hH ty e:TypeId}{ats:Array TypeId}{args:Array Value}
  (h0:ats[0]?=some gX) (h1:ats[1]?=some hH) (h2:args[0]?=some (.slice A m c)) (h3:args[1]?=some vb) (hu:P.underlying gX=some (.slice e)) (hs:(sizeOf e).run P w=.ok size w)
  (jL:P.underlying hH=some .string∨∃gF,P.underlying hH=some (.slice gF)) (nV:m+k≤c) (hl:(Builtin.lenOf vb).run P w=.ok k w) (hf:(Builtin.firstCells size k vb).run P w=.ok vs.toArray w)
  (hst:∀a,A=some a→(storeCells (a.add (m*size)) vs).run P w=.ok () w') (hn:A=none→w'=w):(Builtin.append_ ats ty args).run P w=.ok (.slice A (m+k) c) w':=by
 unfold Builtin.append_
 rcases jL with jL | ⟨gF,jL⟩
 all_goals
  simp only [h0,h1,h2,h3,run_bind,run_underlying hu,hs,run_underlying jL,run_pure]
  simp only [Bool.false_eq_true,if_false,run_bind,hl,if_pos nV,Bool.not_false,if_true,hf]
  cases A with
  | none=>rw [hn rfl];rfl
  | some a=>simp only [run_bind,hst a rfl,run_pure]
theorem run_append_grow{A:Option Addr}{m c k size:Nat}{us vs:List Value}{vb z:Value}{gX hH ty e:TypeId}{ats:Array TypeId}{args:Array Value}{i:TypeInfo}
  (h0:ats[0]?=some gX) (h1:ats[1]?=some hH) (h2:args[0]?=some (.slice A m c)) (h3:args[1]?=some vb) (hu:P.underlying gX=some (.slice e)) (hi:P.info? e=some i) (hsz:i.size=size) (hz:i.zero=some z)
  (jL:P.underlying hH=some .string∨∃gF,P.underlying hH=some (.slice gF)) (nV:¬m+k≤c) (hl:(Builtin.lenOf vb).run P w=.ok k w)
  (A7:∀d,(Builtin.firstCells size m (.slice A m c)).run P { w with drawn:=d } = .ok us.toArray { w with drawn:=d })
  (hf:∀d,(Builtin.firstCells size k vb).run P { w with drawn:=d } = .ok vs.toArray { w with drawn:=d })
  (hr:m+k≤68719476736) (hb:i.bytes≤2048) :
  ∃q,m+k≤q∧(Builtin.append_ ats ty args).run P w=.ok (.slice (some (at_ w.heap.size 0)) (m+k) q) (grown w (w.drawn+1) (us.toArray++vs.toArray++Builtin.zeroCells z.cells (q-(m+k))) e (0,0)):=by
 have hq:(Question.appendCap (m+k) c e).forced=false:=rfl
 have Yt:¬(((m+k:Nat):Int)>IntKind.i64.max):=by simp [IntKind.max,IntKind.signed,IntKind.bits];omega
 have Yu:¬(Builtin.nextslicecap (m+k) c*i.bytes>2 ^ 48):=by
  have h1:=nextslicecap_le (need:=m+k) (old:=c) (by omega)
  have h2:Builtin.nextslicecap (m+k) c*i.bytes≤(2*68719476736)*2048:=Nat.mul_le_mul (by omega) hb
  omega
 have Yv:(sizeOf e).run P w=.ok size w:=by simp [sizeOf,run_bind,run_typeInfo hi,run_pure,hsz]
 have hzero:∀w:World,(zeroValue e).run P w=.ok z w:=by intro w;simp [zeroValue,run_bind,run_typeInfo hi,run_pure,hz]
 refine⟨m+k+w.tape w.drawn (.appendCap (m+k) c e) % (2 ^ 63-(m+k)),by omega,?_⟩
 unfold Builtin.append_
 rcases jL with jL | ⟨gF,jL⟩
 all_goals
  simp only [h0,h1,h2,h3,run_bind,run_underlying hu,Yv,run_underlying jL,run_pure]
  simp only [Bool.false_eq_true,if_false,run_bind,hl,if_neg nV,Bool.not_false,if_true,Yt,false_and,run_typeInfo hi,Yu,choose,Sem.run,hq,Question.cut,run_askRoom,A7,hf,hzero]
  rfl
theorem Pc{t:ae}{m:ba}{xs ys:List t.D}{kY vb:Value}{vs:List Value}{ky gJ:ah}{gX hH ty e:TypeId}{ats:Array TypeId}{args:Array Value}
  (h0:ats[0]?=some gX) (h1:ats[1]?=some hH) (h2:args[0]?=some kY) (h3:args[1]?=some vb) (hu:P.underlying gX=some (.slice e)) (ca:t.ok P e)
  (jL:P.underlying hH=some .string∨∃gF,P.underlying hH=some (.slice gF)) (hroom:xs.length+ys.length≤68719476736)
  (h:Inv w0 F0 Z0 n s a w ι Z) (b3:s.o id=.none) (hx:(ae.sl t).al w Z (.O m) xs [kY] ky) (aO:cZ (t.al w Z m) t.size ys vs gJ) (ha:bF w0 F0 s w ι Z ky) (hb:bF w0 F0 s w ι Z gJ) (lf:ah.apart ky gJ)
  (hl:(Builtin.lenOf vb).run P w=.ok ys.length w) (hf:∀d,(Builtin.firstCells t.size ys.length vb).run P { w with drawn:=d } = .ok vs.toArray { w with drawn:=d }) :
  ∃u w' i,(Builtin.append_ ats ty args).run P w=.ok u w'∧Inv w0 F0 Z0 n (s.bN id (.row t m 0 (xs++ys))) a w' (bQ ι id i) Z∧cf w' Z (s.bN id (.row t m 0 (xs++ys))) (bQ ι id i) (.ag id none) u:=by
 obtain ⟨A,c,us,rfl,hex,A7⟩:=A4 (P:=P) hx
 obtain ⟨i,gu,gr,vC,HD⟩:=ca.info
 have xR:(dB t t.cL).cells.size=t.size:=by
  have:=congrArg List.length (vB t)
  rw [Array.length_toList,ae.k9] at this;exact this
 have Pd:(Builtin.firstCells t.size ys.length vb).run P w=.ok vs.toArray w:=hf w.drawn
 have akp:(Builtin.firstCells t.size xs.length (.slice A xs.length c)).run P w=.ok us.toArray w:=A7 w.drawn
 have Yw:=hex.len
 have Pe:=aO.len
 by_cases nV:xs.length+ys.length≤c
 ·
  have hrow:=hx
  simp only [ae.al] at hrow
  obtain ⟨oQ,c',hv,hrow⟩:=hrow
  simp only [List.cons.injEq,Value.slice.injEq,and_true,true_and] at hv
  obtain ⟨rfl,rfl⟩:=hv
  rcases hrow with⟨rfl,rfl⟩ | ⟨⟨b,o,sp⟩,rfl,hr⟩
  ·have Yx:ys=[]:=List.eq_nil_of_length_eq_zero (by simp at nV;simpa using nV)
   subst Yx
   have Pf:vs=[]:=List.eq_nil_of_length_eq_zero (by simpa using Pe)
   subst Pf
   refine⟨.slice A 0 0,w,⟨none,0,ah.none⟩,?_,h.AQ b3 (.inl ⟨rfl,rfl⟩) .none,?_⟩
   ·exact run_append_room h0 h1 h2 h3 hu (run_sizeOf ca) jL (Nat.le_refl 0) hl Pd (fun a _=>rfl) (fun _=>rfl)
   ·refine⟨by show bQ s.o id _ id≠_;rw [cw];simp,A,0,0,rfl,?_⟩
    intro c8 gd mM fD ho
    have q':(bQ s.o id (ck.row t m 0 ([]++[])) id).core=.row c8 gd mM fD:=ho
    rw [cw] at q'
    obtain ⟨rfl,_,_,h4⟩:=ck.row.inj q'
    have:=eq_of_heq h4;subst this
    exact⟨rfl,by simp [eb],Nat.le_refl _,by simp [eb],.inl rfl⟩
  ·have hsp:=hr.spot
   simp only at hsp
   subst hsp
   obtain ⟨G,g1,g2,g3⟩:=hr.row
   have hle:(xs.length+ys.length)*t.size≤c*t.size:=Nat.mul_le_mul_right _ nV
   rw [Nat.add_mul] at hle
   have hwr:∀j,j<vs.length→e' w b (o+xs.length*t.size+j):=fun j hj=>by
    have:=(hr.wr (xs.length*t.size+j) (by omega)).1
    rwa [← Nat.add_assoc] at this
   have dN:bF w0 F0 s w ι Z (ah.run b o (c*t.size)):=ha.sub (by
    rintro b' o' ⟨rfl,h1,h2⟩
    have:=hr.inF (o'-o) (by omega)
    rwa [show o +(o'-o)=o' by omega] at this)
   have Yy:ah.apart G (ah.run b o (c*t.size)):=by
    rintro b' o' aA ⟨rfl,h1,h2⟩
    have:=g2 (o'-o) (by omega)
    exact this (by show G b' (o +(o'-o));rw [show o +(o'-o)=o' by omega];exact aA)
   have lW:Ext w (setCells w b (o+xs.length*t.size) vs) (ah.run b o (c*t.size)):=nD b vs w _ (fun j hj=>⟨rfl,by omega,by omega⟩)
   have hinv:=h.A3 dN lW
   obtain ⟨aT,k1,k2⟩:=g1.sy
   have Pg:=k1.len
   have mR:∀F,bF w0 F0 s w ι Z F→ah.apart F (ah.run b o (c*t.size))→b5 w (setCells w b (o+xs.length*t.size) vs) F:=fun F hF HJ=>b5.iE lW (fun b o hf=>(hF.own b o hf).2) HJ
   have Ph:b5 w (setCells w b (o+xs.length*t.size) vs) Z:=b5.iE lW h.iC (fun b o hz hs=>dN.c0 b o hs hz)
   have Yz:bF w0 F0 s w ι Z G:=ha.sub g3
   have YA:ah.apart gJ (ah.run b o (c*t.size)):=by
    rintro b' o' dA ⟨rfl,h1,h2⟩
    have:=hr.inF (o'-o) (by omega)
    exact lf b' o' (by have jr:ky b' (o +(o'-o)):=this;rwa [show o +(o'-o)=o' by omega] at jr) dA
   have e1:cZ (t.al (setCells w b (o+xs.length*t.size) vs) Z m) t.size xs aT G:=k1.imp fun y us dh hs hr=>ae.al.same Ph t m ((mR G Yz Yy).mono hs) hr
   have e2:cZ (t.al (setCells w b (o+xs.length*t.size) vs) Z m) t.size ys vs gJ:=aO.imp fun y us dh hs hr=>ae.al.same Ph t m ((mR gJ hb YA).mono hs) hr
   have jK:bF w0 F0 s (setCells w b (o+xs.length*t.size) vs) ι Z (ky.or gJ):=(ha.or hb).ext lW
   refine⟨.slice (some (at_ b o)) (xs.length+ys.length) c,_,⟨some (at_ b o),c,ky.or gJ⟩,?_,hinv.AQ b3 ?_ jK,?_⟩
   ·have hst:=Az (P:=P) (b:=b) (o:=o+xs.length*t.size) vs w 0 (AB aO) (fun j hj=>by simpa using hwr j hj)
    simp only [Nat.add_zero] at hst
    refine run_append_room h0 h1 h2 h3 hu (run_sizeOf ca) jL nV hl Pd (fun a ha=>?_) (fun h=>by simp at h)
    obtain rfl:=aV ha
    rw [show(⟨b,o,none⟩:Addr).add (xs.length*t.size)=at_ b (o+xs.length*t.size) from pS _ _ _]
    exact hst
   ·refine .inr ⟨at_ b o,rfl,rfl,by simpa using nV,fun j hj=>(lW.j5 (hr.wr j hj)),fun j hj=>.inl (hr.inF j hj),G.or gJ,?_,?_,fun b o h=>h.imp (g3 b o) (fun h=>h)⟩
    ·refine(e1.append e2 fun b o aA hf=>lf b o (g3 b o aA) hf).row ?_
     refine b4.append (k2.of_eq fun j hj=>?_) ?_
     ·rw [Pg] at hj
      refine(vm b vs w _ (fun i hi=>(hwr i hi).1) b (o+j)).trans (if_neg ?_)
      omega
     ·rw [Pg];exact XR hwr
    ·rintro j hj (aA | aA)
     ·exact g2 j hj aA
     ·exact lf _ _ (hr.inF j hj) aA
   ·have:=xQ (w:=setCells w b (o+xs.length*t.size) vs) (Z:=Z) (s:=s) (ι := ι) (id:=id) (em:=m) (ver:=0) (xs:=xs++ys) (A:=at_ b o) (c:=c) (F:=ky.or gJ) rfl (by simpa using nV)
    rw [List.length_append] at this
    exact this
 ·
  obtain ⟨q,hq,hrun⟩:=run_append_grow (P:=P) (w:=w) (ty:=ty) h0 h1 h2 h3 hu gu gr vC jL nV hl A7 hf hroom HD
  have hn:=h.newRow b3 (hex.append aO lf) (ha.or hb) (w.drawn+1) (us.toArray++vs.toArray++Builtin.zeroCells (dB t t.cL).cells (q-(xs.length+ys.length))) e (0,0) q (by
   intro j v hv
   rw [Array.getElem?_append_left]
   ·simpa [← List.getElem?_append] using hv
   ·rcases Nat.lt_or_ge j (us++vs).length with h | h
    ·simpa using h
    ·rw [List.getElem?_eq_none h] at hv;simp at hv) (by simpa using hq) (by
   simp only [Array.size_append,List.size_toArray,GA,xR,Yw,Pe]
   rw [Nat.sub_mul,Nat.add_mul]
   have:(xs.length+ys.length)*t.size≤q*t.size:=Nat.mul_le_mul_right _ hq
   rw [Nat.add_mul] at this
   omega) (.inl rfl) (.inr rfl)
  refine⟨_,_,_,hrun,hn,?_⟩
  have:=xQ (w:=grown w (w.drawn+1) (us.toArray++vs.toArray++Builtin.zeroCells (dB t t.cL).cells (q-(xs.length+ys.length))) e (0,0)) (Z:=Z) (s:=s) (ι := ι) (id:=id) (em:=m) (ver:=0) (xs:=xs++ys) (A:=at_ w.heap.size 0) (c:=q) (F:=(ah.run w.heap.size 0 (q*t.size)).or (ky.or gJ)) rfl (by simpa using hq)
  rw [List.length_append] at this
  exact this
theorem Pj{aj:List Nat}{t:ae}(bX:gI P E)(gv:vf E aj=some t):∃gX hH rest e,aj=gX :: hH :: rest∧P.underlying gX=some (.slice e)∧t.ok P e∧(P.underlying hH=some .string∨∃gF,P.underlying hH=some (.slice gF)):=by
 unfold vf at gv
 split at gv
 ·rename_i gX hH rest
  split at gv
  ·rename_i t1 t2 h1 h2
   obtain rfl:=aV gv
   obtain ⟨e,hu,ca⟩:=k_ (bX.ty _ _ h1)
   obtain ⟨gF,xT,_⟩:=k_ (bX.ty _ _ h2)
   exact⟨gX,hH,rest,e,rfl,hu,ca,.inr ⟨gF,xT⟩⟩
  ·rename_i t1 h1 h2
   obtain rfl:=aV gv
   obtain ⟨e,hu,ca⟩:=k_ (bX.ty _ _ h1)
   exact⟨gX,hH,rest,e,rfl,hu,ca,.inl (vE (bX.ty _ _ h2))⟩
  ·simp at gv
 ·simp at gv
theorem HK{t:ae}{u:Value}{c:a8}{x:a6}(hx:oneCell t x=some c)(hr:aQ w Z s ι x u):cf w Z s ι c u:=by
 cases x <;> simp only [oneCell] at hx <;> try (simp at hx;done)
 ·obtain rfl:=aV hx
  simpa only [aQ] using hr
 ·obtain rfl:=aV hx
  simp only [aQ] at hr
  exact hr
theorem YB{c:Call}(bX:gI P E)(h:Inv w0 F0 Z0 n s a w ι Z)(ag:∀k,o.dst=some k→k<n)(ho:o.op=.call c)(hb:c.callee=.builtin .append)(hk:cQ E id o s K=some r) :
  ∃ar,K ar=some r∧o.wp P a w (cV w0 F0 Z0 n ar) Q:=by
 unfold cQ at hk
 rw [ho] at hk
 simp only [hb] at hk
 have hvs:=s4 h c.args.toList
 have ld:(c.args.map a.eval).toList=c.args.toList.map a.eval:=by simp
 generalize hl:c.args.toList.map (bT s)=l at hk hvs
 match l,hk,hvs with
 | [],hk,_=>simp [jF] at hk
 | [_],hk,_=>simp [jF] at hk
 | _ :: _ :: _ :: _,hk,_=>simp [jF] at hk
 | [kY,vb],hk,hvs =>
  simp only [jF] at hk
  simp only [aZ] at hvs
  obtain ⟨Pk,_,he,mS,YC,_,rfl,HL,rfl⟩:=hvs
  cases gv:vf E c.argTypes.toList with
  | none=>rw [gv] at hk;simp at hk
  | some t =>
   rw [gv] at hk
   simp only at hk
   obtain ⟨gX,hH,rest,e,rn,hu,ca,jL⟩:=Pj bX gv
   cases A8:oneCell t kY with
   | none=>rw [A8] at hk;simp at hk
   | some HM =>
    cases s5:oneCell t vb with
    | none=>rw [A8,s5] at hk;simp at hk
    | some cb =>
      rw [A8,s5] at hk
      simp only [N7] at hk
      have mT:=HK A8 mS
      have hb1:=HK s5 HL
      cases p4:added s t cb with
      | none=>rw [p4] at hk;simp at hk
      | some q =>
       obtain ⟨j9,ys,s1⟩:=q
       rw [p4] at hk
       simp only at hk
       obtain ⟨vs,gJ,hlen,p5,hels,h1,hs1,nT⟩:=O' (P:=P) p4 h hb1
       cases xU:taken s1 t HM with
       | none=>rw [xU] at hk;simp at hk
       | some q =>
        obtain ⟨nH,xs,s2⟩:=q
        rw [xU] at hk
        simp only at hk
        obtain ⟨ky,hx,h2,nU,hf2,b8⟩:=Pb xU h1 (mT.move hs1.ec)
        cases mL:mkObj s2 id (.row t (meet nH j9) 0 (xs++ys)) with
        | none=>rw [mL] at hk;simp at hk
        | some s3 =>
         rw [mL] at hk
         obtain ⟨hroom,hk2⟩:=ri hk
         clear hk
         obtain ⟨b3,rfl⟩:=p0 mL
         obtain ⟨bK,A5,A6,h3,_,lW,AW,YD,dA,YE⟩:=Ys h2 hx hels hf2 (nT.shrink nU) (by
          intro b o YF YG
          obtain ⟨j,hj,xS⟩:=b8 b o YF
          exact nT.apart j hj b o YG xS)
         obtain ⟨u,w',bd,hrun,hinv,hcell⟩:=Pc (P:=P) (id:=id) (ty:=o.type) (ats:=c.argTypes) (args:=c.args.map a.eval) (by rw [← Array.getElem?_toList,rn];rfl) (by rw [← Array.getElem?_toList,rn];rfl)
          (by rw [← Array.getElem?_toList,ld,he];rfl) (by rw [← Array.getElem?_toList,ld,he];rfl) hu ca jL (Nat.le_of_ble_eq_true hroom) h3 b3 lW AW YD dA YE hlen p5
         refine⟨_,hk2,lQ (v:=u) (w':=w') ?_ hinv (by simp only [aQ];exact hcell) ag⟩
         unfold execOp;rw [ho]
         simp only [run_bind,resolve,hb,run_pure,invoke]
         unfold builtin
         exact fH hrun
theorem cZ.cut{α : Type}{R : α → List Value→ah→Prop}{size:Nat} : ∀ {xs:List α} {vs:List Value} {F:ah} (k:Nat),cZ R size xs vs F→cZ R size (xs.take k) (vs.take (k*size)) F∧cZ R size (xs.drop k) (vs.drop (k*size)) F
 | xs,vs,F,0,h=>by simp only [Nat.zero_mul,List.take_zero,List.drop_zero];exact⟨rfl,h⟩
 | [],vs,F,k+1,h=>by simp only [cZ] at h;subst h;simp [cZ]
 | x :: xs,vs,F,k+1,⟨us,aj,G,H,h1,h2,h3,h4,a7,bj,bE⟩=>by
  obtain ⟨p,q⟩:=cZ.cut k h4
  subst h1
  have e:(k+1)*size=us.length+k*size:=by rw [Nat.add_one_mul,h3];omega
  refine⟨⟨us,aj.take (k*size),G,H,?_,h2,h3,p,a7,bj,bE⟩,?_⟩
  ·rw [e,List.take_length_add_append]
  ·rw [e,List.drop_length_add_append];exact q.mono bE
theorem YH(us:List Value)(z:Array Value)(hz:z.toList=us)(n:Nat):(Builtin.zeroCells z n).toList=(List.replicate n us).flatten:=by
 have hl:(Builtin.zeroCells z n).toList.length=(List.replicate n us).flatten.length:=by
  rw [Array.length_toList,GA];subst hz;simp
 refine List.ext_getElem? fun j=>?_
 cases hj:(List.replicate n us).flatten[j]? with
 | none =>
  rw [List.getElem?_eq_none_iff] at hj ⊢
  omega
 | some v =>
  have:=HC (z:=z) (m:=n*z.size) us n hz (by subst hz;simp) v hj
  rw [Array.getElem?_toList]
  exact this
theorem Inv.rewrite(h:Inv w0 F0 Z0 n s a w ι Z){id:Nat}{t:ae}{em:ba}{ver:Nat}{xs fD:List t.D}(ho:s.o id=.row t em ver xs)(hl:xs.length=fD.length)(hx:Ext w w' (ι id).F)
  (cX:eD w Z s ι w' Z (s.bN id (.row t em (ver+1) fD)) ι → hJ w' Z (s.bN id (.row t em (ver+1) fD)) ι (ι id) (.row t em (ver+1) fD)):Inv w0 F0 Z0 n (s.bN id (.row t em (ver+1) fD)) a w' ι Z:=by
 have b8:(s.o id).live:=by rw [ho];trivial
 let o':ck:=.row t em (ver+1) fD
 have hm:eD w Z s ι w' Z (s.bN id o') ι := by
  refine⟨fun j=>?_,fun _ _ h=>h,b5.iE hx h.ra ?_⟩
  ·show iD (s.o j) (ι j) (bQ s.o id o' j) (ι j)
   by_cases hj:id=j
   ·subst hj;rw [cw,ho];exact .row _ _ _ _ _ _ _ _ _ (by omega) (by omega) rfl rfl
   ·rw [cO hj];exact .stay _ _
  ·rintro b o (hz | ⟨dV,fT,pU,_,hf⟩) ic
   ·exact h.c0 id b8 b o ic hz
   ·have hne:dV≠id:=by
     rintro rfl
     have:bQ s.o dV o' dV=s.o dV:=pU
     rw [cw,ho] at this
     injection this with h1 h2 h3
     omega
    exact h.apart dV id fT b8 hne b o hf ic
 have rb:∀ {j},id≠j→((s.bN id o').o j).live→(s.o j).live:=fun hj hl=>by
  have:(bQ s.o id o' _).live:=hl
  rwa [cO hj] at this
 refine h.next hm hx (fun b o hf=>(h.own id b8 b o hf).1) (fun _ _ h=>.inl h) ?_ ?_ (fun k=>(h.tmps k).move hm) h.size h.defers
 ·intro j hl hne
  by_cases hj:id=j
  ·subst hj
   refine⟨?_,fun b o hf=>⟨(h.own _ b8 b o hf).1,Nat.lt_of_lt_of_le (h.own _ b8 b o hf).2 hx.size⟩,fun dV fT jo=>h.apart id dV b8 (rb jo fT) jo⟩
   show hJ _ _ _ _ _ (bQ s.o id o' id)
   rw [cw]
   exact cX hm
  ·exact absurd ⟨cO hj,rfl⟩ hne
 ·intro j hl
  by_cases hj:id=j
  ·subst hj;exact h.c0 _ b8
  ·exact h.c0 j (rb hj hl)
theorem YI{t e ty:TypeId}{T:ae}{A:Option Addr}{k c:Nat}(hu:P.underlying t=some (.slice e))(ca:T.ok P e){b o:Nat}(hA:0<k→A=some (at_ b o))(hw:∀j,j<k*T.size→e' w b (o+j)) :
  (Builtin.clear_ #[t] ty #[.slice A k c]).run P w=.ok (.tuple #[]) (setCells w b o (List.replicate k T.cL).flatten):=by
 rcases Nat.eq_zero_or_pos k with rfl | hk
 ·unfold Builtin.clear_
  cases A <;>(simp only [List.getElem?_toArray,List.getElem?_cons_zero,run_bind,run_underlying hu];rfl)
 ·rw [hA hk]
  obtain ⟨m,rfl⟩:∃m,k=m+1:=⟨k-1,by omega⟩
  have hc:=YH T.cL (dB T T.cL).cells (vB T) (m+1)
  have h1:∀v∈(List.replicate (m+1) T.cL).flatten,dY v=true:=by
   intro v hv
   rw [List.mem_flatten] at hv
   obtain ⟨l,h1,h2⟩:=hv
   rw [(List.mem_replicate.1 h1).2] at h2
   exact((rf (w:=default) (Z:=ah.none) (s:=⟨fun _=>.aD,fun _=>.none,[]⟩) (ι := fun _=>⟨none,0,ah.none⟩) T).dY) v h2
  have hst:=Az (P:=P) (b:=b) (o:=o) _ w 0 h1 (fun i hi=>by
   have:=hw i (by simpa [ae.k9] using hi)
   simpa using this)
  unfold Builtin.clear_
  simp only [List.getElem?_toArray,List.getElem?_cons_zero,run_bind,run_underlying hu,AT ca,hc]
  simp only [Nat.add_zero] at hst
  rw [hst]
  rfl
theorem YJ{c:Call}(bX:gI P E)(h:Inv w0 F0 Z0 n s a w ι Z)(ag:∀k,o.dst=some k→k<n)(ho:o.op=.call c)(hb:c.callee=.builtin .clear)(hk:cQ E id o s K=some r) :
  ∃ar,K ar=some r∧o.wp P a w (cV w0 F0 Z0 n ar) Q:=by
 unfold cQ at hk
 rw [ho] at hk
 simp only [hb] at hk
 have hvs:=s4 h c.args.toList
 have ld:(c.args.map a.eval).toList=c.args.toList.map a.eval:=by simp
 generalize hl:c.args.toList.map (bT s)=l at hk hvs
 match l,hk,hvs with
 | [.aU (.ag i sub)],hk,hvs =>
  simp only [jF] at hk
  cases gv:c.argTypes.toList with
  | nil=>rw [gv] at hk;simp at hk
  | cons t aj =>
   rw [gv] at hk
   simp only at hk
   cases ht:E.ty t with
   | none=>rw [ht] at hk;simp at hk
   | some T =>
    cases bU:s.o i with
    | row v em ver xs =>
     rw [ht,bU] at hk
     cases T with
     | sl u =>
      simp only at hk
      cases hf:(ae.beq u v&&v.flat)
      ·rw [hf] at hk;simp at hk
      rw [hf] at hk
      simp only [cond_true] at hk
      simp only [Bool.and_eq_true] at hf
      obtain ⟨hf,hM⟩:=hf
      have:=ae.eq_of_beq _ _ hf
      subst this
      simp only [aZ,aQ] at hvs
      obtain ⟨akq,us,he,⟨jI,A,k,jH,rfl,hh⟩,rfl⟩:=hvs
      obtain ⟨e,hu,ca⟩:=k_ (bX.ty _ _ ht)
      have hr:=hh u em ver xs (k0 bU)
      obtain ⟨cq,Pl,akr,rc,A9⟩:=hr
      have hkk:k=kV sub xs:=by
       rw [cq];cases sub with
       | none=>rfl
       | some p=>rfl
      rw [← hkk] at hk
      generalize ie:eb sub=lo at *
      have mN:(c.args.map a.eval) = #[.slice A k jH]:=by
       apply Array.ext'
       rw [ld,he]
      have lV:c.argTypes[0]?=some t:=by rw [← Array.getElem?_toList,gv];rfl
      have hlen:xs.length=(xs.take lo++List.replicate k u.zero++xs.drop (lo+k)).length:=by simp;omega
      have Pm:=h.fC i
      rw [bU] at Pm
      have hfin:∃(b A_:Nat),(0<k→A=some (at_ b A_))∧(∀j,j<k*u.size→e' w b (A_+j))∧Inv w0 F0 Z0 n (s.bN i (.row u em (ver+1) (xs.take lo++List.replicate k u.zero++xs.drop (lo+k)))) a (setCells w b A_ (List.replicate k u.cL).flatten) ι Z:=by
       rcases Pm with⟨h1,h2⟩ | ⟨a0,fW,hrow⟩
       ·have hk0:k=0:=by rw [h1] at Pl;simp at Pl;omega
        subst hk0
        refine⟨0,0,fun h=>by omega,fun j hj=>by omega,?_⟩
        refine h.rewrite bU hlen (Ext.refl _ _) fun _=>?_
        exact .inl ⟨by rw [h1];simp,h2⟩
       ·have hle:(lo+k)*u.size≤(ι i).cap*u.size:=Nat.mul_le_mul_right _ (by have:=hrow.cap;omega)
        rw [Nat.add_mul] at hle
        have hwr:∀j,j<k*u.size→e' w a0.block (a0.off+lo*u.size+j):=fun j hj=>by
         have:=(hrow.wr (lo*u.size+j) (by omega)).1;rwa [← Nat.add_assoc] at this
        have xR:(List.replicate k u.cL).flatten.length=k*u.size:=by simp [ae.k9]
        have hx:Ext w (setCells w a0.block (a0.off+lo*u.size) (List.replicate k u.cL).flatten) (ι i).F:=nD _ _ _ _ fun j hj=>by
         have:=hrow.inF (lo*u.size+j) (by omega);rwa [← Nat.add_assoc] at this
        refine⟨a0.block,a0.off+lo*u.size,fun hk0=>?_,hwr,h.rewrite bU hlen hx fun _=>.inr ⟨a0,fW,hrow.spot,by rw [← hlen];exact hrow.cap,fun j hj=>hx.j5 (hrow.wr j hj),hrow.inF,ah.none,?_,fun _ _ h=>h,fun _ _ h=>h.elim⟩⟩
        ·rcases A9 with A9 | ⟨a1,hb1,A9⟩
         ·omega
         ·rw [fW] at hb1
          obtain rfl:=aV hb1
          exact A9
        ·obtain ⟨G,bB,cc,gG⟩:=hrow.row
         obtain ⟨us,e1,e2⟩:=Row.sy bB
         have e1:cZ (u.al (setCells w a0.block (a0.off+lo*u.size) (List.replicate k u.cL).flatten) Z em) u.size xs us ah.none:=e1.bare fun y us dh _ aO =>
          qZ u (F:=ah.none) hM (ae.al.same (Z:=ah.none) (fun _ _ h=>h.elim) u em (F:=ah.none) (fun _ _ h=>h.elim) (qZ u hM aO))
         have pY:=e1.len
         have hsp:=qY (k:=lo*u.size) (vs:=(List.replicate k u.cL).flatten) e2 (fun i hi=>(hrow.wr i (by
          have:xs.length*u.size≤(ι _).cap*u.size:=Nat.mul_le_mul_right _ hrow.cap
          omega)).1) (by
          rw [xR,pY,← Nat.add_mul];exact Nat.mul_le_mul_right _ (by omega))
         refine cZ.row ?_ hsp
         have c1:=(e1.cut lo).1
         have gf:=(e1.cut (lo+k)).2
         have YK:=cZ.replicate (R:=u.al (setCells w a0.block (a0.off+lo*u.size) (List.replicate k u.cL).flatten) Z em) (HB u em) (ae.k9 u) k
         have:=((c1.append YK fun _ _ h _=>h.elim).append gf fun _ _ _ h=>h.elim)
         unfold da
         rw [xR,← Nat.add_mul]
         refine this.bare fun y us G _ aO=>qZ u hM aO
      obtain ⟨b,A_,hA,hw,hi⟩:=hfin
      refine⟨_,hk,lQ (v:=.tuple #[]) ?_ hi (by simp only [aQ,aZ];exact⟨[],rfl,rfl⟩) ag⟩
      unfold execOp;rw [ho]
      simp only [run_bind,resolve,hb,run_pure,invoke]
      unfold builtin
      refine fH ?_
      have hrun:=YI (P:=P) (w:=w) (ty:=o.type) (c:=jH) hu ca hA hw
      rw [mN]
      have YL:Builtin.clear_ c.argTypes o.type #[.slice A k jH]=Builtin.clear_ #[t] o.type #[.slice A k jH]:=by
       unfold Builtin.clear_;rw [lV];rfl
      rw [YL]
      exact hrun
     | _=>simp at hk
    | _=>rw [ht,bU] at hk;cases T <;> simp at hk
 | [],hk,_=>simp [jF] at hk
 | _ :: _ :: _,hk,_=>simp [jF] at hk
 | [.aD],hk,_ | [.h7 _],hk,_ | [.ptr _],hk,_ | [.dg _ _ _],hk,_ | [.jD],hk,_ | [.kq],hk,_ | [.opt _ _],hk,_ | [.may _ _ _],hk,_ | [.q0 _],hk,_ | [.fn _ _ _],hk,_ | [.oE _],hk,_=>simp [jF] at hk
 | [.aU (.int _ _)],hk,_ | [.aU (.bool _)],hk,_ | [.aU (.str _)],hk,_ | [.aU (.nil _)],hk,_ | [.aU (.bW _ _ _ _)],hk,_=>simp [jF] at hk
end
end Go.LM
namespace Go.LM
theorem Row.A'{α : Type}{w:World}{R : α → List Value→ah→Prop}{size:Nat} : ∀ {x:List α} {b o:Nat} {F:ah} (i:Nat) (hi:i<x.length),Row w R size x b o F →
  ∃G1 iI G2 vs,Row w R size (x.take i) b o G1∧R x[i] vs iI∧vs.length=size∧b4 w b (o+i*size) vs∧Row w R size (x.drop (i+1)) b (o +(i+1)*size) G2 ∧
   ah.apart G1 iI∧ah.apart G1 G2∧ah.apart iI G2∧ah.sub G1 F∧ah.sub iI F∧ah.sub G2 F
 | y :: x,b,o,F,0,_,⟨vs,G,H,h1,h2,h3,h4,a7,bj,bE⟩ =>
  ⟨ah.none,G,H,vs,trivial,h1,h2,by simpa using h3,by simpa using h4,fun _ _ h=>h.elim,fun _ _ h=>h.elim,a7,fun _ _ h=>h.elim,bj,bE⟩
 | y :: x,b,o,F,i+1,hi,⟨vs,G,H,h1,h2,h3,h4,a7,bj,bE⟩=>by
  obtain ⟨G1,iI,G2,us,k1,k2,k3,bh,bu,dd,dj,ef,fX,fi,cR⟩:=Row.A' i (by simpa using hi) h4
  refine⟨G.or G1,iI,G2,us,⟨vs,G,G1,h1,h2,h3,k1,fun b o h k=>a7 b o h (fX b o k),fun _ _ h=>.inl h,fun _ _ h=>.inr h⟩,k2,k3,?_,?_,?_,?_,ef,?_,fun b o h=>bE b o (fi b o h),fun b o h=>bE b o (cR b o h)⟩
  ·rwa [show o +(i+1)*size=o+size+i*size by rw [Nat.add_one_mul];omega]
  ·have e:o +(i+1+1)*size=o+size +(i+1)*size:=by rw [Nat.add_one_mul (i+1)];omega
   rw [e];exact bu
  ·rintro b o (h | h) k
   ·exact a7 b o h (fi b o k)
   ·exact dd b o h k
  ·rintro b o (h | h) k
   ·exact a7 b o h (cR b o k)
   ·exact dj b o h k
  ·rintro b o (h | h)
   ·exact bj b o h
   ·exact bE b o (fX b o h)
theorem Row.Ba{α : Type}{w:World}{R : α → List Value→ah→Prop}{size:Nat}{y : α}{vs:List Value}{iI:ah} : ∀ {x:List α} {b o:Nat} {G1 G2:ah} (i:Nat),i<x.length→Row w R size (x.take i) b o G1→R y vs iI→vs.length=size →
  b4 w b (o+i*size) vs→Row w R size (x.drop (i+1)) b (o +(i+1)*size) G2→ah.apart G1 iI→ah.apart G1 G2→ah.apart iI G2→Row w R size (x.set i y) b o (G1.or (iI.or G2))
 | [],_,_,_,_,_,hi,_,_,_,_,_,_,_,_=>by simp at hi
 | z :: x,b,o,G1,G2,0,_,_,h2,h3,h4,a7,_,_,c3 =>
  ⟨vs,iI,G2,h2,h3,by simpa using h4,by simpa using a7,c3,fun _ _ h=>.inr (.inl h),fun _ _ h=>.inr (.inr h)⟩
 | z :: x,b,o,G1,G2,i+1,hi,⟨ws,A,B,a1,a2,a3,a4,a5,HN,HO⟩,h2,h3,h4,a7,bj,bE,c3=>by
  have e1:o +(i+1)*size=o+size+i*size:=by rw [Nat.add_one_mul];omega
  have e2:o +(i+1+1)*size=o+size +(i+1)*size:=by rw [Nat.add_one_mul (i+1)];omega
  have:=Row.Ba i (by simpa using hi) a4 h2 h3 (by rwa [← e1]) (by rw [← e2];exact a7) (fun b o x y=>bj b o (HO b o x) y) (fun b o x y=>bE b o (HO b o x) y) c3
  refine⟨ws,A,_,a1,a2,a3,this,?_,fun b o h=>.inl (HN b o h),?_⟩
  ·rintro b o x (y | y | y)
   ·exact a5 b o x y
   ·exact bj b o (HN b o x) y
   ·exact bE b o (HN b o x) y
  ·rintro b o (y | y | y)
   ·exact .inl (HO b o y)
   ·exact .inr (.inl y)
   ·exact .inr (.inr y)
mutual
theorem ae.vG:∀(T:ae) {off:Nat} {t:ae} {x:T.D} {z:List t.D},T.flat=true→T.getAt off t x=some z→False
 | .int _,_,_,_,_,_,h=>by simp [ae.getAt] at h
 | .bool,_,_,_,_,_,h=>by simp [ae.getAt] at h
 | .str,_,_,_,_,_,h=>by simp [ae.getAt] at h
 | .raw,_,_,_,_,_,h=>by simp [ae.getAt] at h
 | .sl t,_,_,_,_,hf,_=>by simp [ae.flat] at hf
 | .st aj,_,_,_,_,hf,h=>ay.vG aj (by simpa only [ae.flat] using hf) (by simpa only [ae.getAt] using h)
theorem ay.vG:∀(aj:ay) {off:Nat} {t:ae} {x:aj.D} {z:List t.D},aj.flat=true→aj.getAt off t x=some z→False
 | .nil,_,_,_,_,_,h=>by simp [ay.getAt] at h
 | .cons T aj,off,t,x,z,hf,h=>by
  simp only [ay.flat] at hf
  cases h1:T.flat
  ·rw [h1] at hf;cases hf
  rw [h1] at hf
  simp only [ay.getAt] at h
  cases hb:Nat.blt off T.size
  ·rw [hb] at h;exact ay.vG aj hf h
  ·rw [hb] at h;exact ae.vG T h1 h
end
section
variable{w b7:World}{Z bK:ah}
theorem p6(t:ae){x:t.D}{vs:List Value}{F:ah}(hF:b5 w b7 F)(h:t.al w Z t.own x vs F):t.al b7 bK t.own x vs F :=
 sQ t (ae.al.same (Z:=ah.none) (fun _ _ h=>h.elim) t t.own hF (sQ t h))
theorem Pn(t:ay){x:t.D}{vs:List Value}{F:ah}(hF:b5 w b7 F)(h:t.al w Z t.own x vs F):t.al b7 bK t.own x vs F :=
 AP t (ay.al.same (Z:=ah.none) (fun _ _ h=>h.elim) t t.own hF (AP t h))
def Po(w:World)(Z:ah)(t:ae)(z:List t.D)(v:Value)(H1 G1:ah)(R:World→ah→List t.D→ah→Prop):Prop :=
 (ae.sl t).al w Z (.O t.own) z [v] H1∧ah.apart H1 G1∧∀(b7:World) (bK X:ah) (y:List t.D),b5 w b7 G1→(ae.sl t).al b7 bK (.O t.own) y [v] X→ah.apart X G1→R b7 bK y (X.or G1)
mutual
theorem ae.lens:∀(T:ae) (off:Nat) (t:ae) {x:T.D} {z:List t.D} {us:List Value} {G:ah},T.al w Z T.own x us G→T.getAt off t x=some z →
  ∃v H1 G1,us[off]?=some v∧ah.sub H1 G∧ah.sub G1 G∧Po w Z t z v H1 G1 (fun b7 bK y eG=>∀bz,T.setAt off t y x=some bz→T.al b7 bK T.own bz us eG)
 | .int _,_,_,_,_,_,_,_,h=>by simp [ae.getAt] at h
 | .bool,_,_,_,_,_,_,_,h=>by simp [ae.getAt] at h
 | .str,_,_,_,_,_,_,_,h=>by simp [ae.getAt] at h
 | .raw,_,_,_,_,_,_,_,h=>by simp [ae.getAt] at h
 | .sl u,off,t,x,z,us,G,hr,h=>by
  simp only [ae.getAt] at h
  cases hb:Nat.beq off 0
  ·rw [hb] at h;cases h
  rw [hb] at h
  obtain rfl:=Nat.eq_of_beq_eq_true hb
  obtain ⟨e,rfl⟩:=gH h
  subst e
  have ib:=hr
  simp only [ae.own,ae.al] at hr
  obtain ⟨A,c,rfl,_⟩:=hr
  refine⟨_,G,ah.none,rfl,fun _ _ h=>h,fun _ _ h=>h.elim,ib,fun _ _ _ h=>h.elim,fun b7 bK X y _ h2 _ bz hs=>?_⟩
  simp only [ae.setAt] at hs
  obtain ⟨e,rfl⟩:=gH (show eB (.sl u) (.sl u) y=some bz from hs)
  exact ae.al.mono (fun _ _ h=>h) _ _ (fun _ _ h=>.inl h) h2
 | .st aj,off,t,x,z,us,G,hr,h=>by
  have hM:aj.flat=false:=by
   cases hf:aj.flat
   ·rfl
   ·exact(ae.vG (.st aj) (by simpa only [ae.flat] using hf) h).elim
  simp only [ae.own,hM,Bool.false_eq_true,if_false,ae.al,ba.parts] at hr
  simp only [ae.getAt] at h
  obtain ⟨v,H1,G1,h1,h2,h3,h4,a7,bj⟩:=ay.lens aj off t hr h
  refine⟨v,H1,G1,h1,h2,h3,h4,a7,fun b7 bK X y k1 k2 k3 bz hs=>?_⟩
  simp only [ae.setAt] at hs
  simp only [ae.own,hM,Bool.false_eq_true,if_false,ae.al,ba.parts]
  exact bj b7 bK X y k1 k2 k3 bz hs
theorem ay.lens:∀(aj:ay) (off:Nat) (t:ae) {x:aj.D} {z:List t.D} {us:List Value} {G:ah},aj.al w Z aj.own x us G→aj.getAt off t x=some z →
  ∃v H1 G1,us[off]?=some v∧ah.sub H1 G∧ah.sub G1 G∧Po w Z t z v H1 G1 (fun b7 bK y eG=>∀bz,aj.setAt off t y x=some bz→aj.al b7 bK aj.own bz us eG)
 | .nil,_,_,_,_,_,_,_,h=>by simp [ay.getAt] at h
 | .cons T aj,off,t,x,z,us,G,hr,h=>by
  simp only [ay.own,ay.al,cS.ag,cS.dt] at hr
  obtain ⟨kZ,hO,mU,mV,rfl,bB,cc,hap,ha,hb⟩:=hr
  have hl:=(ae.al.len T _ bB).1
  simp only [ay.getAt] at h
  cases cz:Nat.blt off T.size
  ·rw [cz] at h
   have HP:T.size≤off:=by
    rcases Nat.lt_or_ge off T.size with h1 | h1
    ·have:Nat.blt off T.size=true:=Nat.ble_eq_true_of_le h1
     rw [this] at cz;cases cz
    ·exact h1
   obtain ⟨v,H1,G1,h1,h2,h3,h4,a7,bj⟩:=ay.lens aj (off-T.size) t cc h
   refine⟨v,H1,mU.or G1,?_,fun b o x=>hb b o (h2 b o x),?_,h4,?_,fun b7 bK X y k1 k2 k3 bz hs=>?_⟩
   ·rw [List.getElem?_append_right (by omega),hl];exact h1
   ·rintro b o (y | y)
    ·exact ha b o y
    ·exact hb b o (h3 b o y)
   ·rintro b o y (q | q)
    ·exact hap b o q (h2 b o y)
    ·exact a7 b o y q
   ·simp only [ay.setAt,cz,cond_false] at hs
    obtain ⟨js,hz,hs⟩:=bf hs
    obtain rfl:=aV hs
    simp only [ay.own,ay.al,cS.ag,cS.dt]
    refine⟨kZ,hO,mU,X.or G1,rfl,p6 T (k1.mono fun _ _ h=>.inl h) bB,bj b7 bK X y (k1.mono fun _ _ h=>.inr h) k2 (fun b o p q=>k3 b o p (.inr q)) js hz,?_,fun _ _ h=>.inr (.inl h),?_⟩
    ·rintro b o p (q | q)
     ·exact k3 b o q (.inl p)
     ·exact hap b o p (h3 b o q)
    ·rintro b o (q | q)
     ·exact .inl q
     ·exact .inr (.inr q)
  ·rw [cz] at h
   have HP:off<T.size:=Nat.le_of_ble_eq_true cz
   obtain ⟨v,H1,G1,h1,h2,h3,h4,a7,bj⟩:=ae.lens T off t bB h
   refine⟨v,H1,G1.or mV,?_,fun b o x=>ha b o (h2 b o x),?_,h4,?_,fun b7 bK X y k1 k2 k3 bz hs=>?_⟩
   ·rw [List.getElem?_append_left (by omega)];exact h1
   ·rintro b o (y | y)
    ·exact ha b o (h3 b o y)
    ·exact hb b o y
   ·rintro b o y (q | q)
    ·exact a7 b o y q
    ·exact hap b o (h2 b o y) q
   ·simp only [ay.setAt,cz,cond_true] at hs
    obtain ⟨js,hz,hs⟩:=bf hs
    obtain rfl:=aV hs
    simp only [ay.own,ay.al,cS.ag,cS.dt]
    refine⟨kZ,hO,X.or G1,mV,rfl,bj b7 bK X y (k1.mono fun _ _ h=>.inl h) k2 (fun b o p q=>k3 b o p (.inl q)) js hz,Pn aj (k1.mono fun _ _ h=>.inr h) cc,?_,?_,fun _ _ h=>.inr (.inr h)⟩
    ·rintro b o (p | p) q
     ·exact k3 b o p (.inr q)
     ·exact hap b o (h3 b o p) q
    ·rintro b o (q | q)
     ·exact .inl q
     ·exact .inr (.inl q)
end
theorem mD.lens{T:ae}{ys:List T.D}{a:Addr}{c:Nat}{F:ah}{i off:Nat}{t:ae}{z:List t.D}(h:mD w (T.al w Z T.own) T.size ys a c F)(hi:i<ys.length)(aA:T.getAt off t (J T ys i)=some z) :
  ∃v H1,w.cell? (at_ a.block (a.off+i*T.size+off))=some v∧(ae.sl t).al w Z (.O t.own) z [v] H1∧ah.sub H1 F ∧
   ∀(b7:World) (bK X:ah) (y:List t.D) (bz:T.D),b5 w b7 (ah.diff F H1)→(ae.sl t).al b7 bK (.O t.own) y [v] X→ah.apart X (ah.diff F H1)→T.setAt off t y (J T ys i)=some bz →
    mD b7 (T.al b7 bK T.own) T.size (ys.set i bz) a c (X.or (ah.diff F H1)):=by
 rw [c7 hi] at aA ⊢
 obtain ⟨G,g1,g2,g3⟩:=h.row
 obtain ⟨mU,iI,mV,vs,bB,HQ,hvl,cl,cc,a1,a2,a3,s1,s2,s3⟩:=g1.A' i hi
 obtain ⟨v,H1,G1,hv,k1,k2,k3,bh,bu⟩:=ae.lens T off t HQ aA
 have xV:ah.sub H1 G:=fun b o x=>s2 b o (k1 b o x)
 have hle:ys.length*T.size≤c*T.size:=Nat.mul_le_mul_right _ h.cap
 have gu:(i+1)*T.size≤ys.length*T.size:=Nat.mul_le_mul_right _ hi
 rw [Nat.add_one_mul] at gu
 refine⟨v,H1,?_,k3,fun b o x=>g3 b o (xV b o x),fun b7 bK X y bz hs hr hap HR=>?_⟩
 ·have:=cl off v hv
  exact this
 have s6:∀ {A:ah},ah.sub A G→ah.apart A H1→ah.sub A (ah.diff F H1):=fun hA au b o x=>⟨g3 b o (hA b o x),fun y=>au b o x y⟩
 have s7:ah.sub mU (ah.diff F H1):=s6 s1 fun b o x y=>a1 b o x (k1 b o y)
 have s8:ah.sub mV (ah.diff F H1):=s6 s3 fun b o x y=>a3 b o (k1 b o y) x
 have d1:ah.sub G1 (ah.diff F H1):=s6 (fun b o x=>s2 b o (k2 b o x)) fun b o x y=>bh b o y x
 have oR:∀j,j<c*T.size→ah.diff F H1 a.block (a.off+j):=fun j hj=>⟨h.inF j hj,fun y=>g2 j hj (xV _ _ y)⟩
 have hcell:∀j,j<c*T.size→b7.cell? (at_ a.block (a.off+j))=w.cell? (at_ a.block (a.off+j)):=fun j hj=>(hs _ _ (oR j hj)).1
 have fa:=bu b7 bK X y (hs.mono d1) hr (fun b o p q=>hap b o p (d1 b o q)) bz HR
 refine⟨h.spot,by simpa using h.cap,fun j hj=>hs.j5 (oR j hj) (h.wr j hj),fun j hj=>.inr (oR j hj),mU.or ((X.or G1).or mV),?_,?_,?_⟩
 ·refine Row.Ba i hi (bB.imp (fun y us dh hG hr=>p6 T (hs.mono fun b o p=>s7 b o (hG b o p)) hr) fun j hj=>hcell j ?_) fa hvl (cl.of_eq fun j hj=>?_) (cc.imp (fun y us dh hG hr=>p6 T (hs.mono fun b o p=>s8 b o (hG b o p)) hr) fun j hj=>?_) ?_ a2 ?_
  ·simp only [List.length_take] at hj
   have:min i ys.length*T.size≤ys.length*T.size:=Nat.mul_le_mul_right _ (Nat.min_le_right _ _)
   omega
  ·have:=hcell (i*T.size+j) (by omega)
   rwa [← Nat.add_assoc] at this
  ·simp only [List.length_drop] at hj
   have e1:(ys.length-(i+1))*T.size=ys.length*T.size-(i*T.size+T.size):=by rw [Nat.sub_mul,Nat.add_one_mul]
   rw [e1] at hj
   have:=hcell ((i+1)*T.size+j) (by rw [Nat.add_one_mul];omega)
   rwa [← Nat.add_assoc] at this
  ·rintro b o p (q | q)
   ·exact hap b o q (s7 b o p)
   ·exact a1 b o p (k2 b o q)
  ·rintro b o (p | p) q
   ·exact hap b o p (s8 b o q)
   ·exact a3 b o (k2 b o p) q
 ·rintro j hj (p | (p | p) | p)
  ·exact g2 j hj (s1 _ _ p)
  ·exact hap _ _ p (oR j hj)
  ·exact g2 j hj (s2 _ _ (k2 _ _ p))
  ·exact g2 j hj (s3 _ _ p)
 ·rintro b o (p | (p | p) | p)
  ·exact .inr (s7 b o p)
  ·exact .inl p
  ·exact .inr (d1 b o p)
  ·exact .inr (s8 b o p)
end
end Go.LM
