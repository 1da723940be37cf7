/- Each operation of the model is what the interpreter says. Conditions: each theorem's own hypotheses. -/
import Derived.Test.YtklmgcjamifmaaaGreatDoorVLma
import Derived.Laws.BytesString
import Derived.Laws.Tables
import Derived.Laws.Append
set_option linter.unusedVariables false
set_option linter.unusedSimpArgs false
namespace Go.LM
section
variable{P:Program}{Q:Exit→Act→World→Prop}
variable{w0:World}{F0 Z0:ah}{n:cC}{s aq:an}{a b6:Act}{w w':World}{ι ba:Nat→bD}{Z Z':ah}
def cT(w0:World)(F0 Z0:ah)(n:cC)(s:an)(a:Act)(w:World):Prop:=∃ ι Z,Inv w0 F0 Z0 n s a w ι Z
theorem Xp(v:Value):aO w Z s ι (Gt v) v:=by
 unfold Gt
 split <;> simp only [aO,cf]
 exact⟨_,rfl,rfl⟩
theorem eR(h:Inv w0 F0 Z0 n s a w ι Z)(x:Operand):aO w Z s ι (bS s x) (a.eval x):=by
 cases x with
 | tmp t=>exact h.tmps t
 | const v=>exact Xp v
 | func f=>simp only [bS,Act.eval,aO];exact⟨[],[],rfl,by simp only [aX],by simp only [aX]⟩
 | global g=>simp only [bS,aO]
theorem Ha{E:Env}{t:Nat}{x y:a6}{v:Value}(h:typed E t x=some y)(hv:aO w Z s ι x v):aO w Z s ι y v:=by
 cases x <;> simp only [typed] at h <;> try (obtain rfl:=aU h;exact hv)
 ·simp at h
 ·simp at h
 ·cases ht:E.ty t with
  | none=>rw [ht] at h;simp at h
  | some T =>
   rw [ht] at h
   cases T <;> simp at h
   subst h
   simp only [aO] at hv ⊢
   exact hv
theorem fF{α : Type}{nG:Sem α}{f : α → Next}{v : α}(h:nG.run P w=.ok v w'):(do pure (f (← nG)):Sem Next).run P w=.ok (f v) w':=by
 rw [run_bind,h];rfl
theorem lM{o:Oper}{v:Value}{x:a6}{s1:an}(hr:(execOp a.eval o).run P w=.ok (.value v) w')(h:Inv w0 F0 Z0 n s1 a w' ι Z)(hv:aO w' Z s1 ι x v)
  (ag:∀k,o.dst=some k→k<n):o.wp P a w (fun b6 w'=>cT w0 F0 Z0 n (s1.dst o.dst x) b6 w') Q:=by
 unfold Oper.wp
 rw [hr,Oper.upon_value]
 exact⟨ι,Z,h.dst hv ag⟩
theorem wp_skip{o:Oper}{s1:an}(hr:(execOp a.eval o).run P w=.ok .skip w')(h:Inv w0 F0 Z0 n s1 a w' ι Z)
  (ag:∀k,o.dst=some k→k<n):o.wp P a w (fun b6 w'=>cT w0 F0 Z0 n (s1.dst o.dst .aC) b6 w') Q:=by
 unfold Oper.wp
 rw [hr,Oper.upon_skip]
 exact⟨ι,Z,h.dst (by simp only [aO]) ag⟩
def Pure(P:Program)(o:Oper)(a:Act)(w:World)(R:Act→World→Prop):Prop:=∃v,(∀w',(execOp a.eval o).run P w'=.ok (.value v) w')∧R (a.put o.dst v) w
theorem Pure.wp{o:Oper}{R:Act→World→Prop}(h:Pure P o a w R):o.wp P a w R Q:=by
 obtain ⟨v,h1,h2⟩:=h
 unfold Oper.wp
 rw [h1 w,Oper.upon_value]
 exact h2
theorem dv{o:Oper}{v:Value}{x:a6}{s1:an}(hr:∀w',(execOp a.eval o).run P w'=.ok (.value v) w')(h:Inv w0 F0 Z0 n s1 a w ι Z)(hv:aO w Z s1 ι x v)
  (ag:∀k,o.dst=some k→k<n):Pure P o a w (cT w0 F0 Z0 n (s1.dst o.dst x)) :=
 ⟨v,hr,ι,Z,h.dst hv ag⟩
structure gE(P:Program)(E:Env):Prop where
 ty:∀id T,E.ty id=some T→T.ok P id
 ptr:∀id,E.sB id=true→∃e,P.underlying id=some (.pointer e)
variable{E:Env}{o:Oper}{br : Type}{K:an→Option br}{r : br}{id:Nat}
theorem AD{x:Operand}(h:Inv w0 F0 Z0 n s a w ι Z)(ag:∀k,o.dst=some k→k<n)(ho:o.op=.move x∨o.op=.assign x)(hk:cP E id o s K=some r) :
  ∃aq,K aq=some r∧Pure P o a w (cT w0 F0 Z0 n aq):=by
 have ed:(match typed E o.type (bS s x) with | some v=>K (s.dst o.dst v) | none=>none)=some r:=by
  rcases ho with ho | ho <;>(unfold cP at hk;rw [ho] at hk;exact hk)
 cases ht:typed E o.type (bS s x) with
 | none=>rw [ht] at ed;simp at ed
 | some v =>
  rw [ht] at ed
  refine⟨_,ed,dv (v:=a.eval x) (fun w'=>?_) h (Ha ht (eR h x)) ag⟩
  rcases ho with ho | ho <;>(unfold execOp;rw [ho];rfl)
theorem N4{c x y:Operand}(h:Inv w0 F0 Z0 n s a w ι Z)(ag:∀k,o.dst=some k→k<n)(ho:o.op=.pick c x y)(hk:cP E id o s K=some r) :
  ∃aq,K aq=some r∧Pure P o a w (cT w0 F0 Z0 n aq):=by
 unfold cP at hk
 rw [ho] at hk
 simp only at hk
 have hc:=eR h c
 have hx:=eR h x
 have aM:=eR h y
 have hrun:∀t,a.eval c=.bool t→∀w',(execOp a.eval o).run P w'=.ok (.value (if t then a.eval x else a.eval y)) w':=by
  intro t ht w'
  unfold execOp;rw [ho]
  simp only [run_bind,asBool,ht,run_pure]
 cases hcv:bS s c with
 | aS jG =>
  rw [hcv] at hk hc
  cases jG with
  | bool t =>
   simp only [aO,cf] at hc
   have hr:=hrun t hc
   cases t with
   | true =>
    cases cH:typed E o.type (bS s x) with
    | none=>rw [cH] at hk;cases gd:typed E o.type (bS s y) <;> rw [gd] at hk <;> simp at hk
    | some v =>
     rw [cH] at hk
     have:K (s.dst o.dst v)=some r:=by cases gd:typed E o.type (bS s y) <;> rw [gd] at hk <;> exact hk
     exact⟨_,this,dv hr h (Ha cH hx) ag⟩
   | false =>
    cases gd:typed E o.type (bS s y) with
    | none=>rw [gd] at hk;cases cH:typed E o.type (bS s x) <;> rw [cH] at hk <;> simp at hk
    | some v =>
     rw [gd] at hk
     have:K (s.dst o.dst v)=some r:=by cases cH:typed E o.type (bS s x) <;> rw [cH] at hk <;> exact hk
     exact⟨_,this,dv hr h (Ha gd aM) ag⟩
  | _=>simp at hk
 | _=>rw [hcv] at hk;simp at hk
theorem pR{i:Nat}{ep:cj}(h:mkObj s i ep=some aq):s.o i=.none∧aq=s.bO i ep:=by
 unfold mkObj at h
 cases ho:s.o i <;> rw [ho] at h <;> simp at h
 exact⟨rfl,h.symm⟩
theorem Xq{t:Nat}(bW:gE P E)(h:Inv w0 F0 Z0 n s a w ι Z)(ag:∀k,o.dst=some k→k<n)(ho:o.op=.alloc t)(hk:cP E id o s K=some r) :
  ∃aq,K aq=some r∧o.wp P a w (cT w0 F0 Z0 n aq) Q:=by
 unfold cP at hk
 rw [ho] at hk
 simp only at hk
 cases ht:E.ty t with
 | none=>rw [ht] at hk;simp at hk
 | some T =>
  rw [ht] at hk
  simp only at hk
  cases hm:mkObj s id (.var 0 T.iQ) with
  | none=>rw [hm] at hk;simp at hk
  | some s1 =>
   rw [hm] at hk
   obtain ⟨b5,rfl⟩:=pR hm
   have b9:=bW.ty t T ht
   have hz:bH w Z s ι T.iQ (dB T T.cL).cells.toList:=by
    rw [G' (ad.k7 T) ((q9 (w:=w) (Z:=Z) (s:=s) (ι := ι) T).dY)]
    exact q9 T
   have hn:=h.newVar b5 hz t
   refine⟨_,hk,lM (v:=.pointer (some (at_ w.heap.size 0))) (w' := { w with heap:=w.heap.push (.cells (dB T T.cL).cells t) }) ?_ hn ?_ ag⟩
   ·unfold execOp;rw [ho]
    refine fF ?_
    simp only [Instr.alloc,run_bind,AB b9,N3,run_pure]
   ·simp only [aO]
    refine⟨by show bQ s.o id _ id≠_;rw [ct];simp,_,rfl,rfl,?_⟩
    show match (bQ s.o id _ id).core with | .var _ _=>_ | .row .. => _ | _=>_
    rw [ct]
    exact⟨rfl,_,by rw [ct],by simp [at_]⟩
theorem Xr{t:Nat}{x:Operand}(bW:gE P E)(h:Inv w0 F0 Z0 n s a w ι Z)(ag:∀k,o.dst=some k→k<n)(ho:o.op=.box t x)(hk:cP E id o s K=some r) :
  ∃aq,K aq=some r∧o.wp P a w (cT w0 F0 Z0 n aq) Q:=by
 unfold cP at hk
 rw [ho] at hk
 simp only at hk
 cases ht:E.ty t with
 | none=>rw [ht] at hk;simp at hk
 | some T =>
  rw [ht] at hk
  simp only at hk
  cases hc:im T (bS s x) with
  | none=>rw [hc] at hk;simp at hk
  | some cs =>
   rw [hc] at hk
   simp only at hk
   cases hb:Nat.beq cs.length T.size
   ·rw [hb] at hk;simp at hk
   rw [hb] at hk
   simp only [cond_true] at hk
   cases hm:mkObj s id (.var 0 cs) with
   | none=>rw [hm] at hk;simp at hk
   | some s1 =>
    rw [hm] at hk
    obtain ⟨b5,rfl⟩:=pR hm
    have hn:=h.newVar b5 (q8 hc (eR h x)) t
    refine⟨_,hk,lM (v:=.pointer (some (at_ w.heap.size 0))) (w' := { w with heap:=w.heap.push (.cells (a.eval x).cells t) }) ?_ hn ?_ ag⟩
    ·unfold execOp;rw [ho]
     refine fF ?_
     simp only [Instr.box,run_bind,N3,run_pure]
    ·simp only [aO]
     refine⟨by show bQ s.o id _ id≠_;rw [ct];simp,_,rfl,rfl,?_⟩
     show match (bQ s.o id _ id).core with | .var _ _=>_ | .row .. => _ | _=>_
     rw [ct]
     exact⟨rfl,_,by rw [ct],by simp [at_]⟩
theorem Xs{t:Nat}{x:Operand}(bW:gE P E)(h:Inv w0 F0 Z0 n s a w ι Z)(ag:∀k,o.dst=some k→k<n)(ho:o.op=.load t x)(hk:cP E id o s K=some r) :
  ∃aq,K aq=some r∧o.wp P a w (cT w0 F0 Z0 n aq) Q:=by
 unfold cP at hk
 rw [ho] at hk
 simp only at hk
 have hx:=eR h x
 have hrun:∀ {T:ad} {b i:Nat} {vs:List Value},E.ty t=some T→a.eval x=.pointer (some (at_ b i))→b2 w b i vs→vs.length=T.size →
   (execOp a.eval o).run P w=.ok (.value (dB T vs)) w:=by
  intro T b i vs ht he hc hl
  unfold execOp;rw [ho]
  refine fF ?_
  simp only [Instr.loadAt,Instr.sureAddr,he,run_bind,run_pure,G8 (bW.ty t T ht) hc hl]
 cases ht:E.ty t with
 | none=>rw [ht] at hk;simp at hk
 | some T =>
  rw [ht] at hk
  cases cH:bS s x with
  | ptr p =>
   rw [cH] at hk hx
   simp only at hk
   cases c2:(lG s T.size p).bind (jD T) with
   | none=>rw [c2] at hk;simp at hk
   | some v =>
    rw [c2] at hk
    obtain ⟨cs,h1,h2⟩:=bb c2
    simp only [aO] at hx
    obtain ⟨_,A,he,au⟩:=hx
    obtain ⟨b,i,vs,rfl,hc,cl,hl⟩:=xy h h1 au
    exact⟨_,hk,lM (hrun ht he cl hl) h (oH h2 hc) ag⟩
  | dd dp cs off =>
   rw [cH] at hk hx
   simp only at hk
   cases c2:(takeN off T.size cs).bind (jD T) with
   | none=>rw [c2] at hk;simp at hk
   | some v =>
    rw [c2] at hk
    simp only at hk
    cases dP:alive s dp
    ·rw [dP] at hk;simp at hk
    rw [dP] at hk
    obtain ⟨ds,h1,h2⟩:=bb c2
    obtain ⟨h3,rfl⟩:=oE h1
    simp only [aO] at hx
    obtain ⟨_,b,i,vs,he,hx⟩:=hx
    obtain ⟨hc,cl,_⟩:=hx dP
    have hl:=hc.len
    exact⟨_,hk,lM (hrun ht he (cl.part off T.size) (by simp;omega)) h (oH h2 ((hc.drop _).take _)) ag⟩
  | _=>rw [cH] at hk;simp at hk
theorem Inv.Xt(h:Inv w0 F0 Z0 n s a w ι Z){id:Nat}(b8:(s.o id).live)(hx:Ext w w' (ι id).F):Inv w0 F0 Z0 n (s.bO id .dead) a w' ι Z:=by
 have hm:eB w Z s ι w' Z (s.bO id .dead) ι := by
  refine⟨fun j=>?_,fun _ _ h=>h,b4.iy hx h.q5 ?_⟩
  ·show ix (s.o j) (ι j) (bQ s.o id .dead j) (ι j)
   by_cases hj:id=j
   ·subst hj;rw [ct];exact .dead _ _ _
   ·rw [cO hj];exact .stay _ _
  ·rintro b o (hz | ⟨dV,fS,pM,_,hf⟩) h9
   ·exact h.cY id b8 b o h9 hz
   ·have hne:dV≠id:=by
     rintro rfl
     have:bQ s.o dV .dead dV=s.o dV:=pM
     rw [ct] at this
     rw [← this] at b8
     exact b8
    exact h.apart dV id fS b8 hne b o hf h9
 have q7:∀ {j},((s.bO id .dead).o j).live→id≠j∧(s.o j).live:=fun {j} hl=>by
  have hl:(bQ s.o id .dead j).live:=hl
  by_cases hj:id=j
  ·subst hj;rw [ct] at hl;exact hl.elim
  ·rw [cO hj] at hl;exact⟨hj,hl⟩
 refine h.next hm hx (fun b o hf=>(h.own id b8 b o hf).1) (fun _ _ h=>.inl h) ?_ ?_ (fun k=>(h.tmps k).move hm) h.size h.defers
 ·intro j hl hne
  exact absurd ⟨cO (q7 hl).1,rfl⟩ hne
 ·intro j hl
  exact h.cY j (q7 hl).2
theorem Xu{t:Nat}{x y:Operand}(bW:gE P E)(h:Inv w0 F0 Z0 n s a w ι Z)(ag:∀k,o.dst=some k→k<n)(ho:o.op=.store t x y)(hk:cP E id o s K=some r) :
  ∃aq,K aq=some r∧o.wp P a w (cT w0 F0 Z0 n aq) Q:=by
 unfold cP at hk
 rw [ho] at hk
 simp only at hk
 have hx:=eR h x
 have aM:=eR h y
 cases ht:E.ty t with
 | none=>rw [ht] at hk;simp at hk
 | some T =>
  rw [ht] at hk
  cases cH:bS s x with
  | ptr p =>
   rw [cH] at hk hx
   simp only at hk
   cases hc:im T (bS s y) with
   | none =>
    rw [hc] at hk
    simp only at hk
    cases gd:bS s y <;> rw [gd] at hk <;> try (simp at hk;done)
    rename_i u
    cases bU:s.o p.id <;> rw [bU] at hk <;> try (simp at hk;done)
    rename_i ver old
    cases eS:p.fa with
    | some i=>rw [eS] at hk;simp at hk
    | none =>
     rw [eS] at hk
     simp only at hk
     cases hb:(ad.beq u T&&Nat.beq p.off 0&&Nat.ble T.size old.length)
     ·rw [hb] at hk;simp at hk
     rw [hb] at hk
     simp only [cond_true] at hk
     simp only [Bool.and_eq_true] at hb
     obtain ⟨⟨hb1,hb2⟩,hb3⟩:=hb
     have:=ad.eq_of_beq _ _ hb1
     subst this
     have hb2:=Nat.eq_of_beq_eq_true hb2
     have hb3:=Nat.le_of_ble_eq_true hb3
     rw [gd] at aM
     simp only [aO] at hx aM
     obtain ⟨_,A,he,au⟩:=hx
     obtain ⟨sN,hw1⟩:=aM
     have b8:(s.o p.id).live:=by rw [bU];trivial
     have cW:=h.fA p.id
     rw [bU] at cW
     obtain ⟨a0,us,dj,hsp,hcu,cl,hwr⟩:=cW
     obtain ⟨hs,au⟩:=au
     rw [bU] at au
     obtain ⟨_,a1,N5,hA⟩:=au
     rw [dj] at N5
     obtain rfl:=aU N5
     rw [hb2] at hA
     subst hA
     have hx2:Ext w (setCells w a0.block (a0.off+0) (a.eval y).cells.toList) (ι p.id).F:=ny _ _ _ _ fun i hi=>by
      have:=(hwr i (by rw [sN] at hi;omega)).2;simpa using this
     refine⟨_,hk,wp_skip (w':=setCells w a0.block (a0.off+0) (a.eval y).cells.toList) ?_ (h.Xt b8 hx2) ag⟩
     unfold execOp;rw [ho]
     have:=G_ (P:=P) (w:=w) (bW.ty t _ ht) (b:=a0.block) (o:=a0.off+0) (v:=a.eval y) (by rw [← Array.length_toList,sN]) hw1 (fun j hj=>by
      have:=(hwr j (by rw [← Array.length_toList,sN] at hj;omega)).1;simpa using this)
     simp only [Instr.storeAt,Instr.sureAddr,he,run_bind,run_pure,this]
   | some cs =>
    rw [hc] at hk
    simp only at hk
    cases hb:Nat.beq cs.length T.size
    ·rw [hb] at hk;simp at hk
    rw [hb] at hk
    simp only [cond_true] at hk
    cases lN:Ar s p cs with
    | none=>rw [lN] at hk;simp at hk
    | some s1 =>
     rw [lN] at hk
     have hb:=Nat.eq_of_beq_eq_true hb
     have oI:=q8 hc aM
     simp only [aO] at hx
     obtain ⟨_,A,he,au⟩:=hx
     obtain ⟨b,i,rfl,hw,ba,Z',hi⟩:=Xj h lN au oI
     have hl:=oI.len
     refine⟨_,hk,wp_skip (w':=setCells w b i (a.eval y).cells.toList) ?_ hi ag⟩
     unfold execOp;rw [ho]
     have:=G_ (P:=P) (w:=w) (bW.ty t T ht) (b:=b) (o:=i) (v:=a.eval y) (by simp at hl;omega) oI.dY (fun j hj=>hw j (by simpa using hj))
     simp only [Instr.storeAt,Instr.sureAddr,he,run_bind,run_pure,this]
  | _=>rw [cH] at hk;simp at hk
end
end Go.LM
namespace Go.LM
section
variable{P:Program}{Q:Exit→Act→World→Prop}
variable{w0:World}{F0 Z0:ah}{n:cC}{s aq:an}{a b6:Act}{w w':World}{ι ba:Nat→bD}{Z Z':ah}
variable{E:Env}{o:Oper}{br : Type}{K:an→Option br}{r : br}{id:Nat}
theorem xz{m:Nat}{i:Int}{k:Nat}(h:aN m i=some k):0≤i∧i<(m:Int)∧k=i.toNat∧k<m:=by
 unfold aN at h
 split at h
 ·rename_i hc
  have:=aU h
  exact⟨hc.1,hc.2,this.symm,by omega⟩
 ·simp at h
theorem Xv{m:Nat}{lo hi:Int}{q:Nat×Nat}(h:dZ m lo hi=some q):0≤lo∧lo≤hi∧hi≤(m:Int)∧q=(lo.toNat,hi.toNat):=by
 unfold dZ at h
 split at h
 ·rename_i hc
  exact⟨hc.1,hc.2.1,hc.2.2,(aU h).symm⟩
 ·simp at h
theorem q_{x:a6}{i:Int}{v:Value}(h:j6 x=some i)(hv:aO w Z s ι x v):∃k,v=.int k i:=by
 cases x with
 | aS c =>
  cases c <;> simp [j6] at h
  subst h
  simp only [aO,cf] at hv
  exact⟨_,hv⟩
 | _=>simp [j6] at h
theorem N6{x:Operand}(h:Inv w0 F0 Z0 n s a w ι Z)(ag:∀k,o.dst=some k→k<n)(ho:o.op=.nilCheck x)(hk:cP E id o s K=some r) :
  ∃aq,K aq=some r∧Pure P o a w (cT w0 F0 Z0 n aq):=by
 unfold cP at hk
 rw [ho] at hk
 simp only at hk
 have hx:=eR h x
 cases cH:bS s x with
 | ptr p =>
  rw [cH] at hk hx
  refine⟨_,hk,dv (v:=a.eval x) (fun w'=>?_) h hx ag⟩
  simp only [aO] at hx
  obtain ⟨_,A,he,_⟩:=hx
  unfold execOp;rw [ho];simp only [he];rfl
 | dd dp cs off =>
  rw [cH] at hk hx
  refine⟨_,hk,dv (v:=a.eval x) (fun w'=>?_) h hx ag⟩
  simp only [aO] at hx
  obtain ⟨_,b,i,vs,he,_⟩:=hx
  unfold execOp;rw [ho];simp only [he];rfl
 | may b dp cs =>
  rw [cH] at hk hx
  cases b
  ·cases hk
  refine⟨_,hk,dv (v:=a.eval x) (fun w'=>?_) h ?_ ag⟩
  ·simp only [aO] at hx
   rcases hx with⟨hx,_⟩ | ⟨_,_,b,i,vs,he,_⟩
   ·cases hx
   unfold execOp;rw [ho];simp only [he];rfl
  ·simp only [aO] at hx ⊢
   rcases hx with⟨hx,_⟩ | ⟨_,hx⟩
   ·cases hx
   ·exact hx
 | fn f l m =>
  rw [cH] at hk hx
  refine⟨_,hk,dv (v:=a.eval x) (fun w'=>?_) h hx ag⟩
  simp only [aO] at hx
  obtain ⟨us,vs,he,_⟩:=hx
  unfold execOp;rw [ho];simp only [he];rfl
 | opt i q =>
  rw [cH] at hk hx
  simp only at hk
  obtain ⟨k,h1,hk⟩:=bb hk
  obtain ⟨h2,h3,rfl,h4⟩:=xz h1
  simp only [aO] at hx
  obtain ⟨jH,hx⟩:=hx
  rcases hx with⟨hx,_⟩ | ⟨_,A,he,au⟩
  ·omega
  refine⟨_,hk,dv (v:=a.eval x) (fun w'=>?_) h ?_ ag⟩
  ·unfold execOp;rw [ho];simp only [he];rfl
  ·simp only [aO];exact⟨jH,A,he,au⟩
 | _=>rw [cH] at hk;simp at hk
theorem ax.AE{P:Program} : ∀ {aj:ax} {cm:List Field} {base i k:Nat} {u:ad},aj.okF P cm base→aj.off i=some (k,u) →
  ∃f,cm[i]?=some f∧f.offset=base+k∧u.ok P f.type
 | .nil,_,_,_,_,_,_,h=>by simp [ax.off] at h
 | .cons t aj,cm,base,0,k,u,ho,h=>by
  simp only [ax.okF] at ho
  obtain ⟨f,k6,rfl,h1,h2,h3⟩:=ho
  simp only [ax.off,Option.some.injEq,Prod.mk.injEq] at h
  obtain ⟨rfl,rfl⟩:=h
  exact⟨f,rfl,by simpa using h1,h2⟩
 | .cons t aj,cm,base,i+1,k,u,ho,h=>by
  simp only [ax.okF] at ho
  obtain ⟨f,k6,rfl,h1,h2,h3⟩:=ho
  simp only [ax.off] at h
  obtain ⟨q,h4,aZ⟩:=bb h
  simp only [Option.some.injEq,Prod.mk.injEq] at aZ
  obtain ⟨rfl,rfl⟩:=aZ
  obtain ⟨mD,k1,k2,k3⟩:=ax.AE h3 h4
  exact⟨mD,by simpa using k1,by omega,k3⟩
theorem Hb{aj:ax}{id:TypeId}(h:(ad.st aj).ok P id):∃cm,P.underlying id=some (.struct cm)∧aj.okF P cm.toList 0:=by
 simp only [ad.ok] at h;exact h.2
theorem k8{t:ad}{id:TypeId}(h:(ad.sl t).ok P id):∃e,P.underlying id=some (.slice e)∧t.ok P e:=by
 simp only [ad.ok] at h;exact h.2
theorem N7{f:Field}{u:ad}{b i:Nat}(hu:u.ok P f.type)(hz:u.size≠0):(fieldPlace (at_ b i) f).run P w=.ok (at_ b (i+f.offset)) w:=by
 unfold fieldPlace
 rw [run_bind,run_sizeOf hu]
 simp only
 rw [if_neg hz,run_pure,pK]
theorem N8{t:Nat}{x:Operand}{i:Nat}(bW:gE P E)(h:Inv w0 F0 Z0 n s a w ι Z)(ag:∀k,o.dst=some k→k<n)(ho:o.op=.fieldAddr t x i)(hk:cP E id o s K=some r) :
  ∃aq,K aq=some r∧Pure P o a w (cT w0 F0 Z0 n aq):=by
 unfold cP at hk
 rw [ho] at hk
 simp only at hk
 have hx:=eR h x
 cases ht:E.ty t with
 | none=>rw [ht] at hk;simp at hk
 | some T =>
  rw [ht] at hk
  cases T with
  | st aj =>
   obtain ⟨cm,hu,ku⟩:=Hb (bW.ty t _ ht)
   have hrun:∀ {k:Nat} {u:ad} {b j:Nat},aj.off i=some (k,u)→u.size≠0→a.eval x=.pointer (some (at_ b j))→∀ {w':World},
     (execOp a.eval o).run P w'=.ok (.value (.pointer (some (at_ b (j+k))))) w':=by
    intro k u b j fi hz he w'
    obtain ⟨f,h1,h2,h3⟩:=ax.AE ku fi
    rw [Array.getElem?_toList] at h1
    unfold execOp;rw [ho]
    refine fF ?_
    simp only [Instr.fieldAt,run_bind,run_underlying hu,h1,Instr.sureAddr,he,run_pure,N7 h3 hz,h2,Nat.zero_add]
   cases cH:bS s x with
   | ptr p =>
    rw [cH] at hk hx
    simp only at hk
    cases fi:aj.off i with
    | none=>rw [fi] at hk;simp at hk
    | some q =>
     obtain ⟨k,u⟩:=q
     rw [fi] at hk
     simp only at hk
     cases nI:Nat.beq u.size 0
     case true=>rw [nI] at hk;simp at hk
     rw [nI] at hk
     simp only [aO] at hx
     obtain ⟨jH,A,he,au⟩:=hx
     obtain ⟨b,j,sp⟩:=A
     obtain ⟨hsp,au⟩:=au
     simp only at hsp
     subst hsp
     refine⟨_,hk,dv (fun w'=>hrun fi (fun e=>by rw [e] at nI;simp at nI) he) h ?_ ag⟩
     simp only [aO]
     refine⟨jH,_,rfl,rfl,?_⟩
     cases bU:(s.o p.id).core with
     | var ver cs =>
      rw [bU] at au
      obtain ⟨h1,a0,h2,h3⟩:=au
      simp only [at_,Addr.mk.injEq] at h3
      exact⟨h1,a0,h2,by simp [at_,h3.1,h3.2.1];omega⟩
     | row dk em ver xs =>
      rw [bU] at au
      obtain ⟨q,h1,h2,a0,h3,h4⟩:=au
      simp only [at_,Addr.mk.injEq] at h4
      exact⟨q,h1,h2,a0,h3,by simp [at_,h4.1,h4.2.1];omega⟩
     | _=>trivial
   | dd dp cs off =>
    rw [cH] at hk hx
    simp only at hk
    cases fi:aj.off i with
    | none=>rw [fi] at hk;simp at hk
    | some q =>
     obtain ⟨k,u⟩:=q
     rw [fi] at hk
     simp only at hk
     cases nI:Nat.beq u.size 0
     case true=>rw [nI] at hk;simp at hk
     rw [nI] at hk
     simp only [aO] at hx
     obtain ⟨mG,b,j,vs,he,hx⟩:=hx
     refine⟨_,hk,dv (fun w'=>hrun fi (fun e=>by rw [e] at nI;simp at nI) he) h ?_ ag⟩
     simp only [aO]
     exact⟨mG,b,j,vs,by rw [Nat.add_assoc],hx⟩
   | _=>rw [cH] at hk;simp at hk
  | _=>simp at hk
theorem Hc{u:ad}{id:TypeId}{cs:List Value}{k:Nat}(hu:u.ok P id)(hk:k+u.size≤cs.length):(Go.part id cs.toArray k).run P w=.ok (dB u ((cs.drop k).take u.size)) w:=by
 unfold Go.part
 rw [run_bind,N2 hu]
 simp only
 cases ha:u.agg
 ·have h1:=G5 ha
  simp only [Bool.false_eq_true,if_false]
  rw [h1] at hk ⊢
  have cw:k<cs.length:=by omega
  have:(cs.drop k).take 1=[cs[k]]:=by
   rw [List.drop_eq_getElem_cons cw,List.take_succ_cons,List.take_zero]
  rw [this,G7 ha]
  simp [cw,run_pure]
 ·simp only [if_true]
  rw [run_bind,run_sizeOf hu,G6 ha]
  simp only [run_pure]
  congr 2
  apply Array.ext'
  simp [List.take_drop,Nat.add_comm]
theorem N9{t:Nat}{x:Operand}{i:Nat}(bW:gE P E)(h:Inv w0 F0 Z0 n s a w ι Z)(ag:∀k,o.dst=some k→k<n)(ho:o.op=.field t x i)(hk:cP E id o s K=some r) :
  ∃aq,K aq=some r∧Pure P o a w (cT w0 F0 Z0 n aq):=by
 unfold cP at hk
 rw [ho] at hk
 simp only at hk
 have hx:=eR h x
 cases ht:E.ty t with
 | none=>rw [ht] at hk;simp at hk
 | some T =>
  rw [ht] at hk
  cases T with
  | st aj =>
   obtain ⟨cm,hu,ku⟩:=Hb (bW.ty t _ ht)
   cases cH:bS s x with
   | hW cs =>
    rw [cH] at hk hx
    simp only at hk
    cases fi:aj.off i with
    | none=>rw [fi] at hk;simp at hk
    | some q =>
     obtain ⟨k,u⟩:=q
     rw [fi] at hk
     simp only at hk
     cases hw:(takeN k u.size cs).bind (jD u) with
     | none=>rw [hw] at hk;simp at hk
     | some v =>
      rw [hw] at hk
      obtain ⟨ds,h1,h2⟩:=bb hw
      obtain ⟨h3,rfl⟩:=oE h1
      simp only [aO] at hx
      obtain ⟨vs,he,hc⟩:=hx
      obtain ⟨f,f1,f2,f3⟩:=ax.AE ku fi
      rw [Array.getElem?_toList] at f1
      have hl:=hc.len
      refine⟨_,hk,dv (fun w'=>?_) h (oH h2 ((hc.drop k).take u.size)) ag⟩
      unfold execOp;rw [ho]
      refine fF ?_
      simp only [Instr.field,run_bind,run_underlying hu,f1,he,asAgg,run_pure]
      have:=Hc (P:=P) (w:=w') f3 (cs:=vs) (k:=k) (by omega)
      rw [f2,Nat.zero_add]
      exact this
   | _=>rw [cH] at hk;simp at hk
  | _=>simp at hk
theorem N_{x:Operand}{i:Nat}(h:Inv w0 F0 Z0 n s a w ι Z)(ag:∀k,o.dst=some k→k<n)(ho:o.op=.extract x i)(hk:cP E id o s K=some r) :
  ∃aq,K aq=some r∧Pure P o a w (cT w0 F0 Z0 n aq):=by
 unfold cP at hk
 rw [ho] at hk
 simp only at hk
 have hx:=eR h x
 cases cH:bS s x with
 | ox l =>
  rw [cH] at hk hx
  simp only at hk
  cases hi:l[i]? with
  | none=>rw [hi] at hk;simp at hk
  | some v =>
   rw [hi] at hk
   simp only [aO] at hx
   obtain ⟨vs,he,hl⟩:=hx
   have:∀(l:List a6) (vs:List Value) (i:Nat),aX w Z s ι l vs→l[i]?=some v→∃u,vs[i]?=some u∧aO w Z s ι v u:=by
    intro l
    induction l with
    | nil=>intro vs i _ hi;simp at hi
    | cons y l ih =>
     intro vs i hl hi
     simp only [aX] at hl
     obtain ⟨u,us,rfl,h1,h2⟩:=hl
     cases i with
     | zero=>simp at hi;subst hi;exact⟨u,rfl,h1⟩
     | succ i=>exact ih us i h2 (by simpa using hi)
   obtain ⟨u,h1,h2⟩:=this l vs i hl hi
   refine⟨_,hk,dv (v:=u) (fun w'=>?_) h h2 ag⟩
   unfold execOp;rw [ho]
   refine fF ?_
   simp only [Instr.extract,he]
   simp [h1,run_pure]
 | _=>rw [cH] at hk;simp at hk
theorem Hd(h:Inv w0 F0 Z0 n s a w ι Z):∀(l:List Operand),aX w Z s ι (l.map (bS s)) (l.map a.eval)
 | []=>by simp only [List.map_nil,aX]
 | x :: l=>by simp only [List.map_cons,aX];exact⟨_,_,rfl,eR h x,Hd h l⟩
theorem N'{f:FuncId}{first kS:Array Operand}(h:Inv w0 F0 Z0 n s a w ι Z)(ag:∀k,o.dst=some k→k<n)(ho:o.op=.makeFunc (.func f) first kS)(hk:cP E id o s K=some r) :
  ∃aq,K aq=some r∧Pure P o a w (cT w0 F0 Z0 n aq):=by
 unfold cP at hk
 rw [ho] at hk
 simp only at hk
 refine⟨_,hk,dv (v:=.func (.func f) (first.map a.eval) (kS.map a.eval)) (fun w'=>?_) h ?_ ag⟩
 ·unfold execOp;rw [ho];rfl
 ·simp only [aO]
  refine⟨first.toList.map a.eval,kS.toList.map a.eval,?_,Hd h _,Hd h _⟩
  congr 1 <;>(apply Array.ext';simp)
end
end Go.LM
namespace Go.LM
section
variable{P:Program}{Q:Exit→Act→World→Prop}
variable{w0:World}{F0 Z0:ah}{n:cC}{s aq:an}{a b6:Act}{w w':World}{ι ba:Nat→bD}{Z Z':ah}
variable{E:Env}{o:Oper}{br : Type}{K:an→Option br}{r : br}{id:Nat}
theorem He{k:IntKind}{i:Int} :(asIntOf (.int k i)).run P w=.ok (k,i) w:=rfl
theorem Hf{t:TypeId}{u:ad}{e:TypeId}{A:Addr}{b o len c:Nat}{k:IntKind}{i:Int}(hu:P.underlying t=some (.slice e))(he:u.ok P e)
  (h0:0≤i) (h1:i<(len:Int)):(Instr.indexAt t (.slice (some (at_ b o)) len c) (.int k i)).run P w=.ok (.pointer (some (at_ b (o+i.toNat*u.size)))) w:=by
 unfold Instr.indexAt
 simp only [run_bind,He,run_underlying hu,run_pure]
 rw [if_pos ⟨h0,h1⟩]
 simp only [run_bind,run_sizeOf he,run_pure,pK]
theorem beq_eq{u v:ad}(h:ad.beq u v=true):u=v:=ad.eq_of_beq _ _ h
theorem Oa{t:Nat}{x i:Operand}(bW:gE P E)(h:Inv w0 F0 Z0 n s a w ι Z)(ag:∀k,o.dst=some k→k<n)(ho:o.op=.indexAddr t x i)(hk:cP E id o s K=some r) :
  ∃aq,K aq=some r∧Pure P o a w (cT w0 F0 Z0 n aq):=by
 unfold cP at hk
 rw [ho] at hk
 simp only at hk
 have hx:=eR h x
 have hi:=eR h i
 cases ht:E.ty t with
 | none=>rw [ht] at hk;simp at hk
 | some T =>
  cases T with
  | sl u =>
   obtain ⟨e,hu,iT⟩:=k8 (bW.ty t _ ht)
   rw [ht] at hk
   cases sO:j6 (bS s i) with
   | none=>rw [sO] at hk;cases bS s x <;> simp at hk
   | some q =>
    rw [sO] at hk
    obtain ⟨da,vl⟩:=q_ sO hi
    cases cH:bS s x with
    | aS c =>
     rw [cH] at hk hx
     simp only [aO] at hx
     cases c with
     | ag j sub =>
      simp only at hk
      obtain ⟨jH,A,m,c,iz,hh⟩:=hx
      cases bU:s.o j with
      | row v em ver xs =>
       rw [bU] at hk
       simp only at hk
       cases hb:ad.beq u v
       ·rw [hb] at hk;simp at hk
       rw [hb] at hk
       obtain rfl:=beq_eq hb
       obtain ⟨k,h1,hk⟩:=bb hk
       obtain ⟨h2,h3,rfl,h4⟩:=xz h1
       obtain ⟨g1,g2,g3,g4,g5⟩:=hh _ _ _ _ (kY bU)
       have hm:kT sub xs=m:=by
        cases sub with
        | none=>simp [kT,g1]
        | some p=>obtain ⟨lo,l⟩:=p;simp [kT,g1]
       rw [hm] at h3 h4
       rcases g5 with g5 | ⟨a0,fW,rfl⟩
       ·omega
       refine⟨_,hk,dv (v:=.pointer (some (at_ a0.block (a0.off+ea sub*u.size+q.toNat*u.size)))) (fun w'=>?_) h ?_ ag⟩
       ·unfold execOp;rw [ho]
        refine fF ?_
        simp only [iz,vl]
        exact Hf (A:=a0) hu iT h2 h3
       ·simp only [aO]
        refine⟨jH,_,rfl,rfl,?_⟩
        simp only
        rw [bU]
        exact⟨_,rfl,by omega,a0,fW,by simp [at_,Nat.add_mul];omega⟩
      | _=>rw [bU] at hk;simp at hk
     | bY v dp cq xs =>
      simp only at hk
      cases hb:(alive s dp&&ad.beq u v)
      ·rw [hb] at hk;simp at hk
      rw [hb] at hk
      simp only [Bool.and_eq_true] at hb
      obtain ⟨dP,hb⟩:=hb
      obtain rfl:=beq_eq hb
      obtain ⟨k,h1,hk⟩:=bb hk
      obtain ⟨h2,h3,rfl,h4⟩:=xz h1
      obtain ⟨mG,⟨A,m,c,iz⟩,cK,_⟩:=hx
      have hr:=cK dP
      simp only [ad.al] at hr
      obtain ⟨oJ,c',hv,hr⟩:=hr
      rw [iz] at hv
      simp only [List.cons.injEq,Value.slice.injEq,and_true] at hv
      obtain ⟨rfl,rfl,rfl⟩:=hv
      rcases hr with hr | ⟨a0,rfl,hsp,hrow,hz,xA⟩
      ·rw [hr] at h4;simp at h4
      obtain ⟨vs,G,k1,k2,k3,bf⟩:=hrow.get q.toNat h4
      obtain ⟨cM,dF,sp⟩:=a0
      simp only at hsp
      subst hsp
      refine⟨_,hk,dv (v:=.pointer (some (at_ cM (dF+q.toNat*u.size)))) (fun w'=>?_) h ?_ ag⟩
      ·unfold execOp;rw [ho]
       refine fF ?_
       simp only [iz,vl]
       exact Hf (A:=at_ cM dF) hu iT h2 h3
      ·simp only [aO]
       refine⟨mG,cM,dF+q.toNat*u.size,vs,rfl,fun _=>⟨?_,k3,fun j hj=>?_⟩⟩
       ·rw [c6 h4]
        exact ad.pN u dp none mG (fun _=>k1) ⟨_,_,_,k1⟩ .none
       ·have hcl:(u.cells dp none (J u xs q.toNat)).length=u.size:=by
         rw [c6 h4,← k2]
         exact((ad.pN (s:=s) (w:=w) (Z:=Z) (ι := ι) u dp none mG (fun _=>k1) ⟨_,_,_,k1⟩ .none).len).symm
        rw [hcl] at hj
        have:=hz (q.toNat*u.size+j) (by
         have:(q.toNat+1)*u.size≤xs.length*u.size:=Nat.mul_le_mul_right _ h4
         rw [Nat.add_one_mul] at this;omega)
        rwa [← Nat.add_assoc] at this
     | _=>simp at hk
    | _=>rw [cH] at hk;simp at hk
  | _=>rw [ht] at hk;simp at hk
theorem Ob{t:Nat}{x i:Operand}(bW:gE P E)(h:Inv w0 F0 Z0 n s a w ι Z)(ag:∀k,o.dst=some k→k<n)(ho:o.op=.index t x i)(hk:cP E id o s K=some r) :
  ∃aq,K aq=some r∧Pure P o a w (cT w0 F0 Z0 n aq):=by
 unfold cP at hk
 rw [ho] at hk
 simp only at hk
 have hx:=eR h x
 have hi:=eR h i
 cases ht:E.ty t with
 | none=>rw [ht] at hk;simp at hk
 | some T =>
  cases T with
  | str =>
   have hu:P.underlying t=some .string:=by have:=bW.ty t _ ht;simp only [ad.ok] at this;exact this.1
   rw [ht] at hk
   cases sO:j6 (bS s i) with
   | none=>rw [sO] at hk;cases cH:bS s x with
    | aS c=>rw [cH] at hk;cases c <;> simp at hk
    | _=>rw [cH] at hk;simp at hk
   | some q =>
    rw [sO] at hk
    obtain ⟨da,vl⟩:=q_ sO hi
    cases cH:bS s x with
    | aS c =>
     rw [cH] at hk hx
     simp only [aO] at hx
     cases c with
     | str b =>
      simp only at hk
      obtain ⟨k,h1,hk⟩:=bb hk
      obtain ⟨h2,h3,rfl,h4⟩:=xz h1
      obtain ⟨bh,iz,rfl⟩:=hx
      refine⟨_,hk,dv (v:=.int .u8 ((bh.data.toList.getD q.toNat 0).toNat:Int)) (fun w'=>?_) h (by simp only [aO,cf]) ag⟩
      unfold execOp;rw [ho]
      refine fF ?_
      have hsz:q.toNat<bh.size:=by simpa using h4
      simp only [Instr.index,iz,vl,run_bind,He,run_underlying hu,if_pos h2]
      have az:bh[q.toNat]?=some bh[q.toNat]:=by simp [hsz]
      rw [az]
      simp only [run_pure]
      congr 3
      have:bh.data.toList.getD q.toNat 0=bh[q.toNat]:=by
       simp [List.getD_eq_getElem?_getD,hsz]
       rfl
      rw [this]
     | _=>simp at hk
    | _=>rw [cH] at hk;simp at hk
  | _=>rw [ht] at hk;simp at hk
end
end Go.LM
namespace Go.LM
section
variable{P:Program}{Q:Exit→Act→World→Prop}
variable{w0:World}{F0 Z0:ah}{n:cC}{s aq:an}{a b6:Act}{w w':World}{ι ba:Nat→bD}{Z Z':ah}
variable{E:Env}{o:Oper}{br : Type}{K:an→Option br}{r : br}{id:Nat}
theorem run_sliceBound{k:IntKind}{i:Int}{y:Nat}{code:BoundsCode}(h0:0≤i)(h1:i≤(y:Int)):(Instr.sliceBound (.int k i) y code).run P w=.ok i.toNat w:=by
 unfold Instr.sliceBound
 simp only [run_bind,He]
 rw [if_pos ⟨h0,h1⟩];rfl
theorem Hg(h:Inv w0 F0 Z0 n s a w ι Z){x:Option Operand}{d i:Int}(hb:bound s x d=some i) :
  (x=none∧i=d)∨∃y k,x=some y∧a.eval y=.int k i:=by
 cases x with
 | none=>simp [bound] at hb;exact .inl ⟨rfl,hb.symm⟩
 | some y =>
  obtain ⟨k,hk⟩:=q_ (x:=bS s y) hb (eR h y)
  exact .inr ⟨y,k,rfl,hk⟩
theorem Oc(h:Inv w0 F0 Z0 n s a w ι Z){Xw:Bool}{len cap:Nat}{lo hi:Option Operand}{l q:Int}(hl:bound s lo 0=some l)(hq:bound s hi len=some q)
  (h0:0≤l) (h1:l≤q) (h2:q≤(len:Int)) (hc:len≤cap) :
  (Instr.sliceBounds Xw len cap (lo.map a.eval) (hi.map a.eval) none).run P w'=.ok (l.toNat,q.toNat,cap) w':=by
 unfold Instr.sliceBounds
 rcases Hg h hl with⟨rfl,rfl⟩ | ⟨y,k,rfl,aM⟩ <;> rcases Hg h hq with⟨rfl,rfl⟩ | ⟨lI,k',rfl,AF⟩
 ·simp only [Option.map_none,run_bind,run_pure,Int.toNat_natCast];rfl
 ·simp only [Option.map_none,Option.map_some,run_bind,run_pure,AF]
  rw [run_sliceBound (by omega) (by omega)];rfl
 ·simp only [Option.map_none,Option.map_some,run_bind,run_pure,aM,Int.toNat_natCast]
  simp only [Option.isSome_none,Bool.false_eq_true,if_false]
  rw [run_sliceBound h0 (by omega)]
 ·simp only [Option.map_some,run_bind,run_pure,aM,AF]
  rw [run_sliceBound (by omega) (by omega)]
  simp only [Option.isSome_none,Bool.false_eq_true,if_false]
  rw [run_sliceBound h0 (by omega)]
theorem Xx(h:Inv w0 F0 Z0 n s a w ι Z){len cap:Nat}{lo:Option Operand}{y m:Operand}{l q:Int}{k k':IntKind}(hl:bound s lo 0=some l)(aM:a.eval y=.int k q)(hm:a.eval m=.int k' q)
  (h0:0≤l) (h1:l≤q) (h2:q≤(cap:Int)) :
  (Instr.sliceBounds true len cap (lo.map a.eval) (some (a.eval y)) (some (a.eval m))).run P w'=.ok (l.toNat,q.toNat,q.toNat) w':=by
 unfold Instr.sliceBounds
 rcases Hg h hl with⟨rfl,rfl⟩ | ⟨z,ajO,rfl,hz⟩
 ·simp only [Option.map_none,run_bind,run_pure,aM,hm,if_true]
  rw [run_sliceBound (by omega) h2]
  simp only
  rw [run_sliceBound (by omega) (by omega)]
  rfl
 ·simp only [Option.map_some,run_bind,run_pure,aM,hm,hz,if_true]
  rw [run_sliceBound (by omega) h2]
  simp only
  rw [run_sliceBound (by omega) (by omega)]
  simp only [Option.isSome_some,if_true]
  rw [run_sliceBound h0 (by omega)]
theorem extract_toList(b:ByteArray)(l h:Nat):(b.extract l h).data.toList=part b.data.toList l (h-l):=by
 unfold part
 rw [ByteArray.data_extract,Array.toList_extract,List.extract_eq_take_drop]
theorem Od{T:ad}{c c':a8}{A:Option Addr}{m k:Nat}{l q:Nat}{gA:Nat}{u:ad}(bW:T=.sl u)(hf:kr s T c=true)(hlen:nA s c=some m)
  (iA:u6 c l (q-l)=some c') (hc:cf w Z s ι c (.slice A m k)) (h1:l≤q) (h2:q≤m) (h3:q≤gA) (h4:gA≤k) :
  cf w Z s ι c' (.slice (if gA=l then A else A.map (·.add (l*u.size))) (q-l) (gA-l)):=by
 subst bW
 cases c with
 | nil v =>
  obtain rfl:=aU iA
  have hv:Value.slice A m k=.slice none 0 0:=hc
  simp only [Value.slice.injEq] at hv
  obtain ⟨rfl,rfl,rfl⟩:=hv
  have:l=0:=by omega
  have:gA=0:=by omega
  have:q=0:=by omega
  subst_vars
  exact rfl
 | bY v dp cq xs =>
  obtain rfl:=aU iA
  simp only [kr] at hf
  have Hh:=beq_eq hf
  injection Hh with Hh
  subst Hh
  obtain ⟨ag,_,hr,_⟩:=hc
  refine⟨ag,⟨_,_,_,rfl⟩,fun ha=>?_,.none⟩
  have:=hr ha
  simp only [ad.al] at this ⊢
  obtain ⟨oJ,Oe,hv,hx⟩:=this
  simp only [List.cons.injEq,Value.slice.injEq,and_true] at hv
  obtain ⟨rfl,rfl,rfl⟩:=hv
  have fG:(part xs l (q-l)).length=q-l:=by simp only [part,List.length_take,List.length_drop];omega
  refine⟨_,_,by rw [fG],?_⟩
  by_cases Xy:q-l=0
  ·left;exact List.eq_nil_of_length_eq_zero (by rw [fG,Xy])
  ·right
   rcases hx with rfl | ⟨a0,rfl,hsp,hrow,hz,xA⟩
   ·simp at h2;omega
   obtain ⟨cM,dF,sp⟩:=a0
   simp only at hsp
   subst hsp
   refine⟨at_ cM (dF+l*u.size),?_,rfl,(hrow.drop l).take _,fun j hj=>?_,by rw [fG];omega⟩
   ·rw [if_neg (by omega)]
    exact congrArg some (pK _ _ _)
   ·rw [fG] at hj
    have:=hz (l*u.size+j) (by
     have aZ:(l +(q-l))*u.size≤xs.length*u.size:=Nat.mul_le_mul_right _ (by omega)
     rw [Nat.add_mul] at aZ;omega)
    rwa [← Nat.add_assoc] at this
 | ag j sub =>
  obtain rfl:=aU iA
  obtain ⟨jH,oJ,m',k',hv,hh⟩:=hc
  simp only [Value.slice.injEq] at hv
  obtain ⟨rfl,rfl,rfl⟩:=hv
  refine⟨jH,_,_,_,rfl,fun t em ver xs bU=>?_⟩
  obtain ⟨g1,g2,g3,g4,g5⟩:=hh t em ver xs bU
  have ht:t=u:=by
   simp only [kr] at hf
   cases va:s.o j with
   | row =>
    rw [va] at hf bU
    simp only [cj.core,cj.row.injEq] at bU
    obtain ⟨rfl,_⟩:=bU
    have:=beq_eq hf
    injection this with this
    exact this.symm
   | _=>rw [va] at hf;simp at hf
  subst ht
  have e1:ea (some (ea sub+l,q-l))=ea sub+l:=rfl
  refine⟨rfl,by rw [e1];omega,by omega,by rw [e1];omega,?_⟩
  by_cases Xz:gA=l
  ·left;omega
  ·right
   rcases g5 with g5 | ⟨a0,hb,rfl⟩
   ·omega
   ·refine⟨a0,hb,?_⟩
    rw [if_neg Xz]
    simp only [Option.map_some,pK,e1,Nat.add_mul,Nat.add_assoc]
 | _=>simp [u6] at iA <;>(simp [kr] at hf <;> simp [ad.beq] at hf)
theorem Hi{T:ad}{c:a8}{v:Value}{m:Nat}{u:ad}(bW:T=.sl u)(hf:kr s T c=true)(hlen:nA s c=some m)(hc:cf w Z s ι c v) :
  ∃A k,v=.slice A m k∧m≤k:=by
 subst bW
 cases c with
 | nil x=>simp only [nA,Option.some.injEq] at hlen;subst hlen;exact⟨none,0,hc,Nat.le_refl _⟩
 | bY x dp cq xs =>
  simp only [nA] at hlen
  cases ha:alive s dp
  ·rw [ha] at hlen;simp at hlen
  rw [ha] at hlen
  simp only [cond_true,Option.some.injEq] at hlen
  subst hlen
  have:=hc.2.2.1 ha
  simp only [ad.al] at this
  obtain ⟨A,c,hv,hx⟩:=this
  simp only [List.cons.injEq,and_true] at hv
  refine⟨A,c,hv,?_⟩
  rcases hx with rfl | ⟨_,_,_,_,_,xA⟩
  ·simp
  ·exact xA
 | ag j sub =>
  simp only [nA] at hlen
  cases ho:s.o j with
  | row t em ver xs =>
   rw [ho] at hlen
   simp only [Option.some.injEq] at hlen
   obtain ⟨_,A,m',k,rfl,hh⟩:=hc
   obtain ⟨g1,g2,g3,g4,g5⟩:=hh _ _ _ _ (kY ho)
   have:m'=m:=by
    rw [← hlen,g1]
    cases sub with
    | none=>rfl
    | some p=>rfl
   subst this
   exact⟨A,k,rfl,g3⟩
  | _=>rw [ho] at hlen;simp at hlen
 | _=>simp [kr,ad.beq] at hf
theorem Of{t:Nat}{x:Operand}{lo hi gA:Option Operand}(bW:gE P E)(h:Inv w0 F0 Z0 n s a w ι Z)(ag:∀k,o.dst=some k→k<n)(ho:o.op=.slice t x lo hi gA)(hk:cP E id o s K=some r) :
  ∃aq,K aq=some r∧Pure P o a w (cT w0 F0 Z0 n aq):=by
 unfold cP at hk
 rw [ho] at hk
 simp only at hk
 have hx:=eR h x
 cases ht:E.ty t with
 | none=>rw [ht] at hk;simp at hk
 | some T =>
  rw [ht] at hk
  simp only [NH] at hk
  cases cH:bS s x with
  | aS c =>
   rw [cH] at hk hx
   simp only at hk
   simp only [aO] at hx
   cases hf:kr s T c
   ·rw [hf] at hk;simp at hk
   rw [hf] at hk
   simp only [cond_true] at hk
   cases hlen:nA s c with
   | none=>rw [hlen] at hk;simp at hk
   | some m =>
    rw [hlen] at hk
    simp only at hk
    cases hl:bound s lo 0 with
    | none=>rw [hl] at hk;simp at hk
    | some l =>
     cases hq:bound s hi (m:Int) with
     | none=>rw [hl,hq] at hk;simp at hk
     | some q =>
      rw [hl,hq] at hk
      simp only at hk
      have main:(dZ m l q).bind (fun r=>match u6 c r.1 (r.2-r.1) with | some c'=>K (s.dst o.dst (.aS c')) | none=>none)=some r →
        ∃c',K (s.dst o.dst (.aS c'))=some r∧0≤l∧l≤q∧q≤(m:Int)∧u6 c l.toNat (q.toNat-l.toNat)=some c':=by
       intro hk
       obtain ⟨p,h1,hk⟩:=bb hk
       obtain ⟨h2,h3,h4,rfl⟩:=Xv h1
       cases iA:u6 c l.toNat (q.toNat-l.toNat) with
       | none=>simp only [iA] at hk;simp at hk
       | some c'=>simp only [iA] at hk;exact⟨c',hk,h2,h3,h4,rfl⟩
      cases gA with
      | none =>
       obtain ⟨c',hk,h2,h3,h4,iA⟩:=main hk
       refine⟨_,hk,?_⟩
       by_cases vm:T=.str
       ·subst vm
        have hu:P.underlying t=some .string:=by have:=bW.ty t _ ht;simp only [ad.ok] at this;exact this.1
        cases c <;> simp only [kr,ad.beq] at hf <;> try (simp at hf;done)
        ·rename_i b
         obtain ⟨bh,iz,rfl⟩:=hx
         simp only [nA,Option.some.injEq] at hlen
         obtain rfl:=aU iA
         refine dv (v:=.string (bh.extract l.toNat q.toNat)) (fun w'=>?_) h ?_ ag
         ·unfold execOp;rw [ho]
          refine fF ?_
          have hsz:bh.size=m:=by rw [← hlen];simp
          simp only [Instr.sliceAt,Instr.slice,run_bind,run_underlying hu,iz,Option.map_none]
          simp only [Option.isSome_none,Bool.false_eq_true,if_false]
          rw [hsz,run_bind,Oc h hl hq h2 h3 h4 (Nat.le_refl _)]
          rfl
         ·simp only [aO]
          exact⟨_,rfl,extract_toList _ _ _⟩
        ·cases jI:s.o _ <;> rw [jI] at hf <;> simp [ad.beq] at hf
       ·cases T with
        | str=>exact absurd rfl vm
        | sl u =>
         obtain ⟨e,hu,iT⟩:=k8 (bW.ty t _ ht)
         have hv:=Hi rfl hf hlen hx
         obtain ⟨A,k,iz,mI⟩:=hv
         rw [iz] at hx
         refine dv (fun w'=>?_) h (x:=.aS c') (v:=.slice (if k=l.toNat then A else A.map (·.add (l.toNat*u.size))) (q.toNat-l.toNat) (k-l.toNat)) ?_ ag
         ·unfold execOp;rw [ho]
          refine fF ?_
          simp only [Instr.sliceAt,Instr.slice,run_bind,run_underlying hu,iz,Option.map_none]
          rw [Oc h hl hq h2 h3 h4 mI]
          simp only [run_bind,run_sizeOf iT,run_pure]
         ·simp only [aO]
          exact Od rfl hf hlen iA hx (by omega) (by omega) (by omega) (Nat.le_refl _)
        | _=>cases c <;> simp only [kr,ad.beq] at hf <;> first | (simp at hf;done) | (cases jI:s.o _ <;> rw [jI] at hf <;> simp [ad.beq] at hf)
      | some Og =>
       simp only at hk
       cases vm:ad.beq T .str
       case true=>rw [vm] at hk;simp at hk
       rw [vm] at hk
       simp only [cond_false] at hk
       cases lO:j6 (bS s Og) with
       | none=>rw [lO] at hk;simp at hk
       | some XA =>
        rw [lO] at hk
        simp only at hk
        cases hi with
        | none=>simp at hk
        | some y =>
         simp only [Option.isSome_some,cond_true,jj] at hk
         cases xB:decide (q=XA)
         ·rw [xB] at hk;simp at hk
         rw [xB] at hk
         have xB:=of_decide_eq_true xB
         subst xB
         obtain ⟨c',hk,h2,h3,h4,iA⟩:=main hk
         obtain ⟨k1,aM⟩:=q_ hq (eR h y)
         obtain ⟨k2,vn⟩:=q_ lO (eR h Og)
         refine⟨_,hk,?_⟩
         cases T with
         | str=>simp [ad.beq] at vm
         | sl u =>
          obtain ⟨e,hu,iT⟩:=k8 (bW.ty t _ ht)
          obtain ⟨A,k,iz,mI⟩:=Hi rfl hf hlen hx
          rw [iz] at hx
          refine dv (fun w'=>?_) h (x:=.aS c') (v:=.slice (if q.toNat=l.toNat then A else A.map (·.add (l.toNat*u.size))) (q.toNat-l.toNat) (q.toNat-l.toNat)) ?_ ag
          ·unfold execOp;rw [ho]
           refine fF ?_
           simp only [Instr.sliceAt,Instr.slice,run_bind,run_underlying hu,iz,Option.map_some]
           rw [Xx h hl aM vn h2 h3 (by omega)]
           simp only [run_bind,run_sizeOf iT,run_pure]
          ·simp only [aO]
           exact Od rfl hf hlen iA hx (by omega) (by omega) (by omega) (by omega)
         | _=>cases c <;> simp only [kr,ad.beq] at hf <;> first | (simp at hf;done) | (cases jI:s.o _ <;> rw [jI] at hf <;> simp [ad.beq] at hf)
  | _=>rw [cH] at hk;simp at hk
end
end Go.LM
namespace Go.LM
section
variable{P:Program}{Q:Exit→Act→World→Prop}
variable{w0:World}{F0 Z0:ah}{n:cC}{s aq:an}{a b6:Act}{w w':World}{ι ba:Nat→bD}{Z Z':ah}
variable{E:Env}{o:Oper}{br : Type}{K:an→Option br}{r : br}{id:Nat}
theorem AG{k k':IntKind}(h:Nat.beq (dg k) (dg k')=true):k=k':=sA (Nat.eq_of_beq_eq_true h)
theorem q'{α : Type}{b:Bool}{x:Option α}{y : α}(h:jj b x=some y):b=true∧x=some y:=by
 cases b
 ·simp [jj] at h
 ·exact⟨rfl,h⟩
theorem toList_data(z:ByteArray):z.toList=z.data.toList:=by
 unfold ByteArray.toList
 have key:∀(m i:Nat) (r:List UInt8),z.size-i=m→i≤z.size→ByteArray.toList.loop z i r=r.reverse++z.data.toList.drop i:=by
  intro m
  induction m with
  | zero =>
   intro i r h hi
   unfold ByteArray.toList.loop
   rw [if_neg (by omega),List.drop_of_length_le (by simp;show z.data.size≤i;have:z.data.size=z.size:=rfl;omega)]
   simp
  | succ m ih =>
   intro i r h hi
   unfold ByteArray.toList.loop
   rw [if_pos (by omega),ih (i+1) _ (by omega) (by omega)]
   have cw:i<z.data.toList.length:=by simp;show i<z.data.size;have:z.data.size=z.size:=rfl;omega
   rw [List.drop_eq_getElem_cons cw]
   have az:z.get! i=z.data.toList[i]:=by
    simp [ByteArray.get!]
    have:i<z.data.size:=by simpa using cw
    exact getElem!_pos z.data i this
   rw [az];simp
 have:=key z.size 0 [] rfl (by omega)
 simpa using this
theorem Oh(x y:ByteArray):(x.toList==y.toList)=bu x.data.toList y.data.toList:=by
 rw [toList_data,toList_data,Bool.eq_iff_iff]
 simp [bu]
theorem Oi{x:Option a6}{K:a6→Option br}(h:lift x K=some r):∃v,x=some v∧K v=some r:=by
 cases x with
 | none=>simp [lift] at h
 | some v=>exact⟨v,rfl,h⟩
theorem XB{op:BinOp}{k:IntKind}{x y:Int}{v:a6}{ty yty:TypeId}{xo yo:Operand}(h:As op k x y=some v)(h1:op≠.shl)(h2:op≠.shr)(h3:op≠.quo)(h4:op≠.rem) :
  ∃u,(∀w:World,(binOp op ty (.int k x) (.int k y)).run P w=.ok u w)∧∀w Z s ι,aO w Z s ι v u:=by
 cases op <;> simp only [As] at h <;> first | (simp at h;done) | (obtain rfl:=aU h)
 all_goals
  refine⟨_,fun w=>by simp only [binOp];rw [if_neg (by simp)];rfl,fun w Z s ι => ?_⟩
  simp only [aO,cf]
  try rfl
theorem vo{op:BinOp}{ty:TypeId}{xo yo:Operand}{u v:Value}(h1:(∃k x,u=.int k x)∨(∃x,u=.string x)∨(∃x,u=.bool x)∨(∃x,u=.pointer x)) :
  (eqGuard op ty xo yo u v).run P w=.ok () w:=by
 unfold eqGuard
 rcases h1 with⟨k,x,rfl⟩ | ⟨x,rfl⟩ | ⟨x,rfl⟩ | ⟨x,rfl⟩ <;>(cases op <;> rfl)
theorem iU{op:BinOp}{ty yty:TypeId}{xo yo:Operand}{u:Value}(ho:o.op=.binOp op ty xo yo yty)(az:(eqGuard op ty xo yo (a.eval xo) (a.eval yo)).run P w=.ok () w)
  (hr:(binOp op ty (a.eval xo) (a.eval yo)).run P w=.ok u w):(execOp a.eval o).run P w=.ok (.value u) w:=by
 unfold execOp;rw [ho]
 refine fF ?_
 rw [run_bind,az]
 exact hr
theorem XC{op:BinOp}{x y:ByteArray}{v:a6}{ty:TypeId}(h:At op x.data.toList y.data.toList=some v) :
  ∃u,(∀w:World,(binOp op ty (.string x) (.string y)).run P w=.ok u w)∧∀w Z s ι,aO w Z s ι v u:=by
 cases op <;> simp only [At] at h <;> first | (simp at h;done) | (obtain rfl:=aU h)
 all_goals
  refine⟨_,fun w=>rfl,fun w Z s ι => ?_⟩
  have:=Oh x y
  simp only [toList_data] at this
  simp only [aO,cf,dr,toList_data,Value.bool.injEq,this]
theorem Oj{op:UnOp}{t:Nat}{x:Operand}(h:Inv w0 F0 Z0 n s a w ι Z)(ag:∀k,o.dst=some k→k<n)(ho:o.op=.unOp op t x)(hk:cP E id o s K=some r) :
  ∃aq,K aq=some r∧Pure P o a w (cT w0 F0 Z0 n aq):=by
 unfold cP at hk
 rw [ho] at hk
 simp only at hk
 have hx:=eR h x
 have hrun:∀ {u:Value} {w:World},(Op.unary op (a.eval x)).run P w=.ok u w→(execOp a.eval o).run P w=.ok (.value u) w:=by
  intro u w hu;unfold execOp;rw [ho];exact fF hu
 cases cH:bS s x with
 | aS c =>
  rw [cH] at hk hx
  simp only [aO] at hx
  cases op <;> cases c <;> simp only [Gu] at hk <;> try (simp at hk;done)
  ·simp only [cf] at hx
   exact⟨_,hk,dv (fun w'=>hrun (by rw [hx];rfl)) h (by simp only [aO,cf]) ag⟩
  ·simp only [cf] at hx
   exact⟨_,hk,dv (fun w'=>hrun (by rw [hx];rfl)) h (by simp only [aO,cf];rfl) ag⟩
  ·simp only [cf] at hx
   exact⟨_,hk,dv (fun w'=>hrun (by rw [hx];rfl)) h (by simp only [aO,cf]) ag⟩
 | _=>rw [cH] at hk;cases op <;> simp [Gu] at hk
def Ok(P:Program)(E:Env):Prop:=∀id T,E.Gr id=true→E.ty id=some T→∀(op:BinOp) (xo yo:Operand) (w:World) (Z:ah) (s:an) (ι : Nat→bD) (cs ds:List a8) (us vs:List Value) (q:Bool),
  bH w Z s ι cs us→bH w Z s ι ds vs→T.cmp cs ds=some (q,[],[]) →
  (eqGuard op id xo yo (.agg us.toArray) (.agg vs.toArray)).run P w=.ok () w ∧
  (op=.eql→(binOp op id (.agg us.toArray) (.agg vs.toArray)).run P w=.ok (.bool q) w) ∧
  (op=.neq→(binOp op id (.agg us.toArray) (.agg vs.toArray)).run P w=.ok (.bool (!q)) w)
mutual
theorem ad.xC{w w':World}{Z:ah}{s:an}{ι : Nat→bD} : ∀(t:ad) {cs ds:List a8} {r:Bool×List a8×List a8} {us vs:List Value},t.cmp cs ds=some r→bH w Z s ι cs us→bH w Z s ι ds vs →
  ∃us1 us2 vs1 vs2 a b,us=us1++us2∧vs=vs1++vs2∧cs=a++r.2.1∧ds=b++r.2.2∧bH w' Z s ι a us1∧bH w' Z s ι b vs1∧bH w Z s ι r.2.1 us2∧bH w Z s ι r.2.2 vs2
 | .int k,.int k1 x :: a,.int k2 y :: b,r,us,vs,h,h1,h2=>by
  simp only [ad.cmp] at h
  cases hk:(Nat.beq (dg k1) (dg k)&&Nat.beq (dg k2) (dg k))
  ·rw [hk] at h;cases h
  rw [hk] at h
  obtain rfl:=aU h
  cases us with
  | nil=>exact h1.elim
  | cons u us=>cases vs with
   | nil=>exact h2.elim
   | cons v vs=>exact⟨[u],us,[v],vs,[.int k1 x],[.int k2 y],rfl,rfl,rfl,rfl,⟨h1.1,trivial⟩,⟨h2.1,trivial⟩,h1.2,h2.2⟩
 | .bool,.bool x :: a,.bool y :: b,r,us,vs,h,h1,h2=>by
  obtain rfl:=aU h
  cases us with
  | nil=>exact h1.elim
  | cons u us=>cases vs with
   | nil=>exact h2.elim
   | cons v vs=>exact⟨[u],us,[v],vs,[.bool x],[.bool y],rfl,rfl,rfl,rfl,⟨h1.1,trivial⟩,⟨h2.1,trivial⟩,h1.2,h2.2⟩
 | .str,.str x :: a,.str y :: b,r,us,vs,h,h1,h2=>by
  obtain rfl:=aU h
  cases us with
  | nil=>exact h1.elim
  | cons u us=>cases vs with
   | nil=>exact h2.elim
   | cons v vs=>exact⟨[u],us,[v],vs,[.str x],[.str y],rfl,rfl,rfl,rfl,⟨h1.1,trivial⟩,⟨h2.1,trivial⟩,h1.2,h2.2⟩
 | .st aj,cs,ds,r,us,vs,h,h1,h2=>ax.xC aj (by simpa only [ad.cmp] using h) h1 h2
 | .sl t,cs,ds,r,us,vs,h,h1,h2=>by simp [ad.cmp] at h
 | .raw,cs,ds,r,us,vs,h,h1,h2=>by simp [ad.cmp] at h
 | .int k,[],_,_,_,_,h,_,_=>by simp [ad.cmp] at h
 | .bool,[],_,_,_,_,h,_,_=>by simp [ad.cmp] at h
 | .str,[],_,_,_,_,h,_,_=>by simp [ad.cmp] at h
 | .int k,c :: _,[],_,_,_,h,_,_=>by cases c <;> simp [ad.cmp] at h
 | .bool,c :: _,[],_,_,_,h,_,_=>by cases c <;> simp [ad.cmp] at h
 | .str,c :: _,[],_,_,_,h,_,_=>by cases c <;> simp [ad.cmp] at h
 | .int k,.bool _ :: _,_ :: _,_,_,_,h,_,_ | .int k,.str _ :: _,_ :: _,_,_,_,h,_,_ | .int k,.nil _ :: _,_ :: _,_,_,_,h,_,_ | .int k,.bY _ _ _ _ :: _,_ :: _,_,_,_,h,_,_ | .int k,.ag _ _ :: _,_ :: _,_,_,_,h,_,_ | .int k,.raw _ :: _,_ :: _,_,_,_,h,_,_=>by simp [ad.cmp] at h
 | .bool,.int _ _ :: _,_ :: _,_,_,_,h,_,_ | .bool,.str _ :: _,_ :: _,_,_,_,h,_,_ | .bool,.nil _ :: _,_ :: _,_,_,_,h,_,_ | .bool,.bY _ _ _ _ :: _,_ :: _,_,_,_,h,_,_ | .bool,.ag _ _ :: _,_ :: _,_,_,_,h,_,_ | .bool,.raw _ :: _,_ :: _,_,_,_,h,_,_=>by simp [ad.cmp] at h
 | .str,.int _ _ :: _,_ :: _,_,_,_,h,_,_ | .str,.bool _ :: _,_ :: _,_,_,_,h,_,_ | .str,.nil _ :: _,_ :: _,_,_,_,h,_,_ | .str,.bY _ _ _ _ :: _,_ :: _,_,_,_,h,_,_ | .str,.ag _ _ :: _,_ :: _,_,_,_,h,_,_ | .str,.raw _ :: _,_ :: _,_,_,_,h,_,_=>by simp [ad.cmp] at h
 | .int k,.int _ _ :: _,.bool _ :: _,_,_,_,h,_,_ | .int k,.int _ _ :: _,.str _ :: _,_,_,_,h,_,_ | .int k,.int _ _ :: _,.nil _ :: _,_,_,_,h,_,_ | .int k,.int _ _ :: _,.bY _ _ _ _ :: _,_,_,_,h,_,_ | .int k,.int _ _ :: _,.ag _ _ :: _,_,_,_,h,_,_ | .int k,.int _ _ :: _,.raw _ :: _,_,_,_,h,_,_=>by simp [ad.cmp] at h
 | .bool,.bool _ :: _,.int _ _ :: _,_,_,_,h,_,_ | .bool,.bool _ :: _,.str _ :: _,_,_,_,h,_,_ | .bool,.bool _ :: _,.nil _ :: _,_,_,_,h,_,_ | .bool,.bool _ :: _,.bY _ _ _ _ :: _,_,_,_,h,_,_ | .bool,.bool _ :: _,.ag _ _ :: _,_,_,_,h,_,_ | .bool,.bool _ :: _,.raw _ :: _,_,_,_,h,_,_=>by simp [ad.cmp] at h
 | .str,.str _ :: _,.int _ _ :: _,_,_,_,h,_,_ | .str,.str _ :: _,.bool _ :: _,_,_,_,h,_,_ | .str,.str _ :: _,.nil _ :: _,_,_,_,h,_,_ | .str,.str _ :: _,.bY _ _ _ _ :: _,_,_,_,h,_,_ | .str,.str _ :: _,.ag _ _ :: _,_,_,_,h,_,_ | .str,.str _ :: _,.raw _ :: _,_,_,_,h,_,_=>by simp [ad.cmp] at h
theorem ax.xC{w w':World}{Z:ah}{s:an}{ι : Nat→bD} : ∀(t:ax) {cs ds:List a8} {r:Bool×List a8×List a8} {us vs:List Value},t.cmp cs ds=some r→bH w Z s ι cs us→bH w Z s ι ds vs →
  ∃us1 us2 vs1 vs2 a b,us=us1++us2∧vs=vs1++vs2∧cs=a++r.2.1∧ds=b++r.2.2∧bH w' Z s ι a us1∧bH w' Z s ι b vs1∧bH w Z s ι r.2.1 us2∧bH w Z s ι r.2.2 vs2
 | .nil,cs,ds,r,us,vs,h,h1,h2=>by
  obtain rfl:=aU h
  exact⟨[],us,[],vs,[],[],rfl,rfl,rfl,rfl,trivial,trivial,h1,h2⟩
 | .cons t aj,cs,ds,r,us,vs,h,h1,h2=>by
  simp only [ax.cmp] at h
  obtain ⟨bA,g1,h⟩:=bb h
  obtain ⟨cc,g2,h⟩:=bb h
  obtain rfl:=aU h
  obtain ⟨a1,a2,iS,q6,a,b,rfl,rfl,e1,e2,k1,k2,k3,bf⟩:=ad.xC (w':=w') t g1 h1 h2
  obtain ⟨a3,a4,ra,AH,b6,b',rfl,rfl,e3,fH,dO,eD,nM,oG⟩:=ax.xC (w':=w') aj g2 k3 bf
  exact⟨a1++a3,a4,iS++ra,AH,a++b6,b++b',by simp,by simp,by rw [e1,e3];simp,by rw [e2,fH];simp,k1.append dO,k2.append eD,nM,oG⟩
end
theorem Ol{w:World}{Z:ah}{s:an}{ι : Nat→bD}{T:ad}{cs ds:List a8}{q:Bool}{us vs:List Value}(h:T.cmp cs ds=some (q,[],[]))(h1:bH w Z s ι cs us)(h2:bH w Z s ι ds vs)(w':World) :
  bH w' Z s ι cs us∧bH w' Z s ι ds vs:=by
 obtain ⟨us1,us2,vs1,vs2,a,b,e3,fH,sP,Om,bs,c_,dh,ee⟩:=ad.xC (w':=w') T h h1 h2
 have fD:us2=[]:=by cases us2 with | nil=>rfl | cons=>exact dh.elim
 have lJ:vs2=[]:=by cases vs2 with | nil=>rfl | cons=>exact ee.elim
 subst fD lJ
 simp only [List.append_nil] at e3 fH sP Om
 rw [e3,fH,sP,Om]
 exact⟨bs,c_⟩
theorem On{op:BinOp}{t AI:Nat}{x y:Operand}(bW:gE P E)(hE:Ok P E)(h:Inv w0 F0 Z0 n s a w ι Z)(ag:∀k,o.dst=some k→k<n)(ho:o.op=.binOp op t x y AI)(hk:cP E id o s K=some r) :
  ∃aq,K aq=some r∧Pure P o a w (cT w0 F0 Z0 n aq):=by
 unfold cP at hk
 rw [ho] at hk
 simp only at hk
 have hx:=eR h x
 have aM:=eR h y
 cases cH:bS s x with
 | aS c =>
  rw [cH] at hk hx
  simp only [aO] at hx
  cases gd:bS s y with
  | aS d =>
   rw [gd] at hk aM
   simp only [aO] at aM
   cases c <;> cases d <;> simp only [kq] at hk <;> try (simp at hk;done)
   ·rename_i k i k' j
    simp only [cf] at hx aM
    have az:∀w:World,(eqGuard op t x y (a.eval x) (a.eval y)).run P w=.ok () w:=fun w=>vo (by rw [hx];exact .inl ⟨_,_,rfl⟩)
    by_cases h1:op=.shl
    ·subst h1
     obtain ⟨h0,hk⟩:=q' hk
     have h0:=of_decide_eq_true h0
     refine⟨_,hk,dv (fun w'=>iU ho (az w') (by rw [hx,aM];simp only [binOp,Op.shift];rw [if_neg (by omega)];rfl)) h (by simp only [aO,cf]) ag⟩
    by_cases h2:op=.shr
    ·subst h2
     obtain ⟨h0,hk⟩:=q' hk
     have h0:=of_decide_eq_true h0
     refine⟨_,hk,dv (fun w'=>iU ho (az w') (by rw [hx,aM];simp only [binOp,Op.shift];rw [if_neg (by omega)];rfl)) h (by simp only [aO,cf]) ag⟩
    by_cases h3:op=.quo
    ·subst h3
     cases hkk:Nat.beq (dg k) (dg k')
     ·rw [hkk] at hk;simp at hk
     have hk1:jj (j != 0) (K (s.dst o.dst (.aS (.int k (k.wrap (i.tdiv j))))))=some r:=by
      have hk2:cond (Nat.beq (dg k) (dg k')) (jj (j != 0) (K (s.dst o.dst (.aS (.int k (k.wrap (i.tdiv j))))))) none=some r:=hk
      rw [hkk] at hk2;exact hk2
     clear hk
     obtain ⟨h0,hk⟩:=q' hk1
     obtain rfl:=AG hkk
     have h0:j≠0:=by simpa using h0
     refine⟨_,hk,dv (fun w'=>iU ho (az w') (by rw [hx,aM];simp only [binOp,Op.intDiv];rw [if_neg (by simp),if_neg h0];rfl)) h (by simp only [aO,cf]) ag⟩
    by_cases h4:op=.rem
    ·subst h4
     cases hkk:Nat.beq (dg k) (dg k')
     ·rw [hkk] at hk;simp at hk
     have hk1:jj (j != 0) (K (s.dst o.dst (.aS (.int k (i.tmod j)))))=some r:=by
      have hk2:cond (Nat.beq (dg k) (dg k')) (jj (j != 0) (K (s.dst o.dst (.aS (.int k (i.tmod j)))))) none=some r:=hk
      rw [hkk] at hk2;exact hk2
     clear hk
     obtain ⟨h0,hk⟩:=q' hk1
     obtain rfl:=AG hkk
     have h0:j≠0:=by simpa using h0
     refine⟨_,hk,dv (fun w'=>iU ho (az w') (by rw [hx,aM];simp only [binOp,Op.intDiv];rw [if_neg (by simp),if_neg h0];rfl)) h (by simp only [aO,cf]) ag⟩
    have ed:cond (Nat.beq (dg k) (dg k')) (lift (As op k i j) fun v=>K (s.dst o.dst v)) none=some r:=by
     cases op <;> first | exact hk | exact absurd rfl h1 | exact absurd rfl h2 | exact absurd rfl h3 | exact absurd rfl h4
    cases hkk:Nat.beq (dg k) (dg k')
    ·rw [hkk] at ed;simp at ed
    rw [hkk] at ed
    obtain rfl:=AG hkk
    obtain ⟨v,hv,ed⟩:=Oi ed
    obtain ⟨u,hu,cK⟩:=XB (P:=P) (ty:=t) (yty:=AI) (xo:=x) (yo:=y) hv h1 h2 h3 h4
    exact⟨_,ed,dv (fun w'=>iU ho (az w') (by rw [hx,aM];exact hu w')) h (cK _ _ _ _) ag⟩
   ·rename_i i j
    simp only [cf] at hx aM
    have az:∀w:World,(eqGuard op t x y (a.eval x) (a.eval y)).run P w=.ok () w:=fun w=>vo (by rw [hx];exact .inr (.inr (.inl ⟨_,rfl⟩)))
    cases ht:E.ty t with
    | none=>rw [ht] at hk;simp at hk
    | some T =>
     cases T with
     | bool =>
      rw [ht] at hk
      have hu:P.underlying t=some .bool:=by have:=bW.ty t _ ht;simp only [ad.ok] at this;exact this.1
      have hb:∀(i j:Bool) {w:World},(Op.equal t (.bool i) (.bool j)).run P w=.ok (i==j) w:=by
       intro i j w
       unfold Op.equal Op.maxDepth Op.equalIn
       rw [run_bind,run_underlying hu]
       rfl
      cases op <;> simp only at hk <;> try (simp at hk;done)
      ·exact⟨_,hk,dv (fun w'=>iU ho (az w') (by rw [hx,aM];simp only [binOp,run_bind,hb];rfl)) h (by simp only [aO,cf]) ag⟩
      ·exact⟨_,hk,dv (fun w'=>iU ho (az w') (by rw [hx,aM];simp only [binOp,run_bind,hb];rfl)) h (by simp only [aO,cf]) ag⟩
     | _=>rw [ht] at hk;simp at hk
   ·obtain ⟨vp,hx,rfl⟩:=hx
    obtain ⟨vq,aM,rfl⟩:=aM
    have az:∀w:World,(eqGuard op t x y (a.eval x) (a.eval y)).run P w=.ok () w:=fun w=>vo (by rw [hx];exact .inr (.inl ⟨_,rfl⟩))
    by_cases h1:op=.add
    ·subst h1
     obtain ⟨h0,hk⟩:=q' hk
     have h0:=Nat.le_of_ble_eq_true h0
     simp only [Array.length_toList] at h0
     refine⟨_,hk,dv (v:=.string (vp++vq)) (fun w'=>iU ho (az w') (by
      rw [hx,aM];simp only [binOp,Op.stringOp]
      rw [if_neg];rfl
      have e1:vp.data.size=vp.size:=rfl
      have e2:vq.data.size=vq.size:=rfl
      simp only [IntKind.max,IntKind.signed,IntKind.bits,if_true]
      omega)) h (by simp only [aO,cf];exact⟨_,rfl,by simp⟩) ag⟩
    ·have ed:lift (At op vp.data.toList vq.data.toList) (fun v=>K (s.dst o.dst v))=some r:=by
      cases op <;> first | exact hk | exact absurd rfl h1
     obtain ⟨v,hv,ed⟩:=Oi ed
     obtain ⟨u,hu,cK⟩:=XC (P:=P) (ty:=t) hv
     exact⟨_,ed,dv (fun w'=>iU ho (az w') (by rw [hx,aM];exact hu w')) h (cK _ _ _ _) ag⟩
  | ko =>
   rw [gd] at hk aM
   simp only [aO] at aM
   cases c with
   | bY dk dp cq xs =>
    cases dp with
    | cons=>simp [kq] at hk
    | nil =>
     simp only [kq] at hk
     cases rb:E.ty t with
     | none=>rw [rb] at hk;simp at hk
     | some T =>
      cases T with
      | sl u =>
       rw [rb] at hk
       obtain ⟨e,hu,_⟩:=k8 (bW.ty _ _ rb)
       obtain ⟨_,_,cK,_⟩:=hx
       have cK:=cK rfl
       simp only [ad.al] at cK
       obtain ⟨A,c',hv,sL⟩:=cK
       have iz:a.eval x=.slice A xs.length c':=by simpa using hv
       have az:∀w:World,(eqGuard op t x y (a.eval x) (a.eval y)).run P w=.ok () w:=fun w=>by
        rw [iz,aM];unfold eqGuard;cases op <;> rfl
       have hb:∀ {w:World},(Op.equal t (.slice A xs.length c') (.slice none 0 0)).run P w=.ok A.isNone w:=by
        intro w
        unfold Op.equal Op.maxDepth Op.equalIn
        rw [run_bind,run_underlying hu]
        cases A <;> rfl
       have he:A.isNone=true→xs.isEmpty=true:=fun hA=>by
        rcases sL with sL | ⟨a0,sL,_⟩
        ·rw [sL];rfl
        ·rw [sL] at hA;cases hA
       have pick:∀ {k1 lP:Option br},Au xs.isEmpty k1 lP=some r→(cond A.isNone k1 lP)=some r:=by
        intro k1 lP hk
        unfold Au both at hk
        cases hA:A.isNone
        ·rw [hA] at he
         cases Oo:xs.isEmpty
         ·rw [Oo] at hk;exact hk
         ·rw [Oo] at hk
          simp only [cond_true] at hk
          split at hk
          ·rename_i h;rw [cond_false,← h];exact hk
          ·cases hk
        ·rw [he hA] at hk
         simp only [cond_true] at hk ⊢
         split at hk
         ·exact hk
         ·cases hk
       cases op <;> simp only at hk <;> try (simp at hk;done)
       ·have hk:=pick hk
        refine⟨s.dst o.dst (.aS (.bool A.isNone)),by cases A <;> exact hk,dv (fun w'=>iU ho (az w') (by rw [iz,aM];simp only [binOp,run_bind,hb];rfl)) h (by simp only [aO,cf]) ag⟩
       ·have hk:=pick hk
        refine⟨s.dst o.dst (.aS (.bool (!A.isNone))),by cases A <;> exact hk,dv (fun w'=>iU ho (az w') (by rw [iz,aM];simp only [binOp,run_bind,hb];rfl)) h (by simp only [aO,cf]) ag⟩
      | _=>rw [rb] at hk;simp at hk
   | _=>simp [kq] at hk
  | _=>rw [gd] at hk;cases c <;> simp [kq] at hk
 | hW cs =>
  rw [cH] at hk hx
  simp only [aO] at hx
  cases gd:bS s y with
  | hW ds =>
   rw [gd] at hk aM
   simp only [aO] at aM
   obtain ⟨us,hx,Oq⟩:=hx
   obtain ⟨vs,aM,Ot⟩:=aM
   simp only [kq] at hk
   cases he:E.Gr t
   ·rw [he] at hk;simp at hk
   rw [he] at hk
   simp only [cond_true] at hk
   cases rb:E.ty t with
   | none=>rw [rb] at hk;simp at hk
   | some T =>
   rw [rb] at hk
   simp only at hk
   cases hq:T.cmp cs ds with
   | none=>rw [hq] at hk;cases op <;> simp at hk
   | some q =>
    obtain ⟨q,bA,cc⟩:=q
    rw [hq] at hk
    match bA,cc,hq,hk with
    | [],[],hq,hk =>
     have hE:=fun w'=>hE t T he rb op x y w' Z s ι cs ds us vs q (Ol hq Oq Ot w').1 (Ol hq Oq Ot w').2 hq
     cases op <;> simp only at hk <;> try (simp at hk;done)
     ·exact⟨_,hk,dv (fun w'=>iU ho (by rw [hx,aM];exact(hE w').1) (by rw [hx,aM];exact(hE w').2.1 rfl)) h (by simp only [aO,cf]) ag⟩
     ·exact⟨_,hk,dv (fun w'=>iU ho (by rw [hx,aM];exact(hE w').1) (by rw [hx,aM];exact(hE w').2.2 rfl)) h (by simp only [aO,cf]) ag⟩
    | _ :: _,_,_,hk=>cases op <;> simp at hk
    | [],_ :: _,_,hk=>cases op <;> simp at hk
  | _=>rw [gd] at hk;simp [kq] at hk
 | opt j i =>
  rw [cH] at hk hx
  simp only [aO] at hx
  cases gd:bS s y with
  | jC =>
   rw [gd] at hk aM
   simp only [aO] at aM
   simp only [kq] at hk
   cases lQ:E.sB t
   ·rw [lQ] at hk;simp at hk
   rw [lQ] at hk
   obtain ⟨e,hu⟩:=bW.ptr t lQ
   have az:∀w:World,(eqGuard op t x y (a.eval x) (a.eval y)).run P w=.ok () w:=by
    intro w
    rcases hx.2 with⟨_,hx⟩ | ⟨_,A,hx,_⟩ <;> exact vo (by rw [hx];exact .inr (.inr (.inr ⟨_,rfl⟩)))
   have hb:∀ {w:World},(Op.equal t (a.eval x) (.pointer none)).run P w=.ok (decide (i<0)) w:=by
    intro w
    rcases hx.2 with⟨h0,hx⟩ | ⟨h0,A,hx,_⟩
    ·rw [hx]
     unfold Op.equal Op.maxDepth Op.equalIn
     rw [run_bind,run_underlying hu]
     simp [h0,run_pure]
    ·rw [hx]
     unfold Op.equal Op.maxDepth Op.equalIn
     rw [run_bind,run_underlying hu]
     have:¬i<0:=by omega
     simp [this,run_pure]
   have k9:∀(op:BinOp) (v:Value),(op=.eql→v=.bool (decide (i<0)))→(op=.neq→v=.bool (!decide (i<0)))→(op=.eql∨op=.neq)→∀ {w:World},(binOp op t (a.eval x) (a.eval y)).run P w=.ok v w:=by
    intro op v h1 h2 h3 w
    rw [aM]
    have pS:∃q,a.eval x=.pointer q:=by rcases hx.2 with⟨_,hx⟩ | ⟨_,A,hx,_⟩ <;> exact⟨_,hx⟩
    obtain ⟨q,pS⟩:=pS
    rw [pS]
    have hb:∀ {w:World},(Op.equal t (.pointer q) (.pointer none)).run P w=.ok (decide (i<0)) w:=fun {w} => by rw [← pS];exact hb
    rcases h3 with rfl | rfl
    ·rw [h1 rfl];simp only [binOp,run_bind,hb];rfl
    ·rw [h2 rfl];simp only [binOp,run_bind,hb];rfl
   cases op <;> simp only at hk <;> try (simp at hk;done)
   ·exact⟨_,hk,dv (fun w'=>iU ho (az w') (k9 .eql _ (fun _=>rfl) (fun h=>by simp at h) (.inl rfl))) h (by simp only [aO,cf]) ag⟩
   ·exact⟨_,hk,dv (fun w'=>iU ho (az w') (k9 .neq _ (fun h=>by simp at h) (fun _=>rfl) (.inr rfl))) h (by simp only [aO,cf]) ag⟩
  | _=>rw [gd] at hk;simp [kq] at hk
 | may b dp cs =>
  rw [cH] at hk hx
  simp only [aO] at hx
  cases gd:bS s y with
  | jC =>
   rw [gd] at hk aM
   simp only [aO] at aM
   simp only [kq] at hk
   cases lQ:E.sB t
   ·rw [lQ] at hk;simp at hk
   rw [lQ] at hk
   obtain ⟨e,hu⟩:=bW.ptr t lQ
   have az:∀w:World,(eqGuard op t x y (a.eval x) (a.eval y)).run P w=.ok () w:=by
    intro w
    rcases hx with⟨_,hx⟩ | ⟨_,_,_,_,_,hx,_⟩ <;> exact vo (by rw [hx];exact .inr (.inr (.inr ⟨_,rfl⟩)))
   have hb:∀ {w:World},(Op.equal t (a.eval x) (.pointer none)).run P w=.ok (!b) w:=by
    intro w
    rcases hx with⟨h0,hx⟩ | ⟨h0,_,_,_,_,hx,_⟩
    ·rw [hx]
     unfold Op.equal Op.maxDepth Op.equalIn
     rw [run_bind,run_underlying hu]
     simp [h0,run_pure]
    ·rw [hx]
     unfold Op.equal Op.maxDepth Op.equalIn
     rw [run_bind,run_underlying hu]
     simp [h0,run_pure]
   have k9:∀(op:BinOp) (v:Value),(op=.eql→v=.bool (!b))→(op=.neq→v=.bool (b))→(op=.eql∨op=.neq)→∀ {w:World},(binOp op t (a.eval x) (a.eval y)).run P w=.ok v w:=by
    intro op v h1 h2 h3 w
    rw [aM]
    have pS:∃q,a.eval x=.pointer q:=by rcases hx with⟨_,hx⟩ | ⟨_,_,_,_,_,hx,_⟩ <;> exact⟨_,hx⟩
    obtain ⟨q,pS⟩:=pS
    rw [pS]
    have hb:∀ {w:World},(Op.equal t (.pointer q) (.pointer none)).run P w=.ok (!b) w:=fun {w} => by rw [← pS];exact hb
    rcases h3 with rfl | rfl
    ·rw [h1 rfl];simp only [binOp,run_bind,hb];rfl
    ·rw [h2 rfl];simp only [binOp,run_bind,hb];simp only [Bool.not_not];rfl
   cases op <;> simp only at hk <;> try (simp at hk;done)
   ·exact⟨_,hk,dv (fun w'=>iU ho (az w') (k9 .eql _ (fun _=>rfl) (fun h=>by simp at h) (.inl rfl))) h (by simp only [aO,cf]) ag⟩
   ·exact⟨_,hk,dv (fun w'=>iU ho (az w') (k9 .neq _ (fun h=>by simp at h) (fun _=>rfl) (.inr rfl))) h (by simp only [aO,cf]) ag⟩
  | _=>rw [gd] at hk;simp [kq] at hk
 | ptr p =>
  rw [cH] at hk hx
  simp only [aO] at hx
  obtain ⟨_,A,hx,_⟩:=hx
  cases gd:bS s y with
  | jC =>
   rw [gd] at hk aM
   simp only [aO] at aM
   simp only [kq] at hk
   cases lQ:E.sB t
   ·rw [lQ] at hk;simp at hk
   rw [lQ] at hk
   obtain ⟨e,hu⟩:=bW.ptr t lQ
   have az:∀w:World,(eqGuard op t x y (a.eval x) (a.eval y)).run P w=.ok () w:=fun w=>vo (by rw [hx];exact .inr (.inr (.inr ⟨_,rfl⟩)))
   have hb:∀ {w:World},(Op.equal t (.pointer (some A)) (.pointer none)).run P w=.ok false w:=by
    intro w
    unfold Op.equal Op.maxDepth Op.equalIn
    rw [run_bind,run_underlying hu]
    rfl
   cases op <;> simp only at hk <;> try (simp at hk;done)
   ·exact⟨_,hk,dv (fun w'=>iU ho (az w') (by rw [hx,aM];simp only [binOp,run_bind,hb];rfl)) h (by simp only [aO,cf]) ag⟩
   ·exact⟨_,hk,dv (fun w'=>iU ho (az w') (by rw [hx,aM];simp only [binOp,run_bind,hb];rfl)) h (by simp only [aO,cf];rfl) ag⟩
  | _=>rw [gd] at hk;simp [kq] at hk
 | _=>rw [cH] at hk;simp [kq] at hk
end
end Go.LM
namespace Go.LM
def cX{α : Type}(R : α → List Value→ah→Prop)(size:Nat):List α → List Value→ah→Prop
 | [],vs,_=>vs=[]
 | x :: xs,vs,F=>∃us aj G H,vs=us++aj∧R x us G∧us.length=size∧cX R size xs aj H∧ah.apart G H∧ah.sub G F∧ah.sub H F
section
variable{α : Type}{R iv : α → List Value→ah→Prop}{size:Nat}{w:World}
theorem cX.len:∀ {xs:List α} {vs:List Value} {F:ah},cX R size xs vs F→vs.length=xs.length*size
 | [],_,_,h=>by simp only [cX] at h;subst h;simp
 | x :: xs,_,_,h=>by
  obtain ⟨us,aj,G,H,rfl,_,h1,h2,_⟩:=h
  rw [List.length_append,h1,cX.len h2,List.length_cons,Nat.add_one_mul];omega
theorem cX.mono:∀ {xs:List α} {vs:List Value} {F F':ah},ah.sub F F'→cX R size xs vs F→cX R size xs vs F'
 | [],_,_,_,_,h=>h
 | x :: xs,_,_,_,hs,⟨us,aj,G,H,h1,h2,h3,h4,aZ,bd,bC⟩=>⟨us,aj,G,H,h1,h2,h3,h4,aZ,fun b o h=>hs b o (bd b o h),fun b o h=>hs b o (bC b o h)⟩
theorem cX.imp:∀ {xs:List α} {vs:List Value} {F:ah},cX R size xs vs F→(∀y us G,ah.sub G F→R y us G→iv y us G)→cX iv size xs vs F
 | [],_,_,h,_=>h
 | x :: xs,_,F,⟨us,aj,G,H,h1,h2,h3,h4,aZ,bd,bC⟩,dt =>
  ⟨us,aj,G,H,h1,dt _ _ _ bd h2,h3,cX.imp h4 (fun y us de hs=>dt y us de fun b o h=>bC b o (hs b o h)),aZ,bd,bC⟩
theorem cX.bare:∀ {xs:List α} {vs:List Value} {F:ah},cX R size xs vs F→(∀y us G,ah.sub G F→R y us G→iv y us ah.none)→cX iv size xs vs ah.none
 | [],_,_,h,_=>h
 | x :: xs,_,F,⟨us,aj,G,H,h1,h2,h3,h4,aZ,bd,bC⟩,dt =>
  ⟨us,aj,ah.none,ah.none,h1,dt _ _ _ bd h2,h3,cX.bare h4 (fun y us de hs=>dt y us de fun b o h=>bC b o (hs b o h)),fun _ _ h=>h.elim,fun _ _ h=>h,fun _ _ h=>h⟩
theorem cX.append:∀ {xs ys:List α} {us vs:List Value} {F G:ah},cX R size xs us F→cX R size ys vs G→ah.apart F G→cX R size (xs++ys) (us++vs) (F.or G)
 | [],ys,us,vs,F,G,h,k,_=>by
  simp only [cX] at h;subst h
  exact k.mono fun _ _ h=>.inr h
 | x :: xs,ys,us,vs,F,G,⟨a,b,A,B,h1,h2,h3,h4,aZ,bd,bC⟩,k,ha=>by
  refine⟨a,b++vs,A,B.or G,by rw [h1,List.append_assoc],h2,h3,cX.append h4 k (fun b o h=>ha b o (bC b o h)),?_,fun b o h=>.inl (bd b o h),fun b o h=>h.imp (bC b o) id⟩
  rintro b o g (h | h)
  ·exact aZ b o g h
  ·exact ha b o (bd b o g) h
theorem cX.row:∀ {xs:List α} {vs:List Value} {F:ah} {b o:Nat},cX R size xs vs F→b2 w b o vs→Row w R size xs b o F
 | [],_,_,_,_,_,_=>trivial
 | x :: xs,_,_,b,o,⟨us,aj,G,H,h1,h2,h3,h4,aZ,bd,bC⟩,hc=>by
  subst h1
  exact⟨us,G,H,h2,h3,hc.left,cX.row h4 (h3 ▸ hc.right),aZ,bd,bC⟩
theorem Row.so:∀ {xs:List α} {b o:Nat} {F:ah},Row w R size xs b o F→∃vs,cX R size xs vs F∧b2 w b o vs
 | [],_,_,_,_=>⟨[],rfl,b2.nil _ _ _⟩
 | x :: xs,b,o,F,⟨us,G,H,h1,h2,h3,h4,aZ,bd,bC⟩=>by
  obtain ⟨aj,k1,k2⟩:=Row.so h4
  exact⟨us++aj,⟨us,aj,G,H,rfl,h1,h2,k1,aZ,bd,bC⟩,h3.append (by rw [h2];exact k2)⟩
theorem cX.replicate{x : α}{us:List Value}(dt:R x us ah.none)(hl:us.length=size):∀n,cX R size (List.replicate n x) (List.replicate n us).flatten ah.none
 | 0=>rfl
 | n+1=>by
  rw [List.replicate_succ,List.replicate_succ,List.flatten_cons]
  exact⟨us,_,ah.none,ah.none,rfl,dt,hl,cX.replicate dt hl n,fun _ _ h=>h.elim,fun _ _ h=>h,fun _ _ h=>h⟩
end
mutual
theorem Hj{w:World}{Z F:ah} : ∀(t:ad) (m:a'),t.al w Z m t.zero t.cL F
 | .int _,_=>by simp only [ad.al,ad.zero,ad.cL]
 | .bool,_=>by simp only [ad.al,ad.zero,ad.cL]
 | .str,_=>by simp only [ad.al,ad.zero,ad.cL];exact⟨_,rfl,rfl⟩
 | .raw,_=>by simp only [ad.al,ad.zero,ad.cL];exact⟨trivial,_,_,_,rfl⟩
 | .sl t,.O e=>by simp only [ad.al,ad.zero,ad.cL];exact⟨none,0,rfl,.inl (by simp)⟩
 | .sl t,.R=>by simp only [ad.al,ad.zero,ad.cL];exact⟨none,0,rfl,.inl trivial⟩
 | .sl t,.S _=>by simp only [ad.al,ad.zero,ad.cL];exact⟨none,0,rfl,.inl trivial⟩
 | .st aj,m=>by simp only [ad.al,ad.zero,ad.cL];exact Ou aj m.parts
theorem Ou{w:World}{Z F:ah} : ∀(aj:ax) (m:cQ),aj.al w Z m aj.zero aj.cL F
 | .nil,_=>by simp only [ax.al,ax.cL]
 | .cons t aj,m=>by
  simp only [ax.al,ax.zero,ax.cL]
  exact⟨t.cL,aj.cL,ah.none,ah.none,rfl,Hj t m.ag,Ou aj m.dq,fun _ _ h=>h.elim,fun _ _ h=>h.elim,fun _ _ h=>h.elim⟩
end
section
variable{P:Program}{Q:Exit→Act→World→Prop}
variable{w0:World}{F0 Z0:ah}{n:cC}{s aq:an}{a b6:Act}{w w':World}{ι ba:Nat→bD}{Z Z':ah}
variable{E:Env}{o:Oper}{br : Type}{K:an→Option br}{r : br}{id:Nat}
theorem bF.ext{F S:ah}(hf:bF w0 F0 s w ι Z F)(hx:Ext w w' S):bF w0 F0 s w' ι Z F :=
 ⟨fun b o h=>⟨(hf.own b o h).1,Nat.lt_of_lt_of_le (hf.own b o h).2 hx.size⟩,hf.apart,hf.cY⟩
theorem Inv.fresh(h:Inv w0 F0 Z0 n s a w ι Z){F:ah}(hF:∀b o,F b o→w.heap.size≤b∧b<w'.heap.size):bF w0 F0 s w' ι Z F:=by
 have:=h.ext.size
 refine⟨fun b o hf=>⟨.inr (by have:=(hF b o hf).1;omega),(hF b o hf).2⟩,fun id hl b o h1 h2=>?_,fun b o h1 h2=>?_⟩
 ·have:=(h.own id hl b o h2).2;have:=(hF b o h1).1;omega
 ·have:=h.iw b o h2;have:=(hF b o h1).1;omega
def grown(w:World)(d:Nat)(arr:Array Value)(e:TypeId)(f:Nat×Nat):World := { w with drawn:=d,heap:=w.heap.push (.cells arr e f) }
theorem Aj(w:World)(d:Nat)(arr:Array Value)(e:TypeId)(f:Nat×Nat)(F:ah):Ext w (grown w d arr e f) F :=
 ⟨rfl,rfl,rfl,by simp [grown],fun b hb=>.inl (by simp only [grown];rw [Array.getElem?_push,if_neg (by omega)])⟩
theorem xn(w:World)(d:Nat)(arr:Array Value)(e:TypeId)(f:Nat×Nat):(grown w d arr e f).heap[w.heap.size]?=some (.cells arr e f):=by simp [grown]
theorem xm(w:World)(d:Nat)(arr:Array Value)(e:TypeId)(f:Nat×Nat)(o:Nat):(grown w d arr e f).cell? (at_ w.heap.size o)=arr[o]?:=cell_of_heap (xn ..) o
theorem Gj(w:World)(d:Nat)(arr:Array Value)(e:TypeId)(f:Nat×Nat):(grown w d arr e f).heap.size=w.heap.size+1:=by simp [grown]
theorem Inv.newRow(h:Inv w0 F0 Z0 n s a w ι Z){id:Nat}(b5:s.o id=.none){t:ad}{em:a'}{xs:List t.D}{vs:List Value}{G:ah}
  (he:cX (t.al w Z em) t.size xs vs G) (hG:bF w0 F0 s w ι Z G) (d:Nat) (arr:Array Value) (e:TypeId) (f:Nat×Nat) (c:Nat)
  (hv:∀(j:Nat) (v:Value),vs[j]?=some v→arr[j]?=some v) (hc:xs.length≤c) (hsz:c*t.size≤arr.size) (hf:f.1=f.2∨c*t.size≤f.1) (hf2:t.size=1∨f.1=f.2) :
  Inv w0 F0 Z0 n (s.bO id (.row t em 0 xs)) a (grown w d arr e f) (bQ ι id ⟨some (at_ w.heap.size 0),c,(ah.run w.heap.size 0 (c*t.size)).or G⟩) Z:=by
 have hx:=Aj w d arr e f ah.none
 have h1:=h.world hx
 have jJ:bF w0 F0 s (grown w d arr e f) ι Z (ah.run w.heap.size 0 (c*t.size)):=h.fresh (by rintro b o ⟨rfl,_,_⟩;rw [Gj];omega)
 have eW:=hG.ext hx
 refine h1.Ay b5 ?_ (jJ.or eW)
 refine .inr ⟨at_ w.heap.size 0,rfl,rfl,hc,fun j hj=>⟨⟨⟨arr[j]'(by simp only at hj;omega),?_⟩,?_⟩,?_⟩,fun j hj=>.inl ⟨rfl,by simp [at_],by simpa [at_] using hj⟩,G,?_,?_,fun _ _ h=>.inr h⟩
 ·show World.cell? _ (at_ w.heap.size (0+j))=_
  rw [xm];simp
 ·show World.frozen? _ (at_ w.heap.size (0+j))=_
  rw [pG,xn]
  simp only at hj
  simp only [Bool.and_eq_false_iff,decide_eq_false_iff_not]
  omega
 ·refine hf2.imp (fun h=>h) fun h2 k=>?_
  show World.frozen? _ (at_ w.heap.size k)=_
  rw [pG,xn]
  simp only [Bool.and_eq_false_iff,decide_eq_false_iff_not]
  omega
 ·refine cX.row (he.imp fun y us de hs hr=>ad.al.same (b4.iy hx h.iw fun _ _ _ h=>h) _ _ (b4.iy hx (fun b o az=>(hG.own b o (hs b o az)).2) fun _ _ _ h=>h) hr) ?_
  intro i v hi
  show World.cell? _ (at_ w.heap.size (0+i))=_
  rw [xm,Nat.zero_add];exact hv i v hi
 ·intro j hj az
  have:=(hG.own _ _ az).2
  simp [at_] at this
theorem xD{id:Nat}{t:ad}{em:a'}{ver:Nat}{xs:List t.D}{A:Addr}{c:Nat}{F:ah}(hA:A.spot=none)(hc:xs.length≤c) :
  cf w Z (s.bO id (.row t em ver xs)) (bQ ι id ⟨some A,c,F⟩) (.ag id none) (.slice (some A) xs.length c):=by
 refine⟨?_,some A,xs.length,c,rfl,?_⟩
 ·show bQ s.o id _ id≠_
  rw [ct];simp
 ·intro dk gb mJ fB ho
  have q4:(bQ s.o id (cj.row t em ver xs) id).core=.row dk gb mJ fB:=ho
  rw [ct] at q4 ⊢
  obtain ⟨rfl,_,_,h4⟩:=cj.row.inj q4
  have:=eq_of_heq h4;subst this
  refine⟨rfl,by simp [ea],hc,by simp [ea],.inr ⟨A,rfl,?_⟩⟩
  simp only [ea,Nat.zero_mul,Nat.add_zero]
  cases A;simp_all [at_]
theorem Ov(us:List Value):∀(n j:Nat),j<n*us.length→(List.replicate n us).flatten[j]?=us[j % us.length]?
 | 0,j,h=>by simp at h
 | n+1,j,h=>by
  rw [List.replicate_succ,List.flatten_cons]
  by_cases hj:j<us.length
  ·rw [List.getElem?_append_left hj,Nat.mod_eq_of_lt hj]
  ·have h':j<n*us.length+us.length:=by rw [← Nat.add_one_mul];exact h
   rw [List.getElem?_append_right (by omega),Ov us n (j-us.length) (by omega),← Nat.mod_eq_sub_mod (by omega)]
theorem Hk{z:Array Value}{m j:Nat}(us:List Value)(n:Nat)(hz:z.toList=us)(hm:m=n*us.length)(v:Value)(h:(List.replicate n us).flatten[j]?=some v) :
  ((Array.range m).map (z[· % z.size]!))[j]?=some v:=by
 subst hz
 have hj:j<n*z.toList.length:=by
  rcases Nat.lt_or_ge j (n*z.toList.length) with h1 | h1
  ·exact h1
  ·rw [List.getElem?_eq_none (by simp;simpa using h1)] at h;simp at h
 rw [Ov _ _ _ hj] at h
 have hl:z.toList.length=z.size:=by simp
 rw [hl] at h hj
 rw [Array.getElem?_map,Array.getElem?_range,if_pos (by rw [hm,hl];exact hj)]
 simp only [Option.map_some,Option.some.injEq]
 have cw:j % z.size<z.size:=by
  apply Nat.mod_lt
  rcases Nat.eq_zero_or_pos z.size with h0 | h0
  ·rw [h0] at hj;simp at hj
  ·exact h0
 rw [getElem!_pos z _ cw]
 simpa [cw] using h
theorem wrap_i64{i:Int}(h0:0≤i)(h1:i≤68719476736):IntKind.wrap .i64 i=i:=by
 simp [IntKind.wrap,IntKind.bits,IntKind.signed]
 omega
theorem XD{k:IntKind}{i:Int} :(asInt (.int k i)).run P w=.ok i w:=rfl
theorem vr(T:ad):(dB T T.cL).cells.toList=T.cL:=G' (ad.k7 T) ((q9 (w:=default) (Z:=ah.none) (s:=⟨fun _=>.aC,fun _=>.none,[]⟩) (ι := fun _=>⟨none,0,ah.none⟩) T).dY)
theorem run_askRoom{b:Nat} :(askRoom b).run P w=.ok () w:=by
 unfold askRoom;split <;> rfl
theorem AJ{e:TypeId}{arr:Array Value} :(newRow e arr).run P w=.ok (at_ w.heap.size 0) (grown w w.drawn arr e (0,0)):=by
 simp [newRow,Go.newObj,run_bind,Sem.run,run_pure,at_,grown]
theorem run_makeSlice{T:ad}{t e:TypeId}{k k':IntKind}{m:Int}(hu:P.underlying t=some (.slice e))(b9:T.ok P e)(h0:0≤m)(h1:m≤68719476736) :
  ∃arr:Array Value,(∀(j:Nat) (v:Value),(List.replicate m.toNat T.cL).flatten[j]?=some v→arr[j]?=some v)∧arr.size=m.toNat*T.size ∧
   (Instr.makeSlice t (.int k m) (.int k' m)).run P w=.ok (.slice (some (at_ w.heap.size 0)) m.toNat m.toNat) (grown w w.drawn arr e (0,0)):=by
 obtain ⟨i,gp,fV,vt,Hl⟩:=b9.info
 have hb:¬((i.bytes:Int)*m>2 ^ 48):=by
  have:(i.bytes:Int)*m≤2048*68719476736:=Int.mul_le_mul (by omega) h1 h0 (by omega)
  omega
 have xE:(dB T T.cL).cells.size=T.size:=by
  have:=congrArg List.length (vr T)
  rw [Array.length_toList,ad.k7] at this;exact this
 refine⟨(Array.range (m.toNat*T.size)).map fun j=>(if m.toNat*T.size=0 then #[] else(dB T T.cL).cells)[j % (if m.toNat*T.size=0 then #[] else(dB T T.cL).cells).size]!,?_,by simp,?_⟩
 ·intro j v hj
  by_cases hz:m.toNat*T.size=0
  ·have:(List.replicate m.toNat T.cL).flatten=[]:=by
    apply List.eq_nil_of_length_eq_zero
    simp [ad.k7];simpa using hz
   rw [this] at hj;simp at hj
  ·simp only [if_neg hz]
   exact Hk T.cL m.toNat (vr T) (by rw [ad.k7]) v hj
 ·unfold Instr.makeSlice
  simp only [run_bind,run_underlying hu,XD,run_typeInfo gp,wrap_i64 h0 h1]
  have AK:¬m<0:=by omega
  simp only [AK,hb,decide_false,Bool.or_false,Bool.false_or,Bool.false_eq_true,if_false,gt_iff_lt,Int.lt_irrefl]
  simp only [run_bind,run_askRoom,run_sizeOf b9]
  by_cases hz:m.toNat*T.size=0
  ·simp only [if_pos hz,run_bind,run_pure,AJ]
  ·simp only [if_neg hz,run_bind,run_pure,AJ,AB b9]
theorem XE{t:Nat}{x y:Operand}(bW:gE P E)(h:Inv w0 F0 Z0 n s a w ι Z)(ag:∀k,o.dst=some k→k<n)(ho:o.op=.makeSlice t x y)(hk:cP E id o s K=some r) :
  ∃aq,K aq=some r∧o.wp P a w (cT w0 F0 Z0 n aq) Q:=by
 unfold cP at hk
 rw [ho] at hk
 simp only at hk
 cases ht:E.ty t with
 | none=>rw [ht] at hk;simp at hk
 | some T =>
  rw [ht] at hk
  cases T with
  | sl T =>
   cases hx:j6 (bS s x) with
   | none=>rw [hx] at hk;simp at hk
   | some m =>
    cases aM:j6 (bS s y) with
    | none=>rw [hx,aM] at hk;simp at hk
    | some m' =>
     rw [hx,aM] at hk
     obtain ⟨az,hk2⟩:=q' hk
     clear hk
     have hk:=hk2
     clear hk2
     simp only [Bool.and_eq_true,decide_eq_true_eq,room] at az
     obtain ⟨⟨h0,rfl⟩,h1⟩:=az
     have h1:=Nat.le_of_ble_eq_true h1
     cases hm:mkObj s id (.row T T.own 0 (List.replicate m.toNat T.zero)) with
     | none=>rw [hm] at hk;simp at hk
     | some s1 =>
      rw [hm] at hk
      obtain ⟨b5,rfl⟩:=pR hm
      obtain ⟨k,hx⟩:=q_ hx (eR h x)
      obtain ⟨k',aM⟩:=q_ aM (eR h y)
      obtain ⟨e,hu,b9⟩:=k8 (bW.ty t _ ht)
      obtain ⟨arr,ha,has,hr⟩:=run_makeSlice (P:=P) (w:=w) (k:=k) (k':=k') hu b9 h0 (by omega)
      have hn:=h.newRow b5 (cX.replicate (Hj T T.own) (ad.k7 T) m.toNat) bF.none w.drawn arr e (0,0) m.toNat ha (by simp) (by omega) (.inl rfl) (.inr rfl)
      refine⟨_,hk,lM (v:=.slice (some (at_ w.heap.size 0)) m.toNat m.toNat) ?_ hn ?_ ag⟩
      ·unfold execOp;rw [ho]
       refine fF ?_
       rw [hx,aM];exact hr
      ·simp only [aO]
       have:=xD (w:=grown w w.drawn arr e (0,0)) (Z:=Z) (s:=s) (ι := ι) (id:=id) (em:=T.own) (ver:=0) (xs:=List.replicate m.toNat T.zero) (A:=at_ w.heap.size 0) (c:=m.toNat) (F:=(ah.run w.heap.size 0 (m.toNat*T.size)).or ah.none) rfl (by simp)
       simpa using this
  | _=>simp at hk
end
end Go.LM
namespace Go.LM
section
variable{P:Program}{Q:Exit→Act→World→Prop}
variable{w0:World}{F0 Z0:ah}{n:cC}{s aq:an}{a b6:Act}{w w':World}{ι ba:Nat→bD}{Z Z':ah}
variable{E:Env}{o:Oper}{br : Type}{K:an→Option br}{r : br}{id:Nat}
theorem vu{k:IntKind}{t:TypeId}(h:(ad.int k).ok P t):P.underlying t=some (.int k):=by simp only [ad.ok] at h;exact h.1
theorem vv{t:TypeId}(h:ad.str.ok P t):P.underlying t=some .string:=by simp only [ad.ok] at h;exact h.1
theorem Hm{w:World}{Z:ah}{k:IntKind} : ∀l:List Int,cX ((ad.int k).al w Z .R) 1 l (l.map (Value.int k)) ah.none
 | []=>rfl
 | x :: l=>⟨[.int k x],l.map (Value.int k),ah.none,ah.none,rfl,by simp only [ad.al],rfl,Hm l,fun _ _ h=>h.elim,fun _ _ h=>h,fun _ _ h=>h⟩
theorem XF{e:TypeId}{b:ByteArray} :
  ∃(arr:Array Value) (c d:Nat),(Conv.stringToBytes e b).run P w=.ok (.slice (some (at_ w.heap.size 0)) b.size c) (grown w d arr e (c,c+1))∧b.size≤c∧arr.size=c ∧
   ∀(j:Nat) (v:Value),((en b.data.toList).map (Value.int .u8))[j]?=some v→arr[j]?=some v:=by
 have hq:(Question.appendCap b.size 0 e).forced=false:=rfl
 have hsz:b.data.size=b.size:=rfl
 refine⟨(b.data.map fun x=>Value.int .u8 x.toNat)++Array.replicate (b.size+w.tape w.drawn (.appendCap b.size 0 e) % (2 ^ 63-b.size)-b.size) (.int .u8 0),b.size+w.tape w.drawn (.appendCap b.size 0 e) % (2 ^ 63-b.size),w.drawn+1,?_,by omega,by simp [hsz],?_⟩
 ·unfold Conv.stringToBytes
  simp only [run_bind,choose,Sem.run,hq,Bool.false_eq_true,if_false,Question.cut]
  simp only [newRow,Go.newObj,run_bind,Sem.run,run_pure,markStringish,Go.shape,Go.freeze]
  simp only [World.shape?,Array.getElem?_push_size,Sem.run]
  simp only [World.freeze,grown]
  simp only [Nat.succ_ne_zero,if_false,Nat.one_ne_zero,Result.ok.injEq,World.mk.injEq,true_and,and_true]
  apply Array.ext_getElem?
  intro i
  rw [Array.getElem?_modify,Array.getElem?_push,Array.getElem?_push]
  by_cases hi:w.heap.size=i
  ·subst hi
   have:b.size +(w.tape w.drawn (Question.appendCap b.size 0 e) % (2 ^ 63-b.size)+b.size-b.size)=b.size+w.tape w.drawn (Question.appendCap b.size 0 e) % (2 ^ 63-b.size):=by omega
   simp [hsz]
  ·simp [hi]
   by_cases c5:i=w.heap.size
   ·exact absurd c5.symm hi
   ·simp [c5]
 ·intro j v hj
  simp only [en,List.map_map,List.getElem?_map,Option.map_eq_some_iff] at hj
  obtain ⟨x,hx,rfl⟩:=hj
  have cw:j<b.data.size:=by
   rcases Nat.lt_or_ge j b.data.size with h | h
   ·exact h
   ·rw [List.getElem?_eq_none (by simpa using h)] at hx;simp at hx
  rw [Array.getElem?_append_left (by simpa using cw),Array.getElem?_map]
  rw [Array.getElem?_toList] at hx
  rw [hx];rfl
theorem Ow{w:World}{k:IntKind}{b:Nat} : ∀ {l:List Int} {o:Nat} {F:ah},Row w (fun(y:Int) us _=>us=[Value.int k y]) 1 l b o F→b2 w b o (l.map (Value.int k))
 | [],_,_,_=>b2.nil _ _ _
 | x :: l,o,_,⟨us,G,H,h1,h2,h3,h4,_⟩=>by
  subst h1
  exact b2.cons h3.head (Ow h4)
theorem XG(l:List Int):∀b:ByteArray,(l.foldl (fun r n=>r.push (UInt8.ofNat n.toNat)) b).data.toList=b.data.toList++gl l:=by
 induction l with
 | nil=>intro b;simp [gl]
 | cons x l ih =>
  intro b
  rw [List.foldl_cons,ih]
  simp [gl,ByteArray.push]
theorem XH{src dst:Nat}{x:Operand}{k1 k2:IntKind}(bW:gE P E)(h:Inv w0 F0 Z0 n s a w ι Z)(ag:∀k,o.dst=some k→k<n)(ho:o.op=.convert src dst x)(hs:E.ty src=some (.int k1))(ht:E.ty dst=some (.int k2))(hk:cP E id o s K=some r) :
  ∃aq,K aq=some r∧Pure P o a w (cT w0 F0 Z0 n aq):=by
 unfold cP at hk
 rw [ho] at hk
 simp only at hk
 have hx:=eR h x
 have dM:=bW.ty _ _ hs
 have pT:=bW.ty _ _ ht
 cases cH:bS s x with
 | aS c =>
  rw [cH] at hx hk
  simp only [aO] at hx
  unfold qX at hk
  rw [hs,ht] at hk
  cases c with
  | int k m =>
   simp only [cf] at hx
   refine⟨_,hk,dv (v:=.int k2 (k2.wrap m)) (fun w'=>?_) h (by simp only [aO,cf]) ag⟩
   unfold execOp;rw [ho]
   refine fF ?_
   rw [hx]
   unfold convert
   simp only [run_bind,run_underlying (vu dM),run_underlying (vu pT)]
   rfl
  | _=>simp at hk
 | _=>rw [cH] at hk;unfold qX at hk;rw [hs,ht] at hk;simp at hk
theorem XI{src dst:Nat}{x:Operand}(bW:gE P E)(h:Inv w0 F0 Z0 n s a w ι Z)(ag:∀k,o.dst=some k→k<n)(ho:o.op=.convert src dst x)(hk:cP E id o s K=some r) :
  ∃aq,K aq=some r∧o.wp P a w (cT w0 F0 Z0 n aq) Q:=by
 unfold cP at hk
 rw [ho] at hk
 simp only at hk
 have hx:=eR h x
 have hrun:∀ {u:Value} {w':World},(convert src dst (a.eval x)).run P w=.ok u w'→(execOp a.eval o).run P w=.ok (.value u) w':=by
  intro u w' hu;unfold execOp;rw [ho];exact fF hu
 cases hs:E.ty src with
 | none=>unfold qX at hk;rw [hs] at hk;simp at hk
 | some S =>
 cases ht:E.ty dst with
 | none=>unfold qX at hk;rw [hs,ht] at hk;cases S <;> simp at hk
 | some T =>
 have dM:=bW.ty _ _ hs
 have pT:=bW.ty _ _ ht
 cases cH:bS s x with
 | aS c =>
  rw [cH] at hx
  simp only [aO] at hx
  have hk1:qX E id s src dst (.aS c) (fun v s=>K (s.dst o.dst v))=some r:=by rw [← cH];exact hk
  unfold qX at hk1
  rw [hs,ht] at hk1
  split at hk1
  ·rename_i lP k m sQ sR nN
   obtain rfl:=aU sQ
   obtain rfl:=aU sR
   simp only [a6.aS.injEq] at nN;subst nN
   simp only [cf] at hx
   refine⟨_,hk1,lM (hrun (u:=.int lP (lP.wrap m)) (w':=w) ?_) h (by simp only [aO,cf]) ag⟩
   rw [hx]
   unfold convert
   simp only [run_bind,run_underlying (vu dM),run_underlying (vu pT)]
   rfl
  ·rename_i b sQ sR nN
   obtain rfl:=aU sQ
   obtain rfl:=aU sR
   simp only [a6.aS.injEq] at nN;subst nN
   obtain ⟨j8,hx,nH⟩:=hx
   refine⟨_,hk1,lM (hrun (u:=a.eval x) (w':=w) ?_) h (by simp only [aO];exact⟨j8,hx,nH⟩) ag⟩
   rw [hx]
   unfold convert
   simp only [run_bind,run_underlying (vv dM),run_underlying (vv pT)]
   rfl
  ·rename_i b sQ sR nN
   obtain rfl:=aU sQ
   obtain rfl:=aU sR
   simp only [a6.aS.injEq] at nN;subst nN
   obtain ⟨j8,hx,rfl⟩:=hx
   obtain ⟨e,hu,b9⟩:=k8 pT
   cases hm:mkObj s id (.row (.int .u8) .R 0 (en j8.data.toList)) with
   | none=>rw [hm] at hk1;simp at hk1
   | some s1 =>
    rw [hm] at hk1
    obtain ⟨b5,rfl⟩:=pR hm
    obtain ⟨arr,c,d,hr,hc,has,hv⟩:=XF (P:=P) (w:=w) (e:=e) (b:=j8)
    have hlen:(en j8.data.toList).length=j8.size:=by simp [en]
    have hn:=h.newRow b5 (t:=.int .u8) (em:=.R) (Hm (en j8.data.toList)) bF.none d arr e (c,c+1) c hv (by rw [hlen];exact hc) (by simp only [ad.size];omega) (.inr (by simp [ad.size])) (.inl rfl)
    refine⟨_,hk1,lM (hrun (u:=.slice (some (at_ w.heap.size 0)) j8.size c) ?_) hn ?_ ag⟩
    ·rw [hx]
     unfold convert
     simp only [run_bind,run_underlying (vv dM),run_underlying hu,run_underlying (vu b9)]
     exact hr
    ·simp only [aO]
     have:=xD (w:=grown w d arr e (c,c+1)) (Z:=Z) (s:=s) (ι := ι) (id:=id) (em:=.R) (ver:=0) (t:=.int .u8) (xs:=en j8.data.toList) (A:=at_ w.heap.size 0) (c:=c) (F:=(ah.run w.heap.size 0 (c*(ad.int .u8).size)).or ah.none) rfl (by rw [hlen];exact hc)
     rw [hlen] at this
     exact this
  ·rename_i c' sQ sR nN
   obtain rfl:=aU sQ
   obtain rfl:=aU sR
   simp only [a6.aS.injEq] at nN;subst nN
   obtain ⟨e,hu,b9⟩:=k8 dM
   cases hl:oA s (.int .u8) c with
   | none=>rw [hl] at hk1;simp at hk1
   | some xs =>
    rw [hl] at hk1
    simp only at hk1
    obtain ⟨cK,_,_⟩:=GQ h hl hx
    simp only [ad.al] at cK
    obtain ⟨A,re,hv,hrow⟩:=cK
    simp only [List.cons.injEq,and_true] at hv
    have Ox:(convert src dst (a.eval x)).run P w=(Conv.bytesToString (a.eval x)).run P w:=by
     rw [hv]
     exact run_convert_bytes_string w src dst e A xs.length re hu (vu b9) (vv pT)
    rcases hrow with rfl | ⟨a0,rfl,hsp,hrow,_,_⟩
    ·refine⟨_,hk1,lM (v:=.string .empty) (w':=w) (hrun ?_) h ?_ ag⟩
     ·rw [Ox,hv]
      cases A with
      | none=>rfl
      | some A =>
       exact run_bytesToString w A 0 re [] (by rfl)
     ·simp only [aO,cf]
      exact⟨_,rfl,rfl⟩
    ·obtain ⟨cM,dF,sp⟩:=a0
     simp only at hsp
     subst hsp
     have hc:=Ow (k:=.u8) (by simpa only [ad.size] using hrow)
     have Oy:=run_loadCells (P:=P) hc
     rw [List.length_map] at Oy
     refine⟨_,hk1,lM (v:=.string (xs.foldl (fun r n=>r.push (UInt8.ofNat n.toNat)) ByteArray.empty)) (w':=w) (hrun ?_) h ?_ ag⟩
     ·rw [Ox,hv]
      exact run_bytesToString w _ xs.length re xs Oy
     ·simp only [aO,cf]
      exact⟨_,rfl,by rw [XG];rfl⟩
  ·simp at hk1
 | _ =>
  exfalso
  rw [cH,qX.eq_def,hs,ht] at hk
  split at hk <;> simp_all
theorem Hn{gA:Bool}{k:IntKind} : ∀(l:List a6) (x:Int) (vs:List Value) (k':IntKind) (z:Int),aX w Z s ι l vs→sD gA k x l=some (k',z) →
  (vs.foldlM (if gA then Builtin.max2 else Builtin.min2) (.int k x)).run P w'=.ok (.int k' z) w'
 | [],x,vs,k',z,hr,h=>by
  simp only [aX] at hr;subst hr
  simp only [sD,Option.some.injEq,Prod.mk.injEq] at h
  obtain ⟨rfl,rfl⟩:=h
  rfl
 | v :: l,x,vs,k',z,hr,h=>by
  simp only [aX] at hr
  obtain ⟨u,us,rfl,h1,h2⟩:=hr
  cases v with
  | aS c =>
   cases c with
   | int Oz y =>
    simp only [sD] at h
    simp only [aO,cf] at h1
    subst h1
    rw [List.foldlM_cons,run_bind]
    have ih:=Hn l _ us k' z h2 h
    cases gA
    ·exact ih
    ·exact ih
   | _=>simp [sD] at h
  | _=>simp [sD] at h
theorem sS(h:Inv w0 F0 Z0 n s a w ι Z):∀l:List Operand,aX w Z s ι (l.map (bS s)) (l.map a.eval)
 | []=>by simp only [List.map_nil,aX]
 | x :: l=>by simp only [List.map_cons,aX];exact⟨_,_,rfl,eR h x,sS h l⟩
theorem OA{b:Builtin}{c:Call}(bW:gE P E)(h:Inv w0 F0 Z0 n s a w ι Z)(ag:∀k,o.dst=some k→k<n)(ho:o.op=.call c)(hb:c.callee=.builtin b)(hne:b≠.append)(XJ:b≠.clear)(hk:cP E id o s K=some r) :
  ∃aq,K aq=some r∧Pure P o a w (cT w0 F0 Z0 n aq):=by
 unfold cP at hk
 rw [ho] at hk
 simp only [hb] at hk
 have hvs:=sS h c.args.toList
 have hrun:∀ {u:Value} {cs:Array Bool} {w:World},(builtin b c.argTypes o.type (c.args.map fun | .const _=>true | _=>false) (c.args.map a.eval)).run P w=.ok (.value u) w→(execOp a.eval o).run P w=.ok (.value u) w:=by
  intro u _ w hu
  unfold execOp;rw [ho]
  simp only [run_bind,resolve,hb,run_pure,invoke]
  exact hu
 have k_:(c.args.map a.eval).toList=c.args.toList.map a.eval:=by simp
 cases b with
 | append=>exact absurd rfl hne
 | clear=>exact absurd rfl XJ
 | len =>
  generalize hl:c.args.toList.map (bS s)=l at hk hvs
  match l,hk,hvs with
  | [.aS jG],hk,hvs =>
   simp only [jE] at hk
   cases gq:c.argTypes.toList with
   | nil=>rw [gq] at hk;simp at hk
   | cons t aj =>
    rw [gq] at hk
    simp only at hk
    cases ht:E.ty t with
    | none=>rw [ht] at hk;simp at hk
    | some T =>
     rw [ht] at hk
     simp only at hk
     cases hf:kr s T jG
     ·rw [hf] at hk;simp at hk
     rw [hf] at hk
     simp only [cond_true] at hk
     cases hlen:nA s jG with
     | none=>rw [hlen] at hk;simp at hk
     | some m =>
      rw [hlen] at hk
      simp only [aX,aO] at hvs
      obtain ⟨u,us,he,hc,rfl⟩:=hvs
      have mK:(c.args.map a.eval)[0]?=some u:=by rw [← Array.getElem?_toList,k_,he];rfl
      have oK:c.argTypes[0]?=some t:=by rw [← Array.getElem?_toList,gq];rfl
      have b9:=bW.ty _ _ ht
      refine⟨_,hk,dv (v:=.int .i64 m) (fun w'=>hrun (cs := #[]) ?_) h (by simp only [aO,cf]) ag⟩
      unfold builtin
      refine fF ?_
      unfold Builtin.len_
      rw [mK,oK]
      simp only
      have XK:T=.str∨∃u,T=.sl u:=by
       cases jG <;> simp only [kr] at hf <;> try (simp at hf;done)
       ·exact .inl (beq_eq hf)
       ·exact .inr ⟨_,beq_eq hf⟩
       ·exact .inr ⟨_,beq_eq hf⟩
       ·split at hf
        ·exact .inr ⟨_,beq_eq hf⟩
        ·simp at hf
      rcases XK with rfl | ⟨v,rfl⟩
      ·rw [run_bind,run_underlying (vv b9)]
       cases jG <;> simp only [kr] at hf <;> try (simp [ad.beq] at hf;done)
       ·obtain ⟨j8,rfl,rfl⟩:=hc
        simp only [nA,Option.some.injEq] at hlen
        subst hlen
        rfl
       ·split at hf <;> simp [ad.beq] at hf
      ·obtain ⟨e,hu,_⟩:=k8 b9
       rw [run_bind,run_underlying hu]
       obtain ⟨A,k,rfl,_⟩:=Hi rfl hf hlen hc
       rfl
  | [],hk,_=>simp [jE] at hk
  | _ :: _ :: _,hk,_=>simp [jE] at hk
  | [.aC],hk,_ | [.hW _],hk,_ | [.ptr _],hk,_ | [.dd _ _ _],hk,_ | [.jC],hk,_ | [.ko],hk,_ | [.opt _ _],hk,_ | [.may _ _ _],hk,_ | [.qT _],hk,_ | [.fn _ _ _],hk,_ | [.ox _],hk,_=>simp [jE] at hk
 | max =>
  simp only [jE] at hk
  cases hm:u4 true (c.args.toList.map (bS s)) with
  | none=>rw [hm] at hk;simp at hk
  | some q =>
   obtain ⟨k,z⟩:=q
   rw [hm] at hk
   simp only at hk
   refine⟨_,hk,dv (v:=.int k z) (fun w'=>hrun (cs := #[]) ?_) h (by simp only [aO,cf]) ag⟩
   unfold builtin
   refine fF ?_
   unfold Builtin.max_
   rw [k_]
   generalize c.args.toList.map (bS s)=l at hm hvs
   generalize c.args.toList.map a.eval=vs at hvs
   unfold u4 at hm
   split at hm
   ·simp only [aX,aO,cf] at hvs
    obtain ⟨u,us,rfl,rfl,h2⟩:=hvs
    exact Hn _ _ us k z h2 hm
   ·simp at hm
 | min =>
  simp only [jE] at hk
  cases hm:u4 false (c.args.toList.map (bS s)) with
  | none=>rw [hm] at hk;simp at hk
  | some q =>
   obtain ⟨k,z⟩:=q
   rw [hm] at hk
   simp only at hk
   refine⟨_,hk,dv (v:=.int k z) (fun w'=>hrun (cs := #[]) ?_) h (by simp only [aO,cf]) ag⟩
   unfold builtin
   refine fF ?_
   unfold Builtin.min_
   rw [k_]
   generalize c.args.toList.map (bS s)=l at hm hvs
   generalize c.args.toList.map a.eval=vs at hvs
   unfold u4 at hm
   split at hm
   ·simp only [aX,aO,cf] at hvs
    obtain ⟨u,us,rfl,rfl,h2⟩:=hvs
    exact Hn _ _ us k z h2 hm
   ·simp at hm
 | _=>simp [jE] at hk
end
end Go.LM
namespace Go.LM
theorem OB{α : Type} : ∀(B:List (List α)) (i:Nat) (b cs:List α),B[i]?=some b→cs.length=b.length→(B.set i cs).flatten=c8 B.flatten (B.take i).flatten.length cs
 | [],i,b,cs,h,_=>by simp at h
 | x :: B,0,b,cs,h,hl=>by
  simp at h;subst h
  simp only [List.set_cons_zero,List.flatten_cons,List.take_zero,List.flatten_nil,List.length_nil]
  unfold c8
  simp [hl]
 | x :: B,i+1,b,cs,h,hl=>by
  simp only [List.getElem?_cons_succ] at h
  simp only [List.set_cons_succ,List.flatten_cons,List.take_succ_cons,List.length_append]
  rw [NW (by omega),OB B i b cs h hl]
  congr 2;omega
theorem XL{α : Type}{B:List (List α)}{i:Nat}{b:List α}(h:B[i]?=some b):(B.take i).flatten.length+b.length≤B.flatten.length:=by
 induction B generalizing i with
 | nil=>simp at h
 | cons x B ih =>
  cases i with
  | zero=>simp at h;subst h;simp
  | succ i =>
   simp only [List.getElem?_cons_succ] at h
   have:=ih h
   simp only [List.take_succ_cons,List.flatten_cons,List.length_append];omega
theorem OC:∀(vs:List Value) (k off:Nat) (cells:Array Value),off+k+vs.length≤cells.size →
  ((vs.zipIdx k).foldl (fun cs (c,j)=>cs.setIfInBounds (off+j) c) cells).toList=c8 cells.toList (off+k) vs
 | [],k,off,cells,_=>by simp [Az]
 | v :: vs,k,off,cells,h=>by
  simp only [List.length_cons] at h
  rw [List.zipIdx_cons,List.foldl_cons,OC vs (k+1) off _ (by simp;omega)]
  simp only [Array.toList_setIfInBounds]
  have cw:off+k<cells.toList.length:=by simp;omega
  apply List.ext_getElem?
  intro j
  unfold c8
  simp only [List.getElem?_append,List.length_append,List.length_take,List.length_set,List.length_cons,List.getElem?_take,List.getElem?_drop,List.getElem?_set]
  have rf:min (off +(k+1)) cells.toList.length=off+k+1:=by omega
  have vn:min (off+k) cells.toList.length=off+k:=by omega
  rw [rf,vn]
  by_cases h1:j<off+k
  ·have:j≠off+k:=by omega
   simp [show j<off+k+1+vs.length by omega,show j<off+k+1 by omega,show j<off +(k+1) by omega,show j<off+k +(vs.length+1) by omega,h1,Ne.symm this]
  ·by_cases h2:j=off+k
   ·subst h2
    simp only [Array.length_toList] at cw
    simp [show off+k<off+k+1+vs.length by omega,show off+k<off +(k+1) by omega,cw]
   ·by_cases h3:j<off+k+1+vs.length
    ·rw [if_pos h3,if_neg (show ¬j<off+k+1 by omega),if_pos (show j<off+k +(vs.length+1) by omega),if_neg h1]
     rw [show j-(off+k)=(j-(off+k+1))+1 by omega,List.getElem?_cons_succ]
    ·rw [if_neg h3,if_neg (show ¬j<off+k +(vs.length+1) by omega)]
     rw [if_neg (by omega)]
     congr 1;omega
def Ho(place:Nat→Option (Nat×Nat))(ty:Nat→Option ad)(lens:List Nat):Prop :=
 ∀i t,ty i=some t→place i=some ((lens.take i).sum,t.size)∧lens[i]?=some t.size
section
variable{P:Program}{Q:Exit→Act→World→Prop}
variable{w0:World}{F0 Z0:ah}{n:cC}{s aq:an}{a b6:Act}{w w':World}{ι ba:Nat→bD}{Z Z':ah}
variable{E:Env}{o:Oper}{br : Type}{K:an→Option br}{r : br}{id:Nat}
theorem XM{α : Type}(B:List (List α)):B.flatten.length=(B.map List.length).sum:=by simp [List.length_flatten]
theorem Hp(h:Inv w0 F0 Z0 n s a w ι Z){place:Nat→Option (Nat×Nat)}{ty:Nat→Option ad}{lens:List Nat}(fI:Ho place ty lens) :
  ∀(ps:List (Nat×Operand)) (B mL:List (List a8)) (cells:Array Value),B.map List.length=lens→bH w Z s ι B.flatten cells.toList→qV s ty ps B=some mL →
   ∃mM,Instr.fill place cells (ps.map fun p=>(p.1,a.eval p.2))=some mM∧bH w Z s ι mL.flatten mM.toList∧mL.map List.length=lens
 | [],B,mL,cells,hl,hc,hf=>by
  simp only [qV,Option.some.injEq] at hf;subst hf
  exact⟨cells,rfl,hc,hl⟩
 | (i,x) :: ps,B,mL,cells,hl,hc,hf=>by
  simp only [qV] at hf
  cases ht:ty i with
  | none=>rw [ht] at hf;simp at hf
  | some t =>
   rw [ht] at hf
   simp only at hf
   cases hcs:im t (bS s x) with
   | none=>rw [hcs] at hf;simp at hf
   | some cs =>
    rw [hcs] at hf
    simp only at hf
    cases hb:Nat.beq cs.length t.size
    ·rw [hb] at hf;simp at hf
    rw [hb] at hf
    simp only [cond_true] at hf
    have hb:=Nat.eq_of_beq_eq_true hb
    obtain ⟨au,pU⟩:=fI i t ht
    have hx:=q8 hcs (eR h x)
    have hxl:=hx.len
    rw [hb] at hxl
    have XN:∃b,B[i]?=some b∧b.length=t.size:=by
     rw [← hl,List.getElem?_map] at pU
     cases vw:B[i]? with
     | none=>rw [vw] at pU;simp at pU
     | some b=>rw [vw] at pU;simp at pU;exact⟨b,rfl,pU⟩
    obtain ⟨b,vw,AL⟩:=XN
    have fi:(B.take i).flatten.length=(lens.take i).sum:=by rw [XM,← hl,List.map_take]
    have hle:=XL vw
    have hcl:=hc.len
    simp only [Array.length_toList] at hxl hcl
    have hnew:bH w Z s ι (B.set i cs).flatten (c8 cells.toList (lens.take i).sum (a.eval x).cells.toList):=by
     rw [OB B i b cs vw (by omega),fi]
     unfold c8
     have:=bH.c8 hc hx (lens.take i).sum
     unfold c8 at this
     exact this
    have XO:(B.set i cs).map List.length=lens:=by
     rw [List.map_set,hl]
     apply List.ext_getElem?
     intro j
     rw [List.getElem?_set]
     by_cases hj:i=j
     ·subst hj
      rw [pU,if_pos rfl]
      have:i<lens.length:=by
       rcases Nat.lt_or_ge i lens.length with h | h
       ·exact h
       ·rw [List.getElem?_eq_none h] at pU;simp at pU
      rw [if_pos this,hb]
     ·rw [if_neg hj]
    have XP:=OC (a.eval x).cells.toList 0 (lens.take i).sum cells (by simp;omega)
    have ih:=Hp h fI ps (B.set i cs) mL (((a.eval x).cells.zipIdx).foldl (fun cs (c,j)=>cs.setIfInBounds ((lens.take i).sum+j) c) cells) XO (by
     rw [← Array.foldl_toList,Array.toList_zipIdx]
     rw [XP];exact hnew) hf
    obtain ⟨mM,h1,h2,h3⟩:=ih
    refine⟨mM,?_,h2,h3⟩
    rw [List.map_cons]
    unfold Instr.fill
    rw [au]
    simp only
    rw [if_neg (by simp only [Bool.or_eq_true,decide_eq_true_eq,not_or,ne_eq,Decidable.not_not];omega)]
    exact h1
def ax.places:ax→Nat→List (Nat×Nat)
 | .nil,_=>[]
 | .cons t aj,off=>(off,t.size) :: ax.places aj (off+t.size)
theorem OD:∀(aj:ax) (cm:List Field) (off:Nat),aj.okF P cm off→cm.mapM (fun f=>(P.info? f.type).map fun i=>(f.offset,i.size))=some (aj.places off)
 | .nil,cm,off,h=>by simp only [ax.okF] at h;subst h;rfl
 | .cons t aj,cm,off,h=>by
  simp only [ax.okF] at h
  obtain ⟨f,k6,rfl,rfl,h1,h2⟩:=h
  obtain ⟨i,hi,hsz,_⟩:=h1.info
  have ih:=OD aj k6 _ h2
  simp only [List.mapM_cons,hi,Option.map_some,ih,ax.places,hsz]
  rfl
theorem OE:∀aj:ax,aj.nB.flatten=aj.iQ
 | .nil=>rfl
 | .cons t aj=>by simp only [ax.nB,ax.iQ,List.flatten_cons,OE aj]
theorem Hq(t:ad):t.iQ.length=t.size:=by
 have:=(q9 (w:=default) (Z:=ah.none) (s:=⟨fun _=>.aC,fun _=>.none,[]⟩) (ι := fun _=>⟨none,0,ah.none⟩) t).len
 rw [← this,ad.k7]
theorem OF:∀(aj:ax) (off:Nat) (i:Nat) (t:ad),aj.nth i=some t→(aj.places off)[i]?=some (off +((aj.nB.map List.length).take i).sum,t.size)∧(aj.nB.map List.length)[i]?=some t.size
 | .nil,_,_,_,h=>by simp [ax.nth] at h
 | .cons u aj,off,0,t,h=>by
  simp only [ax.nth,Option.some.injEq] at h;subst h
  simp [ax.places,ax.nB,Hq]
 | .cons u aj,off,i+1,t,h=>by
  simp only [ax.nth] at h
  obtain ⟨h1,h2⟩:=OF aj (off+u.size) i t h
  simp only [ax.places,ax.nB,List.map_cons,List.getElem?_cons_succ,List.take_succ_cons,List.sum_cons,Hq]
  exact⟨by rw [h1];simp;omega,h2⟩
theorem OG{t:Nat}{parts:Array (Nat×Operand)}(bW:gE P E)(h:Inv w0 F0 Z0 n s a w ι Z)(ag:∀k,o.dst=some k→k<n)(ho:o.op=.build t parts)(hk:cP E id o s K=some r) :
  ∃aq,K aq=some r∧Pure P o a w (cT w0 F0 Z0 n aq):=by
 unfold cP at hk
 rw [ho] at hk
 simp only at hk
 cases ht:E.ty t with
 | none=>rw [ht] at hk;simp at hk
 | some T =>
  rw [ht] at hk
  cases T with
  | st aj =>
   simp only at hk
   cases hf:qV s aj.nth parts.toList aj.nB with
   | none=>rw [hf] at hk;simp at hk
   | some B =>
    rw [hf] at hk
    have b9:=bW.ty t _ ht
    obtain ⟨it,gp,fV,vt,Hl⟩:=b9.info
    simp only [ad.ok] at b9
    obtain ⟨_,cm,hu,ku⟩:=b9
    have fG:=OD aj cm.toList 0 ku
    have AL:Ho ((aj.places 0).toArray[·]?) aj.nth (aj.nB.map List.length):=by
     intro i dk hi
     have:=OF aj 0 i dk hi
     simpa using this
    obtain ⟨mM,h1,h2,h3⟩:=Hp h AL parts.toList aj.nB B (dB (.st aj) (ad.st aj).cL).cells rfl (by
     rw [OE,vr];exact q9 (.st aj)) hf
    refine⟨_,hk,dv (v:=.agg mM) (fun w'=>?_) h (by simp only [aO];exact⟨mM.toList,rfl,h2⟩) ag⟩
    unfold execOp;rw [ho]
    refine fF ?_
    refine run_build w' t _ mM ?_
    unfold Program.built
    rw [gp,hu]
    simp only [vt,fG]
    rw [← h1]
    congr 1
    simp
  | _=>simp at hk
theorem OH{t:ad}{m:a'}{x:t.D}{us:List Value}{F:ah}(h:t.al w (Z.or (c9 ι [])) m x us F):t.al w Z m x us F :=
 ad.al.mono (fun b o hz=>by rcases hz with h | ⟨d,ag,_⟩;exact h;simp at ag) t m (fun _ _ h=>h) h
theorem OI:∀(B:List (List a8)) (t:ad) (m:a') (s s1:an) (xs:List t.D) (vs:List Value) (Z:ah),pH t m B s=some (xs,s1)→Inv w0 F0 Z0 n s a w ι Z→bH w Z s ι B.flatten vs →
  ∃F Z',Inv w0 F0 Z0 n s1 a w ι Z'∧eV s ι Z s1 Z'∧bF w0 F0 s1 w ι Z' F∧cX (t.al w Z' m) t.size xs vs F∧∀b o,F b o→∃id,(s.o id).live∧(ι id).F b o
 | [],t,m,s,s1,xs,vs,Z,hi,h,hc=>by
  simp only [pH,Option.some.injEq,Prod.mk.injEq] at hi
  obtain ⟨rfl,rfl⟩:=hi
  cases vs with
  | nil=>exact⟨ah.none,Z,h,.refl,.none,rfl,fun _ _ h=>h.elim⟩
  | cons v vs=>exact hc.elim
 | cs :: B,t,m,s,s1,xs,vs,Z,hi,h,hc=>by
  simp only [pH] at hi
  obtain ⟨r,hr,hi⟩:=bb hi
  rw [List.flatten_cons] at hc
  obtain ⟨us,aj,rfl,pP,hcu,XQ⟩:=hc.split
  obtain ⟨aR,bE,F,cp,he,h1,hs1,hc1,nO,cK,_,OJ,_,hF⟩:=ad.k0 t false m cs s [] r us Z hr h hcu (by simp)
  cases ef:r.2.1 with
  | cons c l=>rw [ef] at hi;simp at hi
  | nil =>
   rw [ef] at hi hc1
   simp only at hi
   obtain ⟨q,hq,hi⟩:=bb hi
   simp only [Option.some.injEq,Prod.mk.injEq] at hi
   obtain ⟨rfl,rfl⟩:=hi
   cases bE with
   | cons v l=>exact hc1.elim
   | nil =>
    rw [List.append_nil] at he
    subst he
    rw [OJ rfl] at cK
    have cK:=OH cK
    obtain ⟨G,bK,h2,nP,hf2,hels,hG⟩:=OI B t m r.2.2.1 q.2 q.1 aj cp hq h1 (Xh hs1 XQ)
    refine⟨F.or G,bK,h2,hs1.trans nP,(nO.shrink nP).or hf2,⟨us,aj,F,G,rfl,ad.al.mono nP.dA t m (fun _ _ h=>h) cK,(ad.al.len t m cK).1,hels,?_,fun _ _ h=>.inl h,fun _ _ h=>.inr h⟩,?_⟩
    ·intro b o hb az
     obtain ⟨j,hj,xF⟩:=hG b o az
     exact nO.apart j hj b o hb xF
    ·rintro b o (hb | hb)
     ·exact hF b o hb
     ·obtain ⟨j,hj,xF⟩:=hG b o hb
      obtain ⟨g1,g2⟩:=hs1.live hj
      exact⟨j,g1,xF⟩
theorem OK{t:ad}{m:a'} : ∀(B:List (List a8)) (s:an) {xs:List t.D} {s1:an},pH t m B s=some (xs,s1)→xs.length=B.length
 | [],s,xs,s1,h=>by simp only [pH,Option.some.injEq,Prod.mk.injEq] at h;rw [← h.1];rfl
 | cs :: B,s,xs,s1,h=>by
  simp only [pH] at h
  obtain ⟨r,hr,h⟩:=bb h
  split at h
  ·obtain ⟨q,hq,h⟩:=bb h
   simp only [Option.some.injEq,Prod.mk.injEq] at h
   rw [← h.1,List.length_cons,List.length_cons,OK B _ hq]
  ·simp at h
theorem XR{T:ad}{t e len:Nat}{parts:Array (Nat×Value)}{cells:Array Value}(hu:P.underlying t=some (.slice e))(b9:T.ok P e)(hs:len*T.size≤16777216)
  (hf:Instr.fill (fun i=>some (i*T.size,T.size)) ((Array.range (len*T.size)).map ((if len*T.size=0 then #[] else(dB T T.cL).cells)[· % (if len*T.size=0 then #[] else(dB T T.cL).cells).size]!)) parts.toList=some cells) :
  (Instr.buildSlice t len parts).run P w=.ok (.slice (some (at_ w.heap.size 0)) len len) (grown w w.drawn cells e (0,0)):=by
 unfold Instr.buildSlice
 simp only [run_bind,run_underlying hu,run_sizeOf b9]
 rw [if_neg (by omega)]
 by_cases hz:len*T.size=0
 ·simp only [hz,if_true] at hf ⊢
  simp only [run_bind,run_pure,hf,AJ]
 ·simp only [hz,if_false] at hf ⊢
  simp only [run_bind,run_pure,AB b9,hf,AJ]
theorem XS{t len:Nat}{parts:Array (Nat×Operand)}(bW:gE P E)(h:Inv w0 F0 Z0 n s a w ι Z)(ag:∀k,o.dst=some k→k<n)(ho:o.op=.buildSlice t len parts)(hk:cP E id o s K=some r) :
  ∃aq,K aq=some r∧o.wp P a w (cT w0 F0 Z0 n aq) Q:=by
 unfold cP at hk
 rw [ho] at hk
 simp only at hk
 cases ht:E.ty t with
 | none=>rw [ht] at hk;simp at hk
 | some S =>
  rw [ht] at hk
  cases S with
  | sl T =>
   simp only at hk
   cases hle:Nat.ble (len*T.size) 16777216
   ·rw [hle] at hk;simp at hk
   rw [hle] at hk
   simp only [cond_true] at hk
   have hle:=Nat.le_of_ble_eq_true hle
   cases hf:qV s (fun i=>cond (Nat.blt i len) (some T) none) parts.toList (List.replicate len T.iQ) with
   | none=>rw [hf] at hk;simp at hk
   | some B =>
    rw [hf] at hk
    simp only at hk
    generalize hm:GA T s B=m at hk
    cases hi:pH T m B s with
    | none=>rw [hi] at hk;simp at hk
    | some q =>
     obtain ⟨xs,s1⟩:=q
     rw [hi] at hk
     simp only at hk
     cases mI:mkObj s1 id (.row T m 0 xs) with
     | none=>rw [mI] at hk;simp at hk
     | some s2 =>
      rw [mI] at hk
      obtain ⟨b5,rfl⟩:=pR mI
      obtain ⟨e,hu,b9⟩:=k8 (bW.ty t _ ht)
      have AL:Ho (fun i=>some (i*T.size,T.size)) (fun i=>cond (Nat.blt i len) (some T) none) (List.replicate len T.size):=by
       intro i dk hi
       have hi:cond (Nat.blt i len) (some T) none=some dk:=hi
       cases hb:Nat.blt i len
       ·rw [hb] at hi;simp at hi
       ·rw [hb] at hi
        simp only [cond_true,Option.some.injEq] at hi
        subst hi
        have cw:i<len:=Nat.lt_of_lt_of_le (Nat.lt_succ_self i) (Nat.le_of_ble_eq_true hb)
        refine⟨?_,by simp [List.getElem?_replicate,cw]⟩
        rw [List.take_replicate,Nat.min_eq_left (by omega)]
        simp
      have XT:∀k,bH w Z s ι (List.replicate k T.iQ).flatten (List.replicate k T.cL).flatten:=by
       intro k
       induction k with
       | zero=>exact trivial
       | succ k ih=>rw [List.replicate_succ,List.replicate_succ,List.flatten_cons,List.flatten_cons];exact(q9 T).append ih
      have hcells:((Array.range (len*T.size)).map ((if len*T.size=0 then #[] else(dB T T.cL).cells)[· % (if len*T.size=0 then #[] else(dB T T.cL).cells).size]!)).toList=(List.replicate len T.cL).flatten:=by
       apply List.ext_getElem?
       intro j
       have hJ:(List.replicate len T.cL).flatten.length=len*T.size:=by simp [ad.k7]
       by_cases hj:j<len*T.size
       ·have hz:¬len*T.size=0:=by omega
        simp only [if_neg hz]
        obtain ⟨v,hv⟩:∃v,(List.replicate len T.cL).flatten[j]?=some v:=⟨_,List.getElem?_eq_getElem (by omega)⟩
        rw [hv,Array.getElem?_toList]
        exact Hk T.cL len (vr T) (by rw [ad.k7]) v hv
       ·rw [List.getElem?_eq_none (by simp;omega),List.getElem?_eq_none (by omega)]
      obtain ⟨mM,h1,h2,h3⟩:=Hp h AL parts.toList (List.replicate len T.iQ) B _ (by simp [Hq]) (by rw [hcells];exact XT len) hf
      obtain ⟨F,cp,gp,hs1,nO,hels,_⟩:=OI B T m s s1 xs _ Z hi h h2
      have hxl:xs.length=len:=by
       have e1:B.length=len:=by have:=congrArg List.length h3;simpa using this
       rw [← e1];exact OK B s hi
      have hcs:len*T.size≤mM.size:=by
       have:=hels.len
       simp only [Array.length_toList] at this
       rw [hxl] at this;omega
      have hn:=gp.newRow b5 hels nO w.drawn mM e (0,0) len (fun j v hv=>by simpa using hv) (by omega) hcs (.inl rfl) (.inr rfl)
      refine⟨_,hk,lM (v:=.slice (some (at_ w.heap.size 0)) len len) ?_ hn ?_ ag⟩
      ·unfold execOp;rw [ho]
       refine fF ?_
       refine XR hu b9 hle ?_
       rw [← h1]
       congr 1
       simp
      ·simp only [aO]
       have:=xD (w:=grown w w.drawn mM e (0,0)) (Z:=cp) (s:=s1) (ι := ι) (id:=id) (em:=m) (ver:=0) (xs:=xs) (A:=at_ w.heap.size 0) (c:=len) (F:=(ah.run w.heap.size 0 (len*T.size)).or F) rfl (by omega)
       rw [hxl] at this
       exact this
  | _=>simp at hk
end
end Go.LM
namespace Go.LM
section
variable{P:Program}{Q:Exit→Act→World→Prop}
variable{w0:World}{F0 Z0:ah}{n:cC}{s aq:an}{a b6:Act}{w w':World}{ι ba:Nat→bD}{Z Z':ah}
variable{E:Env}{o:Oper}{br : Type}{K:an→Option br}{r : br}{id:Nat}
theorem Inv.AM(h:Inv w0 F0 Z0 n s a w ι Z){S:ah}(hF:bF w0 F0 s w ι Z S)(hx:Ext w w' S):Inv w0 F0 Z0 n s a w' ι Z:=by
 have hm:eB w Z s ι w' Z s ι := by
  refine⟨fun id=>.stay _ _,fun _ _ h=>h,b4.iy hx h.q5 ?_⟩
  rintro b o (hz | ⟨id,hl,_,_,hf⟩) hs
  ·exact hF.cY b o hs hz
  ·exact hF.apart id hl b o hs hf
 refine h.next hm hx (fun b o hs=>(hF.own b o hs).1) (fun _ _ h=>.inl h) ?_ h.cY (fun k=>(h.tmps k).move hm) h.size h.defers
 intro id _ hne;exact absurd ⟨rfl,rfl⟩ hne
theorem Inv.freeze(h:Inv w0 F0 Z0 n s a w ι Z){S:ah}(hF:bF w0 F0 s w ι Z S):Inv w0 F0 Z0 n s a w ι (Z.or S):=by
 have hm:eB w Z s ι w (Z.or S) s ι :=⟨fun id=>.stay _ _,fun _ _ h=>.inl h,b4.refl _ _⟩
 refine h.next hm (Ext.refl _ ah.none) (fun _ _ h=>h.elim) ?_ ?_ ?_ (fun k=>(h.tmps k).move hm) h.size h.defers
 ·rintro b o (hz | hs)
  ·exact .inl hz
  ·exact .inr (hF.own b o hs)
 ·intro id _ hne;exact absurd ⟨rfl,rfl⟩ hne
 ·rintro id hl b o h1 (h2 | h2)
  ·exact h.cY id hl b o h1 h2
  ·exact hF.apart id hl b o h2 h1
theorem bF.freeze{F S:ah}(hF:bF w0 F0 s w ι Z F)(ha:ah.apart F S):bF w0 F0 s w ι (Z.or S) F :=
 ⟨hF.own,hF.apart,fun b o h1 h2=>h2.elim (hF.cY b o h1) (ha b o h1)⟩
theorem bF.sub{F G:ah}(hF:bF w0 F0 s w ι Z F)(h:ah.sub G F):bF w0 F0 s w ι Z G :=
 ⟨fun b o az=>hF.own b o (h b o az),fun id hl b o az=>hF.apart id hl b o (h b o az),fun b o az=>hF.cY b o (h b o az)⟩
def ah.diff(F G:ah):ah:=fun b o=>F b o∧¬G b o
theorem Ak{t:ad}{m:a'} : ∀ {xs:List t.D} {vs:List Value} {F:ah},cX (t.al w Z m) t.size xs vs F→∀v∈vs,dY v=true
 | [],_,_,h=>by simp only [cX] at h;subst h;simp
 | x :: xs,_,_,⟨us,aj,G,H,h1,h2,h3,h4,_⟩=>by
  subst h1
  intro v hv
  rcases List.mem_append.1 hv with h | h
  ·exact(ad.al.len t m h2).2 v h
  ·exact Ak h4 v h
theorem qQ{A:Option Addr}{size m c:Nat}{vs:List Value}(hl:vs.length=m*size)(h:m=0∨∃b o,A=some (at_ b o)∧b2 w b o vs) :
  (Builtin.firstCells size m (.slice A m c)).run P w=.ok vs.toArray w:=by
 unfold Builtin.firstCells
 rcases h with rfl | ⟨b,o,rfl,hc⟩
 ·have:vs=[]:=List.eq_nil_of_length_eq_zero (by simpa using hl)
  subst this
  cases A with
  | none=>rfl
  | some A=>simp only [Nat.zero_mul];rfl
 ·simp only [← hl]
  exact run_loadCells hc
theorem AN{t:ad}{e:a'}{xs:List t.D}{v:Value}{F:ah}(h:(ad.sl t).al w Z (.O e) xs [v] F) :
  ∃A c vs,v=.slice A xs.length c∧cX (t.al w Z e) t.size xs vs F∧∀d,(Builtin.firstCells t.size xs.length v).run P { w with drawn:=d } = .ok vs.toArray { w with drawn:=d } := by
 simp only [ad.al] at h
 obtain ⟨A,c,hv,h⟩:=h
 simp only [List.cons.injEq,and_true] at hv
 subst hv
 rcases h with⟨rfl,rfl⟩ | ⟨⟨b,o,sp⟩,rfl,hr⟩
 ·exact⟨A,0,[],rfl,rfl,fun d=>qQ (by simp) (.inl rfl)⟩
 ·obtain ⟨G,g1,g2,g3⟩:=hr.row
  have hsp:=hr.spot
  simp only at hsp
  subst hsp
  obtain ⟨vs,h1,h2⟩:=g1.so
  exact⟨_,c,vs,rfl,h1.mono g3,fun d=>qQ h1.len (.inr ⟨b,o,rfl,h2⟩)⟩
theorem XU{t:ad}{xs:List t.D}{v:Value}{F:ah}(h:(ad.sl t).al w Z .R xs [v] F) :
  ∃A c vs,v=.slice A xs.length c∧cX (t.al w Z .R) t.size xs vs ah.none∧∀d,(Builtin.firstCells t.size xs.length v).run P { w with drawn:=d } = .ok vs.toArray { w with drawn:=d } := by
 simp only [ad.al] at h
 obtain ⟨A,c,hv,h⟩:=h
 simp only [List.cons.injEq,and_true] at hv
 subst hv
 rcases h with rfl | ⟨⟨b,o,sp⟩,rfl,hsp,hr,_,_⟩
 ·exact⟨A,c,[],rfl,rfl,fun d=>qQ (by simp) (.inl rfl)⟩
 ·simp only at hsp
  subst hsp
  obtain ⟨vs,h1,h2⟩:=hr.so
  exact⟨_,c,vs,rfl,h1.imp (fun y us G hs hr=>qZ hr |> fun h=>ad.al.mono (fun _ _ h=>h) t .R (fun _ _ h=>h.elim) h),fun d=>qQ h1.len (.inr ⟨b,o,rfl,h2⟩)⟩
theorem OL{t:ad}{c:a8}{v:Value}{j7:a'}{ys:List t.D}{s1:an}(ha:added s t c=some (j7,ys,s1))(h:Inv w0 F0 Z0 n s a w ι Z)(hc:cf w Z s ι c v) :
  ∃vs F,(Builtin.lenOf v).run P w=.ok ys.length w∧(∀d,(Builtin.firstCells t.size ys.length v).run P { w with drawn:=d } = .ok vs.toArray { w with drawn:=d })∧cX (t.al w Z j7) t.size ys vs F ∧
   Inv w0 F0 Z0 n s1 a w ι Z∧eV s ι Z s1 Z∧bF w0 F0 s1 w ι Z F:=by
 cases c with
 | nil u =>
  simp only [added] at ha
  obtain ⟨x,hx,ha⟩:=bb ha
  obtain ⟨e,rfl⟩:=gD hx
  subst e
  simp only [Option.some.injEq,Prod.mk.injEq] at ha
  obtain ⟨rfl,rfl,rfl⟩:=ha
  have hv:v=.slice none 0 0:=hc
  subst hv
  exact⟨[],ah.none,rfl,fun _=>rfl,rfl,h,.refl,.none⟩
 | bY u dp cq xs =>
  simp only [added] at ha
  cases dP:alive s dp
  ·rw [dP] at ha;simp at ha
  cases hJ:(t.flat||dp.isEmpty)
  ·rw [dP,hJ] at ha;simp at ha
  rw [dP,hJ] at ha
  simp only [Bool.and_self,cond_true] at ha
  obtain ⟨x,hx,ha⟩:=bb ha
  obtain ⟨e,rfl⟩:=gD hx
  subst e
  simp only [Option.some.injEq,Prod.mk.injEq] at ha
  obtain ⟨rfl,rfl,rfl⟩:=ha
  obtain ⟨A,re,vs,rfl,h1,h2⟩:=XU (P:=P) (hc.2.2.1 dP)
  refine⟨vs,ah.none,rfl,h2,?_,h,.refl,.none⟩
  simp only [Bool.or_eq_true,List.isEmpty_iff] at hJ
  rcases hJ with hJ | rfl
  ·exact h1.imp fun y us G _ hr=>qS u hJ hr
  ·exact h1.imp fun y us G _ hr=>OH hr
 | ag j sub =>
  simp only [added] at ha
  obtain ⟨hk,A,m,re,rfl,hh⟩:=hc
  cases ho:s.o j with
  | row u em ver xs =>
   rw [ho] at ha
   have cW:=h.fA j
   rw [ho] at cW
   have b8:(s.o j).live:=by rw [ho];trivial
   have mN:=vg cW (hh u em ver xs (kY ho))
   cases em with
   | R =>
    simp only at ha
    obtain ⟨x,hx,ha⟩:=bb ha
    obtain ⟨e,rfl⟩:=gD hx
    subst e
    simp only [Option.some.injEq,Prod.mk.injEq] at ha
    obtain ⟨rfl,rfl,rfl⟩:=ha
    obtain ⟨oJ,c',vs,hv,h1,h2⟩:=AN (P:=P) mN
    refine⟨vs,ah.none,?_,h2,h1.bare fun y us G _ hr=>qZ hr,h,.refl,.none⟩
    rw [hv];rfl
   | O gB =>
    simp only at ha
    obtain ⟨x,hx,ha⟩:=bb ha
    obtain ⟨e,rfl⟩:=gD hx
    subst e
    simp only [Option.some.injEq,Prod.mk.injEq] at ha
    obtain ⟨rfl,rfl,rfl⟩:=ha
    obtain ⟨oJ,c',vs,hv,h1,h2⟩:=AN (P:=P) mN
    refine⟨vs,(ι j).F,?_,h2,h1,h.take j (fun _ _ h=>h) (fun _ _ h=>.inl h),vf j b8,h.ve b8⟩
    rw [hv];rfl
   | S ms =>
    simp only at ha
    obtain ⟨x,hx,ha⟩:=bb ha
    obtain ⟨e,rfl⟩:=gD hx
    subst e
    simp only [Option.some.injEq,Prod.mk.injEq] at ha
    obtain ⟨rfl,rfl,rfl⟩:=ha
    obtain ⟨oJ,c',vs,hv,h1,h2⟩:=AN (P:=P) mN
    refine⟨vs,(ι j).F,?_,h2,h1,h.take j (fun _ _ h=>h) (fun _ _ h=>.inl h),vf j b8,h.ve b8⟩
    rw [hv];rfl
  | _=>rw [ho] at ha;simp at ha
 | str b =>
  simp only [added] at ha
  obtain ⟨x,hx,ha⟩:=bb ha
  obtain ⟨e,rfl⟩:=gD hx
  subst e
  simp only [Option.some.injEq,Prod.mk.injEq] at ha
  obtain ⟨rfl,rfl,rfl⟩:=ha
  obtain ⟨j8,rfl,rfl⟩:=hc
  have hlen:(en j8.data.toList).length=j8.size:=by simp [en]
  refine⟨(en j8.data.toList).map (Value.int .u8),ah.none,?_,?_,Hm _,h,.refl,.none⟩
  ·rw [hlen];rfl
  ·intro d
   rw [hlen]
   simp only [Builtin.firstCells,run_pure]
   congr 1
   apply Array.ext'
   simp [en]
 | _=>simp [added] at ha
theorem OM{t:ad}{c:a8}{v:Value}{nC:a'}{xs:List t.D}{s1:an}(ha:taken s t c=some (nC,xs,s1))(h:Inv w0 F0 Z0 n s a w ι Z)(hc:cf w Z s ι c v) :
  ∃F,(ad.sl t).al w Z (.O nC) xs [v] F∧Inv w0 F0 Z0 n s1 a w ι Z∧eV s ι Z s1 Z∧bF w0 F0 s1 w ι Z F∧∀b o,F b o→∃id,(s.o id).live∧(ι id).F b o:=by
 cases c with
 | nil u =>
  simp only [taken] at ha
  obtain ⟨x,hx,ha⟩:=bb ha
  obtain ⟨e,rfl⟩:=gD hx
  subst e
  simp only [Option.some.injEq,Prod.mk.injEq] at ha
  obtain ⟨rfl,rfl,rfl⟩:=ha
  have hv:v=.slice none 0 0:=hc
  subst hv
  refine⟨ah.none,?_,h,.refl,.none,fun _ _ h=>h.elim⟩
  simp only [ad.al]
  exact⟨none,0,rfl,.inl (by simp)⟩
 | ag j sub =>
  simp only [taken] at ha
  obtain ⟨hk,A,m,re,rfl,hh⟩:=hc
  cases ho:s.o j with
  | row u em ver xs =>
   rw [ho] at ha
   simp only at ha
   have cW:=h.fA j
   rw [ho] at cW
   have b8:(s.o j).live:=by rw [ho];trivial
   have mN:=vg cW (hh u em ver xs (kY ho))
   obtain ⟨x,hx,ha⟩:=bb ha
   obtain ⟨e,rfl⟩:=gD hx
   subst e
   simp only [Option.some.injEq,Prod.mk.injEq] at ha
   obtain ⟨rfl,rfl,rfl⟩:=ha
   exact⟨(ι j).F,mN,h.take j (fun _ _ h=>h) (fun _ _ h=>.inl h),vf j b8,h.ve b8,fun b o hf=>⟨j,b8,hf⟩⟩
  | _=>rw [ho] at ha;simp at ha
 | _=>simp [taken] at ha
theorem XV{t:ad}{nC j7:a'}{xs ys:List t.D}{v:Value}{vs:List Value}{kv gF:ah}(h:Inv w0 F0 Z0 n s a w ι Z)
  (hx:(ad.sl t).al w Z (.O nC) xs [v] kv) (aM:cX (t.al w Z j7) t.size ys vs gF) (ha:bF w0 F0 s w ι Z kv) (hb:bF w0 F0 s w ι Z gF) (la:ah.apart kv gF) :
  ∃Z' AO AP,Inv w0 F0 Z0 n s a w ι Z'∧ah.sub Z Z'∧(ad.sl t).al w Z' (.O (meet nC j7)) xs [v] AO∧cX (t.al w Z' (meet nC j7)) t.size ys vs AP∧bF w0 F0 s w ι Z' AO∧bF w0 F0 s w ι Z' AP∧ah.apart AO AP:=by
 unfold meet
 cases hm:a'.beq nC j7
 ·simp only [cond_false]
  obtain ⟨F',h1,h2⟩:=NS hx
  have dM:bF w0 F0 s w ι Z ((ah.diff kv F').or gF):=(ha.sub fun b o h=>h.1).or hb
  refine⟨_,F',ah.none,h.freeze dM,fun _ _ h=>.inl h,ad.al.mono ?_ _ _ (fun _ _ h=>h) h2,?_,?_,.none,fun _ _ _ h=>h⟩
  ·rintro b o (hz | hz)
   ·exact .inl hz
   ·exact .inr (.inl hz)
  ·exact aM.bare fun y us G hs hr=>ad.al.read (fun _ _ h=>.inl h) t j7 (fun b o az=>.inr (.inr (hs b o az))) hr
  ·refine(ha.sub h1).freeze ?_
   rintro b o hf (az | az)
   ·exact az.2 hf
   ·exact la b o (h1 b o hf) az
 ·have:=a'.eq_of_beq _ _ hm
  subst this
  exact⟨Z,kv,gF,h,fun _ _ h=>h,hx,aM,ha,hb,la⟩
theorem Gh(z:Array Value)(k:Nat):(Builtin.zeroCells z k).size=k*z.size:=by simp [Builtin.zeroCells]
theorem run_append_room{A:Option Addr}{m c k size:Nat}{vs:List Value}{vb:Value}{gS hB ty e:TypeId}{ats:Array TypeId}{args:Array Value}
  (h0:ats[0]?=some gS) (h1:ats[1]?=some hB) (h2:args[0]?=some (.slice A m c)) (h3:args[1]?=some vb) (hu:P.underlying gS=some (.slice e)) (hs:(sizeOf e).run P w=.ok size w)
  (jK:P.underlying hB=some .string∨∃gB,P.underlying hB=some (.slice gB)) (nQ:m+k≤c) (hl:(Builtin.lenOf vb).run P w=.ok k w) (hf:(Builtin.firstCells size k vb).run P w=.ok vs.toArray w)
  (hst:∀a,A=some a→(storeCells (a.add (m*size)) vs).run P w=.ok () w') (hn:A=none→w'=w):(Builtin.append_ ats ty args).run P w=.ok (.slice A (m+k) c) w':=by
 unfold Builtin.append_
 rcases jK with jK | ⟨gB,jK⟩
 all_goals
  simp only [h0,h1,h2,h3,run_bind,run_underlying hu,hs,run_underlying jK,run_pure]
  simp only [Bool.false_eq_true,if_false,run_bind,hl,if_pos nQ,Bool.not_false,if_true,hf]
  cases A with
  | none=>rw [hn rfl];rfl
  | some a=>simp only [run_bind,hst a rfl,run_pure]
theorem run_append_grow{A:Option Addr}{m c k size:Nat}{us vs:List Value}{vb z:Value}{gS hB ty e:TypeId}{ats:Array TypeId}{args:Array Value}{i:TypeInfo}
  (h0:ats[0]?=some gS) (h1:ats[1]?=some hB) (h2:args[0]?=some (.slice A m c)) (h3:args[1]?=some vb) (hu:P.underlying gS=some (.slice e)) (hi:P.info? e=some i) (hsz:i.size=size) (hz:i.zero=some z)
  (jK:P.underlying hB=some .string∨∃gB,P.underlying hB=some (.slice gB)) (nQ:¬m+k≤c) (hl:(Builtin.lenOf vb).run P w=.ok k w)
  (AQ:∀d,(Builtin.firstCells size m (.slice A m c)).run P { w with drawn:=d } = .ok us.toArray { w with drawn:=d })
  (hf:∀d,(Builtin.firstCells size k vb).run P { w with drawn:=d } = .ok vs.toArray { w with drawn:=d })
  (hr:m+k≤68719476736) (hb:i.bytes≤2048) :
  ∃q,m+k≤q∧(Builtin.append_ ats ty args).run P w=.ok (.slice (some (at_ w.heap.size 0)) (m+k) q) (grown w (w.drawn+1) (us.toArray++vs.toArray++Builtin.zeroCells z.cells (q-(m+k))) e (0,0)):=by
 have hq:(Question.appendCap (m+k) c e).forced=false:=rfl
 have XW:¬(((m+k:Nat):Int)>IntKind.i64.max):=by simp [IntKind.max,IntKind.signed,IntKind.bits];omega
 have XX:¬(Builtin.nextslicecap (m+k) c*i.bytes>2 ^ 48):=by
  have h1:=nextslicecap_le (need:=m+k) (old:=c) (by omega)
  have h2:Builtin.nextslicecap (m+k) c*i.bytes≤(2*68719476736)*2048:=Nat.mul_le_mul (by omega) hb
  omega
 have XY:(sizeOf e).run P w=.ok size w:=by simp [sizeOf,run_bind,run_typeInfo hi,run_pure,hsz]
 have hzero:∀w:World,(zeroValue e).run P w=.ok z w:=by intro w;simp [zeroValue,run_bind,run_typeInfo hi,run_pure,hz]
 refine⟨m+k+w.tape w.drawn (.appendCap (m+k) c e) % (2 ^ 63-(m+k)),by omega,?_⟩
 unfold Builtin.append_
 rcases jK with jK | ⟨gB,jK⟩
 all_goals
  simp only [h0,h1,h2,h3,run_bind,run_underlying hu,XY,run_underlying jK,run_pure]
  simp only [Bool.false_eq_true,if_false,run_bind,hl,if_neg nQ,Bool.not_false,if_true,XW,false_and,run_typeInfo hi,XX,choose,Sem.run,hq,Question.cut,run_askRoom,AQ,hf,hzero]
  rfl
theorem ON{t:ad}{m:a'}{xs ys:List t.D}{kW vb:Value}{vs:List Value}{kv gF:ah}{gS hB ty e:TypeId}{ats:Array TypeId}{args:Array Value}
  (h0:ats[0]?=some gS) (h1:ats[1]?=some hB) (h2:args[0]?=some kW) (h3:args[1]?=some vb) (hu:P.underlying gS=some (.slice e)) (b9:t.ok P e)
  (jK:P.underlying hB=some .string∨∃gB,P.underlying hB=some (.slice gB)) (hroom:xs.length+ys.length≤68719476736)
  (h:Inv w0 F0 Z0 n s a w ι Z) (b5:s.o id=.none) (hx:(ad.sl t).al w Z (.O m) xs [kW] kv) (aM:cX (t.al w Z m) t.size ys vs gF) (ha:bF w0 F0 s w ι Z kv) (hb:bF w0 F0 s w ι Z gF) (la:ah.apart kv gF)
  (hl:(Builtin.lenOf vb).run P w=.ok ys.length w) (hf:∀d,(Builtin.firstCells t.size ys.length vb).run P { w with drawn:=d } = .ok vs.toArray { w with drawn:=d }) :
  ∃u w' i,(Builtin.append_ ats ty args).run P w=.ok u w'∧Inv w0 F0 Z0 n (s.bO id (.row t m 0 (xs++ys))) a w' (bQ ι id i) Z∧cf w' Z (s.bO id (.row t m 0 (xs++ys))) (bQ ι id i) (.ag id none) u:=by
 obtain ⟨A,c,us,rfl,hex,AQ⟩:=AN (P:=P) hx
 obtain ⟨i,gp,fV,vt,Hl⟩:=b9.info
 have xE:(dB t t.cL).cells.size=t.size:=by
  have:=congrArg List.length (vr t)
  rw [Array.length_toList,ad.k7] at this;exact this
 have OO:(Builtin.firstCells t.size ys.length vb).run P w=.ok vs.toArray w:=hf w.drawn
 have ajP:(Builtin.firstCells t.size xs.length (.slice A xs.length c)).run P w=.ok us.toArray w:=AQ w.drawn
 have XZ:=hex.len
 have OP:=aM.len
 by_cases nQ:xs.length+ys.length≤c
 ·
  have hrow:=hx
  simp only [ad.al] at hrow
  obtain ⟨oJ,c',hv,hrow⟩:=hrow
  simp only [List.cons.injEq,Value.slice.injEq,and_true,true_and] at hv
  obtain ⟨rfl,rfl⟩:=hv
  rcases hrow with⟨rfl,rfl⟩ | ⟨⟨b,o,sp⟩,rfl,hr⟩
  ·have X0:ys=[]:=List.eq_nil_of_length_eq_zero (by simp at nQ;simpa using nQ)
   subst X0
   have OQ:vs=[]:=List.eq_nil_of_length_eq_zero (by simpa using OP)
   subst OQ
   refine⟨.slice A 0 0,w,⟨none,0,ah.none⟩,?_,h.Ay b5 (.inl ⟨rfl,rfl⟩) .none,?_⟩
   ·exact run_append_room h0 h1 h2 h3 hu (run_sizeOf b9) jK (Nat.le_refl 0) hl OO (fun a _=>rfl) (fun _=>rfl)
   ·refine⟨by show bQ s.o id _ id≠_;rw [ct];simp,A,0,0,rfl,?_⟩
    intro dk gb mJ fB ho
    have q4:(bQ s.o id (cj.row t m 0 ([]++[])) id).core=.row dk gb mJ fB:=ho
    rw [ct] at q4
    obtain ⟨rfl,_,_,h4⟩:=cj.row.inj q4
    have:=eq_of_heq h4;subst this
    exact⟨rfl,by simp [ea],Nat.le_refl _,by simp [ea],.inl rfl⟩
  ·have hsp:=hr.spot
   simp only at hsp
   subst hsp
   obtain ⟨G,g1,g2,g3⟩:=hr.row
   have hle:(xs.length+ys.length)*t.size≤c*t.size:=Nat.mul_le_mul_right _ nQ
   rw [Nat.add_mul] at hle
   have hwr:∀j,j<vs.length→e' w b (o+xs.length*t.size+j):=fun j hj=>by
    have:=(hr.wr (xs.length*t.size+j) (by omega)).1
    rwa [← Nat.add_assoc] at this
   have dM:bF w0 F0 s w ι Z (ah.run b o (c*t.size)):=ha.sub (by
    rintro b' o' ⟨rfl,h1,h2⟩
    have:=hr.inF (o'-o) (by omega)
    rwa [show o +(o'-o)=o' by omega] at this)
   have X1:ah.apart G (ah.run b o (c*t.size)):=by
    rintro b' o' az ⟨rfl,h1,h2⟩
    have:=g2 (o'-o) (by omega)
    exact this (by show G b' (o +(o'-o));rw [show o +(o'-o)=o' by omega];exact az)
   have lR:Ext w (setCells w b (o+xs.length*t.size) vs) (ah.run b o (c*t.size)):=ny b vs w _ (fun j hj=>⟨rfl,by omega,by omega⟩)
   have hinv:=h.AM dM lR
   obtain ⟨aR,k1,k2⟩:=g1.so
   have OR:=k1.len
   have mO:∀F,bF w0 F0 s w ι Z F→ah.apart F (ah.run b o (c*t.size))→b4 w (setCells w b (o+xs.length*t.size) vs) F:=fun F hF Hr=>b4.iy lR (fun b o hf=>(hF.own b o hf).2) Hr
   have OS:b4 w (setCells w b (o+xs.length*t.size) vs) Z:=b4.iy lR h.iw (fun b o hz hs=>dM.cY b o hs hz)
   have X2:bF w0 F0 s w ι Z G:=ha.sub g3
   have X3:ah.apart gF (ah.run b o (c*t.size)):=by
    rintro b' o' dj ⟨rfl,h1,h2⟩
    have:=hr.inF (o'-o) (by omega)
    exact la b' o' (by have jo:kv b' (o +(o'-o)):=this;rwa [show o +(o'-o)=o' by omega] at jo) dj
   have e1:cX (t.al (setCells w b (o+xs.length*t.size) vs) Z m) t.size xs aR G:=k1.imp fun y us de hs hr=>ad.al.same OS t m ((mO G X2 X1).mono hs) hr
   have e2:cX (t.al (setCells w b (o+xs.length*t.size) vs) Z m) t.size ys vs gF:=aM.imp fun y us de hs hr=>ad.al.same OS t m ((mO gF hb X3).mono hs) hr
   have jJ:bF w0 F0 s (setCells w b (o+xs.length*t.size) vs) ι Z (kv.or gF):=(ha.or hb).ext lR
   refine⟨.slice (some (at_ b o)) (xs.length+ys.length) c,_,⟨some (at_ b o),c,kv.or gF⟩,?_,hinv.Ay b5 ?_ jJ,?_⟩
   ·have hst:=Ai (P:=P) (b:=b) (o:=o+xs.length*t.size) vs w 0 (Ak aM) (fun j hj=>by simpa using hwr j hj)
    simp only [Nat.add_zero] at hst
    refine run_append_room h0 h1 h2 h3 hu (run_sizeOf b9) jK nQ hl OO (fun a ha=>?_) (fun h=>by simp at h)
    obtain rfl:=aU ha
    rw [show(⟨b,o,none⟩:Addr).add (xs.length*t.size)=at_ b (o+xs.length*t.size) from pK _ _ _]
    exact hst
   ·refine .inr ⟨at_ b o,rfl,rfl,by simpa using nQ,fun j hj=>(lR.j3 (hr.wr j hj)),fun j hj=>.inl (hr.inF j hj),G.or gF,?_,?_,fun b o h=>h.imp (g3 b o) (fun h=>h)⟩
    ·refine(e1.append e2 fun b o az hf=>la b o (g3 b o az) hf).row ?_
     refine b2.append (k2.of_eq fun j hj=>?_) ?_
     ·rw [OR] at hj
      refine(vd b vs w _ (fun i hi=>(hwr i hi).1) b (o+j)).trans (if_neg ?_)
      omega
     ·rw [OR];exact Xi hwr
    ·rintro j hj (az | az)
     ·exact g2 j hj az
     ·exact la _ _ (hr.inF j hj) az
   ·have:=xD (w:=setCells w b (o+xs.length*t.size) vs) (Z:=Z) (s:=s) (ι := ι) (id:=id) (em:=m) (ver:=0) (xs:=xs++ys) (A:=at_ b o) (c:=c) (F:=kv.or gF) rfl (by simpa using nQ)
    rw [List.length_append] at this
    exact this
 ·
  obtain ⟨q,hq,hrun⟩:=run_append_grow (P:=P) (w:=w) (ty:=ty) h0 h1 h2 h3 hu gp fV vt jK nQ hl AQ hf hroom Hl
  have hn:=h.newRow b5 (hex.append aM la) (ha.or hb) (w.drawn+1) (us.toArray++vs.toArray++Builtin.zeroCells (dB t t.cL).cells (q-(xs.length+ys.length))) e (0,0) q (by
   intro j v hv
   rw [Array.getElem?_append_left]
   ·simpa [← List.getElem?_append] using hv
   ·rcases Nat.lt_or_ge j (us++vs).length with h | h
    ·simpa using h
    ·rw [List.getElem?_eq_none h] at hv;simp at hv) (by simpa using hq) (by
   simp only [Array.size_append,List.size_toArray,Gh,xE,XZ,OP]
   rw [Nat.sub_mul,Nat.add_mul]
   have:(xs.length+ys.length)*t.size≤q*t.size:=Nat.mul_le_mul_right _ hq
   rw [Nat.add_mul] at this
   omega) (.inl rfl) (.inr rfl)
  refine⟨_,_,_,hrun,hn,?_⟩
  have:=xD (w:=grown w (w.drawn+1) (us.toArray++vs.toArray++Builtin.zeroCells (dB t t.cL).cells (q-(xs.length+ys.length))) e (0,0)) (Z:=Z) (s:=s) (ι := ι) (id:=id) (em:=m) (ver:=0) (xs:=xs++ys) (A:=at_ w.heap.size 0) (c:=q) (F:=(ah.run w.heap.size 0 (q*t.size)).or (kv.or gF)) rfl (by simpa using hq)
  rw [List.length_append] at this
  exact this
theorem OT{aj:List Nat}{t:ad}(bW:gE P E)(gq:u5 E aj=some t):∃gS hB rest e,aj=gS :: hB :: rest∧P.underlying gS=some (.slice e)∧t.ok P e∧(P.underlying hB=some .string∨∃gB,P.underlying hB=some (.slice gB)):=by
 unfold u5 at gq
 split at gq
 ·rename_i gS hB rest
  split at gq
  ·rename_i t1 t2 h1 h2
   obtain rfl:=aU gq
   obtain ⟨e,hu,b9⟩:=k8 (bW.ty _ _ h1)
   obtain ⟨gB,xG,_⟩:=k8 (bW.ty _ _ h2)
   exact⟨gS,hB,rest,e,rfl,hu,b9,.inr ⟨gB,xG⟩⟩
  ·rename_i t1 h1 h2
   obtain rfl:=aU gq
   obtain ⟨e,hu,b9⟩:=k8 (bW.ty _ _ h1)
   exact⟨gS,hB,rest,e,rfl,hu,b9,.inl (vv (bW.ty _ _ h2))⟩
  ·simp at gq
 ·simp at gq
theorem Hs{t:ad}{u:Value}{c:a8}{x:a6}(hx:oneCell t x=some c)(hr:aO w Z s ι x u):cf w Z s ι c u:=by
 cases x <;> simp only [oneCell] at hx <;> try (simp at hx;done)
 ·obtain rfl:=aU hx
  simpa only [aO] using hr
 ·obtain rfl:=aU hx
  simp only [aO] at hr
  exact hr
theorem X4{c:Call}(bW:gE P E)(h:Inv w0 F0 Z0 n s a w ι Z)(ag:∀k,o.dst=some k→k<n)(ho:o.op=.call c)(hb:c.callee=.builtin .append)(hk:cP E id o s K=some r) :
  ∃aq,K aq=some r∧o.wp P a w (cT w0 F0 Z0 n aq) Q:=by
 unfold cP at hk
 rw [ho] at hk
 simp only [hb] at hk
 have hvs:=sS h c.args.toList
 have k_:(c.args.map a.eval).toList=c.args.toList.map a.eval:=by simp
 generalize hl:c.args.toList.map (bS s)=l at hk hvs
 match l,hk,hvs with
 | [],hk,_=>simp [jE] at hk
 | [_],hk,_=>simp [jE] at hk
 | _ :: _ :: _ :: _,hk,_=>simp [jE] at hk
 | [kW,vb],hk,hvs =>
  simp only [jE] at hk
  simp only [aX] at hvs
  obtain ⟨OU,_,he,mP,X5,_,rfl,Ht,rfl⟩:=hvs
  cases gq:u5 E c.argTypes.toList with
  | none=>rw [gq] at hk;simp at hk
  | some t =>
   rw [gq] at hk
   simp only at hk
   obtain ⟨gS,hB,rest,e,rh,hu,b9,jK⟩:=OT bW gq
   cases AR:oneCell t kW with
   | none=>rw [AR] at hk;simp at hk
   | some Hu =>
    cases sU:oneCell t vb with
    | none=>rw [AR,sU] at hk;simp at hk
    | some cb =>
      rw [AR,sU] at hk
      simp only [NG] at hk
      have mQ:=Hs AR mP
      have hb1:=Hs sU Ht
      cases pV:added s t cb with
      | none=>rw [pV] at hk;simp at hk
      | some q =>
       obtain ⟨j7,ys,s1⟩:=q
       rw [pV] at hk
       simp only at hk
       obtain ⟨vs,gF,hlen,pW,hels,h1,hs1,nO⟩:=OL (P:=P) pV h hb1
       cases xH:taken s1 t Hu with
       | none=>rw [xH] at hk;simp at hk
       | some q =>
        obtain ⟨nC,xs,s2⟩:=q
        rw [xH] at hk
        simp only at hk
        obtain ⟨kv,hx,h2,nP,hf2,b8⟩:=OM xH h1 (mQ.move hs1.eb)
        cases mI:mkObj s2 id (.row t (meet nC j7) 0 (xs++ys)) with
        | none=>rw [mI] at hk;simp at hk
        | some s3 =>
         rw [mI] at hk
         obtain ⟨hroom,hk2⟩:=q' hk
         clear hk
         obtain ⟨b5,rfl⟩:=pR mI
         obtain ⟨bK,AO,AP,h3,_,lR,AF,X6,dj,X7⟩:=XV h2 hx hels hf2 (nO.shrink nP) (by
          intro b o X8 X9
          obtain ⟨j,hj,xF⟩:=b8 b o X8
          exact nO.apart j hj b o X9 xF)
         obtain ⟨u,w',ba,hrun,hinv,hcell⟩:=ON (P:=P) (id:=id) (ty:=o.type) (ats:=c.argTypes) (args:=c.args.map a.eval) (by rw [← Array.getElem?_toList,rh];rfl) (by rw [← Array.getElem?_toList,rh];rfl)
          (by rw [← Array.getElem?_toList,k_,he];rfl) (by rw [← Array.getElem?_toList,k_,he];rfl) hu b9 jK (Nat.le_of_ble_eq_true hroom) h3 b5 lR AF X6 dj X7 hlen pW
         refine⟨_,hk2,lM (v:=u) (w':=w') ?_ hinv (by simp only [aO];exact hcell) ag⟩
         unfold execOp;rw [ho]
         simp only [run_bind,resolve,hb,run_pure,invoke]
         unfold builtin
         exact fF hrun
theorem cX.cut{α : Type}{R : α → List Value→ah→Prop}{size:Nat} : ∀ {xs:List α} {vs:List Value} {F:ah} (k:Nat),cX R size xs vs F→cX R size (xs.take k) (vs.take (k*size)) F∧cX R size (xs.drop k) (vs.drop (k*size)) F
 | xs,vs,F,0,h=>by simp only [Nat.zero_mul,List.take_zero,List.drop_zero];exact⟨rfl,h⟩
 | [],vs,F,k+1,h=>by simp only [cX] at h;subst h;simp [cX]
 | x :: xs,vs,F,k+1,⟨us,aj,G,H,h1,h2,h3,h4,aZ,bd,bC⟩=>by
  obtain ⟨p,q⟩:=cX.cut k h4
  subst h1
  have e:(k+1)*size=us.length+k*size:=by rw [Nat.add_one_mul,h3];omega
  refine⟨⟨us,aj.take (k*size),G,H,?_,h2,h3,p,aZ,bd,bC⟩,?_⟩
  ·rw [e,List.take_length_add_append]
  ·rw [e,List.drop_length_add_append];exact q.mono bC
theorem X_(us:List Value)(z:Array Value)(hz:z.toList=us)(n:Nat):(Builtin.zeroCells z n).toList=(List.replicate n us).flatten:=by
 have hl:(Builtin.zeroCells z n).toList.length=(List.replicate n us).flatten.length:=by
  rw [Array.length_toList,Gh];subst hz;simp
 refine List.ext_getElem? fun j=>?_
 cases hj:(List.replicate n us).flatten[j]? with
 | none =>
  rw [List.getElem?_eq_none_iff] at hj ⊢
  omega
 | some v =>
  have:=Hk (z:=z) (m:=n*z.size) us n hz (by subst hz;simp) v hj
  rw [Array.getElem?_toList]
  exact this
theorem Inv.rewrite(h:Inv w0 F0 Z0 n s a w ι Z){id:Nat}{t:ad}{em:a'}{ver:Nat}{xs fB:List t.D}(ho:s.o id=.row t em ver xs)(hl:xs.length=fB.length)(hx:Ext w w' (ι id).F)
  (cW:eB w Z s ι w' Z (s.bO id (.row t em (ver+1) fB)) ι → hD w' Z (s.bO id (.row t em (ver+1) fB)) ι (ι id) (.row t em (ver+1) fB)):Inv w0 F0 Z0 n (s.bO id (.row t em (ver+1) fB)) a w' ι Z:=by
 have b8:(s.o id).live:=by rw [ho];trivial
 let o':cj:=.row t em (ver+1) fB
 have hm:eB w Z s ι w' Z (s.bO id o') ι := by
  refine⟨fun j=>?_,fun _ _ h=>h,b4.iy hx h.q5 ?_⟩
  ·show ix (s.o j) (ι j) (bQ s.o id o' j) (ι j)
   by_cases hj:id=j
   ·subst hj;rw [ct,ho];exact .row _ _ _ _ _ _ _ _ _ (by omega) (by omega) rfl rfl
   ·rw [cO hj];exact .stay _ _
  ·rintro b o (hz | ⟨dV,fS,pM,_,hf⟩) h9
   ·exact h.cY id b8 b o h9 hz
   ·have hne:dV≠id:=by
     rintro rfl
     have:bQ s.o dV o' dV=s.o dV:=pM
     rw [ct,ho] at this
     injection this with h1 h2 h3
     omega
    exact h.apart dV id fS b8 hne b o hf h9
 have q7:∀ {j},id≠j→((s.bO id o').o j).live→(s.o j).live:=fun hj hl=>by
  have:(bQ s.o id o' _).live:=hl
  rwa [cO hj] at this
 refine h.next hm hx (fun b o hf=>(h.own id b8 b o hf).1) (fun _ _ h=>.inl h) ?_ ?_ (fun k=>(h.tmps k).move hm) h.size h.defers
 ·intro j hl hne
  by_cases hj:id=j
  ·subst hj
   refine⟨?_,fun b o hf=>⟨(h.own _ b8 b o hf).1,Nat.lt_of_lt_of_le (h.own _ b8 b o hf).2 hx.size⟩,fun dV fS jm=>h.apart id dV b8 (q7 jm fS) jm⟩
   show hD _ _ _ _ _ (bQ s.o id o' id)
   rw [ct]
   exact cW hm
  ·exact absurd ⟨cO hj,rfl⟩ hne
 ·intro j hl
  by_cases hj:id=j
  ·subst hj;exact h.cY _ b8
  ·exact h.cY j (q7 hj hl)
theorem X'{t e ty:TypeId}{T:ad}{A:Option Addr}{k c:Nat}(hu:P.underlying t=some (.slice e))(b9:T.ok P e){b o:Nat}(hA:0<k→A=some (at_ b o))(hw:∀j,j<k*T.size→e' w b (o+j)) :
  (Builtin.clear_ #[t] ty #[.slice A k c]).run P w=.ok (.tuple #[]) (setCells w b o (List.replicate k T.cL).flatten):=by
 rcases Nat.eq_zero_or_pos k with rfl | hk
 ·unfold Builtin.clear_
  cases A <;>(simp only [List.getElem?_toArray,List.getElem?_cons_zero,run_bind,run_underlying hu];rfl)
 ·rw [hA hk]
  obtain ⟨m,rfl⟩:∃m,k=m+1:=⟨k-1,by omega⟩
  have hc:=X_ T.cL (dB T T.cL).cells (vr T) (m+1)
  have h1:∀v∈(List.replicate (m+1) T.cL).flatten,dY v=true:=by
   intro v hv
   rw [List.mem_flatten] at hv
   obtain ⟨l,h1,h2⟩:=hv
   rw [(List.mem_replicate.1 h1).2] at h2
   exact((q9 (w:=default) (Z:=ah.none) (s:=⟨fun _=>.aC,fun _=>.none,[]⟩) (ι := fun _=>⟨none,0,ah.none⟩) T).dY) v h2
  have hst:=Ai (P:=P) (b:=b) (o:=o) _ w 0 h1 (fun i hi=>by
   have:=hw i (by simpa [ad.k7] using hi)
   simpa using this)
  unfold Builtin.clear_
  simp only [List.getElem?_toArray,List.getElem?_cons_zero,run_bind,run_underlying hu,AB b9,hc]
  simp only [Nat.add_zero] at hst
  rw [hst]
  rfl
theorem Ya{c:Call}(bW:gE P E)(h:Inv w0 F0 Z0 n s a w ι Z)(ag:∀k,o.dst=some k→k<n)(ho:o.op=.call c)(hb:c.callee=.builtin .clear)(hk:cP E id o s K=some r) :
  ∃aq,K aq=some r∧o.wp P a w (cT w0 F0 Z0 n aq) Q:=by
 unfold cP at hk
 rw [ho] at hk
 simp only [hb] at hk
 have hvs:=sS h c.args.toList
 have k_:(c.args.map a.eval).toList=c.args.toList.map a.eval:=by simp
 generalize hl:c.args.toList.map (bS s)=l at hk hvs
 match l,hk,hvs with
 | [.aS (.ag i sub)],hk,hvs =>
  simp only [jE] at hk
  cases gq:c.argTypes.toList with
  | nil=>rw [gq] at hk;simp at hk
  | cons t aj =>
   rw [gq] at hk
   simp only at hk
   cases ht:E.ty t with
   | none=>rw [ht] at hk;simp at hk
   | some T =>
    cases bU:s.o i with
    | row v em ver xs =>
     rw [ht,bU] at hk
     cases T with
     | sl u =>
      simp only at hk
      cases hf:(ad.beq u v&&v.flat)
      ·rw [hf] at hk;simp at hk
      rw [hf] at hk
      simp only [cond_true] at hk
      simp only [Bool.and_eq_true] at hf
      obtain ⟨hf,hJ⟩:=hf
      have:=ad.eq_of_beq _ _ hf
      subst this
      simp only [aX,aO] at hvs
      obtain ⟨ajQ,us,he,⟨jH,A,k,jG,rfl,hh⟩,rfl⟩:=hvs
      obtain ⟨e,hu,b9⟩:=k8 (bW.ty _ _ ht)
      have hr:=hh u em ver xs (kY bU)
      obtain ⟨cr,OV,ajR,rc,AS⟩:=hr
      have hkk:k=kT sub xs:=by
       rw [cr];cases sub with
       | none=>rfl
       | some p=>rfl
      rw [← hkk] at hk
      generalize h_:ea sub=lo at *
      have mK:(c.args.map a.eval) = #[.slice A k jG]:=by
       apply Array.ext'
       rw [k_,he]
      have oK:c.argTypes[0]?=some t:=by rw [← Array.getElem?_toList,gq];rfl
      have hlen:xs.length=(xs.take lo++List.replicate k u.zero++xs.drop (lo+k)).length:=by simp;omega
      have OW:=h.fA i
      rw [bU] at OW
      have hfin:∃(b AT:Nat),(0<k→A=some (at_ b AT))∧(∀j,j<k*u.size→e' w b (AT+j))∧Inv w0 F0 Z0 n (s.bO i (.row u em (ver+1) (xs.take lo++List.replicate k u.zero++xs.drop (lo+k)))) a (setCells w b AT (List.replicate k u.cL).flatten) ι Z:=by
       rcases OW with⟨h1,h2⟩ | ⟨a0,fW,hrow⟩
       ·have hk0:k=0:=by rw [h1] at OV;simp at OV;omega
        subst hk0
        refine⟨0,0,fun h=>by omega,fun j hj=>by omega,?_⟩
        refine h.rewrite bU hlen (Ext.refl _ _) fun _=>?_
        exact .inl ⟨by rw [h1];simp,h2⟩
       ·have hle:(lo+k)*u.size≤(ι i).cap*u.size:=Nat.mul_le_mul_right _ (by have:=hrow.cap;omega)
        rw [Nat.add_mul] at hle
        have hwr:∀j,j<k*u.size→e' w a0.block (a0.off+lo*u.size+j):=fun j hj=>by
         have:=(hrow.wr (lo*u.size+j) (by omega)).1;rwa [← Nat.add_assoc] at this
        have xE:(List.replicate k u.cL).flatten.length=k*u.size:=by simp [ad.k7]
        have hx:Ext w (setCells w a0.block (a0.off+lo*u.size) (List.replicate k u.cL).flatten) (ι i).F:=ny _ _ _ _ fun j hj=>by
         have:=hrow.inF (lo*u.size+j) (by omega);rwa [← Nat.add_assoc] at this
        refine⟨a0.block,a0.off+lo*u.size,fun hk0=>?_,hwr,h.rewrite bU hlen hx fun _=>.inr ⟨a0,fW,hrow.spot,by rw [← hlen];exact hrow.cap,fun j hj=>hx.j3 (hrow.wr j hj),hrow.inF,ah.none,?_,fun _ _ h=>h,fun _ _ h=>h.elim⟩⟩
        ·rcases AS with AS | ⟨a1,hb1,AS⟩
         ·omega
         ·rw [fW] at hb1
          obtain rfl:=aU hb1
          exact AS
        ·obtain ⟨G,bA,cc,gC⟩:=hrow.row
         obtain ⟨us,e1,e2⟩:=Row.so bA
         have e1:cX (u.al (setCells w a0.block (a0.off+lo*u.size) (List.replicate k u.cL).flatten) Z em) u.size xs us ah.none:=e1.bare fun y us de _ aM =>
          qS u (F:=ah.none) hJ (ad.al.same (Z:=ah.none) (fun _ _ h=>h.elim) u em (F:=ah.none) (fun _ _ h=>h.elim) (qS u hJ aM))
         have pP:=e1.len
         have hsp:=qR (k:=lo*u.size) (vs:=(List.replicate k u.cL).flatten) e2 (fun i hi=>(hrow.wr i (by
          have:xs.length*u.size≤(ι _).cap*u.size:=Nat.mul_le_mul_right _ hrow.cap
          omega)).1) (by
          rw [xE,pP,← Nat.add_mul];exact Nat.mul_le_mul_right _ (by omega))
         refine cX.row ?_ hsp
         have c1:=(e1.cut lo).1
         have gm:=(e1.cut (lo+k)).2
         have Yb:=cX.replicate (R:=u.al (setCells w a0.block (a0.off+lo*u.size) (List.replicate k u.cL).flatten) Z em) (Hj u em) (ad.k7 u) k
         have:=((c1.append Yb fun _ _ h _=>h.elim).append gm fun _ _ _ h=>h.elim)
         unfold c8
         rw [xE,← Nat.add_mul]
         refine this.bare fun y us G _ aM=>qS u hJ aM
      obtain ⟨b,AT,hA,hw,hi⟩:=hfin
      refine⟨_,hk,lM (v:=.tuple #[]) ?_ hi (by simp only [aO,aX];exact⟨[],rfl,rfl⟩) ag⟩
      unfold execOp;rw [ho]
      simp only [run_bind,resolve,hb,run_pure,invoke]
      unfold builtin
      refine fF ?_
      have hrun:=X' (P:=P) (w:=w) (ty:=o.type) (c:=jG) hu b9 hA hw
      rw [mK]
      have Yc:Builtin.clear_ c.argTypes o.type #[.slice A k jG]=Builtin.clear_ #[t] o.type #[.slice A k jG]:=by
       unfold Builtin.clear_;rw [oK];rfl
      rw [Yc]
      exact hrun
     | _=>simp at hk
    | _=>rw [ht,bU] at hk;cases T <;> simp at hk
 | [],hk,_=>simp [jE] at hk
 | _ :: _ :: _,hk,_=>simp [jE] at hk
 | [.aC],hk,_ | [.hW _],hk,_ | [.ptr _],hk,_ | [.dd _ _ _],hk,_ | [.jC],hk,_ | [.ko],hk,_ | [.opt _ _],hk,_ | [.may _ _ _],hk,_ | [.qT _],hk,_ | [.fn _ _ _],hk,_ | [.ox _],hk,_=>simp [jE] at hk
 | [.aS (.int _ _)],hk,_ | [.aS (.bool _)],hk,_ | [.aS (.str _)],hk,_ | [.aS (.nil _)],hk,_ | [.aS (.bY _ _ _ _)],hk,_=>simp [jE] at hk
end
end Go.LM
namespace Go.LM
theorem Row.AU{α : Type}{w:World}{R : α → List Value→ah→Prop}{size:Nat} : ∀ {x:List α} {b o:Nat} {F:ah} (i:Nat) (hi:i<x.length),Row w R size x b o F →
  ∃G1 iB G2 vs,Row w R size (x.take i) b o G1∧R x[i] vs iB∧vs.length=size∧b2 w b (o+i*size) vs∧Row w R size (x.drop (i+1)) b (o +(i+1)*size) G2 ∧
   ah.apart G1 iB∧ah.apart G1 G2∧ah.apart iB G2∧ah.sub G1 F∧ah.sub iB F∧ah.sub G2 F
 | y :: x,b,o,F,0,_,⟨vs,G,H,h1,h2,h3,h4,aZ,bd,bC⟩ =>
  ⟨ah.none,G,H,vs,trivial,h1,h2,by simpa using h3,by simpa using h4,fun _ _ h=>h.elim,fun _ _ h=>h.elim,aZ,fun _ _ h=>h.elim,bd,bC⟩
 | y :: x,b,o,F,i+1,hi,⟨vs,G,H,h1,h2,h3,h4,aZ,bd,bC⟩=>by
  obtain ⟨G1,iB,G2,us,k1,k2,k3,bf,bs,c_,dh,ee,gG,eX,cZ⟩:=Row.AU i (by simpa using hi) h4
  refine⟨G.or G1,iB,G2,us,⟨vs,G,G1,h1,h2,h3,k1,fun b o h k=>aZ b o h (gG b o k),fun _ _ h=>.inl h,fun _ _ h=>.inr h⟩,k2,k3,?_,?_,?_,?_,ee,?_,fun b o h=>bC b o (eX b o h),fun b o h=>bC b o (cZ b o h)⟩
  ·rwa [show o +(i+1)*size=o+size+i*size by rw [Nat.add_one_mul];omega]
  ·have e:o +(i+1+1)*size=o+size +(i+1)*size:=by rw [Nat.add_one_mul (i+1)];omega
   rw [e];exact bs
  ·rintro b o (h | h) k
   ·exact aZ b o h (eX b o k)
   ·exact c_ b o h k
  ·rintro b o (h | h) k
   ·exact aZ b o h (cZ b o k)
   ·exact dh b o h k
  ·rintro b o (h | h)
   ·exact bd b o h
   ·exact bC b o (gG b o h)
theorem Row.AV{α : Type}{w:World}{R : α → List Value→ah→Prop}{size:Nat}{y : α}{vs:List Value}{iB:ah} : ∀ {x:List α} {b o:Nat} {G1 G2:ah} (i:Nat),i<x.length→Row w R size (x.take i) b o G1→R y vs iB→vs.length=size →
  b2 w b (o+i*size) vs→Row w R size (x.drop (i+1)) b (o +(i+1)*size) G2→ah.apart G1 iB→ah.apart G1 G2→ah.apart iB G2→Row w R size (x.set i y) b o (G1.or (iB.or G2))
 | [],_,_,_,_,_,hi,_,_,_,_,_,_,_,_=>by simp at hi
 | z :: x,b,o,G1,G2,0,_,_,h2,h3,h4,aZ,_,_,cU =>
  ⟨vs,iB,G2,h2,h3,by simpa using h4,by simpa using aZ,cU,fun _ _ h=>.inr (.inl h),fun _ _ h=>.inr (.inr h)⟩
 | z :: x,b,o,G1,G2,i+1,hi,⟨ws,A,B,a1,a2,a3,a4,a5,Hv,Hw⟩,h2,h3,h4,aZ,bd,bC,cU=>by
  have e1:o +(i+1)*size=o+size+i*size:=by rw [Nat.add_one_mul];omega
  have e2:o +(i+1+1)*size=o+size +(i+1)*size:=by rw [Nat.add_one_mul (i+1)];omega
  have:=Row.AV i (by simpa using hi) a4 h2 h3 (by rwa [← e1]) (by rw [← e2];exact aZ) (fun b o x y=>bd b o (Hw b o x) y) (fun b o x y=>bC b o (Hw b o x) y) cU
  refine⟨ws,A,_,a1,a2,a3,this,?_,fun b o h=>.inl (Hv b o h),?_⟩
  ·rintro b o x (y | y | y)
   ·exact a5 b o x y
   ·exact bd b o (Hv b o x) y
   ·exact bC b o (Hv b o x) y
  ·rintro b o (y | y | y)
   ·exact .inl (Hw b o y)
   ·exact .inr (.inl y)
   ·exact .inr (.inr y)
mutual
theorem ad.vx:∀(T:ad) {off:Nat} {t:ad} {x:T.D} {z:List t.D},T.flat=true→T.getAt off t x=some z→False
 | .int _,_,_,_,_,_,h=>by simp [ad.getAt] at h
 | .bool,_,_,_,_,_,h=>by simp [ad.getAt] at h
 | .str,_,_,_,_,_,h=>by simp [ad.getAt] at h
 | .raw,_,_,_,_,_,h=>by simp [ad.getAt] at h
 | .sl t,_,_,_,_,hf,_=>by simp [ad.flat] at hf
 | .st aj,_,_,_,_,hf,h=>ax.vx aj (by simpa only [ad.flat] using hf) (by simpa only [ad.getAt] using h)
theorem ax.vx:∀(aj:ax) {off:Nat} {t:ad} {x:aj.D} {z:List t.D},aj.flat=true→aj.getAt off t x=some z→False
 | .nil,_,_,_,_,_,h=>by simp [ax.getAt] at h
 | .cons T aj,off,t,x,z,hf,h=>by
  simp only [ax.flat] at hf
  cases h1:T.flat
  ·rw [h1] at hf;cases hf
  rw [h1] at hf
  simp only [ax.getAt] at h
  cases hb:Nat.blt off T.size
  ·rw [hb] at h;exact ax.vx aj hf h
  ·rw [hb] at h;exact ad.vx T h1 h
end
section
variable{w b7:World}{Z bK:ah}
theorem pX(t:ad){x:t.D}{vs:List Value}{F:ah}(hF:b4 w b7 F)(h:t.al w Z t.own x vs F):t.al b7 bK t.own x vs F :=
 sJ t (ad.al.same (Z:=ah.none) (fun _ _ h=>h.elim) t t.own hF (sJ t h))
theorem OX(t:ax){x:t.D}{vs:List Value}{F:ah}(hF:b4 w b7 F)(h:t.al w Z t.own x vs F):t.al b7 bK t.own x vs F :=
 Ax t (ax.al.same (Z:=ah.none) (fun _ _ h=>h.elim) t t.own hF (Ax t h))
def OY(w:World)(Z:ah)(t:ad)(z:List t.D)(v:Value)(H1 G1:ah)(R:World→ah→List t.D→ah→Prop):Prop :=
 (ad.sl t).al w Z (.O t.own) z [v] H1∧ah.apart H1 G1∧∀(b7:World) (bK X:ah) (y:List t.D),b4 w b7 G1→(ad.sl t).al b7 bK (.O t.own) y [v] X→ah.apart X G1→R b7 bK y (X.or G1)
mutual
theorem ad.lens:∀(T:ad) (off:Nat) (t:ad) {x:T.D} {z:List t.D} {us:List Value} {G:ah},T.al w Z T.own x us G→T.getAt off t x=some z →
  ∃v H1 G1,us[off]?=some v∧ah.sub H1 G∧ah.sub G1 G∧OY w Z t z v H1 G1 (fun b7 bK y eE=>∀bz,T.setAt off t y x=some bz→T.al b7 bK T.own bz us eE)
 | .int _,_,_,_,_,_,_,_,h=>by simp [ad.getAt] at h
 | .bool,_,_,_,_,_,_,_,h=>by simp [ad.getAt] at h
 | .str,_,_,_,_,_,_,_,h=>by simp [ad.getAt] at h
 | .raw,_,_,_,_,_,_,_,h=>by simp [ad.getAt] at h
 | .sl u,off,t,x,z,us,G,hr,h=>by
  simp only [ad.getAt] at h
  cases hb:Nat.beq off 0
  ·rw [hb] at h;cases h
  rw [hb] at h
  obtain rfl:=Nat.eq_of_beq_eq_true hb
  obtain ⟨e,rfl⟩:=gD h
  subst e
  have h8:=hr
  simp only [ad.own,ad.al] at hr
  obtain ⟨A,c,rfl,_⟩:=hr
  refine⟨_,G,ah.none,rfl,fun _ _ h=>h,fun _ _ h=>h.elim,h8,fun _ _ _ h=>h.elim,fun b7 bK X y _ h2 _ bz hs=>?_⟩
  simp only [ad.setAt] at hs
  obtain ⟨e,rfl⟩:=gD (show ez (.sl u) (.sl u) y=some bz from hs)
  exact ad.al.mono (fun _ _ h=>h) _ _ (fun _ _ h=>.inl h) h2
 | .st aj,off,t,x,z,us,G,hr,h=>by
  have hJ:aj.flat=false:=by
   cases hf:aj.flat
   ·rfl
   ·exact(ad.vx (.st aj) (by simpa only [ad.flat] using hf) h).elim
  simp only [ad.own,hJ,Bool.false_eq_true,if_false,ad.al,a'.parts] at hr
  simp only [ad.getAt] at h
  obtain ⟨v,H1,G1,h1,h2,h3,h4,aZ,bd⟩:=ax.lens aj off t hr h
  refine⟨v,H1,G1,h1,h2,h3,h4,aZ,fun b7 bK X y k1 k2 k3 bz hs=>?_⟩
  simp only [ad.setAt] at hs
  simp only [ad.own,hJ,Bool.false_eq_true,if_false,ad.al,a'.parts]
  exact bd b7 bK X y k1 k2 k3 bz hs
theorem ax.lens:∀(aj:ax) (off:Nat) (t:ad) {x:aj.D} {z:List t.D} {us:List Value} {G:ah},aj.al w Z aj.own x us G→aj.getAt off t x=some z →
  ∃v H1 G1,us[off]?=some v∧ah.sub H1 G∧ah.sub G1 G∧OY w Z t z v H1 G1 (fun b7 bK y eE=>∀bz,aj.setAt off t y x=some bz→aj.al b7 bK aj.own bz us eE)
 | .nil,_,_,_,_,_,_,_,h=>by simp [ax.getAt] at h
 | .cons T aj,off,t,x,z,us,G,hr,h=>by
  simp only [ax.own,ax.al,cQ.ag,cQ.dq] at hr
  obtain ⟨kX,hK,mR,mS,rfl,bA,cc,hap,ha,hb⟩:=hr
  have hl:=(ad.al.len T _ bA).1
  simp only [ax.getAt] at h
  cases cw:Nat.blt off T.size
  ·rw [cw] at h
   have Hy:T.size≤off:=by
    rcases Nat.lt_or_ge off T.size with h1 | h1
    ·have:Nat.blt off T.size=true:=Nat.ble_eq_true_of_le h1
     rw [this] at cw;cases cw
    ·exact h1
   obtain ⟨v,H1,G1,h1,h2,h3,h4,aZ,bd⟩:=ax.lens aj (off-T.size) t cc h
   refine⟨v,H1,mR.or G1,?_,fun b o x=>hb b o (h2 b o x),?_,h4,?_,fun b7 bK X y k1 k2 k3 bz hs=>?_⟩
   ·rw [List.getElem?_append_right (by omega),hl];exact h1
   ·rintro b o (y | y)
    ·exact ha b o y
    ·exact hb b o (h3 b o y)
   ·rintro b o y (q | q)
    ·exact hap b o q (h2 b o y)
    ·exact aZ b o y q
   ·simp only [ax.setAt,cw,cond_false] at hs
    obtain ⟨jq,hz,hs⟩:=bb hs
    obtain rfl:=aU hs
    simp only [ax.own,ax.al,cQ.ag,cQ.dq]
    refine⟨kX,hK,mR,X.or G1,rfl,pX T (k1.mono fun _ _ h=>.inl h) bA,bd b7 bK X y (k1.mono fun _ _ h=>.inr h) k2 (fun b o p q=>k3 b o p (.inr q)) jq hz,?_,fun _ _ h=>.inr (.inl h),?_⟩
    ·rintro b o p (q | q)
     ·exact k3 b o q (.inl p)
     ·exact hap b o p (h3 b o q)
    ·rintro b o (q | q)
     ·exact .inl q
     ·exact .inr (.inr q)
  ·rw [cw] at h
   have Hy:off<T.size:=Nat.le_of_ble_eq_true cw
   obtain ⟨v,H1,G1,h1,h2,h3,h4,aZ,bd⟩:=ad.lens T off t bA h
   refine⟨v,H1,G1.or mS,?_,fun b o x=>ha b o (h2 b o x),?_,h4,?_,fun b7 bK X y k1 k2 k3 bz hs=>?_⟩
   ·rw [List.getElem?_append_left (by omega)];exact h1
   ·rintro b o (y | y)
    ·exact ha b o (h3 b o y)
    ·exact hb b o y
   ·rintro b o y (q | q)
    ·exact aZ b o y q
    ·exact hap b o (h2 b o y) q
   ·simp only [ax.setAt,cw,cond_true] at hs
    obtain ⟨jq,hz,hs⟩:=bb hs
    obtain rfl:=aU hs
    simp only [ax.own,ax.al,cQ.ag,cQ.dq]
    refine⟨kX,hK,X.or G1,mS,rfl,bd b7 bK X y (k1.mono fun _ _ h=>.inl h) k2 (fun b o p q=>k3 b o p (.inl q)) jq hz,OX aj (k1.mono fun _ _ h=>.inr h) cc,?_,?_,fun _ _ h=>.inr (.inr h)⟩
    ·rintro b o (p | p) q
     ·exact k3 b o p (.inr q)
     ·exact hap b o (h3 b o p) q
    ·rintro b o (q | q)
     ·exact .inl q
     ·exact .inr (.inl q)
end
theorem mA.lens{T:ad}{ys:List T.D}{a:Addr}{c:Nat}{F:ah}{i off:Nat}{t:ad}{z:List t.D}(h:mA w (T.al w Z T.own) T.size ys a c F)(hi:i<ys.length)(az:T.getAt off t (J T ys i)=some z) :
  ∃v H1,w.cell? (at_ a.block (a.off+i*T.size+off))=some v∧(ad.sl t).al w Z (.O t.own) z [v] H1∧ah.sub H1 F ∧
   ∀(b7:World) (bK X:ah) (y:List t.D) (bz:T.D),b4 w b7 (ah.diff F H1)→(ad.sl t).al b7 bK (.O t.own) y [v] X→ah.apart X (ah.diff F H1)→T.setAt off t y (J T ys i)=some bz →
    mA b7 (T.al b7 bK T.own) T.size (ys.set i bz) a c (X.or (ah.diff F H1)):=by
 rw [c6 hi] at az ⊢
 obtain ⟨G,g1,g2,g3⟩:=h.row
 obtain ⟨mR,iB,mS,vs,bA,Hz,hvl,cl,cc,a1,a2,a3,s1,s2,s3⟩:=g1.AU i hi
 obtain ⟨v,H1,G1,hv,k1,k2,k3,bf,bs⟩:=ad.lens T off t Hz az
 have xI:ah.sub H1 G:=fun b o x=>s2 b o (k1 b o x)
 have hle:ys.length*T.size≤c*T.size:=Nat.mul_le_mul_right _ h.cap
 have gp:(i+1)*T.size≤ys.length*T.size:=Nat.mul_le_mul_right _ hi
 rw [Nat.add_one_mul] at gp
 refine⟨v,H1,?_,k3,fun b o x=>g3 b o (xI b o x),fun b7 bK X y bz hs hr hap HA=>?_⟩
 ·have:=cl off v hv
  exact this
 have sV:∀ {A:ah},ah.sub A G→ah.apart A H1→ah.sub A (ah.diff F H1):=fun hA au b o x=>⟨g3 b o (hA b o x),fun y=>au b o x y⟩
 have sW:ah.sub mR (ah.diff F H1):=sV s1 fun b o x y=>a1 b o x (k1 b o y)
 have sX:ah.sub mS (ah.diff F H1):=sV s3 fun b o x y=>a3 b o (k1 b o y) x
 have d1:ah.sub G1 (ah.diff F H1):=sV (fun b o x=>s2 b o (k2 b o x)) fun b o x y=>bf b o y x
 have oL:∀j,j<c*T.size→ah.diff F H1 a.block (a.off+j):=fun j hj=>⟨h.inF j hj,fun y=>g2 j hj (xI _ _ y)⟩
 have hcell:∀j,j<c*T.size→b7.cell? (at_ a.block (a.off+j))=w.cell? (at_ a.block (a.off+j)):=fun j hj=>(hs _ _ (oL j hj)).1
 have fa:=bs b7 bK X y (hs.mono d1) hr (fun b o p q=>hap b o p (d1 b o q)) bz HA
 refine⟨h.spot,by simpa using h.cap,fun j hj=>hs.j3 (oL j hj) (h.wr j hj),fun j hj=>.inr (oL j hj),mR.or ((X.or G1).or mS),?_,?_,?_⟩
 ·refine Row.AV i hi (bA.imp (fun y us de hG hr=>pX T (hs.mono fun b o p=>sW b o (hG b o p)) hr) fun j hj=>hcell j ?_) fa hvl (cl.of_eq fun j hj=>?_) (cc.imp (fun y us de hG hr=>pX T (hs.mono fun b o p=>sX b o (hG b o p)) hr) fun j hj=>?_) ?_ a2 ?_
  ·simp only [List.length_take] at hj
   have:min i ys.length*T.size≤ys.length*T.size:=Nat.mul_le_mul_right _ (Nat.min_le_right _ _)
   omega
  ·have:=hcell (i*T.size+j) (by omega)
   rwa [← Nat.add_assoc] at this
  ·simp only [List.length_drop] at hj
   have e1:(ys.length-(i+1))*T.size=ys.length*T.size-(i*T.size+T.size):=by rw [Nat.sub_mul,Nat.add_one_mul]
   rw [e1] at hj
   have:=hcell ((i+1)*T.size+j) (by rw [Nat.add_one_mul];omega)
   rwa [← Nat.add_assoc] at this
  ·rintro b o p (q | q)
   ·exact hap b o q (sW b o p)
   ·exact a1 b o p (k2 b o q)
  ·rintro b o (p | p) q
   ·exact hap b o p (sX b o q)
   ·exact a3 b o (k2 b o p) q
 ·rintro j hj (p | (p | p) | p)
  ·exact g2 j hj (s1 _ _ p)
  ·exact hap _ _ p (oL j hj)
  ·exact g2 j hj (s2 _ _ (k2 _ _ p))
  ·exact g2 j hj (s3 _ _ p)
 ·rintro b o (p | (p | p) | p)
  ·exact .inr (sW b o p)
  ·exact .inl p
  ·exact .inr (d1 b o p)
  ·exact .inr (sX b o p)
end
end Go.LM
