/- Each operation of the model is what the interpreter says. Conditions: each theorem's own hypotheses. -/
import Derived.Test.YtklmgcjamifmaaaGreatDoorMLma
import Derived.Laws.BytesString
import Derived.Laws.Tables
import Derived.Laws.Append
set_option linter.unusedVariables false
set_option linter.unusedSimpArgs false
namespace Go.LM
section
variable{P:Program}{Q:Exit→Act→World→Prop}
variable{w0:World}{F0 Z0:ah}{n:cD}{s aq:an}{a b_:Act}{w w':World}{ι bf:Nat→bG}{Z Z':ah}
def cY(w0:World)(F0 Z0:ah)(n:cD)(s:an)(a:Act)(w:World):Prop:=∃ ι Z,Inv w0 F0 Z0 n s a w ι Z
theorem Yq(v:Value):aQ w Z s ι (Hg v) v:=by
 unfold Hg
 split <;> simp only [aQ,cj]
 exact⟨_,rfl,rfl⟩
theorem e7(h:Inv w0 F0 Z0 n s a w ι Z)(x:Operand):aQ w Z s ι (bV s x) (a.eval x):=by
 cases x with
 | tmp t=>exact h.tmps t
 | const v=>exact Yq v
 | func f=>simp only [bV,Act.eval,aQ];exact⟨[],[],rfl,by simp only [aY],by simp only [aY]⟩
 | global g=>simp only [bV,aQ]
theorem HT{E:Env}{t:Nat}{x y:a6}{v:Value}(h:typed E t x=some y)(hv:aQ w Z s ι x v):aQ w Z s ι y v:=by
 cases x <;> simp only [typed] at h <;> try (obtain rfl:=aT h;exact hv)
 ·simp at h
 ·simp at h
 ·cases ht:E.ty t with
  | none=>rw [ht] at h;simp at h
  | some T =>
   rw [ht] at h
   cases T <;> simp at h
   subst h
   simp only [aQ] at hv ⊢
   exact hv
theorem fW{α : Type}{og:Sem α}{f : α → Next}{v : α}(h:og.run P w=.ok v w'):(do pure (f (← og)):Sem Next).run P w=.ok (f v) w':=by
 rw [run_bind,h];rfl
theorem mf{o:Oper}{v:Value}{x:a6}{s1:an}(hr:(execOp a.eval o).run P w=.ok (.value v) w')(h:Inv w0 F0 Z0 n s1 a w' ι Z)(hv:aQ w' Z s1 ι x v)
  (ag:∀k,o.dst=some k→k<n):o.wp P a w (fun b_ w'=>cY w0 F0 Z0 n (s1.dst o.dst x) b_ w') Q:=by
 unfold Oper.wp
 rw [hr,Oper.upon_value]
 exact⟨ι,Z,h.dst hv ag⟩
theorem wp_skip{o:Oper}{s1:an}(hr:(execOp a.eval o).run P w=.ok .skip w')(h:Inv w0 F0 Z0 n s1 a w' ι Z)
  (ag:∀k,o.dst=some k→k<n):o.wp P a w (fun b_ w'=>cY w0 F0 Z0 n (s1.dst o.dst .aD) b_ w') Q:=by
 unfold Oper.wp
 rw [hr,Oper.upon_skip]
 exact⟨ι,Z,h.dst (by simp only [aQ]) ag⟩
def Pure(P:Program)(o:Oper)(a:Act)(w:World)(R:Act→World→Prop):Prop:=∃v,(∀w',(execOp a.eval o).run P w'=.ok (.value v) w')∧R (a.put o.dst v) w
theorem Pure.wp{o:Oper}{R:Act→World→Prop}(h:Pure P o a w R):o.wp P a w R Q:=by
 obtain ⟨v,h1,h2⟩:=h
 unfold Oper.wp
 rw [h1 w,Oper.upon_value]
 exact h2
theorem dA{o:Oper}{v:Value}{x:a6}{s1:an}(hr:∀w',(execOp a.eval o).run P w'=.ok (.value v) w')(h:Inv w0 F0 Z0 n s1 a w ι Z)(hv:aQ w Z s1 ι x v)
  (ag:∀k,o.dst=some k→k<n):Pure P o a w (cY w0 F0 Z0 n (s1.dst o.dst x)) :=
 ⟨v,hr,ι,Z,h.dst hv ag⟩
structure gS(P:Program)(E:Env):Prop where
 ty:∀id T,E.ty id=some T→T.ok P id
 ptr:∀id,E.tg id=true→∃e,P.underlying id=some (.pointer e)
variable{E:Env}{o:Oper}{bs : Type}{K:an→Option bs}{r : bs}{id:Nat}
theorem Bp{x:Operand}(h:Inv w0 F0 Z0 n s a w ι Z)(ag:∀k,o.dst=some k→k<n)(ho:o.op=.move x∨o.op=.assign x)(hk:cT E id o s K=some r) :
  ∃aq,K aq=some r∧Pure P o a w (cY w0 F0 Z0 n aq):=by
 have en:(match typed E o.type (bV s x) with | some v=>K (s.dst o.dst v) | none=>none)=some r:=by
  rcases ho with ho | ho <;>(unfold cT at hk;rw [ho] at hk;exact hk)
 cases ht:typed E o.type (bV s x) with
 | none=>rw [ht] at en;simp at en
 | some v =>
  rw [ht] at en
  refine⟨_,en,dA (v:=a.eval x) (fun w'=>?_) h (HT ht (e7 h x)) ag⟩
  rcases ho with ho | ho <;>(unfold execOp;rw [ho];rfl)
theorem OV{c x y:Operand}(h:Inv w0 F0 Z0 n s a w ι Z)(ag:∀k,o.dst=some k→k<n)(ho:o.op=.pick c x y)(hk:cT E id o s K=some r) :
  ∃aq,K aq=some r∧Pure P o a w (cY w0 F0 Z0 n aq):=by
 unfold cT at hk
 rw [ho] at hk
 simp only at hk
 have hc:=e7 h c
 have hx:=e7 h x
 have aN:=e7 h y
 have hrun:∀t,a.eval c=.bool t→∀w',(execOp a.eval o).run P w'=.ok (.value (if t then a.eval x else a.eval y)) w':=by
  intro t ht w'
  unfold execOp;rw [ho]
  simp only [run_bind,asBool,ht,run_pure]
 cases hcv:bV s c with
 | aV j2 =>
  rw [hcv] at hk hc
  cases j2 with
  | bool t =>
   simp only [aQ,cj] at hc
   have hr:=hrun t hc
   cases t with
   | true =>
    cases cK:typed E o.type (bV s x) with
    | none=>rw [cK] at hk;cases gu:typed E o.type (bV s y) <;> rw [gu] at hk <;> simp at hk
    | some v =>
     rw [cK] at hk
     have:K (s.dst o.dst v)=some r:=by cases gu:typed E o.type (bV s y) <;> rw [gu] at hk <;> exact hk
     exact⟨_,this,dA hr h (HT cK hx) ag⟩
   | false =>
    cases gu:typed E o.type (bV s y) with
    | none=>rw [gu] at hk;cases cK:typed E o.type (bV s x) <;> rw [cK] at hk <;> simp at hk
    | some v =>
     rw [gu] at hk
     have:K (s.dst o.dst v)=some r:=by cases cK:typed E o.type (bV s x) <;> rw [cK] at hk <;> exact hk
     exact⟨_,this,dA hr h (HT gu aN) ag⟩
  | _=>simp at hk
 | _=>rw [hcv] at hk;simp at hk
theorem qk{i:Nat}{eB:cm}(h:mkObj s i eB=some aq):s.o i=.none∧aq=s.bQ i eB:=by
 unfold mkObj at h
 cases ho:s.o i <;> rw [ho] at h <;> simp at h
 exact⟨rfl,h.symm⟩
theorem Yr{t:Nat}(bZ:gS P E)(h:Inv w0 F0 Z0 n s a w ι Z)(ag:∀k,o.dst=some k→k<n)(ho:o.op=.alloc t)(hk:cT E id o s K=some r) :
  ∃aq,K aq=some r∧o.wp P a w (cY w0 F0 Z0 n aq) Q:=by
 unfold cT at hk
 rw [ho] at hk
 simp only at hk
 cases ht:E.ty t with
 | none=>rw [ht] at hk;simp at hk
 | some T =>
  rw [ht] at hk
  simp only at hk
  cases hm:mkObj s id (.var 0 T.jl) with
  | none=>rw [hm] at hk;simp at hk
  | some s1 =>
   rw [hm] at hk
   obtain ⟨b2,rfl⟩:=qk hm
   have ca:=bZ.ty t T ht
   have hz:bK w Z s ι T.jl (dH T T.cO).cells.toList:=by
    rw [HS (ad.lJ T) ((rF (w:=w) (Z:=Z) (s:=s) (ι := ι) T).ee)]
    exact rF T
   have hn:=h.newVar b2 hz t
   refine⟨_,hk,mf (v:=.pointer (some (at_ w.heap.size 0))) (w' := { w with heap:=w.heap.push (.cells (dH T T.cO).cells t) }) ?_ hn ?_ ag⟩
   ·unfold execOp;rw [ho]
    refine fW ?_
    simp only [Instr.alloc,run_bind,Bo ca,OU,run_pure]
   ·simp only [aQ]
    refine⟨by show bU s.o id _ id≠_;rw [cw];simp,_,rfl,rfl,?_⟩
    show match (bU s.o id _ id).core with | .var _ _=>_ | .row .. => _ | _=>_
    rw [cw]
    exact⟨rfl,_,by rw [cw],by simp [at_]⟩
theorem Ys{t:Nat}{x:Operand}(bZ:gS P E)(h:Inv w0 F0 Z0 n s a w ι Z)(ag:∀k,o.dst=some k→k<n)(ho:o.op=.box t x)(hk:cT E id o s K=some r) :
  ∃aq,K aq=some r∧o.wp P a w (cY w0 F0 Z0 n aq) Q:=by
 unfold cT at hk
 rw [ho] at hk
 simp only at hk
 cases ht:E.ty t with
 | none=>rw [ht] at hk;simp at hk
 | some T =>
  rw [ht] at hk
  simp only at hk
  cases hc:iQ T (bV s x) with
  | none=>rw [hc] at hk;simp at hk
  | some cs =>
   rw [hc] at hk
   simp only at hk
   cases hb:Nat.beq cs.length T.size
   ·rw [hb] at hk;simp at hk
   rw [hb] at hk
   simp only [cond_true] at hk
   cases hm:mkObj s id (.var 0 cs) with
   | none=>rw [hm] at hk;simp at hk
   | some s1 =>
    rw [hm] at hk
    obtain ⟨b2,rfl⟩:=qk hm
    have hn:=h.newVar b2 (rE hc (e7 h x)) t
    refine⟨_,hk,mf (v:=.pointer (some (at_ w.heap.size 0))) (w' := { w with heap:=w.heap.push (.cells (a.eval x).cells t) }) ?_ hn ?_ ag⟩
    ·unfold execOp;rw [ho]
     refine fW ?_
     simp only [Instr.box,run_bind,OU,run_pure]
    ·simp only [aQ]
     refine⟨by show bU s.o id _ id≠_;rw [cw];simp,_,rfl,rfl,?_⟩
     show match (bU s.o id _ id).core with | .var _ _=>_ | .row .. => _ | _=>_
     rw [cw]
     exact⟨rfl,_,by rw [cw],by simp [at_]⟩
theorem Yt{t:Nat}{x:Operand}(bZ:gS P E)(h:Inv w0 F0 Z0 n s a w ι Z)(ag:∀k,o.dst=some k→k<n)(ho:o.op=.load t x)(hk:cT E id o s K=some r) :
  ∃aq,K aq=some r∧o.wp P a w (cY w0 F0 Z0 n aq) Q:=by
 unfold cT at hk
 rw [ho] at hk
 simp only at hk
 have hx:=e7 h x
 have hrun:∀ {T:ad} {b i:Nat} {vs:List Value},E.ty t=some T→a.eval x=.pointer (some (at_ b i))→b8 w b i vs→vs.length=T.size →
   (execOp a.eval o).run P w=.ok (.value (dH T vs)) w:=by
  intro T b i vs ht he hc hl
  unfold execOp;rw [ho]
  refine fW ?_
  simp only [Instr.loadAt,Instr.sureAddr,he,run_bind,run_pure,HP (bZ.ty t T ht) hc hl]
 cases ht:E.ty t with
 | none=>rw [ht] at hk;simp at hk
 | some T =>
  rw [ht] at hk
  cases cK:bV s x with
  | ptr p =>
   rw [cK] at hk hx
   simp only at hk
   cases c7:(l_ s T.size p).bind (jZ T) with
   | none=>rw [c7] at hk;simp at hk
   | some v =>
    rw [c7] at hk
    obtain ⟨cs,h1,h2⟩:=bg c7
    simp only [aQ] at hx
    obtain ⟨_,A,he,au⟩:=hx
    obtain ⟨b,i,vs,rfl,hc,b4,hl⟩:=yl h h1 au
    exact⟨_,hk,mf (hrun ht he b4 hl) h (ph h2 hc) ag⟩
  | dk dp cs off =>
   rw [cK] at hk hx
   simp only at hk
   cases c7:(takeN off T.size cs).bind (jZ T) with
   | none=>rw [c7] at hk;simp at hk
   | some v =>
    rw [c7] at hk
    simp only at hk
    cases dU:alive s dp
    ·rw [dU] at hk;simp at hk
    rw [dU] at hk
    obtain ⟨ds,h1,h2⟩:=bg c7
    obtain ⟨h3,rfl⟩:=pe h1
    simp only [aQ] at hx
    obtain ⟨_,b,i,vs,he,hx⟩:=hx
    obtain ⟨hc,b4,_⟩:=hx dU
    have hl:=hc.len
    exact⟨_,hk,mf (hrun ht he (b4.part off T.size) (by simp;omega)) h (ph h2 ((hc.drop _).take _)) ag⟩
  | _=>rw [cK] at hk;simp at hk
theorem Inv.Yu(h:Inv w0 F0 Z0 n s a w ι Z){id:Nat}(cc:(s.o id).live)(hx:Ext w w' (ι id).F):Inv w0 F0 Z0 n (s.bQ id .dead) a w' ι Z:=by
 have hm:eI w Z s ι w' Z (s.bQ id .dead) ι := by
  refine⟨fun j=>?_,fun _ _ h=>h,b9.iW hx h.rB ?_⟩
  ·show iV (s.o j) (ι j) (bU s.o id .dead j) (ι j)
   by_cases hj:id=j
   ·subst hj;rw [cw];exact .dead _ _ _
   ·rw [cS hj];exact .stay _ _
  ·rintro b o (hz | ⟨d',gf,qf,_,hf⟩) iA
   ·exact h.c5 id cc b o iA hz
   ·have hne:d'≠id:=by
     rintro rfl
     have:bU s.o d' .dead d'=s.o d':=qf
     rw [cw] at this
     rw [← this] at cc
     exact cc
    exact h.apart d' id gf cc hne b o hf iA
 have rD:∀ {j},((s.bQ id .dead).o j).live→id≠j∧(s.o j).live:=fun {j} hl=>by
  have hl:(bU s.o id .dead j).live:=hl
  by_cases hj:id=j
  ·subst hj;rw [cw] at hl;exact hl.elim
  ·rw [cS hj] at hl;exact⟨hj,hl⟩
 refine h.next hm hx (fun b o hf=>(h.own id cc b o hf).1) (fun _ _ h=>.inl h) ?_ ?_ (fun k=>(h.tmps k).move hm) h.size h.defers
 ·intro j hl hne
  exact absurd ⟨cS (rD hl).1,rfl⟩ hne
 ·intro j hl
  exact h.c5 j (rD hl).2
theorem Yv{t:Nat}{x y:Operand}(bZ:gS P E)(h:Inv w0 F0 Z0 n s a w ι Z)(ag:∀k,o.dst=some k→k<n)(ho:o.op=.store t x y)(hk:cT E id o s K=some r) :
  ∃aq,K aq=some r∧o.wp P a w (cY w0 F0 Z0 n aq) Q:=by
 unfold cT at hk
 rw [ho] at hk
 simp only at hk
 have hx:=e7 h x
 have aN:=e7 h y
 cases ht:E.ty t with
 | none=>rw [ht] at hk;simp at hk
 | some T =>
  rw [ht] at hk
  cases cK:bV s x with
  | ptr p =>
   rw [cK] at hk hx
   simp only at hk
   cases hc:iQ T (bV s y) with
   | none =>
    rw [hc] at hk
    simp only at hk
    cases gu:bV s y <;> rw [gu] at hk <;> try (simp at hk;done)
    rename_i u
    cases bX:s.o p.id <;> rw [bX] at hk <;> try (simp at hk;done)
    rename_i ver old
    cases e8:p.fa with
    | some i=>rw [e8] at hk;simp at hk
    | none =>
     rw [e8] at hk
     simp only at hk
     cases hb:(ad.beq u T&&Nat.beq p.off 0&&Nat.ble T.size old.length)
     ·rw [hb] at hk;simp at hk
     rw [hb] at hk
     simp only [cond_true] at hk
     simp only [Bool.and_eq_true] at hb
     obtain ⟨⟨hb1,hb2⟩,hb3⟩:=hb
     have:=ad.eq_of_beq _ _ hb1
     subst this
     have hb2:=Nat.eq_of_beq_eq_true hb2
     have hb3:=Nat.le_of_ble_eq_true hb3
     rw [gu] at aN
     simp only [aQ] at hx aN
     obtain ⟨_,A,he,au⟩:=hx
     obtain ⟨tt,hw1⟩:=aN
     have cc:(s.o p.id).live:=by rw [bX];trivial
     have c2:=h.fS p.id
     rw [bX] at c2
     obtain ⟨a0,us,dG,hsp,hcu,b4,hwr⟩:=c2
     obtain ⟨hs,au⟩:=au
     rw [bX] at au
     obtain ⟨_,a1,OW,hA⟩:=au
     rw [dG] at OW
     obtain rfl:=aT OW
     rw [hb2] at hA
     subst hA
     have hx2:Ext w (setCells w a0.block (a0.off+0) (a.eval y).cells.toList) (ι p.id).F:=n9 _ _ _ _ fun i hi=>by
      have:=(hwr i (by rw [tt] at hi;omega)).2;simpa using this
     refine⟨_,hk,wp_skip (w':=setCells w a0.block (a0.off+0) (a.eval y).cells.toList) ?_ (h.Yu cc hx2) ag⟩
     unfold execOp;rw [ho]
     have:=HR (P:=P) (w:=w) (bZ.ty t _ ht) (b:=a0.block) (o:=a0.off+0) (v:=a.eval y) (by rw [← Array.length_toList,tt]) hw1 (fun j hj=>by
      have:=(hwr j (by rw [← Array.length_toList,tt] at hj;omega)).1;simpa using this)
     simp only [Instr.storeAt,Instr.sureAddr,he,run_bind,run_pure,this]
   | some cs =>
    rw [hc] at hk
    simp only at hk
    cases hb:Nat.beq cs.length T.size
    ·rw [hb] at hk;simp at hk
    rw [hb] at hk
    simp only [cond_true] at hk
    cases mg:Be s p cs with
    | none=>rw [mg] at hk;simp at hk
    | some s1 =>
     rw [mg] at hk
     have hb:=Nat.eq_of_beq_eq_true hb
     have pj:=rE hc aN
     simp only [aQ] at hx
     obtain ⟨_,A,he,au⟩:=hx
     obtain ⟨b,i,rfl,hw,bf,Z',hi⟩:=Yk h mg au pj
     have hl:=pj.len
     refine⟨_,hk,wp_skip (w':=setCells w b i (a.eval y).cells.toList) ?_ hi ag⟩
     unfold execOp;rw [ho]
     have:=HR (P:=P) (w:=w) (bZ.ty t T ht) (b:=b) (o:=i) (v:=a.eval y) (by simp at hl;omega) pj.ee (fun j hj=>hw j (by simpa using hj))
     simp only [Instr.storeAt,Instr.sureAddr,he,run_bind,run_pure,this]
  | _=>rw [cK] at hk;simp at hk
end
end Go.LM
namespace Go.LM
section
variable{P:Program}{Q:Exit→Act→World→Prop}
variable{w0:World}{F0 Z0:ah}{n:cD}{s aq:an}{a b_:Act}{w w':World}{ι bf:Nat→bG}{Z Z':ah}
variable{E:Env}{o:Oper}{bs : Type}{K:an→Option bs}{r : bs}{id:Nat}
theorem ym{m:Nat}{i:Int}{k:Nat}(h:aM m i=some k):0≤i∧i<(m:Int)∧k=i.toNat∧k<m:=by
 unfold aM at h
 split at h
 ·rename_i hc
  have:=aT h
  exact⟨hc.1,hc.2,this.symm,by omega⟩
 ·simp at h
theorem Yw{m:Nat}{lo hi:Int}{q:Nat×Nat}(h:d_ m lo hi=some q):0≤lo∧lo≤hi∧hi≤(m:Int)∧q=(lo.toNat,hi.toNat):=by
 unfold d_ at h
 split at h
 ·rename_i hc
  exact⟨hc.1,hc.2.1,hc.2.2,(aT h).symm⟩
 ·simp at h
theorem rG{x:a6}{i:Int}{v:Value}(h:kt x=some i)(hv:aQ w Z s ι x v):∃k,v=.int k i:=by
 cases x with
 | aV c =>
  cases c <;> simp [kt] at h
  subst h
  simp only [aQ,cj] at hv
  exact⟨_,hv⟩
 | _=>simp [kt] at h
theorem OX{x:Operand}(h:Inv w0 F0 Z0 n s a w ι Z)(ag:∀k,o.dst=some k→k<n)(ho:o.op=.nilCheck x)(hk:cT E id o s K=some r) :
  ∃aq,K aq=some r∧Pure P o a w (cY w0 F0 Z0 n aq):=by
 unfold cT at hk
 rw [ho] at hk
 simp only at hk
 have hx:=e7 h x
 cases cK:bV s x with
 | ptr p =>
  rw [cK] at hk hx
  refine⟨_,hk,dA (v:=a.eval x) (fun w'=>?_) h hx ag⟩
  simp only [aQ] at hx
  obtain ⟨_,A,he,_⟩:=hx
  unfold execOp;rw [ho];simp only [he];rfl
 | dk dp cs off =>
  rw [cK] at hk hx
  refine⟨_,hk,dA (v:=a.eval x) (fun w'=>?_) h hx ag⟩
  simp only [aQ] at hx
  obtain ⟨_,b,i,vs,he,_⟩:=hx
  unfold execOp;rw [ho];simp only [he];rfl
 | may b dp cs =>
  rw [cK] at hk hx
  cases b
  ·cases hk
  refine⟨_,hk,dA (v:=a.eval x) (fun w'=>?_) h ?_ ag⟩
  ·simp only [aQ] at hx
   rcases hx with⟨hx,_⟩ | ⟨_,_,b,i,vs,he,_⟩
   ·cases hx
   unfold execOp;rw [ho];simp only [he];rfl
  ·simp only [aQ] at hx ⊢
   rcases hx with⟨hx,_⟩ | ⟨_,hx⟩
   ·cases hx
   ·exact hx
 | fn f l m =>
  rw [cK] at hk hx
  refine⟨_,hk,dA (v:=a.eval x) (fun w'=>?_) h hx ag⟩
  simp only [aQ] at hx
  obtain ⟨us,vs,he,_⟩:=hx
  unfold execOp;rw [ho];simp only [he];rfl
 | opt i q =>
  rw [cK] at hk hx
  simp only at hk
  obtain ⟨k,h1,hk⟩:=bg hk
  obtain ⟨h2,h3,rfl,h4⟩:=ym h1
  simp only [aQ] at hx
  obtain ⟨iX,hx⟩:=hx
  rcases hx with⟨hx,_⟩ | ⟨_,A,he,au⟩
  ·omega
  refine⟨_,hk,dA (v:=a.eval x) (fun w'=>?_) h ?_ ag⟩
  ·unfold execOp;rw [ho];simp only [he];rfl
  ·simp only [aQ];exact⟨iX,A,he,au⟩
 | _=>rw [cK] at hk;simp at hk
theorem ay.Bq{P:Program} : ∀ {aj:ay} {cn:List Field} {base i k:Nat} {u:ad},aj.okF P cn base→aj.off i=some (k,u) →
  ∃f,cn[i]?=some f∧f.offset=base+k∧u.ok P f.type
 | .nil,_,_,_,_,_,_,h=>by simp [ay.off] at h
 | .cons t aj,cn,base,0,k,u,ho,h=>by
  simp only [ay.okF] at ho
  obtain ⟨f,lI,rfl,h1,h2,h3⟩:=ho
  simp only [ay.off,Option.some.injEq,Prod.mk.injEq] at h
  obtain ⟨rfl,rfl⟩:=h
  exact⟨f,rfl,by simpa using h1,h2⟩
 | .cons t aj,cn,base,i+1,k,u,ho,h=>by
  simp only [ay.okF] at ho
  obtain ⟨f,lI,rfl,h1,h2,h3⟩:=ho
  simp only [ay.off] at h
  obtain ⟨q,h4,a7⟩:=bg h
  simp only [Option.some.injEq,Prod.mk.injEq] at a7
  obtain ⟨rfl,rfl⟩:=a7
  obtain ⟨na,k1,k2,k3⟩:=ay.Bq h3 h4
  exact⟨na,by simpa using k1,by omega,k3⟩
theorem HU{aj:ay}{id:TypeId}(h:(ad.st aj).ok P id):∃cn,P.underlying id=some (.struct cn)∧aj.okF P cn.toList 0:=by
 simp only [ad.ok] at h;exact h.2
theorem lK{t:ad}{id:TypeId}(h:(ad.sl t).ok P id):∃e,P.underlying id=some (.slice e)∧t.ok P e:=by
 simp only [ad.ok] at h;exact h.2
theorem OY{f:Field}{u:ad}{b i:Nat}(hu:u.ok P f.type)(hz:u.size≠0):(fieldPlace (at_ b i) f).run P w=.ok (at_ b (i+f.offset)) w:=by
 unfold fieldPlace
 rw [run_bind,run_sizeOf hu]
 simp only
 rw [if_neg hz,run_pure,qd]
theorem OZ{t:Nat}{x:Operand}{i:Nat}(bZ:gS P E)(h:Inv w0 F0 Z0 n s a w ι Z)(ag:∀k,o.dst=some k→k<n)(ho:o.op=.fieldAddr t x i)(hk:cT E id o s K=some r) :
  ∃aq,K aq=some r∧Pure P o a w (cY w0 F0 Z0 n aq):=by
 unfold cT at hk
 rw [ho] at hk
 simp only at hk
 have hx:=e7 h x
 cases ht:E.ty t with
 | none=>rw [ht] at hk;simp at hk
 | some T =>
  rw [ht] at hk
  cases T with
  | st aj =>
   obtain ⟨cn,hu,kW⟩:=HU (bZ.ty t _ ht)
   have hrun:∀ {k:Nat} {u:ad} {b j:Nat},aj.off i=some (k,u)→u.size≠0→a.eval x=.pointer (some (at_ b j))→∀ {w':World},
     (execOp a.eval o).run P w'=.ok (.value (.pointer (some (at_ b (j+k))))) w':=by
    intro k u b j fx hz he w'
    obtain ⟨f,h1,h2,h3⟩:=ay.Bq kW fx
    rw [Array.getElem?_toList] at h1
    unfold execOp;rw [ho]
    refine fW ?_
    simp only [Instr.fieldAt,run_bind,run_underlying hu,h1,Instr.sureAddr,he,run_pure,OY h3 hz,h2,Nat.zero_add]
   cases cK:bV s x with
   | ptr p =>
    rw [cK] at hk hx
    simp only at hk
    cases fx:aj.off i with
    | none=>rw [fx] at hk;simp at hk
    | some q =>
     obtain ⟨k,u⟩:=q
     rw [fx] at hk
     simp only at hk
     cases oi:Nat.beq u.size 0
     case true=>rw [oi] at hk;simp at hk
     rw [oi] at hk
     simp only [aQ] at hx
     obtain ⟨iX,A,he,au⟩:=hx
     obtain ⟨b,j,sp⟩:=A
     obtain ⟨hsp,au⟩:=au
     simp only at hsp
     subst hsp
     refine⟨_,hk,dA (fun w'=>hrun fx (fun e=>by rw [e] at oi;simp at oi) he) h ?_ ag⟩
     simp only [aQ]
     refine⟨iX,_,rfl,rfl,?_⟩
     cases bX:(s.o p.id).core with
     | var ver cs =>
      rw [bX] at au
      obtain ⟨h1,a0,h2,h3⟩:=au
      simp only [at_,Addr.mk.injEq] at h3
      exact⟨h1,a0,h2,by simp [at_,h3.1,h3.2.1];omega⟩
     | row di em ver xs =>
      rw [bX] at au
      obtain ⟨q,h1,h2,a0,h3,h4⟩:=au
      simp only [at_,Addr.mk.injEq] at h4
      exact⟨q,h1,h2,a0,h3,by simp [at_,h4.1,h4.2.1];omega⟩
     | _=>trivial
   | dk dp cs off =>
    rw [cK] at hk hx
    simp only at hk
    cases fx:aj.off i with
    | none=>rw [fx] at hk;simp at hk
    | some q =>
     obtain ⟨k,u⟩:=q
     rw [fx] at hk
     simp only at hk
     cases oi:Nat.beq u.size 0
     case true=>rw [oi] at hk;simp at hk
     rw [oi] at hk
     simp only [aQ] at hx
     obtain ⟨ng,b,j,vs,he,hx⟩:=hx
     refine⟨_,hk,dA (fun w'=>hrun fx (fun e=>by rw [e] at oi;simp at oi) he) h ?_ ag⟩
     simp only [aQ]
     exact⟨ng,b,j,vs,by rw [Nat.add_assoc],hx⟩
   | _=>rw [cK] at hk;simp at hk
  | _=>simp at hk
theorem HV{u:ad}{id:TypeId}{cs:List Value}{k:Nat}(hu:u.ok P id)(hk:k+u.size≤cs.length):(Go.part id cs.toArray k).run P w=.ok (dH u ((cs.drop k).take u.size)) w:=by
 unfold Go.part
 rw [run_bind,OT hu]
 simp only
 cases ha:u.agg
 ·have h1:=HM ha
  simp only [Bool.false_eq_true,if_false]
  rw [h1] at hk ⊢
  have cz:k<cs.length:=by omega
  have:(cs.drop k).take 1=[cs[k]]:=by
   rw [List.drop_eq_getElem_cons cz,List.take_succ_cons,List.take_zero]
  rw [this,HO ha]
  simp [cz,run_pure]
 ·simp only [if_true]
  rw [run_bind,run_sizeOf hu,HN ha]
  simp only [run_pure]
  congr 2
  apply Array.ext'
  simp [List.take_drop,Nat.add_comm]
theorem O0{t:Nat}{x:Operand}{i:Nat}(bZ:gS P E)(h:Inv w0 F0 Z0 n s a w ι Z)(ag:∀k,o.dst=some k→k<n)(ho:o.op=.field t x i)(hk:cT E id o s K=some r) :
  ∃aq,K aq=some r∧Pure P o a w (cY w0 F0 Z0 n aq):=by
 unfold cT at hk
 rw [ho] at hk
 simp only at hk
 have hx:=e7 h x
 cases ht:E.ty t with
 | none=>rw [ht] at hk;simp at hk
 | some T =>
  rw [ht] at hk
  cases T with
  | st aj =>
   obtain ⟨cn,hu,kW⟩:=HU (bZ.ty t _ ht)
   cases cK:bV s x with
   | iu cs =>
    rw [cK] at hk hx
    simp only at hk
    cases fx:aj.off i with
    | none=>rw [fx] at hk;simp at hk
    | some q =>
     obtain ⟨k,u⟩:=q
     rw [fx] at hk
     simp only at hk
     cases hw:(takeN k u.size cs).bind (jZ u) with
     | none=>rw [hw] at hk;simp at hk
     | some v =>
      rw [hw] at hk
      obtain ⟨ds,h1,h2⟩:=bg hw
      obtain ⟨h3,rfl⟩:=pe h1
      simp only [aQ] at hx
      obtain ⟨vs,he,hc⟩:=hx
      obtain ⟨f,f1,f2,f3⟩:=ay.Bq kW fx
      rw [Array.getElem?_toList] at f1
      have hl:=hc.len
      refine⟨_,hk,dA (fun w'=>?_) h (ph h2 ((hc.drop k).take u.size)) ag⟩
      unfold execOp;rw [ho]
      refine fW ?_
      simp only [Instr.field,run_bind,run_underlying hu,f1,he,asAgg,run_pure]
      have:=HV (P:=P) (w:=w') f3 (cs:=vs) (k:=k) (by omega)
      rw [f2,Nat.zero_add]
      exact this
   | _=>rw [cK] at hk;simp at hk
  | _=>simp at hk
theorem O1{x:Operand}{i:Nat}(h:Inv w0 F0 Z0 n s a w ι Z)(ag:∀k,o.dst=some k→k<n)(ho:o.op=.extract x i)(hk:cT E id o s K=some r) :
  ∃aq,K aq=some r∧Pure P o a w (cY w0 F0 Z0 n aq):=by
 unfold cT at hk
 rw [ho] at hk
 simp only at hk
 have hx:=e7 h x
 cases cK:bV s x with
 | o9 l =>
  rw [cK] at hk hx
  simp only at hk
  cases hi:l[i]? with
  | none=>rw [hi] at hk;simp at hk
  | some v =>
   rw [hi] at hk
   simp only [aQ] at hx
   obtain ⟨vs,he,hl⟩:=hx
   have:∀(l:List a6) (vs:List Value) (i:Nat),aY w Z s ι l vs→l[i]?=some v→∃u,vs[i]?=some u∧aQ w Z s ι v u:=by
    intro l
    induction l with
    | nil=>intro vs i _ hi;simp at hi
    | cons y l ih =>
     intro vs i hl hi
     simp only [aY] at hl
     obtain ⟨u,us,rfl,h1,h2⟩:=hl
     cases i with
     | zero=>simp at hi;subst hi;exact⟨u,rfl,h1⟩
     | succ i=>exact ih us i h2 (by simpa using hi)
   obtain ⟨u,h1,h2⟩:=this l vs i hl hi
   refine⟨_,hk,dA (v:=u) (fun w'=>?_) h h2 ag⟩
   unfold execOp;rw [ho]
   refine fW ?_
   simp only [Instr.extract,he]
   simp [h1,run_pure]
 | _=>rw [cK] at hk;simp at hk
theorem HW(h:Inv w0 F0 Z0 n s a w ι Z):∀(l:List Operand),aY w Z s ι (l.map (bV s)) (l.map a.eval)
 | []=>by simp only [List.map_nil,aY]
 | x :: l=>by simp only [List.map_cons,aY];exact⟨_,_,rfl,e7 h x,HW h l⟩
theorem O2{f:FuncId}{first lx:Array Operand}(h:Inv w0 F0 Z0 n s a w ι Z)(ag:∀k,o.dst=some k→k<n)(ho:o.op=.makeFunc (.func f) first lx)(hk:cT E id o s K=some r) :
  ∃aq,K aq=some r∧Pure P o a w (cY w0 F0 Z0 n aq):=by
 unfold cT at hk
 rw [ho] at hk
 simp only at hk
 refine⟨_,hk,dA (v:=.func (.func f) (first.map a.eval) (lx.map a.eval)) (fun w'=>?_) h ?_ ag⟩
 ·unfold execOp;rw [ho];rfl
 ·simp only [aQ]
  refine⟨first.toList.map a.eval,lx.toList.map a.eval,?_,HW h _,HW h _⟩
  congr 1 <;>(apply Array.ext';simp)
end
end Go.LM
namespace Go.LM
section
variable{P:Program}{Q:Exit→Act→World→Prop}
variable{w0:World}{F0 Z0:ah}{n:cD}{s aq:an}{a b_:Act}{w w':World}{ι bf:Nat→bG}{Z Z':ah}
variable{E:Env}{o:Oper}{bs : Type}{K:an→Option bs}{r : bs}{id:Nat}
theorem HX{k:IntKind}{i:Int} :(asIntOf (.int k i)).run P w=.ok (k,i) w:=rfl
theorem HY{t:TypeId}{u:ad}{e:TypeId}{A:Addr}{b o len c:Nat}{k:IntKind}{i:Int}(hu:P.underlying t=some (.slice e))(he:u.ok P e)
  (h0:0≤i) (h1:i<(len:Int)):(Instr.indexAt t (.slice (some (at_ b o)) len c) (.int k i)).run P w=.ok (.pointer (some (at_ b (o+i.toNat*u.size)))) w:=by
 unfold Instr.indexAt
 simp only [run_bind,HX,run_underlying hu,run_pure]
 rw [if_pos ⟨h0,h1⟩]
 simp only [run_bind,run_sizeOf he,run_pure,qd]
theorem beq_eq{u v:ad}(h:ad.beq u v=true):u=v:=ad.eq_of_beq _ _ h
theorem O3{t:Nat}{x i:Operand}(bZ:gS P E)(h:Inv w0 F0 Z0 n s a w ι Z)(ag:∀k,o.dst=some k→k<n)(ho:o.op=.indexAddr t x i)(hk:cT E id o s K=some r) :
  ∃aq,K aq=some r∧Pure P o a w (cY w0 F0 Z0 n aq):=by
 unfold cT at hk
 rw [ho] at hk
 simp only at hk
 have hx:=e7 h x
 have hi:=e7 h i
 cases ht:E.ty t with
 | none=>rw [ht] at hk;simp at hk
 | some T =>
  cases T with
  | sl u =>
   obtain ⟨e,hu,jo⟩:=lK (bZ.ty t _ ht)
   rw [ht] at hk
   cases tu:kt (bV s i) with
   | none=>rw [tu] at hk;cases bV s x <;> simp at hk
   | some q =>
    rw [tu] at hk
    obtain ⟨cP,v_⟩:=rG tu hi
    cases cK:bV s x with
    | aV c =>
     rw [cK] at hk hx
     simp only [aQ] at hx
     cases c with
     | ag j sub =>
      simp only at hk
      obtain ⟨iX,A,m,c,iY,hh⟩:=hx
      cases bX:s.o j with
      | row v em ver xs =>
       rw [bX] at hk
       simp only at hk
       cases hb:ad.beq u v
       ·rw [hb] at hk;simp at hk
       rw [hb] at hk
       obtain rfl:=beq_eq hb
       obtain ⟨k,h1,hk⟩:=bg hk
       obtain ⟨h2,h3,rfl,h4⟩:=ym h1
       obtain ⟨g1,g2,g3,g4,g5⟩:=hh _ _ _ _ (lD bX)
       have hm:ly sub xs=m:=by
        cases sub with
        | none=>simp [ly,g1]
        | some p=>obtain ⟨lo,l⟩:=p;simp [ly,g1]
       rw [hm] at h3 h4
       rcases g5 with g5 | ⟨a0,gi,rfl⟩
       ·omega
       refine⟨_,hk,dA (v:=.pointer (some (at_ a0.block (a0.off+ei sub*u.size+q.toNat*u.size)))) (fun w'=>?_) h ?_ ag⟩
       ·unfold execOp;rw [ho]
        refine fW ?_
        simp only [iY,v_]
        exact HY (A:=a0) hu jo h2 h3
       ·simp only [aQ]
        refine⟨iX,_,rfl,rfl,?_⟩
        simp only
        rw [bX]
        exact⟨_,rfl,by omega,a0,gi,by simp [at_,Nat.add_mul];omega⟩
      | _=>rw [bX] at hk;simp at hk
     | b1 v dp cr xs =>
      simp only at hk
      cases hb:(alive s dp&&ad.beq u v)
      ·rw [hb] at hk;simp at hk
      rw [hb] at hk
      simp only [Bool.and_eq_true] at hb
      obtain ⟨dU,hb⟩:=hb
      obtain rfl:=beq_eq hb
      obtain ⟨k,h1,hk⟩:=bg hk
      obtain ⟨h2,h3,rfl,h4⟩:=ym h1
      obtain ⟨ng,⟨A,m,c,iY⟩,cN,_⟩:=hx
      have hr:=cN dU
      simp only [ad.al] at hr
      obtain ⟨pk,c',hv,hr⟩:=hr
      rw [iY] at hv
      simp only [List.cons.injEq,Value.slice.injEq,and_true] at hv
      obtain ⟨rfl,rfl,rfl⟩:=hv
      rcases hr with hr | ⟨a0,rfl,hsp,hrow,hz,yn⟩
      ·rw [hr] at h4;simp at h4
      obtain ⟨vs,G,k1,k2,k3,ba⟩:=hrow.get q.toNat h4
      obtain ⟨cQ,dL,sp⟩:=a0
      simp only at hsp
      subst hsp
      refine⟨_,hk,dA (v:=.pointer (some (at_ cQ (dL+q.toNat*u.size)))) (fun w'=>?_) h ?_ ag⟩
      ·unfold execOp;rw [ho]
       refine fW ?_
       simp only [iY,v_]
       exact HY (A:=at_ cQ dL) hu jo h2 h3
      ·simp only [aQ]
       refine⟨ng,cQ,dL+q.toNat*u.size,vs,rfl,fun _=>⟨?_,k3,fun j hj=>?_⟩⟩
       ·rw [c6 h4]
        exact ad.qg u dp none ng (fun _=>k1) ⟨_,_,_,k1⟩ .none
       ·have hcl:(u.cells dp none (J u xs q.toNat)).length=u.size:=by
         rw [c6 h4,← k2]
         exact((ad.qg (s:=s) (w:=w) (Z:=Z) (ι := ι) u dp none ng (fun _=>k1) ⟨_,_,_,k1⟩ .none).len).symm
        rw [hcl] at hj
        have:=hz (q.toNat*u.size+j) (by
         have:(q.toNat+1)*u.size≤xs.length*u.size:=Nat.mul_le_mul_right _ h4
         rw [Nat.add_one_mul] at this;omega)
        rwa [← Nat.add_assoc] at this
     | _=>simp at hk
    | _=>rw [cK] at hk;simp at hk
  | _=>rw [ht] at hk;simp at hk
theorem O4{t:Nat}{x i:Operand}(bZ:gS P E)(h:Inv w0 F0 Z0 n s a w ι Z)(ag:∀k,o.dst=some k→k<n)(ho:o.op=.index t x i)(hk:cT E id o s K=some r) :
  ∃aq,K aq=some r∧Pure P o a w (cY w0 F0 Z0 n aq):=by
 unfold cT at hk
 rw [ho] at hk
 simp only at hk
 have hx:=e7 h x
 have hi:=e7 h i
 cases ht:E.ty t with
 | none=>rw [ht] at hk;simp at hk
 | some T =>
  cases T with
  | str =>
   have hu:P.underlying t=some .string:=by have:=bZ.ty t _ ht;simp only [ad.ok] at this;exact this.1
   rw [ht] at hk
   cases tu:kt (bV s i) with
   | none=>rw [tu] at hk;cases cK:bV s x with
    | aV c=>rw [cK] at hk;cases c <;> simp at hk
    | _=>rw [cK] at hk;simp at hk
   | some q =>
    rw [tu] at hk
    obtain ⟨cP,v_⟩:=rG tu hi
    cases cK:bV s x with
    | aV c =>
     rw [cK] at hk hx
     simp only [aQ] at hx
     cases c with
     | str b =>
      simp only at hk
      obtain ⟨k,h1,hk⟩:=bg hk
      obtain ⟨h2,h3,rfl,h4⟩:=ym h1
      obtain ⟨bl,iY,rfl⟩:=hx
      refine⟨_,hk,dA (v:=.int .u8 ((bl.data.toList.getD q.toNat 0).toNat:Int)) (fun w'=>?_) h (by simp only [aQ,cj]) ag⟩
      unfold execOp;rw [ho]
      refine fW ?_
      have hsz:q.toNat<bl.size:=by simpa using h4
      simp only [Instr.index,iY,v_,run_bind,HX,run_underlying hu,if_pos h2]
      have aB:bl[q.toNat]?=some bl[q.toNat]:=by simp [hsz]
      rw [aB]
      simp only [run_pure]
      congr 3
      have:bl.data.toList.getD q.toNat 0=bl[q.toNat]:=by
       simp [List.getD_eq_getElem?_getD,hsz]
       rfl
      rw [this]
     | _=>simp at hk
    | _=>rw [cK] at hk;simp at hk
  | _=>rw [ht] at hk;simp at hk
end
end Go.LM
namespace Go.LM
section
variable{P:Program}{Q:Exit→Act→World→Prop}
variable{w0:World}{F0 Z0:ah}{n:cD}{s aq:an}{a b_:Act}{w w':World}{ι bf:Nat→bG}{Z Z':ah}
variable{E:Env}{o:Oper}{bs : Type}{K:an→Option bs}{r : bs}{id:Nat}
theorem run_sliceBound{k:IntKind}{i:Int}{y:Nat}{code:BoundsCode}(h0:0≤i)(h1:i≤(y:Int)):(Instr.sliceBound (.int k i) y code).run P w=.ok i.toNat w:=by
 unfold Instr.sliceBound
 simp only [run_bind,HX]
 rw [if_pos ⟨h0,h1⟩];rfl
theorem HZ(h:Inv w0 F0 Z0 n s a w ι Z){x:Option Operand}{d i:Int}(hb:bound s x d=some i) :
  (x=none∧i=d)∨∃y k,x=some y∧a.eval y=.int k i:=by
 cases x with
 | none=>simp [bound] at hb;exact .inl ⟨rfl,hb.symm⟩
 | some y =>
  obtain ⟨k,hk⟩:=rG (x:=bV s y) hb (e7 h y)
  exact .inr ⟨y,k,rfl,hk⟩
theorem O5(h:Inv w0 F0 Z0 n s a w ι Z){Yx:Bool}{len cap:Nat}{lo hi:Option Operand}{l q:Int}(hl:bound s lo 0=some l)(hq:bound s hi len=some q)
  (h0:0≤l) (h1:l≤q) (h2:q≤(len:Int)) (hc:len≤cap) :
  (Instr.sliceBounds Yx len cap (lo.map a.eval) (hi.map a.eval) none).run P w'=.ok (l.toNat,q.toNat,cap) w':=by
 unfold Instr.sliceBounds
 rcases HZ h hl with⟨rfl,rfl⟩ | ⟨y,k,rfl,aN⟩ <;> rcases HZ h hq with⟨rfl,rfl⟩ | ⟨kv,k',rfl,Br⟩
 ·simp only [Option.map_none,run_bind,run_pure,Int.toNat_natCast];rfl
 ·simp only [Option.map_none,Option.map_some,run_bind,run_pure,Br]
  rw [run_sliceBound (by omega) (by omega)];rfl
 ·simp only [Option.map_none,Option.map_some,run_bind,run_pure,aN,Int.toNat_natCast]
  simp only [Option.isSome_none,Bool.false_eq_true,if_false]
  rw [run_sliceBound h0 (by omega)]
 ·simp only [Option.map_some,run_bind,run_pure,aN,Br]
  rw [run_sliceBound (by omega) (by omega)]
  simp only [Option.isSome_none,Bool.false_eq_true,if_false]
  rw [run_sliceBound h0 (by omega)]
theorem Yy(h:Inv w0 F0 Z0 n s a w ι Z){len cap:Nat}{lo:Option Operand}{y m:Operand}{l q:Int}{k k':IntKind}(hl:bound s lo 0=some l)(aN:a.eval y=.int k q)(hm:a.eval m=.int k' q)
  (h0:0≤l) (h1:l≤q) (h2:q≤(cap:Int)) :
  (Instr.sliceBounds true len cap (lo.map a.eval) (some (a.eval y)) (some (a.eval m))).run P w'=.ok (l.toNat,q.toNat,q.toNat) w':=by
 unfold Instr.sliceBounds
 rcases HZ h hl with⟨rfl,rfl⟩ | ⟨z,ak9,rfl,hz⟩
 ·simp only [Option.map_none,run_bind,run_pure,aN,hm,if_true]
  rw [run_sliceBound (by omega) h2]
  simp only
  rw [run_sliceBound (by omega) (by omega)]
  rfl
 ·simp only [Option.map_some,run_bind,run_pure,aN,hm,hz,if_true]
  rw [run_sliceBound (by omega) h2]
  simp only
  rw [run_sliceBound (by omega) (by omega)]
  simp only [Option.isSome_some,if_true]
  rw [run_sliceBound h0 (by omega)]
theorem extract_toList(b:ByteArray)(l h:Nat):(b.extract l h).data.toList=part b.data.toList l (h-l):=by
 unfold part
 rw [ByteArray.data_extract,Array.toList_extract,List.extract_eq_take_drop]
theorem O6{T:ad}{c c':a8}{A:Option Addr}{m k:Nat}{l q:Nat}{gP:Nat}{u:ad}(bZ:T=.sl u)(hf:kT s T c=true)(hlen:n' s c=some m)
  (h_:vO c l (q-l)=some c') (hc:cj w Z s ι c (.slice A m k)) (h1:l≤q) (h2:q≤m) (h3:q≤gP) (h4:gP≤k) :
  cj w Z s ι c' (.slice (if gP=l then A else A.map (·.add (l*u.size))) (q-l) (gP-l)):=by
 subst bZ
 cases c with
 | nil v =>
  obtain rfl:=aT h_
  have hv:Value.slice A m k=.slice none 0 0:=hc
  simp only [Value.slice.injEq] at hv
  obtain ⟨rfl,rfl,rfl⟩:=hv
  have:l=0:=by omega
  have:gP=0:=by omega
  have:q=0:=by omega
  subst_vars
  exact rfl
 | b1 v dp cr xs =>
  obtain rfl:=aT h_
  simp only [kT] at hf
  have H0:=beq_eq hf
  injection H0 with H0
  subst H0
  obtain ⟨ag,_,hr,_⟩:=hc
  refine⟨ag,⟨_,_,_,rfl⟩,fun ha=>?_,.none⟩
  have:=hr ha
  simp only [ad.al] at this ⊢
  obtain ⟨pk,O7,hv,hx⟩:=this
  simp only [List.cons.injEq,Value.slice.injEq,and_true] at hv
  obtain ⟨rfl,rfl,rfl⟩:=hv
  have fD:(part xs l (q-l)).length=q-l:=by simp only [part,List.length_take,List.length_drop];omega
  refine⟨_,_,by rw [fD],?_⟩
  by_cases Yz:q-l=0
  ·left;exact List.eq_nil_of_length_eq_zero (by rw [fD,Yz])
  ·right
   rcases hx with rfl | ⟨a0,rfl,hsp,hrow,hz,yn⟩
   ·simp at h2;omega
   obtain ⟨cQ,dL,sp⟩:=a0
   simp only at hsp
   subst hsp
   refine⟨at_ cQ (dL+l*u.size),?_,rfl,(hrow.drop l).take _,fun j hj=>?_,by rw [fD];omega⟩
   ·rw [if_neg (by omega)]
    exact congrArg some (qd _ _ _)
   ·rw [fD] at hj
    have:=hz (l*u.size+j) (by
     have a7:(l +(q-l))*u.size≤xs.length*u.size:=Nat.mul_le_mul_right _ (by omega)
     rw [Nat.add_mul] at a7;omega)
    rwa [← Nat.add_assoc] at this
 | ag j sub =>
  obtain rfl:=aT h_
  obtain ⟨iX,pk,m',k',hv,hh⟩:=hc
  simp only [Value.slice.injEq] at hv
  obtain ⟨rfl,rfl,rfl⟩:=hv
  refine⟨iX,_,_,_,rfl,fun t em ver xs bX=>?_⟩
  obtain ⟨g1,g2,g3,g4,g5⟩:=hh t em ver xs bX
  have ht:t=u:=by
   simp only [kT] at hf
   cases vT:s.o j with
   | row =>
    rw [vT] at hf bX
    simp only [cm.core,cm.row.injEq] at bX
    obtain ⟨rfl,_⟩:=bX
    have:=beq_eq hf
    injection this with this
    exact this.symm
   | _=>rw [vT] at hf;simp at hf
  subst ht
  have e1:ei (some (ei sub+l,q-l))=ei sub+l:=rfl
  refine⟨rfl,by rw [e1];omega,by omega,by rw [e1];omega,?_⟩
  by_cases YA:gP=l
  ·left;omega
  ·right
   rcases g5 with g5 | ⟨a0,hb,rfl⟩
   ·omega
   ·refine⟨a0,hb,?_⟩
    rw [if_neg YA]
    simp only [Option.map_some,qd,e1,Nat.add_mul,Nat.add_assoc]
 | _=>simp [vO] at h_ <;>(simp [kT] at hf <;> simp [ad.beq] at hf)
theorem H4{T:ad}{c:a8}{v:Value}{m:Nat}{u:ad}(bZ:T=.sl u)(hf:kT s T c=true)(hlen:n' s c=some m)(hc:cj w Z s ι c v) :
  ∃A k,v=.slice A m k∧m≤k:=by
 subst bZ
 cases c with
 | nil x=>simp only [n',Option.some.injEq] at hlen;subst hlen;exact⟨none,0,hc,Nat.le_refl _⟩
 | b1 x dp cr xs =>
  simp only [n'] at hlen
  cases ha:alive s dp
  ·rw [ha] at hlen;simp at hlen
  rw [ha] at hlen
  simp only [cond_true,Option.some.injEq] at hlen
  subst hlen
  have:=hc.2.2.1 ha
  simp only [ad.al] at this
  obtain ⟨A,c,hv,hx⟩:=this
  simp only [List.cons.injEq,and_true] at hv
  refine⟨A,c,hv,?_⟩
  rcases hx with rfl | ⟨_,_,_,_,_,yn⟩
  ·simp
  ·exact yn
 | ag j sub =>
  simp only [n'] at hlen
  cases ho:s.o j with
  | row t em ver xs =>
   rw [ho] at hlen
   simp only [Option.some.injEq] at hlen
   obtain ⟨_,A,m',k,rfl,hh⟩:=hc
   obtain ⟨g1,g2,g3,g4,g5⟩:=hh _ _ _ _ (lD ho)
   have:m'=m:=by
    rw [← hlen,g1]
    cases sub with
    | none=>rfl
    | some p=>rfl
   subst this
   exact⟨A,k,rfl,g3⟩
  | _=>rw [ho] at hlen;simp at hlen
 | _=>simp [kT,ad.beq] at hf
theorem O8{t:Nat}{x:Operand}{lo hi gP:Option Operand}(bZ:gS P E)(h:Inv w0 F0 Z0 n s a w ι Z)(ag:∀k,o.dst=some k→k<n)(ho:o.op=.slice t x lo hi gP)(hk:cT E id o s K=some r) :
  ∃aq,K aq=some r∧Pure P o a w (cY w0 F0 Z0 n aq):=by
 unfold cT at hk
 rw [ho] at hk
 simp only at hk
 have hx:=e7 h x
 cases ht:E.ty t with
 | none=>rw [ht] at hk;simp at hk
 | some T =>
  rw [ht] at hk
  simp only [Oy] at hk
  cases cK:bV s x with
  | aV c =>
   rw [cK] at hk hx
   simp only at hk
   simp only [aQ] at hx
   cases hf:kT s T c
   ·rw [hf] at hk;simp at hk
   rw [hf] at hk
   simp only [cond_true] at hk
   cases hlen:n' s c with
   | none=>rw [hlen] at hk;simp at hk
   | some m =>
    rw [hlen] at hk
    simp only at hk
    cases hl:bound s lo 0 with
    | none=>rw [hl] at hk;simp at hk
    | some l =>
     cases hq:bound s hi (m:Int) with
     | none=>rw [hl,hq] at hk;simp at hk
     | some q =>
      rw [hl,hq] at hk
      simp only at hk
      have main:(d_ m l q).bind (fun r=>match vO c r.1 (r.2-r.1) with | some c'=>K (s.dst o.dst (.aV c')) | none=>none)=some r →
        ∃c',K (s.dst o.dst (.aV c'))=some r∧0≤l∧l≤q∧q≤(m:Int)∧vO c l.toNat (q.toNat-l.toNat)=some c':=by
       intro hk
       obtain ⟨p,h1,hk⟩:=bg hk
       obtain ⟨h2,h3,h4,rfl⟩:=Yw h1
       cases h_:vO c l.toNat (q.toNat-l.toNat) with
       | none=>simp only [h_] at hk;simp at hk
       | some c'=>simp only [h_] at hk;exact⟨c',hk,h2,h3,h4,rfl⟩
      cases gP with
      | none =>
       obtain ⟨c',hk,h2,h3,h4,h_⟩:=main hk
       refine⟨_,hk,?_⟩
       by_cases v':T=.str
       ·subst v'
        have hu:P.underlying t=some .string:=by have:=bZ.ty t _ ht;simp only [ad.ok] at this;exact this.1
        cases c <;> simp only [kT,ad.beq] at hf <;> try (simp at hf;done)
        ·rename_i b
         obtain ⟨bl,iY,rfl⟩:=hx
         simp only [n',Option.some.injEq] at hlen
         obtain rfl:=aT h_
         refine dA (v:=.string (bl.extract l.toNat q.toNat)) (fun w'=>?_) h ?_ ag
         ·unfold execOp;rw [ho]
          refine fW ?_
          have hsz:bl.size=m:=by rw [← hlen];simp
          simp only [Instr.sliceAt,Instr.slice,run_bind,run_underlying hu,iY,Option.map_none]
          simp only [Option.isSome_none,Bool.false_eq_true,if_false]
          rw [hsz,run_bind,O5 h hl hq h2 h3 h4 (Nat.le_refl _)]
          rfl
         ·simp only [aQ]
          exact⟨_,rfl,extract_toList _ _ _⟩
        ·cases j3:s.o _ <;> rw [j3] at hf <;> simp [ad.beq] at hf
       ·cases T with
        | str=>exact absurd rfl v'
        | sl u =>
         obtain ⟨e,hu,jo⟩:=lK (bZ.ty t _ ht)
         have hv:=H4 rfl hf hlen hx
         obtain ⟨A,k,iY,ni⟩:=hv
         rw [iY] at hx
         refine dA (fun w'=>?_) h (x:=.aV c') (v:=.slice (if k=l.toNat then A else A.map (·.add (l.toNat*u.size))) (q.toNat-l.toNat) (k-l.toNat)) ?_ ag
         ·unfold execOp;rw [ho]
          refine fW ?_
          simp only [Instr.sliceAt,Instr.slice,run_bind,run_underlying hu,iY,Option.map_none]
          rw [O5 h hl hq h2 h3 h4 ni]
          simp only [run_bind,run_sizeOf jo,run_pure]
         ·simp only [aQ]
          exact O6 rfl hf hlen h_ hx (by omega) (by omega) (by omega) (Nat.le_refl _)
        | _=>cases c <;> simp only [kT,ad.beq] at hf <;> first | (simp at hf;done) | (cases j3:s.o _ <;> rw [j3] at hf <;> simp [ad.beq] at hf)
      | some O9 =>
       simp only at hk
       cases v':ad.beq T .str
       case true=>rw [v'] at hk;simp at hk
       rw [v'] at hk
       simp only [cond_false] at hk
       cases mh:kt (bV s O9) with
       | none=>rw [mh] at hk;simp at hk
       | some YB =>
        rw [mh] at hk
        simp only at hk
        cases hi with
        | none=>simp at hk
        | some y =>
         simp only [Option.isSome_some,cond_true,jF] at hk
         cases yp:decide (q=YB)
         ·rw [yp] at hk;simp at hk
         rw [yp] at hk
         have yp:=of_decide_eq_true yp
         subst yp
         obtain ⟨c',hk,h2,h3,h4,h_⟩:=main hk
         obtain ⟨k1,aN⟩:=rG hq (e7 h y)
         obtain ⟨k2,wa⟩:=rG mh (e7 h O9)
         refine⟨_,hk,?_⟩
         cases T with
         | str=>simp [ad.beq] at v'
         | sl u =>
          obtain ⟨e,hu,jo⟩:=lK (bZ.ty t _ ht)
          obtain ⟨A,k,iY,ni⟩:=H4 rfl hf hlen hx
          rw [iY] at hx
          refine dA (fun w'=>?_) h (x:=.aV c') (v:=.slice (if q.toNat=l.toNat then A else A.map (·.add (l.toNat*u.size))) (q.toNat-l.toNat) (q.toNat-l.toNat)) ?_ ag
          ·unfold execOp;rw [ho]
           refine fW ?_
           simp only [Instr.sliceAt,Instr.slice,run_bind,run_underlying hu,iY,Option.map_some]
           rw [Yy h hl aN wa h2 h3 (by omega)]
           simp only [run_bind,run_sizeOf jo,run_pure]
          ·simp only [aQ]
           exact O6 rfl hf hlen h_ hx (by omega) (by omega) (by omega) (by omega)
         | _=>cases c <;> simp only [kT,ad.beq] at hf <;> first | (simp at hf;done) | (cases j3:s.o _ <;> rw [j3] at hf <;> simp [ad.beq] at hf)
  | _=>rw [cK] at hk;simp at hk
end
end Go.LM
namespace Go.LM
section
variable{P:Program}{Q:Exit→Act→World→Prop}
variable{w0:World}{F0 Z0:ah}{n:cD}{s aq:an}{a b_:Act}{w w':World}{ι bf:Nat→bG}{Z Z':ah}
variable{E:Env}{o:Oper}{bs : Type}{K:an→Option bs}{r : bs}{id:Nat}
theorem Bs{k k':IntKind}(h:Nat.beq (dq k) (dq k')=true):k=k':=tf (Nat.eq_of_beq_eq_true h)
theorem rH{α : Type}{b:Bool}{x:Option α}{y : α}(h:jF b x=some y):b=true∧x=some y:=by
 cases b
 ·simp [jF] at h
 ·exact⟨rfl,h⟩
theorem toList_data(z:ByteArray):z.toList=z.data.toList:=by
 unfold ByteArray.toList
 have key:∀(m i:Nat) (r:List UInt8),z.size-i=m→i≤z.size→ByteArray.toList.loop z i r=r.reverse++z.data.toList.drop i:=by
  intro m
  induction m with
  | zero =>
   intro i r h hi
   unfold ByteArray.toList.loop
   rw [if_neg (by omega),List.drop_of_length_le (by simp;show z.data.size≤i;have:z.data.size=z.size:=rfl;omega)]
   simp
  | succ m ih =>
   intro i r h hi
   unfold ByteArray.toList.loop
   rw [if_pos (by omega),ih (i+1) _ (by omega) (by omega)]
   have cz:i<z.data.toList.length:=by simp;show i<z.data.size;have:z.data.size=z.size:=rfl;omega
   rw [List.drop_eq_getElem_cons cz]
   have aB:z.get! i=z.data.toList[i]:=by
    simp [ByteArray.get!]
    have:i<z.data.size:=by simpa using cz
    exact getElem!_pos z.data i this
   rw [aB];simp
 have:=key z.size 0 [] rfl (by omega)
 simpa using this
theorem O_(x y:ByteArray):(x.toList==y.toList)=bn x.data.toList y.data.toList:=by
 rw [toList_data,toList_data,Bool.eq_iff_iff]
 simp [bn]
theorem O'{x:Option a6}{K:a6→Option bs}(h:lift x K=some r):∃v,x=some v∧K v=some r:=by
 cases x with
 | none=>simp [lift] at h
 | some v=>exact⟨v,rfl,h⟩
theorem YC{op:BinOp}{k:IntKind}{x y:Int}{v:a6}{ty yty:TypeId}{xo yo:Operand}(h:Bf op k x y=some v)(h1:op≠.shl)(h2:op≠.shr)(h3:op≠.quo)(h4:op≠.rem) :
  ∃u,(∀w:World,(binOp op ty (.int k x) (.int k y)).run P w=.ok u w)∧∀w Z s ι,aQ w Z s ι v u:=by
 cases op <;> simp only [Bf] at h <;> first | (simp at h;done) | (obtain rfl:=aT h)
 all_goals
  refine⟨_,fun w=>by simp only [binOp];rw [if_neg (by simp)];rfl,fun w Z s ι => ?_⟩
  simp only [aQ,cj]
  try rfl
theorem wb{op:BinOp}{ty:TypeId}{xo yo:Operand}{u v:Value}(h1:(∃k x,u=.int k x)∨(∃x,u=.string x)∨(∃x,u=.bool x)∨(∃x,u=.pointer x)) :
  (eqGuard op ty xo yo u v).run P w=.ok () w:=by
 unfold eqGuard
 rcases h1 with⟨k,x,rfl⟩ | ⟨x,rfl⟩ | ⟨x,rfl⟩ | ⟨x,rfl⟩ <;>(cases op <;> rfl)
theorem jq{op:BinOp}{ty yty:TypeId}{xo yo:Operand}{u:Value}(ho:o.op=.binOp op ty xo yo yty)(aB:(eqGuard op ty xo yo (a.eval xo) (a.eval yo)).run P w=.ok () w)
  (hr:(binOp op ty (a.eval xo) (a.eval yo)).run P w=.ok u w):(execOp a.eval o).run P w=.ok (.value u) w:=by
 unfold execOp;rw [ho]
 refine fW ?_
 rw [run_bind,aB]
 exact hr
theorem YD{op:BinOp}{x y:ByteArray}{v:a6}{ty:TypeId}(h:Bg op x.data.toList y.data.toList=some v) :
  ∃u,(∀w:World,(binOp op ty (.string x) (.string y)).run P w=.ok u w)∧∀w Z s ι,aQ w Z s ι v u:=by
 cases op <;> simp only [Bg] at h <;> first | (simp at h;done) | (obtain rfl:=aT h)
 all_goals
  refine⟨_,fun w=>rfl,fun w Z s ι => ?_⟩
  have:=O_ x y
  simp only [toList_data] at this
  simp only [aQ,cj,dy,toList_data,Value.bool.injEq,this]
theorem Pb{op:UnOp}{t:Nat}{x:Operand}(h:Inv w0 F0 Z0 n s a w ι Z)(ag:∀k,o.dst=some k→k<n)(ho:o.op=.unOp op t x)(hk:cT E id o s K=some r) :
  ∃aq,K aq=some r∧Pure P o a w (cY w0 F0 Z0 n aq):=by
 unfold cT at hk
 rw [ho] at hk
 simp only at hk
 have hx:=e7 h x
 have hrun:∀ {u:Value} {w:World},(Op.unary op (a.eval x)).run P w=.ok u w→(execOp a.eval o).run P w=.ok (.value u) w:=by
  intro u w hu;unfold execOp;rw [ho];exact fW hu
 cases cK:bV s x with
 | aV c =>
  rw [cK] at hk hx
  simp only [aQ] at hx
  cases op <;> cases c <;> simp only [Hh] at hk <;> try (simp at hk;done)
  ·simp only [cj] at hx
   exact⟨_,hk,dA (fun w'=>hrun (by rw [hx];rfl)) h (by simp only [aQ,cj]) ag⟩
  ·simp only [cj] at hx
   exact⟨_,hk,dA (fun w'=>hrun (by rw [hx];rfl)) h (by simp only [aQ,cj];rfl) ag⟩
  ·simp only [cj] at hx
   exact⟨_,hk,dA (fun w'=>hrun (by rw [hx];rfl)) h (by simp only [aQ,cj]) ag⟩
 | _=>rw [cK] at hk;cases op <;> simp [Hh] at hk
def Pc(P:Program)(E:Env):Prop:=∀id T,E.He id=true→E.ty id=some T→∀(op:BinOp) (xo yo:Operand) (w:World) (Z:ah) (s:an) (ι : Nat→bG) (cs ds:List a8) (us vs:List Value) (q:Bool),
  bK w Z s ι cs us→bK w Z s ι ds vs→T.cmp cs ds=some (q,[],[]) →
  (eqGuard op id xo yo (.agg us.toArray) (.agg vs.toArray)).run P w=.ok () w ∧
  (op=.eql→(binOp op id (.agg us.toArray) (.agg vs.toArray)).run P w=.ok (.bool q) w) ∧
  (op=.neq→(binOp op id (.agg us.toArray) (.agg vs.toArray)).run P w=.ok (.bool (!q)) w)
mutual
theorem ad.yq{w w':World}{Z:ah}{s:an}{ι : Nat→bG} : ∀(t:ad) {cs ds:List a8} {r:Bool×List a8×List a8} {us vs:List Value},t.cmp cs ds=some r→bK w Z s ι cs us→bK w Z s ι ds vs →
  ∃us1 us2 vs1 vs2 a b,us=us1++us2∧vs=vs1++vs2∧cs=a++r.2.1∧ds=b++r.2.2∧bK w' Z s ι a us1∧bK w' Z s ι b vs1∧bK w Z s ι r.2.1 us2∧bK w Z s ι r.2.2 vs2
 | .int k,.int k1 x :: a,.int k2 y :: b,r,us,vs,h,h1,h2=>by
  simp only [ad.cmp] at h
  cases hk:(Nat.beq (dq k1) (dq k)&&Nat.beq (dq k2) (dq k))
  ·rw [hk] at h;cases h
  rw [hk] at h
  obtain rfl:=aT h
  cases us with
  | nil=>exact h1.elim
  | cons u us=>cases vs with
   | nil=>exact h2.elim
   | cons v vs=>exact⟨[u],us,[v],vs,[.int k1 x],[.int k2 y],rfl,rfl,rfl,rfl,⟨h1.1,trivial⟩,⟨h2.1,trivial⟩,h1.2,h2.2⟩
 | .bool,.bool x :: a,.bool y :: b,r,us,vs,h,h1,h2=>by
  obtain rfl:=aT h
  cases us with
  | nil=>exact h1.elim
  | cons u us=>cases vs with
   | nil=>exact h2.elim
   | cons v vs=>exact⟨[u],us,[v],vs,[.bool x],[.bool y],rfl,rfl,rfl,rfl,⟨h1.1,trivial⟩,⟨h2.1,trivial⟩,h1.2,h2.2⟩
 | .str,.str x :: a,.str y :: b,r,us,vs,h,h1,h2=>by
  obtain rfl:=aT h
  cases us with
  | nil=>exact h1.elim
  | cons u us=>cases vs with
   | nil=>exact h2.elim
   | cons v vs=>exact⟨[u],us,[v],vs,[.str x],[.str y],rfl,rfl,rfl,rfl,⟨h1.1,trivial⟩,⟨h2.1,trivial⟩,h1.2,h2.2⟩
 | .st aj,cs,ds,r,us,vs,h,h1,h2=>ay.yq aj (by simpa only [ad.cmp] using h) h1 h2
 | .sl t,cs,ds,r,us,vs,h,h1,h2=>by simp [ad.cmp] at h
 | .raw,cs,ds,r,us,vs,h,h1,h2=>by simp [ad.cmp] at h
 | .int k,[],_,_,_,_,h,_,_=>by simp [ad.cmp] at h
 | .bool,[],_,_,_,_,h,_,_=>by simp [ad.cmp] at h
 | .str,[],_,_,_,_,h,_,_=>by simp [ad.cmp] at h
 | .int k,c :: _,[],_,_,_,h,_,_=>by cases c <;> simp [ad.cmp] at h
 | .bool,c :: _,[],_,_,_,h,_,_=>by cases c <;> simp [ad.cmp] at h
 | .str,c :: _,[],_,_,_,h,_,_=>by cases c <;> simp [ad.cmp] at h
 | .int k,.bool _ :: _,_ :: _,_,_,_,h,_,_ | .int k,.str _ :: _,_ :: _,_,_,_,h,_,_ | .int k,.nil _ :: _,_ :: _,_,_,_,h,_,_ | .int k,.b1 _ _ _ _ :: _,_ :: _,_,_,_,h,_,_ | .int k,.ag _ _ :: _,_ :: _,_,_,_,h,_,_ | .int k,.raw _ :: _,_ :: _,_,_,_,h,_,_=>by simp [ad.cmp] at h
 | .bool,.int _ _ :: _,_ :: _,_,_,_,h,_,_ | .bool,.str _ :: _,_ :: _,_,_,_,h,_,_ | .bool,.nil _ :: _,_ :: _,_,_,_,h,_,_ | .bool,.b1 _ _ _ _ :: _,_ :: _,_,_,_,h,_,_ | .bool,.ag _ _ :: _,_ :: _,_,_,_,h,_,_ | .bool,.raw _ :: _,_ :: _,_,_,_,h,_,_=>by simp [ad.cmp] at h
 | .str,.int _ _ :: _,_ :: _,_,_,_,h,_,_ | .str,.bool _ :: _,_ :: _,_,_,_,h,_,_ | .str,.nil _ :: _,_ :: _,_,_,_,h,_,_ | .str,.b1 _ _ _ _ :: _,_ :: _,_,_,_,h,_,_ | .str,.ag _ _ :: _,_ :: _,_,_,_,h,_,_ | .str,.raw _ :: _,_ :: _,_,_,_,h,_,_=>by simp [ad.cmp] at h
 | .int k,.int _ _ :: _,.bool _ :: _,_,_,_,h,_,_ | .int k,.int _ _ :: _,.str _ :: _,_,_,_,h,_,_ | .int k,.int _ _ :: _,.nil _ :: _,_,_,_,h,_,_ | .int k,.int _ _ :: _,.b1 _ _ _ _ :: _,_,_,_,h,_,_ | .int k,.int _ _ :: _,.ag _ _ :: _,_,_,_,h,_,_ | .int k,.int _ _ :: _,.raw _ :: _,_,_,_,h,_,_=>by simp [ad.cmp] at h
 | .bool,.bool _ :: _,.int _ _ :: _,_,_,_,h,_,_ | .bool,.bool _ :: _,.str _ :: _,_,_,_,h,_,_ | .bool,.bool _ :: _,.nil _ :: _,_,_,_,h,_,_ | .bool,.bool _ :: _,.b1 _ _ _ _ :: _,_,_,_,h,_,_ | .bool,.bool _ :: _,.ag _ _ :: _,_,_,_,h,_,_ | .bool,.bool _ :: _,.raw _ :: _,_,_,_,h,_,_=>by simp [ad.cmp] at h
 | .str,.str _ :: _,.int _ _ :: _,_,_,_,h,_,_ | .str,.str _ :: _,.bool _ :: _,_,_,_,h,_,_ | .str,.str _ :: _,.nil _ :: _,_,_,_,h,_,_ | .str,.str _ :: _,.b1 _ _ _ _ :: _,_,_,_,h,_,_ | .str,.str _ :: _,.ag _ _ :: _,_,_,_,h,_,_ | .str,.str _ :: _,.raw _ :: _,_,_,_,h,_,_=>by simp [ad.cmp] at h
theorem ay.yq{w w':World}{Z:ah}{s:an}{ι : Nat→bG} : ∀(t:ay) {cs ds:List a8} {r:Bool×List a8×List a8} {us vs:List Value},t.cmp cs ds=some r→bK w Z s ι cs us→bK w Z s ι ds vs →
  ∃us1 us2 vs1 vs2 a b,us=us1++us2∧vs=vs1++vs2∧cs=a++r.2.1∧ds=b++r.2.2∧bK w' Z s ι a us1∧bK w' Z s ι b vs1∧bK w Z s ι r.2.1 us2∧bK w Z s ι r.2.2 vs2
 | .nil,cs,ds,r,us,vs,h,h1,h2=>by
  obtain rfl:=aT h
  exact⟨[],us,[],vs,[],[],rfl,rfl,rfl,rfl,trivial,trivial,h1,h2⟩
 | .cons t aj,cs,ds,r,us,vs,h,h1,h2=>by
  simp only [ay.cmp] at h
  obtain ⟨bD,g1,h⟩:=bg h
  obtain ⟨cg,g2,h⟩:=bg h
  obtain rfl:=aT h
  obtain ⟨a1,a2,jn,rC,a,b,rfl,rfl,e1,e2,k1,k2,k3,ba⟩:=ad.yq (w':=w') t g1 h1 h2
  obtain ⟨a3,a4,rI,Bt,b_,b',rfl,rfl,e3,fX,dS,eK,oo,pg⟩:=ay.yq (w':=w') aj g2 k3 ba
  exact⟨a1++a3,a4,jn++rI,Bt,a++b_,b++b',by simp,by simp,by rw [e1,e3];simp,by rw [e2,fX];simp,k1.append dS,k2.append eK,oo,pg⟩
end
theorem Pd{w:World}{Z:ah}{s:an}{ι : Nat→bG}{T:ad}{cs ds:List a8}{q:Bool}{us vs:List Value}(h:T.cmp cs ds=some (q,[],[]))(h1:bK w Z s ι cs us)(h2:bK w Z s ι ds vs)(w':World) :
  bK w' Z s ι cs us∧bK w' Z s ι ds vs:=by
 obtain ⟨us1,us2,vs1,vs2,a,b,e3,fX,tv,Pe,bt,dh,dj,eo⟩:=ad.yq (w':=w') T h h1 h2
 have fU:us2=[]:=by cases us2 with | nil=>rfl | cons=>exact dj.elim
 have mb:vs2=[]:=by cases vs2 with | nil=>rfl | cons=>exact eo.elim
 subst fU mb
 simp only [List.append_nil] at e3 fX tv Pe
 rw [e3,fX,tv,Pe]
 exact⟨bt,dh⟩
theorem Pf{op:BinOp}{t Bu:Nat}{x y:Operand}(bZ:gS P E)(hE:Pc P E)(h:Inv w0 F0 Z0 n s a w ι Z)(ag:∀k,o.dst=some k→k<n)(ho:o.op=.binOp op t x y Bu)(hk:cT E id o s K=some r) :
  ∃aq,K aq=some r∧Pure P o a w (cY w0 F0 Z0 n aq):=by
 unfold cT at hk
 rw [ho] at hk
 simp only at hk
 have hx:=e7 h x
 have aN:=e7 h y
 cases cK:bV s x with
 | aV c =>
  rw [cK] at hk hx
  simp only [aQ] at hx
  cases gu:bV s y with
  | aV d =>
   rw [gu] at hk aN
   simp only [aQ] at aN
   cases c <;> cases d <;> simp only [kS] at hk <;> try (simp at hk;done)
   ·rename_i k i k' j
    simp only [cj] at hx aN
    have aB:∀w:World,(eqGuard op t x y (a.eval x) (a.eval y)).run P w=.ok () w:=fun w=>wb (by rw [hx];exact .inl ⟨_,_,rfl⟩)
    by_cases h1:op=.shl
    ·subst h1
     obtain ⟨h0,hk⟩:=rH hk
     have h0:=of_decide_eq_true h0
     refine⟨_,hk,dA (fun w'=>jq ho (aB w') (by rw [hx,aN];simp only [binOp,Op.shift];rw [if_neg (by omega)];rfl)) h (by simp only [aQ,cj]) ag⟩
    by_cases h2:op=.shr
    ·subst h2
     obtain ⟨h0,hk⟩:=rH hk
     have h0:=of_decide_eq_true h0
     refine⟨_,hk,dA (fun w'=>jq ho (aB w') (by rw [hx,aN];simp only [binOp,Op.shift];rw [if_neg (by omega)];rfl)) h (by simp only [aQ,cj]) ag⟩
    by_cases h3:op=.quo
    ·subst h3
     cases hkk:Nat.beq (dq k) (dq k')
     ·rw [hkk] at hk;simp at hk
     have hk1:jF (j != 0) (K (s.dst o.dst (.aV (.int k (k.wrap (i.tdiv j))))))=some r:=by
      have hk2:cond (Nat.beq (dq k) (dq k')) (jF (j != 0) (K (s.dst o.dst (.aV (.int k (k.wrap (i.tdiv j))))))) none=some r:=hk
      rw [hkk] at hk2;exact hk2
     clear hk
     obtain ⟨h0,hk⟩:=rH hk1
     obtain rfl:=Bs hkk
     have h0:j≠0:=by simpa using h0
     refine⟨_,hk,dA (fun w'=>jq ho (aB w') (by rw [hx,aN];simp only [binOp,Op.intDiv];rw [if_neg (by simp),if_neg h0];rfl)) h (by simp only [aQ,cj]) ag⟩
    by_cases h4:op=.rem
    ·subst h4
     cases hkk:Nat.beq (dq k) (dq k')
     ·rw [hkk] at hk;simp at hk
     have hk1:jF (j != 0) (K (s.dst o.dst (.aV (.int k (i.tmod j)))))=some r:=by
      have hk2:cond (Nat.beq (dq k) (dq k')) (jF (j != 0) (K (s.dst o.dst (.aV (.int k (i.tmod j)))))) none=some r:=hk
      rw [hkk] at hk2;exact hk2
     clear hk
     obtain ⟨h0,hk⟩:=rH hk1
     obtain rfl:=Bs hkk
     have h0:j≠0:=by simpa using h0
     refine⟨_,hk,dA (fun w'=>jq ho (aB w') (by rw [hx,aN];simp only [binOp,Op.intDiv];rw [if_neg (by simp),if_neg h0];rfl)) h (by simp only [aQ,cj]) ag⟩
    have en:cond (Nat.beq (dq k) (dq k')) (lift (Bf op k i j) fun v=>K (s.dst o.dst v)) none=some r:=by
     cases op <;> first | exact hk | exact absurd rfl h1 | exact absurd rfl h2 | exact absurd rfl h3 | exact absurd rfl h4
    cases hkk:Nat.beq (dq k) (dq k')
    ·rw [hkk] at en;simp at en
    rw [hkk] at en
    obtain rfl:=Bs hkk
    obtain ⟨v,hv,en⟩:=O' en
    obtain ⟨u,hu,cN⟩:=YC (P:=P) (ty:=t) (yty:=Bu) (xo:=x) (yo:=y) hv h1 h2 h3 h4
    exact⟨_,en,dA (fun w'=>jq ho (aB w') (by rw [hx,aN];exact hu w')) h (cN _ _ _ _) ag⟩
   ·rename_i i j
    simp only [cj] at hx aN
    have aB:∀w:World,(eqGuard op t x y (a.eval x) (a.eval y)).run P w=.ok () w:=fun w=>wb (by rw [hx];exact .inr (.inr (.inl ⟨_,rfl⟩)))
    cases ht:E.ty t with
    | none=>rw [ht] at hk;simp at hk
    | some T =>
     cases T with
     | bool =>
      rw [ht] at hk
      have hu:P.underlying t=some .bool:=by have:=bZ.ty t _ ht;simp only [ad.ok] at this;exact this.1
      have hb:∀(i j:Bool) {w:World},(Op.equal t (.bool i) (.bool j)).run P w=.ok (i==j) w:=by
       intro i j w
       unfold Op.equal Op.maxDepth Op.equalIn
       rw [run_bind,run_underlying hu]
       rfl
      cases op <;> simp only at hk <;> try (simp at hk;done)
      ·exact⟨_,hk,dA (fun w'=>jq ho (aB w') (by rw [hx,aN];simp only [binOp,run_bind,hb];rfl)) h (by simp only [aQ,cj]) ag⟩
      ·exact⟨_,hk,dA (fun w'=>jq ho (aB w') (by rw [hx,aN];simp only [binOp,run_bind,hb];rfl)) h (by simp only [aQ,cj]) ag⟩
     | _=>rw [ht] at hk;simp at hk
   ·obtain ⟨wc,hx,rfl⟩:=hx
    obtain ⟨we,aN,rfl⟩:=aN
    have aB:∀w:World,(eqGuard op t x y (a.eval x) (a.eval y)).run P w=.ok () w:=fun w=>wb (by rw [hx];exact .inr (.inl ⟨_,rfl⟩))
    by_cases h1:op=.add
    ·subst h1
     obtain ⟨h0,hk⟩:=rH hk
     have h0:=Nat.le_of_ble_eq_true h0
     simp only [Array.length_toList] at h0
     refine⟨_,hk,dA (v:=.string (wc++we)) (fun w'=>jq ho (aB w') (by
      rw [hx,aN];simp only [binOp,Op.stringOp]
      rw [if_neg];rfl
      have e1:wc.data.size=wc.size:=rfl
      have e2:we.data.size=we.size:=rfl
      simp only [IntKind.max,IntKind.signed,IntKind.bits,if_true]
      omega)) h (by simp only [aQ,cj];exact⟨_,rfl,by simp⟩) ag⟩
    ·have en:lift (Bg op wc.data.toList we.data.toList) (fun v=>K (s.dst o.dst v))=some r:=by
      cases op <;> first | exact hk | exact absurd rfl h1
     obtain ⟨v,hv,en⟩:=O' en
     obtain ⟨u,hu,cN⟩:=YD (P:=P) (ty:=t) hv
     exact⟨_,en,dA (fun w'=>jq ho (aB w') (by rw [hx,aN];exact hu w')) h (cN _ _ _ _) ag⟩
  | kQ =>
   rw [gu] at hk aN
   simp only [aQ] at aN
   cases c with
   | b1 di dp cr xs =>
    cases dp with
    | cons=>simp [kS] at hk
    | nil =>
     simp only [kS] at hk
     cases rJ:E.ty t with
     | none=>rw [rJ] at hk;simp at hk
     | some T =>
      cases T with
      | sl u =>
       rw [rJ] at hk
       obtain ⟨e,hu,_⟩:=lK (bZ.ty _ _ rJ)
       obtain ⟨_,_,cN,_⟩:=hx
       have cN:=cN rfl
       simp only [ad.al] at cN
       obtain ⟨A,c',hv,tr⟩:=cN
       have iY:a.eval x=.slice A xs.length c':=by simpa using hv
       have aB:∀w:World,(eqGuard op t x y (a.eval x) (a.eval y)).run P w=.ok () w:=fun w=>by
        rw [iY,aN];unfold eqGuard;cases op <;> rfl
       have hb:∀ {w:World},(Op.equal t (.slice A xs.length c') (.slice none 0 0)).run P w=.ok A.isNone w:=by
        intro w
        unfold Op.equal Op.maxDepth Op.equalIn
        rw [run_bind,run_underlying hu]
        cases A <;> rfl
       have he:A.isNone=true→xs.isEmpty=true:=fun hA=>by
        rcases tr with tr | ⟨a0,tr,_⟩
        ·rw [tr];rfl
        ·rw [tr] at hA;cases hA
       have pick:∀ {k1 mi:Option bs},Bh xs.isEmpty k1 mi=some r→(cond A.isNone k1 mi)=some r:=by
        intro k1 mi hk
        unfold Bh both at hk
        cases hA:A.isNone
        ·rw [hA] at he
         cases Pg:xs.isEmpty
         ·rw [Pg] at hk;exact hk
         ·rw [Pg] at hk
          simp only [cond_true] at hk
          split at hk
          ·rename_i h;rw [cond_false,← h];exact hk
          ·cases hk
        ·rw [he hA] at hk
         simp only [cond_true] at hk ⊢
         split at hk
         ·exact hk
         ·cases hk
       cases op <;> simp only at hk <;> try (simp at hk;done)
       ·have hk:=pick hk
        refine⟨s.dst o.dst (.aV (.bool A.isNone)),by cases A <;> exact hk,dA (fun w'=>jq ho (aB w') (by rw [iY,aN];simp only [binOp,run_bind,hb];rfl)) h (by simp only [aQ,cj]) ag⟩
       ·have hk:=pick hk
        refine⟨s.dst o.dst (.aV (.bool (!A.isNone))),by cases A <;> exact hk,dA (fun w'=>jq ho (aB w') (by rw [iY,aN];simp only [binOp,run_bind,hb];rfl)) h (by simp only [aQ,cj]) ag⟩
      | _=>rw [rJ] at hk;simp at hk
   | _=>simp [kS] at hk
  | _=>rw [gu] at hk;cases c <;> simp [kS] at hk
 | iu cs =>
  rw [cK] at hk hx
  simp only [aQ] at hx
  cases gu:bV s y with
  | iu ds =>
   rw [gu] at hk aN
   simp only [aQ] at aN
   obtain ⟨us,hx,Ph⟩:=hx
   obtain ⟨vs,aN,Pj⟩:=aN
   simp only [kS] at hk
   cases he:E.He t
   ·rw [he] at hk;simp at hk
   rw [he] at hk
   simp only [cond_true] at hk
   cases rJ:E.ty t with
   | none=>rw [rJ] at hk;simp at hk
   | some T =>
   rw [rJ] at hk
   simp only at hk
   cases hq:T.cmp cs ds with
   | none=>rw [hq] at hk;cases op <;> simp at hk
   | some q =>
    obtain ⟨q,bD,cg⟩:=q
    rw [hq] at hk
    match bD,cg,hq,hk with
    | [],[],hq,hk =>
     have hE:=fun w'=>hE t T he rJ op x y w' Z s ι cs ds us vs q (Pd hq Ph Pj w').1 (Pd hq Ph Pj w').2 hq
     cases op <;> simp only at hk <;> try (simp at hk;done)
     ·exact⟨_,hk,dA (fun w'=>jq ho (by rw [hx,aN];exact(hE w').1) (by rw [hx,aN];exact(hE w').2.1 rfl)) h (by simp only [aQ,cj]) ag⟩
     ·exact⟨_,hk,dA (fun w'=>jq ho (by rw [hx,aN];exact(hE w').1) (by rw [hx,aN];exact(hE w').2.2 rfl)) h (by simp only [aQ,cj]) ag⟩
    | _ :: _,_,_,hk=>cases op <;> simp at hk
    | [],_ :: _,_,hk=>cases op <;> simp at hk
  | _=>rw [gu] at hk;simp [kS] at hk
 | opt j i =>
  rw [cK] at hk hx
  simp only [aQ] at hx
  cases gu:bV s y with
  | jY =>
   rw [gu] at hk aN
   simp only [aQ] at aN
   simp only [kS] at hk
   cases mj:E.tg t
   ·rw [mj] at hk;simp at hk
   rw [mj] at hk
   obtain ⟨e,hu⟩:=bZ.ptr t mj
   have aB:∀w:World,(eqGuard op t x y (a.eval x) (a.eval y)).run P w=.ok () w:=by
    intro w
    rcases hx.2 with⟨_,hx⟩ | ⟨_,A,hx,_⟩ <;> exact wb (by rw [hx];exact .inr (.inr (.inr ⟨_,rfl⟩)))
   have hb:∀ {w:World},(Op.equal t (a.eval x) (.pointer none)).run P w=.ok (decide (i<0)) w:=by
    intro w
    rcases hx.2 with⟨h0,hx⟩ | ⟨h0,A,hx,_⟩
    ·rw [hx]
     unfold Op.equal Op.maxDepth Op.equalIn
     rw [run_bind,run_underlying hu]
     simp [h0,run_pure]
    ·rw [hx]
     unfold Op.equal Op.maxDepth Op.equalIn
     rw [run_bind,run_underlying hu]
     have:¬i<0:=by omega
     simp [this,run_pure]
   have lL:∀(op:BinOp) (v:Value),(op=.eql→v=.bool (decide (i<0)))→(op=.neq→v=.bool (!decide (i<0)))→(op=.eql∨op=.neq)→∀ {w:World},(binOp op t (a.eval x) (a.eval y)).run P w=.ok v w:=by
    intro op v h1 h2 h3 w
    rw [aN]
    have oq:∃q,a.eval x=.pointer q:=by rcases hx.2 with⟨_,hx⟩ | ⟨_,A,hx,_⟩ <;> exact⟨_,hx⟩
    obtain ⟨q,oq⟩:=oq
    rw [oq]
    have hb:∀ {w:World},(Op.equal t (.pointer q) (.pointer none)).run P w=.ok (decide (i<0)) w:=fun {w} => by rw [← oq];exact hb
    rcases h3 with rfl | rfl
    ·rw [h1 rfl];simp only [binOp,run_bind,hb];rfl
    ·rw [h2 rfl];simp only [binOp,run_bind,hb];rfl
   cases op <;> simp only at hk <;> try (simp at hk;done)
   ·exact⟨_,hk,dA (fun w'=>jq ho (aB w') (lL .eql _ (fun _=>rfl) (fun h=>by simp at h) (.inl rfl))) h (by simp only [aQ,cj]) ag⟩
   ·exact⟨_,hk,dA (fun w'=>jq ho (aB w') (lL .neq _ (fun h=>by simp at h) (fun _=>rfl) (.inr rfl))) h (by simp only [aQ,cj]) ag⟩
  | _=>rw [gu] at hk;simp [kS] at hk
 | may b dp cs =>
  rw [cK] at hk hx
  simp only [aQ] at hx
  cases gu:bV s y with
  | jY =>
   rw [gu] at hk aN
   simp only [aQ] at aN
   simp only [kS] at hk
   cases mj:E.tg t
   ·rw [mj] at hk;simp at hk
   rw [mj] at hk
   obtain ⟨e,hu⟩:=bZ.ptr t mj
   have aB:∀w:World,(eqGuard op t x y (a.eval x) (a.eval y)).run P w=.ok () w:=by
    intro w
    rcases hx with⟨_,hx⟩ | ⟨_,_,_,_,_,hx,_⟩ <;> exact wb (by rw [hx];exact .inr (.inr (.inr ⟨_,rfl⟩)))
   have hb:∀ {w:World},(Op.equal t (a.eval x) (.pointer none)).run P w=.ok (!b) w:=by
    intro w
    rcases hx with⟨h0,hx⟩ | ⟨h0,_,_,_,_,hx,_⟩
    ·rw [hx]
     unfold Op.equal Op.maxDepth Op.equalIn
     rw [run_bind,run_underlying hu]
     simp [h0,run_pure]
    ·rw [hx]
     unfold Op.equal Op.maxDepth Op.equalIn
     rw [run_bind,run_underlying hu]
     simp [h0,run_pure]
   have lL:∀(op:BinOp) (v:Value),(op=.eql→v=.bool (!b))→(op=.neq→v=.bool (b))→(op=.eql∨op=.neq)→∀ {w:World},(binOp op t (a.eval x) (a.eval y)).run P w=.ok v w:=by
    intro op v h1 h2 h3 w
    rw [aN]
    have oq:∃q,a.eval x=.pointer q:=by rcases hx with⟨_,hx⟩ | ⟨_,_,_,_,_,hx,_⟩ <;> exact⟨_,hx⟩
    obtain ⟨q,oq⟩:=oq
    rw [oq]
    have hb:∀ {w:World},(Op.equal t (.pointer q) (.pointer none)).run P w=.ok (!b) w:=fun {w} => by rw [← oq];exact hb
    rcases h3 with rfl | rfl
    ·rw [h1 rfl];simp only [binOp,run_bind,hb];rfl
    ·rw [h2 rfl];simp only [binOp,run_bind,hb];simp only [Bool.not_not];rfl
   cases op <;> simp only at hk <;> try (simp at hk;done)
   ·exact⟨_,hk,dA (fun w'=>jq ho (aB w') (lL .eql _ (fun _=>rfl) (fun h=>by simp at h) (.inl rfl))) h (by simp only [aQ,cj]) ag⟩
   ·exact⟨_,hk,dA (fun w'=>jq ho (aB w') (lL .neq _ (fun h=>by simp at h) (fun _=>rfl) (.inr rfl))) h (by simp only [aQ,cj]) ag⟩
  | _=>rw [gu] at hk;simp [kS] at hk
 | ptr p =>
  rw [cK] at hk hx
  simp only [aQ] at hx
  obtain ⟨_,A,hx,_⟩:=hx
  cases gu:bV s y with
  | jY =>
   rw [gu] at hk aN
   simp only [aQ] at aN
   simp only [kS] at hk
   cases mj:E.tg t
   ·rw [mj] at hk;simp at hk
   rw [mj] at hk
   obtain ⟨e,hu⟩:=bZ.ptr t mj
   have aB:∀w:World,(eqGuard op t x y (a.eval x) (a.eval y)).run P w=.ok () w:=fun w=>wb (by rw [hx];exact .inr (.inr (.inr ⟨_,rfl⟩)))
   have hb:∀ {w:World},(Op.equal t (.pointer (some A)) (.pointer none)).run P w=.ok false w:=by
    intro w
    unfold Op.equal Op.maxDepth Op.equalIn
    rw [run_bind,run_underlying hu]
    rfl
   cases op <;> simp only at hk <;> try (simp at hk;done)
   ·exact⟨_,hk,dA (fun w'=>jq ho (aB w') (by rw [hx,aN];simp only [binOp,run_bind,hb];rfl)) h (by simp only [aQ,cj]) ag⟩
   ·exact⟨_,hk,dA (fun w'=>jq ho (aB w') (by rw [hx,aN];simp only [binOp,run_bind,hb];rfl)) h (by simp only [aQ,cj];rfl) ag⟩
  | _=>rw [gu] at hk;simp [kS] at hk
 | _=>rw [cK] at hk;simp [kS] at hk
end
end Go.LM
namespace Go.LM
def c4{α : Type}(R : α → List Value→ah→Prop)(size:Nat):List α → List Value→ah→Prop
 | [],vs,_=>vs=[]
 | x :: xs,vs,F=>∃us aj G H,vs=us++aj∧R x us G∧us.length=size∧c4 R size xs aj H∧ah.apart G H∧ah.sub G F∧ah.sub H F
section
variable{α : Type}{R iT : α → List Value→ah→Prop}{size:Nat}{w:World}
theorem c4.len:∀ {xs:List α} {vs:List Value} {F:ah},c4 R size xs vs F→vs.length=xs.length*size
 | [],_,_,h=>by simp only [c4] at h;subst h;simp
 | x :: xs,_,_,h=>by
  obtain ⟨us,aj,G,H,rfl,_,h1,h2,_⟩:=h
  rw [List.length_append,h1,c4.len h2,List.length_cons,Nat.add_one_mul];omega
theorem c4.mono:∀ {xs:List α} {vs:List Value} {F F':ah},ah.sub F F'→c4 R size xs vs F→c4 R size xs vs F'
 | [],_,_,_,_,h=>h
 | x :: xs,_,_,_,hs,⟨us,aj,G,H,h1,h2,h3,h4,a7,bh,bH⟩=>⟨us,aj,G,H,h1,h2,h3,h4,a7,fun b o h=>hs b o (bh b o h),fun b o h=>hs b o (bH b o h)⟩
theorem c4.imp:∀ {xs:List α} {vs:List Value} {F:ah},c4 R size xs vs F→(∀y us G,ah.sub G F→R y us G→iT y us G)→c4 iT size xs vs F
 | [],_,_,h,_=>h
 | x :: xs,_,F,⟨us,aj,G,H,h1,h2,h3,h4,a7,bh,bH⟩,dJ =>
  ⟨us,aj,G,H,h1,dJ _ _ _ bh h2,h3,c4.imp h4 (fun y us dm hs=>dJ y us dm fun b o h=>bH b o (hs b o h)),a7,bh,bH⟩
theorem c4.bare:∀ {xs:List α} {vs:List Value} {F:ah},c4 R size xs vs F→(∀y us G,ah.sub G F→R y us G→iT y us ah.none)→c4 iT size xs vs ah.none
 | [],_,_,h,_=>h
 | x :: xs,_,F,⟨us,aj,G,H,h1,h2,h3,h4,a7,bh,bH⟩,dJ =>
  ⟨us,aj,ah.none,ah.none,h1,dJ _ _ _ bh h2,h3,c4.bare h4 (fun y us dm hs=>dJ y us dm fun b o h=>bH b o (hs b o h)),fun _ _ h=>h.elim,fun _ _ h=>h,fun _ _ h=>h⟩
theorem c4.append:∀ {xs ys:List α} {us vs:List Value} {F G:ah},c4 R size xs us F→c4 R size ys vs G→ah.apart F G→c4 R size (xs++ys) (us++vs) (F.or G)
 | [],ys,us,vs,F,G,h,k,_=>by
  simp only [c4] at h;subst h
  exact k.mono fun _ _ h=>.inr h
 | x :: xs,ys,us,vs,F,G,⟨a,b,A,B,h1,h2,h3,h4,a7,bh,bH⟩,k,ha=>by
  refine⟨a,b++vs,A,B.or G,by rw [h1,List.append_assoc],h2,h3,c4.append h4 k (fun b o h=>ha b o (bH b o h)),?_,fun b o h=>.inl (bh b o h),fun b o h=>h.imp (bH b o) id⟩
  rintro b o g (h | h)
  ·exact a7 b o g h
  ·exact ha b o (bh b o g) h
theorem c4.row:∀ {xs:List α} {vs:List Value} {F:ah} {b o:Nat},c4 R size xs vs F→b8 w b o vs→Row w R size xs b o F
 | [],_,_,_,_,_,_=>trivial
 | x :: xs,_,_,b,o,⟨us,aj,G,H,h1,h2,h3,h4,a7,bh,bH⟩,hc=>by
  subst h1
  exact⟨us,G,H,h2,h3,hc.left,c4.row h4 (h3 ▸ hc.right),a7,bh,bH⟩
theorem Row.s9:∀ {xs:List α} {b o:Nat} {F:ah},Row w R size xs b o F→∃vs,c4 R size xs vs F∧b8 w b o vs
 | [],_,_,_,_=>⟨[],rfl,b8.nil _ _ _⟩
 | x :: xs,b,o,F,⟨us,G,H,h1,h2,h3,h4,a7,bh,bH⟩=>by
  obtain ⟨aj,k1,k2⟩:=Row.s9 h4
  exact⟨us++aj,⟨us,aj,G,H,rfl,h1,h2,k1,a7,bh,bH⟩,h3.append (by rw [h2];exact k2)⟩
theorem c4.replicate{x : α}{us:List Value}(dJ:R x us ah.none)(hl:us.length=size):∀n,c4 R size (List.replicate n x) (List.replicate n us).flatten ah.none
 | 0=>rfl
 | n+1=>by
  rw [List.replicate_succ,List.replicate_succ,List.flatten_cons]
  exact⟨us,_,ah.none,ah.none,rfl,dJ,hl,c4.replicate dJ hl n,fun _ _ h=>h.elim,fun _ _ h=>h,fun _ _ h=>h⟩
end
mutual
theorem H5{w:World}{Z F:ah} : ∀(t:ad) (m:a'),t.al w Z m t.zero t.cO F
 | .int _,_=>by simp only [ad.al,ad.zero,ad.cO]
 | .bool,_=>by simp only [ad.al,ad.zero,ad.cO]
 | .str,_=>by simp only [ad.al,ad.zero,ad.cO];exact⟨_,rfl,rfl⟩
 | .raw,_=>by simp only [ad.al,ad.zero,ad.cO];exact⟨trivial,_,_,_,rfl⟩
 | .sl t,.O e=>by simp only [ad.al,ad.zero,ad.cO];exact⟨none,0,rfl,.inl (by simp)⟩
 | .sl t,.R=>by simp only [ad.al,ad.zero,ad.cO];exact⟨none,0,rfl,.inl trivial⟩
 | .sl t,.S _=>by simp only [ad.al,ad.zero,ad.cO];exact⟨none,0,rfl,.inl trivial⟩
 | .st aj,m=>by simp only [ad.al,ad.zero,ad.cO];exact Pk aj m.parts
theorem Pk{w:World}{Z F:ah} : ∀(aj:ay) (m:cU),aj.al w Z m aj.zero aj.cO F
 | .nil,_=>by simp only [ay.al,ay.cO]
 | .cons t aj,m=>by
  simp only [ay.al,ay.zero,ay.cO]
  exact⟨t.cO,aj.cO,ah.none,ah.none,rfl,H5 t m.ag,Pk aj m.dx,fun _ _ h=>h.elim,fun _ _ h=>h.elim,fun _ _ h=>h.elim⟩
end
section
variable{P:Program}{Q:Exit→Act→World→Prop}
variable{w0:World}{F0 Z0:ah}{n:cD}{s aq:an}{a b_:Act}{w w':World}{ι bf:Nat→bG}{Z Z':ah}
variable{E:Env}{o:Oper}{bs : Type}{K:an→Option bs}{r : bs}{id:Nat}
theorem bJ.ext{F S:ah}(hf:bJ w0 F0 s w ι Z F)(hx:Ext w w' S):bJ w0 F0 s w' ι Z F :=
 ⟨fun b o h=>⟨(hf.own b o h).1,Nat.lt_of_lt_of_le (hf.own b o h).2 hx.size⟩,hf.apart,hf.c5⟩
theorem Inv.fresh(h:Inv w0 F0 Z0 n s a w ι Z){F:ah}(hF:∀b o,F b o→w.heap.size≤b∧b<w'.heap.size):bJ w0 F0 s w' ι Z F:=by
 have:=h.ext.size
 refine⟨fun b o hf=>⟨.inr (by have:=(hF b o hf).1;omega),(hF b o hf).2⟩,fun id hl b o h1 h2=>?_,fun b o h1 h2=>?_⟩
 ·have:=(h.own id hl b o h2).2;have:=(hF b o h1).1;omega
 ·have:=h.iU b o h2;have:=(hF b o h1).1;omega
def grown(w:World)(d:Nat)(arr:Array Value)(e:TypeId)(f:Nat×Nat):World := { w with drawn:=d,heap:=w.heap.push (.cells arr e f) }
theorem A8(w:World)(d:Nat)(arr:Array Value)(e:TypeId)(f:Nat×Nat)(F:ah):Ext w (grown w d arr e f) F :=
 ⟨rfl,rfl,rfl,by simp [grown],fun b hb=>.inl (by simp only [grown];rw [Array.getElem?_push,if_neg (by omega)])⟩
theorem yc(w:World)(d:Nat)(arr:Array Value)(e:TypeId)(f:Nat×Nat):(grown w d arr e f).heap[w.heap.size]?=some (.cells arr e f):=by simp [grown]
theorem yb(w:World)(d:Nat)(arr:Array Value)(e:TypeId)(f:Nat×Nat)(o:Nat):(grown w d arr e f).cell? (at_ w.heap.size o)=arr[o]?:=cell_of_heap (yc ..) o
theorem G9(w:World)(d:Nat)(arr:Array Value)(e:TypeId)(f:Nat×Nat):(grown w d arr e f).heap.size=w.heap.size+1:=by simp [grown]
theorem Inv.newRow(h:Inv w0 F0 Z0 n s a w ι Z){id:Nat}(b2:s.o id=.none){t:ad}{em:a'}{xs:List t.D}{vs:List Value}{G:ah}
  (he:c4 (t.al w Z em) t.size xs vs G) (hG:bJ w0 F0 s w ι Z G) (d:Nat) (arr:Array Value) (e:TypeId) (f:Nat×Nat) (c:Nat)
  (hv:∀(j:Nat) (v:Value),vs[j]?=some v→arr[j]?=some v) (hc:xs.length≤c) (hsz:c*t.size≤arr.size) (hf:f.1=f.2∨c*t.size≤f.1) (hf2:t.size=1∨f.1=f.2) :
  Inv w0 F0 Z0 n (s.bQ id (.row t em 0 xs)) a (grown w d arr e f) (bU ι id ⟨some (at_ w.heap.size 0),c,(ah.run w.heap.size 0 (c*t.size)).or G⟩) Z:=by
 have hx:=A8 w d arr e f ah.none
 have h1:=h.world hx
 have j4:bJ w0 F0 s (grown w d arr e f) ι Z (ah.run w.heap.size 0 (c*t.size)):=h.fresh (by rintro b o ⟨rfl,_,_⟩;rw [G9];omega)
 have fe:=hG.ext hx
 refine h1.Bl b2 ?_ (j4.or fe)
 refine .inr ⟨at_ w.heap.size 0,rfl,rfl,hc,fun j hj=>⟨⟨⟨arr[j]'(by simp only at hj;omega),?_⟩,?_⟩,?_⟩,fun j hj=>.inl ⟨rfl,by simp [at_],by simpa [at_] using hj⟩,G,?_,?_,fun _ _ h=>.inr h⟩
 ·show World.cell? _ (at_ w.heap.size (0+j))=_
  rw [yb];simp
 ·show World.frozen? _ (at_ w.heap.size (0+j))=_
  rw [p_,yc]
  simp only at hj
  simp only [Bool.and_eq_false_iff,decide_eq_false_iff_not]
  omega
 ·refine hf2.imp (fun h=>h) fun h2 k=>?_
  show World.frozen? _ (at_ w.heap.size k)=_
  rw [p_,yc]
  simp only [Bool.and_eq_false_iff,decide_eq_false_iff_not]
  omega
 ·refine c4.row (he.imp fun y us dm hs hr=>ad.al.same (b9.iW hx h.iU fun _ _ _ h=>h) _ _ (b9.iW hx (fun b o aB=>(hG.own b o (hs b o aB)).2) fun _ _ _ h=>h) hr) ?_
  intro i v hi
  show World.cell? _ (at_ w.heap.size (0+i))=_
  rw [yb,Nat.zero_add];exact hv i v hi
 ·intro j hj aB
  have:=(hG.own _ _ aB).2
  simp [at_] at this
theorem yr{id:Nat}{t:ad}{em:a'}{ver:Nat}{xs:List t.D}{A:Addr}{c:Nat}{F:ah}(hA:A.spot=none)(hc:xs.length≤c) :
  cj w Z (s.bQ id (.row t em ver xs)) (bU ι id ⟨some A,c,F⟩) (.ag id none) (.slice (some A) xs.length c):=by
 refine⟨?_,some A,xs.length,c,rfl,?_⟩
 ·show bU s.o id _ id≠_
  rw [cw];simp
 ·intro di gr nj fT ho
  have rA:(bU s.o id (cm.row t em ver xs) id).core=.row di gr nj fT:=ho
  rw [cw] at rA ⊢
  obtain ⟨rfl,_,_,h4⟩:=cm.row.inj rA
  have:=eq_of_heq h4;subst this
  refine⟨rfl,by simp [ei],hc,by simp [ei],.inr ⟨A,rfl,?_⟩⟩
  simp only [ei,Nat.zero_mul,Nat.add_zero]
  cases A;simp_all [at_]
theorem Pl(us:List Value):∀(n j:Nat),j<n*us.length→(List.replicate n us).flatten[j]?=us[j % us.length]?
 | 0,j,h=>by simp at h
 | n+1,j,h=>by
  rw [List.replicate_succ,List.flatten_cons]
  by_cases hj:j<us.length
  ·rw [List.getElem?_append_left hj,Nat.mod_eq_of_lt hj]
  ·have h':j<n*us.length+us.length:=by rw [← Nat.add_one_mul];exact h
   rw [List.getElem?_append_right (by omega),Pl us n (j-us.length) (by omega),← Nat.mod_eq_sub_mod (by omega)]
theorem H6{z:Array Value}{m j:Nat}(us:List Value)(n:Nat)(hz:z.toList=us)(hm:m=n*us.length)(v:Value)(h:(List.replicate n us).flatten[j]?=some v) :
  ((Array.range m).map (z[· % z.size]!))[j]?=some v:=by
 subst hz
 have hj:j<n*z.toList.length:=by
  rcases Nat.lt_or_ge j (n*z.toList.length) with h1 | h1
  ·exact h1
  ·rw [List.getElem?_eq_none (by simp;simpa using h1)] at h;simp at h
 rw [Pl _ _ _ hj] at h
 have hl:z.toList.length=z.size:=by simp
 rw [hl] at h hj
 rw [Array.getElem?_map,Array.getElem?_range,if_pos (by rw [hm,hl];exact hj)]
 simp only [Option.map_some,Option.some.injEq]
 have cz:j % z.size<z.size:=by
  apply Nat.mod_lt
  rcases Nat.eq_zero_or_pos z.size with h0 | h0
  ·rw [h0] at hj;simp at hj
  ·exact h0
 rw [getElem!_pos z _ cz]
 simpa [cz] using h
theorem wrap_i64{i:Int}(h0:0≤i)(h1:i≤68719476736):IntKind.wrap .i64 i=i:=by
 simp [IntKind.wrap,IntKind.bits,IntKind.signed]
 omega
theorem YE{k:IntKind}{i:Int} :(asInt (.int k i)).run P w=.ok i w:=rfl
theorem wg(T:ad):(dH T T.cO).cells.toList=T.cO:=HS (ad.lJ T) ((rF (w:=default) (Z:=ah.none) (s:=⟨fun _=>.aD,fun _=>.none,[]⟩) (ι := fun _=>⟨none,0,ah.none⟩) T).ee)
theorem run_askRoom{b:Nat} :(askRoom b).run P w=.ok () w:=by
 unfold askRoom;split <;> rfl
theorem Bv{e:TypeId}{arr:Array Value} :(newRow e arr).run P w=.ok (at_ w.heap.size 0) (grown w w.drawn arr e (0,0)):=by
 simp [newRow,Go.newObj,run_bind,Sem.run,run_pure,at_,grown]
theorem run_makeSlice{T:ad}{t e:TypeId}{k k':IntKind}{m:Int}(hu:P.underlying t=some (.slice e))(ca:T.ok P e)(h0:0≤m)(h1:m≤68719476736) :
  ∃arr:Array Value,(∀(j:Nat) (v:Value),(List.replicate m.toNat T.cO).flatten[j]?=some v→arr[j]?=some v)∧arr.size=m.toNat*T.size ∧
   (Instr.makeSlice t (.int k m) (.int k' m)).run P w=.ok (.slice (some (at_ w.heap.size 0)) m.toNat m.toNat) (grown w w.drawn arr e (0,0)):=by
 obtain ⟨i,gE,eL,rK,wh⟩:=ca.info
 have hb:¬((i.bytes:Int)*m>2 ^ 48):=by
  have:(i.bytes:Int)*m≤2048*68719476736:=Int.mul_le_mul (by omega) h1 h0 (by omega)
  omega
 have yt:(dH T T.cO).cells.size=T.size:=by
  have:=congrArg List.length (wg T)
  rw [Array.length_toList,ad.lJ] at this;exact this
 refine⟨(Array.range (m.toNat*T.size)).map fun j=>(if m.toNat*T.size=0 then #[] else(dH T T.cO).cells)[j % (if m.toNat*T.size=0 then #[] else(dH T T.cO).cells).size]!,?_,by simp,?_⟩
 ·intro j v hj
  by_cases hz:m.toNat*T.size=0
  ·have:(List.replicate m.toNat T.cO).flatten=[]:=by
    apply List.eq_nil_of_length_eq_zero
    simp [ad.lJ];simpa using hz
   rw [this] at hj;simp at hj
  ·simp only [if_neg hz]
   exact H6 T.cO m.toNat (wg T) (by rw [ad.lJ]) v hj
 ·unfold Instr.makeSlice
  simp only [run_bind,run_underlying hu,YE,run_typeInfo gE,wrap_i64 h0 h1]
  have Bw:¬m<0:=by omega
  simp only [Bw,hb,decide_false,Bool.or_false,Bool.false_or,Bool.false_eq_true,if_false,gt_iff_lt,Int.lt_irrefl]
  simp only [run_bind,run_askRoom,run_sizeOf ca]
  by_cases hz:m.toNat*T.size=0
  ·simp only [if_pos hz,run_bind,run_pure,Bv]
  ·simp only [if_neg hz,run_bind,run_pure,Bv,Bo ca]
theorem YF{t:Nat}{x y:Operand}(bZ:gS P E)(h:Inv w0 F0 Z0 n s a w ι Z)(ag:∀k,o.dst=some k→k<n)(ho:o.op=.makeSlice t x y)(hk:cT E id o s K=some r) :
  ∃aq,K aq=some r∧o.wp P a w (cY w0 F0 Z0 n aq) Q:=by
 unfold cT at hk
 rw [ho] at hk
 simp only at hk
 cases ht:E.ty t with
 | none=>rw [ht] at hk;simp at hk
 | some T =>
  rw [ht] at hk
  cases T with
  | sl T =>
   cases hx:kt (bV s x) with
   | none=>rw [hx] at hk;simp at hk
   | some m =>
    cases aN:kt (bV s y) with
    | none=>rw [hx,aN] at hk;simp at hk
    | some m' =>
     rw [hx,aN] at hk
     obtain ⟨aB,hk2⟩:=rH hk
     clear hk
     have hk:=hk2
     clear hk2
     simp only [Bool.and_eq_true,decide_eq_true_eq,room] at aB
     obtain ⟨⟨h0,rfl⟩,h1⟩:=aB
     have h1:=Nat.le_of_ble_eq_true h1
     cases hm:mkObj s id (.row T T.own 0 (List.replicate m.toNat T.zero)) with
     | none=>rw [hm] at hk;simp at hk
     | some s1 =>
      rw [hm] at hk
      obtain ⟨b2,rfl⟩:=qk hm
      obtain ⟨k,hx⟩:=rG hx (e7 h x)
      obtain ⟨k',aN⟩:=rG aN (e7 h y)
      obtain ⟨e,hu,ca⟩:=lK (bZ.ty t _ ht)
      obtain ⟨arr,ha,has,hr⟩:=run_makeSlice (P:=P) (w:=w) (k:=k) (k':=k') hu ca h0 (by omega)
      have hn:=h.newRow b2 (c4.replicate (H5 T T.own) (ad.lJ T) m.toNat) bJ.none w.drawn arr e (0,0) m.toNat ha (by simp) (by omega) (.inl rfl) (.inr rfl)
      refine⟨_,hk,mf (v:=.slice (some (at_ w.heap.size 0)) m.toNat m.toNat) ?_ hn ?_ ag⟩
      ·unfold execOp;rw [ho]
       refine fW ?_
       rw [hx,aN];exact hr
      ·simp only [aQ]
       have:=yr (w:=grown w w.drawn arr e (0,0)) (Z:=Z) (s:=s) (ι := ι) (id:=id) (em:=T.own) (ver:=0) (xs:=List.replicate m.toNat T.zero) (A:=at_ w.heap.size 0) (c:=m.toNat) (F:=(ah.run w.heap.size 0 (m.toNat*T.size)).or ah.none) rfl (by simp)
       simpa using this
  | _=>simp at hk
end
end Go.LM
namespace Go.LM
section
variable{P:Program}{Q:Exit→Act→World→Prop}
variable{w0:World}{F0 Z0:ah}{n:cD}{s aq:an}{a b_:Act}{w w':World}{ι bf:Nat→bG}{Z Z':ah}
variable{E:Env}{o:Oper}{bs : Type}{K:an→Option bs}{r : bs}{id:Nat}
theorem wi{k:IntKind}{t:TypeId}(h:(ad.int k).ok P t):P.underlying t=some (.int k):=by simp only [ad.ok] at h;exact h.1
theorem wj{t:TypeId}(h:ad.str.ok P t):P.underlying t=some .string:=by simp only [ad.ok] at h;exact h.1
theorem H7{w:World}{Z:ah}{k:IntKind} : ∀l:List Int,c4 ((ad.int k).al w Z .R) 1 l (l.map (Value.int k)) ah.none
 | []=>rfl
 | x :: l=>⟨[.int k x],l.map (Value.int k),ah.none,ah.none,rfl,by simp only [ad.al],rfl,H7 l,fun _ _ h=>h.elim,fun _ _ h=>h,fun _ _ h=>h⟩
theorem YG{e:TypeId}{b:ByteArray} :
  ∃(arr:Array Value) (c d:Nat),(Conv.stringToBytes e b).run P w=.ok (.slice (some (at_ w.heap.size 0)) b.size c) (grown w d arr e (c,c+1))∧b.size≤c∧arr.size=c ∧
   ∀(j:Nat) (v:Value),((ez b.data.toList).map (Value.int .u8))[j]?=some v→arr[j]?=some v:=by
 have hq:(Question.appendCap b.size 0 e).forced=false:=rfl
 have hsz:b.data.size=b.size:=rfl
 refine⟨(b.data.map fun x=>Value.int .u8 x.toNat)++Array.replicate (b.size+w.tape w.drawn (.appendCap b.size 0 e) % (2 ^ 63-b.size)-b.size) (.int .u8 0),b.size+w.tape w.drawn (.appendCap b.size 0 e) % (2 ^ 63-b.size),w.drawn+1,?_,by omega,by simp [hsz],?_⟩
 ·unfold Conv.stringToBytes
  simp only [run_bind,choose,Sem.run,hq,Bool.false_eq_true,if_false,Question.cut]
  simp only [newRow,Go.newObj,run_bind,Sem.run,run_pure,markStringish,Go.shape,Go.freeze]
  simp only [World.shape?,Array.getElem?_push_size,Sem.run]
  simp only [World.freeze,grown]
  simp only [Nat.succ_ne_zero,if_false,Nat.one_ne_zero,Result.ok.injEq,World.mk.injEq,true_and,and_true]
  apply Array.ext_getElem?
  intro i
  rw [Array.getElem?_modify,Array.getElem?_push,Array.getElem?_push]
  by_cases hi:w.heap.size=i
  ·subst hi
   have:b.size +(w.tape w.drawn (Question.appendCap b.size 0 e) % (2 ^ 63-b.size)+b.size-b.size)=b.size+w.tape w.drawn (Question.appendCap b.size 0 e) % (2 ^ 63-b.size):=by omega
   simp [hsz]
  ·simp [hi]
   by_cases c_:i=w.heap.size
   ·exact absurd c_.symm hi
   ·simp [c_]
 ·intro j v hj
  simp only [ez,List.map_map,List.getElem?_map,Option.map_eq_some_iff] at hj
  obtain ⟨x,hx,rfl⟩:=hj
  have cz:j<b.data.size:=by
   rcases Nat.lt_or_ge j b.data.size with h | h
   ·exact h
   ·rw [List.getElem?_eq_none (by simpa using h)] at hx;simp at hx
  rw [Array.getElem?_append_left (by simpa using cz),Array.getElem?_map]
  rw [Array.getElem?_toList] at hx
  rw [hx];rfl
theorem Pm{w:World}{k:IntKind}{b:Nat} : ∀ {l:List Int} {o:Nat} {F:ah},Row w (fun(y:Int) us _=>us=[Value.int k y]) 1 l b o F→b8 w b o (l.map (Value.int k))
 | [],_,_,_=>b8.nil _ _ _
 | x :: l,o,_,⟨us,G,H,h1,h2,h3,h4,_⟩=>by
  subst h1
  exact b8.cons h3.head (Pm h4)
theorem YH(l:List Int):∀b:ByteArray,(l.foldl (fun r n=>r.push (UInt8.ofNat n.toNat)) b).data.toList=b.data.toList++gB l:=by
 induction l with
 | nil=>intro b;simp [gB]
 | cons x l ih =>
  intro b
  rw [List.foldl_cons,ih]
  simp [gB,ByteArray.push]
theorem YI{src dst:Nat}{x:Operand}{k1 k2:IntKind}(bZ:gS P E)(h:Inv w0 F0 Z0 n s a w ι Z)(ag:∀k,o.dst=some k→k<n)(ho:o.op=.convert src dst x)(hs:E.ty src=some (.int k1))(ht:E.ty dst=some (.int k2))(hk:cT E id o s K=some r) :
  ∃aq,K aq=some r∧Pure P o a w (cY w0 F0 Z0 n aq):=by
 unfold cT at hk
 rw [ho] at hk
 simp only at hk
 have hx:=e7 h x
 have dQ:=bZ.ty _ _ hs
 have ql:=bZ.ty _ _ ht
 cases cK:bV s x with
 | aV c =>
  rw [cK] at hx hk
  simp only [aQ] at hx
  unfold rp at hk
  rw [hs,ht] at hk
  cases c with
  | int k m =>
   simp only [cj] at hx
   refine⟨_,hk,dA (v:=.int k2 (k2.wrap m)) (fun w'=>?_) h (by simp only [aQ,cj]) ag⟩
   unfold execOp;rw [ho]
   refine fW ?_
   rw [hx]
   unfold convert
   simp only [run_bind,run_underlying (wi dQ),run_underlying (wi ql)]
   rfl
  | _=>simp at hk
 | _=>rw [cK] at hk;unfold rp at hk;rw [hs,ht] at hk;simp at hk
theorem YJ{src dst:Nat}{x:Operand}(bZ:gS P E)(h:Inv w0 F0 Z0 n s a w ι Z)(ag:∀k,o.dst=some k→k<n)(ho:o.op=.convert src dst x)(hk:cT E id o s K=some r) :
  ∃aq,K aq=some r∧o.wp P a w (cY w0 F0 Z0 n aq) Q:=by
 unfold cT at hk
 rw [ho] at hk
 simp only at hk
 have hx:=e7 h x
 have hrun:∀ {u:Value} {w':World},(convert src dst (a.eval x)).run P w=.ok u w'→(execOp a.eval o).run P w=.ok (.value u) w':=by
  intro u w' hu;unfold execOp;rw [ho];exact fW hu
 cases hs:E.ty src with
 | none=>unfold rp at hk;rw [hs] at hk;simp at hk
 | some S =>
 cases ht:E.ty dst with
 | none=>unfold rp at hk;rw [hs,ht] at hk;cases S <;> simp at hk
 | some T =>
 have dQ:=bZ.ty _ _ hs
 have ql:=bZ.ty _ _ ht
 cases cK:bV s x with
 | aV c =>
  rw [cK] at hx
  simp only [aQ] at hx
  have hk1:rp E id s src dst (.aV c) (fun v s=>K (s.dst o.dst v))=some r:=by rw [← cK];exact hk
  unfold rp at hk1
  rw [hs,ht] at hk1
  split at hk1
  ·rename_i mi k m tw tx ot
   obtain rfl:=aT tw
   obtain rfl:=aT tx
   simp only [a6.aV.injEq] at ot;subst ot
   simp only [cj] at hx
   refine⟨_,hk1,mf (hrun (u:=.int mi (mi.wrap m)) (w':=w) ?_) h (by simp only [aQ,cj]) ag⟩
   rw [hx]
   unfold convert
   simp only [run_bind,run_underlying (wi dQ),run_underlying (wi ql)]
   rfl
  ·rename_i b tw tx ot
   obtain rfl:=aT tw
   obtain rfl:=aT tx
   simp only [a6.aV.injEq] at ot;subst ot
   obtain ⟨ky,hx,oh⟩:=hx
   refine⟨_,hk1,mf (hrun (u:=a.eval x) (w':=w) ?_) h (by simp only [aQ];exact⟨ky,hx,oh⟩) ag⟩
   rw [hx]
   unfold convert
   simp only [run_bind,run_underlying (wj dQ),run_underlying (wj ql)]
   rfl
  ·rename_i b tw tx ot
   obtain rfl:=aT tw
   obtain rfl:=aT tx
   simp only [a6.aV.injEq] at ot;subst ot
   obtain ⟨ky,hx,rfl⟩:=hx
   obtain ⟨e,hu,ca⟩:=lK ql
   cases hm:mkObj s id (.row (.int .u8) .R 0 (ez ky.data.toList)) with
   | none=>rw [hm] at hk1;simp at hk1
   | some s1 =>
    rw [hm] at hk1
    obtain ⟨b2,rfl⟩:=qk hm
    obtain ⟨arr,c,d,hr,hc,has,hv⟩:=YG (P:=P) (w:=w) (e:=e) (b:=ky)
    have hlen:(ez ky.data.toList).length=ky.size:=by simp [ez]
    have hn:=h.newRow b2 (t:=.int .u8) (em:=.R) (H7 (ez ky.data.toList)) bJ.none d arr e (c,c+1) c hv (by rw [hlen];exact hc) (by simp only [ad.size];omega) (.inr (by simp [ad.size])) (.inl rfl)
    refine⟨_,hk1,mf (hrun (u:=.slice (some (at_ w.heap.size 0)) ky.size c) ?_) hn ?_ ag⟩
    ·rw [hx]
     unfold convert
     simp only [run_bind,run_underlying (wj dQ),run_underlying hu,run_underlying (wi ca)]
     exact hr
    ·simp only [aQ]
     have:=yr (w:=grown w d arr e (c,c+1)) (Z:=Z) (s:=s) (ι := ι) (id:=id) (em:=.R) (ver:=0) (t:=.int .u8) (xs:=ez ky.data.toList) (A:=at_ w.heap.size 0) (c:=c) (F:=(ah.run w.heap.size 0 (c*(ad.int .u8).size)).or ah.none) rfl (by rw [hlen];exact hc)
     rw [hlen] at this
     exact this
  ·rename_i c' tw tx ot
   obtain rfl:=aT tw
   obtain rfl:=aT tx
   simp only [a6.aV.injEq] at ot;subst ot
   obtain ⟨e,hu,ca⟩:=lK dQ
   cases hl:pb s (.int .u8) c with
   | none=>rw [hl] at hk1;simp at hk1
   | some xs =>
    rw [hl] at hk1
    simp only at hk1
    obtain ⟨cN,_,_⟩:=HB h hl hx
    simp only [ad.al] at cN
    obtain ⟨A,rL,hv,hrow⟩:=cN
    simp only [List.cons.injEq,and_true] at hv
    have Pn:(convert src dst (a.eval x)).run P w=(Conv.bytesToString (a.eval x)).run P w:=by
     rw [hv]
     exact run_convert_bytes_string w src dst e A xs.length rL hu (wi ca) (wj ql)
    rcases hrow with rfl | ⟨a0,rfl,hsp,hrow,_,_⟩
    ·refine⟨_,hk1,mf (v:=.string .empty) (w':=w) (hrun ?_) h ?_ ag⟩
     ·rw [Pn,hv]
      cases A with
      | none=>rfl
      | some A =>
       exact run_bytesToString w A 0 rL [] (by rfl)
     ·simp only [aQ,cj]
      exact⟨_,rfl,rfl⟩
    ·obtain ⟨cQ,dL,sp⟩:=a0
     simp only at hsp
     subst hsp
     have hc:=Pm (k:=.u8) (by simpa only [ad.size] using hrow)
     have Po:=run_loadCells (P:=P) hc
     rw [List.length_map] at Po
     refine⟨_,hk1,mf (v:=.string (xs.foldl (fun r n=>r.push (UInt8.ofNat n.toNat)) ByteArray.empty)) (w':=w) (hrun ?_) h ?_ ag⟩
     ·rw [Pn,hv]
      exact run_bytesToString w _ xs.length rL xs Po
     ·simp only [aQ,cj]
      exact⟨_,rfl,by rw [YH];rfl⟩
  ·simp at hk1
 | _ =>
  exfalso
  rw [cK,rp.eq_def,hs,ht] at hk
  split at hk <;> simp_all
theorem H8{gP:Bool}{k:IntKind} : ∀(l:List a6) (x:Int) (vs:List Value) (k':IntKind) (z:Int),aY w Z s ι l vs→ti gP k x l=some (k',z) →
  (vs.foldlM (if gP then Builtin.max2 else Builtin.min2) (.int k x)).run P w'=.ok (.int k' z) w'
 | [],x,vs,k',z,hr,h=>by
  simp only [aY] at hr;subst hr
  simp only [ti,Option.some.injEq,Prod.mk.injEq] at h
  obtain ⟨rfl,rfl⟩:=h
  rfl
 | v :: l,x,vs,k',z,hr,h=>by
  simp only [aY] at hr
  obtain ⟨u,us,rfl,h1,h2⟩:=hr
  cases v with
  | aV c =>
   cases c with
   | int Pp y =>
    simp only [ti] at h
    simp only [aQ,cj] at h1
    subst h1
    rw [List.foldlM_cons,run_bind]
    have ih:=H8 l _ us k' z h2 h
    cases gP
    ·exact ih
    ·exact ih
   | _=>simp [ti] at h
  | _=>simp [ti] at h
theorem tz(h:Inv w0 F0 Z0 n s a w ι Z):∀l:List Operand,aY w Z s ι (l.map (bV s)) (l.map a.eval)
 | []=>by simp only [List.map_nil,aY]
 | x :: l=>by simp only [List.map_cons,aY];exact⟨_,_,rfl,e7 h x,tz h l⟩
theorem Pq{b:Builtin}{c:Call}(bZ:gS P E)(h:Inv w0 F0 Z0 n s a w ι Z)(ag:∀k,o.dst=some k→k<n)(ho:o.op=.call c)(hb:c.callee=.builtin b)(hne:b≠.append)(YK:b≠.clear)(hk:cT E id o s K=some r) :
  ∃aq,K aq=some r∧Pure P o a w (cY w0 F0 Z0 n aq):=by
 unfold cT at hk
 rw [ho] at hk
 simp only [hb] at hk
 have hvs:=tz h c.args.toList
 have hrun:∀ {u:Value} {cs:Array Bool} {w:World},(builtin b c.argTypes o.type (c.args.map fun | .const _=>true | _=>false) (c.args.map a.eval)).run P w=.ok (.value u) w→(execOp a.eval o).run P w=.ok (.value u) w:=by
  intro u _ w hu
  unfold execOp;rw [ho]
  simp only [run_bind,resolve,hb,run_pure,invoke]
  exact hu
 have lM:(c.args.map a.eval).toList=c.args.toList.map a.eval:=by simp
 cases b with
 | append=>exact absurd rfl hne
 | clear=>exact absurd rfl YK
 | len =>
  generalize hl:c.args.toList.map (bV s)=l at hk hvs
  match l,hk,hvs with
  | [.aV j2],hk,hvs =>
   simp only [j0] at hk
   cases gF:c.argTypes.toList with
   | nil=>rw [gF] at hk;simp at hk
   | cons t aj =>
    rw [gF] at hk
    simp only at hk
    cases ht:E.ty t with
    | none=>rw [ht] at hk;simp at hk
    | some T =>
     rw [ht] at hk
     simp only at hk
     cases hf:kT s T j2
     ·rw [hf] at hk;simp at hk
     rw [hf] at hk
     simp only [cond_true] at hk
     cases hlen:n' s j2 with
     | none=>rw [hlen] at hk;simp at hk
     | some m =>
      rw [hlen] at hk
      simp only [aY,aQ] at hvs
      obtain ⟨u,us,he,hc,rfl⟩:=hvs
      have nk:(c.args.map a.eval)[0]?=some u:=by rw [← Array.getElem?_toList,lM,he];rfl
      have pn:c.argTypes[0]?=some t:=by rw [← Array.getElem?_toList,gF];rfl
      have ca:=bZ.ty _ _ ht
      refine⟨_,hk,dA (v:=.int .i64 m) (fun w'=>hrun (cs := #[]) ?_) h (by simp only [aQ,cj]) ag⟩
      unfold builtin
      refine fW ?_
      unfold Builtin.len_
      rw [nk,pn]
      simp only
      have YL:T=.str∨∃u,T=.sl u:=by
       cases j2 <;> simp only [kT] at hf <;> try (simp at hf;done)
       ·exact .inl (beq_eq hf)
       ·exact .inr ⟨_,beq_eq hf⟩
       ·exact .inr ⟨_,beq_eq hf⟩
       ·split at hf
        ·exact .inr ⟨_,beq_eq hf⟩
        ·simp at hf
      rcases YL with rfl | ⟨v,rfl⟩
      ·rw [run_bind,run_underlying (wj ca)]
       cases j2 <;> simp only [kT] at hf <;> try (simp [ad.beq] at hf;done)
       ·obtain ⟨ky,rfl,rfl⟩:=hc
        simp only [n',Option.some.injEq] at hlen
        subst hlen
        rfl
       ·split at hf <;> simp [ad.beq] at hf
      ·obtain ⟨e,hu,_⟩:=lK ca
       rw [run_bind,run_underlying hu]
       obtain ⟨A,k,rfl,_⟩:=H4 rfl hf hlen hc
       rfl
  | [],hk,_=>simp [j0] at hk
  | _ :: _ :: _,hk,_=>simp [j0] at hk
  | [.aD],hk,_ | [.iu _],hk,_ | [.ptr _],hk,_ | [.dk _ _ _],hk,_ | [.jY],hk,_ | [.kQ],hk,_ | [.opt _ _],hk,_ | [.may _ _ _],hk,_ | [.rk _],hk,_ | [.fn _ _ _],hk,_ | [.o9 _],hk,_=>simp [j0] at hk
 | max =>
  simp only [j0] at hk
  cases hm:vM true (c.args.toList.map (bV s)) with
  | none=>rw [hm] at hk;simp at hk
  | some q =>
   obtain ⟨k,z⟩:=q
   rw [hm] at hk
   simp only at hk
   refine⟨_,hk,dA (v:=.int k z) (fun w'=>hrun (cs := #[]) ?_) h (by simp only [aQ,cj]) ag⟩
   unfold builtin
   refine fW ?_
   unfold Builtin.max_
   rw [lM]
   generalize c.args.toList.map (bV s)=l at hm hvs
   generalize c.args.toList.map a.eval=vs at hvs
   unfold vM at hm
   split at hm
   ·simp only [aY,aQ,cj] at hvs
    obtain ⟨u,us,rfl,rfl,h2⟩:=hvs
    exact H8 _ _ us k z h2 hm
   ·simp at hm
 | min =>
  simp only [j0] at hk
  cases hm:vM false (c.args.toList.map (bV s)) with
  | none=>rw [hm] at hk;simp at hk
  | some q =>
   obtain ⟨k,z⟩:=q
   rw [hm] at hk
   simp only at hk
   refine⟨_,hk,dA (v:=.int k z) (fun w'=>hrun (cs := #[]) ?_) h (by simp only [aQ,cj]) ag⟩
   unfold builtin
   refine fW ?_
   unfold Builtin.min_
   rw [lM]
   generalize c.args.toList.map (bV s)=l at hm hvs
   generalize c.args.toList.map a.eval=vs at hvs
   unfold vM at hm
   split at hm
   ·simp only [aY,aQ,cj] at hvs
    obtain ⟨u,us,rfl,rfl,h2⟩:=hvs
    exact H8 _ _ us k z h2 hm
   ·simp at hm
 | _=>simp [j0] at hk
end
end Go.LM
namespace Go.LM
theorem Pr{α : Type} : ∀(B:List (List α)) (i:Nat) (b cs:List α),B[i]?=some b→cs.length=b.length→(B.set i cs).flatten=db B.flatten (B.take i).flatten.length cs
 | [],i,b,cs,h,_=>by simp at h
 | x :: B,0,b,cs,h,hl=>by
  simp at h;subst h
  simp only [List.set_cons_zero,List.flatten_cons,List.take_zero,List.flatten_nil,List.length_nil]
  unfold db
  simp [hl]
 | x :: B,i+1,b,cs,h,hl=>by
  simp only [List.getElem?_cons_succ] at h
  simp only [List.set_cons_succ,List.flatten_cons,List.take_succ_cons,List.length_append]
  rw [ON (by omega),Pr B i b cs h hl]
  congr 2;omega
theorem YM{α : Type}{B:List (List α)}{i:Nat}{b:List α}(h:B[i]?=some b):(B.take i).flatten.length+b.length≤B.flatten.length:=by
 induction B generalizing i with
 | nil=>simp at h
 | cons x B ih =>
  cases i with
  | zero=>simp at h;subst h;simp
  | succ i =>
   simp only [List.getElem?_cons_succ] at h
   have:=ih h
   simp only [List.take_succ_cons,List.flatten_cons,List.length_append];omega
theorem Ps:∀(vs:List Value) (k off:Nat) (cells:Array Value),off+k+vs.length≤cells.size →
  ((vs.zipIdx k).foldl (fun cs (c,j)=>cs.setIfInBounds (off+j) c) cells).toList=db cells.toList (off+k) vs
 | [],k,off,cells,_=>by simp [Bm]
 | v :: vs,k,off,cells,h=>by
  simp only [List.length_cons] at h
  rw [List.zipIdx_cons,List.foldl_cons,Ps vs (k+1) off _ (by simp;omega)]
  simp only [Array.toList_setIfInBounds]
  have cz:off+k<cells.toList.length:=by simp;omega
  apply List.ext_getElem?
  intro j
  unfold db
  simp only [List.getElem?_append,List.length_append,List.length_take,List.length_set,List.length_cons,List.getElem?_take,List.getElem?_drop,List.getElem?_set]
  have rM:min (off +(k+1)) cells.toList.length=off+k+1:=by omega
  have wa:min (off+k) cells.toList.length=off+k:=by omega
  rw [rM,wa]
  by_cases h1:j<off+k
  ·have:j≠off+k:=by omega
   simp [show j<off+k+1+vs.length by omega,show j<off+k+1 by omega,show j<off +(k+1) by omega,show j<off+k +(vs.length+1) by omega,h1,Ne.symm this]
  ·by_cases h2:j=off+k
   ·subst h2
    simp only [Array.length_toList] at cz
    simp [show off+k<off+k+1+vs.length by omega,show off+k<off +(k+1) by omega,cz]
   ·by_cases h3:j<off+k+1+vs.length
    ·rw [if_pos h3,if_neg (show ¬j<off+k+1 by omega),if_pos (show j<off+k +(vs.length+1) by omega),if_neg h1]
     rw [show j-(off+k)=(j-(off+k+1))+1 by omega,List.getElem?_cons_succ]
    ·rw [if_neg h3,if_neg (show ¬j<off+k +(vs.length+1) by omega)]
     rw [if_neg (by omega)]
     congr 1;omega
def H9(place:Nat→Option (Nat×Nat))(ty:Nat→Option ad)(lens:List Nat):Prop :=
 ∀i t,ty i=some t→place i=some ((lens.take i).sum,t.size)∧lens[i]?=some t.size
section
variable{P:Program}{Q:Exit→Act→World→Prop}
variable{w0:World}{F0 Z0:ah}{n:cD}{s aq:an}{a b_:Act}{w w':World}{ι bf:Nat→bG}{Z Z':ah}
variable{E:Env}{o:Oper}{bs : Type}{K:an→Option bs}{r : bs}{id:Nat}
theorem YN{α : Type}(B:List (List α)):B.flatten.length=(B.map List.length).sum:=by simp [List.length_flatten]
theorem H_(h:Inv w0 F0 Z0 n s a w ι Z){place:Nat→Option (Nat×Nat)}{ty:Nat→Option ad}{lens:List Nat}(gv:H9 place ty lens) :
  ∀(ps:List (Nat×Operand)) (B nm:List (List a8)) (cells:Array Value),B.map List.length=lens→bK w Z s ι B.flatten cells.toList→rm s ty ps B=some nm →
   ∃nn,Instr.fill place cells (ps.map fun p=>(p.1,a.eval p.2))=some nn∧bK w Z s ι nm.flatten nn.toList∧nm.map List.length=lens
 | [],B,nm,cells,hl,hc,hf=>by
  simp only [rm,Option.some.injEq] at hf;subst hf
  exact⟨cells,rfl,hc,hl⟩
 | (i,x) :: ps,B,nm,cells,hl,hc,hf=>by
  simp only [rm] at hf
  cases ht:ty i with
  | none=>rw [ht] at hf;simp at hf
  | some t =>
   rw [ht] at hf
   simp only at hf
   cases hcs:iQ t (bV s x) with
   | none=>rw [hcs] at hf;simp at hf
   | some cs =>
    rw [hcs] at hf
    simp only at hf
    cases hb:Nat.beq cs.length t.size
    ·rw [hb] at hf;simp at hf
    rw [hb] at hf
    simp only [cond_true] at hf
    have hb:=Nat.eq_of_beq_eq_true hb
    obtain ⟨au,qm⟩:=gv i t ht
    have hx:=rE hcs (e7 h x)
    have hxl:=hx.len
    rw [hb] at hxl
    have YO:∃b,B[i]?=some b∧b.length=t.size:=by
     rw [← hl,List.getElem?_map] at qm
     cases wk:B[i]? with
     | none=>rw [wk] at qm;simp at qm
     | some b=>rw [wk] at qm;simp at qm;exact⟨b,rfl,qm⟩
    obtain ⟨b,wk,Bx⟩:=YO
    have fx:(B.take i).flatten.length=(lens.take i).sum:=by rw [YN,← hl,List.map_take]
    have hle:=YM wk
    have hcl:=hc.len
    simp only [Array.length_toList] at hxl hcl
    have hnew:bK w Z s ι (B.set i cs).flatten (db cells.toList (lens.take i).sum (a.eval x).cells.toList):=by
     rw [Pr B i b cs wk (by omega),fx]
     unfold db
     have:=bK.db hc hx (lens.take i).sum
     unfold db at this
     exact this
    have YP:(B.set i cs).map List.length=lens:=by
     rw [List.map_set,hl]
     apply List.ext_getElem?
     intro j
     rw [List.getElem?_set]
     by_cases hj:i=j
     ·subst hj
      rw [qm,if_pos rfl]
      have:i<lens.length:=by
       rcases Nat.lt_or_ge i lens.length with h | h
       ·exact h
       ·rw [List.getElem?_eq_none h] at qm;simp at qm
      rw [if_pos this,hb]
     ·rw [if_neg hj]
    have YQ:=Ps (a.eval x).cells.toList 0 (lens.take i).sum cells (by simp;omega)
    have ih:=H_ h gv ps (B.set i cs) nm (((a.eval x).cells.zipIdx).foldl (fun cs (c,j)=>cs.setIfInBounds ((lens.take i).sum+j) c) cells) YP (by
     rw [← Array.foldl_toList,Array.toList_zipIdx]
     rw [YQ];exact hnew) hf
    obtain ⟨nn,h1,h2,h3⟩:=ih
    refine⟨nn,?_,h2,h3⟩
    rw [List.map_cons]
    unfold Instr.fill
    rw [au]
    simp only
    rw [if_neg (by simp only [Bool.or_eq_true,decide_eq_true_eq,not_or,ne_eq,Decidable.not_not];omega)]
    exact h1
def ay.places:ay→Nat→List (Nat×Nat)
 | .nil,_=>[]
 | .cons t aj,off=>(off,t.size) :: ay.places aj (off+t.size)
theorem Pt:∀(aj:ay) (cn:List Field) (off:Nat),aj.okF P cn off→cn.mapM (fun f=>(P.info? f.type).map fun i=>(f.offset,i.size))=some (aj.places off)
 | .nil,cn,off,h=>by simp only [ay.okF] at h;subst h;rfl
 | .cons t aj,cn,off,h=>by
  simp only [ay.okF] at h
  obtain ⟨f,lI,rfl,rfl,h1,h2⟩:=h
  obtain ⟨i,hi,hsz,_⟩:=h1.info
  have ih:=Pt aj lI _ h2
  simp only [List.mapM_cons,hi,Option.map_some,ih,ay.places,hsz]
  rfl
theorem Pu:∀aj:ay,aj.oa.flatten=aj.jl
 | .nil=>rfl
 | .cons t aj=>by simp only [ay.oa,ay.jl,List.flatten_cons,Pu aj]
theorem H'(t:ad):t.jl.length=t.size:=by
 have:=(rF (w:=default) (Z:=ah.none) (s:=⟨fun _=>.aD,fun _=>.none,[]⟩) (ι := fun _=>⟨none,0,ah.none⟩) t).len
 rw [← this,ad.lJ]
theorem Pv:∀(aj:ay) (off:Nat) (i:Nat) (t:ad),aj.nth i=some t→(aj.places off)[i]?=some (off +((aj.oa.map List.length).take i).sum,t.size)∧(aj.oa.map List.length)[i]?=some t.size
 | .nil,_,_,_,h=>by simp [ay.nth] at h
 | .cons u aj,off,0,t,h=>by
  simp only [ay.nth,Option.some.injEq] at h;subst h
  simp [ay.places,ay.oa,H']
 | .cons u aj,off,i+1,t,h=>by
  simp only [ay.nth] at h
  obtain ⟨h1,h2⟩:=Pv aj (off+u.size) i t h
  simp only [ay.places,ay.oa,List.map_cons,List.getElem?_cons_succ,List.take_succ_cons,List.sum_cons,H']
  exact⟨by rw [h1];simp;omega,h2⟩
theorem Pw{t:Nat}{parts:Array (Nat×Operand)}(bZ:gS P E)(h:Inv w0 F0 Z0 n s a w ι Z)(ag:∀k,o.dst=some k→k<n)(ho:o.op=.build t parts)(hk:cT E id o s K=some r) :
  ∃aq,K aq=some r∧Pure P o a w (cY w0 F0 Z0 n aq):=by
 unfold cT at hk
 rw [ho] at hk
 simp only at hk
 cases ht:E.ty t with
 | none=>rw [ht] at hk;simp at hk
 | some T =>
  rw [ht] at hk
  cases T with
  | st aj =>
   simp only at hk
   cases hf:rm s aj.nth parts.toList aj.oa with
   | none=>rw [hf] at hk;simp at hk
   | some B =>
    rw [hf] at hk
    have ca:=bZ.ty t _ ht
    obtain ⟨it,gE,eL,rK,wh⟩:=ca.info
    simp only [ad.ok] at ca
    obtain ⟨_,cn,hu,kW⟩:=ca
    have fD:=Pt aj cn.toList 0 kW
    have Bx:H9 ((aj.places 0).toArray[·]?) aj.nth (aj.oa.map List.length):=by
     intro i di hi
     have:=Pv aj 0 i di hi
     simpa using this
    obtain ⟨nn,h1,h2,h3⟩:=H_ h Bx parts.toList aj.oa B (dH (.st aj) (ad.st aj).cO).cells rfl (by
     rw [Pu,wg];exact rF (.st aj)) hf
    refine⟨_,hk,dA (v:=.agg nn) (fun w'=>?_) h (by simp only [aQ];exact⟨nn.toList,rfl,h2⟩) ag⟩
    unfold execOp;rw [ho]
    refine fW ?_
    refine run_build w' t _ nn ?_
    unfold Program.built
    rw [gE,hu]
    simp only [rK,fD]
    rw [← h1]
    congr 1
    simp
  | _=>simp at hk
theorem Px{t:ad}{m:a'}{x:t.D}{us:List Value}{F:ah}(h:t.al w (Z.or (dg ι [])) m x us F):t.al w Z m x us F :=
 ad.al.mono (fun b o hz=>by rcases hz with h | ⟨d,ag,_⟩;exact h;simp at ag) t m (fun _ _ h=>h) h
theorem Py:∀(B:List (List a8)) (t:ad) (m:a') (s s1:an) (xs:List t.D) (vs:List Value) (Z:ah),qa t m B s=some (xs,s1)→Inv w0 F0 Z0 n s a w ι Z→bK w Z s ι B.flatten vs →
  ∃F Z',Inv w0 F0 Z0 n s1 a w ι Z'∧fc s ι Z s1 Z'∧bJ w0 F0 s1 w ι Z' F∧c4 (t.al w Z' m) t.size xs vs F∧∀b o,F b o→∃id,(s.o id).live∧(ι id).F b o
 | [],t,m,s,s1,xs,vs,Z,hi,h,hc=>by
  simp only [qa,Option.some.injEq,Prod.mk.injEq] at hi
  obtain ⟨rfl,rfl⟩:=hi
  cases vs with
  | nil=>exact⟨ah.none,Z,h,.refl,.none,rfl,fun _ _ h=>h.elim⟩
  | cons v vs=>exact hc.elim
 | cs :: B,t,m,s,s1,xs,vs,Z,hi,h,hc=>by
  simp only [qa] at hi
  obtain ⟨r,hr,hi⟩:=bg hi
  rw [List.flatten_cons] at hc
  obtain ⟨us,aj,rfl,qi,hcu,YR⟩:=hc.split
  obtain ⟨aU,bI,F,cq,he,h1,hs1,hc1,ou,cN,_,Pz,_,hF⟩:=ad.lF t false m cs s [] r us Z hr h hcu (by simp)
  cases ep:r.2.1 with
  | cons c l=>rw [ep] at hi;simp at hi
  | nil =>
   rw [ep] at hi hc1
   simp only at hi
   obtain ⟨q,hq,hi⟩:=bg hi
   simp only [Option.some.injEq,Prod.mk.injEq] at hi
   obtain ⟨rfl,rfl⟩:=hi
   cases bI with
   | cons v l=>exact hc1.elim
   | nil =>
    rw [List.append_nil] at he
    subst he
    rw [Pz rfl] at cN
    have cN:=Px cN
    obtain ⟨G,bL,h2,ml,hf2,hels,hG⟩:=Py B t m r.2.2.1 q.2 q.1 aj cq hq h1 (Yi hs1 YR)
    refine⟨F.or G,bL,h2,hs1.trans ml,(ou.shrink ml).or hf2,⟨us,aj,F,G,rfl,ad.al.mono ml.dF t m (fun _ _ h=>h) cN,(ad.al.len t m cN).1,hels,?_,fun _ _ h=>.inl h,fun _ _ h=>.inr h⟩,?_⟩
    ·intro b o hb aB
     obtain ⟨j,hj,yu⟩:=hG b o aB
     exact ou.apart j hj b o hb yu
    ·rintro b o (hb | hb)
     ·exact hF b o hb
     ·obtain ⟨j,hj,yu⟩:=hG b o hb
      obtain ⟨g1,g2⟩:=hs1.live hj
      exact⟨j,g1,yu⟩
theorem PA{t:ad}{m:a'} : ∀(B:List (List a8)) (s:an) {xs:List t.D} {s1:an},qa t m B s=some (xs,s1)→xs.length=B.length
 | [],s,xs,s1,h=>by simp only [qa,Option.some.injEq,Prod.mk.injEq] at h;rw [← h.1];rfl
 | cs :: B,s,xs,s1,h=>by
  simp only [qa] at h
  obtain ⟨r,hr,h⟩:=bg h
  split at h
  ·obtain ⟨q,hq,h⟩:=bg h
   simp only [Option.some.injEq,Prod.mk.injEq] at h
   rw [← h.1,List.length_cons,List.length_cons,PA B _ hq]
  ·simp at h
theorem YS{T:ad}{t e len:Nat}{parts:Array (Nat×Value)}{cells:Array Value}(hu:P.underlying t=some (.slice e))(ca:T.ok P e)(hs:len*T.size≤16777216)
  (hf:Instr.fill (fun i=>some (i*T.size,T.size)) ((Array.range (len*T.size)).map ((if len*T.size=0 then #[] else(dH T T.cO).cells)[· % (if len*T.size=0 then #[] else(dH T T.cO).cells).size]!)) parts.toList=some cells) :
  (Instr.buildSlice t len parts).run P w=.ok (.slice (some (at_ w.heap.size 0)) len len) (grown w w.drawn cells e (0,0)):=by
 unfold Instr.buildSlice
 simp only [run_bind,run_underlying hu,run_sizeOf ca]
 rw [if_neg (by omega)]
 by_cases hz:len*T.size=0
 ·simp only [hz,if_true] at hf ⊢
  simp only [run_bind,run_pure,hf,Bv]
 ·simp only [hz,if_false] at hf ⊢
  simp only [run_bind,run_pure,Bo ca,hf,Bv]
theorem YT{t len:Nat}{parts:Array (Nat×Operand)}(bZ:gS P E)(h:Inv w0 F0 Z0 n s a w ι Z)(ag:∀k,o.dst=some k→k<n)(ho:o.op=.buildSlice t len parts)(hk:cT E id o s K=some r) :
  ∃aq,K aq=some r∧o.wp P a w (cY w0 F0 Z0 n aq) Q:=by
 unfold cT at hk
 rw [ho] at hk
 simp only at hk
 cases ht:E.ty t with
 | none=>rw [ht] at hk;simp at hk
 | some S =>
  rw [ht] at hk
  cases S with
  | sl T =>
   simp only at hk
   cases hle:Nat.ble (len*T.size) 16777216
   ·rw [hle] at hk;simp at hk
   rw [hle] at hk
   simp only [cond_true] at hk
   have hle:=Nat.le_of_ble_eq_true hle
   cases hf:rm s (fun i=>cond (Nat.blt i len) (some T) none) parts.toList (List.replicate len T.jl) with
   | none=>rw [hf] at hk;simp at hk
   | some B =>
    rw [hf] at hk
    simp only at hk
    generalize hm:Hl T s B=m at hk
    cases hi:qa T m B s with
    | none=>rw [hi] at hk;simp at hk
    | some q =>
     obtain ⟨xs,s1⟩:=q
     rw [hi] at hk
     simp only at hk
     cases ni:mkObj s1 id (.row T m 0 xs) with
     | none=>rw [ni] at hk;simp at hk
     | some s2 =>
      rw [ni] at hk
      obtain ⟨b2,rfl⟩:=qk ni
      obtain ⟨e,hu,ca⟩:=lK (bZ.ty t _ ht)
      have Bx:H9 (fun i=>some (i*T.size,T.size)) (fun i=>cond (Nat.blt i len) (some T) none) (List.replicate len T.size):=by
       intro i di hi
       have hi:cond (Nat.blt i len) (some T) none=some di:=hi
       cases hb:Nat.blt i len
       ·rw [hb] at hi;simp at hi
       ·rw [hb] at hi
        simp only [cond_true,Option.some.injEq] at hi
        subst hi
        have cz:i<len:=Nat.lt_of_lt_of_le (Nat.lt_succ_self i) (Nat.le_of_ble_eq_true hb)
        refine⟨?_,by simp [List.getElem?_replicate,cz]⟩
        rw [List.take_replicate,Nat.min_eq_left (by omega)]
        simp
      have YU:∀k,bK w Z s ι (List.replicate k T.jl).flatten (List.replicate k T.cO).flatten:=by
       intro k
       induction k with
       | zero=>exact trivial
       | succ k ih=>rw [List.replicate_succ,List.replicate_succ,List.flatten_cons,List.flatten_cons];exact(rF T).append ih
      have hcells:((Array.range (len*T.size)).map ((if len*T.size=0 then #[] else(dH T T.cO).cells)[· % (if len*T.size=0 then #[] else(dH T T.cO).cells).size]!)).toList=(List.replicate len T.cO).flatten:=by
       apply List.ext_getElem?
       intro j
       have ia:(List.replicate len T.cO).flatten.length=len*T.size:=by simp [ad.lJ]
       by_cases hj:j<len*T.size
       ·have hz:¬len*T.size=0:=by omega
        simp only [if_neg hz]
        obtain ⟨v,hv⟩:∃v,(List.replicate len T.cO).flatten[j]?=some v:=⟨_,List.getElem?_eq_getElem (by omega)⟩
        rw [hv,Array.getElem?_toList]
        exact H6 T.cO len (wg T) (by rw [ad.lJ]) v hv
       ·rw [List.getElem?_eq_none (by simp;omega),List.getElem?_eq_none (by omega)]
      obtain ⟨nn,h1,h2,h3⟩:=H_ h Bx parts.toList (List.replicate len T.jl) B _ (by simp [H']) (by rw [hcells];exact YU len) hf
      obtain ⟨F,cq,gE,hs1,ou,hels,_⟩:=Py B T m s s1 xs _ Z hi h h2
      have hxl:xs.length=len:=by
       have e1:B.length=len:=by have:=congrArg List.length h3;simpa using this
       rw [← e1];exact PA B s hi
      have hcs:len*T.size≤nn.size:=by
       have:=hels.len
       simp only [Array.length_toList] at this
       rw [hxl] at this;omega
      have hn:=gE.newRow b2 hels ou w.drawn nn e (0,0) len (fun j v hv=>by simpa using hv) (by omega) hcs (.inl rfl) (.inr rfl)
      refine⟨_,hk,mf (v:=.slice (some (at_ w.heap.size 0)) len len) ?_ hn ?_ ag⟩
      ·unfold execOp;rw [ho]
       refine fW ?_
       refine YS hu ca hle ?_
       rw [← h1]
       congr 1
       simp
      ·simp only [aQ]
       have:=yr (w:=grown w w.drawn nn e (0,0)) (Z:=cq) (s:=s1) (ι := ι) (id:=id) (em:=m) (ver:=0) (xs:=xs) (A:=at_ w.heap.size 0) (c:=len) (F:=(ah.run w.heap.size 0 (len*T.size)).or F) rfl (by omega)
       rw [hxl] at this
       exact this
  | _=>simp at hk
end
end Go.LM
namespace Go.LM
section
variable{P:Program}{Q:Exit→Act→World→Prop}
variable{w0:World}{F0 Z0:ah}{n:cD}{s aq:an}{a b_:Act}{w w':World}{ι bf:Nat→bG}{Z Z':ah}
variable{E:Env}{o:Oper}{bs : Type}{K:an→Option bs}{r : bs}{id:Nat}
theorem Inv.By(h:Inv w0 F0 Z0 n s a w ι Z){S:ah}(hF:bJ w0 F0 s w ι Z S)(hx:Ext w w' S):Inv w0 F0 Z0 n s a w' ι Z:=by
 have hm:eI w Z s ι w' Z s ι := by
  refine⟨fun id=>.stay _ _,fun _ _ h=>h,b9.iW hx h.rB ?_⟩
  rintro b o (hz | ⟨id,hl,_,_,hf⟩) hs
  ·exact hF.c5 b o hs hz
  ·exact hF.apart id hl b o hs hf
 refine h.next hm hx (fun b o hs=>(hF.own b o hs).1) (fun _ _ h=>.inl h) ?_ h.c5 (fun k=>(h.tmps k).move hm) h.size h.defers
 intro id _ hne;exact absurd ⟨rfl,rfl⟩ hne
theorem Inv.freeze(h:Inv w0 F0 Z0 n s a w ι Z){S:ah}(hF:bJ w0 F0 s w ι Z S):Inv w0 F0 Z0 n s a w ι (Z.or S):=by
 have hm:eI w Z s ι w (Z.or S) s ι :=⟨fun id=>.stay _ _,fun _ _ h=>.inl h,b9.refl _ _⟩
 refine h.next hm (Ext.refl _ ah.none) (fun _ _ h=>h.elim) ?_ ?_ ?_ (fun k=>(h.tmps k).move hm) h.size h.defers
 ·rintro b o (hz | hs)
  ·exact .inl hz
  ·exact .inr (hF.own b o hs)
 ·intro id _ hne;exact absurd ⟨rfl,rfl⟩ hne
 ·rintro id hl b o h1 (h2 | h2)
  ·exact h.c5 id hl b o h1 h2
  ·exact hF.apart id hl b o h2 h1
theorem bJ.freeze{F S:ah}(hF:bJ w0 F0 s w ι Z F)(ha:ah.apart F S):bJ w0 F0 s w ι (Z.or S) F :=
 ⟨hF.own,hF.apart,fun b o h1 h2=>h2.elim (hF.c5 b o h1) (ha b o h1)⟩
theorem bJ.sub{F G:ah}(hF:bJ w0 F0 s w ι Z F)(h:ah.sub G F):bJ w0 F0 s w ι Z G :=
 ⟨fun b o aB=>hF.own b o (h b o aB),fun id hl b o aB=>hF.apart id hl b o (h b o aB),fun b o aB=>hF.c5 b o (h b o aB)⟩
def ah.diff(F G:ah):ah:=fun b o=>F b o∧¬G b o
theorem A9{t:ad}{m:a'} : ∀ {xs:List t.D} {vs:List Value} {F:ah},c4 (t.al w Z m) t.size xs vs F→∀v∈vs,ee v=true
 | [],_,_,h=>by simp only [c4] at h;subst h;simp
 | x :: xs,_,_,⟨us,aj,G,H,h1,h2,h3,h4,_⟩=>by
  subst h1
  intro v hv
  rcases List.mem_append.1 hv with h | h
  ·exact(ad.al.len t m h2).2 v h
  ·exact A9 h4 v h
theorem rh{A:Option Addr}{size m c:Nat}{vs:List Value}(hl:vs.length=m*size)(h:m=0∨∃b o,A=some (at_ b o)∧b8 w b o vs) :
  (Builtin.firstCells size m (.slice A m c)).run P w=.ok vs.toArray w:=by
 unfold Builtin.firstCells
 rcases h with rfl | ⟨b,o,rfl,hc⟩
 ·have:vs=[]:=List.eq_nil_of_length_eq_zero (by simpa using hl)
  subst this
  cases A with
  | none=>rfl
  | some A=>simp only [Nat.zero_mul];rfl
 ·simp only [← hl]
  exact run_loadCells hc
theorem Bz{t:ad}{e:a'}{xs:List t.D}{v:Value}{F:ah}(h:(ad.sl t).al w Z (.O e) xs [v] F) :
  ∃A c vs,v=.slice A xs.length c∧c4 (t.al w Z e) t.size xs vs F∧∀d,(Builtin.firstCells t.size xs.length v).run P { w with drawn:=d } = .ok vs.toArray { w with drawn:=d } := by
 simp only [ad.al] at h
 obtain ⟨A,c,hv,h⟩:=h
 simp only [List.cons.injEq,and_true] at hv
 subst hv
 rcases h with⟨rfl,rfl⟩ | ⟨⟨b,o,sp⟩,rfl,hr⟩
 ·exact⟨A,0,[],rfl,rfl,fun d=>rh (by simp) (.inl rfl)⟩
 ·obtain ⟨G,g1,g2,g3⟩:=hr.row
  have hsp:=hr.spot
  simp only at hsp
  subst hsp
  obtain ⟨vs,h1,h2⟩:=g1.s9
  exact⟨_,c,vs,rfl,h1.mono g3,fun d=>rh h1.len (.inr ⟨b,o,rfl,h2⟩)⟩
theorem YV{t:ad}{xs:List t.D}{v:Value}{F:ah}(h:(ad.sl t).al w Z .R xs [v] F) :
  ∃A c vs,v=.slice A xs.length c∧c4 (t.al w Z .R) t.size xs vs ah.none∧∀d,(Builtin.firstCells t.size xs.length v).run P { w with drawn:=d } = .ok vs.toArray { w with drawn:=d } := by
 simp only [ad.al] at h
 obtain ⟨A,c,hv,h⟩:=h
 simp only [List.cons.injEq,and_true] at hv
 subst hv
 rcases h with rfl | ⟨⟨b,o,sp⟩,rfl,hsp,hr,_,_⟩
 ·exact⟨A,c,[],rfl,rfl,fun d=>rh (by simp) (.inl rfl)⟩
 ·simp only at hsp
  subst hsp
  obtain ⟨vs,h1,h2⟩:=hr.s9
  exact⟨_,c,vs,rfl,h1.imp (fun y us G hs hr=>rr hr |> fun h=>ad.al.mono (fun _ _ h=>h) t .R (fun _ _ h=>h.elim) h),fun d=>rh h1.len (.inr ⟨b,o,rfl,h2⟩)⟩
theorem PB{t:ad}{c:a8}{v:Value}{ku:a'}{ys:List t.D}{s1:an}(ha:added s t c=some (ku,ys,s1))(h:Inv w0 F0 Z0 n s a w ι Z)(hc:cj w Z s ι c v) :
  ∃vs F,(Builtin.lenOf v).run P w=.ok ys.length w∧(∀d,(Builtin.firstCells t.size ys.length v).run P { w with drawn:=d } = .ok vs.toArray { w with drawn:=d })∧c4 (t.al w Z ku) t.size ys vs F ∧
   Inv w0 F0 Z0 n s1 a w ι Z∧fc s ι Z s1 Z∧bJ w0 F0 s1 w ι Z F:=by
 cases c with
 | nil u =>
  simp only [added] at ha
  obtain ⟨x,hx,ha⟩:=bg ha
  obtain ⟨e,rfl⟩:=gR hx
  subst e
  simp only [Option.some.injEq,Prod.mk.injEq] at ha
  obtain ⟨rfl,rfl,rfl⟩:=ha
  have hv:v=.slice none 0 0:=hc
  subst hv
  exact⟨[],ah.none,rfl,fun _=>rfl,rfl,h,.refl,.none⟩
 | b1 u dp cr xs =>
  simp only [added] at ha
  cases dU:alive s dp
  ·rw [dU] at ha;simp at ha
  cases ia:(t.flat||dp.isEmpty)
  ·rw [dU,ia] at ha;simp at ha
  rw [dU,ia] at ha
  simp only [Bool.and_self,cond_true] at ha
  obtain ⟨x,hx,ha⟩:=bg ha
  obtain ⟨e,rfl⟩:=gR hx
  subst e
  simp only [Option.some.injEq,Prod.mk.injEq] at ha
  obtain ⟨rfl,rfl,rfl⟩:=ha
  obtain ⟨A,rL,vs,rfl,h1,h2⟩:=YV (P:=P) (hc.2.2.1 dU)
  refine⟨vs,ah.none,rfl,h2,?_,h,.refl,.none⟩
  simp only [Bool.or_eq_true,List.isEmpty_iff] at ia
  rcases ia with ia | rfl
  ·exact h1.imp fun y us G _ hr=>rj u ia hr
  ·exact h1.imp fun y us G _ hr=>Px hr
 | ag j sub =>
  simp only [added] at ha
  obtain ⟨hk,A,m,rL,rfl,hh⟩:=hc
  cases ho:s.o j with
  | row u em ver xs =>
   rw [ho] at ha
   have c2:=h.fS j
   rw [ho] at c2
   have cc:(s.o j).live:=by rw [ho];trivial
   have np:=vX c2 (hh u em ver xs (lD ho))
   cases em with
   | R =>
    simp only at ha
    obtain ⟨x,hx,ha⟩:=bg ha
    obtain ⟨e,rfl⟩:=gR hx
    subst e
    simp only [Option.some.injEq,Prod.mk.injEq] at ha
    obtain ⟨rfl,rfl,rfl⟩:=ha
    obtain ⟨pk,c',vs,hv,h1,h2⟩:=Bz (P:=P) np
    refine⟨vs,ah.none,?_,h2,h1.bare fun y us G _ hr=>rr hr,h,.refl,.none⟩
    rw [hv];rfl
   | O gQ =>
    simp only at ha
    obtain ⟨x,hx,ha⟩:=bg ha
    obtain ⟨e,rfl⟩:=gR hx
    subst e
    simp only [Option.some.injEq,Prod.mk.injEq] at ha
    obtain ⟨rfl,rfl,rfl⟩:=ha
    obtain ⟨pk,c',vs,hv,h1,h2⟩:=Bz (P:=P) np
    refine⟨vs,(ι j).F,?_,h2,h1,h.take j (fun _ _ h=>h) (fun _ _ h=>.inl h),vW j cc,h.vV cc⟩
    rw [hv];rfl
   | S ms =>
    simp only at ha
    obtain ⟨x,hx,ha⟩:=bg ha
    obtain ⟨e,rfl⟩:=gR hx
    subst e
    simp only [Option.some.injEq,Prod.mk.injEq] at ha
    obtain ⟨rfl,rfl,rfl⟩:=ha
    obtain ⟨pk,c',vs,hv,h1,h2⟩:=Bz (P:=P) np
    refine⟨vs,(ι j).F,?_,h2,h1,h.take j (fun _ _ h=>h) (fun _ _ h=>.inl h),vW j cc,h.vV cc⟩
    rw [hv];rfl
  | _=>rw [ho] at ha;simp at ha
 | str b =>
  simp only [added] at ha
  obtain ⟨x,hx,ha⟩:=bg ha
  obtain ⟨e,rfl⟩:=gR hx
  subst e
  simp only [Option.some.injEq,Prod.mk.injEq] at ha
  obtain ⟨rfl,rfl,rfl⟩:=ha
  obtain ⟨ky,rfl,rfl⟩:=hc
  have hlen:(ez ky.data.toList).length=ky.size:=by simp [ez]
  refine⟨(ez ky.data.toList).map (Value.int .u8),ah.none,?_,?_,H7 _,h,.refl,.none⟩
  ·rw [hlen];rfl
  ·intro d
   rw [hlen]
   simp only [Builtin.firstCells,run_pure]
   congr 1
   apply Array.ext'
   simp [ez]
 | _=>simp [added] at ha
theorem PC{t:ad}{c:a8}{v:Value}{ob:a'}{xs:List t.D}{s1:an}(ha:taken s t c=some (ob,xs,s1))(h:Inv w0 F0 Z0 n s a w ι Z)(hc:cj w Z s ι c v) :
  ∃F,(ad.sl t).al w Z (.O ob) xs [v] F∧Inv w0 F0 Z0 n s1 a w ι Z∧fc s ι Z s1 Z∧bJ w0 F0 s1 w ι Z F∧∀b o,F b o→∃id,(s.o id).live∧(ι id).F b o:=by
 cases c with
 | nil u =>
  simp only [taken] at ha
  obtain ⟨x,hx,ha⟩:=bg ha
  obtain ⟨e,rfl⟩:=gR hx
  subst e
  simp only [Option.some.injEq,Prod.mk.injEq] at ha
  obtain ⟨rfl,rfl,rfl⟩:=ha
  have hv:v=.slice none 0 0:=hc
  subst hv
  refine⟨ah.none,?_,h,.refl,.none,fun _ _ h=>h.elim⟩
  simp only [ad.al]
  exact⟨none,0,rfl,.inl (by simp)⟩
 | ag j sub =>
  simp only [taken] at ha
  obtain ⟨hk,A,m,rL,rfl,hh⟩:=hc
  cases ho:s.o j with
  | row u em ver xs =>
   rw [ho] at ha
   simp only at ha
   have c2:=h.fS j
   rw [ho] at c2
   have cc:(s.o j).live:=by rw [ho];trivial
   have np:=vX c2 (hh u em ver xs (lD ho))
   obtain ⟨x,hx,ha⟩:=bg ha
   obtain ⟨e,rfl⟩:=gR hx
   subst e
   simp only [Option.some.injEq,Prod.mk.injEq] at ha
   obtain ⟨rfl,rfl,rfl⟩:=ha
   exact⟨(ι j).F,np,h.take j (fun _ _ h=>h) (fun _ _ h=>.inl h),vW j cc,h.vV cc,fun b o hf=>⟨j,cc,hf⟩⟩
  | _=>rw [ho] at ha;simp at ha
 | _=>simp [taken] at ha
theorem YW{t:ad}{ob ku:a'}{xs ys:List t.D}{v:Value}{vs:List Value}{kX gT:ah}(h:Inv w0 F0 Z0 n s a w ι Z)
  (hx:(ad.sl t).al w Z (.O ob) xs [v] kX) (aN:c4 (t.al w Z ku) t.size ys vs gT) (ha:bJ w0 F0 s w ι Z kX) (hb:bJ w0 F0 s w ι Z gT) (lN:ah.apart kX gT) :
  ∃Z' BA BB,Inv w0 F0 Z0 n s a w ι Z'∧ah.sub Z Z'∧(ad.sl t).al w Z' (.O (meet ob ku)) xs [v] BA∧c4 (t.al w Z' (meet ob ku)) t.size ys vs BB∧bJ w0 F0 s w ι Z' BA∧bJ w0 F0 s w ι Z' BB∧ah.apart BA BB:=by
 unfold meet
 cases hm:a'.beq ob ku
 ·simp only [cond_false]
  obtain ⟨F',h1,h2⟩:=OJ hx
  have dQ:bJ w0 F0 s w ι Z ((ah.diff kX F').or gT):=(ha.sub fun b o h=>h.1).or hb
  refine⟨_,F',ah.none,h.freeze dQ,fun _ _ h=>.inl h,ad.al.mono ?_ _ _ (fun _ _ h=>h) h2,?_,?_,.none,fun _ _ _ h=>h⟩
  ·rintro b o (hz | hz)
   ·exact .inl hz
   ·exact .inr (.inl hz)
  ·exact aN.bare fun y us G hs hr=>ad.al.read (fun _ _ h=>.inl h) t ku (fun b o aB=>.inr (.inr (hs b o aB))) hr
  ·refine(ha.sub h1).freeze ?_
   rintro b o hf (aB | aB)
   ·exact aB.2 hf
   ·exact lN b o (h1 b o hf) aB
 ·have:=a'.eq_of_beq _ _ hm
  subst this
  exact⟨Z,kX,gT,h,fun _ _ h=>h,hx,aN,ha,hb,lN⟩
theorem G7(z:Array Value)(k:Nat):(Builtin.zeroCells z k).size=k*z.size:=by simp [Builtin.zeroCells]
theorem run_append_room{A:Option Addr}{m c k size:Nat}{vs:List Value}{vb:Value}{hI h5 ty e:TypeId}{ats:Array TypeId}{args:Array Value}
  (h0:ats[0]?=some hI) (h1:ats[1]?=some h5) (h2:args[0]?=some (.slice A m c)) (h3:args[1]?=some vb) (hu:P.underlying hI=some (.slice e)) (hs:(sizeOf e).run P w=.ok size w)
  (j5:P.underlying h5=some .string∨∃gQ,P.underlying h5=some (.slice gQ)) (ov:m+k≤c) (hl:(Builtin.lenOf vb).run P w=.ok k w) (hf:(Builtin.firstCells size k vb).run P w=.ok vs.toArray w)
  (hst:∀a,A=some a→(storeCells (a.add (m*size)) vs).run P w=.ok () w') (hn:A=none→w'=w):(Builtin.append_ ats ty args).run P w=.ok (.slice A (m+k) c) w':=by
 unfold Builtin.append_
 rcases j5 with j5 | ⟨gQ,j5⟩
 all_goals
  simp only [h0,h1,h2,h3,run_bind,run_underlying hu,hs,run_underlying j5,run_pure]
  simp only [Bool.false_eq_true,if_false,run_bind,hl,if_pos ov,Bool.not_false,if_true,hf]
  cases A with
  | none=>rw [hn rfl];rfl
  | some a=>simp only [run_bind,hst a rfl,run_pure]
theorem run_append_grow{A:Option Addr}{m c k size:Nat}{us vs:List Value}{vb z:Value}{hI h5 ty e:TypeId}{ats:Array TypeId}{args:Array Value}{i:TypeInfo}
  (h0:ats[0]?=some hI) (h1:ats[1]?=some h5) (h2:args[0]?=some (.slice A m c)) (h3:args[1]?=some vb) (hu:P.underlying hI=some (.slice e)) (hi:P.info? e=some i) (hsz:i.size=size) (hz:i.zero=some z)
  (j5:P.underlying h5=some .string∨∃gQ,P.underlying h5=some (.slice gQ)) (ov:¬m+k≤c) (hl:(Builtin.lenOf vb).run P w=.ok k w)
  (BC:∀d,(Builtin.firstCells size m (.slice A m c)).run P { w with drawn:=d } = .ok us.toArray { w with drawn:=d })
  (hf:∀d,(Builtin.firstCells size k vb).run P { w with drawn:=d } = .ok vs.toArray { w with drawn:=d })
  (hr:m+k≤68719476736) (hb:i.bytes≤2048) :
  ∃q,m+k≤q∧(Builtin.append_ ats ty args).run P w=.ok (.slice (some (at_ w.heap.size 0)) (m+k) q) (grown w (w.drawn+1) (us.toArray++vs.toArray++Builtin.zeroCells z.cells (q-(m+k))) e (0,0)):=by
 have hq:(Question.appendCap (m+k) c e).forced=false:=rfl
 have YX:¬(((m+k:Nat):Int)>IntKind.i64.max):=by simp [IntKind.max,IntKind.signed,IntKind.bits];omega
 have YY:¬(Builtin.nextslicecap (m+k) c*i.bytes>2 ^ 48):=by
  have h1:=nextslicecap_le (need:=m+k) (old:=c) (by omega)
  have h2:Builtin.nextslicecap (m+k) c*i.bytes≤(2*68719476736)*2048:=Nat.mul_le_mul (by omega) hb
  omega
 have YZ:(sizeOf e).run P w=.ok size w:=by simp [sizeOf,run_bind,run_typeInfo hi,run_pure,hsz]
 have hzero:∀w:World,(zeroValue e).run P w=.ok z w:=by intro w;simp [zeroValue,run_bind,run_typeInfo hi,run_pure,hz]
 refine⟨m+k+w.tape w.drawn (.appendCap (m+k) c e) % (2 ^ 63-(m+k)),by omega,?_⟩
 unfold Builtin.append_
 rcases j5 with j5 | ⟨gQ,j5⟩
 all_goals
  simp only [h0,h1,h2,h3,run_bind,run_underlying hu,YZ,run_underlying j5,run_pure]
  simp only [Bool.false_eq_true,if_false,run_bind,hl,if_neg ov,Bool.not_false,if_true,YX,false_and,run_typeInfo hi,YY,choose,Sem.run,hq,Question.cut,run_askRoom,BC,hf,hzero]
  rfl
theorem PD{t:ad}{m:a'}{xs ys:List t.D}{lB vb:Value}{vs:List Value}{kX gT:ah}{hI h5 ty e:TypeId}{ats:Array TypeId}{args:Array Value}
  (h0:ats[0]?=some hI) (h1:ats[1]?=some h5) (h2:args[0]?=some lB) (h3:args[1]?=some vb) (hu:P.underlying hI=some (.slice e)) (ca:t.ok P e)
  (j5:P.underlying h5=some .string∨∃gQ,P.underlying h5=some (.slice gQ)) (hroom:xs.length+ys.length≤68719476736)
  (h:Inv w0 F0 Z0 n s a w ι Z) (b2:s.o id=.none) (hx:(ad.sl t).al w Z (.O m) xs [lB] kX) (aN:c4 (t.al w Z m) t.size ys vs gT) (ha:bJ w0 F0 s w ι Z kX) (hb:bJ w0 F0 s w ι Z gT) (lN:ah.apart kX gT)
  (hl:(Builtin.lenOf vb).run P w=.ok ys.length w) (hf:∀d,(Builtin.firstCells t.size ys.length vb).run P { w with drawn:=d } = .ok vs.toArray { w with drawn:=d }) :
  ∃u w' i,(Builtin.append_ ats ty args).run P w=.ok u w'∧Inv w0 F0 Z0 n (s.bQ id (.row t m 0 (xs++ys))) a w' (bU ι id i) Z∧cj w' Z (s.bQ id (.row t m 0 (xs++ys))) (bU ι id i) (.ag id none) u:=by
 obtain ⟨A,c,us,rfl,hex,BC⟩:=Bz (P:=P) hx
 obtain ⟨i,gE,eL,rK,wh⟩:=ca.info
 have yt:(dH t t.cO).cells.size=t.size:=by
  have:=congrArg List.length (wg t)
  rw [Array.length_toList,ad.lJ] at this;exact this
 have PE:(Builtin.firstCells t.size ys.length vb).run P w=.ok vs.toArray w:=hf w.drawn
 have ak_:(Builtin.firstCells t.size xs.length (.slice A xs.length c)).run P w=.ok us.toArray w:=BC w.drawn
 have Y0:=hex.len
 have PF:=aN.len
 by_cases ov:xs.length+ys.length≤c
 ·
  have hrow:=hx
  simp only [ad.al] at hrow
  obtain ⟨pk,c',hv,hrow⟩:=hrow
  simp only [List.cons.injEq,Value.slice.injEq,and_true,true_and] at hv
  obtain ⟨rfl,rfl⟩:=hv
  rcases hrow with⟨rfl,rfl⟩ | ⟨⟨b,o,sp⟩,rfl,hr⟩
  ·have Y1:ys=[]:=List.eq_nil_of_length_eq_zero (by simp at ov;simpa using ov)
   subst Y1
   have PG:vs=[]:=List.eq_nil_of_length_eq_zero (by simpa using PF)
   subst PG
   refine⟨.slice A 0 0,w,⟨none,0,ah.none⟩,?_,h.Bl b2 (.inl ⟨rfl,rfl⟩) .none,?_⟩
   ·exact run_append_room h0 h1 h2 h3 hu (run_sizeOf ca) j5 (Nat.le_refl 0) hl PE (fun a _=>rfl) (fun _=>rfl)
   ·refine⟨by show bU s.o id _ id≠_;rw [cw];simp,A,0,0,rfl,?_⟩
    intro di gr nj fT ho
    have rA:(bU s.o id (cm.row t m 0 ([]++[])) id).core=.row di gr nj fT:=ho
    rw [cw] at rA
    obtain ⟨rfl,_,_,h4⟩:=cm.row.inj rA
    have:=eq_of_heq h4;subst this
    exact⟨rfl,by simp [ei],Nat.le_refl _,by simp [ei],.inl rfl⟩
  ·have hsp:=hr.spot
   simp only at hsp
   subst hsp
   obtain ⟨G,g1,g2,g3⟩:=hr.row
   have hle:(xs.length+ys.length)*t.size≤c*t.size:=Nat.mul_le_mul_right _ ov
   rw [Nat.add_mul] at hle
   have hwr:∀j,j<vs.length→fm w b (o+xs.length*t.size+j):=fun j hj=>by
    have:=(hr.wr (xs.length*t.size+j) (by omega)).1
    rwa [← Nat.add_assoc] at this
   have dQ:bJ w0 F0 s w ι Z (ah.run b o (c*t.size)):=ha.sub (by
    rintro b' o' ⟨rfl,h1,h2⟩
    have:=hr.inF (o'-o) (by omega)
    rwa [show o +(o'-o)=o' by omega] at this)
   have Y2:ah.apart G (ah.run b o (c*t.size)):=by
    rintro b' o' aB ⟨rfl,h1,h2⟩
    have:=g2 (o'-o) (by omega)
    exact this (by show G b' (o +(o'-o));rw [show o +(o'-o)=o' by omega];exact aB)
   have mm:Ext w (setCells w b (o+xs.length*t.size) vs) (ah.run b o (c*t.size)):=n9 b vs w _ (fun j hj=>⟨rfl,by omega,by omega⟩)
   have hinv:=h.By dQ mm
   obtain ⟨aU,k1,k2⟩:=g1.s9
   have PH:=k1.len
   have lO:∀F,bJ w0 F0 s w ι Z F→ah.apart F (ah.run b o (c*t.size))→b9 w (setCells w b (o+xs.length*t.size) vs) F:=fun F hF Ia=>b9.iW mm (fun b o hf=>(hF.own b o hf).2) Ia
   have PI:b9 w (setCells w b (o+xs.length*t.size) vs) Z:=b9.iW mm h.iU (fun b o hz hs=>dQ.c5 b o hs hz)
   have Y3:bJ w0 F0 s w ι Z G:=ha.sub g3
   have Y4:ah.apart gT (ah.run b o (c*t.size)):=by
    rintro b' o' dG ⟨rfl,h1,h2⟩
    have:=hr.inF (o'-o) (by omega)
    exact lN b' o' (by have iZ:kX b' (o +(o'-o)):=this;rwa [show o +(o'-o)=o' by omega] at iZ) dG
   have e1:c4 (t.al (setCells w b (o+xs.length*t.size) vs) Z m) t.size xs aU G:=k1.imp fun y us dm hs hr=>ad.al.same PI t m ((lO G Y3 Y2).mono hs) hr
   have e2:c4 (t.al (setCells w b (o+xs.length*t.size) vs) Z m) t.size ys vs gT:=aN.imp fun y us dm hs hr=>ad.al.same PI t m ((lO gT hb Y4).mono hs) hr
   have j4:bJ w0 F0 s (setCells w b (o+xs.length*t.size) vs) ι Z (kX.or gT):=(ha.or hb).ext mm
   refine⟨.slice (some (at_ b o)) (xs.length+ys.length) c,_,⟨some (at_ b o),c,kX.or gT⟩,?_,hinv.Bl b2 ?_ j4,?_⟩
   ·have hst:=A7 (P:=P) (b:=b) (o:=o+xs.length*t.size) vs w 0 (A9 aN) (fun j hj=>by simpa using hwr j hj)
    simp only [Nat.add_zero] at hst
    refine run_append_room h0 h1 h2 h3 hu (run_sizeOf ca) j5 ov hl PE (fun a ha=>?_) (fun h=>by simp at h)
    obtain rfl:=aT ha
    rw [show(⟨b,o,none⟩:Addr).add (xs.length*t.size)=at_ b (o+xs.length*t.size) from qd _ _ _]
    exact hst
   ·refine .inr ⟨at_ b o,rfl,rfl,by simpa using ov,fun j hj=>(mm.kp (hr.wr j hj)),fun j hj=>.inl (hr.inF j hj),G.or gT,?_,?_,fun b o h=>h.imp (g3 b o) (fun h=>h)⟩
    ·refine(e1.append e2 fun b o aB hf=>lN b o (g3 b o aB) hf).row ?_
     refine b8.append (k2.of_eq fun j hj=>?_) ?_
     ·rw [PH] at hj
      refine(vU b vs w _ (fun i hi=>(hwr i hi).1) b (o+j)).trans (if_neg ?_)
      omega
     ·rw [PH];exact Yj hwr
    ·rintro j hj (aB | aB)
     ·exact g2 j hj aB
     ·exact lN _ _ (hr.inF j hj) aB
   ·have:=yr (w:=setCells w b (o+xs.length*t.size) vs) (Z:=Z) (s:=s) (ι := ι) (id:=id) (em:=m) (ver:=0) (xs:=xs++ys) (A:=at_ b o) (c:=c) (F:=kX.or gT) rfl (by simpa using ov)
    rw [List.length_append] at this
    exact this
 ·
  obtain ⟨q,hq,hrun⟩:=run_append_grow (P:=P) (w:=w) (ty:=ty) h0 h1 h2 h3 hu gE eL rK j5 ov hl BC hf hroom wh
  have hn:=h.newRow b2 (hex.append aN lN) (ha.or hb) (w.drawn+1) (us.toArray++vs.toArray++Builtin.zeroCells (dH t t.cO).cells (q-(xs.length+ys.length))) e (0,0) q (by
   intro j v hv
   rw [Array.getElem?_append_left]
   ·simpa [← List.getElem?_append] using hv
   ·rcases Nat.lt_or_ge j (us++vs).length with h | h
    ·simpa using h
    ·rw [List.getElem?_eq_none h] at hv;simp at hv) (by simpa using hq) (by
   simp only [Array.size_append,List.size_toArray,G7,yt,Y0,PF]
   rw [Nat.sub_mul,Nat.add_mul]
   have:(xs.length+ys.length)*t.size≤q*t.size:=Nat.mul_le_mul_right _ hq
   rw [Nat.add_mul] at this
   omega) (.inl rfl) (.inr rfl)
  refine⟨_,_,_,hrun,hn,?_⟩
  have:=yr (w:=grown w (w.drawn+1) (us.toArray++vs.toArray++Builtin.zeroCells (dH t t.cO).cells (q-(xs.length+ys.length))) e (0,0)) (Z:=Z) (s:=s) (ι := ι) (id:=id) (em:=m) (ver:=0) (xs:=xs++ys) (A:=at_ w.heap.size 0) (c:=q) (F:=(ah.run w.heap.size 0 (q*t.size)).or (kX.or gT)) rfl (by simpa using hq)
  rw [List.length_append] at this
  exact this
theorem PJ{aj:List Nat}{t:ad}(bZ:gS P E)(gF:vN E aj=some t):∃hI h5 rest e,aj=hI :: h5 :: rest∧P.underlying hI=some (.slice e)∧t.ok P e∧(P.underlying h5=some .string∨∃gQ,P.underlying h5=some (.slice gQ)):=by
 unfold vN at gF
 split at gF
 ·rename_i hI h5 rest
  split at gF
  ·rename_i t1 t2 h1 h2
   obtain rfl:=aT gF
   obtain ⟨e,hu,ca⟩:=lK (bZ.ty _ _ h1)
   obtain ⟨gQ,yv,_⟩:=lK (bZ.ty _ _ h2)
   exact⟨hI,h5,rest,e,rfl,hu,ca,.inr ⟨gQ,yv⟩⟩
  ·rename_i t1 h1 h2
   obtain rfl:=aT gF
   obtain ⟨e,hu,ca⟩:=lK (bZ.ty _ _ h1)
   exact⟨hI,h5,rest,e,rfl,hu,ca,.inl (wj (bZ.ty _ _ h2))⟩
  ·simp at gF
 ·simp at gF
theorem Ib{t:ad}{u:Value}{c:a8}{x:a6}(hx:oneCell t x=some c)(hr:aQ w Z s ι x u):cj w Z s ι c u:=by
 cases x <;> simp only [oneCell] at hx <;> try (simp at hx;done)
 ·obtain rfl:=aT hx
  simpa only [aQ] using hr
 ·obtain rfl:=aT hx
  simp only [aQ] at hr
  exact hr
theorem Y5{c:Call}(bZ:gS P E)(h:Inv w0 F0 Z0 n s a w ι Z)(ag:∀k,o.dst=some k→k<n)(ho:o.op=.call c)(hb:c.callee=.builtin .append)(hk:cT E id o s K=some r) :
  ∃aq,K aq=some r∧o.wp P a w (cY w0 F0 Z0 n aq) Q:=by
 unfold cT at hk
 rw [ho] at hk
 simp only [hb] at hk
 have hvs:=tz h c.args.toList
 have lM:(c.args.map a.eval).toList=c.args.toList.map a.eval:=by simp
 generalize hl:c.args.toList.map (bV s)=l at hk hvs
 match l,hk,hvs with
 | [],hk,_=>simp [j0] at hk
 | [_],hk,_=>simp [j0] at hk
 | _ :: _ :: _ :: _,hk,_=>simp [j0] at hk
 | [lB,vb],hk,hvs =>
  simp only [j0] at hk
  simp only [aY] at hvs
  obtain ⟨PK,_,he,nq,Y6,_,rfl,Ic,rfl⟩:=hvs
  cases gF:vN E c.argTypes.toList with
  | none=>rw [gF] at hk;simp at hk
  | some t =>
   rw [gF] at hk
   simp only at hk
   obtain ⟨hI,h5,rest,e,rN,hu,ca,j5⟩:=PJ bZ gF
   cases BD:oneCell t lB with
   | none=>rw [BD] at hk;simp at hk
   | some Ie =>
    cases tA:oneCell t vb with
    | none=>rw [BD,tA] at hk;simp at hk
    | some cb =>
      rw [BD,tA] at hk
      simp only [Ox] at hk
      have nr:=Ib BD nq
      have hb1:=Ib tA Ic
      cases qn:added s t cb with
      | none=>rw [qn] at hk;simp at hk
      | some q =>
       obtain ⟨ku,ys,s1⟩:=q
       rw [qn] at hk
       simp only at hk
       obtain ⟨vs,gT,hlen,ns,hels,h1,hs1,ou⟩:=PB (P:=P) qn h hb1
       cases yw:taken s1 t Ie with
       | none=>rw [yw] at hk;simp at hk
       | some q =>
        obtain ⟨ob,xs,s2⟩:=q
        rw [yw] at hk
        simp only at hk
        obtain ⟨kX,hx,h2,ml,hf2,cc⟩:=PC yw h1 (nr.move hs1.ej)
        cases ni:mkObj s2 id (.row t (meet ob ku) 0 (xs++ys)) with
        | none=>rw [ni] at hk;simp at hk
        | some s3 =>
         rw [ni] at hk
         obtain ⟨hroom,hk2⟩:=rH hk
         clear hk
         obtain ⟨b2,rfl⟩:=qk ni
         obtain ⟨bL,BA,BB,h3,_,mm,Br,Y7,dG,Y8⟩:=YW h2 hx hels hf2 (ou.shrink ml) (by
          intro b o Y9 Y_
          obtain ⟨j,hj,yu⟩:=cc b o Y9
          exact ou.apart j hj b o Y_ yu)
         obtain ⟨u,w',bf,hrun,hinv,hcell⟩:=PD (P:=P) (id:=id) (ty:=o.type) (ats:=c.argTypes) (args:=c.args.map a.eval) (by rw [← Array.getElem?_toList,rN];rfl) (by rw [← Array.getElem?_toList,rN];rfl)
          (by rw [← Array.getElem?_toList,lM,he];rfl) (by rw [← Array.getElem?_toList,lM,he];rfl) hu ca j5 (Nat.le_of_ble_eq_true hroom) h3 b2 mm Br Y7 dG Y8 hlen ns
         refine⟨_,hk2,mf (v:=u) (w':=w') ?_ hinv (by simp only [aQ];exact hcell) ag⟩
         unfold execOp;rw [ho]
         simp only [run_bind,resolve,hb,run_pure,invoke]
         unfold builtin
         exact fW hrun
theorem c4.cut{α : Type}{R : α → List Value→ah→Prop}{size:Nat} : ∀ {xs:List α} {vs:List Value} {F:ah} (k:Nat),c4 R size xs vs F→c4 R size (xs.take k) (vs.take (k*size)) F∧c4 R size (xs.drop k) (vs.drop (k*size)) F
 | xs,vs,F,0,h=>by simp only [Nat.zero_mul,List.take_zero,List.drop_zero];exact⟨rfl,h⟩
 | [],vs,F,k+1,h=>by simp only [c4] at h;subst h;simp [c4]
 | x :: xs,vs,F,k+1,⟨us,aj,G,H,h1,h2,h3,h4,a7,bh,bH⟩=>by
  obtain ⟨p,q⟩:=c4.cut k h4
  subst h1
  have e:(k+1)*size=us.length+k*size:=by rw [Nat.add_one_mul,h3];omega
  refine⟨⟨us,aj.take (k*size),G,H,?_,h2,h3,p,a7,bh,bH⟩,?_⟩
  ·rw [e,List.take_length_add_append]
  ·rw [e,List.drop_length_add_append];exact q.mono bH
theorem Y'(us:List Value)(z:Array Value)(hz:z.toList=us)(n:Nat):(Builtin.zeroCells z n).toList=(List.replicate n us).flatten:=by
 have hl:(Builtin.zeroCells z n).toList.length=(List.replicate n us).flatten.length:=by
  rw [Array.length_toList,G7];subst hz;simp
 refine List.ext_getElem? fun j=>?_
 cases hj:(List.replicate n us).flatten[j]? with
 | none =>
  rw [List.getElem?_eq_none_iff] at hj ⊢
  omega
 | some v =>
  have:=H6 (z:=z) (m:=n*z.size) us n hz (by subst hz;simp) v hj
  rw [Array.getElem?_toList]
  exact this
theorem Inv.rewrite(h:Inv w0 F0 Z0 n s a w ι Z){id:Nat}{t:ad}{em:a'}{ver:Nat}{xs fT:List t.D}(ho:s.o id=.row t em ver xs)(hl:xs.length=fT.length)(hx:Ext w w' (ι id).F)
  (c2:eI w Z s ι w' Z (s.bQ id (.row t em (ver+1) fT)) ι → h7 w' Z (s.bQ id (.row t em (ver+1) fT)) ι (ι id) (.row t em (ver+1) fT)):Inv w0 F0 Z0 n (s.bQ id (.row t em (ver+1) fT)) a w' ι Z:=by
 have cc:(s.o id).live:=by rw [ho];trivial
 let o':cm:=.row t em (ver+1) fT
 have hm:eI w Z s ι w' Z (s.bQ id o') ι := by
  refine⟨fun j=>?_,fun _ _ h=>h,b9.iW hx h.rB ?_⟩
  ·show iV (s.o j) (ι j) (bU s.o id o' j) (ι j)
   by_cases hj:id=j
   ·subst hj;rw [cw,ho];exact .row _ _ _ _ _ _ _ _ _ (by omega) (by omega) rfl rfl
   ·rw [cS hj];exact .stay _ _
  ·rintro b o (hz | ⟨d',gf,qf,_,hf⟩) iA
   ·exact h.c5 id cc b o iA hz
   ·have hne:d'≠id:=by
     rintro rfl
     have:bU s.o d' o' d'=s.o d':=qf
     rw [cw,ho] at this
     injection this with h1 h2 h3
     omega
    exact h.apart d' id gf cc hne b o hf iA
 have rD:∀ {j},id≠j→((s.bQ id o').o j).live→(s.o j).live:=fun hj hl=>by
  have:(bU s.o id o' _).live:=hl
  rwa [cS hj] at this
 refine h.next hm hx (fun b o hf=>(h.own id cc b o hf).1) (fun _ _ h=>.inl h) ?_ ?_ (fun k=>(h.tmps k).move hm) h.size h.defers
 ·intro j hl hne
  by_cases hj:id=j
  ·subst hj
   refine⟨?_,fun b o hf=>⟨(h.own _ cc b o hf).1,Nat.lt_of_lt_of_le (h.own _ cc b o hf).2 hx.size⟩,fun d' gf jI=>h.apart id d' cc (rD jI gf) jI⟩
   show h7 _ _ _ _ _ (bU s.o id o' id)
   rw [cw]
   exact c2 hm
  ·exact absurd ⟨cS hj,rfl⟩ hne
 ·intro j hl
  by_cases hj:id=j
  ·subst hj;exact h.c5 _ cc
  ·exact h.c5 j (rD hj hl)
theorem Za{t e ty:TypeId}{T:ad}{A:Option Addr}{k c:Nat}(hu:P.underlying t=some (.slice e))(ca:T.ok P e){b o:Nat}(hA:0<k→A=some (at_ b o))(hw:∀j,j<k*T.size→fm w b (o+j)) :
  (Builtin.clear_ #[t] ty #[.slice A k c]).run P w=.ok (.tuple #[]) (setCells w b o (List.replicate k T.cO).flatten):=by
 rcases Nat.eq_zero_or_pos k with rfl | hk
 ·unfold Builtin.clear_
  cases A <;>(simp only [List.getElem?_toArray,List.getElem?_cons_zero,run_bind,run_underlying hu];rfl)
 ·rw [hA hk]
  obtain ⟨m,rfl⟩:∃m,k=m+1:=⟨k-1,by omega⟩
  have hc:=Y' T.cO (dH T T.cO).cells (wg T) (m+1)
  have h1:∀v∈(List.replicate (m+1) T.cO).flatten,ee v=true:=by
   intro v hv
   rw [List.mem_flatten] at hv
   obtain ⟨l,h1,h2⟩:=hv
   rw [(List.mem_replicate.1 h1).2] at h2
   exact((rF (w:=default) (Z:=ah.none) (s:=⟨fun _=>.aD,fun _=>.none,[]⟩) (ι := fun _=>⟨none,0,ah.none⟩) T).ee) v h2
  have hst:=A7 (P:=P) (b:=b) (o:=o) _ w 0 h1 (fun i hi=>by
   have:=hw i (by simpa [ad.lJ] using hi)
   simpa using this)
  unfold Builtin.clear_
  simp only [List.getElem?_toArray,List.getElem?_cons_zero,run_bind,run_underlying hu,Bo ca,hc]
  simp only [Nat.add_zero] at hst
  rw [hst]
  rfl
theorem Zb{c:Call}(bZ:gS P E)(h:Inv w0 F0 Z0 n s a w ι Z)(ag:∀k,o.dst=some k→k<n)(ho:o.op=.call c)(hb:c.callee=.builtin .clear)(hk:cT E id o s K=some r) :
  ∃aq,K aq=some r∧o.wp P a w (cY w0 F0 Z0 n aq) Q:=by
 unfold cT at hk
 rw [ho] at hk
 simp only [hb] at hk
 have hvs:=tz h c.args.toList
 have lM:(c.args.map a.eval).toList=c.args.toList.map a.eval:=by simp
 generalize hl:c.args.toList.map (bV s)=l at hk hvs
 match l,hk,hvs with
 | [.aV (.ag i sub)],hk,hvs =>
  simp only [j0] at hk
  cases gF:c.argTypes.toList with
  | nil=>rw [gF] at hk;simp at hk
  | cons t aj =>
   rw [gF] at hk
   simp only at hk
   cases ht:E.ty t with
   | none=>rw [ht] at hk;simp at hk
   | some T =>
    cases bX:s.o i with
    | row v em ver xs =>
     rw [ht,bX] at hk
     cases T with
     | sl u =>
      simp only at hk
      cases hf:(ad.beq u v&&v.flat)
      ·rw [hf] at hk;simp at hk
      rw [hf] at hk
      simp only [cond_true] at hk
      simp only [Bool.and_eq_true] at hf
      obtain ⟨hf,ia⟩:=hf
      have:=ad.eq_of_beq _ _ hf
      subst this
      simp only [aY,aQ] at hvs
      obtain ⟨ak',us,he,⟨iX,A,k,j2,rfl,hh⟩,rfl⟩:=hvs
      obtain ⟨e,hu,ca⟩:=lK (bZ.ty _ _ ht)
      have hr:=hh u em ver xs (lD bX)
      obtain ⟨ct,PL,ala,rc,BE⟩:=hr
      have hkk:k=ly sub xs:=by
       rw [ct];cases sub with
       | none=>rfl
       | some p=>rfl
      rw [← hkk] at hk
      generalize iB:ei sub=lo at *
      have nk:(c.args.map a.eval) = #[.slice A k j2]:=by
       apply Array.ext'
       rw [lM,he]
      have pn:c.argTypes[0]?=some t:=by rw [← Array.getElem?_toList,gF];rfl
      have hlen:xs.length=(xs.take lo++List.replicate k u.zero++xs.drop (lo+k)).length:=by simp;omega
      have PM:=h.fS i
      rw [bX] at PM
      have hfin:∃(b BF:Nat),(0<k→A=some (at_ b BF))∧(∀j,j<k*u.size→fm w b (BF+j))∧Inv w0 F0 Z0 n (s.bQ i (.row u em (ver+1) (xs.take lo++List.replicate k u.zero++xs.drop (lo+k)))) a (setCells w b BF (List.replicate k u.cO).flatten) ι Z:=by
       rcases PM with⟨h1,h2⟩ | ⟨a0,gi,hrow⟩
       ·have hk0:k=0:=by rw [h1] at PL;simp at PL;omega
        subst hk0
        refine⟨0,0,fun h=>by omega,fun j hj=>by omega,?_⟩
        refine h.rewrite bX hlen (Ext.refl _ _) fun _=>?_
        exact .inl ⟨by rw [h1];simp,h2⟩
       ·have hle:(lo+k)*u.size≤(ι i).cap*u.size:=Nat.mul_le_mul_right _ (by have:=hrow.cap;omega)
        rw [Nat.add_mul] at hle
        have hwr:∀j,j<k*u.size→fm w a0.block (a0.off+lo*u.size+j):=fun j hj=>by
         have:=(hrow.wr (lo*u.size+j) (by omega)).1;rwa [← Nat.add_assoc] at this
        have yt:(List.replicate k u.cO).flatten.length=k*u.size:=by simp [ad.lJ]
        have hx:Ext w (setCells w a0.block (a0.off+lo*u.size) (List.replicate k u.cO).flatten) (ι i).F:=n9 _ _ _ _ fun j hj=>by
         have:=hrow.inF (lo*u.size+j) (by omega);rwa [← Nat.add_assoc] at this
        refine⟨a0.block,a0.off+lo*u.size,fun hk0=>?_,hwr,h.rewrite bX hlen hx fun _=>.inr ⟨a0,gi,hrow.spot,by rw [← hlen];exact hrow.cap,fun j hj=>hx.kp (hrow.wr j hj),hrow.inF,ah.none,?_,fun _ _ h=>h,fun _ _ h=>h.elim⟩⟩
        ·rcases BE with BE | ⟨a1,hb1,BE⟩
         ·omega
         ·rw [gi] at hb1
          obtain rfl:=aT hb1
          exact BE
        ·obtain ⟨G,bD,cg,gd⟩:=hrow.row
         obtain ⟨us,e1,e2⟩:=Row.s9 bD
         have e1:c4 (u.al (setCells w a0.block (a0.off+lo*u.size) (List.replicate k u.cO).flatten) Z em) u.size xs us ah.none:=e1.bare fun y us dm _ aN =>
          rj u (F:=ah.none) ia (ad.al.same (Z:=ah.none) (fun _ _ h=>h.elim) u em (F:=ah.none) (fun _ _ h=>h.elim) (rj u ia aN))
         have qi:=e1.len
         have hsp:=ri (k:=lo*u.size) (vs:=(List.replicate k u.cO).flatten) e2 (fun i hi=>(hrow.wr i (by
          have:xs.length*u.size≤(ι _).cap*u.size:=Nat.mul_le_mul_right _ hrow.cap
          omega)).1) (by
          rw [yt,qi,← Nat.add_mul];exact Nat.mul_le_mul_right _ (by omega))
         refine c4.row ?_ hsp
         have c1:=(e1.cut lo).1
         have gC:=(e1.cut (lo+k)).2
         have Zc:=c4.replicate (R:=u.al (setCells w a0.block (a0.off+lo*u.size) (List.replicate k u.cO).flatten) Z em) (H5 u em) (ad.lJ u) k
         have:=((c1.append Zc fun _ _ h _=>h.elim).append gC fun _ _ _ h=>h.elim)
         unfold db
         rw [yt,← Nat.add_mul]
         refine this.bare fun y us G _ aN=>rj u ia aN
      obtain ⟨b,BF,hA,hw,hi⟩:=hfin
      refine⟨_,hk,mf (v:=.tuple #[]) ?_ hi (by simp only [aQ,aY];exact⟨[],rfl,rfl⟩) ag⟩
      unfold execOp;rw [ho]
      simp only [run_bind,resolve,hb,run_pure,invoke]
      unfold builtin
      refine fW ?_
      have hrun:=Za (P:=P) (w:=w) (ty:=o.type) (c:=j2) hu ca hA hw
      rw [nk]
      have Zd:Builtin.clear_ c.argTypes o.type #[.slice A k j2]=Builtin.clear_ #[t] o.type #[.slice A k j2]:=by
       unfold Builtin.clear_;rw [pn];rfl
      rw [Zd]
      exact hrun
     | _=>simp at hk
    | _=>rw [ht,bX] at hk;cases T <;> simp at hk
 | [],hk,_=>simp [j0] at hk
 | _ :: _ :: _,hk,_=>simp [j0] at hk
 | [.aD],hk,_ | [.iu _],hk,_ | [.ptr _],hk,_ | [.dk _ _ _],hk,_ | [.jY],hk,_ | [.kQ],hk,_ | [.opt _ _],hk,_ | [.may _ _ _],hk,_ | [.rk _],hk,_ | [.fn _ _ _],hk,_ | [.o9 _],hk,_=>simp [j0] at hk
 | [.aV (.int _ _)],hk,_ | [.aV (.bool _)],hk,_ | [.aV (.str _)],hk,_ | [.aV (.nil _)],hk,_ | [.aV (.b1 _ _ _ _)],hk,_=>simp [j0] at hk
end
end Go.LM
namespace Go.LM
theorem Row.BG{α : Type}{w:World}{R : α → List Value→ah→Prop}{size:Nat} : ∀ {x:List α} {b o:Nat} {F:ah} (i:Nat) (hi:i<x.length),Row w R size x b o F →
  ∃G1 i_ G2 vs,Row w R size (x.take i) b o G1∧R x[i] vs i_∧vs.length=size∧b8 w b (o+i*size) vs∧Row w R size (x.drop (i+1)) b (o +(i+1)*size) G2 ∧
   ah.apart G1 i_∧ah.apart G1 G2∧ah.apart i_ G2∧ah.sub G1 F∧ah.sub i_ F∧ah.sub G2 F
 | y :: x,b,o,F,0,_,⟨vs,G,H,h1,h2,h3,h4,a7,bh,bH⟩ =>
  ⟨ah.none,G,H,vs,trivial,h1,h2,by simpa using h3,by simpa using h4,fun _ _ h=>h.elim,fun _ _ h=>h.elim,a7,fun _ _ h=>h.elim,bh,bH⟩
 | y :: x,b,o,F,i+1,hi,⟨vs,G,H,h1,h2,h3,h4,a7,bh,bH⟩=>by
  obtain ⟨G1,i_,G2,us,k1,k2,k3,ba,bt,dh,dj,eo,gG,gj,c3⟩:=Row.BG i (by simpa using hi) h4
  refine⟨G.or G1,i_,G2,us,⟨vs,G,G1,h1,h2,h3,k1,fun b o h k=>a7 b o h (gG b o k),fun _ _ h=>.inl h,fun _ _ h=>.inr h⟩,k2,k3,?_,?_,?_,?_,eo,?_,fun b o h=>bH b o (gj b o h),fun b o h=>bH b o (c3 b o h)⟩
  ·rwa [show o +(i+1)*size=o+size+i*size by rw [Nat.add_one_mul];omega]
  ·have e:o +(i+1+1)*size=o+size +(i+1)*size:=by rw [Nat.add_one_mul (i+1)];omega
   rw [e];exact bt
  ·rintro b o (h | h) k
   ·exact a7 b o h (gj b o k)
   ·exact dh b o h k
  ·rintro b o (h | h) k
   ·exact a7 b o h (c3 b o k)
   ·exact dj b o h k
  ·rintro b o (h | h)
   ·exact bh b o h
   ·exact bH b o (gG b o h)
theorem Row.BH{α : Type}{w:World}{R : α → List Value→ah→Prop}{size:Nat}{y : α}{vs:List Value}{i_:ah} : ∀ {x:List α} {b o:Nat} {G1 G2:ah} (i:Nat),i<x.length→Row w R size (x.take i) b o G1→R y vs i_→vs.length=size →
  b8 w b (o+i*size) vs→Row w R size (x.drop (i+1)) b (o +(i+1)*size) G2→ah.apart G1 i_→ah.apart G1 G2→ah.apart i_ G2→Row w R size (x.set i y) b o (G1.or (i_.or G2))
 | [],_,_,_,_,_,hi,_,_,_,_,_,_,_,_=>by simp at hi
 | z :: x,b,o,G1,G2,0,_,_,h2,h3,h4,a7,_,_,cG =>
  ⟨vs,i_,G2,h2,h3,by simpa using h4,by simpa using a7,cG,fun _ _ h=>.inr (.inl h),fun _ _ h=>.inr (.inr h)⟩
 | z :: x,b,o,G1,G2,i+1,hi,⟨ws,A,B,a1,a2,a3,a4,a5,Ig,Ih⟩,h2,h3,h4,a7,bh,bH,cG=>by
  have e1:o +(i+1)*size=o+size+i*size:=by rw [Nat.add_one_mul];omega
  have e2:o +(i+1+1)*size=o+size +(i+1)*size:=by rw [Nat.add_one_mul (i+1)];omega
  have:=Row.BH i (by simpa using hi) a4 h2 h3 (by rwa [← e1]) (by rw [← e2];exact a7) (fun b o x y=>bh b o (Ih b o x) y) (fun b o x y=>bH b o (Ih b o x) y) cG
  refine⟨ws,A,_,a1,a2,a3,this,?_,fun b o h=>.inl (Ig b o h),?_⟩
  ·rintro b o x (y | y | y)
   ·exact a5 b o x y
   ·exact bh b o (Ig b o x) y
   ·exact bH b o (Ig b o x) y
  ·rintro b o (y | y | y)
   ·exact .inl (Ih b o y)
   ·exact .inr (.inl y)
   ·exact .inr (.inr y)
mutual
theorem ad.wm:∀(T:ad) {off:Nat} {t:ad} {x:T.D} {z:List t.D},T.flat=true→T.getAt off t x=some z→False
 | .int _,_,_,_,_,_,h=>by simp [ad.getAt] at h
 | .bool,_,_,_,_,_,h=>by simp [ad.getAt] at h
 | .str,_,_,_,_,_,h=>by simp [ad.getAt] at h
 | .raw,_,_,_,_,_,h=>by simp [ad.getAt] at h
 | .sl t,_,_,_,_,hf,_=>by simp [ad.flat] at hf
 | .st aj,_,_,_,_,hf,h=>ay.wm aj (by simpa only [ad.flat] using hf) (by simpa only [ad.getAt] using h)
theorem ay.wm:∀(aj:ay) {off:Nat} {t:ad} {x:aj.D} {z:List t.D},aj.flat=true→aj.getAt off t x=some z→False
 | .nil,_,_,_,_,_,h=>by simp [ay.getAt] at h
 | .cons T aj,off,t,x,z,hf,h=>by
  simp only [ay.flat] at hf
  cases h1:T.flat
  ·rw [h1] at hf;cases hf
  rw [h1] at hf
  simp only [ay.getAt] at h
  cases hb:Nat.blt off T.size
  ·rw [hb] at h;exact ay.wm aj hf h
  ·rw [hb] at h;exact ad.wm T h1 h
end
section
variable{w b6:World}{Z bL:ah}
theorem qo(t:ad){x:t.D}{vs:List Value}{F:ah}(hF:b9 w b6 F)(h:t.al w Z t.own x vs F):t.al b6 bL t.own x vs F :=
 tp t (ad.al.same (Z:=ah.none) (fun _ _ h=>h.elim) t t.own hF (tp t h))
theorem PN(t:ay){x:t.D}{vs:List Value}{F:ah}(hF:b9 w b6 F)(h:t.al w Z t.own x vs F):t.al b6 bL t.own x vs F :=
 Bk t (ay.al.same (Z:=ah.none) (fun _ _ h=>h.elim) t t.own hF (Bk t h))
def PO(w:World)(Z:ah)(t:ad)(z:List t.D)(v:Value)(H1 G1:ah)(R:World→ah→List t.D→ah→Prop):Prop :=
 (ad.sl t).al w Z (.O t.own) z [v] H1∧ah.apart H1 G1∧∀(b6:World) (bL X:ah) (y:List t.D),b9 w b6 G1→(ad.sl t).al b6 bL (.O t.own) y [v] X→ah.apart X G1→R b6 bL y (X.or G1)
mutual
theorem ad.lens:∀(T:ad) (off:Nat) (t:ad) {x:T.D} {z:List t.D} {us:List Value} {G:ah},T.al w Z T.own x us G→T.getAt off t x=some z →
  ∃v H1 G1,us[off]?=some v∧ah.sub H1 G∧ah.sub G1 G∧PO w Z t z v H1 G1 (fun b6 bL y eM=>∀bB,T.setAt off t y x=some bB→T.al b6 bL T.own bB us eM)
 | .int _,_,_,_,_,_,_,_,h=>by simp [ad.getAt] at h
 | .bool,_,_,_,_,_,_,_,h=>by simp [ad.getAt] at h
 | .str,_,_,_,_,_,_,_,h=>by simp [ad.getAt] at h
 | .raw,_,_,_,_,_,_,_,h=>by simp [ad.getAt] at h
 | .sl u,off,t,x,z,us,G,hr,h=>by
  simp only [ad.getAt] at h
  cases hb:Nat.beq off 0
  ·rw [hb] at h;cases h
  rw [hb] at h
  obtain rfl:=Nat.eq_of_beq_eq_true hb
  obtain ⟨e,rfl⟩:=gR h
  subst e
  have iz:=hr
  simp only [ad.own,ad.al] at hr
  obtain ⟨A,c,rfl,_⟩:=hr
  refine⟨_,G,ah.none,rfl,fun _ _ h=>h,fun _ _ h=>h.elim,iz,fun _ _ _ h=>h.elim,fun b6 bL X y _ h2 _ bB hs=>?_⟩
  simp only [ad.setAt] at hs
  obtain ⟨e,rfl⟩:=gR (show eG (.sl u) (.sl u) y=some bB from hs)
  exact ad.al.mono (fun _ _ h=>h) _ _ (fun _ _ h=>.inl h) h2
 | .st aj,off,t,x,z,us,G,hr,h=>by
  have ia:aj.flat=false:=by
   cases hf:aj.flat
   ·rfl
   ·exact(ad.wm (.st aj) (by simpa only [ad.flat] using hf) h).elim
  simp only [ad.own,ia,Bool.false_eq_true,if_false,ad.al,a'.parts] at hr
  simp only [ad.getAt] at h
  obtain ⟨v,H1,G1,h1,h2,h3,h4,a7,bh⟩:=ay.lens aj off t hr h
  refine⟨v,H1,G1,h1,h2,h3,h4,a7,fun b6 bL X y k1 k2 k3 bB hs=>?_⟩
  simp only [ad.setAt] at hs
  simp only [ad.own,ia,Bool.false_eq_true,if_false,ad.al,a'.parts]
  exact bh b6 bL X y k1 k2 k3 bB hs
theorem ay.lens:∀(aj:ay) (off:Nat) (t:ad) {x:aj.D} {z:List t.D} {us:List Value} {G:ah},aj.al w Z aj.own x us G→aj.getAt off t x=some z →
  ∃v H1 G1,us[off]?=some v∧ah.sub H1 G∧ah.sub G1 G∧PO w Z t z v H1 G1 (fun b6 bL y eM=>∀bB,aj.setAt off t y x=some bB→aj.al b6 bL aj.own bB us eM)
 | .nil,_,_,_,_,_,_,_,h=>by simp [ay.getAt] at h
 | .cons T aj,off,t,x,z,us,G,hr,h=>by
  simp only [ay.own,ay.al,cU.ag,cU.dx] at hr
  obtain ⟨lC,ib,nt,nu,rfl,bD,cg,hap,ha,hb⟩:=hr
  have hl:=(ad.al.len T _ bD).1
  simp only [ay.getAt] at h
  cases cz:Nat.blt off T.size
  ·rw [cz] at h
   have Ii:T.size≤off:=by
    rcases Nat.lt_or_ge off T.size with h1 | h1
    ·have:Nat.blt off T.size=true:=Nat.ble_eq_true_of_le h1
     rw [this] at cz;cases cz
    ·exact h1
   obtain ⟨v,H1,G1,h1,h2,h3,h4,a7,bh⟩:=ay.lens aj (off-T.size) t cg h
   refine⟨v,H1,nt.or G1,?_,fun b o x=>hb b o (h2 b o x),?_,h4,?_,fun b6 bL X y k1 k2 k3 bB hs=>?_⟩
   ·rw [List.getElem?_append_right (by omega),hl];exact h1
   ·rintro b o (y | y)
    ·exact ha b o y
    ·exact hb b o (h3 b o y)
   ·rintro b o y (q | q)
    ·exact hap b o q (h2 b o y)
    ·exact a7 b o y q
   ·simp only [ay.setAt,cz,cond_false] at hs
    obtain ⟨jK,hz,hs⟩:=bg hs
    obtain rfl:=aT hs
    simp only [ay.own,ay.al,cU.ag,cU.dx]
    refine⟨lC,ib,nt,X.or G1,rfl,qo T (k1.mono fun _ _ h=>.inl h) bD,bh b6 bL X y (k1.mono fun _ _ h=>.inr h) k2 (fun b o p q=>k3 b o p (.inr q)) jK hz,?_,fun _ _ h=>.inr (.inl h),?_⟩
    ·rintro b o p (q | q)
     ·exact k3 b o q (.inl p)
     ·exact hap b o p (h3 b o q)
    ·rintro b o (q | q)
     ·exact .inl q
     ·exact .inr (.inr q)
  ·rw [cz] at h
   have Ii:off<T.size:=Nat.le_of_ble_eq_true cz
   obtain ⟨v,H1,G1,h1,h2,h3,h4,a7,bh⟩:=ad.lens T off t bD h
   refine⟨v,H1,G1.or nu,?_,fun b o x=>ha b o (h2 b o x),?_,h4,?_,fun b6 bL X y k1 k2 k3 bB hs=>?_⟩
   ·rw [List.getElem?_append_left (by omega)];exact h1
   ·rintro b o (y | y)
    ·exact ha b o (h3 b o y)
    ·exact hb b o y
   ·rintro b o y (q | q)
    ·exact a7 b o y q
    ·exact hap b o (h2 b o y) q
   ·simp only [ay.setAt,cz,cond_true] at hs
    obtain ⟨jK,hz,hs⟩:=bg hs
    obtain rfl:=aT hs
    simp only [ay.own,ay.al,cU.ag,cU.dx]
    refine⟨lC,ib,X.or G1,nu,rfl,bh b6 bL X y (k1.mono fun _ _ h=>.inl h) k2 (fun b o p q=>k3 b o p (.inl q)) jK hz,PN aj (k1.mono fun _ _ h=>.inr h) cg,?_,?_,fun _ _ h=>.inr (.inr h)⟩
    ·rintro b o (p | p) q
     ·exact k3 b o p (.inr q)
     ·exact hap b o (h3 b o p) q
    ·rintro b o (q | q)
     ·exact .inl q
     ·exact .inr (.inl q)
end
theorem m7.lens{T:ad}{ys:List T.D}{a:Addr}{c:Nat}{F:ah}{i off:Nat}{t:ad}{z:List t.D}(h:m7 w (T.al w Z T.own) T.size ys a c F)(hi:i<ys.length)(aB:T.getAt off t (J T ys i)=some z) :
  ∃v H1,w.cell? (at_ a.block (a.off+i*T.size+off))=some v∧(ad.sl t).al w Z (.O t.own) z [v] H1∧ah.sub H1 F ∧
   ∀(b6:World) (bL X:ah) (y:List t.D) (bB:T.D),b9 w b6 (ah.diff F H1)→(ad.sl t).al b6 bL (.O t.own) y [v] X→ah.apart X (ah.diff F H1)→T.setAt off t y (J T ys i)=some bB →
    m7 b6 (T.al b6 bL T.own) T.size (ys.set i bB) a c (X.or (ah.diff F H1)):=by
 rw [c6 hi] at aB ⊢
 obtain ⟨G,g1,g2,g3⟩:=h.row
 obtain ⟨nt,i_,nu,vs,bD,Ij,hvl,b4,cg,a1,a2,a3,s1,s2,s3⟩:=g1.BG i hi
 obtain ⟨v,H1,G1,hv,k1,k2,k3,ba,bt⟩:=ad.lens T off t Ij aB
 have yx:ah.sub H1 G:=fun b o x=>s2 b o (k1 b o x)
 have hle:ys.length*T.size≤c*T.size:=Nat.mul_le_mul_right _ h.cap
 have gE:(i+1)*T.size≤ys.length*T.size:=Nat.mul_le_mul_right _ hi
 rw [Nat.add_one_mul] at gE
 refine⟨v,H1,?_,k3,fun b o x=>g3 b o (yx b o x),fun b6 bL X y bB hs hr hap Ik=>?_⟩
 ·have:=b4 off v hv
  exact this
 have tB:∀ {A:ah},ah.sub A G→ah.apart A H1→ah.sub A (ah.diff F H1):=fun hA au b o x=>⟨g3 b o (hA b o x),fun y=>au b o x y⟩
 have tC:ah.sub nt (ah.diff F H1):=tB s1 fun b o x y=>a1 b o x (k1 b o y)
 have tD:ah.sub nu (ah.diff F H1):=tB s3 fun b o x y=>a3 b o (k1 b o y) x
 have d1:ah.sub G1 (ah.diff F H1):=tB (fun b o x=>s2 b o (k2 b o x)) fun b o x y=>ba b o y x
 have pq:∀j,j<c*T.size→ah.diff F H1 a.block (a.off+j):=fun j hj=>⟨h.inF j hj,fun y=>g2 j hj (yx _ _ y)⟩
 have hcell:∀j,j<c*T.size→b6.cell? (at_ a.block (a.off+j))=w.cell? (at_ a.block (a.off+j)):=fun j hj=>(hs _ _ (pq j hj)).1
 have fa:=bt b6 bL X y (hs.mono d1) hr (fun b o p q=>hap b o p (d1 b o q)) bB Ik
 refine⟨h.spot,by simpa using h.cap,fun j hj=>hs.kp (pq j hj) (h.wr j hj),fun j hj=>.inr (pq j hj),nt.or ((X.or G1).or nu),?_,?_,?_⟩
 ·refine Row.BH i hi (bD.imp (fun y us dm hG hr=>qo T (hs.mono fun b o p=>tC b o (hG b o p)) hr) fun j hj=>hcell j ?_) fa hvl (b4.of_eq fun j hj=>?_) (cg.imp (fun y us dm hG hr=>qo T (hs.mono fun b o p=>tD b o (hG b o p)) hr) fun j hj=>?_) ?_ a2 ?_
  ·simp only [List.length_take] at hj
   have:min i ys.length*T.size≤ys.length*T.size:=Nat.mul_le_mul_right _ (Nat.min_le_right _ _)
   omega
  ·have:=hcell (i*T.size+j) (by omega)
   rwa [← Nat.add_assoc] at this
  ·simp only [List.length_drop] at hj
   have e1:(ys.length-(i+1))*T.size=ys.length*T.size-(i*T.size+T.size):=by rw [Nat.sub_mul,Nat.add_one_mul]
   rw [e1] at hj
   have:=hcell ((i+1)*T.size+j) (by rw [Nat.add_one_mul];omega)
   rwa [← Nat.add_assoc] at this
  ·rintro b o p (q | q)
   ·exact hap b o q (tC b o p)
   ·exact a1 b o p (k2 b o q)
  ·rintro b o (p | p) q
   ·exact hap b o p (tD b o q)
   ·exact a3 b o (k2 b o p) q
 ·rintro j hj (p | (p | p) | p)
  ·exact g2 j hj (s1 _ _ p)
  ·exact hap _ _ p (pq j hj)
  ·exact g2 j hj (s2 _ _ (k2 _ _ p))
  ·exact g2 j hj (s3 _ _ p)
 ·rintro b o (p | (p | p) | p)
  ·exact .inr (tC b o p)
  ·exact .inl p
  ·exact .inr (d1 b o p)
  ·exact .inr (tD b o p)
end
end Go.LM
