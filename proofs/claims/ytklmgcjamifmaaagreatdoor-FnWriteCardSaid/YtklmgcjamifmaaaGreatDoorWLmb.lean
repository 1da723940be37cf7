/- Each operation of the model is what the interpreter says. Conditions: each theorem's own hypotheses. -/
import Derived.Test.YtklmgcjamifmaaaGreatDoorWLma
import Derived.Laws.BytesString
import Derived.Laws.Tables
import Derived.Laws.Append
set_option linter.unusedVariables false
set_option linter.unusedSimpArgs false
namespace Go.LM
section
variable{P:Program}{Q:Exit→Act→World→Prop}
variable{w0:World}{F0 Z0:ah}{n:cC}{s ar:aq}{a b7:Act}{w w':World}{ι bb:Nat→bH}{Z Z':ah}
def cX(w0:World)(F0 Z0:ah)(n:cC)(s:aq)(a:Act)(w:World):Prop:=∃ ι Z,Inv w0 F0 Z0 n s a w ι Z
theorem YA(v:Value):aP w Z s ι (Hg v) v:=by
 unfold Hg
 split <;> simp only [aP,cj]
 exact⟨_,rfl,rfl⟩
theorem e5(h:Inv w0 F0 Z0 n s a w ι Z)(x:Operand):aP w Z s ι (bV s x) (a.eval x):=by
 cases x with
 | tmp t=>exact h.tmps t
 | const v=>exact YA v
 | func f=>simp only [bV,Act.eval,aP];exact⟨[],[],rfl,by simp only [aX],by simp only [aX]⟩
 | global g=>simp only [bV,aP]
theorem HS{E:Env}{t:Nat}{x y:a7}{v:Value}(h:typed E t x=some y)(hv:aP w Z s ι x v):aP w Z s ι y v:=by
 cases x <;> simp only [typed] at h <;> try (obtain rfl:=aU h;exact hv)
 ·simp at h
 ·simp at h
 ·cases ht:E.ty t with
  | none=>rw [ht] at h;simp at h
  | some T =>
   rw [ht] at h
   cases T <;> simp at h
   subst h
   simp only [aP] at hv ⊢
   exact hv
theorem fX{α : Type}{oc:Sem α}{f : α → Next}{v : α}(h:oc.run P w=.ok v w'):(do pure (f (← oc)):Sem Next).run P w=.ok (f v) w':=by
 rw [run_bind,h];rfl
theorem mn{o:Oper}{v:Value}{x:a7}{s1:aq}(hr:(execOp a.eval o).run P w=.ok (.value v) w')(h:Inv w0 F0 Z0 n s1 a w' ι Z)(hv:aP w' Z s1 ι x v)
  (ag:∀k,o.dst=some k→k<n):o.wp P a w (fun b7 w'=>cX w0 F0 Z0 n (s1.dst o.dst x) b7 w') Q:=by
 unfold Oper.wp
 rw [hr,Oper.upon_value]
 exact⟨ι,Z,h.dst hv ag⟩
theorem wp_skip{o:Oper}{s1:aq}(hr:(execOp a.eval o).run P w=.ok .skip w')(h:Inv w0 F0 Z0 n s1 a w' ι Z)
  (ag:∀k,o.dst=some k→k<n):o.wp P a w (fun b7 w'=>cX w0 F0 Z0 n (s1.dst o.dst .aD) b7 w') Q:=by
 unfold Oper.wp
 rw [hr,Oper.upon_skip]
 exact⟨ι,Z,h.dst (by simp only [aP]) ag⟩
def Pure(P:Program)(o:Oper)(a:Act)(w:World)(R:Act→World→Prop):Prop:=∃v,(∀w',(execOp a.eval o).run P w'=.ok (.value v) w')∧R (a.put o.dst v) w
theorem Pure.wp{o:Oper}{R:Act→World→Prop}(h:Pure P o a w R):o.wp P a w R Q:=by
 obtain ⟨v,h1,h2⟩:=h
 unfold Oper.wp
 rw [h1 w,Oper.upon_value]
 exact h2
theorem dB{o:Oper}{v:Value}{x:a7}{s1:aq}(hr:∀w',(execOp a.eval o).run P w'=.ok (.value v) w')(h:Inv w0 F0 Z0 n s1 a w ι Z)(hv:aP w Z s1 ι x v)
  (ag:∀k,o.dst=some k→k<n):Pure P o a w (cX w0 F0 Z0 n (s1.dst o.dst x)) :=
 ⟨v,hr,ι,Z,h.dst hv ag⟩
structure g'(P:Program)(E:Env):Prop where
 ty:∀id T,E.ty id=some T→T.ok P id
 ptr:∀id,E.tl id=true→∃e,P.underlying id=some (.pointer e)
variable{E:Env}{o:Oper}{bu : Type}{K:aq→Option bu}{r : bu}{id:Nat}
theorem Bq{x:Operand}(h:Inv w0 F0 Z0 n s a w ι Z)(ag:∀k,o.dst=some k→k<n)(ho:o.op=.move x∨o.op=.assign x)(hk:cT E id o s K=some r) :
  ∃ar,K ar=some r∧Pure P o a w (cX w0 F0 Z0 n ar):=by
 have eb:(match typed E o.type (bV s x) with | some v=>K (s.dst o.dst v) | none=>none)=some r:=by
  rcases ho with ho | ho <;>(unfold cT at hk;rw [ho] at hk;exact hk)
 cases ht:typed E o.type (bV s x) with
 | none=>rw [ht] at eb;simp at eb
 | some v =>
  rw [ht] at eb
  refine⟨_,eb,dB (v:=a.eval x) (fun w'=>?_) h (HS ht (e5 h x)) ag⟩
  rcases ho with ho | ho <;>(unfold execOp;rw [ho];rfl)
theorem O'{c x y:Operand}(h:Inv w0 F0 Z0 n s a w ι Z)(ag:∀k,o.dst=some k→k<n)(ho:o.op=.pick c x y)(hk:cT E id o s K=some r) :
  ∃ar,K ar=some r∧Pure P o a w (cX w0 F0 Z0 n ar):=by
 unfold cT at hk
 rw [ho] at hk
 simp only at hk
 have hc:=e5 h c
 have hx:=e5 h x
 have aN:=e5 h y
 have hrun:∀t,a.eval c=.bool t→∀w',(execOp a.eval o).run P w'=.ok (.value (if t then a.eval x else a.eval y)) w':=by
  intro t ht w'
  unfold execOp;rw [ho]
  simp only [run_bind,asBool,ht,run_pure]
 cases hcv:bV s c with
 | aT j5 =>
  rw [hcv] at hk hc
  cases j5 with
  | bool t =>
   simp only [aP,cj] at hc
   have hr:=hrun t hc
   cases t with
   | true =>
    cases cK:typed E o.type (bV s x) with
    | none=>rw [cK] at hk;cases gA:typed E o.type (bV s y) <;> rw [gA] at hk <;> simp at hk
    | some v =>
     rw [cK] at hk
     have:K (s.dst o.dst v)=some r:=by cases gA:typed E o.type (bV s y) <;> rw [gA] at hk <;> exact hk
     exact⟨_,this,dB hr h (HS cK hx) ag⟩
   | false =>
    cases gA:typed E o.type (bV s y) with
    | none=>rw [gA] at hk;cases cK:typed E o.type (bV s x) <;> rw [cK] at hk <;> simp at hk
    | some v =>
     rw [gA] at hk
     have:K (s.dst o.dst v)=some r:=by cases cK:typed E o.type (bV s x) <;> rw [cK] at hk <;> exact hk
     exact⟨_,this,dB hr h (HS gA aN) ag⟩
  | _=>simp at hk
 | _=>rw [hcv] at hk;simp at hk
theorem qs{i:Nat}{eC:cn}(h:mkObj s i eC=some ar):s.o i=.none∧ar=s.bR i eC:=by
 unfold mkObj at h
 cases ho:s.o i <;> rw [ho] at h <;> simp at h
 exact⟨rfl,h.symm⟩
theorem YB{t:Nat}(bX:g' P E)(h:Inv w0 F0 Z0 n s a w ι Z)(ag:∀k,o.dst=some k→k<n)(ho:o.op=.alloc t)(hk:cT E id o s K=some r) :
  ∃ar,K ar=some r∧o.wp P a w (cX w0 F0 Z0 n ar) Q:=by
 unfold cT at hk
 rw [ho] at hk
 simp only at hk
 cases ht:E.ty t with
 | none=>rw [ht] at hk;simp at hk
 | some T =>
  rw [ht] at hk
  simp only at hk
  cases hm:mkObj s id (.var 0 T.jt) with
  | none=>rw [hm] at hk;simp at hk
  | some s1 =>
   rw [hm] at hk
   obtain ⟨b6,rfl⟩:=qs hm
   have cd:=bX.ty t T ht
   have hz:bM w Z s ι T.jt (dK T T.cN).cells.toList:=by
    rw [HR (ad.lJ T) ((rO (w:=w) (Z:=Z) (s:=s) (ι := ι) T).ee)]
    exact rO T
   have hn:=h.newVar b6 hz t
   refine⟨_,hk,mn (v:=.pointer (some (at_ w.heap.size 0))) (w' := { w with heap:=w.heap.push (.cells (dK T T.cN).cells t) }) ?_ hn ?_ ag⟩
   ·unfold execOp;rw [ho]
    refine fX ?_
    simp only [Instr.alloc,run_bind,Bp cd,O_,run_pure]
   ·simp only [aP]
    refine⟨by show bU s.o id _ id≠_;rw [cB];simp,_,rfl,rfl,?_⟩
    show match (bU s.o id _ id).core with | .var _ _=>_ | .row .. => _ | _=>_
    rw [cB]
    exact⟨rfl,_,by rw [cB],by simp [at_]⟩
theorem YC{t:Nat}{x:Operand}(bX:g' P E)(h:Inv w0 F0 Z0 n s a w ι Z)(ag:∀k,o.dst=some k→k<n)(ho:o.op=.box t x)(hk:cT E id o s K=some r) :
  ∃ar,K ar=some r∧o.wp P a w (cX w0 F0 Z0 n ar) Q:=by
 unfold cT at hk
 rw [ho] at hk
 simp only at hk
 cases ht:E.ty t with
 | none=>rw [ht] at hk;simp at hk
 | some T =>
  rw [ht] at hk
  simp only at hk
  cases hc:iX T (bV s x) with
  | none=>rw [hc] at hk;simp at hk
  | some cs =>
   rw [hc] at hk
   simp only at hk
   cases hb:Nat.beq cs.length T.size
   ·rw [hb] at hk;simp at hk
   rw [hb] at hk
   simp only [cond_true] at hk
   cases hm:mkObj s id (.var 0 cs) with
   | none=>rw [hm] at hk;simp at hk
   | some s1 =>
    rw [hm] at hk
    obtain ⟨b6,rfl⟩:=qs hm
    have hn:=h.newVar b6 (rN hc (e5 h x)) t
    refine⟨_,hk,mn (v:=.pointer (some (at_ w.heap.size 0))) (w' := { w with heap:=w.heap.push (.cells (a.eval x).cells t) }) ?_ hn ?_ ag⟩
    ·unfold execOp;rw [ho]
     refine fX ?_
     simp only [Instr.box,run_bind,O_,run_pure]
    ·simp only [aP]
     refine⟨by show bU s.o id _ id≠_;rw [cB];simp,_,rfl,rfl,?_⟩
     show match (bU s.o id _ id).core with | .var _ _=>_ | .row .. => _ | _=>_
     rw [cB]
     exact⟨rfl,_,by rw [cB],by simp [at_]⟩
theorem YD{t:Nat}{x:Operand}(bX:g' P E)(h:Inv w0 F0 Z0 n s a w ι Z)(ag:∀k,o.dst=some k→k<n)(ho:o.op=.load t x)(hk:cT E id o s K=some r) :
  ∃ar,K ar=some r∧o.wp P a w (cX w0 F0 Z0 n ar) Q:=by
 unfold cT at hk
 rw [ho] at hk
 simp only at hk
 have hx:=e5 h x
 have hrun:∀ {T:ad} {b i:Nat} {vs:List Value},E.ty t=some T→a.eval x=.pointer (some (at_ b i))→b3 w b i vs→vs.length=T.size →
   (execOp a.eval o).run P w=.ok (.value (dK T vs)) w:=by
  intro T b i vs ht he hc hl
  unfold execOp;rw [ho]
  refine fX ?_
  simp only [Instr.loadAt,Instr.sureAddr,he,run_bind,run_pure,HO (bX.ty t T ht) hc hl]
 cases ht:E.ty t with
 | none=>rw [ht] at hk;simp at hk
 | some T =>
  rw [ht] at hk
  cases cK:bV s x with
  | ptr p =>
   rw [cK] at hk hx
   simp only at hk
   cases c5:(me s T.size p).bind (j2 T) with
   | none=>rw [c5] at hk;simp at hk
   | some v =>
    rw [c5] at hk
    obtain ⟨cs,h1,h2⟩:=bf c5
    simp only [aP] at hx
    obtain ⟨_,A,he,au⟩:=hx
    obtain ⟨b,i,vs,rfl,hc,ck,hl⟩:=yn h h1 au
    exact⟨_,hk,mn (hrun ht he ck hl) h (pq h2 hc) ag⟩
  | di dp cs off =>
   rw [cK] at hk hx
   simp only at hk
   cases c5:(takeN off T.size cs).bind (j2 T) with
   | none=>rw [c5] at hk;simp at hk
   | some v =>
    rw [c5] at hk
    simp only at hk
    cases dX:alive s dp
    ·rw [dX] at hk;simp at hk
    rw [dX] at hk
    obtain ⟨ds,h1,h2⟩:=bf c5
    obtain ⟨h3,rfl⟩:=pj h1
    simp only [aP] at hx
    obtain ⟨_,b,i,vs,he,hx⟩:=hx
    obtain ⟨hc,ck,_⟩:=hx dX
    have hl:=hc.len
    exact⟨_,hk,mn (hrun ht he (ck.part off T.size) (by simp;omega)) h (pq h2 ((hc.drop _).take _)) ag⟩
  | _=>rw [cK] at hk;simp at hk
theorem Inv.YE(h:Inv w0 F0 Z0 n s a w ι Z){id:Nat}(b9:(s.o id).live)(hx:Ext w w' (ι id).F):Inv w0 F0 Z0 n (s.bR id .dead) a w' ι Z:=by
 have hm:eI w Z s ι w' Z (s.bR id .dead) ι := by
  refine⟨fun j=>?_,fun _ _ h=>h,b4.jb hx h.rK ?_⟩
  ·show ja (s.o j) (ι j) (bU s.o id .dead j) (ι j)
   by_cases hj:id=j
   ·subst hj;rw [cB];exact .dead _ _ _
   ·rw [cR hj];exact .stay _ _
  ·rintro b o (hz | ⟨ea,gk,qn,_,hf⟩) iI
   ·exact h.c2 id b9 b o iI hz
   ·have hne:ea≠id:=by
     rintro rfl
     have:bU s.o ea .dead ea=s.o ea:=qn
     rw [cB] at this
     rw [← this] at b9
     exact b9
    exact h.apart ea id gk b9 hne b o hf iI
 have rM:∀ {j},((s.bR id .dead).o j).live→id≠j∧(s.o j).live:=fun {j} hl=>by
  have hl:(bU s.o id .dead j).live:=hl
  by_cases hj:id=j
  ·subst hj;rw [cB] at hl;exact hl.elim
  ·rw [cR hj] at hl;exact⟨hj,hl⟩
 refine h.next hm hx (fun b o hf=>(h.own id b9 b o hf).1) (fun _ _ h=>.inl h) ?_ ?_ (fun k=>(h.tmps k).move hm) h.size h.defers
 ·intro j hl hne
  exact absurd ⟨cR (rM hl).1,rfl⟩ hne
 ·intro j hl
  exact h.c2 j (rM hl).2
theorem YF{t:Nat}{x y:Operand}(bX:g' P E)(h:Inv w0 F0 Z0 n s a w ι Z)(ag:∀k,o.dst=some k→k<n)(ho:o.op=.store t x y)(hk:cT E id o s K=some r) :
  ∃ar,K ar=some r∧o.wp P a w (cX w0 F0 Z0 n ar) Q:=by
 unfold cT at hk
 rw [ho] at hk
 simp only at hk
 have hx:=e5 h x
 have aN:=e5 h y
 cases ht:E.ty t with
 | none=>rw [ht] at hk;simp at hk
 | some T =>
  rw [ht] at hk
  cases cK:bV s x with
  | ptr p =>
   rw [cK] at hk hx
   simp only at hk
   cases hc:iX T (bV s y) with
   | none =>
    rw [hc] at hk
    simp only at hk
    cases gA:bV s y <;> rw [gA] at hk <;> try (simp at hk;done)
    rename_i u
    cases bZ:s.o p.id <;> rw [bZ] at hk <;> try (simp at hk;done)
    rename_i ver old
    cases e6:p.e_ with
    | some i=>rw [e6] at hk;simp at hk
    | none =>
     rw [e6] at hk
     simp only at hk
     cases hb:(ad.beq u T&&Nat.beq p.off 0&&Nat.ble T.size old.length)
     ·rw [hb] at hk;simp at hk
     rw [hb] at hk
     simp only [cond_true] at hk
     simp only [Bool.and_eq_true] at hb
     obtain ⟨⟨hb1,hb2⟩,hb3⟩:=hb
     have:=ad.eq_of_beq _ _ hb1
     subst this
     have hb2:=Nat.eq_of_beq_eq_true hb2
     have hb3:=Nat.le_of_ble_eq_true hb3
     rw [gA] at aN
     simp only [aP] at hx aN
     obtain ⟨_,A,he,au⟩:=hx
     obtain ⟨tz,hw1⟩:=aN
     have b9:(s.o p.id).live:=by rw [bZ];trivial
     have cZ:=h.fT p.id
     rw [bZ] at cZ
     obtain ⟨a0,us,dJ,hsp,hcu,ck,hwr⟩:=cZ
     obtain ⟨hs,au⟩:=au
     rw [bZ] at au
     obtain ⟨_,a1,Pb,hA⟩:=au
     rw [dJ] at Pb
     obtain rfl:=aU Pb
     rw [hb2] at hA
     subst hA
     have hx2:Ext w (setCells w a0.block (a0.off+0) (a.eval y).cells.toList) (ι p.id).F:=n6 _ _ _ _ fun i hi=>by
      have:=(hwr i (by rw [tz] at hi;omega)).2;simpa using this
     refine⟨_,hk,wp_skip (w':=setCells w a0.block (a0.off+0) (a.eval y).cells.toList) ?_ (h.YE b9 hx2) ag⟩
     unfold execOp;rw [ho]
     have:=HQ (P:=P) (w:=w) (bX.ty t _ ht) (b:=a0.block) (o:=a0.off+0) (v:=a.eval y) (by rw [← Array.length_toList,tz]) hw1 (fun j hj=>by
      have:=(hwr j (by rw [← Array.length_toList,tz] at hj;omega)).1;simpa using this)
     simp only [Instr.storeAt,Instr.sureAddr,he,run_bind,run_pure,this]
   | some cs =>
    rw [hc] at hk
    simp only at hk
    cases hb:Nat.beq cs.length T.size
    ·rw [hb] at hk;simp at hk
    rw [hb] at hk
    simp only [cond_true] at hk
    cases mo:Bf s p cs with
    | none=>rw [mo] at hk;simp at hk
    | some s1 =>
     rw [mo] at hk
     have hb:=Nat.eq_of_beq_eq_true hb
     have pr:=rN hc aN
     simp only [aP] at hx
     obtain ⟨_,A,he,au⟩:=hx
     obtain ⟨b,i,rfl,hw,bb,Z',hi⟩:=Yu h mo au pr
     have hl:=pr.len
     refine⟨_,hk,wp_skip (w':=setCells w b i (a.eval y).cells.toList) ?_ hi ag⟩
     unfold execOp;rw [ho]
     have:=HQ (P:=P) (w:=w) (bX.ty t T ht) (b:=b) (o:=i) (v:=a.eval y) (by simp at hl;omega) pr.ee (fun j hj=>hw j (by simpa using hj))
     simp only [Instr.storeAt,Instr.sureAddr,he,run_bind,run_pure,this]
  | _=>rw [cK] at hk;simp at hk
end
end Go.LM
namespace Go.LM
section
variable{P:Program}{Q:Exit→Act→World→Prop}
variable{w0:World}{F0 Z0:ah}{n:cC}{s ar:aq}{a b7:Act}{w w':World}{ι bb:Nat→bH}{Z Z':ah}
variable{E:Env}{o:Oper}{bu : Type}{K:aq→Option bu}{r : bu}{id:Nat}
theorem yp{m:Nat}{i:Int}{k:Nat}(h:aO m i=some k):0≤i∧i<(m:Int)∧k=i.toNat∧k<m:=by
 unfold aO at h
 split at h
 ·rename_i hc
  have:=aU h
  exact⟨hc.1,hc.2,this.symm,by omega⟩
 ·simp at h
theorem YG{m:Nat}{lo hi:Int}{q:Nat×Nat}(h:du m lo hi=some q):0≤lo∧lo≤hi∧hi≤(m:Int)∧q=(lo.toNat,hi.toNat):=by
 unfold du at h
 split at h
 ·rename_i hc
  exact⟨hc.1,hc.2.1,hc.2.2,(aU h).symm⟩
 ·simp at h
theorem rP{x:a7}{i:Int}{v:Value}(h:kx x=some i)(hv:aP w Z s ι x v):∃k,v=.int k i:=by
 cases x with
 | aT c =>
  cases c <;> simp [kx] at h
  subst h
  simp only [aP,cj] at hv
  exact⟨_,hv⟩
 | _=>simp [kx] at h
theorem Pc{x:Operand}(h:Inv w0 F0 Z0 n s a w ι Z)(ag:∀k,o.dst=some k→k<n)(ho:o.op=.nilCheck x)(hk:cT E id o s K=some r) :
  ∃ar,K ar=some r∧Pure P o a w (cX w0 F0 Z0 n ar):=by
 unfold cT at hk
 rw [ho] at hk
 simp only at hk
 have hx:=e5 h x
 cases cK:bV s x with
 | ptr p =>
  rw [cK] at hk hx
  refine⟨_,hk,dB (v:=a.eval x) (fun w'=>?_) h hx ag⟩
  simp only [aP] at hx
  obtain ⟨_,A,he,_⟩:=hx
  unfold execOp;rw [ho];simp only [he];rfl
 | di dp cs off =>
  rw [cK] at hk hx
  refine⟨_,hk,dB (v:=a.eval x) (fun w'=>?_) h hx ag⟩
  simp only [aP] at hx
  obtain ⟨_,b,i,vs,he,_⟩:=hx
  unfold execOp;rw [ho];simp only [he];rfl
 | may b dp cs =>
  rw [cK] at hk hx
  cases b
  ·cases hk
  refine⟨_,hk,dB (v:=a.eval x) (fun w'=>?_) h ?_ ag⟩
  ·simp only [aP] at hx
   rcases hx with⟨hx,_⟩ | ⟨_,_,b,i,vs,he,_⟩
   ·cases hx
   unfold execOp;rw [ho];simp only [he];rfl
  ·simp only [aP] at hx ⊢
   rcases hx with⟨hx,_⟩ | ⟨_,hx⟩
   ·cases hx
   ·exact hx
 | fn f l m =>
  rw [cK] at hk hx
  refine⟨_,hk,dB (v:=a.eval x) (fun w'=>?_) h hx ag⟩
  simp only [aP] at hx
  obtain ⟨us,vs,he,_⟩:=hx
  unfold execOp;rw [ho];simp only [he];rfl
 | opt i q =>
  rw [cK] at hk hx
  simp only at hk
  obtain ⟨k,h1,hk⟩:=bf hk
  obtain ⟨h2,h3,rfl,h4⟩:=yp h1
  simp only [aP] at hx
  obtain ⟨j6,hx⟩:=hx
  rcases hx with⟨hx,_⟩ | ⟨_,A,he,au⟩
  ·omega
  refine⟨_,hk,dB (v:=a.eval x) (fun w'=>?_) h ?_ ag⟩
  ·unfold execOp;rw [ho];simp only [he];rfl
  ·simp only [aP];exact⟨j6,A,he,au⟩
 | _=>rw [cK] at hk;simp at hk
theorem ax.Br{P:Program} : ∀ {aj:ax} {cp:List Field} {base i k:Nat} {u:ad},aj.okF P cp base→aj.off i=some (k,u) →
  ∃f,cp[i]?=some f∧f.offset=base+k∧u.ok P f.type
 | .nil,_,_,_,_,_,_,h=>by simp [ax.off] at h
 | .cons t aj,cp,base,0,k,u,ho,h=>by
  simp only [ax.okF] at ho
  obtain ⟨f,lI,rfl,h1,h2,h3⟩:=ho
  simp only [ax.off,Option.some.injEq,Prod.mk.injEq] at h
  obtain ⟨rfl,rfl⟩:=h
  exact⟨f,rfl,by simpa using h1,h2⟩
 | .cons t aj,cp,base,i+1,k,u,ho,h=>by
  simp only [ax.okF] at ho
  obtain ⟨f,lI,rfl,h1,h2,h3⟩:=ho
  simp only [ax.off] at h
  obtain ⟨q,h4,a8⟩:=bf h
  simp only [Option.some.injEq,Prod.mk.injEq] at a8
  obtain ⟨rfl,rfl⟩:=a8
  obtain ⟨nd,k1,k2,k3⟩:=ax.Br h3 h4
  exact⟨nd,by simpa using k1,by omega,k3⟩
theorem HT{aj:ax}{id:TypeId}(h:(ad.st aj).ok P id):∃cp,P.underlying id=some (.struct cp)∧aj.okF P cp.toList 0:=by
 simp only [ad.ok] at h;exact h.2
theorem lK{t:ad}{id:TypeId}(h:(ad.sl t).ok P id):∃e,P.underlying id=some (.slice e)∧t.ok P e:=by
 simp only [ad.ok] at h;exact h.2
theorem Pd{f:Field}{u:ad}{b i:Nat}(hu:u.ok P f.type)(hz:u.size≠0):(fieldPlace (at_ b i) f).run P w=.ok (at_ b (i+f.offset)) w:=by
 unfold fieldPlace
 rw [run_bind,run_sizeOf hu]
 simp only
 rw [if_neg hz,run_pure,ql]
theorem Pe{t:Nat}{x:Operand}{i:Nat}(bX:g' P E)(h:Inv w0 F0 Z0 n s a w ι Z)(ag:∀k,o.dst=some k→k<n)(ho:o.op=.fieldAddr t x i)(hk:cT E id o s K=some r) :
  ∃ar,K ar=some r∧Pure P o a w (cX w0 F0 Z0 n ar):=by
 unfold cT at hk
 rw [ho] at hk
 simp only at hk
 have hx:=e5 h x
 cases ht:E.ty t with
 | none=>rw [ht] at hk;simp at hk
 | some T =>
  rw [ht] at hk
  cases T with
  | st aj =>
   obtain ⟨cp,hu,kZ⟩:=HT (bX.ty t _ ht)
   have hrun:∀ {k:Nat} {u:ad} {b j:Nat},aj.off i=some (k,u)→u.size≠0→a.eval x=.pointer (some (at_ b j))→∀ {w':World},
     (execOp a.eval o).run P w'=.ok (.value (.pointer (some (at_ b (j+k))))) w':=by
    intro k u b j fA hz he w'
    obtain ⟨f,h1,h2,h3⟩:=ax.Br kZ fA
    rw [Array.getElem?_toList] at h1
    unfold execOp;rw [ho]
    refine fX ?_
    simp only [Instr.fieldAt,run_bind,run_underlying hu,h1,Instr.sureAddr,he,run_pure,Pd h3 hz,h2,Nat.zero_add]
   cases cK:bV s x with
   | ptr p =>
    rw [cK] at hk hx
    simp only at hk
    cases fA:aj.off i with
    | none=>rw [fA] at hk;simp at hk
    | some q =>
     obtain ⟨k,u⟩:=q
     rw [fA] at hk
     simp only at hk
     cases oe:Nat.beq u.size 0
     case true=>rw [oe] at hk;simp at hk
     rw [oe] at hk
     simp only [aP] at hx
     obtain ⟨j6,A,he,au⟩:=hx
     obtain ⟨b,j,sp⟩:=A
     obtain ⟨hsp,au⟩:=au
     simp only at hsp
     subst hsp
     refine⟨_,hk,dB (fun w'=>hrun fA (fun e=>by rw [e] at oe;simp at oe) he) h ?_ ag⟩
     simp only [aP]
     refine⟨j6,_,rfl,rfl,?_⟩
     cases bZ:(s.o p.id).core with
     | var ver cs =>
      rw [bZ] at au
      obtain ⟨h1,a0,h2,h3⟩:=au
      simp only [at_,Addr.mk.injEq] at h3
      exact⟨h1,a0,h2,by simp [at_,h3.1,h3.2.1];omega⟩
     | row dn em ver xs =>
      rw [bZ] at au
      obtain ⟨q,h1,h2,a0,h3,h4⟩:=au
      simp only [at_,Addr.mk.injEq] at h4
      exact⟨q,h1,h2,a0,h3,by simp [at_,h4.1,h4.2.1];omega⟩
     | _=>trivial
   | di dp cs off =>
    rw [cK] at hk hx
    simp only at hk
    cases fA:aj.off i with
    | none=>rw [fA] at hk;simp at hk
    | some q =>
     obtain ⟨k,u⟩:=q
     rw [fA] at hk
     simp only at hk
     cases oe:Nat.beq u.size 0
     case true=>rw [oe] at hk;simp at hk
     rw [oe] at hk
     simp only [aP] at hx
     obtain ⟨nh,b,j,vs,he,hx⟩:=hx
     refine⟨_,hk,dB (fun w'=>hrun fA (fun e=>by rw [e] at oe;simp at oe) he) h ?_ ag⟩
     simp only [aP]
     exact⟨nh,b,j,vs,by rw [Nat.add_assoc],hx⟩
   | _=>rw [cK] at hk;simp at hk
  | _=>simp at hk
theorem HU{u:ad}{id:TypeId}{cs:List Value}{k:Nat}(hu:u.ok P id)(hk:k+u.size≤cs.length):(Go.part id cs.toArray k).run P w=.ok (dK u ((cs.drop k).take u.size)) w:=by
 unfold Go.part
 rw [run_bind,O9 hu]
 simp only
 cases ha:u.agg
 ·have h1:=HL ha
  simp only [Bool.false_eq_true,if_false]
  rw [h1] at hk ⊢
  have cw:k<cs.length:=by omega
  have:(cs.drop k).take 1=[cs[k]]:=by
   rw [List.drop_eq_getElem_cons cw,List.take_succ_cons,List.take_zero]
  rw [this,HN ha]
  simp [cw,run_pure]
 ·simp only [if_true]
  rw [run_bind,run_sizeOf hu,HM ha]
  simp only [run_pure]
  congr 2
  apply Array.ext'
  simp [List.take_drop,Nat.add_comm]
theorem Pf{t:Nat}{x:Operand}{i:Nat}(bX:g' P E)(h:Inv w0 F0 Z0 n s a w ι Z)(ag:∀k,o.dst=some k→k<n)(ho:o.op=.field t x i)(hk:cT E id o s K=some r) :
  ∃ar,K ar=some r∧Pure P o a w (cX w0 F0 Z0 n ar):=by
 unfold cT at hk
 rw [ho] at hk
 simp only at hk
 have hx:=e5 h x
 cases ht:E.ty t with
 | none=>rw [ht] at hk;simp at hk
 | some T =>
  rw [ht] at hk
  cases T with
  | st aj =>
   obtain ⟨cp,hu,kZ⟩:=HT (bX.ty t _ ht)
   cases cK:bV s x with
   | iC cs =>
    rw [cK] at hk hx
    simp only at hk
    cases fA:aj.off i with
    | none=>rw [fA] at hk;simp at hk
    | some q =>
     obtain ⟨k,u⟩:=q
     rw [fA] at hk
     simp only at hk
     cases hw:(takeN k u.size cs).bind (j2 u) with
     | none=>rw [hw] at hk;simp at hk
     | some v =>
      rw [hw] at hk
      obtain ⟨ds,h1,h2⟩:=bf hw
      obtain ⟨h3,rfl⟩:=pj h1
      simp only [aP] at hx
      obtain ⟨vs,he,hc⟩:=hx
      obtain ⟨f,f1,f2,f3⟩:=ax.Br kZ fA
      rw [Array.getElem?_toList] at f1
      have hl:=hc.len
      refine⟨_,hk,dB (fun w'=>?_) h (pq h2 ((hc.drop k).take u.size)) ag⟩
      unfold execOp;rw [ho]
      refine fX ?_
      simp only [Instr.field,run_bind,run_underlying hu,f1,he,asAgg,run_pure]
      have:=HU (P:=P) (w:=w') f3 (cs:=vs) (k:=k) (by omega)
      rw [f2,Nat.zero_add]
      exact this
   | _=>rw [cK] at hk;simp at hk
  | _=>simp at hk
theorem Pg{x:Operand}{i:Nat}(h:Inv w0 F0 Z0 n s a w ι Z)(ag:∀k,o.dst=some k→k<n)(ho:o.op=.extract x i)(hk:cT E id o s K=some r) :
  ∃ar,K ar=some r∧Pure P o a w (cX w0 F0 Z0 n ar):=by
 unfold cT at hk
 rw [ho] at hk
 simp only at hk
 have hx:=e5 h x
 cases cK:bV s x with
 | pb l =>
  rw [cK] at hk hx
  simp only at hk
  cases hi:l[i]? with
  | none=>rw [hi] at hk;simp at hk
  | some v =>
   rw [hi] at hk
   simp only [aP] at hx
   obtain ⟨vs,he,hl⟩:=hx
   have:∀(l:List a7) (vs:List Value) (i:Nat),aX w Z s ι l vs→l[i]?=some v→∃u,vs[i]?=some u∧aP w Z s ι v u:=by
    intro l
    induction l with
    | nil=>intro vs i _ hi;simp at hi
    | cons y l ih =>
     intro vs i hl hi
     simp only [aX] at hl
     obtain ⟨u,us,rfl,h1,h2⟩:=hl
     cases i with
     | zero=>simp at hi;subst hi;exact⟨u,rfl,h1⟩
     | succ i=>exact ih us i h2 (by simpa using hi)
   obtain ⟨u,h1,h2⟩:=this l vs i hl hi
   refine⟨_,hk,dB (v:=u) (fun w'=>?_) h h2 ag⟩
   unfold execOp;rw [ho]
   refine fX ?_
   simp only [Instr.extract,he]
   simp [h1,run_pure]
 | _=>rw [cK] at hk;simp at hk
theorem HV(h:Inv w0 F0 Z0 n s a w ι Z):∀(l:List Operand),aX w Z s ι (l.map (bV s)) (l.map a.eval)
 | []=>by simp only [List.map_nil,aX]
 | x :: l=>by simp only [List.map_cons,aX];exact⟨_,_,rfl,e5 h x,HV h l⟩
theorem Ph{f:FuncId}{first ly:Array Operand}(h:Inv w0 F0 Z0 n s a w ι Z)(ag:∀k,o.dst=some k→k<n)(ho:o.op=.makeFunc (.func f) first ly)(hk:cT E id o s K=some r) :
  ∃ar,K ar=some r∧Pure P o a w (cX w0 F0 Z0 n ar):=by
 unfold cT at hk
 rw [ho] at hk
 simp only at hk
 refine⟨_,hk,dB (v:=.func (.func f) (first.map a.eval) (ly.map a.eval)) (fun w'=>?_) h ?_ ag⟩
 ·unfold execOp;rw [ho];rfl
 ·simp only [aP]
  refine⟨first.toList.map a.eval,ly.toList.map a.eval,?_,HV h _,HV h _⟩
  congr 1 <;>(apply Array.ext';simp)
end
end Go.LM
namespace Go.LM
section
variable{P:Program}{Q:Exit→Act→World→Prop}
variable{w0:World}{F0 Z0:ah}{n:cC}{s ar:aq}{a b7:Act}{w w':World}{ι bb:Nat→bH}{Z Z':ah}
variable{E:Env}{o:Oper}{bu : Type}{K:aq→Option bu}{r : bu}{id:Nat}
theorem HW{k:IntKind}{i:Int} :(asIntOf (.int k i)).run P w=.ok (k,i) w:=rfl
theorem HX{t:TypeId}{u:ad}{e:TypeId}{A:Addr}{b o len c:Nat}{k:IntKind}{i:Int}(hu:P.underlying t=some (.slice e))(he:u.ok P e)
  (h0:0≤i) (h1:i<(len:Int)):(Instr.indexAt t (.slice (some (at_ b o)) len c) (.int k i)).run P w=.ok (.pointer (some (at_ b (o+i.toNat*u.size)))) w:=by
 unfold Instr.indexAt
 simp only [run_bind,HW,run_underlying hu,run_pure]
 rw [if_pos ⟨h0,h1⟩]
 simp only [run_bind,run_sizeOf he,run_pure,ql]
theorem beq_eq{u v:ad}(h:ad.beq u v=true):u=v:=ad.eq_of_beq _ _ h
theorem Pj{t:Nat}{x i:Operand}(bX:g' P E)(h:Inv w0 F0 Z0 n s a w ι Z)(ag:∀k,o.dst=some k→k<n)(ho:o.op=.indexAddr t x i)(hk:cT E id o s K=some r) :
  ∃ar,K ar=some r∧Pure P o a w (cX w0 F0 Z0 n ar):=by
 unfold cT at hk
 rw [ho] at hk
 simp only at hk
 have hx:=e5 h x
 have hi:=e5 h i
 cases ht:E.ty t with
 | none=>rw [ht] at hk;simp at hk
 | some T =>
  cases T with
  | sl u =>
   obtain ⟨e,hu,iu⟩:=lK (bX.ty t _ ht)
   rw [ht] at hk
   cases tA:kx (bV s i) with
   | none=>rw [tA] at hk;cases bV s x <;> simp at hk
   | some q =>
    rw [tA] at hk
    obtain ⟨dh,we⟩:=rP tA hi
    cases cK:bV s x with
    | aT c =>
     rw [cK] at hk hx
     simp only [aP] at hx
     cases c with
     | ag j sub =>
      simp only at hk
      obtain ⟨j6,A,m,c,hT,hh⟩:=hx
      cases bZ:s.o j with
      | row v em ver xs =>
       rw [bZ] at hk
       simp only at hk
       cases hb:ad.beq u v
       ·rw [hb] at hk;simp at hk
       rw [hb] at hk
       obtain rfl:=beq_eq hb
       obtain ⟨k,h1,hk⟩:=bf hk
       obtain ⟨h2,h3,rfl,h4⟩:=yp h1
       obtain ⟨g1,g2,g3,g4,g5⟩:=hh _ _ _ _ (lD bZ)
       have hm:lz sub xs=m:=by
        cases sub with
        | none=>simp [lz,g1]
        | some p=>obtain ⟨lo,l⟩:=p;simp [lz,g1]
       rw [hm] at h3 h4
       rcases g5 with g5 | ⟨a0,gn,rfl⟩
       ·omega
       refine⟨_,hk,dB (v:=.pointer (some (at_ a0.block (a0.off+eh sub*u.size+q.toNat*u.size)))) (fun w'=>?_) h ?_ ag⟩
       ·unfold execOp;rw [ho]
        refine fX ?_
        simp only [hT,we]
        exact HX (A:=a0) hu iu h2 h3
       ·simp only [aP]
        refine⟨j6,_,rfl,rfl,?_⟩
        simp only
        rw [bZ]
        exact⟨_,rfl,by omega,a0,gn,by simp [at_,Nat.add_mul];omega⟩
      | _=>rw [bZ] at hk;simp at hk
     | b1 v dp ct xs =>
      simp only at hk
      cases hb:(alive s dp&&ad.beq u v)
      ·rw [hb] at hk;simp at hk
      rw [hb] at hk
      simp only [Bool.and_eq_true] at hb
      obtain ⟨dX,hb⟩:=hb
      obtain rfl:=beq_eq hb
      obtain ⟨k,h1,hk⟩:=bf hk
      obtain ⟨h2,h3,rfl,h4⟩:=yp h1
      obtain ⟨nh,⟨A,m,c,hT⟩,cM,_⟩:=hx
      have hr:=cM dX
      simp only [ad.al] at hr
      obtain ⟨pt,c',hv,hr⟩:=hr
      rw [hT] at hv
      simp only [List.cons.injEq,Value.slice.injEq,and_true] at hv
      obtain ⟨rfl,rfl,rfl⟩:=hv
      rcases hr with hr | ⟨a0,rfl,hsp,hrow,hz,yq⟩
      ·rw [hr] at h4;simp at h4
      obtain ⟨vs,G,k1,k2,k3,bg⟩:=hrow.get q.toNat h4
      obtain ⟨cO,dP,sp⟩:=a0
      simp only at hsp
      subst hsp
      refine⟨_,hk,dB (v:=.pointer (some (at_ cO (dP+q.toNat*u.size)))) (fun w'=>?_) h ?_ ag⟩
      ·unfold execOp;rw [ho]
       refine fX ?_
       simp only [hT,we]
       exact HX (A:=at_ cO dP) hu iu h2 h3
      ·simp only [aP]
       refine⟨nh,cO,dP+q.toNat*u.size,vs,rfl,fun _=>⟨?_,k3,fun j hj=>?_⟩⟩
       ·rw [c8 h4]
        exact ad.qo u dp none nh (fun _=>k1) ⟨_,_,_,k1⟩ .none
       ·have hcl:(u.cells dp none (J u xs q.toNat)).length=u.size:=by
         rw [c8 h4,← k2]
         exact((ad.qo (s:=s) (w:=w) (Z:=Z) (ι := ι) u dp none nh (fun _=>k1) ⟨_,_,_,k1⟩ .none).len).symm
        rw [hcl] at hj
        have:=hz (q.toNat*u.size+j) (by
         have:(q.toNat+1)*u.size≤xs.length*u.size:=Nat.mul_le_mul_right _ h4
         rw [Nat.add_one_mul] at this;omega)
        rwa [← Nat.add_assoc] at this
     | _=>simp at hk
    | _=>rw [cK] at hk;simp at hk
  | _=>rw [ht] at hk;simp at hk
theorem Pk{t:Nat}{x i:Operand}(bX:g' P E)(h:Inv w0 F0 Z0 n s a w ι Z)(ag:∀k,o.dst=some k→k<n)(ho:o.op=.index t x i)(hk:cT E id o s K=some r) :
  ∃ar,K ar=some r∧Pure P o a w (cX w0 F0 Z0 n ar):=by
 unfold cT at hk
 rw [ho] at hk
 simp only at hk
 have hx:=e5 h x
 have hi:=e5 h i
 cases ht:E.ty t with
 | none=>rw [ht] at hk;simp at hk
 | some T =>
  cases T with
  | str =>
   have hu:P.underlying t=some .string:=by have:=bX.ty t _ ht;simp only [ad.ok] at this;exact this.1
   rw [ht] at hk
   cases tA:kx (bV s i) with
   | none=>rw [tA] at hk;cases cK:bV s x with
    | aT c=>rw [cK] at hk;cases c <;> simp at hk
    | _=>rw [cK] at hk;simp at hk
   | some q =>
    rw [tA] at hk
    obtain ⟨dh,we⟩:=rP tA hi
    cases cK:bV s x with
    | aT c =>
     rw [cK] at hk hx
     simp only [aP] at hx
     cases c with
     | str b =>
      simp only at hk
      obtain ⟨k,h1,hk⟩:=bf hk
      obtain ⟨h2,h3,rfl,h4⟩:=yp h1
      obtain ⟨bn,hT,rfl⟩:=hx
      refine⟨_,hk,dB (v:=.int .u8 ((bn.data.toList.getD q.toNat 0).toNat:Int)) (fun w'=>?_) h (by simp only [aP,cj]) ag⟩
      unfold execOp;rw [ho]
      refine fX ?_
      have hsz:q.toNat<bn.size:=by simpa using h4
      simp only [Instr.index,hT,we,run_bind,HW,run_underlying hu,if_pos h2]
      have aA:bn[q.toNat]?=some bn[q.toNat]:=by simp [hsz]
      rw [aA]
      simp only [run_pure]
      congr 3
      have:bn.data.toList.getD q.toNat 0=bn[q.toNat]:=by
       simp [List.getD_eq_getElem?_getD,hsz]
       rfl
      rw [this]
     | _=>simp at hk
    | _=>rw [cK] at hk;simp at hk
  | _=>rw [ht] at hk;simp at hk
end
end Go.LM
namespace Go.LM
section
variable{P:Program}{Q:Exit→Act→World→Prop}
variable{w0:World}{F0 Z0:ah}{n:cC}{s ar:aq}{a b7:Act}{w w':World}{ι bb:Nat→bH}{Z Z':ah}
variable{E:Env}{o:Oper}{bu : Type}{K:aq→Option bu}{r : bu}{id:Nat}
theorem run_sliceBound{k:IntKind}{i:Int}{y:Nat}{code:BoundsCode}(h0:0≤i)(h1:i≤(y:Int)):(Instr.sliceBound (.int k i) y code).run P w=.ok i.toNat w:=by
 unfold Instr.sliceBound
 simp only [run_bind,HW]
 rw [if_pos ⟨h0,h1⟩];rfl
theorem HY(h:Inv w0 F0 Z0 n s a w ι Z){x:Option Operand}{d i:Int}(hb:bound s x d=some i) :
  (x=none∧i=d)∨∃y k,x=some y∧a.eval y=.int k i:=by
 cases x with
 | none=>simp [bound] at hb;exact .inl ⟨rfl,hb.symm⟩
 | some y =>
  obtain ⟨k,hk⟩:=rP (x:=bV s y) hb (e5 h y)
  exact .inr ⟨y,k,rfl,hk⟩
theorem Pl(h:Inv w0 F0 Z0 n s a w ι Z){YH:Bool}{len cap:Nat}{lo hi:Option Operand}{l q:Int}(hl:bound s lo 0=some l)(hq:bound s hi len=some q)
  (h0:0≤l) (h1:l≤q) (h2:q≤(len:Int)) (hc:len≤cap) :
  (Instr.sliceBounds YH len cap (lo.map a.eval) (hi.map a.eval) none).run P w'=.ok (l.toNat,q.toNat,cap) w':=by
 unfold Instr.sliceBounds
 rcases HY h hl with⟨rfl,rfl⟩ | ⟨y,k,rfl,aN⟩ <;> rcases HY h hq with⟨rfl,rfl⟩ | ⟨mg,k',rfl,Bs⟩
 ·simp only [Option.map_none,run_bind,run_pure,Int.toNat_natCast];rfl
 ·simp only [Option.map_none,Option.map_some,run_bind,run_pure,Bs]
  rw [run_sliceBound (by omega) (by omega)];rfl
 ·simp only [Option.map_none,Option.map_some,run_bind,run_pure,aN,Int.toNat_natCast]
  simp only [Option.isSome_none,Bool.false_eq_true,if_false]
  rw [run_sliceBound h0 (by omega)]
 ·simp only [Option.map_some,run_bind,run_pure,aN,Bs]
  rw [run_sliceBound (by omega) (by omega)]
  simp only [Option.isSome_none,Bool.false_eq_true,if_false]
  rw [run_sliceBound h0 (by omega)]
theorem YI(h:Inv w0 F0 Z0 n s a w ι Z){len cap:Nat}{lo:Option Operand}{y m:Operand}{l q:Int}{k k':IntKind}(hl:bound s lo 0=some l)(aN:a.eval y=.int k q)(hm:a.eval m=.int k' q)
  (h0:0≤l) (h1:l≤q) (h2:q≤(cap:Int)) :
  (Instr.sliceBounds true len cap (lo.map a.eval) (some (a.eval y)) (some (a.eval m))).run P w'=.ok (l.toNat,q.toNat,q.toNat) w':=by
 unfold Instr.sliceBounds
 rcases HY h hl with⟨rfl,rfl⟩ | ⟨z,ak7,rfl,hz⟩
 ·simp only [Option.map_none,run_bind,run_pure,aN,hm,if_true]
  rw [run_sliceBound (by omega) h2]
  simp only
  rw [run_sliceBound (by omega) (by omega)]
  rfl
 ·simp only [Option.map_some,run_bind,run_pure,aN,hm,hz,if_true]
  rw [run_sliceBound (by omega) h2]
  simp only
  rw [run_sliceBound (by omega) (by omega)]
  simp only [Option.isSome_some,if_true]
  rw [run_sliceBound h0 (by omega)]
theorem extract_toList(b:ByteArray)(l h:Nat):(b.extract l h).data.toList=part b.data.toList l (h-l):=by
 unfold part
 rw [ByteArray.data_extract,Array.toList_extract,List.extract_eq_take_drop]
theorem Pm{T:ad}{c c':a_}{A:Option Addr}{m k:Nat}{l q:Nat}{gY:Nat}{u:ad}(bX:T=.sl u)(hf:kV s T c=true)(hlen:n8 s c=some m)
  (iv:vT c l (q-l)=some c') (hc:cj w Z s ι c (.slice A m k)) (h1:l≤q) (h2:q≤m) (h3:q≤gY) (h4:gY≤k) :
  cj w Z s ι c' (.slice (if gY=l then A else A.map (·.add (l*u.size))) (q-l) (gY-l)):=by
 subst bX
 cases c with
 | nil v =>
  obtain rfl:=aU iv
  have hv:Value.slice A m k=.slice none 0 0:=hc
  simp only [Value.slice.injEq] at hv
  obtain ⟨rfl,rfl,rfl⟩:=hv
  have:l=0:=by omega
  have:gY=0:=by omega
  have:q=0:=by omega
  subst_vars
  exact rfl
 | b1 v dp ct xs =>
  obtain rfl:=aU iv
  simp only [kV] at hf
  have HZ:=beq_eq hf
  injection HZ with HZ
  subst HZ
  obtain ⟨ag,_,hr,_⟩:=hc
  refine⟨ag,⟨_,_,_,rfl⟩,fun ha=>?_,.none⟩
  have:=hr ha
  simp only [ad.al] at this ⊢
  obtain ⟨pt,Pn,hv,hx⟩:=this
  simp only [List.cons.injEq,Value.slice.injEq,and_true] at hv
  obtain ⟨rfl,rfl,rfl⟩:=hv
  have fH:(part xs l (q-l)).length=q-l:=by simp only [part,List.length_take,List.length_drop];omega
  refine⟨_,_,by rw [fH],?_⟩
  by_cases YJ:q-l=0
  ·left;exact List.eq_nil_of_length_eq_zero (by rw [fH,YJ])
  ·right
   rcases hx with rfl | ⟨a0,rfl,hsp,hrow,hz,yq⟩
   ·simp at h2;omega
   obtain ⟨cO,dP,sp⟩:=a0
   simp only at hsp
   subst hsp
   refine⟨at_ cO (dP+l*u.size),?_,rfl,(hrow.drop l).take _,fun j hj=>?_,by rw [fH];omega⟩
   ·rw [if_neg (by omega)]
    exact congrArg some (ql _ _ _)
   ·rw [fH] at hj
    have:=hz (l*u.size+j) (by
     have a8:(l +(q-l))*u.size≤xs.length*u.size:=Nat.mul_le_mul_right _ (by omega)
     rw [Nat.add_mul] at a8;omega)
    rwa [← Nat.add_assoc] at this
 | ag j sub =>
  obtain rfl:=aU iv
  obtain ⟨j6,pt,m',k',hv,hh⟩:=hc
  simp only [Value.slice.injEq] at hv
  obtain ⟨rfl,rfl,rfl⟩:=hv
  refine⟨j6,_,_,_,rfl,fun t em ver xs bZ=>?_⟩
  obtain ⟨g1,g2,g3,g4,g5⟩:=hh t em ver xs bZ
  have ht:t=u:=by
   simp only [kV] at hf
   cases vY:s.o j with
   | row =>
    rw [vY] at hf bZ
    simp only [cn.core,cn.row.injEq] at bZ
    obtain ⟨rfl,_⟩:=bZ
    have:=beq_eq hf
    injection this with this
    exact this.symm
   | _=>rw [vY] at hf;simp at hf
  subst ht
  have e1:eh (some (eh sub+l,q-l))=eh sub+l:=rfl
  refine⟨rfl,by rw [e1];omega,by omega,by rw [e1];omega,?_⟩
  by_cases YK:gY=l
  ·left;omega
  ·right
   rcases g5 with g5 | ⟨a0,hb,rfl⟩
   ·omega
   ·refine⟨a0,hb,?_⟩
    rw [if_neg YK]
    simp only [Option.map_some,ql,e1,Nat.add_mul,Nat.add_assoc]
 | _=>simp [vT] at iv <;>(simp [kV] at hf <;> simp [ad.beq] at hf)
theorem H0{T:ad}{c:a_}{v:Value}{m:Nat}{u:ad}(bX:T=.sl u)(hf:kV s T c=true)(hlen:n8 s c=some m)(hc:cj w Z s ι c v) :
  ∃A k,v=.slice A m k∧m≤k:=by
 subst bX
 cases c with
 | nil x=>simp only [n8,Option.some.injEq] at hlen;subst hlen;exact⟨none,0,hc,Nat.le_refl _⟩
 | b1 x dp ct xs =>
  simp only [n8] at hlen
  cases ha:alive s dp
  ·rw [ha] at hlen;simp at hlen
  rw [ha] at hlen
  simp only [cond_true,Option.some.injEq] at hlen
  subst hlen
  have:=hc.2.2.1 ha
  simp only [ad.al] at this
  obtain ⟨A,c,hv,hx⟩:=this
  simp only [List.cons.injEq,and_true] at hv
  refine⟨A,c,hv,?_⟩
  rcases hx with rfl | ⟨_,_,_,_,_,yq⟩
  ·simp
  ·exact yq
 | ag j sub =>
  simp only [n8] at hlen
  cases ho:s.o j with
  | row t em ver xs =>
   rw [ho] at hlen
   simp only [Option.some.injEq] at hlen
   obtain ⟨_,A,m',k,rfl,hh⟩:=hc
   obtain ⟨g1,g2,g3,g4,g5⟩:=hh _ _ _ _ (lD ho)
   have:m'=m:=by
    rw [← hlen,g1]
    cases sub with
    | none=>rfl
    | some p=>rfl
   subst this
   exact⟨A,k,rfl,g3⟩
  | _=>rw [ho] at hlen;simp at hlen
 | _=>simp [kV,ad.beq] at hf
theorem Po{t:Nat}{x:Operand}{lo hi gY:Option Operand}(bX:g' P E)(h:Inv w0 F0 Z0 n s a w ι Z)(ag:∀k,o.dst=some k→k<n)(ho:o.op=.slice t x lo hi gY)(hk:cT E id o s K=some r) :
  ∃ar,K ar=some r∧Pure P o a w (cX w0 F0 Z0 n ar):=by
 unfold cT at hk
 rw [ho] at hk
 simp only at hk
 have hx:=e5 h x
 cases ht:E.ty t with
 | none=>rw [ht] at hk;simp at hk
 | some T =>
  rw [ht] at hk
  simp only [OO] at hk
  cases cK:bV s x with
  | aT c =>
   rw [cK] at hk hx
   simp only at hk
   simp only [aP] at hx
   cases hf:kV s T c
   ·rw [hf] at hk;simp at hk
   rw [hf] at hk
   simp only [cond_true] at hk
   cases hlen:n8 s c with
   | none=>rw [hlen] at hk;simp at hk
   | some m =>
    rw [hlen] at hk
    simp only at hk
    cases hl:bound s lo 0 with
    | none=>rw [hl] at hk;simp at hk
    | some l =>
     cases hq:bound s hi (m:Int) with
     | none=>rw [hl,hq] at hk;simp at hk
     | some q =>
      rw [hl,hq] at hk
      simp only at hk
      have main:(du m l q).bind (fun r=>match vT c r.1 (r.2-r.1) with | some c'=>K (s.dst o.dst (.aT c')) | none=>none)=some r →
        ∃c',K (s.dst o.dst (.aT c'))=some r∧0≤l∧l≤q∧q≤(m:Int)∧vT c l.toNat (q.toNat-l.toNat)=some c':=by
       intro hk
       obtain ⟨p,h1,hk⟩:=bf hk
       obtain ⟨h2,h3,h4,rfl⟩:=YG h1
       cases iv:vT c l.toNat (q.toNat-l.toNat) with
       | none=>simp only [iv] at hk;simp at hk
       | some c'=>simp only [iv] at hk;exact⟨c',hk,h2,h3,h4,rfl⟩
      cases gY with
      | none =>
       obtain ⟨c',hk,h2,h3,h4,iv⟩:=main hk
       refine⟨_,hk,?_⟩
       by_cases wg:T=.str
       ·subst wg
        have hu:P.underlying t=some .string:=by have:=bX.ty t _ ht;simp only [ad.ok] at this;exact this.1
        cases c <;> simp only [kV,ad.beq] at hf <;> try (simp at hf;done)
        ·rename_i b
         obtain ⟨bn,hT,rfl⟩:=hx
         simp only [n8,Option.some.injEq] at hlen
         obtain rfl:=aU iv
         refine dB (v:=.string (bn.extract l.toNat q.toNat)) (fun w'=>?_) h ?_ ag
         ·unfold execOp;rw [ho]
          refine fX ?_
          have hsz:bn.size=m:=by rw [← hlen];simp
          simp only [Instr.sliceAt,Instr.slice,run_bind,run_underlying hu,hT,Option.map_none]
          simp only [Option.isSome_none,Bool.false_eq_true,if_false]
          rw [hsz,run_bind,Pl h hl hq h2 h3 h4 (Nat.le_refl _)]
          rfl
         ·simp only [aP]
          exact⟨_,rfl,extract_toList _ _ _⟩
        ·cases j7:s.o _ <;> rw [j7] at hf <;> simp [ad.beq] at hf
       ·cases T with
        | str=>exact absurd rfl wg
        | sl u =>
         obtain ⟨e,hu,iu⟩:=lK (bX.ty t _ ht)
         have hv:=H0 rfl hf hlen hx
         obtain ⟨A,k,hT,nj⟩:=hv
         rw [hT] at hx
         refine dB (fun w'=>?_) h (x:=.aT c') (v:=.slice (if k=l.toNat then A else A.map (·.add (l.toNat*u.size))) (q.toNat-l.toNat) (k-l.toNat)) ?_ ag
         ·unfold execOp;rw [ho]
          refine fX ?_
          simp only [Instr.sliceAt,Instr.slice,run_bind,run_underlying hu,hT,Option.map_none]
          rw [Pl h hl hq h2 h3 h4 nj]
          simp only [run_bind,run_sizeOf iu,run_pure]
         ·simp only [aP]
          exact Pm rfl hf hlen iv hx (by omega) (by omega) (by omega) (Nat.le_refl _)
        | _=>cases c <;> simp only [kV,ad.beq] at hf <;> first | (simp at hf;done) | (cases j7:s.o _ <;> rw [j7] at hf <;> simp [ad.beq] at hf)
      | some Pp =>
       simp only at hk
       cases wg:ad.beq T .str
       case true=>rw [wg] at hk;simp at hk
       rw [wg] at hk
       simp only [cond_false] at hk
       cases mq:kx (bV s Pp) with
       | none=>rw [mq] at hk;simp at hk
       | some YL =>
        rw [mq] at hk
        simp only at hk
        cases hi with
        | none=>simp at hk
        | some y =>
         simp only [Option.isSome_some,cond_true,jF] at hk
         cases yr:decide (q=YL)
         ·rw [yr] at hk;simp at hk
         rw [yr] at hk
         have yr:=of_decide_eq_true yr
         subst yr
         obtain ⟨c',hk,h2,h3,h4,iv⟩:=main hk
         obtain ⟨k1,aN⟩:=rP hq (e5 h y)
         obtain ⟨k2,wh⟩:=rP mq (e5 h Pp)
         refine⟨_,hk,?_⟩
         cases T with
         | str=>simp [ad.beq] at wg
         | sl u =>
          obtain ⟨e,hu,iu⟩:=lK (bX.ty t _ ht)
          obtain ⟨A,k,hT,nj⟩:=H0 rfl hf hlen hx
          rw [hT] at hx
          refine dB (fun w'=>?_) h (x:=.aT c') (v:=.slice (if q.toNat=l.toNat then A else A.map (·.add (l.toNat*u.size))) (q.toNat-l.toNat) (q.toNat-l.toNat)) ?_ ag
          ·unfold execOp;rw [ho]
           refine fX ?_
           simp only [Instr.sliceAt,Instr.slice,run_bind,run_underlying hu,hT,Option.map_some]
           rw [YI h hl aN wh h2 h3 (by omega)]
           simp only [run_bind,run_sizeOf iu,run_pure]
          ·simp only [aP]
           exact Pm rfl hf hlen iv hx (by omega) (by omega) (by omega) (by omega)
         | _=>cases c <;> simp only [kV,ad.beq] at hf <;> first | (simp at hf;done) | (cases j7:s.o _ <;> rw [j7] at hf <;> simp [ad.beq] at hf)
  | _=>rw [cK] at hk;simp at hk
end
end Go.LM
namespace Go.LM
section
variable{P:Program}{Q:Exit→Act→World→Prop}
variable{w0:World}{F0 Z0:ah}{n:cC}{s ar:aq}{a b7:Act}{w w':World}{ι bb:Nat→bH}{Z Z':ah}
variable{E:Env}{o:Oper}{bu : Type}{K:aq→Option bu}{r : bu}{id:Nat}
theorem Bt{k k':IntKind}(h:Nat.beq (dq k) (dq k')=true):k=k':=tk (Nat.eq_of_beq_eq_true h)
theorem rQ{α : Type}{b:Bool}{x:Option α}{y : α}(h:jF b x=some y):b=true∧x=some y:=by
 cases b
 ·simp [jF] at h
 ·exact⟨rfl,h⟩
theorem toList_data(z:ByteArray):z.toList=z.data.toList:=by
 unfold ByteArray.toList
 have key:∀(m i:Nat) (r:List UInt8),z.size-i=m→i≤z.size→ByteArray.toList.loop z i r=r.reverse++z.data.toList.drop i:=by
  intro m
  induction m with
  | zero =>
   intro i r h hi
   unfold ByteArray.toList.loop
   rw [if_neg (by omega),List.drop_of_length_le (by simp;show z.data.size≤i;have:z.data.size=z.size:=rfl;omega)]
   simp
  | succ m ih =>
   intro i r h hi
   unfold ByteArray.toList.loop
   rw [if_pos (by omega),ih (i+1) _ (by omega) (by omega)]
   have cw:i<z.data.toList.length:=by simp;show i<z.data.size;have:z.data.size=z.size:=rfl;omega
   rw [List.drop_eq_getElem_cons cw]
   have aA:z.get! i=z.data.toList[i]:=by
    simp [ByteArray.get!]
    have:i<z.data.size:=by simpa using cw
    exact getElem!_pos z.data i this
   rw [aA];simp
 have:=key z.size 0 [] rfl (by omega)
 simpa using this
theorem Pq(x y:ByteArray):(x.toList==y.toList)=bs x.data.toList y.data.toList:=by
 rw [toList_data,toList_data,Bool.eq_iff_iff]
 simp [bs]
theorem Pr{x:Option a7}{K:a7→Option bu}(h:lift x K=some r):∃v,x=some v∧K v=some r:=by
 cases x with
 | none=>simp [lift] at h
 | some v=>exact⟨v,rfl,h⟩
theorem YM{op:BinOp}{k:IntKind}{x y:Int}{v:a7}{ty yty:TypeId}{xo yo:Operand}(h:Bg op k x y=some v)(h1:op≠.shl)(h2:op≠.shr)(h3:op≠.quo)(h4:op≠.rem) :
  ∃u,(∀w:World,(binOp op ty (.int k x) (.int k y)).run P w=.ok u w)∧∀w Z s ι,aP w Z s ι v u:=by
 cases op <;> simp only [Bg] at h <;> first | (simp at h;done) | (obtain rfl:=aU h)
 all_goals
  refine⟨_,fun w=>by simp only [binOp];rw [if_neg (by simp)];rfl,fun w Z s ι => ?_⟩
  simp only [aP,cj]
  try rfl
theorem wi{op:BinOp}{ty:TypeId}{xo yo:Operand}{u v:Value}(h1:(∃k x,u=.int k x)∨(∃x,u=.string x)∨(∃x,u=.bool x)∨(∃x,u=.pointer x)) :
  (eqGuard op ty xo yo u v).run P w=.ok () w:=by
 unfold eqGuard
 rcases h1 with⟨k,x,rfl⟩ | ⟨x,rfl⟩ | ⟨x,rfl⟩ | ⟨x,rfl⟩ <;>(cases op <;> rfl)
theorem jv{op:BinOp}{ty yty:TypeId}{xo yo:Operand}{u:Value}(ho:o.op=.binOp op ty xo yo yty)(aA:(eqGuard op ty xo yo (a.eval xo) (a.eval yo)).run P w=.ok () w)
  (hr:(binOp op ty (a.eval xo) (a.eval yo)).run P w=.ok u w):(execOp a.eval o).run P w=.ok (.value u) w:=by
 unfold execOp;rw [ho]
 refine fX ?_
 rw [run_bind,aA]
 exact hr
theorem YN{op:BinOp}{x y:ByteArray}{v:a7}{ty:TypeId}(h:Bh op x.data.toList y.data.toList=some v) :
  ∃u,(∀w:World,(binOp op ty (.string x) (.string y)).run P w=.ok u w)∧∀w Z s ι,aP w Z s ι v u:=by
 cases op <;> simp only [Bh] at h <;> first | (simp at h;done) | (obtain rfl:=aU h)
 all_goals
  refine⟨_,fun w=>rfl,fun w Z s ι => ?_⟩
  have:=Pq x y
  simp only [toList_data] at this
  simp only [aP,cj,dz,toList_data,Value.bool.injEq,this]
theorem Ps{op:UnOp}{t:Nat}{x:Operand}(h:Inv w0 F0 Z0 n s a w ι Z)(ag:∀k,o.dst=some k→k<n)(ho:o.op=.unOp op t x)(hk:cT E id o s K=some r) :
  ∃ar,K ar=some r∧Pure P o a w (cX w0 F0 Z0 n ar):=by
 unfold cT at hk
 rw [ho] at hk
 simp only at hk
 have hx:=e5 h x
 have hrun:∀ {u:Value} {w:World},(Op.unary op (a.eval x)).run P w=.ok u w→(execOp a.eval o).run P w=.ok (.value u) w:=by
  intro u w hu;unfold execOp;rw [ho];exact fX hu
 cases cK:bV s x with
 | aT c =>
  rw [cK] at hk hx
  simp only [aP] at hx
  cases op <;> cases c <;> simp only [Hh] at hk <;> try (simp at hk;done)
  ·simp only [cj] at hx
   exact⟨_,hk,dB (fun w'=>hrun (by rw [hx];rfl)) h (by simp only [aP,cj]) ag⟩
  ·simp only [cj] at hx
   exact⟨_,hk,dB (fun w'=>hrun (by rw [hx];rfl)) h (by simp only [aP,cj];rfl) ag⟩
  ·simp only [cj] at hx
   exact⟨_,hk,dB (fun w'=>hrun (by rw [hx];rfl)) h (by simp only [aP,cj]) ag⟩
 | _=>rw [cK] at hk;cases op <;> simp [Hh] at hk
def Pt(P:Program)(E:Env):Prop:=∀id T,E.He id=true→E.ty id=some T→∀(op:BinOp) (xo yo:Operand) (w:World) (Z:ah) (s:aq) (ι : Nat→bH) (cs ds:List a_) (us vs:List Value) (q:Bool),
  bM w Z s ι cs us→bM w Z s ι ds vs→T.cmp cs ds=some (q,[],[]) →
  (eqGuard op id xo yo (.agg us.toArray) (.agg vs.toArray)).run P w=.ok () w ∧
  (op=.eql→(binOp op id (.agg us.toArray) (.agg vs.toArray)).run P w=.ok (.bool q) w) ∧
  (op=.neq→(binOp op id (.agg us.toArray) (.agg vs.toArray)).run P w=.ok (.bool (!q)) w)
mutual
theorem ad.yt{w w':World}{Z:ah}{s:aq}{ι : Nat→bH} : ∀(t:ad) {cs ds:List a_} {r:Bool×List a_×List a_} {us vs:List Value},t.cmp cs ds=some r→bM w Z s ι cs us→bM w Z s ι ds vs →
  ∃us1 us2 vs1 vs2 a b,us=us1++us2∧vs=vs1++vs2∧cs=a++r.2.1∧ds=b++r.2.2∧bM w' Z s ι a us1∧bM w' Z s ι b vs1∧bM w Z s ι r.2.1 us2∧bM w Z s ι r.2.2 vs2
 | .int k,.int k1 x :: a,.int k2 y :: b,r,us,vs,h,h1,h2=>by
  simp only [ad.cmp] at h
  cases hk:(Nat.beq (dq k1) (dq k)&&Nat.beq (dq k2) (dq k))
  ·rw [hk] at h;cases h
  rw [hk] at h
  obtain rfl:=aU h
  cases us with
  | nil=>exact h1.elim
  | cons u us=>cases vs with
   | nil=>exact h2.elim
   | cons v vs=>exact⟨[u],us,[v],vs,[.int k1 x],[.int k2 y],rfl,rfl,rfl,rfl,⟨h1.1,trivial⟩,⟨h2.1,trivial⟩,h1.2,h2.2⟩
 | .bool,.bool x :: a,.bool y :: b,r,us,vs,h,h1,h2=>by
  obtain rfl:=aU h
  cases us with
  | nil=>exact h1.elim
  | cons u us=>cases vs with
   | nil=>exact h2.elim
   | cons v vs=>exact⟨[u],us,[v],vs,[.bool x],[.bool y],rfl,rfl,rfl,rfl,⟨h1.1,trivial⟩,⟨h2.1,trivial⟩,h1.2,h2.2⟩
 | .str,.str x :: a,.str y :: b,r,us,vs,h,h1,h2=>by
  obtain rfl:=aU h
  cases us with
  | nil=>exact h1.elim
  | cons u us=>cases vs with
   | nil=>exact h2.elim
   | cons v vs=>exact⟨[u],us,[v],vs,[.str x],[.str y],rfl,rfl,rfl,rfl,⟨h1.1,trivial⟩,⟨h2.1,trivial⟩,h1.2,h2.2⟩
 | .st aj,cs,ds,r,us,vs,h,h1,h2=>ax.yt aj (by simpa only [ad.cmp] using h) h1 h2
 | .sl t,cs,ds,r,us,vs,h,h1,h2=>by simp [ad.cmp] at h
 | .raw,cs,ds,r,us,vs,h,h1,h2=>by simp [ad.cmp] at h
 | .int k,[],_,_,_,_,h,_,_=>by simp [ad.cmp] at h
 | .bool,[],_,_,_,_,h,_,_=>by simp [ad.cmp] at h
 | .str,[],_,_,_,_,h,_,_=>by simp [ad.cmp] at h
 | .int k,c :: _,[],_,_,_,h,_,_=>by cases c <;> simp [ad.cmp] at h
 | .bool,c :: _,[],_,_,_,h,_,_=>by cases c <;> simp [ad.cmp] at h
 | .str,c :: _,[],_,_,_,h,_,_=>by cases c <;> simp [ad.cmp] at h
 | .int k,.bool _ :: _,_ :: _,_,_,_,h,_,_ | .int k,.str _ :: _,_ :: _,_,_,_,h,_,_ | .int k,.nil _ :: _,_ :: _,_,_,_,h,_,_ | .int k,.b1 _ _ _ _ :: _,_ :: _,_,_,_,h,_,_ | .int k,.ag _ _ :: _,_ :: _,_,_,_,h,_,_ | .int k,.raw _ :: _,_ :: _,_,_,_,h,_,_=>by simp [ad.cmp] at h
 | .bool,.int _ _ :: _,_ :: _,_,_,_,h,_,_ | .bool,.str _ :: _,_ :: _,_,_,_,h,_,_ | .bool,.nil _ :: _,_ :: _,_,_,_,h,_,_ | .bool,.b1 _ _ _ _ :: _,_ :: _,_,_,_,h,_,_ | .bool,.ag _ _ :: _,_ :: _,_,_,_,h,_,_ | .bool,.raw _ :: _,_ :: _,_,_,_,h,_,_=>by simp [ad.cmp] at h
 | .str,.int _ _ :: _,_ :: _,_,_,_,h,_,_ | .str,.bool _ :: _,_ :: _,_,_,_,h,_,_ | .str,.nil _ :: _,_ :: _,_,_,_,h,_,_ | .str,.b1 _ _ _ _ :: _,_ :: _,_,_,_,h,_,_ | .str,.ag _ _ :: _,_ :: _,_,_,_,h,_,_ | .str,.raw _ :: _,_ :: _,_,_,_,h,_,_=>by simp [ad.cmp] at h
 | .int k,.int _ _ :: _,.bool _ :: _,_,_,_,h,_,_ | .int k,.int _ _ :: _,.str _ :: _,_,_,_,h,_,_ | .int k,.int _ _ :: _,.nil _ :: _,_,_,_,h,_,_ | .int k,.int _ _ :: _,.b1 _ _ _ _ :: _,_,_,_,h,_,_ | .int k,.int _ _ :: _,.ag _ _ :: _,_,_,_,h,_,_ | .int k,.int _ _ :: _,.raw _ :: _,_,_,_,h,_,_=>by simp [ad.cmp] at h
 | .bool,.bool _ :: _,.int _ _ :: _,_,_,_,h,_,_ | .bool,.bool _ :: _,.str _ :: _,_,_,_,h,_,_ | .bool,.bool _ :: _,.nil _ :: _,_,_,_,h,_,_ | .bool,.bool _ :: _,.b1 _ _ _ _ :: _,_,_,_,h,_,_ | .bool,.bool _ :: _,.ag _ _ :: _,_,_,_,h,_,_ | .bool,.bool _ :: _,.raw _ :: _,_,_,_,h,_,_=>by simp [ad.cmp] at h
 | .str,.str _ :: _,.int _ _ :: _,_,_,_,h,_,_ | .str,.str _ :: _,.bool _ :: _,_,_,_,h,_,_ | .str,.str _ :: _,.nil _ :: _,_,_,_,h,_,_ | .str,.str _ :: _,.b1 _ _ _ _ :: _,_,_,_,h,_,_ | .str,.str _ :: _,.ag _ _ :: _,_,_,_,h,_,_ | .str,.str _ :: _,.raw _ :: _,_,_,_,h,_,_=>by simp [ad.cmp] at h
theorem ax.yt{w w':World}{Z:ah}{s:aq}{ι : Nat→bH} : ∀(t:ax) {cs ds:List a_} {r:Bool×List a_×List a_} {us vs:List Value},t.cmp cs ds=some r→bM w Z s ι cs us→bM w Z s ι ds vs →
  ∃us1 us2 vs1 vs2 a b,us=us1++us2∧vs=vs1++vs2∧cs=a++r.2.1∧ds=b++r.2.2∧bM w' Z s ι a us1∧bM w' Z s ι b vs1∧bM w Z s ι r.2.1 us2∧bM w Z s ι r.2.2 vs2
 | .nil,cs,ds,r,us,vs,h,h1,h2=>by
  obtain rfl:=aU h
  exact⟨[],us,[],vs,[],[],rfl,rfl,rfl,rfl,trivial,trivial,h1,h2⟩
 | .cons t aj,cs,ds,r,us,vs,h,h1,h2=>by
  simp only [ax.cmp] at h
  obtain ⟨bz,g1,h⟩:=bf h
  obtain ⟨cc,g2,h⟩:=bf h
  obtain rfl:=aU h
  obtain ⟨a1,a2,jc,og,a,b,rfl,rfl,e1,e2,k1,k2,k3,bg⟩:=ad.yt (w':=w') t g1 h1 h2
  obtain ⟨a3,a4,pv,Bu,b7,b',rfl,rfl,e3,fY,dN,ek,mm,pn⟩:=ax.yt (w':=w') aj g2 k3 bg
  exact⟨a1++a3,a4,jc++pv,Bu,a++b7,b++b',by simp,by simp,by rw [e1,e3];simp,by rw [e2,fY];simp,k1.append dN,k2.append ek,mm,pn⟩
end
theorem Pu{w:World}{Z:ah}{s:aq}{ι : Nat→bH}{T:ad}{cs ds:List a_}{q:Bool}{us vs:List Value}(h:T.cmp cs ds=some (q,[],[]))(h1:bM w Z s ι cs us)(h2:bM w Z s ι ds vs)(w':World) :
  bM w' Z s ι cs us∧bM w' Z s ι ds vs:=by
 obtain ⟨us1,us2,vs1,vs2,a,b,e3,fY,tB,Pv,bx,dg,da,dL⟩:=ad.yt (w':=w') T h h1 h2
 have fV:us2=[]:=by cases us2 with | nil=>rfl | cons=>exact da.elim
 have mh:vs2=[]:=by cases vs2 with | nil=>rfl | cons=>exact dL.elim
 subst fV mh
 simp only [List.append_nil] at e3 fY tB Pv
 rw [e3,fY,tB,Pv]
 exact⟨bx,dg⟩
theorem Pw{op:BinOp}{t Bv:Nat}{x y:Operand}(bX:g' P E)(hE:Pt P E)(h:Inv w0 F0 Z0 n s a w ι Z)(ag:∀k,o.dst=some k→k<n)(ho:o.op=.binOp op t x y Bv)(hk:cT E id o s K=some r) :
  ∃ar,K ar=some r∧Pure P o a w (cX w0 F0 Z0 n ar):=by
 unfold cT at hk
 rw [ho] at hk
 simp only at hk
 have hx:=e5 h x
 have aN:=e5 h y
 cases cK:bV s x with
 | aT c =>
  rw [cK] at hk hx
  simp only [aP] at hx
  cases gA:bV s y with
  | aT d =>
   rw [gA] at hk aN
   simp only [aP] at aN
   cases c <;> cases d <;> simp only [kU] at hk <;> try (simp at hk;done)
   ·rename_i k i k' j
    simp only [cj] at hx aN
    have aA:∀w:World,(eqGuard op t x y (a.eval x) (a.eval y)).run P w=.ok () w:=fun w=>wi (by rw [hx];exact .inl ⟨_,_,rfl⟩)
    by_cases h1:op=.shl
    ·subst h1
     obtain ⟨h0,hk⟩:=rQ hk
     have h0:=of_decide_eq_true h0
     refine⟨_,hk,dB (fun w'=>jv ho (aA w') (by rw [hx,aN];simp only [binOp,Op.shift];rw [if_neg (by omega)];rfl)) h (by simp only [aP,cj]) ag⟩
    by_cases h2:op=.shr
    ·subst h2
     obtain ⟨h0,hk⟩:=rQ hk
     have h0:=of_decide_eq_true h0
     refine⟨_,hk,dB (fun w'=>jv ho (aA w') (by rw [hx,aN];simp only [binOp,Op.shift];rw [if_neg (by omega)];rfl)) h (by simp only [aP,cj]) ag⟩
    by_cases h3:op=.quo
    ·subst h3
     cases hkk:Nat.beq (dq k) (dq k')
     ·rw [hkk] at hk;simp at hk
     have hk1:jF (j != 0) (K (s.dst o.dst (.aT (.int k (k.wrap (i.tdiv j))))))=some r:=by
      have hk2:cond (Nat.beq (dq k) (dq k')) (jF (j != 0) (K (s.dst o.dst (.aT (.int k (k.wrap (i.tdiv j))))))) none=some r:=hk
      rw [hkk] at hk2;exact hk2
     clear hk
     obtain ⟨h0,hk⟩:=rQ hk1
     obtain rfl:=Bt hkk
     have h0:j≠0:=by simpa using h0
     refine⟨_,hk,dB (fun w'=>jv ho (aA w') (by rw [hx,aN];simp only [binOp,Op.intDiv];rw [if_neg (by simp),if_neg h0];rfl)) h (by simp only [aP,cj]) ag⟩
    by_cases h4:op=.rem
    ·subst h4
     cases hkk:Nat.beq (dq k) (dq k')
     ·rw [hkk] at hk;simp at hk
     have hk1:jF (j != 0) (K (s.dst o.dst (.aT (.int k (i.tmod j)))))=some r:=by
      have hk2:cond (Nat.beq (dq k) (dq k')) (jF (j != 0) (K (s.dst o.dst (.aT (.int k (i.tmod j)))))) none=some r:=hk
      rw [hkk] at hk2;exact hk2
     clear hk
     obtain ⟨h0,hk⟩:=rQ hk1
     obtain rfl:=Bt hkk
     have h0:j≠0:=by simpa using h0
     refine⟨_,hk,dB (fun w'=>jv ho (aA w') (by rw [hx,aN];simp only [binOp,Op.intDiv];rw [if_neg (by simp),if_neg h0];rfl)) h (by simp only [aP,cj]) ag⟩
    have eb:cond (Nat.beq (dq k) (dq k')) (lift (Bg op k i j) fun v=>K (s.dst o.dst v)) none=some r:=by
     cases op <;> first | exact hk | exact absurd rfl h1 | exact absurd rfl h2 | exact absurd rfl h3 | exact absurd rfl h4
    cases hkk:Nat.beq (dq k) (dq k')
    ·rw [hkk] at eb;simp at eb
    rw [hkk] at eb
    obtain rfl:=Bt hkk
    obtain ⟨v,hv,eb⟩:=Pr eb
    obtain ⟨u,hu,cM⟩:=YM (P:=P) (ty:=t) (yty:=Bv) (xo:=x) (yo:=y) hv h1 h2 h3 h4
    exact⟨_,eb,dB (fun w'=>jv ho (aA w') (by rw [hx,aN];exact hu w')) h (cM _ _ _ _) ag⟩
   ·rename_i i j
    simp only [cj] at hx aN
    have aA:∀w:World,(eqGuard op t x y (a.eval x) (a.eval y)).run P w=.ok () w:=fun w=>wi (by rw [hx];exact .inr (.inr (.inl ⟨_,rfl⟩)))
    cases ht:E.ty t with
    | none=>rw [ht] at hk;simp at hk
    | some T =>
     cases T with
     | bool =>
      rw [ht] at hk
      have hu:P.underlying t=some .bool:=by have:=bX.ty t _ ht;simp only [ad.ok] at this;exact this.1
      have hb:∀(i j:Bool) {w:World},(Op.equal t (.bool i) (.bool j)).run P w=.ok (i==j) w:=by
       intro i j w
       unfold Op.equal Op.maxDepth Op.equalIn
       rw [run_bind,run_underlying hu]
       rfl
      cases op <;> simp only at hk <;> try (simp at hk;done)
      ·exact⟨_,hk,dB (fun w'=>jv ho (aA w') (by rw [hx,aN];simp only [binOp,run_bind,hb];rfl)) h (by simp only [aP,cj]) ag⟩
      ·exact⟨_,hk,dB (fun w'=>jv ho (aA w') (by rw [hx,aN];simp only [binOp,run_bind,hb];rfl)) h (by simp only [aP,cj]) ag⟩
     | _=>rw [ht] at hk;simp at hk
   ·obtain ⟨wj,hx,rfl⟩:=hx
    obtain ⟨wk,aN,rfl⟩:=aN
    have aA:∀w:World,(eqGuard op t x y (a.eval x) (a.eval y)).run P w=.ok () w:=fun w=>wi (by rw [hx];exact .inr (.inl ⟨_,rfl⟩))
    by_cases h1:op=.add
    ·subst h1
     obtain ⟨h0,hk⟩:=rQ hk
     have h0:=Nat.le_of_ble_eq_true h0
     simp only [Array.length_toList] at h0
     refine⟨_,hk,dB (v:=.string (wj++wk)) (fun w'=>jv ho (aA w') (by
      rw [hx,aN];simp only [binOp,Op.stringOp]
      rw [if_neg];rfl
      have e1:wj.data.size=wj.size:=rfl
      have e2:wk.data.size=wk.size:=rfl
      simp only [IntKind.max,IntKind.signed,IntKind.bits,if_true]
      omega)) h (by simp only [aP,cj];exact⟨_,rfl,by simp⟩) ag⟩
    ·have eb:lift (Bh op wj.data.toList wk.data.toList) (fun v=>K (s.dst o.dst v))=some r:=by
      cases op <;> first | exact hk | exact absurd rfl h1
     obtain ⟨v,hv,eb⟩:=Pr eb
     obtain ⟨u,hu,cM⟩:=YN (P:=P) (ty:=t) hv
     exact⟨_,eb,dB (fun w'=>jv ho (aA w') (by rw [hx,aN];exact hu w')) h (cM _ _ _ _) ag⟩
  | kS =>
   rw [gA] at hk aN
   simp only [aP] at aN
   cases c with
   | b1 dn dp ct xs =>
    cases dp with
    | cons=>simp [kU] at hk
    | nil =>
     simp only [kU] at hk
     cases rR:E.ty t with
     | none=>rw [rR] at hk;simp at hk
     | some T =>
      cases T with
      | sl u =>
       rw [rR] at hk
       obtain ⟨e,hu,_⟩:=lK (bX.ty _ _ rR)
       obtain ⟨_,_,cM,_⟩:=hx
       have cM:=cM rfl
       simp only [ad.al] at cM
       obtain ⟨A,c',hv,tw⟩:=cM
       have hT:a.eval x=.slice A xs.length c':=by simpa using hv
       have aA:∀w:World,(eqGuard op t x y (a.eval x) (a.eval y)).run P w=.ok () w:=fun w=>by
        rw [hT,aN];unfold eqGuard;cases op <;> rfl
       have hb:∀ {w:World},(Op.equal t (.slice A xs.length c') (.slice none 0 0)).run P w=.ok A.isNone w:=by
        intro w
        unfold Op.equal Op.maxDepth Op.equalIn
        rw [run_bind,run_underlying hu]
        cases A <;> rfl
       have he:A.isNone=true→xs.isEmpty=true:=fun hA=>by
        rcases tw with tw | ⟨a0,tw,_⟩
        ·rw [tw];rfl
        ·rw [tw] at hA;cases hA
       have pick:∀ {k1 mr:Option bu},Bi xs.isEmpty k1 mr=some r→(cond A.isNone k1 mr)=some r:=by
        intro k1 mr hk
        unfold Bi both at hk
        cases hA:A.isNone
        ·rw [hA] at he
         cases Px:xs.isEmpty
         ·rw [Px] at hk;exact hk
         ·rw [Px] at hk
          simp only [cond_true] at hk
          split at hk
          ·rename_i h;rw [cond_false,← h];exact hk
          ·cases hk
        ·rw [he hA] at hk
         simp only [cond_true] at hk ⊢
         split at hk
         ·exact hk
         ·cases hk
       cases op <;> simp only at hk <;> try (simp at hk;done)
       ·have hk:=pick hk
        refine⟨s.dst o.dst (.aT (.bool A.isNone)),by cases A <;> exact hk,dB (fun w'=>jv ho (aA w') (by rw [hT,aN];simp only [binOp,run_bind,hb];rfl)) h (by simp only [aP,cj]) ag⟩
       ·have hk:=pick hk
        refine⟨s.dst o.dst (.aT (.bool (!A.isNone))),by cases A <;> exact hk,dB (fun w'=>jv ho (aA w') (by rw [hT,aN];simp only [binOp,run_bind,hb];rfl)) h (by simp only [aP,cj]) ag⟩
      | _=>rw [rR] at hk;simp at hk
   | _=>simp [kU] at hk
  | _=>rw [gA] at hk;cases c <;> simp [kU] at hk
 | iC cs =>
  rw [cK] at hk hx
  simp only [aP] at hx
  cases gA:bV s y with
  | iC ds =>
   rw [gA] at hk aN
   simp only [aP] at aN
   obtain ⟨us,hx,Py⟩:=hx
   obtain ⟨vs,aN,Pz⟩:=aN
   simp only [kU] at hk
   cases he:E.He t
   ·rw [he] at hk;simp at hk
   rw [he] at hk
   simp only [cond_true] at hk
   cases rR:E.ty t with
   | none=>rw [rR] at hk;simp at hk
   | some T =>
   rw [rR] at hk
   simp only at hk
   cases hq:T.cmp cs ds with
   | none=>rw [hq] at hk;cases op <;> simp at hk
   | some q =>
    obtain ⟨q,bz,cc⟩:=q
    rw [hq] at hk
    match bz,cc,hq,hk with
    | [],[],hq,hk =>
     have hE:=fun w'=>hE t T he rR op x y w' Z s ι cs ds us vs q (Pu hq Py Pz w').1 (Pu hq Py Pz w').2 hq
     cases op <;> simp only at hk <;> try (simp at hk;done)
     ·exact⟨_,hk,dB (fun w'=>jv ho (by rw [hx,aN];exact(hE w').1) (by rw [hx,aN];exact(hE w').2.1 rfl)) h (by simp only [aP,cj]) ag⟩
     ·exact⟨_,hk,dB (fun w'=>jv ho (by rw [hx,aN];exact(hE w').1) (by rw [hx,aN];exact(hE w').2.2 rfl)) h (by simp only [aP,cj]) ag⟩
    | _ :: _,_,_,hk=>cases op <;> simp at hk
    | [],_ :: _,_,hk=>cases op <;> simp at hk
  | _=>rw [gA] at hk;simp [kU] at hk
 | opt j i =>
  rw [cK] at hk hx
  simp only [aP] at hx
  cases gA:bV s y with
  | j1 =>
   rw [gA] at hk aN
   simp only [aP] at aN
   simp only [kU] at hk
   cases mu:E.tl t
   ·rw [mu] at hk;simp at hk
   rw [mu] at hk
   obtain ⟨e,hu⟩:=bX.ptr t mu
   have aA:∀w:World,(eqGuard op t x y (a.eval x) (a.eval y)).run P w=.ok () w:=by
    intro w
    rcases hx.2 with⟨_,hx⟩ | ⟨_,A,hx,_⟩ <;> exact wi (by rw [hx];exact .inr (.inr (.inr ⟨_,rfl⟩)))
   have hb:∀ {w:World},(Op.equal t (a.eval x) (.pointer none)).run P w=.ok (decide (i<0)) w:=by
    intro w
    rcases hx.2 with⟨h0,hx⟩ | ⟨h0,A,hx,_⟩
    ·rw [hx]
     unfold Op.equal Op.maxDepth Op.equalIn
     rw [run_bind,run_underlying hu]
     simp [h0,run_pure]
    ·rw [hx]
     unfold Op.equal Op.maxDepth Op.equalIn
     rw [run_bind,run_underlying hu]
     have:¬i<0:=by omega
     simp [this,run_pure]
   have lL:∀(op:BinOp) (v:Value),(op=.eql→v=.bool (decide (i<0)))→(op=.neq→v=.bool (!decide (i<0)))→(op=.eql∨op=.neq)→∀ {w:World},(binOp op t (a.eval x) (a.eval y)).run P w=.ok v w:=by
    intro op v h1 h2 h3 w
    rw [aN]
    have oj:∃q,a.eval x=.pointer q:=by rcases hx.2 with⟨_,hx⟩ | ⟨_,A,hx,_⟩ <;> exact⟨_,hx⟩
    obtain ⟨q,oj⟩:=oj
    rw [oj]
    have hb:∀ {w:World},(Op.equal t (.pointer q) (.pointer none)).run P w=.ok (decide (i<0)) w:=fun {w} => by rw [← oj];exact hb
    rcases h3 with rfl | rfl
    ·rw [h1 rfl];simp only [binOp,run_bind,hb];rfl
    ·rw [h2 rfl];simp only [binOp,run_bind,hb];rfl
   cases op <;> simp only at hk <;> try (simp at hk;done)
   ·exact⟨_,hk,dB (fun w'=>jv ho (aA w') (lL .eql _ (fun _=>rfl) (fun h=>by simp at h) (.inl rfl))) h (by simp only [aP,cj]) ag⟩
   ·exact⟨_,hk,dB (fun w'=>jv ho (aA w') (lL .neq _ (fun h=>by simp at h) (fun _=>rfl) (.inr rfl))) h (by simp only [aP,cj]) ag⟩
  | _=>rw [gA] at hk;simp [kU] at hk
 | may b dp cs =>
  rw [cK] at hk hx
  simp only [aP] at hx
  cases gA:bV s y with
  | j1 =>
   rw [gA] at hk aN
   simp only [aP] at aN
   simp only [kU] at hk
   cases mu:E.tl t
   ·rw [mu] at hk;simp at hk
   rw [mu] at hk
   obtain ⟨e,hu⟩:=bX.ptr t mu
   have aA:∀w:World,(eqGuard op t x y (a.eval x) (a.eval y)).run P w=.ok () w:=by
    intro w
    rcases hx with⟨_,hx⟩ | ⟨_,_,_,_,_,hx,_⟩ <;> exact wi (by rw [hx];exact .inr (.inr (.inr ⟨_,rfl⟩)))
   have hb:∀ {w:World},(Op.equal t (a.eval x) (.pointer none)).run P w=.ok (!b) w:=by
    intro w
    rcases hx with⟨h0,hx⟩ | ⟨h0,_,_,_,_,hx,_⟩
    ·rw [hx]
     unfold Op.equal Op.maxDepth Op.equalIn
     rw [run_bind,run_underlying hu]
     simp [h0,run_pure]
    ·rw [hx]
     unfold Op.equal Op.maxDepth Op.equalIn
     rw [run_bind,run_underlying hu]
     simp [h0,run_pure]
   have lL:∀(op:BinOp) (v:Value),(op=.eql→v=.bool (!b))→(op=.neq→v=.bool (b))→(op=.eql∨op=.neq)→∀ {w:World},(binOp op t (a.eval x) (a.eval y)).run P w=.ok v w:=by
    intro op v h1 h2 h3 w
    rw [aN]
    have oj:∃q,a.eval x=.pointer q:=by rcases hx with⟨_,hx⟩ | ⟨_,_,_,_,_,hx,_⟩ <;> exact⟨_,hx⟩
    obtain ⟨q,oj⟩:=oj
    rw [oj]
    have hb:∀ {w:World},(Op.equal t (.pointer q) (.pointer none)).run P w=.ok (!b) w:=fun {w} => by rw [← oj];exact hb
    rcases h3 with rfl | rfl
    ·rw [h1 rfl];simp only [binOp,run_bind,hb];rfl
    ·rw [h2 rfl];simp only [binOp,run_bind,hb];simp only [Bool.not_not];rfl
   cases op <;> simp only at hk <;> try (simp at hk;done)
   ·exact⟨_,hk,dB (fun w'=>jv ho (aA w') (lL .eql _ (fun _=>rfl) (fun h=>by simp at h) (.inl rfl))) h (by simp only [aP,cj]) ag⟩
   ·exact⟨_,hk,dB (fun w'=>jv ho (aA w') (lL .neq _ (fun h=>by simp at h) (fun _=>rfl) (.inr rfl))) h (by simp only [aP,cj]) ag⟩
  | _=>rw [gA] at hk;simp [kU] at hk
 | ptr p =>
  rw [cK] at hk hx
  simp only [aP] at hx
  obtain ⟨_,A,hx,_⟩:=hx
  cases gA:bV s y with
  | j1 =>
   rw [gA] at hk aN
   simp only [aP] at aN
   simp only [kU] at hk
   cases mu:E.tl t
   ·rw [mu] at hk;simp at hk
   rw [mu] at hk
   obtain ⟨e,hu⟩:=bX.ptr t mu
   have aA:∀w:World,(eqGuard op t x y (a.eval x) (a.eval y)).run P w=.ok () w:=fun w=>wi (by rw [hx];exact .inr (.inr (.inr ⟨_,rfl⟩)))
   have hb:∀ {w:World},(Op.equal t (.pointer (some A)) (.pointer none)).run P w=.ok false w:=by
    intro w
    unfold Op.equal Op.maxDepth Op.equalIn
    rw [run_bind,run_underlying hu]
    rfl
   cases op <;> simp only at hk <;> try (simp at hk;done)
   ·exact⟨_,hk,dB (fun w'=>jv ho (aA w') (by rw [hx,aN];simp only [binOp,run_bind,hb];rfl)) h (by simp only [aP,cj]) ag⟩
   ·exact⟨_,hk,dB (fun w'=>jv ho (aA w') (by rw [hx,aN];simp only [binOp,run_bind,hb];rfl)) h (by simp only [aP,cj];rfl) ag⟩
  | _=>rw [gA] at hk;simp [kU] at hk
 | _=>rw [cK] at hk;simp [kU] at hk
end
end Go.LM
namespace Go.LM
def c0{α : Type}(R : α → List Value→ah→Prop)(size:Nat):List α → List Value→ah→Prop
 | [],vs,_=>vs=[]
 | x :: xs,vs,F=>∃us aj G H,vs=us++aj∧R x us G∧us.length=size∧c0 R size xs aj H∧ah.apart G H∧ah.sub G F∧ah.sub H F
section
variable{α : Type}{R i_ : α → List Value→ah→Prop}{size:Nat}{w:World}
theorem c0.len:∀ {xs:List α} {vs:List Value} {F:ah},c0 R size xs vs F→vs.length=xs.length*size
 | [],_,_,h=>by simp only [c0] at h;subst h;simp
 | x :: xs,_,_,h=>by
  obtain ⟨us,aj,G,H,rfl,_,h1,h2,_⟩:=h
  rw [List.length_append,h1,c0.len h2,List.length_cons,Nat.add_one_mul];omega
theorem c0.mono:∀ {xs:List α} {vs:List Value} {F F':ah},ah.sub F F'→c0 R size xs vs F→c0 R size xs vs F'
 | [],_,_,_,_,h=>h
 | x :: xs,_,_,_,hs,⟨us,aj,G,H,h1,h2,h3,h4,a8,bl,bK⟩=>⟨us,aj,G,H,h1,h2,h3,h4,a8,fun b o h=>hs b o (bl b o h),fun b o h=>hs b o (bK b o h)⟩
theorem c0.imp:∀ {xs:List α} {vs:List Value} {F:ah},c0 R size xs vs F→(∀y us G,ah.sub G F→R y us G→i_ y us G)→c0 i_ size xs vs F
 | [],_,_,h,_=>h
 | x :: xs,_,F,⟨us,aj,G,H,h1,h2,h3,h4,a8,bl,bK⟩,dM =>
  ⟨us,aj,G,H,h1,dM _ _ _ bl h2,h3,c0.imp h4 (fun y us dj hs=>dM y us dj fun b o h=>bK b o (hs b o h)),a8,bl,bK⟩
theorem c0.bare:∀ {xs:List α} {vs:List Value} {F:ah},c0 R size xs vs F→(∀y us G,ah.sub G F→R y us G→i_ y us ah.none)→c0 i_ size xs vs ah.none
 | [],_,_,h,_=>h
 | x :: xs,_,F,⟨us,aj,G,H,h1,h2,h3,h4,a8,bl,bK⟩,dM =>
  ⟨us,aj,ah.none,ah.none,h1,dM _ _ _ bl h2,h3,c0.bare h4 (fun y us dj hs=>dM y us dj fun b o h=>bK b o (hs b o h)),fun _ _ h=>h.elim,fun _ _ h=>h,fun _ _ h=>h⟩
theorem c0.append:∀ {xs ys:List α} {us vs:List Value} {F G:ah},c0 R size xs us F→c0 R size ys vs G→ah.apart F G→c0 R size (xs++ys) (us++vs) (F.or G)
 | [],ys,us,vs,F,G,h,k,_=>by
  simp only [c0] at h;subst h
  exact k.mono fun _ _ h=>.inr h
 | x :: xs,ys,us,vs,F,G,⟨a,b,A,B,h1,h2,h3,h4,a8,bl,bK⟩,k,ha=>by
  refine⟨a,b++vs,A,B.or G,by rw [h1,List.append_assoc],h2,h3,c0.append h4 k (fun b o h=>ha b o (bK b o h)),?_,fun b o h=>.inl (bl b o h),fun b o h=>h.imp (bK b o) id⟩
  rintro b o g (h | h)
  ·exact a8 b o g h
  ·exact ha b o (bl b o g) h
theorem c0.row:∀ {xs:List α} {vs:List Value} {F:ah} {b o:Nat},c0 R size xs vs F→b3 w b o vs→Row w R size xs b o F
 | [],_,_,_,_,_,_=>trivial
 | x :: xs,_,_,b,o,⟨us,aj,G,H,h1,h2,h3,h4,a8,bl,bK⟩,hc=>by
  subst h1
  exact⟨us,G,H,h2,h3,hc.left,c0.row h4 (h3 ▸ hc.right),a8,bl,bK⟩
theorem Row.tc:∀ {xs:List α} {b o:Nat} {F:ah},Row w R size xs b o F→∃vs,c0 R size xs vs F∧b3 w b o vs
 | [],_,_,_,_=>⟨[],rfl,b3.nil _ _ _⟩
 | x :: xs,b,o,F,⟨us,G,H,h1,h2,h3,h4,a8,bl,bK⟩=>by
  obtain ⟨aj,k1,k2⟩:=Row.tc h4
  exact⟨us++aj,⟨us,aj,G,H,rfl,h1,h2,k1,a8,bl,bK⟩,h3.append (by rw [h2];exact k2)⟩
theorem c0.replicate{x : α}{us:List Value}(dM:R x us ah.none)(hl:us.length=size):∀n,c0 R size (List.replicate n x) (List.replicate n us).flatten ah.none
 | 0=>rfl
 | n+1=>by
  rw [List.replicate_succ,List.replicate_succ,List.flatten_cons]
  exact⟨us,_,ah.none,ah.none,rfl,dM,hl,c0.replicate dM hl n,fun _ _ h=>h.elim,fun _ _ h=>h,fun _ _ h=>h⟩
end
mutual
theorem H4{w:World}{Z F:ah} : ∀(t:ad) (m:ba),t.al w Z m t.zero t.cN F
 | .int _,_=>by simp only [ad.al,ad.zero,ad.cN]
 | .bool,_=>by simp only [ad.al,ad.zero,ad.cN]
 | .str,_=>by simp only [ad.al,ad.zero,ad.cN];exact⟨_,rfl,rfl⟩
 | .raw,_=>by simp only [ad.al,ad.zero,ad.cN];exact⟨trivial,_,_,_,rfl⟩
 | .sl t,.O e=>by simp only [ad.al,ad.zero,ad.cN];exact⟨none,0,rfl,.inl (by simp)⟩
 | .sl t,.R=>by simp only [ad.al,ad.zero,ad.cN];exact⟨none,0,rfl,.inl trivial⟩
 | .sl t,.S _=>by simp only [ad.al,ad.zero,ad.cN];exact⟨none,0,rfl,.inl trivial⟩
 | .st aj,m=>by simp only [ad.al,ad.zero,ad.cN];exact PA aj m.parts
theorem PA{w:World}{Z F:ah} : ∀(aj:ax) (m:cU),aj.al w Z m aj.zero aj.cN F
 | .nil,_=>by simp only [ax.al,ax.cN]
 | .cons t aj,m=>by
  simp only [ax.al,ax.zero,ax.cN]
  exact⟨t.cN,aj.cN,ah.none,ah.none,rfl,H4 t m.ag,PA aj m.dv,fun _ _ h=>h.elim,fun _ _ h=>h.elim,fun _ _ h=>h.elim⟩
end
section
variable{P:Program}{Q:Exit→Act→World→Prop}
variable{w0:World}{F0 Z0:ah}{n:cC}{s ar:aq}{a b7:Act}{w w':World}{ι bb:Nat→bH}{Z Z':ah}
variable{E:Env}{o:Oper}{bu : Type}{K:aq→Option bu}{r : bu}{id:Nat}
theorem bL.ext{F S:ah}(hf:bL w0 F0 s w ι Z F)(hx:Ext w w' S):bL w0 F0 s w' ι Z F :=
 ⟨fun b o h=>⟨(hf.own b o h).1,Nat.lt_of_lt_of_le (hf.own b o h).2 hx.size⟩,hf.apart,hf.c2⟩
theorem Inv.fresh(h:Inv w0 F0 Z0 n s a w ι Z){F:ah}(hF:∀b o,F b o→w.heap.size≤b∧b<w'.heap.size):bL w0 F0 s w' ι Z F:=by
 have:=h.ext.size
 refine⟨fun b o hf=>⟨.inr (by have:=(hF b o hf).1;omega),(hF b o hf).2⟩,fun id hl b o h1 h2=>?_,fun b o h1 h2=>?_⟩
 ·have:=(h.own id hl b o h2).2;have:=(hF b o h1).1;omega
 ·have:=h.i' b o h2;have:=(hF b o h1).1;omega
def grown(w:World)(d:Nat)(arr:Array Value)(e:TypeId)(f:Nat×Nat):World := { w with drawn:=d,heap:=w.heap.push (.cells arr e f) }
theorem A9(w:World)(d:Nat)(arr:Array Value)(e:TypeId)(f:Nat×Nat)(F:ah):Ext w (grown w d arr e f) F :=
 ⟨rfl,rfl,rfl,by simp [grown],fun b hb=>.inl (by simp only [grown];rw [Array.getElem?_push,if_neg (by omega)])⟩
theorem ye(w:World)(d:Nat)(arr:Array Value)(e:TypeId)(f:Nat×Nat):(grown w d arr e f).heap[w.heap.size]?=some (.cells arr e f):=by simp [grown]
theorem yd(w:World)(d:Nat)(arr:Array Value)(e:TypeId)(f:Nat×Nat)(o:Nat):(grown w d arr e f).cell? (at_ w.heap.size o)=arr[o]?:=cell_of_heap (ye ..) o
theorem G9(w:World)(d:Nat)(arr:Array Value)(e:TypeId)(f:Nat×Nat):(grown w d arr e f).heap.size=w.heap.size+1:=by simp [grown]
theorem Inv.newRow(h:Inv w0 F0 Z0 n s a w ι Z){id:Nat}(b6:s.o id=.none){t:ad}{em:ba}{xs:List t.D}{vs:List Value}{G:ah}
  (he:c0 (t.al w Z em) t.size xs vs G) (hG:bL w0 F0 s w ι Z G) (d:Nat) (arr:Array Value) (e:TypeId) (f:Nat×Nat) (c:Nat)
  (hv:∀(j:Nat) (v:Value),vs[j]?=some v→arr[j]?=some v) (hc:xs.length≤c) (hsz:c*t.size≤arr.size) (hf:f.1=f.2∨c*t.size≤f.1) (hf2:t.size=1∨f.1=f.2) :
  Inv w0 F0 Z0 n (s.bR id (.row t em 0 xs)) a (grown w d arr e f) (bU ι id ⟨some (at_ w.heap.size 0),c,(ah.run w.heap.size 0 (c*t.size)).or G⟩) Z:=by
 have hx:=A9 w d arr e f ah.none
 have h1:=h.world hx
 have j8:bL w0 F0 s (grown w d arr e f) ι Z (ah.run w.heap.size 0 (c*t.size)):=h.fresh (by rintro b o ⟨rfl,_,_⟩;rw [G9];omega)
 have fc:=hG.ext hx
 refine h1.Bm b6 ?_ (j8.or fc)
 refine .inr ⟨at_ w.heap.size 0,rfl,rfl,hc,fun j hj=>⟨⟨⟨arr[j]'(by simp only at hj;omega),?_⟩,?_⟩,?_⟩,fun j hj=>.inl ⟨rfl,by simp [at_],by simpa [at_] using hj⟩,G,?_,?_,fun _ _ h=>.inr h⟩
 ·show World.cell? _ (at_ w.heap.size (0+j))=_
  rw [yd];simp
 ·show World.frozen? _ (at_ w.heap.size (0+j))=_
  rw [qh,ye]
  simp only at hj
  simp only [Bool.and_eq_false_iff,decide_eq_false_iff_not]
  omega
 ·refine hf2.imp (fun h=>h) fun h2 k=>?_
  show World.frozen? _ (at_ w.heap.size k)=_
  rw [qh,ye]
  simp only [Bool.and_eq_false_iff,decide_eq_false_iff_not]
  omega
 ·refine c0.row (he.imp fun y us dj hs hr=>ad.al.same (b4.jb hx h.i' fun _ _ _ h=>h) _ _ (b4.jb hx (fun b o aA=>(hG.own b o (hs b o aA)).2) fun _ _ _ h=>h) hr) ?_
  intro i v hi
  show World.cell? _ (at_ w.heap.size (0+i))=_
  rw [yd,Nat.zero_add];exact hv i v hi
 ·intro j hj aA
  have:=(hG.own _ _ aA).2
  simp [at_] at this
theorem yu{id:Nat}{t:ad}{em:ba}{ver:Nat}{xs:List t.D}{A:Addr}{c:Nat}{F:ah}(hA:A.spot=none)(hc:xs.length≤c) :
  cj w Z (s.bR id (.row t em ver xs)) (bU ι id ⟨some A,c,F⟩) (.ag id none) (.slice (some A) xs.length c):=by
 refine⟨?_,some A,xs.length,c,rfl,?_⟩
 ·show bU s.o id _ id≠_
  rw [cB];simp
 ·intro dn gz nk fU ho
  have rJ:(bU s.o id (cn.row t em ver xs) id).core=.row dn gz nk fU:=ho
  rw [cB] at rJ ⊢
  obtain ⟨rfl,_,_,h4⟩:=cn.row.inj rJ
  have:=eq_of_heq h4;subst this
  refine⟨rfl,by simp [eh],hc,by simp [eh],.inr ⟨A,rfl,?_⟩⟩
  simp only [eh,Nat.zero_mul,Nat.add_zero]
  cases A;simp_all [at_]
theorem PB(us:List Value):∀(n j:Nat),j<n*us.length→(List.replicate n us).flatten[j]?=us[j % us.length]?
 | 0,j,h=>by simp at h
 | n+1,j,h=>by
  rw [List.replicate_succ,List.flatten_cons]
  by_cases hj:j<us.length
  ·rw [List.getElem?_append_left hj,Nat.mod_eq_of_lt hj]
  ·have h':j<n*us.length+us.length:=by rw [← Nat.add_one_mul];exact h
   rw [List.getElem?_append_right (by omega),PB us n (j-us.length) (by omega),← Nat.mod_eq_sub_mod (by omega)]
theorem H5{z:Array Value}{m j:Nat}(us:List Value)(n:Nat)(hz:z.toList=us)(hm:m=n*us.length)(v:Value)(h:(List.replicate n us).flatten[j]?=some v) :
  ((Array.range m).map (z[· % z.size]!))[j]?=some v:=by
 subst hz
 have hj:j<n*z.toList.length:=by
  rcases Nat.lt_or_ge j (n*z.toList.length) with h1 | h1
  ·exact h1
  ·rw [List.getElem?_eq_none (by simp;simpa using h1)] at h;simp at h
 rw [PB _ _ _ hj] at h
 have hl:z.toList.length=z.size:=by simp
 rw [hl] at h hj
 rw [Array.getElem?_map,Array.getElem?_range,if_pos (by rw [hm,hl];exact hj)]
 simp only [Option.map_some,Option.some.injEq]
 have cw:j % z.size<z.size:=by
  apply Nat.mod_lt
  rcases Nat.eq_zero_or_pos z.size with h0 | h0
  ·rw [h0] at hj;simp at hj
  ·exact h0
 rw [getElem!_pos z _ cw]
 simpa [cw] using h
theorem wrap_i64{i:Int}(h0:0≤i)(h1:i≤68719476736):IntKind.wrap .i64 i=i:=by
 simp [IntKind.wrap,IntKind.bits,IntKind.signed]
 omega
theorem YO{k:IntKind}{i:Int} :(asInt (.int k i)).run P w=.ok i w:=rfl
theorem wm(T:ad):(dK T T.cN).cells.toList=T.cN:=HR (ad.lJ T) ((rO (w:=default) (Z:=ah.none) (s:=⟨fun _=>.aD,fun _=>.none,[]⟩) (ι := fun _=>⟨none,0,ah.none⟩) T).ee)
theorem run_askRoom{b:Nat} :(askRoom b).run P w=.ok () w:=by
 unfold askRoom;split <;> rfl
theorem Bw{e:TypeId}{arr:Array Value} :(newRow e arr).run P w=.ok (at_ w.heap.size 0) (grown w w.drawn arr e (0,0)):=by
 simp [newRow,Go.newObj,run_bind,Sem.run,run_pure,at_,grown]
theorem run_makeSlice{T:ad}{t e:TypeId}{k k':IntKind}{m:Int}(hu:P.underlying t=some (.slice e))(cd:T.ok P e)(h0:0≤m)(h1:m≤68719476736) :
  ∃arr:Array Value,(∀(j:Nat) (v:Value),(List.replicate m.toNat T.cN).flatten[j]?=some v→arr[j]?=some v)∧arr.size=m.toNat*T.size ∧
   (Instr.makeSlice t (.int k m) (.int k' m)).run P w=.ok (.slice (some (at_ w.heap.size 0)) m.toNat m.toNat) (grown w w.drawn arr e (0,0)):=by
 obtain ⟨i,gL,fo,wo,H6⟩:=cd.info
 have hb:¬((i.bytes:Int)*m>2 ^ 48):=by
  have:(i.bytes:Int)*m≤2048*68719476736:=Int.mul_le_mul (by omega) h1 h0 (by omega)
  omega
 have yv:(dK T T.cN).cells.size=T.size:=by
  have:=congrArg List.length (wm T)
  rw [Array.length_toList,ad.lJ] at this;exact this
 refine⟨(Array.range (m.toNat*T.size)).map fun j=>(if m.toNat*T.size=0 then #[] else(dK T T.cN).cells)[j % (if m.toNat*T.size=0 then #[] else(dK T T.cN).cells).size]!,?_,by simp,?_⟩
 ·intro j v hj
  by_cases hz:m.toNat*T.size=0
  ·have:(List.replicate m.toNat T.cN).flatten=[]:=by
    apply List.eq_nil_of_length_eq_zero
    simp [ad.lJ];simpa using hz
   rw [this] at hj;simp at hj
  ·simp only [if_neg hz]
   exact H5 T.cN m.toNat (wm T) (by rw [ad.lJ]) v hj
 ·unfold Instr.makeSlice
  simp only [run_bind,run_underlying hu,YO,run_typeInfo gL,wrap_i64 h0 h1]
  have Bx:¬m<0:=by omega
  simp only [Bx,hb,decide_false,Bool.or_false,Bool.false_or,Bool.false_eq_true,if_false,gt_iff_lt,Int.lt_irrefl]
  simp only [run_bind,run_askRoom,run_sizeOf cd]
  by_cases hz:m.toNat*T.size=0
  ·simp only [if_pos hz,run_bind,run_pure,Bw]
  ·simp only [if_neg hz,run_bind,run_pure,Bw,Bp cd]
theorem YP{t:Nat}{x y:Operand}(bX:g' P E)(h:Inv w0 F0 Z0 n s a w ι Z)(ag:∀k,o.dst=some k→k<n)(ho:o.op=.makeSlice t x y)(hk:cT E id o s K=some r) :
  ∃ar,K ar=some r∧o.wp P a w (cX w0 F0 Z0 n ar) Q:=by
 unfold cT at hk
 rw [ho] at hk
 simp only at hk
 cases ht:E.ty t with
 | none=>rw [ht] at hk;simp at hk
 | some T =>
  rw [ht] at hk
  cases T with
  | sl T =>
   cases hx:kx (bV s x) with
   | none=>rw [hx] at hk;simp at hk
   | some m =>
    cases aN:kx (bV s y) with
    | none=>rw [hx,aN] at hk;simp at hk
    | some m' =>
     rw [hx,aN] at hk
     obtain ⟨aA,hk2⟩:=rQ hk
     clear hk
     have hk:=hk2
     clear hk2
     simp only [Bool.and_eq_true,decide_eq_true_eq,room] at aA
     obtain ⟨⟨h0,rfl⟩,h1⟩:=aA
     have h1:=Nat.le_of_ble_eq_true h1
     cases hm:mkObj s id (.row T T.own 0 (List.replicate m.toNat T.zero)) with
     | none=>rw [hm] at hk;simp at hk
     | some s1 =>
      rw [hm] at hk
      obtain ⟨b6,rfl⟩:=qs hm
      obtain ⟨k,hx⟩:=rP hx (e5 h x)
      obtain ⟨k',aN⟩:=rP aN (e5 h y)
      obtain ⟨e,hu,cd⟩:=lK (bX.ty t _ ht)
      obtain ⟨arr,ha,has,hr⟩:=run_makeSlice (P:=P) (w:=w) (k:=k) (k':=k') hu cd h0 (by omega)
      have hn:=h.newRow b6 (c0.replicate (H4 T T.own) (ad.lJ T) m.toNat) bL.none w.drawn arr e (0,0) m.toNat ha (by simp) (by omega) (.inl rfl) (.inr rfl)
      refine⟨_,hk,mn (v:=.slice (some (at_ w.heap.size 0)) m.toNat m.toNat) ?_ hn ?_ ag⟩
      ·unfold execOp;rw [ho]
       refine fX ?_
       rw [hx,aN];exact hr
      ·simp only [aP]
       have:=yu (w:=grown w w.drawn arr e (0,0)) (Z:=Z) (s:=s) (ι := ι) (id:=id) (em:=T.own) (ver:=0) (xs:=List.replicate m.toNat T.zero) (A:=at_ w.heap.size 0) (c:=m.toNat) (F:=(ah.run w.heap.size 0 (m.toNat*T.size)).or ah.none) rfl (by simp)
       simpa using this
  | _=>simp at hk
end
end Go.LM
namespace Go.LM
section
variable{P:Program}{Q:Exit→Act→World→Prop}
variable{w0:World}{F0 Z0:ah}{n:cC}{s ar:aq}{a b7:Act}{w w':World}{ι bb:Nat→bH}{Z Z':ah}
variable{E:Env}{o:Oper}{bu : Type}{K:aq→Option bu}{r : bu}{id:Nat}
theorem wq{k:IntKind}{t:TypeId}(h:(ad.int k).ok P t):P.underlying t=some (.int k):=by simp only [ad.ok] at h;exact h.1
theorem wu{t:TypeId}(h:ad.str.ok P t):P.underlying t=some .string:=by simp only [ad.ok] at h;exact h.1
theorem H7{w:World}{Z:ah}{k:IntKind} : ∀l:List Int,c0 ((ad.int k).al w Z .R) 1 l (l.map (Value.int k)) ah.none
 | []=>rfl
 | x :: l=>⟨[.int k x],l.map (Value.int k),ah.none,ah.none,rfl,by simp only [ad.al],rfl,H7 l,fun _ _ h=>h.elim,fun _ _ h=>h,fun _ _ h=>h⟩
theorem YQ{e:TypeId}{b:ByteArray} :
  ∃(arr:Array Value) (c d:Nat),(Conv.stringToBytes e b).run P w=.ok (.slice (some (at_ w.heap.size 0)) b.size c) (grown w d arr e (c,c+1))∧b.size≤c∧arr.size=c ∧
   ∀(j:Nat) (v:Value),((eA b.data.toList).map (Value.int .u8))[j]?=some v→arr[j]?=some v:=by
 have hq:(Question.appendCap b.size 0 e).forced=false:=rfl
 have hsz:b.data.size=b.size:=rfl
 refine⟨(b.data.map fun x=>Value.int .u8 x.toNat)++Array.replicate (b.size+w.tape w.drawn (.appendCap b.size 0 e) % (2 ^ 63-b.size)-b.size) (.int .u8 0),b.size+w.tape w.drawn (.appendCap b.size 0 e) % (2 ^ 63-b.size),w.drawn+1,?_,by omega,by simp [hsz],?_⟩
 ·unfold Conv.stringToBytes
  simp only [run_bind,choose,Sem.run,hq,Bool.false_eq_true,if_false,Question.cut]
  simp only [newRow,Go.newObj,run_bind,Sem.run,run_pure,markStringish,Go.shape,Go.freeze]
  simp only [World.shape?,Array.getElem?_push_size,Sem.run]
  simp only [World.freeze,grown]
  simp only [Nat.succ_ne_zero,if_false,Nat.one_ne_zero,Result.ok.injEq,World.mk.injEq,true_and,and_true]
  apply Array.ext_getElem?
  intro i
  rw [Array.getElem?_modify,Array.getElem?_push,Array.getElem?_push]
  by_cases hi:w.heap.size=i
  ·subst hi
   have:b.size +(w.tape w.drawn (Question.appendCap b.size 0 e) % (2 ^ 63-b.size)+b.size-b.size)=b.size+w.tape w.drawn (Question.appendCap b.size 0 e) % (2 ^ 63-b.size):=by omega
   simp [hsz]
  ·simp [hi]
   by_cases c4:i=w.heap.size
   ·exact absurd c4.symm hi
   ·simp [c4]
 ·intro j v hj
  simp only [eA,List.map_map,List.getElem?_map,Option.map_eq_some_iff] at hj
  obtain ⟨x,hx,rfl⟩:=hj
  have cw:j<b.data.size:=by
   rcases Nat.lt_or_ge j b.data.size with h | h
   ·exact h
   ·rw [List.getElem?_eq_none (by simpa using h)] at hx;simp at hx
  rw [Array.getElem?_append_left (by simpa using cw),Array.getElem?_map]
  rw [Array.getElem?_toList] at hx
  rw [hx];rfl
theorem PC{w:World}{k:IntKind}{b:Nat} : ∀ {l:List Int} {o:Nat} {F:ah},Row w (fun(y:Int) us _=>us=[Value.int k y]) 1 l b o F→b3 w b o (l.map (Value.int k))
 | [],_,_,_=>b3.nil _ _ _
 | x :: l,o,_,⟨us,G,H,h1,h2,h3,h4,_⟩=>by
  subst h1
  exact b3.cons h3.head (PC h4)
theorem YR(l:List Int):∀b:ByteArray,(l.foldl (fun r n=>r.push (UInt8.ofNat n.toNat)) b).data.toList=b.data.toList++gI l:=by
 induction l with
 | nil=>intro b;simp [gI]
 | cons x l ih =>
  intro b
  rw [List.foldl_cons,ih]
  simp [gI,ByteArray.push]
theorem YS{src dst:Nat}{x:Operand}{k1 k2:IntKind}(bX:g' P E)(h:Inv w0 F0 Z0 n s a w ι Z)(ag:∀k,o.dst=some k→k<n)(ho:o.op=.convert src dst x)(hs:E.ty src=some (.int k1))(ht:E.ty dst=some (.int k2))(hk:cT E id o s K=some r) :
  ∃ar,K ar=some r∧Pure P o a w (cX w0 F0 Z0 n ar):=by
 unfold cT at hk
 rw [ho] at hk
 simp only at hk
 have hx:=e5 h x
 have dm:=bX.ty _ _ hs
 have lM:=bX.ty _ _ ht
 cases cK:bV s x with
 | aT c =>
  rw [cK] at hx hk
  simp only [aP] at hx
  unfold rC at hk
  rw [hs,ht] at hk
  cases c with
  | int k m =>
   simp only [cj] at hx
   refine⟨_,hk,dB (v:=.int k2 (k2.wrap m)) (fun w'=>?_) h (by simp only [aP,cj]) ag⟩
   unfold execOp;rw [ho]
   refine fX ?_
   rw [hx]
   unfold convert
   simp only [run_bind,run_underlying (wq dm),run_underlying (wq lM)]
   rfl
  | _=>simp at hk
 | _=>rw [cK] at hk;unfold rC at hk;rw [hs,ht] at hk;simp at hk
theorem YT{src dst:Nat}{x:Operand}(bX:g' P E)(h:Inv w0 F0 Z0 n s a w ι Z)(ag:∀k,o.dst=some k→k<n)(ho:o.op=.convert src dst x)(hk:cT E id o s K=some r) :
  ∃ar,K ar=some r∧o.wp P a w (cX w0 F0 Z0 n ar) Q:=by
 unfold cT at hk
 rw [ho] at hk
 simp only at hk
 have hx:=e5 h x
 have hrun:∀ {u:Value} {w':World},(convert src dst (a.eval x)).run P w=.ok u w'→(execOp a.eval o).run P w=.ok (.value u) w':=by
  intro u w' hu;unfold execOp;rw [ho];exact fX hu
 cases hs:E.ty src with
 | none=>unfold rC at hk;rw [hs] at hk;simp at hk
 | some S =>
 cases ht:E.ty dst with
 | none=>unfold rC at hk;rw [hs,ht] at hk;cases S <;> simp at hk
 | some T =>
 have dm:=bX.ty _ _ hs
 have lM:=bX.ty _ _ ht
 cases cK:bV s x with
 | aT c =>
  rw [cK] at hx
  simp only [aP] at hx
  have hk1:rC E id s src dst (.aT c) (fun v s=>K (s.dst o.dst v))=some r:=by rw [← cK];exact hk
  unfold rC at hk1
  rw [hs,ht] at hk1
  split at hk1
  ·rename_i mr k m tC tD om
   obtain rfl:=aU tC
   obtain rfl:=aU tD
   simp only [a7.aT.injEq] at om;subst om
   simp only [cj] at hx
   refine⟨_,hk1,mn (hrun (u:=.int mr (mr.wrap m)) (w':=w) ?_) h (by simp only [aP,cj]) ag⟩
   rw [hx]
   unfold convert
   simp only [run_bind,run_underlying (wq dm),run_underlying (wq lM)]
   rfl
  ·rename_i b tC tD om
   obtain rfl:=aU tC
   obtain rfl:=aU tD
   simp only [a7.aT.injEq] at om;subst om
   obtain ⟨kA,hx,od⟩:=hx
   refine⟨_,hk1,mn (hrun (u:=a.eval x) (w':=w) ?_) h (by simp only [aP];exact⟨kA,hx,od⟩) ag⟩
   rw [hx]
   unfold convert
   simp only [run_bind,run_underlying (wu dm),run_underlying (wu lM)]
   rfl
  ·rename_i b tC tD om
   obtain rfl:=aU tC
   obtain rfl:=aU tD
   simp only [a7.aT.injEq] at om;subst om
   obtain ⟨kA,hx,rfl⟩:=hx
   obtain ⟨e,hu,cd⟩:=lK lM
   cases hm:mkObj s id (.row (.int .u8) .R 0 (eA kA.data.toList)) with
   | none=>rw [hm] at hk1;simp at hk1
   | some s1 =>
    rw [hm] at hk1
    obtain ⟨b6,rfl⟩:=qs hm
    obtain ⟨arr,c,d,hr,hc,has,hv⟩:=YQ (P:=P) (w:=w) (e:=e) (b:=kA)
    have hlen:(eA kA.data.toList).length=kA.size:=by simp [eA]
    have hn:=h.newRow b6 (t:=.int .u8) (em:=.R) (H7 (eA kA.data.toList)) bL.none d arr e (c,c+1) c hv (by rw [hlen];exact hc) (by simp only [ad.size];omega) (.inr (by simp [ad.size])) (.inl rfl)
    refine⟨_,hk1,mn (hrun (u:=.slice (some (at_ w.heap.size 0)) kA.size c) ?_) hn ?_ ag⟩
    ·rw [hx]
     unfold convert
     simp only [run_bind,run_underlying (wu dm),run_underlying hu,run_underlying (wq cd)]
     exact hr
    ·simp only [aP]
     have:=yu (w:=grown w d arr e (c,c+1)) (Z:=Z) (s:=s) (ι := ι) (id:=id) (em:=.R) (ver:=0) (t:=.int .u8) (xs:=eA kA.data.toList) (A:=at_ w.heap.size 0) (c:=c) (F:=(ah.run w.heap.size 0 (c*(ad.int .u8).size)).or ah.none) rfl (by rw [hlen];exact hc)
     rw [hlen] at this
     exact this
  ·rename_i c' tC tD om
   obtain rfl:=aU tC
   obtain rfl:=aU tD
   simp only [a7.aT.injEq] at om;subst om
   obtain ⟨e,hu,cd⟩:=lK dm
   cases hl:pe s (.int .u8) c with
   | none=>rw [hl] at hk1;simp at hk1
   | some xs =>
    rw [hl] at hk1
    simp only at hk1
    obtain ⟨cM,_,_⟩:=HB h hl hx
    simp only [ad.al] at cM
    obtain ⟨A,rS,hv,hrow⟩:=cM
    simp only [List.cons.injEq,and_true] at hv
    have PD:(convert src dst (a.eval x)).run P w=(Conv.bytesToString (a.eval x)).run P w:=by
     rw [hv]
     exact run_convert_bytes_string w src dst e A xs.length rS hu (wq cd) (wu lM)
    rcases hrow with rfl | ⟨a0,rfl,hsp,hrow,_,_⟩
    ·refine⟨_,hk1,mn (v:=.string .empty) (w':=w) (hrun ?_) h ?_ ag⟩
     ·rw [PD,hv]
      cases A with
      | none=>rfl
      | some A =>
       exact run_bytesToString w A 0 rS [] (by rfl)
     ·simp only [aP,cj]
      exact⟨_,rfl,rfl⟩
    ·obtain ⟨cO,dP,sp⟩:=a0
     simp only at hsp
     subst hsp
     have hc:=PC (k:=.u8) (by simpa only [ad.size] using hrow)
     have PE:=run_loadCells (P:=P) hc
     rw [List.length_map] at PE
     refine⟨_,hk1,mn (v:=.string (xs.foldl (fun r n=>r.push (UInt8.ofNat n.toNat)) ByteArray.empty)) (w':=w) (hrun ?_) h ?_ ag⟩
     ·rw [PD,hv]
      exact run_bytesToString w _ xs.length rS xs PE
     ·simp only [aP,cj]
      exact⟨_,rfl,by rw [YR];rfl⟩
  ·simp at hk1
 | _ =>
  exfalso
  rw [cK,rC.eq_def,hs,ht] at hk
  split at hk <;> simp_all
theorem H8{gY:Bool}{k:IntKind} : ∀(l:List a7) (x:Int) (vs:List Value) (k':IntKind) (z:Int),aX w Z s ι l vs→tn gY k x l=some (k',z) →
  (vs.foldlM (if gY then Builtin.max2 else Builtin.min2) (.int k x)).run P w'=.ok (.int k' z) w'
 | [],x,vs,k',z,hr,h=>by
  simp only [aX] at hr;subst hr
  simp only [tn,Option.some.injEq,Prod.mk.injEq] at h
  obtain ⟨rfl,rfl⟩:=h
  rfl
 | v :: l,x,vs,k',z,hr,h=>by
  simp only [aX] at hr
  obtain ⟨u,us,rfl,h1,h2⟩:=hr
  cases v with
  | aT c =>
   cases c with
   | int PF y =>
    simp only [tn] at h
    simp only [aP,cj] at h1
    subst h1
    rw [List.foldlM_cons,run_bind]
    have ih:=H8 l _ us k' z h2 h
    cases gY
    ·exact ih
    ·exact ih
   | _=>simp [tn] at h
  | _=>simp [tn] at h
theorem tE(h:Inv w0 F0 Z0 n s a w ι Z):∀l:List Operand,aX w Z s ι (l.map (bV s)) (l.map a.eval)
 | []=>by simp only [List.map_nil,aX]
 | x :: l=>by simp only [List.map_cons,aX];exact⟨_,_,rfl,e5 h x,tE h l⟩
theorem PG{b:Builtin}{c:Call}(bX:g' P E)(h:Inv w0 F0 Z0 n s a w ι Z)(ag:∀k,o.dst=some k→k<n)(ho:o.op=.call c)(hb:c.callee=.builtin b)(hne:b≠.append)(YU:b≠.clear)(hk:cT E id o s K=some r) :
  ∃ar,K ar=some r∧Pure P o a w (cX w0 F0 Z0 n ar):=by
 unfold cT at hk
 rw [ho] at hk
 simp only [hb] at hk
 have hvs:=tE h c.args.toList
 have hrun:∀ {u:Value} {cs:Array Bool} {w:World},(builtin b c.argTypes o.type (c.args.map fun | .const _=>true | _=>false) (c.args.map a.eval)).run P w=.ok (.value u) w→(execOp a.eval o).run P w=.ok (.value u) w:=by
  intro u _ w hu
  unfold execOp;rw [ho]
  simp only [run_bind,resolve,hb,run_pure,invoke]
  exact hu
 have lN:(c.args.map a.eval).toList=c.args.toList.map a.eval:=by simp
 cases b with
 | append=>exact absurd rfl hne
 | clear=>exact absurd rfl YU
 | len =>
  generalize hl:c.args.toList.map (bV s)=l at hk hvs
  match l,hk,hvs with
  | [.aT j5],hk,hvs =>
   simp only [j3] at hk
   cases gM:c.argTypes.toList with
   | nil=>rw [gM] at hk;simp at hk
   | cons t aj =>
    rw [gM] at hk
    simp only at hk
    cases ht:E.ty t with
    | none=>rw [ht] at hk;simp at hk
    | some T =>
     rw [ht] at hk
     simp only at hk
     cases hf:kV s T j5
     ·rw [hf] at hk;simp at hk
     rw [hf] at hk
     simp only [cond_true] at hk
     cases hlen:n8 s j5 with
     | none=>rw [hlen] at hk;simp at hk
     | some m =>
      rw [hlen] at hk
      simp only [aX,aP] at hvs
      obtain ⟨u,us,he,hc,rfl⟩:=hvs
      have nm:(c.args.map a.eval)[0]?=some u:=by rw [← Array.getElem?_toList,lN,he];rfl
      have pw:c.argTypes[0]?=some t:=by rw [← Array.getElem?_toList,gM];rfl
      have cd:=bX.ty _ _ ht
      refine⟨_,hk,dB (v:=.int .i64 m) (fun w'=>hrun (cs := #[]) ?_) h (by simp only [aP,cj]) ag⟩
      unfold builtin
      refine fX ?_
      unfold Builtin.len_
      rw [nm,pw]
      simp only
      have YV:T=.str∨∃u,T=.sl u:=by
       cases j5 <;> simp only [kV] at hf <;> try (simp at hf;done)
       ·exact .inl (beq_eq hf)
       ·exact .inr ⟨_,beq_eq hf⟩
       ·exact .inr ⟨_,beq_eq hf⟩
       ·split at hf
        ·exact .inr ⟨_,beq_eq hf⟩
        ·simp at hf
      rcases YV with rfl | ⟨v,rfl⟩
      ·rw [run_bind,run_underlying (wu cd)]
       cases j5 <;> simp only [kV] at hf <;> try (simp [ad.beq] at hf;done)
       ·obtain ⟨kA,rfl,rfl⟩:=hc
        simp only [n8,Option.some.injEq] at hlen
        subst hlen
        rfl
       ·split at hf <;> simp [ad.beq] at hf
      ·obtain ⟨e,hu,_⟩:=lK cd
       rw [run_bind,run_underlying hu]
       obtain ⟨A,k,rfl,_⟩:=H0 rfl hf hlen hc
       rfl
  | [],hk,_=>simp [j3] at hk
  | _ :: _ :: _,hk,_=>simp [j3] at hk
  | [.aD],hk,_ | [.iC _],hk,_ | [.ptr _],hk,_ | [.di _ _ _],hk,_ | [.j1],hk,_ | [.kS],hk,_ | [.opt _ _],hk,_ | [.may _ _ _],hk,_ | [.ry _],hk,_ | [.fn _ _ _],hk,_ | [.pb _],hk,_=>simp [j3] at hk
 | max =>
  simp only [j3] at hk
  cases hm:vR true (c.args.toList.map (bV s)) with
  | none=>rw [hm] at hk;simp at hk
  | some q =>
   obtain ⟨k,z⟩:=q
   rw [hm] at hk
   simp only at hk
   refine⟨_,hk,dB (v:=.int k z) (fun w'=>hrun (cs := #[]) ?_) h (by simp only [aP,cj]) ag⟩
   unfold builtin
   refine fX ?_
   unfold Builtin.max_
   rw [lN]
   generalize c.args.toList.map (bV s)=l at hm hvs
   generalize c.args.toList.map a.eval=vs at hvs
   unfold vR at hm
   split at hm
   ·simp only [aX,aP,cj] at hvs
    obtain ⟨u,us,rfl,rfl,h2⟩:=hvs
    exact H8 _ _ us k z h2 hm
   ·simp at hm
 | min =>
  simp only [j3] at hk
  cases hm:vR false (c.args.toList.map (bV s)) with
  | none=>rw [hm] at hk;simp at hk
  | some q =>
   obtain ⟨k,z⟩:=q
   rw [hm] at hk
   simp only at hk
   refine⟨_,hk,dB (v:=.int k z) (fun w'=>hrun (cs := #[]) ?_) h (by simp only [aP,cj]) ag⟩
   unfold builtin
   refine fX ?_
   unfold Builtin.min_
   rw [lN]
   generalize c.args.toList.map (bV s)=l at hm hvs
   generalize c.args.toList.map a.eval=vs at hvs
   unfold vR at hm
   split at hm
   ·simp only [aX,aP,cj] at hvs
    obtain ⟨u,us,rfl,rfl,h2⟩:=hvs
    exact H8 _ _ us k z h2 hm
   ·simp at hm
 | _=>simp [j3] at hk
end
end Go.LM
namespace Go.LM
theorem PH{α : Type} : ∀(B:List (List α)) (i:Nat) (b cs:List α),B[i]?=some b→cs.length=b.length→(B.set i cs).flatten=c_ B.flatten (B.take i).flatten.length cs
 | [],i,b,cs,h,_=>by simp at h
 | x :: B,0,b,cs,h,hl=>by
  simp at h;subst h
  simp only [List.set_cons_zero,List.flatten_cons,List.take_zero,List.flatten_nil,List.length_nil]
  unfold c_
  simp [hl]
 | x :: B,i+1,b,cs,h,hl=>by
  simp only [List.getElem?_cons_succ] at h
  simp only [List.set_cons_succ,List.flatten_cons,List.take_succ_cons,List.length_append]
  rw [O3 (by omega),PH B i b cs h hl]
  congr 2;omega
theorem YW{α : Type}{B:List (List α)}{i:Nat}{b:List α}(h:B[i]?=some b):(B.take i).flatten.length+b.length≤B.flatten.length:=by
 induction B generalizing i with
 | nil=>simp at h
 | cons x B ih =>
  cases i with
  | zero=>simp at h;subst h;simp
  | succ i =>
   simp only [List.getElem?_cons_succ] at h
   have:=ih h
   simp only [List.take_succ_cons,List.flatten_cons,List.length_append];omega
theorem PI:∀(vs:List Value) (k off:Nat) (cells:Array Value),off+k+vs.length≤cells.size →
  ((vs.zipIdx k).foldl (fun cs (c,j)=>cs.setIfInBounds (off+j) c) cells).toList=c_ cells.toList (off+k) vs
 | [],k,off,cells,_=>by simp [Bn]
 | v :: vs,k,off,cells,h=>by
  simp only [List.length_cons] at h
  rw [List.zipIdx_cons,List.foldl_cons,PI vs (k+1) off _ (by simp;omega)]
  simp only [Array.toList_setIfInBounds]
  have cw:off+k<cells.toList.length:=by simp;omega
  apply List.ext_getElem?
  intro j
  unfold c_
  simp only [List.getElem?_append,List.length_append,List.length_take,List.length_set,List.length_cons,List.getElem?_take,List.getElem?_drop,List.getElem?_set]
  have rT:min (off +(k+1)) cells.toList.length=off+k+1:=by omega
  have wh:min (off+k) cells.toList.length=off+k:=by omega
  rw [rT,wh]
  by_cases h1:j<off+k
  ·have:j≠off+k:=by omega
   simp [show j<off+k+1+vs.length by omega,show j<off+k+1 by omega,show j<off +(k+1) by omega,show j<off+k +(vs.length+1) by omega,h1,Ne.symm this]
  ·by_cases h2:j=off+k
   ·subst h2
    simp only [Array.length_toList] at cw
    simp [show off+k<off+k+1+vs.length by omega,show off+k<off +(k+1) by omega,cw]
   ·by_cases h3:j<off+k+1+vs.length
    ·rw [if_pos h3,if_neg (show ¬j<off+k+1 by omega),if_pos (show j<off+k +(vs.length+1) by omega),if_neg h1]
     rw [show j-(off+k)=(j-(off+k+1))+1 by omega,List.getElem?_cons_succ]
    ·rw [if_neg h3,if_neg (show ¬j<off+k +(vs.length+1) by omega)]
     rw [if_neg (by omega)]
     congr 1;omega
def H9(place:Nat→Option (Nat×Nat))(ty:Nat→Option ad)(lens:List Nat):Prop :=
 ∀i t,ty i=some t→place i=some ((lens.take i).sum,t.size)∧lens[i]?=some t.size
section
variable{P:Program}{Q:Exit→Act→World→Prop}
variable{w0:World}{F0 Z0:ah}{n:cC}{s ar:aq}{a b7:Act}{w w':World}{ι bb:Nat→bH}{Z Z':ah}
variable{E:Env}{o:Oper}{bu : Type}{K:aq→Option bu}{r : bu}{id:Nat}
theorem YX{α : Type}(B:List (List α)):B.flatten.length=(B.map List.length).sum:=by simp [List.length_flatten]
theorem H_(h:Inv w0 F0 Z0 n s a w ι Z){place:Nat→Option (Nat×Nat)}{ty:Nat→Option ad}{lens:List Nat}(fZ:H9 place ty lens) :
  ∀(ps:List (Nat×Operand)) (B nn:List (List a_)) (cells:Array Value),B.map List.length=lens→bM w Z s ι B.flatten cells.toList→rA s ty ps B=some nn →
   ∃np,Instr.fill place cells (ps.map fun p=>(p.1,a.eval p.2))=some np∧bM w Z s ι nn.flatten np.toList∧nn.map List.length=lens
 | [],B,nn,cells,hl,hc,hf=>by
  simp only [rA,Option.some.injEq] at hf;subst hf
  exact⟨cells,rfl,hc,hl⟩
 | (i,x) :: ps,B,nn,cells,hl,hc,hf=>by
  simp only [rA] at hf
  cases ht:ty i with
  | none=>rw [ht] at hf;simp at hf
  | some t =>
   rw [ht] at hf
   simp only at hf
   cases hcs:iX t (bV s x) with
   | none=>rw [hcs] at hf;simp at hf
   | some cs =>
    rw [hcs] at hf
    simp only at hf
    cases hb:Nat.beq cs.length t.size
    ·rw [hb] at hf;simp at hf
    rw [hb] at hf
    simp only [cond_true] at hf
    have hb:=Nat.eq_of_beq_eq_true hb
    obtain ⟨au,qt⟩:=fZ i t ht
    have hx:=rN hcs (e5 h x)
    have hxl:=hx.len
    rw [hb] at hxl
    have YY:∃b,B[i]?=some b∧b.length=t.size:=by
     rw [← hl,List.getElem?_map] at qt
     cases wv:B[i]? with
     | none=>rw [wv] at qt;simp at qt
     | some b=>rw [wv] at qt;simp at qt;exact⟨b,rfl,qt⟩
    obtain ⟨b,wv,By⟩:=YY
    have fA:(B.take i).flatten.length=(lens.take i).sum:=by rw [YX,← hl,List.map_take]
    have hle:=YW wv
    have hcl:=hc.len
    simp only [Array.length_toList] at hxl hcl
    have hnew:bM w Z s ι (B.set i cs).flatten (c_ cells.toList (lens.take i).sum (a.eval x).cells.toList):=by
     rw [PH B i b cs wv (by omega),fA]
     unfold c_
     have:=bM.c_ hc hx (lens.take i).sum
     unfold c_ at this
     exact this
    have YZ:(B.set i cs).map List.length=lens:=by
     rw [List.map_set,hl]
     apply List.ext_getElem?
     intro j
     rw [List.getElem?_set]
     by_cases hj:i=j
     ·subst hj
      rw [qt,if_pos rfl]
      have:i<lens.length:=by
       rcases Nat.lt_or_ge i lens.length with h | h
       ·exact h
       ·rw [List.getElem?_eq_none h] at qt;simp at qt
      rw [if_pos this,hb]
     ·rw [if_neg hj]
    have Y0:=PI (a.eval x).cells.toList 0 (lens.take i).sum cells (by simp;omega)
    have ih:=H_ h fZ ps (B.set i cs) nn (((a.eval x).cells.zipIdx).foldl (fun cs (c,j)=>cs.setIfInBounds ((lens.take i).sum+j) c) cells) YZ (by
     rw [← Array.foldl_toList,Array.toList_zipIdx]
     rw [Y0];exact hnew) hf
    obtain ⟨np,h1,h2,h3⟩:=ih
    refine⟨np,?_,h2,h3⟩
    rw [List.map_cons]
    unfold Instr.fill
    rw [au]
    simp only
    rw [if_neg (by simp only [Bool.or_eq_true,decide_eq_true_eq,not_or,ne_eq,Decidable.not_not];omega)]
    exact h1
def ax.places:ax→Nat→List (Nat×Nat)
 | .nil,_=>[]
 | .cons t aj,off=>(off,t.size) :: ax.places aj (off+t.size)
theorem PJ:∀(aj:ax) (cp:List Field) (off:Nat),aj.okF P cp off→cp.mapM (fun f=>(P.info? f.type).map fun i=>(f.offset,i.size))=some (aj.places off)
 | .nil,cp,off,h=>by simp only [ax.okF] at h;subst h;rfl
 | .cons t aj,cp,off,h=>by
  simp only [ax.okF] at h
  obtain ⟨f,lI,rfl,rfl,h1,h2⟩:=h
  obtain ⟨i,hi,hsz,_⟩:=h1.info
  have ih:=PJ aj lI _ h2
  simp only [List.mapM_cons,hi,Option.map_some,ih,ax.places,hsz]
  rfl
theorem PK:∀aj:ax,aj.n9.flatten=aj.jt
 | .nil=>rfl
 | .cons t aj=>by simp only [ax.n9,ax.jt,List.flatten_cons,PK aj]
theorem H'(t:ad):t.jt.length=t.size:=by
 have:=(rO (w:=default) (Z:=ah.none) (s:=⟨fun _=>.aD,fun _=>.none,[]⟩) (ι := fun _=>⟨none,0,ah.none⟩) t).len
 rw [← this,ad.lJ]
theorem PL:∀(aj:ax) (off:Nat) (i:Nat) (t:ad),aj.nth i=some t→(aj.places off)[i]?=some (off +((aj.n9.map List.length).take i).sum,t.size)∧(aj.n9.map List.length)[i]?=some t.size
 | .nil,_,_,_,h=>by simp [ax.nth] at h
 | .cons u aj,off,0,t,h=>by
  simp only [ax.nth,Option.some.injEq] at h;subst h
  simp [ax.places,ax.n9,H']
 | .cons u aj,off,i+1,t,h=>by
  simp only [ax.nth] at h
  obtain ⟨h1,h2⟩:=PL aj (off+u.size) i t h
  simp only [ax.places,ax.n9,List.map_cons,List.getElem?_cons_succ,List.take_succ_cons,List.sum_cons,H']
  exact⟨by rw [h1];simp;omega,h2⟩
theorem PM{t:Nat}{parts:Array (Nat×Operand)}(bX:g' P E)(h:Inv w0 F0 Z0 n s a w ι Z)(ag:∀k,o.dst=some k→k<n)(ho:o.op=.build t parts)(hk:cT E id o s K=some r) :
  ∃ar,K ar=some r∧Pure P o a w (cX w0 F0 Z0 n ar):=by
 unfold cT at hk
 rw [ho] at hk
 simp only at hk
 cases ht:E.ty t with
 | none=>rw [ht] at hk;simp at hk
 | some T =>
  rw [ht] at hk
  cases T with
  | st aj =>
   simp only at hk
   cases hf:rA s aj.nth parts.toList aj.n9 with
   | none=>rw [hf] at hk;simp at hk
   | some B =>
    rw [hf] at hk
    have cd:=bX.ty t _ ht
    obtain ⟨it,gL,fo,wo,H6⟩:=cd.info
    simp only [ad.ok] at cd
    obtain ⟨_,cp,hu,kZ⟩:=cd
    have fH:=PJ aj cp.toList 0 kZ
    have By:H9 ((aj.places 0).toArray[·]?) aj.nth (aj.n9.map List.length):=by
     intro i dn hi
     have:=PL aj 0 i dn hi
     simpa using this
    obtain ⟨np,h1,h2,h3⟩:=H_ h By parts.toList aj.n9 B (dK (.st aj) (ad.st aj).cN).cells rfl (by
     rw [PK,wm];exact rO (.st aj)) hf
    refine⟨_,hk,dB (v:=.agg np) (fun w'=>?_) h (by simp only [aP];exact⟨np.toList,rfl,h2⟩) ag⟩
    unfold execOp;rw [ho]
    refine fX ?_
    refine run_build w' t _ np ?_
    unfold Program.built
    rw [gL,hu]
    simp only [wo,fH]
    rw [← h1]
    congr 1
    simp
  | _=>simp at hk
theorem PN{t:ad}{m:ba}{x:t.D}{us:List Value}{F:ah}(h:t.al w (Z.or (df ι [])) m x us F):t.al w Z m x us F :=
 ad.al.mono (fun b o hz=>by rcases hz with h | ⟨d,ag,_⟩;exact h;simp at ag) t m (fun _ _ h=>h) h
theorem PO:∀(B:List (List a_)) (t:ad) (m:ba) (s s1:aq) (xs:List t.D) (vs:List Value) (Z:ah),qi t m B s=some (xs,s1)→Inv w0 F0 Z0 n s a w ι Z→bM w Z s ι B.flatten vs →
  ∃F Z',Inv w0 F0 Z0 n s1 a w ι Z'∧fb s ι Z s1 Z'∧bL w0 F0 s1 w ι Z' F∧c0 (t.al w Z' m) t.size xs vs F∧∀b o,F b o→∃id,(s.o id).live∧(ι id).F b o
 | [],t,m,s,s1,xs,vs,Z,hi,h,hc=>by
  simp only [qi,Option.some.injEq,Prod.mk.injEq] at hi
  obtain ⟨rfl,rfl⟩:=hi
  cases vs with
  | nil=>exact⟨ah.none,Z,h,.refl,.none,rfl,fun _ _ h=>h.elim⟩
  | cons v vs=>exact hc.elim
 | cs :: B,t,m,s,s1,xs,vs,Z,hi,h,hc=>by
  simp only [qi] at hi
  obtain ⟨r,hr,hi⟩:=bf hi
  rw [List.flatten_cons] at hc
  obtain ⟨us,aj,rfl,qp,hcu,Y1⟩:=hc.split
  obtain ⟨aS,bJ,F,cq,he,h1,hs1,hc1,oo,cM,_,PQ,_,hF⟩:=ad.lF t false m cs s [] r us Z hr h hcu (by simp)
  cases en:r.2.1 with
  | cons c l=>rw [en] at hi;simp at hi
  | nil =>
   rw [en] at hi hc1
   simp only at hi
   obtain ⟨q,hq,hi⟩:=bf hi
   simp only [Option.some.injEq,Prod.mk.injEq] at hi
   obtain ⟨rfl,rfl⟩:=hi
   cases bJ with
   | cons v l=>exact hc1.elim
   | nil =>
    rw [List.append_nil] at he
    subst he
    rw [PQ rfl] at cM
    have cM:=PN cM
    obtain ⟨G,bN,h2,oq,hf2,hels,hG⟩:=PO B t m r.2.2.1 q.2 q.1 aj cq hq h1 (Ys hs1 Y1)
    refine⟨F.or G,bN,h2,hs1.trans oq,(oo.shrink oq).or hf2,⟨us,aj,F,G,rfl,ad.al.mono oq.dI t m (fun _ _ h=>h) cM,(ad.al.len t m cM).1,hels,?_,fun _ _ h=>.inl h,fun _ _ h=>.inr h⟩,?_⟩
    ·intro b o hb aA
     obtain ⟨j,hj,yw⟩:=hG b o aA
     exact oo.apart j hj b o hb yw
    ·rintro b o (hb | hb)
     ·exact hF b o hb
     ·obtain ⟨j,hj,yw⟩:=hG b o hb
      obtain ⟨g1,g2⟩:=hs1.live hj
      exact⟨j,g1,yw⟩
theorem PR{t:ad}{m:ba} : ∀(B:List (List a_)) (s:aq) {xs:List t.D} {s1:aq},qi t m B s=some (xs,s1)→xs.length=B.length
 | [],s,xs,s1,h=>by simp only [qi,Option.some.injEq,Prod.mk.injEq] at h;rw [← h.1];rfl
 | cs :: B,s,xs,s1,h=>by
  simp only [qi] at h
  obtain ⟨r,hr,h⟩:=bf h
  split at h
  ·obtain ⟨q,hq,h⟩:=bf h
   simp only [Option.some.injEq,Prod.mk.injEq] at h
   rw [← h.1,List.length_cons,List.length_cons,PR B _ hq]
  ·simp at h
theorem Y2{T:ad}{t e len:Nat}{parts:Array (Nat×Value)}{cells:Array Value}(hu:P.underlying t=some (.slice e))(cd:T.ok P e)(hs:len*T.size≤16777216)
  (hf:Instr.fill (fun i=>some (i*T.size,T.size)) ((Array.range (len*T.size)).map ((if len*T.size=0 then #[] else(dK T T.cN).cells)[· % (if len*T.size=0 then #[] else(dK T T.cN).cells).size]!)) parts.toList=some cells) :
  (Instr.buildSlice t len parts).run P w=.ok (.slice (some (at_ w.heap.size 0)) len len) (grown w w.drawn cells e (0,0)):=by
 unfold Instr.buildSlice
 simp only [run_bind,run_underlying hu,run_sizeOf cd]
 rw [if_neg (by omega)]
 by_cases hz:len*T.size=0
 ·simp only [hz,if_true] at hf ⊢
  simp only [run_bind,run_pure,hf,Bw]
 ·simp only [hz,if_false] at hf ⊢
  simp only [run_bind,run_pure,Bp cd,hf,Bw]
theorem Y3{t len:Nat}{parts:Array (Nat×Operand)}(bX:g' P E)(h:Inv w0 F0 Z0 n s a w ι Z)(ag:∀k,o.dst=some k→k<n)(ho:o.op=.buildSlice t len parts)(hk:cT E id o s K=some r) :
  ∃ar,K ar=some r∧o.wp P a w (cX w0 F0 Z0 n ar) Q:=by
 unfold cT at hk
 rw [ho] at hk
 simp only at hk
 cases ht:E.ty t with
 | none=>rw [ht] at hk;simp at hk
 | some S =>
  rw [ht] at hk
  cases S with
  | sl T =>
   simp only at hk
   cases hle:Nat.ble (len*T.size) 16777216
   ·rw [hle] at hk;simp at hk
   rw [hle] at hk
   simp only [cond_true] at hk
   have hle:=Nat.le_of_ble_eq_true hle
   cases hf:rA s (fun i=>cond (Nat.blt i len) (some T) none) parts.toList (List.replicate len T.jt) with
   | none=>rw [hf] at hk;simp at hk
   | some B =>
    rw [hf] at hk
    simp only at hk
    generalize hm:Hl T s B=m at hk
    cases hi:qi T m B s with
    | none=>rw [hi] at hk;simp at hk
    | some q =>
     obtain ⟨xs,s1⟩:=q
     rw [hi] at hk
     simp only at hk
     cases nj:mkObj s1 id (.row T m 0 xs) with
     | none=>rw [nj] at hk;simp at hk
     | some s2 =>
      rw [nj] at hk
      obtain ⟨b6,rfl⟩:=qs nj
      obtain ⟨e,hu,cd⟩:=lK (bX.ty t _ ht)
      have By:H9 (fun i=>some (i*T.size,T.size)) (fun i=>cond (Nat.blt i len) (some T) none) (List.replicate len T.size):=by
       intro i dn hi
       have hi:cond (Nat.blt i len) (some T) none=some dn:=hi
       cases hb:Nat.blt i len
       ·rw [hb] at hi;simp at hi
       ·rw [hb] at hi
        simp only [cond_true,Option.some.injEq] at hi
        subst hi
        have cw:i<len:=Nat.lt_of_lt_of_le (Nat.lt_succ_self i) (Nat.le_of_ble_eq_true hb)
        refine⟨?_,by simp [List.getElem?_replicate,cw]⟩
        rw [List.take_replicate,Nat.min_eq_left (by omega)]
        simp
      have Y4:∀k,bM w Z s ι (List.replicate k T.jt).flatten (List.replicate k T.cN).flatten:=by
       intro k
       induction k with
       | zero=>exact trivial
       | succ k ih=>rw [List.replicate_succ,List.replicate_succ,List.flatten_cons,List.flatten_cons];exact(rO T).append ih
      have hcells:((Array.range (len*T.size)).map ((if len*T.size=0 then #[] else(dK T T.cN).cells)[· % (if len*T.size=0 then #[] else(dK T T.cN).cells).size]!)).toList=(List.replicate len T.cN).flatten:=by
       apply List.ext_getElem?
       intro j
       have fp:(List.replicate len T.cN).flatten.length=len*T.size:=by simp [ad.lJ]
       by_cases hj:j<len*T.size
       ·have hz:¬len*T.size=0:=by omega
        simp only [if_neg hz]
        obtain ⟨v,hv⟩:∃v,(List.replicate len T.cN).flatten[j]?=some v:=⟨_,List.getElem?_eq_getElem (by omega)⟩
        rw [hv,Array.getElem?_toList]
        exact H5 T.cN len (wm T) (by rw [ad.lJ]) v hv
       ·rw [List.getElem?_eq_none (by simp;omega),List.getElem?_eq_none (by omega)]
      obtain ⟨np,h1,h2,h3⟩:=H_ h By parts.toList (List.replicate len T.jt) B _ (by simp [H']) (by rw [hcells];exact Y4 len) hf
      obtain ⟨F,cq,gL,hs1,oo,hels,_⟩:=PO B T m s s1 xs _ Z hi h h2
      have hxl:xs.length=len:=by
       have e1:B.length=len:=by have:=congrArg List.length h3;simpa using this
       rw [← e1];exact PR B s hi
      have hcs:len*T.size≤np.size:=by
       have:=hels.len
       simp only [Array.length_toList] at this
       rw [hxl] at this;omega
      have hn:=gL.newRow b6 hels oo w.drawn np e (0,0) len (fun j v hv=>by simpa using hv) (by omega) hcs (.inl rfl) (.inr rfl)
      refine⟨_,hk,mn (v:=.slice (some (at_ w.heap.size 0)) len len) ?_ hn ?_ ag⟩
      ·unfold execOp;rw [ho]
       refine fX ?_
       refine Y2 hu cd hle ?_
       rw [← h1]
       congr 1
       simp
      ·simp only [aP]
       have:=yu (w:=grown w w.drawn np e (0,0)) (Z:=cq) (s:=s1) (ι := ι) (id:=id) (em:=m) (ver:=0) (xs:=xs) (A:=at_ w.heap.size 0) (c:=len) (F:=(ah.run w.heap.size 0 (len*T.size)).or F) rfl (by omega)
       rw [hxl] at this
       exact this
  | _=>simp at hk
end
end Go.LM
namespace Go.LM
section
variable{P:Program}{Q:Exit→Act→World→Prop}
variable{w0:World}{F0 Z0:ah}{n:cC}{s ar:aq}{a b7:Act}{w w':World}{ι bb:Nat→bH}{Z Z':ah}
variable{E:Env}{o:Oper}{bu : Type}{K:aq→Option bu}{r : bu}{id:Nat}
theorem Inv.Bz(h:Inv w0 F0 Z0 n s a w ι Z){S:ah}(hF:bL w0 F0 s w ι Z S)(hx:Ext w w' S):Inv w0 F0 Z0 n s a w' ι Z:=by
 have hm:eI w Z s ι w' Z s ι := by
  refine⟨fun id=>.stay _ _,fun _ _ h=>h,b4.jb hx h.rK ?_⟩
  rintro b o (hz | ⟨id,hl,_,_,hf⟩) hs
  ·exact hF.c2 b o hs hz
  ·exact hF.apart id hl b o hs hf
 refine h.next hm hx (fun b o hs=>(hF.own b o hs).1) (fun _ _ h=>.inl h) ?_ h.c2 (fun k=>(h.tmps k).move hm) h.size h.defers
 intro id _ hne;exact absurd ⟨rfl,rfl⟩ hne
theorem Inv.freeze(h:Inv w0 F0 Z0 n s a w ι Z){S:ah}(hF:bL w0 F0 s w ι Z S):Inv w0 F0 Z0 n s a w ι (Z.or S):=by
 have hm:eI w Z s ι w (Z.or S) s ι :=⟨fun id=>.stay _ _,fun _ _ h=>.inl h,b4.refl _ _⟩
 refine h.next hm (Ext.refl _ ah.none) (fun _ _ h=>h.elim) ?_ ?_ ?_ (fun k=>(h.tmps k).move hm) h.size h.defers
 ·rintro b o (hz | hs)
  ·exact .inl hz
  ·exact .inr (hF.own b o hs)
 ·intro id _ hne;exact absurd ⟨rfl,rfl⟩ hne
 ·rintro id hl b o h1 (h2 | h2)
  ·exact h.c2 id hl b o h1 h2
  ·exact hF.apart id hl b o h2 h1
theorem bL.freeze{F S:ah}(hF:bL w0 F0 s w ι Z F)(ha:ah.apart F S):bL w0 F0 s w ι (Z.or S) F :=
 ⟨hF.own,hF.apart,fun b o h1 h2=>h2.elim (hF.c2 b o h1) (ha b o h1)⟩
theorem bL.sub{F G:ah}(hF:bL w0 F0 s w ι Z F)(h:ah.sub G F):bL w0 F0 s w ι Z G :=
 ⟨fun b o aA=>hF.own b o (h b o aA),fun id hl b o aA=>hF.apart id hl b o (h b o aA),fun b o aA=>hF.c2 b o (h b o aA)⟩
def ah.diff(F G:ah):ah:=fun b o=>F b o∧¬G b o
theorem A_{t:ad}{m:ba} : ∀ {xs:List t.D} {vs:List Value} {F:ah},c0 (t.al w Z m) t.size xs vs F→∀v∈vs,ee v=true
 | [],_,_,h=>by simp only [c0] at h;subst h;simp
 | x :: xs,_,_,⟨us,aj,G,H,h1,h2,h3,h4,_⟩=>by
  subst h1
  intro v hv
  rcases List.mem_append.1 hv with h | h
  ·exact(ad.al.len t m h2).2 v h
  ·exact A_ h4 v h
theorem rr{A:Option Addr}{size m c:Nat}{vs:List Value}(hl:vs.length=m*size)(h:m=0∨∃b o,A=some (at_ b o)∧b3 w b o vs) :
  (Builtin.firstCells size m (.slice A m c)).run P w=.ok vs.toArray w:=by
 unfold Builtin.firstCells
 rcases h with rfl | ⟨b,o,rfl,hc⟩
 ·have:vs=[]:=List.eq_nil_of_length_eq_zero (by simpa using hl)
  subst this
  cases A with
  | none=>rfl
  | some A=>simp only [Nat.zero_mul];rfl
 ·simp only [← hl]
  exact run_loadCells hc
theorem BA{t:ad}{e:ba}{xs:List t.D}{v:Value}{F:ah}(h:(ad.sl t).al w Z (.O e) xs [v] F) :
  ∃A c vs,v=.slice A xs.length c∧c0 (t.al w Z e) t.size xs vs F∧∀d,(Builtin.firstCells t.size xs.length v).run P { w with drawn:=d } = .ok vs.toArray { w with drawn:=d } := by
 simp only [ad.al] at h
 obtain ⟨A,c,hv,h⟩:=h
 simp only [List.cons.injEq,and_true] at hv
 subst hv
 rcases h with⟨rfl,rfl⟩ | ⟨⟨b,o,sp⟩,rfl,hr⟩
 ·exact⟨A,0,[],rfl,rfl,fun d=>rr (by simp) (.inl rfl)⟩
 ·obtain ⟨G,g1,g2,g3⟩:=hr.row
  have hsp:=hr.spot
  simp only at hsp
  subst hsp
  obtain ⟨vs,h1,h2⟩:=g1.tc
  exact⟨_,c,vs,rfl,h1.mono g3,fun d=>rr h1.len (.inr ⟨b,o,rfl,h2⟩)⟩
theorem Y5{t:ad}{xs:List t.D}{v:Value}{F:ah}(h:(ad.sl t).al w Z .R xs [v] F) :
  ∃A c vs,v=.slice A xs.length c∧c0 (t.al w Z .R) t.size xs vs ah.none∧∀d,(Builtin.firstCells t.size xs.length v).run P { w with drawn:=d } = .ok vs.toArray { w with drawn:=d } := by
 simp only [ad.al] at h
 obtain ⟨A,c,hv,h⟩:=h
 simp only [List.cons.injEq,and_true] at hv
 subst hv
 rcases h with rfl | ⟨⟨b,o,sp⟩,rfl,hsp,hr,_,_⟩
 ·exact⟨A,c,[],rfl,rfl,fun d=>rr (by simp) (.inl rfl)⟩
 ·simp only at hsp
  subst hsp
  obtain ⟨vs,h1,h2⟩:=hr.tc
  exact⟨_,c,vs,rfl,h1.imp (fun y us G hs hr=>rE hr |> fun h=>ad.al.mono (fun _ _ h=>h) t .R (fun _ _ h=>h.elim) h),fun d=>rr h1.len (.inr ⟨b,o,rfl,h2⟩)⟩
theorem PS{t:ad}{c:a_}{v:Value}{ky:ba}{ys:List t.D}{s1:aq}(ha:added s t c=some (ky,ys,s1))(h:Inv w0 F0 Z0 n s a w ι Z)(hc:cj w Z s ι c v) :
  ∃vs F,(Builtin.lenOf v).run P w=.ok ys.length w∧(∀d,(Builtin.firstCells t.size ys.length v).run P { w with drawn:=d } = .ok vs.toArray { w with drawn:=d })∧c0 (t.al w Z ky) t.size ys vs F ∧
   Inv w0 F0 Z0 n s1 a w ι Z∧fb s ι Z s1 Z∧bL w0 F0 s1 w ι Z F:=by
 cases c with
 | nil u =>
  simp only [added] at ha
  obtain ⟨x,hx,ha⟩:=bf ha
  obtain ⟨e,rfl⟩:=g_ hx
  subst e
  simp only [Option.some.injEq,Prod.mk.injEq] at ha
  obtain ⟨rfl,rfl,rfl⟩:=ha
  have hv:v=.slice none 0 0:=hc
  subst hv
  exact⟨[],ah.none,rfl,fun _=>rfl,rfl,h,.refl,.none⟩
 | b1 u dp ct xs =>
  simp only [added] at ha
  cases dX:alive s dp
  ·rw [dX] at ha;simp at ha
  cases fp:(t.flat||dp.isEmpty)
  ·rw [dX,fp] at ha;simp at ha
  rw [dX,fp] at ha
  simp only [Bool.and_self,cond_true] at ha
  obtain ⟨x,hx,ha⟩:=bf ha
  obtain ⟨e,rfl⟩:=g_ hx
  subst e
  simp only [Option.some.injEq,Prod.mk.injEq] at ha
  obtain ⟨rfl,rfl,rfl⟩:=ha
  obtain ⟨A,rS,vs,rfl,h1,h2⟩:=Y5 (P:=P) (hc.2.2.1 dX)
  refine⟨vs,ah.none,rfl,h2,?_,h,.refl,.none⟩
  simp only [Bool.or_eq_true,List.isEmpty_iff] at fp
  rcases fp with fp | rfl
  ·exact h1.imp fun y us G _ hr=>rv u fp hr
  ·exact h1.imp fun y us G _ hr=>PN hr
 | ag j sub =>
  simp only [added] at ha
  obtain ⟨hk,A,m,rS,rfl,hh⟩:=hc
  cases ho:s.o j with
  | row u em ver xs =>
   rw [ho] at ha
   have cZ:=h.fT j
   rw [ho] at cZ
   have b9:(s.o j).live:=by rw [ho];trivial
   have nq:=v_ cZ (hh u em ver xs (lD ho))
   cases em with
   | R =>
    simp only at ha
    obtain ⟨x,hx,ha⟩:=bf ha
    obtain ⟨e,rfl⟩:=g_ hx
    subst e
    simp only [Option.some.injEq,Prod.mk.injEq] at ha
    obtain ⟨rfl,rfl,rfl⟩:=ha
    obtain ⟨pt,c',vs,hv,h1,h2⟩:=BA (P:=P) nq
    refine⟨vs,ah.none,?_,h2,h1.bare fun y us G _ hr=>rE hr,h,.refl,.none⟩
    rw [hv];rfl
   | O gZ =>
    simp only at ha
    obtain ⟨x,hx,ha⟩:=bf ha
    obtain ⟨e,rfl⟩:=g_ hx
    subst e
    simp only [Option.some.injEq,Prod.mk.injEq] at ha
    obtain ⟨rfl,rfl,rfl⟩:=ha
    obtain ⟨pt,c',vs,hv,h1,h2⟩:=BA (P:=P) nq
    refine⟨vs,(ι j).F,?_,h2,h1,h.take j (fun _ _ h=>h) (fun _ _ h=>.inl h),v8 j b9,h.v7 b9⟩
    rw [hv];rfl
   | S ms =>
    simp only at ha
    obtain ⟨x,hx,ha⟩:=bf ha
    obtain ⟨e,rfl⟩:=g_ hx
    subst e
    simp only [Option.some.injEq,Prod.mk.injEq] at ha
    obtain ⟨rfl,rfl,rfl⟩:=ha
    obtain ⟨pt,c',vs,hv,h1,h2⟩:=BA (P:=P) nq
    refine⟨vs,(ι j).F,?_,h2,h1,h.take j (fun _ _ h=>h) (fun _ _ h=>.inl h),v8 j b9,h.v7 b9⟩
    rw [hv];rfl
  | _=>rw [ho] at ha;simp at ha
 | str b =>
  simp only [added] at ha
  obtain ⟨x,hx,ha⟩:=bf ha
  obtain ⟨e,rfl⟩:=g_ hx
  subst e
  simp only [Option.some.injEq,Prod.mk.injEq] at ha
  obtain ⟨rfl,rfl,rfl⟩:=ha
  obtain ⟨kA,rfl,rfl⟩:=hc
  have hlen:(eA kA.data.toList).length=kA.size:=by simp [eA]
  refine⟨(eA kA.data.toList).map (Value.int .u8),ah.none,?_,?_,H7 _,h,.refl,.none⟩
  ·rw [hlen];rfl
  ·intro d
   rw [hlen]
   simp only [Builtin.firstCells,run_pure]
   congr 1
   apply Array.ext'
   simp [eA]
 | _=>simp [added] at ha
theorem PT{t:ad}{c:a_}{v:Value}{n_:ba}{xs:List t.D}{s1:aq}(ha:taken s t c=some (n_,xs,s1))(h:Inv w0 F0 Z0 n s a w ι Z)(hc:cj w Z s ι c v) :
  ∃F,(ad.sl t).al w Z (.O n_) xs [v] F∧Inv w0 F0 Z0 n s1 a w ι Z∧fb s ι Z s1 Z∧bL w0 F0 s1 w ι Z F∧∀b o,F b o→∃id,(s.o id).live∧(ι id).F b o:=by
 cases c with
 | nil u =>
  simp only [taken] at ha
  obtain ⟨x,hx,ha⟩:=bf ha
  obtain ⟨e,rfl⟩:=g_ hx
  subst e
  simp only [Option.some.injEq,Prod.mk.injEq] at ha
  obtain ⟨rfl,rfl,rfl⟩:=ha
  have hv:v=.slice none 0 0:=hc
  subst hv
  refine⟨ah.none,?_,h,.refl,.none,fun _ _ h=>h.elim⟩
  simp only [ad.al]
  exact⟨none,0,rfl,.inl (by simp)⟩
 | ag j sub =>
  simp only [taken] at ha
  obtain ⟨hk,A,m,rS,rfl,hh⟩:=hc
  cases ho:s.o j with
  | row u em ver xs =>
   rw [ho] at ha
   simp only at ha
   have cZ:=h.fT j
   rw [ho] at cZ
   have b9:(s.o j).live:=by rw [ho];trivial
   have nq:=v_ cZ (hh u em ver xs (lD ho))
   obtain ⟨x,hx,ha⟩:=bf ha
   obtain ⟨e,rfl⟩:=g_ hx
   subst e
   simp only [Option.some.injEq,Prod.mk.injEq] at ha
   obtain ⟨rfl,rfl,rfl⟩:=ha
   exact⟨(ι j).F,nq,h.take j (fun _ _ h=>h) (fun _ _ h=>.inl h),v8 j b9,h.v7 b9,fun b o hf=>⟨j,b9,hf⟩⟩
  | _=>rw [ho] at ha;simp at ha
 | _=>simp [taken] at ha
theorem Y6{t:ad}{n_ ky:ba}{xs ys:List t.D}{v:Value}{vs:List Value}{k0 hd:ah}(h:Inv w0 F0 Z0 n s a w ι Z)
  (hx:(ad.sl t).al w Z (.O n_) xs [v] k0) (aN:c0 (t.al w Z ky) t.size ys vs hd) (ha:bL w0 F0 s w ι Z k0) (hb:bL w0 F0 s w ι Z hd) (lO:ah.apart k0 hd) :
  ∃Z' BB BC,Inv w0 F0 Z0 n s a w ι Z'∧ah.sub Z Z'∧(ad.sl t).al w Z' (.O (meet n_ ky)) xs [v] BB∧c0 (t.al w Z' (meet n_ ky)) t.size ys vs BC∧bL w0 F0 s w ι Z' BB∧bL w0 F0 s w ι Z' BC∧ah.apart BB BC:=by
 unfold meet
 cases hm:ba.beq n_ ky
 ·simp only [cond_false]
  obtain ⟨F',h1,h2⟩:=OZ hx
  have dm:bL w0 F0 s w ι Z ((ah.diff k0 F').or hd):=(ha.sub fun b o h=>h.1).or hb
  refine⟨_,F',ah.none,h.freeze dm,fun _ _ h=>.inl h,ad.al.mono ?_ _ _ (fun _ _ h=>h) h2,?_,?_,.none,fun _ _ _ h=>h⟩
  ·rintro b o (hz | hz)
   ·exact .inl hz
   ·exact .inr (.inl hz)
  ·exact aN.bare fun y us G hs hr=>ad.al.read (fun _ _ h=>.inl h) t ky (fun b o aA=>.inr (.inr (hs b o aA))) hr
  ·refine(ha.sub h1).freeze ?_
   rintro b o hf (aA | aA)
   ·exact aA.2 hf
   ·exact lO b o (h1 b o hf) aA
 ·have:=ba.eq_of_beq _ _ hm
  subst this
  exact⟨Z,k0,hd,h,fun _ _ h=>h,hx,aN,ha,hb,lO⟩
theorem G7(z:Array Value)(k:Nat):(Builtin.zeroCells z k).size=k*z.size:=by simp [Builtin.zeroCells]
theorem run_append_room{A:Option Addr}{m c k size:Nat}{vs:List Value}{vb:Value}{e' gi ty e:TypeId}{ats:Array TypeId}{args:Array Value}
  (h0:ats[0]?=some e') (h1:ats[1]?=some gi) (h2:args[0]?=some (.slice A m c)) (h3:args[1]?=some vb) (hu:P.underlying e'=some (.slice e)) (hs:(sizeOf e).run P w=.ok size w)
  (j9:P.underlying gi=some .string∨∃gZ,P.underlying gi=some (.slice gZ)) (ot:m+k≤c) (hl:(Builtin.lenOf vb).run P w=.ok k w) (hf:(Builtin.firstCells size k vb).run P w=.ok vs.toArray w)
  (hst:∀a,A=some a→(storeCells (a.add (m*size)) vs).run P w=.ok () w') (hn:A=none→w'=w):(Builtin.append_ ats ty args).run P w=.ok (.slice A (m+k) c) w':=by
 unfold Builtin.append_
 rcases j9 with j9 | ⟨gZ,j9⟩
 all_goals
  simp only [h0,h1,h2,h3,run_bind,run_underlying hu,hs,run_underlying j9,run_pure]
  simp only [Bool.false_eq_true,if_false,run_bind,hl,if_pos ot,Bool.not_false,if_true,hf]
  cases A with
  | none=>rw [hn rfl];rfl
  | some a=>simp only [run_bind,hst a rfl,run_pure]
theorem run_append_grow{A:Option Addr}{m c k size:Nat}{us vs:List Value}{vb z:Value}{e' gi ty e:TypeId}{ats:Array TypeId}{args:Array Value}{i:TypeInfo}
  (h0:ats[0]?=some e') (h1:ats[1]?=some gi) (h2:args[0]?=some (.slice A m c)) (h3:args[1]?=some vb) (hu:P.underlying e'=some (.slice e)) (hi:P.info? e=some i) (hsz:i.size=size) (hz:i.zero=some z)
  (j9:P.underlying gi=some .string∨∃gZ,P.underlying gi=some (.slice gZ)) (ot:¬m+k≤c) (hl:(Builtin.lenOf vb).run P w=.ok k w)
  (BD:∀d,(Builtin.firstCells size m (.slice A m c)).run P { w with drawn:=d } = .ok us.toArray { w with drawn:=d })
  (hf:∀d,(Builtin.firstCells size k vb).run P { w with drawn:=d } = .ok vs.toArray { w with drawn:=d })
  (hr:m+k≤68719476736) (hb:i.bytes≤2048) :
  ∃q,m+k≤q∧(Builtin.append_ ats ty args).run P w=.ok (.slice (some (at_ w.heap.size 0)) (m+k) q) (grown w (w.drawn+1) (us.toArray++vs.toArray++Builtin.zeroCells z.cells (q-(m+k))) e (0,0)):=by
 have hq:(Question.appendCap (m+k) c e).forced=false:=rfl
 have Y7:¬(((m+k:Nat):Int)>IntKind.i64.max):=by simp [IntKind.max,IntKind.signed,IntKind.bits];omega
 have Y8:¬(Builtin.nextslicecap (m+k) c*i.bytes>2 ^ 48):=by
  have h1:=nextslicecap_le (need:=m+k) (old:=c) (by omega)
  have h2:Builtin.nextslicecap (m+k) c*i.bytes≤(2*68719476736)*2048:=Nat.mul_le_mul (by omega) hb
  omega
 have Y9:(sizeOf e).run P w=.ok size w:=by simp [sizeOf,run_bind,run_typeInfo hi,run_pure,hsz]
 have hzero:∀w:World,(zeroValue e).run P w=.ok z w:=by intro w;simp [zeroValue,run_bind,run_typeInfo hi,run_pure,hz]
 refine⟨m+k+w.tape w.drawn (.appendCap (m+k) c e) % (2 ^ 63-(m+k)),by omega,?_⟩
 unfold Builtin.append_
 rcases j9 with j9 | ⟨gZ,j9⟩
 all_goals
  simp only [h0,h1,h2,h3,run_bind,run_underlying hu,Y9,run_underlying j9,run_pure]
  simp only [Bool.false_eq_true,if_false,run_bind,hl,if_neg ot,Bool.not_false,if_true,Y7,false_and,run_typeInfo hi,Y8,choose,Sem.run,hq,Question.cut,run_askRoom,BD,hf,hzero]
  rfl
theorem PU{t:ad}{m:ba}{xs ys:List t.D}{lC vb:Value}{vs:List Value}{k0 hd:ah}{e' gi ty e:TypeId}{ats:Array TypeId}{args:Array Value}
  (h0:ats[0]?=some e') (h1:ats[1]?=some gi) (h2:args[0]?=some lC) (h3:args[1]?=some vb) (hu:P.underlying e'=some (.slice e)) (cd:t.ok P e)
  (j9:P.underlying gi=some .string∨∃gZ,P.underlying gi=some (.slice gZ)) (hroom:xs.length+ys.length≤68719476736)
  (h:Inv w0 F0 Z0 n s a w ι Z) (b6:s.o id=.none) (hx:(ad.sl t).al w Z (.O m) xs [lC] k0) (aN:c0 (t.al w Z m) t.size ys vs hd) (ha:bL w0 F0 s w ι Z k0) (hb:bL w0 F0 s w ι Z hd) (lO:ah.apart k0 hd)
  (hl:(Builtin.lenOf vb).run P w=.ok ys.length w) (hf:∀d,(Builtin.firstCells t.size ys.length vb).run P { w with drawn:=d } = .ok vs.toArray { w with drawn:=d }) :
  ∃u w' i,(Builtin.append_ ats ty args).run P w=.ok u w'∧Inv w0 F0 Z0 n (s.bR id (.row t m 0 (xs++ys))) a w' (bU ι id i) Z∧cj w' Z (s.bR id (.row t m 0 (xs++ys))) (bU ι id i) (.ag id none) u:=by
 obtain ⟨A,c,us,rfl,hex,BD⟩:=BA (P:=P) hx
 obtain ⟨i,gL,fo,wo,H6⟩:=cd.info
 have yv:(dK t t.cN).cells.size=t.size:=by
  have:=congrArg List.length (wm t)
  rw [Array.length_toList,ad.lJ] at this;exact this
 have PV:(Builtin.firstCells t.size ys.length vb).run P w=.ok vs.toArray w:=hf w.drawn
 have ak8:(Builtin.firstCells t.size xs.length (.slice A xs.length c)).run P w=.ok us.toArray w:=BD w.drawn
 have Y_:=hex.len
 have PW:=aN.len
 by_cases ot:xs.length+ys.length≤c
 ·
  have hrow:=hx
  simp only [ad.al] at hrow
  obtain ⟨pt,c',hv,hrow⟩:=hrow
  simp only [List.cons.injEq,Value.slice.injEq,and_true,true_and] at hv
  obtain ⟨rfl,rfl⟩:=hv
  rcases hrow with⟨rfl,rfl⟩ | ⟨⟨b,o,sp⟩,rfl,hr⟩
  ·have Y':ys=[]:=List.eq_nil_of_length_eq_zero (by simp at ot;simpa using ot)
   subst Y'
   have PX:vs=[]:=List.eq_nil_of_length_eq_zero (by simpa using PW)
   subst PX
   refine⟨.slice A 0 0,w,⟨none,0,ah.none⟩,?_,h.Bm b6 (.inl ⟨rfl,rfl⟩) .none,?_⟩
   ·exact run_append_room h0 h1 h2 h3 hu (run_sizeOf cd) j9 (Nat.le_refl 0) hl PV (fun a _=>rfl) (fun _=>rfl)
   ·refine⟨by show bU s.o id _ id≠_;rw [cB];simp,A,0,0,rfl,?_⟩
    intro dn gz nk fU ho
    have rJ:(bU s.o id (cn.row t m 0 ([]++[])) id).core=.row dn gz nk fU:=ho
    rw [cB] at rJ
    obtain ⟨rfl,_,_,h4⟩:=cn.row.inj rJ
    have:=eq_of_heq h4;subst this
    exact⟨rfl,by simp [eh],Nat.le_refl _,by simp [eh],.inl rfl⟩
  ·have hsp:=hr.spot
   simp only at hsp
   subst hsp
   obtain ⟨G,g1,g2,g3⟩:=hr.row
   have hle:(xs.length+ys.length)*t.size≤c*t.size:=Nat.mul_le_mul_right _ ot
   rw [Nat.add_mul] at hle
   have hwr:∀j,j<vs.length→fk w b (o+xs.length*t.size+j):=fun j hj=>by
    have:=(hr.wr (xs.length*t.size+j) (by omega)).1
    rwa [← Nat.add_assoc] at this
   have dm:bL w0 F0 s w ι Z (ah.run b o (c*t.size)):=ha.sub (by
    rintro b' o' ⟨rfl,h1,h2⟩
    have:=hr.inF (o'-o) (by omega)
    rwa [show o +(o'-o)=o' by omega] at this)
   have Za:ah.apart G (ah.run b o (c*t.size)):=by
    rintro b' o' aA ⟨rfl,h1,h2⟩
    have:=g2 (o'-o) (by omega)
    exact this (by show G b' (o +(o'-o));rw [show o +(o'-o)=o' by omega];exact aA)
   have mv:Ext w (setCells w b (o+xs.length*t.size) vs) (ah.run b o (c*t.size)):=n6 b vs w _ (fun j hj=>⟨rfl,by omega,by omega⟩)
   have hinv:=h.Bz dm mv
   obtain ⟨aS,k1,k2⟩:=g1.tc
   have PY:=k1.len
   have k4:∀F,bL w0 F0 s w ι Z F→ah.apart F (ah.run b o (c*t.size))→b4 w (setCells w b (o+xs.length*t.size) vs) F:=fun F hF Ia=>b4.jb mv (fun b o hf=>(hF.own b o hf).2) Ia
   have PZ:b4 w (setCells w b (o+xs.length*t.size) vs) Z:=b4.jb mv h.i' (fun b o hz hs=>dm.c2 b o hs hz)
   have Zb:bL w0 F0 s w ι Z G:=ha.sub g3
   have Zc:ah.apart hd (ah.run b o (c*t.size)):=by
    rintro b' o' dJ ⟨rfl,h1,h2⟩
    have:=hr.inF (o'-o) (by omega)
    exact lO b' o' (by have jK:k0 b' (o +(o'-o)):=this;rwa [show o +(o'-o)=o' by omega] at jK) dJ
   have e1:c0 (t.al (setCells w b (o+xs.length*t.size) vs) Z m) t.size xs aS G:=k1.imp fun y us dj hs hr=>ad.al.same PZ t m ((k4 G Zb Za).mono hs) hr
   have e2:c0 (t.al (setCells w b (o+xs.length*t.size) vs) Z m) t.size ys vs hd:=aN.imp fun y us dj hs hr=>ad.al.same PZ t m ((k4 hd hb Zc).mono hs) hr
   have j8:bL w0 F0 s (setCells w b (o+xs.length*t.size) vs) ι Z (k0.or hd):=(ha.or hb).ext mv
   refine⟨.slice (some (at_ b o)) (xs.length+ys.length) c,_,⟨some (at_ b o),c,k0.or hd⟩,?_,hinv.Bm b6 ?_ j8,?_⟩
   ·have hst:=A8 (P:=P) (b:=b) (o:=o+xs.length*t.size) vs w 0 (A_ aN) (fun j hj=>by simpa using hwr j hj)
    simp only [Nat.add_zero] at hst
    refine run_append_room h0 h1 h2 h3 hu (run_sizeOf cd) j9 ot hl PV (fun a ha=>?_) (fun h=>by simp at h)
    obtain rfl:=aU ha
    rw [show(⟨b,o,none⟩:Addr).add (xs.length*t.size)=at_ b (o+xs.length*t.size) from ql _ _ _]
    exact hst
   ·refine .inr ⟨at_ b o,rfl,rfl,by simpa using ot,fun j hj=>(mv.kt (hr.wr j hj)),fun j hj=>.inl (hr.inF j hj),G.or hd,?_,?_,fun b o h=>h.imp (g3 b o) (fun h=>h)⟩
    ·refine(e1.append e2 fun b o aA hf=>lO b o (g3 b o aA) hf).row ?_
     refine b3.append (k2.of_eq fun j hj=>?_) ?_
     ·rw [PY] at hj
      refine(vZ b vs w _ (fun i hi=>(hwr i hi).1) b (o+j)).trans (if_neg ?_)
      omega
     ·rw [PY];exact Yt hwr
    ·rintro j hj (aA | aA)
     ·exact g2 j hj aA
     ·exact lO _ _ (hr.inF j hj) aA
   ·have:=yu (w:=setCells w b (o+xs.length*t.size) vs) (Z:=Z) (s:=s) (ι := ι) (id:=id) (em:=m) (ver:=0) (xs:=xs++ys) (A:=at_ b o) (c:=c) (F:=k0.or hd) rfl (by simpa using ot)
    rw [List.length_append] at this
    exact this
 ·
  obtain ⟨q,hq,hrun⟩:=run_append_grow (P:=P) (w:=w) (ty:=ty) h0 h1 h2 h3 hu gL fo wo j9 ot hl BD hf hroom H6
  have hn:=h.newRow b6 (hex.append aN lO) (ha.or hb) (w.drawn+1) (us.toArray++vs.toArray++Builtin.zeroCells (dK t t.cN).cells (q-(xs.length+ys.length))) e (0,0) q (by
   intro j v hv
   rw [Array.getElem?_append_left]
   ·simpa [← List.getElem?_append] using hv
   ·rcases Nat.lt_or_ge j (us++vs).length with h | h
    ·simpa using h
    ·rw [List.getElem?_eq_none h] at hv;simp at hv) (by simpa using hq) (by
   simp only [Array.size_append,List.size_toArray,G7,yv,Y_,PW]
   rw [Nat.sub_mul,Nat.add_mul]
   have:(xs.length+ys.length)*t.size≤q*t.size:=Nat.mul_le_mul_right _ hq
   rw [Nat.add_mul] at this
   omega) (.inl rfl) (.inr rfl)
  refine⟨_,_,_,hrun,hn,?_⟩
  have:=yu (w:=grown w (w.drawn+1) (us.toArray++vs.toArray++Builtin.zeroCells (dK t t.cN).cells (q-(xs.length+ys.length))) e (0,0)) (Z:=Z) (s:=s) (ι := ι) (id:=id) (em:=m) (ver:=0) (xs:=xs++ys) (A:=at_ w.heap.size 0) (c:=q) (F:=(ah.run w.heap.size 0 (q*t.size)).or (k0.or hd)) rfl (by simpa using hq)
  rw [List.length_append] at this
  exact this
theorem P0{aj:List Nat}{t:ad}(bX:g' P E)(gM:vS E aj=some t):∃e' gi rest e,aj=e' :: gi :: rest∧P.underlying e'=some (.slice e)∧t.ok P e∧(P.underlying gi=some .string∨∃gZ,P.underlying gi=some (.slice gZ)):=by
 unfold vS at gM
 split at gM
 ·rename_i e' gi rest
  split at gM
  ·rename_i t1 t2 h1 h2
   obtain rfl:=aU gM
   obtain ⟨e,hu,cd⟩:=lK (bX.ty _ _ h1)
   obtain ⟨gZ,yx,_⟩:=lK (bX.ty _ _ h2)
   exact⟨e',gi,rest,e,rfl,hu,cd,.inr ⟨gZ,yx⟩⟩
  ·rename_i t1 h1 h2
   obtain rfl:=aU gM
   obtain ⟨e,hu,cd⟩:=lK (bX.ty _ _ h1)
   exact⟨e',gi,rest,e,rfl,hu,cd,.inl (wu (bX.ty _ _ h2))⟩
  ·simp at gM
 ·simp at gM
theorem Ib{t:ad}{u:Value}{c:a_}{x:a7}(hx:oneCell t x=some c)(hr:aP w Z s ι x u):cj w Z s ι c u:=by
 cases x <;> simp only [oneCell] at hx <;> try (simp at hx;done)
 ·obtain rfl:=aU hx
  simpa only [aP] using hr
 ·obtain rfl:=aU hx
  simp only [aP] at hr
  exact hr
theorem Zd{c:Call}(bX:g' P E)(h:Inv w0 F0 Z0 n s a w ι Z)(ag:∀k,o.dst=some k→k<n)(ho:o.op=.call c)(hb:c.callee=.builtin .append)(hk:cT E id o s K=some r) :
  ∃ar,K ar=some r∧o.wp P a w (cX w0 F0 Z0 n ar) Q:=by
 unfold cT at hk
 rw [ho] at hk
 simp only [hb] at hk
 have hvs:=tE h c.args.toList
 have lN:(c.args.map a.eval).toList=c.args.toList.map a.eval:=by simp
 generalize hl:c.args.toList.map (bV s)=l at hk hvs
 match l,hk,hvs with
 | [],hk,_=>simp [j3] at hk
 | [_],hk,_=>simp [j3] at hk
 | _ :: _ :: _ :: _,hk,_=>simp [j3] at hk
 | [lC,vb],hk,hvs =>
  simp only [j3] at hk
  simp only [aX] at hvs
  obtain ⟨P1,_,he,nr,Ze,_,rfl,Ic,rfl⟩:=hvs
  cases gM:vS E c.argTypes.toList with
  | none=>rw [gM] at hk;simp at hk
  | some t =>
   rw [gM] at hk
   simp only at hk
   obtain ⟨e',gi,rest,e,rU,hu,cd,j9⟩:=P0 bX gM
   cases BE:oneCell t lC with
   | none=>rw [BE] at hk;simp at hk
   | some Ie =>
    cases tF:oneCell t vb with
    | none=>rw [BE,tF] at hk;simp at hk
    | some cb =>
      rw [BE,tF] at hk
      simp only [ON] at hk
      have ns:=Ib BE nr
      have hb1:=Ib tF Ic
      cases qu:added s t cb with
      | none=>rw [qu] at hk;simp at hk
      | some q =>
       obtain ⟨ky,ys,s1⟩:=q
       rw [qu] at hk
       simp only at hk
       obtain ⟨vs,hd,hlen,nt,hels,h1,hs1,oo⟩:=PS (P:=P) qu h hb1
       cases yy:taken s1 t Ie with
       | none=>rw [yy] at hk;simp at hk
       | some q =>
        obtain ⟨n_,xs,s2⟩:=q
        rw [yy] at hk
        simp only at hk
        obtain ⟨k0,hx,h2,oq,hf2,b9⟩:=PT yy h1 (ns.move hs1.ei)
        cases nj:mkObj s2 id (.row t (meet n_ ky) 0 (xs++ys)) with
        | none=>rw [nj] at hk;simp at hk
        | some s3 =>
         rw [nj] at hk
         obtain ⟨hroom,hk2⟩:=rQ hk
         clear hk
         obtain ⟨b6,rfl⟩:=qs nj
         obtain ⟨bN,BB,BC,h3,_,mv,Bs,Zf,dJ,Zg⟩:=Y6 h2 hx hels hf2 (oo.shrink oq) (by
          intro b o Zh Zi
          obtain ⟨j,hj,yw⟩:=b9 b o Zh
          exact oo.apart j hj b o Zi yw)
         obtain ⟨u,w',bb,hrun,hinv,hcell⟩:=PU (P:=P) (id:=id) (ty:=o.type) (ats:=c.argTypes) (args:=c.args.map a.eval) (by rw [← Array.getElem?_toList,rU];rfl) (by rw [← Array.getElem?_toList,rU];rfl)
          (by rw [← Array.getElem?_toList,lN,he];rfl) (by rw [← Array.getElem?_toList,lN,he];rfl) hu cd j9 (Nat.le_of_ble_eq_true hroom) h3 b6 mv Bs Zf dJ Zg hlen nt
         refine⟨_,hk2,mn (v:=u) (w':=w') ?_ hinv (by simp only [aP];exact hcell) ag⟩
         unfold execOp;rw [ho]
         simp only [run_bind,resolve,hb,run_pure,invoke]
         unfold builtin
         exact fX hrun
theorem c0.cut{α : Type}{R : α → List Value→ah→Prop}{size:Nat} : ∀ {xs:List α} {vs:List Value} {F:ah} (k:Nat),c0 R size xs vs F→c0 R size (xs.take k) (vs.take (k*size)) F∧c0 R size (xs.drop k) (vs.drop (k*size)) F
 | xs,vs,F,0,h=>by simp only [Nat.zero_mul,List.take_zero,List.drop_zero];exact⟨rfl,h⟩
 | [],vs,F,k+1,h=>by simp only [c0] at h;subst h;simp [c0]
 | x :: xs,vs,F,k+1,⟨us,aj,G,H,h1,h2,h3,h4,a8,bl,bK⟩=>by
  obtain ⟨p,q⟩:=c0.cut k h4
  subst h1
  have e:(k+1)*size=us.length+k*size:=by rw [Nat.add_one_mul,h3];omega
  refine⟨⟨us,aj.take (k*size),G,H,?_,h2,h3,p,a8,bl,bK⟩,?_⟩
  ·rw [e,List.take_length_add_append]
  ·rw [e,List.drop_length_add_append];exact q.mono bK
theorem Zj(us:List Value)(z:Array Value)(hz:z.toList=us)(n:Nat):(Builtin.zeroCells z n).toList=(List.replicate n us).flatten:=by
 have hl:(Builtin.zeroCells z n).toList.length=(List.replicate n us).flatten.length:=by
  rw [Array.length_toList,G7];subst hz;simp
 refine List.ext_getElem? fun j=>?_
 cases hj:(List.replicate n us).flatten[j]? with
 | none =>
  rw [List.getElem?_eq_none_iff] at hj ⊢
  omega
 | some v =>
  have:=H5 (z:=z) (m:=n*z.size) us n hz (by subst hz;simp) v hj
  rw [Array.getElem?_toList]
  exact this
theorem Inv.rewrite(h:Inv w0 F0 Z0 n s a w ι Z){id:Nat}{t:ad}{em:ba}{ver:Nat}{xs fU:List t.D}(ho:s.o id=.row t em ver xs)(hl:xs.length=fU.length)(hx:Ext w w' (ι id).F)
  (cZ:eI w Z s ι w' Z (s.bR id (.row t em (ver+1) fU)) ι → il w' Z (s.bR id (.row t em (ver+1) fU)) ι (ι id) (.row t em (ver+1) fU)):Inv w0 F0 Z0 n (s.bR id (.row t em (ver+1) fU)) a w' ι Z:=by
 have b9:(s.o id).live:=by rw [ho];trivial
 let o':cn:=.row t em (ver+1) fU
 have hm:eI w Z s ι w' Z (s.bR id o') ι := by
  refine⟨fun j=>?_,fun _ _ h=>h,b4.jb hx h.rK ?_⟩
  ·show ja (s.o j) (ι j) (bU s.o id o' j) (ι j)
   by_cases hj:id=j
   ·subst hj;rw [cB,ho];exact .row _ _ _ _ _ _ _ _ _ (by omega) (by omega) rfl rfl
   ·rw [cR hj];exact .stay _ _
  ·rintro b o (hz | ⟨ea,gk,qn,_,hf⟩) iI
   ·exact h.c2 id b9 b o iI hz
   ·have hne:ea≠id:=by
     rintro rfl
     have:bU s.o ea o' ea=s.o ea:=qn
     rw [cB,ho] at this
     injection this with h1 h2 h3
     omega
    exact h.apart ea id gk b9 hne b o hf iI
 have rM:∀ {j},id≠j→((s.bR id o').o j).live→(s.o j).live:=fun hj hl=>by
  have:(bU s.o id o' _).live:=hl
  rwa [cR hj] at this
 refine h.next hm hx (fun b o hf=>(h.own id b9 b o hf).1) (fun _ _ h=>.inl h) ?_ ?_ (fun k=>(h.tmps k).move hm) h.size h.defers
 ·intro j hl hne
  by_cases hj:id=j
  ·subst hj
   refine⟨?_,fun b o hf=>⟨(h.own _ b9 b o hf).1,Nat.lt_of_lt_of_le (h.own _ b9 b o hf).2 hx.size⟩,fun ea gk jI=>h.apart id ea b9 (rM jI gk) jI⟩
   show il _ _ _ _ _ (bU s.o id o' id)
   rw [cB]
   exact cZ hm
  ·exact absurd ⟨cR hj,rfl⟩ hne
 ·intro j hl
  by_cases hj:id=j
  ·subst hj;exact h.c2 _ b9
  ·exact h.c2 j (rM hj hl)
theorem Zk{t e ty:TypeId}{T:ad}{A:Option Addr}{k c:Nat}(hu:P.underlying t=some (.slice e))(cd:T.ok P e){b o:Nat}(hA:0<k→A=some (at_ b o))(hw:∀j,j<k*T.size→fk w b (o+j)) :
  (Builtin.clear_ #[t] ty #[.slice A k c]).run P w=.ok (.tuple #[]) (setCells w b o (List.replicate k T.cN).flatten):=by
 rcases Nat.eq_zero_or_pos k with rfl | hk
 ·unfold Builtin.clear_
  cases A <;>(simp only [List.getElem?_toArray,List.getElem?_cons_zero,run_bind,run_underlying hu];rfl)
 ·rw [hA hk]
  obtain ⟨m,rfl⟩:∃m,k=m+1:=⟨k-1,by omega⟩
  have hc:=Zj T.cN (dK T T.cN).cells (wm T) (m+1)
  have h1:∀v∈(List.replicate (m+1) T.cN).flatten,ee v=true:=by
   intro v hv
   rw [List.mem_flatten] at hv
   obtain ⟨l,h1,h2⟩:=hv
   rw [(List.mem_replicate.1 h1).2] at h2
   exact((rO (w:=default) (Z:=ah.none) (s:=⟨fun _=>.aD,fun _=>.none,[]⟩) (ι := fun _=>⟨none,0,ah.none⟩) T).ee) v h2
  have hst:=A8 (P:=P) (b:=b) (o:=o) _ w 0 h1 (fun i hi=>by
   have:=hw i (by simpa [ad.lJ] using hi)
   simpa using this)
  unfold Builtin.clear_
  simp only [List.getElem?_toArray,List.getElem?_cons_zero,run_bind,run_underlying hu,Bp cd,hc]
  simp only [Nat.add_zero] at hst
  rw [hst]
  rfl
theorem Zl{c:Call}(bX:g' P E)(h:Inv w0 F0 Z0 n s a w ι Z)(ag:∀k,o.dst=some k→k<n)(ho:o.op=.call c)(hb:c.callee=.builtin .clear)(hk:cT E id o s K=some r) :
  ∃ar,K ar=some r∧o.wp P a w (cX w0 F0 Z0 n ar) Q:=by
 unfold cT at hk
 rw [ho] at hk
 simp only [hb] at hk
 have hvs:=tE h c.args.toList
 have lN:(c.args.map a.eval).toList=c.args.toList.map a.eval:=by simp
 generalize hl:c.args.toList.map (bV s)=l at hk hvs
 match l,hk,hvs with
 | [.aT (.ag i sub)],hk,hvs =>
  simp only [j3] at hk
  cases gM:c.argTypes.toList with
  | nil=>rw [gM] at hk;simp at hk
  | cons t aj =>
   rw [gM] at hk
   simp only at hk
   cases ht:E.ty t with
   | none=>rw [ht] at hk;simp at hk
   | some T =>
    cases bZ:s.o i with
    | row v em ver xs =>
     rw [ht,bZ] at hk
     cases T with
     | sl u =>
      simp only at hk
      cases hf:(ad.beq u v&&v.flat)
      ·rw [hf] at hk;simp at hk
      rw [hf] at hk
      simp only [cond_true] at hk
      simp only [Bool.and_eq_true] at hf
      obtain ⟨hf,fp⟩:=hf
      have:=ad.eq_of_beq _ _ hf
      subst this
      simp only [aX,aP] at hvs
      obtain ⟨ak9,us,he,⟨j6,A,k,j5,rfl,hh⟩,rfl⟩:=hvs
      obtain ⟨e,hu,cd⟩:=lK (bX.ty _ _ ht)
      have hr:=hh u em ver xs (lD bZ)
      obtain ⟨cA,P2,ak_,rc,BF⟩:=hr
      have hkk:k=lz sub xs:=by
       rw [cA];cases sub with
       | none=>rfl
       | some p=>rfl
      rw [← hkk] at hk
      generalize iJ:eh sub=lo at *
      have nm:(c.args.map a.eval) = #[.slice A k j5]:=by
       apply Array.ext'
       rw [lN,he]
      have pw:c.argTypes[0]?=some t:=by rw [← Array.getElem?_toList,gM];rfl
      have hlen:xs.length=(xs.take lo++List.replicate k u.zero++xs.drop (lo+k)).length:=by simp;omega
      have P3:=h.fT i
      rw [bZ] at P3
      have hfin:∃(b BG:Nat),(0<k→A=some (at_ b BG))∧(∀j,j<k*u.size→fk w b (BG+j))∧Inv w0 F0 Z0 n (s.bR i (.row u em (ver+1) (xs.take lo++List.replicate k u.zero++xs.drop (lo+k)))) a (setCells w b BG (List.replicate k u.cN).flatten) ι Z:=by
       rcases P3 with⟨h1,h2⟩ | ⟨a0,gn,hrow⟩
       ·have hk0:k=0:=by rw [h1] at P2;simp at P2;omega
        subst hk0
        refine⟨0,0,fun h=>by omega,fun j hj=>by omega,?_⟩
        refine h.rewrite bZ hlen (Ext.refl _ _) fun _=>?_
        exact .inl ⟨by rw [h1];simp,h2⟩
       ·have hle:(lo+k)*u.size≤(ι i).cap*u.size:=Nat.mul_le_mul_right _ (by have:=hrow.cap;omega)
        rw [Nat.add_mul] at hle
        have hwr:∀j,j<k*u.size→fk w a0.block (a0.off+lo*u.size+j):=fun j hj=>by
         have:=(hrow.wr (lo*u.size+j) (by omega)).1;rwa [← Nat.add_assoc] at this
        have yv:(List.replicate k u.cN).flatten.length=k*u.size:=by simp [ad.lJ]
        have hx:Ext w (setCells w a0.block (a0.off+lo*u.size) (List.replicate k u.cN).flatten) (ι i).F:=n6 _ _ _ _ fun j hj=>by
         have:=hrow.inF (lo*u.size+j) (by omega);rwa [← Nat.add_assoc] at this
        refine⟨a0.block,a0.off+lo*u.size,fun hk0=>?_,hwr,h.rewrite bZ hlen hx fun _=>.inr ⟨a0,gn,hrow.spot,by rw [← hlen];exact hrow.cap,fun j hj=>hx.kt (hrow.wr j hj),hrow.inF,ah.none,?_,fun _ _ h=>h,fun _ _ h=>h.elim⟩⟩
        ·rcases BF with BF | ⟨a1,hb1,BF⟩
         ·omega
         ·rw [gn] at hb1
          obtain rfl:=aU hb1
          exact BF
        ·obtain ⟨G,bz,cc,gj⟩:=hrow.row
         obtain ⟨us,e1,e2⟩:=Row.tc bz
         have e1:c0 (u.al (setCells w a0.block (a0.off+lo*u.size) (List.replicate k u.cN).flatten) Z em) u.size xs us ah.none:=e1.bare fun y us dj _ aN =>
          rv u (F:=ah.none) fp (ad.al.same (Z:=ah.none) (fun _ _ h=>h.elim) u em (F:=ah.none) (fun _ _ h=>h.elim) (rv u fp aN))
         have qp:=e1.len
         have hsp:=ru (k:=lo*u.size) (vs:=(List.replicate k u.cN).flatten) e2 (fun i hi=>(hrow.wr i (by
          have:xs.length*u.size≤(ι _).cap*u.size:=Nat.mul_le_mul_right _ hrow.cap
          omega)).1) (by
          rw [yv,qp,← Nat.add_mul];exact Nat.mul_le_mul_right _ (by omega))
         refine c0.row ?_ hsp
         have c1:=(e1.cut lo).1
         have gJ:=(e1.cut (lo+k)).2
         have Zm:=c0.replicate (R:=u.al (setCells w a0.block (a0.off+lo*u.size) (List.replicate k u.cN).flatten) Z em) (H4 u em) (ad.lJ u) k
         have:=((c1.append Zm fun _ _ h _=>h.elim).append gJ fun _ _ _ h=>h.elim)
         unfold c_
         rw [yv,← Nat.add_mul]
         refine this.bare fun y us G _ aN=>rv u fp aN
      obtain ⟨b,BG,hA,hw,hi⟩:=hfin
      refine⟨_,hk,mn (v:=.tuple #[]) ?_ hi (by simp only [aP,aX];exact⟨[],rfl,rfl⟩) ag⟩
      unfold execOp;rw [ho]
      simp only [run_bind,resolve,hb,run_pure,invoke]
      unfold builtin
      refine fX ?_
      have hrun:=Zk (P:=P) (w:=w) (ty:=o.type) (c:=j5) hu cd hA hw
      rw [nm]
      have Zn:Builtin.clear_ c.argTypes o.type #[.slice A k j5]=Builtin.clear_ #[t] o.type #[.slice A k j5]:=by
       unfold Builtin.clear_;rw [pw];rfl
      rw [Zn]
      exact hrun
     | _=>simp at hk
    | _=>rw [ht,bZ] at hk;cases T <;> simp at hk
 | [],hk,_=>simp [j3] at hk
 | _ :: _ :: _,hk,_=>simp [j3] at hk
 | [.aD],hk,_ | [.iC _],hk,_ | [.ptr _],hk,_ | [.di _ _ _],hk,_ | [.j1],hk,_ | [.kS],hk,_ | [.opt _ _],hk,_ | [.may _ _ _],hk,_ | [.ry _],hk,_ | [.fn _ _ _],hk,_ | [.pb _],hk,_=>simp [j3] at hk
 | [.aT (.int _ _)],hk,_ | [.aT (.bool _)],hk,_ | [.aT (.str _)],hk,_ | [.aT (.nil _)],hk,_ | [.aT (.b1 _ _ _ _)],hk,_=>simp [j3] at hk
end
end Go.LM
namespace Go.LM
theorem Row.BH{α : Type}{w:World}{R : α → List Value→ah→Prop}{size:Nat} : ∀ {x:List α} {b o:Nat} {F:ah} (i:Nat) (hi:i<x.length),Row w R size x b o F →
  ∃G1 jd G2 vs,Row w R size (x.take i) b o G1∧R x[i] vs jd∧vs.length=size∧b3 w b (o+i*size) vs∧Row w R size (x.drop (i+1)) b (o +(i+1)*size) G2 ∧
   ah.apart G1 jd∧ah.apart G1 G2∧ah.apart jd G2∧ah.sub G1 F∧ah.sub jd F∧ah.sub G2 F
 | y :: x,b,o,F,0,_,⟨vs,G,H,h1,h2,h3,h4,a8,bl,bK⟩ =>
  ⟨ah.none,G,H,vs,trivial,h1,h2,by simpa using h3,by simpa using h4,fun _ _ h=>h.elim,fun _ _ h=>h.elim,a8,fun _ _ h=>h.elim,bl,bK⟩
 | y :: x,b,o,F,i+1,hi,⟨vs,G,H,h1,h2,h3,h4,a8,bl,bK⟩=>by
  obtain ⟨G1,jd,G2,us,k1,k2,k3,bg,bx,dg,da,dL,hg,gp,db⟩:=Row.BH i (by simpa using hi) h4
  refine⟨G.or G1,jd,G2,us,⟨vs,G,G1,h1,h2,h3,k1,fun b o h k=>a8 b o h (hg b o k),fun _ _ h=>.inl h,fun _ _ h=>.inr h⟩,k2,k3,?_,?_,?_,?_,dL,?_,fun b o h=>bK b o (gp b o h),fun b o h=>bK b o (db b o h)⟩
  ·rwa [show o +(i+1)*size=o+size+i*size by rw [Nat.add_one_mul];omega]
  ·have e:o +(i+1+1)*size=o+size +(i+1)*size:=by rw [Nat.add_one_mul (i+1)];omega
   rw [e];exact bx
  ·rintro b o (h | h) k
   ·exact a8 b o h (gp b o k)
   ·exact dg b o h k
  ·rintro b o (h | h) k
   ·exact a8 b o h (db b o k)
   ·exact da b o h k
  ·rintro b o (h | h)
   ·exact bl b o h
   ·exact bK b o (hg b o h)
theorem Row.BI{α : Type}{w:World}{R : α → List Value→ah→Prop}{size:Nat}{y : α}{vs:List Value}{jd:ah} : ∀ {x:List α} {b o:Nat} {G1 G2:ah} (i:Nat),i<x.length→Row w R size (x.take i) b o G1→R y vs jd→vs.length=size →
  b3 w b (o+i*size) vs→Row w R size (x.drop (i+1)) b (o +(i+1)*size) G2→ah.apart G1 jd→ah.apart G1 G2→ah.apart jd G2→Row w R size (x.set i y) b o (G1.or (jd.or G2))
 | [],_,_,_,_,_,hi,_,_,_,_,_,_,_,_=>by simp at hi
 | z :: x,b,o,G1,G2,0,_,_,h2,h3,h4,a8,_,_,cV =>
  ⟨vs,jd,G2,h2,h3,by simpa using h4,by simpa using a8,cV,fun _ _ h=>.inr (.inl h),fun _ _ h=>.inr (.inr h)⟩
 | z :: x,b,o,G1,G2,i+1,hi,⟨ws,A,B,a1,a2,a3,a4,a5,Ig,Ih⟩,h2,h3,h4,a8,bl,bK,cV=>by
  have e1:o +(i+1)*size=o+size+i*size:=by rw [Nat.add_one_mul];omega
  have e2:o +(i+1+1)*size=o+size +(i+1)*size:=by rw [Nat.add_one_mul (i+1)];omega
  have:=Row.BI i (by simpa using hi) a4 h2 h3 (by rwa [← e1]) (by rw [← e2];exact a8) (fun b o x y=>bl b o (Ih b o x) y) (fun b o x y=>bK b o (Ih b o x) y) cV
  refine⟨ws,A,_,a1,a2,a3,this,?_,fun b o h=>.inl (Ig b o h),?_⟩
  ·rintro b o x (y | y | y)
   ·exact a5 b o x y
   ·exact bl b o (Ig b o x) y
   ·exact bK b o (Ig b o x) y
  ·rintro b o (y | y | y)
   ·exact .inl (Ih b o y)
   ·exact .inr (.inl y)
   ·exact .inr (.inr y)
mutual
theorem ad.wx:∀(T:ad) {off:Nat} {t:ad} {x:T.D} {z:List t.D},T.flat=true→T.getAt off t x=some z→False
 | .int _,_,_,_,_,_,h=>by simp [ad.getAt] at h
 | .bool,_,_,_,_,_,h=>by simp [ad.getAt] at h
 | .str,_,_,_,_,_,h=>by simp [ad.getAt] at h
 | .raw,_,_,_,_,_,h=>by simp [ad.getAt] at h
 | .sl t,_,_,_,_,hf,_=>by simp [ad.flat] at hf
 | .st aj,_,_,_,_,hf,h=>ax.wx aj (by simpa only [ad.flat] using hf) (by simpa only [ad.getAt] using h)
theorem ax.wx:∀(aj:ax) {off:Nat} {t:ad} {x:aj.D} {z:List t.D},aj.flat=true→aj.getAt off t x=some z→False
 | .nil,_,_,_,_,_,h=>by simp [ax.getAt] at h
 | .cons T aj,off,t,x,z,hf,h=>by
  simp only [ax.flat] at hf
  cases h1:T.flat
  ·rw [h1] at hf;cases hf
  rw [h1] at hf
  simp only [ax.getAt] at h
  cases hb:Nat.blt off T.size
  ·rw [hb] at h;exact ax.wx aj hf h
  ·rw [hb] at h;exact ad.wx T h1 h
end
section
variable{w b5:World}{Z bN:ah}
theorem qv(t:ad){x:t.D}{vs:List Value}{F:ah}(hF:b4 w b5 F)(h:t.al w Z t.own x vs F):t.al b5 bN t.own x vs F :=
 tu t (ad.al.same (Z:=ah.none) (fun _ _ h=>h.elim) t t.own hF (tu t h))
theorem P4(t:ax){x:t.D}{vs:List Value}{F:ah}(hF:b4 w b5 F)(h:t.al w Z t.own x vs F):t.al b5 bN t.own x vs F :=
 Bl t (ax.al.same (Z:=ah.none) (fun _ _ h=>h.elim) t t.own hF (Bl t h))
def P5(w:World)(Z:ah)(t:ad)(z:List t.D)(v:Value)(H1 G1:ah)(R:World→ah→List t.D→ah→Prop):Prop :=
 (ad.sl t).al w Z (.O t.own) z [v] H1∧ah.apart H1 G1∧∀(b5:World) (bN X:ah) (y:List t.D),b4 w b5 G1→(ad.sl t).al b5 bN (.O t.own) y [v] X→ah.apart X G1→R b5 bN y (X.or G1)
mutual
theorem ad.lens:∀(T:ad) (off:Nat) (t:ad) {x:T.D} {z:List t.D} {us:List Value} {G:ah},T.al w Z T.own x us G→T.getAt off t x=some z →
  ∃v H1 G1,us[off]?=some v∧ah.sub H1 G∧ah.sub G1 G∧P5 w Z t z v H1 G1 (fun b5 bN y eK=>∀bF,T.setAt off t y x=some bF→T.al b5 bN T.own bF us eK)
 | .int _,_,_,_,_,_,_,_,h=>by simp [ad.getAt] at h
 | .bool,_,_,_,_,_,_,_,h=>by simp [ad.getAt] at h
 | .str,_,_,_,_,_,_,_,h=>by simp [ad.getAt] at h
 | .raw,_,_,_,_,_,_,_,h=>by simp [ad.getAt] at h
 | .sl u,off,t,x,z,us,G,hr,h=>by
  simp only [ad.getAt] at h
  cases hb:Nat.beq off 0
  ·rw [hb] at h;cases h
  rw [hb] at h
  obtain rfl:=Nat.eq_of_beq_eq_true hb
  obtain ⟨e,rfl⟩:=g_ h
  subst e
  have iH:=hr
  simp only [ad.own,ad.al] at hr
  obtain ⟨A,c,rfl,_⟩:=hr
  refine⟨_,G,ah.none,rfl,fun _ _ h=>h,fun _ _ h=>h.elim,iH,fun _ _ _ h=>h.elim,fun b5 bN X y _ h2 _ bF hs=>?_⟩
  simp only [ad.setAt] at hs
  obtain ⟨e,rfl⟩:=g_ (show eG (.sl u) (.sl u) y=some bF from hs)
  exact ad.al.mono (fun _ _ h=>h) _ _ (fun _ _ h=>.inl h) h2
 | .st aj,off,t,x,z,us,G,hr,h=>by
  have fp:aj.flat=false:=by
   cases hf:aj.flat
   ·rfl
   ·exact(ad.wx (.st aj) (by simpa only [ad.flat] using hf) h).elim
  simp only [ad.own,fp,Bool.false_eq_true,if_false,ad.al,ba.parts] at hr
  simp only [ad.getAt] at h
  obtain ⟨v,H1,G1,h1,h2,h3,h4,a8,bl⟩:=ax.lens aj off t hr h
  refine⟨v,H1,G1,h1,h2,h3,h4,a8,fun b5 bN X y k1 k2 k3 bF hs=>?_⟩
  simp only [ad.setAt] at hs
  simp only [ad.own,fp,Bool.false_eq_true,if_false,ad.al,ba.parts]
  exact bl b5 bN X y k1 k2 k3 bF hs
theorem ax.lens:∀(aj:ax) (off:Nat) (t:ad) {x:aj.D} {z:List t.D} {us:List Value} {G:ah},aj.al w Z aj.own x us G→aj.getAt off t x=some z →
  ∃v H1 G1,us[off]?=some v∧ah.sub H1 G∧ah.sub G1 G∧P5 w Z t z v H1 G1 (fun b5 bN y eK=>∀bF,aj.setAt off t y x=some bF→aj.al b5 bN aj.own bF us eK)
 | .nil,_,_,_,_,_,_,_,h=>by simp [ax.getAt] at h
 | .cons T aj,off,t,x,z,us,G,hr,h=>by
  simp only [ax.own,ax.al,cU.ag,cU.dv] at hr
  obtain ⟨kW,hp,nu,nv,rfl,bz,cc,hap,ha,hb⟩:=hr
  have hl:=(ad.al.len T _ bz).1
  simp only [ax.getAt] at h
  cases cw:Nat.blt off T.size
  ·rw [cw] at h
   have Ii:T.size≤off:=by
    rcases Nat.lt_or_ge off T.size with h1 | h1
    ·have:Nat.blt off T.size=true:=Nat.ble_eq_true_of_le h1
     rw [this] at cw;cases cw
    ·exact h1
   obtain ⟨v,H1,G1,h1,h2,h3,h4,a8,bl⟩:=ax.lens aj (off-T.size) t cc h
   refine⟨v,H1,nu.or G1,?_,fun b o x=>hb b o (h2 b o x),?_,h4,?_,fun b5 bN X y k1 k2 k3 bF hs=>?_⟩
   ·rw [List.getElem?_append_right (by omega),hl];exact h1
   ·rintro b o (y | y)
    ·exact ha b o y
    ·exact hb b o (h3 b o y)
   ·rintro b o y (q | q)
    ·exact hap b o q (h2 b o y)
    ·exact a8 b o y q
   ·simp only [ax.setAt,cw,cond_false] at hs
    obtain ⟨jL,hz,hs⟩:=bf hs
    obtain rfl:=aU hs
    simp only [ax.own,ax.al,cU.ag,cU.dv]
    refine⟨kW,hp,nu,X.or G1,rfl,qv T (k1.mono fun _ _ h=>.inl h) bz,bl b5 bN X y (k1.mono fun _ _ h=>.inr h) k2 (fun b o p q=>k3 b o p (.inr q)) jL hz,?_,fun _ _ h=>.inr (.inl h),?_⟩
    ·rintro b o p (q | q)
     ·exact k3 b o q (.inl p)
     ·exact hap b o p (h3 b o q)
    ·rintro b o (q | q)
     ·exact .inl q
     ·exact .inr (.inr q)
  ·rw [cw] at h
   have Ii:off<T.size:=Nat.le_of_ble_eq_true cw
   obtain ⟨v,H1,G1,h1,h2,h3,h4,a8,bl⟩:=ad.lens T off t bz h
   refine⟨v,H1,G1.or nv,?_,fun b o x=>ha b o (h2 b o x),?_,h4,?_,fun b5 bN X y k1 k2 k3 bF hs=>?_⟩
   ·rw [List.getElem?_append_left (by omega)];exact h1
   ·rintro b o (y | y)
    ·exact ha b o (h3 b o y)
    ·exact hb b o y
   ·rintro b o y (q | q)
    ·exact a8 b o y q
    ·exact hap b o (h2 b o y) q
   ·simp only [ax.setAt,cw,cond_true] at hs
    obtain ⟨jL,hz,hs⟩:=bf hs
    obtain rfl:=aU hs
    simp only [ax.own,ax.al,cU.ag,cU.dv]
    refine⟨kW,hp,X.or G1,nv,rfl,bl b5 bN X y (k1.mono fun _ _ h=>.inl h) k2 (fun b o p q=>k3 b o p (.inl q)) jL hz,P4 aj (k1.mono fun _ _ h=>.inr h) cc,?_,?_,fun _ _ h=>.inr (.inr h)⟩
    ·rintro b o (p | p) q
     ·exact k3 b o p (.inr q)
     ·exact hap b o (h3 b o p) q
    ·rintro b o (q | q)
     ·exact .inl q
     ·exact .inr (.inl q)
end
theorem m9.lens{T:ad}{ys:List T.D}{a:Addr}{c:Nat}{F:ah}{i off:Nat}{t:ad}{z:List t.D}(h:m9 w (T.al w Z T.own) T.size ys a c F)(hi:i<ys.length)(aA:T.getAt off t (J T ys i)=some z) :
  ∃v H1,w.cell? (at_ a.block (a.off+i*T.size+off))=some v∧(ad.sl t).al w Z (.O t.own) z [v] H1∧ah.sub H1 F ∧
   ∀(b5:World) (bN X:ah) (y:List t.D) (bF:T.D),b4 w b5 (ah.diff F H1)→(ad.sl t).al b5 bN (.O t.own) y [v] X→ah.apart X (ah.diff F H1)→T.setAt off t y (J T ys i)=some bF →
    m9 b5 (T.al b5 bN T.own) T.size (ys.set i bF) a c (X.or (ah.diff F H1)):=by
 rw [c8 hi] at aA ⊢
 obtain ⟨G,g1,g2,g3⟩:=h.row
 obtain ⟨nu,jd,nv,vs,bz,Ij,hvl,ck,cc,a1,a2,a3,s1,s2,s3⟩:=g1.BH i hi
 obtain ⟨v,H1,G1,hv,k1,k2,k3,bg,bx⟩:=ad.lens T off t Ij aA
 have yz:ah.sub H1 G:=fun b o x=>s2 b o (k1 b o x)
 have hle:ys.length*T.size≤c*T.size:=Nat.mul_le_mul_right _ h.cap
 have gL:(i+1)*T.size≤ys.length*T.size:=Nat.mul_le_mul_right _ hi
 rw [Nat.add_one_mul] at gL
 refine⟨v,H1,?_,k3,fun b o x=>g3 b o (yz b o x),fun b5 bN X y bF hs hr hap Ik=>?_⟩
 ·have:=ck off v hv
  exact this
 have tG:∀ {A:ah},ah.sub A G→ah.apart A H1→ah.sub A (ah.diff F H1):=fun hA au b o x=>⟨g3 b o (hA b o x),fun y=>au b o x y⟩
 have tH:ah.sub nu (ah.diff F H1):=tG s1 fun b o x y=>a1 b o x (k1 b o y)
 have tI:ah.sub nv (ah.diff F H1):=tG s3 fun b o x y=>a3 b o (k1 b o y) x
 have d1:ah.sub G1 (ah.diff F H1):=tG (fun b o x=>s2 b o (k2 b o x)) fun b o x y=>bg b o y x
 have px:∀j,j<c*T.size→ah.diff F H1 a.block (a.off+j):=fun j hj=>⟨h.inF j hj,fun y=>g2 j hj (yz _ _ y)⟩
 have hcell:∀j,j<c*T.size→b5.cell? (at_ a.block (a.off+j))=w.cell? (at_ a.block (a.off+j)):=fun j hj=>(hs _ _ (px j hj)).1
 have e_:=bx b5 bN X y (hs.mono d1) hr (fun b o p q=>hap b o p (d1 b o q)) bF Ik
 refine⟨h.spot,by simpa using h.cap,fun j hj=>hs.kt (px j hj) (h.wr j hj),fun j hj=>.inr (px j hj),nu.or ((X.or G1).or nv),?_,?_,?_⟩
 ·refine Row.BI i hi (bz.imp (fun y us dj hG hr=>qv T (hs.mono fun b o p=>tH b o (hG b o p)) hr) fun j hj=>hcell j ?_) e_ hvl (ck.of_eq fun j hj=>?_) (cc.imp (fun y us dj hG hr=>qv T (hs.mono fun b o p=>tI b o (hG b o p)) hr) fun j hj=>?_) ?_ a2 ?_
  ·simp only [List.length_take] at hj
   have:min i ys.length*T.size≤ys.length*T.size:=Nat.mul_le_mul_right _ (Nat.min_le_right _ _)
   omega
  ·have:=hcell (i*T.size+j) (by omega)
   rwa [← Nat.add_assoc] at this
  ·simp only [List.length_drop] at hj
   have e1:(ys.length-(i+1))*T.size=ys.length*T.size-(i*T.size+T.size):=by rw [Nat.sub_mul,Nat.add_one_mul]
   rw [e1] at hj
   have:=hcell ((i+1)*T.size+j) (by rw [Nat.add_one_mul];omega)
   rwa [← Nat.add_assoc] at this
  ·rintro b o p (q | q)
   ·exact hap b o q (tH b o p)
   ·exact a1 b o p (k2 b o q)
  ·rintro b o (p | p) q
   ·exact hap b o p (tI b o q)
   ·exact a3 b o (k2 b o p) q
 ·rintro j hj (p | (p | p) | p)
  ·exact g2 j hj (s1 _ _ p)
  ·exact hap _ _ p (px j hj)
  ·exact g2 j hj (s2 _ _ (k2 _ _ p))
  ·exact g2 j hj (s3 _ _ p)
 ·rintro b o (p | (p | p) | p)
  ·exact .inr (tH b o p)
  ·exact .inl p
  ·exact .inr (d1 b o p)
  ·exact .inr (tI b o p)
end
end Go.LM
