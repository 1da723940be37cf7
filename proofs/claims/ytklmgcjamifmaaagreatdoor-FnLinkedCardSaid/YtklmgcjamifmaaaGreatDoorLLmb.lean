/- Each operation of the model is what the interpreter says. Conditions: each theorem's own hypotheses. -/
import Derived.Test.YtklmgcjamifmaaaGreatDoorLLma
import Derived.Laws.BytesString
import Derived.Laws.Tables
import Derived.Laws.Append
set_option linter.unusedVariables false
set_option linter.unusedSimpArgs false
namespace Go.LM
section
variable{P:Program}{Q:Exit→Act→World→Prop}
variable{w0:World}{F0 Z0:ah}{n:cC}{s ar:an}{a b9:Act}{w w':World}{ι bd:Nat→bF}{Z Z':ah}
def cY(w0:World)(F0 Z0:ah)(n:cC)(s:an)(a:Act)(w:World):Prop:=∃ ι Z,Inv w0 F0 Z0 n s a w ι Z
theorem YJ(v:Value):aP w Z s ι (Ht v) v:=by
 unfold Ht
 split <;> simp only [aP,cj]
 exact⟨_,rfl,rfl⟩
theorem e4(h:Inv w0 F0 Z0 n s a w ι Z)(x:Operand):aP w Z s ι (bU s x) (a.eval x):=by
 cases x with
 | tmp t=>exact h.tmps t
 | const v=>exact YJ v
 | func f=>simp only [bU,Act.eval,aP];exact⟨[],[],rfl,by simp only [aX],by simp only [aX]⟩
 | global g=>simp only [bU,aP]
theorem H9{E:Env}{t:Nat}{x y:a6}{v:Value}(h:typed E t x=some y)(hv:aP w Z s ι x v):aP w Z s ι y v:=by
 cases x <;> simp only [typed] at h <;> try (obtain rfl:=aS h;exact hv)
 ·simp at h
 ·simp at h
 ·cases ht:E.ty t with
  | none=>rw [ht] at h;simp at h
  | some T =>
   rw [ht] at h
   cases T <;> simp at h
   subst h
   simp only [aP] at hv ⊢
   exact hv
theorem fY{α : Type}{og:Sem α}{f : α → Next}{v : α}(h:og.run P w=.ok v w'):(do pure (f (← og)):Sem Next).run P w=.ok (f v) w':=by
 rw [run_bind,h];rfl
theorem me{o:Oper}{v:Value}{x:a6}{s1:an}(hr:(execOp a.eval o).run P w=.ok (.value v) w')(h:Inv w0 F0 Z0 n s1 a w' ι Z)(hv:aP w' Z s1 ι x v)
  (ag:∀k,o.dst=some k→k<n):o.wp P a w (fun b9 w'=>cY w0 F0 Z0 n (s1.dst o.dst x) b9 w') Q:=by
 unfold Oper.wp
 rw [hr,Oper.upon_value]
 exact⟨ι,Z,h.dst hv ag⟩
theorem wp_skip{o:Oper}{s1:an}(hr:(execOp a.eval o).run P w=.ok .skip w')(h:Inv w0 F0 Z0 n s1 a w' ι Z)
  (ag:∀k,o.dst=some k→k<n):o.wp P a w (fun b9 w'=>cY w0 F0 Z0 n (s1.dst o.dst .aD) b9 w') Q:=by
 unfold Oper.wp
 rw [hr,Oper.upon_skip]
 exact⟨ι,Z,h.dst (by simp only [aP]) ag⟩
def Pure(P:Program)(o:Oper)(a:Act)(w:World)(R:Act→World→Prop):Prop:=∃v,(∀w',(execOp a.eval o).run P w'=.ok (.value v) w')∧R (a.put o.dst v) w
theorem Pure.wp{o:Oper}{R:Act→World→Prop}(h:Pure P o a w R):o.wp P a w R Q:=by
 obtain ⟨v,h1,h2⟩:=h
 unfold Oper.wp
 rw [h1 w,Oper.upon_value]
 exact h2
theorem dz{o:Oper}{v:Value}{x:a6}{s1:an}(hr:∀w',(execOp a.eval o).run P w'=.ok (.value v) w')(h:Inv w0 F0 Z0 n s1 a w ι Z)(hv:aP w Z s1 ι x v)
  (ag:∀k,o.dst=some k→k<n):Pure P o a w (cY w0 F0 Z0 n (s1.dst o.dst x)) :=
 ⟨v,hr,ι,Z,h.dst hv ag⟩
structure gT(P:Program)(E:Env):Prop where
 ty:∀id T,E.ty id=some T→T.ok P id
 ptr:∀id,E.th id=true→∃e,P.underlying id=some (.pointer e)
variable{E:Env}{o:Oper}{bu : Type}{K:an→Option bu}{r : bu}{id:Nat}
theorem Bx{x:Operand}(h:Inv w0 F0 Z0 n s a w ι Z)(ag:∀k,o.dst=some k→k<n)(ho:o.op=.move x∨o.op=.assign x)(hk:cU E id o s K=some r) :
  ∃ar,K ar=some r∧Pure P o a w (cY w0 F0 Z0 n ar):=by
 have eo:(match typed E o.type (bU s x) with | some v=>K (s.dst o.dst v) | none=>none)=some r:=by
  rcases ho with ho | ho <;>(unfold cU at hk;rw [ho] at hk;exact hk)
 cases ht:typed E o.type (bU s x) with
 | none=>rw [ht] at eo;simp at eo
 | some v =>
  rw [ht] at eo
  refine⟨_,eo,dz (v:=a.eval x) (fun w'=>?_) h (H9 ht (e4 h x)) ag⟩
  rcases ho with ho | ho <;>(unfold execOp;rw [ho];rfl)
theorem Pb{c x y:Operand}(h:Inv w0 F0 Z0 n s a w ι Z)(ag:∀k,o.dst=some k→k<n)(ho:o.op=.pick c x y)(hk:cU E id o s K=some r) :
  ∃ar,K ar=some r∧Pure P o a w (cY w0 F0 Z0 n ar):=by
 unfold cU at hk
 rw [ho] at hk
 simp only at hk
 have hc:=e4 h c
 have hx:=e4 h x
 have aN:=e4 h y
 have hrun:∀t,a.eval c=.bool t→∀w',(execOp a.eval o).run P w'=.ok (.value (if t then a.eval x else a.eval y)) w':=by
  intro t ht w'
  unfold execOp;rw [ho]
  simp only [run_bind,asBool,ht,run_pure]
 cases hcv:bU s c with
 | aU jZ =>
  rw [hcv] at hk hc
  cases jZ with
  | bool t =>
   simp only [aP,cj] at hc
   have hr:=hrun t hc
   cases t with
   | true =>
    cases cK:typed E o.type (bU s x) with
    | none=>rw [cK] at hk;cases gy:typed E o.type (bU s y) <;> rw [gy] at hk <;> simp at hk
    | some v =>
     rw [cK] at hk
     have:K (s.dst o.dst v)=some r:=by cases gy:typed E o.type (bU s y) <;> rw [gy] at hk <;> exact hk
     exact⟨_,this,dz hr h (H9 cK hx) ag⟩
   | false =>
    cases gy:typed E o.type (bU s y) with
    | none=>rw [gy] at hk;cases cK:typed E o.type (bU s x) <;> rw [cK] at hk <;> simp at hk
    | some v =>
     rw [gy] at hk
     have:K (s.dst o.dst v)=some r:=by cases cK:typed E o.type (bU s x) <;> rw [cK] at hk <;> exact hk
     exact⟨_,this,dz hr h (H9 gy aN) ag⟩
  | _=>simp at hk
 | _=>rw [hcv] at hk;simp at hk
theorem qp{i:Nat}{eB:cm}(h:mkObj s i eB=some ar):s.o i=.none∧ar=s.bQ i eB:=by
 unfold mkObj at h
 cases ho:s.o i <;> rw [ho] at h <;> simp at h
 exact⟨rfl,h.symm⟩
theorem YK{t:Nat}(b1:gT P E)(h:Inv w0 F0 Z0 n s a w ι Z)(ag:∀k,o.dst=some k→k<n)(ho:o.op=.alloc t)(hk:cU E id o s K=some r) :
  ∃ar,K ar=some r∧o.wp P a w (cY w0 F0 Z0 n ar) Q:=by
 unfold cU at hk
 rw [ho] at hk
 simp only at hk
 cases ht:E.ty t with
 | none=>rw [ht] at hk;simp at hk
 | some T =>
  rw [ht] at hk
  simp only at hk
  cases hm:mkObj s id (.var 0 T.jg) with
  | none=>rw [hm] at hk;simp at hk
  | some s1 =>
   rw [hm] at hk
   obtain ⟨b7,rfl⟩:=qp hm
   have cd:=b1.ty t T ht
   have hz:bK w Z s ι T.jg (dH T T.cN).cells.toList:=by
    rw [H8 (ad.lJ T) ((rJ (w:=w) (Z:=Z) (s:=s) (ι := ι) T).ee)]
    exact rJ T
   have hn:=h.newVar b7 hz t
   refine⟨_,hk,me (v:=.pointer (some (at_ w.heap.size 0))) (w' := { w with heap:=w.heap.push (.cells (dH T T.cN).cells t) }) ?_ hn ?_ ag⟩
   ·unfold execOp;rw [ho]
    refine fY ?_
    simp only [Instr.alloc,run_bind,Bw cd,O',run_pure]
   ·simp only [aP]
    refine⟨by show bT s.o id _ id≠_;rw [cz];simp,_,rfl,rfl,?_⟩
    show match (bT s.o id _ id).core with | .var _ _=>_ | .row .. => _ | _=>_
    rw [cz]
    exact⟨rfl,_,by rw [cz],by simp [at_]⟩
theorem YL{t:Nat}{x:Operand}(b1:gT P E)(h:Inv w0 F0 Z0 n s a w ι Z)(ag:∀k,o.dst=some k→k<n)(ho:o.op=.box t x)(hk:cU E id o s K=some r) :
  ∃ar,K ar=some r∧o.wp P a w (cY w0 F0 Z0 n ar) Q:=by
 unfold cU at hk
 rw [ho] at hk
 simp only at hk
 cases ht:E.ty t with
 | none=>rw [ht] at hk;simp at hk
 | some T =>
  rw [ht] at hk
  simp only at hk
  cases hc:iN T (bU s x) with
  | none=>rw [hc] at hk;simp at hk
  | some cs =>
   rw [hc] at hk
   simp only at hk
   cases hb:Nat.beq cs.length T.size
   ·rw [hb] at hk;simp at hk
   rw [hb] at hk
   simp only [cond_true] at hk
   cases hm:mkObj s id (.var 0 cs) with
   | none=>rw [hm] at hk;simp at hk
   | some s1 =>
    rw [hm] at hk
    obtain ⟨b7,rfl⟩:=qp hm
    have hn:=h.newVar b7 (rI hc (e4 h x)) t
    refine⟨_,hk,me (v:=.pointer (some (at_ w.heap.size 0))) (w' := { w with heap:=w.heap.push (.cells (a.eval x).cells t) }) ?_ hn ?_ ag⟩
    ·unfold execOp;rw [ho]
     refine fY ?_
     simp only [Instr.box,run_bind,O',run_pure]
    ·simp only [aP]
     refine⟨by show bT s.o id _ id≠_;rw [cz];simp,_,rfl,rfl,?_⟩
     show match (bT s.o id _ id).core with | .var _ _=>_ | .row .. => _ | _=>_
     rw [cz]
     exact⟨rfl,_,by rw [cz],by simp [at_]⟩
theorem YM{t:Nat}{x:Operand}(b1:gT P E)(h:Inv w0 F0 Z0 n s a w ι Z)(ag:∀k,o.dst=some k→k<n)(ho:o.op=.load t x)(hk:cU E id o s K=some r) :
  ∃ar,K ar=some r∧o.wp P a w (cY w0 F0 Z0 n ar) Q:=by
 unfold cU at hk
 rw [ho] at hk
 simp only at hk
 have hx:=e4 h x
 have hrun:∀ {T:ad} {b i:Nat} {vs:List Value},E.ty t=some T→a.eval x=.pointer (some (at_ b i))→b5 w b i vs→vs.length=T.size →
   (execOp a.eval o).run P w=.ok (.value (dH T vs)) w:=by
  intro T b i vs ht he hc hl
  unfold execOp;rw [ho]
  refine fY ?_
  simp only [Instr.loadAt,Instr.sureAddr,he,run_bind,run_pure,H5 (b1.ty t T ht) hc hl]
 cases ht:E.ty t with
 | none=>rw [ht] at hk;simp at hk
 | some T =>
  rw [ht] at hk
  cases cK:bU s x with
  | ptr p =>
   rw [cK] at hk hx
   simp only at hk
   cases c8:(l9 s T.size p).bind (jV T) with
   | none=>rw [c8] at hk;simp at hk
   | some v =>
    rw [c8] at hk
    obtain ⟨cs,h1,h2⟩:=bf c8
    simp only [aP] at hx
    obtain ⟨_,A,he,au⟩:=hx
    obtain ⟨b,i,vs,rfl,hc,ck,hl⟩:=yk h h1 au
    exact⟨_,hk,me (hrun ht he ck hl) h (pk h2 hc) ag⟩
  | dj dp cs off =>
   rw [cK] at hk hx
   simp only at hk
   cases c8:(takeN off T.size cs).bind (jV T) with
   | none=>rw [c8] at hk;simp at hk
   | some v =>
    rw [c8] at hk
    simp only at hk
    cases dV:alive s dp
    ·rw [dV] at hk;simp at hk
    rw [dV] at hk
    obtain ⟨ds,h1,h2⟩:=bf c8
    obtain ⟨h3,rfl⟩:=pg h1
    simp only [aP] at hx
    obtain ⟨_,b,i,vs,he,hx⟩:=hx
    obtain ⟨hc,ck,_⟩:=hx dV
    have hl:=hc.len
    exact⟨_,hk,me (hrun ht he (ck.part off T.size) (by simp;omega)) h (pk h2 ((hc.drop _).take _)) ag⟩
  | _=>rw [cK] at hk;simp at hk
theorem Inv.YN(h:Inv w0 F0 Z0 n s a w ι Z){id:Nat}(b_:(s.o id).live)(hx:Ext w w' (ι id).F):Inv w0 F0 Z0 n (s.bQ id .dead) a w' ι Z:=by
 have hm:eH w Z s ι w' Z (s.bQ id .dead) ι := by
  refine⟨fun j=>?_,fun _ _ h=>h,b6.iT hx h.rF ?_⟩
  ·show iS (s.o j) (ι j) (bT s.o id .dead j) (ι j)
   by_cases hj:id=j
   ·subst hj;rw [cz];exact .dead _ _ _
   ·rw [cR hj];exact .stay _ _
  ·rintro b o (hz | ⟨ea,gf,qk,_,hf⟩) iA
   ·exact h.c4 id b_ b o iA hz
   ·have hne:ea≠id:=by
     rintro rfl
     have:bT s.o ea .dead ea=s.o ea:=qk
     rw [cz] at this
     rw [← this] at b_
     exact b_
    exact h.apart ea id gf b_ hne b o hf iA
 have rH:∀ {j},((s.bQ id .dead).o j).live→id≠j∧(s.o j).live:=fun {j} hl=>by
  have hl:(bT s.o id .dead j).live:=hl
  by_cases hj:id=j
  ·subst hj;rw [cz] at hl;exact hl.elim
  ·rw [cR hj] at hl;exact⟨hj,hl⟩
 refine h.next hm hx (fun b o hf=>(h.own id b_ b o hf).1) (fun _ _ h=>.inl h) ?_ ?_ (fun k=>(h.tmps k).move hm) h.size h.defers
 ·intro j hl hne
  exact absurd ⟨cR (rH hl).1,rfl⟩ hne
 ·intro j hl
  exact h.c4 j (rH hl).2
theorem YO{t:Nat}{x y:Operand}(b1:gT P E)(h:Inv w0 F0 Z0 n s a w ι Z)(ag:∀k,o.dst=some k→k<n)(ho:o.op=.store t x y)(hk:cU E id o s K=some r) :
  ∃ar,K ar=some r∧o.wp P a w (cY w0 F0 Z0 n ar) Q:=by
 unfold cU at hk
 rw [ho] at hk
 simp only at hk
 have hx:=e4 h x
 have aN:=e4 h y
 cases ht:E.ty t with
 | none=>rw [ht] at hk;simp at hk
 | some T =>
  rw [ht] at hk
  cases cK:bU s x with
  | ptr p =>
   rw [cK] at hk hx
   simp only at hk
   cases hc:iN T (bU s y) with
   | none =>
    rw [hc] at hk
    simp only at hk
    cases gy:bU s y <;> rw [gy] at hk <;> try (simp at hk;done)
    rename_i u
    cases bY:s.o p.id <;> rw [bY] at hk <;> try (simp at hk;done)
    rename_i ver old
    cases e5:p.fl with
    | some i=>rw [e5] at hk;simp at hk
    | none =>
     rw [e5] at hk
     simp only at hk
     cases hb:(ad.beq u T&&Nat.beq p.off 0&&Nat.ble T.size old.length)
     ·rw [hb] at hk;simp at hk
     rw [hb] at hk
     simp only [cond_true] at hk
     simp only [Bool.and_eq_true] at hb
     obtain ⟨⟨hb1,hb2⟩,hb3⟩:=hb
     have:=ad.eq_of_beq _ _ hb1
     subst this
     have hb2:=Nat.eq_of_beq_eq_true hb2
     have hb3:=Nat.le_of_ble_eq_true hb3
     rw [gy] at aN
     simp only [aP] at hx aN
     obtain ⟨_,A,he,au⟩:=hx
     obtain ⟨tu,hw1⟩:=aN
     have b_:(s.o p.id).live:=by rw [bY];trivial
     have c0:=h.fU p.id
     rw [bY] at c0
     obtain ⟨a0,us,dG,hsp,hcu,ck,hwr⟩:=c0
     obtain ⟨hs,au⟩:=au
     rw [bY] at au
     obtain ⟨_,a1,Pc,hA⟩:=au
     rw [dG] at Pc
     obtain rfl:=aS Pc
     rw [hb2] at hA
     subst hA
     have hx2:Ext w (setCells w a0.block (a0.off+0) (a.eval y).cells.toList) (ι p.id).F:=n9 _ _ _ _ fun i hi=>by
      have:=(hwr i (by rw [tu] at hi;omega)).2;simpa using this
     refine⟨_,hk,wp_skip (w':=setCells w a0.block (a0.off+0) (a.eval y).cells.toList) ?_ (h.YN b_ hx2) ag⟩
     unfold execOp;rw [ho]
     have:=H7 (P:=P) (w:=w) (b1.ty t _ ht) (b:=a0.block) (o:=a0.off+0) (v:=a.eval y) (by rw [← Array.length_toList,tu]) hw1 (fun j hj=>by
      have:=(hwr j (by rw [← Array.length_toList,tu] at hj;omega)).1;simpa using this)
     simp only [Instr.storeAt,Instr.sureAddr,he,run_bind,run_pure,this]
   | some cs =>
    rw [hc] at hk
    simp only at hk
    cases hb:Nat.beq cs.length T.size
    ·rw [hb] at hk;simp at hk
    rw [hb] at hk
    simp only [cond_true] at hk
    cases mf:Bm s p cs with
    | none=>rw [mf] at hk;simp at hk
    | some s1 =>
     rw [mf] at hk
     have hb:=Nat.eq_of_beq_eq_true hb
     have pn:=rI hc aN
     simp only [aP] at hx
     obtain ⟨_,A,he,au⟩:=hx
     obtain ⟨b,i,rfl,hw,bd,Z',hi⟩:=YD h mf au pn
     have hl:=pn.len
     refine⟨_,hk,wp_skip (w':=setCells w b i (a.eval y).cells.toList) ?_ hi ag⟩
     unfold execOp;rw [ho]
     have:=H7 (P:=P) (w:=w) (b1.ty t T ht) (b:=b) (o:=i) (v:=a.eval y) (by simp at hl;omega) pn.ee (fun j hj=>hw j (by simpa using hj))
     simp only [Instr.storeAt,Instr.sureAddr,he,run_bind,run_pure,this]
  | _=>rw [cK] at hk;simp at hk
end
end Go.LM
namespace Go.LM
section
variable{P:Program}{Q:Exit→Act→World→Prop}
variable{w0:World}{F0 Z0:ah}{n:cC}{s ar:an}{a b9:Act}{w w':World}{ι bd:Nat→bF}{Z Z':ah}
variable{E:Env}{o:Oper}{bu : Type}{K:an→Option bu}{r : bu}{id:Nat}
theorem yl{m:Nat}{i:Int}{k:Nat}(h:aO m i=some k):0≤i∧i<(m:Int)∧k=i.toNat∧k<m:=by
 unfold aO at h
 split at h
 ·rename_i hc
  have:=aS h
  exact⟨hc.1,hc.2,this.symm,by omega⟩
 ·simp at h
theorem YP{m:Nat}{lo hi:Int}{q:Nat×Nat}(h:d' m lo hi=some q):0≤lo∧lo≤hi∧hi≤(m:Int)∧q=(lo.toNat,hi.toNat):=by
 unfold d' at h
 split at h
 ·rename_i hc
  exact⟨hc.1,hc.2.1,hc.2.2,(aS h).symm⟩
 ·simp at h
theorem rK{x:a6}{i:Int}{v:Value}(h:kr x=some i)(hv:aP w Z s ι x v):∃k,v=.int k i:=by
 cases x with
 | aU c =>
  cases c <;> simp [kr] at h
  subst h
  simp only [aP,cj] at hv
  exact⟨_,hv⟩
 | _=>simp [kr] at h
theorem Pd{x:Operand}(h:Inv w0 F0 Z0 n s a w ι Z)(ag:∀k,o.dst=some k→k<n)(ho:o.op=.nilCheck x)(hk:cU E id o s K=some r) :
  ∃ar,K ar=some r∧Pure P o a w (cY w0 F0 Z0 n ar):=by
 unfold cU at hk
 rw [ho] at hk
 simp only at hk
 have hx:=e4 h x
 cases cK:bU s x with
 | ptr p =>
  rw [cK] at hk hx
  refine⟨_,hk,dz (v:=a.eval x) (fun w'=>?_) h hx ag⟩
  simp only [aP] at hx
  obtain ⟨_,A,he,_⟩:=hx
  unfold execOp;rw [ho];simp only [he];rfl
 | dj dp cs off =>
  rw [cK] at hk hx
  refine⟨_,hk,dz (v:=a.eval x) (fun w'=>?_) h hx ag⟩
  simp only [aP] at hx
  obtain ⟨_,b,i,vs,he,_⟩:=hx
  unfold execOp;rw [ho];simp only [he];rfl
 | may b dp cs =>
  rw [cK] at hk hx
  cases b
  ·cases hk
  refine⟨_,hk,dz (v:=a.eval x) (fun w'=>?_) h ?_ ag⟩
  ·simp only [aP] at hx
   rcases hx with⟨hx,_⟩ | ⟨_,_,b,i,vs,he,_⟩
   ·cases hx
   unfold execOp;rw [ho];simp only [he];rfl
  ·simp only [aP] at hx ⊢
   rcases hx with⟨hx,_⟩ | ⟨_,hx⟩
   ·cases hx
   ·exact hx
 | fn f l m =>
  rw [cK] at hk hx
  refine⟨_,hk,dz (v:=a.eval x) (fun w'=>?_) h hx ag⟩
  simp only [aP] at hx
  obtain ⟨us,vs,he,_⟩:=hx
  unfold execOp;rw [ho];simp only [he];rfl
 | opt i q =>
  rw [cK] at hk hx
  simp only at hk
  obtain ⟨k,h1,hk⟩:=bf hk
  obtain ⟨h2,h3,rfl,h4⟩:=yl h1
  simp only [aP] at hx
  obtain ⟨j0,hx⟩:=hx
  rcases hx with⟨hx,_⟩ | ⟨_,A,he,au⟩
  ·omega
  refine⟨_,hk,dz (v:=a.eval x) (fun w'=>?_) h ?_ ag⟩
  ·unfold execOp;rw [ho];simp only [he];rfl
  ·simp only [aP];exact⟨j0,A,he,au⟩
 | _=>rw [cK] at hk;simp at hk
theorem ay.By{P:Program} : ∀ {aj:ay} {cn:List Field} {base i k:Nat} {u:ad},aj.okF P cn base→aj.off i=some (k,u) →
  ∃f,cn[i]?=some f∧f.offset=base+k∧u.ok P f.type
 | .nil,_,_,_,_,_,_,h=>by simp [ay.off] at h
 | .cons t aj,cn,base,0,k,u,ho,h=>by
  simp only [ay.okF] at ho
  obtain ⟨f,lI,rfl,h1,h2,h3⟩:=ho
  simp only [ay.off,Option.some.injEq,Prod.mk.injEq] at h
  obtain ⟨rfl,rfl⟩:=h
  exact⟨f,rfl,by simpa using h1,h2⟩
 | .cons t aj,cn,base,i+1,k,u,ho,h=>by
  simp only [ay.okF] at ho
  obtain ⟨f,lI,rfl,h1,h2,h3⟩:=ho
  simp only [ay.off] at h
  obtain ⟨q,h4,a7⟩:=bf h
  simp only [Option.some.injEq,Prod.mk.injEq] at a7
  obtain ⟨rfl,rfl⟩:=a7
  obtain ⟨nc,k1,k2,k3⟩:=ay.By h3 h4
  exact⟨nc,by simpa using k1,by omega,k3⟩
theorem H_{aj:ay}{id:TypeId}(h:(ad.st aj).ok P id):∃cn,P.underlying id=some (.struct cn)∧aj.okF P cn.toList 0:=by
 simp only [ad.ok] at h;exact h.2
theorem lK{t:ad}{id:TypeId}(h:(ad.sl t).ok P id):∃e,P.underlying id=some (.slice e)∧t.ok P e:=by
 simp only [ad.ok] at h;exact h.2
theorem Pe{f:Field}{u:ad}{b i:Nat}(hu:u.ok P f.type)(hz:u.size≠0):(fieldPlace (at_ b i) f).run P w=.ok (at_ b (i+f.offset)) w:=by
 unfold fieldPlace
 rw [run_bind,run_sizeOf hu]
 simp only
 rw [if_neg hz,run_pure,qi]
theorem Pf{t:Nat}{x:Operand}{i:Nat}(b1:gT P E)(h:Inv w0 F0 Z0 n s a w ι Z)(ag:∀k,o.dst=some k→k<n)(ho:o.op=.fieldAddr t x i)(hk:cU E id o s K=some r) :
  ∃ar,K ar=some r∧Pure P o a w (cY w0 F0 Z0 n ar):=by
 unfold cU at hk
 rw [ho] at hk
 simp only at hk
 have hx:=e4 h x
 cases ht:E.ty t with
 | none=>rw [ht] at hk;simp at hk
 | some T =>
  rw [ht] at hk
  cases T with
  | st aj =>
   obtain ⟨cn,hu,kV⟩:=H_ (b1.ty t _ ht)
   have hrun:∀ {k:Nat} {u:ad} {b j:Nat},aj.off i=some (k,u)→u.size≠0→a.eval x=.pointer (some (at_ b j))→∀ {w':World},
     (execOp a.eval o).run P w'=.ok (.value (.pointer (some (at_ b (j+k))))) w':=by
    intro k u b j fA hz he w'
    obtain ⟨f,h1,h2,h3⟩:=ay.By kV fA
    rw [Array.getElem?_toList] at h1
    unfold execOp;rw [ho]
    refine fY ?_
    simp only [Instr.fieldAt,run_bind,run_underlying hu,h1,Instr.sureAddr,he,run_pure,Pe h3 hz,h2,Nat.zero_add]
   cases cK:bU s x with
   | ptr p =>
    rw [cK] at hk hx
    simp only at hk
    cases fA:aj.off i with
    | none=>rw [fA] at hk;simp at hk
    | some q =>
     obtain ⟨k,u⟩:=q
     rw [fA] at hk
     simp only at hk
     cases oi:Nat.beq u.size 0
     case true=>rw [oi] at hk;simp at hk
     rw [oi] at hk
     simp only [aP] at hx
     obtain ⟨j0,A,he,au⟩:=hx
     obtain ⟨b,j,sp⟩:=A
     obtain ⟨hsp,au⟩:=au
     simp only at hsp
     subst hsp
     refine⟨_,hk,dz (fun w'=>hrun fA (fun e=>by rw [e] at oi;simp at oi) he) h ?_ ag⟩
     simp only [aP]
     refine⟨j0,_,rfl,rfl,?_⟩
     cases bY:(s.o p.id).core with
     | var ver cs =>
      rw [bY] at au
      obtain ⟨h1,a0,h2,h3⟩:=au
      simp only [at_,Addr.mk.injEq] at h3
      exact⟨h1,a0,h2,by simp [at_,h3.1,h3.2.1];omega⟩
     | row dm em ver xs =>
      rw [bY] at au
      obtain ⟨q,h1,h2,a0,h3,h4⟩:=au
      simp only [at_,Addr.mk.injEq] at h4
      exact⟨q,h1,h2,a0,h3,by simp [at_,h4.1,h4.2.1];omega⟩
     | _=>trivial
   | dj dp cs off =>
    rw [cK] at hk hx
    simp only at hk
    cases fA:aj.off i with
    | none=>rw [fA] at hk;simp at hk
    | some q =>
     obtain ⟨k,u⟩:=q
     rw [fA] at hk
     simp only at hk
     cases oi:Nat.beq u.size 0
     case true=>rw [oi] at hk;simp at hk
     rw [oi] at hk
     simp only [aP] at hx
     obtain ⟨nh,b,j,vs,he,hx⟩:=hx
     refine⟨_,hk,dz (fun w'=>hrun fA (fun e=>by rw [e] at oi;simp at oi) he) h ?_ ag⟩
     simp only [aP]
     exact⟨nh,b,j,vs,by rw [Nat.add_assoc],hx⟩
   | _=>rw [cK] at hk;simp at hk
  | _=>simp at hk
theorem H'{u:ad}{id:TypeId}{cs:List Value}{k:Nat}(hu:u.ok P id)(hk:k+u.size≤cs.length):(Go.part id cs.toArray k).run P w=.ok (dH u ((cs.drop k).take u.size)) w:=by
 unfold Go.part
 rw [run_bind,O_ hu]
 simp only
 cases ha:u.agg
 ·have h1:=HZ ha
  simp only [Bool.false_eq_true,if_false]
  rw [h1] at hk ⊢
  have cA:k<cs.length:=by omega
  have:(cs.drop k).take 1=[cs[k]]:=by
   rw [List.drop_eq_getElem_cons cA,List.take_succ_cons,List.take_zero]
  rw [this,H4 ha]
  simp [cA,run_pure]
 ·simp only [if_true]
  rw [run_bind,run_sizeOf hu,H0 ha]
  simp only [run_pure]
  congr 2
  apply Array.ext'
  simp [List.take_drop,Nat.add_comm]
theorem Pg{t:Nat}{x:Operand}{i:Nat}(b1:gT P E)(h:Inv w0 F0 Z0 n s a w ι Z)(ag:∀k,o.dst=some k→k<n)(ho:o.op=.field t x i)(hk:cU E id o s K=some r) :
  ∃ar,K ar=some r∧Pure P o a w (cY w0 F0 Z0 n ar):=by
 unfold cU at hk
 rw [ho] at hk
 simp only at hk
 have hx:=e4 h x
 cases ht:E.ty t with
 | none=>rw [ht] at hk;simp at hk
 | some T =>
  rw [ht] at hk
  cases T with
  | st aj =>
   obtain ⟨cn,hu,kV⟩:=H_ (b1.ty t _ ht)
   cases cK:bU s x with
   | iv cs =>
    rw [cK] at hk hx
    simp only at hk
    cases fA:aj.off i with
    | none=>rw [fA] at hk;simp at hk
    | some q =>
     obtain ⟨k,u⟩:=q
     rw [fA] at hk
     simp only at hk
     cases hw:(takeN k u.size cs).bind (jV u) with
     | none=>rw [hw] at hk;simp at hk
     | some v =>
      rw [hw] at hk
      obtain ⟨ds,h1,h2⟩:=bf hw
      obtain ⟨h3,rfl⟩:=pg h1
      simp only [aP] at hx
      obtain ⟨vs,he,hc⟩:=hx
      obtain ⟨f,f1,f2,f3⟩:=ay.By kV fA
      rw [Array.getElem?_toList] at f1
      have hl:=hc.len
      refine⟨_,hk,dz (fun w'=>?_) h (pk h2 ((hc.drop k).take u.size)) ag⟩
      unfold execOp;rw [ho]
      refine fY ?_
      simp only [Instr.field,run_bind,run_underlying hu,f1,he,asAgg,run_pure]
      have:=H' (P:=P) (w:=w') f3 (cs:=vs) (k:=k) (by omega)
      rw [f2,Nat.zero_add]
      exact this
   | _=>rw [cK] at hk;simp at hk
  | _=>simp at hk
theorem Ph{x:Operand}{i:Nat}(h:Inv w0 F0 Z0 n s a w ι Z)(ag:∀k,o.dst=some k→k<n)(ho:o.op=.extract x i)(hk:cU E id o s K=some r) :
  ∃ar,K ar=some r∧Pure P o a w (cY w0 F0 Z0 n ar):=by
 unfold cU at hk
 rw [ho] at hk
 simp only at hk
 have hx:=e4 h x
 cases cK:bU s x with
 | pa l =>
  rw [cK] at hk hx
  simp only at hk
  cases hi:l[i]? with
  | none=>rw [hi] at hk;simp at hk
  | some v =>
   rw [hi] at hk
   simp only [aP] at hx
   obtain ⟨vs,he,hl⟩:=hx
   have:∀(l:List a6) (vs:List Value) (i:Nat),aX w Z s ι l vs→l[i]?=some v→∃u,vs[i]?=some u∧aP w Z s ι v u:=by
    intro l
    induction l with
    | nil=>intro vs i _ hi;simp at hi
    | cons y l ih =>
     intro vs i hl hi
     simp only [aX] at hl
     obtain ⟨u,us,rfl,h1,h2⟩:=hl
     cases i with
     | zero=>simp at hi;subst hi;exact⟨u,rfl,h1⟩
     | succ i=>exact ih us i h2 (by simpa using hi)
   obtain ⟨u,h1,h2⟩:=this l vs i hl hi
   refine⟨_,hk,dz (v:=u) (fun w'=>?_) h h2 ag⟩
   unfold execOp;rw [ho]
   refine fY ?_
   simp only [Instr.extract,he]
   simp [h1,run_pure]
 | _=>rw [cK] at hk;simp at hk
theorem Ia(h:Inv w0 F0 Z0 n s a w ι Z):∀(l:List Operand),aX w Z s ι (l.map (bU s)) (l.map a.eval)
 | []=>by simp only [List.map_nil,aX]
 | x :: l=>by simp only [List.map_cons,aX];exact⟨_,_,rfl,e4 h x,Ia h l⟩
theorem Pj{f:FuncId}{first lx:Array Operand}(h:Inv w0 F0 Z0 n s a w ι Z)(ag:∀k,o.dst=some k→k<n)(ho:o.op=.makeFunc (.func f) first lx)(hk:cU E id o s K=some r) :
  ∃ar,K ar=some r∧Pure P o a w (cY w0 F0 Z0 n ar):=by
 unfold cU at hk
 rw [ho] at hk
 simp only at hk
 refine⟨_,hk,dz (v:=.func (.func f) (first.map a.eval) (lx.map a.eval)) (fun w'=>?_) h ?_ ag⟩
 ·unfold execOp;rw [ho];rfl
 ·simp only [aP]
  refine⟨first.toList.map a.eval,lx.toList.map a.eval,?_,Ia h _,Ia h _⟩
  congr 1 <;>(apply Array.ext';simp)
end
end Go.LM
namespace Go.LM
section
variable{P:Program}{Q:Exit→Act→World→Prop}
variable{w0:World}{F0 Z0:ah}{n:cC}{s ar:an}{a b9:Act}{w w':World}{ι bd:Nat→bF}{Z Z':ah}
variable{E:Env}{o:Oper}{bu : Type}{K:an→Option bu}{r : bu}{id:Nat}
theorem Ib{k:IntKind}{i:Int} :(asIntOf (.int k i)).run P w=.ok (k,i) w:=rfl
theorem Ic{t:TypeId}{u:ad}{e:TypeId}{A:Addr}{b o len c:Nat}{k:IntKind}{i:Int}(hu:P.underlying t=some (.slice e))(he:u.ok P e)
  (h0:0≤i) (h1:i<(len:Int)):(Instr.indexAt t (.slice (some (at_ b o)) len c) (.int k i)).run P w=.ok (.pointer (some (at_ b (o+i.toNat*u.size)))) w:=by
 unfold Instr.indexAt
 simp only [run_bind,Ib,run_underlying hu,run_pure]
 rw [if_pos ⟨h0,h1⟩]
 simp only [run_bind,run_sizeOf he,run_pure,qi]
theorem beq_eq{u v:ad}(h:ad.beq u v=true):u=v:=ad.eq_of_beq _ _ h
theorem Pk{t:Nat}{x i:Operand}(b1:gT P E)(h:Inv w0 F0 Z0 n s a w ι Z)(ag:∀k,o.dst=some k→k<n)(ho:o.op=.indexAddr t x i)(hk:cU E id o s K=some r) :
  ∃ar,K ar=some r∧Pure P o a w (cY w0 F0 Z0 n ar):=by
 unfold cU at hk
 rw [ho] at hk
 simp only at hk
 have hx:=e4 h x
 have hi:=e4 h i
 cases ht:E.ty t with
 | none=>rw [ht] at hk;simp at hk
 | some T =>
  cases T with
  | sl u =>
   obtain ⟨e,hu,jj⟩:=lK (b1.ty t _ ht)
   rw [ht] at hk
   cases tv:kr (bU s i) with
   | none=>rw [tv] at hk;cases bU s x <;> simp at hk
   | some q =>
    rw [tv] at hk
    obtain ⟨di,v7⟩:=rK tv hi
    cases cK:bU s x with
    | aU c =>
     rw [cK] at hk hx
     simp only [aP] at hx
     cases c with
     | ag j sub =>
      simp only at hk
      obtain ⟨j0,A,m,c,iU,hh⟩:=hx
      cases bY:s.o j with
      | row v em ver xs =>
       rw [bY] at hk
       simp only at hk
       cases hb:ad.beq u v
       ·rw [hb] at hk;simp at hk
       rw [hb] at hk
       obtain rfl:=beq_eq hb
       obtain ⟨k,h1,hk⟩:=bf hk
       obtain ⟨h2,h3,rfl,h4⟩:=yl h1
       obtain ⟨g1,g2,g3,g4,g5⟩:=hh _ _ _ _ (lD bY)
       have hm:ly sub xs=m:=by
        cases sub with
        | none=>simp [ly,g1]
        | some p=>obtain ⟨lo,l⟩:=p;simp [ly,g1]
       rw [hm] at h3 h4
       rcases g5 with g5 | ⟨a0,gj,rfl⟩
       ·omega
       refine⟨_,hk,dz (v:=.pointer (some (at_ a0.block (a0.off+ej sub*u.size+q.toNat*u.size)))) (fun w'=>?_) h ?_ ag⟩
       ·unfold execOp;rw [ho]
        refine fY ?_
        simp only [iU,v7]
        exact Ic (A:=a0) hu jj h2 h3
       ·simp only [aP]
        refine⟨j0,_,rfl,rfl,?_⟩
        simp only
        rw [bY]
        exact⟨_,rfl,by omega,a0,gj,by simp [at_,Nat.add_mul];omega⟩
      | _=>rw [bY] at hk;simp at hk
     | b2 v dp cr xs =>
      simp only at hk
      cases hb:(alive s dp&&ad.beq u v)
      ·rw [hb] at hk;simp at hk
      rw [hb] at hk
      simp only [Bool.and_eq_true] at hb
      obtain ⟨dV,hb⟩:=hb
      obtain rfl:=beq_eq hb
      obtain ⟨k,h1,hk⟩:=bf hk
      obtain ⟨h2,h3,rfl,h4⟩:=yl h1
      obtain ⟨nh,⟨A,m,c,iU⟩,cM,_⟩:=hx
      have hr:=cM dV
      simp only [ad.al] at hr
      obtain ⟨pq,c',hv,hr⟩:=hr
      rw [iU] at hv
      simp only [List.cons.injEq,Value.slice.injEq,and_true] at hv
      obtain ⟨rfl,rfl,rfl⟩:=hv
      rcases hr with hr | ⟨a0,rfl,hsp,hrow,hz,ym⟩
      ·rw [hr] at h4;simp at h4
      obtain ⟨vs,G,k1,k2,k3,bb⟩:=hrow.get q.toNat h4
      obtain ⟨cO,dM,sp⟩:=a0
      simp only at hsp
      subst hsp
      refine⟨_,hk,dz (v:=.pointer (some (at_ cO (dM+q.toNat*u.size)))) (fun w'=>?_) h ?_ ag⟩
      ·unfold execOp;rw [ho]
       refine fY ?_
       simp only [iU,v7]
       exact Ic (A:=at_ cO dM) hu jj h2 h3
      ·simp only [aP]
       refine⟨nh,cO,dM+q.toNat*u.size,vs,rfl,fun _=>⟨?_,k3,fun j hj=>?_⟩⟩
       ·rw [c7 h4]
        exact ad.ql u dp none nh (fun _=>k1) ⟨_,_,_,k1⟩ .none
       ·have hcl:(u.cells dp none (J u xs q.toNat)).length=u.size:=by
         rw [c7 h4,← k2]
         exact((ad.ql (s:=s) (w:=w) (Z:=Z) (ι := ι) u dp none nh (fun _=>k1) ⟨_,_,_,k1⟩ .none).len).symm
        rw [hcl] at hj
        have:=hz (q.toNat*u.size+j) (by
         have:(q.toNat+1)*u.size≤xs.length*u.size:=Nat.mul_le_mul_right _ h4
         rw [Nat.add_one_mul] at this;omega)
        rwa [← Nat.add_assoc] at this
     | _=>simp at hk
    | _=>rw [cK] at hk;simp at hk
  | _=>rw [ht] at hk;simp at hk
theorem Pl{t:Nat}{x i:Operand}(b1:gT P E)(h:Inv w0 F0 Z0 n s a w ι Z)(ag:∀k,o.dst=some k→k<n)(ho:o.op=.index t x i)(hk:cU E id o s K=some r) :
  ∃ar,K ar=some r∧Pure P o a w (cY w0 F0 Z0 n ar):=by
 unfold cU at hk
 rw [ho] at hk
 simp only at hk
 have hx:=e4 h x
 have hi:=e4 h i
 cases ht:E.ty t with
 | none=>rw [ht] at hk;simp at hk
 | some T =>
  cases T with
  | str =>
   have hu:P.underlying t=some .string:=by have:=b1.ty t _ ht;simp only [ad.ok] at this;exact this.1
   rw [ht] at hk
   cases tv:kr (bU s i) with
   | none=>rw [tv] at hk;cases cK:bU s x with
    | aU c=>rw [cK] at hk;cases c <;> simp at hk
    | _=>rw [cK] at hk;simp at hk
   | some q =>
    rw [tv] at hk
    obtain ⟨di,v7⟩:=rK tv hi
    cases cK:bU s x with
    | aU c =>
     rw [cK] at hk hx
     simp only [aP] at hx
     cases c with
     | str b =>
      simp only at hk
      obtain ⟨k,h1,hk⟩:=bf hk
      obtain ⟨h2,h3,rfl,h4⟩:=yl h1
      obtain ⟨bm,iU,rfl⟩:=hx
      refine⟨_,hk,dz (v:=.int .u8 ((bm.data.toList.getD q.toNat 0).toNat:Int)) (fun w'=>?_) h (by simp only [aP,cj]) ag⟩
      unfold execOp;rw [ho]
      refine fY ?_
      have hsz:q.toNat<bm.size:=by simpa using h4
      simp only [Instr.index,iU,v7,run_bind,Ib,run_underlying hu,if_pos h2]
      have aB:bm[q.toNat]?=some bm[q.toNat]:=by simp [hsz]
      rw [aB]
      simp only [run_pure]
      congr 3
      have:bm.data.toList.getD q.toNat 0=bm[q.toNat]:=by
       simp [List.getD_eq_getElem?_getD,hsz]
       rfl
      rw [this]
     | _=>simp at hk
    | _=>rw [cK] at hk;simp at hk
  | _=>rw [ht] at hk;simp at hk
end
end Go.LM
namespace Go.LM
section
variable{P:Program}{Q:Exit→Act→World→Prop}
variable{w0:World}{F0 Z0:ah}{n:cC}{s ar:an}{a b9:Act}{w w':World}{ι bd:Nat→bF}{Z Z':ah}
variable{E:Env}{o:Oper}{bu : Type}{K:an→Option bu}{r : bu}{id:Nat}
theorem run_sliceBound{k:IntKind}{i:Int}{y:Nat}{code:BoundsCode}(h0:0≤i)(h1:i≤(y:Int)):(Instr.sliceBound (.int k i) y code).run P w=.ok i.toNat w:=by
 unfold Instr.sliceBound
 simp only [run_bind,Ib]
 rw [if_pos ⟨h0,h1⟩];rfl
theorem Ie(h:Inv w0 F0 Z0 n s a w ι Z){x:Option Operand}{d i:Int}(hb:bound s x d=some i) :
  (x=none∧i=d)∨∃y k,x=some y∧a.eval y=.int k i:=by
 cases x with
 | none=>simp [bound] at hb;exact .inl ⟨rfl,hb.symm⟩
 | some y =>
  obtain ⟨k,hk⟩:=rK (x:=bU s y) hb (e4 h y)
  exact .inr ⟨y,k,rfl,hk⟩
theorem Pm(h:Inv w0 F0 Z0 n s a w ι Z){YQ:Bool}{len cap:Nat}{lo hi:Option Operand}{l q:Int}(hl:bound s lo 0=some l)(hq:bound s hi len=some q)
  (h0:0≤l) (h1:l≤q) (h2:q≤(len:Int)) (hc:len≤cap) :
  (Instr.sliceBounds YQ len cap (lo.map a.eval) (hi.map a.eval) none).run P w'=.ok (l.toNat,q.toNat,cap) w':=by
 unfold Instr.sliceBounds
 rcases Ie h hl with⟨rfl,rfl⟩ | ⟨y,k,rfl,aN⟩ <;> rcases Ie h hq with⟨rfl,rfl⟩ | ⟨ma,k',rfl,Bz⟩
 ·simp only [Option.map_none,run_bind,run_pure,Int.toNat_natCast];rfl
 ·simp only [Option.map_none,Option.map_some,run_bind,run_pure,Bz]
  rw [run_sliceBound (by omega) (by omega)];rfl
 ·simp only [Option.map_none,Option.map_some,run_bind,run_pure,aN,Int.toNat_natCast]
  simp only [Option.isSome_none,Bool.false_eq_true,if_false]
  rw [run_sliceBound h0 (by omega)]
 ·simp only [Option.map_some,run_bind,run_pure,aN,Bz]
  rw [run_sliceBound (by omega) (by omega)]
  simp only [Option.isSome_none,Bool.false_eq_true,if_false]
  rw [run_sliceBound h0 (by omega)]
theorem YR(h:Inv w0 F0 Z0 n s a w ι Z){len cap:Nat}{lo:Option Operand}{y m:Operand}{l q:Int}{k k':IntKind}(hl:bound s lo 0=some l)(aN:a.eval y=.int k q)(hm:a.eval m=.int k' q)
  (h0:0≤l) (h1:l≤q) (h2:q≤(cap:Int)) :
  (Instr.sliceBounds true len cap (lo.map a.eval) (some (a.eval y)) (some (a.eval m))).run P w'=.ok (l.toNat,q.toNat,q.toNat) w':=by
 unfold Instr.sliceBounds
 rcases Ie h hl with⟨rfl,rfl⟩ | ⟨z,alf,rfl,hz⟩
 ·simp only [Option.map_none,run_bind,run_pure,aN,hm,if_true]
  rw [run_sliceBound (by omega) h2]
  simp only
  rw [run_sliceBound (by omega) (by omega)]
  rfl
 ·simp only [Option.map_some,run_bind,run_pure,aN,hm,hz,if_true]
  rw [run_sliceBound (by omega) h2]
  simp only
  rw [run_sliceBound (by omega) (by omega)]
  simp only [Option.isSome_some,if_true]
  rw [run_sliceBound h0 (by omega)]
theorem extract_toList(b:ByteArray)(l h:Nat):(b.extract l h).data.toList=part b.data.toList l (h-l):=by
 unfold part
 rw [ByteArray.data_extract,Array.toList_extract,List.extract_eq_take_drop]
theorem Pn{T:ad}{c c':a8}{A:Option Addr}{m k:Nat}{l q:Nat}{gQ:Nat}{u:ad}(b1:T=.sl u)(hf:kS s T c=true)(hlen:n' s c=some m)
  (h8:vM c l (q-l)=some c') (hc:cj w Z s ι c (.slice A m k)) (h1:l≤q) (h2:q≤m) (h3:q≤gQ) (h4:gQ≤k) :
  cj w Z s ι c' (.slice (if gQ=l then A else A.map (·.add (l*u.size))) (q-l) (gQ-l)):=by
 subst b1
 cases c with
 | nil v =>
  obtain rfl:=aS h8
  have hv:Value.slice A m k=.slice none 0 0:=hc
  simp only [Value.slice.injEq] at hv
  obtain ⟨rfl,rfl,rfl⟩:=hv
  have:l=0:=by omega
  have:gQ=0:=by omega
  have:q=0:=by omega
  subst_vars
  exact rfl
 | b2 v dp cr xs =>
  obtain rfl:=aS h8
  simp only [kS] at hf
  have Ig:=beq_eq hf
  injection Ig with Ig
  subst Ig
  obtain ⟨ag,_,hr,_⟩:=hc
  refine⟨ag,⟨_,_,_,rfl⟩,fun ha=>?_,.none⟩
  have:=hr ha
  simp only [ad.al] at this ⊢
  obtain ⟨pq,Po,hv,hx⟩:=this
  simp only [List.cons.injEq,Value.slice.injEq,and_true] at hv
  obtain ⟨rfl,rfl,rfl⟩:=hv
  have fJ:(part xs l (q-l)).length=q-l:=by simp only [part,List.length_take,List.length_drop];omega
  refine⟨_,_,by rw [fJ],?_⟩
  by_cases YS:q-l=0
  ·left;exact List.eq_nil_of_length_eq_zero (by rw [fJ,YS])
  ·right
   rcases hx with rfl | ⟨a0,rfl,hsp,hrow,hz,ym⟩
   ·simp at h2;omega
   obtain ⟨cO,dM,sp⟩:=a0
   simp only at hsp
   subst hsp
   refine⟨at_ cO (dM+l*u.size),?_,rfl,(hrow.drop l).take _,fun j hj=>?_,by rw [fJ];omega⟩
   ·rw [if_neg (by omega)]
    exact congrArg some (qi _ _ _)
   ·rw [fJ] at hj
    have:=hz (l*u.size+j) (by
     have a7:(l +(q-l))*u.size≤xs.length*u.size:=Nat.mul_le_mul_right _ (by omega)
     rw [Nat.add_mul] at a7;omega)
    rwa [← Nat.add_assoc] at this
 | ag j sub =>
  obtain rfl:=aS h8
  obtain ⟨j0,pq,m',k',hv,hh⟩:=hc
  simp only [Value.slice.injEq] at hv
  obtain ⟨rfl,rfl,rfl⟩:=hv
  refine⟨j0,_,_,_,rfl,fun t em ver xs bY=>?_⟩
  obtain ⟨g1,g2,g3,g4,g5⟩:=hh t em ver xs bY
  have ht:t=u:=by
   simp only [kS] at hf
   cases vR:s.o j with
   | row =>
    rw [vR] at hf bY
    simp only [cm.core,cm.row.injEq] at bY
    obtain ⟨rfl,_⟩:=bY
    have:=beq_eq hf
    injection this with this
    exact this.symm
   | _=>rw [vR] at hf;simp at hf
  subst ht
  have e1:ej (some (ej sub+l,q-l))=ej sub+l:=rfl
  refine⟨rfl,by rw [e1];omega,by omega,by rw [e1];omega,?_⟩
  by_cases YT:gQ=l
  ·left;omega
  ·right
   rcases g5 with g5 | ⟨a0,hb,rfl⟩
   ·omega
   ·refine⟨a0,hb,?_⟩
    rw [if_neg YT]
    simp only [Option.map_some,qi,e1,Nat.add_mul,Nat.add_assoc]
 | _=>simp [vM] at h8 <;>(simp [kS] at hf <;> simp [ad.beq] at hf)
theorem Ih{T:ad}{c:a8}{v:Value}{m:Nat}{u:ad}(b1:T=.sl u)(hf:kS s T c=true)(hlen:n' s c=some m)(hc:cj w Z s ι c v) :
  ∃A k,v=.slice A m k∧m≤k:=by
 subst b1
 cases c with
 | nil x=>simp only [n',Option.some.injEq] at hlen;subst hlen;exact⟨none,0,hc,Nat.le_refl _⟩
 | b2 x dp cr xs =>
  simp only [n'] at hlen
  cases ha:alive s dp
  ·rw [ha] at hlen;simp at hlen
  rw [ha] at hlen
  simp only [cond_true,Option.some.injEq] at hlen
  subst hlen
  have:=hc.2.2.1 ha
  simp only [ad.al] at this
  obtain ⟨A,c,hv,hx⟩:=this
  simp only [List.cons.injEq,and_true] at hv
  refine⟨A,c,hv,?_⟩
  rcases hx with rfl | ⟨_,_,_,_,_,ym⟩
  ·simp
  ·exact ym
 | ag j sub =>
  simp only [n'] at hlen
  cases ho:s.o j with
  | row t em ver xs =>
   rw [ho] at hlen
   simp only [Option.some.injEq] at hlen
   obtain ⟨_,A,m',k,rfl,hh⟩:=hc
   obtain ⟨g1,g2,g3,g4,g5⟩:=hh _ _ _ _ (lD ho)
   have:m'=m:=by
    rw [← hlen,g1]
    cases sub with
    | none=>rfl
    | some p=>rfl
   subst this
   exact⟨A,k,rfl,g3⟩
  | _=>rw [ho] at hlen;simp at hlen
 | _=>simp [kS,ad.beq] at hf
theorem Pp{t:Nat}{x:Operand}{lo hi gQ:Option Operand}(b1:gT P E)(h:Inv w0 F0 Z0 n s a w ι Z)(ag:∀k,o.dst=some k→k<n)(ho:o.op=.slice t x lo hi gQ)(hk:cU E id o s K=some r) :
  ∃ar,K ar=some r∧Pure P o a w (cY w0 F0 Z0 n ar):=by
 unfold cU at hk
 rw [ho] at hk
 simp only at hk
 have hx:=e4 h x
 cases ht:E.ty t with
 | none=>rw [ht] at hk;simp at hk
 | some T =>
  rw [ht] at hk
  simp only [OP] at hk
  cases cK:bU s x with
  | aU c =>
   rw [cK] at hk hx
   simp only at hk
   simp only [aP] at hx
   cases hf:kS s T c
   ·rw [hf] at hk;simp at hk
   rw [hf] at hk
   simp only [cond_true] at hk
   cases hlen:n' s c with
   | none=>rw [hlen] at hk;simp at hk
   | some m =>
    rw [hlen] at hk
    simp only at hk
    cases hl:bound s lo 0 with
    | none=>rw [hl] at hk;simp at hk
    | some l =>
     cases hq:bound s hi (m:Int) with
     | none=>rw [hl,hq] at hk;simp at hk
     | some q =>
      rw [hl,hq] at hk
      simp only at hk
      have main:(d' m l q).bind (fun r=>match vM c r.1 (r.2-r.1) with | some c'=>K (s.dst o.dst (.aU c')) | none=>none)=some r →
        ∃c',K (s.dst o.dst (.aU c'))=some r∧0≤l∧l≤q∧q≤(m:Int)∧vM c l.toNat (q.toNat-l.toNat)=some c':=by
       intro hk
       obtain ⟨p,h1,hk⟩:=bf hk
       obtain ⟨h2,h3,h4,rfl⟩:=YP h1
       cases h8:vM c l.toNat (q.toNat-l.toNat) with
       | none=>simp only [h8] at hk;simp at hk
       | some c'=>simp only [h8] at hk;exact⟨c',hk,h2,h3,h4,rfl⟩
      cases gQ with
      | none =>
       obtain ⟨c',hk,h2,h3,h4,h8⟩:=main hk
       refine⟨_,hk,?_⟩
       by_cases v8:T=.str
       ·subst v8
        have hu:P.underlying t=some .string:=by have:=b1.ty t _ ht;simp only [ad.ok] at this;exact this.1
        cases c <;> simp only [kS,ad.beq] at hf <;> try (simp at hf;done)
        ·rename_i b
         obtain ⟨bm,iU,rfl⟩:=hx
         simp only [n',Option.some.injEq] at hlen
         obtain rfl:=aS h8
         refine dz (v:=.string (bm.extract l.toNat q.toNat)) (fun w'=>?_) h ?_ ag
         ·unfold execOp;rw [ho]
          refine fY ?_
          have hsz:bm.size=m:=by rw [← hlen];simp
          simp only [Instr.sliceAt,Instr.slice,run_bind,run_underlying hu,iU,Option.map_none]
          simp only [Option.isSome_none,Bool.false_eq_true,if_false]
          rw [hsz,run_bind,Pm h hl hq h2 h3 h4 (Nat.le_refl _)]
          rfl
         ·simp only [aP]
          exact⟨_,rfl,extract_toList _ _ _⟩
        ·cases j1:s.o _ <;> rw [j1] at hf <;> simp [ad.beq] at hf
       ·cases T with
        | str=>exact absurd rfl v8
        | sl u =>
         obtain ⟨e,hu,jj⟩:=lK (b1.ty t _ ht)
         have hv:=Ih rfl hf hlen hx
         obtain ⟨A,k,iU,nj⟩:=hv
         rw [iU] at hx
         refine dz (fun w'=>?_) h (x:=.aU c') (v:=.slice (if k=l.toNat then A else A.map (·.add (l.toNat*u.size))) (q.toNat-l.toNat) (k-l.toNat)) ?_ ag
         ·unfold execOp;rw [ho]
          refine fY ?_
          simp only [Instr.sliceAt,Instr.slice,run_bind,run_underlying hu,iU,Option.map_none]
          rw [Pm h hl hq h2 h3 h4 nj]
          simp only [run_bind,run_sizeOf jj,run_pure]
         ·simp only [aP]
          exact Pn rfl hf hlen h8 hx (by omega) (by omega) (by omega) (Nat.le_refl _)
        | _=>cases c <;> simp only [kS,ad.beq] at hf <;> first | (simp at hf;done) | (cases j1:s.o _ <;> rw [j1] at hf <;> simp [ad.beq] at hf)
      | some Pq =>
       simp only at hk
       cases v8:ad.beq T .str
       case true=>rw [v8] at hk;simp at hk
       rw [v8] at hk
       simp only [cond_false] at hk
       cases mg:kr (bU s Pq) with
       | none=>rw [mg] at hk;simp at hk
       | some YU =>
        rw [mg] at hk
        simp only at hk
        cases hi with
        | none=>simp at hk
        | some y =>
         simp only [Option.isSome_some,cond_true,jB] at hk
         cases yn:decide (q=YU)
         ·rw [yn] at hk;simp at hk
         rw [yn] at hk
         have yn:=of_decide_eq_true yn
         subst yn
         obtain ⟨c',hk,h2,h3,h4,h8⟩:=main hk
         obtain ⟨k1,aN⟩:=rK hq (e4 h y)
         obtain ⟨k2,v_⟩:=rK mg (e4 h Pq)
         refine⟨_,hk,?_⟩
         cases T with
         | str=>simp [ad.beq] at v8
         | sl u =>
          obtain ⟨e,hu,jj⟩:=lK (b1.ty t _ ht)
          obtain ⟨A,k,iU,nj⟩:=Ih rfl hf hlen hx
          rw [iU] at hx
          refine dz (fun w'=>?_) h (x:=.aU c') (v:=.slice (if q.toNat=l.toNat then A else A.map (·.add (l.toNat*u.size))) (q.toNat-l.toNat) (q.toNat-l.toNat)) ?_ ag
          ·unfold execOp;rw [ho]
           refine fY ?_
           simp only [Instr.sliceAt,Instr.slice,run_bind,run_underlying hu,iU,Option.map_some]
           rw [YR h hl aN v_ h2 h3 (by omega)]
           simp only [run_bind,run_sizeOf jj,run_pure]
          ·simp only [aP]
           exact Pn rfl hf hlen h8 hx (by omega) (by omega) (by omega) (by omega)
         | _=>cases c <;> simp only [kS,ad.beq] at hf <;> first | (simp at hf;done) | (cases j1:s.o _ <;> rw [j1] at hf <;> simp [ad.beq] at hf)
  | _=>rw [cK] at hk;simp at hk
end
end Go.LM
namespace Go.LM
section
variable{P:Program}{Q:Exit→Act→World→Prop}
variable{w0:World}{F0 Z0:ah}{n:cC}{s ar:an}{a b9:Act}{w w':World}{ι bd:Nat→bF}{Z Z':ah}
variable{E:Env}{o:Oper}{bu : Type}{K:an→Option bu}{r : bu}{id:Nat}
theorem BA{k k':IntKind}(h:Nat.beq (dt k) (dt k')=true):k=k':=tg (Nat.eq_of_beq_eq_true h)
theorem rL{α : Type}{b:Bool}{x:Option α}{y : α}(h:jB b x=some y):b=true∧x=some y:=by
 cases b
 ·simp [jB] at h
 ·exact⟨rfl,h⟩
theorem toList_data(z:ByteArray):z.toList=z.data.toList:=by
 unfold ByteArray.toList
 have key:∀(m i:Nat) (r:List UInt8),z.size-i=m→i≤z.size→ByteArray.toList.loop z i r=r.reverse++z.data.toList.drop i:=by
  intro m
  induction m with
  | zero =>
   intro i r h hi
   unfold ByteArray.toList.loop
   rw [if_neg (by omega),List.drop_of_length_le (by simp;show z.data.size≤i;have:z.data.size=z.size:=rfl;omega)]
   simp
  | succ m ih =>
   intro i r h hi
   unfold ByteArray.toList.loop
   rw [if_pos (by omega),ih (i+1) _ (by omega) (by omega)]
   have cA:i<z.data.toList.length:=by simp;show i<z.data.size;have:z.data.size=z.size:=rfl;omega
   rw [List.drop_eq_getElem_cons cA]
   have aB:z.get! i=z.data.toList[i]:=by
    simp [ByteArray.get!]
    have:i<z.data.size:=by simpa using cA
    exact getElem!_pos z.data i this
   rw [aB];simp
 have:=key z.size 0 [] rfl (by omega)
 simpa using this
theorem Pr(x y:ByteArray):(x.toList==y.toList)=bs x.data.toList y.data.toList:=by
 rw [toList_data,toList_data,Bool.eq_iff_iff]
 simp [bs]
theorem Ps{x:Option a6}{K:a6→Option bu}(h:lift x K=some r):∃v,x=some v∧K v=some r:=by
 cases x with
 | none=>simp [lift] at h
 | some v=>exact⟨v,rfl,h⟩
theorem YV{op:BinOp}{k:IntKind}{x y:Int}{v:a6}{ty yty:TypeId}{xo yo:Operand}(h:Bn op k x y=some v)(h1:op≠.shl)(h2:op≠.shr)(h3:op≠.quo)(h4:op≠.rem) :
  ∃u,(∀w:World,(binOp op ty (.int k x) (.int k y)).run P w=.ok u w)∧∀w Z s ι,aP w Z s ι v u:=by
 cases op <;> simp only [Bn] at h <;> first | (simp at h;done) | (obtain rfl:=aS h)
 all_goals
  refine⟨_,fun w=>by simp only [binOp];rw [if_neg (by simp)];rfl,fun w Z s ι => ?_⟩
  simp only [aP,cj]
  try rfl
theorem v'{op:BinOp}{ty:TypeId}{xo yo:Operand}{u v:Value}(h1:(∃k x,u=.int k x)∨(∃x,u=.string x)∨(∃x,u=.bool x)∨(∃x,u=.pointer x)) :
  (eqGuard op ty xo yo u v).run P w=.ok () w:=by
 unfold eqGuard
 rcases h1 with⟨k,x,rfl⟩ | ⟨x,rfl⟩ | ⟨x,rfl⟩ | ⟨x,rfl⟩ <;>(cases op <;> rfl)
theorem jk{op:BinOp}{ty yty:TypeId}{xo yo:Operand}{u:Value}(ho:o.op=.binOp op ty xo yo yty)(aB:(eqGuard op ty xo yo (a.eval xo) (a.eval yo)).run P w=.ok () w)
  (hr:(binOp op ty (a.eval xo) (a.eval yo)).run P w=.ok u w):(execOp a.eval o).run P w=.ok (.value u) w:=by
 unfold execOp;rw [ho]
 refine fY ?_
 rw [run_bind,aB]
 exact hr
theorem YW{op:BinOp}{x y:ByteArray}{v:a6}{ty:TypeId}(h:Bo op x.data.toList y.data.toList=some v) :
  ∃u,(∀w:World,(binOp op ty (.string x) (.string y)).run P w=.ok u w)∧∀w Z s ι,aP w Z s ι v u:=by
 cases op <;> simp only [Bo] at h <;> first | (simp at h;done) | (obtain rfl:=aS h)
 all_goals
  refine⟨_,fun w=>rfl,fun w Z s ι => ?_⟩
  have:=Pr x y
  simp only [toList_data] at this
  simp only [aP,cj,dx,toList_data,Value.bool.injEq,this]
theorem Pt{op:UnOp}{t:Nat}{x:Operand}(h:Inv w0 F0 Z0 n s a w ι Z)(ag:∀k,o.dst=some k→k<n)(ho:o.op=.unOp op t x)(hk:cU E id o s K=some r) :
  ∃ar,K ar=some r∧Pure P o a w (cY w0 F0 Z0 n ar):=by
 unfold cU at hk
 rw [ho] at hk
 simp only at hk
 have hx:=e4 h x
 have hrun:∀ {u:Value} {w:World},(Op.unary op (a.eval x)).run P w=.ok u w→(execOp a.eval o).run P w=.ok (.value u) w:=by
  intro u w hu;unfold execOp;rw [ho];exact fY hu
 cases cK:bU s x with
 | aU c =>
  rw [cK] at hk hx
  simp only [aP] at hx
  cases op <;> cases c <;> simp only [Hu] at hk <;> try (simp at hk;done)
  ·simp only [cj] at hx
   exact⟨_,hk,dz (fun w'=>hrun (by rw [hx];rfl)) h (by simp only [aP,cj]) ag⟩
  ·simp only [cj] at hx
   exact⟨_,hk,dz (fun w'=>hrun (by rw [hx];rfl)) h (by simp only [aP,cj];rfl) ag⟩
  ·simp only [cj] at hx
   exact⟨_,hk,dz (fun w'=>hrun (by rw [hx];rfl)) h (by simp only [aP,cj]) ag⟩
 | _=>rw [cK] at hk;cases op <;> simp [Hu] at hk
def Pu(P:Program)(E:Env):Prop:=∀id T,E.Hr id=true→E.ty id=some T→∀(op:BinOp) (xo yo:Operand) (w:World) (Z:ah) (s:an) (ι : Nat→bF) (cs ds:List a8) (us vs:List Value) (q:Bool),
  bK w Z s ι cs us→bK w Z s ι ds vs→T.cmp cs ds=some (q,[],[]) →
  (eqGuard op id xo yo (.agg us.toArray) (.agg vs.toArray)).run P w=.ok () w ∧
  (op=.eql→(binOp op id (.agg us.toArray) (.agg vs.toArray)).run P w=.ok (.bool q) w) ∧
  (op=.neq→(binOp op id (.agg us.toArray) (.agg vs.toArray)).run P w=.ok (.bool (!q)) w)
mutual
theorem ad.yp{w w':World}{Z:ah}{s:an}{ι : Nat→bF} : ∀(t:ad) {cs ds:List a8} {r:Bool×List a8×List a8} {us vs:List Value},t.cmp cs ds=some r→bK w Z s ι cs us→bK w Z s ι ds vs →
  ∃us1 us2 vs1 vs2 a b,us=us1++us2∧vs=vs1++vs2∧cs=a++r.2.1∧ds=b++r.2.2∧bK w' Z s ι a us1∧bK w' Z s ι b vs1∧bK w Z s ι r.2.1 us2∧bK w Z s ι r.2.2 vs2
 | .int k,.int k1 x :: a,.int k2 y :: b,r,us,vs,h,h1,h2=>by
  simp only [ad.cmp] at h
  cases hk:(Nat.beq (dt k1) (dt k)&&Nat.beq (dt k2) (dt k))
  ·rw [hk] at h;cases h
  rw [hk] at h
  obtain rfl:=aS h
  cases us with
  | nil=>exact h1.elim
  | cons u us=>cases vs with
   | nil=>exact h2.elim
   | cons v vs=>exact⟨[u],us,[v],vs,[.int k1 x],[.int k2 y],rfl,rfl,rfl,rfl,⟨h1.1,trivial⟩,⟨h2.1,trivial⟩,h1.2,h2.2⟩
 | .bool,.bool x :: a,.bool y :: b,r,us,vs,h,h1,h2=>by
  obtain rfl:=aS h
  cases us with
  | nil=>exact h1.elim
  | cons u us=>cases vs with
   | nil=>exact h2.elim
   | cons v vs=>exact⟨[u],us,[v],vs,[.bool x],[.bool y],rfl,rfl,rfl,rfl,⟨h1.1,trivial⟩,⟨h2.1,trivial⟩,h1.2,h2.2⟩
 | .str,.str x :: a,.str y :: b,r,us,vs,h,h1,h2=>by
  obtain rfl:=aS h
  cases us with
  | nil=>exact h1.elim
  | cons u us=>cases vs with
   | nil=>exact h2.elim
   | cons v vs=>exact⟨[u],us,[v],vs,[.str x],[.str y],rfl,rfl,rfl,rfl,⟨h1.1,trivial⟩,⟨h2.1,trivial⟩,h1.2,h2.2⟩
 | .st aj,cs,ds,r,us,vs,h,h1,h2=>ay.yp aj (by simpa only [ad.cmp] using h) h1 h2
 | .sl t,cs,ds,r,us,vs,h,h1,h2=>by simp [ad.cmp] at h
 | .raw,cs,ds,r,us,vs,h,h1,h2=>by simp [ad.cmp] at h
 | .int k,[],_,_,_,_,h,_,_=>by simp [ad.cmp] at h
 | .bool,[],_,_,_,_,h,_,_=>by simp [ad.cmp] at h
 | .str,[],_,_,_,_,h,_,_=>by simp [ad.cmp] at h
 | .int k,c :: _,[],_,_,_,h,_,_=>by cases c <;> simp [ad.cmp] at h
 | .bool,c :: _,[],_,_,_,h,_,_=>by cases c <;> simp [ad.cmp] at h
 | .str,c :: _,[],_,_,_,h,_,_=>by cases c <;> simp [ad.cmp] at h
 | .int k,.bool _ :: _,_ :: _,_,_,_,h,_,_ | .int k,.str _ :: _,_ :: _,_,_,_,h,_,_ | .int k,.nil _ :: _,_ :: _,_,_,_,h,_,_ | .int k,.b2 _ _ _ _ :: _,_ :: _,_,_,_,h,_,_ | .int k,.ag _ _ :: _,_ :: _,_,_,_,h,_,_ | .int k,.raw _ :: _,_ :: _,_,_,_,h,_,_=>by simp [ad.cmp] at h
 | .bool,.int _ _ :: _,_ :: _,_,_,_,h,_,_ | .bool,.str _ :: _,_ :: _,_,_,_,h,_,_ | .bool,.nil _ :: _,_ :: _,_,_,_,h,_,_ | .bool,.b2 _ _ _ _ :: _,_ :: _,_,_,_,h,_,_ | .bool,.ag _ _ :: _,_ :: _,_,_,_,h,_,_ | .bool,.raw _ :: _,_ :: _,_,_,_,h,_,_=>by simp [ad.cmp] at h
 | .str,.int _ _ :: _,_ :: _,_,_,_,h,_,_ | .str,.bool _ :: _,_ :: _,_,_,_,h,_,_ | .str,.nil _ :: _,_ :: _,_,_,_,h,_,_ | .str,.b2 _ _ _ _ :: _,_ :: _,_,_,_,h,_,_ | .str,.ag _ _ :: _,_ :: _,_,_,_,h,_,_ | .str,.raw _ :: _,_ :: _,_,_,_,h,_,_=>by simp [ad.cmp] at h
 | .int k,.int _ _ :: _,.bool _ :: _,_,_,_,h,_,_ | .int k,.int _ _ :: _,.str _ :: _,_,_,_,h,_,_ | .int k,.int _ _ :: _,.nil _ :: _,_,_,_,h,_,_ | .int k,.int _ _ :: _,.b2 _ _ _ _ :: _,_,_,_,h,_,_ | .int k,.int _ _ :: _,.ag _ _ :: _,_,_,_,h,_,_ | .int k,.int _ _ :: _,.raw _ :: _,_,_,_,h,_,_=>by simp [ad.cmp] at h
 | .bool,.bool _ :: _,.int _ _ :: _,_,_,_,h,_,_ | .bool,.bool _ :: _,.str _ :: _,_,_,_,h,_,_ | .bool,.bool _ :: _,.nil _ :: _,_,_,_,h,_,_ | .bool,.bool _ :: _,.b2 _ _ _ _ :: _,_,_,_,h,_,_ | .bool,.bool _ :: _,.ag _ _ :: _,_,_,_,h,_,_ | .bool,.bool _ :: _,.raw _ :: _,_,_,_,h,_,_=>by simp [ad.cmp] at h
 | .str,.str _ :: _,.int _ _ :: _,_,_,_,h,_,_ | .str,.str _ :: _,.bool _ :: _,_,_,_,h,_,_ | .str,.str _ :: _,.nil _ :: _,_,_,_,h,_,_ | .str,.str _ :: _,.b2 _ _ _ _ :: _,_,_,_,h,_,_ | .str,.str _ :: _,.ag _ _ :: _,_,_,_,h,_,_ | .str,.str _ :: _,.raw _ :: _,_,_,_,h,_,_=>by simp [ad.cmp] at h
theorem ay.yp{w w':World}{Z:ah}{s:an}{ι : Nat→bF} : ∀(t:ay) {cs ds:List a8} {r:Bool×List a8×List a8} {us vs:List Value},t.cmp cs ds=some r→bK w Z s ι cs us→bK w Z s ι ds vs →
  ∃us1 us2 vs1 vs2 a b,us=us1++us2∧vs=vs1++vs2∧cs=a++r.2.1∧ds=b++r.2.2∧bK w' Z s ι a us1∧bK w' Z s ι b vs1∧bK w Z s ι r.2.1 us2∧bK w Z s ι r.2.2 vs2
 | .nil,cs,ds,r,us,vs,h,h1,h2=>by
  obtain rfl:=aS h
  exact⟨[],us,[],vs,[],[],rfl,rfl,rfl,rfl,trivial,trivial,h1,h2⟩
 | .cons t aj,cs,ds,r,us,vs,h,h1,h2=>by
  simp only [ay.cmp] at h
  obtain ⟨bx,g1,h⟩:=bf h
  obtain ⟨ch,g2,h⟩:=bf h
  obtain rfl:=aS h
  obtain ⟨a1,a2,ji,rG,a,b,rfl,rfl,e1,e2,k1,k2,k3,bb⟩:=ad.yp (w':=w') t g1 h1 h2
  obtain ⟨a3,a4,rM,BB,b9,b',rfl,rfl,e3,fr,dU,eJ,oo,pj⟩:=ay.yp (w':=w') aj g2 k3 bb
  exact⟨a1++a3,a4,ji++rM,BB,a++b9,b++b',by simp,by simp,by rw [e1,e3];simp,by rw [e2,fr];simp,k1.append dU,k2.append eJ,oo,pj⟩
end
theorem Pv{w:World}{Z:ah}{s:an}{ι : Nat→bF}{T:ad}{cs ds:List a8}{q:Bool}{us vs:List Value}(h:T.cmp cs ds=some (q,[],[]))(h1:bK w Z s ι cs us)(h2:bK w Z s ι ds vs)(w':World) :
  bK w' Z s ι cs us∧bK w' Z s ι ds vs:=by
 obtain ⟨us1,us2,vs1,vs2,a,b,e3,fr,qq,yq,bw,da,c5,dI⟩:=ad.yp (w':=w') T h h1 h2
 have fp:us2=[]:=by cases us2 with | nil=>rfl | cons=>exact c5.elim
 have jY:vs2=[]:=by cases vs2 with | nil=>rfl | cons=>exact dI.elim
 subst fp jY
 simp only [List.append_nil] at e3 fr qq yq
 rw [e3,fr,qq,yq]
 exact⟨bw,da⟩
theorem Pw{op:BinOp}{t BC:Nat}{x y:Operand}(b1:gT P E)(hE:Pu P E)(h:Inv w0 F0 Z0 n s a w ι Z)(ag:∀k,o.dst=some k→k<n)(ho:o.op=.binOp op t x y BC)(hk:cU E id o s K=some r) :
  ∃ar,K ar=some r∧Pure P o a w (cY w0 F0 Z0 n ar):=by
 unfold cU at hk
 rw [ho] at hk
 simp only at hk
 have hx:=e4 h x
 have aN:=e4 h y
 cases cK:bU s x with
 | aU c =>
  rw [cK] at hk hx
  simp only [aP] at hx
  cases gy:bU s y with
  | aU d =>
   rw [gy] at hk aN
   simp only [aP] at aN
   cases c <;> cases d <;> simp only [kR] at hk <;> try (simp at hk;done)
   ·rename_i k i k' j
    simp only [cj] at hx aN
    have aB:∀w:World,(eqGuard op t x y (a.eval x) (a.eval y)).run P w=.ok () w:=fun w=>v' (by rw [hx];exact .inl ⟨_,_,rfl⟩)
    by_cases h1:op=.shl
    ·subst h1
     obtain ⟨h0,hk⟩:=rL hk
     have h0:=of_decide_eq_true h0
     refine⟨_,hk,dz (fun w'=>jk ho (aB w') (by rw [hx,aN];simp only [binOp,Op.shift];rw [if_neg (by omega)];rfl)) h (by simp only [aP,cj]) ag⟩
    by_cases h2:op=.shr
    ·subst h2
     obtain ⟨h0,hk⟩:=rL hk
     have h0:=of_decide_eq_true h0
     refine⟨_,hk,dz (fun w'=>jk ho (aB w') (by rw [hx,aN];simp only [binOp,Op.shift];rw [if_neg (by omega)];rfl)) h (by simp only [aP,cj]) ag⟩
    by_cases h3:op=.quo
    ·subst h3
     cases hkk:Nat.beq (dt k) (dt k')
     ·rw [hkk] at hk;simp at hk
     have hk1:jB (j != 0) (K (s.dst o.dst (.aU (.int k (k.wrap (i.tdiv j))))))=some r:=by
      have hk2:cond (Nat.beq (dt k) (dt k')) (jB (j != 0) (K (s.dst o.dst (.aU (.int k (k.wrap (i.tdiv j))))))) none=some r:=hk
      rw [hkk] at hk2;exact hk2
     clear hk
     obtain ⟨h0,hk⟩:=rL hk1
     obtain rfl:=BA hkk
     have h0:j≠0:=by simpa using h0
     refine⟨_,hk,dz (fun w'=>jk ho (aB w') (by rw [hx,aN];simp only [binOp,Op.intDiv];rw [if_neg (by simp),if_neg h0];rfl)) h (by simp only [aP,cj]) ag⟩
    by_cases h4:op=.rem
    ·subst h4
     cases hkk:Nat.beq (dt k) (dt k')
     ·rw [hkk] at hk;simp at hk
     have hk1:jB (j != 0) (K (s.dst o.dst (.aU (.int k (i.tmod j)))))=some r:=by
      have hk2:cond (Nat.beq (dt k) (dt k')) (jB (j != 0) (K (s.dst o.dst (.aU (.int k (i.tmod j)))))) none=some r:=hk
      rw [hkk] at hk2;exact hk2
     clear hk
     obtain ⟨h0,hk⟩:=rL hk1
     obtain rfl:=BA hkk
     have h0:j≠0:=by simpa using h0
     refine⟨_,hk,dz (fun w'=>jk ho (aB w') (by rw [hx,aN];simp only [binOp,Op.intDiv];rw [if_neg (by simp),if_neg h0];rfl)) h (by simp only [aP,cj]) ag⟩
    have eo:cond (Nat.beq (dt k) (dt k')) (lift (Bn op k i j) fun v=>K (s.dst o.dst v)) none=some r:=by
     cases op <;> first | exact hk | exact absurd rfl h1 | exact absurd rfl h2 | exact absurd rfl h3 | exact absurd rfl h4
    cases hkk:Nat.beq (dt k) (dt k')
    ·rw [hkk] at eo;simp at eo
    rw [hkk] at eo
    obtain rfl:=BA hkk
    obtain ⟨v,hv,eo⟩:=Ps eo
    obtain ⟨u,hu,cM⟩:=YV (P:=P) (ty:=t) (yty:=BC) (xo:=x) (yo:=y) hv h1 h2 h3 h4
    exact⟨_,eo,dz (fun w'=>jk ho (aB w') (by rw [hx,aN];exact hu w')) h (cM _ _ _ _) ag⟩
   ·rename_i i j
    simp only [cj] at hx aN
    have aB:∀w:World,(eqGuard op t x y (a.eval x) (a.eval y)).run P w=.ok () w:=fun w=>v' (by rw [hx];exact .inr (.inr (.inl ⟨_,rfl⟩)))
    cases ht:E.ty t with
    | none=>rw [ht] at hk;simp at hk
    | some T =>
     cases T with
     | bool =>
      rw [ht] at hk
      have hu:P.underlying t=some .bool:=by have:=b1.ty t _ ht;simp only [ad.ok] at this;exact this.1
      have hb:∀(i j:Bool) {w:World},(Op.equal t (.bool i) (.bool j)).run P w=.ok (i==j) w:=by
       intro i j w
       unfold Op.equal Op.maxDepth Op.equalIn
       rw [run_bind,run_underlying hu]
       rfl
      cases op <;> simp only at hk <;> try (simp at hk;done)
      ·exact⟨_,hk,dz (fun w'=>jk ho (aB w') (by rw [hx,aN];simp only [binOp,run_bind,hb];rfl)) h (by simp only [aP,cj]) ag⟩
      ·exact⟨_,hk,dz (fun w'=>jk ho (aB w') (by rw [hx,aN];simp only [binOp,run_bind,hb];rfl)) h (by simp only [aP,cj]) ag⟩
     | _=>rw [ht] at hk;simp at hk
   ·obtain ⟨wa,hx,rfl⟩:=hx
    obtain ⟨wb,aN,rfl⟩:=aN
    have aB:∀w:World,(eqGuard op t x y (a.eval x) (a.eval y)).run P w=.ok () w:=fun w=>v' (by rw [hx];exact .inr (.inl ⟨_,rfl⟩))
    by_cases h1:op=.add
    ·subst h1
     obtain ⟨h0,hk⟩:=rL hk
     have h0:=Nat.le_of_ble_eq_true h0
     simp only [Array.length_toList] at h0
     refine⟨_,hk,dz (v:=.string (wa++wb)) (fun w'=>jk ho (aB w') (by
      rw [hx,aN];simp only [binOp,Op.stringOp]
      rw [if_neg];rfl
      have e1:wa.data.size=wa.size:=rfl
      have e2:wb.data.size=wb.size:=rfl
      simp only [IntKind.max,IntKind.signed,IntKind.bits,if_true]
      omega)) h (by simp only [aP,cj];exact⟨_,rfl,by simp⟩) ag⟩
    ·have eo:lift (Bo op wa.data.toList wb.data.toList) (fun v=>K (s.dst o.dst v))=some r:=by
      cases op <;> first | exact hk | exact absurd rfl h1
     obtain ⟨v,hv,eo⟩:=Ps eo
     obtain ⟨u,hu,cM⟩:=YW (P:=P) (ty:=t) hv
     exact⟨_,eo,dz (fun w'=>jk ho (aB w') (by rw [hx,aN];exact hu w')) h (cM _ _ _ _) ag⟩
  | kP =>
   rw [gy] at hk aN
   simp only [aP] at aN
   cases c with
   | b2 dm dp cr xs =>
    cases dp with
    | cons=>simp [kR] at hk
    | nil =>
     simp only [kR] at hk
     cases rN:E.ty t with
     | none=>rw [rN] at hk;simp at hk
     | some T =>
      cases T with
      | sl u =>
       rw [rN] at hk
       obtain ⟨e,hu,_⟩:=lK (b1.ty _ _ rN)
       obtain ⟨_,_,cM,_⟩:=hx
       have cM:=cM rfl
       simp only [ad.al] at cM
       obtain ⟨A,c',hv,ts⟩:=cM
       have iU:a.eval x=.slice A xs.length c':=by simpa using hv
       have aB:∀w:World,(eqGuard op t x y (a.eval x) (a.eval y)).run P w=.ok () w:=fun w=>by
        rw [iU,aN];unfold eqGuard;cases op <;> rfl
       have hb:∀ {w:World},(Op.equal t (.slice A xs.length c') (.slice none 0 0)).run P w=.ok A.isNone w:=by
        intro w
        unfold Op.equal Op.maxDepth Op.equalIn
        rw [run_bind,run_underlying hu]
        cases A <;> rfl
       have he:A.isNone=true→xs.isEmpty=true:=fun hA=>by
        rcases ts with ts | ⟨a0,ts,_⟩
        ·rw [ts];rfl
        ·rw [ts] at hA;cases hA
       have pick:∀ {k1 mh:Option bu},Bp xs.isEmpty k1 mh=some r→(cond A.isNone k1 mh)=some r:=by
        intro k1 mh hk
        unfold Bp both at hk
        cases hA:A.isNone
        ·rw [hA] at he
         cases Px:xs.isEmpty
         ·rw [Px] at hk;exact hk
         ·rw [Px] at hk
          simp only [cond_true] at hk
          split at hk
          ·rename_i h;rw [cond_false,← h];exact hk
          ·cases hk
        ·rw [he hA] at hk
         simp only [cond_true] at hk ⊢
         split at hk
         ·exact hk
         ·cases hk
       cases op <;> simp only at hk <;> try (simp at hk;done)
       ·have hk:=pick hk
        refine⟨s.dst o.dst (.aU (.bool A.isNone)),by cases A <;> exact hk,dz (fun w'=>jk ho (aB w') (by rw [iU,aN];simp only [binOp,run_bind,hb];rfl)) h (by simp only [aP,cj]) ag⟩
       ·have hk:=pick hk
        refine⟨s.dst o.dst (.aU (.bool (!A.isNone))),by cases A <;> exact hk,dz (fun w'=>jk ho (aB w') (by rw [iU,aN];simp only [binOp,run_bind,hb];rfl)) h (by simp only [aP,cj]) ag⟩
      | _=>rw [rN] at hk;simp at hk
   | _=>simp [kR] at hk
  | _=>rw [gy] at hk;cases c <;> simp [kR] at hk
 | iv cs =>
  rw [cK] at hk hx
  simp only [aP] at hx
  cases gy:bU s y with
  | iv ds =>
   rw [gy] at hk aN
   simp only [aP] at aN
   obtain ⟨us,hx,Py⟩:=hx
   obtain ⟨vs,aN,Pz⟩:=aN
   simp only [kR] at hk
   cases he:E.Hr t
   ·rw [he] at hk;simp at hk
   rw [he] at hk
   simp only [cond_true] at hk
   cases rN:E.ty t with
   | none=>rw [rN] at hk;simp at hk
   | some T =>
   rw [rN] at hk
   simp only at hk
   cases hq:T.cmp cs ds with
   | none=>rw [hq] at hk;cases op <;> simp at hk
   | some q =>
    obtain ⟨q,bx,ch⟩:=q
    rw [hq] at hk
    match bx,ch,hq,hk with
    | [],[],hq,hk =>
     have hE:=fun w'=>hE t T he rN op x y w' Z s ι cs ds us vs q (Pv hq Py Pz w').1 (Pv hq Py Pz w').2 hq
     cases op <;> simp only at hk <;> try (simp at hk;done)
     ·exact⟨_,hk,dz (fun w'=>jk ho (by rw [hx,aN];exact(hE w').1) (by rw [hx,aN];exact(hE w').2.1 rfl)) h (by simp only [aP,cj]) ag⟩
     ·exact⟨_,hk,dz (fun w'=>jk ho (by rw [hx,aN];exact(hE w').1) (by rw [hx,aN];exact(hE w').2.2 rfl)) h (by simp only [aP,cj]) ag⟩
    | _ :: _,_,_,hk=>cases op <;> simp at hk
    | [],_ :: _,_,hk=>cases op <;> simp at hk
  | _=>rw [gy] at hk;simp [kR] at hk
 | opt j i =>
  rw [cK] at hk hx
  simp only [aP] at hx
  cases gy:bU s y with
  | jU =>
   rw [gy] at hk aN
   simp only [aP] at aN
   simp only [kR] at hk
   cases mi:E.th t
   ·rw [mi] at hk;simp at hk
   rw [mi] at hk
   obtain ⟨e,hu⟩:=b1.ptr t mi
   have aB:∀w:World,(eqGuard op t x y (a.eval x) (a.eval y)).run P w=.ok () w:=by
    intro w
    rcases hx.2 with⟨_,hx⟩ | ⟨_,A,hx,_⟩ <;> exact v' (by rw [hx];exact .inr (.inr (.inr ⟨_,rfl⟩)))
   have hb:∀ {w:World},(Op.equal t (a.eval x) (.pointer none)).run P w=.ok (decide (i<0)) w:=by
    intro w
    rcases hx.2 with⟨h0,hx⟩ | ⟨h0,A,hx,_⟩
    ·rw [hx]
     unfold Op.equal Op.maxDepth Op.equalIn
     rw [run_bind,run_underlying hu]
     simp [h0,run_pure]
    ·rw [hx]
     unfold Op.equal Op.maxDepth Op.equalIn
     rw [run_bind,run_underlying hu]
     have:¬i<0:=by omega
     simp [this,run_pure]
   have lL:∀(op:BinOp) (v:Value),(op=.eql→v=.bool (decide (i<0)))→(op=.neq→v=.bool (!decide (i<0)))→(op=.eql∨op=.neq)→∀ {w:World},(binOp op t (a.eval x) (a.eval y)).run P w=.ok v w:=by
    intro op v h1 h2 h3 w
    rw [aN]
    have qs:∃q,a.eval x=.pointer q:=by rcases hx.2 with⟨_,hx⟩ | ⟨_,A,hx,_⟩ <;> exact⟨_,hx⟩
    obtain ⟨q,qs⟩:=qs
    rw [qs]
    have hb:∀ {w:World},(Op.equal t (.pointer q) (.pointer none)).run P w=.ok (decide (i<0)) w:=fun {w} => by rw [← qs];exact hb
    rcases h3 with rfl | rfl
    ·rw [h1 rfl];simp only [binOp,run_bind,hb];rfl
    ·rw [h2 rfl];simp only [binOp,run_bind,hb];rfl
   cases op <;> simp only at hk <;> try (simp at hk;done)
   ·exact⟨_,hk,dz (fun w'=>jk ho (aB w') (lL .eql _ (fun _=>rfl) (fun h=>by simp at h) (.inl rfl))) h (by simp only [aP,cj]) ag⟩
   ·exact⟨_,hk,dz (fun w'=>jk ho (aB w') (lL .neq _ (fun h=>by simp at h) (fun _=>rfl) (.inr rfl))) h (by simp only [aP,cj]) ag⟩
  | _=>rw [gy] at hk;simp [kR] at hk
 | may b dp cs =>
  rw [cK] at hk hx
  simp only [aP] at hx
  cases gy:bU s y with
  | jU =>
   rw [gy] at hk aN
   simp only [aP] at aN
   simp only [kR] at hk
   cases mi:E.th t
   ·rw [mi] at hk;simp at hk
   rw [mi] at hk
   obtain ⟨e,hu⟩:=b1.ptr t mi
   have aB:∀w:World,(eqGuard op t x y (a.eval x) (a.eval y)).run P w=.ok () w:=by
    intro w
    rcases hx with⟨_,hx⟩ | ⟨_,_,_,_,_,hx,_⟩ <;> exact v' (by rw [hx];exact .inr (.inr (.inr ⟨_,rfl⟩)))
   have hb:∀ {w:World},(Op.equal t (a.eval x) (.pointer none)).run P w=.ok (!b) w:=by
    intro w
    rcases hx with⟨h0,hx⟩ | ⟨h0,_,_,_,_,hx,_⟩
    ·rw [hx]
     unfold Op.equal Op.maxDepth Op.equalIn
     rw [run_bind,run_underlying hu]
     simp [h0,run_pure]
    ·rw [hx]
     unfold Op.equal Op.maxDepth Op.equalIn
     rw [run_bind,run_underlying hu]
     simp [h0,run_pure]
   have lL:∀(op:BinOp) (v:Value),(op=.eql→v=.bool (!b))→(op=.neq→v=.bool (b))→(op=.eql∨op=.neq)→∀ {w:World},(binOp op t (a.eval x) (a.eval y)).run P w=.ok v w:=by
    intro op v h1 h2 h3 w
    rw [aN]
    have qs:∃q,a.eval x=.pointer q:=by rcases hx with⟨_,hx⟩ | ⟨_,_,_,_,_,hx,_⟩ <;> exact⟨_,hx⟩
    obtain ⟨q,qs⟩:=qs
    rw [qs]
    have hb:∀ {w:World},(Op.equal t (.pointer q) (.pointer none)).run P w=.ok (!b) w:=fun {w} => by rw [← qs];exact hb
    rcases h3 with rfl | rfl
    ·rw [h1 rfl];simp only [binOp,run_bind,hb];rfl
    ·rw [h2 rfl];simp only [binOp,run_bind,hb];simp only [Bool.not_not];rfl
   cases op <;> simp only at hk <;> try (simp at hk;done)
   ·exact⟨_,hk,dz (fun w'=>jk ho (aB w') (lL .eql _ (fun _=>rfl) (fun h=>by simp at h) (.inl rfl))) h (by simp only [aP,cj]) ag⟩
   ·exact⟨_,hk,dz (fun w'=>jk ho (aB w') (lL .neq _ (fun h=>by simp at h) (fun _=>rfl) (.inr rfl))) h (by simp only [aP,cj]) ag⟩
  | _=>rw [gy] at hk;simp [kR] at hk
 | ptr p =>
  rw [cK] at hk hx
  simp only [aP] at hx
  obtain ⟨_,A,hx,_⟩:=hx
  cases gy:bU s y with
  | jU =>
   rw [gy] at hk aN
   simp only [aP] at aN
   simp only [kR] at hk
   cases mi:E.th t
   ·rw [mi] at hk;simp at hk
   rw [mi] at hk
   obtain ⟨e,hu⟩:=b1.ptr t mi
   have aB:∀w:World,(eqGuard op t x y (a.eval x) (a.eval y)).run P w=.ok () w:=fun w=>v' (by rw [hx];exact .inr (.inr (.inr ⟨_,rfl⟩)))
   have hb:∀ {w:World},(Op.equal t (.pointer (some A)) (.pointer none)).run P w=.ok false w:=by
    intro w
    unfold Op.equal Op.maxDepth Op.equalIn
    rw [run_bind,run_underlying hu]
    rfl
   cases op <;> simp only at hk <;> try (simp at hk;done)
   ·exact⟨_,hk,dz (fun w'=>jk ho (aB w') (by rw [hx,aN];simp only [binOp,run_bind,hb];rfl)) h (by simp only [aP,cj]) ag⟩
   ·exact⟨_,hk,dz (fun w'=>jk ho (aB w') (by rw [hx,aN];simp only [binOp,run_bind,hb];rfl)) h (by simp only [aP,cj];rfl) ag⟩
  | _=>rw [gy] at hk;simp [kR] at hk
 | _=>rw [cK] at hk;simp [kR] at hk
end
end Go.LM
namespace Go.LM
def c3{α : Type}(R : α → List Value→ah→Prop)(size:Nat):List α → List Value→ah→Prop
 | [],vs,_=>vs=[]
 | x :: xs,vs,F=>∃us aj G H,vs=us++aj∧R x us G∧us.length=size∧c3 R size xs aj H∧ah.apart G H∧ah.sub G F∧ah.sub H F
section
variable{α : Type}{R iQ : α → List Value→ah→Prop}{size:Nat}{w:World}
theorem c3.len:∀ {xs:List α} {vs:List Value} {F:ah},c3 R size xs vs F→vs.length=xs.length*size
 | [],_,_,h=>by simp only [c3] at h;subst h;simp
 | x :: xs,_,_,h=>by
  obtain ⟨us,aj,G,H,rfl,_,h1,h2,_⟩:=h
  rw [List.length_append,h1,c3.len h2,List.length_cons,Nat.add_one_mul];omega
theorem c3.mono:∀ {xs:List α} {vs:List Value} {F F':ah},ah.sub F F'→c3 R size xs vs F→c3 R size xs vs F'
 | [],_,_,_,_,h=>h
 | x :: xs,_,_,_,hs,⟨us,aj,G,H,h1,h2,h3,h4,a7,bg,bH⟩=>⟨us,aj,G,H,h1,h2,h3,h4,a7,fun b o h=>hs b o (bg b o h),fun b o h=>hs b o (bH b o h)⟩
theorem c3.imp:∀ {xs:List α} {vs:List Value} {F:ah},c3 R size xs vs F→(∀y us G,ah.sub G F→R y us G→iQ y us G)→c3 iQ size xs vs F
 | [],_,_,h,_=>h
 | x :: xs,_,F,⟨us,aj,G,H,h1,h2,h3,h4,a7,bg,bH⟩,dK =>
  ⟨us,aj,G,H,h1,dK _ _ _ bg h2,h3,c3.imp h4 (fun y us dk hs=>dK y us dk fun b o h=>bH b o (hs b o h)),a7,bg,bH⟩
theorem c3.bare:∀ {xs:List α} {vs:List Value} {F:ah},c3 R size xs vs F→(∀y us G,ah.sub G F→R y us G→iQ y us ah.none)→c3 iQ size xs vs ah.none
 | [],_,_,h,_=>h
 | x :: xs,_,F,⟨us,aj,G,H,h1,h2,h3,h4,a7,bg,bH⟩,dK =>
  ⟨us,aj,ah.none,ah.none,h1,dK _ _ _ bg h2,h3,c3.bare h4 (fun y us dk hs=>dK y us dk fun b o h=>bH b o (hs b o h)),fun _ _ h=>h.elim,fun _ _ h=>h,fun _ _ h=>h⟩
theorem c3.append:∀ {xs ys:List α} {us vs:List Value} {F G:ah},c3 R size xs us F→c3 R size ys vs G→ah.apart F G→c3 R size (xs++ys) (us++vs) (F.or G)
 | [],ys,us,vs,F,G,h,k,_=>by
  simp only [c3] at h;subst h
  exact k.mono fun _ _ h=>.inr h
 | x :: xs,ys,us,vs,F,G,⟨a,b,A,B,h1,h2,h3,h4,a7,bg,bH⟩,k,ha=>by
  refine⟨a,b++vs,A,B.or G,by rw [h1,List.append_assoc],h2,h3,c3.append h4 k (fun b o h=>ha b o (bH b o h)),?_,fun b o h=>.inl (bg b o h),fun b o h=>h.imp (bH b o) id⟩
  rintro b o g (h | h)
  ·exact a7 b o g h
  ·exact ha b o (bg b o g) h
theorem c3.row:∀ {xs:List α} {vs:List Value} {F:ah} {b o:Nat},c3 R size xs vs F→b5 w b o vs→Row w R size xs b o F
 | [],_,_,_,_,_,_=>trivial
 | x :: xs,_,_,b,o,⟨us,aj,G,H,h1,h2,h3,h4,a7,bg,bH⟩,hc=>by
  subst h1
  exact⟨us,G,H,h2,h3,hc.left,c3.row h4 (h3 ▸ hc.right),a7,bg,bH⟩
theorem Row.s_:∀ {xs:List α} {b o:Nat} {F:ah},Row w R size xs b o F→∃vs,c3 R size xs vs F∧b5 w b o vs
 | [],_,_,_,_=>⟨[],rfl,b5.nil _ _ _⟩
 | x :: xs,b,o,F,⟨us,G,H,h1,h2,h3,h4,a7,bg,bH⟩=>by
  obtain ⟨aj,k1,k2⟩:=Row.s_ h4
  exact⟨us++aj,⟨us,aj,G,H,rfl,h1,h2,k1,a7,bg,bH⟩,h3.append (by rw [h2];exact k2)⟩
theorem c3.replicate{x : α}{us:List Value}(dK:R x us ah.none)(hl:us.length=size):∀n,c3 R size (List.replicate n x) (List.replicate n us).flatten ah.none
 | 0=>rfl
 | n+1=>by
  rw [List.replicate_succ,List.replicate_succ,List.flatten_cons]
  exact⟨us,_,ah.none,ah.none,rfl,dK,hl,c3.replicate dK hl n,fun _ _ h=>h.elim,fun _ _ h=>h,fun _ _ h=>h⟩
end
mutual
theorem Ii{w:World}{Z F:ah} : ∀(t:ad) (m:a'),t.al w Z m t.zero t.cN F
 | .int _,_=>by simp only [ad.al,ad.zero,ad.cN]
 | .bool,_=>by simp only [ad.al,ad.zero,ad.cN]
 | .str,_=>by simp only [ad.al,ad.zero,ad.cN];exact⟨_,rfl,rfl⟩
 | .raw,_=>by simp only [ad.al,ad.zero,ad.cN];exact⟨trivial,_,_,_,rfl⟩
 | .sl t,.O e=>by simp only [ad.al,ad.zero,ad.cN];exact⟨none,0,rfl,.inl (by simp)⟩
 | .sl t,.R=>by simp only [ad.al,ad.zero,ad.cN];exact⟨none,0,rfl,.inl trivial⟩
 | .sl t,.S _=>by simp only [ad.al,ad.zero,ad.cN];exact⟨none,0,rfl,.inl trivial⟩
 | .st aj,m=>by simp only [ad.al,ad.zero,ad.cN];exact PA aj m.parts
theorem PA{w:World}{Z F:ah} : ∀(aj:ay) (m:cW),aj.al w Z m aj.zero aj.cN F
 | .nil,_=>by simp only [ay.al,ay.cN]
 | .cons t aj,m=>by
  simp only [ay.al,ay.zero,ay.cN]
  exact⟨t.cN,aj.cN,ah.none,ah.none,rfl,Ii t m.ag,PA aj m.dw,fun _ _ h=>h.elim,fun _ _ h=>h.elim,fun _ _ h=>h.elim⟩
end
section
variable{P:Program}{Q:Exit→Act→World→Prop}
variable{w0:World}{F0 Z0:ah}{n:cC}{s ar:an}{a b9:Act}{w w':World}{ι bd:Nat→bF}{Z Z':ah}
variable{E:Env}{o:Oper}{bu : Type}{K:an→Option bu}{r : bu}{id:Nat}
theorem bJ.ext{F S:ah}(hf:bJ w0 F0 s w ι Z F)(hx:Ext w w' S):bJ w0 F0 s w' ι Z F :=
 ⟨fun b o h=>⟨(hf.own b o h).1,Nat.lt_of_lt_of_le (hf.own b o h).2 hx.size⟩,hf.apart,hf.c4⟩
theorem Inv.fresh(h:Inv w0 F0 Z0 n s a w ι Z){F:ah}(hF:∀b o,F b o→w.heap.size≤b∧b<w'.heap.size):bJ w0 F0 s w' ι Z F:=by
 have:=h.ext.size
 refine⟨fun b o hf=>⟨.inr (by have:=(hF b o hf).1;omega),(hF b o hf).2⟩,fun id hl b o h1 h2=>?_,fun b o h1 h2=>?_⟩
 ·have:=(h.own id hl b o h2).2;have:=(hF b o h1).1;omega
 ·have:=h.iR b o h2;have:=(hF b o h1).1;omega
def grown(w:World)(d:Nat)(arr:Array Value)(e:TypeId)(f:Nat×Nat):World := { w with drawn:=d,heap:=w.heap.push (.cells arr e f) }
theorem Be(w:World)(d:Nat)(arr:Array Value)(e:TypeId)(f:Nat×Nat)(F:ah):Ext w (grown w d arr e f) F :=
 ⟨rfl,rfl,rfl,by simp [grown],fun b hb=>.inl (by simp only [grown];rw [Array.getElem?_push,if_neg (by omega)])⟩
theorem yb(w:World)(d:Nat)(arr:Array Value)(e:TypeId)(f:Nat×Nat):(grown w d arr e f).heap[w.heap.size]?=some (.cells arr e f):=by simp [grown]
theorem ya(w:World)(d:Nat)(arr:Array Value)(e:TypeId)(f:Nat×Nat)(o:Nat):(grown w d arr e f).cell? (at_ w.heap.size o)=arr[o]?:=cell_of_heap (yb ..) o
theorem Hk(w:World)(d:Nat)(arr:Array Value)(e:TypeId)(f:Nat×Nat):(grown w d arr e f).heap.size=w.heap.size+1:=by simp [grown]
theorem Inv.newRow(h:Inv w0 F0 Z0 n s a w ι Z){id:Nat}(b7:s.o id=.none){t:ad}{em:a'}{xs:List t.D}{vs:List Value}{G:ah}
  (he:c3 (t.al w Z em) t.size xs vs G) (hG:bJ w0 F0 s w ι Z G) (d:Nat) (arr:Array Value) (e:TypeId) (f:Nat×Nat) (c:Nat)
  (hv:∀(j:Nat) (v:Value),vs[j]?=some v→arr[j]?=some v) (hc:xs.length≤c) (hsz:c*t.size≤arr.size) (hf:f.1=f.2∨c*t.size≤f.1) (hf2:t.size=1∨f.1=f.2) :
  Inv w0 F0 Z0 n (s.bQ id (.row t em 0 xs)) a (grown w d arr e f) (bT ι id ⟨some (at_ w.heap.size 0),c,(ah.run w.heap.size 0 (c*t.size)).or G⟩) Z:=by
 have hx:=Be w d arr e f ah.none
 have h1:=h.world hx
 have j2:bJ w0 F0 s (grown w d arr e f) ι Z (ah.run w.heap.size 0 (c*t.size)):=h.fresh (by rintro b o ⟨rfl,_,_⟩;rw [Hk];omega)
 have fa:=hG.ext hx
 refine h1.Bt b7 ?_ (j2.or fa)
 refine .inr ⟨at_ w.heap.size 0,rfl,rfl,hc,fun j hj=>⟨⟨⟨arr[j]'(by simp only at hj;omega),?_⟩,?_⟩,?_⟩,fun j hj=>.inl ⟨rfl,by simp [at_],by simpa [at_] using hj⟩,G,?_,?_,fun _ _ h=>.inr h⟩
 ·show World.cell? _ (at_ w.heap.size (0+j))=_
  rw [ya];simp
 ·show World.frozen? _ (at_ w.heap.size (0+j))=_
  rw [qe,yb]
  simp only at hj
  simp only [Bool.and_eq_false_iff,decide_eq_false_iff_not]
  omega
 ·refine hf2.imp (fun h=>h) fun h2 k=>?_
  show World.frozen? _ (at_ w.heap.size k)=_
  rw [qe,yb]
  simp only [Bool.and_eq_false_iff,decide_eq_false_iff_not]
  omega
 ·refine c3.row (he.imp fun y us dk hs hr=>ad.al.same (b6.iT hx h.iR fun _ _ _ h=>h) _ _ (b6.iT hx (fun b o aB=>(hG.own b o (hs b o aB)).2) fun _ _ _ h=>h) hr) ?_
  intro i v hi
  show World.cell? _ (at_ w.heap.size (0+i))=_
  rw [ya,Nat.zero_add];exact hv i v hi
 ·intro j hj aB
  have:=(hG.own _ _ aB).2
  simp [at_] at this
theorem yr{id:Nat}{t:ad}{em:a'}{ver:Nat}{xs:List t.D}{A:Addr}{c:Nat}{F:ah}(hA:A.spot=none)(hc:xs.length≤c) :
  cj w Z (s.bQ id (.row t em ver xs)) (bT ι id ⟨some A,c,F⟩) (.ag id none) (.slice (some A) xs.length c):=by
 refine⟨?_,some A,xs.length,c,rfl,?_⟩
 ·show bT s.o id _ id≠_
  rw [cz];simp
 ·intro dm gx nk fV ho
  have rE:(bT s.o id (cm.row t em ver xs) id).core=.row dm gx nk fV:=ho
  rw [cz] at rE ⊢
  obtain ⟨rfl,_,_,h4⟩:=cm.row.inj rE
  have:=eq_of_heq h4;subst this
  refine⟨rfl,by simp [ej],hc,by simp [ej],.inr ⟨A,rfl,?_⟩⟩
  simp only [ej,Nat.zero_mul,Nat.add_zero]
  cases A;simp_all [at_]
theorem PB(us:List Value):∀(n j:Nat),j<n*us.length→(List.replicate n us).flatten[j]?=us[j % us.length]?
 | 0,j,h=>by simp at h
 | n+1,j,h=>by
  rw [List.replicate_succ,List.flatten_cons]
  by_cases hj:j<us.length
  ·rw [List.getElem?_append_left hj,Nat.mod_eq_of_lt hj]
  ·have h':j<n*us.length+us.length:=by rw [← Nat.add_one_mul];exact h
   rw [List.getElem?_append_right (by omega),PB us n (j-us.length) (by omega),← Nat.mod_eq_sub_mod (by omega)]
theorem Ij{z:Array Value}{m j:Nat}(us:List Value)(n:Nat)(hz:z.toList=us)(hm:m=n*us.length)(v:Value)(h:(List.replicate n us).flatten[j]?=some v) :
  ((Array.range m).map (z[· % z.size]!))[j]?=some v:=by
 subst hz
 have hj:j<n*z.toList.length:=by
  rcases Nat.lt_or_ge j (n*z.toList.length) with h1 | h1
  ·exact h1
  ·rw [List.getElem?_eq_none (by simp;simpa using h1)] at h;simp at h
 rw [PB _ _ _ hj] at h
 have hl:z.toList.length=z.size:=by simp
 rw [hl] at h hj
 rw [Array.getElem?_map,Array.getElem?_range,if_pos (by rw [hm,hl];exact hj)]
 simp only [Option.map_some,Option.some.injEq]
 have cA:j % z.size<z.size:=by
  apply Nat.mod_lt
  rcases Nat.eq_zero_or_pos z.size with h0 | h0
  ·rw [h0] at hj;simp at hj
  ·exact h0
 rw [getElem!_pos z _ cA]
 simpa [cA] using h
theorem wrap_i64{i:Int}(h0:0≤i)(h1:i≤68719476736):IntKind.wrap .i64 i=i:=by
 simp [IntKind.wrap,IntKind.bits,IntKind.signed]
 omega
theorem YX{k:IntKind}{i:Int} :(asInt (.int k i)).run P w=.ok i w:=rfl
theorem wc(T:ad):(dH T T.cN).cells.toList=T.cN:=H8 (ad.lJ T) ((rJ (w:=default) (Z:=ah.none) (s:=⟨fun _=>.aD,fun _=>.none,[]⟩) (ι := fun _=>⟨none,0,ah.none⟩) T).ee)
theorem run_askRoom{b:Nat} :(askRoom b).run P w=.ok () w:=by
 unfold askRoom;split <;> rfl
theorem BD{e:TypeId}{arr:Array Value} :(newRow e arr).run P w=.ok (at_ w.heap.size 0) (grown w w.drawn arr e (0,0)):=by
 simp [newRow,Go.newObj,run_bind,Sem.run,run_pure,at_,grown]
theorem run_makeSlice{T:ad}{t e:TypeId}{k k':IntKind}{m:Int}(hu:P.underlying t=some (.slice e))(cd:T.ok P e)(h0:0≤m)(h1:m≤68719476736) :
  ∃arr:Array Value,(∀(j:Nat) (v:Value),(List.replicate m.toNat T.cN).flatten[j]?=some v→arr[j]?=some v)∧arr.size=m.toNat*T.size ∧
   (Instr.makeSlice t (.int k m) (.int k' m)).run P w=.ok (.slice (some (at_ w.heap.size 0)) m.toNat m.toNat) (grown w w.drawn arr e (0,0)):=by
 obtain ⟨i,gG,e',rO,we⟩:=cd.info
 have hb:¬((i.bytes:Int)*m>2 ^ 48):=by
  have:(i.bytes:Int)*m≤2048*68719476736:=Int.mul_le_mul (by omega) h1 h0 (by omega)
  omega
 have yt:(dH T T.cN).cells.size=T.size:=by
  have:=congrArg List.length (wc T)
  rw [Array.length_toList,ad.lJ] at this;exact this
 refine⟨(Array.range (m.toNat*T.size)).map fun j=>(if m.toNat*T.size=0 then #[] else(dH T T.cN).cells)[j % (if m.toNat*T.size=0 then #[] else(dH T T.cN).cells).size]!,?_,by simp,?_⟩
 ·intro j v hj
  by_cases hz:m.toNat*T.size=0
  ·have:(List.replicate m.toNat T.cN).flatten=[]:=by
    apply List.eq_nil_of_length_eq_zero
    simp [ad.lJ];simpa using hz
   rw [this] at hj;simp at hj
  ·simp only [if_neg hz]
   exact Ij T.cN m.toNat (wc T) (by rw [ad.lJ]) v hj
 ·unfold Instr.makeSlice
  simp only [run_bind,run_underlying hu,YX,run_typeInfo gG,wrap_i64 h0 h1]
  have BE:¬m<0:=by omega
  simp only [BE,hb,decide_false,Bool.or_false,Bool.false_or,Bool.false_eq_true,if_false,gt_iff_lt,Int.lt_irrefl]
  simp only [run_bind,run_askRoom,run_sizeOf cd]
  by_cases hz:m.toNat*T.size=0
  ·simp only [if_pos hz,run_bind,run_pure,BD]
  ·simp only [if_neg hz,run_bind,run_pure,BD,Bw cd]
theorem YY{t:Nat}{x y:Operand}(b1:gT P E)(h:Inv w0 F0 Z0 n s a w ι Z)(ag:∀k,o.dst=some k→k<n)(ho:o.op=.makeSlice t x y)(hk:cU E id o s K=some r) :
  ∃ar,K ar=some r∧o.wp P a w (cY w0 F0 Z0 n ar) Q:=by
 unfold cU at hk
 rw [ho] at hk
 simp only at hk
 cases ht:E.ty t with
 | none=>rw [ht] at hk;simp at hk
 | some T =>
  rw [ht] at hk
  cases T with
  | sl T =>
   cases hx:kr (bU s x) with
   | none=>rw [hx] at hk;simp at hk
   | some m =>
    cases aN:kr (bU s y) with
    | none=>rw [hx,aN] at hk;simp at hk
    | some m' =>
     rw [hx,aN] at hk
     obtain ⟨aB,hk2⟩:=rL hk
     clear hk
     have hk:=hk2
     clear hk2
     simp only [Bool.and_eq_true,decide_eq_true_eq,room] at aB
     obtain ⟨⟨h0,rfl⟩,h1⟩:=aB
     have h1:=Nat.le_of_ble_eq_true h1
     cases hm:mkObj s id (.row T T.own 0 (List.replicate m.toNat T.zero)) with
     | none=>rw [hm] at hk;simp at hk
     | some s1 =>
      rw [hm] at hk
      obtain ⟨b7,rfl⟩:=qp hm
      obtain ⟨k,hx⟩:=rK hx (e4 h x)
      obtain ⟨k',aN⟩:=rK aN (e4 h y)
      obtain ⟨e,hu,cd⟩:=lK (b1.ty t _ ht)
      obtain ⟨arr,ha,has,hr⟩:=run_makeSlice (P:=P) (w:=w) (k:=k) (k':=k') hu cd h0 (by omega)
      have hn:=h.newRow b7 (c3.replicate (Ii T T.own) (ad.lJ T) m.toNat) bJ.none w.drawn arr e (0,0) m.toNat ha (by simp) (by omega) (.inl rfl) (.inr rfl)
      refine⟨_,hk,me (v:=.slice (some (at_ w.heap.size 0)) m.toNat m.toNat) ?_ hn ?_ ag⟩
      ·unfold execOp;rw [ho]
       refine fY ?_
       rw [hx,aN];exact hr
      ·simp only [aP]
       have:=yr (w:=grown w w.drawn arr e (0,0)) (Z:=Z) (s:=s) (ι := ι) (id:=id) (em:=T.own) (ver:=0) (xs:=List.replicate m.toNat T.zero) (A:=at_ w.heap.size 0) (c:=m.toNat) (F:=(ah.run w.heap.size 0 (m.toNat*T.size)).or ah.none) rfl (by simp)
       simpa using this
  | _=>simp at hk
end
end Go.LM
namespace Go.LM
section
variable{P:Program}{Q:Exit→Act→World→Prop}
variable{w0:World}{F0 Z0:ah}{n:cC}{s ar:an}{a b9:Act}{w w':World}{ι bd:Nat→bF}{Z Z':ah}
variable{E:Env}{o:Oper}{bu : Type}{K:an→Option bu}{r : bu}{id:Nat}
theorem wg{k:IntKind}{t:TypeId}(h:(ad.int k).ok P t):P.underlying t=some (.int k):=by simp only [ad.ok] at h;exact h.1
theorem wh{t:TypeId}(h:ad.str.ok P t):P.underlying t=some .string:=by simp only [ad.ok] at h;exact h.1
theorem Ik{w:World}{Z:ah}{k:IntKind} : ∀l:List Int,c3 ((ad.int k).al w Z .R) 1 l (l.map (Value.int k)) ah.none
 | []=>rfl
 | x :: l=>⟨[.int k x],l.map (Value.int k),ah.none,ah.none,rfl,by simp only [ad.al],rfl,Ik l,fun _ _ h=>h.elim,fun _ _ h=>h,fun _ _ h=>h⟩
theorem YZ{e:TypeId}{b:ByteArray} :
  ∃(arr:Array Value) (c d:Nat),(Conv.stringToBytes e b).run P w=.ok (.slice (some (at_ w.heap.size 0)) b.size c) (grown w d arr e (c,c+1))∧b.size≤c∧arr.size=c ∧
   ∀(j:Nat) (v:Value),((ez b.data.toList).map (Value.int .u8))[j]?=some v→arr[j]?=some v:=by
 have hq:(Question.appendCap b.size 0 e).forced=false:=rfl
 have hsz:b.data.size=b.size:=rfl
 refine⟨(b.data.map fun x=>Value.int .u8 x.toNat)++Array.replicate (b.size+w.tape w.drawn (.appendCap b.size 0 e) % (2 ^ 63-b.size)-b.size) (.int .u8 0),b.size+w.tape w.drawn (.appendCap b.size 0 e) % (2 ^ 63-b.size),w.drawn+1,?_,by omega,by simp [hsz],?_⟩
 ·unfold Conv.stringToBytes
  simp only [run_bind,choose,Sem.run,hq,Bool.false_eq_true,if_false,Question.cut]
  simp only [newRow,Go.newObj,run_bind,Sem.run,run_pure,markStringish,Go.shape,Go.freeze]
  simp only [World.shape?,Array.getElem?_push_size,Sem.run]
  simp only [World.freeze,grown]
  simp only [Nat.succ_ne_zero,if_false,Nat.one_ne_zero,Result.ok.injEq,World.mk.injEq,true_and,and_true]
  apply Array.ext_getElem?
  intro i
  rw [Array.getElem?_modify,Array.getElem?_push,Array.getElem?_push]
  by_cases hi:w.heap.size=i
  ·subst hi
   have:b.size +(w.tape w.drawn (Question.appendCap b.size 0 e) % (2 ^ 63-b.size)+b.size-b.size)=b.size+w.tape w.drawn (Question.appendCap b.size 0 e) % (2 ^ 63-b.size):=by omega
   simp [hsz]
  ·simp [hi]
   by_cases c_:i=w.heap.size
   ·exact absurd c_.symm hi
   ·simp [c_]
 ·intro j v hj
  simp only [ez,List.map_map,List.getElem?_map,Option.map_eq_some_iff] at hj
  obtain ⟨x,hx,rfl⟩:=hj
  have cA:j<b.data.size:=by
   rcases Nat.lt_or_ge j b.data.size with h | h
   ·exact h
   ·rw [List.getElem?_eq_none (by simpa using h)] at hx;simp at hx
  rw [Array.getElem?_append_left (by simpa using cA),Array.getElem?_map]
  rw [Array.getElem?_toList] at hx
  rw [hx];rfl
theorem PC{w:World}{k:IntKind}{b:Nat} : ∀ {l:List Int} {o:Nat} {F:ah},Row w (fun(y:Int) us _=>us=[Value.int k y]) 1 l b o F→b5 w b o (l.map (Value.int k))
 | [],_,_,_=>b5.nil _ _ _
 | x :: l,o,_,⟨us,G,H,h1,h2,h3,h4,_⟩=>by
  subst h1
  exact b5.cons h3.head (PC h4)
theorem Y0(l:List Int):∀b:ByteArray,(l.foldl (fun r n=>r.push (UInt8.ofNat n.toNat)) b).data.toList=b.data.toList++gF l:=by
 induction l with
 | nil=>intro b;simp [gF]
 | cons x l ih =>
  intro b
  rw [List.foldl_cons,ih]
  simp [gF,ByteArray.push]
theorem Y1{src dst:Nat}{x:Operand}{k1 k2:IntKind}(b1:gT P E)(h:Inv w0 F0 Z0 n s a w ι Z)(ag:∀k,o.dst=some k→k<n)(ho:o.op=.convert src dst x)(hs:E.ty src=some (.int k1))(ht:E.ty dst=some (.int k2))(hk:cU E id o s K=some r) :
  ∃ar,K ar=some r∧Pure P o a w (cY w0 F0 Z0 n ar):=by
 unfold cU at hk
 rw [ho] at hk
 simp only at hk
 have hx:=e4 h x
 have dS:=b1.ty _ _ hs
 have qt:=b1.ty _ _ ht
 cases cK:bU s x with
 | aU c =>
  rw [cK] at hx hk
  simp only [aP] at hx
  unfold rv at hk
  rw [hs,ht] at hk
  cases c with
  | int k m =>
   simp only [cj] at hx
   refine⟨_,hk,dz (v:=.int k2 (k2.wrap m)) (fun w'=>?_) h (by simp only [aP,cj]) ag⟩
   unfold execOp;rw [ho]
   refine fY ?_
   rw [hx]
   unfold convert
   simp only [run_bind,run_underlying (wg dS),run_underlying (wg qt)]
   rfl
  | _=>simp at hk
 | _=>rw [cK] at hk;unfold rv at hk;rw [hs,ht] at hk;simp at hk
theorem Y2{src dst:Nat}{x:Operand}(b1:gT P E)(h:Inv w0 F0 Z0 n s a w ι Z)(ag:∀k,o.dst=some k→k<n)(ho:o.op=.convert src dst x)(hk:cU E id o s K=some r) :
  ∃ar,K ar=some r∧o.wp P a w (cY w0 F0 Z0 n ar) Q:=by
 unfold cU at hk
 rw [ho] at hk
 simp only at hk
 have hx:=e4 h x
 have hrun:∀ {u:Value} {w':World},(convert src dst (a.eval x)).run P w=.ok u w'→(execOp a.eval o).run P w=.ok (.value u) w':=by
  intro u w' hu;unfold execOp;rw [ho];exact fY hu
 cases hs:E.ty src with
 | none=>unfold rv at hk;rw [hs] at hk;simp at hk
 | some S =>
 cases ht:E.ty dst with
 | none=>unfold rv at hk;rw [hs,ht] at hk;cases S <;> simp at hk
 | some T =>
 have dS:=b1.ty _ _ hs
 have qt:=b1.ty _ _ ht
 cases cK:bU s x with
 | aU c =>
  rw [cK] at hx
  simp only [aP] at hx
  have hk1:rv E id s src dst (.aU c) (fun v s=>K (s.dst o.dst v))=some r:=by rw [← cK];exact hk
  unfold rv at hk1
  rw [hs,ht] at hk1
  split at hk1
  ·rename_i mh k m tw tx oq
   obtain rfl:=aS tw
   obtain rfl:=aS tx
   simp only [a6.aU.injEq] at oq;subst oq
   simp only [cj] at hx
   refine⟨_,hk1,me (hrun (u:=.int mh (mh.wrap m)) (w':=w) ?_) h (by simp only [aP,cj]) ag⟩
   rw [hx]
   unfold convert
   simp only [run_bind,run_underlying (wg dS),run_underlying (wg qt)]
   rfl
  ·rename_i b tw tx oq
   obtain rfl:=aS tw
   obtain rfl:=aS tx
   simp only [a6.aU.injEq] at oq;subst oq
   obtain ⟨ku,hx,oh⟩:=hx
   refine⟨_,hk1,me (hrun (u:=a.eval x) (w':=w) ?_) h (by simp only [aP];exact⟨ku,hx,oh⟩) ag⟩
   rw [hx]
   unfold convert
   simp only [run_bind,run_underlying (wh dS),run_underlying (wh qt)]
   rfl
  ·rename_i b tw tx oq
   obtain rfl:=aS tw
   obtain rfl:=aS tx
   simp only [a6.aU.injEq] at oq;subst oq
   obtain ⟨ku,hx,rfl⟩:=hx
   obtain ⟨e,hu,cd⟩:=lK qt
   cases hm:mkObj s id (.row (.int .u8) .R 0 (ez ku.data.toList)) with
   | none=>rw [hm] at hk1;simp at hk1
   | some s1 =>
    rw [hm] at hk1
    obtain ⟨b7,rfl⟩:=qp hm
    obtain ⟨arr,c,d,hr,hc,has,hv⟩:=YZ (P:=P) (w:=w) (e:=e) (b:=ku)
    have hlen:(ez ku.data.toList).length=ku.size:=by simp [ez]
    have hn:=h.newRow b7 (t:=.int .u8) (em:=.R) (Ik (ez ku.data.toList)) bJ.none d arr e (c,c+1) c hv (by rw [hlen];exact hc) (by simp only [ad.size];omega) (.inr (by simp [ad.size])) (.inl rfl)
    refine⟨_,hk1,me (hrun (u:=.slice (some (at_ w.heap.size 0)) ku.size c) ?_) hn ?_ ag⟩
    ·rw [hx]
     unfold convert
     simp only [run_bind,run_underlying (wh dS),run_underlying hu,run_underlying (wg cd)]
     exact hr
    ·simp only [aP]
     have:=yr (w:=grown w d arr e (c,c+1)) (Z:=Z) (s:=s) (ι := ι) (id:=id) (em:=.R) (ver:=0) (t:=.int .u8) (xs:=ez ku.data.toList) (A:=at_ w.heap.size 0) (c:=c) (F:=(ah.run w.heap.size 0 (c*(ad.int .u8).size)).or ah.none) rfl (by rw [hlen];exact hc)
     rw [hlen] at this
     exact this
  ·rename_i c' tw tx oq
   obtain rfl:=aS tw
   obtain rfl:=aS tx
   simp only [a6.aU.injEq] at oq;subst oq
   obtain ⟨e,hu,cd⟩:=lK dS
   cases hl:pd s (.int .u8) c with
   | none=>rw [hl] at hk1;simp at hk1
   | some xs =>
    rw [hl] at hk1
    simp only at hk1
    obtain ⟨cM,_,_⟩:=HO h hl hx
    simp only [ad.al] at cM
    obtain ⟨A,rP,hv,hrow⟩:=cM
    simp only [List.cons.injEq,and_true] at hv
    have PD:(convert src dst (a.eval x)).run P w=(Conv.bytesToString (a.eval x)).run P w:=by
     rw [hv]
     exact run_convert_bytes_string w src dst e A xs.length rP hu (wg cd) (wh qt)
    rcases hrow with rfl | ⟨a0,rfl,hsp,hrow,_,_⟩
    ·refine⟨_,hk1,me (v:=.string .empty) (w':=w) (hrun ?_) h ?_ ag⟩
     ·rw [PD,hv]
      cases A with
      | none=>rfl
      | some A =>
       exact run_bytesToString w A 0 rP [] (by rfl)
     ·simp only [aP,cj]
      exact⟨_,rfl,rfl⟩
    ·obtain ⟨cO,dM,sp⟩:=a0
     simp only at hsp
     subst hsp
     have hc:=PC (k:=.u8) (by simpa only [ad.size] using hrow)
     have PE:=run_loadCells (P:=P) hc
     rw [List.length_map] at PE
     refine⟨_,hk1,me (v:=.string (xs.foldl (fun r n=>r.push (UInt8.ofNat n.toNat)) ByteArray.empty)) (w':=w) (hrun ?_) h ?_ ag⟩
     ·rw [PD,hv]
      exact run_bytesToString w _ xs.length rP xs PE
     ·simp only [aP,cj]
      exact⟨_,rfl,by rw [Y0];rfl⟩
  ·simp at hk1
 | _ =>
  exfalso
  rw [cK,rv.eq_def,hs,ht] at hk
  split at hk <;> simp_all
theorem Il{gQ:Bool}{k:IntKind} : ∀(l:List a6) (x:Int) (vs:List Value) (k':IntKind) (z:Int),aX w Z s ι l vs→tj gQ k x l=some (k',z) →
  (vs.foldlM (if gQ then Builtin.max2 else Builtin.min2) (.int k x)).run P w'=.ok (.int k' z) w'
 | [],x,vs,k',z,hr,h=>by
  simp only [aX] at hr;subst hr
  simp only [tj,Option.some.injEq,Prod.mk.injEq] at h
  obtain ⟨rfl,rfl⟩:=h
  rfl
 | v :: l,x,vs,k',z,hr,h=>by
  simp only [aX] at hr
  obtain ⟨u,us,rfl,h1,h2⟩:=hr
  cases v with
  | aU c =>
   cases c with
   | int PF y =>
    simp only [tj] at h
    simp only [aP,cj] at h1
    subst h1
    rw [List.foldlM_cons,run_bind]
    have ih:=Il l _ us k' z h2 h
    cases gQ
    ·exact ih
    ·exact ih
   | _=>simp [tj] at h
  | _=>simp [tj] at h
theorem tz(h:Inv w0 F0 Z0 n s a w ι Z):∀l:List Operand,aX w Z s ι (l.map (bU s)) (l.map a.eval)
 | []=>by simp only [List.map_nil,aX]
 | x :: l=>by simp only [List.map_cons,aX];exact⟨_,_,rfl,e4 h x,tz h l⟩
theorem PG{b:Builtin}{c:Call}(b1:gT P E)(h:Inv w0 F0 Z0 n s a w ι Z)(ag:∀k,o.dst=some k→k<n)(ho:o.op=.call c)(hb:c.callee=.builtin b)(hne:b≠.append)(Y3:b≠.clear)(hk:cU E id o s K=some r) :
  ∃ar,K ar=some r∧Pure P o a w (cY w0 F0 Z0 n ar):=by
 unfold cU at hk
 rw [ho] at hk
 simp only [hb] at hk
 have hvs:=tz h c.args.toList
 have hrun:∀ {u:Value} {cs:Array Bool} {w:World},(builtin b c.argTypes o.type (c.args.map fun | .const _=>true | _=>false) (c.args.map a.eval)).run P w=.ok (.value u) w→(execOp a.eval o).run P w=.ok (.value u) w:=by
  intro u _ w hu
  unfold execOp;rw [ho]
  simp only [run_bind,resolve,hb,run_pure,invoke]
  exact hu
 have lM:(c.args.map a.eval).toList=c.args.toList.map a.eval:=by simp
 cases b with
 | append=>exact absurd rfl hne
 | clear=>exact absurd rfl Y3
 | len =>
  generalize hl:c.args.toList.map (bU s)=l at hk hvs
  match l,hk,hvs with
  | [.aU jZ],hk,hvs =>
   simp only [jW] at hk
   cases gH:c.argTypes.toList with
   | nil=>rw [gH] at hk;simp at hk
   | cons t aj =>
    rw [gH] at hk
    simp only at hk
    cases ht:E.ty t with
    | none=>rw [ht] at hk;simp at hk
    | some T =>
     rw [ht] at hk
     simp only at hk
     cases hf:kS s T jZ
     ·rw [hf] at hk;simp at hk
     rw [hf] at hk
     simp only [cond_true] at hk
     cases hlen:n' s jZ with
     | none=>rw [hlen] at hk;simp at hk
     | some m =>
      rw [hlen] at hk
      simp only [aX,aP] at hvs
      obtain ⟨u,us,he,hc,rfl⟩:=hvs
      have nm:(c.args.map a.eval)[0]?=some u:=by rw [← Array.getElem?_toList,lM,he];rfl
      have pr:c.argTypes[0]?=some t:=by rw [← Array.getElem?_toList,gH];rfl
      have cd:=b1.ty _ _ ht
      refine⟨_,hk,dz (v:=.int .i64 m) (fun w'=>hrun (cs := #[]) ?_) h (by simp only [aP,cj]) ag⟩
      unfold builtin
      refine fY ?_
      unfold Builtin.len_
      rw [nm,pr]
      simp only
      have Y4:T=.str∨∃u,T=.sl u:=by
       cases jZ <;> simp only [kS] at hf <;> try (simp at hf;done)
       ·exact .inl (beq_eq hf)
       ·exact .inr ⟨_,beq_eq hf⟩
       ·exact .inr ⟨_,beq_eq hf⟩
       ·split at hf
        ·exact .inr ⟨_,beq_eq hf⟩
        ·simp at hf
      rcases Y4 with rfl | ⟨v,rfl⟩
      ·rw [run_bind,run_underlying (wh cd)]
       cases jZ <;> simp only [kS] at hf <;> try (simp [ad.beq] at hf;done)
       ·obtain ⟨ku,rfl,rfl⟩:=hc
        simp only [n',Option.some.injEq] at hlen
        subst hlen
        rfl
       ·split at hf <;> simp [ad.beq] at hf
      ·obtain ⟨e,hu,_⟩:=lK cd
       rw [run_bind,run_underlying hu]
       obtain ⟨A,k,rfl,_⟩:=Ih rfl hf hlen hc
       rfl
  | [],hk,_=>simp [jW] at hk
  | _ :: _ :: _,hk,_=>simp [jW] at hk
  | [.aD],hk,_ | [.iv _],hk,_ | [.ptr _],hk,_ | [.dj _ _ _],hk,_ | [.jU],hk,_ | [.kP],hk,_ | [.opt _ _],hk,_ | [.may _ _ _],hk,_ | [.rp _],hk,_ | [.fn _ _ _],hk,_ | [.pa _],hk,_=>simp [jW] at hk
 | max =>
  simp only [jW] at hk
  cases hm:vK true (c.args.toList.map (bU s)) with
  | none=>rw [hm] at hk;simp at hk
  | some q =>
   obtain ⟨k,z⟩:=q
   rw [hm] at hk
   simp only at hk
   refine⟨_,hk,dz (v:=.int k z) (fun w'=>hrun (cs := #[]) ?_) h (by simp only [aP,cj]) ag⟩
   unfold builtin
   refine fY ?_
   unfold Builtin.max_
   rw [lM]
   generalize c.args.toList.map (bU s)=l at hm hvs
   generalize c.args.toList.map a.eval=vs at hvs
   unfold vK at hm
   split at hm
   ·simp only [aX,aP,cj] at hvs
    obtain ⟨u,us,rfl,rfl,h2⟩:=hvs
    exact Il _ _ us k z h2 hm
   ·simp at hm
 | min =>
  simp only [jW] at hk
  cases hm:vK false (c.args.toList.map (bU s)) with
  | none=>rw [hm] at hk;simp at hk
  | some q =>
   obtain ⟨k,z⟩:=q
   rw [hm] at hk
   simp only at hk
   refine⟨_,hk,dz (v:=.int k z) (fun w'=>hrun (cs := #[]) ?_) h (by simp only [aP,cj]) ag⟩
   unfold builtin
   refine fY ?_
   unfold Builtin.min_
   rw [lM]
   generalize c.args.toList.map (bU s)=l at hm hvs
   generalize c.args.toList.map a.eval=vs at hvs
   unfold vK at hm
   split at hm
   ·simp only [aX,aP,cj] at hvs
    obtain ⟨u,us,rfl,rfl,h2⟩:=hvs
    exact Il _ _ us k z h2 hm
   ·simp at hm
 | _=>simp [jW] at hk
end
end Go.LM
namespace Go.LM
theorem PH{α : Type} : ∀(B:List (List α)) (i:Nat) (b cs:List α),B[i]?=some b→cs.length=b.length→(B.set i cs).flatten=de B.flatten (B.take i).flatten.length cs
 | [],i,b,cs,h,_=>by simp at h
 | x :: B,0,b,cs,h,hl=>by
  simp at h;subst h
  simp only [List.set_cons_zero,List.flatten_cons,List.take_zero,List.flatten_nil,List.length_nil]
  unfold de
  simp [hl]
 | x :: B,i+1,b,cs,h,hl=>by
  simp only [List.getElem?_cons_succ] at h
  simp only [List.set_cons_succ,List.flatten_cons,List.take_succ_cons,List.length_append]
  rw [O4 (by omega),PH B i b cs h hl]
  congr 2;omega
theorem Y5{α : Type}{B:List (List α)}{i:Nat}{b:List α}(h:B[i]?=some b):(B.take i).flatten.length+b.length≤B.flatten.length:=by
 induction B generalizing i with
 | nil=>simp at h
 | cons x B ih =>
  cases i with
  | zero=>simp at h;subst h;simp
  | succ i =>
   simp only [List.getElem?_cons_succ] at h
   have:=ih h
   simp only [List.take_succ_cons,List.flatten_cons,List.length_append];omega
theorem PI:∀(vs:List Value) (k off:Nat) (cells:Array Value),off+k+vs.length≤cells.size →
  ((vs.zipIdx k).foldl (fun cs (c,j)=>cs.setIfInBounds (off+j) c) cells).toList=de cells.toList (off+k) vs
 | [],k,off,cells,_=>by simp [Bu]
 | v :: vs,k,off,cells,h=>by
  simp only [List.length_cons] at h
  rw [List.zipIdx_cons,List.foldl_cons,PI vs (k+1) off _ (by simp;omega)]
  simp only [Array.toList_setIfInBounds]
  have cA:off+k<cells.toList.length:=by simp;omega
  apply List.ext_getElem?
  intro j
  unfold de
  simp only [List.getElem?_append,List.length_append,List.length_take,List.length_set,List.length_cons,List.getElem?_take,List.getElem?_drop,List.getElem?_set]
  have rQ:min (off +(k+1)) cells.toList.length=off+k+1:=by omega
  have v_:min (off+k) cells.toList.length=off+k:=by omega
  rw [rQ,v_]
  by_cases h1:j<off+k
  ·have:j≠off+k:=by omega
   simp [show j<off+k+1+vs.length by omega,show j<off+k+1 by omega,show j<off +(k+1) by omega,show j<off+k +(vs.length+1) by omega,h1,Ne.symm this]
  ·by_cases h2:j=off+k
   ·subst h2
    simp only [Array.length_toList] at cA
    simp [show off+k<off+k+1+vs.length by omega,show off+k<off +(k+1) by omega,cA]
   ·by_cases h3:j<off+k+1+vs.length
    ·rw [if_pos h3,if_neg (show ¬j<off+k+1 by omega),if_pos (show j<off+k +(vs.length+1) by omega),if_neg h1]
     rw [show j-(off+k)=(j-(off+k+1))+1 by omega,List.getElem?_cons_succ]
    ·rw [if_neg h3,if_neg (show ¬j<off+k +(vs.length+1) by omega)]
     rw [if_neg (by omega)]
     congr 1;omega
def Im(place:Nat→Option (Nat×Nat))(ty:Nat→Option ad)(lens:List Nat):Prop :=
 ∀i t,ty i=some t→place i=some ((lens.take i).sum,t.size)∧lens[i]?=some t.size
section
variable{P:Program}{Q:Exit→Act→World→Prop}
variable{w0:World}{F0 Z0:ah}{n:cC}{s ar:an}{a b9:Act}{w w':World}{ι bd:Nat→bF}{Z Z':ah}
variable{E:Env}{o:Oper}{bu : Type}{K:an→Option bu}{r : bu}{id:Nat}
theorem Y6{α : Type}(B:List (List α)):B.flatten.length=(B.map List.length).sum:=by simp [List.length_flatten]
theorem Io(h:Inv w0 F0 Z0 n s a w ι Z){place:Nat→Option (Nat×Nat)}{ty:Nat→Option ad}{lens:List Nat}(gz:Im place ty lens) :
  ∀(ps:List (Nat×Operand)) (B nn:List (List a8)) (cells:Array Value),B.map List.length=lens→bK w Z s ι B.flatten cells.toList→rr s ty ps B=some nn →
   ∃np,Instr.fill place cells (ps.map fun p=>(p.1,a.eval p.2))=some np∧bK w Z s ι nn.flatten np.toList∧nn.map List.length=lens
 | [],B,nn,cells,hl,hc,hf=>by
  simp only [rr,Option.some.injEq] at hf;subst hf
  exact⟨cells,rfl,hc,hl⟩
 | (i,x) :: ps,B,nn,cells,hl,hc,hf=>by
  simp only [rr] at hf
  cases ht:ty i with
  | none=>rw [ht] at hf;simp at hf
  | some t =>
   rw [ht] at hf
   simp only at hf
   cases hcs:iN t (bU s x) with
   | none=>rw [hcs] at hf;simp at hf
   | some cs =>
    rw [hcs] at hf
    simp only at hf
    cases hb:Nat.beq cs.length t.size
    ·rw [hb] at hf;simp at hf
    rw [hb] at hf
    simp only [cond_true] at hf
    have hb:=Nat.eq_of_beq_eq_true hb
    obtain ⟨au,qu⟩:=gz i t ht
    have hx:=rI hcs (e4 h x)
    have hxl:=hx.len
    rw [hb] at hxl
    have Y7:∃b,B[i]?=some b∧b.length=t.size:=by
     rw [← hl,List.getElem?_map] at qu
     cases wi:B[i]? with
     | none=>rw [wi] at qu;simp at qu
     | some b=>rw [wi] at qu;simp at qu;exact⟨b,rfl,qu⟩
    obtain ⟨b,wi,BF⟩:=Y7
    have fA:(B.take i).flatten.length=(lens.take i).sum:=by rw [Y6,← hl,List.map_take]
    have hle:=Y5 wi
    have hcl:=hc.len
    simp only [Array.length_toList] at hxl hcl
    have hnew:bK w Z s ι (B.set i cs).flatten (de cells.toList (lens.take i).sum (a.eval x).cells.toList):=by
     rw [PH B i b cs wi (by omega),fA]
     unfold de
     have:=bK.de hc hx (lens.take i).sum
     unfold de at this
     exact this
    have Y8:(B.set i cs).map List.length=lens:=by
     rw [List.map_set,hl]
     apply List.ext_getElem?
     intro j
     rw [List.getElem?_set]
     by_cases hj:i=j
     ·subst hj
      rw [qu,if_pos rfl]
      have:i<lens.length:=by
       rcases Nat.lt_or_ge i lens.length with h | h
       ·exact h
       ·rw [List.getElem?_eq_none h] at qu;simp at qu
      rw [if_pos this,hb]
     ·rw [if_neg hj]
    have Y9:=PI (a.eval x).cells.toList 0 (lens.take i).sum cells (by simp;omega)
    have ih:=Io h gz ps (B.set i cs) nn (((a.eval x).cells.zipIdx).foldl (fun cs (c,j)=>cs.setIfInBounds ((lens.take i).sum+j) c) cells) Y8 (by
     rw [← Array.foldl_toList,Array.toList_zipIdx]
     rw [Y9];exact hnew) hf
    obtain ⟨np,h1,h2,h3⟩:=ih
    refine⟨np,?_,h2,h3⟩
    rw [List.map_cons]
    unfold Instr.fill
    rw [au]
    simp only
    rw [if_neg (by simp only [Bool.or_eq_true,decide_eq_true_eq,not_or,ne_eq,Decidable.not_not];omega)]
    exact h1
def ay.places:ay→Nat→List (Nat×Nat)
 | .nil,_=>[]
 | .cons t aj,off=>(off,t.size) :: ay.places aj (off+t.size)
theorem PJ:∀(aj:ay) (cn:List Field) (off:Nat),aj.okF P cn off→cn.mapM (fun f=>(P.info? f.type).map fun i=>(f.offset,i.size))=some (aj.places off)
 | .nil,cn,off,h=>by simp only [ay.okF] at h;subst h;rfl
 | .cons t aj,cn,off,h=>by
  simp only [ay.okF] at h
  obtain ⟨f,lI,rfl,rfl,h1,h2⟩:=h
  obtain ⟨i,hi,hsz,_⟩:=h1.info
  have ih:=PJ aj lI _ h2
  simp only [List.mapM_cons,hi,Option.map_some,ih,ay.places,hsz]
  rfl
theorem PK:∀aj:ay,aj.oa.flatten=aj.jg
 | .nil=>rfl
 | .cons t aj=>by simp only [ay.oa,ay.jg,List.flatten_cons,PK aj]
theorem Ip(t:ad):t.jg.length=t.size:=by
 have:=(rJ (w:=default) (Z:=ah.none) (s:=⟨fun _=>.aD,fun _=>.none,[]⟩) (ι := fun _=>⟨none,0,ah.none⟩) t).len
 rw [← this,ad.lJ]
theorem PL:∀(aj:ay) (off:Nat) (i:Nat) (t:ad),aj.nth i=some t→(aj.places off)[i]?=some (off +((aj.oa.map List.length).take i).sum,t.size)∧(aj.oa.map List.length)[i]?=some t.size
 | .nil,_,_,_,h=>by simp [ay.nth] at h
 | .cons u aj,off,0,t,h=>by
  simp only [ay.nth,Option.some.injEq] at h;subst h
  simp [ay.places,ay.oa,Ip]
 | .cons u aj,off,i+1,t,h=>by
  simp only [ay.nth] at h
  obtain ⟨h1,h2⟩:=PL aj (off+u.size) i t h
  simp only [ay.places,ay.oa,List.map_cons,List.getElem?_cons_succ,List.take_succ_cons,List.sum_cons,Ip]
  exact⟨by rw [h1];simp;omega,h2⟩
theorem PM{t:Nat}{parts:Array (Nat×Operand)}(b1:gT P E)(h:Inv w0 F0 Z0 n s a w ι Z)(ag:∀k,o.dst=some k→k<n)(ho:o.op=.build t parts)(hk:cU E id o s K=some r) :
  ∃ar,K ar=some r∧Pure P o a w (cY w0 F0 Z0 n ar):=by
 unfold cU at hk
 rw [ho] at hk
 simp only at hk
 cases ht:E.ty t with
 | none=>rw [ht] at hk;simp at hk
 | some T =>
  rw [ht] at hk
  cases T with
  | st aj =>
   simp only at hk
   cases hf:rr s aj.nth parts.toList aj.oa with
   | none=>rw [hf] at hk;simp at hk
   | some B =>
    rw [hf] at hk
    have cd:=b1.ty t _ ht
    obtain ⟨it,gG,e',rO,we⟩:=cd.info
    simp only [ad.ok] at cd
    obtain ⟨_,cn,hu,kV⟩:=cd
    have fJ:=PJ aj cn.toList 0 kV
    have BF:Im ((aj.places 0).toArray[·]?) aj.nth (aj.oa.map List.length):=by
     intro i dm hi
     have:=PL aj 0 i dm hi
     simpa using this
    obtain ⟨np,h1,h2,h3⟩:=Io h BF parts.toList aj.oa B (dH (.st aj) (ad.st aj).cN).cells rfl (by
     rw [PK,wc];exact rJ (.st aj)) hf
    refine⟨_,hk,dz (v:=.agg np) (fun w'=>?_) h (by simp only [aP];exact⟨np.toList,rfl,h2⟩) ag⟩
    unfold execOp;rw [ho]
    refine fY ?_
    refine run_build w' t _ np ?_
    unfold Program.built
    rw [gG,hu]
    simp only [rO,fJ]
    rw [← h1]
    congr 1
    simp
  | _=>simp at hk
theorem PN{t:ad}{m:a'}{x:t.D}{us:List Value}{F:ah}(h:t.al w (Z.or (dh ι [])) m x us F):t.al w Z m x us F :=
 ad.al.mono (fun b o hz=>by rcases hz with h | ⟨d,ag,_⟩;exact h;simp at ag) t m (fun _ _ h=>h) h
theorem PO:∀(B:List (List a8)) (t:ad) (m:a') (s s1:an) (xs:List t.D) (vs:List Value) (Z:ah),qf t m B s=some (xs,s1)→Inv w0 F0 Z0 n s a w ι Z→bK w Z s ι B.flatten vs →
  ∃F Z',Inv w0 F0 Z0 n s1 a w ι Z'∧e_ s ι Z s1 Z'∧bJ w0 F0 s1 w ι Z' F∧c3 (t.al w Z' m) t.size xs vs F∧∀b o,F b o→∃id,(s.o id).live∧(ι id).F b o
 | [],t,m,s,s1,xs,vs,Z,hi,h,hc=>by
  simp only [qf,Option.some.injEq,Prod.mk.injEq] at hi
  obtain ⟨rfl,rfl⟩:=hi
  cases vs with
  | nil=>exact⟨ah.none,Z,h,.refl,.none,rfl,fun _ _ h=>h.elim⟩
  | cons v vs=>exact hc.elim
 | cs :: B,t,m,s,s1,xs,vs,Z,hi,h,hc=>by
  simp only [qf] at hi
  obtain ⟨r,hr,hi⟩:=bf hi
  rw [List.flatten_cons] at hc
  obtain ⟨us,aj,rfl,qn,hcu,Y_⟩:=hc.split
  obtain ⟨aT,bI,F,cp,he,h1,hs1,hc1,ot,cM,_,PQ,_,hF⟩:=ad.lF t false m cs s [] r us Z hr h hcu (by simp)
  cases ep:r.2.1 with
  | cons c l=>rw [ep] at hi;simp at hi
  | nil =>
   rw [ep] at hi hc1
   simp only at hi
   obtain ⟨q,hq,hi⟩:=bf hi
   simp only [Option.some.injEq,Prod.mk.injEq] at hi
   obtain ⟨rfl,rfl⟩:=hi
   cases bI with
   | cons v l=>exact hc1.elim
   | nil =>
    rw [List.append_nil] at he
    subst he
    rw [PQ rfl] at cM
    have cM:=PN cM
    obtain ⟨G,bM,h2,mj,hf2,hels,hG⟩:=PO B t m r.2.2.1 q.2 q.1 aj cp hq h1 (YB hs1 Y_)
    refine⟨F.or G,bM,h2,hs1.trans mj,(ot.shrink mj).or hf2,⟨us,aj,F,G,rfl,ad.al.mono mj.dE t m (fun _ _ h=>h) cM,(ad.al.len t m cM).1,hels,?_,fun _ _ h=>.inl h,fun _ _ h=>.inr h⟩,?_⟩
    ·intro b o hb aB
     obtain ⟨j,hj,yu⟩:=hG b o aB
     exact ot.apart j hj b o hb yu
    ·rintro b o (hb | hb)
     ·exact hF b o hb
     ·obtain ⟨j,hj,yu⟩:=hG b o hb
      obtain ⟨g1,g2⟩:=hs1.live hj
      exact⟨j,g1,yu⟩
theorem PR{t:ad}{m:a'} : ∀(B:List (List a8)) (s:an) {xs:List t.D} {s1:an},qf t m B s=some (xs,s1)→xs.length=B.length
 | [],s,xs,s1,h=>by simp only [qf,Option.some.injEq,Prod.mk.injEq] at h;rw [← h.1];rfl
 | cs :: B,s,xs,s1,h=>by
  simp only [qf] at h
  obtain ⟨r,hr,h⟩:=bf h
  split at h
  ·obtain ⟨q,hq,h⟩:=bf h
   simp only [Option.some.injEq,Prod.mk.injEq] at h
   rw [← h.1,List.length_cons,List.length_cons,PR B _ hq]
  ·simp at h
theorem Y'{T:ad}{t e len:Nat}{parts:Array (Nat×Value)}{cells:Array Value}(hu:P.underlying t=some (.slice e))(cd:T.ok P e)(hs:len*T.size≤16777216)
  (hf:Instr.fill (fun i=>some (i*T.size,T.size)) ((Array.range (len*T.size)).map ((if len*T.size=0 then #[] else(dH T T.cN).cells)[· % (if len*T.size=0 then #[] else(dH T T.cN).cells).size]!)) parts.toList=some cells) :
  (Instr.buildSlice t len parts).run P w=.ok (.slice (some (at_ w.heap.size 0)) len len) (grown w w.drawn cells e (0,0)):=by
 unfold Instr.buildSlice
 simp only [run_bind,run_underlying hu,run_sizeOf cd]
 rw [if_neg (by omega)]
 by_cases hz:len*T.size=0
 ·simp only [hz,if_true] at hf ⊢
  simp only [run_bind,run_pure,hf,BD]
 ·simp only [hz,if_false] at hf ⊢
  simp only [run_bind,run_pure,Bw cd,hf,BD]
theorem Za{t len:Nat}{parts:Array (Nat×Operand)}(b1:gT P E)(h:Inv w0 F0 Z0 n s a w ι Z)(ag:∀k,o.dst=some k→k<n)(ho:o.op=.buildSlice t len parts)(hk:cU E id o s K=some r) :
  ∃ar,K ar=some r∧o.wp P a w (cY w0 F0 Z0 n ar) Q:=by
 unfold cU at hk
 rw [ho] at hk
 simp only at hk
 cases ht:E.ty t with
 | none=>rw [ht] at hk;simp at hk
 | some S =>
  rw [ht] at hk
  cases S with
  | sl T =>
   simp only at hk
   cases hle:Nat.ble (len*T.size) 16777216
   ·rw [hle] at hk;simp at hk
   rw [hle] at hk
   simp only [cond_true] at hk
   have hle:=Nat.le_of_ble_eq_true hle
   cases hf:rr s (fun i=>cond (Nat.blt i len) (some T) none) parts.toList (List.replicate len T.jg) with
   | none=>rw [hf] at hk;simp at hk
   | some B =>
    rw [hf] at hk
    simp only at hk
    generalize hm:Hz T s B=m at hk
    cases hi:qf T m B s with
    | none=>rw [hi] at hk;simp at hk
    | some q =>
     obtain ⟨xs,s1⟩:=q
     rw [hi] at hk
     simp only at hk
     cases nj:mkObj s1 id (.row T m 0 xs) with
     | none=>rw [nj] at hk;simp at hk
     | some s2 =>
      rw [nj] at hk
      obtain ⟨b7,rfl⟩:=qp nj
      obtain ⟨e,hu,cd⟩:=lK (b1.ty t _ ht)
      have BF:Im (fun i=>some (i*T.size,T.size)) (fun i=>cond (Nat.blt i len) (some T) none) (List.replicate len T.size):=by
       intro i dm hi
       have hi:cond (Nat.blt i len) (some T) none=some dm:=hi
       cases hb:Nat.blt i len
       ·rw [hb] at hi;simp at hi
       ·rw [hb] at hi
        simp only [cond_true,Option.some.injEq] at hi
        subst hi
        have cA:i<len:=Nat.lt_of_lt_of_le (Nat.lt_succ_self i) (Nat.le_of_ble_eq_true hb)
        refine⟨?_,by simp [List.getElem?_replicate,cA]⟩
        rw [List.take_replicate,Nat.min_eq_left (by omega)]
        simp
      have Zb:∀k,bK w Z s ι (List.replicate k T.jg).flatten (List.replicate k T.cN).flatten:=by
       intro k
       induction k with
       | zero=>exact trivial
       | succ k ih=>rw [List.replicate_succ,List.replicate_succ,List.flatten_cons,List.flatten_cons];exact(rJ T).append ih
      have hcells:((Array.range (len*T.size)).map ((if len*T.size=0 then #[] else(dH T T.cN).cells)[· % (if len*T.size=0 then #[] else(dH T T.cN).cells).size]!)).toList=(List.replicate len T.cN).flatten:=by
       apply List.ext_getElem?
       intro j
       have h9:(List.replicate len T.cN).flatten.length=len*T.size:=by simp [ad.lJ]
       by_cases hj:j<len*T.size
       ·have hz:¬len*T.size=0:=by omega
        simp only [if_neg hz]
        obtain ⟨v,hv⟩:∃v,(List.replicate len T.cN).flatten[j]?=some v:=⟨_,List.getElem?_eq_getElem (by omega)⟩
        rw [hv,Array.getElem?_toList]
        exact Ij T.cN len (wc T) (by rw [ad.lJ]) v hv
       ·rw [List.getElem?_eq_none (by simp;omega),List.getElem?_eq_none (by omega)]
      obtain ⟨np,h1,h2,h3⟩:=Io h BF parts.toList (List.replicate len T.jg) B _ (by simp [Ip]) (by rw [hcells];exact Zb len) hf
      obtain ⟨F,cp,gG,hs1,ot,hels,_⟩:=PO B T m s s1 xs _ Z hi h h2
      have hxl:xs.length=len:=by
       have e1:B.length=len:=by have:=congrArg List.length h3;simpa using this
       rw [← e1];exact PR B s hi
      have hcs:len*T.size≤np.size:=by
       have:=hels.len
       simp only [Array.length_toList] at this
       rw [hxl] at this;omega
      have hn:=gG.newRow b7 hels ot w.drawn np e (0,0) len (fun j v hv=>by simpa using hv) (by omega) hcs (.inl rfl) (.inr rfl)
      refine⟨_,hk,me (v:=.slice (some (at_ w.heap.size 0)) len len) ?_ hn ?_ ag⟩
      ·unfold execOp;rw [ho]
       refine fY ?_
       refine Y' hu cd hle ?_
       rw [← h1]
       congr 1
       simp
      ·simp only [aP]
       have:=yr (w:=grown w w.drawn np e (0,0)) (Z:=cp) (s:=s1) (ι := ι) (id:=id) (em:=m) (ver:=0) (xs:=xs) (A:=at_ w.heap.size 0) (c:=len) (F:=(ah.run w.heap.size 0 (len*T.size)).or F) rfl (by omega)
       rw [hxl] at this
       exact this
  | _=>simp at hk
end
end Go.LM
namespace Go.LM
section
variable{P:Program}{Q:Exit→Act→World→Prop}
variable{w0:World}{F0 Z0:ah}{n:cC}{s ar:an}{a b9:Act}{w w':World}{ι bd:Nat→bF}{Z Z':ah}
variable{E:Env}{o:Oper}{bu : Type}{K:an→Option bu}{r : bu}{id:Nat}
theorem Inv.BG(h:Inv w0 F0 Z0 n s a w ι Z){S:ah}(hF:bJ w0 F0 s w ι Z S)(hx:Ext w w' S):Inv w0 F0 Z0 n s a w' ι Z:=by
 have hm:eH w Z s ι w' Z s ι := by
  refine⟨fun id=>.stay _ _,fun _ _ h=>h,b6.iT hx h.rF ?_⟩
  rintro b o (hz | ⟨id,hl,_,_,hf⟩) hs
  ·exact hF.c4 b o hs hz
  ·exact hF.apart id hl b o hs hf
 refine h.next hm hx (fun b o hs=>(hF.own b o hs).1) (fun _ _ h=>.inl h) ?_ h.c4 (fun k=>(h.tmps k).move hm) h.size h.defers
 intro id _ hne;exact absurd ⟨rfl,rfl⟩ hne
theorem Inv.freeze(h:Inv w0 F0 Z0 n s a w ι Z){S:ah}(hF:bJ w0 F0 s w ι Z S):Inv w0 F0 Z0 n s a w ι (Z.or S):=by
 have hm:eH w Z s ι w (Z.or S) s ι :=⟨fun id=>.stay _ _,fun _ _ h=>.inl h,b6.refl _ _⟩
 refine h.next hm (Ext.refl _ ah.none) (fun _ _ h=>h.elim) ?_ ?_ ?_ (fun k=>(h.tmps k).move hm) h.size h.defers
 ·rintro b o (hz | hs)
  ·exact .inl hz
  ·exact .inr (hF.own b o hs)
 ·intro id _ hne;exact absurd ⟨rfl,rfl⟩ hne
 ·rintro id hl b o h1 (h2 | h2)
  ·exact h.c4 id hl b o h1 h2
  ·exact hF.apart id hl b o h2 h1
theorem bJ.freeze{F S:ah}(hF:bJ w0 F0 s w ι Z F)(ha:ah.apart F S):bJ w0 F0 s w ι (Z.or S) F :=
 ⟨hF.own,hF.apart,fun b o h1 h2=>h2.elim (hF.c4 b o h1) (ha b o h1)⟩
theorem bJ.sub{F G:ah}(hF:bJ w0 F0 s w ι Z F)(h:ah.sub G F):bJ w0 F0 s w ι Z G :=
 ⟨fun b o aB=>hF.own b o (h b o aB),fun id hl b o aB=>hF.apart id hl b o (h b o aB),fun b o aB=>hF.c4 b o (h b o aB)⟩
def ah.diff(F G:ah):ah:=fun b o=>F b o∧¬G b o
theorem Bf{t:ad}{m:a'} : ∀ {xs:List t.D} {vs:List Value} {F:ah},c3 (t.al w Z m) t.size xs vs F→∀v∈vs,ee v=true
 | [],_,_,h=>by simp only [c3] at h;subst h;simp
 | x :: xs,_,_,⟨us,aj,G,H,h1,h2,h3,h4,_⟩=>by
  subst h1
  intro v hv
  rcases List.mem_append.1 hv with h | h
  ·exact(ad.al.len t m h2).2 v h
  ·exact Bf h4 v h
theorem rl{A:Option Addr}{size m c:Nat}{vs:List Value}(hl:vs.length=m*size)(h:m=0∨∃b o,A=some (at_ b o)∧b5 w b o vs) :
  (Builtin.firstCells size m (.slice A m c)).run P w=.ok vs.toArray w:=by
 unfold Builtin.firstCells
 rcases h with rfl | ⟨b,o,rfl,hc⟩
 ·have:vs=[]:=List.eq_nil_of_length_eq_zero (by simpa using hl)
  subst this
  cases A with
  | none=>rfl
  | some A=>simp only [Nat.zero_mul];rfl
 ·simp only [← hl]
  exact run_loadCells hc
theorem BH{t:ad}{e:a'}{xs:List t.D}{v:Value}{F:ah}(h:(ad.sl t).al w Z (.O e) xs [v] F) :
  ∃A c vs,v=.slice A xs.length c∧c3 (t.al w Z e) t.size xs vs F∧∀d,(Builtin.firstCells t.size xs.length v).run P { w with drawn:=d } = .ok vs.toArray { w with drawn:=d } := by
 simp only [ad.al] at h
 obtain ⟨A,c,hv,h⟩:=h
 simp only [List.cons.injEq,and_true] at hv
 subst hv
 rcases h with⟨rfl,rfl⟩ | ⟨⟨b,o,sp⟩,rfl,hr⟩
 ·exact⟨A,0,[],rfl,rfl,fun d=>rl (by simp) (.inl rfl)⟩
 ·obtain ⟨G,g1,g2,g3⟩:=hr.row
  have hsp:=hr.spot
  simp only at hsp
  subst hsp
  obtain ⟨vs,h1,h2⟩:=g1.s_
  exact⟨_,c,vs,rfl,h1.mono g3,fun d=>rl h1.len (.inr ⟨b,o,rfl,h2⟩)⟩
theorem Zc{t:ad}{xs:List t.D}{v:Value}{F:ah}(h:(ad.sl t).al w Z .R xs [v] F) :
  ∃A c vs,v=.slice A xs.length c∧c3 (t.al w Z .R) t.size xs vs ah.none∧∀d,(Builtin.firstCells t.size xs.length v).run P { w with drawn:=d } = .ok vs.toArray { w with drawn:=d } := by
 simp only [ad.al] at h
 obtain ⟨A,c,hv,h⟩:=h
 simp only [List.cons.injEq,and_true] at hv
 subst hv
 rcases h with rfl | ⟨⟨b,o,sp⟩,rfl,hsp,hr,_,_⟩
 ·exact⟨A,c,[],rfl,rfl,fun d=>rl (by simp) (.inl rfl)⟩
 ·simp only at hsp
  subst hsp
  obtain ⟨vs,h1,h2⟩:=hr.s_
  exact⟨_,c,vs,rfl,h1.imp (fun y us G hs hr=>rz hr |> fun h=>ad.al.mono (fun _ _ h=>h) t .R (fun _ _ h=>h.elim) h),fun d=>rl h1.len (.inr ⟨b,o,rfl,h2⟩)⟩
theorem PS{t:ad}{c:a8}{v:Value}{ks:a'}{ys:List t.D}{s1:an}(ha:added s t c=some (ks,ys,s1))(h:Inv w0 F0 Z0 n s a w ι Z)(hc:cj w Z s ι c v) :
  ∃vs F,(Builtin.lenOf v).run P w=.ok ys.length w∧(∀d,(Builtin.firstCells t.size ys.length v).run P { w with drawn:=d } = .ok vs.toArray { w with drawn:=d })∧c3 (t.al w Z ks) t.size ys vs F ∧
   Inv w0 F0 Z0 n s1 a w ι Z∧e_ s ι Z s1 Z∧bJ w0 F0 s1 w ι Z F:=by
 cases c with
 | nil u =>
  simp only [added] at ha
  obtain ⟨x,hx,ha⟩:=bf ha
  obtain ⟨e,rfl⟩:=gS hx
  subst e
  simp only [Option.some.injEq,Prod.mk.injEq] at ha
  obtain ⟨rfl,rfl,rfl⟩:=ha
  have hv:v=.slice none 0 0:=hc
  subst hv
  exact⟨[],ah.none,rfl,fun _=>rfl,rfl,h,.refl,.none⟩
 | b2 u dp cr xs =>
  simp only [added] at ha
  cases dV:alive s dp
  ·rw [dV] at ha;simp at ha
  cases h9:(t.flat||dp.isEmpty)
  ·rw [dV,h9] at ha;simp at ha
  rw [dV,h9] at ha
  simp only [Bool.and_self,cond_true] at ha
  obtain ⟨x,hx,ha⟩:=bf ha
  obtain ⟨e,rfl⟩:=gS hx
  subst e
  simp only [Option.some.injEq,Prod.mk.injEq] at ha
  obtain ⟨rfl,rfl,rfl⟩:=ha
  obtain ⟨A,rP,vs,rfl,h1,h2⟩:=Zc (P:=P) (hc.2.2.1 dV)
  refine⟨vs,ah.none,rfl,h2,?_,h,.refl,.none⟩
  simp only [Bool.or_eq_true,List.isEmpty_iff] at h9
  rcases h9 with h9 | rfl
  ·exact h1.imp fun y us G _ hr=>rn u h9 hr
  ·exact h1.imp fun y us G _ hr=>PN hr
 | ag j sub =>
  simp only [added] at ha
  obtain ⟨hk,A,m,rP,rfl,hh⟩:=hc
  cases ho:s.o j with
  | row u em ver xs =>
   rw [ho] at ha
   have c0:=h.fU j
   rw [ho] at c0
   have b_:(s.o j).live:=by rw [ho];trivial
   have nq:=vV c0 (hh u em ver xs (lD ho))
   cases em with
   | R =>
    simp only at ha
    obtain ⟨x,hx,ha⟩:=bf ha
    obtain ⟨e,rfl⟩:=gS hx
    subst e
    simp only [Option.some.injEq,Prod.mk.injEq] at ha
    obtain ⟨rfl,rfl,rfl⟩:=ha
    obtain ⟨pq,c',vs,hv,h1,h2⟩:=BH (P:=P) nq
    refine⟨vs,ah.none,?_,h2,h1.bare fun y us G _ hr=>rz hr,h,.refl,.none⟩
    rw [hv];rfl
   | O gR =>
    simp only at ha
    obtain ⟨x,hx,ha⟩:=bf ha
    obtain ⟨e,rfl⟩:=gS hx
    subst e
    simp only [Option.some.injEq,Prod.mk.injEq] at ha
    obtain ⟨rfl,rfl,rfl⟩:=ha
    obtain ⟨pq,c',vs,hv,h1,h2⟩:=BH (P:=P) nq
    refine⟨vs,(ι j).F,?_,h2,h1,h.take j (fun _ _ h=>h) (fun _ _ h=>.inl h),vU j b_,h.vT b_⟩
    rw [hv];rfl
   | S ms =>
    simp only at ha
    obtain ⟨x,hx,ha⟩:=bf ha
    obtain ⟨e,rfl⟩:=gS hx
    subst e
    simp only [Option.some.injEq,Prod.mk.injEq] at ha
    obtain ⟨rfl,rfl,rfl⟩:=ha
    obtain ⟨pq,c',vs,hv,h1,h2⟩:=BH (P:=P) nq
    refine⟨vs,(ι j).F,?_,h2,h1,h.take j (fun _ _ h=>h) (fun _ _ h=>.inl h),vU j b_,h.vT b_⟩
    rw [hv];rfl
  | _=>rw [ho] at ha;simp at ha
 | str b =>
  simp only [added] at ha
  obtain ⟨x,hx,ha⟩:=bf ha
  obtain ⟨e,rfl⟩:=gS hx
  subst e
  simp only [Option.some.injEq,Prod.mk.injEq] at ha
  obtain ⟨rfl,rfl,rfl⟩:=ha
  obtain ⟨ku,rfl,rfl⟩:=hc
  have hlen:(ez ku.data.toList).length=ku.size:=by simp [ez]
  refine⟨(ez ku.data.toList).map (Value.int .u8),ah.none,?_,?_,Ik _,h,.refl,.none⟩
  ·rw [hlen];rfl
  ·intro d
   rw [hlen]
   simp only [Builtin.firstCells,run_pure]
   congr 1
   apply Array.ext'
   simp [ez]
 | _=>simp [added] at ha
theorem PT{t:ad}{c:a8}{v:Value}{ob:a'}{xs:List t.D}{s1:an}(ha:taken s t c=some (ob,xs,s1))(h:Inv w0 F0 Z0 n s a w ι Z)(hc:cj w Z s ι c v) :
  ∃F,(ad.sl t).al w Z (.O ob) xs [v] F∧Inv w0 F0 Z0 n s1 a w ι Z∧e_ s ι Z s1 Z∧bJ w0 F0 s1 w ι Z F∧∀b o,F b o→∃id,(s.o id).live∧(ι id).F b o:=by
 cases c with
 | nil u =>
  simp only [taken] at ha
  obtain ⟨x,hx,ha⟩:=bf ha
  obtain ⟨e,rfl⟩:=gS hx
  subst e
  simp only [Option.some.injEq,Prod.mk.injEq] at ha
  obtain ⟨rfl,rfl,rfl⟩:=ha
  have hv:v=.slice none 0 0:=hc
  subst hv
  refine⟨ah.none,?_,h,.refl,.none,fun _ _ h=>h.elim⟩
  simp only [ad.al]
  exact⟨none,0,rfl,.inl (by simp)⟩
 | ag j sub =>
  simp only [taken] at ha
  obtain ⟨hk,A,m,rP,rfl,hh⟩:=hc
  cases ho:s.o j with
  | row u em ver xs =>
   rw [ho] at ha
   simp only at ha
   have c0:=h.fU j
   rw [ho] at c0
   have b_:(s.o j).live:=by rw [ho];trivial
   have nq:=vV c0 (hh u em ver xs (lD ho))
   obtain ⟨x,hx,ha⟩:=bf ha
   obtain ⟨e,rfl⟩:=gS hx
   subst e
   simp only [Option.some.injEq,Prod.mk.injEq] at ha
   obtain ⟨rfl,rfl,rfl⟩:=ha
   exact⟨(ι j).F,nq,h.take j (fun _ _ h=>h) (fun _ _ h=>.inl h),vU j b_,h.vT b_,fun b o hf=>⟨j,b_,hf⟩⟩
  | _=>rw [ho] at ha;simp at ha
 | _=>simp [taken] at ha
theorem Zd{t:ad}{ob ks:a'}{xs ys:List t.D}{v:Value}{vs:List Value}{kW gU:ah}(h:Inv w0 F0 Z0 n s a w ι Z)
  (hx:(ad.sl t).al w Z (.O ob) xs [v] kW) (aN:c3 (t.al w Z ks) t.size ys vs gU) (ha:bJ w0 F0 s w ι Z kW) (hb:bJ w0 F0 s w ι Z gU) (lN:ah.apart kW gU) :
  ∃Z' BI BJ,Inv w0 F0 Z0 n s a w ι Z'∧ah.sub Z Z'∧(ad.sl t).al w Z' (.O (meet ob ks)) xs [v] BI∧c3 (t.al w Z' (meet ob ks)) t.size ys vs BJ∧bJ w0 F0 s w ι Z' BI∧bJ w0 F0 s w ι Z' BJ∧ah.apart BI BJ:=by
 unfold meet
 cases hm:a'.beq ob ks
 ·simp only [cond_false]
  obtain ⟨F',h1,h2⟩:=O0 hx
  have dS:bJ w0 F0 s w ι Z ((ah.diff kW F').or gU):=(ha.sub fun b o h=>h.1).or hb
  refine⟨_,F',ah.none,h.freeze dS,fun _ _ h=>.inl h,ad.al.mono ?_ _ _ (fun _ _ h=>h) h2,?_,?_,.none,fun _ _ _ h=>h⟩
  ·rintro b o (hz | hz)
   ·exact .inl hz
   ·exact .inr (.inl hz)
  ·exact aN.bare fun y us G hs hr=>ad.al.read (fun _ _ h=>.inl h) t ks (fun b o aB=>.inr (.inr (hs b o aB))) hr
  ·refine(ha.sub h1).freeze ?_
   rintro b o hf (aB | aB)
   ·exact aB.2 hf
   ·exact lN b o (h1 b o hf) aB
 ·have:=a'.eq_of_beq _ _ hm
  subst this
  exact⟨Z,kW,gU,h,fun _ _ h=>h,hx,aN,ha,hb,lN⟩
theorem Hi(z:Array Value)(k:Nat):(Builtin.zeroCells z k).size=k*z.size:=by simp [Builtin.zeroCells]
theorem run_append_room{A:Option Addr}{m c k size:Nat}{vs:List Value}{vb:Value}{hI hW ty e:TypeId}{ats:Array TypeId}{args:Array Value}
  (h0:ats[0]?=some hI) (h1:ats[1]?=some hW) (h2:args[0]?=some (.slice A m c)) (h3:args[1]?=some vb) (hu:P.underlying hI=some (.slice e)) (hs:(sizeOf e).run P w=.ok size w)
  (j3:P.underlying hW=some .string∨∃gR,P.underlying hW=some (.slice gR)) (ou:m+k≤c) (hl:(Builtin.lenOf vb).run P w=.ok k w) (hf:(Builtin.firstCells size k vb).run P w=.ok vs.toArray w)
  (hst:∀a,A=some a→(storeCells (a.add (m*size)) vs).run P w=.ok () w') (hn:A=none→w'=w):(Builtin.append_ ats ty args).run P w=.ok (.slice A (m+k) c) w':=by
 unfold Builtin.append_
 rcases j3 with j3 | ⟨gR,j3⟩
 all_goals
  simp only [h0,h1,h2,h3,run_bind,run_underlying hu,hs,run_underlying j3,run_pure]
  simp only [Bool.false_eq_true,if_false,run_bind,hl,if_pos ou,Bool.not_false,if_true,hf]
  cases A with
  | none=>rw [hn rfl];rfl
  | some a=>simp only [run_bind,hst a rfl,run_pure]
theorem run_append_grow{A:Option Addr}{m c k size:Nat}{us vs:List Value}{vb z:Value}{hI hW ty e:TypeId}{ats:Array TypeId}{args:Array Value}{i:TypeInfo}
  (h0:ats[0]?=some hI) (h1:ats[1]?=some hW) (h2:args[0]?=some (.slice A m c)) (h3:args[1]?=some vb) (hu:P.underlying hI=some (.slice e)) (hi:P.info? e=some i) (hsz:i.size=size) (hz:i.zero=some z)
  (j3:P.underlying hW=some .string∨∃gR,P.underlying hW=some (.slice gR)) (ou:¬m+k≤c) (hl:(Builtin.lenOf vb).run P w=.ok k w)
  (BK:∀d,(Builtin.firstCells size m (.slice A m c)).run P { w with drawn:=d } = .ok us.toArray { w with drawn:=d })
  (hf:∀d,(Builtin.firstCells size k vb).run P { w with drawn:=d } = .ok vs.toArray { w with drawn:=d })
  (hr:m+k≤68719476736) (hb:i.bytes≤2048) :
  ∃q,m+k≤q∧(Builtin.append_ ats ty args).run P w=.ok (.slice (some (at_ w.heap.size 0)) (m+k) q) (grown w (w.drawn+1) (us.toArray++vs.toArray++Builtin.zeroCells z.cells (q-(m+k))) e (0,0)):=by
 have hq:(Question.appendCap (m+k) c e).forced=false:=rfl
 have Ze:¬(((m+k:Nat):Int)>IntKind.i64.max):=by simp [IntKind.max,IntKind.signed,IntKind.bits];omega
 have Zf:¬(Builtin.nextslicecap (m+k) c*i.bytes>2 ^ 48):=by
  have h1:=nextslicecap_le (need:=m+k) (old:=c) (by omega)
  have h2:Builtin.nextslicecap (m+k) c*i.bytes≤(2*68719476736)*2048:=Nat.mul_le_mul (by omega) hb
  omega
 have Zg:(sizeOf e).run P w=.ok size w:=by simp [sizeOf,run_bind,run_typeInfo hi,run_pure,hsz]
 have hzero:∀w:World,(zeroValue e).run P w=.ok z w:=by intro w;simp [zeroValue,run_bind,run_typeInfo hi,run_pure,hz]
 refine⟨m+k+w.tape w.drawn (.appendCap (m+k) c e) % (2 ^ 63-(m+k)),by omega,?_⟩
 unfold Builtin.append_
 rcases j3 with j3 | ⟨gR,j3⟩
 all_goals
  simp only [h0,h1,h2,h3,run_bind,run_underlying hu,Zg,run_underlying j3,run_pure]
  simp only [Bool.false_eq_true,if_false,run_bind,hl,if_neg ou,Bool.not_false,if_true,Ze,false_and,run_typeInfo hi,Zf,choose,Sem.run,hq,Question.cut,run_askRoom,BK,hf,hzero]
  rfl
theorem PU{t:ad}{m:a'}{xs ys:List t.D}{lB vb:Value}{vs:List Value}{kW gU:ah}{hI hW ty e:TypeId}{ats:Array TypeId}{args:Array Value}
  (h0:ats[0]?=some hI) (h1:ats[1]?=some hW) (h2:args[0]?=some lB) (h3:args[1]?=some vb) (hu:P.underlying hI=some (.slice e)) (cd:t.ok P e)
  (j3:P.underlying hW=some .string∨∃gR,P.underlying hW=some (.slice gR)) (hroom:xs.length+ys.length≤68719476736)
  (h:Inv w0 F0 Z0 n s a w ι Z) (b7:s.o id=.none) (hx:(ad.sl t).al w Z (.O m) xs [lB] kW) (aN:c3 (t.al w Z m) t.size ys vs gU) (ha:bJ w0 F0 s w ι Z kW) (hb:bJ w0 F0 s w ι Z gU) (lN:ah.apart kW gU)
  (hl:(Builtin.lenOf vb).run P w=.ok ys.length w) (hf:∀d,(Builtin.firstCells t.size ys.length vb).run P { w with drawn:=d } = .ok vs.toArray { w with drawn:=d }) :
  ∃u w' i,(Builtin.append_ ats ty args).run P w=.ok u w'∧Inv w0 F0 Z0 n (s.bQ id (.row t m 0 (xs++ys))) a w' (bT ι id i) Z∧cj w' Z (s.bQ id (.row t m 0 (xs++ys))) (bT ι id i) (.ag id none) u:=by
 obtain ⟨A,c,us,rfl,hex,BK⟩:=BH (P:=P) hx
 obtain ⟨i,gG,e',rO,we⟩:=cd.info
 have yt:(dH t t.cN).cells.size=t.size:=by
  have:=congrArg List.length (wc t)
  rw [Array.length_toList,ad.lJ] at this;exact this
 have PV:(Builtin.firstCells t.size ys.length vb).run P w=.ok vs.toArray w:=hf w.drawn
 have alg:(Builtin.firstCells t.size xs.length (.slice A xs.length c)).run P w=.ok us.toArray w:=BK w.drawn
 have Zh:=hex.len
 have PW:=aN.len
 by_cases ou:xs.length+ys.length≤c
 ·
  have hrow:=hx
  simp only [ad.al] at hrow
  obtain ⟨pq,c',hv,hrow⟩:=hrow
  simp only [List.cons.injEq,Value.slice.injEq,and_true,true_and] at hv
  obtain ⟨rfl,rfl⟩:=hv
  rcases hrow with⟨rfl,rfl⟩ | ⟨⟨b,o,sp⟩,rfl,hr⟩
  ·have Zi:ys=[]:=List.eq_nil_of_length_eq_zero (by simp at ou;simpa using ou)
   subst Zi
   have yv:vs=[]:=List.eq_nil_of_length_eq_zero (by simpa using PW)
   subst yv
   refine⟨.slice A 0 0,w,⟨none,0,ah.none⟩,?_,h.Bt b7 (.inl ⟨rfl,rfl⟩) .none,?_⟩
   ·exact run_append_room h0 h1 h2 h3 hu (run_sizeOf cd) j3 (Nat.le_refl 0) hl PV (fun a _=>rfl) (fun _=>rfl)
   ·refine⟨by show bT s.o id _ id≠_;rw [cz];simp,A,0,0,rfl,?_⟩
    intro dm gx nk fV ho
    have rE:(bT s.o id (cm.row t m 0 ([]++[])) id).core=.row dm gx nk fV:=ho
    rw [cz] at rE
    obtain ⟨rfl,_,_,h4⟩:=cm.row.inj rE
    have:=eq_of_heq h4;subst this
    exact⟨rfl,by simp [ej],Nat.le_refl _,by simp [ej],.inl rfl⟩
  ·have hsp:=hr.spot
   simp only at hsp
   subst hsp
   obtain ⟨G,g1,g2,g3⟩:=hr.row
   have hle:(xs.length+ys.length)*t.size≤c*t.size:=Nat.mul_le_mul_right _ ou
   rw [Nat.add_mul] at hle
   have hwr:∀j,j<vs.length→fk w b (o+xs.length*t.size+j):=fun j hj=>by
    have:=(hr.wr (xs.length*t.size+j) (by omega)).1
    rwa [← Nat.add_assoc] at this
   have dS:bJ w0 F0 s w ι Z (ah.run b o (c*t.size)):=ha.sub (by
    rintro b' o' ⟨rfl,h1,h2⟩
    have:=hr.inF (o'-o) (by omega)
    rwa [show o +(o'-o)=o' by omega] at this)
   have Zj:ah.apart G (ah.run b o (c*t.size)):=by
    rintro b' o' aB ⟨rfl,h1,h2⟩
    have:=g2 (o'-o) (by omega)
    exact this (by show G b' (o +(o'-o));rw [show o +(o'-o)=o' by omega];exact aB)
   have ml:Ext w (setCells w b (o+xs.length*t.size) vs) (ah.run b o (c*t.size)):=n9 b vs w _ (fun j hj=>⟨rfl,by omega,by omega⟩)
   have hinv:=h.BG dS ml
   obtain ⟨aT,k1,k2⟩:=g1.s_
   have PX:=k1.len
   have nr:∀F,bJ w0 F0 s w ι Z F→ah.apart F (ah.run b o (c*t.size))→b6 w (setCells w b (o+xs.length*t.size) vs) F:=fun F hF Iq=>b6.iT ml (fun b o hf=>(hF.own b o hf).2) Iq
   have PY:b6 w (setCells w b (o+xs.length*t.size) vs) Z:=b6.iT ml h.iR (fun b o hz hs=>dS.c4 b o hs hz)
   have Zk:bJ w0 F0 s w ι Z G:=ha.sub g3
   have Zl:ah.apart gU (ah.run b o (c*t.size)):=by
    rintro b' o' dG ⟨rfl,h1,h2⟩
    have:=hr.inF (o'-o) (by omega)
    exact lN b' o' (by have iV:kW b' (o +(o'-o)):=this;rwa [show o +(o'-o)=o' by omega] at iV) dG
   have e1:c3 (t.al (setCells w b (o+xs.length*t.size) vs) Z m) t.size xs aT G:=k1.imp fun y us dk hs hr=>ad.al.same PY t m ((nr G Zk Zj).mono hs) hr
   have e2:c3 (t.al (setCells w b (o+xs.length*t.size) vs) Z m) t.size ys vs gU:=aN.imp fun y us dk hs hr=>ad.al.same PY t m ((nr gU hb Zl).mono hs) hr
   have j2:bJ w0 F0 s (setCells w b (o+xs.length*t.size) vs) ι Z (kW.or gU):=(ha.or hb).ext ml
   refine⟨.slice (some (at_ b o)) (xs.length+ys.length) c,_,⟨some (at_ b o),c,kW.or gU⟩,?_,hinv.Bt b7 ?_ j2,?_⟩
   ·have hst:=Bd (P:=P) (b:=b) (o:=o+xs.length*t.size) vs w 0 (Bf aN) (fun j hj=>by simpa using hwr j hj)
    simp only [Nat.add_zero] at hst
    refine run_append_room h0 h1 h2 h3 hu (run_sizeOf cd) j3 ou hl PV (fun a ha=>?_) (fun h=>by simp at h)
    obtain rfl:=aS ha
    rw [show(⟨b,o,none⟩:Addr).add (xs.length*t.size)=at_ b (o+xs.length*t.size) from qi _ _ _]
    exact hst
   ·refine .inr ⟨at_ b o,rfl,rfl,by simpa using ou,fun j hj=>(ml.kn (hr.wr j hj)),fun j hj=>.inl (hr.inF j hj),G.or gU,?_,?_,fun b o h=>h.imp (g3 b o) (fun h=>h)⟩
    ·refine(e1.append e2 fun b o aB hf=>lN b o (g3 b o aB) hf).row ?_
     refine b5.append (k2.of_eq fun j hj=>?_) ?_
     ·rw [PX] at hj
      refine(vS b vs w _ (fun i hi=>(hwr i hi).1) b (o+j)).trans (if_neg ?_)
      omega
     ·rw [PX];exact YC hwr
    ·rintro j hj (aB | aB)
     ·exact g2 j hj aB
     ·exact lN _ _ (hr.inF j hj) aB
   ·have:=yr (w:=setCells w b (o+xs.length*t.size) vs) (Z:=Z) (s:=s) (ι := ι) (id:=id) (em:=m) (ver:=0) (xs:=xs++ys) (A:=at_ b o) (c:=c) (F:=kW.or gU) rfl (by simpa using ou)
    rw [List.length_append] at this
    exact this
 ·
  obtain ⟨q,hq,hrun⟩:=run_append_grow (P:=P) (w:=w) (ty:=ty) h0 h1 h2 h3 hu gG e' rO j3 ou hl BK hf hroom we
  have hn:=h.newRow b7 (hex.append aN lN) (ha.or hb) (w.drawn+1) (us.toArray++vs.toArray++Builtin.zeroCells (dH t t.cN).cells (q-(xs.length+ys.length))) e (0,0) q (by
   intro j v hv
   rw [Array.getElem?_append_left]
   ·simpa [← List.getElem?_append] using hv
   ·rcases Nat.lt_or_ge j (us++vs).length with h | h
    ·simpa using h
    ·rw [List.getElem?_eq_none h] at hv;simp at hv) (by simpa using hq) (by
   simp only [Array.size_append,List.size_toArray,Hi,yt,Zh,PW]
   rw [Nat.sub_mul,Nat.add_mul]
   have:(xs.length+ys.length)*t.size≤q*t.size:=Nat.mul_le_mul_right _ hq
   rw [Nat.add_mul] at this
   omega) (.inl rfl) (.inr rfl)
  refine⟨_,_,_,hrun,hn,?_⟩
  have:=yr (w:=grown w (w.drawn+1) (us.toArray++vs.toArray++Builtin.zeroCells (dH t t.cN).cells (q-(xs.length+ys.length))) e (0,0)) (Z:=Z) (s:=s) (ι := ι) (id:=id) (em:=m) (ver:=0) (xs:=xs++ys) (A:=at_ w.heap.size 0) (c:=q) (F:=(ah.run w.heap.size 0 (q*t.size)).or (kW.or gU)) rfl (by simpa using hq)
  rw [List.length_append] at this
  exact this
theorem PZ{aj:List Nat}{t:ad}(b1:gT P E)(gH:vL E aj=some t):∃hI hW rest e,aj=hI :: hW :: rest∧P.underlying hI=some (.slice e)∧t.ok P e∧(P.underlying hW=some .string∨∃gR,P.underlying hW=some (.slice gR)):=by
 unfold vL at gH
 split at gH
 ·rename_i hI hW rest
  split at gH
  ·rename_i t1 t2 h1 h2
   obtain rfl:=aS gH
   obtain ⟨e,hu,cd⟩:=lK (b1.ty _ _ h1)
   obtain ⟨gR,yw,_⟩:=lK (b1.ty _ _ h2)
   exact⟨hI,hW,rest,e,rfl,hu,cd,.inr ⟨gR,yw⟩⟩
  ·rename_i t1 h1 h2
   obtain rfl:=aS gH
   obtain ⟨e,hu,cd⟩:=lK (b1.ty _ _ h1)
   exact⟨hI,hW,rest,e,rfl,hu,cd,.inl (wh (b1.ty _ _ h2))⟩
  ·simp at gH
 ·simp at gH
theorem Ir{t:ad}{u:Value}{c:a8}{x:a6}(hx:oneCell t x=some c)(hr:aP w Z s ι x u):cj w Z s ι c u:=by
 cases x <;> simp only [oneCell] at hx <;> try (simp at hx;done)
 ·obtain rfl:=aS hx
  simpa only [aP] using hr
 ·obtain rfl:=aS hx
  simp only [aP] at hr
  exact hr
theorem Zm{c:Call}(b1:gT P E)(h:Inv w0 F0 Z0 n s a w ι Z)(ag:∀k,o.dst=some k→k<n)(ho:o.op=.call c)(hb:c.callee=.builtin .append)(hk:cU E id o s K=some r) :
  ∃ar,K ar=some r∧o.wp P a w (cY w0 F0 Z0 n ar) Q:=by
 unfold cU at hk
 rw [ho] at hk
 simp only [hb] at hk
 have hvs:=tz h c.args.toList
 have lM:(c.args.map a.eval).toList=c.args.toList.map a.eval:=by simp
 generalize hl:c.args.toList.map (bU s)=l at hk hvs
 match l,hk,hvs with
 | [],hk,_=>simp [jW] at hk
 | [_],hk,_=>simp [jW] at hk
 | _ :: _ :: _ :: _,hk,_=>simp [jW] at hk
 | [lB,vb],hk,hvs =>
  simp only [jW] at hk
  simp only [aX] at hvs
  obtain ⟨P0,_,he,ns,Zn,_,rfl,Is,rfl⟩:=hvs
  cases gH:vL E c.argTypes.toList with
  | none=>rw [gH] at hk;simp at hk
  | some t =>
   rw [gH] at hk
   simp only at hk
   obtain ⟨hI,hW,rest,e,rR,hu,cd,j3⟩:=PZ b1 gH
   cases BL:oneCell t lB with
   | none=>rw [BL] at hk;simp at hk
   | some It =>
    cases tA:oneCell t vb with
    | none=>rw [BL,tA] at hk;simp at hk
    | some cb =>
      rw [BL,tA] at hk
      simp only [OO] at hk
      have nt:=Ir BL ns
      have hb1:=Ir tA Is
      cases qv:added s t cb with
      | none=>rw [qv] at hk;simp at hk
      | some q =>
       obtain ⟨ks,ys,s1⟩:=q
       rw [qv] at hk
       simp only at hk
       obtain ⟨vs,gU,hlen,nu,hels,h1,hs1,ot⟩:=PS (P:=P) qv h hb1
       cases yx:taken s1 t It with
       | none=>rw [yx] at hk;simp at hk
       | some q =>
        obtain ⟨ob,xs,s2⟩:=q
        rw [yx] at hk
        simp only at hk
        obtain ⟨kW,hx,h2,mj,hf2,b_⟩:=PT yx h1 (nt.move hs1.ek)
        cases nj:mkObj s2 id (.row t (meet ob ks) 0 (xs++ys)) with
        | none=>rw [nj] at hk;simp at hk
        | some s3 =>
         rw [nj] at hk
         obtain ⟨hroom,hk2⟩:=rL hk
         clear hk
         obtain ⟨b7,rfl⟩:=qp nj
         obtain ⟨bM,BI,BJ,h3,_,ml,Bz,Zo,dG,Zp⟩:=Zd h2 hx hels hf2 (ot.shrink mj) (by
          intro b o Zq Zr
          obtain ⟨j,hj,yu⟩:=b_ b o Zq
          exact ot.apart j hj b o Zr yu)
         obtain ⟨u,w',bd,hrun,hinv,hcell⟩:=PU (P:=P) (id:=id) (ty:=o.type) (ats:=c.argTypes) (args:=c.args.map a.eval) (by rw [← Array.getElem?_toList,rR];rfl) (by rw [← Array.getElem?_toList,rR];rfl)
          (by rw [← Array.getElem?_toList,lM,he];rfl) (by rw [← Array.getElem?_toList,lM,he];rfl) hu cd j3 (Nat.le_of_ble_eq_true hroom) h3 b7 ml Bz Zo dG Zp hlen nu
         refine⟨_,hk2,me (v:=u) (w':=w') ?_ hinv (by simp only [aP];exact hcell) ag⟩
         unfold execOp;rw [ho]
         simp only [run_bind,resolve,hb,run_pure,invoke]
         unfold builtin
         exact fY hrun
theorem c3.cut{α : Type}{R : α → List Value→ah→Prop}{size:Nat} : ∀ {xs:List α} {vs:List Value} {F:ah} (k:Nat),c3 R size xs vs F→c3 R size (xs.take k) (vs.take (k*size)) F∧c3 R size (xs.drop k) (vs.drop (k*size)) F
 | xs,vs,F,0,h=>by simp only [Nat.zero_mul,List.take_zero,List.drop_zero];exact⟨rfl,h⟩
 | [],vs,F,k+1,h=>by simp only [c3] at h;subst h;simp [c3]
 | x :: xs,vs,F,k+1,⟨us,aj,G,H,h1,h2,h3,h4,a7,bg,bH⟩=>by
  obtain ⟨p,q⟩:=c3.cut k h4
  subst h1
  have e:(k+1)*size=us.length+k*size:=by rw [Nat.add_one_mul,h3];omega
  refine⟨⟨us,aj.take (k*size),G,H,?_,h2,h3,p,a7,bg,bH⟩,?_⟩
  ·rw [e,List.take_length_add_append]
  ·rw [e,List.drop_length_add_append];exact q.mono bH
theorem Zs(us:List Value)(z:Array Value)(hz:z.toList=us)(n:Nat):(Builtin.zeroCells z n).toList=(List.replicate n us).flatten:=by
 have hl:(Builtin.zeroCells z n).toList.length=(List.replicate n us).flatten.length:=by
  rw [Array.length_toList,Hi];subst hz;simp
 refine List.ext_getElem? fun j=>?_
 cases hj:(List.replicate n us).flatten[j]? with
 | none =>
  rw [List.getElem?_eq_none_iff] at hj ⊢
  omega
 | some v =>
  have:=Ij (z:=z) (m:=n*z.size) us n hz (by subst hz;simp) v hj
  rw [Array.getElem?_toList]
  exact this
theorem Inv.rewrite(h:Inv w0 F0 Z0 n s a w ι Z){id:Nat}{t:ad}{em:a'}{ver:Nat}{xs fV:List t.D}(ho:s.o id=.row t em ver xs)(hl:xs.length=fV.length)(hx:Ext w w' (ι id).F)
  (c0:eH w Z s ι w' Z (s.bQ id (.row t em (ver+1) fV)) ι → h5 w' Z (s.bQ id (.row t em (ver+1) fV)) ι (ι id) (.row t em (ver+1) fV)):Inv w0 F0 Z0 n (s.bQ id (.row t em (ver+1) fV)) a w' ι Z:=by
 have b_:(s.o id).live:=by rw [ho];trivial
 let o':cm:=.row t em (ver+1) fV
 have hm:eH w Z s ι w' Z (s.bQ id o') ι := by
  refine⟨fun j=>?_,fun _ _ h=>h,b6.iT hx h.rF ?_⟩
  ·show iS (s.o j) (ι j) (bT s.o id o' j) (ι j)
   by_cases hj:id=j
   ·subst hj;rw [cz,ho];exact .row _ _ _ _ _ _ _ _ _ (by omega) (by omega) rfl rfl
   ·rw [cR hj];exact .stay _ _
  ·rintro b o (hz | ⟨ea,gf,qk,_,hf⟩) iA
   ·exact h.c4 id b_ b o iA hz
   ·have hne:ea≠id:=by
     rintro rfl
     have:bT s.o ea o' ea=s.o ea:=qk
     rw [cz,ho] at this
     injection this with h1 h2 h3
     omega
    exact h.apart ea id gf b_ hne b o hf iA
 have rH:∀ {j},id≠j→((s.bQ id o').o j).live→(s.o j).live:=fun hj hl=>by
  have:(bT s.o id o' _).live:=hl
  rwa [cR hj] at this
 refine h.next hm hx (fun b o hf=>(h.own id b_ b o hf).1) (fun _ _ h=>.inl h) ?_ ?_ (fun k=>(h.tmps k).move hm) h.size h.defers
 ·intro j hl hne
  by_cases hj:id=j
  ·subst hj
   refine⟨?_,fun b o hf=>⟨(h.own _ b_ b o hf).1,Nat.lt_of_lt_of_le (h.own _ b_ b o hf).2 hx.size⟩,fun ea gf jE=>h.apart id ea b_ (rH jE gf) jE⟩
   show h5 _ _ _ _ _ (bT s.o id o' id)
   rw [cz]
   exact c0 hm
  ·exact absurd ⟨cR hj,rfl⟩ hne
 ·intro j hl
  by_cases hj:id=j
  ·subst hj;exact h.c4 _ b_
  ·exact h.c4 j (rH hj hl)
theorem Zt{t e ty:TypeId}{T:ad}{A:Option Addr}{k c:Nat}(hu:P.underlying t=some (.slice e))(cd:T.ok P e){b o:Nat}(hA:0<k→A=some (at_ b o))(hw:∀j,j<k*T.size→fk w b (o+j)) :
  (Builtin.clear_ #[t] ty #[.slice A k c]).run P w=.ok (.tuple #[]) (setCells w b o (List.replicate k T.cN).flatten):=by
 rcases Nat.eq_zero_or_pos k with rfl | hk
 ·unfold Builtin.clear_
  cases A <;>(simp only [List.getElem?_toArray,List.getElem?_cons_zero,run_bind,run_underlying hu];rfl)
 ·rw [hA hk]
  obtain ⟨m,rfl⟩:∃m,k=m+1:=⟨k-1,by omega⟩
  have hc:=Zs T.cN (dH T T.cN).cells (wc T) (m+1)
  have h1:∀v∈(List.replicate (m+1) T.cN).flatten,ee v=true:=by
   intro v hv
   rw [List.mem_flatten] at hv
   obtain ⟨l,h1,h2⟩:=hv
   rw [(List.mem_replicate.1 h1).2] at h2
   exact((rJ (w:=default) (Z:=ah.none) (s:=⟨fun _=>.aD,fun _=>.none,[]⟩) (ι := fun _=>⟨none,0,ah.none⟩) T).ee) v h2
  have hst:=Bd (P:=P) (b:=b) (o:=o) _ w 0 h1 (fun i hi=>by
   have:=hw i (by simpa [ad.lJ] using hi)
   simpa using this)
  unfold Builtin.clear_
  simp only [List.getElem?_toArray,List.getElem?_cons_zero,run_bind,run_underlying hu,Bw cd,hc]
  simp only [Nat.add_zero] at hst
  rw [hst]
  rfl
theorem Zu{c:Call}(b1:gT P E)(h:Inv w0 F0 Z0 n s a w ι Z)(ag:∀k,o.dst=some k→k<n)(ho:o.op=.call c)(hb:c.callee=.builtin .clear)(hk:cU E id o s K=some r) :
  ∃ar,K ar=some r∧o.wp P a w (cY w0 F0 Z0 n ar) Q:=by
 unfold cU at hk
 rw [ho] at hk
 simp only [hb] at hk
 have hvs:=tz h c.args.toList
 have lM:(c.args.map a.eval).toList=c.args.toList.map a.eval:=by simp
 generalize hl:c.args.toList.map (bU s)=l at hk hvs
 match l,hk,hvs with
 | [.aU (.ag i sub)],hk,hvs =>
  simp only [jW] at hk
  cases gH:c.argTypes.toList with
  | nil=>rw [gH] at hk;simp at hk
  | cons t aj =>
   rw [gH] at hk
   simp only at hk
   cases ht:E.ty t with
   | none=>rw [ht] at hk;simp at hk
   | some T =>
    cases bY:s.o i with
    | row v em ver xs =>
     rw [ht,bY] at hk
     cases T with
     | sl u =>
      simp only at hk
      cases hf:(ad.beq u v&&v.flat)
      ·rw [hf] at hk;simp at hk
      rw [hf] at hk
      simp only [cond_true] at hk
      simp only [Bool.and_eq_true] at hf
      obtain ⟨hf,h9⟩:=hf
      have:=ad.eq_of_beq _ _ hf
      subst this
      simp only [aX,aP] at hvs
      obtain ⟨alh,us,he,⟨j0,A,k,jZ,rfl,hh⟩,rfl⟩:=hvs
      obtain ⟨e,hu,cd⟩:=lK (b1.ty _ _ ht)
      have hr:=hh u em ver xs (lD bY)
      obtain ⟨ct,P1,ali,rc,BM⟩:=hr
      have hkk:k=ly sub xs:=by
       rw [ct];cases sub with
       | none=>rfl
       | some p=>rfl
      rw [← hkk] at hk
      generalize iB:ej sub=lo at *
      have nm:(c.args.map a.eval) = #[.slice A k jZ]:=by
       apply Array.ext'
       rw [lM,he]
      have pr:c.argTypes[0]?=some t:=by rw [← Array.getElem?_toList,gH];rfl
      have hlen:xs.length=(xs.take lo++List.replicate k u.zero++xs.drop (lo+k)).length:=by simp;omega
      have P2:=h.fU i
      rw [bY] at P2
      have hfin:∃(b BN:Nat),(0<k→A=some (at_ b BN))∧(∀j,j<k*u.size→fk w b (BN+j))∧Inv w0 F0 Z0 n (s.bQ i (.row u em (ver+1) (xs.take lo++List.replicate k u.zero++xs.drop (lo+k)))) a (setCells w b BN (List.replicate k u.cN).flatten) ι Z:=by
       rcases P2 with⟨h1,h2⟩ | ⟨a0,gj,hrow⟩
       ·have hk0:k=0:=by rw [h1] at P1;simp at P1;omega
        subst hk0
        refine⟨0,0,fun h=>by omega,fun j hj=>by omega,?_⟩
        refine h.rewrite bY hlen (Ext.refl _ _) fun _=>?_
        exact .inl ⟨by rw [h1];simp,h2⟩
       ·have hle:(lo+k)*u.size≤(ι i).cap*u.size:=Nat.mul_le_mul_right _ (by have:=hrow.cap;omega)
        rw [Nat.add_mul] at hle
        have hwr:∀j,j<k*u.size→fk w a0.block (a0.off+lo*u.size+j):=fun j hj=>by
         have:=(hrow.wr (lo*u.size+j) (by omega)).1;rwa [← Nat.add_assoc] at this
        have yt:(List.replicate k u.cN).flatten.length=k*u.size:=by simp [ad.lJ]
        have hx:Ext w (setCells w a0.block (a0.off+lo*u.size) (List.replicate k u.cN).flatten) (ι i).F:=n9 _ _ _ _ fun j hj=>by
         have:=hrow.inF (lo*u.size+j) (by omega);rwa [← Nat.add_assoc] at this
        refine⟨a0.block,a0.off+lo*u.size,fun hk0=>?_,hwr,h.rewrite bY hlen hx fun _=>.inr ⟨a0,gj,hrow.spot,by rw [← hlen];exact hrow.cap,fun j hj=>hx.kn (hrow.wr j hj),hrow.inF,ah.none,?_,fun _ _ h=>h,fun _ _ h=>h.elim⟩⟩
        ·rcases BM with BM | ⟨a1,hb1,BM⟩
         ·omega
         ·rw [gj] at hb1
          obtain rfl:=aS hb1
          exact BM
        ·obtain ⟨G,bx,ch,gd⟩:=hrow.row
         obtain ⟨us,e1,e2⟩:=Row.s_ bx
         have e1:c3 (u.al (setCells w a0.block (a0.off+lo*u.size) (List.replicate k u.cN).flatten) Z em) u.size xs us ah.none:=e1.bare fun y us dk _ aN =>
          rn u (F:=ah.none) h9 (ad.al.same (Z:=ah.none) (fun _ _ h=>h.elim) u em (F:=ah.none) (fun _ _ h=>h.elim) (rn u h9 aN))
         have qn:=e1.len
         have hsp:=rm (k:=lo*u.size) (vs:=(List.replicate k u.cN).flatten) e2 (fun i hi=>(hrow.wr i (by
          have:xs.length*u.size≤(ι _).cap*u.size:=Nat.mul_le_mul_right _ hrow.cap
          omega)).1) (by
          rw [yt,qn,← Nat.add_mul];exact Nat.mul_le_mul_right _ (by omega))
         refine c3.row ?_ hsp
         have c1:=(e1.cut lo).1
         have gh:=(e1.cut (lo+k)).2
         have Zv:=c3.replicate (R:=u.al (setCells w a0.block (a0.off+lo*u.size) (List.replicate k u.cN).flatten) Z em) (Ii u em) (ad.lJ u) k
         have:=((c1.append Zv fun _ _ h _=>h.elim).append gh fun _ _ _ h=>h.elim)
         unfold de
         rw [yt,← Nat.add_mul]
         refine this.bare fun y us G _ aN=>rn u h9 aN
      obtain ⟨b,BN,hA,hw,hi⟩:=hfin
      refine⟨_,hk,me (v:=.tuple #[]) ?_ hi (by simp only [aP,aX];exact⟨[],rfl,rfl⟩) ag⟩
      unfold execOp;rw [ho]
      simp only [run_bind,resolve,hb,run_pure,invoke]
      unfold builtin
      refine fY ?_
      have hrun:=Zt (P:=P) (w:=w) (ty:=o.type) (c:=jZ) hu cd hA hw
      rw [nm]
      have Zw:Builtin.clear_ c.argTypes o.type #[.slice A k jZ]=Builtin.clear_ #[t] o.type #[.slice A k jZ]:=by
       unfold Builtin.clear_;rw [pr];rfl
      rw [Zw]
      exact hrun
     | _=>simp at hk
    | _=>rw [ht,bY] at hk;cases T <;> simp at hk
 | [],hk,_=>simp [jW] at hk
 | _ :: _ :: _,hk,_=>simp [jW] at hk
 | [.aD],hk,_ | [.iv _],hk,_ | [.ptr _],hk,_ | [.dj _ _ _],hk,_ | [.jU],hk,_ | [.kP],hk,_ | [.opt _ _],hk,_ | [.may _ _ _],hk,_ | [.rp _],hk,_ | [.fn _ _ _],hk,_ | [.pa _],hk,_=>simp [jW] at hk
 | [.aU (.int _ _)],hk,_ | [.aU (.bool _)],hk,_ | [.aU (.str _)],hk,_ | [.aU (.nil _)],hk,_ | [.aU (.b2 _ _ _ _)],hk,_=>simp [jW] at hk
end
end Go.LM
namespace Go.LM
theorem Row.BO{α : Type}{w:World}{R : α → List Value→ah→Prop}{size:Nat} : ∀ {x:List α} {b o:Nat} {F:ah} (i:Nat) (hi:i<x.length),Row w R size x b o F →
  ∃G1 iW G2 vs,Row w R size (x.take i) b o G1∧R x[i] vs iW∧vs.length=size∧b5 w b (o+i*size) vs∧Row w R size (x.drop (i+1)) b (o +(i+1)*size) G2 ∧
   ah.apart G1 iW∧ah.apart G1 G2∧ah.apart iW G2∧ah.sub G1 F∧ah.sub iW F∧ah.sub G2 F
 | y :: x,b,o,F,0,_,⟨vs,G,H,h1,h2,h3,h4,a7,bg,bH⟩ =>
  ⟨ah.none,G,H,vs,trivial,h1,h2,by simpa using h3,by simpa using h4,fun _ _ h=>h.elim,fun _ _ h=>h.elim,a7,fun _ _ h=>h.elim,bg,bH⟩
 | y :: x,b,o,F,i+1,hi,⟨vs,G,H,h1,h2,h3,h4,a7,bg,bH⟩=>by
  obtain ⟨G1,iW,G2,us,k1,k2,k3,bb,bw,da,c5,dI,fB,gk,db⟩:=Row.BO i (by simpa using hi) h4
  refine⟨G.or G1,iW,G2,us,⟨vs,G,G1,h1,h2,h3,k1,fun b o h k=>a7 b o h (fB b o k),fun _ _ h=>.inl h,fun _ _ h=>.inr h⟩,k2,k3,?_,?_,?_,?_,dI,?_,fun b o h=>bH b o (gk b o h),fun b o h=>bH b o (db b o h)⟩
  ·rwa [show o +(i+1)*size=o+size+i*size by rw [Nat.add_one_mul];omega]
  ·have e:o +(i+1+1)*size=o+size +(i+1)*size:=by rw [Nat.add_one_mul (i+1)];omega
   rw [e];exact bw
  ·rintro b o (h | h) k
   ·exact a7 b o h (gk b o k)
   ·exact da b o h k
  ·rintro b o (h | h) k
   ·exact a7 b o h (db b o k)
   ·exact c5 b o h k
  ·rintro b o (h | h)
   ·exact bg b o h
   ·exact bH b o (fB b o h)
theorem Row.BP{α : Type}{w:World}{R : α → List Value→ah→Prop}{size:Nat}{y : α}{vs:List Value}{iW:ah} : ∀ {x:List α} {b o:Nat} {G1 G2:ah} (i:Nat),i<x.length→Row w R size (x.take i) b o G1→R y vs iW→vs.length=size →
  b5 w b (o+i*size) vs→Row w R size (x.drop (i+1)) b (o +(i+1)*size) G2→ah.apart G1 iW→ah.apart G1 G2→ah.apart iW G2→Row w R size (x.set i y) b o (G1.or (iW.or G2))
 | [],_,_,_,_,_,hi,_,_,_,_,_,_,_,_=>by simp at hi
 | z :: x,b,o,G1,G2,0,_,_,h2,h3,h4,a7,_,_,cV =>
  ⟨vs,iW,G2,h2,h3,by simpa using h4,by simpa using a7,cV,fun _ _ h=>.inr (.inl h),fun _ _ h=>.inr (.inr h)⟩
 | z :: x,b,o,G1,G2,i+1,hi,⟨ws,A,B,a1,a2,a3,a4,a5,Iu,Iv⟩,h2,h3,h4,a7,bg,bH,cV=>by
  have e1:o +(i+1)*size=o+size+i*size:=by rw [Nat.add_one_mul];omega
  have e2:o +(i+1+1)*size=o+size +(i+1)*size:=by rw [Nat.add_one_mul (i+1)];omega
  have:=Row.BP i (by simpa using hi) a4 h2 h3 (by rwa [← e1]) (by rw [← e2];exact a7) (fun b o x y=>bg b o (Iv b o x) y) (fun b o x y=>bH b o (Iv b o x) y) cV
  refine⟨ws,A,_,a1,a2,a3,this,?_,fun b o h=>.inl (Iu b o h),?_⟩
  ·rintro b o x (y | y | y)
   ·exact a5 b o x y
   ·exact bg b o (Iu b o x) y
   ·exact bH b o (Iu b o x) y
  ·rintro b o (y | y | y)
   ·exact .inl (Iv b o y)
   ·exact .inr (.inl y)
   ·exact .inr (.inr y)
mutual
theorem ad.wj:∀(T:ad) {off:Nat} {t:ad} {x:T.D} {z:List t.D},T.flat=true→T.getAt off t x=some z→False
 | .int _,_,_,_,_,_,h=>by simp [ad.getAt] at h
 | .bool,_,_,_,_,_,h=>by simp [ad.getAt] at h
 | .str,_,_,_,_,_,h=>by simp [ad.getAt] at h
 | .raw,_,_,_,_,_,h=>by simp [ad.getAt] at h
 | .sl t,_,_,_,_,hf,_=>by simp [ad.flat] at hf
 | .st aj,_,_,_,_,hf,h=>ay.wj aj (by simpa only [ad.flat] using hf) (by simpa only [ad.getAt] using h)
theorem ay.wj:∀(aj:ay) {off:Nat} {t:ad} {x:aj.D} {z:List t.D},aj.flat=true→aj.getAt off t x=some z→False
 | .nil,_,_,_,_,_,h=>by simp [ay.getAt] at h
 | .cons T aj,off,t,x,z,hf,h=>by
  simp only [ay.flat] at hf
  cases h1:T.flat
  ·rw [h1] at hf;cases hf
  rw [h1] at hf
  simp only [ay.getAt] at h
  cases hb:Nat.blt off T.size
  ·rw [hb] at h;exact ay.wj aj hf h
  ·rw [hb] at h;exact ad.wj T h1 h
end
section
variable{w bL:World}{Z bM:ah}
theorem qw(t:ad){x:t.D}{vs:List Value}{F:ah}(hF:b6 w bL F)(h:t.al w Z t.own x vs F):t.al bL bM t.own x vs F :=
 tq t (ad.al.same (Z:=ah.none) (fun _ _ h=>h.elim) t t.own hF (tq t h))
theorem P3(t:ay){x:t.D}{vs:List Value}{F:ah}(hF:b6 w bL F)(h:t.al w Z t.own x vs F):t.al bL bM t.own x vs F :=
 Bs t (ay.al.same (Z:=ah.none) (fun _ _ h=>h.elim) t t.own hF (Bs t h))
def P4(w:World)(Z:ah)(t:ad)(z:List t.D)(v:Value)(H1 G1:ah)(R:World→ah→List t.D→ah→Prop):Prop :=
 (ad.sl t).al w Z (.O t.own) z [v] H1∧ah.apart H1 G1∧∀(bL:World) (bM X:ah) (y:List t.D),b6 w bL G1→(ad.sl t).al bL bM (.O t.own) y [v] X→ah.apart X G1→R bL bM y (X.or G1)
mutual
theorem ad.lens:∀(T:ad) (off:Nat) (t:ad) {x:T.D} {z:List t.D} {us:List Value} {G:ah},T.al w Z T.own x us G→T.getAt off t x=some z →
  ∃v H1 G1,us[off]?=some v∧ah.sub H1 G∧ah.sub G1 G∧P4 w Z t z v H1 G1 (fun bL bM y eK=>∀bD,T.setAt off t y x=some bD→T.al bL bM T.own bD us eK)
 | .int _,_,_,_,_,_,_,_,h=>by simp [ad.getAt] at h
 | .bool,_,_,_,_,_,_,_,h=>by simp [ad.getAt] at h
 | .str,_,_,_,_,_,_,_,h=>by simp [ad.getAt] at h
 | .raw,_,_,_,_,_,_,_,h=>by simp [ad.getAt] at h
 | .sl u,off,t,x,z,us,G,hr,h=>by
  simp only [ad.getAt] at h
  cases hb:Nat.beq off 0
  ·rw [hb] at h;cases h
  rw [hb] at h
  obtain rfl:=Nat.eq_of_beq_eq_true hb
  obtain ⟨e,rfl⟩:=gS h
  subst e
  have fI:=hr
  simp only [ad.own,ad.al] at hr
  obtain ⟨A,c,rfl,_⟩:=hr
  refine⟨_,G,ah.none,rfl,fun _ _ h=>h,fun _ _ h=>h.elim,fI,fun _ _ _ h=>h.elim,fun bL bM X y _ h2 _ bD hs=>?_⟩
  simp only [ad.setAt] at hs
  obtain ⟨e,rfl⟩:=gS (show eF (.sl u) (.sl u) y=some bD from hs)
  exact ad.al.mono (fun _ _ h=>h) _ _ (fun _ _ h=>.inl h) h2
 | .st aj,off,t,x,z,us,G,hr,h=>by
  have h9:aj.flat=false:=by
   cases hf:aj.flat
   ·rfl
   ·exact(ad.wj (.st aj) (by simpa only [ad.flat] using hf) h).elim
  simp only [ad.own,h9,Bool.false_eq_true,if_false,ad.al,a'.parts] at hr
  simp only [ad.getAt] at h
  obtain ⟨v,H1,G1,h1,h2,h3,h4,a7,bg⟩:=ay.lens aj off t hr h
  refine⟨v,H1,G1,h1,h2,h3,h4,a7,fun bL bM X y k1 k2 k3 bD hs=>?_⟩
  simp only [ad.setAt] at hs
  simp only [ad.own,h9,Bool.false_eq_true,if_false,ad.al,a'.parts]
  exact bg bL bM X y k1 k2 k3 bD hs
theorem ay.lens:∀(aj:ay) (off:Nat) (t:ad) {x:aj.D} {z:List t.D} {us:List Value} {G:ah},aj.al w Z aj.own x us G→aj.getAt off t x=some z →
  ∃v H1 G1,us[off]?=some v∧ah.sub H1 G∧ah.sub G1 G∧P4 w Z t z v H1 G1 (fun bL bM y eK=>∀bD,aj.setAt off t y x=some bD→aj.al bL bM aj.own bD us eK)
 | .nil,_,_,_,_,_,_,_,h=>by simp [ay.getAt] at h
 | .cons T aj,off,t,x,z,us,G,hr,h=>by
  simp only [ay.own,ay.al,cW.ag,cW.dw] at hr
  obtain ⟨lC,h_,nv,nw,rfl,bx,ch,hap,ha,hb⟩:=hr
  have hl:=(ad.al.len T _ bx).1
  simp only [ay.getAt] at h
  cases cA:Nat.blt off T.size
  ·rw [cA] at h
   have Iw:T.size≤off:=by
    rcases Nat.lt_or_ge off T.size with h1 | h1
    ·have:Nat.blt off T.size=true:=Nat.ble_eq_true_of_le h1
     rw [this] at cA;cases cA
    ·exact h1
   obtain ⟨v,H1,G1,h1,h2,h3,h4,a7,bg⟩:=ay.lens aj (off-T.size) t ch h
   refine⟨v,H1,nv.or G1,?_,fun b o x=>hb b o (h2 b o x),?_,h4,?_,fun bL bM X y k1 k2 k3 bD hs=>?_⟩
   ·rw [List.getElem?_append_right (by omega),hl];exact h1
   ·rintro b o (y | y)
    ·exact ha b o y
    ·exact hb b o (h3 b o y)
   ·rintro b o y (q | q)
    ·exact hap b o q (h2 b o y)
    ·exact a7 b o y q
   ·simp only [ay.setAt,cA,cond_false] at hs
    obtain ⟨jG,hz,hs⟩:=bf hs
    obtain rfl:=aS hs
    simp only [ay.own,ay.al,cW.ag,cW.dw]
    refine⟨lC,h_,nv,X.or G1,rfl,qw T (k1.mono fun _ _ h=>.inl h) bx,bg bL bM X y (k1.mono fun _ _ h=>.inr h) k2 (fun b o p q=>k3 b o p (.inr q)) jG hz,?_,fun _ _ h=>.inr (.inl h),?_⟩
    ·rintro b o p (q | q)
     ·exact k3 b o q (.inl p)
     ·exact hap b o p (h3 b o q)
    ·rintro b o (q | q)
     ·exact .inl q
     ·exact .inr (.inr q)
  ·rw [cA] at h
   have Iw:off<T.size:=Nat.le_of_ble_eq_true cA
   obtain ⟨v,H1,G1,h1,h2,h3,h4,a7,bg⟩:=ad.lens T off t bx h
   refine⟨v,H1,G1.or nw,?_,fun b o x=>ha b o (h2 b o x),?_,h4,?_,fun bL bM X y k1 k2 k3 bD hs=>?_⟩
   ·rw [List.getElem?_append_left (by omega)];exact h1
   ·rintro b o (y | y)
    ·exact ha b o (h3 b o y)
    ·exact hb b o y
   ·rintro b o y (q | q)
    ·exact a7 b o y q
    ·exact hap b o (h2 b o y) q
   ·simp only [ay.setAt,cA,cond_true] at hs
    obtain ⟨jG,hz,hs⟩:=bf hs
    obtain rfl:=aS hs
    simp only [ay.own,ay.al,cW.ag,cW.dw]
    refine⟨lC,h_,X.or G1,nw,rfl,bg bL bM X y (k1.mono fun _ _ h=>.inl h) k2 (fun b o p q=>k3 b o p (.inl q)) jG hz,P3 aj (k1.mono fun _ _ h=>.inr h) ch,?_,?_,fun _ _ h=>.inr (.inr h)⟩
    ·rintro b o (p | p) q
     ·exact k3 b o p (.inr q)
     ·exact hap b o (h3 b o p) q
    ·rintro b o (q | q)
     ·exact .inl q
     ·exact .inr (.inl q)
end
theorem m8.lens{T:ad}{ys:List T.D}{a:Addr}{c:Nat}{F:ah}{i off:Nat}{t:ad}{z:List t.D}(h:m8 w (T.al w Z T.own) T.size ys a c F)(hi:i<ys.length)(aB:T.getAt off t (J T ys i)=some z) :
  ∃v H1,w.cell? (at_ a.block (a.off+i*T.size+off))=some v∧(ad.sl t).al w Z (.O t.own) z [v] H1∧ah.sub H1 F ∧
   ∀(bL:World) (bM X:ah) (y:List t.D) (bD:T.D),b6 w bL (ah.diff F H1)→(ad.sl t).al bL bM (.O t.own) y [v] X→ah.apart X (ah.diff F H1)→T.setAt off t y (J T ys i)=some bD →
    m8 bL (T.al bL bM T.own) T.size (ys.set i bD) a c (X.or (ah.diff F H1)):=by
 rw [c7 hi] at aB ⊢
 obtain ⟨G,g1,g2,g3⟩:=h.row
 obtain ⟨nv,iW,nw,vs,bx,Ix,hvl,ck,ch,a1,a2,a3,s1,s2,s3⟩:=g1.BO i hi
 obtain ⟨v,H1,G1,hv,k1,k2,k3,bb,bw⟩:=ad.lens T off t Ix aB
 have yy:ah.sub H1 G:=fun b o x=>s2 b o (k1 b o x)
 have hle:ys.length*T.size≤c*T.size:=Nat.mul_le_mul_right _ h.cap
 have gG:(i+1)*T.size≤ys.length*T.size:=Nat.mul_le_mul_right _ hi
 rw [Nat.add_one_mul] at gG
 refine⟨v,H1,?_,k3,fun b o x=>g3 b o (yy b o x),fun bL bM X y bD hs hr hap Iy=>?_⟩
 ·have:=ck off v hv
  exact this
 have tB:∀ {A:ah},ah.sub A G→ah.apart A H1→ah.sub A (ah.diff F H1):=fun hA au b o x=>⟨g3 b o (hA b o x),fun y=>au b o x y⟩
 have tC:ah.sub nv (ah.diff F H1):=tB s1 fun b o x y=>a1 b o x (k1 b o y)
 have tD:ah.sub nw (ah.diff F H1):=tB s3 fun b o x y=>a3 b o (k1 b o y) x
 have d1:ah.sub G1 (ah.diff F H1):=tB (fun b o x=>s2 b o (k2 b o x)) fun b o x y=>bb b o y x
 have pt:∀j,j<c*T.size→ah.diff F H1 a.block (a.off+j):=fun j hj=>⟨h.inF j hj,fun y=>g2 j hj (yy _ _ y)⟩
 have hcell:∀j,j<c*T.size→bL.cell? (at_ a.block (a.off+j))=w.cell? (at_ a.block (a.off+j)):=fun j hj=>(hs _ _ (pt j hj)).1
 have fl:=bw bL bM X y (hs.mono d1) hr (fun b o p q=>hap b o p (d1 b o q)) bD Iy
 refine⟨h.spot,by simpa using h.cap,fun j hj=>hs.kn (pt j hj) (h.wr j hj),fun j hj=>.inr (pt j hj),nv.or ((X.or G1).or nw),?_,?_,?_⟩
 ·refine Row.BP i hi (bx.imp (fun y us dk hG hr=>qw T (hs.mono fun b o p=>tC b o (hG b o p)) hr) fun j hj=>hcell j ?_) fl hvl (ck.of_eq fun j hj=>?_) (ch.imp (fun y us dk hG hr=>qw T (hs.mono fun b o p=>tD b o (hG b o p)) hr) fun j hj=>?_) ?_ a2 ?_
  ·simp only [List.length_take] at hj
   have:min i ys.length*T.size≤ys.length*T.size:=Nat.mul_le_mul_right _ (Nat.min_le_right _ _)
   omega
  ·have:=hcell (i*T.size+j) (by omega)
   rwa [← Nat.add_assoc] at this
  ·simp only [List.length_drop] at hj
   have e1:(ys.length-(i+1))*T.size=ys.length*T.size-(i*T.size+T.size):=by rw [Nat.sub_mul,Nat.add_one_mul]
   rw [e1] at hj
   have:=hcell ((i+1)*T.size+j) (by rw [Nat.add_one_mul];omega)
   rwa [← Nat.add_assoc] at this
  ·rintro b o p (q | q)
   ·exact hap b o q (tC b o p)
   ·exact a1 b o p (k2 b o q)
  ·rintro b o (p | p) q
   ·exact hap b o p (tD b o q)
   ·exact a3 b o (k2 b o p) q
 ·rintro j hj (p | (p | p) | p)
  ·exact g2 j hj (s1 _ _ p)
  ·exact hap _ _ p (pt j hj)
  ·exact g2 j hj (s2 _ _ (k2 _ _ p))
  ·exact g2 j hj (s3 _ _ p)
 ·rintro b o (p | (p | p) | p)
  ·exact .inr (tC b o p)
  ·exact .inl p
  ·exact .inr (d1 b o p)
  ·exact .inr (tD b o p)
end
end Go.LM
