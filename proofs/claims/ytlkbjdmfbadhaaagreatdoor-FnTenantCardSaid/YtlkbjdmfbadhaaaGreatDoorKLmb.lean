/- Each operation of the model is what the interpreter says. Conditions: each theorem's own hypotheses. -/
import Derived.Test.YtlkbjdmfbadhaaaGreatDoorKLma
import Derived.Laws.BytesString
import Derived.Laws.Tables
import Derived.Laws.Append
set_option linter.unusedVariables false
set_option linter.unusedSimpArgs false
namespace Go.LM
section
variable{P:Program}{Q:Exit→Act→World→Prop}
variable{w0:World}{F0 Z0:ai}{n:cO}{s au:aq}{a cg:Act}{w w':World}{ι bp:Nat→bJ}{Z Z':ai}
def c8(w0:World)(F0 Z0:ai)(n:cO)(s:aq)(a:Act)(w:World):Prop:=∃ ι Z,Inv w0 F0 Z0 n s a w ι Z
theorem acA(v:Value):aV w Z s ι (Jv v) v:=by
 unfold Jv;split <;> simp only [aV,cw]
 exact⟨_,rfl,rfl⟩
theorem fe(h:Inv w0 F0 Z0 n s a w ι Z)(x:Operand):aV w Z s ι (b0 s x) (a.eval x):=by
 cases x with
 | tmp t=>exact h.tmps t
 | const v=>exact acA v
 | func f=>simp only [b0,Act.eval,aV];exact⟨[],[],rfl,by simp only [a8],by simp only [a8]⟩
 | global g=>simp only [b0,aV]
theorem J7{E:Env}{t:Nat}{x y:a_}{v:Value}(h:typed E t x=some y)(hv:aV w Z s ι x v):aV w Z s ι y v:=by
 cases x <;> simp only [typed] at h <;> try (obtain rfl:=aZ h;exact hv)
 ·simp at h
 ·simp at h
 ·cases ht:E.ty t with
  | none=>rw [ht] at h;simp at h
  | some T=>
   rw [ht] at h;cases T <;> simp at h
   subst h;simp only [aV] at hv ⊢;exact hv
theorem gd{α : Type}{ov:Sem α}{f : α → Next}{v : α}(h:ov.run P w=.ok v w'):(do pure (f (← ov)):Sem Next).run P w=.ok (f v) w':=by rw [run_bind,h];rfl
theorem mA{o:Oper}{v:Value}{x:a_}{s1:aq}(hr:(execOp a.eval o).run P w=.ok (.value v) w')(h:Inv w0 F0 Z0 n s1 a w' ι Z)(hv:aV w' Z s1 ι x v)
  (ah:∀k,o.dst=some k→k<n):o.wp P a w (fun cg w'=>c8 w0 F0 Z0 n (s1.dst o.dst x) cg w') Q:=by
 unfold Oper.wp;rw [hr,Oper.upon_value];exact⟨ι,Z,h.dst hv ah⟩
theorem wp_skip{o:Oper}{s1:aq}(hr:(execOp a.eval o).run P w=.ok .skip w')(h:Inv w0 F0 Z0 n s1 a w' ι Z)
  (ah:∀k,o.dst=some k→k<n):o.wp P a w (fun cg w'=>c8 w0 F0 Z0 n (s1.dst o.dst .ay) cg w') Q:=by
 unfold Oper.wp;rw [hr,Oper.upon_skip];exact⟨ι,Z,h.dst (by simp only [aV]) ah⟩
def Pure(P:Program)(o:Oper)(a:Act)(w:World)(R:Act→World→Prop):Prop:=∃v,(∀w',(execOp a.eval o).run P w'=.ok (.value v) w')∧R (a.put o.dst v) w
theorem Pure.wp{o:Oper}{R:Act→World→Prop}(h:Pure P o a w R):o.wp P a w R Q:=by obtain ⟨v,h1,h2⟩:=h;unfold Oper.wp;rw [h1 w,Oper.upon_value];exact h2
theorem dI{o:Oper}{v:Value}{x:a_}{s1:aq}(hr:∀w',(execOp a.eval o).run P w'=.ok (.value v) w')(h:Inv w0 F0 Z0 n s1 a w ι Z)(hv:aV w Z s1 ι x v)
  (ah:∀k,o.dst=some k→k<n):Pure P o a w (c8 w0 F0 Z0 n (s1.dst o.dst x)):=
 ⟨v,hr,ι,Z,h.dst hv ah⟩
structure hB(P:Program)(E:Env):Prop where
 ty:∀id T,E.ty id=some T→T.ok P id
 ptr:∀id,E.t' id=true→∃e,P.underlying id=some (.pointer e)
variable{E:Env}{o:Oper}{bB : Type}{K:aq→Option bB}{r : bB}{id:Nat}
theorem CL{x:Operand}(h:Inv w0 F0 Z0 n s a w ι Z)(ah:∀k,o.dst=some k→k<n)(ho:o.op=.move x∨o.op=.assign x)(hk:c3 E id o s K=some r) :
  ∃au,K au=some r∧Pure P o a w (c8 w0 F0 Z0 n au):=by
 have ew:(match typed E o.type (b0 s x) with | some v=>K (s.dst o.dst v) | none=>none)=some r:=by rcases ho with ho | ho <;>(unfold c3 at hk;rw [ho] at hk;exact hk)
 cases ht:typed E o.type (b0 s x) with
 | none=>rw [ht] at ew;simp at ew
 | some v=>rw [ht] at ew;refine⟨_,ew,dI (v:=a.eval x) (fun w'=>?_) h (J7 ht (fe h x)) ah⟩;rcases ho with ho | ho <;>(unfold execOp;rw [ho];rfl)
theorem R7{c x y:Operand}(h:Inv w0 F0 Z0 n s a w ι Z)(ah:∀k,o.dst=some k→k<n)(ho:o.op=.pick c x y)(hk:c3 E id o s K=some r) :
  ∃au,K au=some r∧Pure P o a w (c8 w0 F0 Z0 n au):=by
 unfold c3 at hk;rw [ho] at hk;simp only at hk;have hc:=fe h c;have hx:=fe h x;have aT:=fe h y;have hrun:∀t,a.eval c=.bool t→∀w',(execOp a.eval o).run P w'=.ok (.value (if t then a.eval x else a.eval y)) w':=by intro t ht w';unfold execOp;rw [ho];simp only [run_bind,asBool,ht,run_pure]
 cases hcv:b0 s c with
 | aW kh=>
  rw [hcv] at hk hc
  cases kh with
  | bool t=>
   simp only [aV,cw] at hc;have hr:=hrun t hc
   cases t with
   | true=>
    cases cS:typed E o.type (b0 s x) with
    | none=>rw [cS] at hk;cases gG:typed E o.type (b0 s y) <;> rw [gG] at hk <;> simp at hk
    | some v=>
     rw [cS] at hk;have:K (s.dst o.dst v)=some r:=by cases gG:typed E o.type (b0 s y) <;> rw [gG] at hk <;> exact hk
     exact⟨_,this,dI hr h (J7 cS hx) ah⟩
   | false=>
    cases gG:typed E o.type (b0 s y) with
    | none=>rw [gG] at hk;cases cS:typed E o.type (b0 s x) <;> rw [cS] at hk <;> simp at hk
    | some v=>
     rw [gG] at hk;have:K (s.dst o.dst v)=some r:=by cases cS:typed E o.type (b0 s x) <;> rw [cS] at hk <;> exact hk
     exact⟨_,this,dI hr h (J7 gG aT) ah⟩
  | _=>simp at hk
 | _=>rw [hcv] at hk;simp at hk
theorem qI{i:Nat}{eK:cE}(h:mkObj s i eK=some au):s.o i=.none∧au=s.bV i eK:=by
 unfold mkObj at h;cases ho:s.o i <;> rw [ho] at h <;> simp at h
 exact⟨rfl,h.symm⟩
theorem acB{t:Nat}(b3:hB P E)(h:Inv w0 F0 Z0 n s a w ι Z)(ah:∀k,o.dst=some k→k<n)(ho:o.op=.alloc t)(hk:c3 E id o s K=some r) :
  ∃au,K au=some r∧o.wp P a w (c8 w0 F0 Z0 n au) Q:=by
 unfold c3 at hk;rw [ho] at hk;simp only at hk
 cases ht:E.ty t with
 | none=>rw [ht] at hk;simp at hk
 | some T=>
  rw [ht] at hk;simp only at hk
  cases hm:mkObj s id (.var 0 T.jE) with
  | none=>rw [hm] at hk;simp at hk
  | some s1=>
   rw [hm] at hk;obtain ⟨cf,rfl⟩:=qI hm;have cK:=b3.ty t T ht;have hz:bN w Z s ι T.jE (dQ T T.cW).cells.toList:=by rw [J6 (ae.l0 T) ((sh (w:=w) (Z:=Z) (s:=s) (ι := ι) T).ek)];exact sh T
   have hn:=h.newVar cf hz t;refine⟨_,hk,mA (v:=.pointer (some (at_ w.heap.size 0))) (w':= { w with heap:=w.heap.push (.cells (dQ T T.cW).cells t) }) ?_ hn ?_ ah⟩
   ·unfold execOp;rw [ho];refine gd ?_;simp only [Instr.alloc,run_bind,CK cK,R6,run_pure]
   ·simp only [aV];refine⟨by show bZ s.o id _ id≠_;rw [cN];simp,_,rfl,rfl,?_⟩;show match (bZ s.o id _ id).core with | .var _ _=>_ | .row .. => _ | _=>_
    rw [cN];exact⟨rfl,_,by rw [cN],by simp [at_]⟩
theorem acC{t:Nat}{x:Operand}(b3:hB P E)(h:Inv w0 F0 Z0 n s a w ι Z)(ah:∀k,o.dst=some k→k<n)(ho:o.op=.box t x)(hk:c3 E id o s K=some r) :
  ∃au,K au=some r∧o.wp P a w (c8 w0 F0 Z0 n au) Q:=by
 unfold c3 at hk;rw [ho] at hk;simp only at hk
 cases ht:E.ty t with
 | none=>rw [ht] at hk;simp at hk
 | some T=>
  rw [ht] at hk;simp only at hk
  cases hc:ja T (b0 s x) with
  | none=>rw [hc] at hk;simp at hk
  | some cs=>
   rw [hc] at hk;simp only at hk;cases hb:Nat.beq cs.length T.size
   ·rw [hb] at hk;simp at hk
   rw [hb] at hk;simp only [cond_true] at hk
   cases hm:mkObj s id (.var 0 cs) with
   | none=>rw [hm] at hk;simp at hk
   | some s1=>
    rw [hm] at hk;obtain ⟨cf,rfl⟩:=qI hm;have hn:=h.newVar cf (sg hc (fe h x)) t;refine⟨_,hk,mA (v:=.pointer (some (at_ w.heap.size 0))) (w':= { w with heap:=w.heap.push (.cells (a.eval x).cells t) }) ?_ hn ?_ ah⟩
    ·unfold execOp;rw [ho];refine gd ?_;simp only [Instr.box,run_bind,R6,run_pure]
    ·simp only [aV];refine⟨by show bZ s.o id _ id≠_;rw [cN];simp,_,rfl,rfl,?_⟩;show match (bZ s.o id _ id).core with | .var _ _=>_ | .row .. => _ | _=>_
     rw [cN];exact⟨rfl,_,by rw [cN],by simp [at_]⟩
theorem acD{t:Nat}{x:Operand}(b3:hB P E)(h:Inv w0 F0 Z0 n s a w ι Z)(ah:∀k,o.dst=some k→k<n)(ho:o.op=.load t x)(hk:c3 E id o s K=some r) :
  ∃au,K au=some r∧o.wp P a w (c8 w0 F0 Z0 n au) Q:=by
 unfold c3 at hk;rw [ho] at hk;simp only at hk;have hx:=fe h x
 have hrun:∀ {T:ae} {b i:Nat} {vs:List Value},E.ty t=some T→a.eval x=.pointer (some (at_ b i))→ca w b i vs→vs.length=T.size →
   (execOp a.eval o).run P w=.ok (.value (dQ T vs)) w:=by
  intro T b i vs ht he hc hl;unfold execOp;rw [ho];refine gd ?_;simp only [Instr.loadAt,Instr.sureAddr,he,run_bind,run_pure,J3 (b3.ty t T ht) hc hl]
 cases ht:E.ty t with
 | none=>rw [ht] at hk;simp at hk
 | some T=>
  rw [ht] at hk
  cases cS:b0 s x with
  | ptr p=>
   rw [cS] at hk hx;simp only at hk
   cases de:(mv s T.size p).bind (ke T) with
   | none=>rw [de] at hk;simp at hk
   | some v=>rw [de] at hk;obtain ⟨cs,h1,h2⟩:=bq de;simp only [aV] at hx;obtain ⟨_,A,he,av⟩:=hx;obtain ⟨b,i,vs,rfl,hc,cB,hl⟩:=zv h h1 av;exact⟨_,hk,mA (hrun ht he cB hl) h (pI h2 hc) ah⟩
  | dk dp cs off=>
   rw [cS] at hk hx;simp only at hk
   cases de:(takeN off T.size cs).bind (ke T) with
   | none=>rw [de] at hk;simp at hk
   | some v=>
    rw [de] at hk;simp only at hk;cases dB:alive s dp
    ·rw [dB] at hk;simp at hk
    rw [dB] at hk;obtain ⟨ds,h1,h2⟩:=bq de;obtain ⟨h3,rfl⟩:=pE h1;simp only [aV] at hx;obtain ⟨_,b,i,vs,he,hx⟩:=hx;obtain ⟨hc,cB,_⟩:=hx dB;have hl:=hc.len;exact⟨_,hk,mA (hrun ht he (cB.part off T.size) (by simp;omega)) h (pI h2 ((hc.drop _).take _)) ah⟩
  | _=>rw [cS] at hk;simp at hk
theorem Inv.acE(h:Inv w0 F0 Z0 n s a w ι Z){id:Nat}(cj:(s.o id).live)(hx:Ext w w' (ι id).F):Inv w0 F0 Z0 n (s.bV id .dead) a w' ι Z:=by
 have hm:eR w Z s ι w' Z (s.bV id .dead) ι := by
  refine⟨fun j=>?_,fun _ _ h=>h,cd.jg hx h.se ?_⟩
  ·show jf (s.o j) (ι j) (bZ s.o id .dead j) (ι j);by_cases hj:id=j
   ·subst hj;rw [cN];exact .dead _ _ _
   ·rw [cZ hj];exact .stay _ _
  ·rintro b o (hz | ⟨ei,gu,qE,_,hf⟩) iK
   ·exact h.dd id cj b o iK hz
   ·have hne:ei≠id:=by
     rintro rfl
     have:bZ s.o ei .dead ei=s.o ei:=qE;rw [cN] at this;rw [← this] at cj;exact cj
    exact h.apart ei id gu cj hne b o hf iK
 have sf:∀ {j},((s.bV id .dead).o j).live→id≠j∧(s.o j).live:=fun {j} hl=>by
  have hl:(bZ s.o id .dead j).live:=hl;by_cases hj:id=j
  ·subst hj;rw [cN] at hl;exact hl.elim
  ·rw [cZ hj] at hl;exact⟨hj,hl⟩
 refine h.next hm hx (fun b o hf=>(h.own id cj b o hf).1) (fun _ _ h=>.inl h) ?_ ?_ (fun k=>(h.tmps k).move hm) h.size h.defers
 ·intro j hl hne;exact absurd ⟨cZ (sf hl).1,rfl⟩ hne
 ·intro j hl;exact h.dd j (sf hl).2
theorem acF{t:Nat}{x y:Operand}(b3:hB P E)(h:Inv w0 F0 Z0 n s a w ι Z)(ah:∀k,o.dst=some k→k<n)(ho:o.op=.store t x y)(hk:c3 E id o s K=some r) :
  ∃au,K au=some r∧o.wp P a w (c8 w0 F0 Z0 n au) Q:=by
 unfold c3 at hk;rw [ho] at hk;simp only at hk;have hx:=fe h x;have aT:=fe h y
 cases ht:E.ty t with
 | none=>rw [ht] at hk;simp at hk
 | some T=>
  rw [ht] at hk
  cases cS:b0 s x with
  | ptr p=>
   rw [cS] at hk hx;simp only at hk
   cases hc:ja T (b0 s y) with
   | none=>
    rw [hc] at hk;simp only at hk;cases gG:b0 s y <;> rw [gG] at hk <;> try (simp at hk;done)
    rename_i u;cases b1:s.o p.id <;> rw [b1] at hk <;> try (simp at hk;done)
    rename_i ver old
    cases ff:p.fD with
    | some i=>rw [ff] at hk;simp at hk
    | none=>
     rw [ff] at hk;simp only at hk;cases hb:(ae.beq u T&&Nat.beq p.off 0&&Nat.ble T.size old.length)
     ·rw [hb] at hk;simp at hk
     rw [hb] at hk;simp only [cond_true] at hk;simp only [Bool.and_eq_true] at hb;obtain ⟨⟨hb1,hb2⟩,hb3⟩:=hb;have:=ae.eq_of_beq _ _ hb1;subst this;have hb2:=Nat.eq_of_beq_eq_true hb2;have hb3:=Nat.le_of_ble_eq_true hb3;rw [gG] at aT;simp only [aV] at hx aT;obtain ⟨_,A,he,av⟩:=hx;obtain ⟨um,hw1⟩:=aT;have cj:(s.o p.id).live:=by rw [b1];trivial
     have da:=h.f_ p.id;rw [b1] at da;obtain ⟨a0,us,dP,hsp,hcu,cB,hwr⟩:=da;obtain ⟨hs,av⟩:=av;rw [b1] at av;obtain ⟨_,a1,R8,hA⟩:=av;rw [dP] at R8;obtain rfl:=aZ R8;rw [hb2] at hA;subst hA;have hx2:Ext w (setCells w a0.block (a0.off+0) (a.eval y).cells.toList) (ι p.id).F:=oi _ _ _ _ fun i hi=>by have:=(hwr i (by rw [um] at hi;omega)).2;simpa using this
     refine⟨_,hk,wp_skip (w':=setCells w a0.block (a0.off+0) (a.eval y).cells.toList) ?_ (h.acE cj hx2) ah⟩;unfold execOp;rw [ho];have:=J5 (P:=P) (w:=w) (b3.ty t _ ht) (b:=a0.block) (o:=a0.off+0) (v:=a.eval y) (by rw [← Array.length_toList,um]) hw1 (fun j hj=>by have:=(hwr j (by rw [← Array.length_toList,um] at hj;omega)).1;simpa using this);simp only [Instr.storeAt,Instr.sureAddr,he,run_bind,run_pure,this]
   | some cs=>
    rw [hc] at hk;simp only at hk;cases hb:Nat.beq cs.length T.size
    ·rw [hb] at hk;simp at hk
    rw [hb] at hk;simp only [cond_true] at hk
    cases mB:CA s p cs with
    | none=>rw [mB] at hk;simp at hk
    | some s1=>rw [mB] at hk;have hb:=Nat.eq_of_beq_eq_true hb;have pJ:=sg hc aT;simp only [aV] at hx;obtain ⟨_,A,he,av⟩:=hx;obtain ⟨b,i,rfl,hw,bp,Z',hi⟩:=acu h mB av pJ;have hl:=pJ.len;refine⟨_,hk,wp_skip (w':=setCells w b i (a.eval y).cells.toList) ?_ hi ah⟩;unfold execOp;rw [ho];have:=J5 (P:=P) (w:=w) (b3.ty t T ht) (b:=b) (o:=i) (v:=a.eval y) (by simp at hl;omega) pJ.ek (fun j hj=>hw j (by simpa using hj));simp only [Instr.storeAt,Instr.sureAddr,he,run_bind,run_pure,this]
  | _=>rw [cS] at hk;simp at hk
end
end Go.LM
namespace Go.LM
section
variable{P:Program}{Q:Exit→Act→World→Prop}
variable{w0:World}{F0 Z0:ai}{n:cO}{s au:aq}{a cg:Act}{w w':World}{ι bp:Nat→bJ}{Z Z':ai}
variable{E:Env}{o:Oper}{bB : Type}{K:aq→Option bB}{r : bB}{id:Nat}
theorem zw{m:Nat}{i:Int}{k:Nat}(h:aM m i=some k):0≤i∧i<(m:Int)∧k=i.toNat∧k<m:=by
 unfold aM at h;split at h
 ·rename_i hc;have:=aZ h;exact⟨hc.1,hc.2,this.symm,by omega⟩
 ·simp at h
theorem acG{m:Nat}{lo hi:Int}{q:Nat×Nat}(h:eh m lo hi=some q):0≤lo∧lo≤hi∧hi≤(m:Int)∧q=(lo.toNat,hi.toNat):=by
 unfold eh at h;split at h
 ·rename_i hc;exact⟨hc.1,hc.2.1,hc.2.2,(aZ h).symm⟩
 ·simp at h
theorem si{x:a_}{i:Int}{v:Value}(h:kH x=some i)(hv:aV w Z s ι x v):∃k,v=.int k i:=by
 cases x with
 | aW c=>
  cases c <;> simp [kH] at h
  subst h;simp only [aV,cw] at hv;exact⟨_,hv⟩
 | _=>simp [kH] at h
theorem R9{x:Operand}(h:Inv w0 F0 Z0 n s a w ι Z)(ah:∀k,o.dst=some k→k<n)(ho:o.op=.nilCheck x)(hk:c3 E id o s K=some r) :
  ∃au,K au=some r∧Pure P o a w (c8 w0 F0 Z0 n au):=by
 unfold c3 at hk;rw [ho] at hk;simp only at hk;have hx:=fe h x
 cases cS:b0 s x with
 | ptr p=>rw [cS] at hk hx;refine⟨_,hk,dI (v:=a.eval x) (fun w'=>?_) h hx ah⟩;simp only [aV] at hx;obtain ⟨_,A,he,_⟩:=hx;unfold execOp;rw [ho];simp only [he];rfl
 | dk dp cs off=>rw [cS] at hk hx;refine⟨_,hk,dI (v:=a.eval x) (fun w'=>?_) h hx ah⟩;simp only [aV] at hx;obtain ⟨_,b,i,vs,he,_⟩:=hx;unfold execOp;rw [ho];simp only [he];rfl
 | may b dp cs=>
  rw [cS] at hk hx;cases b
  ·cases hk
  refine⟨_,hk,dI (v:=a.eval x) (fun w'=>?_) h ?_ ah⟩
  ·simp only [aV] at hx;rcases hx with⟨hx,_⟩ | ⟨_,_,b,i,vs,he,_⟩
   ·cases hx
   unfold execOp;rw [ho];simp only [he];rfl
  ·simp only [aV] at hx ⊢;rcases hx with⟨hx,_⟩ | ⟨_,hx⟩
   ·cases hx
   ·exact hx
 | fn f l m=>rw [cS] at hk hx;refine⟨_,hk,dI (v:=a.eval x) (fun w'=>?_) h hx ah⟩;simp only [aV] at hx;obtain ⟨us,vs,he,_⟩:=hx;unfold execOp;rw [ho];simp only [he];rfl
 | opt i q=>
  rw [cS] at hk hx;simp only at hk;obtain ⟨k,h1,hk⟩:=bq hk;obtain ⟨h2,h3,rfl,h4⟩:=zw h1;simp only [aV] at hx;obtain ⟨ki,hx⟩:=hx;rcases hx with⟨hx,_⟩ | ⟨_,A,he,av⟩
  ·omega
  refine⟨_,hk,dI (v:=a.eval x) (fun w'=>?_) h ?_ ah⟩
  ·unfold execOp;rw [ho];simp only [he];rfl
  ·simp only [aV];exact⟨ki,A,he,av⟩
 | _=>rw [cS] at hk;simp at hk
theorem aC.CM{P:Program} : ∀ {ak:aC} {cG:List Field} {base i k:Nat} {u:ae},ak.okF P cG base→ak.off i=some (k,u) →
  ∃f,cG[i]?=some f∧f.offset=base+k∧u.ok P f.type
 | .nil,_,_,_,_,_,_,h=>by simp [aC.off] at h
 | .cons t ak,cG,base,0,k,u,ho,h=>by simp only [aC.okF] at ho;obtain ⟨f,lZ,rfl,h1,h2,h3⟩:=ho;simp only [aC.off,Option.some.injEq,Prod.mk.injEq] at h;obtain ⟨rfl,rfl⟩:=h;exact⟨f,rfl,by simpa using h1,h2⟩
 | .cons t ak,cG,base,i+1,k,u,ho,h=>by simp only [aC.okF] at ho;obtain ⟨f,lZ,rfl,h1,h2,h3⟩:=ho;simp only [aC.off] at h;obtain ⟨q,h4,a'⟩:=bq h;simp only [Option.some.injEq,Prod.mk.injEq] at a';obtain ⟨rfl,rfl⟩:=a';obtain ⟨nr,k1,k2,k3⟩:=aC.CM h3 h4;exact⟨nr,by simpa using k1,by omega,k3⟩
theorem J8{ak:aC}{id:TypeId}(h:(ae.st ak).ok P id):∃cG,P.underlying id=some (.struct cG)∧ak.okF P cG.toList 0:=by simp only [ae.ok] at h;exact h.2
theorem l1{t:ae}{id:TypeId}(h:(ae.sl t).ok P id):∃e,P.underlying id=some (.slice e)∧t.ok P e:=by simp only [ae.ok] at h;exact h.2
theorem R_{f:Field}{u:ae}{b i:Nat}(hu:u.ok P f.type)(hz:u.size≠0):(fieldPlace (at_ b i) f).run P w=.ok (at_ b (i+f.offset)) w:=by unfold fieldPlace;rw [run_bind,run_sizeOf hu];simp only;rw [if_neg hz,run_pure,qC]
theorem R'{t:Nat}{x:Operand}{i:Nat}(b3:hB P E)(h:Inv w0 F0 Z0 n s a w ι Z)(ah:∀k,o.dst=some k→k<n)(ho:o.op=.fieldAddr t x i)(hk:c3 E id o s K=some r) :
  ∃au,K au=some r∧Pure P o a w (c8 w0 F0 Z0 n au):=by
 unfold c3 at hk;rw [ho] at hk;simp only at hk;have hx:=fe h x
 cases ht:E.ty t with
 | none=>rw [ht] at hk;simp at hk
 | some T=>
  rw [ht] at hk
  cases T with
  | st ak=>
   obtain ⟨cG,hu,ll⟩:=J8 (b3.ty t _ ht)
   have hrun:∀ {k:Nat} {u:ae} {b j:Nat},ak.off i=some (k,u)→u.size≠0→a.eval x=.pointer (some (at_ b j))→∀ {w':World},
     (execOp a.eval o).run P w'=.ok (.value (.pointer (some (at_ b (j+k))))) w':=by
    intro k u b j fK hz he w';obtain ⟨f,h1,h2,h3⟩:=aC.CM ll fK;rw [Array.getElem?_toList] at h1;unfold execOp;rw [ho];refine gd ?_;simp only [Instr.fieldAt,run_bind,run_underlying hu,h1,Instr.sureAddr,he,run_pure,R_ h3 hz,h2,Nat.zero_add]
   cases cS:b0 s x with
   | ptr p=>
    rw [cS] at hk hx;simp only at hk
    cases fK:ak.off i with
    | none=>rw [fK] at hk;simp at hk
    | some q=>
     obtain ⟨k,u⟩:=q;rw [fK] at hk;simp only at hk;cases ox:Nat.beq u.size 0
     case true=>rw [ox] at hk;simp at hk
     rw [ox] at hk;simp only [aV] at hx;obtain ⟨ki,A,he,av⟩:=hx;obtain ⟨b,j,sp⟩:=A;obtain ⟨hsp,av⟩:=av;simp only at hsp;subst hsp;refine⟨_,hk,dI (fun w'=>hrun fK (fun e=>by rw [e] at ox;simp at ox) he) h ?_ ah⟩;simp only [aV];refine⟨ki,_,rfl,rfl,?_⟩
     cases b1:(s.o p.id).core with
     | var ver cs=>rw [b1] at av;obtain ⟨h1,a0,h2,h3⟩:=av;simp only [at_,Addr.mk.injEq] at h3;exact⟨h1,a0,h2,by simp [at_,h3.1,h3.2.1];omega⟩
     | row cq em ver xs=>rw [b1] at av;obtain ⟨q,h1,h2,a0,h3,h4⟩:=av;simp only [at_,Addr.mk.injEq] at h4;exact⟨q,h1,h2,a0,h3,by simp [at_,h4.1,h4.2.1];omega⟩
     | _=>trivial
   | dk dp cs off=>
    rw [cS] at hk hx;simp only at hk
    cases fK:ak.off i with
    | none=>rw [fK] at hk;simp at hk
    | some q=>
     obtain ⟨k,u⟩:=q;rw [fK] at hk;simp only at hk;cases ox:Nat.beq u.size 0
     case true=>rw [ox] at hk;simp at hk
     rw [ox] at hk;simp only [aV] at hx;obtain ⟨nv,b,j,vs,he,hx⟩:=hx;refine⟨_,hk,dI (fun w'=>hrun fK (fun e=>by rw [e] at ox;simp at ox) he) h ?_ ah⟩;simp only [aV];exact⟨nv,b,j,vs,by rw [Nat.add_assoc],hx⟩
   | _=>rw [cS] at hk;simp at hk
  | _=>simp at hk
theorem J9{u:ae}{id:TypeId}{cs:List Value}{k:Nat}(hu:u.ok P id)(hk:k+u.size≤cs.length):(Go.part id cs.toArray k).run P w=.ok (dQ u ((cs.drop k).take u.size)) w:=by
 unfold Go.part;rw [run_bind,R5 hu];simp only;cases ha:u.agg
 ·have h1:=J0 ha;simp only [Bool.false_eq_true,if_false];rw [h1] at hk ⊢;have b2:k<cs.length:=by omega
  have:(cs.drop k).take 1=[cs[k]]:=by rw [List.drop_eq_getElem_cons b2,List.take_succ_cons,List.take_zero]
  rw [this,J2 ha];simp [b2,run_pure]
 ·simp only [if_true];rw [run_bind,run_sizeOf hu,J1 ha];simp only [run_pure];congr 2;apply Array.ext';simp [List.take_drop,Nat.add_comm]
theorem Sa{t:Nat}{x:Operand}{i:Nat}(b3:hB P E)(h:Inv w0 F0 Z0 n s a w ι Z)(ah:∀k,o.dst=some k→k<n)(ho:o.op=.field t x i)(hk:c3 E id o s K=some r) :
  ∃au,K au=some r∧Pure P o a w (c8 w0 F0 Z0 n au):=by
 unfold c3 at hk;rw [ho] at hk;simp only at hk;have hx:=fe h x
 cases ht:E.ty t with
 | none=>rw [ht] at hk;simp at hk
 | some T=>
  rw [ht] at hk
  cases T with
  | st ak=>
   obtain ⟨cG,hu,ll⟩:=J8 (b3.ty t _ ht)
   cases cS:b0 s x with
   | iD cs=>
    rw [cS] at hk hx;simp only at hk
    cases fK:ak.off i with
    | none=>rw [fK] at hk;simp at hk
    | some q=>
     obtain ⟨k,u⟩:=q;rw [fK] at hk;simp only at hk
     cases hw:(takeN k u.size cs).bind (ke u) with
     | none=>rw [hw] at hk;simp at hk
     | some v=>rw [hw] at hk;obtain ⟨ds,h1,h2⟩:=bq hw;obtain ⟨h3,rfl⟩:=pE h1;simp only [aV] at hx;obtain ⟨vs,he,hc⟩:=hx;obtain ⟨f,f1,f2,f3⟩:=aC.CM ll fK;rw [Array.getElem?_toList] at f1;have hl:=hc.len;refine⟨_,hk,dI (fun w'=>?_) h (pI h2 ((hc.drop k).take u.size)) ah⟩;unfold execOp;rw [ho];refine gd ?_;simp only [Instr.field,run_bind,run_underlying hu,f1,he,asAgg,run_pure];have:=J9 (P:=P) (w:=w') f3 (cs:=vs) (k:=k) (by omega);rw [f2,Nat.zero_add];exact this
   | _=>rw [cS] at hk;simp at hk
  | _=>simp at hk
theorem Sb{x:Operand}{i:Nat}(h:Inv w0 F0 Z0 n s a w ι Z)(ah:∀k,o.dst=some k→k<n)(ho:o.op=.extract x i)(hk:c3 E id o s K=some r) :
  ∃au,K au=some r∧Pure P o a w (c8 w0 F0 Z0 n au):=by
 unfold c3 at hk;rw [ho] at hk;simp only at hk;have hx:=fe h x
 cases cS:b0 s x with
 | px l=>
  rw [cS] at hk hx;simp only at hk
  cases hi:l[i]? with
  | none=>rw [hi] at hk;simp at hk
  | some v=>
   rw [hi] at hk;simp only [aV] at hx;obtain ⟨vs,he,hl⟩:=hx
   have:∀(l:List a_) (vs:List Value) (i:Nat),a8 w Z s ι l vs→l[i]?=some v→∃u,vs[i]?=some u∧aV w Z s ι v u:=by
    intro l
    induction l with
    | nil=>intro vs i _ hi;simp at hi
    | cons y l ih=>
     intro vs i hl hi;simp only [a8] at hl;obtain ⟨u,us,rfl,h1,h2⟩:=hl
     cases i with
     | zero=>simp at hi;subst hi;exact⟨u,rfl,h1⟩
     | succ i=>exact ih us i h2 (by simpa using hi)
   obtain ⟨u,h1,h2⟩:=this l vs i hl hi;refine⟨_,hk,dI (v:=u) (fun w'=>?_) h h2 ah⟩;unfold execOp;rw [ho];refine gd ?_;simp only [Instr.extract,he];simp [h1,run_pure]
 | _=>rw [cS] at hk;simp at hk
theorem J_(h:Inv w0 F0 Z0 n s a w ι Z):∀(l:List Operand),a8 w Z s ι (l.map (b0 s)) (l.map a.eval)
 | []=>by simp only [List.map_nil,a8]
 | x :: l=>by simp only [List.map_cons,a8];exact⟨_,_,rfl,fe h x,J_ h l⟩
theorem Sc{f:FuncId}{first lP:Array Operand}(h:Inv w0 F0 Z0 n s a w ι Z)(ah:∀k,o.dst=some k→k<n)(ho:o.op=.makeFunc (.func f) first lP)(hk:c3 E id o s K=some r) :
  ∃au,K au=some r∧Pure P o a w (c8 w0 F0 Z0 n au):=by
 unfold c3 at hk;rw [ho] at hk;simp only at hk;refine⟨_,hk,dI (v:=.func (.func f) (first.map a.eval) (lP.map a.eval)) (fun w'=>?_) h ?_ ah⟩
 ·unfold execOp;rw [ho];rfl
 ·simp only [aV];refine⟨first.toList.map a.eval,lP.toList.map a.eval,?_,J_ h _,J_ h _⟩;congr 1 <;>(apply Array.ext';simp)
end
end Go.LM
namespace Go.LM
section
variable{P:Program}{Q:Exit→Act→World→Prop}
variable{w0:World}{F0 Z0:ai}{n:cO}{s au:aq}{a cg:Act}{w w':World}{ι bp:Nat→bJ}{Z Z':ai}
variable{E:Env}{o:Oper}{bB : Type}{K:aq→Option bB}{r : bB}{id:Nat}
theorem J'{k:IntKind}{i:Int} :(asIntOf (.int k i)).run P w=.ok (k,i) w:=rfl
theorem Ka{t:TypeId}{u:ae}{e:TypeId}{A:Addr}{b o len c:Nat}{k:IntKind}{i:Int}(hu:P.underlying t=some (.slice e))(he:u.ok P e)
  (h0:0≤i) (h1:i<(len:Int)):(Instr.indexAt t (.slice (some (at_ b o)) len c) (.int k i)).run P w=.ok (.pointer (some (at_ b (o+i.toNat*u.size)))) w:=by
 unfold Instr.indexAt;simp only [run_bind,J',run_underlying hu,run_pure];rw [if_pos ⟨h0,h1⟩];simp only [run_bind,run_sizeOf he,run_pure,qC]
theorem beq_eq{u v:ae}(h:ae.beq u v=true):u=v:=ae.eq_of_beq _ _ h
theorem Sd{t:Nat}{x i:Operand}(b3:hB P E)(h:Inv w0 F0 Z0 n s a w ι Z)(ah:∀k,o.dst=some k→k<n)(ho:o.op=.indexAddr t x i)(hk:c3 E id o s K=some r) :
  ∃au,K au=some r∧Pure P o a w (c8 w0 F0 Z0 n au):=by
 unfold c3 at hk;rw [ho] at hk;simp only at hk;have hx:=fe h x;have hi:=fe h i
 cases ht:E.ty t with
 | none=>rw [ht] at hk;simp at hk
 | some T=>
  cases T with
  | sl u=>
   obtain ⟨e,hu,jH⟩:=l1 (b3.ty t _ ht);rw [ht] at hk
   cases uo:kH (b0 s i) with
   | none=>rw [uo] at hk;cases b0 s x <;> simp at hk
   | some q=>
    rw [uo] at hk;obtain ⟨dn,xe⟩:=si uo hi
    cases cS:b0 s x with
    | aW c=>
     rw [cS] at hk hx;simp only [aV] at hx
     cases c with
     | ah j sub=>
      simp only at hk;obtain ⟨ki,A,m,c,jh,hh⟩:=hx
      cases b1:s.o j with
      | row v em ver xs=>
       rw [b1] at hk;simp only at hk;cases hb:ae.beq u v
       ·rw [hb] at hk;simp at hk
       rw [hb] at hk;obtain rfl:=beq_eq hb;obtain ⟨k,h1,hk⟩:=bq hk;obtain ⟨h2,h3,rfl,h4⟩:=zw h1;obtain ⟨g1,g2,g3,g4,g5⟩:=hh _ _ _ _ (lU b1)
       have hm:lQ sub xs=m:=by
        cases sub with
        | none=>simp [lQ,g1]
        | some p=>obtain ⟨lo,l⟩:=p;simp [lQ,g1]
       rw [hm] at h3 h4;rcases g5 with g5 | ⟨a0,gx,rfl⟩
       ·omega
       refine⟨_,hk,dI (v:=.pointer (some (at_ a0.block (a0.off+er sub*u.size+q.toNat*u.size)))) (fun w'=>?_) h ?_ ah⟩
       ·unfold execOp;rw [ho];refine gd ?_;simp only [jh,xe];exact Ka (A:=a0) hu jH h2 h3
       ·simp only [aV];refine⟨ki,_,rfl,rfl,?_⟩;simp only;rw [b1];exact⟨_,rfl,by omega,a0,gx,by simp [at_,Nat.add_mul];omega⟩
      | _=>rw [b1] at hk;simp at hk
     | bY v dp cJ xs=>
      simp only at hk;cases hb:(alive s dp&&ae.beq u v)
      ·rw [hb] at hk;simp at hk
      rw [hb] at hk;simp only [Bool.and_eq_true] at hb;obtain ⟨dB,hb⟩:=hb;obtain rfl:=beq_eq hb;obtain ⟨k,h1,hk⟩:=bq hk;obtain ⟨h2,h3,rfl,h4⟩:=zw h1;obtain ⟨nv,⟨A,m,c,jh⟩,cV,_⟩:=hx;have hr:=cV dB;simp only [ae.ar] at hr;obtain ⟨nx,c',hv,hr⟩:=hr;rw [jh] at hv;simp only [List.cons.injEq,Value.slice.injEq,and_true] at hv;obtain ⟨rfl,rfl,rfl⟩:=hv;rcases hr with hr | ⟨a0,rfl,hsp,hrow,hz,zx⟩
      ·rw [hr] at h4;simp at h4
      obtain ⟨vs,G,k1,k2,k3,bg⟩:=hrow.get q.toNat h4;obtain ⟨cX,dV,sp⟩:=a0;simp only at hsp;subst hsp;refine⟨_,hk,dI (v:=.pointer (some (at_ cX (dV+q.toNat*u.size)))) (fun w'=>?_) h ?_ ah⟩
      ·unfold execOp;rw [ho];refine gd ?_;simp only [jh,xe];exact Ka (A:=at_ cX dV) hu jH h2 h3
      ·simp only [aV];refine⟨nv,cX,dV+q.toNat*u.size,vs,rfl,fun _=>⟨?_,k3,fun j hj=>?_⟩⟩
       ·rw [c0 h4];exact ae.qF u dp none nv (fun _=>k1) ⟨_,_,_,k1⟩ .none
       ·have hcl:(u.cells dp none (I u xs q.toNat)).length=u.size:=by
         rw [c0 h4,← k2];exact((ae.qF (s:=s) (w:=w) (Z:=Z) (ι := ι) u dp none nv (fun _=>k1) ⟨_,_,_,k1⟩ .none).len).symm
        rw [hcl] at hj
        have:=hz (q.toNat*u.size+j) (by
         have:(q.toNat+1)*u.size≤xs.length*u.size:=Nat.mul_le_mul_right _ h4
         rw [Nat.add_one_mul] at this;omega)
        rwa [← Nat.add_assoc] at this
     | _=>simp at hk
    | _=>rw [cS] at hk;simp at hk
  | _=>rw [ht] at hk;simp at hk
theorem Se{t:Nat}{x i:Operand}(b3:hB P E)(h:Inv w0 F0 Z0 n s a w ι Z)(ah:∀k,o.dst=some k→k<n)(ho:o.op=.index t x i)(hk:c3 E id o s K=some r) :
  ∃au,K au=some r∧Pure P o a w (c8 w0 F0 Z0 n au):=by
 unfold c3 at hk;rw [ho] at hk;simp only at hk;have hx:=fe h x;have hi:=fe h i
 cases ht:E.ty t with
 | none=>rw [ht] at hk;simp at hk
 | some T=>
  cases T with
  | str=>
   have hu:P.underlying t=some .string:=by have:=b3.ty t _ ht;simp only [ae.ok] at this;exact this.1
   rw [ht] at hk
   cases uo:kH (b0 s i) with
   | none=>rw [uo] at hk;cases cS:b0 s x with
    | aW c=>rw [cS] at hk;cases c <;> simp at hk
    | _=>rw [cS] at hk;simp at hk
   | some q=>
    rw [uo] at hk;obtain ⟨dn,xe⟩:=si uo hi
    cases cS:b0 s x with
    | aW c=>
     rw [cS] at hk hx;simp only [aV] at hx
     cases c with
     | str b=>
      simp only at hk;obtain ⟨k,h1,hk⟩:=bq hk;obtain ⟨h2,h3,rfl,h4⟩:=zw h1;obtain ⟨bw,jh,rfl⟩:=hx;refine⟨_,hk,dI (v:=.int .u8 ((bw.data.toList.getD q.toNat 0).toNat:Int)) (fun w'=>?_) h (by simp only [aV,cw]) ah⟩;unfold execOp;rw [ho];refine gd ?_;have hsz:q.toNat<bw.size:=by simpa using h4
      simp only [Instr.index,jh,xe,run_bind,J',run_underlying hu,if_pos h2];have aI:bw[q.toNat]?=some bw[q.toNat]:=by simp [hsz]
      rw [aI];simp only [run_pure];congr 3;have:bw.data.toList.getD q.toNat 0=bw[q.toNat]:=by simp [List.getD_eq_getElem?_getD,hsz];rfl
      rw [this]
     | _=>simp at hk
    | _=>rw [cS] at hk;simp at hk
  | _=>rw [ht] at hk;simp at hk
end
end Go.LM
namespace Go.LM
section
variable{P:Program}{Q:Exit→Act→World→Prop}
variable{w0:World}{F0 Z0:ai}{n:cO}{s au:aq}{a cg:Act}{w w':World}{ι bp:Nat→bJ}{Z Z':ai}
variable{E:Env}{o:Oper}{bB : Type}{K:aq→Option bB}{r : bB}{id:Nat}
theorem run_sliceBound{k:IntKind}{i:Int}{y:Nat}{code:BoundsCode}(h0:0≤i)(h1:i≤(y:Int)):(Instr.sliceBound (.int k i) y code).run P w=.ok i.toNat w:=by unfold Instr.sliceBound;simp only [run_bind,J'];rw [if_pos ⟨h0,h1⟩];rfl
theorem Kb(h:Inv w0 F0 Z0 n s a w ι Z){x:Option Operand}{d i:Int}(hb:bound s x d=some i) :
  (x=none∧i=d)∨∃y k,x=some y∧a.eval y=.int k i:=by
 cases x with
 | none=>simp [bound] at hb;exact .inl ⟨rfl,hb.symm⟩
 | some y=>obtain ⟨k,hk⟩:=si (x:=b0 s y) hb (fe h y);exact .inr ⟨y,k,rfl,hk⟩
theorem Sf(h:Inv w0 F0 Z0 n s a w ι Z){acH:Bool}{len cap:Nat}{lo hi:Option Operand}{l q:Int}(hl:bound s lo 0=some l)(hq:bound s hi len=some q)
  (h0:0≤l) (h1:l≤q) (h2:q≤(len:Int)) (hc:len≤cap) :
  (Instr.sliceBounds acH len cap (lo.map a.eval) (hi.map a.eval) none).run P w'=.ok (l.toNat,q.toNat,cap) w':=by
 unfold Instr.sliceBounds;rcases Kb h hl with⟨rfl,rfl⟩ | ⟨y,k,rfl,aT⟩ <;> rcases Kb h hq with⟨rfl,rfl⟩ | ⟨mx,k',rfl,CN⟩
 ·simp only [Option.map_none,run_bind,run_pure,Int.toNat_natCast];rfl
 ·simp only [Option.map_none,Option.map_some,run_bind,run_pure,CN];rw [run_sliceBound (by omega) (by omega)];rfl
 ·simp only [Option.map_none,Option.map_some,run_bind,run_pure,aT,Int.toNat_natCast];simp only [Option.isSome_none,Bool.false_eq_true,if_false];rw [run_sliceBound h0 (by omega)]
 ·simp only [Option.map_some,run_bind,run_pure,aT,CN];rw [run_sliceBound (by omega) (by omega)];simp only [Option.isSome_none,Bool.false_eq_true,if_false];rw [run_sliceBound h0 (by omega)]
theorem acI(h:Inv w0 F0 Z0 n s a w ι Z){len cap:Nat}{lo:Option Operand}{y m:Operand}{l q:Int}{k k':IntKind}(hl:bound s lo 0=some l)(aT:a.eval y=.int k q)(hm:a.eval m=.int k' q)
  (h0:0≤l) (h1:l≤q) (h2:q≤(cap:Int)) :
  (Instr.sliceBounds true len cap (lo.map a.eval) (some (a.eval y)) (some (a.eval m))).run P w'=.ok (l.toNat,q.toNat,q.toNat) w':=by
 unfold Instr.sliceBounds;rcases Kb h hl with⟨rfl,rfl⟩ | ⟨z,aq2,rfl,hz⟩
 ·simp only [Option.map_none,run_bind,run_pure,aT,hm,if_true];rw [run_sliceBound (by omega) h2];simp only;rw [run_sliceBound (by omega) (by omega)];rfl
 ·simp only [Option.map_some,run_bind,run_pure,aT,hm,hz,if_true];rw [run_sliceBound (by omega) h2];simp only;rw [run_sliceBound (by omega) (by omega)];simp only [Option.isSome_some,if_true];rw [run_sliceBound h0 (by omega)]
theorem extract_toList(b:ByteArray)(l h:Nat):(b.extract l h).data.toList=part b.data.toList l (h-l):=by unfold part;rw [ByteArray.data_extract,Array.toList_extract,List.extract_eq_take_drop]
theorem Sg{T:ae}{c c':bd}{A:Option Addr}{m k:Nat}{l q:Nat}{fr:Nat}{u:ae}(b3:T=.sl u)(hf:lh s T c=true)(hlen:oj s c=some m)
  (ji:w1 c l (q-l)=some c') (hc:cw w Z s ι c (.slice A m k)) (h1:l≤q) (h2:q≤m) (h3:q≤fr) (h4:fr≤k) :
  cw w Z s ι c' (.slice (if fr=l then A else A.map (·.add (l*u.size))) (q-l) (fr-l)):=by
 subst b3
 cases c with
 | nil v=>
  obtain rfl:=aZ ji;have hv:Value.slice A m k=.slice none 0 0:=hc;simp only [Value.slice.injEq] at hv;obtain ⟨rfl,rfl,rfl⟩:=hv;have:l=0:=by omega
  have:fr=0:=by omega
  have:q=0:=by omega
  subst_vars
  exact rfl
 | bY v dp cJ xs=>
  obtain rfl:=aZ ji;simp only [lh] at hf;have Kc:=beq_eq hf;injection Kc with Kc
  subst Kc;obtain ⟨ah,_,hr,_⟩:=hc;refine⟨ah,⟨_,_,_,rfl⟩,fun ha=>?_,.none⟩;have:=hr ha;simp only [ae.ar] at this ⊢;obtain ⟨nx,Sh,hv,hx⟩:=this;simp only [List.cons.injEq,Value.slice.injEq,and_true] at hv;obtain ⟨rfl,rfl,rfl⟩:=hv;have gf:(part xs l (q-l)).length=q-l:=by simp only [part,List.length_take,List.length_drop];omega
  refine⟨_,_,by rw [gf],?_⟩;by_cases acJ:q-l=0
  ·left;exact List.eq_nil_of_length_eq_zero (by rw [gf,acJ])
  ·right;rcases hx with rfl | ⟨a0,rfl,hsp,hrow,hz,zx⟩
   ·simp at h2;omega
   obtain ⟨cX,dV,sp⟩:=a0;simp only at hsp;subst hsp;refine⟨at_ cX (dV+l*u.size),?_,rfl,(hrow.drop l).take _,fun j hj=>?_,by rw [gf];omega⟩
   ·rw [if_neg (by omega)];exact congrArg some (qC _ _ _)
   ·rw [gf] at hj
    have:=hz (l*u.size+j) (by
     have a':(l +(q-l))*u.size≤xs.length*u.size:=Nat.mul_le_mul_right _ (by omega)
     rw [Nat.add_mul] at a';omega)
    rwa [← Nat.add_assoc] at this
 | ah j sub=>
  obtain rfl:=aZ ji;obtain ⟨ki,nx,m',k',hv,hh⟩:=hc;simp only [Value.slice.injEq] at hv;obtain ⟨rfl,rfl,rfl⟩:=hv;refine⟨ki,_,_,_,rfl,fun t em ver xs b1=>?_⟩;obtain ⟨g1,g2,g3,g4,g5⟩:=hh t em ver xs b1
  have ht:t=u:=by
   simp only [lh] at hf
   cases w6:s.o j with
   | row=>
    rw [w6] at hf b1;simp only [cE.core,cE.row.injEq] at b1;obtain ⟨rfl,_⟩:=b1;have:=beq_eq hf;injection this with this
    exact this.symm
   | _=>rw [w6] at hf;simp at hf
  subst ht;have e1:er (some (er sub+l,q-l))=er sub+l:=rfl;refine⟨rfl,by rw [e1];omega,by omega,by rw [e1];omega,?_⟩;by_cases acK:fr=l
  ·left;omega
  ·right;rcases g5 with g5 | ⟨a0,hb,rfl⟩
   ·omega
   ·refine⟨a0,hb,?_⟩;rw [if_neg acK];simp only [Option.map_some,qC,e1,Nat.add_mul,Nat.add_assoc]
 | _=>simp [w1] at ji <;>(simp [lh] at hf <;> simp [ae.beq] at hf)
theorem Kd{T:ae}{c:bd}{v:Value}{m:Nat}{u:ae}(b3:T=.sl u)(hf:lh s T c=true)(hlen:oj s c=some m)(hc:cw w Z s ι c v) :
  ∃A k,v=.slice A m k∧m≤k:=by
 subst b3
 cases c with
 | nil x=>simp only [oj,Option.some.injEq] at hlen;subst hlen;exact⟨none,0,hc,Nat.le_refl _⟩
 | bY x dp cJ xs=>
  simp only [oj] at hlen;cases ha:alive s dp
  ·rw [ha] at hlen;simp at hlen
  rw [ha] at hlen;simp only [cond_true,Option.some.injEq] at hlen;subst hlen;have:=hc.2.2.1 ha;simp only [ae.ar] at this;obtain ⟨A,c,hv,hx⟩:=this;simp only [List.cons.injEq,and_true] at hv;refine⟨A,c,hv,?_⟩;rcases hx with rfl | ⟨_,_,_,_,_,zx⟩
  ·simp
  ·exact zx
 | ah j sub=>
  simp only [oj] at hlen
  cases ho:s.o j with
  | row t em ver xs=>
   rw [ho] at hlen;simp only [Option.some.injEq] at hlen;obtain ⟨_,A,m',k,rfl,hh⟩:=hc;obtain ⟨g1,g2,g3,g4,g5⟩:=hh _ _ _ _ (lU ho)
   have:m'=m:=by
    rw [← hlen,g1]
    cases sub with
    | none=>rfl
    | some p=>rfl
   subst this;exact⟨A,k,rfl,g3⟩
  | _=>rw [ho] at hlen;simp at hlen
 | _=>simp [lh,ae.beq] at hf
theorem Si{t:Nat}{x:Operand}{lo hi fr:Option Operand}(b3:hB P E)(h:Inv w0 F0 Z0 n s a w ι Z)(ah:∀k,o.dst=some k→k<n)(ho:o.op=.slice t x lo hi fr)(hk:c3 E id o s K=some r) :
  ∃au,K au=some r∧Pure P o a w (c8 w0 F0 Z0 n au):=by
 unfold c3 at hk;rw [ho] at hk;simp only at hk;have hx:=fe h x
 cases ht:E.ty t with
 | none=>rw [ht] at hk;simp at hk
 | some T=>
  rw [ht] at hk;simp only [RK] at hk
  cases cS:b0 s x with
  | aW c=>
   rw [cS] at hk hx;simp only at hk;simp only [aV] at hx;cases hf:lh s T c
   ·rw [hf] at hk;simp at hk
   rw [hf] at hk;simp only [cond_true] at hk
   cases hlen:oj s c with
   | none=>rw [hlen] at hk;simp at hk
   | some m=>
    rw [hlen] at hk;simp only at hk
    cases hl:bound s lo 0 with
    | none=>rw [hl] at hk;simp at hk
    | some l=>
     cases hq:bound s hi (m:Int) with
     | none=>rw [hl,hq] at hk;simp at hk
     | some q=>
      rw [hl,hq] at hk;simp only at hk
      have main:(eh m l q).bind (fun r=>match w1 c r.1 (r.2-r.1) with | some c'=>K (s.dst o.dst (.aW c')) | none=>none)=some r →
        ∃c',K (s.dst o.dst (.aW c'))=some r∧0≤l∧l≤q∧q≤(m:Int)∧w1 c l.toNat (q.toNat-l.toNat)=some c':=by
       intro hk;obtain ⟨p,h1,hk⟩:=bq hk;obtain ⟨h2,h3,h4,rfl⟩:=acG h1
       cases ji:w1 c l.toNat (q.toNat-l.toNat) with
       | none=>simp only [ji] at hk;simp at hk
       | some c'=>simp only [ji] at hk;exact⟨c',hk,h2,h3,h4,rfl⟩
      cases fr with
      | none=>
       obtain ⟨c',hk,h2,h3,h4,ji⟩:=main hk;refine⟨_,hk,?_⟩;by_cases xf:T=.str
       ·subst xf;have hu:P.underlying t=some .string:=by have:=b3.ty t _ ht;simp only [ae.ok] at this;exact this.1
        cases c <;> simp only [lh,ae.beq] at hf <;> try (simp at hf;done)
        ·rename_i b;obtain ⟨bw,jh,rfl⟩:=hx;simp only [oj,Option.some.injEq] at hlen;obtain rfl:=aZ ji;refine dI (v:=.string (bw.extract l.toNat q.toNat)) (fun w'=>?_) h ?_ ah
         ·unfold execOp;rw [ho];refine gd ?_;have hsz:bw.size=m:=by rw [← hlen];simp
          simp only [Instr.sliceAt,Instr.slice,run_bind,run_underlying hu,jh,Option.map_none];simp only [Option.isSome_none,Bool.false_eq_true,if_false];rw [hsz,run_bind,Sf h hl hq h2 h3 h4 (Nat.le_refl _)];rfl
         ·simp only [aV];exact⟨_,rfl,extract_toList _ _ _⟩
        ·cases kj:s.o _ <;> rw [kj] at hf <;> simp [ae.beq] at hf
       ·cases T with
        | str=>exact absurd rfl xf
        | sl u=>
         obtain ⟨e,hu,jH⟩:=l1 (b3.ty t _ ht);have hv:=Kd rfl hf hlen hx;obtain ⟨A,k,jh,ny⟩:=hv;rw [jh] at hx;refine dI (fun w'=>?_) h (x:=.aW c') (v:=.slice (if k=l.toNat then A else A.map (·.add (l.toNat*u.size))) (q.toNat-l.toNat) (k-l.toNat)) ?_ ah
         ·unfold execOp;rw [ho];refine gd ?_;simp only [Instr.sliceAt,Instr.slice,run_bind,run_underlying hu,jh,Option.map_none];rw [Sf h hl hq h2 h3 h4 ny];simp only [run_bind,run_sizeOf jH,run_pure]
         ·simp only [aV];exact Sg rfl hf hlen ji hx (by omega) (by omega) (by omega) (Nat.le_refl _)
        | _=>cases c <;> simp only [lh,ae.beq] at hf <;> first | (simp at hf;done) | (cases kj:s.o _ <;> rw [kj] at hf <;> simp [ae.beq] at hf)
      | some Sj=>
       simp only at hk;cases xf:ae.beq T .str
       case true=>rw [xf] at hk;simp at hk
       rw [xf] at hk;simp only [cond_false] at hk
       cases mC:kH (b0 s Sj) with
       | none=>rw [mC] at hk;simp at hk
       | some acL=>
        rw [mC] at hk;simp only at hk
        cases hi with
        | none=>simp at hk
        | some y=>
         simp only [Option.isSome_some,cond_true,jZ] at hk;cases zy:decide (q=acL)
         ·rw [zy] at hk;simp at hk
         rw [zy] at hk;have zy:=of_decide_eq_true zy;subst zy;obtain ⟨c',hk,h2,h3,h4,ji⟩:=main hk;obtain ⟨k1,aT⟩:=si hq (fe h y);obtain ⟨k2,xg⟩:=si mC (fe h Sj);refine⟨_,hk,?_⟩
         cases T with
         | str=>simp [ae.beq] at xf
         | sl u=>
          obtain ⟨e,hu,jH⟩:=l1 (b3.ty t _ ht);obtain ⟨A,k,jh,ny⟩:=Kd rfl hf hlen hx;rw [jh] at hx;refine dI (fun w'=>?_) h (x:=.aW c') (v:=.slice (if q.toNat=l.toNat then A else A.map (·.add (l.toNat*u.size))) (q.toNat-l.toNat) (q.toNat-l.toNat)) ?_ ah
          ·unfold execOp;rw [ho];refine gd ?_;simp only [Instr.sliceAt,Instr.slice,run_bind,run_underlying hu,jh,Option.map_some];rw [acI h hl aT xg h2 h3 (by omega)];simp only [run_bind,run_sizeOf jH,run_pure]
          ·simp only [aV];exact Sg rfl hf hlen ji hx (by omega) (by omega) (by omega) (by omega)
         | _=>cases c <;> simp only [lh,ae.beq] at hf <;> first | (simp at hf;done) | (cases kj:s.o _ <;> rw [kj] at hf <;> simp [ae.beq] at hf)
  | _=>rw [cS] at hk;simp at hk
end
end Go.LM
namespace Go.LM
section
variable{P:Program}{Q:Exit→Act→World→Prop}
variable{w0:World}{F0 Z0:ai}{n:cO}{s au:aq}{a cg:Act}{w w':World}{ι bp:Nat→bJ}{Z Z':ai}
variable{E:Env}{o:Oper}{bB : Type}{K:aq→Option bB}{r : bB}{id:Nat}
theorem CO{k k':IntKind}(h:Nat.beq (dz k) (dz k')=true):k=k':=t_ (Nat.eq_of_beq_eq_true h)
theorem sj{α : Type}{b:Bool}{x:Option α}{y : α}(h:jZ b x=some y):b=true∧x=some y:=by
 cases b
 ·simp [jZ] at h
 ·exact⟨rfl,h⟩
theorem toList_data(z:ByteArray):z.toList=z.data.toList:=by
 unfold ByteArray.toList
 have key:∀(m i:Nat) (r:List UInt8),z.size-i=m→i≤z.size→ByteArray.toList.loop z i r=r.reverse++z.data.toList.drop i:=by
  intro m
  induction m with
  | zero=>intro i r h hi;unfold ByteArray.toList.loop;rw [if_neg (by omega),List.drop_of_length_le (by simp;show z.data.size≤i;have:z.data.size=z.size:=rfl;omega)];simp
  | succ m ih=>
   intro i r h hi;unfold ByteArray.toList.loop;rw [if_pos (by omega),ih (i+1) _ (by omega) (by omega)];have b2:i<z.data.toList.length:=by simp;show i<z.data.size;have:z.data.size=z.size:=rfl;omega
   rw [List.drop_eq_getElem_cons b2]
   have aI:z.get! i=z.data.toList[i]:=by
    simp [ByteArray.get!];have:i<z.data.size:=by simpa using b2
    exact getElem!_pos z.data i this
   rw [aI];simp
 have:=key z.size 0 [] rfl (by omega);simpa using this
theorem Sk(x y:ByteArray):(x.toList==y.toList)=bD x.data.toList y.data.toList:=by rw [toList_data,toList_data,Bool.eq_iff_iff];simp [bD]
theorem Sl{x:Option a_}{K:a_→Option bB}(h:lift x K=some r):∃v,x=some v∧K v=some r:=by
 cases x with
 | none=>simp [lift] at h
 | some v=>exact⟨v,rfl,h⟩
theorem acM{op:BinOp}{k:IntKind}{x y:Int}{v:a_}{ty yty:TypeId}{xo yo:Operand}(h:CB op k x y=some v)(h1:op≠.shl)(h2:op≠.shr)(h3:op≠.quo)(h4:op≠.rem) :
  ∃u,(∀w:World,(binOp op ty (.int k x) (.int k y)).run P w=.ok u w)∧∀w Z s ι,aV w Z s ι v u:=by
 cases op <;> simp only [CB] at h <;> first | (simp at h;done) | (obtain rfl:=aZ h)
 all_goals
  refine⟨_,fun w=>by simp only [binOp];rw [if_neg (by simp)];rfl,fun w Z s ι => ?_⟩;simp only [aV,cw]
  try rfl
theorem xh{op:BinOp}{ty:TypeId}{xo yo:Operand}{u v:Value}(h1:(∃k x,u=.int k x)∨(∃x,u=.string x)∨(∃x,u=.bool x)∨(∃x,u=.pointer x)) :
  (eqGuard op ty xo yo u v).run P w=.ok () w:=by
 unfold eqGuard;rcases h1 with⟨k,x,rfl⟩ | ⟨x,rfl⟩ | ⟨x,rfl⟩ | ⟨x,rfl⟩ <;>(cases op <;> rfl)
theorem jI{op:BinOp}{ty yty:TypeId}{xo yo:Operand}{u:Value}(ho:o.op=.binOp op ty xo yo yty)(aI:(eqGuard op ty xo yo (a.eval xo) (a.eval yo)).run P w=.ok () w)
  (hr:(binOp op ty (a.eval xo) (a.eval yo)).run P w=.ok u w):(execOp a.eval o).run P w=.ok (.value u) w:=by
 unfold execOp;rw [ho];refine gd ?_;rw [run_bind,aI];exact hr
theorem acN{op:BinOp}{x y:ByteArray}{v:a_}{ty:TypeId}(h:CC op x.data.toList y.data.toList=some v) :
  ∃u,(∀w:World,(binOp op ty (.string x) (.string y)).run P w=.ok u w)∧∀w Z s ι,aV w Z s ι v u:=by
 cases op <;> simp only [CC] at h <;> first | (simp at h;done) | (obtain rfl:=aZ h)
 all_goals
  refine⟨_,fun w=>rfl,fun w Z s ι => ?_⟩;have:=Sk x y;simp only [toList_data] at this;simp only [aV,cw,dG,toList_data,Value.bool.injEq,this]
theorem Sm{op:UnOp}{t:Nat}{x:Operand}(h:Inv w0 F0 Z0 n s a w ι Z)(ah:∀k,o.dst=some k→k<n)(ho:o.op=.unOp op t x)(hk:c3 E id o s K=some r) :
  ∃au,K au=some r∧Pure P o a w (c8 w0 F0 Z0 n au):=by
 unfold c3 at hk;rw [ho] at hk;simp only at hk;have hx:=fe h x;have hrun:∀ {u:Value} {w:World},(Op.unary op (a.eval x)).run P w=.ok u w→(execOp a.eval o).run P w=.ok (.value u) w:=by intro u w hu;unfold execOp;rw [ho];exact gd hu
 cases cS:b0 s x with
 | aW c=>
  rw [cS] at hk hx;simp only [aV] at hx;cases op <;> cases c <;> simp only [Jw] at hk <;> try (simp at hk;done)
  ·simp only [cw] at hx;exact⟨_,hk,dI (fun w'=>hrun (by rw [hx];rfl)) h (by simp only [aV,cw]) ah⟩
  ·simp only [cw] at hx;exact⟨_,hk,dI (fun w'=>hrun (by rw [hx];rfl)) h (by simp only [aV,cw];rfl) ah⟩
  ·simp only [cw] at hx;exact⟨_,hk,dI (fun w'=>hrun (by rw [hx];rfl)) h (by simp only [aV,cw]) ah⟩
 | _=>rw [cS] at hk;cases op <;> simp [Jw] at hk
def Sn(P:Program)(E:Env):Prop:=∀id T,E.Jt id=true→E.ty id=some T→∀(op:BinOp) (xo yo:Operand) (w:World) (Z:ai) (s:aq) (ι : Nat→bJ) (cs ds:List bd) (us vs:List Value) (q:Bool),
  bN w Z s ι cs us→bN w Z s ι ds vs→T.cmp cs ds=some (q,[],[]) →
  (eqGuard op id xo yo (.agg us.toArray) (.agg vs.toArray)).run P w=.ok () w ∧
  (op=.eql→(binOp op id (.agg us.toArray) (.agg vs.toArray)).run P w=.ok (.bool q) w) ∧
  (op=.neq→(binOp op id (.agg us.toArray) (.agg vs.toArray)).run P w=.ok (.bool (!q)) w)
mutual
theorem ae.zz{w w':World}{Z:ai}{s:aq}{ι : Nat→bJ} : ∀(t:ae) {cs ds:List bd} {r:Bool×List bd×List bd} {us vs:List Value},t.cmp cs ds=some r→bN w Z s ι cs us→bN w Z s ι ds vs →
  ∃us1 us2 vs1 vs2 a b,us=us1++us2∧vs=vs1++vs2∧cs=a++r.2.1∧ds=b++r.2.2∧bN w' Z s ι a us1∧bN w' Z s ι b vs1∧bN w Z s ι r.2.1 us2∧bN w Z s ι r.2.2 vs2
 | .int k,.int k1 x :: a,.int k2 y :: b,r,us,vs,h,h1,h2=>by
  simp only [ae.cmp] at h;cases hk:(Nat.beq (dz k1) (dz k)&&Nat.beq (dz k2) (dz k))
  ·rw [hk] at h;cases h
  rw [hk] at h;obtain rfl:=aZ h
  cases us with
  | nil=>exact h1.elim
  | cons u us=>cases vs with
   | nil=>exact h2.elim
   | cons v vs=>exact⟨[u],us,[v],vs,[.int k1 x],[.int k2 y],rfl,rfl,rfl,rfl,⟨h1.1,trivial⟩,⟨h2.1,trivial⟩,h1.2,h2.2⟩
 | .bool,.bool x :: a,.bool y :: b,r,us,vs,h,h1,h2=>by
  obtain rfl:=aZ h
  cases us with
  | nil=>exact h1.elim
  | cons u us=>cases vs with
   | nil=>exact h2.elim
   | cons v vs=>exact⟨[u],us,[v],vs,[.bool x],[.bool y],rfl,rfl,rfl,rfl,⟨h1.1,trivial⟩,⟨h2.1,trivial⟩,h1.2,h2.2⟩
 | .str,.str x :: a,.str y :: b,r,us,vs,h,h1,h2=>by
  obtain rfl:=aZ h
  cases us with
  | nil=>exact h1.elim
  | cons u us=>cases vs with
   | nil=>exact h2.elim
   | cons v vs=>exact⟨[u],us,[v],vs,[.str x],[.str y],rfl,rfl,rfl,rfl,⟨h1.1,trivial⟩,⟨h2.1,trivial⟩,h1.2,h2.2⟩
 | .st ak,cs,ds,r,us,vs,h,h1,h2=>aC.zz ak (by simpa only [ae.cmp] using h) h1 h2
 | .sl t,cs,ds,r,us,vs,h,h1,h2=>by simp [ae.cmp] at h
 | .raw,cs,ds,r,us,vs,h,h1,h2=>by simp [ae.cmp] at h
 | .int k,[],_,_,_,_,h,_,_=>by simp [ae.cmp] at h
 | .bool,[],_,_,_,_,h,_,_=>by simp [ae.cmp] at h
 | .str,[],_,_,_,_,h,_,_=>by simp [ae.cmp] at h
 | .int k,c :: _,[],_,_,_,h,_,_=>by cases c <;> simp [ae.cmp] at h
 | .bool,c :: _,[],_,_,_,h,_,_=>by cases c <;> simp [ae.cmp] at h
 | .str,c :: _,[],_,_,_,h,_,_=>by cases c <;> simp [ae.cmp] at h
 | .int k,.bool _ :: _,_ :: _,_,_,_,h,_,_ | .int k,.str _ :: _,_ :: _,_,_,_,h,_,_ | .int k,.nil _ :: _,_ :: _,_,_,_,h,_,_ | .int k,.bY _ _ _ _ :: _,_ :: _,_,_,_,h,_,_ | .int k,.ah _ _ :: _,_ :: _,_,_,_,h,_,_ | .int k,.raw _ :: _,_ :: _,_,_,_,h,_,_=>by simp [ae.cmp] at h
 | .bool,.int _ _ :: _,_ :: _,_,_,_,h,_,_ | .bool,.str _ :: _,_ :: _,_,_,_,h,_,_ | .bool,.nil _ :: _,_ :: _,_,_,_,h,_,_ | .bool,.bY _ _ _ _ :: _,_ :: _,_,_,_,h,_,_ | .bool,.ah _ _ :: _,_ :: _,_,_,_,h,_,_ | .bool,.raw _ :: _,_ :: _,_,_,_,h,_,_=>by simp [ae.cmp] at h
 | .str,.int _ _ :: _,_ :: _,_,_,_,h,_,_ | .str,.bool _ :: _,_ :: _,_,_,_,h,_,_ | .str,.nil _ :: _,_ :: _,_,_,_,h,_,_ | .str,.bY _ _ _ _ :: _,_ :: _,_,_,_,h,_,_ | .str,.ah _ _ :: _,_ :: _,_,_,_,h,_,_ | .str,.raw _ :: _,_ :: _,_,_,_,h,_,_=>by simp [ae.cmp] at h
 | .int k,.int _ _ :: _,.bool _ :: _,_,_,_,h,_,_ | .int k,.int _ _ :: _,.str _ :: _,_,_,_,h,_,_ | .int k,.int _ _ :: _,.nil _ :: _,_,_,_,h,_,_ | .int k,.int _ _ :: _,.bY _ _ _ _ :: _,_,_,_,h,_,_ | .int k,.int _ _ :: _,.ah _ _ :: _,_,_,_,h,_,_ | .int k,.int _ _ :: _,.raw _ :: _,_,_,_,h,_,_=>by simp [ae.cmp] at h
 | .bool,.bool _ :: _,.int _ _ :: _,_,_,_,h,_,_ | .bool,.bool _ :: _,.str _ :: _,_,_,_,h,_,_ | .bool,.bool _ :: _,.nil _ :: _,_,_,_,h,_,_ | .bool,.bool _ :: _,.bY _ _ _ _ :: _,_,_,_,h,_,_ | .bool,.bool _ :: _,.ah _ _ :: _,_,_,_,h,_,_ | .bool,.bool _ :: _,.raw _ :: _,_,_,_,h,_,_=>by simp [ae.cmp] at h
 | .str,.str _ :: _,.int _ _ :: _,_,_,_,h,_,_ | .str,.str _ :: _,.bool _ :: _,_,_,_,h,_,_ | .str,.str _ :: _,.nil _ :: _,_,_,_,h,_,_ | .str,.str _ :: _,.bY _ _ _ _ :: _,_,_,_,h,_,_ | .str,.str _ :: _,.ah _ _ :: _,_,_,_,h,_,_ | .str,.str _ :: _,.raw _ :: _,_,_,_,h,_,_=>by simp [ae.cmp] at h
theorem aC.zz{w w':World}{Z:ai}{s:aq}{ι : Nat→bJ} : ∀(t:aC) {cs ds:List bd} {r:Bool×List bd×List bd} {us vs:List Value},t.cmp cs ds=some r→bN w Z s ι cs us→bN w Z s ι ds vs →
  ∃us1 us2 vs1 vs2 a b,us=us1++us2∧vs=vs1++vs2∧cs=a++r.2.1∧ds=b++r.2.2∧bN w' Z s ι a us1∧bN w' Z s ι b vs1∧bN w Z s ι r.2.1 us2∧bN w Z s ι r.2.2 vs2
 | .nil,cs,ds,r,us,vs,h,h1,h2=>by obtain rfl:=aZ h;exact⟨[],us,[],vs,[],[],rfl,rfl,rfl,rfl,trivial,trivial,h1,h2⟩
 | .cons t ak,cs,ds,r,us,vs,h,h1,h2=>by simp only [aC.cmp] at h;obtain ⟨bH,g1,h⟩:=bq h;obtain ⟨cm,g2,h⟩:=bq h;obtain rfl:=aZ h;obtain ⟨a1,a2,iI,pD,a,b,rfl,rfl,e1,e2,k1,k2,k3,bg⟩:=ae.zz (w':=w') t g1 h1 h2;obtain ⟨a3,a4,sk,CP,cg,b',rfl,rfl,e3,ft,eb,eS,oB,pH⟩:=aC.zz (w':=w') ak g2 k3 bg;exact⟨a1++a3,a4,iI++sk,CP,a++cg,b++b',by simp,by simp,by rw [e1,e3];simp,by rw [e2,ft];simp,k1.append eb,k2.append eS,oB,pH⟩
end
theorem So{w:World}{Z:ai}{s:aq}{ι : Nat→bJ}{T:ae}{cs ds:List bd}{q:Bool}{us vs:List Value}(h:T.cmp cs ds=some (q,[],[]))(h1:bN w Z s ι cs us)(h2:bN w Z s ι ds vs)(w':World) :
  bN w' Z s ι cs us∧bN w' Z s ι ds vs:=by
 obtain ⟨us1,us2,vs1,vs2,a,b,e3,ft,pK,xi,bx,du,dq,df⟩:=ae.zz (w':=w') T h h1 h2;have e8:us2=[]:=by cases us2 with | nil=>rfl | cons=>exact dq.elim
 have jG:vs2=[]:=by cases vs2 with | nil=>rfl | cons=>exact df.elim
 subst e8 jG;simp only [List.append_nil] at e3 ft pK xi;rw [e3,ft,pK,xi];exact⟨bx,du⟩
theorem Sp{op:BinOp}{t CQ:Nat}{x y:Operand}(b3:hB P E)(hE:Sn P E)(h:Inv w0 F0 Z0 n s a w ι Z)(ah:∀k,o.dst=some k→k<n)(ho:o.op=.binOp op t x y CQ)(hk:c3 E id o s K=some r) :
  ∃au,K au=some r∧Pure P o a w (c8 w0 F0 Z0 n au):=by
 unfold c3 at hk;rw [ho] at hk;simp only at hk;have hx:=fe h x;have aT:=fe h y
 cases cS:b0 s x with
 | aW c=>
  rw [cS] at hk hx;simp only [aV] at hx
  cases gG:b0 s y with
  | aW d=>
   rw [gG] at hk aT;simp only [aV] at aT;cases c <;> cases d <;> simp only [lg] at hk <;> try (simp at hk;done)
   ·rename_i k i k' j;simp only [cw] at hx aT;have aI:∀w:World,(eqGuard op t x y (a.eval x) (a.eval y)).run P w=.ok () w:=fun w=>xh (by rw [hx];exact .inl ⟨_,_,rfl⟩)
    by_cases h1:op=.shl
    ·subst h1;obtain ⟨h0,hk⟩:=sj hk;have h0:=of_decide_eq_true h0;refine⟨_,hk,dI (fun w'=>jI ho (aI w') (by rw [hx,aT];simp only [binOp,Op.shift];rw [if_neg (by omega)];rfl)) h (by simp only [aV,cw]) ah⟩
    by_cases h2:op=.shr
    ·subst h2;obtain ⟨h0,hk⟩:=sj hk;have h0:=of_decide_eq_true h0;refine⟨_,hk,dI (fun w'=>jI ho (aI w') (by rw [hx,aT];simp only [binOp,Op.shift];rw [if_neg (by omega)];rfl)) h (by simp only [aV,cw]) ah⟩
    by_cases h3:op=.quo
    ·subst h3;cases hkk:Nat.beq (dz k) (dz k')
     ·rw [hkk] at hk;simp at hk
     have hk1:jZ (j != 0) (K (s.dst o.dst (.aW (.int k (k.wrap (i.tdiv j))))))=some r:=by have hk2:cond (Nat.beq (dz k) (dz k')) (jZ (j != 0) (K (s.dst o.dst (.aW (.int k (k.wrap (i.tdiv j))))))) none=some r:=hk;rw [hkk] at hk2;exact hk2
     clear hk;obtain ⟨h0,hk⟩:=sj hk1;obtain rfl:=CO hkk;have h0:j≠0:=by simpa using h0
     refine⟨_,hk,dI (fun w'=>jI ho (aI w') (by rw [hx,aT];simp only [binOp,Op.intDiv];rw [if_neg (by simp),if_neg h0];rfl)) h (by simp only [aV,cw]) ah⟩
    by_cases h4:op=.rem
    ·subst h4;cases hkk:Nat.beq (dz k) (dz k')
     ·rw [hkk] at hk;simp at hk
     have hk1:jZ (j != 0) (K (s.dst o.dst (.aW (.int k (i.tmod j)))))=some r:=by have hk2:cond (Nat.beq (dz k) (dz k')) (jZ (j != 0) (K (s.dst o.dst (.aW (.int k (i.tmod j)))))) none=some r:=hk;rw [hkk] at hk2;exact hk2
     clear hk;obtain ⟨h0,hk⟩:=sj hk1;obtain rfl:=CO hkk;have h0:j≠0:=by simpa using h0
     refine⟨_,hk,dI (fun w'=>jI ho (aI w') (by rw [hx,aT];simp only [binOp,Op.intDiv];rw [if_neg (by simp),if_neg h0];rfl)) h (by simp only [aV,cw]) ah⟩
    have ew:cond (Nat.beq (dz k) (dz k')) (lift (CB op k i j) fun v=>K (s.dst o.dst v)) none=some r:=by cases op <;> first | exact hk | exact absurd rfl h1 | exact absurd rfl h2 | exact absurd rfl h3 | exact absurd rfl h4
    cases hkk:Nat.beq (dz k) (dz k')
    ·rw [hkk] at ew;simp at ew
    rw [hkk] at ew;obtain rfl:=CO hkk;obtain ⟨v,hv,ew⟩:=Sl ew;obtain ⟨u,hu,cV⟩:=acM (P:=P) (ty:=t) (yty:=CQ) (xo:=x) (yo:=y) hv h1 h2 h3 h4;exact⟨_,ew,dI (fun w'=>jI ho (aI w') (by rw [hx,aT];exact hu w')) h (cV _ _ _ _) ah⟩
   ·rename_i i j;simp only [cw] at hx aT;have aI:∀w:World,(eqGuard op t x y (a.eval x) (a.eval y)).run P w=.ok () w:=fun w=>xh (by rw [hx];exact .inr (.inr (.inl ⟨_,rfl⟩)))
    cases ht:E.ty t with
    | none=>rw [ht] at hk;simp at hk
    | some T=>
     cases T with
     | bool=>
      rw [ht] at hk;have hu:P.underlying t=some .bool:=by have:=b3.ty t _ ht;simp only [ae.ok] at this;exact this.1
      have hb:∀(i j:Bool) {w:World},(Op.equal t (.bool i) (.bool j)).run P w=.ok (i==j) w:=by intro i j w;unfold Op.equal Op.maxDepth Op.equalIn;rw [run_bind,run_underlying hu];rfl
      cases op <;> simp only at hk <;> try (simp at hk;done)
      ·exact⟨_,hk,dI (fun w'=>jI ho (aI w') (by rw [hx,aT];simp only [binOp,run_bind,hb];rfl)) h (by simp only [aV,cw]) ah⟩
      ·exact⟨_,hk,dI (fun w'=>jI ho (aI w') (by rw [hx,aT];simp only [binOp,run_bind,hb];rfl)) h (by simp only [aV,cw]) ah⟩
     | _=>rw [ht] at hk;simp at hk
   ·obtain ⟨xj,hx,rfl⟩:=hx;obtain ⟨xk,aT,rfl⟩:=aT;have aI:∀w:World,(eqGuard op t x y (a.eval x) (a.eval y)).run P w=.ok () w:=fun w=>xh (by rw [hx];exact .inr (.inl ⟨_,rfl⟩))
    by_cases h1:op=.add
    ·subst h1;obtain ⟨h0,hk⟩:=sj hk;have h0:=Nat.le_of_ble_eq_true h0;simp only [Array.length_toList] at h0
     refine⟨_,hk,dI (v:=.string (xj++xk)) (fun w'=>jI ho (aI w') (by
      rw [hx,aT];simp only [binOp,Op.stringOp];rw [if_neg];rfl;have e1:xj.data.size=xj.size:=rfl;have e2:xk.data.size=xk.size:=rfl;simp only [IntKind.max,IntKind.signed,IntKind.bits,if_true]
      omega)) h (by simp only [aV,cw];exact⟨_,rfl,by simp⟩) ah⟩
    ·have ew:lift (CC op xj.data.toList xk.data.toList) (fun v=>K (s.dst o.dst v))=some r:=by
      cases op <;> first | exact hk | exact absurd rfl h1
     obtain ⟨v,hv,ew⟩:=Sl ew;obtain ⟨u,hu,cV⟩:=acN (P:=P) (ty:=t) hv;exact⟨_,ew,dI (fun w'=>jI ho (aI w') (by rw [hx,aT];exact hu w')) h (cV _ _ _ _) ah⟩
  | ld=>
   rw [gG] at hk aT;simp only [aV] at aT
   cases c with
   | bY cq dp cJ xs=>
    cases dp with
    | cons=>simp [lg] at hk
    | nil=>
     simp only [lg] at hk
     cases sm:E.ty t with
     | none=>rw [sm] at hk;simp at hk
     | some T=>
      cases T with
      | sl u=>
       rw [sm] at hk;obtain ⟨e,hu,_⟩:=l1 (b3.ty _ _ sm);obtain ⟨_,_,cV,_⟩:=hx;have cV:=cV rfl;simp only [ae.ar] at cV;obtain ⟨A,c',hv,uj⟩:=cV;have jh:a.eval x=.slice A xs.length c':=by simpa using hv
       have aI:∀w:World,(eqGuard op t x y (a.eval x) (a.eval y)).run P w=.ok () w:=fun w=>by rw [jh,aT];unfold eqGuard;cases op <;> rfl
       have hb:∀ {w:World},(Op.equal t (.slice A xs.length c') (.slice none 0 0)).run P w=.ok A.isNone w:=by intro w;unfold Op.equal Op.maxDepth Op.equalIn;rw [run_bind,run_underlying hu];cases A <;> rfl
       have he:A.isNone=true→xs.isEmpty=true:=fun hA=>by
        rcases uj with uj | ⟨a0,uj,_⟩
        ·rw [uj];rfl
        ·rw [uj] at hA;cases hA
       have pick:∀ {k1 mD:Option bB},CD xs.isEmpty k1 mD=some r→(cond A.isNone k1 mD)=some r:=by
        intro k1 mD hk;unfold CD both at hk;cases hA:A.isNone
        ·rw [hA] at he;cases Sq:xs.isEmpty
         ·rw [Sq] at hk;exact hk
         ·rw [Sq] at hk;simp only [cond_true] at hk;split at hk
          ·rename_i h;rw [cond_false,← h];exact hk
          ·cases hk
        ·rw [he hA] at hk;simp only [cond_true] at hk ⊢;split at hk
         ·exact hk
         ·cases hk
       cases op <;> simp only at hk <;> try (simp at hk;done)
       ·have hk:=pick hk;refine⟨s.dst o.dst (.aW (.bool A.isNone)),by cases A <;> exact hk,dI (fun w'=>jI ho (aI w') (by rw [jh,aT];simp only [binOp,run_bind,hb];rfl)) h (by simp only [aV,cw]) ah⟩
       ·have hk:=pick hk;refine⟨s.dst o.dst (.aW (.bool (!A.isNone))),by cases A <;> exact hk,dI (fun w'=>jI ho (aI w') (by rw [jh,aT];simp only [binOp,run_bind,hb];rfl)) h (by simp only [aV,cw]) ah⟩
      | _=>rw [sm] at hk;simp at hk
   | _=>simp [lg] at hk
  | _=>rw [gG] at hk;cases c <;> simp [lg] at hk
 | iD cs=>
  rw [cS] at hk hx;simp only [aV] at hx
  cases gG:b0 s y with
  | iD ds=>
   rw [gG] at hk aT;simp only [aV] at aT;obtain ⟨us,hx,Sr⟩:=hx;obtain ⟨vs,aT,Ss⟩:=aT;simp only [lg] at hk;cases he:E.Jt t
   ·rw [he] at hk;simp at hk
   rw [he] at hk;simp only [cond_true] at hk
   cases sm:E.ty t with
   | none=>rw [sm] at hk;simp at hk
   | some T=>
   rw [sm] at hk;simp only at hk
   cases hq:T.cmp cs ds with
   | none=>rw [hq] at hk;cases op <;> simp at hk
   | some q=>
    obtain ⟨q,bH,cm⟩:=q;rw [hq] at hk
    match bH,cm,hq,hk with
    | [],[],hq,hk=>
     have hE:=fun w'=>hE t T he sm op x y w' Z s ι cs ds us vs q (So hq Sr Ss w').1 (So hq Sr Ss w').2 hq
     cases op <;> simp only at hk <;> try (simp at hk;done)
     ·exact⟨_,hk,dI (fun w'=>jI ho (by rw [hx,aT];exact(hE w').1) (by rw [hx,aT];exact(hE w').2.1 rfl)) h (by simp only [aV,cw]) ah⟩
     ·exact⟨_,hk,dI (fun w'=>jI ho (by rw [hx,aT];exact(hE w').1) (by rw [hx,aT];exact(hE w').2.2 rfl)) h (by simp only [aV,cw]) ah⟩
    | _ :: _,_,_,hk=>cases op <;> simp at hk
    | [],_ :: _,_,hk=>cases op <;> simp at hk
  | _=>rw [gG] at hk;simp [lg] at hk
 | opt j i=>
  rw [cS] at hk hx;simp only [aV] at hx
  cases gG:b0 s y with
  | kd=>
   rw [gG] at hk aT;simp only [aV] at aT;simp only [lg] at hk;cases mE:E.t' t
   ·rw [mE] at hk;simp at hk
   rw [mE] at hk;obtain ⟨e,hu⟩:=b3.ptr t mE;have aI:∀w:World,(eqGuard op t x y (a.eval x) (a.eval y)).run P w=.ok () w:=by intro w;rcases hx.2 with⟨_,hx⟩ | ⟨_,A,hx,_⟩ <;> exact xh (by rw [hx];exact .inr (.inr (.inr ⟨_,rfl⟩)))
   have hb:∀ {w:World},(Op.equal t (a.eval x) (.pointer none)).run P w=.ok (decide (i<0)) w:=by
    intro w;rcases hx.2 with⟨h0,hx⟩ | ⟨h0,A,hx,_⟩
    ·rw [hx];unfold Op.equal Op.maxDepth Op.equalIn;rw [run_bind,run_underlying hu];simp [h0,run_pure]
    ·rw [hx];unfold Op.equal Op.maxDepth Op.equalIn;rw [run_bind,run_underlying hu];have:¬i<0:=by omega
     simp [this,run_pure]
   have l2:∀(op:BinOp) (v:Value),(op=.eql→v=.bool (decide (i<0)))→(op=.neq→v=.bool (!decide (i<0)))→(op=.eql∨op=.neq)→∀ {w:World},(binOp op t (a.eval x) (a.eval y)).run P w=.ok v w:=by
    intro op v h1 h2 h3 w;rw [aT];have qJ:∃q,a.eval x=.pointer q:=by rcases hx.2 with⟨_,hx⟩ | ⟨_,A,hx,_⟩ <;> exact⟨_,hx⟩
    obtain ⟨q,qJ⟩:=qJ;rw [qJ];have hb:∀ {w:World},(Op.equal t (.pointer q) (.pointer none)).run P w=.ok (decide (i<0)) w:=fun {w}=> by rw [← qJ];exact hb
    rcases h3 with rfl | rfl
    ·rw [h1 rfl];simp only [binOp,run_bind,hb];rfl
    ·rw [h2 rfl];simp only [binOp,run_bind,hb];rfl
   cases op <;> simp only at hk <;> try (simp at hk;done)
   ·exact⟨_,hk,dI (fun w'=>jI ho (aI w') (l2 .eql _ (fun _=>rfl) (fun h=>by simp at h) (.inl rfl))) h (by simp only [aV,cw]) ah⟩
   ·exact⟨_,hk,dI (fun w'=>jI ho (aI w') (l2 .neq _ (fun h=>by simp at h) (fun _=>rfl) (.inr rfl))) h (by simp only [aV,cw]) ah⟩
  | _=>rw [gG] at hk;simp [lg] at hk
 | may b dp cs=>
  rw [cS] at hk hx;simp only [aV] at hx
  cases gG:b0 s y with
  | kd=>
   rw [gG] at hk aT;simp only [aV] at aT;simp only [lg] at hk;cases mE:E.t' t
   ·rw [mE] at hk;simp at hk
   rw [mE] at hk;obtain ⟨e,hu⟩:=b3.ptr t mE;have aI:∀w:World,(eqGuard op t x y (a.eval x) (a.eval y)).run P w=.ok () w:=by intro w;rcases hx with⟨_,hx⟩ | ⟨_,_,_,_,_,hx,_⟩ <;> exact xh (by rw [hx];exact .inr (.inr (.inr ⟨_,rfl⟩)))
   have hb:∀ {w:World},(Op.equal t (a.eval x) (.pointer none)).run P w=.ok (!b) w:=by
    intro w;rcases hx with⟨h0,hx⟩ | ⟨h0,_,_,_,_,hx,_⟩
    ·rw [hx];unfold Op.equal Op.maxDepth Op.equalIn;rw [run_bind,run_underlying hu];simp [h0,run_pure]
    ·rw [hx];unfold Op.equal Op.maxDepth Op.equalIn;rw [run_bind,run_underlying hu];simp [h0,run_pure]
   have l2:∀(op:BinOp) (v:Value),(op=.eql→v=.bool (!b))→(op=.neq→v=.bool (b))→(op=.eql∨op=.neq)→∀ {w:World},(binOp op t (a.eval x) (a.eval y)).run P w=.ok v w:=by
    intro op v h1 h2 h3 w;rw [aT];have qJ:∃q,a.eval x=.pointer q:=by rcases hx with⟨_,hx⟩ | ⟨_,_,_,_,_,hx,_⟩ <;> exact⟨_,hx⟩
    obtain ⟨q,qJ⟩:=qJ;rw [qJ];have hb:∀ {w:World},(Op.equal t (.pointer q) (.pointer none)).run P w=.ok (!b) w:=fun {w}=> by rw [← qJ];exact hb
    rcases h3 with rfl | rfl
    ·rw [h1 rfl];simp only [binOp,run_bind,hb];rfl
    ·rw [h2 rfl];simp only [binOp,run_bind,hb];simp only [Bool.not_not];rfl
   cases op <;> simp only at hk <;> try (simp at hk;done)
   ·exact⟨_,hk,dI (fun w'=>jI ho (aI w') (l2 .eql _ (fun _=>rfl) (fun h=>by simp at h) (.inl rfl))) h (by simp only [aV,cw]) ah⟩
   ·exact⟨_,hk,dI (fun w'=>jI ho (aI w') (l2 .neq _ (fun h=>by simp at h) (fun _=>rfl) (.inr rfl))) h (by simp only [aV,cw]) ah⟩
  | _=>rw [gG] at hk;simp [lg] at hk
 | ptr p=>
  rw [cS] at hk hx;simp only [aV] at hx;obtain ⟨_,A,hx,_⟩:=hx
  cases gG:b0 s y with
  | kd=>
   rw [gG] at hk aT;simp only [aV] at aT;simp only [lg] at hk;cases mE:E.t' t
   ·rw [mE] at hk;simp at hk
   rw [mE] at hk;obtain ⟨e,hu⟩:=b3.ptr t mE;have aI:∀w:World,(eqGuard op t x y (a.eval x) (a.eval y)).run P w=.ok () w:=fun w=>xh (by rw [hx];exact .inr (.inr (.inr ⟨_,rfl⟩)))
   have hb:∀ {w:World},(Op.equal t (.pointer (some A)) (.pointer none)).run P w=.ok false w:=by intro w;unfold Op.equal Op.maxDepth Op.equalIn;rw [run_bind,run_underlying hu];rfl
   cases op <;> simp only at hk <;> try (simp at hk;done)
   ·exact⟨_,hk,dI (fun w'=>jI ho (aI w') (by rw [hx,aT];simp only [binOp,run_bind,hb];rfl)) h (by simp only [aV,cw]) ah⟩
   ·exact⟨_,hk,dI (fun w'=>jI ho (aI w') (by rw [hx,aT];simp only [binOp,run_bind,hb];rfl)) h (by simp only [aV,cw];rfl) ah⟩
  | _=>rw [gG] at hk;simp [lg] at hk
 | _=>rw [cS] at hk;simp [lg] at hk
end
end Go.LM
namespace Go.LM
def db{α : Type}(R : α → List Value→ai→Prop)(size:Nat):List α → List Value→ai→Prop
 | [],vs,_=>vs=[]
 | x :: xs,vs,F=>∃us ak G H,vs=us++ak∧R x us G∧us.length=size∧db R size xs ak H∧ai.apart G H∧ai.sub G F∧ai.sub H F
section
variable{α : Type}{R jd : α → List Value→ai→Prop}{size:Nat}{w:World}
theorem db.len:∀ {xs:List α} {vs:List Value} {F:ai},db R size xs vs F→vs.length=xs.length*size
 | [],_,_,h=>by simp only [db] at h;subst h;simp
 | x :: xs,_,_,h=>by obtain ⟨us,ak,G,H,rfl,_,h1,h2,_⟩:=h;rw [List.length_append,h1,db.len h2,List.length_cons,Nat.add_one_mul];omega
theorem db.mono:∀ {xs:List α} {vs:List Value} {F F':ai},ai.sub F F'→db R size xs vs F→db R size xs vs F'
 | [],_,_,_,_,h=>h
 | x :: xs,_,_,_,hs,⟨us,ak,G,H,h1,h2,h3,h4,a',br,bL⟩=>⟨us,ak,G,H,h1,h2,h3,h4,a',fun b o h=>hs b o (br b o h),fun b o h=>hs b o (bL b o h)⟩
theorem db.imp:∀ {xs:List α} {vs:List Value} {F:ai},db R size xs vs F→(∀y us G,ai.sub G F→R y us G→jd y us G)→db jd size xs vs F
 | [],_,_,h,_=>h
 | x :: xs,_,F,⟨us,ak,G,H,h1,h2,h3,h4,a',br,bL⟩,d_=>⟨us,ak,G,H,h1,d_ _ _ _ br h2,h3,db.imp h4 (fun y us dx hs=>d_ y us dx fun b o h=>bL b o (hs b o h)),a',br,bL⟩
theorem db.bare:∀ {xs:List α} {vs:List Value} {F:ai},db R size xs vs F→(∀y us G,ai.sub G F→R y us G→jd y us ai.none)→db jd size xs vs ai.none
 | [],_,_,h,_=>h
 | x :: xs,_,F,⟨us,ak,G,H,h1,h2,h3,h4,a',br,bL⟩,d_=>⟨us,ak,ai.none,ai.none,h1,d_ _ _ _ br h2,h3,db.bare h4 (fun y us dx hs=>d_ y us dx fun b o h=>bL b o (hs b o h)),fun _ _ h=>h.elim,fun _ _ h=>h,fun _ _ h=>h⟩
theorem db.append:∀ {xs ys:List α} {us vs:List Value} {F G:ai},db R size xs us F→db R size ys vs G→ai.apart F G→db R size (xs++ys) (us++vs) (F.or G)
 | [],ys,us,vs,F,G,h,k,_=>by simp only [db] at h;subst h;exact k.mono fun _ _ h=>.inr h
 | x :: xs,ys,us,vs,F,G,⟨a,b,A,B,h1,h2,h3,h4,a',br,bL⟩,k,ha=>by
  refine⟨a,b++vs,A,B.or G,by rw [h1,List.append_assoc],h2,h3,db.append h4 k (fun b o h=>ha b o (bL b o h)),?_,fun b o h=>.inl (br b o h),fun b o h=>h.imp (bL b o) id⟩
  rintro b o g (h | h)
  ·exact a' b o g h
  ·exact ha b o (br b o g) h
theorem db.row:∀ {xs:List α} {vs:List Value} {F:ai} {b o:Nat},db R size xs vs F→ca w b o vs→Row w R size xs b o F
 | [],_,_,_,_,_,_=>trivial
 | x :: xs,_,_,b,o,⟨us,ak,G,H,h1,h2,h3,h4,a',br,bL⟩,hc=>by subst h1;exact⟨us,G,H,h2,h3,hc.left,db.row h4 (h3 ▸ hc.right),a',br,bL⟩
theorem Row.tP:∀ {xs:List α} {b o:Nat} {F:ai},Row w R size xs b o F→∃vs,db R size xs vs F∧ca w b o vs
 | [],_,_,_,_=>⟨[],rfl,ca.nil _ _ _⟩
 | x :: xs,b,o,F,⟨us,G,H,h1,h2,h3,h4,a',br,bL⟩=>by obtain ⟨ak,k1,k2⟩:=Row.tP h4;exact⟨us++ak,⟨us,ak,G,H,rfl,h1,h2,k1,a',br,bL⟩,h3.append (by rw [h2];exact k2)⟩
theorem db.replicate{x : α}{us:List Value}(d_:R x us ai.none)(hl:us.length=size):∀n,db R size (List.replicate n x) (List.replicate n us).flatten ai.none
 | 0=>rfl
 | n+1=>by rw [List.replicate_succ,List.replicate_succ,List.flatten_cons];exact⟨us,_,ai.none,ai.none,rfl,d_,hl,db.replicate d_ hl n,fun _ _ h=>h.elim,fun _ _ h=>h,fun _ _ h=>h⟩
end
mutual
theorem Ke{w:World}{Z F:ai} : ∀(t:ae) (m:bl),t.ar w Z m t.zero t.cW F
 | .int _,_=>by simp only [ae.ar,ae.zero,ae.cW]
 | .bool,_=>by simp only [ae.ar,ae.zero,ae.cW]
 | .str,_=>by simp only [ae.ar,ae.zero,ae.cW];exact⟨_,rfl,rfl⟩
 | .raw,_=>by simp only [ae.ar,ae.zero,ae.cW];exact⟨trivial,_,_,_,rfl⟩
 | .sl t,.O e=>by simp only [ae.ar,ae.zero,ae.cW];exact⟨none,0,rfl,.inl (by simp)⟩
 | .sl t,.R=>by simp only [ae.ar,ae.zero,ae.cW];exact⟨none,0,rfl,.inl trivial⟩
 | .sl t,.S _=>by simp only [ae.ar,ae.zero,ae.cW];exact⟨none,0,rfl,.inl trivial⟩
 | .st ak,m=>by simp only [ae.ar,ae.zero,ae.cW];exact St ak m.parts
theorem St{w:World}{Z F:ai} : ∀(ak:aC) (m:c4),ak.ar w Z m ak.zero ak.cW F
 | .nil,_=>by simp only [aC.ar,aC.cW]
 | .cons t ak,m=>by simp only [aC.ar,aC.zero,aC.cW];exact⟨t.cW,ak.cW,ai.none,ai.none,rfl,Ke t m.ah,St ak m.dF,fun _ _ h=>h.elim,fun _ _ h=>h.elim,fun _ _ h=>h.elim⟩
end
section
variable{P:Program}{Q:Exit→Act→World→Prop}
variable{w0:World}{F0 Z0:ai}{n:cO}{s au:aq}{a cg:Act}{w w':World}{ι bp:Nat→bJ}{Z Z':ai}
variable{E:Env}{o:Oper}{bB : Type}{K:aq→Option bB}{r : bB}{id:Nat}
theorem bM.ext{F S:ai}(hf:bM w0 F0 s w ι Z F)(hx:Ext w w' S):bM w0 F0 s w' ι Z F:=
 ⟨fun b o h=>⟨(hf.own b o h).1,Nat.lt_of_lt_of_le (hf.own b o h).2 hx.size⟩,hf.apart,hf.dd⟩
theorem Inv.fresh(h:Inv w0 F0 Z0 n s a w ι Z){F:ai}(hF:∀b o,F b o→w.heap.size≤b∧b<w'.heap.size):bM w0 F0 s w' ι Z F:=by
 have:=h.ext.size;refine⟨fun b o hf=>⟨.inr (by have:=(hF b o hf).1;omega),(hF b o hf).2⟩,fun id hl b o h1 h2=>?_,fun b o h1 h2=>?_⟩
 ·have:=(h.own id hl b o h2).2;have:=(hF b o h1).1;omega
 ·have:=h.je b o h2;have:=(hF b o h1).1;omega
def grown(w:World)(d:Nat)(arr:Array Value)(e:TypeId)(f:Nat×Nat):World:= { w with drawn:=d,heap:=w.heap.push (.cells arr e f) }
theorem Cs(w:World)(d:Nat)(arr:Array Value)(e:TypeId)(f:Nat×Nat)(F:ai):Ext w (grown w d arr e f) F:=
 ⟨rfl,rfl,rfl,by simp [grown],fun b hb=>.inl (by simp only [grown];rw [Array.getElem?_push,if_neg (by omega)])⟩
theorem zm(w:World)(d:Nat)(arr:Array Value)(e:TypeId)(f:Nat×Nat):(grown w d arr e f).heap[w.heap.size]?=some (.cells arr e f):=by simp [grown]
theorem zl(w:World)(d:Nat)(arr:Array Value)(e:TypeId)(f:Nat×Nat)(o:Nat):(grown w d arr e f).cell? (at_ w.heap.size o)=arr[o]?:=cell_of_heap (zm ..) o
theorem Jm(w:World)(d:Nat)(arr:Array Value)(e:TypeId)(f:Nat×Nat):(grown w d arr e f).heap.size=w.heap.size+1:=by simp [grown]
theorem Inv.newRow(h:Inv w0 F0 Z0 n s a w ι Z){id:Nat}(cf:s.o id=.none){t:ae}{em:bl}{xs:List t.D}{vs:List Value}{G:ai}
  (he:db (t.ar w Z em) t.size xs vs G) (hG:bM w0 F0 s w ι Z G) (d:Nat) (arr:Array Value) (e:TypeId) (f:Nat×Nat) (c:Nat)
  (hv:∀(j:Nat) (v:Value),vs[j]?=some v→arr[j]?=some v) (hc:xs.length≤c) (hsz:c*t.size≤arr.size) (hf:f.1=f.2∨c*t.size≤f.1) (hf2:t.size=1∨f.1=f.2) :
  Inv w0 F0 Z0 n (s.bV id (.row t em 0 xs)) a (grown w d arr e f) (bZ ι id ⟨some (at_ w.heap.size 0),c,(ai.run w.heap.size 0 (c*t.size)).or G⟩) Z:=by
 have hx:=Cs w d arr e f ai.none;have h1:=h.world hx;have kk:bM w0 F0 s (grown w d arr e f) ι Z (ai.run w.heap.size 0 (c*t.size)):=h.fresh (by rintro b o ⟨rfl,_,_⟩;rw [Jm];omega);have fk:=hG.ext hx;refine h1.CH cf ?_ (kk.or fk);refine .inr ⟨at_ w.heap.size 0,rfl,rfl,hc,fun j hj=>⟨⟨⟨arr[j]'(by simp only at hj;omega),?_⟩,?_⟩,?_⟩,fun j hj=>.inl ⟨rfl,by simp [at_],by simpa [at_] using hj⟩,G,?_,?_,fun _ _ h=>.inr h⟩
 ·show World.cell? _ (at_ w.heap.size (0+j))=_;rw [zl];simp
 ·show World.frozen? _ (at_ w.heap.size (0+j))=_;rw [qy,zm];simp only at hj;simp only [Bool.and_eq_false_iff,decide_eq_false_iff_not];omega
 ·refine hf2.imp (fun h=>h) fun h2 k=>?_
  show World.frozen? _ (at_ w.heap.size k)=_;rw [qy,zm];simp only [Bool.and_eq_false_iff,decide_eq_false_iff_not];omega
 ·refine db.row (he.imp fun y us dx hs hr=>ae.ar.same (cd.jg hx h.je fun _ _ _ h=>h) _ _ (cd.jg hx (fun b o aI=>(hG.own b o (hs b o aI)).2) fun _ _ _ h=>h) hr) ?_;intro i v hi;show World.cell? _ (at_ w.heap.size (0+i))=_;rw [zl,Nat.zero_add];exact hv i v hi
 ·intro j hj aI;have:=(hG.own _ _ aI).2;simp [at_] at this
theorem zA{id:Nat}{t:ae}{em:bl}{ver:Nat}{xs:List t.D}{A:Addr}{c:Nat}{F:ai}(hA:A.spot=none)(hc:xs.length≤c) :
  cw w Z (s.bV id (.row t em ver xs)) (bZ ι id ⟨some A,c,F⟩) (.ah id none) (.slice (some A) xs.length c):=by
 refine⟨?_,some A,xs.length,c,rfl,?_⟩
 ·show bZ s.o id _ id≠_;rw [cN];simp
 ·intro cq gF nz f' ho;have sd:(bZ s.o id (cE.row t em ver xs) id).core=.row cq gF nz f':=ho;rw [cN] at sd ⊢;obtain ⟨rfl,_,_,h4⟩:=cE.row.inj sd;have:=eq_of_heq h4;subst this;refine⟨rfl,by simp [er],hc,by simp [er],.inr ⟨A,rfl,?_⟩⟩;simp only [er,Nat.zero_mul,Nat.add_zero];cases A;simp_all [at_]
theorem Su(us:List Value):∀(n j:Nat),j<n*us.length→(List.replicate n us).flatten[j]?=us[j % us.length]?
 | 0,j,h=>by simp at h
 | n+1,j,h=>by
  rw [List.replicate_succ,List.flatten_cons];by_cases hj:j<us.length
  ·rw [List.getElem?_append_left hj,Nat.mod_eq_of_lt hj]
  ·have h':j<n*us.length+us.length:=by rw [← Nat.add_one_mul];exact h
   rw [List.getElem?_append_right (by omega),Su us n (j-us.length) (by omega),← Nat.mod_eq_sub_mod (by omega)]
theorem Kf{z:Array Value}{m j:Nat}(us:List Value)(n:Nat)(hz:z.toList=us)(hm:m=n*us.length)(v:Value)(h:(List.replicate n us).flatten[j]?=some v) :
  ((Array.range m).map (z[· % z.size]!))[j]?=some v:=by
 subst hz
 have hj:j<n*z.toList.length:=by
  rcases Nat.lt_or_ge j (n*z.toList.length) with h1 | h1
  ·exact h1
  ·rw [List.getElem?_eq_none (by simp;simpa using h1)] at h;simp at h
 rw [Su _ _ _ hj] at h;have hl:z.toList.length=z.size:=by simp
 rw [hl] at h hj;rw [Array.getElem?_map,Array.getElem?_range,if_pos (by rw [hm,hl];exact hj)];simp only [Option.map_some,Option.some.injEq]
 have b2:j % z.size<z.size:=by
  apply Nat.mod_lt;rcases Nat.eq_zero_or_pos z.size with h0 | h0
  ·rw [h0] at hj;simp at hj
  ·exact h0
 rw [getElem!_pos z _ b2];simpa [b2] using h
theorem wrap_i64{i:Int}(h0:0≤i)(h1:i≤68719476736):IntKind.wrap .i64 i=i:=by simp [IntKind.wrap,IntKind.bits,IntKind.signed];omega
theorem acO{k:IntKind}{i:Int} :(asInt (.int k i)).run P w=.ok i w:=rfl
theorem xl(T:ae):(dQ T T.cW).cells.toList=T.cW:=J6 (ae.l0 T) ((sh (w:=default) (Z:=ai.none) (s:=⟨fun _=>.ay,fun _=>.none,[]⟩) (ι := fun _=>⟨none,0,ai.none⟩) T).ek)
theorem run_askRoom{b:Nat} :(askRoom b).run P w=.ok () w:=by unfold askRoom;split <;> rfl
theorem CR{e:TypeId}{arr:Array Value} :(newRow e arr).run P w=.ok (at_ w.heap.size 0) (grown w w.drawn arr e (0,0)):=by simp [newRow,Go.newObj,run_bind,Sem.run,run_pure,at_,grown]
theorem run_makeSlice{T:ae}{t e:TypeId}{k k':IntKind}{m:Int}(hu:P.underlying t=some (.slice e))(cK:T.ok P e)(h0:0≤m)(h1:m≤68719476736) :
  ∃arr:Array Value,(∀(j:Nat) (v:Value),(List.replicate m.toNat T.cW).flatten[j]?=some v→arr[j]?=some v)∧arr.size=m.toNat*T.size ∧
   (Instr.makeSlice t (.int k m) (.int k' m)).run P w=.ok (.slice (some (at_ w.heap.size 0)) m.toNat m.toNat) (grown w w.drawn arr e (0,0)):=by
 obtain ⟨i,gT,gw,xm,Kg⟩:=cK.info;have hb:¬((i.bytes:Int)*m>2 ^ 48):=by have:(i.bytes:Int)*m≤2048*68719476736:=Int.mul_le_mul (by omega) h1 h0 (by omega);omega
 have zB:(dQ T T.cW).cells.size=T.size:=by have:=congrArg List.length (xl T);rw [Array.length_toList,ae.l0] at this;exact this
 refine⟨(Array.range (m.toNat*T.size)).map fun j=>(if m.toNat*T.size=0 then #[] else(dQ T T.cW).cells)[j % (if m.toNat*T.size=0 then #[] else(dQ T T.cW).cells).size]!,?_,by simp,?_⟩
 ·intro j v hj;by_cases hz:m.toNat*T.size=0
  ·have:(List.replicate m.toNat T.cW).flatten=[]:=by
    apply List.eq_nil_of_length_eq_zero;simp [ae.l0];simpa using hz
   rw [this] at hj;simp at hj
  ·simp only [if_neg hz];exact Kf T.cW m.toNat (xl T) (by rw [ae.l0]) v hj
 ·unfold Instr.makeSlice;simp only [run_bind,run_underlying hu,acO,run_typeInfo gT,wrap_i64 h0 h1];have sn:¬m<0:=by omega
  simp only [sn,hb,decide_false,Bool.or_false,Bool.false_or,Bool.false_eq_true,if_false,gt_iff_lt,Int.lt_irrefl];simp only [run_bind,run_askRoom,run_sizeOf cK];by_cases hz:m.toNat*T.size=0
  ·simp only [if_pos hz,run_bind,run_pure,CR]
  ·simp only [if_neg hz,run_bind,run_pure,CR,CK cK]
theorem acP{t:Nat}{x y:Operand}(b3:hB P E)(h:Inv w0 F0 Z0 n s a w ι Z)(ah:∀k,o.dst=some k→k<n)(ho:o.op=.makeSlice t x y)(hk:c3 E id o s K=some r) :
  ∃au,K au=some r∧o.wp P a w (c8 w0 F0 Z0 n au) Q:=by
 unfold c3 at hk;rw [ho] at hk;simp only at hk
 cases ht:E.ty t with
 | none=>rw [ht] at hk;simp at hk
 | some T=>
  rw [ht] at hk
  cases T with
  | sl T=>
   cases hx:kH (b0 s x) with
   | none=>rw [hx] at hk;simp at hk
   | some m=>
    cases aT:kH (b0 s y) with
    | none=>rw [hx,aT] at hk;simp at hk
    | some m'=>
     rw [hx,aT] at hk;obtain ⟨aI,hk2⟩:=sj hk;clear hk;have hk:=hk2;clear hk2;simp only [Bool.and_eq_true,decide_eq_true_eq,room] at aI;obtain ⟨⟨h0,rfl⟩,h1⟩:=aI;have h1:=Nat.le_of_ble_eq_true h1
     cases hm:mkObj s id (.row T T.own 0 (List.replicate m.toNat T.zero)) with
     | none=>rw [hm] at hk;simp at hk
     | some s1=>
      rw [hm] at hk;obtain ⟨cf,rfl⟩:=qI hm;obtain ⟨k,hx⟩:=si hx (fe h x);obtain ⟨k',aT⟩:=si aT (fe h y);obtain ⟨e,hu,cK⟩:=l1 (b3.ty t _ ht);obtain ⟨arr,ha,has,hr⟩:=run_makeSlice (P:=P) (w:=w) (k:=k) (k':=k') hu cK h0 (by omega);have hn:=h.newRow cf (db.replicate (Ke T T.own) (ae.l0 T) m.toNat) bM.none w.drawn arr e (0,0) m.toNat ha (by simp) (by omega) (.inl rfl) (.inr rfl);refine⟨_,hk,mA (v:=.slice (some (at_ w.heap.size 0)) m.toNat m.toNat) ?_ hn ?_ ah⟩
      ·unfold execOp;rw [ho];refine gd ?_;rw [hx,aT];exact hr
      ·simp only [aV];have:=zA (w:=grown w w.drawn arr e (0,0)) (Z:=Z) (s:=s) (ι := ι) (id:=id) (em:=T.own) (ver:=0) (xs:=List.replicate m.toNat T.zero) (A:=at_ w.heap.size 0) (c:=m.toNat) (F:=(ai.run w.heap.size 0 (m.toNat*T.size)).or ai.none) rfl (by simp);simpa using this
  | _=>simp at hk
end
end Go.LM
namespace Go.LM
section
variable{P:Program}{Q:Exit→Act→World→Prop}
variable{w0:World}{F0 Z0:ai}{n:cO}{s au:aq}{a cg:Act}{w w':World}{ι bp:Nat→bJ}{Z Z':ai}
variable{E:Env}{o:Oper}{bB : Type}{K:aq→Option bB}{r : bB}{id:Nat}
theorem xn{k:IntKind}{t:TypeId}(h:(ae.int k).ok P t):P.underlying t=some (.int k):=by simp only [ae.ok] at h;exact h.1
theorem xp{t:TypeId}(h:ae.str.ok P t):P.underlying t=some .string:=by simp only [ae.ok] at h;exact h.1
theorem Kh{w:World}{Z:ai}{k:IntKind} : ∀l:List Int,db ((ae.int k).ar w Z .R) 1 l (l.map (Value.int k)) ai.none
 | []=>rfl
 | x :: l=>⟨[.int k x],l.map (Value.int k),ai.none,ai.none,rfl,by simp only [ae.ar],rfl,Kh l,fun _ _ h=>h.elim,fun _ _ h=>h,fun _ _ h=>h⟩
theorem acQ{e:TypeId}{b:ByteArray} :
  ∃(arr:Array Value) (c d:Nat),(Conv.stringToBytes e b).run P w=.ok (.slice (some (at_ w.heap.size 0)) b.size c) (grown w d arr e (c,c+1))∧b.size≤c∧arr.size=c ∧
   ∀(j:Nat) (v:Value),((eI b.data.toList).map (Value.int .u8))[j]?=some v→arr[j]?=some v:=by
 have hq:(Question.appendCap b.size 0 e).forced=false:=rfl;have hsz:b.data.size=b.size:=rfl;refine⟨(b.data.map fun x=>Value.int .u8 x.toNat)++Array.replicate (b.size+w.tape w.drawn (.appendCap b.size 0 e) % (2 ^ 63-b.size)-b.size) (.int .u8 0),b.size+w.tape w.drawn (.appendCap b.size 0 e) % (2 ^ 63-b.size),w.drawn+1,?_,by omega,by simp [hsz],?_⟩
 ·unfold Conv.stringToBytes;simp only [run_bind,choose,Sem.run,hq,Bool.false_eq_true,if_false,Question.cut];simp only [newRow,Go.newObj,run_bind,Sem.run,run_pure,markStringish,Go.shape,Go.freeze];simp only [World.shape?,Array.getElem?_push_size,Sem.run];simp only [World.freeze,grown];simp only [Nat.succ_ne_zero,if_false,Nat.one_ne_zero,Result.ok.injEq,World.mk.injEq,true_and,and_true];apply Array.ext_getElem?;intro i;rw [Array.getElem?_modify,Array.getElem?_push,Array.getElem?_push];by_cases hi:w.heap.size=i
  ·subst hi;have:b.size +(w.tape w.drawn (Question.appendCap b.size 0 e) % (2 ^ 63-b.size)+b.size-b.size)=b.size+w.tape w.drawn (Question.appendCap b.size 0 e) % (2 ^ 63-b.size):=by omega
   simp [hsz]
  ·simp [hi];by_cases dm:i=w.heap.size
   ·exact absurd dm.symm hi
   ·simp [dm]
 ·intro j v hj;simp only [eI,List.map_map,List.getElem?_map,Option.map_eq_some_iff] at hj;obtain ⟨x,hx,rfl⟩:=hj
  have b2:j<b.data.size:=by
   rcases Nat.lt_or_ge j b.data.size with h | h
   ·exact h
   ·rw [List.getElem?_eq_none (by simpa using h)] at hx;simp at hx
  rw [Array.getElem?_append_left (by simpa using b2),Array.getElem?_map];rw [Array.getElem?_toList] at hx;rw [hx];rfl
theorem Sv{w:World}{k:IntKind}{b:Nat} : ∀ {l:List Int} {o:Nat} {F:ai},Row w (fun(y:Int) us _=>us=[Value.int k y]) 1 l b o F→ca w b o (l.map (Value.int k))
 | [],_,_,_=>ca.nil _ _ _
 | x :: l,o,_,⟨us,G,H,h1,h2,h3,h4,_⟩=>by subst h1;exact ca.cons h3.head (Sv h4)
theorem acR(l:List Int):∀b:ByteArray,(l.foldl (fun r n=>r.push (UInt8.ofNat n.toNat)) b).data.toList=b.data.toList++gP l:=by
 induction l with
 | nil=>intro b;simp [gP]
 | cons x l ih=>intro b;rw [List.foldl_cons,ih];simp [gP,ByteArray.push]
theorem acS{src dst:Nat}{x:Operand}{k1 k2:IntKind}(b3:hB P E)(h:Inv w0 F0 Z0 n s a w ι Z)(ah:∀k,o.dst=some k→k<n)(ho:o.op=.convert src dst x)(hs:E.ty src=some (.int k1))(ht:E.ty dst=some (.int k2))(hk:c3 E id o s K=some r) :
  ∃au,K au=some r∧Pure P o a w (c8 w0 F0 Z0 n au):=by
 unfold c3 at hk;rw [ho] at hk;simp only at hk;have hx:=fe h x;have dZ:=b3.ty _ _ hs;have cQ:=b3.ty _ _ ht
 cases cS:b0 s x with
 | aW c=>
  rw [cS] at hx hk;simp only [aV] at hx;unfold r8 at hk;rw [hs,ht] at hk
  cases c with
  | int k m=>simp only [cw] at hx;refine⟨_,hk,dI (v:=.int k2 (k2.wrap m)) (fun w'=>?_) h (by simp only [aV,cw]) ah⟩;unfold execOp;rw [ho];refine gd ?_;rw [hx];unfold convert;simp only [run_bind,run_underlying (xn dZ),run_underlying (xn cQ)];rfl
  | _=>simp at hk
 | _=>rw [cS] at hk;unfold r8 at hk;rw [hs,ht] at hk;simp at hk
theorem acT{src dst:Nat}{x:Operand}(b3:hB P E)(h:Inv w0 F0 Z0 n s a w ι Z)(ah:∀k,o.dst=some k→k<n)(ho:o.op=.convert src dst x)(hk:c3 E id o s K=some r) :
  ∃au,K au=some r∧o.wp P a w (c8 w0 F0 Z0 n au) Q:=by
 unfold c3 at hk;rw [ho] at hk;simp only at hk;have hx:=fe h x;have hrun:∀ {u:Value} {w':World},(convert src dst (a.eval x)).run P w=.ok u w'→(execOp a.eval o).run P w=.ok (.value u) w':=by intro u w' hu;unfold execOp;rw [ho];exact gd hu
 cases hs:E.ty src with
 | none=>unfold r8 at hk;rw [hs] at hk;simp at hk
 | some S=>
 cases ht:E.ty dst with
 | none=>unfold r8 at hk;rw [hs,ht] at hk;cases S <;> simp at hk
 | some T=>
 have dZ:=b3.ty _ _ hs;have cQ:=b3.ty _ _ ht
 cases cS:b0 s x with
 | aW c=>
  rw [cS] at hx;simp only [aV] at hx;have hk1:r8 E id s src dst (.aW c) (fun v s=>K (s.dst o.dst v))=some r:=by rw [← cS];exact hk
  unfold r8 at hk1;rw [hs,ht] at hk1;split at hk1
  ·rename_i mD k m uq ur oC;obtain rfl:=aZ uq;obtain rfl:=aZ ur;simp only [a_.aW.injEq] at oC;subst oC;simp only [cw] at hx;refine⟨_,hk1,mA (hrun (u:=.int mD (mD.wrap m)) (w':=w) ?_) h (by simp only [aV,cw]) ah⟩;rw [hx];unfold convert;simp only [run_bind,run_underlying (xn dZ),run_underlying (xn cQ)];rfl
  ·rename_i b uq ur oC;obtain rfl:=aZ uq;obtain rfl:=aZ ur;simp only [a_.aW.injEq] at oC;subst oC;obtain ⟨kJ,hx,ow⟩:=hx;refine⟨_,hk1,mA (hrun (u:=a.eval x) (w':=w) ?_) h (by simp only [aV];exact⟨kJ,hx,ow⟩) ah⟩;rw [hx];unfold convert;simp only [run_bind,run_underlying (xp dZ),run_underlying (xp cQ)];rfl
  ·rename_i b uq ur oC;obtain rfl:=aZ uq;obtain rfl:=aZ ur;simp only [a_.aW.injEq] at oC;subst oC;obtain ⟨kJ,hx,rfl⟩:=hx;obtain ⟨e,hu,cK⟩:=l1 cQ
   cases hm:mkObj s id (.row (.int .u8) .R 0 (eI kJ.data.toList)) with
   | none=>rw [hm] at hk1;simp at hk1
   | some s1=>
    rw [hm] at hk1;obtain ⟨cf,rfl⟩:=qI hm;obtain ⟨arr,c,d,hr,hc,has,hv⟩:=acQ (P:=P) (w:=w) (e:=e) (b:=kJ);have hlen:(eI kJ.data.toList).length=kJ.size:=by simp [eI]
    have hn:=h.newRow cf (t:=.int .u8) (em:=.R) (Kh (eI kJ.data.toList)) bM.none d arr e (c,c+1) c hv (by rw [hlen];exact hc) (by simp only [ae.size];omega) (.inr (by simp [ae.size])) (.inl rfl);refine⟨_,hk1,mA (hrun (u:=.slice (some (at_ w.heap.size 0)) kJ.size c) ?_) hn ?_ ah⟩
    ·rw [hx];unfold convert;simp only [run_bind,run_underlying (xp dZ),run_underlying hu,run_underlying (xn cK)];exact hr
    ·simp only [aV];have:=zA (w:=grown w d arr e (c,c+1)) (Z:=Z) (s:=s) (ι := ι) (id:=id) (em:=.R) (ver:=0) (t:=.int .u8) (xs:=eI kJ.data.toList) (A:=at_ w.heap.size 0) (c:=c) (F:=(ai.run w.heap.size 0 (c*(ae.int .u8).size)).or ai.none) rfl (by rw [hlen];exact hc);rw [hlen] at this;exact this
  ·rename_i c' uq ur oC;obtain rfl:=aZ uq;obtain rfl:=aZ ur;simp only [a_.aW.injEq] at oC;subst oC;obtain ⟨e,hu,cK⟩:=l1 dZ
   cases hl:pA s (.int .u8) c with
   | none=>rw [hl] at hk1;simp at hk1
   | some xs=>
    rw [hl] at hk1;simp only at hk1;obtain ⟨cV,_,_⟩:=JP h hl hx;simp only [ae.ar] at cV;obtain ⟨A,so,hv,hrow⟩:=cV;simp only [List.cons.injEq,and_true] at hv;have Sw:(convert src dst (a.eval x)).run P w=(Conv.bytesToString (a.eval x)).run P w:=by rw [hv];exact run_convert_bytes_string w src dst e A xs.length so hu (xn cK) (xp cQ)
    rcases hrow with rfl | ⟨a0,rfl,hsp,hrow,_,_⟩
    ·refine⟨_,hk1,mA (v:=.string .empty) (w':=w) (hrun ?_) h ?_ ah⟩
     ·rw [Sw,hv]
      cases A with
      | none=>rfl
      | some A=>exact run_bytesToString w A 0 so [] (by rfl)
     ·simp only [aV,cw];exact⟨_,rfl,rfl⟩
    ·obtain ⟨cX,dV,sp⟩:=a0;simp only at hsp;subst hsp;have hc:=Sv (k:=.u8) (by simpa only [ae.size] using hrow);have Sx:=run_loadCells (P:=P) hc;rw [List.length_map] at Sx;refine⟨_,hk1,mA (v:=.string (xs.foldl (fun r n=>r.push (UInt8.ofNat n.toNat)) ByteArray.empty)) (w':=w) (hrun ?_) h ?_ ah⟩
     ·rw [Sw,hv];exact run_bytesToString w _ xs.length so xs Sx
     ·simp only [aV,cw];exact⟨_,rfl,by rw [acR];rfl⟩
  ·simp at hk1
 | _=>exfalso;rw [cS,r8.eq_def,hs,ht] at hk;split at hk <;> simp_all
theorem Ki{fr:Bool}{k:IntKind} : ∀(l:List a_) (x:Int) (vs:List Value) (k':IntKind) (z:Int),a8 w Z s ι l vs→ub fr k x l=some (k',z) →
  (vs.foldlM (if fr then Builtin.max2 else Builtin.min2) (.int k x)).run P w'=.ok (.int k' z) w'
 | [],x,vs,k',z,hr,h=>by simp only [a8] at hr;subst hr;simp only [ub,Option.some.injEq,Prod.mk.injEq] at h;obtain ⟨rfl,rfl⟩:=h;rfl
 | v :: l,x,vs,k',z,hr,h=>by
  simp only [a8] at hr;obtain ⟨u,us,rfl,h1,h2⟩:=hr
  cases v with
  | aW c=>
   cases c with
   | int Sy y=>
    simp only [ub] at h;simp only [aV,cw] at h1;subst h1;rw [List.foldlM_cons,run_bind];have ih:=Ki l _ us k' z h2 h;cases fr
    ·exact ih
    ·exact ih
   | _=>simp [ub] at h
  | _=>simp [ub] at h
theorem uu(h:Inv w0 F0 Z0 n s a w ι Z):∀l:List Operand,a8 w Z s ι (l.map (b0 s)) (l.map a.eval)
 | []=>by simp only [List.map_nil,a8]
 | x :: l=>by simp only [List.map_cons,a8];exact⟨_,_,rfl,fe h x,uu h l⟩
theorem Sz{b:Builtin}{c:Call}(b3:hB P E)(h:Inv w0 F0 Z0 n s a w ι Z)(ah:∀k,o.dst=some k→k<n)(ho:o.op=.call c)(hb:c.callee=.builtin b)(hne:b≠.append)(acU:b≠.clear)(hk:c3 E id o s K=some r) :
  ∃au,K au=some r∧Pure P o a w (c8 w0 F0 Z0 n au):=by
 unfold c3 at hk;rw [ho] at hk;simp only [hb] at hk;have hvs:=uu h c.args.toList;have hrun:∀ {u:Value} {cs:Array Bool} {w:World},(builtin b c.argTypes o.type (c.args.map fun | .const _=>true | _=>false) (c.args.map a.eval)).run P w=.ok (.value u) w→(execOp a.eval o).run P w=.ok (.value u) w:=by intro u _ w hu;unfold execOp;rw [ho];simp only [run_bind,resolve,hb,run_pure,invoke];exact hu
 have l3:(c.args.map a.eval).toList=c.args.toList.map a.eval:=by simp
 cases b with
 | append=>exact absurd rfl hne
 | clear=>exact absurd rfl acU
 | len=>
  generalize hl:c.args.toList.map (b0 s)=l at hk hvs
  match l,hk,hvs with
  | [.aW kh],hk,hvs=>
   simp only [kf] at hk
   cases gU:c.argTypes.toList with
   | nil=>rw [gU] at hk;simp at hk
   | cons t ak=>
    rw [gU] at hk;simp only at hk
    cases ht:E.ty t with
    | none=>rw [ht] at hk;simp at hk
    | some T=>
     rw [ht] at hk;simp only at hk;cases hf:lh s T kh
     ·rw [hf] at hk;simp at hk
     rw [hf] at hk;simp only [cond_true] at hk
     cases hlen:oj s kh with
     | none=>rw [hlen] at hk;simp at hk
     | some m=>
      rw [hlen] at hk;simp only [a8,aV] at hvs;obtain ⟨u,us,he,hc,rfl⟩:=hvs;have nA:(c.args.map a.eval)[0]?=some u:=by rw [← Array.getElem?_toList,l3,he];rfl
      have pL:c.argTypes[0]?=some t:=by rw [← Array.getElem?_toList,gU];rfl
      have cK:=b3.ty _ _ ht;refine⟨_,hk,dI (v:=.int .i64 m) (fun w'=>hrun (cs:= #[]) ?_) h (by simp only [aV,cw]) ah⟩;unfold builtin;refine gd ?_;unfold Builtin.len_;rw [nA,pL];simp only
      have acV:T=.str∨∃u,T=.sl u:=by
       cases kh <;> simp only [lh] at hf <;> try (simp at hf;done)
       ·exact .inl (beq_eq hf)
       ·exact .inr ⟨_,beq_eq hf⟩
       ·exact .inr ⟨_,beq_eq hf⟩
       ·split at hf
        ·exact .inr ⟨_,beq_eq hf⟩
        ·simp at hf
      rcases acV with rfl | ⟨v,rfl⟩
      ·rw [run_bind,run_underlying (xp cK)];cases kh <;> simp only [lh] at hf <;> try (simp [ae.beq] at hf;done)
       ·obtain ⟨kJ,rfl,rfl⟩:=hc;simp only [oj,Option.some.injEq] at hlen;subst hlen;rfl
       ·split at hf <;> simp [ae.beq] at hf
      ·obtain ⟨e,hu,_⟩:=l1 cK;rw [run_bind,run_underlying hu];obtain ⟨A,k,rfl,_⟩:=Kd rfl hf hlen hc;rfl
  | [],hk,_=>simp [kf] at hk
  | _ :: _ :: _,hk,_=>simp [kf] at hk
  | [.ay],hk,_ | [.iD _],hk,_ | [.ptr _],hk,_ | [.dk _ _ _],hk,_ | [.kd],hk,_ | [.ld],hk,_ | [.opt _ _],hk,_ | [.may _ _ _],hk,_ | [.r4 _],hk,_ | [.fn _ _ _],hk,_ | [.px _],hk,_=>simp [kf] at hk
 | max=>
  simp only [kf] at hk
  cases hm:wY true (c.args.toList.map (b0 s)) with
  | none=>rw [hm] at hk;simp at hk
  | some q=>
   obtain ⟨k,z⟩:=q;rw [hm] at hk;simp only at hk;refine⟨_,hk,dI (v:=.int k z) (fun w'=>hrun (cs:= #[]) ?_) h (by simp only [aV,cw]) ah⟩;unfold builtin;refine gd ?_;unfold Builtin.max_;rw [l3];generalize c.args.toList.map (b0 s)=l at hm hvs;generalize c.args.toList.map a.eval=vs at hvs;unfold wY at hm;split at hm
   ·simp only [a8,aV,cw] at hvs;obtain ⟨u,us,rfl,rfl,h2⟩:=hvs;exact Ki _ _ us k z h2 hm
   ·simp at hm
 | min=>
  simp only [kf] at hk
  cases hm:wY false (c.args.toList.map (b0 s)) with
  | none=>rw [hm] at hk;simp at hk
  | some q=>
   obtain ⟨k,z⟩:=q;rw [hm] at hk;simp only at hk;refine⟨_,hk,dI (v:=.int k z) (fun w'=>hrun (cs:= #[]) ?_) h (by simp only [aV,cw]) ah⟩;unfold builtin;refine gd ?_;unfold Builtin.min_;rw [l3];generalize c.args.toList.map (b0 s)=l at hm hvs;generalize c.args.toList.map a.eval=vs at hvs;unfold wY at hm;split at hm
   ·simp only [a8,aV,cw] at hvs;obtain ⟨u,us,rfl,rfl,h2⟩:=hvs;exact Ki _ _ us k z h2 hm
   ·simp at hm
 | _=>simp [kf] at hk
end
end Go.LM
namespace Go.LM
theorem SA{α : Type} : ∀(B:List (List α)) (i:Nat) (b cs:List α),B[i]?=some b→cs.length=b.length→(B.set i cs).flatten=dr B.flatten (B.take i).flatten.length cs
 | [],i,b,cs,h,_=>by simp at h
 | x :: B,0,b,cs,h,hl=>by simp at h;subst h;simp only [List.set_cons_zero,List.flatten_cons,List.take_zero,List.flatten_nil,List.length_nil];unfold dr;simp [hl]
 | x :: B,i+1,b,cs,h,hl=>by simp only [List.getElem?_cons_succ] at h;simp only [List.set_cons_succ,List.flatten_cons,List.take_succ_cons,List.length_append];rw [RZ (by omega),SA B i b cs h hl];congr 2;omega
theorem acW{α : Type}{B:List (List α)}{i:Nat}{b:List α}(h:B[i]?=some b):(B.take i).flatten.length+b.length≤B.flatten.length:=by
 induction B generalizing i with
 | nil=>simp at h
 | cons x B ih=>
  cases i with
  | zero=>simp at h;subst h;simp
  | succ i=>simp only [List.getElem?_cons_succ] at h;have:=ih h;simp only [List.take_succ_cons,List.flatten_cons,List.length_append];omega
theorem SB:∀(vs:List Value) (k off:Nat) (cells:Array Value),off+k+vs.length≤cells.size →
  ((vs.zipIdx k).foldl (fun cs (c,j)=>cs.setIfInBounds (off+j) c) cells).toList=dr cells.toList (off+k) vs
 | [],k,off,cells,_=>by simp [CI]
 | v :: vs,k,off,cells,h=>by
  simp only [List.length_cons] at h;rw [List.zipIdx_cons,List.foldl_cons,SB vs (k+1) off _ (by simp;omega)];simp only [Array.toList_setIfInBounds];have b2:off+k<cells.toList.length:=by simp;omega
  apply List.ext_getElem?;intro j;unfold dr;simp only [List.getElem?_append,List.length_append,List.length_take,List.length_set,List.length_cons,List.getElem?_take,List.getElem?_drop,List.getElem?_set];have sq:min (off +(k+1)) cells.toList.length=off+k+1:=by omega
  have xg:min (off+k) cells.toList.length=off+k:=by omega
  rw [sq,xg];by_cases h1:j<off+k
  ·have:j≠off+k:=by omega
   simp [show j<off+k+1+vs.length by omega,show j<off+k+1 by omega,show j<off +(k+1) by omega,show j<off+k +(vs.length+1) by omega,h1,Ne.symm this]
  ·by_cases h2:j=off+k
   ·subst h2;simp only [Array.length_toList] at b2;simp [show off+k<off+k+1+vs.length by omega,show off+k<off +(k+1) by omega,b2]
   ·by_cases h3:j<off+k+1+vs.length
    ·rw [if_pos h3,if_neg (show ¬j<off+k+1 by omega),if_pos (show j<off+k +(vs.length+1) by omega),if_neg h1];rw [show j-(off+k)=(j-(off+k+1))+1 by omega,List.getElem?_cons_succ]
    ·rw [if_neg h3,if_neg (show ¬j<off+k +(vs.length+1) by omega)];rw [if_neg (by omega)];congr 1;omega
def Kj(place:Nat→Option (Nat×Nat))(ty:Nat→Option ae)(lens:List Nat):Prop:=
 ∀i t,ty i=some t→place i=some ((lens.take i).sum,t.size)∧lens[i]?=some t.size
section
variable{P:Program}{Q:Exit→Act→World→Prop}
variable{w0:World}{F0 Z0:ai}{n:cO}{s au:aq}{a cg:Act}{w w':World}{ι bp:Nat→bJ}{Z Z':ai}
variable{E:Env}{o:Oper}{bB : Type}{K:aq→Option bB}{r : bB}{id:Nat}
theorem acX{α : Type}(B:List (List α)):B.flatten.length=(B.map List.length).sum:=by simp [List.length_flatten]
theorem Kk(h:Inv w0 F0 Z0 n s a w ι Z){place:Nat→Option (Nat×Nat)}{ty:Nat→Option ae}{lens:List Nat}(hC:Kj place ty lens) :
  ∀(ps:List (Nat×Operand)) (B kl:List (List bd)) (cells:Array Value),B.map List.length=lens→bN w Z s ι B.flatten cells.toList→r6 s ty ps B=some kl →
   ∃nB,Instr.fill place cells (ps.map fun p=>(p.1,a.eval p.2))=some nB∧bN w Z s ι kl.flatten nB.toList∧kl.map List.length=lens
 | [],B,kl,cells,hl,hc,hf=>by simp only [r6,Option.some.injEq] at hf;subst hf;exact⟨cells,rfl,hc,hl⟩
 | (i,x) :: ps,B,kl,cells,hl,hc,hf=>by
  simp only [r6] at hf
  cases ht:ty i with
  | none=>rw [ht] at hf;simp at hf
  | some t=>
   rw [ht] at hf;simp only at hf
   cases hcs:ja t (b0 s x) with
   | none=>rw [hcs] at hf;simp at hf
   | some cs=>
    rw [hcs] at hf;simp only at hf;cases hb:Nat.beq cs.length t.size
    ·rw [hb] at hf;simp at hf
    rw [hb] at hf;simp only [cond_true] at hf;have hb:=Nat.eq_of_beq_eq_true hb;obtain ⟨av,qK⟩:=hC i t ht;have hx:=sg hcs (fe h x);have hxl:=hx.len;rw [hb] at hxl
    have acY:∃b,B[i]?=some b∧b.length=t.size:=by
     rw [← hl,List.getElem?_map] at qK
     cases xq:B[i]? with
     | none=>rw [xq] at qK;simp at qK
     | some b=>rw [xq] at qK;simp at qK;exact⟨b,rfl,qK⟩
    obtain ⟨b,xq,CS⟩:=acY;have fK:(B.take i).flatten.length=(lens.take i).sum:=by rw [acX,← hl,List.map_take]
    have hle:=acW xq;have hcl:=hc.len;simp only [Array.length_toList] at hxl hcl;have hnew:bN w Z s ι (B.set i cs).flatten (dr cells.toList (lens.take i).sum (a.eval x).cells.toList):=by rw [SA B i b cs xq (by omega),fK];unfold dr;have:=bN.dr hc hx (lens.take i).sum;unfold dr at this;exact this
    have acZ:(B.set i cs).map List.length=lens:=by
     rw [List.map_set,hl];apply List.ext_getElem?;intro j;rw [List.getElem?_set];by_cases hj:i=j
     ·subst hj;rw [qK,if_pos rfl]
      have:i<lens.length:=by
       rcases Nat.lt_or_ge i lens.length with h | h
       ·exact h
       ·rw [List.getElem?_eq_none h] at qK;simp at qK
      rw [if_pos this,hb]
     ·rw [if_neg hj]
    have ac0:=SB (a.eval x).cells.toList 0 (lens.take i).sum cells (by simp;omega)
    have ih:=Kk h hC ps (B.set i cs) kl (((a.eval x).cells.zipIdx).foldl (fun cs (c,j)=>cs.setIfInBounds ((lens.take i).sum+j) c) cells) acZ (by
     rw [← Array.foldl_toList,Array.toList_zipIdx]
     rw [ac0];exact hnew) hf
    obtain ⟨nB,h1,h2,h3⟩:=ih;refine⟨nB,?_,h2,h3⟩;rw [List.map_cons];unfold Instr.fill;rw [av];simp only;rw [if_neg (by simp only [Bool.or_eq_true,decide_eq_true_eq,not_or,ne_eq,Decidable.not_not];omega)];exact h1
def aC.places:aC→Nat→List (Nat×Nat)
 | .nil,_=>[]
 | .cons t ak,off=>(off,t.size) :: aC.places ak (off+t.size)
theorem SC:∀(ak:aC) (cG:List Field) (off:Nat),ak.okF P cG off→cG.mapM (fun f=>(P.info? f.type).map fun i=>(f.offset,i.size))=some (ak.places off)
 | .nil,cG,off,h=>by simp only [aC.okF] at h;subst h;rfl
 | .cons t ak,cG,off,h=>by simp only [aC.okF] at h;obtain ⟨f,lZ,rfl,rfl,h1,h2⟩:=h;obtain ⟨i,hi,hsz,_⟩:=h1.info;have ih:=SC ak lZ _ h2;simp only [List.mapM_cons,hi,Option.map_some,ih,aC.places,hsz];rfl
theorem SD:∀ak:aC,ak.om.flatten=ak.jE
 | .nil=>rfl
 | .cons t ak=>by simp only [aC.om,aC.jE,List.flatten_cons,SD ak]
theorem Kl(t:ae):t.jE.length=t.size:=by have:=(sh (w:=default) (Z:=ai.none) (s:=⟨fun _=>.ay,fun _=>.none,[]⟩) (ι := fun _=>⟨none,0,ai.none⟩) t).len;rw [← this,ae.l0]
theorem SE:∀(ak:aC) (off:Nat) (i:Nat) (t:ae),ak.nth i=some t→(ak.places off)[i]?=some (off +((ak.om.map List.length).take i).sum,t.size)∧(ak.om.map List.length)[i]?=some t.size
 | .nil,_,_,_,h=>by simp [aC.nth] at h
 | .cons u ak,off,0,t,h=>by simp only [aC.nth,Option.some.injEq] at h;subst h;simp [aC.places,aC.om,Kl]
 | .cons u ak,off,i+1,t,h=>by simp only [aC.nth] at h;obtain ⟨h1,h2⟩:=SE ak (off+u.size) i t h;simp only [aC.places,aC.om,List.map_cons,List.getElem?_cons_succ,List.take_succ_cons,List.sum_cons,Kl];exact⟨by rw [h1];simp;omega,h2⟩
theorem SF{t:Nat}{parts:Array (Nat×Operand)}(b3:hB P E)(h:Inv w0 F0 Z0 n s a w ι Z)(ah:∀k,o.dst=some k→k<n)(ho:o.op=.build t parts)(hk:c3 E id o s K=some r) :
  ∃au,K au=some r∧Pure P o a w (c8 w0 F0 Z0 n au):=by
 unfold c3 at hk;rw [ho] at hk;simp only at hk
 cases ht:E.ty t with
 | none=>rw [ht] at hk;simp at hk
 | some T=>
  rw [ht] at hk
  cases T with
  | st ak=>
   simp only at hk
   cases hf:r6 s ak.nth parts.toList ak.om with
   | none=>rw [hf] at hk;simp at hk
   | some B=>
    rw [hf] at hk;have cK:=b3.ty t _ ht;obtain ⟨it,gT,gw,xm,Kg⟩:=cK.info;simp only [ae.ok] at cK;obtain ⟨_,cG,hu,ll⟩:=cK;have gf:=SC ak cG.toList 0 ll;have CS:Kj ((ak.places 0).toArray[·]?) ak.nth (ak.om.map List.length):=by intro i cq hi;have:=SE ak 0 i cq hi;simpa using this
    obtain ⟨nB,h1,h2,h3⟩:=Kk h CS parts.toList ak.om B (dQ (.st ak) (ae.st ak).cW).cells rfl (by rw [SD,xl];exact sh (.st ak)) hf;refine⟨_,hk,dI (v:=.agg nB) (fun w'=>?_) h (by simp only [aV];exact⟨nB.toList,rfl,h2⟩) ah⟩;unfold execOp;rw [ho];refine gd ?_;refine run_build w' t _ nB ?_;unfold Program.built;rw [gT,hu];simp only [xm,gf];rw [← h1];congr 1;simp
  | _=>simp at hk
theorem SG{t:ae}{m:bl}{x:t.D}{us:List Value}{F:ai}(h:t.ar w (Z.or (dt ι [])) m x us F):t.ar w Z m x us F:=
 ae.ar.mono (fun b o hz=>by rcases hz with h | ⟨d,ah,_⟩;exact h;simp at ah) t m (fun _ _ h=>h) h
theorem SH:∀(B:List (List bd)) (t:ae) (m:bl) (s s1:aq) (xs:List t.D) (vs:List Value) (Z:ai),qz t m B s=some (xs,s1)→Inv w0 F0 Z0 n s a w ι Z→bN w Z s ι B.flatten vs →
  ∃F Z',Inv w0 F0 Z0 n s1 a w ι Z'∧fj s ι Z s1 Z'∧bM w0 F0 s1 w ι Z' F∧db (t.ar w Z' m) t.size xs vs F∧∀b o,F b o→∃id,(s.o id).live∧(ι id).F b o
 | [],t,m,s,s1,xs,vs,Z,hi,h,hc=>by
  simp only [qz,Option.some.injEq,Prod.mk.injEq] at hi;obtain ⟨rfl,rfl⟩:=hi
  cases vs with
  | nil=>exact⟨ai.none,Z,h,.refl,.none,rfl,fun _ _ h=>h.elim⟩
  | cons v vs=>exact hc.elim
 | cs :: B,t,m,s,s1,xs,vs,Z,hi,h,hc=>by
  simp only [qz] at hi;obtain ⟨r,hr,hi⟩:=bq hi;rw [List.flatten_cons] at hc;obtain ⟨us,ak,rfl,pG,hcu,ac1⟩:=hc.split;obtain ⟨aX,bK,F,cI,he,h1,hs1,hc1,oD,cV,_,SI,_,hF⟩:=ae.lW t false m cs s [] r us Z hr h hcu (by simp)
  cases ez:r.2.1 with
  | cons c l=>rw [ez] at hi;simp at hi
  | nil=>
   rw [ez] at hi hc1;simp only at hi;obtain ⟨q,hq,hi⟩:=bq hi;simp only [Option.some.injEq,Prod.mk.injEq] at hi;obtain ⟨rfl,rfl⟩:=hi
   cases bK with
   | cons v l=>exact hc1.elim
   | nil=>
    rw [List.append_nil] at he;subst he;rw [SI rfl] at cV;have cV:=SG cV;obtain ⟨G,bR,h2,oE,hf2,hels,hG⟩:=SH B t m r.2.2.1 q.2 q.1 ak cI hq h1 (acr hs1 ac1);refine⟨F.or G,bR,h2,hs1.trans oE,(oD.shrink oE).or hf2,⟨us,ak,F,G,rfl,ae.ar.mono oE.dO t m (fun _ _ h=>h) cV,(ae.ar.len t m cV).1,hels,?_,fun _ _ h=>.inl h,fun _ _ h=>.inr h⟩,?_⟩
    ·intro b o hb aI;obtain ⟨j,hj,zC⟩:=hG b o aI;exact oD.apart j hj b o hb zC
    ·rintro b o (hb | hb)
     ·exact hF b o hb
     ·obtain ⟨j,hj,zC⟩:=hG b o hb;obtain ⟨g1,g2⟩:=hs1.live hj;exact⟨j,g1,zC⟩
theorem SJ{t:ae}{m:bl} : ∀(B:List (List bd)) (s:aq) {xs:List t.D} {s1:aq},qz t m B s=some (xs,s1)→xs.length=B.length
 | [],s,xs,s1,h=>by simp only [qz,Option.some.injEq,Prod.mk.injEq] at h;rw [← h.1];rfl
 | cs :: B,s,xs,s1,h=>by
  simp only [qz] at h;obtain ⟨r,hr,h⟩:=bq h;split at h
  ·obtain ⟨q,hq,h⟩:=bq h;simp only [Option.some.injEq,Prod.mk.injEq] at h;rw [← h.1,List.length_cons,List.length_cons,SJ B _ hq]
  ·simp at h
theorem ac2{T:ae}{t e len:Nat}{parts:Array (Nat×Value)}{cells:Array Value}(hu:P.underlying t=some (.slice e))(cK:T.ok P e)(hs:len*T.size≤16777216)
  (hf:Instr.fill (fun i=>some (i*T.size,T.size)) ((Array.range (len*T.size)).map ((if len*T.size=0 then #[] else(dQ T T.cW).cells)[· % (if len*T.size=0 then #[] else(dQ T T.cW).cells).size]!)) parts.toList=some cells) :
  (Instr.buildSlice t len parts).run P w=.ok (.slice (some (at_ w.heap.size 0)) len len) (grown w w.drawn cells e (0,0)):=by
 unfold Instr.buildSlice;simp only [run_bind,run_underlying hu,run_sizeOf cK];rw [if_neg (by omega)];by_cases hz:len*T.size=0
 ·simp only [hz,if_true] at hf ⊢;simp only [run_bind,run_pure,hf,CR]
 ·simp only [hz,if_false] at hf ⊢;simp only [run_bind,run_pure,CK cK,hf,CR]
theorem ac3{t len:Nat}{parts:Array (Nat×Operand)}(b3:hB P E)(h:Inv w0 F0 Z0 n s a w ι Z)(ah:∀k,o.dst=some k→k<n)(ho:o.op=.buildSlice t len parts)(hk:c3 E id o s K=some r) :
  ∃au,K au=some r∧o.wp P a w (c8 w0 F0 Z0 n au) Q:=by
 unfold c3 at hk;rw [ho] at hk;simp only at hk
 cases ht:E.ty t with
 | none=>rw [ht] at hk;simp at hk
 | some S=>
  rw [ht] at hk
  cases S with
  | sl T=>
   simp only at hk;cases hle:Nat.ble (len*T.size) 16777216
   ·rw [hle] at hk;simp at hk
   rw [hle] at hk;simp only [cond_true] at hk;have hle:=Nat.le_of_ble_eq_true hle
   cases hf:r6 s (fun i=>cond (Nat.blt i len) (some T) none) parts.toList (List.replicate len T.jE) with
   | none=>rw [hf] at hk;simp at hk
   | some B=>
    rw [hf] at hk;simp only at hk;generalize hm:JA T s B=m at hk
    cases hi:qz T m B s with
    | none=>rw [hi] at hk;simp at hk
    | some q=>
     obtain ⟨xs,s1⟩:=q;rw [hi] at hk;simp only at hk
     cases ny:mkObj s1 id (.row T m 0 xs) with
     | none=>rw [ny] at hk;simp at hk
     | some s2=>
      rw [ny] at hk;obtain ⟨cf,rfl⟩:=qI ny;obtain ⟨e,hu,cK⟩:=l1 (b3.ty t _ ht)
      have CS:Kj (fun i=>some (i*T.size,T.size)) (fun i=>cond (Nat.blt i len) (some T) none) (List.replicate len T.size):=by
       intro i cq hi;have hi:cond (Nat.blt i len) (some T) none=some cq:=hi;cases hb:Nat.blt i len
       ·rw [hb] at hi;simp at hi
       ·rw [hb] at hi;simp only [cond_true,Option.some.injEq] at hi;subst hi;have b2:i<len:=Nat.lt_of_lt_of_le (Nat.lt_succ_self i) (Nat.le_of_ble_eq_true hb);refine⟨?_,by simp [List.getElem?_replicate,b2]⟩;rw [List.take_replicate,Nat.min_eq_left (by omega)];simp
      have ac4:∀k,bN w Z s ι (List.replicate k T.jE).flatten (List.replicate k T.cW).flatten:=by
       intro k
       induction k with
       | zero=>exact trivial
       | succ k ih=>rw [List.replicate_succ,List.replicate_succ,List.flatten_cons,List.flatten_cons];exact(sh T).append ih
      have hcells:((Array.range (len*T.size)).map ((if len*T.size=0 then #[] else(dQ T T.cW).cells)[· % (if len*T.size=0 then #[] else(dQ T T.cW).cells).size]!)).toList=(List.replicate len T.cW).flatten:=by
       apply List.ext_getElem?;intro j;have ik:(List.replicate len T.cW).flatten.length=len*T.size:=by simp [ae.l0]
       by_cases hj:j<len*T.size
       ·have hz:¬len*T.size=0:=by omega
        simp only [if_neg hz];obtain ⟨v,hv⟩:∃v,(List.replicate len T.cW).flatten[j]?=some v:=⟨_,List.getElem?_eq_getElem (by omega)⟩
        rw [hv,Array.getElem?_toList];exact Kf T.cW len (xl T) (by rw [ae.l0]) v hv
       ·rw [List.getElem?_eq_none (by simp;omega),List.getElem?_eq_none (by omega)]
      obtain ⟨nB,h1,h2,h3⟩:=Kk h CS parts.toList (List.replicate len T.jE) B _ (by simp [Kl]) (by rw [hcells];exact ac4 len) hf;obtain ⟨F,cI,gT,hs1,oD,hels,_⟩:=SH B T m s s1 xs _ Z hi h h2
      have hxl:xs.length=len:=by
       have e1:B.length=len:=by have:=congrArg List.length h3;simpa using this
       rw [← e1];exact SJ B s hi
      have hcs:len*T.size≤nB.size:=by have:=hels.len;simp only [Array.length_toList] at this;rw [hxl] at this;omega
      have hn:=gT.newRow cf hels oD w.drawn nB e (0,0) len (fun j v hv=>by simpa using hv) (by omega) hcs (.inl rfl) (.inr rfl);refine⟨_,hk,mA (v:=.slice (some (at_ w.heap.size 0)) len len) ?_ hn ?_ ah⟩
      ·unfold execOp;rw [ho];refine gd ?_;refine ac2 hu cK hle ?_;rw [← h1];congr 1;simp
      ·simp only [aV];have:=zA (w:=grown w w.drawn nB e (0,0)) (Z:=cI) (s:=s1) (ι := ι) (id:=id) (em:=m) (ver:=0) (xs:=xs) (A:=at_ w.heap.size 0) (c:=len) (F:=(ai.run w.heap.size 0 (len*T.size)).or F) rfl (by omega);rw [hxl] at this;exact this
  | _=>simp at hk
end
end Go.LM
namespace Go.LM
section
variable{P:Program}{Q:Exit→Act→World→Prop}
variable{w0:World}{F0 Z0:ai}{n:cO}{s au:aq}{a cg:Act}{w w':World}{ι bp:Nat→bJ}{Z Z':ai}
variable{E:Env}{o:Oper}{bB : Type}{K:aq→Option bB}{r : bB}{id:Nat}
theorem Inv.CT(h:Inv w0 F0 Z0 n s a w ι Z){S:ai}(hF:bM w0 F0 s w ι Z S)(hx:Ext w w' S):Inv w0 F0 Z0 n s a w' ι Z:=by
 have hm:eR w Z s ι w' Z s ι := by
  refine⟨fun id=>.stay _ _,fun _ _ h=>h,cd.jg hx h.se ?_⟩
  rintro b o (hz | ⟨id,hl,_,_,hf⟩) hs
  ·exact hF.dd b o hs hz
  ·exact hF.apart id hl b o hs hf
 refine h.next hm hx (fun b o hs=>(hF.own b o hs).1) (fun _ _ h=>.inl h) ?_ h.dd (fun k=>(h.tmps k).move hm) h.size h.defers;intro id _ hne;exact absurd ⟨rfl,rfl⟩ hne
theorem Inv.freeze(h:Inv w0 F0 Z0 n s a w ι Z){S:ai}(hF:bM w0 F0 s w ι Z S):Inv w0 F0 Z0 n s a w ι (Z.or S):=by
 have hm:eR w Z s ι w (Z.or S) s ι :=⟨fun id=>.stay _ _,fun _ _ h=>.inl h,cd.refl _ _⟩;refine h.next hm (Ext.refl _ ai.none) (fun _ _ h=>h.elim) ?_ ?_ ?_ (fun k=>(h.tmps k).move hm) h.size h.defers
 ·rintro b o (hz | hs)
  ·exact .inl hz
  ·exact .inr (hF.own b o hs)
 ·intro id _ hne;exact absurd ⟨rfl,rfl⟩ hne
 ·rintro id hl b o h1 (h2 | h2)
  ·exact h.dd id hl b o h1 h2
  ·exact hF.apart id hl b o h2 h1
theorem bM.freeze{F S:ai}(hF:bM w0 F0 s w ι Z F)(ha:ai.apart F S):bM w0 F0 s w ι (Z.or S) F:=
 ⟨hF.own,hF.apart,fun b o h1 h2=>h2.elim (hF.dd b o h1) (ha b o h1)⟩
theorem bM.sub{F G:ai}(hF:bM w0 F0 s w ι Z F)(h:ai.sub G F):bM w0 F0 s w ι Z G:=
 ⟨fun b o aI=>hF.own b o (h b o aI),fun id hl b o aI=>hF.apart id hl b o (h b o aI),fun b o aI=>hF.dd b o (h b o aI)⟩
def ai.diff(F G:ai):ai:=fun b o=>F b o∧¬G b o
theorem Ct{t:ae}{m:bl} : ∀ {xs:List t.D} {vs:List Value} {F:ai},db (t.ar w Z m) t.size xs vs F→∀v∈vs,ek v=true
 | [],_,_,h=>by simp only [db] at h;subst h;simp
 | x :: xs,_,_,⟨us,ak,G,H,h1,h2,h3,h4,_⟩=>by
  subst h1;intro v hv;rcases List.mem_append.1 hv with h | h
  ·exact(ae.ar.len t m h2).2 v h
  ·exact Ct h4 v h
theorem r1{A:Option Addr}{size m c:Nat}{vs:List Value}(hl:vs.length=m*size)(h:m=0∨∃b o,A=some (at_ b o)∧ca w b o vs) :
  (Builtin.firstCells size m (.slice A m c)).run P w=.ok vs.toArray w:=by
 unfold Builtin.firstCells;rcases h with rfl | ⟨b,o,rfl,hc⟩
 ·have:vs=[]:=List.eq_nil_of_length_eq_zero (by simpa using hl);subst this
  cases A with
  | none=>rfl
  | some A=>simp only [Nat.zero_mul];rfl
 ·simp only [← hl];exact run_loadCells hc
theorem CU{t:ae}{e:bl}{xs:List t.D}{v:Value}{F:ai}(h:(ae.sl t).ar w Z (.O e) xs [v] F) :
  ∃A c vs,v=.slice A xs.length c∧db (t.ar w Z e) t.size xs vs F∧∀d,(Builtin.firstCells t.size xs.length v).run P { w with drawn:=d } = .ok vs.toArray { w with drawn:=d }:= by
 simp only [ae.ar] at h;obtain ⟨A,c,hv,h⟩:=h;simp only [List.cons.injEq,and_true] at hv;subst hv;rcases h with⟨rfl,rfl⟩ | ⟨⟨b,o,sp⟩,rfl,hr⟩
 ·exact⟨A,0,[],rfl,rfl,fun d=>r1 (by simp) (.inl rfl)⟩
 ·obtain ⟨G,g1,g2,g3⟩:=hr.row;have hsp:=hr.spot;simp only at hsp;subst hsp;obtain ⟨vs,h1,h2⟩:=g1.tP;exact⟨_,c,vs,rfl,h1.mono g3,fun d=>r1 h1.len (.inr ⟨b,o,rfl,h2⟩)⟩
theorem ac5{t:ae}{xs:List t.D}{v:Value}{F:ai}(h:(ae.sl t).ar w Z .R xs [v] F) :
  ∃A c vs,v=.slice A xs.length c∧db (t.ar w Z .R) t.size xs vs ai.none∧∀d,(Builtin.firstCells t.size xs.length v).run P { w with drawn:=d } = .ok vs.toArray { w with drawn:=d }:= by
 simp only [ae.ar] at h;obtain ⟨A,c,hv,h⟩:=h;simp only [List.cons.injEq,and_true] at hv;subst hv;rcases h with rfl | ⟨⟨b,o,sp⟩,rfl,hsp,hr,_,_⟩
 ·exact⟨A,c,[],rfl,rfl,fun d=>r1 (by simp) (.inl rfl)⟩
 ·simp only at hsp;subst hsp;obtain ⟨vs,h1,h2⟩:=hr.tP;exact⟨_,c,vs,rfl,h1.imp (fun y us G hs hr=>r_ hr |> fun h=>ae.ar.mono (fun _ _ h=>h) t .R (fun _ _ h=>h.elim) h),fun d=>r1 h1.len (.inr ⟨b,o,rfl,h2⟩)⟩
theorem SK{t:ae}{c:bd}{v:Value}{kI:bl}{ys:List t.D}{s1:aq}(ha:added s t c=some (kI,ys,s1))(h:Inv w0 F0 Z0 n s a w ι Z)(hc:cw w Z s ι c v) :
  ∃vs F,(Builtin.lenOf v).run P w=.ok ys.length w∧(∀d,(Builtin.firstCells t.size ys.length v).run P { w with drawn:=d } = .ok vs.toArray { w with drawn:=d })∧db (t.ar w Z kI) t.size ys vs F ∧
   Inv w0 F0 Z0 n s1 a w ι Z∧fj s ι Z s1 Z∧bM w0 F0 s1 w ι Z F:=by
 cases c with
 | nil u=>simp only [added] at ha;obtain ⟨x,hx,ha⟩:=bq ha;obtain ⟨e,rfl⟩:=hp hx;subst e;simp only [Option.some.injEq,Prod.mk.injEq] at ha;obtain ⟨rfl,rfl,rfl⟩:=ha;have hv:v=.slice none 0 0:=hc;subst hv;exact⟨[],ai.none,rfl,fun _=>rfl,rfl,h,.refl,.none⟩
 | bY u dp cJ xs=>
  simp only [added] at ha;cases dB:alive s dp
  ·rw [dB] at ha;simp at ha
  cases ik:(t.flat||dp.isEmpty)
  ·rw [dB,ik] at ha;simp at ha
  rw [dB,ik] at ha;simp only [Bool.and_self,cond_true] at ha;obtain ⟨x,hx,ha⟩:=bq ha;obtain ⟨e,rfl⟩:=hp hx;subst e;simp only [Option.some.injEq,Prod.mk.injEq] at ha;obtain ⟨rfl,rfl,rfl⟩:=ha;obtain ⟨A,so,vs,rfl,h1,h2⟩:=ac5 (P:=P) (hc.2.2.1 dB);refine⟨vs,ai.none,rfl,h2,?_,h,.refl,.none⟩;simp only [Bool.or_eq_true,List.isEmpty_iff] at ik;rcases ik with ik | rfl
  ·exact h1.imp fun y us G _ hr=>r3 u ik hr
  ·exact h1.imp fun y us G _ hr=>SG hr
 | ah j sub=>
  simp only [added] at ha;obtain ⟨hk,A,m,so,rfl,hh⟩:=hc
  cases ho:s.o j with
  | row u em ver xs=>
   rw [ho] at ha;have da:=h.f_ j;rw [ho] at da;have cj:(s.o j).live:=by rw [ho];trivial
   have nC:=w_ da (hh u em ver xs (lU ho))
   cases em with
   | R=>simp only at ha;obtain ⟨x,hx,ha⟩:=bq ha;obtain ⟨e,rfl⟩:=hp hx;subst e;simp only [Option.some.injEq,Prod.mk.injEq] at ha;obtain ⟨rfl,rfl,rfl⟩:=ha;obtain ⟨nx,c',vs,hv,h1,h2⟩:=CU (P:=P) nC;refine⟨vs,ai.none,?_,h2,h1.bare fun y us G _ hr=>r_ hr,h,.refl,.none⟩;rw [hv];rfl
   | O gr=>simp only at ha;obtain ⟨x,hx,ha⟩:=bq ha;obtain ⟨e,rfl⟩:=hp hx;subst e;simp only [Option.some.injEq,Prod.mk.injEq] at ha;obtain ⟨rfl,rfl,rfl⟩:=ha;obtain ⟨nx,c',vs,hv,h1,h2⟩:=CU (P:=P) nC;refine⟨vs,(ι j).F,?_,h2,h1,h.take j (fun _ _ h=>h) (fun _ _ h=>.inl h),w9 j cj,h.w8 cj⟩;rw [hv];rfl
   | S ms=>simp only at ha;obtain ⟨x,hx,ha⟩:=bq ha;obtain ⟨e,rfl⟩:=hp hx;subst e;simp only [Option.some.injEq,Prod.mk.injEq] at ha;obtain ⟨rfl,rfl,rfl⟩:=ha;obtain ⟨nx,c',vs,hv,h1,h2⟩:=CU (P:=P) nC;refine⟨vs,(ι j).F,?_,h2,h1,h.take j (fun _ _ h=>h) (fun _ _ h=>.inl h),w9 j cj,h.w8 cj⟩;rw [hv];rfl
  | _=>rw [ho] at ha;simp at ha
 | str b=>
  simp only [added] at ha;obtain ⟨x,hx,ha⟩:=bq ha;obtain ⟨e,rfl⟩:=hp hx;subst e;simp only [Option.some.injEq,Prod.mk.injEq] at ha;obtain ⟨rfl,rfl,rfl⟩:=ha;obtain ⟨kJ,rfl,rfl⟩:=hc;have hlen:(eI kJ.data.toList).length=kJ.size:=by simp [eI]
  refine⟨(eI kJ.data.toList).map (Value.int .u8),ai.none,?_,?_,Kh _,h,.refl,.none⟩
  ·rw [hlen];rfl
  ·intro d;rw [hlen];simp only [Builtin.firstCells,run_pure];congr 1;apply Array.ext';simp [eI]
 | _=>simp [added] at ha
theorem SL{t:ae}{c:bd}{v:Value}{oo:bl}{xs:List t.D}{s1:aq}(ha:taken s t c=some (oo,xs,s1))(h:Inv w0 F0 Z0 n s a w ι Z)(hc:cw w Z s ι c v) :
  ∃F,(ae.sl t).ar w Z (.O oo) xs [v] F∧Inv w0 F0 Z0 n s1 a w ι Z∧fj s ι Z s1 Z∧bM w0 F0 s1 w ι Z F∧∀b o,F b o→∃id,(s.o id).live∧(ι id).F b o:=by
 cases c with
 | nil u=>simp only [taken] at ha;obtain ⟨x,hx,ha⟩:=bq ha;obtain ⟨e,rfl⟩:=hp hx;subst e;simp only [Option.some.injEq,Prod.mk.injEq] at ha;obtain ⟨rfl,rfl,rfl⟩:=ha;have hv:v=.slice none 0 0:=hc;subst hv;refine⟨ai.none,?_,h,.refl,.none,fun _ _ h=>h.elim⟩;simp only [ae.ar];exact⟨none,0,rfl,.inl (by simp)⟩
 | ah j sub=>
  simp only [taken] at ha;obtain ⟨hk,A,m,so,rfl,hh⟩:=hc
  cases ho:s.o j with
  | row u em ver xs=>
   rw [ho] at ha;simp only at ha;have da:=h.f_ j;rw [ho] at da;have cj:(s.o j).live:=by rw [ho];trivial
   have nC:=w_ da (hh u em ver xs (lU ho));obtain ⟨x,hx,ha⟩:=bq ha;obtain ⟨e,rfl⟩:=hp hx;subst e;simp only [Option.some.injEq,Prod.mk.injEq] at ha;obtain ⟨rfl,rfl,rfl⟩:=ha;exact⟨(ι j).F,nC,h.take j (fun _ _ h=>h) (fun _ _ h=>.inl h),w9 j cj,h.w8 cj,fun b o hf=>⟨j,cj,hf⟩⟩
  | _=>rw [ho] at ha;simp at ha
 | _=>simp [taken] at ha
theorem ac6{t:ae}{oo kI:bl}{xs ys:List t.D}{v:Value}{vs:List Value}{ln hD:ai}(h:Inv w0 F0 Z0 n s a w ι Z)
  (hx:(ae.sl t).ar w Z (.O oo) xs [v] ln) (aT:db (t.ar w Z kI) t.size ys vs hD) (ha:bM w0 F0 s w ι Z ln) (hb:bM w0 F0 s w ι Z hD) (l4:ai.apart ln hD) :
  ∃Z' CV CW,Inv w0 F0 Z0 n s a w ι Z'∧ai.sub Z Z'∧(ae.sl t).ar w Z' (.O (meet oo kI)) xs [v] CV∧db (t.ar w Z' (meet oo kI)) t.size ys vs CW∧bM w0 F0 s w ι Z' CV∧bM w0 F0 s w ι Z' CW∧ai.apart CV CW:=by
 unfold meet;cases hm:bl.beq oo kI
 ·simp only [cond_false];obtain ⟨F',h1,h2⟩:=RV hx;have dZ:bM w0 F0 s w ι Z ((ai.diff ln F').or hD):=(ha.sub fun b o h=>h.1).or hb;refine⟨_,F',ai.none,h.freeze dZ,fun _ _ h=>.inl h,ae.ar.mono ?_ _ _ (fun _ _ h=>h) h2,?_,?_,.none,fun _ _ _ h=>h⟩
  ·rintro b o (hz | hz)
   ·exact .inl hz
   ·exact .inr (.inl hz)
  ·exact aT.bare fun y us G hs hr=>ae.ar.read (fun _ _ h=>.inl h) t kI (fun b o aI=>.inr (.inr (hs b o aI))) hr
  ·refine(ha.sub h1).freeze ?_
   rintro b o hf (aI | aI)
   ·exact aI.2 hf
   ·exact l4 b o (h1 b o hf) aI
 ·have:=bl.eq_of_beq _ _ hm;subst this;exact⟨Z,ln,hD,h,fun _ _ h=>h,hx,aT,ha,hb,l4⟩
theorem Jk(z:Array Value)(k:Nat):(Builtin.zeroCells z k).size=k*z.size:=by simp [Builtin.zeroCells]
theorem run_append_room{A:Option Addr}{m c k size:Nat}{vs:List Value}{vb:Value}{hU ib ty e:TypeId}{ats:Array TypeId}{args:Array Value}
  (h0:ats[0]?=some hU) (h1:ats[1]?=some ib) (h2:args[0]?=some (.slice A m c)) (h3:args[1]?=some vb) (hu:P.underlying hU=some (.slice e)) (hs:(sizeOf e).run P w=.ok size w)
  (km:P.underlying ib=some .string∨∃gr,P.underlying ib=some (.slice gr)) (oF:m+k≤c) (hl:(Builtin.lenOf vb).run P w=.ok k w) (hf:(Builtin.firstCells size k vb).run P w=.ok vs.toArray w)
  (hst:∀a,A=some a→(storeCells (a.add (m*size)) vs).run P w=.ok () w') (hn:A=none→w'=w):(Builtin.append_ ats ty args).run P w=.ok (.slice A (m+k) c) w':=by
 unfold Builtin.append_;rcases km with km | ⟨gr,km⟩
 all_goals
  simp only [h0,h1,h2,h3,run_bind,run_underlying hu,hs,run_underlying km,run_pure];simp only [Bool.false_eq_true,if_false,run_bind,hl,if_pos oF,Bool.not_false,if_true,hf]
  cases A with
  | none=>rw [hn rfl];rfl
  | some a=>simp only [run_bind,hst a rfl,run_pure]
theorem run_append_grow{A:Option Addr}{m c k size:Nat}{us vs:List Value}{vb z:Value}{hU ib ty e:TypeId}{ats:Array TypeId}{args:Array Value}{i:TypeInfo}
  (h0:ats[0]?=some hU) (h1:ats[1]?=some ib) (h2:args[0]?=some (.slice A m c)) (h3:args[1]?=some vb) (hu:P.underlying hU=some (.slice e)) (hi:P.info? e=some i) (hsz:i.size=size) (hz:i.zero=some z)
  (km:P.underlying ib=some .string∨∃gr,P.underlying ib=some (.slice gr)) (oF:¬m+k≤c) (hl:(Builtin.lenOf vb).run P w=.ok k w)
  (CX:∀d,(Builtin.firstCells size m (.slice A m c)).run P { w with drawn:=d } = .ok us.toArray { w with drawn:=d })
  (hf:∀d,(Builtin.firstCells size k vb).run P { w with drawn:=d } = .ok vs.toArray { w with drawn:=d })
  (hr:m+k≤68719476736) (hb:i.bytes≤2048) :
  ∃q,m+k≤q∧(Builtin.append_ ats ty args).run P w=.ok (.slice (some (at_ w.heap.size 0)) (m+k) q) (grown w (w.drawn+1) (us.toArray++vs.toArray++Builtin.zeroCells z.cells (q-(m+k))) e (0,0)):=by
 have hq:(Question.appendCap (m+k) c e).forced=false:=rfl;have ac7:¬(((m+k:Nat):Int)>IntKind.i64.max):=by simp [IntKind.max,IntKind.signed,IntKind.bits];omega
 have ac8:¬(Builtin.nextslicecap (m+k) c*i.bytes>2 ^ 48):=by have h1:=nextslicecap_le (need:=m+k) (old:=c) (by omega);have h2:Builtin.nextslicecap (m+k) c*i.bytes≤(2*68719476736)*2048:=Nat.mul_le_mul (by omega) hb;omega
 have ac9:(sizeOf e).run P w=.ok size w:=by simp [sizeOf,run_bind,run_typeInfo hi,run_pure,hsz]
 have hzero:∀w:World,(zeroValue e).run P w=.ok z w:=by intro w;simp [zeroValue,run_bind,run_typeInfo hi,run_pure,hz]
 refine⟨m+k+w.tape w.drawn (.appendCap (m+k) c e) % (2 ^ 63-(m+k)),by omega,?_⟩;unfold Builtin.append_;rcases km with km | ⟨gr,km⟩
 all_goals
  simp only [h0,h1,h2,h3,run_bind,run_underlying hu,ac9,run_underlying km,run_pure];simp only [Bool.false_eq_true,if_false,run_bind,hl,if_neg oF,Bool.not_false,if_true,ac7,false_and,run_typeInfo hi,ac8,choose,Sem.run,hq,Question.cut,run_askRoom,CX,hf,hzero];rfl
theorem SM{t:ae}{m:bl}{xs ys:List t.D}{lT vb:Value}{vs:List Value}{ln hD:ai}{hU ib ty e:TypeId}{ats:Array TypeId}{args:Array Value}
  (h0:ats[0]?=some hU) (h1:ats[1]?=some ib) (h2:args[0]?=some lT) (h3:args[1]?=some vb) (hu:P.underlying hU=some (.slice e)) (cK:t.ok P e)
  (km:P.underlying ib=some .string∨∃gr,P.underlying ib=some (.slice gr)) (hroom:xs.length+ys.length≤68719476736)
  (h:Inv w0 F0 Z0 n s a w ι Z) (cf:s.o id=.none) (hx:(ae.sl t).ar w Z (.O m) xs [lT] ln) (aT:db (t.ar w Z m) t.size ys vs hD) (ha:bM w0 F0 s w ι Z ln) (hb:bM w0 F0 s w ι Z hD) (l4:ai.apart ln hD)
  (hl:(Builtin.lenOf vb).run P w=.ok ys.length w) (hf:∀d,(Builtin.firstCells t.size ys.length vb).run P { w with drawn:=d } = .ok vs.toArray { w with drawn:=d }) :
  ∃u w' i,(Builtin.append_ ats ty args).run P w=.ok u w'∧Inv w0 F0 Z0 n (s.bV id (.row t m 0 (xs++ys))) a w' (bZ ι id i) Z∧cw w' Z (s.bV id (.row t m 0 (xs++ys))) (bZ ι id i) (.ah id none) u:=by
 obtain ⟨A,c,us,rfl,hex,CX⟩:=CU (P:=P) hx;obtain ⟨i,gT,gw,xm,Kg⟩:=cK.info;have zB:(dQ t t.cW).cells.size=t.size:=by have:=congrArg List.length (xl t);rw [Array.length_toList,ae.l0] at this;exact this
 have SN:(Builtin.firstCells t.size ys.length vb).run P w=.ok vs.toArray w:=hf w.drawn;have aq3:(Builtin.firstCells t.size xs.length (.slice A xs.length c)).run P w=.ok us.toArray w:=CX w.drawn;have ac_:=hex.len;have SO:=aT.len;by_cases oF:xs.length+ys.length≤c
 ·
  have hrow:=hx;simp only [ae.ar] at hrow;obtain ⟨nx,c',hv,hrow⟩:=hrow;simp only [List.cons.injEq,Value.slice.injEq,and_true,true_and] at hv;obtain ⟨rfl,rfl⟩:=hv;rcases hrow with⟨rfl,rfl⟩ | ⟨⟨b,o,sp⟩,rfl,hr⟩
  ·have ac':ys=[]:=List.eq_nil_of_length_eq_zero (by simp at oF;simpa using oF);subst ac';have SP:vs=[]:=List.eq_nil_of_length_eq_zero (by simpa using SO);subst SP;refine⟨.slice A 0 0,w,⟨none,0,ai.none⟩,?_,h.CH cf (.inl ⟨rfl,rfl⟩) .none,?_⟩
   ·exact run_append_room h0 h1 h2 h3 hu (run_sizeOf cK) km (Nat.le_refl 0) hl SN (fun a _=>rfl) (fun _=>rfl)
   ·refine⟨by show bZ s.o id _ id≠_;rw [cN];simp,A,0,0,rfl,?_⟩;intro cq gF nz f' ho;have sd:(bZ s.o id (cE.row t m 0 ([]++[])) id).core=.row cq gF nz f':=ho;rw [cN] at sd;obtain ⟨rfl,_,_,h4⟩:=cE.row.inj sd;have:=eq_of_heq h4;subst this;exact⟨rfl,by simp [er],Nat.le_refl _,by simp [er],.inl rfl⟩
  ·have hsp:=hr.spot;simp only at hsp;subst hsp;obtain ⟨G,g1,g2,g3⟩:=hr.row;have hle:(xs.length+ys.length)*t.size≤c*t.size:=Nat.mul_le_mul_right _ oF;rw [Nat.add_mul] at hle;have hwr:∀j,j<vs.length→fC w b (o+xs.length*t.size+j):=fun j hj=>by have:=(hr.wr (xs.length*t.size+j) (by omega)).1;rwa [← Nat.add_assoc] at this
   have dZ:bM w0 F0 s w ι Z (ai.run b o (c*t.size)):=ha.sub (by
    rintro b' o' ⟨rfl,h1,h2⟩
    have:=hr.inF (o'-o) (by omega)
    rwa [show o +(o'-o)=o' by omega] at this)
   have ada:ai.apart G (ai.run b o (c*t.size)):=by
    rintro b' o' aI ⟨rfl,h1,h2⟩
    have:=g2 (o'-o) (by omega);exact this (by show G b' (o +(o'-o));rw [show o +(o'-o)=o' by omega];exact aI)
   have lp:Ext w (setCells w b (o+xs.length*t.size) vs) (ai.run b o (c*t.size)):=oi b vs w _ (fun j hj=>⟨rfl,by omega,by omega⟩);have hinv:=h.CT dZ lp;obtain ⟨aX,k1,k2⟩:=g1.tP;have SQ:=k1.len;have nD:∀F,bM w0 F0 s w ι Z F→ai.apart F (ai.run b o (c*t.size))→cd w (setCells w b (o+xs.length*t.size) vs) F:=fun F hF Km=>cd.jg lp (fun b o hf=>(hF.own b o hf).2) Km
   have SR:cd w (setCells w b (o+xs.length*t.size) vs) Z:=cd.jg lp h.je (fun b o hz hs=>dZ.dd b o hs hz);have adb:bM w0 F0 s w ι Z G:=ha.sub g3
   have ade:ai.apart hD (ai.run b o (c*t.size)):=by
    rintro b' o' dP ⟨rfl,h1,h2⟩
    have:=hr.inF (o'-o) (by omega);exact l4 b' o' (by have j3:ln b' (o +(o'-o)):=this;rwa [show o +(o'-o)=o' by omega] at j3) dP
   have e1:db (t.ar (setCells w b (o+xs.length*t.size) vs) Z m) t.size xs aX G:=k1.imp fun y us dx hs hr=>ae.ar.same SR t m ((nD G adb ada).mono hs) hr
   have e2:db (t.ar (setCells w b (o+xs.length*t.size) vs) Z m) t.size ys vs hD:=aT.imp fun y us dx hs hr=>ae.ar.same SR t m ((nD hD hb ade).mono hs) hr
   have kk:bM w0 F0 s (setCells w b (o+xs.length*t.size) vs) ι Z (ln.or hD):=(ha.or hb).ext lp;refine⟨.slice (some (at_ b o)) (xs.length+ys.length) c,_,⟨some (at_ b o),c,ln.or hD⟩,?_,hinv.CH cf ?_ kk,?_⟩
   ·have hst:=Cr (P:=P) (b:=b) (o:=o+xs.length*t.size) vs w 0 (Ct aT) (fun j hj=>by simpa using hwr j hj);simp only [Nat.add_zero] at hst;refine run_append_room h0 h1 h2 h3 hu (run_sizeOf cK) km oF hl SN (fun a ha=>?_) (fun h=>by simp at h);obtain rfl:=aZ ha;rw [show(⟨b,o,none⟩:Addr).add (xs.length*t.size)=at_ b (o+xs.length*t.size) from qC _ _ _];exact hst
   ·refine .inr ⟨at_ b o,rfl,rfl,by simpa using oF,fun j hj=>(lp.kF (hr.wr j hj)),fun j hj=>.inl (hr.inF j hj),G.or hD,?_,?_,fun b o h=>h.imp (g3 b o) (fun h=>h)⟩
    ·refine(e1.append e2 fun b o aI hf=>l4 b o (g3 b o aI) hf).row ?_;refine ca.append (k2.of_eq fun j hj=>?_) ?_
     ·rw [SQ] at hj;refine(w7 b vs w _ (fun i hi=>(hwr i hi).1) b (o+j)).trans (if_neg ?_);omega
     ·rw [SQ];exact acs hwr
    ·rintro j hj (aI | aI)
     ·exact g2 j hj aI
     ·exact l4 _ _ (hr.inF j hj) aI
   ·have:=zA (w:=setCells w b (o+xs.length*t.size) vs) (Z:=Z) (s:=s) (ι := ι) (id:=id) (em:=m) (ver:=0) (xs:=xs++ys) (A:=at_ b o) (c:=c) (F:=ln.or hD) rfl (by simpa using oF);rw [List.length_append] at this;exact this
 ·
  obtain ⟨q,hq,hrun⟩:=run_append_grow (P:=P) (w:=w) (ty:=ty) h0 h1 h2 h3 hu gT gw xm km oF hl CX hf hroom Kg
  have hn:=h.newRow cf (hex.append aT l4) (ha.or hb) (w.drawn+1) (us.toArray++vs.toArray++Builtin.zeroCells (dQ t t.cW).cells (q-(xs.length+ys.length))) e (0,0) q (by
   intro j v hv;rw [Array.getElem?_append_left]
   ·simpa [← List.getElem?_append] using hv
   ·rcases Nat.lt_or_ge j (us++vs).length with h | h
    ·simpa using h
    ·rw [List.getElem?_eq_none h] at hv;simp at hv) (by simpa using hq) (by
   simp only [Array.size_append,List.size_toArray,Jk,zB,ac_,SO];rw [Nat.sub_mul,Nat.add_mul];have:(xs.length+ys.length)*t.size≤q*t.size:=Nat.mul_le_mul_right _ hq;rw [Nat.add_mul] at this
   omega) (.inl rfl) (.inr rfl)
  refine⟨_,_,_,hrun,hn,?_⟩;have:=zA (w:=grown w (w.drawn+1) (us.toArray++vs.toArray++Builtin.zeroCells (dQ t t.cW).cells (q-(xs.length+ys.length))) e (0,0)) (Z:=Z) (s:=s) (ι := ι) (id:=id) (em:=m) (ver:=0) (xs:=xs++ys) (A:=at_ w.heap.size 0) (c:=q) (F:=(ai.run w.heap.size 0 (q*t.size)).or (ln.or hD)) rfl (by simpa using hq);rw [List.length_append] at this;exact this
theorem SS{ak:List Nat}{t:ae}(b3:hB P E)(gU:wZ E ak=some t):∃hU ib rest e,ak=hU :: ib :: rest∧P.underlying hU=some (.slice e)∧t.ok P e∧(P.underlying ib=some .string∨∃gr,P.underlying ib=some (.slice gr)):=by
 unfold wZ at gU;split at gU
 ·rename_i hU ib rest;split at gU
  ·rename_i t1 t2 h1 h2;obtain rfl:=aZ gU;obtain ⟨e,hu,cK⟩:=l1 (b3.ty _ _ h1);obtain ⟨gr,zD,_⟩:=l1 (b3.ty _ _ h2);exact⟨hU,ib,rest,e,rfl,hu,cK,.inr ⟨gr,zD⟩⟩
  ·rename_i t1 h1 h2;obtain rfl:=aZ gU;obtain ⟨e,hu,cK⟩:=l1 (b3.ty _ _ h1);exact⟨hU,ib,rest,e,rfl,hu,cK,.inl (xp (b3.ty _ _ h2))⟩
  ·simp at gU
 ·simp at gU
theorem Kn{t:ae}{u:Value}{c:bd}{x:a_}(hx:oneCell t x=some c)(hr:aV w Z s ι x u):cw w Z s ι c u:=by
 cases x <;> simp only [oneCell] at hx <;> try (simp at hx;done)
 ·obtain rfl:=aZ hx;simpa only [aV] using hr
 ·obtain rfl:=aZ hx;simp only [aV] at hr;exact hr
theorem adf{c:Call}(b3:hB P E)(h:Inv w0 F0 Z0 n s a w ι Z)(ah:∀k,o.dst=some k→k<n)(ho:o.op=.call c)(hb:c.callee=.builtin .append)(hk:c3 E id o s K=some r) :
  ∃au,K au=some r∧o.wp P a w (c8 w0 F0 Z0 n au) Q:=by
 unfold c3 at hk;rw [ho] at hk;simp only [hb] at hk;have hvs:=uu h c.args.toList;have l3:(c.args.map a.eval).toList=c.args.toList.map a.eval:=by simp
 generalize hl:c.args.toList.map (b0 s)=l at hk hvs
 match l,hk,hvs with
 | [],hk,_=>simp [kf] at hk
 | [_],hk,_=>simp [kf] at hk
 | _ :: _ :: _ :: _,hk,_=>simp [kf] at hk
 | [lT,vb],hk,hvs=>
  simp only [kf] at hk;simp only [a8] at hvs;obtain ⟨SU,_,he,nE,adg,_,rfl,Ko,rfl⟩:=hvs
  cases gU:wZ E c.argTypes.toList with
  | none=>rw [gU] at hk;simp at hk
  | some t=>
   rw [gU] at hk;simp only at hk;obtain ⟨hU,ib,rest,e,mF,hu,cK,km⟩:=SS b3 gU
   cases CY:oneCell t lT with
   | none=>rw [CY] at hk;simp at hk
   | some Kp=>
    cases uv:oneCell t vb with
    | none=>rw [CY,uv] at hk;simp at hk
    | some cb=>
      rw [CY,uv] at hk;simp only [RJ] at hk;have nF:=Kn CY nE;have hb1:=Kn uv Ko
      cases qL:added s t cb with
      | none=>rw [qL] at hk;simp at hk
      | some q=>
       obtain ⟨kI,ys,s1⟩:=q;rw [qL] at hk;simp only at hk;obtain ⟨vs,hD,hlen,qM,hels,h1,hs1,oD⟩:=SK (P:=P) qL h hb1
       cases kK:taken s1 t Kp with
       | none=>rw [kK] at hk;simp at hk
       | some q=>
        obtain ⟨oo,xs,s2⟩:=q;rw [kK] at hk;simp only at hk;obtain ⟨ln,hx,h2,oE,hf2,cj⟩:=SL kK h1 (nF.move hs1.et)
        cases ny:mkObj s2 id (.row t (meet oo kI) 0 (xs++ys)) with
        | none=>rw [ny] at hk;simp at hk
        | some s3=>
         rw [ny] at hk;obtain ⟨hroom,hk2⟩:=sj hk;clear hk;obtain ⟨cf,rfl⟩:=qI ny
         obtain ⟨bR,CV,CW,h3,_,lp,CN,adh,dP,adi⟩:=ac6 h2 hx hels hf2 (oD.shrink oE) (by
          intro b o adj adk;obtain ⟨j,hj,zC⟩:=cj b o adj
          exact oD.apart j hj b o adk zC)
         obtain ⟨u,w',bp,hrun,hinv,hcell⟩:=SM (P:=P) (id:=id) (ty:=o.type) (ats:=c.argTypes) (args:=c.args.map a.eval) (by rw [← Array.getElem?_toList,mF];rfl) (by rw [← Array.getElem?_toList,mF];rfl)
          (by rw [← Array.getElem?_toList,l3,he];rfl) (by rw [← Array.getElem?_toList,l3,he];rfl) hu cK km (Nat.le_of_ble_eq_true hroom) h3 cf lp CN adh dP adi hlen qM
         refine⟨_,hk2,mA (v:=u) (w':=w') ?_ hinv (by simp only [aV];exact hcell) ah⟩;unfold execOp;rw [ho];simp only [run_bind,resolve,hb,run_pure,invoke];unfold builtin;exact gd hrun
theorem db.cut{α : Type}{R : α → List Value→ai→Prop}{size:Nat} : ∀ {xs:List α} {vs:List Value} {F:ai} (k:Nat),db R size xs vs F→db R size (xs.take k) (vs.take (k*size)) F∧db R size (xs.drop k) (vs.drop (k*size)) F
 | xs,vs,F,0,h=>by simp only [Nat.zero_mul,List.take_zero,List.drop_zero];exact⟨rfl,h⟩
 | [],vs,F,k+1,h=>by simp only [db] at h;subst h;simp [db]
 | x :: xs,vs,F,k+1,⟨us,ak,G,H,h1,h2,h3,h4,a',br,bL⟩=>by
  obtain ⟨p,q⟩:=db.cut k h4;subst h1;have e:(k+1)*size=us.length+k*size:=by rw [Nat.add_one_mul,h3];omega
  refine⟨⟨us,ak.take (k*size),G,H,?_,h2,h3,p,a',br,bL⟩,?_⟩
  ·rw [e,List.take_length_add_append]
  ·rw [e,List.drop_length_add_append];exact q.mono bL
theorem adl(us:List Value)(z:Array Value)(hz:z.toList=us)(n:Nat):(Builtin.zeroCells z n).toList=(List.replicate n us).flatten:=by
 have hl:(Builtin.zeroCells z n).toList.length=(List.replicate n us).flatten.length:=by rw [Array.length_toList,Jk];subst hz;simp
 refine List.ext_getElem? fun j=>?_
 cases hj:(List.replicate n us).flatten[j]? with
 | none=>rw [List.getElem?_eq_none_iff] at hj ⊢;omega
 | some v=>have:=Kf (z:=z) (m:=n*z.size) us n hz (by subst hz;simp) v hj;rw [Array.getElem?_toList];exact this
theorem Inv.rewrite(h:Inv w0 F0 Z0 n s a w ι Z){id:Nat}{t:ae}{em:bl}{ver:Nat}{xs f':List t.D}(ho:s.o id=.row t em ver xs)(hl:xs.length=f'.length)(hx:Ext w w' (ι id).F)
  (da:eR w Z s ι w' Z (s.bV id (.row t em (ver+1) f')) ι → ie w' Z (s.bV id (.row t em (ver+1) f')) ι (ι id) (.row t em (ver+1) f')):Inv w0 F0 Z0 n (s.bV id (.row t em (ver+1) f')) a w' ι Z:=by
 have cj:(s.o id).live:=by rw [ho];trivial
 let o':cE:=.row t em (ver+1) f'
 have hm:eR w Z s ι w' Z (s.bV id o') ι := by
  refine⟨fun j=>?_,fun _ _ h=>h,cd.jg hx h.se ?_⟩
  ·show jf (s.o j) (ι j) (bZ s.o id o' j) (ι j);by_cases hj:id=j
   ·subst hj;rw [cN,ho];exact .row _ _ _ _ _ _ _ _ _ (by omega) (by omega) rfl rfl
   ·rw [cZ hj];exact .stay _ _
  ·rintro b o (hz | ⟨ei,gu,qE,_,hf⟩) iK
   ·exact h.dd id cj b o iK hz
   ·have hne:ei≠id:=by
     rintro rfl
     have:bZ s.o ei o' ei=s.o ei:=qE;rw [cN,ho] at this;injection this with h1 h2 h3
     omega
    exact h.apart ei id gu cj hne b o hf iK
 have sf:∀ {j},id≠j→((s.bV id o').o j).live→(s.o j).live:=fun hj hl=>by have:(bZ s.o id o' _).live:=hl;rwa [cZ hj] at this
 refine h.next hm hx (fun b o hf=>(h.own id cj b o hf).1) (fun _ _ h=>.inl h) ?_ ?_ (fun k=>(h.tmps k).move hm) h.size h.defers
 ·intro j hl hne;by_cases hj:id=j
  ·subst hj;refine⟨?_,fun b o hf=>⟨(h.own _ cj b o hf).1,Nat.lt_of_lt_of_le (h.own _ cj b o hf).2 hx.size⟩,fun ei gu j2=>h.apart id ei cj (sf j2 gu) j2⟩;show ie _ _ _ _ _ (bZ s.o id o' id);rw [cN];exact da hm
  ·exact absurd ⟨cZ hj,rfl⟩ hne
 ·intro j hl;by_cases hj:id=j
  ·subst hj;exact h.dd _ cj
  ·exact h.dd j (sf hj hl)
theorem adm{t e ty:TypeId}{T:ae}{A:Option Addr}{k c:Nat}(hu:P.underlying t=some (.slice e))(cK:T.ok P e){b o:Nat}(hA:0<k→A=some (at_ b o))(hw:∀j,j<k*T.size→fC w b (o+j)) :
  (Builtin.clear_ #[t] ty #[.slice A k c]).run P w=.ok (.tuple #[]) (setCells w b o (List.replicate k T.cW).flatten):=by
 rcases Nat.eq_zero_or_pos k with rfl | hk
 ·unfold Builtin.clear_;cases A <;>(simp only [List.getElem?_toArray,List.getElem?_cons_zero,run_bind,run_underlying hu];rfl)
 ·rw [hA hk];obtain ⟨m,rfl⟩:∃m,k=m+1:=⟨k-1,by omega⟩
  have hc:=adl T.cW (dQ T T.cW).cells (xl T) (m+1);have h1:∀v∈(List.replicate (m+1) T.cW).flatten,ek v=true:=by intro v hv;rw [List.mem_flatten] at hv;obtain ⟨l,h1,h2⟩:=hv;rw [(List.mem_replicate.1 h1).2] at h2;exact((sh (w:=default) (Z:=ai.none) (s:=⟨fun _=>.ay,fun _=>.none,[]⟩) (ι := fun _=>⟨none,0,ai.none⟩) T).ek) v h2
  have hst:=Cr (P:=P) (b:=b) (o:=o) _ w 0 h1 (fun i hi=>by
   have:=hw i (by simpa [ae.l0] using hi)
   simpa using this)
  unfold Builtin.clear_;simp only [List.getElem?_toArray,List.getElem?_cons_zero,run_bind,run_underlying hu,CK cK,hc];simp only [Nat.add_zero] at hst;rw [hst];rfl
theorem adn{c:Call}(b3:hB P E)(h:Inv w0 F0 Z0 n s a w ι Z)(ah:∀k,o.dst=some k→k<n)(ho:o.op=.call c)(hb:c.callee=.builtin .clear)(hk:c3 E id o s K=some r) :
  ∃au,K au=some r∧o.wp P a w (c8 w0 F0 Z0 n au) Q:=by
 unfold c3 at hk;rw [ho] at hk;simp only [hb] at hk;have hvs:=uu h c.args.toList;have l3:(c.args.map a.eval).toList=c.args.toList.map a.eval:=by simp
 generalize hl:c.args.toList.map (b0 s)=l at hk hvs
 match l,hk,hvs with
 | [.aW (.ah i sub)],hk,hvs=>
  simp only [kf] at hk
  cases gU:c.argTypes.toList with
  | nil=>rw [gU] at hk;simp at hk
  | cons t ak=>
   rw [gU] at hk;simp only at hk
   cases ht:E.ty t with
   | none=>rw [ht] at hk;simp at hk
   | some T=>
    cases b1:s.o i with
    | row v em ver xs=>
     rw [ht,b1] at hk
     cases T with
     | sl u=>
      simp only at hk;cases hf:(ae.beq u v&&v.flat)
      ·rw [hf] at hk;simp at hk
      rw [hf] at hk;simp only [cond_true] at hk;simp only [Bool.and_eq_true] at hf;obtain ⟨hf,ik⟩:=hf;have:=ae.eq_of_beq _ _ hf;subst this;simp only [a8,aV] at hvs;obtain ⟨aq4,us,he,⟨ki,A,k,kh,rfl,hh⟩,rfl⟩:=hvs;obtain ⟨e,hu,cK⟩:=l1 (b3.ty _ _ ht);have hr:=hh u em ver xs (lU b1);obtain ⟨cM,SV,aq5,rc,CZ⟩:=hr
      have hkk:k=lQ sub xs:=by
       rw [cM];cases sub with
       | none=>rfl
       | some p=>rfl
      rw [← hkk] at hk;generalize iL:er sub=lo at *;have nA:(c.args.map a.eval) = #[.slice A k kh]:=by apply Array.ext';rw [l3,he]
      have pL:c.argTypes[0]?=some t:=by rw [← Array.getElem?_toList,gU];rfl
      have hlen:xs.length=(xs.take lo++List.replicate k u.zero++xs.drop (lo+k)).length:=by simp;omega
      have SW:=h.f_ i;rw [b1] at SW
      have hfin:∃(b C0:Nat),(0<k→A=some (at_ b C0))∧(∀j,j<k*u.size→fC w b (C0+j))∧Inv w0 F0 Z0 n (s.bV i (.row u em (ver+1) (xs.take lo++List.replicate k u.zero++xs.drop (lo+k)))) a (setCells w b C0 (List.replicate k u.cW).flatten) ι Z:=by
       rcases SW with⟨h1,h2⟩ | ⟨a0,gx,hrow⟩
       ·have hk0:k=0:=by rw [h1] at SV;simp at SV;omega
        subst hk0;refine⟨0,0,fun h=>by omega,fun j hj=>by omega,?_⟩;refine h.rewrite b1 hlen (Ext.refl _ _) fun _=>?_
        exact .inl ⟨by rw [h1];simp,h2⟩
       ·have hle:(lo+k)*u.size≤(ι i).cap*u.size:=Nat.mul_le_mul_right _ (by have:=hrow.cap;omega);rw [Nat.add_mul] at hle;have hwr:∀j,j<k*u.size→fC w a0.block (a0.off+lo*u.size+j):=fun j hj=>by have:=(hrow.wr (lo*u.size+j) (by omega)).1;rwa [← Nat.add_assoc] at this
        have zB:(List.replicate k u.cW).flatten.length=k*u.size:=by simp [ae.l0]
        have hx:Ext w (setCells w a0.block (a0.off+lo*u.size) (List.replicate k u.cW).flatten) (ι i).F:=oi _ _ _ _ fun j hj=>by have:=hrow.inF (lo*u.size+j) (by omega);rwa [← Nat.add_assoc] at this
        refine⟨a0.block,a0.off+lo*u.size,fun hk0=>?_,hwr,h.rewrite b1 hlen hx fun _=>.inr ⟨a0,gx,hrow.spot,by rw [← hlen];exact hrow.cap,fun j hj=>hx.kF (hrow.wr j hj),hrow.inF,ai.none,?_,fun _ _ h=>h,fun _ _ h=>h.elim⟩⟩
        ·rcases CZ with CZ | ⟨a1,hb1,CZ⟩
         ·omega
         ·rw [gx] at hb1;obtain rfl:=aZ hb1;exact CZ
        ·obtain ⟨G,bH,cm,gQ⟩:=hrow.row;obtain ⟨us,e1,e2⟩:=Row.tP bH;have e1:db (u.ar (setCells w a0.block (a0.off+lo*u.size) (List.replicate k u.cW).flatten) Z em) u.size xs us ai.none:=e1.bare fun y us dx _ aT=>r3 u (F:=ai.none) ik (ae.ar.same (Z:=ai.none) (fun _ _ h=>h.elim) u em (F:=ai.none) (fun _ _ h=>h.elim) (r3 u ik aT))
         have pG:=e1.len
         have hsp:=r2 (k:=lo*u.size) (vs:=(List.replicate k u.cW).flatten) e2 (fun i hi=>(hrow.wr i (by
          have:xs.length*u.size≤(ι _).cap*u.size:=Nat.mul_le_mul_right _ hrow.cap
          omega)).1) (by
          rw [zB,pG,← Nat.add_mul];exact Nat.mul_le_mul_right _ (by omega))
         refine db.row ?_ hsp;have c1:=(e1.cut lo).1;have gR:=(e1.cut (lo+k)).2;have ado:=db.replicate (R:=u.ar (setCells w a0.block (a0.off+lo*u.size) (List.replicate k u.cW).flatten) Z em) (Ke u em) (ae.l0 u) k;have:=((c1.append ado fun _ _ h _=>h.elim).append gR fun _ _ _ h=>h.elim);unfold dr;rw [zB,← Nat.add_mul];refine this.bare fun y us G _ aT=>r3 u ik aT
      obtain ⟨b,C0,hA,hw,hi⟩:=hfin;refine⟨_,hk,mA (v:=.tuple #[]) ?_ hi (by simp only [aV,a8];exact⟨[],rfl,rfl⟩) ah⟩;unfold execOp;rw [ho];simp only [run_bind,resolve,hb,run_pure,invoke];unfold builtin;refine gd ?_;have hrun:=adm (P:=P) (w:=w) (ty:=o.type) (c:=kh) hu cK hA hw;rw [nA];have adp:Builtin.clear_ c.argTypes o.type #[.slice A k kh]=Builtin.clear_ #[t] o.type #[.slice A k kh]:=by unfold Builtin.clear_;rw [pL];rfl
      rw [adp];exact hrun
     | _=>simp at hk
    | _=>rw [ht,b1] at hk;cases T <;> simp at hk
 | [],hk,_=>simp [kf] at hk
 | _ :: _ :: _,hk,_=>simp [kf] at hk
 | [.ay],hk,_ | [.iD _],hk,_ | [.ptr _],hk,_ | [.dk _ _ _],hk,_ | [.kd],hk,_ | [.ld],hk,_ | [.opt _ _],hk,_ | [.may _ _ _],hk,_ | [.r4 _],hk,_ | [.fn _ _ _],hk,_ | [.px _],hk,_=>simp [kf] at hk
 | [.aW (.int _ _)],hk,_ | [.aW (.bool _)],hk,_ | [.aW (.str _)],hk,_ | [.aW (.nil _)],hk,_ | [.aW (.bY _ _ _ _)],hk,_=>simp [kf] at hk
end
end Go.LM
namespace Go.LM
theorem Row.C1{α : Type}{w:World}{R : α → List Value→ai→Prop}{size:Nat} : ∀ {x:List α} {b o:Nat} {F:ai} (i:Nat) (hi:i<x.length),Row w R size x b o F →
  ∃G1 jj G2 vs,Row w R size (x.take i) b o G1∧R x[i] vs jj∧vs.length=size∧ca w b (o+i*size) vs∧Row w R size (x.drop (i+1)) b (o +(i+1)*size) G2 ∧
   ai.apart G1 jj∧ai.apart G1 G2∧ai.apart jj G2∧ai.sub G1 F∧ai.sub jj F∧ai.sub G2 F
 | y :: x,b,o,F,0,_,⟨vs,G,H,h1,h2,h3,h4,a',br,bL⟩=>⟨ai.none,G,H,vs,trivial,h1,h2,by simpa using h3,by simpa using h4,fun _ _ h=>h.elim,fun _ _ h=>h.elim,a',fun _ _ h=>h.elim,br,bL⟩
 | y :: x,b,o,F,i+1,hi,⟨vs,G,H,h1,h2,h3,h4,a',br,bL⟩=>by
  obtain ⟨G1,jj,G2,us,k1,k2,k3,bg,bx,du,dq,df,eY,dC,cL⟩:=Row.C1 i (by simpa using hi) h4;refine⟨G.or G1,jj,G2,us,⟨vs,G,G1,h1,h2,h3,k1,fun b o h k=>a' b o h (eY b o k),fun _ _ h=>.inl h,fun _ _ h=>.inr h⟩,k2,k3,?_,?_,?_,?_,df,?_,fun b o h=>bL b o (dC b o h),fun b o h=>bL b o (cL b o h)⟩
  ·rwa [show o +(i+1)*size=o+size+i*size by rw [Nat.add_one_mul];omega]
  ·have e:o +(i+1+1)*size=o+size +(i+1)*size:=by rw [Nat.add_one_mul (i+1)];omega
   rw [e];exact bx
  ·rintro b o (h | h) k
   ·exact a' b o h (dC b o k)
   ·exact du b o h k
  ·rintro b o (h | h) k
   ·exact a' b o h (cL b o k)
   ·exact dq b o h k
  ·rintro b o (h | h)
   ·exact br b o h
   ·exact bL b o (eY b o h)
theorem Row.C2{α : Type}{w:World}{R : α → List Value→ai→Prop}{size:Nat}{y : α}{vs:List Value}{jj:ai} : ∀ {x:List α} {b o:Nat} {G1 G2:ai} (i:Nat),i<x.length→Row w R size (x.take i) b o G1→R y vs jj→vs.length=size →
  ca w b (o+i*size) vs→Row w R size (x.drop (i+1)) b (o +(i+1)*size) G2→ai.apart G1 jj→ai.apart G1 G2→ai.apart jj G2→Row w R size (x.set i y) b o (G1.or (jj.or G2))
 | [],_,_,_,_,_,hi,_,_,_,_,_,_,_,_=>by simp at hi
 | z :: x,b,o,G1,G2,0,_,_,h2,h3,h4,a',_,_,dg=>⟨vs,jj,G2,h2,h3,by simpa using h4,by simpa using a',dg,fun _ _ h=>.inr (.inl h),fun _ _ h=>.inr (.inr h)⟩
 | z :: x,b,o,G1,G2,i+1,hi,⟨ws,A,B,a1,a2,a3,a4,a5,Kq,Kr⟩,h2,h3,h4,a',br,bL,dg=>by
  have e1:o +(i+1)*size=o+size+i*size:=by rw [Nat.add_one_mul];omega
  have e2:o +(i+1+1)*size=o+size +(i+1)*size:=by rw [Nat.add_one_mul (i+1)];omega
  have:=Row.C2 i (by simpa using hi) a4 h2 h3 (by rwa [← e1]) (by rw [← e2];exact a') (fun b o x y=>br b o (Kr b o x) y) (fun b o x y=>bL b o (Kr b o x) y) dg;refine⟨ws,A,_,a1,a2,a3,this,?_,fun b o h=>.inl (Kq b o h),?_⟩
  ·rintro b o x (y | y | y)
   ·exact a5 b o x y
   ·exact br b o (Kq b o x) y
   ·exact bL b o (Kq b o x) y
  ·rintro b o (y | y | y)
   ·exact .inl (Kr b o y)
   ·exact .inr (.inl y)
   ·exact .inr (.inr y)
mutual
theorem ae.xr:∀(T:ae) {off:Nat} {t:ae} {x:T.D} {z:List t.D},T.flat=true→T.getAt off t x=some z→False
 | .int _,_,_,_,_,_,h=>by simp [ae.getAt] at h
 | .bool,_,_,_,_,_,h=>by simp [ae.getAt] at h
 | .str,_,_,_,_,_,h=>by simp [ae.getAt] at h
 | .raw,_,_,_,_,_,h=>by simp [ae.getAt] at h
 | .sl t,_,_,_,_,hf,_=>by simp [ae.flat] at hf
 | .st ak,_,_,_,_,hf,h=>aC.xr ak (by simpa only [ae.flat] using hf) (by simpa only [ae.getAt] using h)
theorem aC.xr:∀(ak:aC) {off:Nat} {t:ae} {x:ak.D} {z:List t.D},ak.flat=true→ak.getAt off t x=some z→False
 | .nil,_,_,_,_,_,h=>by simp [aC.getAt] at h
 | .cons T ak,off,t,x,z,hf,h=>by
  simp only [aC.flat] at hf;cases h1:T.flat
  ·rw [h1] at hf;cases hf
  rw [h1] at hf;simp only [aC.getAt] at h;cases hb:Nat.blt off T.size
  ·rw [hb] at h;exact aC.xr ak hf h
  ·rw [hb] at h;exact ae.xr T h1 h
end
section
variable{w ch:World}{Z bR:ai}
theorem qN(t:ae){x:t.D}{vs:List Value}{F:ai}(hF:cd w ch F)(h:t.ar w Z t.own x vs F):t.ar ch bR t.own x vs F:=
 uh t (ae.ar.same (Z:=ai.none) (fun _ _ h=>h.elim) t t.own hF (uh t h))
theorem SX(t:aC){x:t.D}{vs:List Value}{F:ai}(hF:cd w ch F)(h:t.ar w Z t.own x vs F):t.ar ch bR t.own x vs F:=
 CG t (aC.ar.same (Z:=ai.none) (fun _ _ h=>h.elim) t t.own hF (CG t h))
def SY(w:World)(Z:ai)(t:ae)(z:List t.D)(v:Value)(H1 G1:ai)(R:World→ai→List t.D→ai→Prop):Prop:=
 (ae.sl t).ar w Z (.O t.own) z [v] H1∧ai.apart H1 G1∧∀(ch:World) (bR X:ai) (y:List t.D),cd w ch G1→(ae.sl t).ar ch bR (.O t.own) y [v] X→ai.apart X G1→R ch bR y (X.or G1)
mutual
theorem ae.lens:∀(T:ae) (off:Nat) (t:ae) {x:T.D} {z:List t.D} {us:List Value} {G:ai},T.ar w Z T.own x us G→T.getAt off t x=some z →
  ∃v H1 G1,us[off]?=some v∧ai.sub H1 G∧ai.sub G1 G∧SY w Z t z v H1 G1 (fun ch bR y eT=>∀bG,T.setAt off t y x=some bG→T.ar ch bR T.own bG us eT)
 | .int _,_,_,_,_,_,_,_,h=>by simp [ae.getAt] at h
 | .bool,_,_,_,_,_,_,_,h=>by simp [ae.getAt] at h
 | .str,_,_,_,_,_,_,_,h=>by simp [ae.getAt] at h
 | .raw,_,_,_,_,_,_,_,h=>by simp [ae.getAt] at h
 | .sl u,off,t,x,z,us,G,hr,h=>by
  simp only [ae.getAt] at h;cases hb:Nat.beq off 0
  ·rw [hb] at h;cases h
  rw [hb] at h;obtain rfl:=Nat.eq_of_beq_eq_true hb;obtain ⟨e,rfl⟩:=hp h;subst e;have iJ:=hr;simp only [ae.own,ae.ar] at hr;obtain ⟨A,c,rfl,_⟩:=hr;refine⟨_,G,ai.none,rfl,fun _ _ h=>h,fun _ _ h=>h.elim,iJ,fun _ _ _ h=>h.elim,fun ch bR X y _ h2 _ bG hs=>?_⟩;simp only [ae.setAt] at hs;obtain ⟨e,rfl⟩:=hp (show eP (.sl u) (.sl u) y=some bG from hs);exact ae.ar.mono (fun _ _ h=>h) _ _ (fun _ _ h=>.inl h) h2
 | .st ak,off,t,x,z,us,G,hr,h=>by
  have ik:ak.flat=false:=by
   cases hf:ak.flat
   ·rfl
   ·exact(ae.xr (.st ak) (by simpa only [ae.flat] using hf) h).elim
  simp only [ae.own,ik,Bool.false_eq_true,if_false,ae.ar,bl.parts] at hr;simp only [ae.getAt] at h;obtain ⟨v,H1,G1,h1,h2,h3,h4,a',br⟩:=aC.lens ak off t hr h;refine⟨v,H1,G1,h1,h2,h3,h4,a',fun ch bR X y k1 k2 k3 bG hs=>?_⟩;simp only [ae.setAt] at hs;simp only [ae.own,ik,Bool.false_eq_true,if_false,ae.ar,bl.parts];exact br ch bR X y k1 k2 k3 bG hs
theorem aC.lens:∀(ak:aC) (off:Nat) (t:ae) {x:ak.D} {z:List t.D} {us:List Value} {G:ai},ak.ar w Z ak.own x us G→ak.getAt off t x=some z →
  ∃v H1 G1,us[off]?=some v∧ai.sub H1 G∧ai.sub G1 G∧SY w Z t z v H1 G1 (fun ch bR y eT=>∀bG,ak.setAt off t y x=some bG→ak.ar ch bR ak.own bG us eT)
 | .nil,_,_,_,_,_,_,_,h=>by simp [aC.getAt] at h
 | .cons T ak,off,t,x,z,us,G,hr,h=>by
  simp only [aC.own,aC.ar,c4.ah,c4.dF] at hr;obtain ⟨nq,jk,nG,nH,rfl,bH,cm,hap,ha,hb⟩:=hr;have hl:=(ae.ar.len T _ bH).1;simp only [aC.getAt] at h;cases b2:Nat.blt off T.size
  ·rw [b2] at h
   have xt:T.size≤off:=by
    rcases Nat.lt_or_ge off T.size with h1 | h1
    ·have:Nat.blt off T.size=true:=Nat.ble_eq_true_of_le h1;rw [this] at b2;cases b2
    ·exact h1
   obtain ⟨v,H1,G1,h1,h2,h3,h4,a',br⟩:=aC.lens ak (off-T.size) t cm h;refine⟨v,H1,nG.or G1,?_,fun b o x=>hb b o (h2 b o x),?_,h4,?_,fun ch bR X y k1 k2 k3 bG hs=>?_⟩
   ·rw [List.getElem?_append_right (by omega),hl];exact h1
   ·rintro b o (y | y)
    ·exact ha b o y
    ·exact hb b o (h3 b o y)
   ·rintro b o y (q | q)
    ·exact hap b o q (h2 b o y)
    ·exact a' b o y q
   ·simp only [aC.setAt,b2,cond_false] at hs;obtain ⟨j4,hz,hs⟩:=bq hs;obtain rfl:=aZ hs;simp only [aC.own,aC.ar,c4.ah,c4.dF];refine⟨nq,jk,nG,X.or G1,rfl,qN T (k1.mono fun _ _ h=>.inl h) bH,br ch bR X y (k1.mono fun _ _ h=>.inr h) k2 (fun b o p q=>k3 b o p (.inr q)) j4 hz,?_,fun _ _ h=>.inr (.inl h),?_⟩
    ·rintro b o p (q | q)
     ·exact k3 b o q (.inl p)
     ·exact hap b o p (h3 b o q)
    ·rintro b o (q | q)
     ·exact .inl q
     ·exact .inr (.inr q)
  ·rw [b2] at h;have xt:off<T.size:=Nat.le_of_ble_eq_true b2;obtain ⟨v,H1,G1,h1,h2,h3,h4,a',br⟩:=ae.lens T off t bH h;refine⟨v,H1,G1.or nH,?_,fun b o x=>ha b o (h2 b o x),?_,h4,?_,fun ch bR X y k1 k2 k3 bG hs=>?_⟩
   ·rw [List.getElem?_append_left (by omega)];exact h1
   ·rintro b o (y | y)
    ·exact ha b o (h3 b o y)
    ·exact hb b o y
   ·rintro b o y (q | q)
    ·exact a' b o y q
    ·exact hap b o (h2 b o y) q
   ·simp only [aC.setAt,b2,cond_true] at hs;obtain ⟨j4,hz,hs⟩:=bq hs;obtain rfl:=aZ hs;simp only [aC.own,aC.ar,c4.ah,c4.dF];refine⟨nq,jk,X.or G1,nH,rfl,br ch bR X y (k1.mono fun _ _ h=>.inl h) k2 (fun b o p q=>k3 b o p (.inl q)) j4 hz,SX ak (k1.mono fun _ _ h=>.inr h) cm,?_,?_,fun _ _ h=>.inr (.inr h)⟩
    ·rintro b o (p | p) q
     ·exact k3 b o p (.inr q)
     ·exact hap b o (h3 b o p) q
    ·rintro b o (q | q)
     ·exact .inl q
     ·exact .inr (.inl q)
end
theorem nk.lens{T:ae}{ys:List T.D}{a:Addr}{c:Nat}{F:ai}{i off:Nat}{t:ae}{z:List t.D}(h:nk w (T.ar w Z T.own) T.size ys a c F)(hi:i<ys.length)(aI:T.getAt off t (I T ys i)=some z) :
  ∃v H1,w.cell? (at_ a.block (a.off+i*T.size+off))=some v∧(ae.sl t).ar w Z (.O t.own) z [v] H1∧ai.sub H1 F ∧
   ∀(ch:World) (bR X:ai) (y:List t.D) (bG:T.D),cd w ch (ai.diff F H1)→(ae.sl t).ar ch bR (.O t.own) y [v] X→ai.apart X (ai.diff F H1)→T.setAt off t y (I T ys i)=some bG →
    nk ch (T.ar ch bR T.own) T.size (ys.set i bG) a c (X.or (ai.diff F H1)):=by
 rw [c0 hi] at aI ⊢;obtain ⟨G,g1,g2,g3⟩:=h.row;obtain ⟨nG,jj,nH,vs,bH,Ks,hvl,cB,cm,a1,a2,a3,s1,s2,s3⟩:=g1.C1 i hi;obtain ⟨v,H1,G1,hv,k1,k2,k3,bg,bx⟩:=ae.lens T off t Ks aI;have zE:ai.sub H1 G:=fun b o x=>s2 b o (k1 b o x)
 have hle:ys.length*T.size≤c*T.size:=Nat.mul_le_mul_right _ h.cap;have gT:(i+1)*T.size≤ys.length*T.size:=Nat.mul_le_mul_right _ hi;rw [Nat.add_one_mul] at gT;refine⟨v,H1,?_,k3,fun b o x=>g3 b o (zE b o x),fun ch bR X y bG hs hr hap zF=>?_⟩
 ·have:=cB off v hv;exact this
 have uw:∀ {A:ai},ai.sub A G→ai.apart A H1→ai.sub A (ai.diff F H1):=fun hA av b o x=>⟨g3 b o (hA b o x),fun y=>av b o x y⟩
 have ux:ai.sub nG (ai.diff F H1):=uw s1 fun b o x y=>a1 b o x (k1 b o y)
 have uy:ai.sub nH (ai.diff F H1):=uw s3 fun b o x y=>a3 b o (k1 b o y) x
 have d1:ai.sub G1 (ai.diff F H1):=uw (fun b o x=>s2 b o (k2 b o x)) fun b o x y=>bg b o y x
 have pM:∀j,j<c*T.size→ai.diff F H1 a.block (a.off+j):=fun j hj=>⟨h.inF j hj,fun y=>g2 j hj (zE _ _ y)⟩
 have hcell:∀j,j<c*T.size→ch.cell? (at_ a.block (a.off+j))=w.cell? (at_ a.block (a.off+j)):=fun j hj=>(hs _ _ (pM j hj)).1
 have fD:=bx ch bR X y (hs.mono d1) hr (fun b o p q=>hap b o p (d1 b o q)) bG zF;refine⟨h.spot,by simpa using h.cap,fun j hj=>hs.kF (pM j hj) (h.wr j hj),fun j hj=>.inr (pM j hj),nG.or ((X.or G1).or nH),?_,?_,?_⟩
 ·refine Row.C2 i hi (bH.imp (fun y us dx hG hr=>qN T (hs.mono fun b o p=>ux b o (hG b o p)) hr) fun j hj=>hcell j ?_) fD hvl (cB.of_eq fun j hj=>?_) (cm.imp (fun y us dx hG hr=>qN T (hs.mono fun b o p=>uy b o (hG b o p)) hr) fun j hj=>?_) ?_ a2 ?_
  ·simp only [List.length_take] at hj;have:min i ys.length*T.size≤ys.length*T.size:=Nat.mul_le_mul_right _ (Nat.min_le_right _ _);omega
  ·have:=hcell (i*T.size+j) (by omega);rwa [← Nat.add_assoc] at this
  ·simp only [List.length_drop] at hj;have e1:(ys.length-(i+1))*T.size=ys.length*T.size-(i*T.size+T.size):=by rw [Nat.sub_mul,Nat.add_one_mul]
   rw [e1] at hj;have:=hcell ((i+1)*T.size+j) (by rw [Nat.add_one_mul];omega);rwa [← Nat.add_assoc] at this
  ·rintro b o p (q | q)
   ·exact hap b o q (ux b o p)
   ·exact a1 b o p (k2 b o q)
  ·rintro b o (p | p) q
   ·exact hap b o p (uy b o q)
   ·exact a3 b o (k2 b o p) q
 ·rintro j hj (p | (p | p) | p)
  ·exact g2 j hj (s1 _ _ p)
  ·exact hap _ _ p (pM j hj)
  ·exact g2 j hj (s2 _ _ (k2 _ _ p))
  ·exact g2 j hj (s3 _ _ p)
 ·rintro b o (p | (p | p) | p)
  ·exact .inr (ux b o p)
  ·exact .inl p
  ·exact .inr (d1 b o p)
  ·exact .inr (uy b o p)
end
end Go.LM
