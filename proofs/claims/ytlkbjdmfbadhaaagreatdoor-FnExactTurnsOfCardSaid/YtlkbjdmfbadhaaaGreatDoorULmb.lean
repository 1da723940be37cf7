/- Each operation of the model is what the interpreter says. Conditions: each theorem's own hypotheses. -/
import Derived.Test.YtlkbjdmfbadhaaaGreatDoorULma
import Derived.Laws.BytesString
import Derived.Laws.Tables
import Derived.Laws.Append
set_option linter.unusedVariables false
set_option linter.unusedSimpArgs false
namespace Go.LM
section
variable{P:Program}{Q:Exit→Act→World→Prop}
variable{w0:World}{F0 Z0:ag}{n:cM}{s av:ar}{a b5:Act}{w w':World}{ι bm:Nat→bH}{Z Z':ag}
def c5(w0:World)(F0 Z0:ag)(n:cM)(s:ar)(a:Act)(w:World):Prop:=∃ ι Z,Inv w0 F0 Z0 n s a w ι Z
theorem ad0(v:Value):aT w Z s ι (Kj v) v:=by
 unfold Kj;split <;> simp only [aT,cr]
 exact⟨_,rfl,rfl⟩
theorem fe(h:Inv w0 F0 Z0 n s a w ι Z)(x:Operand):aT w Z s ι (bZ s x) (a.eval x):=by
 cases x with
 | tmp t=>exact h.tmps t
 | const v=>exact ad0 v
 | func f=>simp only [bZ,Act.eval,aT];exact⟨[],[],rfl,by simp only [a'],by simp only [a']⟩
 | global g=>simp only [bZ,aT]
theorem KU{E:Env}{t:Nat}{x y:ba}{v:Value}(h:typed E t x=some y)(hv:aT w Z s ι x v):aT w Z s ι y v:=by
 cases x <;> simp only [typed] at h <;> try (obtain rfl:=aW h;exact hv)
 ·simp at h
 ·simp at h
 ·cases ht:E.ty t with
  | none=>rw [ht] at h;simp at h
  | some T=>
   rw [ht] at h;cases T <;> simp at h
   subst h;simp only [aT] at hv ⊢;exact hv
theorem gk{α : Type}{oM:Sem α}{f : α → Next}{v : α}(h:oM.run P w=.ok v w'):(do pure (f (← oM)):Sem Next).run P w=.ok (f v) w':=by rw [run_bind,h];rfl
theorem mG{o:Oper}{v:Value}{x:ba}{s1:ar}(hr:(execOp a.eval o).run P w=.ok (.value v) w')(h:Inv w0 F0 Z0 n s1 a w' ι Z)(hv:aT w' Z s1 ι x v)
  (af:∀k,o.dst=some k→k<n):o.wp P a w (fun b5 w'=>c5 w0 F0 Z0 n (s1.dst o.dst x) b5 w') Q:=by
 unfold Oper.wp;rw [hr,Oper.upon_value];exact⟨ι,Z,h.dst hv af⟩
theorem wp_skip{o:Oper}{s1:ar}(hr:(execOp a.eval o).run P w=.ok .skip w')(h:Inv w0 F0 Z0 n s1 a w' ι Z)
  (af:∀k,o.dst=some k→k<n):o.wp P a w (fun b5 w'=>c5 w0 F0 Z0 n (s1.dst o.dst .aB) b5 w') Q:=by
 unfold Oper.wp;rw [hr,Oper.upon_skip];exact⟨ι,Z,h.dst (by simp only [aT]) af⟩
def Pure(P:Program)(o:Oper)(a:Act)(w:World)(R:Act→World→Prop):Prop:=∃v,(∀w',(execOp a.eval o).run P w'=.ok (.value v) w')∧R (a.put o.dst v) w
theorem Pure.wp{o:Oper}{R:Act→World→Prop}(h:Pure P o a w R):o.wp P a w R Q:=by obtain ⟨v,h1,h2⟩:=h;unfold Oper.wp;rw [h1 w,Oper.upon_value];exact h2
theorem dE{o:Oper}{v:Value}{x:ba}{s1:ar}(hr:∀w',(execOp a.eval o).run P w'=.ok (.value v) w')(h:Inv w0 F0 Z0 n s1 a w ι Z)(hv:aT w Z s1 ι x v)
  (af:∀k,o.dst=some k→k<n):Pure P o a w (c5 w0 F0 Z0 n (s1.dst o.dst x)):=
 ⟨v,hr,ι,Z,h.dst hv af⟩
structure hB(P:Program)(E:Env):Prop where
 ty:∀id T,E.ty id=some T→T.ok P id
 ptr:∀id,E.uB id=true→∃e,P.underlying id=some (.pointer e)
variable{E:Env}{o:Oper}{bB : Type}{K:ar→Option bB}{r : bB}{id:Nat}
theorem Dk{x:Operand}(h:Inv w0 F0 Z0 n s a w ι Z)(af:∀k,o.dst=some k→k<n)(ho:o.op=.move x∨o.op=.assign x)(hk:cZ E id o s K=some r) :
  ∃av,K av=some r∧Pure P o a w (c5 w0 F0 Z0 n av):=by
 have dO:(match typed E o.type (bZ s x) with | some v=>K (s.dst o.dst v) | none=>none)=some r:=by rcases ho with ho | ho <;>(unfold cZ at hk;rw [ho] at hk;exact hk)
 cases ht:typed E o.type (bZ s x) with
 | none=>rw [ht] at dO;simp at dO
 | some v=>rw [ht] at dO;refine⟨_,dO,dE (v:=a.eval x) (fun w'=>?_) h (KU ht (fe h x)) af⟩;rcases ho with ho | ho <;>(unfold execOp;rw [ho];rfl)
theorem SV{c x y:Operand}(h:Inv w0 F0 Z0 n s a w ι Z)(af:∀k,o.dst=some k→k<n)(ho:o.op=.pick c x y)(hk:cZ E id o s K=some r) :
  ∃av,K av=some r∧Pure P o a w (c5 w0 F0 Z0 n av):=by
 unfold cZ at hk;rw [ho] at hk;simp only at hk;have hc:=fe h c;have hx:=fe h x;have aR:=fe h y;have hrun:∀t,a.eval c=.bool t→∀w',(execOp a.eval o).run P w'=.ok (.value (if t then a.eval x else a.eval y)) w':=by intro t ht w';unfold execOp;rw [ho];simp only [run_bind,asBool,ht,run_pure]
 cases hcv:bZ s c with
 | aV kl=>
  rw [hcv] at hk hc
  cases kl with
  | bool t=>
   simp only [aT,cr] at hc;have hr:=hrun t hc
   cases t with
   | true=>
    cases cQ:typed E o.type (bZ s x) with
    | none=>rw [cQ] at hk;cases gE:typed E o.type (bZ s y) <;> rw [gE] at hk <;> simp at hk
    | some v=>
     rw [cQ] at hk;have:K (s.dst o.dst v)=some r:=by cases gE:typed E o.type (bZ s y) <;> rw [gE] at hk <;> exact hk
     exact⟨_,this,dE hr h (KU cQ hx) af⟩
   | false=>
    cases gE:typed E o.type (bZ s y) with
    | none=>rw [gE] at hk;cases cQ:typed E o.type (bZ s x) <;> rw [cQ] at hk <;> simp at hk
    | some v=>
     rw [gE] at hk;have:K (s.dst o.dst v)=some r:=by cases cQ:typed E o.type (bZ s x) <;> rw [cQ] at hk <;> exact hk
     exact⟨_,this,dE hr h (KU gE aR) af⟩
  | _=>simp at hk
 | _=>rw [hcv] at hk;simp at hk
theorem q6{i:Nat}{eO:cB}(h:mkObj s i eO=some av):s.o i=.none∧av=s.bV i eO:=by
 unfold mkObj at h;cases ho:s.o i <;> rw [ho] at h <;> simp at h
 exact⟨rfl,h.symm⟩
theorem ad1{t:Nat}(b2:hB P E)(h:Inv w0 F0 Z0 n s a w ι Z)(af:∀k,o.dst=some k→k<n)(ho:o.op=.alloc t)(hk:cZ E id o s K=some r) :
  ∃av,K av=some r∧o.wp P a w (c5 w0 F0 Z0 n av) Q:=by
 unfold cZ at hk;rw [ho] at hk;simp only at hk
 cases ht:E.ty t with
 | none=>rw [ht] at hk;simp at hk
 | some T=>
  rw [ht] at hk;simp only at hk
  cases hm:mkObj s id (.var 0 T.jH) with
  | none=>rw [hm] at hk;simp at hk
  | some s1=>
   rw [hm] at hk;obtain ⟨cj,rfl⟩:=q6 hm;have cl:=b2.ty t T ht;have hz:bL w Z s ι T.jH (dN T T.cT).cells.toList:=by rw [KT (ad.l2 T) ((sJ (w:=w) (Z:=Z) (s:=s) (ι := ι) T).ep)];exact sJ T
   have hn:=h.newVar cj hz t;refine⟨_,hk,mG (v:=.pointer (some (at_ w.heap.size 0))) (w':= { w with heap:=w.heap.push (.cells (dN T T.cT).cells t) }) ?_ hn ?_ af⟩
   ·unfold execOp;rw [ho];refine gk ?_;simp only [Instr.alloc,run_bind,Dj cl,SU,run_pure]
   ·simp only [aT];refine⟨by show bW s.o id _ id≠_;rw [cL];simp,_,rfl,rfl,?_⟩;show match (bW s.o id _ id).core with | .var _ _=>_ | .row .. => _ | _=>_
    rw [cL];exact⟨rfl,_,by rw [cL],by simp [at_]⟩
theorem ad2{t:Nat}{x:Operand}(b2:hB P E)(h:Inv w0 F0 Z0 n s a w ι Z)(af:∀k,o.dst=some k→k<n)(ho:o.op=.box t x)(hk:cZ E id o s K=some r) :
  ∃av,K av=some r∧o.wp P a w (c5 w0 F0 Z0 n av) Q:=by
 unfold cZ at hk;rw [ho] at hk;simp only at hk
 cases ht:E.ty t with
 | none=>rw [ht] at hk;simp at hk
 | some T=>
  rw [ht] at hk;simp only at hk
  cases hc:je T (bZ s x) with
  | none=>rw [hc] at hk;simp at hk
  | some cs=>
   rw [hc] at hk;simp only at hk;cases hb:Nat.beq cs.length T.size
   ·rw [hb] at hk;simp at hk
   rw [hb] at hk;simp only [cond_true] at hk
   cases hm:mkObj s id (.var 0 cs) with
   | none=>rw [hm] at hk;simp at hk
   | some s1=>
    rw [hm] at hk;obtain ⟨cj,rfl⟩:=q6 hm;have hn:=h.newVar cj (sI hc (fe h x)) t;refine⟨_,hk,mG (v:=.pointer (some (at_ w.heap.size 0))) (w':= { w with heap:=w.heap.push (.cells (a.eval x).cells t) }) ?_ hn ?_ af⟩
    ·unfold execOp;rw [ho];refine gk ?_;simp only [Instr.box,run_bind,SU,run_pure]
    ·simp only [aT];refine⟨by show bW s.o id _ id≠_;rw [cL];simp,_,rfl,rfl,?_⟩;show match (bW s.o id _ id).core with | .var _ _=>_ | .row .. => _ | _=>_
     rw [cL];exact⟨rfl,_,by rw [cL],by simp [at_]⟩
theorem ad3{t:Nat}{x:Operand}(b2:hB P E)(h:Inv w0 F0 Z0 n s a w ι Z)(af:∀k,o.dst=some k→k<n)(ho:o.op=.load t x)(hk:cZ E id o s K=some r) :
  ∃av,K av=some r∧o.wp P a w (c5 w0 F0 Z0 n av) Q:=by
 unfold cZ at hk;rw [ho] at hk;simp only at hk;have hx:=fe h x
 have hrun:∀ {T:ad} {b i:Nat} {vs:List Value},E.ty t=some T→a.eval x=.pointer (some (at_ b i))→cc w b i vs→vs.length=T.size →
   (execOp a.eval o).run P w=.ok (.value (dN T vs)) w:=by
  intro T b i vs ht he hc hl;unfold execOp;rw [ho];refine gk ?_;simp only [Instr.loadAt,Instr.sureAddr,he,run_bind,run_pure,KQ (b2.ty t T ht) hc hl]
 cases ht:E.ty t with
 | none=>rw [ht] at hk;simp at hk
 | some T=>
  rw [ht] at hk
  cases cQ:bZ s x with
  | ptr p=>
   rw [cQ] at hk hx;simp only at hk
   cases c8:(mA s T.size p).bind (kh T) with
   | none=>rw [c8] at hk;simp at hk
   | some v=>rw [c8] at hk;obtain ⟨cs,h1,h2⟩:=bd c8;simp only [aT] at hx;obtain ⟨_,A,he,aw⟩:=hx;obtain ⟨b,i,vs,rfl,hc,cC,hl⟩:=zV h h1 aw;exact⟨_,hk,mG (hrun ht he cC hl) h (pW h2 hc) af⟩
  | du dp cs off=>
   rw [cQ] at hk hx;simp only at hk
   cases c8:(takeN off T.size cs).bind (kh T) with
   | none=>rw [c8] at hk;simp at hk
   | some v=>
    rw [c8] at hk;simp only at hk;cases dF:alive s dp
    ·rw [dF] at hk;simp at hk
    rw [dF] at hk;obtain ⟨ds,h1,h2⟩:=bd c8;obtain ⟨h3,rfl⟩:=pT h1;simp only [aT] at hx;obtain ⟨_,b,i,vs,he,hx⟩:=hx;obtain ⟨hc,cC,_⟩:=hx dF;have hl:=hc.len;exact⟨_,hk,mG (hrun ht he (cC.part off T.size) (by simp;omega)) h (pW h2 ((hc.drop _).take _)) af⟩
  | _=>rw [cQ] at hk;simp at hk
theorem Inv.ad4(h:Inv w0 F0 Z0 n s a w ι Z){id:Nat}(ck:(s.o id).live)(hx:Ext w w' (ι id).F):Inv w0 F0 Z0 n (s.bV id .dead) a w' ι Z:=by
 have hm:eU w Z s ι w' Z (s.bV id .dead) ι := by
  refine⟨fun j=>?_,fun _ _ h=>h,cf.jk hx h.sG ?_⟩
  ·show jj (s.o j) (ι j) (bW s.o id .dead j) (ι j);by_cases hj:id=j
   ·subst hj;rw [cL];exact .dead _ _ _
   ·rw [cW hj];exact .stay _ _
  ·rintro b o (hz | ⟨eh,gr,q1,_,hf⟩) iN
   ·exact h.db id ck b o iN hz
   ·have hne:eh≠id:=by
     rintro rfl
     have:bW s.o eh .dead eh=s.o eh:=q1;rw [cL] at this;rw [← this] at ck;exact ck
    exact h.apart eh id gr ck hne b o hf iN
 have sH:∀ {j},((s.bV id .dead).o j).live→id≠j∧(s.o j).live:=fun {j} hl=>by
  have hl:(bW s.o id .dead j).live:=hl;by_cases hj:id=j
  ·subst hj;rw [cL] at hl;exact hl.elim
  ·rw [cW hj] at hl;exact⟨hj,hl⟩
 refine h.next hm hx (fun b o hf=>(h.own id ck b o hf).1) (fun _ _ h=>.inl h) ?_ ?_ (fun k=>(h.tmps k).move hm) h.size h.defers
 ·intro j hl hne;exact absurd ⟨cW (sH hl).1,rfl⟩ hne
 ·intro j hl;exact h.db j (sH hl).2
theorem ad5{t:Nat}{x y:Operand}(b2:hB P E)(h:Inv w0 F0 Z0 n s a w ι Z)(af:∀k,o.dst=some k→k<n)(ho:o.op=.store t x y)(hk:cZ E id o s K=some r) :
  ∃av,K av=some r∧o.wp P a w (c5 w0 F0 Z0 n av) Q:=by
 unfold cZ at hk;rw [ho] at hk;simp only at hk;have hx:=fe h x;have aR:=fe h y
 cases ht:E.ty t with
 | none=>rw [ht] at hk;simp at hk
 | some T=>
  rw [ht] at hk
  cases cQ:bZ s x with
  | ptr p=>
   rw [cQ] at hk hx;simp only at hk
   cases hc:je T (bZ s y) with
   | none=>
    rw [hc] at hk;simp only at hk;cases gE:bZ s y <;> rw [gE] at hk <;> try (simp at hk;done)
    rename_i u;cases b0:s.o p.id <;> rw [b0] at hk <;> try (simp at hk;done)
    rename_i ver old
    cases ff:p.fF with
    | some i=>rw [ff] at hk;simp at hk
    | none=>
     rw [ff] at hk;simp only at hk;cases hb:(ad.beq u T&&Nat.beq p.off 0&&Nat.ble T.size old.length)
     ·rw [hb] at hk;simp at hk
     rw [hb] at hk;simp only [cond_true] at hk;simp only [Bool.and_eq_true] at hb;obtain ⟨⟨hb1,hb2⟩,hb3⟩:=hb;have:=ad.eq_of_beq _ _ hb1;subst this;have hb2:=Nat.eq_of_beq_eq_true hb2;have hb3:=Nat.le_of_ble_eq_true hb3;rw [gE] at aR;simp only [aT] at hx aR;obtain ⟨_,A,he,aw⟩:=hx;obtain ⟨uN,hw1⟩:=aR;have ck:(s.o p.id).live:=by rw [b0];trivial
     have c7:=h.gf p.id;rw [b0] at c7;obtain ⟨a0,us,dM,hsp,hcu,cC,hwr⟩:=c7;obtain ⟨hs,aw⟩:=aw;rw [b0] at aw;obtain ⟨_,a1,SW,hA⟩:=aw;rw [dM] at SW;obtain rfl:=aW SW;rw [hb2] at hA;subst hA;have hx2:Ext w (setCells w a0.block (a0.off+0) (a.eval y).cells.toList) (ι p.id).F:=oF _ _ _ _ fun i hi=>by have:=(hwr i (by rw [uN] at hi;omega)).2;simpa using this
     refine⟨_,hk,wp_skip (w':=setCells w a0.block (a0.off+0) (a.eval y).cells.toList) ?_ (h.ad4 ck hx2) af⟩;unfold execOp;rw [ho];have:=KS (P:=P) (w:=w) (b2.ty t _ ht) (b:=a0.block) (o:=a0.off+0) (v:=a.eval y) (by rw [← Array.length_toList,uN]) hw1 (fun j hj=>by have:=(hwr j (by rw [← Array.length_toList,uN] at hj;omega)).1;simpa using this);simp only [Instr.storeAt,Instr.sureAddr,he,run_bind,run_pure,this]
   | some cs=>
    rw [hc] at hk;simp only at hk;cases hb:Nat.beq cs.length T.size
    ·rw [hb] at hk;simp at hk
    rw [hb] at hk;simp only [cond_true] at hk
    cases mH:C' s p cs with
    | none=>rw [mH] at hk;simp at hk
    | some s1=>rw [mH] at hk;have hb:=Nat.eq_of_beq_eq_true hb;have pX:=sI hc aR;simp only [aT] at hx;obtain ⟨_,A,he,aw⟩:=hx;obtain ⟨b,i,rfl,hw,bm,Z',hi⟩:=adU h mH aw pX;have hl:=pX.len;refine⟨_,hk,wp_skip (w':=setCells w b i (a.eval y).cells.toList) ?_ hi af⟩;unfold execOp;rw [ho];have:=KS (P:=P) (w:=w) (b2.ty t T ht) (b:=b) (o:=i) (v:=a.eval y) (by simp at hl;omega) pX.ep (fun j hj=>hw j (by simpa using hj));simp only [Instr.storeAt,Instr.sureAddr,he,run_bind,run_pure,this]
  | _=>rw [cQ] at hk;simp at hk
end
end Go.LM
namespace Go.LM
section
variable{P:Program}{Q:Exit→Act→World→Prop}
variable{w0:World}{F0 Z0:ag}{n:cM}{s av:ar}{a b5:Act}{w w':World}{ι bm:Nat→bH}{Z Z':ag}
variable{E:Env}{o:Oper}{bB : Type}{K:ar→Option bB}{r : bB}{id:Nat}
theorem zW{m:Nat}{i:Int}{k:Nat}(h:ix m i=some k):0≤i∧i<(m:Int)∧k=i.toNat∧k<m:=by
 unfold ix at h;split at h
 ·rename_i hc;have:=aW h;exact⟨hc.1,hc.2,this.symm,by omega⟩
 ·simp at h
theorem ad6{m:Nat}{lo hi:Int}{q:Nat×Nat}(h:dh m lo hi=some q):0≤lo∧lo≤hi∧hi≤(m:Int)∧q=(lo.toNat,hi.toNat):=by
 unfold dh at h;split at h
 ·rename_i hc;exact⟨hc.1,hc.2.1,hc.2.2,(aW h).symm⟩
 ·simp at h
theorem sK{x:ba}{i:Int}{v:Value}(h:kN x=some i)(hv:aT w Z s ι x v):∃k,v=.int k i:=by
 cases x with
 | aV c=>
  cases c <;> simp [kN] at h
  subst h;simp only [aT,cr] at hv;exact⟨_,hv⟩
 | _=>simp [kN] at h
theorem SX{x:Operand}(h:Inv w0 F0 Z0 n s a w ι Z)(af:∀k,o.dst=some k→k<n)(ho:o.op=.nilCheck x)(hk:cZ E id o s K=some r) :
  ∃av,K av=some r∧Pure P o a w (c5 w0 F0 Z0 n av):=by
 unfold cZ at hk;rw [ho] at hk;simp only at hk;have hx:=fe h x
 cases cQ:bZ s x with
 | ptr p=>rw [cQ] at hk hx;refine⟨_,hk,dE (v:=a.eval x) (fun w'=>?_) h hx af⟩;simp only [aT] at hx;obtain ⟨_,A,he,_⟩:=hx;unfold execOp;rw [ho];simp only [he];rfl
 | du dp cs off=>rw [cQ] at hk hx;refine⟨_,hk,dE (v:=a.eval x) (fun w'=>?_) h hx af⟩;simp only [aT] at hx;obtain ⟨_,b,i,vs,he,_⟩:=hx;unfold execOp;rw [ho];simp only [he];rfl
 | may b dp cs=>
  rw [cQ] at hk hx;cases b
  ·cases hk
  refine⟨_,hk,dE (v:=a.eval x) (fun w'=>?_) h ?_ af⟩
  ·simp only [aT] at hx;rcases hx with⟨hx,_⟩ | ⟨_,_,b,i,vs,he,_⟩
   ·cases hx
   unfold execOp;rw [ho];simp only [he];rfl
  ·simp only [aT] at hx ⊢;rcases hx with⟨hx,_⟩ | ⟨_,hx⟩
   ·cases hx
   ·exact hx
 | fn f l m=>rw [cQ] at hk hx;refine⟨_,hk,dE (v:=a.eval x) (fun w'=>?_) h hx af⟩;simp only [aT] at hx;obtain ⟨us,vs,he,_⟩:=hx;unfold execOp;rw [ho];simp only [he];rfl
 | opt i q=>
  rw [cQ] at hk hx;simp only at hk;obtain ⟨k,h1,hk⟩:=bd hk;obtain ⟨h2,h3,rfl,h4⟩:=zW h1;simp only [aT] at hx;obtain ⟨km,hx⟩:=hx;rcases hx with⟨hx,_⟩ | ⟨_,A,he,aw⟩
  ·omega
  refine⟨_,hk,dE (v:=a.eval x) (fun w'=>?_) h ?_ af⟩
  ·unfold execOp;rw [ho];simp only [he];rfl
  ·simp only [aT];exact⟨km,A,he,aw⟩
 | _=>rw [cQ] at hk;simp at hk
theorem aA.Dl{P:Program} : ∀ {ak:aA} {cD:List Field} {base i k:Nat} {u:ad},ak.okF P cD base→ak.off i=some (k,u) →
  ∃f,cD[i]?=some f∧f.offset=base+k∧u.ok P f.type
 | .nil,_,_,_,_,_,_,h=>by simp [aA.off] at h
 | .cons t ak,cD,base,0,k,u,ho,h=>by simp only [aA.okF] at ho;obtain ⟨f,l1,rfl,h1,h2,h3⟩:=ho;simp only [aA.off,Option.some.injEq,Prod.mk.injEq] at h;obtain ⟨rfl,rfl⟩:=h;exact⟨f,rfl,by simpa using h1,h2⟩
 | .cons t ak,cD,base,i+1,k,u,ho,h=>by simp only [aA.okF] at ho;obtain ⟨f,l1,rfl,h1,h2,h3⟩:=ho;simp only [aA.off] at h;obtain ⟨q,h4,a7⟩:=bd h;simp only [Option.some.injEq,Prod.mk.injEq] at a7;obtain ⟨rfl,rfl⟩:=a7;obtain ⟨nF,k1,k2,k3⟩:=aA.Dl h3 h4;exact⟨nF,by simpa using k1,by omega,k3⟩
theorem KV{ak:aA}{id:TypeId}(h:(ad.st ak).ok P id):∃cD,P.underlying id=some (.struct cD)∧ak.okF P cD.toList 0:=by simp only [ad.ok] at h;exact h.2
theorem l3{t:ad}{id:TypeId}(h:(ad.sl t).ok P id):∃e,P.underlying id=some (.slice e)∧t.ok P e:=by simp only [ad.ok] at h;exact h.2
theorem SY{f:Field}{u:ad}{b i:Nat}(hu:u.ok P f.type)(hz:u.size≠0):(fieldPlace (at_ b i) f).run P w=.ok (at_ b (i+f.offset)) w:=by unfold fieldPlace;rw [run_bind,run_sizeOf hu];simp only;rw [if_neg hz,run_pure,qZ]
theorem SZ{t:Nat}{x:Operand}{i:Nat}(b2:hB P E)(h:Inv w0 F0 Z0 n s a w ι Z)(af:∀k,o.dst=some k→k<n)(ho:o.op=.fieldAddr t x i)(hk:cZ E id o s K=some r) :
  ∃av,K av=some r∧Pure P o a w (c5 w0 F0 Z0 n av):=by
 unfold cZ at hk;rw [ho] at hk;simp only at hk;have hx:=fe h x
 cases ht:E.ty t with
 | none=>rw [ht] at hk;simp at hk
 | some T=>
  rw [ht] at hk
  cases T with
  | st ak=>
   obtain ⟨cD,hu,lq⟩:=KV (b2.ty t _ ht)
   have hrun:∀ {k:Nat} {u:ad} {b j:Nat},ak.off i=some (k,u)→u.size≠0→a.eval x=.pointer (some (at_ b j))→∀ {w':World},
     (execOp a.eval o).run P w'=.ok (.value (.pointer (some (at_ b (j+k))))) w':=by
    intro k u b j fM hz he w';obtain ⟨f,h1,h2,h3⟩:=aA.Dl lq fM;rw [Array.getElem?_toList] at h1;unfold execOp;rw [ho];refine gk ?_;simp only [Instr.fieldAt,run_bind,run_underlying hu,h1,Instr.sureAddr,he,run_pure,SY h3 hz,h2,Nat.zero_add]
   cases cQ:bZ s x with
   | ptr p=>
    rw [cQ] at hk hx;simp only at hk
    cases fM:ak.off i with
    | none=>rw [fM] at hk;simp at hk
    | some q=>
     obtain ⟨k,u⟩:=q;rw [fM] at hk;simp only at hk;cases oO:Nat.beq u.size 0
     case true=>rw [oO] at hk;simp at hk
     rw [oO] at hk;simp only [aT] at hx;obtain ⟨km,A,he,aw⟩:=hx;obtain ⟨b,j,sp⟩:=A;obtain ⟨hsp,aw⟩:=aw;simp only at hsp;subst hsp;refine⟨_,hk,dE (fun w'=>hrun fM (fun e=>by rw [e] at oO;simp at oO) he) h ?_ af⟩;simp only [aT];refine⟨km,_,rfl,rfl,?_⟩
     cases b0:(s.o p.id).core with
     | var ver cs=>rw [b0] at aw;obtain ⟨h1,a0,h2,h3⟩:=aw;simp only [at_,Addr.mk.injEq] at h3;exact⟨h1,a0,h2,by simp [at_,h3.1,h3.2.1];omega⟩
     | row cO em ver xs=>rw [b0] at aw;obtain ⟨q,h1,h2,a0,h3,h4⟩:=aw;simp only [at_,Addr.mk.injEq] at h4;exact⟨q,h1,h2,a0,h3,by simp [at_,h4.1,h4.2.1];omega⟩
     | _=>trivial
   | du dp cs off=>
    rw [cQ] at hk hx;simp only at hk
    cases fM:ak.off i with
    | none=>rw [fM] at hk;simp at hk
    | some q=>
     obtain ⟨k,u⟩:=q;rw [fM] at hk;simp only at hk;cases oO:Nat.beq u.size 0
     case true=>rw [oO] at hk;simp at hk
     rw [oO] at hk;simp only [aT] at hx;obtain ⟨nJ,b,j,vs,he,hx⟩:=hx;refine⟨_,hk,dE (fun w'=>hrun fM (fun e=>by rw [e] at oO;simp at oO) he) h ?_ af⟩;simp only [aT];exact⟨nJ,b,j,vs,by rw [Nat.add_assoc],hx⟩
   | _=>rw [cQ] at hk;simp at hk
  | _=>simp at hk
theorem KW{u:ad}{id:TypeId}{cs:List Value}{k:Nat}(hu:u.ok P id)(hk:k+u.size≤cs.length):(Go.part id cs.toArray k).run P w=.ok (dN u ((cs.drop k).take u.size)) w:=by
 unfold Go.part;rw [run_bind,SS hu];simp only;cases ha:u.agg
 ·have h1:=KN ha;simp only [Bool.false_eq_true,if_false];rw [h1] at hk ⊢;have bO:k<cs.length:=by omega
  have:(cs.drop k).take 1=[cs[k]]:=by rw [List.drop_eq_getElem_cons bO,List.take_succ_cons,List.take_zero]
  rw [this,KP ha];simp [bO,run_pure]
 ·simp only [if_true];rw [run_bind,run_sizeOf hu,KO ha];simp only [run_pure];congr 2;apply Array.ext';simp [List.take_drop,Nat.add_comm]
theorem S0{t:Nat}{x:Operand}{i:Nat}(b2:hB P E)(h:Inv w0 F0 Z0 n s a w ι Z)(af:∀k,o.dst=some k→k<n)(ho:o.op=.field t x i)(hk:cZ E id o s K=some r) :
  ∃av,K av=some r∧Pure P o a w (c5 w0 F0 Z0 n av):=by
 unfold cZ at hk;rw [ho] at hk;simp only at hk;have hx:=fe h x
 cases ht:E.ty t with
 | none=>rw [ht] at hk;simp at hk
 | some T=>
  rw [ht] at hk
  cases T with
  | st ak=>
   obtain ⟨cD,hu,lq⟩:=KV (b2.ty t _ ht)
   cases cQ:bZ s x with
   | iK cs=>
    rw [cQ] at hk hx;simp only at hk
    cases fM:ak.off i with
    | none=>rw [fM] at hk;simp at hk
    | some q=>
     obtain ⟨k,u⟩:=q;rw [fM] at hk;simp only at hk
     cases hw:(takeN k u.size cs).bind (kh u) with
     | none=>rw [hw] at hk;simp at hk
     | some v=>rw [hw] at hk;obtain ⟨ds,h1,h2⟩:=bd hw;obtain ⟨h3,rfl⟩:=pT h1;simp only [aT] at hx;obtain ⟨vs,he,hc⟩:=hx;obtain ⟨f,f1,f2,f3⟩:=aA.Dl lq fM;rw [Array.getElem?_toList] at f1;have hl:=hc.len;refine⟨_,hk,dE (fun w'=>?_) h (pW h2 ((hc.drop k).take u.size)) af⟩;unfold execOp;rw [ho];refine gk ?_;simp only [Instr.field,run_bind,run_underlying hu,f1,he,asAgg,run_pure];have:=KW (P:=P) (w:=w') f3 (cs:=vs) (k:=k) (by omega);rw [f2,Nat.zero_add];exact this
   | _=>rw [cQ] at hk;simp at hk
  | _=>simp at hk
theorem S1{x:Operand}{i:Nat}(h:Inv w0 F0 Z0 n s a w ι Z)(af:∀k,o.dst=some k→k<n)(ho:o.op=.extract x i)(hk:cZ E id o s K=some r) :
  ∃av,K av=some r∧Pure P o a w (c5 w0 F0 Z0 n av):=by
 unfold cZ at hk;rw [ho] at hk;simp only at hk;have hx:=fe h x
 cases cQ:bZ s x with
 | pM l=>
  rw [cQ] at hk hx;simp only at hk
  cases hi:l[i]? with
  | none=>rw [hi] at hk;simp at hk
  | some v=>
   rw [hi] at hk;simp only [aT] at hx;obtain ⟨vs,he,hl⟩:=hx
   have:∀(l:List ba) (vs:List Value) (i:Nat),a' w Z s ι l vs→l[i]?=some v→∃u,vs[i]?=some u∧aT w Z s ι v u:=by
    intro l
    induction l with
    | nil=>intro vs i _ hi;simp at hi
    | cons y l ih=>
     intro vs i hl hi;simp only [a'] at hl;obtain ⟨u,us,rfl,h1,h2⟩:=hl
     cases i with
     | zero=>simp at hi;subst hi;exact⟨u,rfl,h1⟩
     | succ i=>exact ih us i h2 (by simpa using hi)
   obtain ⟨u,h1,h2⟩:=this l vs i hl hi;refine⟨_,hk,dE (v:=u) (fun w'=>?_) h h2 af⟩;unfold execOp;rw [ho];refine gk ?_;simp only [Instr.extract,he];simp [h1,run_pure]
 | _=>rw [cQ] at hk;simp at hk
theorem KX(h:Inv w0 F0 Z0 n s a w ι Z):∀(l:List Operand),a' w Z s ι (l.map (bZ s)) (l.map a.eval)
 | []=>by simp only [List.map_nil,a']
 | x :: l=>by simp only [List.map_cons,a'];exact⟨_,_,rfl,fe h x,KX h l⟩
theorem S2{f:FuncId}{first lR:Array Operand}(h:Inv w0 F0 Z0 n s a w ι Z)(af:∀k,o.dst=some k→k<n)(ho:o.op=.makeFunc (.func f) first lR)(hk:cZ E id o s K=some r) :
  ∃av,K av=some r∧Pure P o a w (c5 w0 F0 Z0 n av):=by
 unfold cZ at hk;rw [ho] at hk;simp only at hk;refine⟨_,hk,dE (v:=.func (.func f) (first.map a.eval) (lR.map a.eval)) (fun w'=>?_) h ?_ af⟩
 ·unfold execOp;rw [ho];rfl
 ·simp only [aT];refine⟨first.toList.map a.eval,lR.toList.map a.eval,?_,KX h _,KX h _⟩;congr 1 <;>(apply Array.ext';simp)
end
end Go.LM
namespace Go.LM
section
variable{P:Program}{Q:Exit→Act→World→Prop}
variable{w0:World}{F0 Z0:ag}{n:cM}{s av:ar}{a b5:Act}{w w':World}{ι bm:Nat→bH}{Z Z':ag}
variable{E:Env}{o:Oper}{bB : Type}{K:ar→Option bB}{r : bB}{id:Nat}
theorem KY{k:IntKind}{i:Int} :(asIntOf (.int k i)).run P w=.ok (k,i) w:=rfl
theorem KZ{t:TypeId}{u:ad}{e:TypeId}{A:Addr}{b o len c:Nat}{k:IntKind}{i:Int}(hu:P.underlying t=some (.slice e))(he:u.ok P e)
  (h0:0≤i) (h1:i<(len:Int)):(Instr.indexAt t (.slice (some (at_ b o)) len c) (.int k i)).run P w=.ok (.pointer (some (at_ b (o+i.toNat*u.size)))) w:=by
 unfold Instr.indexAt;simp only [run_bind,KY,run_underlying hu,run_pure];rw [if_pos ⟨h0,h1⟩];simp only [run_bind,run_sizeOf he,run_pure,qZ]
theorem beq_eq{u v:ad}(h:ad.beq u v=true):u=v:=ad.eq_of_beq _ _ h
theorem S3{t:Nat}{x i:Operand}(b2:hB P E)(h:Inv w0 F0 Z0 n s a w ι Z)(af:∀k,o.dst=some k→k<n)(ho:o.op=.indexAddr t x i)(hk:cZ E id o s K=some r) :
  ∃av,K av=some r∧Pure P o a w (c5 w0 F0 Z0 n av):=by
 unfold cZ at hk;rw [ho] at hk;simp only at hk;have hx:=fe h x;have hi:=fe h i
 cases ht:E.ty t with
 | none=>rw [ht] at hk;simp at hk
 | some T=>
  cases T with
  | sl u=>
   obtain ⟨e,hu,jJ⟩:=l3 (b2.ty t _ ht);rw [ht] at hk
   cases uO:kN (bZ s i) with
   | none=>rw [uO] at hk;cases bZ s x <;> simp at hk
   | some q=>
    rw [uO] at hk;obtain ⟨dj,xG⟩:=sK uO hi
    cases cQ:bZ s x with
    | aV c=>
     rw [cQ] at hk hx;simp only [aT] at hx
     cases c with
     | af j sub=>
      simp only at hk;obtain ⟨km,A,m,c,iv,hh⟩:=hx
      cases b0:s.o j with
      | row v em ver xs=>
       rw [b0] at hk;simp only at hk;cases hb:ad.beq u v
       ·rw [hb] at hk;simp at hk
       rw [hb] at hk;obtain rfl:=beq_eq hb;obtain ⟨k,h1,hk⟩:=bd hk;obtain ⟨h2,h3,rfl,h4⟩:=zW h1;obtain ⟨g1,g2,g3,g4,g5⟩:=hh _ _ _ _ (lW b0)
       have hm:lS sub xs=m:=by
        cases sub with
        | none=>simp [lS,g1]
        | some p=>obtain ⟨lo,l⟩:=p;simp [lS,g1]
       rw [hm] at h3 h4;rcases g5 with g5 | ⟨a0,gx,rfl⟩
       ·omega
       refine⟨_,hk,dE (v:=.pointer (some (at_ a0.block (a0.off+eB sub*u.size+q.toNat*u.size)))) (fun w'=>?_) h ?_ af⟩
       ·unfold execOp;rw [ho];refine gk ?_;simp only [iv,xG];exact KZ (A:=a0) hu jJ h2 h3
       ·simp only [aT];refine⟨km,_,rfl,rfl,?_⟩;simp only;rw [b0];exact⟨_,rfl,by omega,a0,gx,by simp [at_,Nat.add_mul];omega⟩
      | _=>rw [b0] at hk;simp at hk
     | bM v dp cI xs=>
      simp only at hk;cases hb:(alive s dp&&ad.beq u v)
      ·rw [hb] at hk;simp at hk
      rw [hb] at hk;simp only [Bool.and_eq_true] at hb;obtain ⟨dF,hb⟩:=hb;obtain rfl:=beq_eq hb;obtain ⟨k,h1,hk⟩:=bd hk;obtain ⟨h2,h3,rfl,h4⟩:=zW h1;obtain ⟨nJ,⟨A,m,c,iv⟩,cS,_⟩:=hx;have hr:=cS dF;simp only [ad.au] at hr;obtain ⟨nK,c',hv,hr⟩:=hr;rw [iv] at hv;simp only [List.cons.injEq,Value.slice.injEq,and_true] at hv;obtain ⟨rfl,rfl,rfl⟩:=hv;rcases hr with hr | ⟨a0,rfl,hsp,hrow,hz,K0⟩
      ·rw [hr] at h4;simp at h4
      obtain ⟨vs,G,k1,k2,k3,bs⟩:=hrow.get q.toNat h4;obtain ⟨cU,dV,sp⟩:=a0;simp only at hsp;subst hsp;refine⟨_,hk,dE (v:=.pointer (some (at_ cU (dV+q.toNat*u.size)))) (fun w'=>?_) h ?_ af⟩
      ·unfold execOp;rw [ho];refine gk ?_;simp only [iv,xG];exact KZ (A:=at_ cU dV) hu jJ h2 h3
      ·simp only [aT];refine⟨nJ,cU,dV+q.toNat*u.size,vs,rfl,fun _=>⟨?_,k3,fun j hj=>?_⟩⟩
       ·rw [c2 h4];exact ad.q2 u dp none nJ (fun _=>k1) ⟨_,_,_,k1⟩ .none
       ·have hcl:(u.cells dp none (I u xs q.toNat)).length=u.size:=by
         rw [c2 h4,← k2];exact((ad.q2 (s:=s) (w:=w) (Z:=Z) (ι := ι) u dp none nJ (fun _=>k1) ⟨_,_,_,k1⟩ .none).len).symm
        rw [hcl] at hj
        have:=hz (q.toNat*u.size+j) (by
         have:(q.toNat+1)*u.size≤xs.length*u.size:=Nat.mul_le_mul_right _ h4
         rw [Nat.add_one_mul] at this;omega)
        rwa [← Nat.add_assoc] at this
     | _=>simp at hk
    | _=>rw [cQ] at hk;simp at hk
  | _=>rw [ht] at hk;simp at hk
theorem S4{t:Nat}{x i:Operand}(b2:hB P E)(h:Inv w0 F0 Z0 n s a w ι Z)(af:∀k,o.dst=some k→k<n)(ho:o.op=.index t x i)(hk:cZ E id o s K=some r) :
  ∃av,K av=some r∧Pure P o a w (c5 w0 F0 Z0 n av):=by
 unfold cZ at hk;rw [ho] at hk;simp only at hk;have hx:=fe h x;have hi:=fe h i
 cases ht:E.ty t with
 | none=>rw [ht] at hk;simp at hk
 | some T=>
  cases T with
  | str=>
   have hu:P.underlying t=some .string:=by have:=b2.ty t _ ht;simp only [ad.ok] at this;exact this.1
   rw [ht] at hk
   cases uO:kN (bZ s i) with
   | none=>rw [uO] at hk;cases cQ:bZ s x with
    | aV c=>rw [cQ] at hk;cases c <;> simp at hk
    | _=>rw [cQ] at hk;simp at hk
   | some q=>
    rw [uO] at hk;obtain ⟨dj,xG⟩:=sK uO hi
    cases cQ:bZ s x with
    | aV c=>
     rw [cQ] at hk hx;simp only [aT] at hx
     cases c with
     | str b=>
      simp only at hk;obtain ⟨k,h1,hk⟩:=bd hk;obtain ⟨h2,h3,rfl,h4⟩:=zW h1;obtain ⟨bt,iv,rfl⟩:=hx;refine⟨_,hk,dE (v:=.int .u8 ((bt.data.toList.getD q.toNat 0).toNat:Int)) (fun w'=>?_) h (by simp only [aT,cr]) af⟩;unfold execOp;rw [ho];refine gk ?_;have hsz:q.toNat<bt.size:=by simpa using h4
      simp only [Instr.index,iv,xG,run_bind,KY,run_underlying hu,if_pos h2];have aC:bt[q.toNat]?=some bt[q.toNat]:=by simp [hsz]
      rw [aC];simp only [run_pure];congr 3;have:bt.data.toList.getD q.toNat 0=bt[q.toNat]:=by simp [List.getD_eq_getElem?_getD,hsz];rfl
      rw [this]
     | _=>simp at hk
    | _=>rw [cQ] at hk;simp at hk
  | _=>rw [ht] at hk;simp at hk
end
end Go.LM
namespace Go.LM
section
variable{P:Program}{Q:Exit→Act→World→Prop}
variable{w0:World}{F0 Z0:ag}{n:cM}{s av:ar}{a b5:Act}{w w':World}{ι bm:Nat→bH}{Z Z':ag}
variable{E:Env}{o:Oper}{bB : Type}{K:ar→Option bB}{r : bB}{id:Nat}
theorem run_sliceBound{k:IntKind}{i:Int}{y:Nat}{code:BoundsCode}(h0:0≤i)(h1:i≤(y:Int)):(Instr.sliceBound (.int k i) y code).run P w=.ok i.toNat w:=by unfold Instr.sliceBound;simp only [run_bind,KY];rw [if_pos ⟨h0,h1⟩];rfl
theorem K1(h:Inv w0 F0 Z0 n s a w ι Z){x:Option Operand}{d i:Int}(hb:bound s x d=some i) :
  (x=none∧i=d)∨∃y k,x=some y∧a.eval y=.int k i:=by
 cases x with
 | none=>simp [bound] at hb;exact .inl ⟨rfl,hb.symm⟩
 | some y=>obtain ⟨k,hk⟩:=sK (x:=bZ s y) hb (fe h y);exact .inr ⟨y,k,rfl,hk⟩
theorem S5(h:Inv w0 F0 Z0 n s a w ι Z){ad7:Bool}{len cap:Nat}{lo hi:Option Operand}{l q:Int}(hl:bound s lo 0=some l)(hq:bound s hi len=some q)
  (h0:0≤l) (h1:l≤q) (h2:q≤(len:Int)) (hc:len≤cap) :
  (Instr.sliceBounds ad7 len cap (lo.map a.eval) (hi.map a.eval) none).run P w'=.ok (l.toNat,q.toNat,cap) w':=by
 unfold Instr.sliceBounds;rcases K1 h hl with⟨rfl,rfl⟩ | ⟨y,k,rfl,aR⟩ <;> rcases K1 h hq with⟨rfl,rfl⟩ | ⟨mC,k',rfl,Dm⟩
 ·simp only [Option.map_none,run_bind,run_pure,Int.toNat_natCast];rfl
 ·simp only [Option.map_none,Option.map_some,run_bind,run_pure,Dm];rw [run_sliceBound (by omega) (by omega)];rfl
 ·simp only [Option.map_none,Option.map_some,run_bind,run_pure,aR,Int.toNat_natCast];simp only [Option.isSome_none,Bool.false_eq_true,if_false];rw [run_sliceBound h0 (by omega)]
 ·simp only [Option.map_some,run_bind,run_pure,aR,Dm];rw [run_sliceBound (by omega) (by omega)];simp only [Option.isSome_none,Bool.false_eq_true,if_false];rw [run_sliceBound h0 (by omega)]
theorem ad8(h:Inv w0 F0 Z0 n s a w ι Z){len cap:Nat}{lo:Option Operand}{y m:Operand}{l q:Int}{k k':IntKind}(hl:bound s lo 0=some l)(aR:a.eval y=.int k q)(hm:a.eval m=.int k' q)
  (h0:0≤l) (h1:l≤q) (h2:q≤(cap:Int)) :
  (Instr.sliceBounds true len cap (lo.map a.eval) (some (a.eval y)) (some (a.eval m))).run P w'=.ok (l.toNat,q.toNat,q.toNat) w':=by
 unfold Instr.sliceBounds;rcases K1 h hl with⟨rfl,rfl⟩ | ⟨z,atn,rfl,hz⟩
 ·simp only [Option.map_none,run_bind,run_pure,aR,hm,if_true];rw [run_sliceBound (by omega) h2];simp only;rw [run_sliceBound (by omega) (by omega)];rfl
 ·simp only [Option.map_some,run_bind,run_pure,aR,hm,hz,if_true];rw [run_sliceBound (by omega) h2];simp only;rw [run_sliceBound (by omega) (by omega)];simp only [Option.isSome_some,if_true];rw [run_sliceBound h0 (by omega)]
theorem extract_toList(b:ByteArray)(l h:Nat):(b.extract l h).data.toList=part b.data.toList l (h-l):=by unfold part;rw [ByteArray.data_extract,Array.toList_extract,List.extract_eq_take_drop]
theorem S6{T:ad}{c c':bb}{A:Option Addr}{m k:Nat}{l q:Nat}{fH:Nat}{u:ad}(b2:T=.sl u)(hf:ll s T c=true)(hlen:oG s c=some m)
  (jo:xr c l (q-l)=some c') (hc:cr w Z s ι c (.slice A m k)) (h1:l≤q) (h2:q≤m) (h3:q≤fH) (h4:fH≤k) :
  cr w Z s ι c' (.slice (if fH=l then A else A.map (·.add (l*u.size))) (q-l) (fH-l)):=by
 subst b2
 cases c with
 | nil v=>
  obtain rfl:=aW jo;have hv:Value.slice A m k=.slice none 0 0:=hc;simp only [Value.slice.injEq] at hv;obtain ⟨rfl,rfl,rfl⟩:=hv;have:l=0:=by omega
  have:fH=0:=by omega
  have:q=0:=by omega
  subst_vars
  exact rfl
 | bM v dp cI xs=>
  obtain rfl:=aW jo;simp only [ll] at hf;have K2:=beq_eq hf;injection K2 with K2
  subst K2;obtain ⟨af,_,hr,_⟩:=hc;refine⟨af,⟨_,_,_,rfl⟩,fun ha=>?_,.none⟩;have:=hr ha;simp only [ad.au] at this ⊢;obtain ⟨nK,S7,hv,hx⟩:=this;simp only [List.cons.injEq,Value.slice.injEq,and_true] at hv;obtain ⟨rfl,rfl,rfl⟩:=hv;have gl:(part xs l (q-l)).length=q-l:=by simp only [part,List.length_take,List.length_drop];omega
  refine⟨_,_,by rw [gl],?_⟩;by_cases ad9:q-l=0
  ·left;exact List.eq_nil_of_length_eq_zero (by rw [gl,ad9])
  ·right;rcases hx with rfl | ⟨a0,rfl,hsp,hrow,hz,K0⟩
   ·simp at h2;omega
   obtain ⟨cU,dV,sp⟩:=a0;simp only at hsp;subst hsp;refine⟨at_ cU (dV+l*u.size),?_,rfl,(hrow.drop l).take _,fun j hj=>?_,by rw [gl];omega⟩
   ·rw [if_neg (by omega)];exact congrArg some (qZ _ _ _)
   ·rw [gl] at hj
    have:=hz (l*u.size+j) (by
     have a7:(l +(q-l))*u.size≤xs.length*u.size:=Nat.mul_le_mul_right _ (by omega)
     rw [Nat.add_mul] at a7;omega)
    rwa [← Nat.add_assoc] at this
 | af j sub=>
  obtain rfl:=aW jo;obtain ⟨km,nK,m',k',hv,hh⟩:=hc;simp only [Value.slice.injEq] at hv;obtain ⟨rfl,rfl,rfl⟩:=hv;refine⟨km,_,_,_,rfl,fun t em ver xs b0=>?_⟩;obtain ⟨g1,g2,g3,g4,g5⟩:=hh t em ver xs b0
  have ht:t=u:=by
   simp only [ll] at hf
   cases xx:s.o j with
   | row=>
    rw [xx] at hf b0;simp only [cB.core,cB.row.injEq] at b0;obtain ⟨rfl,_⟩:=b0;have:=beq_eq hf;injection this with this
    exact this.symm
   | _=>rw [xx] at hf;simp at hf
  subst ht;have e1:eB (some (eB sub+l,q-l))=eB sub+l:=rfl;refine⟨rfl,by rw [e1];omega,by omega,by rw [e1];omega,?_⟩;by_cases ad_:fH=l
  ·left;omega
  ·right;rcases g5 with g5 | ⟨a0,hb,rfl⟩
   ·omega
   ·refine⟨a0,hb,?_⟩;rw [if_neg ad_];simp only [Option.map_some,qZ,e1,Nat.add_mul,Nat.add_assoc]
 | _=>simp [xr] at jo <;>(simp [ll] at hf <;> simp [ad.beq] at hf)
theorem K3{T:ad}{c:bb}{v:Value}{m:Nat}{u:ad}(b2:T=.sl u)(hf:ll s T c=true)(hlen:oG s c=some m)(hc:cr w Z s ι c v) :
  ∃A k,v=.slice A m k∧m≤k:=by
 subst b2
 cases c with
 | nil x=>simp only [oG,Option.some.injEq] at hlen;subst hlen;exact⟨none,0,hc,Nat.le_refl _⟩
 | bM x dp cI xs=>
  simp only [oG] at hlen;cases ha:alive s dp
  ·rw [ha] at hlen;simp at hlen
  rw [ha] at hlen;simp only [cond_true,Option.some.injEq] at hlen;subst hlen;have:=hc.2.2.1 ha;simp only [ad.au] at this;obtain ⟨A,c,hv,hx⟩:=this;simp only [List.cons.injEq,and_true] at hv;refine⟨A,c,hv,?_⟩;rcases hx with rfl | ⟨_,_,_,_,_,K0⟩
  ·simp
  ·exact K0
 | af j sub=>
  simp only [oG] at hlen
  cases ho:s.o j with
  | row t em ver xs=>
   rw [ho] at hlen;simp only [Option.some.injEq] at hlen;obtain ⟨_,A,m',k,rfl,hh⟩:=hc;obtain ⟨g1,g2,g3,g4,g5⟩:=hh _ _ _ _ (lW ho)
   have:m'=m:=by
    rw [← hlen,g1]
    cases sub with
    | none=>rfl
    | some p=>rfl
   subst this;exact⟨A,k,rfl,g3⟩
  | _=>rw [ho] at hlen;simp at hlen
 | _=>simp [ll,ad.beq] at hf
theorem S8{t:Nat}{x:Operand}{lo hi fH:Option Operand}(b2:hB P E)(h:Inv w0 F0 Z0 n s a w ι Z)(af:∀k,o.dst=some k→k<n)(ho:o.op=.slice t x lo hi fH)(hk:cZ E id o s K=some r) :
  ∃av,K av=some r∧Pure P o a w (c5 w0 F0 Z0 n av):=by
 unfold cZ at hk;rw [ho] at hk;simp only at hk;have hx:=fe h x
 cases ht:E.ty t with
 | none=>rw [ht] at hk;simp at hk
 | some T=>
  rw [ht] at hk;simp only [Sx] at hk
  cases cQ:bZ s x with
  | aV c=>
   rw [cQ] at hk hx;simp only at hk;simp only [aT] at hx;cases hf:ll s T c
   ·rw [hf] at hk;simp at hk
   rw [hf] at hk;simp only [cond_true] at hk
   cases hlen:oG s c with
   | none=>rw [hlen] at hk;simp at hk
   | some m=>
    rw [hlen] at hk;simp only at hk
    cases hl:bound s lo 0 with
    | none=>rw [hl] at hk;simp at hk
    | some l=>
     cases hq:bound s hi (m:Int) with
     | none=>rw [hl,hq] at hk;simp at hk
     | some q=>
      rw [hl,hq] at hk;simp only at hk
      have main:(dh m l q).bind (fun r=>match xr c r.1 (r.2-r.1) with | some c'=>K (s.dst o.dst (.aV c')) | none=>none)=some r →
        ∃c',K (s.dst o.dst (.aV c'))=some r∧0≤l∧l≤q∧q≤(m:Int)∧xr c l.toNat (q.toNat-l.toNat)=some c':=by
       intro hk;obtain ⟨p,h1,hk⟩:=bd hk;obtain ⟨h2,h3,h4,rfl⟩:=ad6 h1
       cases jo:xr c l.toNat (q.toNat-l.toNat) with
       | none=>simp only [jo] at hk;simp at hk
       | some c'=>simp only [jo] at hk;exact⟨c',hk,h2,h3,h4,rfl⟩
      cases fH with
      | none=>
       obtain ⟨c',hk,h2,h3,h4,jo⟩:=main hk;refine⟨_,hk,?_⟩;by_cases xH:T=.str
       ·subst xH;have hu:P.underlying t=some .string:=by have:=b2.ty t _ ht;simp only [ad.ok] at this;exact this.1
        cases c <;> simp only [ll,ad.beq] at hf <;> try (simp at hf;done)
        ·rename_i b;obtain ⟨bt,iv,rfl⟩:=hx;simp only [oG,Option.some.injEq] at hlen;obtain rfl:=aW jo;refine dE (v:=.string (bt.extract l.toNat q.toNat)) (fun w'=>?_) h ?_ af
         ·unfold execOp;rw [ho];refine gk ?_;have hsz:bt.size=m:=by rw [← hlen];simp
          simp only [Instr.sliceAt,Instr.slice,run_bind,run_underlying hu,iv,Option.map_none];simp only [Option.isSome_none,Bool.false_eq_true,if_false];rw [hsz,run_bind,S5 h hl hq h2 h3 h4 (Nat.le_refl _)];rfl
         ·simp only [aT];exact⟨_,rfl,extract_toList _ _ _⟩
        ·cases kn:s.o _ <;> rw [kn] at hf <;> simp [ad.beq] at hf
       ·cases T with
        | str=>exact absurd rfl xH
        | sl u=>
         obtain ⟨e,hu,jJ⟩:=l3 (b2.ty t _ ht);have hv:=K3 rfl hf hlen hx;obtain ⟨A,k,iv,nL⟩:=hv;rw [iv] at hx;refine dE (fun w'=>?_) h (x:=.aV c') (v:=.slice (if k=l.toNat then A else A.map (·.add (l.toNat*u.size))) (q.toNat-l.toNat) (k-l.toNat)) ?_ af
         ·unfold execOp;rw [ho];refine gk ?_;simp only [Instr.sliceAt,Instr.slice,run_bind,run_underlying hu,iv,Option.map_none];rw [S5 h hl hq h2 h3 h4 nL];simp only [run_bind,run_sizeOf jJ,run_pure]
         ·simp only [aT];exact S6 rfl hf hlen jo hx (by omega) (by omega) (by omega) (Nat.le_refl _)
        | _=>cases c <;> simp only [ll,ad.beq] at hf <;> first | (simp at hf;done) | (cases kn:s.o _ <;> rw [kn] at hf <;> simp [ad.beq] at hf)
      | some S9=>
       simp only at hk;cases xH:ad.beq T .str
       case true=>rw [xH] at hk;simp at hk
       rw [xH] at hk;simp only [cond_false] at hk
       cases mI:kN (bZ s S9) with
       | none=>rw [mI] at hk;simp at hk
       | some ad'=>
        rw [mI] at hk;simp only at hk
        cases hi with
        | none=>simp at hk
        | some y=>
         simp only [Option.isSome_some,cond_true,jZ] at hk;cases zX:decide (q=ad')
         ·rw [zX] at hk;simp at hk
         rw [zX] at hk;have zX:=of_decide_eq_true zX;subst zX;obtain ⟨c',hk,h2,h3,h4,jo⟩:=main hk;obtain ⟨k1,aR⟩:=sK hq (fe h y);obtain ⟨k2,sL⟩:=sK mI (fe h S9);refine⟨_,hk,?_⟩
         cases T with
         | str=>simp [ad.beq] at xH
         | sl u=>
          obtain ⟨e,hu,jJ⟩:=l3 (b2.ty t _ ht);obtain ⟨A,k,iv,nL⟩:=K3 rfl hf hlen hx;rw [iv] at hx;refine dE (fun w'=>?_) h (x:=.aV c') (v:=.slice (if q.toNat=l.toNat then A else A.map (·.add (l.toNat*u.size))) (q.toNat-l.toNat) (q.toNat-l.toNat)) ?_ af
          ·unfold execOp;rw [ho];refine gk ?_;simp only [Instr.sliceAt,Instr.slice,run_bind,run_underlying hu,iv,Option.map_some];rw [ad8 h hl aR sL h2 h3 (by omega)];simp only [run_bind,run_sizeOf jJ,run_pure]
          ·simp only [aT];exact S6 rfl hf hlen jo hx (by omega) (by omega) (by omega) (by omega)
         | _=>cases c <;> simp only [ll,ad.beq] at hf <;> first | (simp at hf;done) | (cases kn:s.o _ <;> rw [kn] at hf <;> simp [ad.beq] at hf)
  | _=>rw [cQ] at hk;simp at hk
end
end Go.LM
namespace Go.LM
section
variable{P:Program}{Q:Exit→Act→World→Prop}
variable{w0:World}{F0 Z0:ag}{n:cM}{s av:ar}{a b5:Act}{w w':World}{ι bm:Nat→bH}{Z Z':ag}
variable{E:Env}{o:Oper}{bB : Type}{K:ar→Option bB}{r : bB}{id:Nat}
theorem Dn{k k':IntKind}(h:Nat.beq (dx k) (dx k')=true):k=k':=uA (Nat.eq_of_beq_eq_true h)
theorem sM{α : Type}{b:Bool}{x:Option α}{y : α}(h:jZ b x=some y):b=true∧x=some y:=by
 cases b
 ·simp [jZ] at h
 ·exact⟨rfl,h⟩
theorem toList_data(z:ByteArray):z.toList=z.data.toList:=by
 unfold ByteArray.toList
 have key:∀(m i:Nat) (r:List UInt8),z.size-i=m→i≤z.size→ByteArray.toList.loop z i r=r.reverse++z.data.toList.drop i:=by
  intro m
  induction m with
  | zero=>intro i r h hi;unfold ByteArray.toList.loop;rw [if_neg (by omega),List.drop_of_length_le (by simp;show z.data.size≤i;have:z.data.size=z.size:=rfl;omega)];simp
  | succ m ih=>
   intro i r h hi;unfold ByteArray.toList.loop;rw [if_pos (by omega),ih (i+1) _ (by omega) (by omega)];have bO:i<z.data.toList.length:=by simp;show i<z.data.size;have:z.data.size=z.size:=rfl;omega
   rw [List.drop_eq_getElem_cons bO]
   have aC:z.get! i=z.data.toList[i]:=by
    simp [ByteArray.get!];have:i<z.data.size:=by simpa using bO
    exact getElem!_pos z.data i this
   rw [aC];simp
 have:=key z.size 0 [] rfl (by omega);simpa using this
theorem S_(x y:ByteArray):(x.toList==y.toList)=bw x.data.toList y.data.toList:=by rw [toList_data,toList_data,Bool.eq_iff_iff];simp [bw]
theorem S'{x:Option ba}{K:ba→Option bB}(h:lift x K=some r):∃v,x=some v∧K v=some r:=by
 cases x with
 | none=>simp [lift] at h
 | some v=>exact⟨v,rfl,h⟩
theorem aea{op:BinOp}{k:IntKind}{x y:Int}{v:ba}{ty yty:TypeId}{xo yo:Operand}(h:Da op k x y=some v)(h1:op≠.shl)(h2:op≠.shr)(h3:op≠.quo)(h4:op≠.rem) :
  ∃u,(∀w:World,(binOp op ty (.int k x) (.int k y)).run P w=.ok u w)∧∀w Z s ι,aT w Z s ι v u:=by
 cases op <;> simp only [Da] at h <;> first | (simp at h;done) | (obtain rfl:=aW h)
 all_goals
  refine⟨_,fun w=>by simp only [binOp];rw [if_neg (by simp)];rfl,fun w Z s ι => ?_⟩;simp only [aT,cr]
  try rfl
theorem xI{op:BinOp}{ty:TypeId}{xo yo:Operand}{u v:Value}(h1:(∃k x,u=.int k x)∨(∃x,u=.string x)∨(∃x,u=.bool x)∨(∃x,u=.pointer x)) :
  (eqGuard op ty xo yo u v).run P w=.ok () w:=by
 unfold eqGuard;rcases h1 with⟨k,x,rfl⟩ | ⟨x,rfl⟩ | ⟨x,rfl⟩ | ⟨x,rfl⟩ <;>(cases op <;> rfl)
theorem jK{op:BinOp}{ty yty:TypeId}{xo yo:Operand}{u:Value}(ho:o.op=.binOp op ty xo yo yty)(aC:(eqGuard op ty xo yo (a.eval xo) (a.eval yo)).run P w=.ok () w)
  (hr:(binOp op ty (a.eval xo) (a.eval yo)).run P w=.ok u w):(execOp a.eval o).run P w=.ok (.value u) w:=by
 unfold execOp;rw [ho];refine gk ?_;rw [run_bind,aC];exact hr
theorem aeb{op:BinOp}{x y:ByteArray}{v:ba}{ty:TypeId}(h:Db op x.data.toList y.data.toList=some v) :
  ∃u,(∀w:World,(binOp op ty (.string x) (.string y)).run P w=.ok u w)∧∀w Z s ι,aT w Z s ι v u:=by
 cases op <;> simp only [Db] at h <;> first | (simp at h;done) | (obtain rfl:=aW h)
 all_goals
  refine⟨_,fun w=>rfl,fun w Z s ι => ?_⟩;have:=S_ x y;simp only [toList_data] at this;simp only [aT,cr,eg,toList_data,Value.bool.injEq,this]
theorem Ta{op:UnOp}{t:Nat}{x:Operand}(h:Inv w0 F0 Z0 n s a w ι Z)(af:∀k,o.dst=some k→k<n)(ho:o.op=.unOp op t x)(hk:cZ E id o s K=some r) :
  ∃av,K av=some r∧Pure P o a w (c5 w0 F0 Z0 n av):=by
 unfold cZ at hk;rw [ho] at hk;simp only at hk;have hx:=fe h x;have hrun:∀ {u:Value} {w:World},(Op.unary op (a.eval x)).run P w=.ok u w→(execOp a.eval o).run P w=.ok (.value u) w:=by intro u w hu;unfold execOp;rw [ho];exact gk hu
 cases cQ:bZ s x with
 | aV c=>
  rw [cQ] at hk hx;simp only [aT] at hx;cases op <;> cases c <;> simp only [Kk] at hk <;> try (simp at hk;done)
  ·simp only [cr] at hx;exact⟨_,hk,dE (fun w'=>hrun (by rw [hx];rfl)) h (by simp only [aT,cr]) af⟩
  ·simp only [cr] at hx;exact⟨_,hk,dE (fun w'=>hrun (by rw [hx];rfl)) h (by simp only [aT,cr];rfl) af⟩
  ·simp only [cr] at hx;exact⟨_,hk,dE (fun w'=>hrun (by rw [hx];rfl)) h (by simp only [aT,cr]) af⟩
 | _=>rw [cQ] at hk;cases op <;> simp [Kk] at hk
def Tb(P:Program)(E:Env):Prop:=∀id T,E.Kh id=true→E.ty id=some T→∀(op:BinOp) (xo yo:Operand) (w:World) (Z:ag) (s:ar) (ι : Nat→bH) (cs ds:List bb) (us vs:List Value) (q:Bool),
  bL w Z s ι cs us→bL w Z s ι ds vs→T.cmp cs ds=some (q,[],[]) →
  (eqGuard op id xo yo (.agg us.toArray) (.agg vs.toArray)).run P w=.ok () w ∧
  (op=.eql→(binOp op id (.agg us.toArray) (.agg vs.toArray)).run P w=.ok (.bool q) w) ∧
  (op=.neq→(binOp op id (.agg us.toArray) (.agg vs.toArray)).run P w=.ok (.bool (!q)) w)
mutual
theorem ad.zY{w w':World}{Z:ag}{s:ar}{ι : Nat→bH} : ∀(t:ad) {cs ds:List bb} {r:Bool×List bb×List bb} {us vs:List Value},t.cmp cs ds=some r→bL w Z s ι cs us→bL w Z s ι ds vs →
  ∃us1 us2 vs1 vs2 a b,us=us1++us2∧vs=vs1++vs2∧cs=a++r.2.1∧ds=b++r.2.2∧bL w' Z s ι a us1∧bL w' Z s ι b vs1∧bL w Z s ι r.2.1 us2∧bL w Z s ι r.2.2 vs2
 | .int k,.int k1 x :: a,.int k2 y :: b,r,us,vs,h,h1,h2=>by
  simp only [ad.cmp] at h;cases hk:(Nat.beq (dx k1) (dx k)&&Nat.beq (dx k2) (dx k))
  ·rw [hk] at h;cases h
  rw [hk] at h;obtain rfl:=aW h
  cases us with
  | nil=>exact h1.elim
  | cons u us=>cases vs with
   | nil=>exact h2.elim
   | cons v vs=>exact⟨[u],us,[v],vs,[.int k1 x],[.int k2 y],rfl,rfl,rfl,rfl,⟨h1.1,trivial⟩,⟨h2.1,trivial⟩,h1.2,h2.2⟩
 | .bool,.bool x :: a,.bool y :: b,r,us,vs,h,h1,h2=>by
  obtain rfl:=aW h
  cases us with
  | nil=>exact h1.elim
  | cons u us=>cases vs with
   | nil=>exact h2.elim
   | cons v vs=>exact⟨[u],us,[v],vs,[.bool x],[.bool y],rfl,rfl,rfl,rfl,⟨h1.1,trivial⟩,⟨h2.1,trivial⟩,h1.2,h2.2⟩
 | .str,.str x :: a,.str y :: b,r,us,vs,h,h1,h2=>by
  obtain rfl:=aW h
  cases us with
  | nil=>exact h1.elim
  | cons u us=>cases vs with
   | nil=>exact h2.elim
   | cons v vs=>exact⟨[u],us,[v],vs,[.str x],[.str y],rfl,rfl,rfl,rfl,⟨h1.1,trivial⟩,⟨h2.1,trivial⟩,h1.2,h2.2⟩
 | .st ak,cs,ds,r,us,vs,h,h1,h2=>aA.zY ak (by simpa only [ad.cmp] using h) h1 h2
 | .sl t,cs,ds,r,us,vs,h,h1,h2=>by simp [ad.cmp] at h
 | .raw,cs,ds,r,us,vs,h,h1,h2=>by simp [ad.cmp] at h
 | .int k,[],_,_,_,_,h,_,_=>by simp [ad.cmp] at h
 | .bool,[],_,_,_,_,h,_,_=>by simp [ad.cmp] at h
 | .str,[],_,_,_,_,h,_,_=>by simp [ad.cmp] at h
 | .int k,c :: _,[],_,_,_,h,_,_=>by cases c <;> simp [ad.cmp] at h
 | .bool,c :: _,[],_,_,_,h,_,_=>by cases c <;> simp [ad.cmp] at h
 | .str,c :: _,[],_,_,_,h,_,_=>by cases c <;> simp [ad.cmp] at h
 | .int k,.bool _ :: _,_ :: _,_,_,_,h,_,_ | .int k,.str _ :: _,_ :: _,_,_,_,h,_,_ | .int k,.nil _ :: _,_ :: _,_,_,_,h,_,_ | .int k,.bM _ _ _ _ :: _,_ :: _,_,_,_,h,_,_ | .int k,.af _ _ :: _,_ :: _,_,_,_,h,_,_ | .int k,.raw _ :: _,_ :: _,_,_,_,h,_,_=>by simp [ad.cmp] at h
 | .bool,.int _ _ :: _,_ :: _,_,_,_,h,_,_ | .bool,.str _ :: _,_ :: _,_,_,_,h,_,_ | .bool,.nil _ :: _,_ :: _,_,_,_,h,_,_ | .bool,.bM _ _ _ _ :: _,_ :: _,_,_,_,h,_,_ | .bool,.af _ _ :: _,_ :: _,_,_,_,h,_,_ | .bool,.raw _ :: _,_ :: _,_,_,_,h,_,_=>by simp [ad.cmp] at h
 | .str,.int _ _ :: _,_ :: _,_,_,_,h,_,_ | .str,.bool _ :: _,_ :: _,_,_,_,h,_,_ | .str,.nil _ :: _,_ :: _,_,_,_,h,_,_ | .str,.bM _ _ _ _ :: _,_ :: _,_,_,_,h,_,_ | .str,.af _ _ :: _,_ :: _,_,_,_,h,_,_ | .str,.raw _ :: _,_ :: _,_,_,_,h,_,_=>by simp [ad.cmp] at h
 | .int k,.int _ _ :: _,.bool _ :: _,_,_,_,h,_,_ | .int k,.int _ _ :: _,.str _ :: _,_,_,_,h,_,_ | .int k,.int _ _ :: _,.nil _ :: _,_,_,_,h,_,_ | .int k,.int _ _ :: _,.bM _ _ _ _ :: _,_,_,_,h,_,_ | .int k,.int _ _ :: _,.af _ _ :: _,_,_,_,h,_,_ | .int k,.int _ _ :: _,.raw _ :: _,_,_,_,h,_,_=>by simp [ad.cmp] at h
 | .bool,.bool _ :: _,.int _ _ :: _,_,_,_,h,_,_ | .bool,.bool _ :: _,.str _ :: _,_,_,_,h,_,_ | .bool,.bool _ :: _,.nil _ :: _,_,_,_,h,_,_ | .bool,.bool _ :: _,.bM _ _ _ _ :: _,_,_,_,h,_,_ | .bool,.bool _ :: _,.af _ _ :: _,_,_,_,h,_,_ | .bool,.bool _ :: _,.raw _ :: _,_,_,_,h,_,_=>by simp [ad.cmp] at h
 | .str,.str _ :: _,.int _ _ :: _,_,_,_,h,_,_ | .str,.str _ :: _,.bool _ :: _,_,_,_,h,_,_ | .str,.str _ :: _,.nil _ :: _,_,_,_,h,_,_ | .str,.str _ :: _,.bM _ _ _ _ :: _,_,_,_,h,_,_ | .str,.str _ :: _,.af _ _ :: _,_,_,_,h,_,_ | .str,.str _ :: _,.raw _ :: _,_,_,_,h,_,_=>by simp [ad.cmp] at h
theorem aA.zY{w w':World}{Z:ag}{s:ar}{ι : Nat→bH} : ∀(t:aA) {cs ds:List bb} {r:Bool×List bb×List bb} {us vs:List Value},t.cmp cs ds=some r→bL w Z s ι cs us→bL w Z s ι ds vs →
  ∃us1 us2 vs1 vs2 a b,us=us1++us2∧vs=vs1++vs2∧cs=a++r.2.1∧ds=b++r.2.2∧bL w' Z s ι a us1∧bL w' Z s ι b vs1∧bL w Z s ι r.2.1 us2∧bL w Z s ι r.2.2 vs2
 | .nil,cs,ds,r,us,vs,h,h1,h2=>by obtain rfl:=aW h;exact⟨[],us,[],vs,[],[],rfl,rfl,rfl,rfl,trivial,trivial,h1,h2⟩
 | .cons t ak,cs,ds,r,us,vs,h,h1,h2=>by simp only [aA.cmp] at h;obtain ⟨bE,g1,h⟩:=bd h;obtain ⟨cp,g2,h⟩:=bd h;obtain rfl:=aW h;obtain ⟨a1,a2,jl,nH,a,b,rfl,rfl,e1,e2,k1,k2,k3,bs⟩:=ad.zY (w':=w') t g1 h1 h2;obtain ⟨a3,a4,oS,zZ,b5,b',rfl,rfl,e3,et,ea,eV,oR,pV⟩:=aA.zY (w':=w') ak g2 k3 bs;exact⟨a1++a3,a4,jl++oS,zZ,a++b5,b++b',by simp,by simp,by rw [e1,e3];simp,by rw [e2,et];simp,k1.append ea,k2.append eV,oR,pV⟩
end
theorem Tc{w:World}{Z:ag}{s:ar}{ι : Nat→bH}{T:ad}{cs ds:List bb}{q:Bool}{us vs:List Value}(h:T.cmp cs ds=some (q,[],[]))(h1:bL w Z s ι cs us)(h2:bL w Z s ι ds vs)(w':World) :
  bL w' Z s ι cs us∧bL w' Z s ι ds vs:=by
 obtain ⟨us1,us2,vs1,vs2,a,b,e3,et,kP,sN,bp,df,dW,cV⟩:=ad.zY (w':=w') T h h1 h2;have fk:us2=[]:=by cases us2 with | nil=>rfl | cons=>exact dW.elim
 have kk:vs2=[]:=by cases vs2 with | nil=>rfl | cons=>exact cV.elim
 subst fk kk;simp only [List.append_nil] at e3 et kP sN;rw [e3,et,kP,sN];exact⟨bp,df⟩
theorem Td{op:BinOp}{t Dp:Nat}{x y:Operand}(b2:hB P E)(hE:Tb P E)(h:Inv w0 F0 Z0 n s a w ι Z)(af:∀k,o.dst=some k→k<n)(ho:o.op=.binOp op t x y Dp)(hk:cZ E id o s K=some r) :
  ∃av,K av=some r∧Pure P o a w (c5 w0 F0 Z0 n av):=by
 unfold cZ at hk;rw [ho] at hk;simp only at hk;have hx:=fe h x;have aR:=fe h y
 cases cQ:bZ s x with
 | aV c=>
  rw [cQ] at hk hx;simp only [aT] at hx
  cases gE:bZ s y with
  | aV d=>
   rw [gE] at hk aR;simp only [aT] at aR;cases c <;> cases d <;> simp only [lk] at hk <;> try (simp at hk;done)
   ·rename_i k i k' j;simp only [cr] at hx aR;have aC:∀w:World,(eqGuard op t x y (a.eval x) (a.eval y)).run P w=.ok () w:=fun w=>xI (by rw [hx];exact .inl ⟨_,_,rfl⟩)
    by_cases h1:op=.shl
    ·subst h1;obtain ⟨h0,hk⟩:=sM hk;have h0:=of_decide_eq_true h0;refine⟨_,hk,dE (fun w'=>jK ho (aC w') (by rw [hx,aR];simp only [binOp,Op.shift];rw [if_neg (by omega)];rfl)) h (by simp only [aT,cr]) af⟩
    by_cases h2:op=.shr
    ·subst h2;obtain ⟨h0,hk⟩:=sM hk;have h0:=of_decide_eq_true h0;refine⟨_,hk,dE (fun w'=>jK ho (aC w') (by rw [hx,aR];simp only [binOp,Op.shift];rw [if_neg (by omega)];rfl)) h (by simp only [aT,cr]) af⟩
    by_cases h3:op=.quo
    ·subst h3;cases hkk:Nat.beq (dx k) (dx k')
     ·rw [hkk] at hk;simp at hk
     have hk1:jZ (j != 0) (K (s.dst o.dst (.aV (.int k (k.wrap (i.tdiv j))))))=some r:=by have hk2:cond (Nat.beq (dx k) (dx k')) (jZ (j != 0) (K (s.dst o.dst (.aV (.int k (k.wrap (i.tdiv j))))))) none=some r:=hk;rw [hkk] at hk2;exact hk2
     clear hk;obtain ⟨h0,hk⟩:=sM hk1;obtain rfl:=Dn hkk;have h0:j≠0:=by simpa using h0
     refine⟨_,hk,dE (fun w'=>jK ho (aC w') (by rw [hx,aR];simp only [binOp,Op.intDiv];rw [if_neg (by simp),if_neg h0];rfl)) h (by simp only [aT,cr]) af⟩
    by_cases h4:op=.rem
    ·subst h4;cases hkk:Nat.beq (dx k) (dx k')
     ·rw [hkk] at hk;simp at hk
     have hk1:jZ (j != 0) (K (s.dst o.dst (.aV (.int k (i.tmod j)))))=some r:=by have hk2:cond (Nat.beq (dx k) (dx k')) (jZ (j != 0) (K (s.dst o.dst (.aV (.int k (i.tmod j)))))) none=some r:=hk;rw [hkk] at hk2;exact hk2
     clear hk;obtain ⟨h0,hk⟩:=sM hk1;obtain rfl:=Dn hkk;have h0:j≠0:=by simpa using h0
     refine⟨_,hk,dE (fun w'=>jK ho (aC w') (by rw [hx,aR];simp only [binOp,Op.intDiv];rw [if_neg (by simp),if_neg h0];rfl)) h (by simp only [aT,cr]) af⟩
    have dO:cond (Nat.beq (dx k) (dx k')) (lift (Da op k i j) fun v=>K (s.dst o.dst v)) none=some r:=by cases op <;> first | exact hk | exact absurd rfl h1 | exact absurd rfl h2 | exact absurd rfl h3 | exact absurd rfl h4
    cases hkk:Nat.beq (dx k) (dx k')
    ·rw [hkk] at dO;simp at dO
    rw [hkk] at dO;obtain rfl:=Dn hkk;obtain ⟨v,hv,dO⟩:=S' dO;obtain ⟨u,hu,cS⟩:=aea (P:=P) (ty:=t) (yty:=Dp) (xo:=x) (yo:=y) hv h1 h2 h3 h4;exact⟨_,dO,dE (fun w'=>jK ho (aC w') (by rw [hx,aR];exact hu w')) h (cS _ _ _ _) af⟩
   ·rename_i i j;simp only [cr] at hx aR;have aC:∀w:World,(eqGuard op t x y (a.eval x) (a.eval y)).run P w=.ok () w:=fun w=>xI (by rw [hx];exact .inr (.inr (.inl ⟨_,rfl⟩)))
    cases ht:E.ty t with
    | none=>rw [ht] at hk;simp at hk
    | some T=>
     cases T with
     | bool=>
      rw [ht] at hk;have hu:P.underlying t=some .bool:=by have:=b2.ty t _ ht;simp only [ad.ok] at this;exact this.1
      have hb:∀(i j:Bool) {w:World},(Op.equal t (.bool i) (.bool j)).run P w=.ok (i==j) w:=by intro i j w;unfold Op.equal Op.maxDepth Op.equalIn;rw [run_bind,run_underlying hu];rfl
      cases op <;> simp only at hk <;> try (simp at hk;done)
      ·exact⟨_,hk,dE (fun w'=>jK ho (aC w') (by rw [hx,aR];simp only [binOp,run_bind,hb];rfl)) h (by simp only [aT,cr]) af⟩
      ·exact⟨_,hk,dE (fun w'=>jK ho (aC w') (by rw [hx,aR];simp only [binOp,run_bind,hb];rfl)) h (by simp only [aT,cr]) af⟩
     | _=>rw [ht] at hk;simp at hk
   ·obtain ⟨xJ,hx,rfl⟩:=hx;obtain ⟨xK,aR,rfl⟩:=aR;have aC:∀w:World,(eqGuard op t x y (a.eval x) (a.eval y)).run P w=.ok () w:=fun w=>xI (by rw [hx];exact .inr (.inl ⟨_,rfl⟩))
    by_cases h1:op=.add
    ·subst h1;obtain ⟨h0,hk⟩:=sM hk;have h0:=Nat.le_of_ble_eq_true h0;simp only [Array.length_toList] at h0
     refine⟨_,hk,dE (v:=.string (xJ++xK)) (fun w'=>jK ho (aC w') (by
      rw [hx,aR];simp only [binOp,Op.stringOp];rw [if_neg];rfl;have e1:xJ.data.size=xJ.size:=rfl;have e2:xK.data.size=xK.size:=rfl;simp only [IntKind.max,IntKind.signed,IntKind.bits,if_true]
      omega)) h (by simp only [aT,cr];exact⟨_,rfl,by simp⟩) af⟩
    ·have dO:lift (Db op xJ.data.toList xK.data.toList) (fun v=>K (s.dst o.dst v))=some r:=by
      cases op <;> first | exact hk | exact absurd rfl h1
     obtain ⟨v,hv,dO⟩:=S' dO;obtain ⟨u,hu,cS⟩:=aeb (P:=P) (ty:=t) hv;exact⟨_,dO,dE (fun w'=>jK ho (aC w') (by rw [hx,aR];exact hu w')) h (cS _ _ _ _) af⟩
  | lh=>
   rw [gE] at hk aR;simp only [aT] at aR
   cases c with
   | bM cO dp cI xs=>
    cases dp with
    | cons=>simp [lk] at hk
    | nil=>
     simp only [lk] at hk
     cases sO:E.ty t with
     | none=>rw [sO] at hk;simp at hk
     | some T=>
      cases T with
      | sl u=>
       rw [sO] at hk;obtain ⟨e,hu,_⟩:=l3 (b2.ty _ _ sO);obtain ⟨_,_,cS,_⟩:=hx;have cS:=cS rfl;simp only [ad.au] at cS;obtain ⟨A,c',hv,uL⟩:=cS;have iv:a.eval x=.slice A xs.length c':=by simpa using hv
       have aC:∀w:World,(eqGuard op t x y (a.eval x) (a.eval y)).run P w=.ok () w:=fun w=>by rw [iv,aR];unfold eqGuard;cases op <;> rfl
       have hb:∀ {w:World},(Op.equal t (.slice A xs.length c') (.slice none 0 0)).run P w=.ok A.isNone w:=by intro w;unfold Op.equal Op.maxDepth Op.equalIn;rw [run_bind,run_underlying hu];cases A <;> rfl
       have he:A.isNone=true→xs.isEmpty=true:=fun hA=>by
        rcases uL with uL | ⟨a0,uL,_⟩
        ·rw [uL];rfl
        ·rw [uL] at hA;cases hA
       have pick:∀ {k1 mJ:Option bB},Dc xs.isEmpty k1 mJ=some r→(cond A.isNone k1 mJ)=some r:=by
        intro k1 mJ hk;unfold Dc both at hk;cases hA:A.isNone
        ·rw [hA] at he;cases Te:xs.isEmpty
         ·rw [Te] at hk;exact hk
         ·rw [Te] at hk;simp only [cond_true] at hk;split at hk
          ·rename_i h;rw [cond_false,← h];exact hk
          ·cases hk
        ·rw [he hA] at hk;simp only [cond_true] at hk ⊢;split at hk
         ·exact hk
         ·cases hk
       cases op <;> simp only at hk <;> try (simp at hk;done)
       ·have hk:=pick hk;refine⟨s.dst o.dst (.aV (.bool A.isNone)),by cases A <;> exact hk,dE (fun w'=>jK ho (aC w') (by rw [iv,aR];simp only [binOp,run_bind,hb];rfl)) h (by simp only [aT,cr]) af⟩
       ·have hk:=pick hk;refine⟨s.dst o.dst (.aV (.bool (!A.isNone))),by cases A <;> exact hk,dE (fun w'=>jK ho (aC w') (by rw [iv,aR];simp only [binOp,run_bind,hb];rfl)) h (by simp only [aT,cr]) af⟩
      | _=>rw [sO] at hk;simp at hk
   | _=>simp [lk] at hk
  | _=>rw [gE] at hk;cases c <;> simp [lk] at hk
 | iK cs=>
  rw [cQ] at hk hx;simp only [aT] at hx
  cases gE:bZ s y with
  | iK ds=>
   rw [gE] at hk aR;simp only [aT] at aR;obtain ⟨us,hx,Tf⟩:=hx;obtain ⟨vs,aR,Tg⟩:=aR;simp only [lk] at hk;cases he:E.Kh t
   ·rw [he] at hk;simp at hk
   rw [he] at hk;simp only [cond_true] at hk
   cases sO:E.ty t with
   | none=>rw [sO] at hk;simp at hk
   | some T=>
   rw [sO] at hk;simp only at hk
   cases hq:T.cmp cs ds with
   | none=>rw [hq] at hk;cases op <;> simp at hk
   | some q=>
    obtain ⟨q,bE,cp⟩:=q;rw [hq] at hk
    match bE,cp,hq,hk with
    | [],[],hq,hk=>
     have hE:=fun w'=>hE t T he sO op x y w' Z s ι cs ds us vs q (Tc hq Tf Tg w').1 (Tc hq Tf Tg w').2 hq
     cases op <;> simp only at hk <;> try (simp at hk;done)
     ·exact⟨_,hk,dE (fun w'=>jK ho (by rw [hx,aR];exact(hE w').1) (by rw [hx,aR];exact(hE w').2.1 rfl)) h (by simp only [aT,cr]) af⟩
     ·exact⟨_,hk,dE (fun w'=>jK ho (by rw [hx,aR];exact(hE w').1) (by rw [hx,aR];exact(hE w').2.2 rfl)) h (by simp only [aT,cr]) af⟩
    | _ :: _,_,_,hk=>cases op <;> simp at hk
    | [],_ :: _,_,hk=>cases op <;> simp at hk
  | _=>rw [gE] at hk;simp [lk] at hk
 | opt j i=>
  rw [cQ] at hk hx;simp only [aT] at hx
  cases gE:bZ s y with
  | kg=>
   rw [gE] at hk aR;simp only [aT] at aR;simp only [lk] at hk;cases mK:E.uB t
   ·rw [mK] at hk;simp at hk
   rw [mK] at hk;obtain ⟨e,hu⟩:=b2.ptr t mK;have aC:∀w:World,(eqGuard op t x y (a.eval x) (a.eval y)).run P w=.ok () w:=by intro w;rcases hx.2 with⟨_,hx⟩ | ⟨_,A,hx,_⟩ <;> exact xI (by rw [hx];exact .inr (.inr (.inr ⟨_,rfl⟩)))
   have hb:∀ {w:World},(Op.equal t (a.eval x) (.pointer none)).run P w=.ok (decide (i<0)) w:=by
    intro w;rcases hx.2 with⟨h0,hx⟩ | ⟨h0,A,hx,_⟩
    ·rw [hx];unfold Op.equal Op.maxDepth Op.equalIn;rw [run_bind,run_underlying hu];simp [h0,run_pure]
    ·rw [hx];unfold Op.equal Op.maxDepth Op.equalIn;rw [run_bind,run_underlying hu];have:¬i<0:=by omega
     simp [this,run_pure]
   have l4:∀(op:BinOp) (v:Value),(op=.eql→v=.bool (decide (i<0)))→(op=.neq→v=.bool (!decide (i<0)))→(op=.eql∨op=.neq)→∀ {w:World},(binOp op t (a.eval x) (a.eval y)).run P w=.ok v w:=by
    intro op v h1 h2 h3 w;rw [aR];have q7:∃q,a.eval x=.pointer q:=by rcases hx.2 with⟨_,hx⟩ | ⟨_,A,hx,_⟩ <;> exact⟨_,hx⟩
    obtain ⟨q,q7⟩:=q7;rw [q7];have hb:∀ {w:World},(Op.equal t (.pointer q) (.pointer none)).run P w=.ok (decide (i<0)) w:=fun {w}=> by rw [← q7];exact hb
    rcases h3 with rfl | rfl
    ·rw [h1 rfl];simp only [binOp,run_bind,hb];rfl
    ·rw [h2 rfl];simp only [binOp,run_bind,hb];rfl
   cases op <;> simp only at hk <;> try (simp at hk;done)
   ·exact⟨_,hk,dE (fun w'=>jK ho (aC w') (l4 .eql _ (fun _=>rfl) (fun h=>by simp at h) (.inl rfl))) h (by simp only [aT,cr]) af⟩
   ·exact⟨_,hk,dE (fun w'=>jK ho (aC w') (l4 .neq _ (fun h=>by simp at h) (fun _=>rfl) (.inr rfl))) h (by simp only [aT,cr]) af⟩
  | _=>rw [gE] at hk;simp [lk] at hk
 | may b dp cs=>
  rw [cQ] at hk hx;simp only [aT] at hx
  cases gE:bZ s y with
  | kg=>
   rw [gE] at hk aR;simp only [aT] at aR;simp only [lk] at hk;cases mK:E.uB t
   ·rw [mK] at hk;simp at hk
   rw [mK] at hk;obtain ⟨e,hu⟩:=b2.ptr t mK;have aC:∀w:World,(eqGuard op t x y (a.eval x) (a.eval y)).run P w=.ok () w:=by intro w;rcases hx with⟨_,hx⟩ | ⟨_,_,_,_,_,hx,_⟩ <;> exact xI (by rw [hx];exact .inr (.inr (.inr ⟨_,rfl⟩)))
   have hb:∀ {w:World},(Op.equal t (a.eval x) (.pointer none)).run P w=.ok (!b) w:=by
    intro w;rcases hx with⟨h0,hx⟩ | ⟨h0,_,_,_,_,hx,_⟩
    ·rw [hx];unfold Op.equal Op.maxDepth Op.equalIn;rw [run_bind,run_underlying hu];simp [h0,run_pure]
    ·rw [hx];unfold Op.equal Op.maxDepth Op.equalIn;rw [run_bind,run_underlying hu];simp [h0,run_pure]
   have l4:∀(op:BinOp) (v:Value),(op=.eql→v=.bool (!b))→(op=.neq→v=.bool (b))→(op=.eql∨op=.neq)→∀ {w:World},(binOp op t (a.eval x) (a.eval y)).run P w=.ok v w:=by
    intro op v h1 h2 h3 w;rw [aR];have q7:∃q,a.eval x=.pointer q:=by rcases hx with⟨_,hx⟩ | ⟨_,_,_,_,_,hx,_⟩ <;> exact⟨_,hx⟩
    obtain ⟨q,q7⟩:=q7;rw [q7];have hb:∀ {w:World},(Op.equal t (.pointer q) (.pointer none)).run P w=.ok (!b) w:=fun {w}=> by rw [← q7];exact hb
    rcases h3 with rfl | rfl
    ·rw [h1 rfl];simp only [binOp,run_bind,hb];rfl
    ·rw [h2 rfl];simp only [binOp,run_bind,hb];simp only [Bool.not_not];rfl
   cases op <;> simp only at hk <;> try (simp at hk;done)
   ·exact⟨_,hk,dE (fun w'=>jK ho (aC w') (l4 .eql _ (fun _=>rfl) (fun h=>by simp at h) (.inl rfl))) h (by simp only [aT,cr]) af⟩
   ·exact⟨_,hk,dE (fun w'=>jK ho (aC w') (l4 .neq _ (fun h=>by simp at h) (fun _=>rfl) (.inr rfl))) h (by simp only [aT,cr]) af⟩
  | _=>rw [gE] at hk;simp [lk] at hk
 | ptr p=>
  rw [cQ] at hk hx;simp only [aT] at hx;obtain ⟨_,A,hx,_⟩:=hx
  cases gE:bZ s y with
  | kg=>
   rw [gE] at hk aR;simp only [aT] at aR;simp only [lk] at hk;cases mK:E.uB t
   ·rw [mK] at hk;simp at hk
   rw [mK] at hk;obtain ⟨e,hu⟩:=b2.ptr t mK;have aC:∀w:World,(eqGuard op t x y (a.eval x) (a.eval y)).run P w=.ok () w:=fun w=>xI (by rw [hx];exact .inr (.inr (.inr ⟨_,rfl⟩)))
   have hb:∀ {w:World},(Op.equal t (.pointer (some A)) (.pointer none)).run P w=.ok false w:=by intro w;unfold Op.equal Op.maxDepth Op.equalIn;rw [run_bind,run_underlying hu];rfl
   cases op <;> simp only at hk <;> try (simp at hk;done)
   ·exact⟨_,hk,dE (fun w'=>jK ho (aC w') (by rw [hx,aR];simp only [binOp,run_bind,hb];rfl)) h (by simp only [aT,cr]) af⟩
   ·exact⟨_,hk,dE (fun w'=>jK ho (aC w') (by rw [hx,aR];simp only [binOp,run_bind,hb];rfl)) h (by simp only [aT,cr];rfl) af⟩
  | _=>rw [gE] at hk;simp [lk] at hk
 | _=>rw [cQ] at hk;simp [lk] at hk
end
end Go.LM
namespace Go.LM
def da{α : Type}(R : α → List Value→ag→Prop)(size:Nat):List α → List Value→ag→Prop
 | [],vs,_=>vs=[]
 | x :: xs,vs,F=>∃us ak G H,vs=us++ak∧R x us G∧us.length=size∧da R size xs ak H∧ag.apart G H∧ag.sub G F∧ag.sub H F
section
variable{α : Type}{R jh : α → List Value→ag→Prop}{size:Nat}{w:World}
theorem da.len:∀ {xs:List α} {vs:List Value} {F:ag},da R size xs vs F→vs.length=xs.length*size
 | [],_,_,h=>by simp only [da] at h;subst h;simp
 | x :: xs,_,_,h=>by obtain ⟨us,ak,G,H,rfl,_,h1,h2,_⟩:=h;rw [List.length_append,h1,da.len h2,List.length_cons,Nat.add_one_mul];omega
theorem da.mono:∀ {xs:List α} {vs:List Value} {F F':ag},ag.sub F F'→da R size xs vs F→da R size xs vs F'
 | [],_,_,_,_,h=>h
 | x :: xs,_,_,_,hs,⟨us,ak,G,H,h1,h2,h3,h4,a7,bh,bJ⟩=>⟨us,ak,G,H,h1,h2,h3,h4,a7,fun b o h=>hs b o (bh b o h),fun b o h=>hs b o (bJ b o h)⟩
theorem da.imp:∀ {xs:List α} {vs:List Value} {F:ag},da R size xs vs F→(∀y us G,ag.sub G F→R y us G→jh y us G)→da jh size xs vs F
 | [],_,_,h,_=>h
 | x :: xs,_,F,⟨us,ak,G,H,h1,h2,h3,h4,a7,bh,bJ⟩,e6=>⟨us,ak,G,H,h1,e6 _ _ _ bh h2,h3,da.imp h4 (fun y us dv hs=>e6 y us dv fun b o h=>bJ b o (hs b o h)),a7,bh,bJ⟩
theorem da.bare:∀ {xs:List α} {vs:List Value} {F:ag},da R size xs vs F→(∀y us G,ag.sub G F→R y us G→jh y us ag.none)→da jh size xs vs ag.none
 | [],_,_,h,_=>h
 | x :: xs,_,F,⟨us,ak,G,H,h1,h2,h3,h4,a7,bh,bJ⟩,e6=>⟨us,ak,ag.none,ag.none,h1,e6 _ _ _ bh h2,h3,da.bare h4 (fun y us dv hs=>e6 y us dv fun b o h=>bJ b o (hs b o h)),fun _ _ h=>h.elim,fun _ _ h=>h,fun _ _ h=>h⟩
theorem da.append:∀ {xs ys:List α} {us vs:List Value} {F G:ag},da R size xs us F→da R size ys vs G→ag.apart F G→da R size (xs++ys) (us++vs) (F.or G)
 | [],ys,us,vs,F,G,h,k,_=>by simp only [da] at h;subst h;exact k.mono fun _ _ h=>.inr h
 | x :: xs,ys,us,vs,F,G,⟨a,b,A,B,h1,h2,h3,h4,a7,bh,bJ⟩,k,ha=>by
  refine⟨a,b++vs,A,B.or G,by rw [h1,List.append_assoc],h2,h3,da.append h4 k (fun b o h=>ha b o (bJ b o h)),?_,fun b o h=>.inl (bh b o h),fun b o h=>h.imp (bJ b o) id⟩
  rintro b o g (h | h)
  ·exact a7 b o g h
  ·exact ha b o (bh b o g) h
theorem da.row:∀ {xs:List α} {vs:List Value} {F:ag} {b o:Nat},da R size xs vs F→cc w b o vs→Row w R size xs b o F
 | [],_,_,_,_,_,_=>trivial
 | x :: xs,_,_,b,o,⟨us,ak,G,H,h1,h2,h3,h4,a7,bh,bJ⟩,hc=>by subst h1;exact⟨us,G,H,h2,h3,hc.left,da.row h4 (h3 ▸ hc.right),a7,bh,bJ⟩
theorem Row.uu:∀ {xs:List α} {b o:Nat} {F:ag},Row w R size xs b o F→∃vs,da R size xs vs F∧cc w b o vs
 | [],_,_,_,_=>⟨[],rfl,cc.nil _ _ _⟩
 | x :: xs,b,o,F,⟨us,G,H,h1,h2,h3,h4,a7,bh,bJ⟩=>by obtain ⟨ak,k1,k2⟩:=Row.uu h4;exact⟨us++ak,⟨us,ak,G,H,rfl,h1,h2,k1,a7,bh,bJ⟩,h3.append (by rw [h2];exact k2)⟩
theorem da.replicate{x : α}{us:List Value}(e6:R x us ag.none)(hl:us.length=size):∀n,da R size (List.replicate n x) (List.replicate n us).flatten ag.none
 | 0=>rfl
 | n+1=>by rw [List.replicate_succ,List.replicate_succ,List.flatten_cons];exact⟨us,_,ag.none,ag.none,rfl,e6,hl,da.replicate e6 hl n,fun _ _ h=>h.elim,fun _ _ h=>h,fun _ _ h=>h⟩
end
mutual
theorem K4{w:World}{Z F:ag} : ∀(t:ad) (m:bg),t.au w Z m t.zero t.cT F
 | .int _,_=>by simp only [ad.au,ad.zero,ad.cT]
 | .bool,_=>by simp only [ad.au,ad.zero,ad.cT]
 | .str,_=>by simp only [ad.au,ad.zero,ad.cT];exact⟨_,rfl,rfl⟩
 | .raw,_=>by simp only [ad.au,ad.zero,ad.cT];exact⟨trivial,_,_,_,rfl⟩
 | .sl t,.O e=>by simp only [ad.au,ad.zero,ad.cT];exact⟨none,0,rfl,.inl (by simp)⟩
 | .sl t,.R=>by simp only [ad.au,ad.zero,ad.cT];exact⟨none,0,rfl,.inl trivial⟩
 | .sl t,.S _=>by simp only [ad.au,ad.zero,ad.cT];exact⟨none,0,rfl,.inl trivial⟩
 | .st ak,m=>by simp only [ad.au,ad.zero,ad.cT];exact Th ak m.parts
theorem Th{w:World}{Z F:ag} : ∀(ak:aA) (m:c3),ak.au w Z m ak.zero ak.cT F
 | .nil,_=>by simp only [aA.au,aA.cT]
 | .cons t ak,m=>by simp only [aA.au,aA.zero,aA.cT];exact⟨t.cT,ak.cT,ag.none,ag.none,rfl,K4 t m.af,Th ak m.dC,fun _ _ h=>h.elim,fun _ _ h=>h.elim,fun _ _ h=>h.elim⟩
end
section
variable{P:Program}{Q:Exit→Act→World→Prop}
variable{w0:World}{F0 Z0:ag}{n:cM}{s av:ar}{a b5:Act}{w w':World}{ι bm:Nat→bH}{Z Z':ag}
variable{E:Env}{o:Oper}{bB : Type}{K:ar→Option bB}{r : bB}{id:Nat}
theorem bK.ext{F S:ag}(hf:bK w0 F0 s w ι Z F)(hx:Ext w w' S):bK w0 F0 s w' ι Z F:=
 ⟨fun b o h=>⟨(hf.own b o h).1,Nat.lt_of_lt_of_le (hf.own b o h).2 hx.size⟩,hf.apart,hf.db⟩
theorem Inv.fresh(h:Inv w0 F0 Z0 n s a w ι Z){F:ag}(hF:∀b o,F b o→w.heap.size≤b∧b<w'.heap.size):bK w0 F0 s w' ι Z F:=by
 have:=h.ext.size;refine⟨fun b o hf=>⟨.inr (by have:=(hF b o hf).1;omega),(hF b o hf).2⟩,fun id hl b o h1 h2=>?_,fun b o h1 h2=>?_⟩
 ·have:=(h.own id hl b o h2).2;have:=(hF b o h1).1;omega
 ·have:=h.ji b o h2;have:=(hF b o h1).1;omega
def grown(w:World)(d:Nat)(arr:Array Value)(e:TypeId)(f:Nat×Nat):World:= { w with drawn:=d,heap:=w.heap.push (.cells arr e f) }
theorem C3(w:World)(d:Nat)(arr:Array Value)(e:TypeId)(f:Nat×Nat)(F:ag):Ext w (grown w d arr e f) F:=
 ⟨rfl,rfl,rfl,by simp [grown],fun b hb=>.inl (by simp only [grown];rw [Array.getElem?_push,if_neg (by omega)])⟩
theorem zL(w:World)(d:Nat)(arr:Array Value)(e:TypeId)(f:Nat×Nat):(grown w d arr e f).heap[w.heap.size]?=some (.cells arr e f):=by simp [grown]
theorem zK(w:World)(d:Nat)(arr:Array Value)(e:TypeId)(f:Nat×Nat)(o:Nat):(grown w d arr e f).cell? (at_ w.heap.size o)=arr[o]?:=cell_of_heap (zL ..) o
theorem Ka(w:World)(d:Nat)(arr:Array Value)(e:TypeId)(f:Nat×Nat):(grown w d arr e f).heap.size=w.heap.size+1:=by simp [grown]
theorem Inv.newRow(h:Inv w0 F0 Z0 n s a w ι Z){id:Nat}(cj:s.o id=.none){t:ad}{em:bg}{xs:List t.D}{vs:List Value}{G:ag}
  (he:da (t.au w Z em) t.size xs vs G) (hG:bK w0 F0 s w ι Z G) (d:Nat) (arr:Array Value) (e:TypeId) (f:Nat×Nat) (c:Nat)
  (hv:∀(j:Nat) (v:Value),vs[j]?=some v→arr[j]?=some v) (hc:xs.length≤c) (hsz:c*t.size≤arr.size) (hf:f.1=f.2∨c*t.size≤f.1) (hf2:t.size=1∨f.1=f.2) :
  Inv w0 F0 Z0 n (s.bV id (.row t em 0 xs)) a (grown w d arr e f) (bW ι id ⟨some (at_ w.heap.size 0),c,(ag.run w.heap.size 0 (c*t.size)).or G⟩) Z:=by
 have hx:=C3 w d arr e f ag.none;have h1:=h.world hx;have ko:bK w0 F0 s (grown w d arr e f) ι Z (ag.run w.heap.size 0 (c*t.size)):=h.fresh (by rintro b o ⟨rfl,_,_⟩;rw [Ka];omega);have fl:=hG.ext hx;refine h1.Dg cj ?_ (ko.or fl);refine .inr ⟨at_ w.heap.size 0,rfl,rfl,hc,fun j hj=>⟨⟨⟨arr[j]'(by simp only at hj;omega),?_⟩,?_⟩,?_⟩,fun j hj=>.inl ⟨rfl,by simp [at_],by simpa [at_] using hj⟩,G,?_,?_,fun _ _ h=>.inr h⟩
 ·show World.cell? _ (at_ w.heap.size (0+j))=_;rw [zK];simp
 ·show World.frozen? _ (at_ w.heap.size (0+j))=_;rw [qU,zL];simp only at hj;simp only [Bool.and_eq_false_iff,decide_eq_false_iff_not];omega
 ·refine hf2.imp (fun h=>h) fun h2 k=>?_
  show World.frozen? _ (at_ w.heap.size k)=_;rw [qU,zL];simp only [Bool.and_eq_false_iff,decide_eq_false_iff_not];omega
 ·refine da.row (he.imp fun y us dv hs hr=>ad.au.same (cf.jk hx h.ji fun _ _ _ h=>h) _ _ (cf.jk hx (fun b o aC=>(hG.own b o (hs b o aC)).2) fun _ _ _ h=>h) hr) ?_;intro i v hi;show World.cell? _ (at_ w.heap.size (0+i))=_;rw [zK,Nat.zero_add];exact hv i v hi
 ·intro j hj aC;have:=(hG.own _ _ aC).2;simp [at_] at this
theorem z1{id:Nat}{t:ad}{em:bg}{ver:Nat}{xs:List t.D}{A:Addr}{c:Nat}{F:ag}(hA:A.spot=none)(hc:xs.length≤c) :
  cr w Z (s.bV id (.row t em ver xs)) (bW ι id ⟨some A,c,F⟩) (.af id none) (.slice (some A) xs.length c):=by
 refine⟨?_,some A,xs.length,c,rfl,?_⟩
 ·show bW s.o id _ id≠_;rw [cL];simp
 ·intro cO gD nM gg ho;have sF:(bW s.o id (cB.row t em ver xs) id).core=.row cO gD nM gg:=ho;rw [cL] at sF ⊢;obtain ⟨rfl,_,_,h4⟩:=cB.row.inj sF;have:=eq_of_heq h4;subst this;refine⟨rfl,by simp [eB],hc,by simp [eB],.inr ⟨A,rfl,?_⟩⟩;simp only [eB,Nat.zero_mul,Nat.add_zero];cases A;simp_all [at_]
theorem Ti(us:List Value):∀(n j:Nat),j<n*us.length→(List.replicate n us).flatten[j]?=us[j % us.length]?
 | 0,j,h=>by simp at h
 | n+1,j,h=>by
  rw [List.replicate_succ,List.flatten_cons];by_cases hj:j<us.length
  ·rw [List.getElem?_append_left hj,Nat.mod_eq_of_lt hj]
  ·have h':j<n*us.length+us.length:=by rw [← Nat.add_one_mul];exact h
   rw [List.getElem?_append_right (by omega),Ti us n (j-us.length) (by omega),← Nat.mod_eq_sub_mod (by omega)]
theorem K5{z:Array Value}{m j:Nat}(us:List Value)(n:Nat)(hz:z.toList=us)(hm:m=n*us.length)(v:Value)(h:(List.replicate n us).flatten[j]?=some v) :
  ((Array.range m).map (z[· % z.size]!))[j]?=some v:=by
 subst hz
 have hj:j<n*z.toList.length:=by
  rcases Nat.lt_or_ge j (n*z.toList.length) with h1 | h1
  ·exact h1
  ·rw [List.getElem?_eq_none (by simp;simpa using h1)] at h;simp at h
 rw [Ti _ _ _ hj] at h;have hl:z.toList.length=z.size:=by simp
 rw [hl] at h hj;rw [Array.getElem?_map,Array.getElem?_range,if_pos (by rw [hm,hl];exact hj)];simp only [Option.map_some,Option.some.injEq]
 have bO:j % z.size<z.size:=by
  apply Nat.mod_lt;rcases Nat.eq_zero_or_pos z.size with h0 | h0
  ·rw [h0] at hj;simp at hj
  ·exact h0
 rw [getElem!_pos z _ bO];simpa [bO] using h
theorem wrap_i64{i:Int}(h0:0≤i)(h1:i≤68719476736):IntKind.wrap .i64 i=i:=by simp [IntKind.wrap,IntKind.bits,IntKind.signed];omega
theorem aec{k:IntKind}{i:Int} :(asInt (.int k i)).run P w=.ok i w:=rfl
theorem xL(T:ad):(dN T T.cT).cells.toList=T.cT:=KT (ad.l2 T) ((sJ (w:=default) (Z:=ag.none) (s:=⟨fun _=>.aB,fun _=>.none,[]⟩) (ι := fun _=>⟨none,0,ag.none⟩) T).ep)
theorem run_askRoom{b:Nat} :(askRoom b).run P w=.ok () w:=by unfold askRoom;split <;> rfl
theorem Dq{e:TypeId}{arr:Array Value} :(newRow e arr).run P w=.ok (at_ w.heap.size 0) (grown w w.drawn arr e (0,0)):=by simp [newRow,Go.newObj,run_bind,Sem.run,run_pure,at_,grown]
theorem run_makeSlice{T:ad}{t e:TypeId}{k k':IntKind}{m:Int}(hu:P.underlying t=some (.slice e))(cl:T.ok P e)(h0:0≤m)(h1:m≤68719476736) :
  ∃arr:Array Value,(∀(j:Nat) (v:Value),(List.replicate m.toNat T.cT).flatten[j]?=some v→arr[j]?=some v)∧arr.size=m.toNat*T.size ∧
   (Instr.makeSlice t (.int k m) (.int k' m)).run P w=.ok (.slice (some (at_ w.heap.size 0)) m.toNat m.toNat) (grown w w.drawn arr e (0,0)):=by
 obtain ⟨i,mL,gw,xM,K6⟩:=cl.info;have hb:¬((i.bytes:Int)*m>2 ^ 48):=by have:(i.bytes:Int)*m≤2048*68719476736:=Int.mul_le_mul (by omega) h1 h0 (by omega);omega
 have z6:(dN T T.cT).cells.size=T.size:=by have:=congrArg List.length (xL T);rw [Array.length_toList,ad.l2] at this;exact this
 refine⟨(Array.range (m.toNat*T.size)).map fun j=>(if m.toNat*T.size=0 then #[] else(dN T T.cT).cells)[j % (if m.toNat*T.size=0 then #[] else(dN T T.cT).cells).size]!,?_,by simp,?_⟩
 ·intro j v hj;by_cases hz:m.toNat*T.size=0
  ·have:(List.replicate m.toNat T.cT).flatten=[]:=by
    apply List.eq_nil_of_length_eq_zero;simp [ad.l2];simpa using hz
   rw [this] at hj;simp at hj
  ·simp only [if_neg hz];exact K5 T.cT m.toNat (xL T) (by rw [ad.l2]) v hj
 ·unfold Instr.makeSlice;simp only [run_bind,run_underlying hu,aec,run_typeInfo mL,wrap_i64 h0 h1];have sP:¬m<0:=by omega
  simp only [sP,hb,decide_false,Bool.or_false,Bool.false_or,Bool.false_eq_true,if_false,gt_iff_lt,Int.lt_irrefl];simp only [run_bind,run_askRoom,run_sizeOf cl];by_cases hz:m.toNat*T.size=0
  ·simp only [if_pos hz,run_bind,run_pure,Dq]
  ·simp only [if_neg hz,run_bind,run_pure,Dq,Dj cl]
theorem aed{t:Nat}{x y:Operand}(b2:hB P E)(h:Inv w0 F0 Z0 n s a w ι Z)(af:∀k,o.dst=some k→k<n)(ho:o.op=.makeSlice t x y)(hk:cZ E id o s K=some r) :
  ∃av,K av=some r∧o.wp P a w (c5 w0 F0 Z0 n av) Q:=by
 unfold cZ at hk;rw [ho] at hk;simp only at hk
 cases ht:E.ty t with
 | none=>rw [ht] at hk;simp at hk
 | some T=>
  rw [ht] at hk
  cases T with
  | sl T=>
   cases hx:kN (bZ s x) with
   | none=>rw [hx] at hk;simp at hk
   | some m=>
    cases aR:kN (bZ s y) with
    | none=>rw [hx,aR] at hk;simp at hk
    | some m'=>
     rw [hx,aR] at hk;obtain ⟨aC,hk2⟩:=sM hk;clear hk;have hk:=hk2;clear hk2;simp only [Bool.and_eq_true,decide_eq_true_eq,room] at aC;obtain ⟨⟨h0,rfl⟩,h1⟩:=aC;have h1:=Nat.le_of_ble_eq_true h1
     cases hm:mkObj s id (.row T T.own 0 (List.replicate m.toNat T.zero)) with
     | none=>rw [hm] at hk;simp at hk
     | some s1=>
      rw [hm] at hk;obtain ⟨cj,rfl⟩:=q6 hm;obtain ⟨k,hx⟩:=sK hx (fe h x);obtain ⟨k',aR⟩:=sK aR (fe h y);obtain ⟨e,hu,cl⟩:=l3 (b2.ty t _ ht);obtain ⟨arr,ha,has,hr⟩:=run_makeSlice (P:=P) (w:=w) (k:=k) (k':=k') hu cl h0 (by omega);have hn:=h.newRow cj (da.replicate (K4 T T.own) (ad.l2 T) m.toNat) bK.none w.drawn arr e (0,0) m.toNat ha (by simp) (by omega) (.inl rfl) (.inr rfl);refine⟨_,hk,mG (v:=.slice (some (at_ w.heap.size 0)) m.toNat m.toNat) ?_ hn ?_ af⟩
      ·unfold execOp;rw [ho];refine gk ?_;rw [hx,aR];exact hr
      ·simp only [aT];have:=z1 (w:=grown w w.drawn arr e (0,0)) (Z:=Z) (s:=s) (ι := ι) (id:=id) (em:=T.own) (ver:=0) (xs:=List.replicate m.toNat T.zero) (A:=at_ w.heap.size 0) (c:=m.toNat) (F:=(ag.run w.heap.size 0 (m.toNat*T.size)).or ag.none) rfl (by simp);simpa using this
  | _=>simp at hk
end
end Go.LM
namespace Go.LM
section
variable{P:Program}{Q:Exit→Act→World→Prop}
variable{w0:World}{F0 Z0:ag}{n:cM}{s av:ar}{a b5:Act}{w w':World}{ι bm:Nat→bH}{Z Z':ag}
variable{E:Env}{o:Oper}{bB : Type}{K:ar→Option bB}{r : bB}{id:Nat}
theorem xN{k:IntKind}{t:TypeId}(h:(ad.int k).ok P t):P.underlying t=some (.int k):=by simp only [ad.ok] at h;exact h.1
theorem xO{t:TypeId}(h:ad.str.ok P t):P.underlying t=some .string:=by simp only [ad.ok] at h;exact h.1
theorem K7{w:World}{Z:ag}{k:IntKind} : ∀l:List Int,da ((ad.int k).au w Z .R) 1 l (l.map (Value.int k)) ag.none
 | []=>rfl
 | x :: l=>⟨[.int k x],l.map (Value.int k),ag.none,ag.none,rfl,by simp only [ad.au],rfl,K7 l,fun _ _ h=>h.elim,fun _ _ h=>h,fun _ _ h=>h⟩
theorem aee{e:TypeId}{b:ByteArray} :
  ∃(arr:Array Value) (c d:Nat),(Conv.stringToBytes e b).run P w=.ok (.slice (some (at_ w.heap.size 0)) b.size c) (grown w d arr e (c,c+1))∧b.size≤c∧arr.size=c ∧
   ∀(j:Nat) (v:Value),((eM b.data.toList).map (Value.int .u8))[j]?=some v→arr[j]?=some v:=by
 have hq:(Question.appendCap b.size 0 e).forced=false:=rfl;have hsz:b.data.size=b.size:=rfl;refine⟨(b.data.map fun x=>Value.int .u8 x.toNat)++Array.replicate (b.size+w.tape w.drawn (.appendCap b.size 0 e) % (2 ^ 63-b.size)-b.size) (.int .u8 0),b.size+w.tape w.drawn (.appendCap b.size 0 e) % (2 ^ 63-b.size),w.drawn+1,?_,by omega,by simp [hsz],?_⟩
 ·unfold Conv.stringToBytes;simp only [run_bind,choose,Sem.run,hq,Bool.false_eq_true,if_false,Question.cut];simp only [newRow,Go.newObj,run_bind,Sem.run,run_pure,markStringish,Go.shape,Go.freeze];simp only [World.shape?,Array.getElem?_push_size,Sem.run];simp only [World.freeze,grown];simp only [Nat.succ_ne_zero,if_false,Nat.one_ne_zero,Result.ok.injEq,World.mk.injEq,true_and,and_true];apply Array.ext_getElem?;intro i;rw [Array.getElem?_modify,Array.getElem?_push,Array.getElem?_push];by_cases hi:w.heap.size=i
  ·subst hi;have:b.size +(w.tape w.drawn (Question.appendCap b.size 0 e) % (2 ^ 63-b.size)+b.size-b.size)=b.size+w.tape w.drawn (Question.appendCap b.size 0 e) % (2 ^ 63-b.size):=by omega
   simp [hsz]
  ·simp [hi];by_cases dk:i=w.heap.size
   ·exact absurd dk.symm hi
   ·simp [dk]
 ·intro j v hj;simp only [eM,List.map_map,List.getElem?_map,Option.map_eq_some_iff] at hj;obtain ⟨x,hx,rfl⟩:=hj
  have bO:j<b.data.size:=by
   rcases Nat.lt_or_ge j b.data.size with h | h
   ·exact h
   ·rw [List.getElem?_eq_none (by simpa using h)] at hx;simp at hx
  rw [Array.getElem?_append_left (by simpa using bO),Array.getElem?_map];rw [Array.getElem?_toList] at hx;rw [hx];rfl
theorem Tj{w:World}{k:IntKind}{b:Nat} : ∀ {l:List Int} {o:Nat} {F:ag},Row w (fun(y:Int) us _=>us=[Value.int k y]) 1 l b o F→cc w b o (l.map (Value.int k))
 | [],_,_,_=>cc.nil _ _ _
 | x :: l,o,_,⟨us,G,H,h1,h2,h3,h4,_⟩=>by subst h1;exact cc.cons h3.head (Tj h4)
theorem aef(l:List Int):∀b:ByteArray,(l.foldl (fun r n=>r.push (UInt8.ofNat n.toNat)) b).data.toList=b.data.toList++eS l:=by
 induction l with
 | nil=>intro b;simp [eS]
 | cons x l ih=>intro b;rw [List.foldl_cons,ih];simp [eS,ByteArray.push]
theorem aeg{src dst:Nat}{x:Operand}{k1 k2:IntKind}(b2:hB P E)(h:Inv w0 F0 Z0 n s a w ι Z)(af:∀k,o.dst=some k→k<n)(ho:o.op=.convert src dst x)(hs:E.ty src=some (.int k1))(ht:E.ty dst=some (.int k2))(hk:cZ E id o s K=some r) :
  ∃av,K av=some r∧Pure P o a w (c5 w0 F0 Z0 n av):=by
 unfold cZ at hk;rw [ho] at hk;simp only at hk;have hx:=fe h x;have de:=b2.ty _ _ hs;have q8:=b2.ty _ _ ht
 cases cQ:bZ s x with
 | aV c=>
  rw [cQ] at hx hk;simp only [aT] at hx;unfold sx at hk;rw [hs,ht] at hk
  cases c with
  | int k m=>simp only [cr] at hx;refine⟨_,hk,dE (v:=.int k2 (k2.wrap m)) (fun w'=>?_) h (by simp only [aT,cr]) af⟩;unfold execOp;rw [ho];refine gk ?_;rw [hx];unfold convert;simp only [run_bind,run_underlying (xN de),run_underlying (xN q8)];rfl
  | _=>simp at hk
 | _=>rw [cQ] at hk;unfold sx at hk;rw [hs,ht] at hk;simp at hk
theorem aeh{src dst:Nat}{x:Operand}(b2:hB P E)(h:Inv w0 F0 Z0 n s a w ι Z)(af:∀k,o.dst=some k→k<n)(ho:o.op=.convert src dst x)(hk:cZ E id o s K=some r) :
  ∃av,K av=some r∧o.wp P a w (c5 w0 F0 Z0 n av) Q:=by
 unfold cZ at hk;rw [ho] at hk;simp only at hk;have hx:=fe h x;have hrun:∀ {u:Value} {w':World},(convert src dst (a.eval x)).run P w=.ok u w'→(execOp a.eval o).run P w=.ok (.value u) w':=by intro u w' hu;unfold execOp;rw [ho];exact gk hu
 cases hs:E.ty src with
 | none=>unfold sx at hk;rw [hs] at hk;simp at hk
 | some S=>
 cases ht:E.ty dst with
 | none=>unfold sx at hk;rw [hs,ht] at hk;cases S <;> simp at hk
 | some T=>
 have de:=b2.ty _ _ hs;have q8:=b2.ty _ _ ht
 cases cQ:bZ s x with
 | aV c=>
  rw [cQ] at hx;simp only [aT] at hx;have hk1:sx E id s src dst (.aV c) (fun v s=>K (s.dst o.dst v))=some r:=by rw [← cQ];exact hk
  unfold sx at hk1;rw [hs,ht] at hk1;split at hk1
  ·rename_i mJ k m uP uQ oT;obtain rfl:=aW uP;obtain rfl:=aW uQ;simp only [ba.aV.injEq] at oT;subst oT;simp only [cr] at hx;refine⟨_,hk1,mG (hrun (u:=.int mJ (mJ.wrap m)) (w':=w) ?_) h (by simp only [aT,cr]) af⟩;rw [hx];unfold convert;simp only [run_bind,run_underlying (xN de),run_underlying (xN q8)];rfl
  ·rename_i b uP uQ oT;obtain rfl:=aW uP;obtain rfl:=aW uQ;simp only [ba.aV.injEq] at oT;subst oT;obtain ⟨j3,hx,oN⟩:=hx;refine⟨_,hk1,mG (hrun (u:=a.eval x) (w':=w) ?_) h (by simp only [aT];exact⟨j3,hx,oN⟩) af⟩;rw [hx];unfold convert;simp only [run_bind,run_underlying (xO de),run_underlying (xO q8)];rfl
  ·rename_i b uP uQ oT;obtain rfl:=aW uP;obtain rfl:=aW uQ;simp only [ba.aV.injEq] at oT;subst oT;obtain ⟨j3,hx,rfl⟩:=hx;obtain ⟨e,hu,cl⟩:=l3 q8
   cases hm:mkObj s id (.row (.int .u8) .R 0 (eM j3.data.toList)) with
   | none=>rw [hm] at hk1;simp at hk1
   | some s1=>
    rw [hm] at hk1;obtain ⟨cj,rfl⟩:=q6 hm;obtain ⟨arr,c,d,hr,hc,has,hv⟩:=aee (P:=P) (w:=w) (e:=e) (b:=j3);have hlen:(eM j3.data.toList).length=j3.size:=by simp [eM]
    have hn:=h.newRow cj (t:=.int .u8) (em:=.R) (K7 (eM j3.data.toList)) bK.none d arr e (c,c+1) c hv (by rw [hlen];exact hc) (by simp only [ad.size];omega) (.inr (by simp [ad.size])) (.inl rfl);refine⟨_,hk1,mG (hrun (u:=.slice (some (at_ w.heap.size 0)) j3.size c) ?_) hn ?_ af⟩
    ·rw [hx];unfold convert;simp only [run_bind,run_underlying (xO de),run_underlying hu,run_underlying (xN cl)];exact hr
    ·simp only [aT];have:=z1 (w:=grown w d arr e (c,c+1)) (Z:=Z) (s:=s) (ι := ι) (id:=id) (em:=.R) (ver:=0) (t:=.int .u8) (xs:=eM j3.data.toList) (A:=at_ w.heap.size 0) (c:=c) (F:=(ag.run w.heap.size 0 (c*(ad.int .u8).size)).or ag.none) rfl (by rw [hlen];exact hc);rw [hlen] at this;exact this
  ·rename_i c' uP uQ oT;obtain rfl:=aW uP;obtain rfl:=aW uQ;simp only [ba.aV.injEq] at oT;subst oT;obtain ⟨e,hu,cl⟩:=l3 de
   cases hl:pP s (.int .u8) c with
   | none=>rw [hl] at hk1;simp at hk1
   | some xs=>
    rw [hl] at hk1;simp only at hk1;obtain ⟨cS,_,_⟩:=KD h hl hx;simp only [ad.au] at cS;obtain ⟨A,sQ,hv,hrow⟩:=cS;simp only [List.cons.injEq,and_true] at hv;have Tk:(convert src dst (a.eval x)).run P w=(Conv.bytesToString (a.eval x)).run P w:=by rw [hv];exact run_convert_bytes_string w src dst e A xs.length sQ hu (xN cl) (xO q8)
    rcases hrow with rfl | ⟨a0,rfl,hsp,hrow,_,_⟩
    ·refine⟨_,hk1,mG (v:=.string .empty) (w':=w) (hrun ?_) h ?_ af⟩
     ·rw [Tk,hv]
      cases A with
      | none=>rfl
      | some A=>exact run_bytesToString w A 0 sQ [] (by rfl)
     ·simp only [aT,cr];exact⟨_,rfl,rfl⟩
    ·obtain ⟨cU,dV,sp⟩:=a0;simp only at hsp;subst hsp;have hc:=Tj (k:=.u8) (by simpa only [ad.size] using hrow);have Tl:=run_loadCells (P:=P) hc;rw [List.length_map] at Tl;refine⟨_,hk1,mG (v:=.string (xs.foldl (fun r n=>r.push (UInt8.ofNat n.toNat)) ByteArray.empty)) (w':=w) (hrun ?_) h ?_ af⟩
     ·rw [Tk,hv];exact run_bytesToString w _ xs.length sQ xs Tl
     ·simp only [aT,cr];exact⟨_,rfl,by rw [aef];rfl⟩
  ·simp at hk1
 | _=>exfalso;rw [cQ,sx.eq_def,hs,ht] at hk;split at hk <;> simp_all
theorem K8{fH:Bool}{k:IntKind} : ∀(l:List ba) (x:Int) (vs:List Value) (k':IntKind) (z:Int),a' w Z s ι l vs→uD fH k x l=some (k',z) →
  (vs.foldlM (if fH then Builtin.max2 else Builtin.min2) (.int k x)).run P w'=.ok (.int k' z) w'
 | [],x,vs,k',z,hr,h=>by simp only [a'] at hr;subst hr;simp only [uD,Option.some.injEq,Prod.mk.injEq] at h;obtain ⟨rfl,rfl⟩:=h;rfl
 | v :: l,x,vs,k',z,hr,h=>by
  simp only [a'] at hr;obtain ⟨u,us,rfl,h1,h2⟩:=hr
  cases v with
  | aV c=>
   cases c with
   | int Tm y=>
    simp only [uD] at h;simp only [aT,cr] at h1;subst h1;rw [List.foldlM_cons,run_bind];have ih:=K8 l _ us k' z h2 h;cases fH
    ·exact ih
    ·exact ih
   | _=>simp [uD] at h
  | _=>simp [uD] at h
theorem uR(h:Inv w0 F0 Z0 n s a w ι Z):∀l:List Operand,a' w Z s ι (l.map (bZ s)) (l.map a.eval)
 | []=>by simp only [List.map_nil,a']
 | x :: l=>by simp only [List.map_cons,a'];exact⟨_,_,rfl,fe h x,uR h l⟩
theorem Tn{b:Builtin}{c:Call}(b2:hB P E)(h:Inv w0 F0 Z0 n s a w ι Z)(af:∀k,o.dst=some k→k<n)(ho:o.op=.call c)(hb:c.callee=.builtin b)(hne:b≠.append)(aei:b≠.clear)(hk:cZ E id o s K=some r) :
  ∃av,K av=some r∧Pure P o a w (c5 w0 F0 Z0 n av):=by
 unfold cZ at hk;rw [ho] at hk;simp only [hb] at hk;have hvs:=uR h c.args.toList;have hrun:∀ {u:Value} {cs:Array Bool} {w:World},(builtin b c.argTypes o.type (c.args.map fun | .const _=>true | _=>false) (c.args.map a.eval)).run P w=.ok (.value u) w→(execOp a.eval o).run P w=.ok (.value u) w:=by intro u _ w hu;unfold execOp;rw [ho];simp only [run_bind,resolve,hb,run_pure,invoke];exact hu
 have l5:(c.args.map a.eval).toList=c.args.toList.map a.eval:=by simp
 cases b with
 | append=>exact absurd rfl hne
 | clear=>exact absurd rfl aei
 | len=>
  generalize hl:c.args.toList.map (bZ s)=l at hk hvs
  match l,hk,hvs with
  | [.aV kl],hk,hvs=>
   simp only [ki] at hk
   cases gS:c.argTypes.toList with
   | nil=>rw [gS] at hk;simp at hk
   | cons t ak=>
    rw [gS] at hk;simp only at hk
    cases ht:E.ty t with
    | none=>rw [ht] at hk;simp at hk
    | some T=>
     rw [ht] at hk;simp only at hk;cases hf:ll s T kl
     ·rw [hf] at hk;simp at hk
     rw [hf] at hk;simp only [cond_true] at hk
     cases hlen:oG s kl with
     | none=>rw [hlen] at hk;simp at hk
     | some m=>
      rw [hlen] at hk;simp only [a',aT] at hvs;obtain ⟨u,us,he,hc,rfl⟩:=hvs;have nN:(c.args.map a.eval)[0]?=some u:=by rw [← Array.getElem?_toList,l5,he];rfl
      have pY:c.argTypes[0]?=some t:=by rw [← Array.getElem?_toList,gS];rfl
      have cl:=b2.ty _ _ ht;refine⟨_,hk,dE (v:=.int .i64 m) (fun w'=>hrun (cs:= #[]) ?_) h (by simp only [aT,cr]) af⟩;unfold builtin;refine gk ?_;unfold Builtin.len_;rw [nN,pY];simp only
      have aej:T=.str∨∃u,T=.sl u:=by
       cases kl <;> simp only [ll] at hf <;> try (simp at hf;done)
       ·exact .inl (beq_eq hf)
       ·exact .inr ⟨_,beq_eq hf⟩
       ·exact .inr ⟨_,beq_eq hf⟩
       ·split at hf
        ·exact .inr ⟨_,beq_eq hf⟩
        ·simp at hf
      rcases aej with rfl | ⟨v,rfl⟩
      ·rw [run_bind,run_underlying (xO cl)];cases kl <;> simp only [ll] at hf <;> try (simp [ad.beq] at hf;done)
       ·obtain ⟨j3,rfl,rfl⟩:=hc;simp only [oG,Option.some.injEq] at hlen;subst hlen;rfl
       ·split at hf <;> simp [ad.beq] at hf
      ·obtain ⟨e,hu,_⟩:=l3 cl;rw [run_bind,run_underlying hu];obtain ⟨A,k,rfl,_⟩:=K3 rfl hf hlen hc;rfl
  | [],hk,_=>simp [ki] at hk
  | _ :: _ :: _,hk,_=>simp [ki] at hk
  | [.aB],hk,_ | [.iK _],hk,_ | [.ptr _],hk,_ | [.du _ _ _],hk,_ | [.kg],hk,_ | [.lh],hk,_ | [.opt _ _],hk,_ | [.may _ _ _],hk,_ | [.sr _],hk,_ | [.fn _ _ _],hk,_ | [.pM _],hk,_=>simp [ki] at hk
 | max=>
  simp only [ki] at hk
  cases hm:xp true (c.args.toList.map (bZ s)) with
  | none=>rw [hm] at hk;simp at hk
  | some q=>
   obtain ⟨k,z⟩:=q;rw [hm] at hk;simp only at hk;refine⟨_,hk,dE (v:=.int k z) (fun w'=>hrun (cs:= #[]) ?_) h (by simp only [aT,cr]) af⟩;unfold builtin;refine gk ?_;unfold Builtin.max_;rw [l5];generalize c.args.toList.map (bZ s)=l at hm hvs;generalize c.args.toList.map a.eval=vs at hvs;unfold xp at hm;split at hm
   ·simp only [a',aT,cr] at hvs;obtain ⟨u,us,rfl,rfl,h2⟩:=hvs;exact K8 _ _ us k z h2 hm
   ·simp at hm
 | min=>
  simp only [ki] at hk
  cases hm:xp false (c.args.toList.map (bZ s)) with
  | none=>rw [hm] at hk;simp at hk
  | some q=>
   obtain ⟨k,z⟩:=q;rw [hm] at hk;simp only at hk;refine⟨_,hk,dE (v:=.int k z) (fun w'=>hrun (cs:= #[]) ?_) h (by simp only [aT,cr]) af⟩;unfold builtin;refine gk ?_;unfold Builtin.min_;rw [l5];generalize c.args.toList.map (bZ s)=l at hm hvs;generalize c.args.toList.map a.eval=vs at hvs;unfold xp at hm;split at hm
   ·simp only [a',aT,cr] at hvs;obtain ⟨u,us,rfl,rfl,h2⟩:=hvs;exact K8 _ _ us k z h2 hm
   ·simp at hm
 | _=>simp [ki] at hk
end
end Go.LM
namespace Go.LM
theorem To{α : Type} : ∀(B:List (List α)) (i:Nat) (b cs:List α),B[i]?=some b→cs.length=b.length→(B.set i cs).flatten=dr B.flatten (B.take i).flatten.length cs
 | [],i,b,cs,h,_=>by simp at h
 | x :: B,0,b,cs,h,hl=>by simp at h;subst h;simp only [List.set_cons_zero,List.flatten_cons,List.take_zero,List.flatten_nil,List.length_nil];unfold dr;simp [hl]
 | x :: B,i+1,b,cs,h,hl=>by simp only [List.getElem?_cons_succ] at h;simp only [List.set_cons_succ,List.flatten_cons,List.take_succ_cons,List.length_append];rw [SM (by omega),To B i b cs h hl];congr 2;omega
theorem aek{α : Type}{B:List (List α)}{i:Nat}{b:List α}(h:B[i]?=some b):(B.take i).flatten.length+b.length≤B.flatten.length:=by
 induction B generalizing i with
 | nil=>simp at h
 | cons x B ih=>
  cases i with
  | zero=>simp at h;subst h;simp
  | succ i=>simp only [List.getElem?_cons_succ] at h;have:=ih h;simp only [List.take_succ_cons,List.flatten_cons,List.length_append];omega
theorem Tp:∀(vs:List Value) (k off:Nat) (cells:Array Value),off+k+vs.length≤cells.size →
  ((vs.zipIdx k).foldl (fun cs (c,j)=>cs.setIfInBounds (off+j) c) cells).toList=dr cells.toList (off+k) vs
 | [],k,off,cells,_=>by simp [Dh]
 | v :: vs,k,off,cells,h=>by
  simp only [List.length_cons] at h;rw [List.zipIdx_cons,List.foldl_cons,Tp vs (k+1) off _ (by simp;omega)];simp only [Array.toList_setIfInBounds];have bO:off+k<cells.toList.length:=by simp;omega
  apply List.ext_getElem?;intro j;unfold dr;simp only [List.getElem?_append,List.length_append,List.length_take,List.length_set,List.length_cons,List.getElem?_take,List.getElem?_drop,List.getElem?_set];have sR:min (off +(k+1)) cells.toList.length=off+k+1:=by omega
  have sL:min (off+k) cells.toList.length=off+k:=by omega
  rw [sR,sL];by_cases h1:j<off+k
  ·have:j≠off+k:=by omega
   simp [show j<off+k+1+vs.length by omega,show j<off+k+1 by omega,show j<off +(k+1) by omega,show j<off+k +(vs.length+1) by omega,h1,Ne.symm this]
  ·by_cases h2:j=off+k
   ·subst h2;simp only [Array.length_toList] at bO;simp [show off+k<off+k+1+vs.length by omega,show off+k<off +(k+1) by omega,bO]
   ·by_cases h3:j<off+k+1+vs.length
    ·rw [if_pos h3,if_neg (show ¬j<off+k+1 by omega),if_pos (show j<off+k +(vs.length+1) by omega),if_neg h1];rw [show j-(off+k)=(j-(off+k+1))+1 by omega,List.getElem?_cons_succ]
    ·rw [if_neg h3,if_neg (show ¬j<off+k +(vs.length+1) by omega)];rw [if_neg (by omega)];congr 1;omega
def K9(place:Nat→Option (Nat×Nat))(ty:Nat→Option ad)(lens:List Nat):Prop:=
 ∀i t,ty i=some t→place i=some ((lens.take i).sum,t.size)∧lens[i]?=some t.size
section
variable{P:Program}{Q:Exit→Act→World→Prop}
variable{w0:World}{F0 Z0:ag}{n:cM}{s av:ar}{a b5:Act}{w w':World}{ι bm:Nat→bH}{Z Z':ag}
variable{E:Env}{o:Oper}{bB : Type}{K:ar→Option bB}{r : bB}{id:Nat}
theorem ael{α : Type}(B:List (List α)):B.flatten.length=(B.map List.length).sum:=by simp [List.length_flatten]
theorem K_(h:Inv w0 F0 Z0 n s a w ι Z){place:Nat→Option (Nat×Nat)}{ty:Nat→Option ad}{lens:List Nat}(hC:K9 place ty lens) :
  ∀(ps:List (Nat×Operand)) (B kp:List (List bb)) (cells:Array Value),B.map List.length=lens→bL w Z s ι B.flatten cells.toList→sv s ty ps B=some kp →
   ∃nO,Instr.fill place cells (ps.map fun p=>(p.1,a.eval p.2))=some nO∧bL w Z s ι kp.flatten nO.toList∧kp.map List.length=lens
 | [],B,kp,cells,hl,hc,hf=>by simp only [sv,Option.some.injEq] at hf;subst hf;exact⟨cells,rfl,hc,hl⟩
 | (i,x) :: ps,B,kp,cells,hl,hc,hf=>by
  simp only [sv] at hf
  cases ht:ty i with
  | none=>rw [ht] at hf;simp at hf
  | some t=>
   rw [ht] at hf;simp only at hf
   cases hcs:je t (bZ s x) with
   | none=>rw [hcs] at hf;simp at hf
   | some cs=>
    rw [hcs] at hf;simp only at hf;cases hb:Nat.beq cs.length t.size
    ·rw [hb] at hf;simp at hf
    rw [hb] at hf;simp only [cond_true] at hf;have hb:=Nat.eq_of_beq_eq_true hb;obtain ⟨aw,q9⟩:=hC i t ht;have hx:=sI hcs (fe h x);have hxl:=hx.len;rw [hb] at hxl
    have aem:∃b,B[i]?=some b∧b.length=t.size:=by
     rw [← hl,List.getElem?_map] at q9
     cases xP:B[i]? with
     | none=>rw [xP] at q9;simp at q9
     | some b=>rw [xP] at q9;simp at q9;exact⟨b,rfl,q9⟩
    obtain ⟨b,xP,z7⟩:=aem;have fM:(B.take i).flatten.length=(lens.take i).sum:=by rw [ael,← hl,List.map_take]
    have hle:=aek xP;have hcl:=hc.len;simp only [Array.length_toList] at hxl hcl;have hnew:bL w Z s ι (B.set i cs).flatten (dr cells.toList (lens.take i).sum (a.eval x).cells.toList):=by rw [To B i b cs xP (by omega),fM];unfold dr;have:=bL.dr hc hx (lens.take i).sum;unfold dr at this;exact this
    have aen:(B.set i cs).map List.length=lens:=by
     rw [List.map_set,hl];apply List.ext_getElem?;intro j;rw [List.getElem?_set];by_cases hj:i=j
     ·subst hj;rw [q9,if_pos rfl]
      have:i<lens.length:=by
       rcases Nat.lt_or_ge i lens.length with h | h
       ·exact h
       ·rw [List.getElem?_eq_none h] at q9;simp at q9
      rw [if_pos this,hb]
     ·rw [if_neg hj]
    have aeo:=Tp (a.eval x).cells.toList 0 (lens.take i).sum cells (by simp;omega)
    have ih:=K_ h hC ps (B.set i cs) kp (((a.eval x).cells.zipIdx).foldl (fun cs (c,j)=>cs.setIfInBounds ((lens.take i).sum+j) c) cells) aen (by
     rw [← Array.foldl_toList,Array.toList_zipIdx]
     rw [aeo];exact hnew) hf
    obtain ⟨nO,h1,h2,h3⟩:=ih;refine⟨nO,?_,h2,h3⟩;rw [List.map_cons];unfold Instr.fill;rw [aw];simp only;rw [if_neg (by simp only [Bool.or_eq_true,decide_eq_true_eq,not_or,ne_eq,Decidable.not_not];omega)];exact h1
def aA.places:aA→Nat→List (Nat×Nat)
 | .nil,_=>[]
 | .cons t ak,off=>(off,t.size) :: aA.places ak (off+t.size)
theorem Tq:∀(ak:aA) (cD:List Field) (off:Nat),ak.okF P cD off→cD.mapM (fun f=>(P.info? f.type).map fun i=>(f.offset,i.size))=some (ak.places off)
 | .nil,cD,off,h=>by simp only [aA.okF] at h;subst h;rfl
 | .cons t ak,cD,off,h=>by simp only [aA.okF] at h;obtain ⟨f,l1,rfl,rfl,h1,h2⟩:=h;obtain ⟨i,hi,hsz,_⟩:=h1.info;have ih:=Tq ak l1 _ h2;simp only [List.mapM_cons,hi,Option.map_some,ih,aA.places,hsz];rfl
theorem Tr:∀ak:aA,ak.oH.flatten=ak.jH
 | .nil=>rfl
 | .cons t ak=>by simp only [aA.oH,aA.jH,List.flatten_cons,Tr ak]
theorem K'(t:ad):t.jH.length=t.size:=by have:=(sJ (w:=default) (Z:=ag.none) (s:=⟨fun _=>.aB,fun _=>.none,[]⟩) (ι := fun _=>⟨none,0,ag.none⟩) t).len;rw [← this,ad.l2]
theorem Ts:∀(ak:aA) (off:Nat) (i:Nat) (t:ad),ak.nth i=some t→(ak.places off)[i]?=some (off +((ak.oH.map List.length).take i).sum,t.size)∧(ak.oH.map List.length)[i]?=some t.size
 | .nil,_,_,_,h=>by simp [aA.nth] at h
 | .cons u ak,off,0,t,h=>by simp only [aA.nth,Option.some.injEq] at h;subst h;simp [aA.places,aA.oH,K']
 | .cons u ak,off,i+1,t,h=>by simp only [aA.nth] at h;obtain ⟨h1,h2⟩:=Ts ak (off+u.size) i t h;simp only [aA.places,aA.oH,List.map_cons,List.getElem?_cons_succ,List.take_succ_cons,List.sum_cons,K'];exact⟨by rw [h1];simp;omega,h2⟩
theorem Tt{t:Nat}{parts:Array (Nat×Operand)}(b2:hB P E)(h:Inv w0 F0 Z0 n s a w ι Z)(af:∀k,o.dst=some k→k<n)(ho:o.op=.build t parts)(hk:cZ E id o s K=some r) :
  ∃av,K av=some r∧Pure P o a w (c5 w0 F0 Z0 n av):=by
 unfold cZ at hk;rw [ho] at hk;simp only at hk
 cases ht:E.ty t with
 | none=>rw [ht] at hk;simp at hk
 | some T=>
  rw [ht] at hk
  cases T with
  | st ak=>
   simp only at hk
   cases hf:sv s ak.nth parts.toList ak.oH with
   | none=>rw [hf] at hk;simp at hk
   | some B=>
    rw [hf] at hk;have cl:=b2.ty t _ ht;obtain ⟨it,mL,gw,xM,K6⟩:=cl.info;simp only [ad.ok] at cl;obtain ⟨_,cD,hu,lq⟩:=cl;have gl:=Tq ak cD.toList 0 lq;have z7:K9 ((ak.places 0).toArray[·]?) ak.nth (ak.oH.map List.length):=by intro i cO hi;have:=Ts ak 0 i cO hi;simpa using this
    obtain ⟨nO,h1,h2,h3⟩:=K_ h z7 parts.toList ak.oH B (dN (.st ak) (ad.st ak).cT).cells rfl (by rw [Tr,xL];exact sJ (.st ak)) hf;refine⟨_,hk,dE (v:=.agg nO) (fun w'=>?_) h (by simp only [aT];exact⟨nO.toList,rfl,h2⟩) af⟩;unfold execOp;rw [ho];refine gk ?_;refine run_build w' t _ nO ?_;unfold Program.built;rw [mL,hu];simp only [xM,gl];rw [← h1];congr 1;simp
  | _=>simp at hk
theorem Tu{t:ad}{m:bg}{x:t.D}{us:List Value}{F:ag}(h:t.au w (Z.or (dt ι [])) m x us F):t.au w Z m x us F:=
 ad.au.mono (fun b o hz=>by rcases hz with h | ⟨d,af,_⟩;exact h;simp at af) t m (fun _ _ h=>h) h
theorem Tv:∀(B:List (List bb)) (t:ad) (m:bg) (s s1:ar) (xs:List t.D) (vs:List Value) (Z:ag),qW t m B s=some (xs,s1)→Inv w0 F0 Z0 n s a w ι Z→bL w Z s ι B.flatten vs →
  ∃F Z',Inv w0 F0 Z0 n s1 a w ι Z'∧fj s ι Z s1 Z'∧bK w0 F0 s1 w ι Z' F∧da (t.au w Z' m) t.size xs vs F∧∀b o,F b o→∃id,(s.o id).live∧(ι id).F b o
 | [],t,m,s,s1,xs,vs,Z,hi,h,hc=>by
  simp only [qW,Option.some.injEq,Prod.mk.injEq] at hi;obtain ⟨rfl,rfl⟩:=hi
  cases vs with
  | nil=>exact⟨ag.none,Z,h,.refl,.none,rfl,fun _ _ h=>h.elim⟩
  | cons v vs=>exact hc.elim
 | cs :: B,t,m,s,s1,xs,vs,Z,hi,h,hc=>by
  simp only [qW] at hi;obtain ⟨r,hr,hi⟩:=bd hi;rw [List.flatten_cons] at hc;obtain ⟨us,ak,rfl,q4,hcu,aep⟩:=hc.split;obtain ⟨aX,bI,F,cH,he,h1,hs1,hc1,oU,cS,_,Tw,_,hF⟩:=ad.lY t false m cs s [] r us Z hr h hcu (by simp)
  cases eD:r.2.1 with
  | cons c l=>rw [eD] at hi;simp at hi
  | nil=>
   rw [eD] at hi hc1;simp only at hi;obtain ⟨q,hq,hi⟩:=bd hi;simp only [Option.some.injEq,Prod.mk.injEq] at hi;obtain ⟨rfl,rfl⟩:=hi
   cases bI with
   | cons v l=>exact hc1.elim
   | nil=>
    rw [List.append_nil] at he;subst he;rw [Tw rfl] at cS;have cS:=Tu cS;obtain ⟨G,bQ,h2,oV,hf2,hels,hG⟩:=Tv B t m r.2.2.1 q.2 q.1 ak cH hq h1 (adR hs1 aep);refine⟨F.or G,bQ,h2,hs1.trans oV,(oU.shrink oV).or hf2,⟨us,ak,F,G,rfl,ad.au.mono oV.dL t m (fun _ _ h=>h) cS,(ad.au.len t m cS).1,hels,?_,fun _ _ h=>.inl h,fun _ _ h=>.inr h⟩,?_⟩
    ·intro b o hb aC;obtain ⟨j,hj,z8⟩:=hG b o aC;exact oU.apart j hj b o hb z8
    ·rintro b o (hb | hb)
     ·exact hF b o hb
     ·obtain ⟨j,hj,z8⟩:=hG b o hb;obtain ⟨g1,g2⟩:=hs1.live hj;exact⟨j,g1,z8⟩
theorem Tx{t:ad}{m:bg} : ∀(B:List (List bb)) (s:ar) {xs:List t.D} {s1:ar},qW t m B s=some (xs,s1)→xs.length=B.length
 | [],s,xs,s1,h=>by simp only [qW,Option.some.injEq,Prod.mk.injEq] at h;rw [← h.1];rfl
 | cs :: B,s,xs,s1,h=>by
  simp only [qW] at h;obtain ⟨r,hr,h⟩:=bd h;split at h
  ·obtain ⟨q,hq,h⟩:=bd h;simp only [Option.some.injEq,Prod.mk.injEq] at h;rw [← h.1,List.length_cons,List.length_cons,Tx B _ hq]
  ·simp at h
theorem aeq{T:ad}{t e len:Nat}{parts:Array (Nat×Value)}{cells:Array Value}(hu:P.underlying t=some (.slice e))(cl:T.ok P e)(hs:len*T.size≤16777216)
  (hf:Instr.fill (fun i=>some (i*T.size,T.size)) ((Array.range (len*T.size)).map ((if len*T.size=0 then #[] else(dN T T.cT).cells)[· % (if len*T.size=0 then #[] else(dN T T.cT).cells).size]!)) parts.toList=some cells) :
  (Instr.buildSlice t len parts).run P w=.ok (.slice (some (at_ w.heap.size 0)) len len) (grown w w.drawn cells e (0,0)):=by
 unfold Instr.buildSlice;simp only [run_bind,run_underlying hu,run_sizeOf cl];rw [if_neg (by omega)];by_cases hz:len*T.size=0
 ·simp only [hz,if_true] at hf ⊢;simp only [run_bind,run_pure,hf,Dq]
 ·simp only [hz,if_false] at hf ⊢;simp only [run_bind,run_pure,Dj cl,hf,Dq]
theorem aer{t len:Nat}{parts:Array (Nat×Operand)}(b2:hB P E)(h:Inv w0 F0 Z0 n s a w ι Z)(af:∀k,o.dst=some k→k<n)(ho:o.op=.buildSlice t len parts)(hk:cZ E id o s K=some r) :
  ∃av,K av=some r∧o.wp P a w (c5 w0 F0 Z0 n av) Q:=by
 unfold cZ at hk;rw [ho] at hk;simp only at hk
 cases ht:E.ty t with
 | none=>rw [ht] at hk;simp at hk
 | some S=>
  rw [ht] at hk
  cases S with
  | sl T=>
   simp only at hk;cases hle:Nat.ble (len*T.size) 16777216
   ·rw [hle] at hk;simp at hk
   rw [hle] at hk;simp only [cond_true] at hk;have hle:=Nat.le_of_ble_eq_true hle
   cases hf:sv s (fun i=>cond (Nat.blt i len) (some T) none) parts.toList (List.replicate len T.jH) with
   | none=>rw [hf] at hk;simp at hk
   | some B=>
    rw [hf] at hk;simp only at hk;generalize hm:Ko T s B=m at hk
    cases hi:qW T m B s with
    | none=>rw [hi] at hk;simp at hk
    | some q=>
     obtain ⟨xs,s1⟩:=q;rw [hi] at hk;simp only at hk
     cases nL:mkObj s1 id (.row T m 0 xs) with
     | none=>rw [nL] at hk;simp at hk
     | some s2=>
      rw [nL] at hk;obtain ⟨cj,rfl⟩:=q6 nL;obtain ⟨e,hu,cl⟩:=l3 (b2.ty t _ ht)
      have z7:K9 (fun i=>some (i*T.size,T.size)) (fun i=>cond (Nat.blt i len) (some T) none) (List.replicate len T.size):=by
       intro i cO hi;have hi:cond (Nat.blt i len) (some T) none=some cO:=hi;cases hb:Nat.blt i len
       ·rw [hb] at hi;simp at hi
       ·rw [hb] at hi;simp only [cond_true,Option.some.injEq] at hi;subst hi;have bO:i<len:=Nat.lt_of_lt_of_le (Nat.lt_succ_self i) (Nat.le_of_ble_eq_true hb);refine⟨?_,by simp [List.getElem?_replicate,bO]⟩;rw [List.take_replicate,Nat.min_eq_left (by omega)];simp
      have aes:∀k,bL w Z s ι (List.replicate k T.jH).flatten (List.replicate k T.cT).flatten:=by
       intro k
       induction k with
       | zero=>exact trivial
       | succ k ih=>rw [List.replicate_succ,List.replicate_succ,List.flatten_cons,List.flatten_cons];exact(sJ T).append ih
      have hcells:((Array.range (len*T.size)).map ((if len*T.size=0 then #[] else(dN T T.cT).cells)[· % (if len*T.size=0 then #[] else(dN T T.cT).cells).size]!)).toList=(List.replicate len T.cT).flatten:=by
       apply List.ext_getElem?;intro j;have iw:(List.replicate len T.cT).flatten.length=len*T.size:=by simp [ad.l2]
       by_cases hj:j<len*T.size
       ·have hz:¬len*T.size=0:=by omega
        simp only [if_neg hz];obtain ⟨v,hv⟩:∃v,(List.replicate len T.cT).flatten[j]?=some v:=⟨_,List.getElem?_eq_getElem (by omega)⟩
        rw [hv,Array.getElem?_toList];exact K5 T.cT len (xL T) (by rw [ad.l2]) v hv
       ·rw [List.getElem?_eq_none (by simp;omega),List.getElem?_eq_none (by omega)]
      obtain ⟨nO,h1,h2,h3⟩:=K_ h z7 parts.toList (List.replicate len T.jH) B _ (by simp [K']) (by rw [hcells];exact aes len) hf;obtain ⟨F,cH,mL,hs1,oU,hels,_⟩:=Tv B T m s s1 xs _ Z hi h h2
      have hxl:xs.length=len:=by
       have e1:B.length=len:=by have:=congrArg List.length h3;simpa using this
       rw [← e1];exact Tx B s hi
      have hcs:len*T.size≤nO.size:=by have:=hels.len;simp only [Array.length_toList] at this;rw [hxl] at this;omega
      have hn:=mL.newRow cj hels oU w.drawn nO e (0,0) len (fun j v hv=>by simpa using hv) (by omega) hcs (.inl rfl) (.inr rfl);refine⟨_,hk,mG (v:=.slice (some (at_ w.heap.size 0)) len len) ?_ hn ?_ af⟩
      ·unfold execOp;rw [ho];refine gk ?_;refine aeq hu cl hle ?_;rw [← h1];congr 1;simp
      ·simp only [aT];have:=z1 (w:=grown w w.drawn nO e (0,0)) (Z:=cH) (s:=s1) (ι := ι) (id:=id) (em:=m) (ver:=0) (xs:=xs) (A:=at_ w.heap.size 0) (c:=len) (F:=(ag.run w.heap.size 0 (len*T.size)).or F) rfl (by omega);rw [hxl] at this;exact this
  | _=>simp at hk
end
end Go.LM
namespace Go.LM
section
variable{P:Program}{Q:Exit→Act→World→Prop}
variable{w0:World}{F0 Z0:ag}{n:cM}{s av:ar}{a b5:Act}{w w':World}{ι bm:Nat→bH}{Z Z':ag}
variable{E:Env}{o:Oper}{bB : Type}{K:ar→Option bB}{r : bB}{id:Nat}
theorem Inv.Dr(h:Inv w0 F0 Z0 n s a w ι Z){S:ag}(hF:bK w0 F0 s w ι Z S)(hx:Ext w w' S):Inv w0 F0 Z0 n s a w' ι Z:=by
 have hm:eU w Z s ι w' Z s ι := by
  refine⟨fun id=>.stay _ _,fun _ _ h=>h,cf.jk hx h.sG ?_⟩
  rintro b o (hz | ⟨id,hl,_,_,hf⟩) hs
  ·exact hF.db b o hs hz
  ·exact hF.apart id hl b o hs hf
 refine h.next hm hx (fun b o hs=>(hF.own b o hs).1) (fun _ _ h=>.inl h) ?_ h.db (fun k=>(h.tmps k).move hm) h.size h.defers;intro id _ hne;exact absurd ⟨rfl,rfl⟩ hne
theorem Inv.freeze(h:Inv w0 F0 Z0 n s a w ι Z){S:ag}(hF:bK w0 F0 s w ι Z S):Inv w0 F0 Z0 n s a w ι (Z.or S):=by
 have hm:eU w Z s ι w (Z.or S) s ι :=⟨fun id=>.stay _ _,fun _ _ h=>.inl h,cf.refl _ _⟩;refine h.next hm (Ext.refl _ ag.none) (fun _ _ h=>h.elim) ?_ ?_ ?_ (fun k=>(h.tmps k).move hm) h.size h.defers
 ·rintro b o (hz | hs)
  ·exact .inl hz
  ·exact .inr (hF.own b o hs)
 ·intro id _ hne;exact absurd ⟨rfl,rfl⟩ hne
 ·rintro id hl b o h1 (h2 | h2)
  ·exact h.db id hl b o h1 h2
  ·exact hF.apart id hl b o h2 h1
theorem bK.freeze{F S:ag}(hF:bK w0 F0 s w ι Z F)(ha:ag.apart F S):bK w0 F0 s w ι (Z.or S) F:=
 ⟨hF.own,hF.apart,fun b o h1 h2=>h2.elim (hF.db b o h1) (ha b o h1)⟩
theorem bK.sub{F G:ag}(hF:bK w0 F0 s w ι Z F)(h:ag.sub G F):bK w0 F0 s w ι Z G:=
 ⟨fun b o aC=>hF.own b o (h b o aC),fun id hl b o aC=>hF.apart id hl b o (h b o aC),fun b o aC=>hF.db b o (h b o aC)⟩
def ag.diff(F G:ag):ag:=fun b o=>F b o∧¬G b o
theorem C4{t:ad}{m:bg} : ∀ {xs:List t.D} {vs:List Value} {F:ag},da (t.au w Z m) t.size xs vs F→∀v∈vs,ep v=true
 | [],_,_,h=>by simp only [da] at h;subst h;simp
 | x :: xs,_,_,⟨us,ak,G,H,h1,h2,h3,h4,_⟩=>by
  subst h1;intro v hv;rcases List.mem_append.1 hv with h | h
  ·exact(ad.au.len t m h2).2 v h
  ·exact C4 h4 v h
theorem sn{A:Option Addr}{size m c:Nat}{vs:List Value}(hl:vs.length=m*size)(h:m=0∨∃b o,A=some (at_ b o)∧cc w b o vs) :
  (Builtin.firstCells size m (.slice A m c)).run P w=.ok vs.toArray w:=by
 unfold Builtin.firstCells;rcases h with rfl | ⟨b,o,rfl,hc⟩
 ·have:vs=[]:=List.eq_nil_of_length_eq_zero (by simpa using hl);subst this
  cases A with
  | none=>rfl
  | some A=>simp only [Nat.zero_mul];rfl
 ·simp only [← hl];exact run_loadCells hc
theorem Ds{t:ad}{e:bg}{xs:List t.D}{v:Value}{F:ag}(h:(ad.sl t).au w Z (.O e) xs [v] F) :
  ∃A c vs,v=.slice A xs.length c∧da (t.au w Z e) t.size xs vs F∧∀d,(Builtin.firstCells t.size xs.length v).run P { w with drawn:=d } = .ok vs.toArray { w with drawn:=d }:= by
 simp only [ad.au] at h;obtain ⟨A,c,hv,h⟩:=h;simp only [List.cons.injEq,and_true] at hv;subst hv;rcases h with⟨rfl,rfl⟩ | ⟨⟨b,o,sp⟩,rfl,hr⟩
 ·exact⟨A,0,[],rfl,rfl,fun d=>sn (by simp) (.inl rfl)⟩
 ·obtain ⟨G,g1,g2,g3⟩:=hr.row;have hsp:=hr.spot;simp only at hsp;subst hsp;obtain ⟨vs,h1,h2⟩:=g1.uu;exact⟨_,c,vs,rfl,h1.mono g3,fun d=>sn h1.len (.inr ⟨b,o,rfl,h2⟩)⟩
theorem aet{t:ad}{xs:List t.D}{v:Value}{F:ag}(h:(ad.sl t).au w Z .R xs [v] F) :
  ∃A c vs,v=.slice A xs.length c∧da (t.au w Z .R) t.size xs vs ag.none∧∀d,(Builtin.firstCells t.size xs.length v).run P { w with drawn:=d } = .ok vs.toArray { w with drawn:=d }:= by
 simp only [ad.au] at h;obtain ⟨A,c,hv,h⟩:=h;simp only [List.cons.injEq,and_true] at hv;subst hv;rcases h with rfl | ⟨⟨b,o,sp⟩,rfl,hsp,hr,_,_⟩
 ·exact⟨A,c,[],rfl,rfl,fun d=>sn (by simp) (.inl rfl)⟩
 ·simp only at hsp;subst hsp;obtain ⟨vs,h1,h2⟩:=hr.uu;exact⟨_,c,vs,rfl,h1.imp (fun y us G hs hr=>sA hr |> fun h=>ad.au.mono (fun _ _ h=>h) t .R (fun _ _ h=>h.elim) h),fun d=>sn h1.len (.inr ⟨b,o,rfl,h2⟩)⟩
theorem Ty{t:ad}{c:bb}{v:Value}{kO:bg}{ys:List t.D}{s1:ar}(ha:added s t c=some (kO,ys,s1))(h:Inv w0 F0 Z0 n s a w ι Z)(hc:cr w Z s ι c v) :
  ∃vs F,(Builtin.lenOf v).run P w=.ok ys.length w∧(∀d,(Builtin.firstCells t.size ys.length v).run P { w with drawn:=d } = .ok vs.toArray { w with drawn:=d })∧da (t.au w Z kO) t.size ys vs F ∧
   Inv w0 F0 Z0 n s1 a w ι Z∧fj s ι Z s1 Z∧bK w0 F0 s1 w ι Z F:=by
 cases c with
 | nil u=>simp only [added] at ha;obtain ⟨x,hx,ha⟩:=bd ha;obtain ⟨e,rfl⟩:=hy hx;subst e;simp only [Option.some.injEq,Prod.mk.injEq] at ha;obtain ⟨rfl,rfl,rfl⟩:=ha;have hv:v=.slice none 0 0:=hc;subst hv;exact⟨[],ag.none,rfl,fun _=>rfl,rfl,h,.refl,.none⟩
 | bM u dp cI xs=>
  simp only [added] at ha;cases dF:alive s dp
  ·rw [dF] at ha;simp at ha
  cases iw:(t.flat||dp.isEmpty)
  ·rw [dF,iw] at ha;simp at ha
  rw [dF,iw] at ha;simp only [Bool.and_self,cond_true] at ha;obtain ⟨x,hx,ha⟩:=bd ha;obtain ⟨e,rfl⟩:=hy hx;subst e;simp only [Option.some.injEq,Prod.mk.injEq] at ha;obtain ⟨rfl,rfl,rfl⟩:=ha;obtain ⟨A,sQ,vs,rfl,h1,h2⟩:=aet (P:=P) (hc.2.2.1 dF);refine⟨vs,ag.none,rfl,h2,?_,h,.refl,.none⟩;simp only [Bool.or_eq_true,List.isEmpty_iff] at iw;rcases iw with iw | rfl
  ·exact h1.imp fun y us G _ hr=>sq u iw hr
  ·exact h1.imp fun y us G _ hr=>Tu hr
 | af j sub=>
  simp only [added] at ha;obtain ⟨hk,A,m,sQ,rfl,hh⟩:=hc
  cases ho:s.o j with
  | row u em ver xs=>
   rw [ho] at ha;have c7:=h.gf j;rw [ho] at c7;have ck:(s.o j).live:=by rw [ho];trivial
   have nP:=xB c7 (hh u em ver xs (lW ho))
   cases em with
   | R=>simp only at ha;obtain ⟨x,hx,ha⟩:=bd ha;obtain ⟨e,rfl⟩:=hy hx;subst e;simp only [Option.some.injEq,Prod.mk.injEq] at ha;obtain ⟨rfl,rfl,rfl⟩:=ha;obtain ⟨nK,c',vs,hv,h1,h2⟩:=Ds (P:=P) nP;refine⟨vs,ag.none,?_,h2,h1.bare fun y us G _ hr=>sA hr,h,.refl,.none⟩;rw [hv];rfl
   | O gP=>simp only at ha;obtain ⟨x,hx,ha⟩:=bd ha;obtain ⟨e,rfl⟩:=hy hx;subst e;simp only [Option.some.injEq,Prod.mk.injEq] at ha;obtain ⟨rfl,rfl,rfl⟩:=ha;obtain ⟨nK,c',vs,hv,h1,h2⟩:=Ds (P:=P) nP;refine⟨vs,(ι j).F,?_,h2,h1,h.take j (fun _ _ h=>h) (fun _ _ h=>.inl h),xA j ck,h.xz ck⟩;rw [hv];rfl
   | S ms=>simp only at ha;obtain ⟨x,hx,ha⟩:=bd ha;obtain ⟨e,rfl⟩:=hy hx;subst e;simp only [Option.some.injEq,Prod.mk.injEq] at ha;obtain ⟨rfl,rfl,rfl⟩:=ha;obtain ⟨nK,c',vs,hv,h1,h2⟩:=Ds (P:=P) nP;refine⟨vs,(ι j).F,?_,h2,h1,h.take j (fun _ _ h=>h) (fun _ _ h=>.inl h),xA j ck,h.xz ck⟩;rw [hv];rfl
  | _=>rw [ho] at ha;simp at ha
 | str b=>
  simp only [added] at ha;obtain ⟨x,hx,ha⟩:=bd ha;obtain ⟨e,rfl⟩:=hy hx;subst e;simp only [Option.some.injEq,Prod.mk.injEq] at ha;obtain ⟨rfl,rfl,rfl⟩:=ha;obtain ⟨j3,rfl,rfl⟩:=hc;have hlen:(eM j3.data.toList).length=j3.size:=by simp [eM]
  refine⟨(eM j3.data.toList).map (Value.int .u8),ag.none,?_,?_,K7 _,h,.refl,.none⟩
  ·rw [hlen];rfl
  ·intro d;rw [hlen];simp only [Builtin.firstCells,run_pure];congr 1;apply Array.ext';simp [eM]
 | _=>simp [added] at ha
theorem Tz{t:ad}{c:bb}{v:Value}{oI:bg}{xs:List t.D}{s1:ar}(ha:taken s t c=some (oI,xs,s1))(h:Inv w0 F0 Z0 n s a w ι Z)(hc:cr w Z s ι c v) :
  ∃F,(ad.sl t).au w Z (.O oI) xs [v] F∧Inv w0 F0 Z0 n s1 a w ι Z∧fj s ι Z s1 Z∧bK w0 F0 s1 w ι Z F∧∀b o,F b o→∃id,(s.o id).live∧(ι id).F b o:=by
 cases c with
 | nil u=>simp only [taken] at ha;obtain ⟨x,hx,ha⟩:=bd ha;obtain ⟨e,rfl⟩:=hy hx;subst e;simp only [Option.some.injEq,Prod.mk.injEq] at ha;obtain ⟨rfl,rfl,rfl⟩:=ha;have hv:v=.slice none 0 0:=hc;subst hv;refine⟨ag.none,?_,h,.refl,.none,fun _ _ h=>h.elim⟩;simp only [ad.au];exact⟨none,0,rfl,.inl (by simp)⟩
 | af j sub=>
  simp only [taken] at ha;obtain ⟨hk,A,m,sQ,rfl,hh⟩:=hc
  cases ho:s.o j with
  | row u em ver xs=>
   rw [ho] at ha;simp only at ha;have c7:=h.gf j;rw [ho] at c7;have ck:(s.o j).live:=by rw [ho];trivial
   have nP:=xB c7 (hh u em ver xs (lW ho));obtain ⟨x,hx,ha⟩:=bd ha;obtain ⟨e,rfl⟩:=hy hx;subst e;simp only [Option.some.injEq,Prod.mk.injEq] at ha;obtain ⟨rfl,rfl,rfl⟩:=ha;exact⟨(ι j).F,nP,h.take j (fun _ _ h=>h) (fun _ _ h=>.inl h),xA j ck,h.xz ck,fun b o hf=>⟨j,ck,hf⟩⟩
  | _=>rw [ho] at ha;simp at ha
 | _=>simp [taken] at ha
theorem aeu{t:ad}{oI kO:bg}{xs ys:List t.D}{v:Value}{vs:List Value}{lr hD:ag}(h:Inv w0 F0 Z0 n s a w ι Z)
  (hx:(ad.sl t).au w Z (.O oI) xs [v] lr) (aR:da (t.au w Z kO) t.size ys vs hD) (ha:bK w0 F0 s w ι Z lr) (hb:bK w0 F0 s w ι Z hD) (l6:ag.apart lr hD) :
  ∃Z' Dt Du,Inv w0 F0 Z0 n s a w ι Z'∧ag.sub Z Z'∧(ad.sl t).au w Z' (.O (meet oI kO)) xs [v] Dt∧da (t.au w Z' (meet oI kO)) t.size ys vs Du∧bK w0 F0 s w ι Z' Dt∧bK w0 F0 s w ι Z' Du∧ag.apart Dt Du:=by
 unfold meet;cases hm:bg.beq oI kO
 ·simp only [cond_false];obtain ⟨F',h1,h2⟩:=SI hx;have de:bK w0 F0 s w ι Z ((ag.diff lr F').or hD):=(ha.sub fun b o h=>h.1).or hb;refine⟨_,F',ag.none,h.freeze de,fun _ _ h=>.inl h,ad.au.mono ?_ _ _ (fun _ _ h=>h) h2,?_,?_,.none,fun _ _ _ h=>h⟩
  ·rintro b o (hz | hz)
   ·exact .inl hz
   ·exact .inr (.inl hz)
  ·exact aR.bare fun y us G hs hr=>ad.au.read (fun _ _ h=>.inl h) t kO (fun b o aC=>.inr (.inr (hs b o aC))) hr
  ·refine(ha.sub h1).freeze ?_
   rintro b o hf (aC | aC)
   ·exact aC.2 hf
   ·exact l6 b o (h1 b o hf) aC
 ·have:=bg.eq_of_beq _ _ hm;subst this;exact⟨Z,lr,hD,h,fun _ _ h=>h,hx,aR,ha,hb,l6⟩
theorem J_(z:Array Value)(k:Nat):(Builtin.zeroCells z k).size=k*z.size:=by simp [Builtin.zeroCells]
theorem run_append_room{A:Option Addr}{m c k size:Nat}{vs:List Value}{vb:Value}{hY il ty e:TypeId}{ats:Array TypeId}{args:Array Value}
  (h0:ats[0]?=some hY) (h1:ats[1]?=some il) (h2:args[0]?=some (.slice A m c)) (h3:args[1]?=some vb) (hu:P.underlying hY=some (.slice e)) (hs:(sizeOf e).run P w=.ok size w)
  (kq:P.underlying il=some .string∨∃gP,P.underlying il=some (.slice gP)) (oW:m+k≤c) (hl:(Builtin.lenOf vb).run P w=.ok k w) (hf:(Builtin.firstCells size k vb).run P w=.ok vs.toArray w)
  (hst:∀a,A=some a→(storeCells (a.add (m*size)) vs).run P w=.ok () w') (hn:A=none→w'=w):(Builtin.append_ ats ty args).run P w=.ok (.slice A (m+k) c) w':=by
 unfold Builtin.append_;rcases kq with kq | ⟨gP,kq⟩
 all_goals
  simp only [h0,h1,h2,h3,run_bind,run_underlying hu,hs,run_underlying kq,run_pure];simp only [Bool.false_eq_true,if_false,run_bind,hl,if_pos oW,Bool.not_false,if_true,hf]
  cases A with
  | none=>rw [hn rfl];rfl
  | some a=>simp only [run_bind,hst a rfl,run_pure]
theorem run_append_grow{A:Option Addr}{m c k size:Nat}{us vs:List Value}{vb z:Value}{hY il ty e:TypeId}{ats:Array TypeId}{args:Array Value}{i:TypeInfo}
  (h0:ats[0]?=some hY) (h1:ats[1]?=some il) (h2:args[0]?=some (.slice A m c)) (h3:args[1]?=some vb) (hu:P.underlying hY=some (.slice e)) (hi:P.info? e=some i) (hsz:i.size=size) (hz:i.zero=some z)
  (kq:P.underlying il=some .string∨∃gP,P.underlying il=some (.slice gP)) (oW:¬m+k≤c) (hl:(Builtin.lenOf vb).run P w=.ok k w)
  (Dv:∀d,(Builtin.firstCells size m (.slice A m c)).run P { w with drawn:=d } = .ok us.toArray { w with drawn:=d })
  (hf:∀d,(Builtin.firstCells size k vb).run P { w with drawn:=d } = .ok vs.toArray { w with drawn:=d })
  (hr:m+k≤68719476736) (hb:i.bytes≤2048) :
  ∃q,m+k≤q∧(Builtin.append_ ats ty args).run P w=.ok (.slice (some (at_ w.heap.size 0)) (m+k) q) (grown w (w.drawn+1) (us.toArray++vs.toArray++Builtin.zeroCells z.cells (q-(m+k))) e (0,0)):=by
 have hq:(Question.appendCap (m+k) c e).forced=false:=rfl;have aev:¬(((m+k:Nat):Int)>IntKind.i64.max):=by simp [IntKind.max,IntKind.signed,IntKind.bits];omega
 have aew:¬(Builtin.nextslicecap (m+k) c*i.bytes>2 ^ 48):=by have h1:=nextslicecap_le (need:=m+k) (old:=c) (by omega);have h2:Builtin.nextslicecap (m+k) c*i.bytes≤(2*68719476736)*2048:=Nat.mul_le_mul (by omega) hb;omega
 have aex:(sizeOf e).run P w=.ok size w:=by simp [sizeOf,run_bind,run_typeInfo hi,run_pure,hsz]
 have hzero:∀w:World,(zeroValue e).run P w=.ok z w:=by intro w;simp [zeroValue,run_bind,run_typeInfo hi,run_pure,hz]
 refine⟨m+k+w.tape w.drawn (.appendCap (m+k) c e) % (2 ^ 63-(m+k)),by omega,?_⟩;unfold Builtin.append_;rcases kq with kq | ⟨gP,kq⟩
 all_goals
  simp only [h0,h1,h2,h3,run_bind,run_underlying hu,aex,run_underlying kq,run_pure];simp only [Bool.false_eq_true,if_false,run_bind,hl,if_neg oW,Bool.not_false,if_true,aev,false_and,run_typeInfo hi,aew,choose,Sem.run,hq,Question.cut,run_askRoom,Dv,hf,hzero];rfl
theorem TA{t:ad}{m:bg}{xs ys:List t.D}{lV vb:Value}{vs:List Value}{lr hD:ag}{hY il ty e:TypeId}{ats:Array TypeId}{args:Array Value}
  (h0:ats[0]?=some hY) (h1:ats[1]?=some il) (h2:args[0]?=some lV) (h3:args[1]?=some vb) (hu:P.underlying hY=some (.slice e)) (cl:t.ok P e)
  (kq:P.underlying il=some .string∨∃gP,P.underlying il=some (.slice gP)) (hroom:xs.length+ys.length≤68719476736)
  (h:Inv w0 F0 Z0 n s a w ι Z) (cj:s.o id=.none) (hx:(ad.sl t).au w Z (.O m) xs [lV] lr) (aR:da (t.au w Z m) t.size ys vs hD) (ha:bK w0 F0 s w ι Z lr) (hb:bK w0 F0 s w ι Z hD) (l6:ag.apart lr hD)
  (hl:(Builtin.lenOf vb).run P w=.ok ys.length w) (hf:∀d,(Builtin.firstCells t.size ys.length vb).run P { w with drawn:=d } = .ok vs.toArray { w with drawn:=d }) :
  ∃u w' i,(Builtin.append_ ats ty args).run P w=.ok u w'∧Inv w0 F0 Z0 n (s.bV id (.row t m 0 (xs++ys))) a w' (bW ι id i) Z∧cr w' Z (s.bV id (.row t m 0 (xs++ys))) (bW ι id i) (.af id none) u:=by
 obtain ⟨A,c,us,rfl,hex,Dv⟩:=Ds (P:=P) hx;obtain ⟨i,mL,gw,xM,K6⟩:=cl.info;have z6:(dN t t.cT).cells.size=t.size:=by have:=congrArg List.length (xL t);rw [Array.length_toList,ad.l2] at this;exact this
 have TB:(Builtin.firstCells t.size ys.length vb).run P w=.ok vs.toArray w:=hf w.drawn;have ato:(Builtin.firstCells t.size xs.length (.slice A xs.length c)).run P w=.ok us.toArray w:=Dv w.drawn;have aey:=hex.len;have TC:=aR.len;by_cases oW:xs.length+ys.length≤c
 ·
  have hrow:=hx;simp only [ad.au] at hrow;obtain ⟨nK,c',hv,hrow⟩:=hrow;simp only [List.cons.injEq,Value.slice.injEq,and_true,true_and] at hv;obtain ⟨rfl,rfl⟩:=hv;rcases hrow with⟨rfl,rfl⟩ | ⟨⟨b,o,sp⟩,rfl,hr⟩
  ·have aez:ys=[]:=List.eq_nil_of_length_eq_zero (by simp at oW;simpa using oW);subst aez;have TD:vs=[]:=List.eq_nil_of_length_eq_zero (by simpa using TC);subst TD;refine⟨.slice A 0 0,w,⟨none,0,ag.none⟩,?_,h.Dg cj (.inl ⟨rfl,rfl⟩) .none,?_⟩
   ·exact run_append_room h0 h1 h2 h3 hu (run_sizeOf cl) kq (Nat.le_refl 0) hl TB (fun a _=>rfl) (fun _=>rfl)
   ·refine⟨by show bW s.o id _ id≠_;rw [cL];simp,A,0,0,rfl,?_⟩;intro cO gD nM gg ho;have sF:(bW s.o id (cB.row t m 0 ([]++[])) id).core=.row cO gD nM gg:=ho;rw [cL] at sF;obtain ⟨rfl,_,_,h4⟩:=cB.row.inj sF;have:=eq_of_heq h4;subst this;exact⟨rfl,by simp [eB],Nat.le_refl _,by simp [eB],.inl rfl⟩
  ·have hsp:=hr.spot;simp only at hsp;subst hsp;obtain ⟨G,g1,g2,g3⟩:=hr.row;have hle:(xs.length+ys.length)*t.size≤c*t.size:=Nat.mul_le_mul_right _ oW;rw [Nat.add_mul] at hle;have hwr:∀j,j<vs.length→fE w b (o+xs.length*t.size+j):=fun j hj=>by have:=(hr.wr (xs.length*t.size+j) (by omega)).1;rwa [← Nat.add_assoc] at this
   have de:bK w0 F0 s w ι Z (ag.run b o (c*t.size)):=ha.sub (by
    rintro b' o' ⟨rfl,h1,h2⟩
    have:=hr.inF (o'-o) (by omega)
    rwa [show o +(o'-o)=o' by omega] at this)
   have aeA:ag.apart G (ag.run b o (c*t.size)):=by
    rintro b' o' aC ⟨rfl,h1,h2⟩
    have:=g2 (o'-o) (by omega);exact this (by show G b' (o +(o'-o));rw [show o +(o'-o)=o' by omega];exact aC)
   have lu:Ext w (setCells w b (o+xs.length*t.size) vs) (ag.run b o (c*t.size)):=oF b vs w _ (fun j hj=>⟨rfl,by omega,by omega⟩);have hinv:=h.Dr de lu;obtain ⟨aX,k1,k2⟩:=g1.uu;have TE:=k1.len;have nQ:∀F,bK w0 F0 s w ι Z F→ag.apart F (ag.run b o (c*t.size))→cf w (setCells w b (o+xs.length*t.size) vs) F:=fun F hF La=>cf.jk lu (fun b o hf=>(hF.own b o hf).2) La
   have TF:cf w (setCells w b (o+xs.length*t.size) vs) Z:=cf.jk lu h.ji (fun b o hz hs=>de.db b o hs hz);have aeB:bK w0 F0 s w ι Z G:=ha.sub g3
   have aeC:ag.apart hD (ag.run b o (c*t.size)):=by
    rintro b' o' dM ⟨rfl,h1,h2⟩
    have:=hr.inF (o'-o) (by omega);exact l6 b' o' (by have iO:lr b' (o +(o'-o)):=this;rwa [show o +(o'-o)=o' by omega] at iO) dM
   have e1:da (t.au (setCells w b (o+xs.length*t.size) vs) Z m) t.size xs aX G:=k1.imp fun y us dv hs hr=>ad.au.same TF t m ((nQ G aeB aeA).mono hs) hr
   have e2:da (t.au (setCells w b (o+xs.length*t.size) vs) Z m) t.size ys vs hD:=aR.imp fun y us dv hs hr=>ad.au.same TF t m ((nQ hD hb aeC).mono hs) hr
   have ko:bK w0 F0 s (setCells w b (o+xs.length*t.size) vs) ι Z (lr.or hD):=(ha.or hb).ext lu;refine⟨.slice (some (at_ b o)) (xs.length+ys.length) c,_,⟨some (at_ b o),c,lr.or hD⟩,?_,hinv.Dg cj ?_ ko,?_⟩
   ·have hst:=C2 (P:=P) (b:=b) (o:=o+xs.length*t.size) vs w 0 (C4 aR) (fun j hj=>by simpa using hwr j hj);simp only [Nat.add_zero] at hst;refine run_append_room h0 h1 h2 h3 hu (run_sizeOf cl) kq oW hl TB (fun a ha=>?_) (fun h=>by simp at h);obtain rfl:=aW ha;rw [show(⟨b,o,none⟩:Addr).add (xs.length*t.size)=at_ b (o+xs.length*t.size) from qZ _ _ _];exact hst
   ·refine .inr ⟨at_ b o,rfl,rfl,by simpa using oW,fun j hj=>(lu.kL (hr.wr j hj)),fun j hj=>.inl (hr.inF j hj),G.or hD,?_,?_,fun b o h=>h.imp (g3 b o) (fun h=>h)⟩
    ·refine(e1.append e2 fun b o aC hf=>l6 b o (g3 b o aC) hf).row ?_;refine cc.append (k2.of_eq fun j hj=>?_) ?_
     ·rw [TE] at hj;refine(xy b vs w _ (fun i hi=>(hwr i hi).1) b (o+j)).trans (if_neg ?_);omega
     ·rw [TE];exact adS hwr
    ·rintro j hj (aC | aC)
     ·exact g2 j hj aC
     ·exact l6 _ _ (hr.inF j hj) aC
   ·have:=z1 (w:=setCells w b (o+xs.length*t.size) vs) (Z:=Z) (s:=s) (ι := ι) (id:=id) (em:=m) (ver:=0) (xs:=xs++ys) (A:=at_ b o) (c:=c) (F:=lr.or hD) rfl (by simpa using oW);rw [List.length_append] at this;exact this
 ·
  obtain ⟨q,hq,hrun⟩:=run_append_grow (P:=P) (w:=w) (ty:=ty) h0 h1 h2 h3 hu mL gw xM kq oW hl Dv hf hroom K6
  have hn:=h.newRow cj (hex.append aR l6) (ha.or hb) (w.drawn+1) (us.toArray++vs.toArray++Builtin.zeroCells (dN t t.cT).cells (q-(xs.length+ys.length))) e (0,0) q (by
   intro j v hv;rw [Array.getElem?_append_left]
   ·simpa [← List.getElem?_append] using hv
   ·rcases Nat.lt_or_ge j (us++vs).length with h | h
    ·simpa using h
    ·rw [List.getElem?_eq_none h] at hv;simp at hv) (by simpa using hq) (by
   simp only [Array.size_append,List.size_toArray,J_,z6,aey,TC];rw [Nat.sub_mul,Nat.add_mul];have:(xs.length+ys.length)*t.size≤q*t.size:=Nat.mul_le_mul_right _ hq;rw [Nat.add_mul] at this
   omega) (.inl rfl) (.inr rfl)
  refine⟨_,_,_,hrun,hn,?_⟩;have:=z1 (w:=grown w (w.drawn+1) (us.toArray++vs.toArray++Builtin.zeroCells (dN t t.cT).cells (q-(xs.length+ys.length))) e (0,0)) (Z:=Z) (s:=s) (ι := ι) (id:=id) (em:=m) (ver:=0) (xs:=xs++ys) (A:=at_ w.heap.size 0) (c:=q) (F:=(ag.run w.heap.size 0 (q*t.size)).or (lr.or hD)) rfl (by simpa using hq);rw [List.length_append] at this;exact this
theorem TG{ak:List Nat}{t:ad}(b2:hB P E)(gS:xq E ak=some t):∃hY il rest e,ak=hY :: il :: rest∧P.underlying hY=some (.slice e)∧t.ok P e∧(P.underlying il=some .string∨∃gP,P.underlying il=some (.slice gP)):=by
 unfold xq at gS;split at gS
 ·rename_i hY il rest;split at gS
  ·rename_i t1 t2 h1 h2;obtain rfl:=aW gS;obtain ⟨e,hu,cl⟩:=l3 (b2.ty _ _ h1);obtain ⟨gP,z_,_⟩:=l3 (b2.ty _ _ h2);exact⟨hY,il,rest,e,rfl,hu,cl,.inr ⟨gP,z_⟩⟩
  ·rename_i t1 h1 h2;obtain rfl:=aW gS;obtain ⟨e,hu,cl⟩:=l3 (b2.ty _ _ h1);exact⟨hY,il,rest,e,rfl,hu,cl,.inl (xO (b2.ty _ _ h2))⟩
  ·simp at gS
 ·simp at gS
theorem Lb{t:ad}{u:Value}{c:bb}{x:ba}(hx:oneCell t x=some c)(hr:aT w Z s ι x u):cr w Z s ι c u:=by
 cases x <;> simp only [oneCell] at hx <;> try (simp at hx;done)
 ·obtain rfl:=aW hx;simpa only [aT] using hr
 ·obtain rfl:=aW hx;simp only [aT] at hr;exact hr
theorem aeD{c:Call}(b2:hB P E)(h:Inv w0 F0 Z0 n s a w ι Z)(af:∀k,o.dst=some k→k<n)(ho:o.op=.call c)(hb:c.callee=.builtin .append)(hk:cZ E id o s K=some r) :
  ∃av,K av=some r∧o.wp P a w (c5 w0 F0 Z0 n av) Q:=by
 unfold cZ at hk;rw [ho] at hk;simp only [hb] at hk;have hvs:=uR h c.args.toList;have l5:(c.args.map a.eval).toList=c.args.toList.map a.eval:=by simp
 generalize hl:c.args.toList.map (bZ s)=l at hk hvs
 match l,hk,hvs with
 | [],hk,_=>simp [ki] at hk
 | [_],hk,_=>simp [ki] at hk
 | _ :: _ :: _ :: _,hk,_=>simp [ki] at hk
 | [lV,vb],hk,hvs=>
  simp only [ki] at hk;simp only [a'] at hvs;obtain ⟨TH,_,he,nR,aeE,_,rfl,Lc,rfl⟩:=hvs
  cases gS:xq E c.argTypes.toList with
  | none=>rw [gS] at hk;simp at hk
  | some t=>
   rw [gS] at hk;simp only at hk;obtain ⟨hY,il,rest,e,mM,hu,cl,kq⟩:=TG b2 gS
   cases Dw:oneCell t lV with
   | none=>rw [Dw] at hk;simp at hk
   | some Ld=>
    cases uS:oneCell t vb with
    | none=>rw [Dw,uS] at hk;simp at hk
    | some cb=>
      rw [Dw,uS] at hk;simp only [Sw] at hk;have nS:=Lb Dw nR;have hb1:=Lb uS Lc
      cases q_:added s t cb with
      | none=>rw [q_] at hk;simp at hk
      | some q=>
       obtain ⟨kO,ys,s1⟩:=q;rw [q_] at hk;simp only at hk;obtain ⟨vs,hD,hlen,q',hels,h1,hs1,oU⟩:=Ty (P:=P) q_ h hb1
       cases kQ:taken s1 t Ld with
       | none=>rw [kQ] at hk;simp at hk
       | some q=>
        obtain ⟨oI,xs,s2⟩:=q;rw [kQ] at hk;simp only at hk;obtain ⟨lr,hx,h2,oV,hf2,ck⟩:=Tz kQ h1 (nS.move hs1.eC)
        cases nL:mkObj s2 id (.row t (meet oI kO) 0 (xs++ys)) with
        | none=>rw [nL] at hk;simp at hk
        | some s3=>
         rw [nL] at hk;obtain ⟨hroom,hk2⟩:=sM hk;clear hk;obtain ⟨cj,rfl⟩:=q6 nL
         obtain ⟨bQ,Dt,Du,h3,_,lu,Dm,aeF,dM,aeG⟩:=aeu h2 hx hels hf2 (oU.shrink oV) (by
          intro b o aeH aeI;obtain ⟨j,hj,z8⟩:=ck b o aeH
          exact oU.apart j hj b o aeI z8)
         obtain ⟨u,w',bm,hrun,hinv,hcell⟩:=TA (P:=P) (id:=id) (ty:=o.type) (ats:=c.argTypes) (args:=c.args.map a.eval) (by rw [← Array.getElem?_toList,mM];rfl) (by rw [← Array.getElem?_toList,mM];rfl)
          (by rw [← Array.getElem?_toList,l5,he];rfl) (by rw [← Array.getElem?_toList,l5,he];rfl) hu cl kq (Nat.le_of_ble_eq_true hroom) h3 cj lu Dm aeF dM aeG hlen q'
         refine⟨_,hk2,mG (v:=u) (w':=w') ?_ hinv (by simp only [aT];exact hcell) af⟩;unfold execOp;rw [ho];simp only [run_bind,resolve,hb,run_pure,invoke];unfold builtin;exact gk hrun
theorem da.cut{α : Type}{R : α → List Value→ag→Prop}{size:Nat} : ∀ {xs:List α} {vs:List Value} {F:ag} (k:Nat),da R size xs vs F→da R size (xs.take k) (vs.take (k*size)) F∧da R size (xs.drop k) (vs.drop (k*size)) F
 | xs,vs,F,0,h=>by simp only [Nat.zero_mul,List.take_zero,List.drop_zero];exact⟨rfl,h⟩
 | [],vs,F,k+1,h=>by simp only [da] at h;subst h;simp [da]
 | x :: xs,vs,F,k+1,⟨us,ak,G,H,h1,h2,h3,h4,a7,bh,bJ⟩=>by
  obtain ⟨p,q⟩:=da.cut k h4;subst h1;have e:(k+1)*size=us.length+k*size:=by rw [Nat.add_one_mul,h3];omega
  refine⟨⟨us,ak.take (k*size),G,H,?_,h2,h3,p,a7,bh,bJ⟩,?_⟩
  ·rw [e,List.take_length_add_append]
  ·rw [e,List.drop_length_add_append];exact q.mono bJ
theorem aeJ(us:List Value)(z:Array Value)(hz:z.toList=us)(n:Nat):(Builtin.zeroCells z n).toList=(List.replicate n us).flatten:=by
 have hl:(Builtin.zeroCells z n).toList.length=(List.replicate n us).flatten.length:=by rw [Array.length_toList,J_];subst hz;simp
 refine List.ext_getElem? fun j=>?_
 cases hj:(List.replicate n us).flatten[j]? with
 | none=>rw [List.getElem?_eq_none_iff] at hj ⊢;omega
 | some v=>have:=K5 (z:=z) (m:=n*z.size) us n hz (by subst hz;simp) v hj;rw [Array.getElem?_toList];exact this
theorem Inv.rewrite(h:Inv w0 F0 Z0 n s a w ι Z){id:Nat}{t:ad}{em:bg}{ver:Nat}{xs gg:List t.D}(ho:s.o id=.row t em ver xs)(hl:xs.length=gg.length)(hx:Ext w w' (ι id).F)
  (c7:eU w Z s ι w' Z (s.bV id (.row t em (ver+1) gg)) ι → iq w' Z (s.bV id (.row t em (ver+1) gg)) ι (ι id) (.row t em (ver+1) gg)):Inv w0 F0 Z0 n (s.bV id (.row t em (ver+1) gg)) a w' ι Z:=by
 have ck:(s.o id).live:=by rw [ho];trivial
 let o':cB:=.row t em (ver+1) gg
 have hm:eU w Z s ι w' Z (s.bV id o') ι := by
  refine⟨fun j=>?_,fun _ _ h=>h,cf.jk hx h.sG ?_⟩
  ·show jj (s.o j) (ι j) (bW s.o id o' j) (ι j);by_cases hj:id=j
   ·subst hj;rw [cL,ho];exact .row _ _ _ _ _ _ _ _ _ (by omega) (by omega) rfl rfl
   ·rw [cW hj];exact .stay _ _
  ·rintro b o (hz | ⟨eh,gr,q1,_,hf⟩) iN
   ·exact h.db id ck b o iN hz
   ·have hne:eh≠id:=by
     rintro rfl
     have:bW s.o eh o' eh=s.o eh:=q1;rw [cL,ho] at this;injection this with h1 h2 h3
     omega
    exact h.apart eh id gr ck hne b o hf iN
 have sH:∀ {j},id≠j→((s.bV id o').o j).live→(s.o j).live:=fun hj hl=>by have:(bW s.o id o' _).live:=hl;rwa [cW hj] at this
 refine h.next hm hx (fun b o hf=>(h.own id ck b o hf).1) (fun _ _ h=>.inl h) ?_ ?_ (fun k=>(h.tmps k).move hm) h.size h.defers
 ·intro j hl hne;by_cases hj:id=j
  ·subst hj;refine⟨?_,fun b o hf=>⟨(h.own _ ck b o hf).1,Nat.lt_of_lt_of_le (h.own _ ck b o hf).2 hx.size⟩,fun eh gr j2=>h.apart id eh ck (sH j2 gr) j2⟩;show iq _ _ _ _ _ (bW s.o id o' id);rw [cL];exact c7 hm
  ·exact absurd ⟨cW hj,rfl⟩ hne
 ·intro j hl;by_cases hj:id=j
  ·subst hj;exact h.db _ ck
  ·exact h.db j (sH hj hl)
theorem aeK{t e ty:TypeId}{T:ad}{A:Option Addr}{k c:Nat}(hu:P.underlying t=some (.slice e))(cl:T.ok P e){b o:Nat}(hA:0<k→A=some (at_ b o))(hw:∀j,j<k*T.size→fE w b (o+j)) :
  (Builtin.clear_ #[t] ty #[.slice A k c]).run P w=.ok (.tuple #[]) (setCells w b o (List.replicate k T.cT).flatten):=by
 rcases Nat.eq_zero_or_pos k with rfl | hk
 ·unfold Builtin.clear_;cases A <;>(simp only [List.getElem?_toArray,List.getElem?_cons_zero,run_bind,run_underlying hu];rfl)
 ·rw [hA hk];obtain ⟨m,rfl⟩:∃m,k=m+1:=⟨k-1,by omega⟩
  have hc:=aeJ T.cT (dN T T.cT).cells (xL T) (m+1);have h1:∀v∈(List.replicate (m+1) T.cT).flatten,ep v=true:=by intro v hv;rw [List.mem_flatten] at hv;obtain ⟨l,h1,h2⟩:=hv;rw [(List.mem_replicate.1 h1).2] at h2;exact((sJ (w:=default) (Z:=ag.none) (s:=⟨fun _=>.aB,fun _=>.none,[]⟩) (ι := fun _=>⟨none,0,ag.none⟩) T).ep) v h2
  have hst:=C2 (P:=P) (b:=b) (o:=o) _ w 0 h1 (fun i hi=>by
   have:=hw i (by simpa [ad.l2] using hi)
   simpa using this)
  unfold Builtin.clear_;simp only [List.getElem?_toArray,List.getElem?_cons_zero,run_bind,run_underlying hu,Dj cl,hc];simp only [Nat.add_zero] at hst;rw [hst];rfl
theorem aeL{c:Call}(b2:hB P E)(h:Inv w0 F0 Z0 n s a w ι Z)(af:∀k,o.dst=some k→k<n)(ho:o.op=.call c)(hb:c.callee=.builtin .clear)(hk:cZ E id o s K=some r) :
  ∃av,K av=some r∧o.wp P a w (c5 w0 F0 Z0 n av) Q:=by
 unfold cZ at hk;rw [ho] at hk;simp only [hb] at hk;have hvs:=uR h c.args.toList;have l5:(c.args.map a.eval).toList=c.args.toList.map a.eval:=by simp
 generalize hl:c.args.toList.map (bZ s)=l at hk hvs
 match l,hk,hvs with
 | [.aV (.af i sub)],hk,hvs=>
  simp only [ki] at hk
  cases gS:c.argTypes.toList with
  | nil=>rw [gS] at hk;simp at hk
  | cons t ak=>
   rw [gS] at hk;simp only at hk
   cases ht:E.ty t with
   | none=>rw [ht] at hk;simp at hk
   | some T=>
    cases b0:s.o i with
    | row v em ver xs=>
     rw [ht,b0] at hk
     cases T with
     | sl u=>
      simp only at hk;cases hf:(ad.beq u v&&v.flat)
      ·rw [hf] at hk;simp at hk
      rw [hf] at hk;simp only [cond_true] at hk;simp only [Bool.and_eq_true] at hf;obtain ⟨hf,iw⟩:=hf;have:=ad.eq_of_beq _ _ hf;subst this;simp only [a',aT] at hvs;obtain ⟨atp,us,he,⟨km,A,k,kl,rfl,hh⟩,rfl⟩:=hvs;obtain ⟨e,hu,cl⟩:=l3 (b2.ty _ _ ht);have hr:=hh u em ver xs (lW b0);obtain ⟨cJ,TI,atq,rc,Dx⟩:=hr
      have hkk:k=lS sub xs:=by
       rw [cJ];cases sub with
       | none=>rfl
       | some p=>rfl
      rw [← hkk] at hk;generalize iP:eB sub=lo at *;have nN:(c.args.map a.eval) = #[.slice A k kl]:=by apply Array.ext';rw [l5,he]
      have pY:c.argTypes[0]?=some t:=by rw [← Array.getElem?_toList,gS];rfl
      have hlen:xs.length=(xs.take lo++List.replicate k u.zero++xs.drop (lo+k)).length:=by simp;omega
      have TJ:=h.gf i;rw [b0] at TJ
      have hfin:∃(b Dy:Nat),(0<k→A=some (at_ b Dy))∧(∀j,j<k*u.size→fE w b (Dy+j))∧Inv w0 F0 Z0 n (s.bV i (.row u em (ver+1) (xs.take lo++List.replicate k u.zero++xs.drop (lo+k)))) a (setCells w b Dy (List.replicate k u.cT).flatten) ι Z:=by
       rcases TJ with⟨h1,h2⟩ | ⟨a0,gx,hrow⟩
       ·have hk0:k=0:=by rw [h1] at TI;simp at TI;omega
        subst hk0;refine⟨0,0,fun h=>by omega,fun j hj=>by omega,?_⟩;refine h.rewrite b0 hlen (Ext.refl _ _) fun _=>?_
        exact .inl ⟨by rw [h1];simp,h2⟩
       ·have hle:(lo+k)*u.size≤(ι i).cap*u.size:=Nat.mul_le_mul_right _ (by have:=hrow.cap;omega);rw [Nat.add_mul] at hle;have hwr:∀j,j<k*u.size→fE w a0.block (a0.off+lo*u.size+j):=fun j hj=>by have:=(hrow.wr (lo*u.size+j) (by omega)).1;rwa [← Nat.add_assoc] at this
        have z6:(List.replicate k u.cT).flatten.length=k*u.size:=by simp [ad.l2]
        have hx:Ext w (setCells w a0.block (a0.off+lo*u.size) (List.replicate k u.cT).flatten) (ι i).F:=oF _ _ _ _ fun j hj=>by have:=hrow.inF (lo*u.size+j) (by omega);rwa [← Nat.add_assoc] at this
        refine⟨a0.block,a0.off+lo*u.size,fun hk0=>?_,hwr,h.rewrite b0 hlen hx fun _=>.inr ⟨a0,gx,hrow.spot,by rw [← hlen];exact hrow.cap,fun j hj=>hx.kL (hrow.wr j hj),hrow.inF,ag.none,?_,fun _ _ h=>h,fun _ _ h=>h.elim⟩⟩
        ·rcases Dx with Dx | ⟨a1,hb1,Dx⟩
         ·omega
         ·rw [gx] at hb1;obtain rfl:=aW hb1;exact Dx
        ·obtain ⟨G,bE,cp,gi⟩:=hrow.row;obtain ⟨us,e1,e2⟩:=Row.uu bE;have e1:da (u.au (setCells w a0.block (a0.off+lo*u.size) (List.replicate k u.cT).flatten) Z em) u.size xs us ag.none:=e1.bare fun y us dv _ aR=>sq u (F:=ag.none) iw (ad.au.same (Z:=ag.none) (fun _ _ h=>h.elim) u em (F:=ag.none) (fun _ _ h=>h.elim) (sq u iw aR))
         have q4:=e1.len
         have hsp:=so (k:=lo*u.size) (vs:=(List.replicate k u.cT).flatten) e2 (fun i hi=>(hrow.wr i (by
          have:xs.length*u.size≤(ι _).cap*u.size:=Nat.mul_le_mul_right _ hrow.cap
          omega)).1) (by
          rw [z6,q4,← Nat.add_mul];exact Nat.mul_le_mul_right _ (by omega))
         refine da.row ?_ hsp;have c1:=(e1.cut lo).1;have fL:=(e1.cut (lo+k)).2;have Dz:=da.replicate (R:=u.au (setCells w a0.block (a0.off+lo*u.size) (List.replicate k u.cT).flatten) Z em) (K4 u em) (ad.l2 u) k;have:=((c1.append Dz fun _ _ h _=>h.elim).append fL fun _ _ _ h=>h.elim);unfold dr;rw [z6,← Nat.add_mul];refine this.bare fun y us G _ aR=>sq u iw aR
      obtain ⟨b,Dy,hA,hw,hi⟩:=hfin;refine⟨_,hk,mG (v:=.tuple #[]) ?_ hi (by simp only [aT,a'];exact⟨[],rfl,rfl⟩) af⟩;unfold execOp;rw [ho];simp only [run_bind,resolve,hb,run_pure,invoke];unfold builtin;refine gk ?_;have hrun:=aeK (P:=P) (w:=w) (ty:=o.type) (c:=kl) hu cl hA hw;rw [nN];have aeM:Builtin.clear_ c.argTypes o.type #[.slice A k kl]=Builtin.clear_ #[t] o.type #[.slice A k kl]:=by unfold Builtin.clear_;rw [pY];rfl
      rw [aeM];exact hrun
     | _=>simp at hk
    | _=>rw [ht,b0] at hk;cases T <;> simp at hk
 | [],hk,_=>simp [ki] at hk
 | _ :: _ :: _,hk,_=>simp [ki] at hk
 | [.aB],hk,_ | [.iK _],hk,_ | [.ptr _],hk,_ | [.du _ _ _],hk,_ | [.kg],hk,_ | [.lh],hk,_ | [.opt _ _],hk,_ | [.may _ _ _],hk,_ | [.sr _],hk,_ | [.fn _ _ _],hk,_ | [.pM _],hk,_=>simp [ki] at hk
 | [.aV (.int _ _)],hk,_ | [.aV (.bool _)],hk,_ | [.aV (.str _)],hk,_ | [.aV (.nil _)],hk,_ | [.aV (.bM _ _ _ _)],hk,_=>simp [ki] at hk
end
end Go.LM
namespace Go.LM
theorem Row.DA{α : Type}{w:World}{R : α → List Value→ag→Prop}{size:Nat} : ∀ {x:List α} {b o:Nat} {F:ag} (i:Nat) (hi:i<x.length),Row w R size x b o F →
  ∃G1 jq G2 vs,Row w R size (x.take i) b o G1∧R x[i] vs jq∧vs.length=size∧cc w b (o+i*size) vs∧Row w R size (x.drop (i+1)) b (o +(i+1)*size) G2 ∧
   ag.apart G1 jq∧ag.apart G1 G2∧ag.apart jq G2∧ag.sub G1 F∧ag.sub jq F∧ag.sub G2 F
 | y :: x,b,o,F,0,_,⟨vs,G,H,h1,h2,h3,h4,a7,bh,bJ⟩=>⟨ag.none,G,H,vs,trivial,h1,h2,by simpa using h3,by simpa using h4,fun _ _ h=>h.elim,fun _ _ h=>h.elim,a7,fun _ _ h=>h.elim,bh,bJ⟩
 | y :: x,b,o,F,i+1,hi,⟨vs,G,H,h1,h2,h3,h4,a7,bh,bJ⟩=>by
  obtain ⟨G1,jq,G2,us,k1,k2,k3,bs,bp,df,dW,cV,fV,dd,dm⟩:=Row.DA i (by simpa using hi) h4;refine⟨G.or G1,jq,G2,us,⟨vs,G,G1,h1,h2,h3,k1,fun b o h k=>a7 b o h (fV b o k),fun _ _ h=>.inl h,fun _ _ h=>.inr h⟩,k2,k3,?_,?_,?_,?_,cV,?_,fun b o h=>bJ b o (dd b o h),fun b o h=>bJ b o (dm b o h)⟩
  ·rwa [show o +(i+1)*size=o+size+i*size by rw [Nat.add_one_mul];omega]
  ·have e:o +(i+1+1)*size=o+size +(i+1)*size:=by rw [Nat.add_one_mul (i+1)];omega
   rw [e];exact bp
  ·rintro b o (h | h) k
   ·exact a7 b o h (dd b o k)
   ·exact df b o h k
  ·rintro b o (h | h) k
   ·exact a7 b o h (dm b o k)
   ·exact dW b o h k
  ·rintro b o (h | h)
   ·exact bh b o h
   ·exact bJ b o (fV b o h)
theorem Row.DB{α : Type}{w:World}{R : α → List Value→ag→Prop}{size:Nat}{y : α}{vs:List Value}{jq:ag} : ∀ {x:List α} {b o:Nat} {G1 G2:ag} (i:Nat),i<x.length→Row w R size (x.take i) b o G1→R y vs jq→vs.length=size →
  cc w b (o+i*size) vs→Row w R size (x.drop (i+1)) b (o +(i+1)*size) G2→ag.apart G1 jq→ag.apart G1 G2→ag.apart jq G2→Row w R size (x.set i y) b o (G1.or (jq.or G2))
 | [],_,_,_,_,_,hi,_,_,_,_,_,_,_,_=>by simp at hi
 | z :: x,b,o,G1,G2,0,_,_,h2,h3,h4,a7,_,_,dg=>⟨vs,jq,G2,h2,h3,by simpa using h4,by simpa using a7,dg,fun _ _ h=>.inr (.inl h),fun _ _ h=>.inr (.inr h)⟩
 | z :: x,b,o,G1,G2,i+1,hi,⟨ws,A,B,a1,a2,a3,a4,a5,DC,Le⟩,h2,h3,h4,a7,bh,bJ,dg=>by
  have e1:o +(i+1)*size=o+size+i*size:=by rw [Nat.add_one_mul];omega
  have e2:o +(i+1+1)*size=o+size +(i+1)*size:=by rw [Nat.add_one_mul (i+1)];omega
  have:=Row.DB i (by simpa using hi) a4 h2 h3 (by rwa [← e1]) (by rw [← e2];exact a7) (fun b o x y=>bh b o (Le b o x) y) (fun b o x y=>bJ b o (Le b o x) y) dg;refine⟨ws,A,_,a1,a2,a3,this,?_,fun b o h=>.inl (DC b o h),?_⟩
  ·rintro b o x (y | y | y)
   ·exact a5 b o x y
   ·exact bh b o (DC b o x) y
   ·exact bJ b o (DC b o x) y
  ·rintro b o (y | y | y)
   ·exact .inl (Le b o y)
   ·exact .inr (.inl y)
   ·exact .inr (.inr y)
mutual
theorem ad.xQ:∀(T:ad) {off:Nat} {t:ad} {x:T.D} {z:List t.D},T.flat=true→T.getAt off t x=some z→False
 | .int _,_,_,_,_,_,h=>by simp [ad.getAt] at h
 | .bool,_,_,_,_,_,h=>by simp [ad.getAt] at h
 | .str,_,_,_,_,_,h=>by simp [ad.getAt] at h
 | .raw,_,_,_,_,_,h=>by simp [ad.getAt] at h
 | .sl t,_,_,_,_,hf,_=>by simp [ad.flat] at hf
 | .st ak,_,_,_,_,hf,h=>aA.xQ ak (by simpa only [ad.flat] using hf) (by simpa only [ad.getAt] using h)
theorem aA.xQ:∀(ak:aA) {off:Nat} {t:ad} {x:ak.D} {z:List t.D},ak.flat=true→ak.getAt off t x=some z→False
 | .nil,_,_,_,_,_,h=>by simp [aA.getAt] at h
 | .cons T ak,off,t,x,z,hf,h=>by
  simp only [aA.flat] at hf;cases h1:T.flat
  ·rw [h1] at hf;cases hf
  rw [h1] at hf;simp only [aA.getAt] at h;cases hb:Nat.blt off T.size
  ·rw [hb] at h;exact aA.xQ ak hf h
  ·rw [hb] at h;exact ad.xQ T h1 h
end
section
variable{w ch:World}{Z bQ:ag}
theorem ra(t:ad){x:t.D}{vs:List Value}{F:ag}(hF:cf w ch F)(h:t.au w Z t.own x vs F):t.au ch bQ t.own x vs F:=
 uJ t (ad.au.same (Z:=ag.none) (fun _ _ h=>h.elim) t t.own hF (uJ t h))
theorem TK(t:aA){x:t.D}{vs:List Value}{F:ag}(hF:cf w ch F)(h:t.au w Z t.own x vs F):t.au ch bQ t.own x vs F:=
 Df t (aA.au.same (Z:=ag.none) (fun _ _ h=>h.elim) t t.own hF (Df t h))
def TL(w:World)(Z:ag)(t:ad)(z:List t.D)(v:Value)(H1 G1:ag)(R:World→ag→List t.D→ag→Prop):Prop:=
 (ad.sl t).au w Z (.O t.own) z [v] H1∧ag.apart H1 G1∧∀(ch:World) (bQ X:ag) (y:List t.D),cf w ch G1→(ad.sl t).au ch bQ (.O t.own) y [v] X→ag.apart X G1→R ch bQ y (X.or G1)
mutual
theorem ad.lens:∀(T:ad) (off:Nat) (t:ad) {x:T.D} {z:List t.D} {us:List Value} {G:ag},T.au w Z T.own x us G→T.getAt off t x=some z →
  ∃v H1 G1,us[off]?=some v∧ag.sub H1 G∧ag.sub G1 G∧TL w Z t z v H1 G1 (fun ch bQ y eW=>∀bz,T.setAt off t y x=some bz→T.au ch bQ T.own bz us eW)
 | .int _,_,_,_,_,_,_,_,h=>by simp [ad.getAt] at h
 | .bool,_,_,_,_,_,_,_,h=>by simp [ad.getAt] at h
 | .str,_,_,_,_,_,_,_,h=>by simp [ad.getAt] at h
 | .raw,_,_,_,_,_,_,_,h=>by simp [ad.getAt] at h
 | .sl u,off,t,x,z,us,G,hr,h=>by
  simp only [ad.getAt] at h;cases hb:Nat.beq off 0
  ·rw [hb] at h;cases h
  rw [hb] at h;obtain rfl:=Nat.eq_of_beq_eq_true hb;obtain ⟨e,rfl⟩:=hy h;subst e;have iM:=hr;simp only [ad.own,ad.au] at hr;obtain ⟨A,c,rfl,_⟩:=hr;refine⟨_,G,ag.none,rfl,fun _ _ h=>h,fun _ _ h=>h.elim,iM,fun _ _ _ h=>h.elim,fun ch bQ X y _ h2 _ bz hs=>?_⟩;simp only [ad.setAt] at hs;obtain ⟨e,rfl⟩:=hy (show eR (.sl u) (.sl u) y=some bz from hs);exact ad.au.mono (fun _ _ h=>h) _ _ (fun _ _ h=>.inl h) h2
 | .st ak,off,t,x,z,us,G,hr,h=>by
  have iw:ak.flat=false:=by
   cases hf:ak.flat
   ·rfl
   ·exact(ad.xQ (.st ak) (by simpa only [ad.flat] using hf) h).elim
  simp only [ad.own,iw,Bool.false_eq_true,if_false,ad.au,bg.parts] at hr;simp only [ad.getAt] at h;obtain ⟨v,H1,G1,h1,h2,h3,h4,a7,bh⟩:=aA.lens ak off t hr h;refine⟨v,H1,G1,h1,h2,h3,h4,a7,fun ch bQ X y k1 k2 k3 bz hs=>?_⟩;simp only [ad.setAt] at hs;simp only [ad.own,iw,Bool.false_eq_true,if_false,ad.au,bg.parts];exact bh ch bQ X y k1 k2 k3 bz hs
theorem aA.lens:∀(ak:aA) (off:Nat) (t:ad) {x:ak.D} {z:List t.D} {us:List Value} {G:ag},ak.au w Z ak.own x us G→ak.getAt off t x=some z →
  ∃v H1 G1,us[off]?=some v∧ag.sub H1 G∧ag.sub G1 G∧TL w Z t z v H1 G1 (fun ch bQ y eW=>∀bz,ak.setAt off t y x=some bz→ak.au ch bQ ak.own bz us eW)
 | .nil,_,_,_,_,_,_,_,h=>by simp [aA.getAt] at h
 | .cons T ak,off,t,x,z,us,G,hr,h=>by
  simp only [aA.own,aA.au,c3.af,c3.dC] at hr;obtain ⟨nE,jr,nT,nU,rfl,bE,cp,hap,ha,hb⟩:=hr;have hl:=(ad.au.len T _ bE).1;simp only [aA.getAt] at h;cases bO:Nat.blt off T.size
  ·rw [bO] at h
   have xR:T.size≤off:=by
    rcases Nat.lt_or_ge off T.size with h1 | h1
    ·have:Nat.blt off T.size=true:=Nat.ble_eq_true_of_le h1;rw [this] at bO;cases bO
    ·exact h1
   obtain ⟨v,H1,G1,h1,h2,h3,h4,a7,bh⟩:=aA.lens ak (off-T.size) t cp h;refine⟨v,H1,nT.or G1,?_,fun b o x=>hb b o (h2 b o x),?_,h4,?_,fun ch bQ X y k1 k2 k3 bz hs=>?_⟩
   ·rw [List.getElem?_append_right (by omega),hl];exact h1
   ·rintro b o (y | y)
    ·exact ha b o y
    ·exact hb b o (h3 b o y)
   ·rintro b o y (q | q)
    ·exact hap b o q (h2 b o y)
    ·exact a7 b o y q
   ·simp only [aA.setAt,bO,cond_false] at hs;obtain ⟨hH,hz,hs⟩:=bd hs;obtain rfl:=aW hs;simp only [aA.own,aA.au,c3.af,c3.dC];refine⟨nE,jr,nT,X.or G1,rfl,ra T (k1.mono fun _ _ h=>.inl h) bE,bh ch bQ X y (k1.mono fun _ _ h=>.inr h) k2 (fun b o p q=>k3 b o p (.inr q)) hH hz,?_,fun _ _ h=>.inr (.inl h),?_⟩
    ·rintro b o p (q | q)
     ·exact k3 b o q (.inl p)
     ·exact hap b o p (h3 b o q)
    ·rintro b o (q | q)
     ·exact .inl q
     ·exact .inr (.inr q)
  ·rw [bO] at h;have xR:off<T.size:=Nat.le_of_ble_eq_true bO;obtain ⟨v,H1,G1,h1,h2,h3,h4,a7,bh⟩:=ad.lens T off t bE h;refine⟨v,H1,G1.or nU,?_,fun b o x=>ha b o (h2 b o x),?_,h4,?_,fun ch bQ X y k1 k2 k3 bz hs=>?_⟩
   ·rw [List.getElem?_append_left (by omega)];exact h1
   ·rintro b o (y | y)
    ·exact ha b o (h3 b o y)
    ·exact hb b o y
   ·rintro b o y (q | q)
    ·exact a7 b o y q
    ·exact hap b o (h2 b o y) q
   ·simp only [aA.setAt,bO,cond_true] at hs;obtain ⟨hH,hz,hs⟩:=bd hs;obtain rfl:=aW hs;simp only [aA.own,aA.au,c3.af,c3.dC];refine⟨nE,jr,X.or G1,nU,rfl,bh ch bQ X y (k1.mono fun _ _ h=>.inl h) k2 (fun b o p q=>k3 b o p (.inl q)) hH hz,TK ak (k1.mono fun _ _ h=>.inr h) cp,?_,?_,fun _ _ h=>.inr (.inr h)⟩
    ·rintro b o (p | p) q
     ·exact k3 b o p (.inr q)
     ·exact hap b o (h3 b o p) q
    ·rintro b o (q | q)
     ·exact .inl q
     ·exact .inr (.inl q)
end
theorem nB.lens{T:ad}{ys:List T.D}{a:Addr}{c:Nat}{F:ag}{i off:Nat}{t:ad}{z:List t.D}(h:nB w (T.au w Z T.own) T.size ys a c F)(hi:i<ys.length)(aC:T.getAt off t (I T ys i)=some z) :
  ∃v H1,w.cell? (at_ a.block (a.off+i*T.size+off))=some v∧(ad.sl t).au w Z (.O t.own) z [v] H1∧ag.sub H1 F ∧
   ∀(ch:World) (bQ X:ag) (y:List t.D) (bz:T.D),cf w ch (ag.diff F H1)→(ad.sl t).au ch bQ (.O t.own) y [v] X→ag.apart X (ag.diff F H1)→T.setAt off t y (I T ys i)=some bz →
    nB ch (T.au ch bQ T.own) T.size (ys.set i bz) a c (X.or (ag.diff F H1)):=by
 rw [c2 hi] at aC ⊢;obtain ⟨G,g1,g2,g3⟩:=h.row;obtain ⟨nT,jq,nU,vs,bE,Lf,hvl,cC,cp,a1,a2,a3,s1,s2,s3⟩:=g1.DA i hi;obtain ⟨v,H1,G1,hv,k1,k2,k3,bs,bp⟩:=ad.lens T off t Lf aC;have z':ag.sub H1 G:=fun b o x=>s2 b o (k1 b o x)
 have hle:ys.length*T.size≤c*T.size:=Nat.mul_le_mul_right _ h.cap;have mL:(i+1)*T.size≤ys.length*T.size:=Nat.mul_le_mul_right _ hi;rw [Nat.add_one_mul] at mL;refine⟨v,H1,?_,k3,fun b o x=>g3 b o (z' b o x),fun ch bQ X y bz hs hr hap Lg=>?_⟩
 ·have:=cC off v hv;exact this
 have uT:∀ {A:ag},ag.sub A G→ag.apart A H1→ag.sub A (ag.diff F H1):=fun hA aw b o x=>⟨g3 b o (hA b o x),fun y=>aw b o x y⟩
 have uU:ag.sub nT (ag.diff F H1):=uT s1 fun b o x y=>a1 b o x (k1 b o y)
 have uV:ag.sub nU (ag.diff F H1):=uT s3 fun b o x y=>a3 b o (k1 b o y) x
 have d1:ag.sub G1 (ag.diff F H1):=uT (fun b o x=>s2 b o (k2 b o x)) fun b o x y=>bs b o y x
 have pZ:∀j,j<c*T.size→ag.diff F H1 a.block (a.off+j):=fun j hj=>⟨h.inF j hj,fun y=>g2 j hj (z' _ _ y)⟩
 have hcell:∀j,j<c*T.size→ch.cell? (at_ a.block (a.off+j))=w.cell? (at_ a.block (a.off+j)):=fun j hj=>(hs _ _ (pZ j hj)).1
 have fF:=bp ch bQ X y (hs.mono d1) hr (fun b o p q=>hap b o p (d1 b o q)) bz Lg;refine⟨h.spot,by simpa using h.cap,fun j hj=>hs.kL (pZ j hj) (h.wr j hj),fun j hj=>.inr (pZ j hj),nT.or ((X.or G1).or nU),?_,?_,?_⟩
 ·refine Row.DB i hi (bE.imp (fun y us dv hG hr=>ra T (hs.mono fun b o p=>uU b o (hG b o p)) hr) fun j hj=>hcell j ?_) fF hvl (cC.of_eq fun j hj=>?_) (cp.imp (fun y us dv hG hr=>ra T (hs.mono fun b o p=>uV b o (hG b o p)) hr) fun j hj=>?_) ?_ a2 ?_
  ·simp only [List.length_take] at hj;have:min i ys.length*T.size≤ys.length*T.size:=Nat.mul_le_mul_right _ (Nat.min_le_right _ _);omega
  ·have:=hcell (i*T.size+j) (by omega);rwa [← Nat.add_assoc] at this
  ·simp only [List.length_drop] at hj;have e1:(ys.length-(i+1))*T.size=ys.length*T.size-(i*T.size+T.size):=by rw [Nat.sub_mul,Nat.add_one_mul]
   rw [e1] at hj;have:=hcell ((i+1)*T.size+j) (by rw [Nat.add_one_mul];omega);rwa [← Nat.add_assoc] at this
  ·rintro b o p (q | q)
   ·exact hap b o q (uU b o p)
   ·exact a1 b o p (k2 b o q)
  ·rintro b o (p | p) q
   ·exact hap b o p (uV b o q)
   ·exact a3 b o (k2 b o p) q
 ·rintro j hj (p | (p | p) | p)
  ·exact g2 j hj (s1 _ _ p)
  ·exact hap _ _ p (pZ j hj)
  ·exact g2 j hj (s2 _ _ (k2 _ _ p))
  ·exact g2 j hj (s3 _ _ p)
 ·rintro b o (p | (p | p) | p)
  ·exact .inr (uU b o p)
  ·exact .inl p
  ·exact .inr (d1 b o p)
  ·exact .inr (uV b o p)
end
end Go.LM
