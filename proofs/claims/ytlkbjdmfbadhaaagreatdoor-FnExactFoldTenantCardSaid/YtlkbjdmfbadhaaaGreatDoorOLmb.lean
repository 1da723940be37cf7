/- Each operation of the model is what the interpreter says. Conditions: each theorem's own hypotheses. -/
import Derived.Test.YtlkbjdmfbadhaaaGreatDoorOLma
import Derived.Laws.BytesString
import Derived.Laws.Tables
import Derived.Laws.Append
set_option linter.unusedVariables false
set_option linter.unusedSimpArgs false
namespace Go.LM
section
variable{P:Program}{Q:Exit→Act→World→Prop}
variable{w0:World}{F0 Z0:ah}{n:cN}{s au:az}{a b8:Act}{w w':World}{ι bp:Nat→bI}{Z Z':ah}
def c6(w0:World)(F0 Z0:ah)(n:cN)(s:az)(a:Act)(w:World):Prop:=∃ ι Z,Inv w0 F0 Z0 n s a w ι Z
theorem afX(v:Value):aV w Z s ι (Lv v) v:=by
 unfold Lv;split<;>simp only[aV,cz]
 exact⟨_,rfl,rfl⟩
theorem fk(h:Inv w0 F0 Z0 n s a w ι Z)(x:Operand):aV w Z s ι (bZ s x) (a.eval x):=by
 cases x with
 |tmp t=>exact h.tmps t
 |const v=>exact afX v
 |func f=>simp only[bZ,Act.eval,aV];exact⟨[],[],rfl,by simp only[a8],by simp only[a8]⟩
 |global g=>simp only[bZ,aV]
theorem L_{E:Env}{t:Nat}{x y:a_}{v:Value}(h:typed E t x=some y)(hv:aV w Z s ι x v):aV w Z s ι y v:=by
 cases x<;>simp only[typed]at h<;>try (obtain rfl:=aX h;exact hv)
 ·simp at h
 ·simp at h
 ·cases ht:E.ty t with
  |none=>rw[ht]at h;simp at h
  |some T=>
   rw[ht]at h;cases T<;>simp at h
   subst h;simp only[aV]at hv⊢;exact hv
theorem gw{α:Type}{o4:Sem α}{f:α→Next}{v:α}(h:o4.run P w=.ok v w'):(do pure (f (←o4)):Sem Next).run P w=.ok (f v) w':=by rw[run_bind,h];rfl
theorem m3{o:Oper}{v:Value}{x:a_}{s1:az}(hr:(execOp a.eval o).run P w=.ok (.value v) w')(h:Inv w0 F0 Z0 n s1 a w' ι Z)(hv:aV w' Z s1 ι x v)
  (af:∀k,o.dst=some k→k<n):o.wp P a w (fun b8 w'=>c6 w0 F0 Z0 n (s1.dst o.dst x) b8 w') Q:=by
 unfold Oper.wp;rw[hr,Oper.upon_value];exact⟨ι,Z,h.dst hv af⟩
theorem wp_skip{o:Oper}{s1:az}(hr:(execOp a.eval o).run P w=.ok .skip w')(h:Inv w0 F0 Z0 n s1 a w' ι Z)
  (af:∀k,o.dst=some k→k<n):o.wp P a w (fun b8 w'=>c6 w0 F0 Z0 n (s1.dst o.dst .bB) b8 w') Q:=by
 unfold Oper.wp;rw[hr,Oper.upon_skip];exact⟨ι,Z,h.dst (by simp only[aV]) af⟩
def Pure(P:Program)(o:Oper)(a:Act)(w:World)(R:Act→World→Prop):Prop:=∃v,(∀w',(execOp a.eval o).run P w'=.ok (.value v) w')∧R (a.put o.dst v) w
theorem Pure.wp{o:Oper}{R:Act→World→Prop}(h:Pure P o a w R):o.wp P a w R Q:=by obtain⟨v,h1,h2⟩:=h;unfold Oper.wp;rw[h1 w,Oper.upon_value];exact h2
theorem dM{o:Oper}{v:Value}{x:a_}{s1:az}(hr:∀w',(execOp a.eval o).run P w'=.ok (.value v) w')(h:Inv w0 F0 Z0 n s1 a w ι Z)(hv:aV w Z s1 ι x v)
  (af:∀k,o.dst=some k→k<n):Pure P o a w (c6 w0 F0 Z0 n (s1.dst o.dst x)):=
 ⟨v,hr,ι,Z,h.dst hv af⟩
structure hL(P:Program)(E:Env):Prop where
 ty:∀id T,E.ty id=some T→T.ok P id
 ptr:∀id,E.vl id=true→∃e,P.underlying id=some (.pointer e)
variable{E:Env}{o:Oper}{bC:Type}{K:az→Option bC}{r:bC}{id:Nat}
theorem Ei{x:Operand}(h:Inv w0 F0 Z0 n s a w ι Z)(af:∀k,o.dst=some k→k<n)(ho:o.op=.move x∨o.op=.assign x)(hk:c0 E id o s K=some r):
  ∃au,K au=some r∧Pure P o a w (c6 w0 F0 Z0 n au):=by
 have dy:(match typed E o.type (bZ s x)with|some v=>K (s.dst o.dst v)|none=>none)=some r:=by rcases ho with ho|ho<;>(unfold c0 at hk;rw[ho]at hk;exact hk)
 cases ht:typed E o.type (bZ s x)with
 |none=>rw[ht]at dy;simp at dy
 |some v=>rw[ht]at dy;refine⟨_,dy,dM (v:=a.eval x) (fun w'=>?_) h (L_ ht (fk h x)) af⟩;rcases ho with ho|ho<;>(unfold execOp;rw[ho];rfl)
theorem UE{c x y:Operand}(h:Inv w0 F0 Z0 n s a w ι Z)(af:∀k,o.dst=some k→k<n)(ho:o.op=.pick c x y)(hk:c0 E id o s K=some r):
  ∃au,K au=some r∧Pure P o a w (c6 w0 F0 Z0 n au):=by
 unfold c0 at hk;rw[ho]at hk;simp only at hk;have hc:=fk h c;have hx:=fk h x;have aR:=fk h y;have hrun:∀t,a.eval c=.bool t→∀w',(execOp a.eval o).run P w'=.ok (.value (if t then a.eval x else a.eval y)) w':=by intro t ht w';unfold execOp;rw[ho];simp only[run_bind,asBool,ht,run_pure]
 cases hcv:bZ s c with
 |aU kI=>
  rw[hcv]at hk hc
  cases kI with
  |bool t=>
   simp only[aV,cz]at hc;have hr:=hrun t hc
   cases t with
   |true=>
    cases cS:typed E o.type (bZ s x)with
    |none=>rw[cS]at hk;cases gO:typed E o.type (bZ s y)<;>rw[gO]at hk<;>simp at hk
    |some v=>
     rw[cS]at hk;have:K (s.dst o.dst v)=some r:=by cases gO:typed E o.type (bZ s y)<;>rw[gO]at hk<;>exact hk
     exact⟨_,this,dM hr h (L_ cS hx) af⟩
   |false=>
    cases gO:typed E o.type (bZ s y)with
    |none=>rw[gO]at hk;cases cS:typed E o.type (bZ s x)<;>rw[cS]at hk<;>simp at hk
    |some v=>
     rw[gO]at hk;have:K (s.dst o.dst v)=some r:=by cases cS:typed E o.type (bZ s x)<;>rw[cS]at hk<;>exact hk
     exact⟨_,this,dM hr h (L_ gO aR) af⟩
  |_=>simp at hk
 |_=>rw[hcv]at hk;simp at hk
theorem rz{i:Nat}{eV:cD}(h:mkObj s i eV=some au):s.o i=.none∧au=s.bV i eV:=by
 unfold mkObj at h;cases ho:s.o i<;>rw[ho]at h<;>simp at h
 exact⟨rfl,h.symm⟩
theorem afY{t:Nat}(b5:hL P E)(h:Inv w0 F0 Z0 n s a w ι Z)(af:∀k,o.dst=some k→k<n)(ho:o.op=.alloc t)(hk:c0 E id o s K=some r):
  ∃au,K au=some r∧o.wp P a w (c6 w0 F0 Z0 n au) Q:=by
 unfold c0 at hk;rw[ho]at hk;simp only at hk
 cases ht:E.ty t with
 |none=>rw[ht]at hk;simp at hk
 |some T=>
  rw[ht]at hk;simp only at hk
  cases hm:mkObj s id (.var 0 T.j1)with
  |none=>rw[hm]at hk;simp at hk
  |some s1=>
   rw[hm]at hk;obtain⟨cm,rfl⟩:=rz hm;have cp:=b5.ty t T ht;have hz:bO w Z s ι T.j1 (dW T T.cU).cells.toList:=by rw[L9 (ad.mn T) ((tu (w:=w) (Z:=Z) (s:=s) (ι :=ι) T).eC)];exact tu T
   have hn:=h.newVar cm hz t;refine⟨_,hk,m3 (v:=.pointer (some (at_ w.heap.size 0))) (w':={ w with heap:=w.heap.push (.cells (dW T T.cU).cells t) }) ?_ hn ?_ af⟩
   ·unfold execOp;rw[ho];refine gw ?_;simp only[Instr.alloc,run_bind,Eh cp,UD,run_pure]
   ·simp only[aV];refine⟨by show bW s.o id _ id≠_;rw[cM];simp,_,rfl,rfl,?_⟩;show match (bW s.o id _ id).core with|.var _ _=>_|.row .. => _|_=>_
    rw[cM];exact⟨rfl,_,by rw[cM],by simp[at_]⟩
theorem afZ{t:Nat}{x:Operand}(b5:hL P E)(h:Inv w0 F0 Z0 n s a w ι Z)(af:∀k,o.dst=some k→k<n)(ho:o.op=.box t x)(hk:c0 E id o s K=some r):
  ∃au,K au=some r∧o.wp P a w (c6 w0 F0 Z0 n au) Q:=by
 unfold c0 at hk;rw[ho]at hk;simp only at hk
 cases ht:E.ty t with
 |none=>rw[ht]at hk;simp at hk
 |some T=>
  rw[ht]at hk;simp only at hk
  cases hc:jo T (bZ s x)with
  |none=>rw[hc]at hk;simp at hk
  |some cs=>
   rw[hc]at hk;simp only at hk;cases hb:Nat.beq cs.length T.size
   ·rw[hb]at hk;simp at hk
   rw[hb]at hk;simp only[cond_true]at hk
   cases hm:mkObj s id (.var 0 cs)with
   |none=>rw[hm]at hk;simp at hk
   |some s1=>
    rw[hm]at hk;obtain⟨cm,rfl⟩:=rz hm;have hn:=h.newVar cm (tt hc (fk h x)) t;refine⟨_,hk,m3 (v:=.pointer (some (at_ w.heap.size 0))) (w':={ w with heap:=w.heap.push (.cells (a.eval x).cells t) }) ?_ hn ?_ af⟩
    ·unfold execOp;rw[ho];refine gw ?_;simp only[Instr.box,run_bind,UD,run_pure]
    ·simp only[aV];refine⟨by show bW s.o id _ id≠_;rw[cM];simp,_,rfl,rfl,?_⟩;show match (bW s.o id _ id).core with|.var _ _=>_|.row .. => _|_=>_
     rw[cM];exact⟨rfl,_,by rw[cM],by simp[at_]⟩
theorem af0{t:Nat}{x:Operand}(b5:hL P E)(h:Inv w0 F0 Z0 n s a w ι Z)(af:∀k,o.dst=some k→k<n)(ho:o.op=.load t x)(hk:c0 E id o s K=some r):
  ∃au,K au=some r∧o.wp P a w (c6 w0 F0 Z0 n au) Q:=by
 unfold c0 at hk;rw[ho]at hk;simp only at hk;have hx:=fk h x
 have hrun:∀{T:ad}{b i:Nat}{vs:List Value},E.ty t=some T→a.eval x=.pointer (some (at_ b i))→cf w b i vs→vs.length=T.size →
   (execOp a.eval o).run P w=.ok (.value (dW T vs)) w:=by
  intro T b i vs ht he hc hl;unfold execOp;rw[ho];refine gw ?_;simp only[Instr.loadAt,Instr.sureAddr,he,run_bind,run_pure,L6 (b5.ty t T ht) hc hl]
 cases ht:E.ty t with
 |none=>rw[ht]at hk;simp at hk
 |some T=>
  rw[ht]at hk
  cases cS:bZ s x with
  |ptr p=>
   rw[cS]at hk hx;simp only at hk
   cases c_:(mX s T.size p).bind (kE T)with
   |none=>rw[c_]at hk;simp at hk
   |some v=>rw[c_]at hk;obtain⟨cs,h1,h2⟩:=bb c_;simp only[aV]at hx;obtain⟨_,A,he,av⟩:=hx;obtain⟨b,i,vs,rfl,hc,cE,hl⟩:=AN h h1 av;exact⟨_,hk,m3 (hrun ht he cE hl) h (qf h2 hc) af⟩
  |dA dp cs off=>
   rw[cS]at hk hx;simp only at hk
   cases c_:(takeN off T.size cs).bind (kE T)with
   |none=>rw[c_]at hk;simp at hk
   |some v=>
    rw[c_]at hk;simp only at hk;cases dN:alive s dp
    ·rw[dN]at hk;simp at hk
    rw[dN]at hk;obtain⟨ds,h1,h2⟩:=bb c_;obtain⟨h3,rfl⟩:=qc h1;simp only[aV]at hx;obtain⟨_,b,i,vs,he,hx⟩:=hx;obtain⟨hc,cE,_⟩:=hx dN;have hl:=hc.len;exact⟨_,hk,m3 (hrun ht he (cE.part off T.size) (by simp;omega)) h (qf h2 ((hc.drop _).take _)) af⟩
  |_=>rw[cS]at hk;simp at hk
theorem Inv.af1(h:Inv w0 F0 Z0 n s a w ι Z){id:Nat}(cn:(s.o id).live)(hx:Ext w w' (ι id).F):Inv w0 F0 Z0 n (s.bV id .dead) a w' ι Z:=by
 have hm:e5 w Z s ι w' Z (s.bV id .dead) ι :=by
  refine⟨fun j=>?_,fun _ _ h=>h,ch.jv hx h.tr ?_⟩
  ·show ju (s.o j) (ι j) (bW s.o id .dead j) (ι j);by_cases hj:id=j
   ·subst hj;rw[cM];exact .dead _ _ _
   ·rw[cX hj];exact .stay _ _
  ·rintro b o (hz|⟨ep,gC,rq,_,hf⟩) iY
   ·exact h.db id cn b o iY hz
   ·have hne:ep≠id:=by
     rintro rfl
     have:bW s.o ep .dead ep=s.o ep:=rq;rw[cM]at this;rw[←this]at cn;exact cn
    exact h.apart ep id gC cn hne b o hf iY
 have ts:∀{j},((s.bV id .dead).o j).live→id≠j∧(s.o j).live:=fun {j} hl=>by
  have hl:(bW s.o id .dead j).live:=hl;by_cases hj:id=j
  ·subst hj;rw[cM]at hl;exact hl.elim
  ·rw[cX hj]at hl;exact⟨hj,hl⟩
 refine h.next hm hx (fun b o hf=>(h.own id cn b o hf).1) (fun _ _ h=>.inl h) ?_ ?_ (fun k=>(h.tmps k).move hm) h.size h.defers
 ·intro j hl hne;exact absurd ⟨cX (ts hl).1,rfl⟩ hne
 ·intro j hl;exact h.db j (ts hl).2
theorem af2{t:Nat}{x y:Operand}(b5:hL P E)(h:Inv w0 F0 Z0 n s a w ι Z)(af:∀k,o.dst=some k→k<n)(ho:o.op=.store t x y)(hk:c0 E id o s K=some r):
  ∃au,K au=some r∧o.wp P a w (c6 w0 F0 Z0 n au) Q:=by
 unfold c0 at hk;rw[ho]at hk;simp only at hk;have hx:=fk h x;have aR:=fk h y
 cases ht:E.ty t with
 |none=>rw[ht]at hk;simp at hk
 |some T=>
  rw[ht]at hk
  cases cS:bZ s x with
  |ptr p=>
   rw[cS]at hk hx;simp only at hk
   cases hc:jo T (bZ s y)with
   |none=>
    rw[hc]at hk;simp only at hk;cases gO:bZ s y<;>rw[gO]at hk<;>try (simp at hk;done)
    rename_i u;cases b2:s.o p.id<;>rw[b2]at hk<;>try (simp at hk;done)
    rename_i ver old
    cases fl:p.fO with
    |some i=>rw[fl]at hk;simp at hk
    |none=>
     rw[fl]at hk;simp only at hk;cases hb:(ad.beq u T&&Nat.beq p.off 0&&Nat.ble T.size old.length)
     ·rw[hb]at hk;simp at hk
     rw[hb]at hk;simp only[cond_true]at hk;simp only[Bool.and_eq_true]at hb;obtain⟨⟨hb1,hb2⟩,hb3⟩:=hb;have:=ad.eq_of_beq _ _ hb1;subst this;have hb2:=Nat.eq_of_beq_eq_true hb2;have hb3:=Nat.le_of_ble_eq_true hb3;rw[gO]at aR;simp only[aV]at hx aR;obtain⟨_,A,he,av⟩:=hx;obtain⟨vy,hw1⟩:=aR;have cn:(s.o p.id).live:=by rw[b2];trivial
     have c9:=h.gp p.id;rw[b2]at c9;obtain⟨a0,us,dV,hsp,hcu,cE,hwr⟩:=c9;obtain⟨hs,av⟩:=av;rw[b2]at av;obtain⟨_,a1,UF,hA⟩:=av;rw[dV]at UF;obtain rfl:=aX UF;rw[hb2]at hA;subst hA;have hx2:Ext w (setCells w a0.block (a0.off+0) (a.eval y).cells.toList) (ι p.id).F:=oX _ _ _ _ fun i hi=>by have:=(hwr i (by rw[vy]at hi;omega)).2;simpa using this
     refine⟨_,hk,wp_skip (w':=setCells w a0.block (a0.off+0) (a.eval y).cells.toList) ?_ (h.af1 cn hx2) af⟩;unfold execOp;rw[ho];have:=L8 (P:=P) (w:=w) (b5.ty t _ ht) (b:=a0.block) (o:=a0.off+0) (v:=a.eval y) (by rw[←Array.length_toList,vy]) hw1 (fun j hj=>by have:=(hwr j (by rw[←Array.length_toList,vy]at hj;omega)).1;simpa using this);simp only[Instr.storeAt,Instr.sureAddr,he,run_bind,run_pure,this]
   |some cs=>
    rw[hc]at hk;simp only at hk;cases hb:Nat.beq cs.length T.size
    ·rw[hb]at hk;simp at hk
    rw[hb]at hk;simp only[cond_true]at hk
    cases m4:D9 s p cs with
    |none=>rw[m4]at hk;simp at hk
    |some s1=>rw[m4]at hk;have hb:=Nat.eq_of_beq_eq_true hb;have qg:=tt hc aR;simp only[aV]at hx;obtain⟨_,A,he,av⟩:=hx;obtain⟨b,i,rfl,hw,bp,Z',hi⟩:=afR h m4 av qg;have hl:=qg.len;refine⟨_,hk,wp_skip (w':=setCells w b i (a.eval y).cells.toList) ?_ hi af⟩;unfold execOp;rw[ho];have:=L8 (P:=P) (w:=w) (b5.ty t T ht) (b:=b) (o:=i) (v:=a.eval y) (by simp at hl;omega) qg.eC (fun j hj=>hw j (by simpa using hj));simp only[Instr.storeAt,Instr.sureAddr,he,run_bind,run_pure,this]
  |_=>rw[cS]at hk;simp at hk
end
end Go.LM
namespace Go.LM
section
variable{P:Program}{Q:Exit→Act→World→Prop}
variable{w0:World}{F0 Z0:ah}{n:cN}{s au:az}{a b8:Act}{w w':World}{ι bp:Nat→bI}{Z Z':ah}
variable{E:Env}{o:Oper}{bC:Type}{K:az→Option bC}{r:bC}{id:Nat}
theorem AO{m:Nat}{i:Int}{k:Nat}(h:ix m i=some k):0≤i∧i<(m:Int)∧k=i.toNat∧k<m:=by
 unfold ix at h;split at h
 ·rename_i hc;have:=aX h;exact⟨hc.1,hc.2,this.symm,by omega⟩
 ·simp at h
theorem af3{m:Nat}{lo hi:Int}{q:Nat×Nat}(h:dj m lo hi=some q):0≤lo∧lo≤hi∧hi≤(m:Int)∧q=(lo.toNat,hi.toNat):=by
 unfold dj at h;split at h
 ·rename_i hc;exact⟨hc.1,hc.2.1,hc.2.2,(aX h).symm⟩
 ·simp at h
theorem tv{x:a_}{i:Int}{v:Value}(h:lg x=some i)(hv:aV w Z s ι x v):∃k,v=.int k i:=by
 cases x with
 |aU c=>
  cases c<;>simp[lg]at h
  subst h;simp only[aV,cz]at hv;exact⟨_,hv⟩
 |_=>simp[lg]at h
theorem UG{x:Operand}(h:Inv w0 F0 Z0 n s a w ι Z)(af:∀k,o.dst=some k→k<n)(ho:o.op=.nilCheck x)(hk:c0 E id o s K=some r):
  ∃au,K au=some r∧Pure P o a w (c6 w0 F0 Z0 n au):=by
 unfold c0 at hk;rw[ho]at hk;simp only at hk;have hx:=fk h x
 cases cS:bZ s x with
 |ptr p=>rw[cS]at hk hx;refine⟨_,hk,dM (v:=a.eval x) (fun w'=>?_) h hx af⟩;simp only[aV]at hx;obtain⟨_,A,he,_⟩:=hx;unfold execOp;rw[ho];simp only[he];rfl
 |dA dp cs off=>rw[cS]at hk hx;refine⟨_,hk,dM (v:=a.eval x) (fun w'=>?_) h hx af⟩;simp only[aV]at hx;obtain⟨_,b,i,vs,he,_⟩:=hx;unfold execOp;rw[ho];simp only[he];rfl
 |may b dp cs=>
  rw[cS]at hk hx;cases b
  ·cases hk
  refine⟨_,hk,dM (v:=a.eval x) (fun w'=>?_) h ?_ af⟩
  ·simp only[aV]at hx;rcases hx with⟨hx,_⟩|⟨_,_,b,i,vs,he,_⟩
   ·cases hx
   unfold execOp;rw[ho];simp only[he];rfl
  ·simp only[aV]at hx⊢;rcases hx with⟨hx,_⟩|⟨_,hx⟩
   ·cases hx
   ·exact hx
 |fn f l m=>rw[cS]at hk hx;refine⟨_,hk,dM (v:=a.eval x) (fun w'=>?_) h hx af⟩;simp only[aV]at hx;obtain⟨us,vs,he,_⟩:=hx;unfold execOp;rw[ho];simp only[he];rfl
 |opt i q=>
  rw[cS]at hk hx;simp only at hk;obtain⟨k,h1,hk⟩:=bb hk;obtain⟨h2,h3,rfl,h4⟩:=AO h1;simp only[aV]at hx;obtain⟨kJ,hx⟩:=hx;rcases hx with⟨hx,_⟩|⟨_,A,he,av⟩
  ·omega
  refine⟨_,hk,dM (v:=a.eval x) (fun w'=>?_) h ?_ af⟩
  ·unfold execOp;rw[ho];simp only[he];rfl
  ·simp only[aV];exact⟨kJ,A,he,av⟩
 |_=>rw[cS]at hk;simp at hk
theorem aA.Ej{P:Program}:∀{ak:aA}{cF:List Field}{base i k:Nat}{u:ad},ak.okF P cF base→ak.off i=some (k,u) →
  ∃f,cF[i]?=some f∧f.offset=base+k∧u.ok P f.type
 |.nil,_,_,_,_,_,_,h=>by simp[aA.off]at h
 |.cons t ak,cF,base,0,k,u,ho,h=>by simp only[aA.okF]at ho;obtain⟨f,mm,rfl,h1,h2,h3⟩:=ho;simp only[aA.off,Option.some.injEq,Prod.mk.injEq]at h;obtain⟨rfl,rfl⟩:=h;exact⟨f,rfl,by simpa using h1,h2⟩
 |.cons t ak,cF,base,i+1,k,u,ho,h=>by simp only[aA.okF]at ho;obtain⟨f,mm,rfl,h1,h2,h3⟩:=ho;simp only[aA.off]at h;obtain⟨q,h4,a6⟩:=bb h;simp only[Option.some.injEq,Prod.mk.injEq]at a6;obtain⟨rfl,rfl⟩:=a6;obtain⟨nX,k1,k2,k3⟩:=aA.Ej h3 h4;exact⟨nX,by simpa using k1,by omega,k3⟩
theorem L'{ak:aA}{id:TypeId}(h:(ad.st ak).ok P id):∃cF,P.underlying id=some (.struct cF)∧ak.okF P cF.toList 0:=by simp only[ad.ok]at h;exact h.2
theorem mo{t:ad}{id:TypeId}(h:(ad.sl t).ok P id):∃e,P.underlying id=some (.slice e)∧t.ok P e:=by simp only[ad.ok]at h;exact h.2
theorem UH{f:Field}{u:ad}{b i:Nat}(hu:u.ok P f.type)(hz:u.size≠0):(fieldPlace (at_ b i) f).run P w=.ok (at_ b (i+f.offset)) w:=by unfold fieldPlace;rw[run_bind,run_sizeOf hu];simp only;rw[if_neg hz,run_pure,rn]
theorem UI{t:Nat}{x:Operand}{i:Nat}(b5:hL P E)(h:Inv w0 F0 Z0 n s a w ι Z)(af:∀k,o.dst=some k→k<n)(ho:o.op=.fieldAddr t x i)(hk:c0 E id o s K=some r):
  ∃au,K au=some r∧Pure P o a w (c6 w0 F0 Z0 n au):=by
 unfold c0 at hk;rw[ho]at hk;simp only at hk;have hx:=fk h x
 cases ht:E.ty t with
 |none=>rw[ht]at hk;simp at hk
 |some T=>
  rw[ht]at hk
  cases T with
  |st ak=>
   obtain⟨cF,hu,lM⟩:=L' (b5.ty t _ ht)
   have hrun:∀{k:Nat}{u:ad}{b j:Nat},ak.off i=some (k,u)→u.size≠0→a.eval x=.pointer (some (at_ b j))→∀{w':World},
     (execOp a.eval o).run P w'=.ok (.value (.pointer (some (at_ b (j+k))))) w':=by
    intro k u b j fW hz he w';obtain⟨f,h1,h2,h3⟩:=aA.Ej lM fW;rw[Array.getElem?_toList]at h1;unfold execOp;rw[ho];refine gw ?_;simp only[Instr.fieldAt,run_bind,run_underlying hu,h1,Instr.sureAddr,he,run_pure,UH h3 hz,h2,Nat.zero_add]
   cases cS:bZ s x with
   |ptr p=>
    rw[cS]at hk hx;simp only at hk
    cases fW:ak.off i with
    |none=>rw[fW]at hk;simp at hk
    |some q=>
     obtain⟨k,u⟩:=q;rw[fW]at hk;simp only at hk;cases o6:Nat.beq u.size 0
     case true=>rw[o6]at hk;simp at hk
     rw[o6]at hk;simp only[aV]at hx;obtain⟨kJ,A,he,av⟩:=hx;obtain⟨b,j,sp⟩:=A;obtain⟨hsp,av⟩:=av;simp only at hsp;subst hsp;refine⟨_,hk,dM (fun w'=>hrun fW (fun e=>by rw[e]at o6;simp at o6) he) h ?_ af⟩;simp only[aV];refine⟨kJ,_,rfl,rfl,?_⟩
     cases b2:(s.o p.id).core with
     |var ver cs=>rw[b2]at av;obtain⟨h1,a0,h2,h3⟩:=av;simp only[at_,Addr.mk.injEq]at h3;exact⟨h1,a0,h2,by simp[at_,h3.1,h3.2.1];omega⟩
     |row cQ em ver xs=>rw[b2]at av;obtain⟨q,h1,h2,a0,h3,h4⟩:=av;simp only[at_,Addr.mk.injEq]at h4;exact⟨q,h1,h2,a0,h3,by simp[at_,h4.1,h4.2.1];omega⟩
     |_=>trivial
   |dA dp cs off=>
    rw[cS]at hk hx;simp only at hk
    cases fW:ak.off i with
    |none=>rw[fW]at hk;simp at hk
    |some q=>
     obtain⟨k,u⟩:=q;rw[fW]at hk;simp only at hk;cases o6:Nat.beq u.size 0
     case true=>rw[o6]at hk;simp at hk
     rw[o6]at hk;simp only[aV]at hx;obtain⟨n1,b,j,vs,he,hx⟩:=hx;refine⟨_,hk,dM (fun w'=>hrun fW (fun e=>by rw[e]at o6;simp at o6) he) h ?_ af⟩;simp only[aV];exact⟨n1,b,j,vs,by rw[Nat.add_assoc],hx⟩
   |_=>rw[cS]at hk;simp at hk
  |_=>simp at hk
theorem Ma{u:ad}{id:TypeId}{cs:List Value}{k:Nat}(hu:u.ok P id)(hk:k+u.size≤cs.length):(Go.part id cs.toArray k).run P w=.ok (dW u ((cs.drop k).take u.size)) w:=by
 unfold Go.part;rw[run_bind,UC hu];simp only;cases ha:u.agg
 ·have h1:=L3 ha;simp only[Bool.false_eq_true,if_false];rw[h1]at hk⊢;have bQ:k<cs.length:=by omega
  have:(cs.drop k).take 1=[cs[k]]:=by rw[List.drop_eq_getElem_cons bQ,List.take_succ_cons,List.take_zero]
  rw[this,L5 ha];simp[bQ,run_pure]
 ·simp only[if_true];rw[run_bind,run_sizeOf hu,L4 ha];simp only[run_pure];congr 2;apply Array.ext';simp[List.take_drop,Nat.add_comm]
theorem UJ{t:Nat}{x:Operand}{i:Nat}(b5:hL P E)(h:Inv w0 F0 Z0 n s a w ι Z)(af:∀k,o.dst=some k→k<n)(ho:o.op=.field t x i)(hk:c0 E id o s K=some r):
  ∃au,K au=some r∧Pure P o a w (c6 w0 F0 Z0 n au):=by
 unfold c0 at hk;rw[ho]at hk;simp only at hk;have hx:=fk h x
 cases ht:E.ty t with
 |none=>rw[ht]at hk;simp at hk
 |some T=>
  rw[ht]at hk
  cases T with
  |st ak=>
   obtain⟨cF,hu,lM⟩:=L' (b5.ty t _ ht)
   cases cS:bZ s x with
   |iV cs=>
    rw[cS]at hk hx;simp only at hk
    cases fW:ak.off i with
    |none=>rw[fW]at hk;simp at hk
    |some q=>
     obtain⟨k,u⟩:=q;rw[fW]at hk;simp only at hk
     cases hw:(takeN k u.size cs).bind (kE u)with
     |none=>rw[hw]at hk;simp at hk
     |some v=>rw[hw]at hk;obtain⟨ds,h1,h2⟩:=bb hw;obtain⟨h3,rfl⟩:=qc h1;simp only[aV]at hx;obtain⟨vs,he,hc⟩:=hx;obtain⟨f,f1,f2,f3⟩:=aA.Ej lM fW;rw[Array.getElem?_toList]at f1;have hl:=hc.len;refine⟨_,hk,dM (fun w'=>?_) h (qf h2 ((hc.drop k).take u.size)) af⟩;unfold execOp;rw[ho];refine gw ?_;simp only[Instr.field,run_bind,run_underlying hu,f1,he,asAgg,run_pure];have:=Ma (P:=P) (w:=w') f3 (cs:=vs) (k:=k) (by omega);rw[f2,Nat.zero_add];exact this
   |_=>rw[cS]at hk;simp at hk
  |_=>simp at hk
theorem UK{x:Operand}{i:Nat}(h:Inv w0 F0 Z0 n s a w ι Z)(af:∀k,o.dst=some k→k<n)(ho:o.op=.extract x i)(hk:c0 E id o s K=some r):
  ∃au,K au=some r∧Pure P o a w (c6 w0 F0 Z0 n au):=by
 unfold c0 at hk;rw[ho]at hk;simp only at hk;have hx:=fk h x
 cases cS:bZ s x with
 |p6 l=>
  rw[cS]at hk hx;simp only at hk
  cases hi:l[i]? with
  |none=>rw[hi]at hk;simp at hk
  |some v=>
   rw[hi]at hk;simp only[aV]at hx;obtain⟨vs,he,hl⟩:=hx
   have:∀(l:List a_) (vs:List Value) (i:Nat),a8 w Z s ι l vs→l[i]?=some v→∃u,vs[i]?=some u∧aV w Z s ι v u:=by
    intro l
    induction l with
    |nil=>intro vs i _ hi;simp at hi
    |cons y l ih=>
     intro vs i hl hi;simp only[a8]at hl;obtain⟨u,us,rfl,h1,h2⟩:=hl
     cases i with
     |zero=>simp at hi;subst hi;exact⟨u,rfl,h1⟩
     |succ i=>exact ih us i h2 (by simpa using hi)
   obtain⟨u,h1,h2⟩:=this l vs i hl hi;refine⟨_,hk,dM (v:=u) (fun w'=>?_) h h2 af⟩;unfold execOp;rw[ho];refine gw ?_;simp only[Instr.extract,he];simp[h1,run_pure]
 |_=>rw[cS]at hk;simp at hk
theorem Mb(h:Inv w0 F0 Z0 n s a w ι Z):∀(l:List Operand),a8 w Z s ι (l.map (bZ s)) (l.map a.eval)
 | []=>by simp only[List.map_nil,a8]
 |x::l=>by simp only[List.map_cons,a8];exact⟨_,_,rfl,fk h x,Mb h l⟩
theorem UL{f:FuncId}{first ma:Array Operand}(h:Inv w0 F0 Z0 n s a w ι Z)(af:∀k,o.dst=some k→k<n)(ho:o.op=.makeFunc (.func f) first ma)(hk:c0 E id o s K=some r):
  ∃au,K au=some r∧Pure P o a w (c6 w0 F0 Z0 n au):=by
 unfold c0 at hk;rw[ho]at hk;simp only at hk;refine⟨_,hk,dM (v:=.func (.func f) (first.map a.eval) (ma.map a.eval)) (fun w'=>?_) h ?_ af⟩
 ·unfold execOp;rw[ho];rfl
 ·simp only[aV];refine⟨first.toList.map a.eval,ma.toList.map a.eval,?_,Mb h _,Mb h _⟩;congr 1<;>(apply Array.ext';simp)
end
end Go.LM
namespace Go.LM
section
variable{P:Program}{Q:Exit→Act→World→Prop}
variable{w0:World}{F0 Z0:ah}{n:cN}{s au:az}{a b8:Act}{w w':World}{ι bp:Nat→bI}{Z Z':ah}
variable{E:Env}{o:Oper}{bC:Type}{K:az→Option bC}{r:bC}{id:Nat}
theorem Mc{k:IntKind}{i:Int}:(asIntOf (.int k i)).run P w=.ok (k,i) w:=rfl
theorem Md{t:TypeId}{u:ad}{e:TypeId}{A:Addr}{b o len c:Nat}{k:IntKind}{i:Int}(hu:P.underlying t=some (.slice e))(he:u.ok P e)
  (h0:0≤i) (h1:i<(len:Int)):(Instr.indexAt t (.slice (some (at_ b o)) len c) (.int k i)).run P w=.ok (.pointer (some (at_ b (o+i.toNat*u.size)))) w:=by
 unfold Instr.indexAt;simp only[run_bind,Mc,run_underlying hu,run_pure];rw[if_pos ⟨h0,h1⟩];simp only[run_bind,run_sizeOf he,run_pure,rn]
theorem beq_eq{u v:ad}(h:ad.beq u v=true):u=v:=ad.eq_of_beq _ _ h
theorem UM{t:Nat}{x i:Operand}(b5:hL P E)(h:Inv w0 F0 Z0 n s a w ι Z)(af:∀k,o.dst=some k→k<n)(ho:o.op=.indexAddr t x i)(hk:c0 E id o s K=some r):
  ∃au,K au=some r∧Pure P o a w (c6 w0 F0 Z0 n au):=by
 unfold c0 at hk;rw[ho]at hk;simp only at hk;have hx:=fk h x;have hi:=fk h i
 cases ht:E.ty t with
 |none=>rw[ht]at hk;simp at hk
 |some T=>
  cases T with
  |sl u=>
   obtain⟨e,hu,j3⟩:=mo (b5.ty t _ ht);rw[ht]at hk
   cases vz:lg (bZ s i)with
   |none=>rw[vz]at hk;cases bZ s x<;>simp at hk
   |some q=>
    rw[vz]at hk;obtain⟨dn,yt⟩:=tv vz hi
    cases cS:bZ s x with
    |aU c=>
     rw[cS]at hk hx;simp only[aV]at hx
     cases c with
     |af j sub=>
      simp only at hk;obtain⟨kJ,A,m,c,iI,hh⟩:=hx
      cases b2:s.o j with
      |row v em ver xs=>
       rw[b2]at hk;simp only at hk;cases hb:ad.beq u v
       ·rw[hb]at hk;simp at hk
       rw[hb]at hk;obtain rfl:=beq_eq hb;obtain⟨k,h1,hk⟩:=bb hk;obtain⟨h2,h3,rfl,h4⟩:=AO h1;obtain⟨g1,g2,g3,g4,g5⟩:=hh _ _ _ _ (mg b2)
       have hm:mb sub xs=m:=by
        cases sub with
        |none=>simp[mb,g1]
        |some p=>obtain⟨lo,l⟩:=p;simp[mb,g1]
       rw[hm]at h3 h4;rcases g5 with g5|⟨a0,gG,rfl⟩
       ·omega
       refine⟨_,hk,dM (v:=.pointer (some (at_ a0.block (a0.off+eH sub*u.size+q.toNat*u.size)))) (fun w'=>?_) h ?_ af⟩
       ·unfold execOp;rw[ho];refine gw ?_;simp only[iI,yt];exact Md (A:=a0) hu j3 h2 h3
       ·simp only[aV];refine⟨kJ,_,rfl,rfl,?_⟩;simp only;rw[b2];exact⟨_,rfl,by omega,a0,gG,by simp[at_,Nat.add_mul];omega⟩
      |_=>rw[b2]at hk;simp at hk
     |bG v dp cJ xs=>
      simp only at hk;cases hb:(alive s dp&&ad.beq u v)
      ·rw[hb]at hk;simp at hk
      rw[hb]at hk;simp only[Bool.and_eq_true]at hb;obtain⟨dN,hb⟩:=hb;obtain rfl:=beq_eq hb;obtain⟨k,h1,hk⟩:=bb hk;obtain⟨h2,h3,rfl,h4⟩:=AO h1;obtain⟨n1,⟨A,m,c,iI⟩,cT,_⟩:=hx;have hr:=cT dN;simp only[ad.ar]at hr;obtain⟨n2,c',hv,hr⟩:=hr;rw[iI]at hv;simp only[List.cons.injEq,Value.slice.injEq,and_true]at hv;obtain⟨rfl,rfl,rfl⟩:=hv;rcases hr with hr|⟨a0,rfl,hsp,hrow,hz,Me⟩
      ·rw[hr]at h4;simp at h4
      obtain⟨vs,G,k1,k2,k3,bn⟩:=hrow.get q.toNat h4;obtain⟨cV,ed,sp⟩:=a0;simp only at hsp;subst hsp;refine⟨_,hk,dM (v:=.pointer (some (at_ cV (ed+q.toNat*u.size)))) (fun w'=>?_) h ?_ af⟩
      ·unfold execOp;rw[ho];refine gw ?_;simp only[iI,yt];exact Md (A:=at_ cV ed) hu j3 h2 h3
      ·simp only[aV];refine⟨n1,cV,ed+q.toNat*u.size,vs,rfl,fun _=>⟨?_,k3,fun j hj=>?_⟩⟩
       ·rw[c3 h4];exact ad.rr u dp none n1 (fun _=>k1) ⟨_,_,_,k1⟩ .none
       ·have hcl:(u.cells dp none (I u xs q.toNat)).length=u.size:=by
         rw[c3 h4,←k2];exact((ad.rr (s:=s) (w:=w) (Z:=Z) (ι :=ι) u dp none n1 (fun _=>k1) ⟨_,_,_,k1⟩ .none).len).symm
        rw[hcl]at hj
        have:=hz (q.toNat*u.size+j) (by
         have:(q.toNat+1)*u.size≤xs.length*u.size:=Nat.mul_le_mul_right _ h4
         rw[Nat.add_one_mul]at this;omega)
        rwa[←Nat.add_assoc]at this
     |_=>simp at hk
    |_=>rw[cS]at hk;simp at hk
  |_=>rw[ht]at hk;simp at hk
theorem UN{t:Nat}{x i:Operand}(b5:hL P E)(h:Inv w0 F0 Z0 n s a w ι Z)(af:∀k,o.dst=some k→k<n)(ho:o.op=.index t x i)(hk:c0 E id o s K=some r):
  ∃au,K au=some r∧Pure P o a w (c6 w0 F0 Z0 n au):=by
 unfold c0 at hk;rw[ho]at hk;simp only at hk;have hx:=fk h x;have hi:=fk h i
 cases ht:E.ty t with
 |none=>rw[ht]at hk;simp at hk
 |some T=>
  cases T with
  |str=>
   have hu:P.underlying t=some .string:=by have:=b5.ty t _ ht;simp only[ad.ok]at this;exact this.1
   rw[ht]at hk
   cases vz:lg (bZ s i)with
   |none=>rw[vz]at hk;cases cS:bZ s x with
    |aU c=>rw[cS]at hk;cases c<;>simp at hk
    |_=>rw[cS]at hk;simp at hk
   |some q=>
    rw[vz]at hk;obtain⟨dn,yt⟩:=tv vz hi
    cases cS:bZ s x with
    |aU c=>
     rw[cS]at hk hx;simp only[aV]at hx
     cases c with
     |str b=>
      simp only at hk;obtain⟨k,h1,hk⟩:=bb hk;obtain⟨h2,h3,rfl,h4⟩:=AO h1;obtain⟨bu,iI,rfl⟩:=hx;refine⟨_,hk,dM (v:=.int .u8 ((bu.data.toList.getD q.toNat 0).toNat:Int)) (fun w'=>?_) h (by simp only[aV,cz]) af⟩;unfold execOp;rw[ho];refine gw ?_;have hsz:q.toNat<bu.size:=by simpa using h4
      simp only[Instr.index,iI,yt,run_bind,Mc,run_underlying hu,if_pos h2];have aB:bu[q.toNat]?=some bu[q.toNat]:=by simp[hsz]
      rw[aB];simp only[run_pure];congr 3;have:bu.data.toList.getD q.toNat 0=bu[q.toNat]:=by simp[List.getD_eq_getElem?_getD,hsz];rfl
      rw[this]
     |_=>simp at hk
    |_=>rw[cS]at hk;simp at hk
  |_=>rw[ht]at hk;simp at hk
end
end Go.LM
namespace Go.LM
section
variable{P:Program}{Q:Exit→Act→World→Prop}
variable{w0:World}{F0 Z0:ah}{n:cN}{s au:az}{a b8:Act}{w w':World}{ι bp:Nat→bI}{Z Z':ah}
variable{E:Env}{o:Oper}{bC:Type}{K:az→Option bC}{r:bC}{id:Nat}
theorem run_sliceBound{k:IntKind}{i:Int}{y:Nat}{code:BoundsCode}(h0:0≤i)(h1:i≤(y:Int)):(Instr.sliceBound (.int k i) y code).run P w=.ok i.toNat w:=by unfold Instr.sliceBound;simp only[run_bind,Mc];rw[if_pos ⟨h0,h1⟩];rfl
theorem Mf(h:Inv w0 F0 Z0 n s a w ι Z){x:Option Operand}{d i:Int}(hb:bound s x d=some i):
  (x=none∧i=d)∨∃y k,x=some y∧a.eval y=.int k i:=by
 cases x with
 |none=>simp[bound]at hb;exact .inl ⟨rfl,hb.symm⟩
 |some y=>obtain⟨k,hk⟩:=tv (x:=bZ s y) hb (fk h y);exact .inr ⟨y,k,rfl,hk⟩
theorem UO(h:Inv w0 F0 Z0 n s a w ι Z){af4:Bool}{len cap:Nat}{lo hi:Option Operand}{l q:Int}(hl:bound s lo 0=some l)(hq:bound s hi len=some q)
  (h0:0≤l) (h1:l≤q) (h2:q≤(len:Int)) (hc:len≤cap):
  (Instr.sliceBounds af4 len cap (lo.map a.eval) (hi.map a.eval) none).run P w'=.ok (l.toNat,q.toNat,cap) w':=by
 unfold Instr.sliceBounds;rcases Mf h hl with⟨rfl,rfl⟩|⟨y,k,rfl,aR⟩<;>rcases Mf h hq with⟨rfl,rfl⟩|⟨mZ,k',rfl,Ek⟩
 ·simp only[Option.map_none,run_bind,run_pure,Int.toNat_natCast];rfl
 ·simp only[Option.map_none,Option.map_some,run_bind,run_pure,Ek];rw[run_sliceBound (by omega) (by omega)];rfl
 ·simp only[Option.map_none,Option.map_some,run_bind,run_pure,aR,Int.toNat_natCast];simp only[Option.isSome_none,Bool.false_eq_true,if_false];rw[run_sliceBound h0 (by omega)]
 ·simp only[Option.map_some,run_bind,run_pure,aR,Ek];rw[run_sliceBound (by omega) (by omega)];simp only[Option.isSome_none,Bool.false_eq_true,if_false];rw[run_sliceBound h0 (by omega)]
theorem af5(h:Inv w0 F0 Z0 n s a w ι Z){len cap:Nat}{lo:Option Operand}{y m:Operand}{l q:Int}{k k':IntKind}(hl:bound s lo 0=some l)(aR:a.eval y=.int k q)(hm:a.eval m=.int k' q)
  (h0:0≤l) (h1:l≤q) (h2:q≤(cap:Int)):
  (Instr.sliceBounds true len cap (lo.map a.eval) (some (a.eval y)) (some (a.eval m))).run P w'=.ok (l.toNat,q.toNat,q.toNat) w':=by
 unfold Instr.sliceBounds;rcases Mf h hl with⟨rfl,rfl⟩|⟨z,auE,rfl,hz⟩
 ·simp only[Option.map_none,run_bind,run_pure,aR,hm,if_true];rw[run_sliceBound (by omega) h2];simp only;rw[run_sliceBound (by omega) (by omega)];rfl
 ·simp only[Option.map_some,run_bind,run_pure,aR,hm,hz,if_true];rw[run_sliceBound (by omega) h2];simp only;rw[run_sliceBound (by omega) (by omega)];simp only[Option.isSome_some,if_true];rw[run_sliceBound h0 (by omega)]
theorem extract_toList(b:ByteArray)(l h:Nat):(b.extract l h).data.toList=part b.data.toList l (h-l):=by unfold part;rw[ByteArray.data_extract,Array.toList_extract,List.extract_eq_take_drop]
theorem UP{T:ad}{c c':ba}{A:Option Addr}{m k:Nat}{l q:Nat}{fQ:Nat}{u:ad}(b5:T=.sl u)(hf:lJ s T c=true)(hlen:oY s c=some m)
  (jz:yd c l (q-l)=some c') (hc:cz w Z s ι c (.slice A m k)) (h1:l≤q) (h2:q≤m) (h3:q≤fQ) (h4:fQ≤k):
  cz w Z s ι c' (.slice (if fQ=l then A else A.map (·.add (l*u.size))) (q-l) (fQ-l)):=by
 subst b5
 cases c with
 |nil v=>
  obtain rfl:=aX jz;have hv:Value.slice A m k=.slice none 0 0:=hc;simp only[Value.slice.injEq]at hv;obtain⟨rfl,rfl,rfl⟩:=hv;have:l=0:=by omega
  have:fQ=0:=by omega
  have:q=0:=by omega
  subst_vars
  exact rfl
 |bG v dp cJ xs=>
  obtain rfl:=aX jz;simp only[lJ]at hf;have Mg:=beq_eq hf;injection Mg with Mg
  subst Mg;obtain⟨af,_,hr,_⟩:=hc;refine⟨af,⟨_,_,_,rfl⟩,fun ha=>?_,.none⟩;have:=hr ha;simp only[ad.ar]at this⊢;obtain⟨n2,UQ,hv,hx⟩:=this;simp only[List.cons.injEq,Value.slice.injEq,and_true]at hv;obtain⟨rfl,rfl,rfl⟩:=hv;have gx:(part xs l (q-l)).length=q-l:=by simp only[part,List.length_take,List.length_drop];omega
  refine⟨_,_,by rw[gx],?_⟩;by_cases af6:q-l=0
  ·left;exact List.eq_nil_of_length_eq_zero (by rw[gx,af6])
  ·right;rcases hx with rfl|⟨a0,rfl,hsp,hrow,hz,Me⟩
   ·simp at h2;omega
   obtain⟨cV,ed,sp⟩:=a0;simp only at hsp;subst hsp;refine⟨at_ cV (ed+l*u.size),?_,rfl,(hrow.drop l).take _,fun j hj=>?_,by rw[gx];omega⟩
   ·rw[if_neg (by omega)];exact congrArg some (rn _ _ _)
   ·rw[gx]at hj
    have:=hz (l*u.size+j) (by
     have a6:(l +(q-l))*u.size≤xs.length*u.size:=Nat.mul_le_mul_right _ (by omega)
     rw[Nat.add_mul]at a6;omega)
    rwa[←Nat.add_assoc]at this
 |af j sub=>
  obtain rfl:=aX jz;obtain⟨kJ,n2,m',k',hv,hh⟩:=hc;simp only[Value.slice.injEq]at hv;obtain⟨rfl,rfl,rfl⟩:=hv;refine⟨kJ,_,_,_,rfl,fun t em ver xs b2=>?_⟩;obtain⟨g1,g2,g3,g4,g5⟩:=hh t em ver xs b2
  have ht:t=u:=by
   simp only[lJ]at hf
   cases yi:s.o j with
   |row=>
    rw[yi]at hf b2;simp only[cD.core,cD.row.injEq]at b2;obtain⟨rfl,_⟩:=b2;have:=beq_eq hf;injection this with this
    exact this.symm
   |_=>rw[yi]at hf;simp at hf
  subst ht;have e1:eH (some (eH sub+l,q-l))=eH sub+l:=rfl;refine⟨rfl,by rw[e1];omega,by omega,by rw[e1];omega,?_⟩;by_cases af7:fQ=l
  ·left;omega
  ·right;rcases g5 with g5|⟨a0,hb,rfl⟩
   ·omega
   ·refine⟨a0,hb,?_⟩;rw[if_neg af7];simp only[Option.map_some,rn,e1,Nat.add_mul,Nat.add_assoc]
 |_=>simp[yd]at jz<;>(simp[lJ]at hf<;>simp[ad.beq]at hf)
theorem Mh{T:ad}{c:ba}{v:Value}{m:Nat}{u:ad}(b5:T=.sl u)(hf:lJ s T c=true)(hlen:oY s c=some m)(hc:cz w Z s ι c v):
  ∃A k,v=.slice A m k∧m≤k:=by
 subst b5
 cases c with
 |nil x=>simp only[oY,Option.some.injEq]at hlen;subst hlen;exact⟨none,0,hc,Nat.le_refl _⟩
 |bG x dp cJ xs=>
  simp only[oY]at hlen;cases ha:alive s dp
  ·rw[ha]at hlen;simp at hlen
  rw[ha]at hlen;simp only[cond_true,Option.some.injEq]at hlen;subst hlen;have:=hc.2.2.1 ha;simp only[ad.ar]at this;obtain⟨A,c,hv,hx⟩:=this;simp only[List.cons.injEq,and_true]at hv;refine⟨A,c,hv,?_⟩;rcases hx with rfl|⟨_,_,_,_,_,Me⟩
  ·simp
  ·exact Me
 |af j sub=>
  simp only[oY]at hlen
  cases ho:s.o j with
  |row t em ver xs=>
   rw[ho]at hlen;simp only[Option.some.injEq]at hlen;obtain⟨_,A,m',k,rfl,hh⟩:=hc;obtain⟨g1,g2,g3,g4,g5⟩:=hh _ _ _ _ (mg ho)
   have:m'=m:=by
    rw[←hlen,g1]
    cases sub with
    |none=>rfl
    |some p=>rfl
   subst this;exact⟨A,k,rfl,g3⟩
  |_=>rw[ho]at hlen;simp at hlen
 |_=>simp[lJ,ad.beq]at hf
theorem UR{t:Nat}{x:Operand}{lo hi fQ:Option Operand}(b5:hL P E)(h:Inv w0 F0 Z0 n s a w ι Z)(af:∀k,o.dst=some k→k<n)(ho:o.op=.slice t x lo hi fQ)(hk:c0 E id o s K=some r):
  ∃au,K au=some r∧Pure P o a w (c6 w0 F0 Z0 n au):=by
 unfold c0 at hk;rw[ho]at hk;simp only at hk;have hx:=fk h x
 cases ht:E.ty t with
 |none=>rw[ht]at hk;simp at hk
 |some T=>
  rw[ht]at hk;simp only[Uh]at hk
  cases cS:bZ s x with
  |aU c=>
   rw[cS]at hk hx;simp only at hk;simp only[aV]at hx;cases hf:lJ s T c
   ·rw[hf]at hk;simp at hk
   rw[hf]at hk;simp only[cond_true]at hk
   cases hlen:oY s c with
   |none=>rw[hlen]at hk;simp at hk
   |some m=>
    rw[hlen]at hk;simp only at hk
    cases hl:bound s lo 0 with
    |none=>rw[hl]at hk;simp at hk
    |some l=>
     cases hq:bound s hi (m:Int)with
     |none=>rw[hl,hq]at hk;simp at hk
     |some q=>
      rw[hl,hq]at hk;simp only at hk
      have main:(dj m l q).bind (fun r=>match yd c r.1 (r.2-r.1)with|some c'=>K (s.dst o.dst (.aU c'))|none=>none)=some r →
        ∃c',K (s.dst o.dst (.aU c'))=some r∧0≤l∧l≤q∧q≤(m:Int)∧yd c l.toNat (q.toNat-l.toNat)=some c':=by
       intro hk;obtain⟨p,h1,hk⟩:=bb hk;obtain⟨h2,h3,h4,rfl⟩:=af3 h1
       cases jz:yd c l.toNat (q.toNat-l.toNat)with
       |none=>simp only[jz]at hk;simp at hk
       |some c'=>simp only[jz]at hk;exact⟨c',hk,h2,h3,h4,rfl⟩
      cases fQ with
      |none=>
       obtain⟨c',hk,h2,h3,h4,jz⟩:=main hk;refine⟨_,hk,?_⟩;by_cases yu:T=.str
       ·subst yu;have hu:P.underlying t=some .string:=by have:=b5.ty t _ ht;simp only[ad.ok]at this;exact this.1
        cases c<;>simp only[lJ,ad.beq]at hf<;>try (simp at hf;done)
        ·rename_i b;obtain⟨bu,iI,rfl⟩:=hx;simp only[oY,Option.some.injEq]at hlen;obtain rfl:=aX jz;refine dM (v:=.string (bu.extract l.toNat q.toNat)) (fun w'=>?_) h ?_ af
         ·unfold execOp;rw[ho];refine gw ?_;have hsz:bu.size=m:=by rw[←hlen];simp
          simp only[Instr.sliceAt,Instr.slice,run_bind,run_underlying hu,iI,Option.map_none];simp only[Option.isSome_none,Bool.false_eq_true,if_false];rw[hsz,run_bind,UO h hl hq h2 h3 h4 (Nat.le_refl _)];rfl
         ·simp only[aV];exact⟨_,rfl,extract_toList _ _ _⟩
        ·cases kK:s.o _<;>rw[kK]at hf<;>simp[ad.beq]at hf
       ·cases T with
        |str=>exact absurd rfl yu
        |sl u=>
         obtain⟨e,hu,j3⟩:=mo (b5.ty t _ ht);have hv:=Mh rfl hf hlen hx;obtain⟨A,k,iI,n3⟩:=hv;rw[iI]at hx;refine dM (fun w'=>?_) h (x:=.aU c') (v:=.slice (if k=l.toNat then A else A.map (·.add (l.toNat*u.size))) (q.toNat-l.toNat) (k-l.toNat)) ?_ af
         ·unfold execOp;rw[ho];refine gw ?_;simp only[Instr.sliceAt,Instr.slice,run_bind,run_underlying hu,iI,Option.map_none];rw[UO h hl hq h2 h3 h4 n3];simp only[run_bind,run_sizeOf j3,run_pure]
         ·simp only[aV];exact UP rfl hf hlen jz hx (by omega) (by omega) (by omega) (Nat.le_refl _)
        |_=>cases c<;>simp only[lJ,ad.beq]at hf<;>first|(simp at hf;done)|(cases kK:s.o _<;>rw[kK]at hf<;>simp[ad.beq]at hf)
      |some US=>
       simp only at hk;cases yu:ad.beq T .str
       case true=>rw[yu]at hk;simp at hk
       rw[yu]at hk;simp only[cond_false]at hk
       cases m5:lg (bZ s US)with
       |none=>rw[m5]at hk;simp at hk
       |some af8=>
        rw[m5]at hk;simp only at hk
        cases hi with
        |none=>simp at hk
        |some y=>
         simp only[Option.isSome_some,cond_true,kj]at hk;cases AP:decide (q=af8)
         ·rw[AP]at hk;simp at hk
         rw[AP]at hk;have AP:=of_decide_eq_true AP;subst AP;obtain⟨c',hk,h2,h3,h4,jz⟩:=main hk;obtain⟨k1,aR⟩:=tv hq (fk h y);obtain⟨k2,tw⟩:=tv m5 (fk h US);refine⟨_,hk,?_⟩
         cases T with
         |str=>simp[ad.beq]at yu
         |sl u=>
          obtain⟨e,hu,j3⟩:=mo (b5.ty t _ ht);obtain⟨A,k,iI,n3⟩:=Mh rfl hf hlen hx;rw[iI]at hx;refine dM (fun w'=>?_) h (x:=.aU c') (v:=.slice (if q.toNat=l.toNat then A else A.map (·.add (l.toNat*u.size))) (q.toNat-l.toNat) (q.toNat-l.toNat)) ?_ af
          ·unfold execOp;rw[ho];refine gw ?_;simp only[Instr.sliceAt,Instr.slice,run_bind,run_underlying hu,iI,Option.map_some];rw[af5 h hl aR tw h2 h3 (by omega)];simp only[run_bind,run_sizeOf j3,run_pure]
          ·simp only[aV];exact UP rfl hf hlen jz hx (by omega) (by omega) (by omega) (by omega)
         |_=>cases c<;>simp only[lJ,ad.beq]at hf<;>first|(simp at hf;done)|(cases kK:s.o _<;>rw[kK]at hf<;>simp[ad.beq]at hf)
  |_=>rw[cS]at hk;simp at hk
end
end Go.LM
namespace Go.LM
section
variable{P:Program}{Q:Exit→Act→World→Prop}
variable{w0:World}{F0 Z0:ah}{n:cN}{s au:az}{a b8:Act}{w w':World}{ι bp:Nat→bI}{Z Z':ah}
variable{E:Env}{o:Oper}{bC:Type}{K:az→Option bC}{r:bC}{id:Nat}
theorem El{k k':IntKind}(h:Nat.beq (dD k) (dD k')=true):k=k':=vk (Nat.eq_of_beq_eq_true h)
theorem tx{α:Type}{b:Bool}{x:Option α}{y:α}(h:kj b x=some y):b=true∧x=some y:=by
 cases b
 ·simp[kj]at h
 ·exact⟨rfl,h⟩
theorem toList_data(z:ByteArray):z.toList=z.data.toList:=by
 unfold ByteArray.toList
 have key:∀(m i:Nat) (r:List UInt8),z.size-i=m→i≤z.size→ByteArray.toList.loop z i r=r.reverse++z.data.toList.drop i:=by
  intro m
  induction m with
  |zero=>intro i r h hi;unfold ByteArray.toList.loop;rw[if_neg (by omega),List.drop_of_length_le (by simp;show z.data.size≤i;have:z.data.size=z.size:=rfl;omega)];simp
  |succ m ih=>
   intro i r h hi;unfold ByteArray.toList.loop;rw[if_pos (by omega),ih (i+1) _ (by omega) (by omega)];have bQ:i<z.data.toList.length:=by simp;show i<z.data.size;have:z.data.size=z.size:=rfl;omega
   rw[List.drop_eq_getElem_cons bQ]
   have aB:z.get! i=z.data.toList[i]:=by
    simp[ByteArray.get!];have:i<z.data.size:=by simpa using bQ
    exact getElem!_pos z.data i this
   rw[aB];simp
 have:=key z.size 0 [] rfl (by omega);simpa using this
theorem UT(x y:ByteArray):(x.toList==y.toList)=bx x.data.toList y.data.toList:=by rw[toList_data,toList_data,Bool.eq_iff_iff];simp[bx]
theorem UU{x:Option a_}{K:a_→Option bC}(h:lift x K=some r):∃v,x=some v∧K v=some r:=by
 cases x with
 |none=>simp[lift]at h
 |some v=>exact⟨v,rfl,h⟩
theorem af9{op:BinOp}{k:IntKind}{x y:Int}{v:a_}{ty yty:TypeId}{xo yo:Operand}(h:D_ op k x y=some v)(h1:op≠.shl)(h2:op≠.shr)(h3:op≠.quo)(h4:op≠.rem):
  ∃u,(∀w:World,(binOp op ty (.int k x) (.int k y)).run P w=.ok u w)∧∀w Z s ι,aV w Z s ι v u:=by
 cases op<;>simp only[D_]at h<;>first|(simp at h;done)|(obtain rfl:=aX h)
 all_goals
  refine⟨_,fun w=>by simp only[binOp];rw[if_neg (by simp)];rfl,fun w Z s ι => ?_⟩;simp only[aV,cz]
  try rfl
theorem yv{op:BinOp}{ty:TypeId}{xo yo:Operand}{u v:Value}(h1:(∃k x,u=.int k x)∨(∃x,u=.string x)∨(∃x,u=.bool x)∨(∃x,u=.pointer x)):
  (eqGuard op ty xo yo u v).run P w=.ok () w:=by
 unfold eqGuard;rcases h1 with⟨k,x,rfl⟩|⟨x,rfl⟩|⟨x,rfl⟩|⟨x,rfl⟩<;>(cases op<;>rfl)
theorem j4{op:BinOp}{ty yty:TypeId}{xo yo:Operand}{u:Value}(ho:o.op=.binOp op ty xo yo yty)(aB:(eqGuard op ty xo yo (a.eval xo) (a.eval yo)).run P w=.ok () w)
  (hr:(binOp op ty (a.eval xo) (a.eval yo)).run P w=.ok u w):(execOp a.eval o).run P w=.ok (.value u) w:=by
 unfold execOp;rw[ho];refine gw ?_;rw[run_bind,aB];exact hr
theorem af_{op:BinOp}{x y:ByteArray}{v:a_}{ty:TypeId}(h:D' op x.data.toList y.data.toList=some v):
  ∃u,(∀w:World,(binOp op ty (.string x) (.string y)).run P w=.ok u w)∧∀w Z s ι,aV w Z s ι v u:=by
 cases op<;>simp only[D']at h<;>first|(simp at h;done)|(obtain rfl:=aX h)
 all_goals
  refine⟨_,fun w=>rfl,fun w Z s ι => ?_⟩;have:=UT x y;simp only[toList_data]at this;simp only[aV,cz,eo,toList_data,Value.bool.injEq,this]
theorem UW{op:UnOp}{t:Nat}{x:Operand}(h:Inv w0 F0 Z0 n s a w ι Z)(af:∀k,o.dst=some k→k<n)(ho:o.op=.unOp op t x)(hk:c0 E id o s K=some r):
  ∃au,K au=some r∧Pure P o a w (c6 w0 F0 Z0 n au):=by
 unfold c0 at hk;rw[ho]at hk;simp only at hk;have hx:=fk h x;have hrun:∀{u:Value}{w:World},(Op.unary op (a.eval x)).run P w=.ok u w→(execOp a.eval o).run P w=.ok (.value u) w:=by intro u w hu;unfold execOp;rw[ho];exact gw hu
 cases cS:bZ s x with
 |aU c=>
  rw[cS]at hk hx;simp only[aV]at hx;cases op<;>cases c<;>simp only[Lw]at hk<;>try (simp at hk;done)
  ·simp only[cz]at hx;exact⟨_,hk,dM (fun w'=>hrun (by rw[hx];rfl)) h (by simp only[aV,cz]) af⟩
  ·simp only[cz]at hx;exact⟨_,hk,dM (fun w'=>hrun (by rw[hx];rfl)) h (by simp only[aV,cz];rfl) af⟩
  ·simp only[cz]at hx;exact⟨_,hk,dM (fun w'=>hrun (by rw[hx];rfl)) h (by simp only[aV,cz]) af⟩
 |_=>rw[cS]at hk;cases op<;>simp[Lw]at hk
def UX(P:Program)(E:Env):Prop:=∀id T,E.Lt id=true→E.ty id=some T→∀(op:BinOp) (xo yo:Operand) (w:World) (Z:ah) (s:az) (ι:Nat→bI) (cs ds:List ba) (us vs:List Value) (q:Bool),
  bO w Z s ι cs us→bO w Z s ι ds vs→T.cmp cs ds=some (q,[],[]) →
  (eqGuard op id xo yo (.agg us.toArray) (.agg vs.toArray)).run P w=.ok () w ∧
  (op=.eql→(binOp op id (.agg us.toArray) (.agg vs.toArray)).run P w=.ok (.bool q) w) ∧
  (op=.neq→(binOp op id (.agg us.toArray) (.agg vs.toArray)).run P w=.ok (.bool (!q)) w)
mutual
theorem ad.AQ{w w':World}{Z:ah}{s:az}{ι:Nat→bI}:∀(t:ad) {cs ds:List ba}{r:Bool×List ba×List ba}{us vs:List Value},t.cmp cs ds=some r→bO w Z s ι cs us→bO w Z s ι ds vs →
  ∃us1 us2 vs1 vs2 a b,us=us1++us2∧vs=vs1++vs2∧cs=a++r.2.1∧ds=b++r.2.2∧bO w' Z s ι a us1∧bO w' Z s ι b vs1∧bO w Z s ι r.2.1 us2∧bO w Z s ι r.2.2 vs2
 |.int k,.int k1 x::a,.int k2 y::b,r,us,vs,h,h1,h2=>by
  simp only[ad.cmp]at h;cases hk:(Nat.beq (dD k1) (dD k)&&Nat.beq (dD k2) (dD k))
  ·rw[hk]at h;cases h
  rw[hk]at h;obtain rfl:=aX h
  cases us with
  |nil=>exact h1.elim
  |cons u us=>cases vs with
   |nil=>exact h2.elim
   |cons v vs=>exact⟨[u],us,[v],vs,[.int k1 x],[.int k2 y],rfl,rfl,rfl,rfl,⟨h1.1,trivial⟩,⟨h2.1,trivial⟩,h1.2,h2.2⟩
 |.bool,.bool x::a,.bool y::b,r,us,vs,h,h1,h2=>by
  obtain rfl:=aX h
  cases us with
  |nil=>exact h1.elim
  |cons u us=>cases vs with
   |nil=>exact h2.elim
   |cons v vs=>exact⟨[u],us,[v],vs,[.bool x],[.bool y],rfl,rfl,rfl,rfl,⟨h1.1,trivial⟩,⟨h2.1,trivial⟩,h1.2,h2.2⟩
 |.str,.str x::a,.str y::b,r,us,vs,h,h1,h2=>by
  obtain rfl:=aX h
  cases us with
  |nil=>exact h1.elim
  |cons u us=>cases vs with
   |nil=>exact h2.elim
   |cons v vs=>exact⟨[u],us,[v],vs,[.str x],[.str y],rfl,rfl,rfl,rfl,⟨h1.1,trivial⟩,⟨h2.1,trivial⟩,h1.2,h2.2⟩
 |.st ak,cs,ds,r,us,vs,h,h1,h2=>aA.AQ ak (by simpa only[ad.cmp]using h) h1 h2
 |.sl t,cs,ds,r,us,vs,h,h1,h2=>by simp[ad.cmp]at h
 |.raw,cs,ds,r,us,vs,h,h1,h2=>by simp[ad.cmp]at h
 |.int k,[],_,_,_,_,h,_,_=>by simp[ad.cmp]at h
 |.bool,[],_,_,_,_,h,_,_=>by simp[ad.cmp]at h
 |.str,[],_,_,_,_,h,_,_=>by simp[ad.cmp]at h
 |.int k,c::_,[],_,_,_,h,_,_=>by cases c<;>simp[ad.cmp]at h
 |.bool,c::_,[],_,_,_,h,_,_=>by cases c<;>simp[ad.cmp]at h
 |.str,c::_,[],_,_,_,h,_,_=>by cases c<;>simp[ad.cmp]at h
 |.int k,.bool _::_,_::_,_,_,_,h,_,_|.int k,.str _::_,_::_,_,_,_,h,_,_|.int k,.nil _::_,_::_,_,_,_,h,_,_|.int k,.bG _ _ _ _::_,_::_,_,_,_,h,_,_|.int k,.af _ _::_,_::_,_,_,_,h,_,_|.int k,.raw _::_,_::_,_,_,_,h,_,_=>by simp[ad.cmp]at h
 |.bool,.int _ _::_,_::_,_,_,_,h,_,_|.bool,.str _::_,_::_,_,_,_,h,_,_|.bool,.nil _::_,_::_,_,_,_,h,_,_|.bool,.bG _ _ _ _::_,_::_,_,_,_,h,_,_|.bool,.af _ _::_,_::_,_,_,_,h,_,_|.bool,.raw _::_,_::_,_,_,_,h,_,_=>by simp[ad.cmp]at h
 |.str,.int _ _::_,_::_,_,_,_,h,_,_|.str,.bool _::_,_::_,_,_,_,h,_,_|.str,.nil _::_,_::_,_,_,_,h,_,_|.str,.bG _ _ _ _::_,_::_,_,_,_,h,_,_|.str,.af _ _::_,_::_,_,_,_,h,_,_|.str,.raw _::_,_::_,_,_,_,h,_,_=>by simp[ad.cmp]at h
 |.int k,.int _ _::_,.bool _::_,_,_,_,h,_,_|.int k,.int _ _::_,.str _::_,_,_,_,h,_,_|.int k,.int _ _::_,.nil _::_,_,_,_,h,_,_|.int k,.int _ _::_,.bG _ _ _ _::_,_,_,_,h,_,_|.int k,.int _ _::_,.af _ _::_,_,_,_,h,_,_|.int k,.int _ _::_,.raw _::_,_,_,_,h,_,_=>by simp[ad.cmp]at h
 |.bool,.bool _::_,.int _ _::_,_,_,_,h,_,_|.bool,.bool _::_,.str _::_,_,_,_,h,_,_|.bool,.bool _::_,.nil _::_,_,_,_,h,_,_|.bool,.bool _::_,.bG _ _ _ _::_,_,_,_,h,_,_|.bool,.bool _::_,.af _ _::_,_,_,_,h,_,_|.bool,.bool _::_,.raw _::_,_,_,_,h,_,_=>by simp[ad.cmp]at h
 |.str,.str _::_,.int _ _::_,_,_,_,h,_,_|.str,.str _::_,.bool _::_,_,_,_,h,_,_|.str,.str _::_,.nil _::_,_,_,_,h,_,_|.str,.str _::_,.bG _ _ _ _::_,_,_,_,h,_,_|.str,.str _::_,.af _ _::_,_,_,_,h,_,_|.str,.str _::_,.raw _::_,_,_,_,h,_,_=>by simp[ad.cmp]at h
theorem aA.AQ{w w':World}{Z:ah}{s:az}{ι:Nat→bI}:∀(t:aA) {cs ds:List ba}{r:Bool×List ba×List ba}{us vs:List Value},t.cmp cs ds=some r→bO w Z s ι cs us→bO w Z s ι ds vs →
  ∃us1 us2 vs1 vs2 a b,us=us1++us2∧vs=vs1++vs2∧cs=a++r.2.1∧ds=b++r.2.2∧bO w' Z s ι a us1∧bO w' Z s ι b vs1∧bO w Z s ι r.2.1 us2∧bO w Z s ι r.2.2 vs2
 |.nil,cs,ds,r,us,vs,h,h1,h2=>by obtain rfl:=aX h;exact⟨[],us,[],vs,[],[],rfl,rfl,rfl,rfl,trivial,trivial,h1,h2⟩
 |.cons t ak,cs,ds,r,us,vs,h,h1,h2=>by simp only[aA.cmp]at h;obtain⟨bF,g1,h⟩:=bb h;obtain⟨cq,g2,h⟩:=bb h;obtain rfl:=aX h;obtain⟨a1,a2,jw,nZ,a,b,rfl,rfl,e1,e2,k1,k2,k3,bn⟩:=ad.AQ (w':=w') t g1 h1 h2;obtain⟨a3,a4,o_,AR,b8,b',rfl,rfl,e3,dX,dI,eP,o9,qe⟩:=aA.AQ (w':=w') ak g2 k3 bn;exact⟨a1++a3,a4,jw++o_,AR,a++b8,b++b',by simp,by simp,by rw[e1,e3];simp,by rw[e2,dX];simp,k1.append dI,k2.append eP,o9,qe⟩
end
theorem UY{w:World}{Z:ah}{s:az}{ι:Nat→bI}{T:ad}{cs ds:List ba}{q:Bool}{us vs:List Value}(h:T.cmp cs ds=some (q,[],[]))(h1:bO w Z s ι cs us)(h2:bO w Z s ι ds vs)(w':World):
  bO w' Z s ι cs us∧bO w' Z s ι ds vs:=by
 obtain⟨us1,us2,vs1,vs2,a,b,e3,dX,jA,tz,bs,dh,ee,cW⟩:=ad.AQ (w':=w') T h h1 h2;have fw:us2=[]:=by cases us2 with|nil=>rfl|cons=>exact ee.elim
 have kH:vs2=[]:=by cases vs2 with|nil=>rfl|cons=>exact cW.elim
 subst fw kH;simp only[List.append_nil]at e3 dX jA tz;rw[e3,dX,jA,tz];exact⟨bs,dh⟩
theorem UZ{op:BinOp}{t Em:Nat}{x y:Operand}(b5:hL P E)(hE:UX P E)(h:Inv w0 F0 Z0 n s a w ι Z)(af:∀k,o.dst=some k→k<n)(ho:o.op=.binOp op t x y Em)(hk:c0 E id o s K=some r):
  ∃au,K au=some r∧Pure P o a w (c6 w0 F0 Z0 n au):=by
 unfold c0 at hk;rw[ho]at hk;simp only at hk;have hx:=fk h x;have aR:=fk h y
 cases cS:bZ s x with
 |aU c=>
  rw[cS]at hk hx;simp only[aV]at hx
  cases gO:bZ s y with
  |aU d=>
   rw[gO]at hk aR;simp only[aV]at aR;cases c<;>cases d<;>simp only[lI]at hk<;>try (simp at hk;done)
   ·rename_i k i k' j;simp only[cz]at hx aR;have aB:∀w:World,(eqGuard op t x y (a.eval x) (a.eval y)).run P w=.ok () w:=fun w=>yv (by rw[hx];exact .inl ⟨_,_,rfl⟩)
    by_cases h1:op=.shl
    ·subst h1;obtain⟨h0,hk⟩:=tx hk;have h0:=of_decide_eq_true h0;refine⟨_,hk,dM (fun w'=>j4 ho (aB w') (by rw[hx,aR];simp only[binOp,Op.shift];rw[if_neg (by omega)];rfl)) h (by simp only[aV,cz]) af⟩
    by_cases h2:op=.shr
    ·subst h2;obtain⟨h0,hk⟩:=tx hk;have h0:=of_decide_eq_true h0;refine⟨_,hk,dM (fun w'=>j4 ho (aB w') (by rw[hx,aR];simp only[binOp,Op.shift];rw[if_neg (by omega)];rfl)) h (by simp only[aV,cz]) af⟩
    by_cases h3:op=.quo
    ·subst h3;cases hkk:Nat.beq (dD k) (dD k')
     ·rw[hkk]at hk;simp at hk
     have hk1:kj (j != 0) (K (s.dst o.dst (.aU (.int k (k.wrap (i.tdiv j))))))=some r:=by have hk2:cond (Nat.beq (dD k) (dD k')) (kj (j != 0) (K (s.dst o.dst (.aU (.int k (k.wrap (i.tdiv j))))))) none=some r:=hk;rw[hkk]at hk2;exact hk2
     clear hk;obtain⟨h0,hk⟩:=tx hk1;obtain rfl:=El hkk;have h0:j≠0:=by simpa using h0
     refine⟨_,hk,dM (fun w'=>j4 ho (aB w') (by rw[hx,aR];simp only[binOp,Op.intDiv];rw[if_neg (by simp),if_neg h0];rfl)) h (by simp only[aV,cz]) af⟩
    by_cases h4:op=.rem
    ·subst h4;cases hkk:Nat.beq (dD k) (dD k')
     ·rw[hkk]at hk;simp at hk
     have hk1:kj (j != 0) (K (s.dst o.dst (.aU (.int k (i.tmod j)))))=some r:=by have hk2:cond (Nat.beq (dD k) (dD k')) (kj (j != 0) (K (s.dst o.dst (.aU (.int k (i.tmod j)))))) none=some r:=hk;rw[hkk]at hk2;exact hk2
     clear hk;obtain⟨h0,hk⟩:=tx hk1;obtain rfl:=El hkk;have h0:j≠0:=by simpa using h0
     refine⟨_,hk,dM (fun w'=>j4 ho (aB w') (by rw[hx,aR];simp only[binOp,Op.intDiv];rw[if_neg (by simp),if_neg h0];rfl)) h (by simp only[aV,cz]) af⟩
    have dy:cond (Nat.beq (dD k) (dD k')) (lift (D_ op k i j) fun v=>K (s.dst o.dst v)) none=some r:=by cases op<;>first|exact hk|exact absurd rfl h1|exact absurd rfl h2|exact absurd rfl h3|exact absurd rfl h4
    cases hkk:Nat.beq (dD k) (dD k')
    ·rw[hkk]at dy;simp at dy
    rw[hkk]at dy;obtain rfl:=El hkk;obtain⟨v,hv,dy⟩:=UU dy;obtain⟨u,hu,cT⟩:=af9 (P:=P) (ty:=t) (yty:=Em) (xo:=x) (yo:=y) hv h1 h2 h3 h4;exact⟨_,dy,dM (fun w'=>j4 ho (aB w') (by rw[hx,aR];exact hu w')) h (cT _ _ _ _) af⟩
   ·rename_i i j;simp only[cz]at hx aR;have aB:∀w:World,(eqGuard op t x y (a.eval x) (a.eval y)).run P w=.ok () w:=fun w=>yv (by rw[hx];exact .inr (.inr (.inl ⟨_,rfl⟩)))
    cases ht:E.ty t with
    |none=>rw[ht]at hk;simp at hk
    |some T=>
     cases T with
     |bool=>
      rw[ht]at hk;have hu:P.underlying t=some .bool:=by have:=b5.ty t _ ht;simp only[ad.ok]at this;exact this.1
      have hb:∀(i j:Bool) {w:World},(Op.equal t (.bool i) (.bool j)).run P w=.ok (i==j) w:=by intro i j w;unfold Op.equal Op.maxDepth Op.equalIn;rw[run_bind,run_underlying hu];rfl
      cases op<;>simp only at hk<;>try (simp at hk;done)
      ·exact⟨_,hk,dM (fun w'=>j4 ho (aB w') (by rw[hx,aR];simp only[binOp,run_bind,hb];rfl)) h (by simp only[aV,cz]) af⟩
      ·exact⟨_,hk,dM (fun w'=>j4 ho (aB w') (by rw[hx,aR];simp only[binOp,run_bind,hb];rfl)) h (by simp only[aV,cz]) af⟩
     |_=>rw[ht]at hk;simp at hk
   ·obtain⟨yw,hx,rfl⟩:=hx;obtain⟨yx,aR,rfl⟩:=aR;have aB:∀w:World,(eqGuard op t x y (a.eval x) (a.eval y)).run P w=.ok () w:=fun w=>yv (by rw[hx];exact .inr (.inl ⟨_,rfl⟩))
    by_cases h1:op=.add
    ·subst h1;obtain⟨h0,hk⟩:=tx hk;have h0:=Nat.le_of_ble_eq_true h0;simp only[Array.length_toList]at h0
     refine⟨_,hk,dM (v:=.string (yw++yx)) (fun w'=>j4 ho (aB w') (by
      rw[hx,aR];simp only[binOp,Op.stringOp];rw[if_neg];rfl;have e1:yw.data.size=yw.size:=rfl;have e2:yx.data.size=yx.size:=rfl;simp only[IntKind.max,IntKind.signed,IntKind.bits,if_true]
      omega)) h (by simp only[aV,cz];exact⟨_,rfl,by simp⟩) af⟩
    ·have dy:lift (D' op yw.data.toList yx.data.toList) (fun v=>K (s.dst o.dst v))=some r:=by
      cases op<;>first|exact hk|exact absurd rfl h1
     obtain⟨v,hv,dy⟩:=UU dy;obtain⟨u,hu,cT⟩:=af_ (P:=P) (ty:=t) hv;exact⟨_,dy,dM (fun w'=>j4 ho (aB w') (by rw[hx,aR];exact hu w')) h (cT _ _ _ _) af⟩
  |lG=>
   rw[gO]at hk aR;simp only[aV]at aR
   cases c with
   |bG cQ dp cJ xs=>
    cases dp with
    |cons=>simp[lI]at hk
    |nil=>
     simp only[lI]at hk
     cases tA:E.ty t with
     |none=>rw[tA]at hk;simp at hk
     |some T=>
      cases T with
      |sl u=>
       rw[tA]at hk;obtain⟨e,hu,_⟩:=mo (b5.ty _ _ tA);obtain⟨_,_,cT,_⟩:=hx;have cT:=cT rfl;simp only[ad.ar]at cT;obtain⟨A,c',hv,vw⟩:=cT;have iI:a.eval x=.slice A xs.length c':=by simpa using hv
       have aB:∀w:World,(eqGuard op t x y (a.eval x) (a.eval y)).run P w=.ok () w:=fun w=>by rw[iI,aR];unfold eqGuard;cases op<;>rfl
       have hb:∀{w:World},(Op.equal t (.slice A xs.length c') (.slice none 0 0)).run P w=.ok A.isNone w:=by intro w;unfold Op.equal Op.maxDepth Op.equalIn;rw[run_bind,run_underlying hu];cases A<;>rfl
       have he:A.isNone=true→xs.isEmpty=true:=fun hA=>by
        rcases vw with vw|⟨a0,vw,_⟩
        ·rw[vw];rfl
        ·rw[vw]at hA;cases hA
       have pick:∀{k1 kL:Option bC},Ea xs.isEmpty k1 kL=some r→(cond A.isNone k1 kL)=some r:=by
        intro k1 kL hk;unfold Ea both at hk;cases hA:A.isNone
        ·rw[hA]at he;cases U0:xs.isEmpty
         ·rw[U0]at hk;exact hk
         ·rw[U0]at hk;simp only[cond_true]at hk;split at hk
          ·rename_i h;rw[cond_false,←h];exact hk
          ·cases hk
        ·rw[he hA]at hk;simp only[cond_true]at hk⊢;split at hk
         ·exact hk
         ·cases hk
       cases op<;>simp only at hk<;>try (simp at hk;done)
       ·have hk:=pick hk;refine⟨s.dst o.dst (.aU (.bool A.isNone)),by cases A<;>exact hk,dM (fun w'=>j4 ho (aB w') (by rw[iI,aR];simp only[binOp,run_bind,hb];rfl)) h (by simp only[aV,cz]) af⟩
       ·have hk:=pick hk;refine⟨s.dst o.dst (.aU (.bool (!A.isNone))),by cases A<;>exact hk,dM (fun w'=>j4 ho (aB w') (by rw[iI,aR];simp only[binOp,run_bind,hb];rfl)) h (by simp only[aV,cz]) af⟩
      |_=>rw[tA]at hk;simp at hk
   |_=>simp[lI]at hk
  |_=>rw[gO]at hk;cases c<;>simp[lI]at hk
 |iV cs=>
  rw[cS]at hk hx;simp only[aV]at hx
  cases gO:bZ s y with
  |iV ds=>
   rw[gO]at hk aR;simp only[aV]at aR;obtain⟨us,hx,U1⟩:=hx;obtain⟨vs,aR,U2⟩:=aR;simp only[lI]at hk;cases he:E.Lt t
   ·rw[he]at hk;simp at hk
   rw[he]at hk;simp only[cond_true]at hk
   cases tA:E.ty t with
   |none=>rw[tA]at hk;simp at hk
   |some T=>
   rw[tA]at hk;simp only at hk
   cases hq:T.cmp cs ds with
   |none=>rw[hq]at hk;cases op<;>simp at hk
   |some q=>
    obtain⟨q,bF,cq⟩:=q;rw[hq]at hk
    match bF,cq,hq,hk with
    | [],[],hq,hk=>
     have hE:=fun w'=>hE t T he tA op x y w' Z s ι cs ds us vs q (UY hq U1 U2 w').1 (UY hq U1 U2 w').2 hq
     cases op<;>simp only at hk<;>try (simp at hk;done)
     ·exact⟨_,hk,dM (fun w'=>j4 ho (by rw[hx,aR];exact(hE w').1) (by rw[hx,aR];exact(hE w').2.1 rfl)) h (by simp only[aV,cz]) af⟩
     ·exact⟨_,hk,dM (fun w'=>j4 ho (by rw[hx,aR];exact(hE w').1) (by rw[hx,aR];exact(hE w').2.2 rfl)) h (by simp only[aV,cz]) af⟩
    |_::_,_,_,hk=>cases op<;>simp at hk
    | [],_::_,_,hk=>cases op<;>simp at hk
  |_=>rw[gO]at hk;simp[lI]at hk
 |opt j i=>
  rw[cS]at hk hx;simp only[aV]at hx
  cases gO:bZ s y with
  |kD=>
   rw[gO]at hk aR;simp only[aV]at aR;simp only[lI]at hk;cases m6:E.vl t
   ·rw[m6]at hk;simp at hk
   rw[m6]at hk;obtain⟨e,hu⟩:=b5.ptr t m6;have aB:∀w:World,(eqGuard op t x y (a.eval x) (a.eval y)).run P w=.ok () w:=by intro w;rcases hx.2 with⟨_,hx⟩|⟨_,A,hx,_⟩<;>exact yv (by rw[hx];exact .inr (.inr (.inr ⟨_,rfl⟩)))
   have hb:∀{w:World},(Op.equal t (a.eval x) (.pointer none)).run P w=.ok (decide (i<0)) w:=by
    intro w;rcases hx.2 with⟨h0,hx⟩|⟨h0,A,hx,_⟩
    ·rw[hx];unfold Op.equal Op.maxDepth Op.equalIn;rw[run_bind,run_underlying hu];simp[h0,run_pure]
    ·rw[hx];unfold Op.equal Op.maxDepth Op.equalIn;rw[run_bind,run_underlying hu];have:¬i<0:=by omega
     simp[this,run_pure]
   have mq:∀(op:BinOp) (v:Value),(op=.eql→v=.bool (decide (i<0)))→(op=.neq→v=.bool (!decide (i<0)))→(op=.eql∨op=.neq)→∀{w:World},(binOp op t (a.eval x) (a.eval y)).run P w=.ok v w:=by
    intro op v h1 h2 h3 w;rw[aR];have rA:∃q,a.eval x=.pointer q:=by rcases hx.2 with⟨_,hx⟩|⟨_,A,hx,_⟩<;>exact⟨_,hx⟩
    obtain⟨q,rA⟩:=rA;rw[rA];have hb:∀{w:World},(Op.equal t (.pointer q) (.pointer none)).run P w=.ok (decide (i<0)) w:=fun {w}=> by rw[←rA];exact hb
    rcases h3 with rfl|rfl
    ·rw[h1 rfl];simp only[binOp,run_bind,hb];rfl
    ·rw[h2 rfl];simp only[binOp,run_bind,hb];rfl
   cases op<;>simp only at hk<;>try (simp at hk;done)
   ·exact⟨_,hk,dM (fun w'=>j4 ho (aB w') (mq .eql _ (fun _=>rfl) (fun h=>by simp at h) (.inl rfl))) h (by simp only[aV,cz]) af⟩
   ·exact⟨_,hk,dM (fun w'=>j4 ho (aB w') (mq .neq _ (fun h=>by simp at h) (fun _=>rfl) (.inr rfl))) h (by simp only[aV,cz]) af⟩
  |_=>rw[gO]at hk;simp[lI]at hk
 |may b dp cs=>
  rw[cS]at hk hx;simp only[aV]at hx
  cases gO:bZ s y with
  |kD=>
   rw[gO]at hk aR;simp only[aV]at aR;simp only[lI]at hk;cases m6:E.vl t
   ·rw[m6]at hk;simp at hk
   rw[m6]at hk;obtain⟨e,hu⟩:=b5.ptr t m6;have aB:∀w:World,(eqGuard op t x y (a.eval x) (a.eval y)).run P w=.ok () w:=by intro w;rcases hx with⟨_,hx⟩|⟨_,_,_,_,_,hx,_⟩<;>exact yv (by rw[hx];exact .inr (.inr (.inr ⟨_,rfl⟩)))
   have hb:∀{w:World},(Op.equal t (a.eval x) (.pointer none)).run P w=.ok (!b) w:=by
    intro w;rcases hx with⟨h0,hx⟩|⟨h0,_,_,_,_,hx,_⟩
    ·rw[hx];unfold Op.equal Op.maxDepth Op.equalIn;rw[run_bind,run_underlying hu];simp[h0,run_pure]
    ·rw[hx];unfold Op.equal Op.maxDepth Op.equalIn;rw[run_bind,run_underlying hu];simp[h0,run_pure]
   have mq:∀(op:BinOp) (v:Value),(op=.eql→v=.bool (!b))→(op=.neq→v=.bool (b))→(op=.eql∨op=.neq)→∀{w:World},(binOp op t (a.eval x) (a.eval y)).run P w=.ok v w:=by
    intro op v h1 h2 h3 w;rw[aR];have rA:∃q,a.eval x=.pointer q:=by rcases hx with⟨_,hx⟩|⟨_,_,_,_,_,hx,_⟩<;>exact⟨_,hx⟩
    obtain⟨q,rA⟩:=rA;rw[rA];have hb:∀{w:World},(Op.equal t (.pointer q) (.pointer none)).run P w=.ok (!b) w:=fun {w}=> by rw[←rA];exact hb
    rcases h3 with rfl|rfl
    ·rw[h1 rfl];simp only[binOp,run_bind,hb];rfl
    ·rw[h2 rfl];simp only[binOp,run_bind,hb];simp only[Bool.not_not];rfl
   cases op<;>simp only at hk<;>try (simp at hk;done)
   ·exact⟨_,hk,dM (fun w'=>j4 ho (aB w') (mq .eql _ (fun _=>rfl) (fun h=>by simp at h) (.inl rfl))) h (by simp only[aV,cz]) af⟩
   ·exact⟨_,hk,dM (fun w'=>j4 ho (aB w') (mq .neq _ (fun h=>by simp at h) (fun _=>rfl) (.inr rfl))) h (by simp only[aV,cz]) af⟩
  |_=>rw[gO]at hk;simp[lI]at hk
 |ptr p=>
  rw[cS]at hk hx;simp only[aV]at hx;obtain⟨_,A,hx,_⟩:=hx
  cases gO:bZ s y with
  |kD=>
   rw[gO]at hk aR;simp only[aV]at aR;simp only[lI]at hk;cases m6:E.vl t
   ·rw[m6]at hk;simp at hk
   rw[m6]at hk;obtain⟨e,hu⟩:=b5.ptr t m6;have aB:∀w:World,(eqGuard op t x y (a.eval x) (a.eval y)).run P w=.ok () w:=fun w=>yv (by rw[hx];exact .inr (.inr (.inr ⟨_,rfl⟩)))
   have hb:∀{w:World},(Op.equal t (.pointer (some A)) (.pointer none)).run P w=.ok false w:=by intro w;unfold Op.equal Op.maxDepth Op.equalIn;rw[run_bind,run_underlying hu];rfl
   cases op<;>simp only at hk<;>try (simp at hk;done)
   ·exact⟨_,hk,dM (fun w'=>j4 ho (aB w') (by rw[hx,aR];simp only[binOp,run_bind,hb];rfl)) h (by simp only[aV,cz]) af⟩
   ·exact⟨_,hk,dM (fun w'=>j4 ho (aB w') (by rw[hx,aR];simp only[binOp,run_bind,hb];rfl)) h (by simp only[aV,cz];rfl) af⟩
  |_=>rw[gO]at hk;simp[lI]at hk
 |_=>rw[cS]at hk;simp[lI]at hk
end
end Go.LM
namespace Go.LM
def da{α:Type}(R:α→List Value→ah→Prop)(size:Nat):List α→List Value→ah→Prop
 | [],vs,_=>vs=[]
 |x::xs,vs,F=>∃us ak G H,vs=us++ak∧R x us G∧us.length=size∧da R size xs ak H∧ah.apart G H∧ah.sub G F∧ah.sub H F
section
variable{α:Type}{R js:α→List Value→ah→Prop}{size:Nat}{w:World}
theorem da.len:∀{xs:List α}{vs:List Value}{F:ah},da R size xs vs F→vs.length=xs.length*size
 | [],_,_,h=>by simp only[da]at h;subst h;simp
 |x::xs,_,_,h=>by obtain⟨us,ak,G,H,rfl,_,h1,h2,_⟩:=h;rw[List.length_append,h1,da.len h2,List.length_cons,Nat.add_one_mul];omega
theorem da.mono:∀{xs:List α}{vs:List Value}{F F':ah},ah.sub F F'→da R size xs vs F→da R size xs vs F'
 | [],_,_,_,_,h=>h
 |x::xs,_,_,_,hs,⟨us,ak,G,H,h1,h2,h3,h4,a6,bj,bL⟩=>⟨us,ak,G,H,h1,h2,h3,h4,a6,fun b o h=>hs b o (bj b o h),fun b o h=>hs b o (bL b o h)⟩
theorem da.imp:∀{xs:List α}{vs:List Value}{F:ah},da R size xs vs F→(∀y us G,ah.sub G F→R y us G→js y us G)→da js size xs vs F
 | [],_,_,h,_=>h
 |x::xs,_,F,⟨us,ak,G,H,h1,h2,h3,h4,a6,bj,bL⟩,fa=>⟨us,ak,G,H,h1,fa _ _ _ bj h2,h3,da.imp h4 (fun y us dB hs=>fa y us dB fun b o h=>bL b o (hs b o h)),a6,bj,bL⟩
theorem da.bare:∀{xs:List α}{vs:List Value}{F:ah},da R size xs vs F→(∀y us G,ah.sub G F→R y us G→js y us ah.none)→da js size xs vs ah.none
 | [],_,_,h,_=>h
 |x::xs,_,F,⟨us,ak,G,H,h1,h2,h3,h4,a6,bj,bL⟩,fa=>⟨us,ak,ah.none,ah.none,h1,fa _ _ _ bj h2,h3,da.bare h4 (fun y us dB hs=>fa y us dB fun b o h=>bL b o (hs b o h)),fun _ _ h=>h.elim,fun _ _ h=>h,fun _ _ h=>h⟩
theorem da.append:∀{xs ys:List α}{us vs:List Value}{F G:ah},da R size xs us F→da R size ys vs G→ah.apart F G→da R size (xs++ys) (us++vs) (F.or G)
 | [],ys,us,vs,F,G,h,k,_=>by simp only[da]at h;subst h;exact k.mono fun _ _ h=>.inr h
 |x::xs,ys,us,vs,F,G,⟨a,b,A,B,h1,h2,h3,h4,a6,bj,bL⟩,k,ha=>by
  refine⟨a,b++vs,A,B.or G,by rw[h1,List.append_assoc],h2,h3,da.append h4 k (fun b o h=>ha b o (bL b o h)),?_,fun b o h=>.inl (bj b o h),fun b o h=>h.imp (bL b o) id⟩
  rintro b o g (h|h)
  ·exact a6 b o g h
  ·exact ha b o (bj b o g) h
theorem da.row:∀{xs:List α}{vs:List Value}{F:ah}{b o:Nat},da R size xs vs F→cf w b o vs→Row w R size xs b o F
 | [],_,_,_,_,_,_=>trivial
 |x::xs,_,_,b,o,⟨us,ak,G,H,h1,h2,h3,h4,a6,bj,bL⟩,hc=>by subst h1;exact⟨us,G,H,h2,h3,hc.left,da.row h4 (h3▸hc.right),a6,bj,bL⟩
theorem Row.ve:∀{xs:List α}{b o:Nat}{F:ah},Row w R size xs b o F→∃vs,da R size xs vs F∧cf w b o vs
 | [],_,_,_,_=>⟨[],rfl,cf.nil _ _ _⟩
 |x::xs,b,o,F,⟨us,G,H,h1,h2,h3,h4,a6,bj,bL⟩=>by obtain⟨ak,k1,k2⟩:=Row.ve h4;exact⟨us++ak,⟨us,ak,G,H,rfl,h1,h2,k1,a6,bj,bL⟩,h3.append (by rw[h2];exact k2)⟩
theorem da.replicate{x:α}{us:List Value}(fa:R x us ah.none)(hl:us.length=size):∀n,da R size (List.replicate n x) (List.replicate n us).flatten ah.none
 |0=>rfl
 |n+1=>by rw[List.replicate_succ,List.replicate_succ,List.flatten_cons];exact⟨us,_,ah.none,ah.none,rfl,fa,hl,da.replicate fa hl n,fun _ _ h=>h.elim,fun _ _ h=>h,fun _ _ h=>h⟩
end
mutual
theorem Mi{w:World}{Z F:ah}:∀(t:ad) (m:bg),t.ar w Z m t.zero t.cU F
 |.int _,_=>by simp only[ad.ar,ad.zero,ad.cU]
 |.bool,_=>by simp only[ad.ar,ad.zero,ad.cU]
 |.str,_=>by simp only[ad.ar,ad.zero,ad.cU];exact⟨_,rfl,rfl⟩
 |.raw,_=>by simp only[ad.ar,ad.zero,ad.cU];exact⟨trivial,_,_,_,rfl⟩
 |.sl t,.O e=>by simp only[ad.ar,ad.zero,ad.cU];exact⟨none,0,rfl,.inl (by simp)⟩
 |.sl t,.R=>by simp only[ad.ar,ad.zero,ad.cU];exact⟨none,0,rfl,.inl trivial⟩
 |.sl t,.S _=>by simp only[ad.ar,ad.zero,ad.cU];exact⟨none,0,rfl,.inl trivial⟩
 |.st ak,m=>by simp only[ad.ar,ad.zero,ad.cU];exact U3 ak m.parts
theorem U3{w:World}{Z F:ah}:∀(ak:aA) (m:c5),ak.ar w Z m ak.zero ak.cU F
 |.nil,_=>by simp only[aA.ar,aA.cU]
 |.cons t ak,m=>by simp only[aA.ar,aA.zero,aA.cU];exact⟨t.cU,ak.cU,ah.none,ah.none,rfl,Mi t m.af,U3 ak m.dK,fun _ _ h=>h.elim,fun _ _ h=>h.elim,fun _ _ h=>h.elim⟩
end
section
variable{P:Program}{Q:Exit→Act→World→Prop}
variable{w0:World}{F0 Z0:ah}{n:cN}{s au:az}{a b8:Act}{w w':World}{ι bp:Nat→bI}{Z Z':ah}
variable{E:Env}{o:Oper}{bC:Type}{K:az→Option bC}{r:bC}{id:Nat}
theorem bM.ext{F S:ah}(hf:bM w0 F0 s w ι Z F)(hx:Ext w w' S):bM w0 F0 s w' ι Z F:=
 ⟨fun b o h=>⟨(hf.own b o h).1,Nat.lt_of_lt_of_le (hf.own b o h).2 hx.size⟩,hf.apart,hf.db⟩
theorem Inv.fresh(h:Inv w0 F0 Z0 n s a w ι Z){F:ah}(hF:∀b o,F b o→w.heap.size≤b∧b<w'.heap.size):bM w0 F0 s w' ι Z F:=by
 have:=h.ext.size;refine⟨fun b o hf=>⟨.inr (by have:=(hF b o hf).1;omega),(hF b o hf).2⟩,fun id hl b o h1 h2=>?_,fun b o h1 h2=>?_⟩
 ·have:=(h.own id hl b o h2).2;have:=(hF b o h1).1;omega
 ·have:=h.jt b o h2;have:=(hF b o h1).1;omega
def grown(w:World)(d:Nat)(arr:Array Value)(e:TypeId)(f:Nat×Nat):World:={ w with drawn:=d,heap:=w.heap.push (.cells arr e f) }
theorem D1(w:World)(d:Nat)(arr:Array Value)(e:TypeId)(f:Nat×Nat)(F:ah):Ext w (grown w d arr e f) F:=
 ⟨rfl,rfl,rfl,by simp[grown],fun b hb=>.inl (by simp only[grown];rw[Array.getElem?_push,if_neg (by omega)])⟩
theorem AD(w:World)(d:Nat)(arr:Array Value)(e:TypeId)(f:Nat×Nat):(grown w d arr e f).heap[w.heap.size]?=some (.cells arr e f):=by simp[grown]
theorem AB(w:World)(d:Nat)(arr:Array Value)(e:TypeId)(f:Nat×Nat)(o:Nat):(grown w d arr e f).cell? (at_ w.heap.size o)=arr[o]?:=cell_of_heap (AD ..) o
theorem Lm(w:World)(d:Nat)(arr:Array Value)(e:TypeId)(f:Nat×Nat):(grown w d arr e f).heap.size=w.heap.size+1:=by simp[grown]
theorem Inv.newRow(h:Inv w0 F0 Z0 n s a w ι Z){id:Nat}(cm:s.o id=.none){t:ad}{em:bg}{xs:List t.D}{vs:List Value}{G:ah}
  (he:da (t.ar w Z em) t.size xs vs G) (hG:bM w0 F0 s w ι Z G) (d:Nat) (arr:Array Value) (e:TypeId) (f:Nat×Nat) (c:Nat)
  (hv:∀(j:Nat) (v:Value),vs[j]?=some v→arr[j]?=some v) (hc:xs.length≤c) (hsz:c*t.size≤arr.size) (hf:f.1=f.2∨c*t.size≤f.1) (hf2:t.size=1∨f.1=f.2):
  Inv w0 F0 Z0 n (s.bV id (.row t em 0 xs)) a (grown w d arr e f) (bW ι id ⟨some (at_ w.heap.size 0),c,(ah.run w.heap.size 0 (c*t.size)).or G⟩) Z:=by
 have hx:=D1 w d arr e f ah.none;have h1:=h.world hx;have kM:bM w0 F0 s (grown w d arr e f) ι Z (ah.run w.heap.size 0 (c*t.size)):=h.fresh (by rintro b o ⟨rfl,_,_⟩;rw[Lm];omega);have fx:=hG.ext hx;refine h1.Ee cm ?_ (kM.or fx);refine .inr ⟨at_ w.heap.size 0,rfl,rfl,hc,fun j hj=>⟨⟨⟨arr[j]'(by simp only at hj;omega),?_⟩,?_⟩,?_⟩,fun j hj=>.inl ⟨rfl,by simp[at_],by simpa[at_]using hj⟩,G,?_,?_,fun _ _ h=>.inr h⟩
 ·show World.cell? _ (at_ w.heap.size (0+j))=_;rw[AB];simp
 ·show World.frozen? _ (at_ w.heap.size (0+j))=_;rw[ri,AD];simp only at hj;simp only[Bool.and_eq_false_iff,decide_eq_false_iff_not];omega
 ·refine hf2.imp (fun h=>h) fun h2 k=>?_
  show World.frozen? _ (at_ w.heap.size k)=_;rw[ri,AD];simp only[Bool.and_eq_false_iff,decide_eq_false_iff_not];omega
 ·refine da.row (he.imp fun y us dB hs hr=>ad.ar.same (ch.jv hx h.jt fun _ _ _ h=>h) _ _ (ch.jv hx (fun b o aB=>(hG.own b o (hs b o aB)).2) fun _ _ _ h=>h) hr) ?_;intro i v hi;show World.cell? _ (at_ w.heap.size (0+i))=_;rw[AB,Nat.zero_add];exact hv i v hi
 ·intro j hj aB;have:=(hG.own _ _ aB).2;simp[at_]at this
theorem AS{id:Nat}{t:ad}{em:bg}{ver:Nat}{xs:List t.D}{A:Addr}{c:Nat}{F:ah}(hA:A.spot=none)(hc:xs.length≤c):
  cz w Z (s.bV id (.row t em ver xs)) (bW ι id ⟨some A,c,F⟩) (.af id none) (.slice (some A) xs.length c):=by
 refine⟨?_,some A,xs.length,c,rfl,?_⟩
 ·show bW s.o id _ id≠_;rw[cM];simp
 ·intro cQ gN n4 gq ho;have tq:(bW s.o id (cD.row t em ver xs) id).core=.row cQ gN n4 gq:=ho;rw[cM]at tq⊢;obtain⟨rfl,_,_,h4⟩:=cD.row.inj tq;have:=eq_of_heq h4;subst this;refine⟨rfl,by simp[eH],hc,by simp[eH],.inr ⟨A,rfl,?_⟩⟩;simp only[eH,Nat.zero_mul,Nat.add_zero];cases A;simp_all[at_]
theorem U4(us:List Value):∀(n j:Nat),j<n*us.length→(List.replicate n us).flatten[j]?=us[j%us.length]?
 |0,j,h=>by simp at h
 |n+1,j,h=>by
  rw[List.replicate_succ,List.flatten_cons];by_cases hj:j<us.length
  ·rw[List.getElem?_append_left hj,Nat.mod_eq_of_lt hj]
  ·have h':j<n*us.length+us.length:=by rw[←Nat.add_one_mul];exact h
   rw[List.getElem?_append_right (by omega),U4 us n (j-us.length) (by omega),←Nat.mod_eq_sub_mod (by omega)]
theorem Mj{z:Array Value}{m j:Nat}(us:List Value)(n:Nat)(hz:z.toList=us)(hm:m=n*us.length)(v:Value)(h:(List.replicate n us).flatten[j]?=some v):
  ((Array.range m).map (z[· % z.size]!))[j]?=some v:=by
 subst hz
 have hj:j<n*z.toList.length:=by
  rcases Nat.lt_or_ge j (n*z.toList.length)with h1|h1
  ·exact h1
  ·rw[List.getElem?_eq_none (by simp;simpa using h1)]at h;simp at h
 rw[U4 _ _ _ hj]at h;have hl:z.toList.length=z.size:=by simp
 rw[hl]at h hj;rw[Array.getElem?_map,Array.getElem?_range,if_pos (by rw[hm,hl];exact hj)];simp only[Option.map_some,Option.some.injEq]
 have bQ:j%z.size<z.size:=by
  apply Nat.mod_lt;rcases Nat.eq_zero_or_pos z.size with h0|h0
  ·rw[h0]at hj;simp at hj
  ·exact h0
 rw[getElem!_pos z _ bQ];simpa[bQ]using h
theorem wrap_i64{i:Int}(h0:0≤i)(h1:i≤68719476736):IntKind.wrap .i64 i=i:=by simp[IntKind.wrap,IntKind.bits,IntKind.signed];omega
theorem af'{k:IntKind}{i:Int}:(asInt (.int k i)).run P w=.ok i w:=rfl
theorem yy(T:ad):(dW T T.cU).cells.toList=T.cU:=L9 (ad.mn T) ((tu (w:=default) (Z:=ah.none) (s:=⟨fun _=>.bB,fun _=>.none,[]⟩) (ι :=fun _=>⟨none,0,ah.none⟩) T).eC)
theorem run_askRoom{b:Nat}:(askRoom b).run P w=.ok () w:=by unfold askRoom;split<;>rfl
theorem En{e:TypeId}{arr:Array Value}:(newRow e arr).run P w=.ok (at_ w.heap.size 0) (grown w w.drawn arr e (0,0)):=by simp[newRow,Go.newObj,run_bind,Sem.run,run_pure,at_,grown]
theorem run_makeSlice{T:ad}{t e:TypeId}{k k':IntKind}{m:Int}(hu:P.underlying t=some (.slice e))(cp:T.ok P e)(h0:0≤m)(h1:m≤68719476736):
  ∃arr:Array Value,(∀(j:Nat) (v:Value),(List.replicate m.toNat T.cU).flatten[j]?=some v→arr[j]?=some v)∧arr.size=m.toNat*T.size ∧
   (Instr.makeSlice t (.int k m) (.int k' m)).run P w=.ok (.slice (some (at_ w.heap.size 0)) m.toNat m.toNat) (grown w w.drawn arr e (0,0)):=by
 obtain⟨i,m7,gF,yz,Mk⟩:=cp.info;have hb:¬((i.bytes:Int)*m>2^48):=by have:(i.bytes:Int)*m≤2048*68719476736:=Int.mul_le_mul (by omega) h1 h0 (by omega);omega
 have AT:(dW T T.cU).cells.size=T.size:=by have:=congrArg List.length (yy T);rw[Array.length_toList,ad.mn]at this;exact this
 refine⟨(Array.range (m.toNat*T.size)).map fun j=>(if m.toNat*T.size=0 then #[] else(dW T T.cU).cells)[j%(if m.toNat*T.size=0 then #[] else(dW T T.cU).cells).size]!,?_,by simp,?_⟩
 ·intro j v hj;by_cases hz:m.toNat*T.size=0
  ·have:(List.replicate m.toNat T.cU).flatten=[]:=by
    apply List.eq_nil_of_length_eq_zero;simp[ad.mn];simpa using hz
   rw[this]at hj;simp at hj
  ·simp only[if_neg hz];exact Mj T.cU m.toNat (yy T) (by rw[ad.mn]) v hj
 ·unfold Instr.makeSlice;simp only[run_bind,run_underlying hu,af',run_typeInfo m7,wrap_i64 h0 h1];have tB:¬m<0:=by omega
  simp only[tB,hb,decide_false,Bool.or_false,Bool.false_or,Bool.false_eq_true,if_false,gt_iff_lt,Int.lt_irrefl];simp only[run_bind,run_askRoom,run_sizeOf cp];by_cases hz:m.toNat*T.size=0
  ·simp only[if_pos hz,run_bind,run_pure,En]
  ·simp only[if_neg hz,run_bind,run_pure,En,Eh cp]
theorem aga{t:Nat}{x y:Operand}(b5:hL P E)(h:Inv w0 F0 Z0 n s a w ι Z)(af:∀k,o.dst=some k→k<n)(ho:o.op=.makeSlice t x y)(hk:c0 E id o s K=some r):
  ∃au,K au=some r∧o.wp P a w (c6 w0 F0 Z0 n au) Q:=by
 unfold c0 at hk;rw[ho]at hk;simp only at hk
 cases ht:E.ty t with
 |none=>rw[ht]at hk;simp at hk
 |some T=>
  rw[ht]at hk
  cases T with
  |sl T=>
   cases hx:lg (bZ s x)with
   |none=>rw[hx]at hk;simp at hk
   |some m=>
    cases aR:lg (bZ s y)with
    |none=>rw[hx,aR]at hk;simp at hk
    |some m'=>
     rw[hx,aR]at hk;obtain⟨aB,hk2⟩:=tx hk;clear hk;have hk:=hk2;clear hk2;simp only[Bool.and_eq_true,decide_eq_true_eq,room]at aB;obtain⟨⟨h0,rfl⟩,h1⟩:=aB;have h1:=Nat.le_of_ble_eq_true h1
     cases hm:mkObj s id (.row T T.own 0 (List.replicate m.toNat T.zero))with
     |none=>rw[hm]at hk;simp at hk
     |some s1=>
      rw[hm]at hk;obtain⟨cm,rfl⟩:=rz hm;obtain⟨k,hx⟩:=tv hx (fk h x);obtain⟨k',aR⟩:=tv aR (fk h y);obtain⟨e,hu,cp⟩:=mo (b5.ty t _ ht);obtain⟨arr,ha,has,hr⟩:=run_makeSlice (P:=P) (w:=w) (k:=k) (k':=k') hu cp h0 (by omega);have hn:=h.newRow cm (da.replicate (Mi T T.own) (ad.mn T) m.toNat) bM.none w.drawn arr e (0,0) m.toNat ha (by simp) (by omega) (.inl rfl) (.inr rfl);refine⟨_,hk,m3 (v:=.slice (some (at_ w.heap.size 0)) m.toNat m.toNat) ?_ hn ?_ af⟩
      ·unfold execOp;rw[ho];refine gw ?_;rw[hx,aR];exact hr
      ·simp only[aV];have:=AS (w:=grown w w.drawn arr e (0,0)) (Z:=Z) (s:=s) (ι :=ι) (id:=id) (em:=T.own) (ver:=0) (xs:=List.replicate m.toNat T.zero) (A:=at_ w.heap.size 0) (c:=m.toNat) (F:=(ah.run w.heap.size 0 (m.toNat*T.size)).or ah.none) rfl (by simp);simpa using this
  |_=>simp at hk
end
end Go.LM
namespace Go.LM
section
variable{P:Program}{Q:Exit→Act→World→Prop}
variable{w0:World}{F0 Z0:ah}{n:cN}{s au:az}{a b8:Act}{w w':World}{ι bp:Nat→bI}{Z Z':ah}
variable{E:Env}{o:Oper}{bC:Type}{K:az→Option bC}{r:bC}{id:Nat}
theorem yA{k:IntKind}{t:TypeId}(h:(ad.int k).ok P t):P.underlying t=some (.int k):=by simp only[ad.ok]at h;exact h.1
theorem yB{t:TypeId}(h:ad.str.ok P t):P.underlying t=some .string:=by simp only[ad.ok]at h;exact h.1
theorem Ml{w:World}{Z:ah}{k:IntKind}:∀l:List Int,da ((ad.int k).ar w Z .R) 1 l (l.map (Value.int k)) ah.none
 | []=>rfl
 |x::l=>⟨[.int k x],l.map (Value.int k),ah.none,ah.none,rfl,by simp only[ad.ar],rfl,Ml l,fun _ _ h=>h.elim,fun _ _ h=>h,fun _ _ h=>h⟩
theorem agb{e:TypeId}{b:ByteArray}:
  ∃(arr:Array Value) (c d:Nat),(Conv.stringToBytes e b).run P w=.ok (.slice (some (at_ w.heap.size 0)) b.size c) (grown w d arr e (c,c+1))∧b.size≤c∧arr.size=c ∧
   ∀(j:Nat) (v:Value),((eT b.data.toList).map (Value.int .u8))[j]?=some v→arr[j]?=some v:=by
 have hq:(Question.appendCap b.size 0 e).forced=false:=rfl;have hsz:b.data.size=b.size:=rfl;refine⟨(b.data.map fun x=>Value.int .u8 x.toNat)++Array.replicate (b.size+w.tape w.drawn (.appendCap b.size 0 e)%(2^63-b.size)-b.size) (.int .u8 0),b.size+w.tape w.drawn (.appendCap b.size 0 e)%(2^63-b.size),w.drawn+1,?_,by omega,by simp[hsz],?_⟩
 ·unfold Conv.stringToBytes;simp only[run_bind,choose,Sem.run,hq,Bool.false_eq_true,if_false,Question.cut];simp only[newRow,Go.newObj,run_bind,Sem.run,run_pure,markStringish,Go.shape,Go.freeze];simp only[World.shape?,Array.getElem?_push_size,Sem.run];simp only[World.freeze,grown];simp only[Nat.succ_ne_zero,if_false,Nat.one_ne_zero,Result.ok.injEq,World.mk.injEq,true_and,and_true];apply Array.ext_getElem?;intro i;rw[Array.getElem?_modify,Array.getElem?_push,Array.getElem?_push];by_cases hi:w.heap.size=i
  ·subst hi;have:b.size +(w.tape w.drawn (Question.appendCap b.size 0 e)%(2^63-b.size)+b.size-b.size)=b.size+w.tape w.drawn (Question.appendCap b.size 0 e)%(2^63-b.size):=by omega
   simp[hsz]
  ·simp[hi];by_cases dr:i=w.heap.size
   ·exact absurd dr.symm hi
   ·simp[dr]
 ·intro j v hj;simp only[eT,List.map_map,List.getElem?_map,Option.map_eq_some_iff]at hj;obtain⟨x,hx,rfl⟩:=hj
  have bQ:j<b.data.size:=by
   rcases Nat.lt_or_ge j b.data.size with h|h
   ·exact h
   ·rw[List.getElem?_eq_none (by simpa using h)]at hx;simp at hx
  rw[Array.getElem?_append_left (by simpa using bQ),Array.getElem?_map];rw[Array.getElem?_toList]at hx;rw[hx];rfl
theorem U5{w:World}{k:IntKind}{b:Nat}:∀{l:List Int}{o:Nat}{F:ah},Row w (fun(y:Int) us _=>us=[Value.int k y]) 1 l b o F→cf w b o (l.map (Value.int k))
 | [],_,_,_=>cf.nil _ _ _
 |x::l,o,_,⟨us,G,H,h1,h2,h3,h4,_⟩=>by subst h1;exact cf.cons h3.head (U5 h4)
theorem agc(l:List Int):∀b:ByteArray,(l.foldl (fun r n=>r.push (UInt8.ofNat n.toNat)) b).data.toList=b.data.toList++eZ l:=by
 induction l with
 |nil=>intro b;simp[eZ]
 |cons x l ih=>intro b;rw[List.foldl_cons,ih];simp[eZ,ByteArray.push]
theorem agd{src dst:Nat}{x:Operand}{k1 k2:IntKind}(b5:hL P E)(h:Inv w0 F0 Z0 n s a w ι Z)(af:∀k,o.dst=some k→k<n)(ho:o.op=.convert src dst x)(hs:E.ty src=some (.int k1))(ht:E.ty dst=some (.int k2))(hk:c0 E id o s K=some r):
  ∃au,K au=some r∧Pure P o a w (c6 w0 F0 Z0 n au):=by
 unfold c0 at hk;rw[ho]at hk;simp only at hk;have hx:=fk h x;have dg:=b5.ty _ _ hs;have rB:=b5.ty _ _ ht
 cases cS:bZ s x with
 |aU c=>
  rw[cS]at hx hk;simp only[aV]at hx;unfold th at hk;rw[hs,ht]at hk
  cases c with
  |int k m=>simp only[cz]at hx;refine⟨_,hk,dM (v:=.int k2 (k2.wrap m)) (fun w'=>?_) h (by simp only[aV,cz]) af⟩;unfold execOp;rw[ho];refine gw ?_;rw[hx];unfold convert;simp only[run_bind,run_underlying (yA dg),run_underlying (yA rB)];rfl
  |_=>simp at hk
 |_=>rw[cS]at hk;unfold th at hk;rw[hs,ht]at hk;simp at hk
theorem age{src dst:Nat}{x:Operand}(b5:hL P E)(h:Inv w0 F0 Z0 n s a w ι Z)(af:∀k,o.dst=some k→k<n)(ho:o.op=.convert src dst x)(hk:c0 E id o s K=some r):
  ∃au,K au=some r∧o.wp P a w (c6 w0 F0 Z0 n au) Q:=by
 unfold c0 at hk;rw[ho]at hk;simp only at hk;have hx:=fk h x;have hrun:∀{u:Value}{w':World},(convert src dst (a.eval x)).run P w=.ok u w'→(execOp a.eval o).run P w=.ok (.value u) w':=by intro u w' hu;unfold execOp;rw[ho];exact gw hu
 cases hs:E.ty src with
 |none=>unfold th at hk;rw[hs]at hk;simp at hk
 |some S=>
 cases ht:E.ty dst with
 |none=>unfold th at hk;rw[hs,ht]at hk;cases S<;>simp at hk
 |some T=>
 have dg:=b5.ty _ _ hs;have rB:=b5.ty _ _ ht
 cases cS:bZ s x with
 |aU c=>
  rw[cS]at hx;simp only[aV]at hx;have hk1:th E id s src dst (.aU c) (fun v s=>K (s.dst o.dst v))=some r:=by rw[←cS];exact hk
  unfold th at hk1;rw[hs,ht]at hk1;split at hk1
  ·rename_i kL k m vA vB pa;obtain rfl:=aX vA;obtain rfl:=aX vB;simp only[a_.aU.injEq]at pa;subst pa;simp only[cz]at hx;refine⟨_,hk1,m3 (hrun (u:=.int kL (kL.wrap m)) (w':=w) ?_) h (by simp only[aV,cz]) af⟩;rw[hx];unfold convert;simp only[run_bind,run_underlying (yA dg),run_underlying (yA rB)];rfl
  ·rename_i b vA vB pa;obtain rfl:=aX vA;obtain rfl:=aX vB;simp only[a_.aU.injEq]at pa;subst pa;obtain⟨kn,hx,o5⟩:=hx;refine⟨_,hk1,m3 (hrun (u:=a.eval x) (w':=w) ?_) h (by simp only[aV];exact⟨kn,hx,o5⟩) af⟩;rw[hx];unfold convert;simp only[run_bind,run_underlying (yB dg),run_underlying (yB rB)];rfl
  ·rename_i b vA vB pa;obtain rfl:=aX vA;obtain rfl:=aX vB;simp only[a_.aU.injEq]at pa;subst pa;obtain⟨kn,hx,rfl⟩:=hx;obtain⟨e,hu,cp⟩:=mo rB
   cases hm:mkObj s id (.row (.int .u8) .R 0 (eT kn.data.toList))with
   |none=>rw[hm]at hk1;simp at hk1
   |some s1=>
    rw[hm]at hk1;obtain⟨cm,rfl⟩:=rz hm;obtain⟨arr,c,d,hr,hc,has,hv⟩:=agb (P:=P) (w:=w) (e:=e) (b:=kn);have hlen:(eT kn.data.toList).length=kn.size:=by simp[eT]
    have hn:=h.newRow cm (t:=.int .u8) (em:=.R) (Ml (eT kn.data.toList)) bM.none d arr e (c,c+1) c hv (by rw[hlen];exact hc) (by simp only[ad.size];omega) (.inr (by simp[ad.size])) (.inl rfl);refine⟨_,hk1,m3 (hrun (u:=.slice (some (at_ w.heap.size 0)) kn.size c) ?_) hn ?_ af⟩
    ·rw[hx];unfold convert;simp only[run_bind,run_underlying (yB dg),run_underlying hu,run_underlying (yA cp)];exact hr
    ·simp only[aV];have:=AS (w:=grown w d arr e (c,c+1)) (Z:=Z) (s:=s) (ι :=ι) (id:=id) (em:=.R) (ver:=0) (t:=.int .u8) (xs:=eT kn.data.toList) (A:=at_ w.heap.size 0) (c:=c) (F:=(ah.run w.heap.size 0 (c*(ad.int .u8).size)).or ah.none) rfl (by rw[hlen];exact hc);rw[hlen]at this;exact this
  ·rename_i c' vA vB pa;obtain rfl:=aX vA;obtain rfl:=aX vB;simp only[a_.aU.injEq]at pa;subst pa;obtain⟨e,hu,cp⟩:=mo dg
   cases hl:p9 s (.int .u8) c with
   |none=>rw[hl]at hk1;simp at hk1
   |some xs=>
    rw[hl]at hk1;simp only at hk1;obtain⟨cT,_,_⟩:=LS h hl hx;simp only[ad.ar]at cT;obtain⟨A,tC,hv,hrow⟩:=cT;simp only[List.cons.injEq,and_true]at hv;have U6:(convert src dst (a.eval x)).run P w=(Conv.bytesToString (a.eval x)).run P w:=by rw[hv];exact run_convert_bytes_string w src dst e A xs.length tC hu (yA cp) (yB rB)
    rcases hrow with rfl|⟨a0,rfl,hsp,hrow,_,_⟩
    ·refine⟨_,hk1,m3 (v:=.string .empty) (w':=w) (hrun ?_) h ?_ af⟩
     ·rw[U6,hv]
      cases A with
      |none=>rfl
      |some A=>exact run_bytesToString w A 0 tC [] (by rfl)
     ·simp only[aV,cz];exact⟨_,rfl,rfl⟩
    ·obtain⟨cV,ed,sp⟩:=a0;simp only at hsp;subst hsp;have hc:=U5 (k:=.u8) (by simpa only[ad.size]using hrow);have U7:=run_loadCells (P:=P) hc;rw[List.length_map]at U7;refine⟨_,hk1,m3 (v:=.string (xs.foldl (fun r n=>r.push (UInt8.ofNat n.toNat)) ByteArray.empty)) (w':=w) (hrun ?_) h ?_ af⟩
     ·rw[U6,hv];exact run_bytesToString w _ xs.length tC xs U7
     ·simp only[aV,cz];exact⟨_,rfl,by rw[agc];rfl⟩
  ·simp at hk1
 |_=>exfalso;rw[cS,th.eq_def,hs,ht]at hk;split at hk<;>simp_all
theorem Mm{fQ:Bool}{k:IntKind}:∀(l:List a_) (x:Int) (vs:List Value) (k':IntKind) (z:Int),a8 w Z s ι l vs→vn fQ k x l=some (k',z) →
  (vs.foldlM (if fQ then Builtin.max2 else Builtin.min2) (.int k x)).run P w'=.ok (.int k' z) w'
 | [],x,vs,k',z,hr,h=>by simp only[a8]at hr;subst hr;simp only[vn,Option.some.injEq,Prod.mk.injEq]at h;obtain⟨rfl,rfl⟩:=h;rfl
 |v::l,x,vs,k',z,hr,h=>by
  simp only[a8]at hr;obtain⟨u,us,rfl,h1,h2⟩:=hr
  cases v with
  |aU c=>
   cases c with
   |int U8 y=>
    simp only[vn]at h;simp only[aV,cz]at h1;subst h1;rw[List.foldlM_cons,run_bind];have ih:=Mm l _ us k' z h2 h;cases fQ
    ·exact ih
    ·exact ih
   |_=>simp[vn]at h
  |_=>simp[vn]at h
theorem vC(h:Inv w0 F0 Z0 n s a w ι Z):∀l:List Operand,a8 w Z s ι (l.map (bZ s)) (l.map a.eval)
 | []=>by simp only[List.map_nil,a8]
 |x::l=>by simp only[List.map_cons,a8];exact⟨_,_,rfl,fk h x,vC h l⟩
theorem U9{b:Builtin}{c:Call}(b5:hL P E)(h:Inv w0 F0 Z0 n s a w ι Z)(af:∀k,o.dst=some k→k<n)(ho:o.op=.call c)(hb:c.callee=.builtin b)(hne:b≠.append)(agf:b≠.clear)(hk:c0 E id o s K=some r):
  ∃au,K au=some r∧Pure P o a w (c6 w0 F0 Z0 n au):=by
 unfold c0 at hk;rw[ho]at hk;simp only[hb]at hk;have hvs:=vC h c.args.toList;have hrun:∀{u:Value}{cs:Array Bool}{w:World},(builtin b c.argTypes o.type (c.args.map fun|.const _=>true|_=>false) (c.args.map a.eval)).run P w=.ok (.value u) w→(execOp a.eval o).run P w=.ok (.value u) w:=by intro u _ w hu;unfold execOp;rw[ho];simp only[run_bind,resolve,hb,run_pure,invoke];exact hu
 have mr:(c.args.map a.eval).toList=c.args.toList.map a.eval:=by simp
 cases b with
 |append=>exact absurd rfl hne
 |clear=>exact absurd rfl agf
 |len=>
  generalize hl:c.args.toList.map (bZ s)=l at hk hvs
  match l,hk,hvs with
  | [.aU kI],hk,hvs=>
   simp only[kF]at hk
   cases g_:c.argTypes.toList with
   |nil=>rw[g_]at hk;simp at hk
   |cons t ak=>
    rw[g_]at hk;simp only at hk
    cases ht:E.ty t with
    |none=>rw[ht]at hk;simp at hk
    |some T=>
     rw[ht]at hk;simp only at hk;cases hf:lJ s T kI
     ·rw[hf]at hk;simp at hk
     rw[hf]at hk;simp only[cond_true]at hk
     cases hlen:oY s kI with
     |none=>rw[hlen]at hk;simp at hk
     |some m=>
      rw[hlen]at hk;simp only[a8,aV]at hvs;obtain⟨u,us,he,hc,rfl⟩:=hvs;have n5:(c.args.map a.eval)[0]?=some u:=by rw[←Array.getElem?_toList,mr,he];rfl
      have qh:c.argTypes[0]?=some t:=by rw[←Array.getElem?_toList,g_];rfl
      have cp:=b5.ty _ _ ht;refine⟨_,hk,dM (v:=.int .i64 m) (fun w'=>hrun (cs:= #[]) ?_) h (by simp only[aV,cz]) af⟩;unfold builtin;refine gw ?_;unfold Builtin.len_;rw[n5,qh];simp only
      have agh:T=.str∨∃u,T=.sl u:=by
       cases kI<;>simp only[lJ]at hf<;>try (simp at hf;done)
       ·exact .inl (beq_eq hf)
       ·exact .inr ⟨_,beq_eq hf⟩
       ·exact .inr ⟨_,beq_eq hf⟩
       ·split at hf
        ·exact .inr ⟨_,beq_eq hf⟩
        ·simp at hf
      rcases agh with rfl|⟨v,rfl⟩
      ·rw[run_bind,run_underlying (yB cp)];cases kI<;>simp only[lJ]at hf<;>try (simp[ad.beq]at hf;done)
       ·obtain⟨kn,rfl,rfl⟩:=hc;simp only[oY,Option.some.injEq]at hlen;subst hlen;rfl
       ·split at hf<;>simp[ad.beq]at hf
      ·obtain⟨e,hu,_⟩:=mo cp;rw[run_bind,run_underlying hu];obtain⟨A,k,rfl,_⟩:=Mh rfl hf hlen hc;rfl
  | [],hk,_=>simp[kF]at hk
  |_::_::_,hk,_=>simp[kF]at hk
  | [.bB],hk,_| [.iV _],hk,_| [.ptr _],hk,_| [.dA _ _ _],hk,_| [.kD],hk,_| [.lG],hk,_| [.opt _ _],hk,_| [.may _ _ _],hk,_| [.td _],hk,_| [.fn _ _ _],hk,_| [.p6 _],hk,_=>simp[kF]at hk
 |max=>
  simp only[kF]at hk
  cases hm:yb true (c.args.toList.map (bZ s))with
  |none=>rw[hm]at hk;simp at hk
  |some q=>
   obtain⟨k,z⟩:=q;rw[hm]at hk;simp only at hk;refine⟨_,hk,dM (v:=.int k z) (fun w'=>hrun (cs:= #[]) ?_) h (by simp only[aV,cz]) af⟩;unfold builtin;refine gw ?_;unfold Builtin.max_;rw[mr];generalize c.args.toList.map (bZ s)=l at hm hvs;generalize c.args.toList.map a.eval=vs at hvs;unfold yb at hm;split at hm
   ·simp only[a8,aV,cz]at hvs;obtain⟨u,us,rfl,rfl,h2⟩:=hvs;exact Mm _ _ us k z h2 hm
   ·simp at hm
 |min=>
  simp only[kF]at hk
  cases hm:yb false (c.args.toList.map (bZ s))with
  |none=>rw[hm]at hk;simp at hk
  |some q=>
   obtain⟨k,z⟩:=q;rw[hm]at hk;simp only at hk;refine⟨_,hk,dM (v:=.int k z) (fun w'=>hrun (cs:= #[]) ?_) h (by simp only[aV,cz]) af⟩;unfold builtin;refine gw ?_;unfold Builtin.min_;rw[mr];generalize c.args.toList.map (bZ s)=l at hm hvs;generalize c.args.toList.map a.eval=vs at hvs;unfold yb at hm;split at hm
   ·simp only[a8,aV,cz]at hvs;obtain⟨u,us,rfl,rfl,h2⟩:=hvs;exact Mm _ _ us k z h2 hm
   ·simp at hm
 |_=>simp[kF]at hk
end
end Go.LM
namespace Go.LM
theorem U_{α:Type}:∀(B:List (List α)) (i:Nat) (b cs:List α),B[i]?=some b→cs.length=b.length→(B.set i cs).flatten=dw B.flatten (B.take i).flatten.length cs
 | [],i,b,cs,h,_=>by simp at h
 |x::B,0,b,cs,h,hl=>by simp at h;subst h;simp only[List.set_cons_zero,List.flatten_cons,List.take_zero,List.flatten_nil,List.length_nil];unfold dw;simp[hl]
 |x::B,i+1,b,cs,h,hl=>by simp only[List.getElem?_cons_succ]at h;simp only[List.set_cons_succ,List.flatten_cons,List.take_succ_cons,List.length_append];rw[Uw (by omega),U_ B i b cs h hl];congr 2;omega
theorem agi{α:Type}{B:List (List α)}{i:Nat}{b:List α}(h:B[i]?=some b):(B.take i).flatten.length+b.length≤B.flatten.length:=by
 induction B generalizing i with
 |nil=>simp at h
 |cons x B ih=>
  cases i with
  |zero=>simp at h;subst h;simp
  |succ i=>simp only[List.getElem?_cons_succ]at h;have:=ih h;simp only[List.take_succ_cons,List.flatten_cons,List.length_append];omega
theorem U':∀(vs:List Value) (k off:Nat) (cells:Array Value),off+k+vs.length≤cells.size →
  ((vs.zipIdx k).foldl (fun cs (c,j)=>cs.setIfInBounds (off+j) c) cells).toList=dw cells.toList (off+k) vs
 | [],k,off,cells,_=>by simp[Ef]
 |v::vs,k,off,cells,h=>by
  simp only[List.length_cons]at h;rw[List.zipIdx_cons,List.foldl_cons,U' vs (k+1) off _ (by simp;omega)];simp only[Array.toList_setIfInBounds];have bQ:off+k<cells.toList.length:=by simp;omega
  apply List.ext_getElem?;intro j;unfold dw;simp only[List.getElem?_append,List.length_append,List.length_take,List.length_set,List.length_cons,List.getElem?_take,List.getElem?_drop,List.getElem?_set];have tD:min (off +(k+1)) cells.toList.length=off+k+1:=by omega
  have tw:min (off+k) cells.toList.length=off+k:=by omega
  rw[tD,tw];by_cases h1:j<off+k
  ·have:j≠off+k:=by omega
   simp[show j<off+k+1+vs.length by omega,show j<off+k+1 by omega,show j<off +(k+1) by omega,show j<off+k +(vs.length+1) by omega,h1,Ne.symm this]
  ·by_cases h2:j=off+k
   ·subst h2;simp only[Array.length_toList]at bQ;simp[show off+k<off+k+1+vs.length by omega,show off+k<off +(k+1) by omega,bQ]
   ·by_cases h3:j<off+k+1+vs.length
    ·rw[if_pos h3,if_neg (show ¬j<off+k+1 by omega),if_pos (show j<off+k +(vs.length+1) by omega),if_neg h1];rw[show j-(off+k)=(j-(off+k+1))+1 by omega,List.getElem?_cons_succ]
    ·rw[if_neg h3,if_neg (show ¬j<off+k +(vs.length+1) by omega)];rw[if_neg (by omega)];congr 1;omega
def Mn(place:Nat→Option (Nat×Nat))(ty:Nat→Option ad)(lens:List Nat):Prop:=
 ∀i t,ty i=some t→place i=some ((lens.take i).sum,t.size)∧lens[i]?=some t.size
section
variable{P:Program}{Q:Exit→Act→World→Prop}
variable{w0:World}{F0 Z0:ah}{n:cN}{s au:az}{a b8:Act}{w w':World}{ι bp:Nat→bI}{Z Z':ah}
variable{E:Env}{o:Oper}{bC:Type}{K:az→Option bC}{r:bC}{id:Nat}
theorem agj{α:Type}(B:List (List α)):B.flatten.length=(B.map List.length).sum:=by simp[List.length_flatten]
theorem Mo(h:Inv w0 F0 Z0 n s a w ι Z){place:Nat→Option (Nat×Nat)}{ty:Nat→Option ad}{lens:List Nat}(hM:Mn place ty lens):
  ∀(ps:List (Nat×Operand)) (B kN:List (List ba)) (cells:Array Value),B.map List.length=lens→bO w Z s ι B.flatten cells.toList→tf s ty ps B=some kN →
   ∃n6,Instr.fill place cells (ps.map fun p=>(p.1,a.eval p.2))=some n6∧bO w Z s ι kN.flatten n6.toList∧kN.map List.length=lens
 | [],B,kN,cells,hl,hc,hf=>by simp only[tf,Option.some.injEq]at hf;subst hf;exact⟨cells,rfl,hc,hl⟩
 |(i,x)::ps,B,kN,cells,hl,hc,hf=>by
  simp only[tf]at hf
  cases ht:ty i with
  |none=>rw[ht]at hf;simp at hf
  |some t=>
   rw[ht]at hf;simp only at hf
   cases hcs:jo t (bZ s x)with
   |none=>rw[hcs]at hf;simp at hf
   |some cs=>
    rw[hcs]at hf;simp only at hf;cases hb:Nat.beq cs.length t.size
    ·rw[hb]at hf;simp at hf
    rw[hb]at hf;simp only[cond_true]at hf;have hb:=Nat.eq_of_beq_eq_true hb;obtain⟨av,rC⟩:=hM i t ht;have hx:=tt hcs (fk h x);have hxl:=hx.len;rw[hb]at hxl
    have agk:∃b,B[i]?=some b∧b.length=t.size:=by
     rw[←hl,List.getElem?_map]at rC
     cases yC:B[i]? with
     |none=>rw[yC]at rC;simp at rC
     |some b=>rw[yC]at rC;simp at rC;exact⟨b,rfl,rC⟩
    obtain⟨b,yC,AU⟩:=agk;have fW:(B.take i).flatten.length=(lens.take i).sum:=by rw[agj,←hl,List.map_take]
    have hle:=agi yC;have hcl:=hc.len;simp only[Array.length_toList]at hxl hcl;have hnew:bO w Z s ι (B.set i cs).flatten (dw cells.toList (lens.take i).sum (a.eval x).cells.toList):=by rw[U_ B i b cs yC (by omega),fW];unfold dw;have:=bO.dw hc hx (lens.take i).sum;unfold dw at this;exact this
    have agl:(B.set i cs).map List.length=lens:=by
     rw[List.map_set,hl];apply List.ext_getElem?;intro j;rw[List.getElem?_set];by_cases hj:i=j
     ·subst hj;rw[rC,if_pos rfl]
      have:i<lens.length:=by
       rcases Nat.lt_or_ge i lens.length with h|h
       ·exact h
       ·rw[List.getElem?_eq_none h]at rC;simp at rC
      rw[if_pos this,hb]
     ·rw[if_neg hj]
    have agm:=U' (a.eval x).cells.toList 0 (lens.take i).sum cells (by simp;omega)
    have ih:=Mo h hM ps (B.set i cs) kN (((a.eval x).cells.zipIdx).foldl (fun cs (c,j)=>cs.setIfInBounds ((lens.take i).sum+j) c) cells) agl (by
     rw[←Array.foldl_toList,Array.toList_zipIdx]
     rw[agm];exact hnew) hf
    obtain⟨n6,h1,h2,h3⟩:=ih;refine⟨n6,?_,h2,h3⟩;rw[List.map_cons];unfold Instr.fill;rw[av];simp only;rw[if_neg (by simp only[Bool.or_eq_true,decide_eq_true_eq,not_or,ne_eq,Decidable.not_not];omega)];exact h1
def aA.places:aA→Nat→List (Nat×Nat)
 |.nil,_=>[]
 |.cons t ak,off=>(off,t.size)::aA.places ak (off+t.size)
theorem Va:∀(ak:aA) (cF:List Field) (off:Nat),ak.okF P cF off→cF.mapM (fun f=>(P.info? f.type).map fun i=>(f.offset,i.size))=some (ak.places off)
 |.nil,cF,off,h=>by simp only[aA.okF]at h;subst h;rfl
 |.cons t ak,cF,off,h=>by simp only[aA.okF]at h;obtain⟨f,mm,rfl,rfl,h1,h2⟩:=h;obtain⟨i,hi,hsz,_⟩:=h1.info;have ih:=Va ak mm _ h2;simp only[List.mapM_cons,hi,Option.map_some,ih,aA.places,hsz];rfl
theorem Vb:∀ak:aA,ak.oZ.flatten=ak.j1
 |.nil=>rfl
 |.cons t ak=>by simp only[aA.oZ,aA.j1,List.flatten_cons,Vb ak]
theorem Mp(t:ad):t.j1.length=t.size:=by have:=(tu (w:=default) (Z:=ah.none) (s:=⟨fun _=>.bB,fun _=>.none,[]⟩) (ι :=fun _=>⟨none,0,ah.none⟩) t).len;rw[←this,ad.mn]
theorem Vc:∀(ak:aA) (off:Nat) (i:Nat) (t:ad),ak.nth i=some t→(ak.places off)[i]?=some (off +((ak.oZ.map List.length).take i).sum,t.size)∧(ak.oZ.map List.length)[i]?=some t.size
 |.nil,_,_,_,h=>by simp[aA.nth]at h
 |.cons u ak,off,0,t,h=>by simp only[aA.nth,Option.some.injEq]at h;subst h;simp[aA.places,aA.oZ,Mp]
 |.cons u ak,off,i+1,t,h=>by simp only[aA.nth]at h;obtain⟨h1,h2⟩:=Vc ak (off+u.size) i t h;simp only[aA.places,aA.oZ,List.map_cons,List.getElem?_cons_succ,List.take_succ_cons,List.sum_cons,Mp];exact⟨by rw[h1];simp;omega,h2⟩
theorem Vd{t:Nat}{parts:Array (Nat×Operand)}(b5:hL P E)(h:Inv w0 F0 Z0 n s a w ι Z)(af:∀k,o.dst=some k→k<n)(ho:o.op=.build t parts)(hk:c0 E id o s K=some r):
  ∃au,K au=some r∧Pure P o a w (c6 w0 F0 Z0 n au):=by
 unfold c0 at hk;rw[ho]at hk;simp only at hk
 cases ht:E.ty t with
 |none=>rw[ht]at hk;simp at hk
 |some T=>
  rw[ht]at hk
  cases T with
  |st ak=>
   simp only at hk
   cases hf:tf s ak.nth parts.toList ak.oZ with
   |none=>rw[hf]at hk;simp at hk
   |some B=>
    rw[hf]at hk;have cp:=b5.ty t _ ht;obtain⟨it,m7,gF,yz,Mk⟩:=cp.info;simp only[ad.ok]at cp;obtain⟨_,cF,hu,lM⟩:=cp;have gx:=Va ak cF.toList 0 lM;have AU:Mn ((ak.places 0).toArray[·]?) ak.nth (ak.oZ.map List.length):=by intro i cQ hi;have:=Vc ak 0 i cQ hi;simpa using this
    obtain⟨n6,h1,h2,h3⟩:=Mo h AU parts.toList ak.oZ B (dW (.st ak) (ad.st ak).cU).cells rfl (by rw[Vb,yy];exact tu (.st ak)) hf;refine⟨_,hk,dM (v:=.agg n6) (fun w'=>?_) h (by simp only[aV];exact⟨n6.toList,rfl,h2⟩) af⟩;unfold execOp;rw[ho];refine gw ?_;refine run_build w' t _ n6 ?_;unfold Program.built;rw[m7,hu];simp only[yz,gx];rw[←h1];congr 1;simp
  |_=>simp at hk
theorem Ve{t:ad}{m:bg}{x:t.D}{us:List Value}{F:ah}(h:t.ar w (Z.or (dz ι [])) m x us F):t.ar w Z m x us F:=
 ad.ar.mono (fun b o hz=>by rcases hz with h|⟨d,af,_⟩;exact h;simp at af) t m (fun _ _ h=>h) h
theorem Vf:∀(B:List (List ba)) (t:ad) (m:bg) (s s1:az) (xs:List t.D) (vs:List Value) (Z:ah),rk t m B s=some (xs,s1)→Inv w0 F0 Z0 n s a w ι Z→bO w Z s ι B.flatten vs →
  ∃F Z',Inv w0 F0 Z0 n s1 a w ι Z'∧ft s ι Z s1 Z'∧bM w0 F0 s1 w ι Z' F∧da (t.ar w Z' m) t.size xs vs F∧∀b o,F b o→∃id,(s.o id).live∧(ι id).F b o
 | [],t,m,s,s1,xs,vs,Z,hi,h,hc=>by
  simp only[rk,Option.some.injEq,Prod.mk.injEq]at hi;obtain⟨rfl,rfl⟩:=hi
  cases vs with
  |nil=>exact⟨ah.none,Z,h,.refl,.none,rfl,fun _ _ h=>h.elim⟩
  |cons v vs=>exact hc.elim
 |cs::B,t,m,s,s1,xs,vs,Z,hi,h,hc=>by
  simp only[rk]at hi;obtain⟨r,hr,hi⟩:=bb hi;rw[List.flatten_cons]at hc;obtain⟨us,ak,rfl,rv,hcu,agn⟩:=hc.split;obtain⟨aY,bK,F,cI,he,h1,hs1,hc1,pb,cT,_,Vg,_,hF⟩:=ad.mi t false m cs s [] r us Z hr h hcu (by simp)
  cases eJ:r.2.1 with
  |cons c l=>rw[eJ]at hi;simp at hi
  |nil=>
   rw[eJ]at hi hc1;simp only at hi;obtain⟨q,hq,hi⟩:=bb hi;simp only[Option.some.injEq,Prod.mk.injEq]at hi;obtain⟨rfl,rfl⟩:=hi
   cases bK with
   |cons v l=>exact hc1.elim
   |nil=>
    rw[List.append_nil]at he;subst he;rw[Vg rfl]at cT;have cT:=Ve cT;obtain⟨G,bR,h2,pc,hf2,hels,hG⟩:=Vf B t m r.2.2.1 q.2 q.1 ak cI hq h1 (afO hs1 agn);refine⟨F.or G,bR,h2,hs1.trans pc,(pb.shrink pc).or hf2,⟨us,ak,F,G,rfl,ad.ar.mono pc.dU t m (fun _ _ h=>h) cT,(ad.ar.len t m cT).1,hels,?_,fun _ _ h=>.inl h,fun _ _ h=>.inr h⟩,?_⟩
    ·intro b o hb aB;obtain⟨j,hj,AV⟩:=hG b o aB;exact pb.apart j hj b o hb AV
    ·rintro b o (hb|hb)
     ·exact hF b o hb
     ·obtain⟨j,hj,AV⟩:=hG b o hb;obtain⟨g1,g2⟩:=hs1.live hj;exact⟨j,g1,AV⟩
theorem Vh{t:ad}{m:bg}:∀(B:List (List ba)) (s:az) {xs:List t.D}{s1:az},rk t m B s=some (xs,s1)→xs.length=B.length
 | [],s,xs,s1,h=>by simp only[rk,Option.some.injEq,Prod.mk.injEq]at h;rw[←h.1];rfl
 |cs::B,s,xs,s1,h=>by
  simp only[rk]at h;obtain⟨r,hr,h⟩:=bb h;split at h
  ·obtain⟨q,hq,h⟩:=bb h;simp only[Option.some.injEq,Prod.mk.injEq]at h;rw[←h.1,List.length_cons,List.length_cons,Vh B _ hq]
  ·simp at h
theorem ago{T:ad}{t e len:Nat}{parts:Array (Nat×Value)}{cells:Array Value}(hu:P.underlying t=some (.slice e))(cp:T.ok P e)(hs:len*T.size≤16777216)
  (hf:Instr.fill (fun i=>some (i*T.size,T.size)) ((Array.range (len*T.size)).map ((if len*T.size=0 then #[] else(dW T T.cU).cells)[· % (if len*T.size=0 then #[] else(dW T T.cU).cells).size]!)) parts.toList=some cells):
  (Instr.buildSlice t len parts).run P w=.ok (.slice (some (at_ w.heap.size 0)) len len) (grown w w.drawn cells e (0,0)):=by
 unfold Instr.buildSlice;simp only[run_bind,run_underlying hu,run_sizeOf cp];rw[if_neg (by omega)];by_cases hz:len*T.size=0
 ·simp only[hz,if_true]at hf⊢;simp only[run_bind,run_pure,hf,En]
 ·simp only[hz,if_false]at hf⊢;simp only[run_bind,run_pure,Eh cp,hf,En]
theorem agp{t len:Nat}{parts:Array (Nat×Operand)}(b5:hL P E)(h:Inv w0 F0 Z0 n s a w ι Z)(af:∀k,o.dst=some k→k<n)(ho:o.op=.buildSlice t len parts)(hk:c0 E id o s K=some r):
  ∃au,K au=some r∧o.wp P a w (c6 w0 F0 Z0 n au) Q:=by
 unfold c0 at hk;rw[ho]at hk;simp only at hk
 cases ht:E.ty t with
 |none=>rw[ht]at hk;simp at hk
 |some S=>
  rw[ht]at hk
  cases S with
  |sl T=>
   simp only at hk;cases hle:Nat.ble (len*T.size) 16777216
   ·rw[hle]at hk;simp at hk
   rw[hle]at hk;simp only[cond_true]at hk;have hle:=Nat.le_of_ble_eq_true hle
   cases hf:tf s (fun i=>cond (Nat.blt i len) (some T) none) parts.toList (List.replicate len T.j1)with
   |none=>rw[hf]at hk;simp at hk
   |some B=>
    rw[hf]at hk;simp only at hk;generalize hm:LB T s B=m at hk
    cases hi:rk T m B s with
    |none=>rw[hi]at hk;simp at hk
    |some q=>
     obtain⟨xs,s1⟩:=q;rw[hi]at hk;simp only at hk
     cases n3:mkObj s1 id (.row T m 0 xs)with
     |none=>rw[n3]at hk;simp at hk
     |some s2=>
      rw[n3]at hk;obtain⟨cm,rfl⟩:=rz n3;obtain⟨e,hu,cp⟩:=mo (b5.ty t _ ht)
      have AU:Mn (fun i=>some (i*T.size,T.size)) (fun i=>cond (Nat.blt i len) (some T) none) (List.replicate len T.size):=by
       intro i cQ hi;have hi:cond (Nat.blt i len) (some T) none=some cQ:=hi;cases hb:Nat.blt i len
       ·rw[hb]at hi;simp at hi
       ·rw[hb]at hi;simp only[cond_true,Option.some.injEq]at hi;subst hi;have bQ:i<len:=Nat.lt_of_lt_of_le (Nat.lt_succ_self i) (Nat.le_of_ble_eq_true hb);refine⟨?_,by simp[List.getElem?_replicate,bQ]⟩;rw[List.take_replicate,Nat.min_eq_left (by omega)];simp
      have agq:∀k,bO w Z s ι (List.replicate k T.j1).flatten (List.replicate k T.cU).flatten:=by
       intro k
       induction k with
       |zero=>exact trivial
       |succ k ih=>rw[List.replicate_succ,List.replicate_succ,List.flatten_cons,List.flatten_cons];exact(tu T).append ih
      have hcells:((Array.range (len*T.size)).map ((if len*T.size=0 then #[] else(dW T T.cU).cells)[· % (if len*T.size=0 then #[] else(dW T T.cU).cells).size]!)).toList=(List.replicate len T.cU).flatten:=by
       apply List.ext_getElem?;intro j;have iJ:(List.replicate len T.cU).flatten.length=len*T.size:=by simp[ad.mn]
       by_cases hj:j<len*T.size
       ·have hz:¬len*T.size=0:=by omega
        simp only[if_neg hz];obtain⟨v,hv⟩:∃v,(List.replicate len T.cU).flatten[j]?=some v:=⟨_,List.getElem?_eq_getElem (by omega)⟩
        rw[hv,Array.getElem?_toList];exact Mj T.cU len (yy T) (by rw[ad.mn]) v hv
       ·rw[List.getElem?_eq_none (by simp;omega),List.getElem?_eq_none (by omega)]
      obtain⟨n6,h1,h2,h3⟩:=Mo h AU parts.toList (List.replicate len T.j1) B _ (by simp[Mp]) (by rw[hcells];exact agq len) hf;obtain⟨F,cI,m7,hs1,pb,hels,_⟩:=Vf B T m s s1 xs _ Z hi h h2
      have hxl:xs.length=len:=by
       have e1:B.length=len:=by have:=congrArg List.length h3;simpa using this
       rw[←e1];exact Vh B s hi
      have hcs:len*T.size≤n6.size:=by have:=hels.len;simp only[Array.length_toList]at this;rw[hxl]at this;omega
      have hn:=m7.newRow cm hels pb w.drawn n6 e (0,0) len (fun j v hv=>by simpa using hv) (by omega) hcs (.inl rfl) (.inr rfl);refine⟨_,hk,m3 (v:=.slice (some (at_ w.heap.size 0)) len len) ?_ hn ?_ af⟩
      ·unfold execOp;rw[ho];refine gw ?_;refine ago hu cp hle ?_;rw[←h1];congr 1;simp
      ·simp only[aV];have:=AS (w:=grown w w.drawn n6 e (0,0)) (Z:=cI) (s:=s1) (ι :=ι) (id:=id) (em:=m) (ver:=0) (xs:=xs) (A:=at_ w.heap.size 0) (c:=len) (F:=(ah.run w.heap.size 0 (len*T.size)).or F) rfl (by omega);rw[hxl]at this;exact this
  |_=>simp at hk
end
end Go.LM
namespace Go.LM
section
variable{P:Program}{Q:Exit→Act→World→Prop}
variable{w0:World}{F0 Z0:ah}{n:cN}{s au:az}{a b8:Act}{w w':World}{ι bp:Nat→bI}{Z Z':ah}
variable{E:Env}{o:Oper}{bC:Type}{K:az→Option bC}{r:bC}{id:Nat}
theorem Inv.Eo(h:Inv w0 F0 Z0 n s a w ι Z){S:ah}(hF:bM w0 F0 s w ι Z S)(hx:Ext w w' S):Inv w0 F0 Z0 n s a w' ι Z:=by
 have hm:e5 w Z s ι w' Z s ι :=by
  refine⟨fun id=>.stay _ _,fun _ _ h=>h,ch.jv hx h.tr ?_⟩
  rintro b o (hz|⟨id,hl,_,_,hf⟩) hs
  ·exact hF.db b o hs hz
  ·exact hF.apart id hl b o hs hf
 refine h.next hm hx (fun b o hs=>(hF.own b o hs).1) (fun _ _ h=>.inl h) ?_ h.db (fun k=>(h.tmps k).move hm) h.size h.defers;intro id _ hne;exact absurd ⟨rfl,rfl⟩ hne
theorem Inv.freeze(h:Inv w0 F0 Z0 n s a w ι Z){S:ah}(hF:bM w0 F0 s w ι Z S):Inv w0 F0 Z0 n s a w ι (Z.or S):=by
 have hm:e5 w Z s ι w (Z.or S) s ι :=⟨fun id=>.stay _ _,fun _ _ h=>.inl h,ch.refl _ _⟩;refine h.next hm (Ext.refl _ ah.none) (fun _ _ h=>h.elim) ?_ ?_ ?_ (fun k=>(h.tmps k).move hm) h.size h.defers
 ·rintro b o (hz|hs)
  ·exact .inl hz
  ·exact .inr (hF.own b o hs)
 ·intro id _ hne;exact absurd ⟨rfl,rfl⟩ hne
 ·rintro id hl b o h1 (h2|h2)
  ·exact h.db id hl b o h1 h2
  ·exact hF.apart id hl b o h2 h1
theorem bM.freeze{F S:ah}(hF:bM w0 F0 s w ι Z F)(ha:ah.apart F S):bM w0 F0 s w ι (Z.or S) F:=
 ⟨hF.own,hF.apart,fun b o h1 h2=>h2.elim (hF.db b o h1) (ha b o h1)⟩
theorem bM.sub{F G:ah}(hF:bM w0 F0 s w ι Z F)(h:ah.sub G F):bM w0 F0 s w ι Z G:=
 ⟨fun b o aB=>hF.own b o (h b o aB),fun id hl b o aB=>hF.apart id hl b o (h b o aB),fun b o aB=>hF.db b o (h b o aB)⟩
def ah.diff(F G:ah):ah:=fun b o=>F b o∧¬G b o
theorem D2{t:ad}{m:bg}:∀{xs:List t.D}{vs:List Value}{F:ah},da (t.ar w Z m) t.size xs vs F→∀v∈vs,eC v=true
 | [],_,_,h=>by simp only[da]at h;subst h;simp
 |x::xs,_,_,⟨us,ak,G,H,h1,h2,h3,h4,_⟩=>by
  subst h1;intro v hv;rcases List.mem_append.1 hv with h|h
  ·exact(ad.ar.len t m h2).2 v h
  ·exact D2 h4 v h
theorem ta{A:Option Addr}{size m c:Nat}{vs:List Value}(hl:vs.length=m*size)(h:m=0∨∃b o,A=some (at_ b o)∧cf w b o vs):
  (Builtin.firstCells size m (.slice A m c)).run P w=.ok vs.toArray w:=by
 unfold Builtin.firstCells;rcases h with rfl|⟨b,o,rfl,hc⟩
 ·have:vs=[]:=List.eq_nil_of_length_eq_zero (by simpa using hl);subst this
  cases A with
  |none=>rfl
  |some A=>simp only[Nat.zero_mul];rfl
 ·simp only[←hl];exact run_loadCells hc
theorem Ep{t:ad}{e:bg}{xs:List t.D}{v:Value}{F:ah}(h:(ad.sl t).ar w Z (.O e) xs [v] F):
  ∃A c vs,v=.slice A xs.length c∧da (t.ar w Z e) t.size xs vs F∧∀d,(Builtin.firstCells t.size xs.length v).run P { w with drawn:=d } = .ok vs.toArray { w with drawn:=d }:=by
 simp only[ad.ar]at h;obtain⟨A,c,hv,h⟩:=h;simp only[List.cons.injEq,and_true]at hv;subst hv;rcases h with⟨rfl,rfl⟩|⟨⟨b,o,sp⟩,rfl,hr⟩
 ·exact⟨A,0,[],rfl,rfl,fun d=>ta (by simp) (.inl rfl)⟩
 ·obtain⟨G,g1,g2,g3⟩:=hr.row;have hsp:=hr.spot;simp only at hsp;subst hsp;obtain⟨vs,h1,h2⟩:=g1.ve;exact⟨_,c,vs,rfl,h1.mono g3,fun d=>ta h1.len (.inr ⟨b,o,rfl,h2⟩)⟩
theorem agr{t:ad}{xs:List t.D}{v:Value}{F:ah}(h:(ad.sl t).ar w Z .R xs [v] F):
  ∃A c vs,v=.slice A xs.length c∧da (t.ar w Z .R) t.size xs vs ah.none∧∀d,(Builtin.firstCells t.size xs.length v).run P { w with drawn:=d } = .ok vs.toArray { w with drawn:=d }:=by
 simp only[ad.ar]at h;obtain⟨A,c,hv,h⟩:=h;simp only[List.cons.injEq,and_true]at hv;subst hv;rcases h with rfl|⟨⟨b,o,sp⟩,rfl,hsp,hr,_,_⟩
 ·exact⟨A,c,[],rfl,rfl,fun d=>ta (by simp) (.inl rfl)⟩
 ·simp only at hsp;subst hsp;obtain⟨vs,h1,h2⟩:=hr.ve;exact⟨_,c,vs,rfl,h1.imp (fun y us G hs hr=>tj hr |> fun h=>ad.ar.mono (fun _ _ h=>h) t .R (fun _ _ h=>h.elim) h),fun d=>ta h1.len (.inr ⟨b,o,rfl,h2⟩)⟩
theorem Vi{t:ad}{c:ba}{v:Value}{lh:bg}{ys:List t.D}{s1:az}(ha:added s t c=some (lh,ys,s1))(h:Inv w0 F0 Z0 n s a w ι Z)(hc:cz w Z s ι c v):
  ∃vs F,(Builtin.lenOf v).run P w=.ok ys.length w∧(∀d,(Builtin.firstCells t.size ys.length v).run P { w with drawn:=d } = .ok vs.toArray { w with drawn:=d })∧da (t.ar w Z lh) t.size ys vs F ∧
   Inv w0 F0 Z0 n s1 a w ι Z∧ft s ι Z s1 Z∧bM w0 F0 s1 w ι Z F:=by
 cases c with
 |nil u=>simp only[added]at ha;obtain⟨x,hx,ha⟩:=bb ha;obtain⟨e,rfl⟩:=hK hx;subst e;simp only[Option.some.injEq,Prod.mk.injEq]at ha;obtain⟨rfl,rfl,rfl⟩:=ha;have hv:v=.slice none 0 0:=hc;subst hv;exact⟨[],ah.none,rfl,fun _=>rfl,rfl,h,.refl,.none⟩
 |bG u dp cJ xs=>
  simp only[added]at ha;cases dN:alive s dp
  ·rw[dN]at ha;simp at ha
  cases iJ:(t.flat||dp.isEmpty)
  ·rw[dN,iJ]at ha;simp at ha
  rw[dN,iJ]at ha;simp only[Bool.and_self,cond_true]at ha;obtain⟨x,hx,ha⟩:=bb ha;obtain⟨e,rfl⟩:=hK hx;subst e;simp only[Option.some.injEq,Prod.mk.injEq]at ha;obtain⟨rfl,rfl,rfl⟩:=ha;obtain⟨A,tC,vs,rfl,h1,h2⟩:=agr (P:=P) (hc.2.2.1 dN);refine⟨vs,ah.none,rfl,h2,?_,h,.refl,.none⟩;simp only[Bool.or_eq_true,List.isEmpty_iff]at iJ;rcases iJ with iJ|rfl
  ·exact h1.imp fun y us G _ hr=>tc u iJ hr
  ·exact h1.imp fun y us G _ hr=>Ve hr
 |af j sub=>
  simp only[added]at ha;obtain⟨hk,A,m,tC,rfl,hh⟩:=hc
  cases ho:s.o j with
  |row u em ver xs=>
   rw[ho]at ha;have c9:=h.gp j;rw[ho]at c9;have cn:(s.o j).live:=by rw[ho];trivial
   have n7:=ym c9 (hh u em ver xs (mg ho))
   cases em with
   |R=>simp only at ha;obtain⟨x,hx,ha⟩:=bb ha;obtain⟨e,rfl⟩:=hK hx;subst e;simp only[Option.some.injEq,Prod.mk.injEq]at ha;obtain⟨rfl,rfl,rfl⟩:=ha;obtain⟨n2,c',vs,hv,h1,h2⟩:=Ep (P:=P) n7;refine⟨vs,ah.none,?_,h2,h1.bare fun y us G _ hr=>tj hr,h,.refl,.none⟩;rw[hv];rfl
   |O gX=>simp only at ha;obtain⟨x,hx,ha⟩:=bb ha;obtain⟨e,rfl⟩:=hK hx;subst e;simp only[Option.some.injEq,Prod.mk.injEq]at ha;obtain⟨rfl,rfl,rfl⟩:=ha;obtain⟨n2,c',vs,hv,h1,h2⟩:=Ep (P:=P) n7;refine⟨vs,(ι j).F,?_,h2,h1,h.take j (fun _ _ h=>h) (fun _ _ h=>.inl h),yl j cn,h.yk cn⟩;rw[hv];rfl
   |S ms=>simp only at ha;obtain⟨x,hx,ha⟩:=bb ha;obtain⟨e,rfl⟩:=hK hx;subst e;simp only[Option.some.injEq,Prod.mk.injEq]at ha;obtain⟨rfl,rfl,rfl⟩:=ha;obtain⟨n2,c',vs,hv,h1,h2⟩:=Ep (P:=P) n7;refine⟨vs,(ι j).F,?_,h2,h1,h.take j (fun _ _ h=>h) (fun _ _ h=>.inl h),yl j cn,h.yk cn⟩;rw[hv];rfl
  |_=>rw[ho]at ha;simp at ha
 |str b=>
  simp only[added]at ha;obtain⟨x,hx,ha⟩:=bb ha;obtain⟨e,rfl⟩:=hK hx;subst e;simp only[Option.some.injEq,Prod.mk.injEq]at ha;obtain⟨rfl,rfl,rfl⟩:=ha;obtain⟨kn,rfl,rfl⟩:=hc;have hlen:(eT kn.data.toList).length=kn.size:=by simp[eT]
  refine⟨(eT kn.data.toList).map (Value.int .u8),ah.none,?_,?_,Ml _,h,.refl,.none⟩
  ·rw[hlen];rfl
  ·intro d;rw[hlen];simp only[Builtin.firstCells,run_pure];congr 1;apply Array.ext';simp[eT]
 |_=>simp[added]at ha
theorem Vj{t:ad}{c:ba}{v:Value}{o0:bg}{xs:List t.D}{s1:az}(ha:taken s t c=some (o0,xs,s1))(h:Inv w0 F0 Z0 n s a w ι Z)(hc:cz w Z s ι c v):
  ∃F,(ad.sl t).ar w Z (.O o0) xs [v] F∧Inv w0 F0 Z0 n s1 a w ι Z∧ft s ι Z s1 Z∧bM w0 F0 s1 w ι Z F∧∀b o,F b o→∃id,(s.o id).live∧(ι id).F b o:=by
 cases c with
 |nil u=>simp only[taken]at ha;obtain⟨x,hx,ha⟩:=bb ha;obtain⟨e,rfl⟩:=hK hx;subst e;simp only[Option.some.injEq,Prod.mk.injEq]at ha;obtain⟨rfl,rfl,rfl⟩:=ha;have hv:v=.slice none 0 0:=hc;subst hv;refine⟨ah.none,?_,h,.refl,.none,fun _ _ h=>h.elim⟩;simp only[ad.ar];exact⟨none,0,rfl,.inl (by simp)⟩
 |af j sub=>
  simp only[taken]at ha;obtain⟨hk,A,m,tC,rfl,hh⟩:=hc
  cases ho:s.o j with
  |row u em ver xs=>
   rw[ho]at ha;simp only at ha;have c9:=h.gp j;rw[ho]at c9;have cn:(s.o j).live:=by rw[ho];trivial
   have n7:=ym c9 (hh u em ver xs (mg ho));obtain⟨x,hx,ha⟩:=bb ha;obtain⟨e,rfl⟩:=hK hx;subst e;simp only[Option.some.injEq,Prod.mk.injEq]at ha;obtain⟨rfl,rfl,rfl⟩:=ha;exact⟨(ι j).F,n7,h.take j (fun _ _ h=>h) (fun _ _ h=>.inl h),yl j cn,h.yk cn,fun b o hf=>⟨j,cn,hf⟩⟩
  |_=>rw[ho]at ha;simp at ha
 |_=>simp[taken]at ha
theorem ags{t:ad}{o0 lh:bg}{xs ys:List t.D}{v:Value}{vs:List Value}{lN hO:ah}(h:Inv w0 F0 Z0 n s a w ι Z)
  (hx:(ad.sl t).ar w Z (.O o0) xs [v] lN) (aR:da (t.ar w Z lh) t.size ys vs hO) (ha:bM w0 F0 s w ι Z lN) (hb:bM w0 F0 s w ι Z hO) (mu:ah.apart lN hO):
  ∃Z' Er Es,Inv w0 F0 Z0 n s a w ι Z'∧ah.sub Z Z'∧(ad.sl t).ar w Z' (.O (meet o0 lh)) xs [v] Er∧da (t.ar w Z' (meet o0 lh)) t.size ys vs Es∧bM w0 F0 s w ι Z' Er∧bM w0 F0 s w ι Z' Es∧ah.apart Er Es:=by
 unfold meet;cases hm:bg.beq o0 lh
 ·simp only[cond_false];obtain⟨F',h1,h2⟩:=Us hx;have dg:bM w0 F0 s w ι Z ((ah.diff lN F').or hO):=(ha.sub fun b o h=>h.1).or hb;refine⟨_,F',ah.none,h.freeze dg,fun _ _ h=>.inl h,ad.ar.mono ?_ _ _ (fun _ _ h=>h) h2,?_,?_,.none,fun _ _ _ h=>h⟩
  ·rintro b o (hz|hz)
   ·exact .inl hz
   ·exact .inr (.inl hz)
  ·exact aR.bare fun y us G hs hr=>ad.ar.read (fun _ _ h=>.inl h) t lh (fun b o aB=>.inr (.inr (hs b o aB))) hr
  ·refine(ha.sub h1).freeze ?_
   rintro b o hf (aB|aB)
   ·exact aB.2 hf
   ·exact mu b o (h1 b o hf) aB
 ·have:=bg.eq_of_beq _ _ hm;subst this;exact⟨Z,lN,hO,h,fun _ _ h=>h,hx,aR,ha,hb,mu⟩
theorem Lk(z:Array Value)(k:Nat):(Builtin.zeroCells z k).size=k*z.size:=by simp[Builtin.zeroCells]
theorem run_append_room{A:Option Addr}{m c k size:Nat}{vs:List Value}{vb:Value}{ig iE ty e:TypeId}{ats:Array TypeId}{args:Array Value}
  (h0:ats[0]?=some ig) (h1:ats[1]?=some iE) (h2:args[0]?=some (.slice A m c)) (h3:args[1]?=some vb) (hu:P.underlying ig=some (.slice e)) (hs:(sizeOf e).run P w=.ok size w)
  (kO:P.underlying iE=some .string∨∃gX,P.underlying iE=some (.slice gX)) (pd:m+k≤c) (hl:(Builtin.lenOf vb).run P w=.ok k w) (hf:(Builtin.firstCells size k vb).run P w=.ok vs.toArray w)
  (hst:∀a,A=some a→(storeCells (a.add (m*size)) vs).run P w=.ok () w') (hn:A=none→w'=w):(Builtin.append_ ats ty args).run P w=.ok (.slice A (m+k) c) w':=by
 unfold Builtin.append_;rcases kO with kO|⟨gX,kO⟩
 all_goals
  simp only[h0,h1,h2,h3,run_bind,run_underlying hu,hs,run_underlying kO,run_pure];simp only[Bool.false_eq_true,if_false,run_bind,hl,if_pos pd,Bool.not_false,if_true,hf]
  cases A with
  |none=>rw[hn rfl];rfl
  |some a=>simp only[run_bind,hst a rfl,run_pure]
theorem run_append_grow{A:Option Addr}{m c k size:Nat}{us vs:List Value}{vb z:Value}{ig iE ty e:TypeId}{ats:Array TypeId}{args:Array Value}{i:TypeInfo}
  (h0:ats[0]?=some ig) (h1:ats[1]?=some iE) (h2:args[0]?=some (.slice A m c)) (h3:args[1]?=some vb) (hu:P.underlying ig=some (.slice e)) (hi:P.info? e=some i) (hsz:i.size=size) (hz:i.zero=some z)
  (kO:P.underlying iE=some .string∨∃gX,P.underlying iE=some (.slice gX)) (pd:¬m+k≤c) (hl:(Builtin.lenOf vb).run P w=.ok k w)
  (Et:∀d,(Builtin.firstCells size m (.slice A m c)).run P { w with drawn:=d } = .ok us.toArray { w with drawn:=d })
  (hf:∀d,(Builtin.firstCells size k vb).run P { w with drawn:=d } = .ok vs.toArray { w with drawn:=d })
  (hr:m+k≤68719476736) (hb:i.bytes≤2048):
  ∃q,m+k≤q∧(Builtin.append_ ats ty args).run P w=.ok (.slice (some (at_ w.heap.size 0)) (m+k) q) (grown w (w.drawn+1) (us.toArray++vs.toArray++Builtin.zeroCells z.cells (q-(m+k))) e (0,0)):=by
 have hq:(Question.appendCap (m+k) c e).forced=false:=rfl;have agt:¬(((m+k:Nat):Int)>IntKind.i64.max):=by simp[IntKind.max,IntKind.signed,IntKind.bits];omega
 have agu:¬(Builtin.nextslicecap (m+k) c*i.bytes>2^48):=by have h1:=nextslicecap_le (need:=m+k) (old:=c) (by omega);have h2:Builtin.nextslicecap (m+k) c*i.bytes≤(2*68719476736)*2048:=Nat.mul_le_mul (by omega) hb;omega
 have agv:(sizeOf e).run P w=.ok size w:=by simp[sizeOf,run_bind,run_typeInfo hi,run_pure,hsz]
 have hzero:∀w:World,(zeroValue e).run P w=.ok z w:=by intro w;simp[zeroValue,run_bind,run_typeInfo hi,run_pure,hz]
 refine⟨m+k+w.tape w.drawn (.appendCap (m+k) c e)%(2^63-(m+k)),by omega,?_⟩;unfold Builtin.append_;rcases kO with kO|⟨gX,kO⟩
 all_goals
  simp only[h0,h1,h2,h3,run_bind,run_underlying hu,agv,run_underlying kO,run_pure];simp only[Bool.false_eq_true,if_false,run_bind,hl,if_neg pd,Bool.not_false,if_true,agt,false_and,run_typeInfo hi,agu,choose,Sem.run,hq,Question.cut,run_askRoom,Et,hf,hzero];rfl
theorem Vk{t:ad}{m:bg}{xs ys:List t.D}{mf vb:Value}{vs:List Value}{lN hO:ah}{ig iE ty e:TypeId}{ats:Array TypeId}{args:Array Value}
  (h0:ats[0]?=some ig) (h1:ats[1]?=some iE) (h2:args[0]?=some mf) (h3:args[1]?=some vb) (hu:P.underlying ig=some (.slice e)) (cp:t.ok P e)
  (kO:P.underlying iE=some .string∨∃gX,P.underlying iE=some (.slice gX)) (hroom:xs.length+ys.length≤68719476736)
  (h:Inv w0 F0 Z0 n s a w ι Z) (cm:s.o id=.none) (hx:(ad.sl t).ar w Z (.O m) xs [mf] lN) (aR:da (t.ar w Z m) t.size ys vs hO) (ha:bM w0 F0 s w ι Z lN) (hb:bM w0 F0 s w ι Z hO) (mu:ah.apart lN hO)
  (hl:(Builtin.lenOf vb).run P w=.ok ys.length w) (hf:∀d,(Builtin.firstCells t.size ys.length vb).run P { w with drawn:=d } = .ok vs.toArray { w with drawn:=d }):
  ∃u w' i,(Builtin.append_ ats ty args).run P w=.ok u w'∧Inv w0 F0 Z0 n (s.bV id (.row t m 0 (xs++ys))) a w' (bW ι id i) Z∧cz w' Z (s.bV id (.row t m 0 (xs++ys))) (bW ι id i) (.af id none) u:=by
 obtain⟨A,c,us,rfl,hex,Et⟩:=Ep (P:=P) hx;obtain⟨i,m7,gF,yz,Mk⟩:=cp.info;have AT:(dW t t.cU).cells.size=t.size:=by have:=congrArg List.length (yy t);rw[Array.length_toList,ad.mn]at this;exact this
 have Vl:(Builtin.firstCells t.size ys.length vb).run P w=.ok vs.toArray w:=hf w.drawn;have auF:(Builtin.firstCells t.size xs.length (.slice A xs.length c)).run P w=.ok us.toArray w:=Et w.drawn;have agw:=hex.len;have Vm:=aR.len;by_cases pd:xs.length+ys.length≤c
 ·
  have hrow:=hx;simp only[ad.ar]at hrow;obtain⟨n2,c',hv,hrow⟩:=hrow;simp only[List.cons.injEq,Value.slice.injEq,and_true,true_and]at hv;obtain⟨rfl,rfl⟩:=hv;rcases hrow with⟨rfl,rfl⟩|⟨⟨b,o,sp⟩,rfl,hr⟩
  ·have agx:ys=[]:=List.eq_nil_of_length_eq_zero (by simp at pd;simpa using pd);subst agx;have Vn:vs=[]:=List.eq_nil_of_length_eq_zero (by simpa using Vm);subst Vn;refine⟨.slice A 0 0,w,⟨none,0,ah.none⟩,?_,h.Ee cm (.inl ⟨rfl,rfl⟩) .none,?_⟩
   ·exact run_append_room h0 h1 h2 h3 hu (run_sizeOf cp) kO (Nat.le_refl 0) hl Vl (fun a _=>rfl) (fun _=>rfl)
   ·refine⟨by show bW s.o id _ id≠_;rw[cM];simp,A,0,0,rfl,?_⟩;intro cQ gN n4 gq ho;have tq:(bW s.o id (cD.row t m 0 ([]++[])) id).core=.row cQ gN n4 gq:=ho;rw[cM]at tq;obtain⟨rfl,_,_,h4⟩:=cD.row.inj tq;have:=eq_of_heq h4;subst this;exact⟨rfl,by simp[eH],Nat.le_refl _,by simp[eH],.inl rfl⟩
  ·have hsp:=hr.spot;simp only at hsp;subst hsp;obtain⟨G,g1,g2,g3⟩:=hr.row;have hle:(xs.length+ys.length)*t.size≤c*t.size:=Nat.mul_le_mul_right _ pd;rw[Nat.add_mul]at hle;have hwr:∀j,j<vs.length→fN w b (o+xs.length*t.size+j):=fun j hj=>by have:=(hr.wr (xs.length*t.size+j) (by omega)).1;rwa[←Nat.add_assoc]at this
   have dg:bM w0 F0 s w ι Z (ah.run b o (c*t.size)):=ha.sub (by
    rintro b' o' ⟨rfl,h1,h2⟩
    have:=hr.inF (o'-o) (by omega)
    rwa[show o +(o'-o)=o' by omega]at this)
   have agy:ah.apart G (ah.run b o (c*t.size)):=by
    rintro b' o' aB ⟨rfl,h1,h2⟩
    have:=g2 (o'-o) (by omega);exact this (by show G b' (o +(o'-o));rw[show o +(o'-o)=o' by omega];exact aB)
   have lO:Ext w (setCells w b (o+xs.length*t.size) vs) (ah.run b o (c*t.size)):=oX b vs w _ (fun j hj=>⟨rfl,by omega,by omega⟩);have hinv:=h.Eo dg lO;obtain⟨aY,k1,k2⟩:=g1.ve;have Vo:=k1.len;have n8:∀F,bM w0 F0 s w ι Z F→ah.apart F (ah.run b o (c*t.size))→ch w (setCells w b (o+xs.length*t.size) vs) F:=fun F hF Mq=>ch.jv lO (fun b o hf=>(hF.own b o hf).2) Mq
   have Vp:ch w (setCells w b (o+xs.length*t.size) vs) Z:=ch.jv lO h.jt (fun b o hz hs=>dg.db b o hs hz);have agz:bM w0 F0 s w ι Z G:=ha.sub g3
   have agA:ah.apart hO (ah.run b o (c*t.size)):=by
    rintro b' o' dV ⟨rfl,h1,h2⟩
    have:=hr.inF (o'-o) (by omega);exact mu b' o' (by have jB:lN b' (o +(o'-o)):=this;rwa[show o +(o'-o)=o' by omega]at jB) dV
   have e1:da (t.ar (setCells w b (o+xs.length*t.size) vs) Z m) t.size xs aY G:=k1.imp fun y us dB hs hr=>ad.ar.same Vp t m ((n8 G agz agy).mono hs) hr
   have e2:da (t.ar (setCells w b (o+xs.length*t.size) vs) Z m) t.size ys vs hO:=aR.imp fun y us dB hs hr=>ad.ar.same Vp t m ((n8 hO hb agA).mono hs) hr
   have kM:bM w0 F0 s (setCells w b (o+xs.length*t.size) vs) ι Z (lN.or hO):=(ha.or hb).ext lO;refine⟨.slice (some (at_ b o)) (xs.length+ys.length) c,_,⟨some (at_ b o),c,lN.or hO⟩,?_,hinv.Ee cm ?_ kM,?_⟩
   ·have hst:=D0 (P:=P) (b:=b) (o:=o+xs.length*t.size) vs w 0 (D2 aR) (fun j hj=>by simpa using hwr j hj);simp only[Nat.add_zero]at hst;refine run_append_room h0 h1 h2 h3 hu (run_sizeOf cp) kO pd hl Vl (fun a ha=>?_) (fun h=>by simp at h);obtain rfl:=aX ha;rw[show(⟨b,o,none⟩:Addr).add (xs.length*t.size)=at_ b (o+xs.length*t.size) from rn _ _ _];exact hst
   ·refine .inr ⟨at_ b o,rfl,rfl,by simpa using pd,fun j hj=>(lO.ld (hr.wr j hj)),fun j hj=>.inl (hr.inF j hj),G.or hO,?_,?_,fun b o h=>h.imp (g3 b o) (fun h=>h)⟩
    ·refine(e1.append e2 fun b o aB hf=>mu b o (g3 b o aB) hf).row ?_;refine cf.append (k2.of_eq fun j hj=>?_) ?_
     ·rw[Vo]at hj;refine(yj b vs w _ (fun i hi=>(hwr i hi).1) b (o+j)).trans (if_neg ?_);omega
     ·rw[Vo];exact afP hwr
    ·rintro j hj (aB|aB)
     ·exact g2 j hj aB
     ·exact mu _ _ (hr.inF j hj) aB
   ·have:=AS (w:=setCells w b (o+xs.length*t.size) vs) (Z:=Z) (s:=s) (ι :=ι) (id:=id) (em:=m) (ver:=0) (xs:=xs++ys) (A:=at_ b o) (c:=c) (F:=lN.or hO) rfl (by simpa using pd);rw[List.length_append]at this;exact this
 ·
  obtain⟨q,hq,hrun⟩:=run_append_grow (P:=P) (w:=w) (ty:=ty) h0 h1 h2 h3 hu m7 gF yz kO pd hl Et hf hroom Mk
  have hn:=h.newRow cm (hex.append aR mu) (ha.or hb) (w.drawn+1) (us.toArray++vs.toArray++Builtin.zeroCells (dW t t.cU).cells (q-(xs.length+ys.length))) e (0,0) q (by
   intro j v hv;rw[Array.getElem?_append_left]
   ·simpa[←List.getElem?_append]using hv
   ·rcases Nat.lt_or_ge j (us++vs).length with h|h
    ·simpa using h
    ·rw[List.getElem?_eq_none h]at hv;simp at hv) (by simpa using hq) (by
   simp only[Array.size_append,List.size_toArray,Lk,AT,agw,Vm];rw[Nat.sub_mul,Nat.add_mul];have:(xs.length+ys.length)*t.size≤q*t.size:=Nat.mul_le_mul_right _ hq;rw[Nat.add_mul]at this
   omega) (.inl rfl) (.inr rfl)
  refine⟨_,_,_,hrun,hn,?_⟩;have:=AS (w:=grown w (w.drawn+1) (us.toArray++vs.toArray++Builtin.zeroCells (dW t t.cU).cells (q-(xs.length+ys.length))) e (0,0)) (Z:=Z) (s:=s) (ι :=ι) (id:=id) (em:=m) (ver:=0) (xs:=xs++ys) (A:=at_ w.heap.size 0) (c:=q) (F:=(ah.run w.heap.size 0 (q*t.size)).or (lN.or hO)) rfl (by simpa using hq);rw[List.length_append]at this;exact this
theorem Vq{ak:List Nat}{t:ad}(b5:hL P E)(g_:yc E ak=some t):∃ig iE rest e,ak=ig::iE::rest∧P.underlying ig=some (.slice e)∧t.ok P e∧(P.underlying iE=some .string∨∃gX,P.underlying iE=some (.slice gX)):=by
 unfold yc at g_;split at g_
 ·rename_i ig iE rest;split at g_
  ·rename_i t1 t2 h1 h2;obtain rfl:=aX g_;obtain⟨e,hu,cp⟩:=mo (b5.ty _ _ h1);obtain⟨gX,AW,_⟩:=mo (b5.ty _ _ h2);exact⟨ig,iE,rest,e,rfl,hu,cp,.inr ⟨gX,AW⟩⟩
  ·rename_i t1 h1 h2;obtain rfl:=aX g_;obtain⟨e,hu,cp⟩:=mo (b5.ty _ _ h1);exact⟨ig,iE,rest,e,rfl,hu,cp,.inl (yB (b5.ty _ _ h2))⟩
  ·simp at g_
 ·simp at g_
theorem Mr{t:ad}{u:Value}{c:ba}{x:a_}(hx:oneCell t x=some c)(hr:aV w Z s ι x u):cz w Z s ι c u:=by
 cases x<;>simp only[oneCell]at hx<;>try (simp at hx;done)
 ·obtain rfl:=aX hx;simpa only[aV]using hr
 ·obtain rfl:=aX hx;simp only[aV]at hr;exact hr
theorem agB{c:Call}(b5:hL P E)(h:Inv w0 F0 Z0 n s a w ι Z)(af:∀k,o.dst=some k→k<n)(ho:o.op=.call c)(hb:c.callee=.builtin .append)(hk:c0 E id o s K=some r):
  ∃au,K au=some r∧o.wp P a w (c6 w0 F0 Z0 n au) Q:=by
 unfold c0 at hk;rw[ho]at hk;simp only[hb]at hk;have hvs:=vC h c.args.toList;have mr:(c.args.map a.eval).toList=c.args.toList.map a.eval:=by simp
 generalize hl:c.args.toList.map (bZ s)=l at hk hvs
 match l,hk,hvs with
 | [],hk,_=>simp[kF]at hk
 | [_],hk,_=>simp[kF]at hk
 |_::_::_::_,hk,_=>simp[kF]at hk
 | [mf,vb],hk,hvs=>
  simp only[kF]at hk;simp only[a8]at hvs;obtain⟨Vr,_,he,n9,agC,_,rfl,Ms,rfl⟩:=hvs
  cases g_:yc E c.argTypes.toList with
  |none=>rw[g_]at hk;simp at hk
  |some t=>
   rw[g_]at hk;simp only at hk;obtain⟨ig,iE,rest,e,m8,hu,cp,kO⟩:=Vq b5 g_
   cases Eu:oneCell t mf with
   |none=>rw[Eu]at hk;simp at hk
   |some Mt=>
    cases vD:oneCell t vb with
    |none=>rw[Eu,vD]at hk;simp at hk
    |some cb=>
      rw[Eu,vD]at hk;simp only[Ug]at hk;have n_:=Mr Eu n9;have hb1:=Mr vD Ms
      cases rD:added s t cb with
      |none=>rw[rD]at hk;simp at hk
      |some q=>
       obtain⟨lh,ys,s1⟩:=q;rw[rD]at hk;simp only at hk;obtain⟨vs,hO,hlen,rE,hels,h1,hs1,pb⟩:=Vi (P:=P) rD h hb1
       cases lj:taken s1 t Mt with
       |none=>rw[lj]at hk;simp at hk
       |some q=>
        obtain⟨o0,xs,s2⟩:=q;rw[lj]at hk;simp only at hk;obtain⟨lN,hx,h2,pc,hf2,cn⟩:=Vj lj h1 (n_.move hs1.eI)
        cases n3:mkObj s2 id (.row t (meet o0 lh) 0 (xs++ys))with
        |none=>rw[n3]at hk;simp at hk
        |some s3=>
         rw[n3]at hk;obtain⟨hroom,hk2⟩:=tx hk;clear hk;obtain⟨cm,rfl⟩:=rz n3
         obtain⟨bR,Er,Es,h3,_,lO,Ek,agD,dV,agE⟩:=ags h2 hx hels hf2 (pb.shrink pc) (by
          intro b o agF agG;obtain⟨j,hj,AV⟩:=cn b o agF
          exact pb.apart j hj b o agG AV)
         obtain⟨u,w',bp,hrun,hinv,hcell⟩:=Vk (P:=P) (id:=id) (ty:=o.type) (ats:=c.argTypes) (args:=c.args.map a.eval) (by rw[←Array.getElem?_toList,m8];rfl) (by rw[←Array.getElem?_toList,m8];rfl)
          (by rw[←Array.getElem?_toList,mr,he];rfl) (by rw[←Array.getElem?_toList,mr,he];rfl) hu cp kO (Nat.le_of_ble_eq_true hroom) h3 cm lO Ek agD dV agE hlen rE
         refine⟨_,hk2,m3 (v:=u) (w':=w') ?_ hinv (by simp only[aV];exact hcell) af⟩;unfold execOp;rw[ho];simp only[run_bind,resolve,hb,run_pure,invoke];unfold builtin;exact gw hrun
theorem da.cut{α:Type}{R:α→List Value→ah→Prop}{size:Nat}:∀{xs:List α}{vs:List Value}{F:ah} (k:Nat),da R size xs vs F→da R size (xs.take k) (vs.take (k*size)) F∧da R size (xs.drop k) (vs.drop (k*size)) F
 |xs,vs,F,0,h=>by simp only[Nat.zero_mul,List.take_zero,List.drop_zero];exact⟨rfl,h⟩
 | [],vs,F,k+1,h=>by simp only[da]at h;subst h;simp[da]
 |x::xs,vs,F,k+1,⟨us,ak,G,H,h1,h2,h3,h4,a6,bj,bL⟩=>by
  obtain⟨p,q⟩:=da.cut k h4;subst h1;have e:(k+1)*size=us.length+k*size:=by rw[Nat.add_one_mul,h3];omega
  refine⟨⟨us,ak.take (k*size),G,H,?_,h2,h3,p,a6,bj,bL⟩,?_⟩
  ·rw[e,List.take_length_add_append]
  ·rw[e,List.drop_length_add_append];exact q.mono bL
theorem agH(us:List Value)(z:Array Value)(hz:z.toList=us)(n:Nat):(Builtin.zeroCells z n).toList=(List.replicate n us).flatten:=by
 have hl:(Builtin.zeroCells z n).toList.length=(List.replicate n us).flatten.length:=by rw[Array.length_toList,Lk];subst hz;simp
 refine List.ext_getElem? fun j=>?_
 cases hj:(List.replicate n us).flatten[j]? with
 |none=>rw[List.getElem?_eq_none_iff]at hj⊢;omega
 |some v=>have:=Mj (z:=z) (m:=n*z.size) us n hz (by subst hz;simp) v hj;rw[Array.getElem?_toList];exact this
theorem Inv.rewrite(h:Inv w0 F0 Z0 n s a w ι Z){id:Nat}{t:ad}{em:bg}{ver:Nat}{xs gq:List t.D}(ho:s.o id=.row t em ver xs)(hl:xs.length=gq.length)(hx:Ext w w' (ι id).F)
  (c9:e5 w Z s ι w' Z (s.bV id (.row t em (ver+1) gq)) ι→iG w' Z (s.bV id (.row t em (ver+1) gq)) ι (ι id) (.row t em (ver+1) gq)):Inv w0 F0 Z0 n (s.bV id (.row t em (ver+1) gq)) a w' ι Z:=by
 have cn:(s.o id).live:=by rw[ho];trivial
 let o':cD:=.row t em (ver+1) gq
 have hm:e5 w Z s ι w' Z (s.bV id o') ι :=by
  refine⟨fun j=>?_,fun _ _ h=>h,ch.jv hx h.tr ?_⟩
  ·show ju (s.o j) (ι j) (bW s.o id o' j) (ι j);by_cases hj:id=j
   ·subst hj;rw[cM,ho];exact .row _ _ _ _ _ _ _ _ _ (by omega) (by omega) rfl rfl
   ·rw[cX hj];exact .stay _ _
  ·rintro b o (hz|⟨ep,gC,rq,_,hf⟩) iY
   ·exact h.db id cn b o iY hz
   ·have hne:ep≠id:=by
     rintro rfl
     have:bW s.o ep o' ep=s.o ep:=rq;rw[cM,ho]at this;injection this with h1 h2 h3
     omega
    exact h.apart ep id gC cn hne b o hf iY
 have ts:∀{j},id≠j→((s.bV id o').o j).live→(s.o j).live:=fun hj hl=>by have:(bW s.o id o' _).live:=hl;rwa[cX hj]at this
 refine h.next hm hx (fun b o hf=>(h.own id cn b o hf).1) (fun _ _ h=>.inl h) ?_ ?_ (fun k=>(h.tmps k).move hm) h.size h.defers
 ·intro j hl hne;by_cases hj:id=j
  ·subst hj;refine⟨?_,fun b o hf=>⟨(h.own _ cn b o hf).1,Nat.lt_of_lt_of_le (h.own _ cn b o hf).2 hx.size⟩,fun ep gC km=>h.apart id ep cn (ts km gC) km⟩;show iG _ _ _ _ _ (bW s.o id o' id);rw[cM];exact c9 hm
  ·exact absurd ⟨cX hj,rfl⟩ hne
 ·intro j hl;by_cases hj:id=j
  ·subst hj;exact h.db _ cn
  ·exact h.db j (ts hj hl)
theorem agI{t e ty:TypeId}{T:ad}{A:Option Addr}{k c:Nat}(hu:P.underlying t=some (.slice e))(cp:T.ok P e){b o:Nat}(hA:0<k→A=some (at_ b o))(hw:∀j,j<k*T.size→fN w b (o+j)):
  (Builtin.clear_ #[t] ty #[.slice A k c]).run P w=.ok (.tuple #[]) (setCells w b o (List.replicate k T.cU).flatten):=by
 rcases Nat.eq_zero_or_pos k with rfl|hk
 ·unfold Builtin.clear_;cases A<;>(simp only[List.getElem?_toArray,List.getElem?_cons_zero,run_bind,run_underlying hu];rfl)
 ·rw[hA hk];obtain⟨m,rfl⟩:∃m,k=m+1:=⟨k-1,by omega⟩
  have hc:=agH T.cU (dW T T.cU).cells (yy T) (m+1);have h1:∀v∈(List.replicate (m+1) T.cU).flatten,eC v=true:=by intro v hv;rw[List.mem_flatten]at hv;obtain⟨l,h1,h2⟩:=hv;rw[(List.mem_replicate.1 h1).2]at h2;exact((tu (w:=default) (Z:=ah.none) (s:=⟨fun _=>.bB,fun _=>.none,[]⟩) (ι :=fun _=>⟨none,0,ah.none⟩) T).eC) v h2
  have hst:=D0 (P:=P) (b:=b) (o:=o) _ w 0 h1 (fun i hi=>by
   have:=hw i (by simpa[ad.mn]using hi)
   simpa using this)
  unfold Builtin.clear_;simp only[List.getElem?_toArray,List.getElem?_cons_zero,run_bind,run_underlying hu,Eh cp,hc];simp only[Nat.add_zero]at hst;rw[hst];rfl
theorem agJ{c:Call}(b5:hL P E)(h:Inv w0 F0 Z0 n s a w ι Z)(af:∀k,o.dst=some k→k<n)(ho:o.op=.call c)(hb:c.callee=.builtin .clear)(hk:c0 E id o s K=some r):
  ∃au,K au=some r∧o.wp P a w (c6 w0 F0 Z0 n au) Q:=by
 unfold c0 at hk;rw[ho]at hk;simp only[hb]at hk;have hvs:=vC h c.args.toList;have mr:(c.args.map a.eval).toList=c.args.toList.map a.eval:=by simp
 generalize hl:c.args.toList.map (bZ s)=l at hk hvs
 match l,hk,hvs with
 | [.aU (.af i sub)],hk,hvs=>
  simp only[kF]at hk
  cases g_:c.argTypes.toList with
  |nil=>rw[g_]at hk;simp at hk
  |cons t ak=>
   rw[g_]at hk;simp only at hk
   cases ht:E.ty t with
   |none=>rw[ht]at hk;simp at hk
   |some T=>
    cases b2:s.o i with
    |row v em ver xs=>
     rw[ht,b2]at hk
     cases T with
     |sl u=>
      simp only at hk;cases hf:(ad.beq u v&&v.flat)
      ·rw[hf]at hk;simp at hk
      rw[hf]at hk;simp only[cond_true]at hk;simp only[Bool.and_eq_true]at hf;obtain⟨hf,iJ⟩:=hf;have:=ad.eq_of_beq _ _ hf;subst this;simp only[a8,aV]at hvs;obtain⟨auG,us,he,⟨kJ,A,k,kI,rfl,hh⟩,rfl⟩:=hvs;obtain⟨e,hu,cp⟩:=mo (b5.ty _ _ ht);have hr:=hh u em ver xs (mg b2);obtain⟨cK,Vs,auH,rc,Ev⟩:=hr
      have hkk:k=mb sub xs:=by
       rw[cK];cases sub with
       |none=>rfl
       |some p=>rfl
      rw[←hkk]at hk;generalize iZ:eH sub=lo at *;have n5:(c.args.map a.eval) = #[.slice A k kI]:=by apply Array.ext';rw[mr,he]
      have qh:c.argTypes[0]?=some t:=by rw[←Array.getElem?_toList,g_];rfl
      have hlen:xs.length=(xs.take lo++List.replicate k u.zero++xs.drop (lo+k)).length:=by simp;omega
      have Vt:=h.gp i;rw[b2]at Vt
      have hfin:∃(b Ew:Nat),(0<k→A=some (at_ b Ew))∧(∀j,j<k*u.size→fN w b (Ew+j))∧Inv w0 F0 Z0 n (s.bV i (.row u em (ver+1) (xs.take lo++List.replicate k u.zero++xs.drop (lo+k)))) a (setCells w b Ew (List.replicate k u.cU).flatten) ι Z:=by
       rcases Vt with⟨h1,h2⟩|⟨a0,gG,hrow⟩
       ·have hk0:k=0:=by rw[h1]at Vs;simp at Vs;omega
        subst hk0;refine⟨0,0,fun h=>by omega,fun j hj=>by omega,?_⟩;refine h.rewrite b2 hlen (Ext.refl _ _) fun _=>?_
        exact .inl ⟨by rw[h1];simp,h2⟩
       ·have hle:(lo+k)*u.size≤(ι i).cap*u.size:=Nat.mul_le_mul_right _ (by have:=hrow.cap;omega);rw[Nat.add_mul]at hle;have hwr:∀j,j<k*u.size→fN w a0.block (a0.off+lo*u.size+j):=fun j hj=>by have:=(hrow.wr (lo*u.size+j) (by omega)).1;rwa[←Nat.add_assoc]at this
        have AT:(List.replicate k u.cU).flatten.length=k*u.size:=by simp[ad.mn]
        have hx:Ext w (setCells w a0.block (a0.off+lo*u.size) (List.replicate k u.cU).flatten) (ι i).F:=oX _ _ _ _ fun j hj=>by have:=hrow.inF (lo*u.size+j) (by omega);rwa[←Nat.add_assoc]at this
        refine⟨a0.block,a0.off+lo*u.size,fun hk0=>?_,hwr,h.rewrite b2 hlen hx fun _=>.inr ⟨a0,gG,hrow.spot,by rw[←hlen];exact hrow.cap,fun j hj=>hx.ld (hrow.wr j hj),hrow.inF,ah.none,?_,fun _ _ h=>h,fun _ _ h=>h.elim⟩⟩
        ·rcases Ev with Ev|⟨a1,hb1,Ev⟩
         ·omega
         ·rw[gG]at hb1;obtain rfl:=aX hb1;exact Ev
        ·obtain⟨G,bF,cq,gu⟩:=hrow.row;obtain⟨us,e1,e2⟩:=Row.ve bF;have e1:da (u.ar (setCells w a0.block (a0.off+lo*u.size) (List.replicate k u.cU).flatten) Z em) u.size xs us ah.none:=e1.bare fun y us dB _ aR=>tc u (F:=ah.none) iJ (ad.ar.same (Z:=ah.none) (fun _ _ h=>h.elim) u em (F:=ah.none) (fun _ _ h=>h.elim) (tc u iJ aR))
         have rv:=e1.len
         have hsp:=tb (k:=lo*u.size) (vs:=(List.replicate k u.cU).flatten) e2 (fun i hi=>(hrow.wr i (by
          have:xs.length*u.size≤(ι _).cap*u.size:=Nat.mul_le_mul_right _ hrow.cap
          omega)).1) (by
          rw[AT,rv,←Nat.add_mul];exact Nat.mul_le_mul_right _ (by omega))
         refine da.row ?_ hsp;have c1:=(e1.cut lo).1;have fV:=(e1.cut (lo+k)).2;have Ex:=da.replicate (R:=u.ar (setCells w a0.block (a0.off+lo*u.size) (List.replicate k u.cU).flatten) Z em) (Mi u em) (ad.mn u) k;have:=((c1.append Ex fun _ _ h _=>h.elim).append fV fun _ _ _ h=>h.elim);unfold dw;rw[AT,←Nat.add_mul];refine this.bare fun y us G _ aR=>tc u iJ aR
      obtain⟨b,Ew,hA,hw,hi⟩:=hfin;refine⟨_,hk,m3 (v:=.tuple #[]) ?_ hi (by simp only[aV,a8];exact⟨[],rfl,rfl⟩) af⟩;unfold execOp;rw[ho];simp only[run_bind,resolve,hb,run_pure,invoke];unfold builtin;refine gw ?_;have hrun:=agI (P:=P) (w:=w) (ty:=o.type) (c:=kI) hu cp hA hw;rw[n5];have agK:Builtin.clear_ c.argTypes o.type #[.slice A k kI]=Builtin.clear_ #[t] o.type #[.slice A k kI]:=by unfold Builtin.clear_;rw[qh];rfl
      rw[agK];exact hrun
     |_=>simp at hk
    |_=>rw[ht,b2]at hk;cases T<;>simp at hk
 | [],hk,_=>simp[kF]at hk
 |_::_::_,hk,_=>simp[kF]at hk
 | [.bB],hk,_| [.iV _],hk,_| [.ptr _],hk,_| [.dA _ _ _],hk,_| [.kD],hk,_| [.lG],hk,_| [.opt _ _],hk,_| [.may _ _ _],hk,_| [.td _],hk,_| [.fn _ _ _],hk,_| [.p6 _],hk,_=>simp[kF]at hk
 | [.aU (.int _ _)],hk,_| [.aU (.bool _)],hk,_| [.aU (.str _)],hk,_| [.aU (.nil _)],hk,_| [.aU (.bG _ _ _ _)],hk,_=>simp[kF]at hk
end
end Go.LM
namespace Go.LM
theorem Row.Ey{α:Type}{w:World}{R:α→List Value→ah→Prop}{size:Nat}:∀{x:List α}{b o:Nat}{F:ah} (i:Nat) (hi:i<x.length),Row w R size x b o F →
  ∃G1 jC G2 vs,Row w R size (x.take i) b o G1∧R x[i] vs jC∧vs.length=size∧cf w b (o+i*size) vs∧Row w R size (x.drop (i+1)) b (o +(i+1)*size) G2 ∧
   ah.apart G1 jC∧ah.apart G1 G2∧ah.apart jC G2∧ah.sub G1 F∧ah.sub jC F∧ah.sub G2 F
 |y::x,b,o,F,0,_,⟨vs,G,H,h1,h2,h3,h4,a6,bj,bL⟩=>⟨ah.none,G,H,vs,trivial,h1,h2,by simpa using h3,by simpa using h4,fun _ _ h=>h.elim,fun _ _ h=>h.elim,a6,fun _ _ h=>h.elim,bj,bL⟩
 |y::x,b,o,F,i+1,hi,⟨vs,G,H,h1,h2,h3,h4,a6,bj,bL⟩=>by
  obtain⟨G1,jC,G2,us,k1,k2,k3,bn,bs,dh,ee,cW,gd,dd,dt⟩:=Row.Ey i (by simpa using hi) h4;refine⟨G.or G1,jC,G2,us,⟨vs,G,G1,h1,h2,h3,k1,fun b o h k=>a6 b o h (gd b o k),fun _ _ h=>.inl h,fun _ _ h=>.inr h⟩,k2,k3,?_,?_,?_,?_,cW,?_,fun b o h=>bL b o (dd b o h),fun b o h=>bL b o (dt b o h)⟩
  ·rwa[show o +(i+1)*size=o+size+i*size by rw[Nat.add_one_mul];omega]
  ·have e:o +(i+1+1)*size=o+size +(i+1)*size:=by rw[Nat.add_one_mul (i+1)];omega
   rw[e];exact bs
  ·rintro b o (h|h) k
   ·exact a6 b o h (dd b o k)
   ·exact dh b o h k
  ·rintro b o (h|h) k
   ·exact a6 b o h (dt b o k)
   ·exact ee b o h k
  ·rintro b o (h|h)
   ·exact bj b o h
   ·exact bL b o (gd b o h)
theorem Row.Ez{α:Type}{w:World}{R:α→List Value→ah→Prop}{size:Nat}{y:α}{vs:List Value}{jC:ah}:∀{x:List α}{b o:Nat}{G1 G2:ah} (i:Nat),i<x.length→Row w R size (x.take i) b o G1→R y vs jC→vs.length=size →
  cf w b (o+i*size) vs→Row w R size (x.drop (i+1)) b (o +(i+1)*size) G2→ah.apart G1 jC→ah.apart G1 G2→ah.apart jC G2→Row w R size (x.set i y) b o (G1.or (jC.or G2))
 | [],_,_,_,_,_,hi,_,_,_,_,_,_,_,_=>by simp at hi
 |z::x,b,o,G1,G2,0,_,_,h2,h3,h4,a6,_,_,dk=>⟨vs,jC,G2,h2,h3,by simpa using h4,by simpa using a6,dk,fun _ _ h=>.inr (.inl h),fun _ _ h=>.inr (.inr h)⟩
 |z::x,b,o,G1,G2,i+1,hi,⟨ws,A,B,a1,a2,a3,a4,a5,EA,Mu⟩,h2,h3,h4,a6,bj,bL,dk=>by
  have e1:o +(i+1)*size=o+size+i*size:=by rw[Nat.add_one_mul];omega
  have e2:o +(i+1+1)*size=o+size +(i+1)*size:=by rw[Nat.add_one_mul (i+1)];omega
  have:=Row.Ez i (by simpa using hi) a4 h2 h3 (by rwa[←e1]) (by rw[←e2];exact a6) (fun b o x y=>bj b o (Mu b o x) y) (fun b o x y=>bL b o (Mu b o x) y) dk;refine⟨ws,A,_,a1,a2,a3,this,?_,fun b o h=>.inl (EA b o h),?_⟩
  ·rintro b o x (y|y|y)
   ·exact a5 b o x y
   ·exact bj b o (EA b o x) y
   ·exact bL b o (EA b o x) y
  ·rintro b o (y|y|y)
   ·exact .inl (Mu b o y)
   ·exact .inr (.inl y)
   ·exact .inr (.inr y)
mutual
theorem ad.yD:∀(T:ad) {off:Nat}{t:ad}{x:T.D}{z:List t.D},T.flat=true→T.getAt off t x=some z→False
 |.int _,_,_,_,_,_,h=>by simp[ad.getAt]at h
 |.bool,_,_,_,_,_,h=>by simp[ad.getAt]at h
 |.str,_,_,_,_,_,h=>by simp[ad.getAt]at h
 |.raw,_,_,_,_,_,h=>by simp[ad.getAt]at h
 |.sl t,_,_,_,_,hf,_=>by simp[ad.flat]at hf
 |.st ak,_,_,_,_,hf,h=>aA.yD ak (by simpa only[ad.flat]using hf) (by simpa only[ad.getAt]using h)
theorem aA.yD:∀(ak:aA) {off:Nat}{t:ad}{x:ak.D}{z:List t.D},ak.flat=true→ak.getAt off t x=some z→False
 |.nil,_,_,_,_,_,h=>by simp[aA.getAt]at h
 |.cons T ak,off,t,x,z,hf,h=>by
  simp only[aA.flat]at hf;cases h1:T.flat
  ·rw[h1]at hf;cases hf
  rw[h1]at hf;simp only[aA.getAt]at h;cases hb:Nat.blt off T.size
  ·rw[hb]at h;exact aA.yD ak hf h
  ·rw[hb]at h;exact ad.yD T h1 h
end
section
variable{w ck:World}{Z bR:ah}
theorem rF(t:ad){x:t.D}{vs:List Value}{F:ah}(hF:ch w ck F)(h:t.ar w Z t.own x vs F):t.ar ck bR t.own x vs F:=
 vu t (ad.ar.same (Z:=ah.none) (fun _ _ h=>h.elim) t t.own hF (vu t h))
theorem Vu(t:aA){x:t.D}{vs:List Value}{F:ah}(hF:ch w ck F)(h:t.ar w Z t.own x vs F):t.ar ck bR t.own x vs F:=
 Ed t (aA.ar.same (Z:=ah.none) (fun _ _ h=>h.elim) t t.own hF (Ed t h))
def Vv(w:World)(Z:ah)(t:ad)(z:List t.D)(v:Value)(H1 G1:ah)(R:World→ah→List t.D→ah→Prop):Prop:=
 (ad.sl t).ar w Z (.O t.own) z [v] H1∧ah.apart H1 G1∧∀(ck:World) (bR X:ah) (y:List t.D),ch w ck G1→(ad.sl t).ar ck bR (.O t.own) y [v] X→ah.apart X G1→R ck bR y (X.or G1)
mutual
theorem ad.lens:∀(T:ad) (off:Nat) (t:ad) {x:T.D}{z:List t.D}{us:List Value}{G:ah},T.ar w Z T.own x us G→T.getAt off t x=some z →
  ∃v H1 G1,us[off]?=some v∧ah.sub H1 G∧ah.sub G1 G∧Vv w Z t z v H1 G1 (fun ck bR y e6=>∀bA,T.setAt off t y x=some bA→T.ar ck bR T.own bA us e6)
 |.int _,_,_,_,_,_,_,_,h=>by simp[ad.getAt]at h
 |.bool,_,_,_,_,_,_,_,h=>by simp[ad.getAt]at h
 |.str,_,_,_,_,_,_,_,h=>by simp[ad.getAt]at h
 |.raw,_,_,_,_,_,_,_,h=>by simp[ad.getAt]at h
 |.sl u,off,t,x,z,us,G,hr,h=>by
  simp only[ad.getAt]at h;cases hb:Nat.beq off 0
  ·rw[hb]at h;cases h
  rw[hb]at h;obtain rfl:=Nat.eq_of_beq_eq_true hb;obtain⟨e,rfl⟩:=hK h;subst e;have iX:=hr;simp only[ad.own,ad.ar]at hr;obtain⟨A,c,rfl,_⟩:=hr;refine⟨_,G,ah.none,rfl,fun _ _ h=>h,fun _ _ h=>h.elim,iX,fun _ _ _ h=>h.elim,fun ck bR X y _ h2 _ bA hs=>?_⟩;simp only[ad.setAt]at hs;obtain⟨e,rfl⟩:=hK (show eY (.sl u) (.sl u) y=some bA from hs);exact ad.ar.mono (fun _ _ h=>h) _ _ (fun _ _ h=>.inl h) h2
 |.st ak,off,t,x,z,us,G,hr,h=>by
  have iJ:ak.flat=false:=by
   cases hf:ak.flat
   ·rfl
   ·exact(ad.yD (.st ak) (by simpa only[ad.flat]using hf) h).elim
  simp only[ad.own,iJ,Bool.false_eq_true,if_false,ad.ar,bg.parts]at hr;simp only[ad.getAt]at h;obtain⟨v,H1,G1,h1,h2,h3,h4,a6,bj⟩:=aA.lens ak off t hr h;refine⟨v,H1,G1,h1,h2,h3,h4,a6,fun ck bR X y k1 k2 k3 bA hs=>?_⟩;simp only[ad.setAt]at hs;simp only[ad.own,iJ,Bool.false_eq_true,if_false,ad.ar,bg.parts];exact bj ck bR X y k1 k2 k3 bA hs
theorem aA.lens:∀(ak:aA) (off:Nat) (t:ad) {x:ak.D}{z:List t.D}{us:List Value}{G:ah},ak.ar w Z ak.own x us G→ak.getAt off t x=some z →
  ∃v H1 G1,us[off]?=some v∧ah.sub H1 G∧ah.sub G1 G∧Vv w Z t z v H1 G1 (fun ck bR y e6=>∀bA,ak.setAt off t y x=some bA→ak.ar ck bR ak.own bA us e6)
 |.nil,_,_,_,_,_,_,_,h=>by simp[aA.getAt]at h
 |.cons T ak,off,t,x,z,us,G,hr,h=>by
  simp only[aA.own,aA.ar,c5.af,c5.dK]at hr;obtain⟨nW,jD,n',oa,rfl,bF,cq,hap,ha,hb⟩:=hr;have hl:=(ad.ar.len T _ bF).1;simp only[aA.getAt]at h;cases bQ:Nat.blt off T.size
  ·rw[bQ]at h
   have yE:T.size≤off:=by
    rcases Nat.lt_or_ge off T.size with h1|h1
    ·have:Nat.blt off T.size=true:=Nat.ble_eq_true_of_le h1;rw[this]at bQ;cases bQ
    ·exact h1
   obtain⟨v,H1,G1,h1,h2,h3,h4,a6,bj⟩:=aA.lens ak (off-T.size) t cq h;refine⟨v,H1,n'.or G1,?_,fun b o x=>hb b o (h2 b o x),?_,h4,?_,fun ck bR X y k1 k2 k3 bA hs=>?_⟩
   ·rw[List.getElem?_append_right (by omega),hl];exact h1
   ·rintro b o (y|y)
    ·exact ha b o y
    ·exact hb b o (h3 b o y)
   ·rintro b o y (q|q)
    ·exact hap b o q (h2 b o y)
    ·exact a6 b o y q
   ·simp only[aA.setAt,bQ,cond_false]at hs;obtain⟨hP,hz,hs⟩:=bb hs;obtain rfl:=aX hs;simp only[aA.own,aA.ar,c5.af,c5.dK];refine⟨nW,jD,n',X.or G1,rfl,rF T (k1.mono fun _ _ h=>.inl h) bF,bj ck bR X y (k1.mono fun _ _ h=>.inr h) k2 (fun b o p q=>k3 b o p (.inr q)) hP hz,?_,fun _ _ h=>.inr (.inl h),?_⟩
    ·rintro b o p (q|q)
     ·exact k3 b o q (.inl p)
     ·exact hap b o p (h3 b o q)
    ·rintro b o (q|q)
     ·exact .inl q
     ·exact .inr (.inr q)
  ·rw[bQ]at h;have yE:off<T.size:=Nat.le_of_ble_eq_true bQ;obtain⟨v,H1,G1,h1,h2,h3,h4,a6,bj⟩:=ad.lens T off t bF h;refine⟨v,H1,G1.or oa,?_,fun b o x=>ha b o (h2 b o x),?_,h4,?_,fun ck bR X y k1 k2 k3 bA hs=>?_⟩
   ·rw[List.getElem?_append_left (by omega)];exact h1
   ·rintro b o (y|y)
    ·exact ha b o (h3 b o y)
    ·exact hb b o y
   ·rintro b o y (q|q)
    ·exact a6 b o y q
    ·exact hap b o (h2 b o y) q
   ·simp only[aA.setAt,bQ,cond_true]at hs;obtain⟨hP,hz,hs⟩:=bb hs;obtain rfl:=aX hs;simp only[aA.own,aA.ar,c5.af,c5.dK];refine⟨nW,jD,X.or G1,oa,rfl,bj ck bR X y (k1.mono fun _ _ h=>.inl h) k2 (fun b o p q=>k3 b o p (.inl q)) hP hz,Vu ak (k1.mono fun _ _ h=>.inr h) cq,?_,?_,fun _ _ h=>.inr (.inr h)⟩
    ·rintro b o (p|p) q
     ·exact k3 b o p (.inr q)
     ·exact hap b o (h3 b o p) q
    ·rintro b o (q|q)
     ·exact .inl q
     ·exact .inr (.inl q)
end
theorem nT.lens{T:ad}{ys:List T.D}{a:Addr}{c:Nat}{F:ah}{i off:Nat}{t:ad}{z:List t.D}(h:nT w (T.ar w Z T.own) T.size ys a c F)(hi:i<ys.length)(aB:T.getAt off t (I T ys i)=some z):
  ∃v H1,w.cell? (at_ a.block (a.off+i*T.size+off))=some v∧(ad.sl t).ar w Z (.O t.own) z [v] H1∧ah.sub H1 F ∧
   ∀(ck:World) (bR X:ah) (y:List t.D) (bA:T.D),ch w ck (ah.diff F H1)→(ad.sl t).ar ck bR (.O t.own) y [v] X→ah.apart X (ah.diff F H1)→T.setAt off t y (I T ys i)=some bA →
    nT ck (T.ar ck bR T.own) T.size (ys.set i bA) a c (X.or (ah.diff F H1)):=by
 rw[c3 hi]at aB⊢;obtain⟨G,g1,g2,g3⟩:=h.row;obtain⟨n',jC,oa,vs,bF,Mv,hvl,cE,cq,a1,a2,a3,s1,s2,s3⟩:=g1.Ey i hi;obtain⟨v,H1,G1,hv,k1,k2,k3,bn,bs⟩:=ad.lens T off t Mv aB;have AX:ah.sub H1 G:=fun b o x=>s2 b o (k1 b o x)
 have hle:ys.length*T.size≤c*T.size:=Nat.mul_le_mul_right _ h.cap;have m7:(i+1)*T.size≤ys.length*T.size:=Nat.mul_le_mul_right _ hi;rw[Nat.add_one_mul]at m7;refine⟨v,H1,?_,k3,fun b o x=>g3 b o (AX b o x),fun ck bR X y bA hs hr hap Mw=>?_⟩
 ·have:=cE off v hv;exact this
 have vE:∀{A:ah},ah.sub A G→ah.apart A H1→ah.sub A (ah.diff F H1):=fun hA av b o x=>⟨g3 b o (hA b o x),fun y=>av b o x y⟩
 have vF:ah.sub n' (ah.diff F H1):=vE s1 fun b o x y=>a1 b o x (k1 b o y)
 have vG:ah.sub oa (ah.diff F H1):=vE s3 fun b o x y=>a3 b o (k1 b o y) x
 have d1:ah.sub G1 (ah.diff F H1):=vE (fun b o x=>s2 b o (k2 b o x)) fun b o x y=>bn b o y x
 have qi:∀j,j<c*T.size→ah.diff F H1 a.block (a.off+j):=fun j hj=>⟨h.inF j hj,fun y=>g2 j hj (AX _ _ y)⟩
 have hcell:∀j,j<c*T.size→ck.cell? (at_ a.block (a.off+j))=w.cell? (at_ a.block (a.off+j)):=fun j hj=>(hs _ _ (qi j hj)).1
 have fO:=bs ck bR X y (hs.mono d1) hr (fun b o p q=>hap b o p (d1 b o q)) bA Mw;refine⟨h.spot,by simpa using h.cap,fun j hj=>hs.ld (qi j hj) (h.wr j hj),fun j hj=>.inr (qi j hj),n'.or ((X.or G1).or oa),?_,?_,?_⟩
 ·refine Row.Ez i hi (bF.imp (fun y us dB hG hr=>rF T (hs.mono fun b o p=>vF b o (hG b o p)) hr) fun j hj=>hcell j ?_) fO hvl (cE.of_eq fun j hj=>?_) (cq.imp (fun y us dB hG hr=>rF T (hs.mono fun b o p=>vG b o (hG b o p)) hr) fun j hj=>?_) ?_ a2 ?_
  ·simp only[List.length_take]at hj;have:min i ys.length*T.size≤ys.length*T.size:=Nat.mul_le_mul_right _ (Nat.min_le_right _ _);omega
  ·have:=hcell (i*T.size+j) (by omega);rwa[←Nat.add_assoc]at this
  ·simp only[List.length_drop]at hj;have e1:(ys.length-(i+1))*T.size=ys.length*T.size-(i*T.size+T.size):=by rw[Nat.sub_mul,Nat.add_one_mul]
   rw[e1]at hj;have:=hcell ((i+1)*T.size+j) (by rw[Nat.add_one_mul];omega);rwa[←Nat.add_assoc]at this
  ·rintro b o p (q|q)
   ·exact hap b o q (vF b o p)
   ·exact a1 b o p (k2 b o q)
  ·rintro b o (p|p) q
   ·exact hap b o p (vG b o q)
   ·exact a3 b o (k2 b o p) q
 ·rintro j hj (p|(p|p)|p)
  ·exact g2 j hj (s1 _ _ p)
  ·exact hap _ _ p (qi j hj)
  ·exact g2 j hj (s2 _ _ (k2 _ _ p))
  ·exact g2 j hj (s3 _ _ p)
 ·rintro b o (p|(p|p)|p)
  ·exact .inr (vF b o p)
  ·exact .inl p
  ·exact .inr (d1 b o p)
  ·exact .inr (vG b o p)
end
end Go.LM
