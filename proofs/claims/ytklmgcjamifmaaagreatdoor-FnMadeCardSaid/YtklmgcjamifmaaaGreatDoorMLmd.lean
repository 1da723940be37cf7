/- Regions, loops and whole functions are what the interpreter says, and a law's reading fits them. Conditions: each theorem's own hypotheses. -/
import Derived.Test.YtklmgcjamifmaaaGreatDoorMLmc
import Derived.Orders
import Derived.OrdersHeld
import Derived.Laws.StructEq
import Derived.WalkKit
import Derived.ProofKit
import Derived.OpenShut
import Derived.ShutString
import Derived.ChangeOld
import Derived.Below
import Derived.JoinedCond
import Derived.Lib.Bytealg
set_option linter.unusedVariables false
set_option linter.unusedSimpArgs false
namespace Go.LM
section
variable{P:Program}{Q:Exit→Act→World→Prop}
variable{w0:World}{F0 Z0:ah}{n:cD}{s aq:an}{a b_:Act}{w w':World}{ι bf:Nat→bG}{Z Z':ah}
variable{E:Env}{o:Oper}{bs : Type}{K:an→Option bs}{r : bs}{id:Nat}
def gV(w0:World)(F0 Z0:ah)(n:cD)(K:an→Option bs)(r : bs)(a:Act)(w:World):Prop:=∃s,K s=some r∧cY w0 F0 Z0 n s a w
theorem Qv(hn:E.n=n)(h:yg E o=true):∀k,o.dst=some k→k<n:=by
 intro k hk
 unfold yg at h
 rw [hk] at h
 rw [← hn]
 exact Nat.le_of_ble_eq_true h
theorem Inv.Qw(h:Inv w0 F0 Z0 n s a w ι Z){d:Nat}{b:Bool}(hb:s.t d=.aV (.bool b)):Inv w0 F0 Z0 n (s.set d (.aV (.bool b))) a w ι Z∧a.tmps.getD d undef=.bool b:=by
 have ag:=h.tmps d
 rw [hb] at ag
 have js:a.tmps.getD d undef=.bool b:=by simpa only [aQ,cj] using ag
 refine⟨h.tmp rfl (fun k=>?_) h.size h.defers,js⟩
 have hm:eI w Z s ι w Z (s.set d (.aV (.bool b))) ι := Hy rfl
 show aQ w Z (s.set d (.aV (.bool b))) ι (bU s.t d (.aV (.bool b)) k) (a.tmps.getD k undef)
 by_cases hk:d=k
 ·subst hk;rw [cw,js];simp only [aQ,cj]
 ·rw [cS hk];exact(h.tmps k).move hm
theorem Qx(h:Inv w0 F0 Z0 n s a w ι Z)(ag:∀k,o.dst=some k→k<n):cY w0 F0 Z0 n (s.dst o.dst .gone) (a.put o.dst undef) w :=
 ⟨ι,Z,h.dst (by simp only [aQ]) ag⟩
theorem Qy{ops:Array Oper}(bM:jL P E)(hn:E.n=n)(h:Inv w0 F0 Z0 n s a w ι Z)(hk:tj E id ops.toList o s K=some r) :
  if Region.wanted o (yielded ops a.tmps) then o.wp P a w (gV w0 F0 Z0 n K r) Q else gV w0 F0 Z0 n K r (a.put o.dst undef) w:=by
 unfold tj at hk
 cases tU:yg E o
 ·rw [tU] at hk;cases hk
 rw [tU] at hk
 simp only [cond_true] at hk
 have ag:=Qv hn tU
 have lV:∀ {s1:an},Inv w0 F0 Z0 n s1 a w ι Z→cT E id o s1 K=some r→o.wp P a w (gV w0 F0 Z0 n K r) Q:=by
  intro s1 h1 hk1
  obtain ⟨aq,h2,h3⟩:=ZC (Q:=Q) bM h1 ag hk1
  exact Oper.wp_mono (fun a w hs=>⟨aq,h2,hs⟩) h3
 have bS:∀ {s1:an},Inv w0 F0 Z0 n s1 a w ι Z→K (s1.dst o.dst .gone)=some r→gV w0 F0 Z0 n K r (a.put o.dst undef) w:=fun h1 hk1=>⟨_,hk1,Qx h1 ag⟩
 unfold guardOf at hk
 cases aB:o.guard with
 | none =>
  rw [aB] at hk
  simp only at hk
  rw [if_pos (by simp [Region.wanted,aB])]
  exact lV h hk
 | some I3 =>
  obtain ⟨j,wt⟩:=I3
  rw [aB] at hk
  simp only at hk
  cases hj:(ops.toList[j]?).bind (·.dst) with
  | none=>rw [hj] at hk;simp at hk
  | some d =>
   rw [hj] at hk
   simp only at hk
   cases hst:s.t d with
   | aV c =>
    cases c with
    | bool b =>
     rw [hst] at hk
     simp only at hk
     obtain ⟨h1,h2⟩:=h.Qw hst
     have aN:yielded ops a.tmps j=some b:=by
      unfold yielded
      rw [Array.getElem?_toList] at hj
      rw [hj]
      simp only [av]
      have cz:d<a.tmps.size:=by
       rcases Nat.lt_or_ge d a.tmps.size with h | h
       ·exact h
       ·rw [Array.getD_eq_getD_getElem?,Array.getElem?_eq_none h] at h2
        simp [undef] at h2
      rw [Array.getD_eq_getD_getElem?,Array.getElem?_eq_getElem cz] at h2
      rw [Array.getElem?_eq_getElem cz]
      simp only [Option.getD_some] at h2
      rw [h2]
     have hw:Region.wanted o (yielded ops a.tmps)=(b==wt):=by
      simp only [Region.wanted,aB,aN]
      cases b <;> cases wt <;> rfl
     rw [hw]
     cases b <;> cases wt <;> simp only [cond_true,cond_false] at hk
     ·exact lV h1 hk
     ·exact bS h1 hk
     ·exact bS h1 hk
     ·exact lV h1 hk
    | _=>rw [hst] at hk;simp at hk
   | gone =>
    rw [hst] at hk
    simp only at hk
    have h2:=h.tmps d
    rw [hst] at h2
    simp only [aQ] at h2
    have aN:yielded ops a.tmps j=none:=by
     unfold yielded
     rw [Array.getElem?_toList] at hj
     rw [hj]
     simp only [av]
     rw [Array.getD_eq_getD_getElem?] at h2
     cases iC:a.tmps[d]? with
     | none=>rfl
     | some v=>rw [iC] at h2;simp only [Option.getD_some] at h2;subst h2;rfl
    have hw:Region.wanted o (yielded ops a.tmps)=false:=by
     simp only [Region.wanted,aB,aN]
     cases wt <;> rfl
    rw [hw]
    exact bS h hk
   | _=>rw [hst] at hk;simp at hk
theorem Ca{ops:Array Oper}{R:Exit→Act→World→Prop}{i m:Nat}(hi:ops[i]?=some o)(aB:o.guard=none)(h:o.wp P a w (fun a w=>wpOps P ops R (List.range' (i+1) m) a w) R):wpOps P ops R (List.range' i (m+1)) a w:=by
 rw [List.range'_succ]
 simp only [wpOps,hi]
 rw [if_pos (by simp [Region.wanted,aB])]
 exact .inl h
theorem I4{bF:Nat}{ops:Array Oper}(bM:jL P E)(hn:E.n=n):∀(m:Nat) (l:List Oper) (i:Nat) (s:an) (a:Act) (w:World),l.length≤m→ops.toList.drop i=l→tk E bF ops.toList l i 0 s K=some r→cY w0 F0 Z0 n s a w →
  wpOps P ops (fun e a w=>e=.normal∧gV w0 F0 Z0 n K r a w) (List.range' i l.length) a w
 | _,[],i,s,a,w,_,_,hk,hs=>⟨rfl,s,hk,hs⟩
 | 0,_ :: _,_,_,_,_,hm,_,_,_=>by simp at hm
 | m+1,o :: l,i,s,a,w,hm,hl,hk,⟨ι,Z,h⟩=>by
  have hm:l.length≤m:=by simpa using hm
  have Cb:∀(j:Nat) (o:Oper) (l:List Oper),ops.toList.drop j=o :: l→ops[j]?=some o∧ops.toList.drop (j+1)=l:=by
   intro j o l hl
   refine⟨?_,by rw [← List.drop_drop,hl];rfl⟩
   rw [← Array.getElem?_toList]
   have:=congrArg (·[0]?) hl
   simpa using this
  obtain ⟨hi,gf⟩:=Cb i o l hl
  simp only [tk] at hk
  cases bZ:Oz E s o
  ·rw [bZ] at hk
   simp only [cond_false] at hk
   rw [List.length_cons,List.range'_succ]
   have oz:=Qy (Q:=fun e a w=>e=.normal∧gV w0 F0 Z0 n K r a w) bM hn h hk
   simp only [wpOps,hi]
   have qv:∀a w,gV w0 F0 Z0 n (fun aq=>tk E bF ops.toList l (i+1) 0 aq K) r a w→wpOps P ops (fun e a w=>e=.normal∧gV w0 F0 Z0 n K r a w) (List.range' (i+1) l.length) a w:=by
    rintro a w ⟨aq,h1,h2⟩
    exact I4 bM hn m l (i+1) aq a w hm gf h1 h2
   split
   ·rename_i hw
    rw [if_pos hw] at oz
    exact .inl (Oper.wp_mono qv oz)
   ·rename_i hw
    rw [if_neg hw] at oz
    exact qv _ _ oz
  ·rw [bZ] at hk
   simp only [cond_true] at hk
   obtain ⟨dE,eH,eW,l',rfl,g0,g1,g2,g3,mg⟩:=Z3 (Q:=fun e a w=>e=.normal∧gV w0 F0 Z0 n K r a w) bM hn h hk
   obtain ⟨gE,hl1⟩:=Cb _ _ _ gf
   obtain ⟨eL,dR⟩:=Cb _ _ _ hl1
   obtain ⟨rK,I5⟩:=Cb _ _ _ dR
   refine Ca hi g0 (Oper.wp_mono (fun a w h=>Ca gE g1 (Oper.wp_mono (fun a w h=>Ca eL g2 (Oper.wp_mono (fun a w h=>Ca rK g3 (Oper.wp_mono (fun a w h=>?_) h)) h)) h)) mg)
   obtain ⟨aq,h1,h2⟩:=h
   exact I4 bM hn m l' (i+1+1+1+1) aq a w (by simp at hm;omega) I5 h1 h2
theorem aad{bF:Nat}{ops:Array Oper}(bM:jL P E)(hn:E.n=n)(l:List Oper)(i:Nat)(s:an)(a:Act)(w:World)(hl:ops.toList.drop i=l)(hk:Hp E bF ops.toList l i s K=some r)(hs:cY w0 F0 Z0 n s a w) :
  wpOps P ops (fun e a w=>e=.normal∧gV w0 F0 Z0 n K r a w) (List.range' i l.length) a w:=I4 bM hn l.length l i s a w (Nat.le_refl _) hl hk hs
theorem aae{bF:Nat}{ops:Array Oper}(bM:jL P E)(hn:E.n=n)(hk:Hp E bF ops.toList ops.toList 0 s K=some r)(hs:cY w0 F0 Z0 n s a w)(b:Frame)(k:List Item)(cs:List Frame) :
  ∃b_ w',gV w0 F0 Z0 n K r b_ w'∧Steps P (lone (b.at a (.code (.region bF ops false) :: k)) cs w) (lone (b.at b_ k) cs w'):=by
 have h:=aad (w0:=w0) (F0:=F0) (Z0:=Z0) (n:=n) bM hn ops.toList 0 s a w rfl hk hs
 have h':wpOps P ops (fun e a w=>e=.normal∧gV w0 F0 Z0 n K r a w) (List.range ops.size) a w:=by
  rw [List.range_eq_range'];simpa using h
 obtain ⟨e,b_,w',⟨rfl,hl⟩,harr⟩:=wp_ops _ a w h' b k cs
 exact⟨b_,w',hl,.head step_region harr⟩
end
end Go.LM
namespace Go.LM
section
variable{P:Program}{ops:Array Oper}{Q:Exit→Act→World→Prop}
abbrev fH:=List (Nat×(World→Prop))
def fH.after(ops:Array Oper)(j:Nat)(p:fH):fH:=p.filter fun x => !waits ops j x.1
def fH.ok(p:fH)(w:World):Prop:=∀x∈p,x.2 w
def oA(P:Program)(ops:Array Oper)(Q:Exit→Act→World→Prop):Nat→Array Bool→fH→Act→World→Prop
 | 0,listed,_,a,w=>Region.ready .any ops listed=[]∧Q .normal a w
 | fuel+1,listed,iS,a,w =>
  (Region.ready .any ops listed=[]→Q .normal a w) ∧
  ∀j∈Region.ready .any ops listed,wpOp P ops Q j (fun b_ w'=>(iS.after ops j).ok w'∧oA P ops Q fuel (listed.setIfInBounds j true) (iS.after ops j) b_ w') a w
theorem Qz:∀(fuel:Nat) (listed:Array Bool) (iS:fH) (a:Act) (w:World),oA P ops Q fuel listed iS a w→wpAny P .any ops Q fuel listed a w
 | 0,_,_,_,_,h=>h
 | fuel+1,_,_,_,_,h=>⟨h.1,fun i hi=>wpOp_mono (fun b_ w' h'=>Qz fuel _ _ b_ w' h'.2) (h.2 i hi)⟩
theorem fH.QA{p q:fH}(h:∀x∈p,x∈q)(j:Nat):∀x∈p.after ops j,x∈q.after ops j:=by
 intro x hx
 unfold fH.after at *
 rw [List.mem_filter] at *
 exact⟨h x hx.1,hx.2⟩
theorem QB:∀(fuel:Nat) (listed:Array Bool) (p q:fH) (a:Act) (w:World),(∀x∈p,x∈q)→oA P ops Q fuel listed q a w→oA P ops Q fuel listed p a w
 | 0,_,_,_,_,_,_,h=>h
 | fuel+1,_,p,q,_,_,hs,h=>⟨h.1,fun i hi=>wpOp_mono (fun b_ w' h'=>⟨fun x hx=>h'.1 x (fH.QA hs i x hx),QB fuel _ _ _ b_ w' (fH.QA hs i) h'.2⟩) (h.2 i hi)⟩
theorem fH.I6{p:fH}{j:Nat}{x:Nat×(World→Prop)}(hx:x∈p.after ops j):x∈p:=(List.mem_filter.1 hx).1
theorem aaf{i:Nat}{mB:Oper}{v:Value}{S:World→Prop}(hi:ops[i]?=some mB)(wM:∀(j:Nat) (o:Oper) cs b,ops[j]?=some o→o.op≠.select cs b)
  (nA:∀c a w,Q (.panic c) (a.put mB.dst v) w→Q (.panic c) a w) :
  ∀(fuel:Nat) (listed:Array Bool) (iS:fH) (a:Act) (w:World),
   (∀j nB,ops[j]?=some nB→j≠i→listed.getD j true=false→(∀e∈nB.after,Region.binds .any e=true→e.on≠i)→mB.apart ops nB=true) →
   i∈Region.ready .any ops listed→YieldsIf P ops S mB v a→S w→iS.ok w →
   oA P ops Q fuel (listed.setIfInBounds i true) ((i,S) :: iS) (a.put mB.dst v) w→oA P ops Q (fuel+1) listed iS a w:=by
 intro fuel
 induction fuel with
 | zero =>
  intro listed iS a w _ hr aN dQ au H
  refine⟨fun h=>(by rw [h] at hr;cases hr),fun j hj=>?_⟩
  by_cases lU:j=i
  ·subst lU;exact aN.wpOp hi dQ ⟨fun x hx=>au x (fH.I6 hx),H⟩
  ·have:=ready_mono hj lU
   rw [H.1] at this
   cases this
 | succ fuel ih =>
  intro listed iS a w fi hr aN dQ au H
  refine⟨fun h=>(by rw [h] at hr;cases hr),fun j hj=>?_⟩
  by_cases lU:j=i
  ·subst lU
   exact aN.wpOp hi dQ ⟨fun x hx=>au x (fH.I6 hx),QB _ _ _ _ _ _ (fun x hx=>List.mem_cons_of_mem _ (fH.I6 hx)) H⟩
  ·have h1:=H.2 j (ready_mono hj lU)
   obtain ⟨QC,nB,Cc,qs⟩:=mem_ready.1 hj
   have QD:∀e∈nB.after,Region.binds .any e=true→e.on≠i:=fun e he hb heq=>by
    have h1:=qs e he hb
    have h0:=(mem_ready.1 hr).1
    rw [heq] at h1
    rcases Nat.lt_or_ge i listed.size with h' | h'
    ·simp [h'] at h0 h1;rw [h0] at h1;cases h1
    ·simp [Array.getElem?_eq_none h'] at h1
   have aag:waits ops j i=false:=by
    unfold waits
    rw [Cc]
    simp only
    rw [Bool.eq_false_iff]
    intro aah
    obtain ⟨e,he,hb⟩:=Array.any_eq_true'.1 aah
    simp only [Bool.and_eq_true] at hb
    exact QD e he hb.1 (Nat.eq_of_beq_eq_true hb.2)
   have aai:fH.after ops j ((i,S) :: iS)=(i,S) :: iS.after ops j:=by
    unfold fH.after
    rw [List.filter_cons_of_pos (by simp [aag])]
   rw [aai] at h1
   have h2:=wpOp_putIf Cc (fi j nB Cc lU QC QD) (fun cs b=>wM i mB cs b hi) (fun cs b=>wM j nB cs b Cc) nA aN h1
   have aaj:∀k ok,ops[k]?=some ok→k≠i→(listed.setIfInBounds j true).getD k true=false →
     (∀e∈ok.after,Region.binds .any e=true→e.on≠i)→mB.apart ops ok=true:=fun k ok hk gW wN bS=>by
    refine fi k ok hk gW ?_ bS
    by_cases lR:j=k
    ·subst lR;exact QC
    ·rw [getD_set_ne true lR] at wN;exact wN
   refine wpOp_mono (fun b_ w' h3=>⟨fun x hx=>h3.2.1 x (List.mem_cons_of_mem _ hx),ih (listed.setIfInBounds j true) _ b_ w' aaj (ready_mono hr (Ne.symm lU)) h3.1 (h3.2.1 _ List.mem_cons_self) (fun x hx=>h3.2.1 x (List.mem_cons_of_mem _ hx)) ?_⟩) h2
   rw [Array.setIfInBounds_comm _ _ lU]
   exact h3.2.2
end
end Go.LM
namespace Go.LM
section
variable{P:Program}{Q:Exit→Act→World→Prop}
variable{w0:World}{F0 Z0:ah}{n:cD}{s aq:an}{a b_:Act}{w w':World}{ι bf:Nat→bG}{Z Z':ah}
variable{E:Env}{o:Oper}{bs : Type}{K:an→Option bs}{r : bs}{id:Nat}
structure cD.le(p q:cD):Prop where
 n:q.n=p.n
 qe:q.qe=p.qe
 gc:∀e,e∈p.gc→e∈q.gc
theorem cD.le.refl(n:cD):cD.le n n:=⟨rfl,rfl,fun _ h=>h⟩
theorem cD.le.trans{a b c:cD}(h:cD.le a b)(k:cD.le b c):cD.le a c:=⟨k.n.trans h.n,k.qe.trans h.qe,fun e he=>k.gc e (h.gc e he)⟩
theorem Inv.forget{ef:cD}(h:Inv w0 F0 Z0 ef s a w ι Z)(hl:cD.le n ef):Inv w0 F0 Z0 n s a w ι Z :=
 ⟨h.ext,h.dF,h.rv,h.iU,h.fS,h.own,h.apart,h.c5,h.tmps,by rw [h.size,hl.n],by rw [← hl.qe];exact h.ghost,fun e he=>h.seen e (hl.gc e he),h.defers⟩
theorem Inv.QE(h:Inv w0 F0 Z0 n s a w ι Z){e:Seen}(he:tq w Z s ι e):Inv w0 F0 Z0 ⟨n.n,n.qe,e :: n.gc⟩ s a w ι Z :=
 ⟨h.ext,h.dF,h.rv,h.iU,h.fS,h.own,h.apart,h.c5,h.tmps,h.size,h.ghost,fun x hx=>by rcases List.mem_cons.1 hx with rfl | hx;exact he;exact h.seen x hx,h.defers⟩
theorem QF(n:cD)(e:Seen):cD.le n ⟨n.n,n.qe,e :: n.gc⟩:=⟨rfl,rfl,fun _ h=>List.mem_cons_of_mem _ h⟩
def rT(n:cD)(dp:List (Nat×Nat))(S:World→Prop):Prop:=(∀w,S w)∨∃b i vs,(⟨dp,b,i,vs⟩:Seen)∈n.gc∧S=fun w=>b8 w b i vs
theorem rT.le{ef:cD}{dp:List (Nat×Nat)}{S:World→Prop}(h:rT n dp S)(hl:cD.le n ef):rT ef dp S :=
 h.imp (fun h=>h) fun⟨b,i,vs,h1,h2⟩=>⟨b,i,vs,hl.gc _ h1,h2⟩
def Reads(P:Program)(w0:World)(F0 Z0:ah)(n:cD)(dp:List (Nat×Nat))(o:Oper)(a:Act)(w:World)(aq:an):Prop :=
 ∃v S ef,(∀w',S w'→(execOp a.eval o).run P w'=.ok (.value v) w')∧S w∧cY w0 F0 Z0 ef aq (a.put o.dst v) w∧cD.le n ef∧rT ef dp S
theorem Pure.reads{dp:List (Nat×Nat)}(h:Pure P o a w (cY w0 F0 Z0 n aq)):Reads P w0 F0 Z0 n dp o a w aq:=by
 obtain ⟨v,h1,h2⟩:=h
 exact⟨v,fun _=>True,n,fun w' _=>h1 w',trivial,h2,.refl n,.inl fun _=>trivial⟩
theorem aak{t:Nat}{x:Operand}(bZ:gS P E)(h:Inv w0 F0 Z0 n s a w ι Z)(ag:∀k,o.dst=some k→k<n)(ho:o.op=.load t x)(hk:cT E id o s K=some r) :
  ∃aq,K aq=some r∧Reads P w0 F0 Z0 n (iR s o) o a w aq:=by
 unfold cT at hk
 rw [ho] at hk
 simp only at hk
 have hx:=e7 h x
 have hrun:∀ {T:ad} {b i:Nat} {vs:List Value} {w':World},E.ty t=some T→a.eval x=.pointer (some (at_ b i))→b8 w' b i vs→vs.length=T.size →
   (execOp a.eval o).run P w'=.ok (.value (dH T vs)) w':=by
  intro T b i vs w' ht he hc hl
  unfold execOp;rw [ho]
  refine fW ?_
  simp only [Instr.loadAt,Instr.sureAddr,he,run_bind,run_pure,HP (bZ.ty t T ht) hc hl]
 cases ht:E.ty t with
 | none=>rw [ht] at hk;simp at hk
 | some T =>
  rw [ht] at hk
  cases cK:bV s x with
  | ptr p =>
   have ng:iR s o=[(p.id,ks s p.id)]:=by unfold iR;rw [ho];simp only [cK]
   rw [cK] at hk hx
   simp only at hk
   cases c7:(l_ s T.size p).bind (jZ T) with
   | none=>rw [c7] at hk;simp at hk
   | some v =>
    rw [c7] at hk
    obtain ⟨cs,h1,h2⟩:=bg c7
    simp only [aQ] at hx
    obtain ⟨_,A,he,au⟩:=hx
    obtain ⟨b,i,vs,rfl,hc,b4,hl,cc,hF⟩:=PQ h h1 au
    have I7:tq w Z s ι ⟨iR s o,b,i,vs⟩:=by
     rw [ng]
     refine⟨fun d ag=>?_,fun _=>⟨b4,fun j hj=>.inr ⟨_,List.mem_singleton.2 rfl,hF j (by simp only at hj;omega)⟩⟩⟩
     rw [List.mem_singleton] at ag
     subst ag
     exact⟨fun hn=>by rw [hn] at cc;exact cc,.inr (Nat.le_refl _)⟩
    exact⟨_,hk,_,fun w'=>b8 w' b i vs,_,fun w' hw=>hrun ht he hw hl,b4,⟨ι,Z,(h.QE I7).dst (ph h2 hc) ag⟩,QF n ⟨iR s o,_,_,_⟩,.inr ⟨b,i,vs,List.mem_cons_self,rfl⟩⟩
  | dk dp cs off =>
   have ng:iR s o=dp:=by unfold iR;rw [ho];simp only [cK]
   rw [cK] at hk hx
   simp only at hk
   cases c7:(takeN off T.size cs).bind (jZ T) with
   | none=>rw [c7] at hk;simp at hk
   | some v =>
    rw [c7] at hk
    simp only at hk
    cases dU:alive s dp
    ·rw [dU] at hk;simp at hk
    rw [dU] at hk
    obtain ⟨ds,h1,h2⟩:=bg c7
    obtain ⟨h3,rfl⟩:=pe h1
    simp only [aQ] at hx
    obtain ⟨ca,b,i,vs,he,hx⟩:=hx
    obtain ⟨hc,b4,hz⟩:=hx dU
    have hlen:=hc.len
    have QG:b8 w b (i+off) (part vs off T.size):=b4.part off T.size
    have fD:(part vs off T.size).length=T.size:=by simp [part];omega
    have I7:tq w Z s ι ⟨iR s o,b,i+off,part vs off T.size⟩:=by
     rw [ng]
     refine⟨ca,fun _=>⟨QG,fun j hj=>?_⟩⟩
     simp only at hj
     rw [fD] at hj
     have:=hz (off+j) (by omega)
     rwa [← Nat.add_assoc] at this
    exact⟨_,hk,_,fun w'=>b8 w' b (i+off) (part vs off T.size),_,fun w' hw=>hrun ht he hw fD,QG,⟨ι,Z,(h.QE I7).dst (ph h2 ((hc.drop _).take _)) ag⟩,QF n ⟨iR s o,_,_,_⟩,.inr ⟨b,i+off,part vs off T.size,List.mem_cons_self,rfl⟩⟩
  | _=>rw [cK] at hk;simp at hk
theorem aal(bM:jL P E)(h:Inv w0 F0 Z0 n s a w ι Z)(ag:∀k,o.dst=some k→k<n)(c7:tl E o=true)(hk:cT E id o s K=some r) :
  ∃aq,K aq=some r∧Reads P w0 F0 Z0 n (iR s o) o a w aq:=by
 have fj:(∃aq,K aq=some r∧Pure P o a w (cY w0 F0 Z0 n aq))→∃aq,K aq=some r∧Reads P w0 F0 Z0 n (iR s o) o a w aq:=fun⟨aq,h1,h2⟩=>⟨aq,h1,h2.reads⟩
 unfold tl at c7
 cases ho:o.op with
 | move x=>exact fj (Bp h ag (.inl ho) hk)
 | assign x=>exact fj (Bp h ag (.inr ho) hk)
 | pick c x y=>exact fj (OV h ag ho hk)
 | load t x=>exact aak bM.ty h ag ho hk
 | nilCheck x=>exact fj (OX h ag ho hk)
 | binOp op t x y Bu=>exact fj (Pf bM.ty bM.eq h ag ho hk)
 | unOp op t x=>exact fj (Pb h ag ho hk)
 | convert st gk x =>
  rw [ho] at c7
  simp only at c7
  cases h1:E.ty st with
  | none=>rw [h1] at c7;simp at c7
  | some S =>
   cases h2:E.ty gk with
   | none=>rw [h1,h2] at c7;cases S <;> simp at c7
   | some T =>
    rw [h1,h2] at c7
    cases S <;> cases T <;> simp only at c7 <;> first | (cases c7;done) | exact fj (YI bM.ty h ag ho h1 h2 hk)
 | build t ps=>exact fj (Pw bM.ty h ag ho hk)
 | makeFunc f first lx =>
  cases f with
  | func f=>exact fj (O2 h ag ho hk)
  | _=>unfold cT at hk;rw [ho] at hk;simp at hk
 | slice t x lo hi gP=>exact fj (O8 bM.ty h ag ho hk)
 | fieldAddr t x f=>exact fj (OZ bM.ty h ag ho hk)
 | field t x f=>exact fj (O0 bM.ty h ag ho hk)
 | indexAddr t x i=>exact fj (O3 bM.ty h ag ho hk)
 | index t x i=>exact fj (O4 bM.ty h ag ho hk)
 | extract x i=>exact fj (O1 h ag ho hk)
 | call c =>
  rw [ho] at c7
  simp only at c7
  cases hc:c.callee with
  | builtin b =>
   rw [hc] at c7
   by_cases hb:b=.append
   ·subst hb;simp at c7
   ·by_cases hb2:b=.clear
    ·subst hb2;simp at c7
    ·exact fj (Pq bM.ty h ag ho hc hb hb2 hk)
  | value f=>rw [hc] at c7;simp at c7
  | invoke x m=>rw [hc] at c7;simp at c7
 | _=>rw [ho] at c7;simp at c7
theorem aam{d:Nat}{c:a6}(hst:s.t d=c)(x:Operand):bV (s.set d c) x=bV s x:=by
 cases x with
 | tmp t =>
  show bU s.t d c t=s.t t
  by_cases ag:d=t
  ·subst ag;rw [cw,hst]
  ·rw [cS ag]
 | _=>rfl
theorem QH{d:Nat}{c:a6}(hst:s.t d=c):iR (s.set d c) o=iR s o:=by
 unfold iR
 cases ho:o.op <;> simp only
 rename_i t x
 rw [aam hst]
 rfl
theorem aan{ops:Array Oper}(bM:jL P E)(hn:E.n=n)(c7:tl E o=true)(h:Inv w0 F0 Z0 n s a w ι Z)(hk:tj E id ops.toList o s K=some r) :
  ∃aq v S ef,K aq=some r∧YieldsIf P ops S o v a∧S w∧cY w0 F0 Z0 ef aq (a.put o.dst v) w∧cD.le n ef∧rT ef (iR s o) S:=by
 unfold tj at hk
 cases tU:yg E o
 ·rw [tU] at hk;cases hk
 rw [tU] at hk
 simp only [cond_true] at hk
 have ag:=Qv hn tU
 have lV:∀ {s1:an},Region.wanted o (yielded ops a.tmps)=true→iR s1 o=iR s o→Inv w0 F0 Z0 n s1 a w ι Z→cT E id o s1 K=some r→∃aq v S ef,K aq=some r∧YieldsIf P ops S o v a∧S w∧cY w0 F0 Z0 ef aq (a.put o.dst v) w∧cD.le n ef∧rT ef (iR s o) S:=by
  intro s1 hw he h1 hk1
  obtain ⟨aq,h2,v,S,ef,h3,h4,a7,bh,bH⟩:=aal bM h1 ag c7 hk1
  exact⟨aq,v,S,ef,h2,.inl ⟨hw,h3⟩,h4,a7,bh,he ▸ bH⟩
 have bS:∀ {s1:an},Region.wanted o (yielded ops a.tmps)=false→Inv w0 F0 Z0 n s1 a w ι Z→K (s1.dst o.dst .gone)=some r→∃aq v S ef,K aq=some r∧YieldsIf P ops S o v a∧S w∧cY w0 F0 Z0 ef aq (a.put o.dst v) w∧cD.le n ef∧rT ef (iR s o) S:=fun hw h1 hk1 =>
  ⟨_,undef,fun _=>True,n,hk1,.inr ⟨hw,rfl⟩,trivial,Qx h1 ag,.refl n,.inl fun _=>trivial⟩
 unfold guardOf at hk
 cases aB:o.guard with
 | none =>
  rw [aB] at hk
  simp only at hk
  exact lV (by simp [Region.wanted,aB]) rfl h hk
 | some I3 =>
  obtain ⟨j,wt⟩:=I3
  rw [aB] at hk
  simp only at hk
  cases hj:(ops.toList[j]?).bind (·.dst) with
  | none=>rw [hj] at hk;simp at hk
  | some d =>
   rw [hj] at hk
   simp only at hk
   cases hst:s.t d with
   | aV c =>
    cases c with
    | bool b =>
     rw [hst] at hk
     simp only at hk
     obtain ⟨h1,h2⟩:=h.Qw hst
     have aN:yielded ops a.tmps j=some b:=by
      unfold yielded
      rw [Array.getElem?_toList] at hj
      rw [hj]
      simp only [av]
      have cz:d<a.tmps.size:=by
       rcases Nat.lt_or_ge d a.tmps.size with h | h
       ·exact h
       ·rw [Array.getD_eq_getD_getElem?,Array.getElem?_eq_none h] at h2
        simp [undef] at h2
      rw [Array.getD_eq_getD_getElem?,Array.getElem?_eq_getElem cz] at h2
      rw [Array.getElem?_eq_getElem cz]
      simp only [Option.getD_some] at h2
      rw [h2]
     have hw:Region.wanted o (yielded ops a.tmps)=(b==wt):=by
      simp only [Region.wanted,aB,aN]
      cases b <;> cases wt <;> rfl
     cases b <;> cases wt <;> simp only [cond_true,cond_false] at hk
     ·exact lV hw (QH hst) h1 hk
     ·exact bS hw h1 hk
     ·exact bS hw h1 hk
     ·exact lV hw (QH hst) h1 hk
    | _=>rw [hst] at hk;simp at hk
   | gone =>
    rw [hst] at hk
    simp only at hk
    have h2:=h.tmps d
    rw [hst] at h2
    simp only [aQ] at h2
    have aN:yielded ops a.tmps j=none:=by
     unfold yielded
     rw [Array.getElem?_toList] at hj
     rw [hj]
     simp only [av]
     rw [Array.getD_eq_getD_getElem?] at h2
     cases iC:a.tmps[d]? with
     | none=>rfl
     | some v=>rw [iC] at h2;simp only [Option.getD_some] at h2;subst h2;rfl
    have hw:Region.wanted o (yielded ops a.tmps)=false:=by
     simp only [Region.wanted,aB,aN]
     cases wt <;> rfl
    exact bS hw h hk
   | _=>rw [hst] at hk;simp at hk
theorem aao{a b:Option bs}(h:both a b=some r):a=some r∧b=some r:=by
 unfold both at h
 split at h
 ·rename_i he;subst he;exact⟨h,h⟩
 ·cases h
theorem QI:∀ {l:List (Option bs)},Bi l=some r→∀x∈l,x=some r
 | [x],h,y,aN=>by rw [List.mem_singleton] at aN;rw [aN];exact h
 | x :: z :: l,h,y,aN=>by
  simp only [Bi] at h
  obtain ⟨h1,h2⟩:=aao h
  rcases List.mem_cons.1 aN with rfl | aN
  ·exact h1
  ·exact QI (l:=z :: l) h2 y aN
def wO(n:cD)(p:List (Nat×List (Nat×Nat)))(q:fH):Prop:=∀x∈q,∃dp,(x.1,dp)∈p∧rT n dp x.2
theorem wO.le{ef:cD}{p:List (Nat×List (Nat×Nat))}{q:fH}(h:wO n p q)(hl:cD.le n ef):wO ef p q :=
 fun x hx=>let ⟨dp,h1,h2⟩:=h x hx;⟨dp,h1,h2.le hl⟩
theorem I8:∀ {p:List (Nat×List (Nat×Nat))},tm s p=true→∀x∈p,alive s x.2=true
 | [],_,_,hx=>by simp at hx
 | y :: p,h,x,hx=>by
  unfold tm at h
  cases ha:alive s y.2
  ·rw [ha] at h;cases h
  ·rw [ha] at h
   rcases List.mem_cons.1 hx with rfl | hx
   ·exact ha
   ·exact I8 h x hx
theorem aap{bF:Nat}{ops:Array Oper}(bM:jL P E){m:Nat}{listed:Array Bool}{p:List (Nat×List (Nat×Nat))}{q:fH}{ef:cD}{rs:List Nat}(hn:E.n=ef)(hle:cD.le n ef)(hr:Region.ready .any ops listed=rs)
  (h:Inv w0 F0 Z0 ef s a w ι Z) (au:wO ef p q) (hk:Ht E bF ops listed p rs s K=some r):oA P ops (fun e a w=>e=.normal∧gV w0 F0 Z0 n K r a w) (m+3+1) listed q a w:=by
 have Cd:∀ {l:List Nat} {i:Nat},one l=some i→l=[i]:=by
  intro l i h
  match l,h with
  | [j],h=>rw [aT (show some j=some i from h)]
 unfold Ht at hk
 obtain ⟨i,h0,hk⟩:=bg hk
 obtain ⟨i1,h1,hk⟩:=bg hk
 obtain ⟨i2,h2,hk⟩:=bg hk
 obtain ⟨i3,h3,hk⟩:=bg hk
 have h0:=hr.trans (Cd h0)
 have h1:=Cd h1
 have h2:=Cd h2
 have h3:=Cd h3
 generalize hl1:listed.setIfInBounds i true=dS at hk h1 h2 h3
 generalize dR:dS.setIfInBounds i1 true=eK at hk h2 h3
 generalize I5:eK.setIfInBounds i2 true=oo at hk h3
 generalize aaq:oo.setIfInBounds i3 true=pg at hk
 cases hb:((Region.ready .any ops pg).isEmpty&&((p.filter fun p => !waits ops i p.1).filter fun p => !waits ops i1 p.1).isEmpty)
 ·rw [hb] at hk;cases hk
 rw [hb] at hk
 simp only [cond_true] at hk
 simp only [Bool.and_eq_true,List.isEmpty_iff] at hb
 obtain ⟨h4,aar⟩:=hb
 obtain ⟨o,ho,hk⟩:=bg hk
 obtain ⟨dE,my,hk⟩:=bg hk
 obtain ⟨eH,j3,hk⟩:=bg hk
 obtain ⟨eW,qt,hk⟩:=bg hk
 obtain ⟨g0,g1,g2,g3,mg⟩:=aab (Q:=fun e a w=>e=.normal∧gV w0 F0 Z0 n K r a w) bM hn h hk
 have step:∀ {fuel j:Nat} {nB:Oper} {l:Array Bool} {q:fH} {a:Act} {w:World},Region.ready .any ops l=[j]→ops[j]?=some nB→nB.guard=none →
   nB.wp P a w (fun b_ w'=>(q.after ops j).ok w'∧oA P ops (fun e a w=>e=.normal∧gV w0 F0 Z0 n K r a w) fuel (l.setIfInBounds j true) (q.after ops j) b_ w') (fun e a w=>e=.normal∧gV w0 F0 Z0 n K r a w) →
   oA P ops (fun e a w=>e=.normal∧gV w0 F0 Z0 n K r a w) (fuel+1) l q a w:=by
  intro fuel j nB l q a w hr hj aB hw
  refine⟨fun h=>(by rw [hr] at h;cases h),fun k hk=>?_⟩
  rw [hr] at hk
  obtain rfl:=List.mem_singleton.1 hk
  unfold wpOp
  simp only [hj]
  rw [if_pos (by simp [Region.wanted,aB])]
  exact .inl hw
 have h9:fH.after ops i1 (fH.after ops i q)=[]:=by
  refine List.eq_nil_iff_forall_not_mem.2 fun x hx=>?_
  obtain ⟨hx,hx1⟩:=List.mem_filter.1 hx
  obtain ⟨hx,hx0⟩:=List.mem_filter.1 hx
  obtain ⟨dp,g1,_⟩:=au x hx
  have:(x.1,dp)∈((p.filter fun p => !waits ops i p.1).filter fun p => !waits ops i1 p.1):=List.mem_filter.2 ⟨List.mem_filter.2 ⟨g1,hx0⟩,hx1⟩
  rw [aar] at this
  cases this
 have nil:∀(j:Nat),fH.after ops j []=[]:=fun _=>rfl
 refine step h0 ho g0 (Oper.wp_mono ?_ mg)
 rintro a1 nz ⟨⟨og,j8,bf,Z',k2⟩,mg⟩
 refine⟨?_,?_⟩
 ·intro x hx
  obtain ⟨hx1,hx2⟩:=List.mem_filter.1 hx
  obtain ⟨dp,f1,f2⟩:=au x hx1
  rcases f2 with f2 | ⟨b,j,vs,f2,f3⟩
  ·exact f2 nz
  ·rw [f3]
   exact((k2.seen _ f2).2 (I8 j8 _ (List.mem_filter.2 ⟨f1,hx2⟩))).1
 rw [hl1]
 refine step h1 my g1 (Oper.wp_mono ?_ mg)
 intro a2 b6 mg
 rw [h9,dR]
 refine⟨fun x hx=>(by cases hx),step h2 j3 g2 (Oper.wp_mono ?_ mg)⟩
 intro a3 fY mg
 rw [nil,I5]
 refine⟨fun x hx=>(by cases hx),step h3 qt g3 (Oper.wp_mono ?_ mg)⟩
 rintro a4 aas ⟨aq,e1,Qf,aat,e2⟩
 rw [nil,aaq]
 refine⟨fun x hx=>(by cases hx),?_⟩
 have hfin:Exit.normal=.normal∧gV w0 F0 Z0 n K r a4 aas:=⟨rfl,aq,e1,Qf,aat,e2.forget hle⟩
 cases m with
 | zero=>exact⟨h4,hfin⟩
 | succ m=>exact⟨fun _=>hfin,fun j hj=>(by rw [h4] at hj;cases hj)⟩
theorem I9{bF:Nat}{ops:Array Oper}(bM:jL P E)(hs:Region.noSelect ops=true):∀(m:Nat) (listed:Array Bool) (p:List (Nat×List (Nat×Nat))) (q:fH) (ef:cD) (s:an) (a:Act) (w:World),
  E.n=ef→cD.le n ef→tn E bF ops m listed p s K=some r→cY w0 F0 Z0 ef s a w→wO ef p q→q.ok w →
  oA P ops (fun e a w=>e=.normal∧gV w0 F0 Z0 n K r a w) m listed q a w
 | 0,listed,p,q,ef,s,a,w,hn,hle,hk,⟨ι,Z,h⟩,au,hq=>by
  unfold tn at hk
  cases hr:Region.ready .any ops listed with
  | nil=>rw [hr] at hk;exact⟨hr,rfl,s,hk,ι,Z,h.forget hle⟩
  | cons=>rw [hr] at hk;cases hk
 | m+1,listed,p,q,ef,s,a,w,hn,hle,hk,⟨ι,Z,h⟩,au,hq=>by
  unfold tn at hk
  cases hr:Region.ready .any ops listed with
  | nil =>
   rw [hr] at hk
   exact⟨fun _=>⟨rfl,s,hk,ι,Z,h.forget hle⟩,fun j hj=>by rw [hr] at hj;simp at hj⟩
  | cons i0 QJ =>
   rw [hr] at hk
   simp only at hk
   cases hf:(i0 :: QJ).find? fun i=>Hq E ops i&&Region.free .any ops listed i with
   | some i =>
    rw [hf] at hk
    simp only at hk
    have h3:=List.find?_some hf
    simp only [Bool.and_eq_true] at h3
    cases ho:ops[i]? with
    | none=>rw [ho] at hk;cases hk
    | some o =>
     rw [ho] at hk
     simp only at hk
     have c7:tl E o=true:=by have:=h3.1;unfold Hq at this;rw [ho] at this;exact this
     obtain ⟨aq,v,S,mb,h1,h2,g3,h4,a7,bh⟩:=aan bM hn c7 h hk
     refine aaf ho (Region.noSelect_spec hs) (fun c a w hh=>by simp at hh) m listed q a w (Region.free_spec ho h3.2) (by rw [hr];exact List.mem_of_find?_eq_some hf) h2 g3 hq ?_
     refine I9 bM hs m _ _ _ mb aq _ w (hn.trans a7.n.symm) (hle.trans a7) h1 h4 ?_ ?_
     ·intro x hx
      rcases List.mem_cons.1 hx with rfl | hx
      ·exact⟨_,List.mem_cons_self,bh⟩
      ·obtain ⟨dp,g1,g2⟩:=au x hx
       exact⟨dp,List.mem_cons_of_mem _ g1,g2.le a7⟩
     ·intro x hx
      rcases List.mem_cons.1 hx with rfl | hx
      ·exact g3
      ·exact hq x hx
   | none =>
    rw [hf] at hk
    simp only at hk
    cases hA:(OA s ops (i0 :: QJ)&&Nat.ble 3 m)
    case true =>
     rw [hA] at hk
     simp only [cond_true] at hk
     simp only [Bool.and_eq_true] at hA
     obtain ⟨m',rfl⟩:∃m',m=m'+3:=⟨m-3,by have:=Nat.le_of_ble_eq_true hA.2;omega⟩
     exact aap bM hn hle hr h au hk
    rw [hA] at hk
    simp only [cond_false] at hk
    refine⟨fun h0=>(by rw [hr] at h0;cases h0),fun j hj=>?_⟩
    rw [hr] at hj
    have hj':=QI hk _ (List.mem_map.2 ⟨j,hj,rfl⟩)
    cases ho:ops[j]? with
    | none=>rw [ho] at hj';cases hj'
    | some o =>
     rw [ho] at hj'
     simp only at hj'
     cases c7:tl E o
     case true=>rw [c7] at hj';cases hj'
     rw [c7] at hj'
     simp only [cond_false] at hj'
     have oz:=Qy (Q:=fun e a w=>e=.normal∧gV w0 F0 Z0 n K r a w) bM hn h hj'
     have qv:∀b_ w',gV w0 F0 Z0 ef (fun aq=>cond (tm aq (p.filter fun p => !waits ops j p.1)) (tn E bF ops m (listed.setIfInBounds j true) (p.filter fun p => !waits ops j p.1) aq K) none) r b_ w' →
       (q.after ops j).ok w'∧oA P ops (fun e a w=>e=.normal∧gV w0 F0 Z0 n K r a w) m (listed.setIfInBounds j true) (q.after ops j) b_ w':=by
      rintro b_ w' ⟨aq,k1,bf,Z',k2⟩
      dsimp only at k1
      cases dU:tm aq (p.filter fun p => !waits ops j p.1)
      ·rw [dU] at k1;cases k1
      rw [dU] at k1
      simp only [cond_true] at k1
      have Ce:wO ef (p.filter fun p => !waits ops j p.1) (q.after ops j):=by
       intro x hx
       obtain ⟨hx1,hx2⟩:=List.mem_filter.1 hx
       obtain ⟨dp,g1,g2⟩:=au x hx1
       exact⟨dp,List.mem_filter.2 ⟨g1,hx2⟩,g2⟩
      have ca:(q.after ops j).ok w':=by
       intro x hx
       obtain ⟨dp,g1,g2⟩:=Ce x hx
       rcases g2 with g2 | ⟨b,i,vs,g2,g3⟩
       ·exact g2 w'
       ·rw [g3]
        exact((k2.seen _ g2).2 (I8 dU _ g1)).1
      exact⟨ca,I9 bM hs m _ _ _ ef aq b_ w' hn hle k1 ⟨bf,Z',k2⟩ Ce ca⟩
     unfold wpOp
     simp only [ho]
     split
     ·rename_i hw
      rw [if_pos hw] at oz
      exact .inl (Oper.wp_mono qv oz)
     ·rename_i hw
      rw [if_neg hw] at oz
      exact qv _ _ oz
theorem aau{bF:Nat}{ops:Array Oper}(bM:jL P E)(hn:E.n=n)(hk:Hu E bF ops s K=some r)(hs:cY w0 F0 Z0 n s a w)(b:Frame)(k:List Item)(cs:List Frame) :
  ∃b_ w',gV w0 F0 Z0 n K r b_ w'∧Steps P (lone (b.at a (.code (.region bF ops true) :: k)) cs w) (lone (b.at b_ k) cs w'):=by
 unfold Hu at hk
 cases wM:Region.noSelect ops
 ·rw [wM] at hk;cases hk
 rw [wM] at hk
 simp only [cond_true] at hk
 obtain ⟨ι,Z,h⟩:=hs
 have h1:=I9 (n:=n) bM wM ops.size _ [] [] n s a { w with drawn:=w.drawn+1 } hn (.refl n) hk ⟨ι,Z,h.drew _⟩ (fun x hx=>by simp at hx) (fun x hx=>by simp at hx)
 obtain ⟨e,b_,w',⟨rfl,hl⟩,harr⟩:=(wp_region_any (id:=bF) bM.mix (Qz _ _ _ _ _ h1)) b k cs
 exact⟨b_,w',hl,harr⟩
end
end Go.LM
namespace Go.LM
section
variable{P:Program}{w0:World}{F0 Z0:ah}{n:cD}{E:Env}{bs : Type}{r : bs}
def lW:Code→List Item→List (Nat×List Item)
 | .region bF ops h6,k=>[(bF,.code (.region bF ops h6) :: k)]
 | .seq a b,k=>lW a (.code b :: k)++lW b k
 | .cond _ x y,k=>lW x k++lW y k
 | .block id c,k=>lW c (.inBlock id :: k)
 | .loop c,k=>lW c (.inLoop c :: k)
 | _,_=>[]
def gK:List Item→List (Nat×List Item)
 | []=>[]
 | .code c :: k=>lW c k++gK k
 | .inLoop c :: k=>lW c (.inLoop c :: k)++gK k
 | _ :: k=>gK k
theorem QK{id:Nat} : ∀ {k k':List Item},exitTo id k=some k'→∀p,p∈gK k'→p∈gK k
 | [],_,h,_,_=>by simp [exitTo] at h
 | x :: k,k',h,p,au=>by
  have key:(∃i,x=.inBlock i∧k'=k)∨exitTo id k=some k':=by
   cases x with
   | inBlock i =>
    simp only [exitTo] at h
    by_cases hi:(i==id)=true
    ·rw [if_pos hi] at h;exact .inl ⟨i,rfl,(aT h).symm⟩
    ·rw [if_neg hi] at h;exact .inr h
   | _=>exact .inr h
  rcases key with⟨i,rfl,rfl⟩ | hk
  ·exact au
  ·have:=QK hk p au
   cases x <;> simp only [gK] <;> first | exact this | exact List.mem_append_right _ this
def QL(H:Hand bs)(cuts:Nat→Bool)(r : bs)(todo:List Item)(s:an):Prop :=
 (∃bF ops h6 k,todo=.code (.region bF ops h6) :: k∧cuts bF=true∧H.cut bF todo s=some r)∨((todo=[]∨∃k,todo=.code .ret :: k)∧H.fin s=some r)
theorem QM{cuts:Nat→Bool}{H:Hand bs}(bM:jL P E)(hn:E.n=n):∀(fuel:Nat) (first:Bool) (todo:List Item) (s:an) (a:Act) (w:World),
  j1 E cuts H fuel first todo s=some r→cY w0 F0 Z0 n s a w→∀(b:Frame) (cs:List Frame),
  ∃pD aq b_ w',cY w0 F0 Z0 n aq b_ w'∧QL H cuts r pD aq∧(∀p,p∈gK pD→p∈gK todo)∧Steps P (lone (b.at a todo) cs w) (lone (b.at b_ pD) cs w')
 | 0,_,_,_,_,_,hk,_=>by simp [j1] at hk
 | fuel+1,first,todo,s,a,w,hk,hs=>by
  intro b cs
  have ih:=fun first todo s a w hk hs=>QM (H:=H) (cuts:=cuts) bM hn fuel first todo s a w hk hs b cs
  have one:∀ {todo1:List Item} {first:Bool},(∀p,p∈gK todo1→p∈gK todo)→step P (lone (b.at a todo) cs w)=.next (lone (b.at a todo1) cs w)→j1 E cuts H fuel first todo1 s=some r →
    ∃pD aq b_ w',cY w0 F0 Z0 n aq b_ w'∧QL H cuts r pD aq∧(∀p,p∈gK pD→p∈gK todo)∧Steps P (lone (b.at a todo) cs w) (lone (b.at b_ pD) cs w'):=by
   intro todo1 first hcs hst hk1
   obtain ⟨di,aq,b_,w',h1,h2,h3,h4⟩:=ih first todo1 s a w hk1 hs
   exact⟨di,aq,b_,w',h1,h2,fun p au=>hcs p (h3 p au),.head hst h4⟩
  unfold j1 at hk
  match todo,hk with
  | [],hk=>exact⟨[],s,a,w,hs,.inr ⟨.inl rfl,hk⟩,fun _ h=>h,.refl _ _⟩
  | .inBlock _ :: k,hk=>exact one (todo1:=k) (fun _ h=>h) step_inBlock hk
  | .inLoop c :: k,hk=>exact one (fun p au=>by simp only [gK,List.mem_append] at au ⊢;exact au.elim .inl fun h=>h) step_inLoop hk
  | .code .ret :: k,hk=>exact⟨_,s,a,w,hs,.inr ⟨.inr ⟨k,rfl⟩,hk⟩,fun _ h=>h,.refl _ _⟩
  | .code .skip :: k,hk=>exact one (todo1:=k) (fun _ h=>h) step_skip hk
  | .code (.seq x y) :: k,hk=>exact one (fun p au=>by simp only [gK,lW,List.mem_append] at au ⊢;exact or_assoc.2 au) step_seq hk
  | .code (.block id c) :: k,hk=>exact one (fun p au=>by simpa only [gK,lW] using au) step_block hk
  | .code (.loop c) :: k,hk=>exact one (fun p au=>by simp only [gK,lW,List.mem_append] at au ⊢;exact au.elim .inl fun h=>h) step_loop hk
  | .code (.exit id) :: k,hk =>
   simp only at hk
   cases he:exitTo id k with
   | none=>rw [he] at hk;simp at hk
   | some k'=>rw [he] at hk;exact one (QK he) (step_exit he) hk
  | .code (.cond c x y) :: k,hk =>
   simp only at hk
   obtain ⟨ι,Z,h⟩:=hs
   have hc:=e7 h c
   cases hcv:bV s c with
   | aV j2 =>
    cases j2 with
    | bool t =>
     rw [hcv] at hk hc
     simp only [aQ,cj] at hc
     have hst:=step_cond (P:=P) (b:=b) (a:=a) (k:=k) (cs:=cs) (w:=w) (x:=x) (y:=y) hc
     cases t with
     | true=>exact one (fun p au=>by simp only [gK,lW,List.mem_append] at au ⊢;exact au.elim (fun h=>.inl (.inl h)) .inr) hst hk
     | false=>exact one (fun p au=>by simp only [gK,lW,List.mem_append] at au ⊢;exact au.elim (fun h=>.inl (.inr h)) .inr) hst hk
    | _=>rw [hcv] at hk;simp at hk
   | _=>rw [hcv] at hk;simp at hk
  | .code (.region bF ops h6) :: k,hk =>
   simp only at hk
   cases h_:(cuts bF && !first)
   ·rw [h_] at hk
    simp only [cond_false] at hk
    have aav:∃b_ w',gV w0 F0 Z0 n (fun aq=>j1 E cuts H fuel false k aq) r b_ w'∧Steps P (lone (b.at a (.code (.region bF ops h6) :: k)) cs w) (lone (b.at b_ k) cs w'):=by
     cases h6 with
     | false=>exact aae bM hn hk hs b k cs
     | true=>exact aau bM hn hk hs b k cs
    obtain ⟨a1,nz,⟨s1,h1,h2⟩,hst⟩:=aav
    obtain ⟨di,aq,b_,w',c8,eJ,iv,iw⟩:=ih false k s1 a1 nz h1 h2
    exact⟨di,aq,b_,w',c8,eJ,fun p au=>by simp only [gK,List.mem_append];exact .inr (iv p au),hst.trans iw⟩
   ·rw [h_] at hk
    simp only [cond_true] at hk
    simp only [Bool.and_eq_true] at h_
    exact⟨_,s,a,w,hs,.inl ⟨bF,ops,h6,k,rfl,h_.1,hk⟩,fun _ h=>h,.refl _ _⟩
  | .code (.goto _) :: _,hk | .code (.label _) :: _,hk | .code (.scope _) :: _,hk | .inRegion _ _ :: _,hk | .inScope _ :: _,hk=>simp at hk
end
end Go.LM
namespace Go.LM
def k5(key:Nat):(ps:List bC)→(bC.ins ps).D→Nat→an→Option (List a6×an×Nat)
 | [],_,j,s=>some ([],s,j)
 | .fn _ _ :: ps,x,j,s=>(k5 key ps x j s).bind fun q=>some (.aD :: q.1,q.2)
 | .val t m :: ps,x,j,s=>(t.hH m [] x.1 s j).bind fun r=>(jZ t r.1).bind fun v=>(k5 key ps x.2 r.2.2 r.2.1).bind fun q=>some (v :: q.1,q.2)
 | .hD t :: ps,x,j,s=>(t.hH .R [] x.1 s j).bind fun r=>(jZ t r.1).bind fun v=>(k5 key ps x.2 r.2.2 r.2.1).bind fun q=>some (v :: q.1,q.2)
 | .hC t m :: ps,x,j,s=>(t.hH m [] x.1 s j).bind fun r=>(jZ t r.1).bind fun v=>(k5 key ps x.2 r.2.2 r.2.1).bind fun q=>some (v :: q.1,q.2)
 | .ref t :: ps,x,j,s=>(k5 key ps x.2 j s).bind fun q=>some (.dk [] (t.cells [] none x.1) 0 :: q.1,q.2)
 | .mut t m _ :: ps,x,j,s=>(t.hH m [] x.1 s j).bind fun r=>(mkObj r.2.1 r.2.2 (.var 0 r.1)).bind fun s1=>(k5 key ps x.2 (r.2.2+1) s1).bind fun q=>some (.ptr ⟨r.2.2,none,0⟩ :: q.1,q.2)
section
variable{P:Program}{w0:World}{F0 Z0:ah}{n:cD}{s aq:an}{a b_:Act}{w w':World}{ι bf:Nat→bG}{Z Z':ah}
theorem Inv.start{F:ah}(hZ:∀b o,Z b o→b<w.heap.size){m:Nat}(ha:a.tmps.size=m)(ag:a.defers=[]):Inv w F Z ⟨m,[],[]⟩ ⟨fun _=>.aD,fun _=>.none,[]⟩ a w ι Z :=
 ⟨Ext.refl _ _,fun _ _ h=>.inl h,fun _ _ h=>h,hZ,fun _=>trivial,fun _ h=>h.elim,fun _ _ h=>h.elim,fun _ h=>h.elim,fun _=>by simp only [aQ],ha,by simp only [aY],fun _ h=>by simp at h,ag⟩
def aaw(w0:World)(F0 Z0:ah)(n:cD)(s:an)(a:Act)(w:World)(ι : Nat→bG)(Z:ah)(us:List Value)(F:ah)(q:List a6×an×Nat):Prop :=
 ∃ bf,Inv w0 F0 Z0 n q.2.1 a w bf Z∧gH false w Z s ι w Z q.2.1 bf (fun _ _=>True)∧aY w Z q.2.1 bf q.1 us∧∀X,bJ w0 F0 s w ι Z X→ah.apart X F→bJ w0 F0 q.2.1 w bf Z X
theorem aax:gH false w Z s ι w Z s ι (fun _ _=>True) :=
 ⟨fun _ _ h=>h,fun _ _ h=>h,fun _ _ h=>h,fun _ _ _ h=>⟨h,rfl⟩,fun h=>by simp at h,b9.refl _ _,b9.refl _ _,fun _ _ h=>h,fun _ _ _ h=>h⟩
theorem oB:Z.or (dg ι [])=Z:=by
 funext b o
 apply propext
 constructor
 ·rintro (h | ⟨d,ag,_⟩)
  ·exact h
  ·simp at ag
 ·exact .inl
theorem tV{key:Nat} : ∀(ps:List bC) (x:(bC.ins ps).D) (us:List Value) (j:Nat) (s:an) (ι : Nat→bG) (F:ah) (q:List a6×an×Nat),k5 key ps x j s=some q→Inv w0 F0 Z0 n s a w ι Z →
  gw w Z key ps x us F→bJ w0 F0 s w ι Z F→aaw w0 F0 Z0 n s a w ι Z us F q
 | [],x,us,j,s,ι,F,q,he,h,hA,hF=>by
  simp only [k5,Option.some.injEq] at he
  subst he
  exact⟨ι,h,aax,hA,fun X hX _=>hX⟩
 | .fn l9 o_ :: ps,x,us,j,s,ι,F,q,he,h,hA,hF=>by
  simp only [k5] at he
  obtain ⟨p,au,he⟩:=bg he
  obtain rfl:=aT he
  obtain ⟨alr,als,aU,rfl,hsz,h4⟩:=hA
  obtain ⟨dz,i1,held,hr,ny⟩:=tV ps x aU j s ι F p au h h4 hF
  refine⟨dz,i1,held,?_,ny⟩
  simp only [aY]
  exact⟨_,aU,rfl,by simp only [aQ],hr⟩
 | .ref t :: ps,x,us,j,s,ι,F,q,he,h,hA,hF=>by
  simp only [k5] at he
  obtain ⟨p,au,he⟩:=bg he
  obtain rfl:=aT he
  obtain ⟨b,o,vs,aU,rfl,h1,h2,h3,h4⟩:=hA
  obtain ⟨dz,i1,held,hr,ny⟩:=tV ps x.2 aU j s ι F p au h h4 hF
  refine⟨dz,i1,held,?_,ny⟩
  simp only [aY]
  refine⟨_,aU,rfl,held.aA _ _ ?_,hr⟩
  simp only [aQ]
  have hl:=(ad.al.len t _ h2).1
  have hc:bK w Z s ι (t.cells [] none x.1) vs:=ad.qg t [] none (by simp) (fun _=>by rw [oB];exact h2) ⟨_,_,_,h2⟩ .none
  refine⟨by simp,b,o,vs,by simp,fun _=>⟨hc,h1,fun k hk=>.inl (h3 k (by rw [← hc.len,hl] at hk;exact hk))⟩⟩
 | .val t m :: ps,x,us,j,s,ι,F,q,he,h,hA,hF=>by
  simp only [k5] at he
  obtain ⟨r,hr,he⟩:=bg he
  obtain ⟨v,hv,he⟩:=bg he
  obtain ⟨p,au,he⟩:=bg he
  obtain rfl:=aT he
  obtain ⟨vs,aU,G,H,rfl,h1,h2,h3,h4,a7⟩:=hA
  obtain ⟨dz,i1,ja,c1,fF⟩:=ad.oj t m [] x.1 s ι j r vs G hr h (by rw [oB];exact h1) (hF.sub h4) (by rintro b o _ ⟨d,ag,_⟩;simp at ag) (by simp)
  obtain ⟨eA,i2,held,oC,ny⟩:=tV ps x.2 aU _ _ dz H p au i1 h2 (fF H (hF.sub a7) fun b o x y=>h3 b o y x)
  refine⟨eA,i2,(ja.held _).trans held,?_,fun X hX fG=>ny X (fF X hX fun b o x y=>fG b o x (h4 b o y)) fun b o x y=>fG b o x (a7 b o y)⟩
  simp only [aY]
  exact⟨_,aU,rfl,held.aA _ _ (ph hv c1),oC⟩
 | .hD t :: ps,x,us,j,s,ι,F,q,he,h,hA,hF=>by
  simp only [k5] at he
  obtain ⟨r,hr,he⟩:=bg he
  obtain ⟨v,hv,he⟩:=bg he
  obtain ⟨p,au,he⟩:=bg he
  obtain rfl:=aT he
  obtain ⟨vs,aU,G,H,rfl,h1,h2,h3,h4,a7⟩:=hA
  obtain ⟨dz,i1,ja,c1,fF⟩:=ad.oj t .R [] x.1 s ι j r vs G hr h (by rw [oB];exact h1) (hF.sub h4) (by rintro b o _ ⟨d,ag,_⟩;simp at ag) (by simp)
  obtain ⟨eA,i2,held,oC,ny⟩:=tV ps x.2 aU _ _ dz H p au i1 h2 (fF H (hF.sub a7) fun b o x y=>h3 b o y x)
  refine⟨eA,i2,(ja.held _).trans held,?_,fun X hX fG=>ny X (fF X hX fun b o x y=>fG b o x (h4 b o y)) fun b o x y=>fG b o x (a7 b o y)⟩
  simp only [aY]
  exact⟨_,aU,rfl,held.aA _ _ (ph hv c1),oC⟩
 | .hC t m :: ps,x,us,j,s,ι,F,q,he,h,hA,hF=>by
  simp only [k5] at he
  obtain ⟨r,hr,he⟩:=bg he
  obtain ⟨v,hv,he⟩:=bg he
  obtain ⟨p,au,he⟩:=bg he
  obtain rfl:=aT he
  obtain ⟨vs,aU,G,H,rfl,h1,h2,h3,h4,a7⟩:=hA
  obtain ⟨dz,i1,ja,c1,fF⟩:=ad.oj t m [] x.1 s ι j r vs G hr h (by rw [oB];exact h1) (hF.sub h4) (by rintro b o _ ⟨d,ag,_⟩;simp at ag) (by simp)
  obtain ⟨eA,i2,held,oC,ny⟩:=tV ps x.2 aU _ _ dz H p au i1 h2 (fF H (hF.sub a7) fun b o x y=>h3 b o y x)
  refine⟨eA,i2,(ja.held _).trans held,?_,fun X hX fG=>ny X (fF X hX fun b o x y=>fG b o x (h4 b o y)) fun b o x y=>fG b o x (a7 b o y)⟩
  simp only [aY]
  exact⟨_,aU,rfl,held.aA _ _ (ph hv c1),oC⟩
 | .mut t m m' :: ps,x,us,j,s,ι,F,q,he,h,hA,hF=>by
  simp only [k5] at he
  obtain ⟨r,hr,he⟩:=bg he
  obtain ⟨s1,hm,he⟩:=bg he
  obtain ⟨p,au,he⟩:=bg he
  obtain rfl:=aT he
  obtain ⟨b2,rfl⟩:=qk hm
  obtain ⟨b,o,vs,aU,G,H,rfl,h1,hwr,h2,h3,h4,a7,bh,bH⟩:=hA
  have hG:ah.sub G F:=fun b o x=>bh b o (.inl x)
  have dJ:ah.sub (ah.run b o t.size) F:=fun b o x=>bh b o (.inr x)
  obtain ⟨dz,i1,ja,c1,fF⟩:=ad.oj t m [] x.1 s ι j r vs G hr h (by rw [oB];exact h2) (hF.sub hG) (by rintro b o _ ⟨d,ag,_⟩;simp at ag) (by simp)
  have hl:=(ad.al.len t _ h2).1
  have hcl:=c1.len
  have j4:=fF _ (hF.sub dJ) (fun b o x y=>a7 b o y x)
  obtain ⟨i2,nw,mr,nx⟩:=Iw i1 (id:=r.2.2) (o:=.var 0 r.1) (i:=⟨some (at_ b o),0,ah.run b o t.size⟩) (by rw [b2];exact fun h=>h) (fun o'=>by simp) (by rw [b2];exact .made _ _ _) (fun hm=>by
   refine⟨at_ b o,vs,rfl,rfl,c1.move hm,h1,fun k hk=>⟨hwr k (by omega),rfl,by simp [at_],by simp [at_];omega⟩⟩) j4
  have wz:=(ja.held (w:=w) (Z:=Z) (fun _ _=>True)).trans nw
  have yJ:∀X,bJ w0 F0 s w ι Z X→ah.apart X (G.or (ah.run b o t.size))→bJ w0 F0 (r.2.1.bQ r.2.2 (.var 0 r.1)) w (bU dz r.2.2 ⟨some (at_ b o),0,ah.run b o t.size⟩) Z X:=fun X hX fG =>
   mr X (fF X hX fun b o x y=>fG b o x (.inl y)) fun b o x y=>fG b o x (.inr y)
  obtain ⟨ID,i3,QN,oC,aay⟩:=tV ps x.2 aU _ _ _ H p au i2 h3 (yJ H (hF.sub bH) fun b o x y=>h4 b o y x)
  refine⟨ID,i3,wz.trans QN,?_,fun X hX fG=>aay X (yJ X hX fun b o x y=>fG b o x (bh b o y)) fun b o x y=>fG b o x (bH b o y)⟩
  simp only [aY]
  refine⟨_,aU,rfl,QN.aA _ _ ?_,oC⟩
  simp only [aQ]
  refine⟨by show bU r.2.1.o r.2.2 _ r.2.2≠_;rw [cw];simp,_,rfl,rfl,?_⟩
  show match (bU r.2.1.o r.2.2 _ r.2.2).core with | .var _ _=>_ | .row .. => _ | _=>_
  rw [cw]
  exact⟨rfl,at_ b o,by rw [cw],by simp [at_]⟩
end
end Go.LM
namespace Go.LM
def yT(t:ad)(m:a')(v:a6)(s:an):Option (t.D×an) :=
 cond (oc t v) (match iQ t v with
  | some cs=>(t.imp false m cs s []).bind fun r=>match r.2.1 with
   | []=>some (r.1,r.2.2.1)
   | _=>none
  | none=>none) none
def iD:(ps:List bC)→List a6→an→Option (bC.dZ ps).D
 | [],_,_=>some ()
 | .mut t _ m' :: ps,gs,s =>
  match gs with
  | .ptr p :: gs =>
   match s.o p.id,p.fa with
   | .var _ cs,none=>cond (Nat.beq p.off 0&&Nat.beq cs.length t.size)
    ((t.imp false m' cs (s.bQ p.id .dead) []).bind fun r=>match r.2.1 with
     | []=>(iD ps gs r.2.2.1).bind fun q=>some (r.1,q)
     | _=>none) none
   | _,_=>none
  | _=>none
 | .hC t m :: ps,gs,s =>
  match gs with
  | v :: gs=>(yT t m v s).bind fun r=>(iD ps gs r.2).bind fun q=>some (r.1,q)
  | []=>none
 | .val _ _ :: ps,gs,s =>
  match gs with
  | _ :: gs=>iD ps gs s
  | []=>none
 | .hD _ :: ps,gs,s =>
  match gs with
  | _ :: gs=>iD ps gs s
  | []=>none
 | .ref _ :: ps,gs,s =>
  match gs with
  | _ :: gs=>iD ps gs s
  | []=>none
 | .fn _ _ :: ps,gs,s =>
  match gs with
  | _ :: gs=>iD ps gs s
  | []=>none
section
variable{P:Program}{w0:World}{F0 Z0:ah}{n:cD}{s aq:an}{a b_:Act}{w w':World}{ι bf:Nat→bG}{Z Z':ah}
theorem QO{t:ad}{m:a'}{v:a6}{u:Value}{r:t.D×an}(ho:yT t m v s=some r)(h:Inv w0 F0 Z0 n s a w ι Z)(hv:aQ w Z s ι v u) :
  ∃vs F Z',u=dH t vs∧Inv w0 F0 Z0 n r.2 a w ι Z'∧fc s ι Z r.2 Z'∧bJ w0 F0 r.2 w ι Z' F∧t.al w Z' m r.1 vs F∧∀b o,F b o→∃id,(s.o id).live∧(ι id).F b o:=by
 unfold yT at ho
 cases hf:oc t v
 ·rw [hf] at ho;simp at ho
 rw [hf] at ho
 simp only [cond_true] at ho
 cases hcs:iQ t v with
 | none=>rw [hcs] at ho;simp at ho
 | some cs =>
  rw [hcs] at ho
  simp only at ho
  obtain ⟨q,hq,ho⟩:=bg ho
  cases ep:q.2.1 with
  | cons=>rw [ep] at ho;simp at ho
  | nil =>
   rw [ep] at ho
   obtain rfl:=aT ho
   obtain ⟨us1,vs1,F1,cq,e1,i1,s1,c1,f1,bD,_,fU,_,g1⟩:=ad.lF t false m cs s [] q _ Z hq h (rE hcs hv) (by simp)
   rw [ep] at c1
   have hvs1:vs1=[]:=by cases vs1 with | nil=>rfl | cons=>exact c1.elim
   subst hvs1
   rw [List.append_nil] at e1
   have hw:=BN hf hv
   rw [e1] at hw
   rw [fU rfl,oB] at bD
   exact⟨us1,F1,cq,hw,i1,s1,f1,bD,g1⟩
theorem tW:∀(ps:List bC) (gs:List a6) (us:List Value) (s:an) (Z:ah) (x:(bC.dZ ps).D),iD ps gs s=some x→Inv w0 F0 Z0 n s a w ι Z→aY w Z s ι gs us →
  ∃aq F Z',Inv w0 F0 Z0 n aq a w ι Z'∧fc s ι Z aq Z'∧bJ w0 F0 aq w ι Z' F∧iq w Z' ps us x F∧∀b o,F b o→∃id,(s.o id).live∧(ι id).F b o
 | [],gs,us,s,Z,x,ho,h,hv=>⟨s,ah.none,Z,h,.refl,.none,trivial,fun _ _ h=>h.elim⟩
 | .val t m :: ps,gs,us,s,Z,x,ho,h,hv=>by
  cases gs with
  | nil=>simp [iD] at ho
  | cons v gs =>
   simp only [aY] at hv
   obtain ⟨u,aU,rfl,h1,h2⟩:=hv
   obtain ⟨aq,F,Z',i1,s1,f1,bD,g1⟩:=tW ps gs aU s Z x (by simp only [iD] at ho;exact ho) h h2
   exact⟨aq,F,Z',i1,s1,f1,⟨u,aU,rfl,bD⟩,g1⟩
 | .hD t :: ps,gs,us,s,Z,x,ho,h,hv=>by
  cases gs with
  | nil=>simp [iD] at ho
  | cons v gs =>
   simp only [aY] at hv
   obtain ⟨u,aU,rfl,h1,h2⟩:=hv
   obtain ⟨aq,F,Z',i1,s1,f1,bD,g1⟩:=tW ps gs aU s Z x (by simp only [iD] at ho;exact ho) h h2
   exact⟨aq,F,Z',i1,s1,f1,⟨u,aU,rfl,bD⟩,g1⟩
 | .ref t :: ps,gs,us,s,Z,x,ho,h,hv=>by
  cases gs with
  | nil=>simp [iD] at ho
  | cons v gs =>
   simp only [aY] at hv
   obtain ⟨u,aU,rfl,h1,h2⟩:=hv
   obtain ⟨aq,F,Z',i1,s1,f1,bD,g1⟩:=tW ps gs aU s Z x (by simp only [iD] at ho;exact ho) h h2
   exact⟨aq,F,Z',i1,s1,f1,⟨u,aU,rfl,bD⟩,g1⟩
 | .fn _ _ :: ps,gs,us,s,Z,x,ho,h,hv=>by
  cases gs with
  | nil=>simp [iD] at ho
  | cons v gs =>
   simp only [aY] at hv
   obtain ⟨u,aU,rfl,h1,h2⟩:=hv
   obtain ⟨aq,F,Z',i1,s1,f1,bD,g1⟩:=tW ps gs aU s Z x (by simp only [iD] at ho;exact ho) h h2
   exact⟨aq,F,Z',i1,s1,f1,⟨u,aU,rfl,bD⟩,g1⟩
 | .hC t m :: ps,gs,us,s,Z,x,ho,h,hv=>by
  cases gs with
  | nil=>simp [iD] at ho
  | cons v gs =>
   simp only [aY] at hv
   obtain ⟨u,aU,rfl,h1,h2⟩:=hv
   simp only [iD] at ho
   obtain ⟨r,hr,ho⟩:=bg ho
   obtain ⟨q,hq,ho⟩:=bg ho
   obtain rfl:=aT ho
   obtain ⟨vs,F1,cq,rfl,i1,s1,f1,bD,g1⟩:=QO hr h h1
   obtain ⟨aq,dK,bL,i2,s2,f2,cg,g2⟩:=tW ps gs aU r.2 cq q hq i1 (aY.move s1.ej h2)
   refine⟨aq,F1.or dK,bL,i2,s1.trans s2,(f1.shrink s2).or f2,⟨vs,aU,F1,dK,rfl,ad.al.mono s2.dF _ _ (fun _ _ h=>h) bD,cg,?_,fun _ _ h=>.inl h,fun _ _ h=>.inr h⟩,?_⟩
   ·intro b o x y
    obtain ⟨id,hl,hf⟩:=g2 b o y
    exact f1.apart id hl b o x hf
   ·rintro b o (y | y)
    ·exact g1 b o y
    ·obtain ⟨id,hl,hf⟩:=g2 b o y;exact⟨id,(s1.live hl).1,hf⟩
 | .mut t m m' :: ps,gs,us,s,Z,x,ho,h,hv=>by
  cases gs with
  | nil=>simp [iD] at ho
  | cons v gs =>
   simp only [aY] at hv
   obtain ⟨u,aU,rfl,h1,h2⟩:=hv
   cases v <;> simp only [iD] at ho <;> try (simp at ho;done)
   rename_i p
   simp only [aQ] at h1
   obtain ⟨hk,A,rfl,_,au⟩:=h1
   cases bX:s.o p.id with
   | var ver cs =>
    rw [bX] at ho au
    obtain ⟨he,a0,eC,hA⟩:=au
    rw [he] at ho
    simp only at ho
    cases hc:(Nat.beq p.off 0&&Nat.beq cs.length t.size)
    ·rw [hc] at ho;cases ho
    rw [hc] at ho
    simp only [Bool.and_eq_true] at hc
    have fx:=Nat.eq_of_beq_eq_true hc.1
    have hlen:=Nat.eq_of_beq_eq_true hc.2
    simp only [cond_true] at ho
    obtain ⟨r,hr,ho⟩:=bg ho
    cases ep:r.2.1 with
    | cons=>rw [ep] at ho;cases ho
    | nil =>
     rw [ep] at ho
     simp only at ho
     obtain ⟨q,hq,ho⟩:=bg ho
     obtain rfl:=aT ho
     have cc:(s.o p.id).live:=by rw [bX];trivial
     have c2:=h.fS p.id
     rw [bX] at c2
     obtain ⟨⟨b,o,sp⟩,ws,dG,hsp,hc,b4,hF⟩:=c2
     simp only at hsp
     subst hsp
     rw [eC] at dG
     obtain rfl:=aT dG
     have iy:fc s ι Z (s.bQ p.id .dead) Z:=vW p.id cc
     have hi0:=h.take p.id (fun _ _ h=>h) (fun _ _ h=>.inl h)
     have fi:=h.vV cc
     obtain ⟨us1,vs1,F1,cq,e1,i1,s1,c1,f1,bD,_,fU,_,g1⟩:=ad.lF t false m' cs _ [] r _ Z hr hi0 (hc.move iy.ej) (by simp)
     rw [ep] at c1
     have hvs1:vs1=[]:=by cases vs1 with | nil=>rfl | cons=>exact c1.elim
     subst hvs1
     rw [List.append_nil] at e1
     subst e1
     rw [fU rfl,oB] at bD
     obtain ⟨aq,dK,bL,i2,s2,f2,cg,g2⟩:=tW ps gs aU r.2.2.1 cq q hq i1 (aY.move s1.ej (aY.move iy.ej h2))
     have hrun:ah.sub (ah.run b o t.size) (ι p.id).F:=by
      rintro b' o' ⟨rfl,h1,h2⟩
      have:=(hF (o'-o) (by omega)).2
      simp only at this
      rwa [show o +(o'-o)=o' by omega] at this
     have j4:=(fi.sub hrun).shrink s1
     have I_:ah.apart F1 (ah.run b o t.size):=by
      intro b o x y
      obtain ⟨id,hl,hf⟩:=g1 b o x
      exact fi.apart id hl b o (hrun b o y) hf
     have gJ:bJ w0 F0 r.2.2.1 w ι cq (F1.or (ah.run b o t.size)):=f1.or j4
     refine⟨aq,(F1.or (ah.run b o t.size)).or dK,bL,i2,(iy.trans s1).trans s2,(gJ.shrink s2).or f2,⟨b,o,ws,aU,F1,dK,?_,b4,ad.al.mono s2.dF _ _ (fun _ _ h=>h) bD,cg,?_,I_,fun _ _ h=>.inl h,fun _ _ h=>.inr h⟩,?_⟩
     ·rw [hA,fx];rfl
     ·intro b o x y
      obtain ⟨id,hl,hf⟩:=g2 b o y
      exact gJ.apart id hl b o x hf
     ·rintro b o ((y | y) | y)
      ·obtain ⟨id,hl,hf⟩:=g1 b o y;exact⟨id,(iy.live hl).1,hf⟩
      ·exact⟨p.id,cc,hrun b o y⟩
      ·obtain ⟨id,hl,hf⟩:=g2 b o y;exact⟨id,(iy.live (s1.live hl).1).1,hf⟩
   | _=>rw [bX] at ho;simp at ho
end
end Go.LM
namespace Go.LM
section
variable{P:Program}{w0:World}{F0 Z0:ah}{n:cD}{s aq:an}{a b_:Act}{w w':World}{ι bf:Nat→bG}{Z Z':ah}
def Cf(t:ad)(m:a')(v:a6)(s:an):Option (t.D×an) :=
 match v with
 | .ptr p =>
  match s.o p.id,p.fa with
  | .var _ cs,none=>cond (Nat.beq p.off 0&&Nat.beq cs.length t.size)
   ((t.imp false m cs (s.bQ p.id .dead) []).bind fun r=>match r.2.1 with
    | []=>some (r.1,r.2.2.1)
    | _=>none) none
  | _,_=>none
 | _=>none
theorem aaz{t:ad}{m:a'}{v:a6}{u:Value}{s:an}{Z:ah}{x:t.D×an}(ho:Cf t m v s=some x)(h:Inv w0 F0 Z0 n s a w ι Z)(h1:aQ w Z s ι v u) :
  ∃b o vs F Z',u=.pointer (some (at_ b o))∧Inv w0 F0 Z0 n x.2 a w ι Z'∧fc s ι Z x.2 Z'∧bJ w0 F0 x.2 w ι Z' (F.or (ah.run b o t.size))∧b8 w b o vs∧(∀j,j<t.size→fm w b (o+j))∧t.al w Z' m x.1 vs F ∧
   ah.apart F (ah.run b o t.size)∧∀b' o',(F.or (ah.run b o t.size)) b' o'→∃id,(s.o id).live∧(ι id).F b' o':=by
 cases v <;> simp only [Cf] at ho <;> try (simp at ho;done)
 rename_i p
 simp only [aQ] at h1
 obtain ⟨hk,A,rfl,_,au⟩:=h1
 cases bX:s.o p.id with
 | var ver cs =>
  rw [bX] at ho au
  obtain ⟨he,a0,eC,hA⟩:=au
  rw [he] at ho
  simp only at ho
  cases hc:(Nat.beq p.off 0&&Nat.beq cs.length t.size)
  ·rw [hc] at ho;cases ho
  rw [hc] at ho
  simp only [Bool.and_eq_true] at hc
  have fx:=Nat.eq_of_beq_eq_true hc.1
  have hlen:=Nat.eq_of_beq_eq_true hc.2
  simp only [cond_true] at ho
  obtain ⟨r,hr,ho⟩:=bg ho
  cases ep:r.2.1 with
  | cons=>rw [ep] at ho;cases ho
  | nil =>
   rw [ep] at ho
   obtain rfl:=aT ho
   have cc:(s.o p.id).live:=by rw [bX];trivial
   have c2:=h.fS p.id
   rw [bX] at c2
   obtain ⟨a1,ws,dG,hsp,hcs,b4,hF⟩:=c2
   rw [eC] at dG
   obtain rfl:=aT dG
   obtain ⟨b,o,sp⟩:=a0
   simp only at hsp
   subst hsp
   have iy:fc s ι Z (s.bQ p.id .dead) Z:=vW p.id cc
   have hi0:=h.take p.id (fun _ _ h=>h) (fun _ _ h=>.inl h)
   have fi:=h.vV cc
   obtain ⟨us1,vs1,F1,cq,e1,i1,s1,c1,f1,bD,_,fU,_,g1⟩:=ad.lF t false m cs _ [] r _ Z hr hi0 (hcs.move iy.ej) (by simp)
   rw [ep] at c1
   have hvs1:vs1=[]:=by cases vs1 with | nil=>rfl | cons=>exact c1.elim
   subst hvs1
   rw [List.append_nil] at e1
   subst e1
   rw [fU rfl,oB] at bD
   have hrun:ah.sub (ah.run b o t.size) (ι p.id).F:=by
    rintro b' o' ⟨rfl,h1,h2⟩
    have:=(hF (o'-o) (by omega)).2
    simp only at this
    rwa [show o +(o'-o)=o' by omega] at this
   have j4:=(fi.sub hrun).shrink s1
   have I_:ah.apart F1 (ah.run b o t.size):=by
    intro b o x y
    obtain ⟨id,hl,hf⟩:=g1 b o x
    exact fi.apart id hl b o (hrun b o y) hf
   refine⟨b,o,_,F1,cq,?_,i1,iy.trans s1,f1.or j4,b4,fun j hj=>(hF j (by omega)).1,bD,I_,?_⟩
   ·rw [hA,fx];rfl
   ·rintro b o (y | y)
    ·obtain ⟨id,hl,hf⟩:=g1 b o y;exact⟨id,(iy.live hl).1,hf⟩
    ·exact⟨p.id,cc,hrun b o y⟩
 | _=>rw [bX] at ho;simp at ho
def yU(gs:List a6)(a off:Nat)(t:ad)(v:a6)(s:an):Option Int :=
 match v with
 | .jY=>some (-1)
 | .opt id x =>
  match qb s gs a off with
  | some k=>cond (Nat.beq k id&&qc s t id) (some x) none
  | none=>none
 | .ptr p =>
  match qb s gs a off,p.fa with
  | some k,some i=>cond (Nat.beq k p.id&&qc s t p.id&&Nat.beq p.off 0) (some (i:Int)) none
  | _,_=>none
 | _=>none
theorem QP{gs:List a6}{us:List Value}{lS off id:Nat}{t:ad}{i:Nat}{wD:Addr}(dV:qb s gs lS off=some id)(mv:qc s t id=true)(h:Inv w0 F0 Z0 n s a w ι Z)(hv:aY w Z s ι gs us)
  (au:jm s ι ⟨id,some i,0⟩ wD):Il w us lS off t.size (i:Int) (.pointer (some wD)):=by
 unfold qb at dV
 cases nq:gs[lS]? with
 | none=>rw [nq] at dV;simp at dV
 | some lB =>
  rw [nq] at dV
  cases lB with
  | ptr pl =>
   simp only at dV
   cases c7:l_ s 1 { pl with off:=pl.off+off } with
   | none=>rw [c7] at dV;simp at dV
   | some cs =>
    rw [c7] at dV
    have hcs:cs=[.ag id none]:=by
     split at dV
     ·rename_i h;obtain rfl:=aT dV;exact aT h
     ·simp at dV
    subst hcs
    obtain ⟨u,wB,rR⟩:=hv.get lS nq
    simp only [aQ] at rR
    obtain ⟨iX,A,rfl,mw⟩:=rR
    obtain ⟨b,o,sp⟩:=A
    have hsp:=mw.1
    simp only at hsp
    subst hsp
    obtain ⟨rC,eH,ws,hA,hc1,hc2,yD⟩:=yl h c7 (jm.plus (b:=b) (o:=o) off mw)
    simp only [at_,Addr.mk.injEq,and_true] at hA
    obtain ⟨rfl,rfl⟩:=hA
    match ws,hc1 with
    | [v0],hc1 =>
     obtain ⟨hk0,A,m,k,rfl,hh⟩:=hc1.1
     unfold qc at mv
     cases bX:s.o id with
     | row u em ver xs =>
      rw [bX] at mv
      have:=ad.eq_of_beq _ _ mv
      subst this
      obtain ⟨c8,eJ,iv,iw,ix⟩:=hh u em ver xs (lD bX)
      have c8:m=xs.length:=c8
      obtain ⟨hs,au⟩:=au
      have au:match (s.o id).core with | .var _ cs=>_ | .row t _ _ xs=>_ | _=>_:=au
      rw [lD bX] at au
      obtain ⟨ea,hi,cz,a0,gi,qn⟩:=au
      obtain rfl:=aT hi
      rcases ix with ix | ⟨a1,nk,nr⟩
      ·omega
      ·rw [gi] at nk
       obtain rfl:=aT nk
       right
       refine⟨by omega,b,o,a0.block,a0.off,m,k,wB,?_,by simp;omega,?_⟩
       ·rw [hc2.head,nr];simp [ei,at_]
       ·rw [qn];simp [at_]
     | _=>rw [bX] at mv;cases mv
  | _=>simp at dV
theorem aaA{gs:List a6}{us:List Value}{lS off:Nat}{t:ad}{v:a6}{u:Value}{x:Int}(ho:yU gs lS off t v s=some x)(h:Inv w0 F0 Z0 n s a w ι Z)(aB:aY w Z s ι gs us)(hv:aQ w Z s ι v u):Il w us lS off t.size x u:=by
 cases v with
 | jY =>
  obtain rfl:=aT ho
  simp only [aQ] at hv
  exact .inl ⟨by omega,hv⟩
 | opt id y =>
  simp only [yU] at ho
  cases dV:qb s gs lS off with
  | none=>rw [dV] at ho;cases ho
  | some k =>
   rw [dV] at ho
   cases hc:(Nat.beq k id&&qc s t id)
   ·simp only [hc] at ho;cases ho
   simp only [hc,cond_true] at ho
   obtain rfl:=aT ho
   simp only [Bool.and_eq_true] at hc
   obtain rfl:=Nat.eq_of_beq_eq_true hc.1
   simp only [aQ] at hv
   obtain ⟨_,⟨h1,h2⟩ | ⟨h1,wD,rfl,h2⟩⟩:=hv
   ·exact .inl ⟨h1,h2⟩
   ·have:=QP dV hc.2 h aB h2
    rwa [Int.toNat_of_nonneg h1] at this
 | ptr p =>
  simp only [yU] at ho
  cases dV:qb s gs lS off with
  | none=>rw [dV] at ho;cases ho
  | some k =>
   rw [dV] at ho
   cases e8:p.fa with
   | none=>rw [e8] at ho;cases ho
   | some i =>
    rw [e8] at ho
    simp only at ho
    cases hc:(Nat.beq k p.id&&qc s t p.id&&Nat.beq p.off 0)
    ·rw [hc] at ho;cases ho
    rw [hc] at ho
    obtain rfl:=aT ho
    simp only [Bool.and_eq_true] at hc
    have hk:=Nat.eq_of_beq_eq_true hc.1.1
    have h0:=Nat.eq_of_beq_eq_true hc.2
    obtain ⟨pid,alu,alv⟩:=p
    simp only at hk h0 e8 hc
    subst hk h0 e8
    simp only [aQ] at hv
    obtain ⟨_,wD,rfl,h2⟩:=hv
    exact QP dV hc.1.2 h aB h2
 | _=>cases ho
def yV(t:ad)(v:a6):Bool :=
 oc t v&&(match iQ t v with
  | some cs=>Nat.beq cs.length t.size
  | none=>false)
theorem aaB{t:ad}{v:a6}{u:Value}{s:an}{Z:ah}(ho:yV t v=true)(h1:aQ w Z s ι v u):u.cells.toList.length=t.size∧∀x∈u.cells.toList,ee x=true:=by
 unfold yV at ho
 simp only [Bool.and_eq_true] at ho
 obtain ⟨hf,hc⟩:=ho
 cases hcs:iQ t v with
 | none=>rw [hcs] at hc;cases hc
 | some cs =>
  rw [hcs] at hc
  have hl:=Nat.eq_of_beq_eq_true hc
  have hr:=rE hcs h1
  exact⟨by rw [hr.len];exact hl,hr.ee⟩
def Cg(t:ad)(v:a6)(s:an):Option (List t.D×an) :=
 match v with
 | .jY=>some ([],s)
 | .dk dp cs off =>
  match takeN off t.size cs with
  | none=>none
  | some cs=>cond dp.isEmpty ((t.imp false .R cs s []).bind fun r=>match r.2.1 with
   | []=>some ([r.1],r.2.2.1)
   | _=>none) none
 | .may b dp cs=>cond b (cond (dp.isEmpty&&Nat.beq cs.length t.size) ((t.imp false .R cs s []).bind fun r=>match r.2.1 with
   | []=>some ([r.1],r.2.2.1)
   | _=>none) none) (some ([],s))
 | _=>none
theorem aaC{t:ad}{v:a6}{u:Value}{s:an}{Z:ah}{x:List t.D×an}(ho:Cg t v s=some x)(h:Inv w0 F0 Z0 n s a w ι Z)(h1:aQ w Z s ι v u) :
  ∃Z',Inv w0 F0 Z0 n x.2 a w ι Z'∧fc s ι Z x.2 Z'∧((x.1=[]∧u=.pointer none)∨∃y b o vs,x.1=[y]∧u=.pointer (some (at_ b o))∧b8 w b o vs∧t.al w Z' .R y vs ah.none∧∀j,j<t.size→Z' b (o+j)):=by
 have go:∀(cs:List a8) (b o:Nat) (vs:List Value) (x:List t.D×an),((t.imp false .R cs s []).bind fun r=>match r.2.1 with | []=>some ([r.1],r.2.2.1) | _=>none)=some x→bK w Z s ι cs vs→b8 w b o vs→vs.length=t.size→(∀j,j<t.size→Z b (o+j))→u=.pointer (some (at_ b o)) →
   ∃Z',Inv w0 F0 Z0 n x.2 a w ι Z'∧fc s ι Z x.2 Z'∧((x.1=[]∧u=.pointer none)∨∃y b o vs,x.1=[y]∧u=.pointer (some (at_ b o))∧b8 w b o vs∧t.al w Z' .R y vs ah.none∧∀j,j<t.size→Z' b (o+j)):=by
  intro cs b o vs x ho pj b4 hl hz hu
  obtain ⟨r,hr,ho⟩:=bg ho
  cases ep:r.2.1 with
  | cons=>rw [ep] at ho;cases ho
  | nil =>
   rw [ep] at ho
   obtain rfl:=aT ho
   obtain ⟨us1,vs1,F1,cq,e1,i1,s1,c1,f1,bD,_,fU,_,g1⟩:=ad.lF t false .R cs s [] r _ Z hr h pj (by simp)
   rw [ep] at c1
   have hvs1:vs1=[]:=by cases vs1 with | nil=>rfl | cons=>exact c1.elim
   subst hvs1
   rw [List.append_nil] at e1
   subst e1
   rw [fU rfl,oB] at bD
   exact⟨cq,i1,s1,.inr ⟨r.1,b,o,_,rfl,hu,b4,rr bD,fun j hj=>s1.dF _ _ (hz j hj)⟩⟩
 cases v <;> simp only [Cg] at ho <;> try (simp at ho;done)
 ·rename_i dp cs off
  simp only [aQ] at h1
  obtain ⟨h2,b,o,vs,rfl,h3⟩:=h1
  cases ht:takeN off t.size cs with
  | none=>rw [ht] at ho;cases ho
  | some ds =>
   rw [ht] at ho
   cases dp with
   | cons=>cases ho
   | nil =>
    obtain ⟨k1,k2,k3⟩:=h3 rfl
    obtain ⟨hle,rfl⟩:=pe ht
    have hlen:=k1.len
    refine go _ b (o+off) ((vs.drop off).take t.size) x ho ((k1.drop off).take _) (k2.part off t.size) (by simp;omega) (fun j hj=>?_) rfl
    have:=k3 (off+j) (by omega)
    rw [oB] at this
    rwa [← Nat.add_assoc] at this
 ·simp only [aQ] at h1
  obtain rfl:=aT ho
  exact⟨Z,h,.refl,.inl ⟨rfl,h1⟩⟩
 ·rename_i b dp cs
  simp only [aQ] at h1
  rcases h1 with⟨rfl,h1⟩ | ⟨rfl,h2,b,o,vs,rfl,h3⟩
  ·obtain rfl:=aT ho
   exact⟨Z,h,.refl,.inl ⟨rfl,h1⟩⟩
  ·simp only [cond_true] at ho
   cases dp with
   | cons=>cases ho
   | nil =>
    cases hc:Nat.beq cs.length t.size
    ·rw [show(List.isEmpty ([]:List (Nat×Nat))&&Nat.beq cs.length t.size)=false by rw [hc];rfl] at ho;cases ho
    rw [show(List.isEmpty ([]:List (Nat×Nat))&&Nat.beq cs.length t.size)=true by rw [hc];rfl] at ho
    have hc:=Nat.eq_of_beq_eq_true hc
    obtain ⟨k1,k2,k3⟩:=h3 rfl
    have hlen:=k1.len
    refine go _ b (o+0) vs x ho k1 k2 (by omega) (fun j hj=>?_) rfl
    have:=k3 j (by omega)
    rw [oB] at this
    exact this
def gX(ps:List bC)(gs:List a6):(rs:List cX)→List a6→an→Option (cX.outs rs (bC.dZ ps)).D
 | [],vs,s =>
  match vs with
  | []=>iD ps gs s
  | _=>none
 | .val t m :: rs,vs,s =>
  match vs with
  | v :: vs=>(yT t m v s).bind fun r=>(gX ps gs rs vs r.2).bind fun q=>some (r.1,q)
  | []=>none
 | .opt a off t :: rs,vs,s =>
  match vs with
  | v :: vs=>(yU gs a off t v s).bind fun x=>(gX ps gs rs vs s).bind fun q=>some (x,q)
  | []=>none
 | .any t :: rs,vs,s =>
  match vs with
  | v :: vs=>cond (yV t v) (gX ps gs rs vs s) none
  | []=>none
 | .pa t :: rs,vs,s =>
  match vs with
  | v :: vs=>(Cg t v s).bind fun r=>(gX ps gs rs vs r.2).bind fun q=>some (r.1,q)
  | []=>none
 | .new t m :: rs,vs,s =>
  match vs with
  | v :: vs=>(Cf t m v s).bind fun r=>(gX ps gs rs vs r.2).bind fun q=>some (r.1,q)
  | []=>none
theorem aaD{ps:List bC}{gs:List a6}{s:an} : gX ps gs [] [] s=iD ps gs s:=rfl
theorem aaE{ps:List bC}{gs:List a6}{s:an}{v:a6}{vs:List a6} : gX ps gs [] (v :: vs) s=none:=rfl
theorem aaF{ps:List bC}{gs:List a6}{a o:Nat}{t:ad}{rs:List cX}{s:an}{v:a6}{vs:List a6} : gX ps gs (.opt a o t :: rs) (v :: vs) s=(yU gs a o t v s).bind fun x=>(gX ps gs rs vs s).bind fun q=>some (x,q):=rfl
theorem aaG{ps:List bC}{gs:List a6}{a o:Nat}{t:ad}{rs:List cX}{s:an} : gX ps gs (.opt a o t :: rs) [] s=none:=rfl
theorem aaH{ps:List bC}{gs:List a6}{t:ad}{m:a'}{rs:List cX}{s:an}{v:a6}{vs:List a6} : gX ps gs (.val t m :: rs) (v :: vs) s=(yT t m v s).bind fun r=>(gX ps gs rs vs r.2).bind fun q=>some (r.1,q):=rfl
theorem aaI{ps:List bC}{gs:List a6}{t:ad}{m:a'}{rs:List cX}{s:an} : gX ps gs (.val t m :: rs) [] s=none:=rfl
theorem aaJ{ps:List bC}{gs:List a6}{t:ad}{rs:List cX}{s:an}{v:a6}{vs:List a6} : gX ps gs (.any t :: rs) (v :: vs) s=cond (yV t v) (gX ps gs rs vs s) none:=rfl
theorem aaK{ps:List bC}{gs:List a6}{t:ad}{rs:List cX}{s:an} : gX ps gs (.any t :: rs) [] s=none:=rfl
theorem aaL{ps:List bC}{gs:List a6}{t:ad}{rs:List cX}{s:an}{v:a6}{vs:List a6} : gX ps gs (.pa t :: rs) (v :: vs) s=(Cg t v s).bind fun r=>(gX ps gs rs vs r.2).bind fun q=>some (r.1,q):=rfl
theorem aaM{ps:List bC}{gs:List a6}{t:ad}{rs:List cX}{s:an} : gX ps gs (.pa t :: rs) [] s=none:=rfl
theorem aaN{ps:List bC}{gs:List a6}{t:ad}{m:a'}{rs:List cX}{s:an}{v:a6}{vs:List a6} : gX ps gs (.new t m :: rs) (v :: vs) s=(Cf t m v s).bind fun r=>(gX ps gs rs vs r.2).bind fun q=>some (r.1,q):=rfl
theorem aaO{ps:List bC}{gs:List a6}{t:ad}{m:a'}{rs:List cX}{s:an} : gX ps gs (.new t m :: rs) [] s=none:=rfl
theorem wP{ps:List bC}{gs:List a6}{us:List Value} : ∀(rs:List cX) (vs:List a6) (dr:List Value) (s:an) (Z:ah) (x:(cX.outs rs (bC.dZ ps)).D),gX ps gs rs vs s=some x→Inv w0 F0 Z0 n s a w ι Z →
  aY w Z s ι gs us→aY w Z s ι vs dr→∃aq F Z',Inv w0 F0 Z0 n aq a w ι Z'∧fc s ι Z aq Z'∧bJ w0 F0 aq w ι Z' F∧ic w Z' ps us rs x dr F∧∀b o,F b o→∃id,(s.o id).live∧(ι id).F b o
 | [],vs,dr,s,Z,x,ho,h,aB,hv=>by
  cases vs with
  | cons=>rw [aaE] at ho;cases ho
  | nil =>
   rw [aaD] at ho
   simp only [aY] at hv
   obtain ⟨aq,F,Z',i1,s1,f1,bD,g1⟩:=tW ps gs us s Z x ho h aB
   exact⟨aq,F,Z',i1,s1,f1,⟨hv,bD⟩,g1⟩
 | .opt lS off t :: rs,vs,dr,s,Z,x,ho,h,aB,hv=>by
  cases vs with
  | nil=>rw [aaG] at ho;cases ho
  | cons v vs =>
   simp only [aY] at hv
   obtain ⟨u,aU,rfl,h1,h2⟩:=hv
   rw [aaF] at ho
   obtain ⟨y,aN,ho⟩:=bg ho
   obtain ⟨q,hq,ho⟩:=bg ho
   obtain rfl:=aT ho
   obtain ⟨aq,dK,bL,i2,s2,f2,cg,g2⟩:=wP rs vs aU s Z q hq h aB h2
   exact⟨aq,dK,bL,i2,s2,f2,⟨u,aU,rfl,aaA aN h aB h1,cg⟩,g2⟩
 | .any t :: rs,vs,dr,s,Z,x,ho,h,aB,hv=>by
  cases vs with
  | nil=>rw [aaK] at ho;cases ho
  | cons v vs =>
   simp only [aY] at hv
   obtain ⟨u,aU,rfl,h1,h2⟩:=hv
   rw [aaJ] at ho
   cases hc:yV t v
   ·rw [hc] at ho;cases ho
   rw [hc] at ho
   obtain ⟨aq,dK,bL,i2,s2,f2,cg,g2⟩:=wP rs vs aU s Z x ho h aB h2
   exact⟨aq,dK,bL,i2,s2,f2,⟨u,aU,rfl,aaB hc h1,cg⟩,g2⟩
 | .pa t :: rs,vs,dr,s,Z,x,ho,h,aB,hv=>by
  cases vs with
  | nil=>rw [aaM] at ho;cases ho
  | cons v vs =>
   simp only [aY] at hv
   obtain ⟨u,aU,rfl,h1,h2⟩:=hv
   rw [aaL] at ho
   obtain ⟨r,hr,ho⟩:=bg ho
   obtain ⟨q,hq,ho⟩:=bg ho
   obtain rfl:=aT ho
   obtain ⟨cq,i1,s1,bD⟩:=aaC hr h h1
   obtain ⟨aq,dK,bL,i2,s2,f2,cg,g2⟩:=wP rs vs aU r.2 cq q hq i1 (aY.move s1.ej aB) (aY.move s1.ej h2)
   refine⟨aq,dK,bL,i2,s1.trans s2,f2,⟨u,aU,rfl,bD.imp (fun h=>h) fun⟨y,b,o,vs,k1,k2,k3,ba,bt⟩=>⟨y,b,o,vs,k1,k2,k3,ad.al.mono s2.dF _ _ (fun _ _ h=>h) ba,fun j hj=>s2.dF _ _ (bt j hj)⟩,cg⟩,?_⟩
   intro b o y
   obtain ⟨id,hl,hf⟩:=g2 b o y
   exact⟨id,(s1.live hl).1,hf⟩
 | .new t m :: rs,vs,dr,s,Z,x,ho,h,aB,hv=>by
  cases vs with
  | nil=>rw [aaO] at ho;cases ho
  | cons v vs =>
   simp only [aY] at hv
   obtain ⟨u,aU,rfl,h1,h2⟩:=hv
   rw [aaN] at ho
   obtain ⟨r,hr,ho⟩:=bg ho
   obtain ⟨q,hq,ho⟩:=bg ho
   obtain rfl:=aT ho
   obtain ⟨b,o,ws,F1,cq,rfl,i1,s1,f1,b4,hwr,bD,aaP,g1⟩:=aaz hr h h1
   obtain ⟨aq,dK,bL,i2,s2,f2,cg,g2⟩:=wP rs vs aU r.2 cq q hq i1 (aY.move s1.ej aB) (aY.move s1.ej h2)
   refine⟨aq,(F1.or (ah.run b o t.size)).or dK,bL,i2,s1.trans s2,(f1.shrink s2).or f2,⟨b,o,ws,aU,F1,dK,rfl,b4,hwr,ad.al.mono s2.dF _ _ (fun _ _ h=>h) bD,cg,?_,aaP,fun _ _ h=>.inl h,fun _ _ h=>.inr h⟩,?_⟩
   ·intro b o x y
    obtain ⟨id,hl,hf⟩:=g2 b o y
    exact f1.apart id hl b o x hf
   ·rintro b o (y | y)
    ·exact g1 b o y
    ·obtain ⟨id,hl,hf⟩:=g2 b o y;exact⟨id,(s1.live hl).1,hf⟩
 | .val t m :: rs,vs,dr,s,Z,x,ho,h,aB,hv=>by
  cases vs with
  | nil=>rw [aaI] at ho;cases ho
  | cons v vs =>
   simp only [aY] at hv
   obtain ⟨u,aU,rfl,h1,h2⟩:=hv
   rw [aaH] at ho
   obtain ⟨r,hr,ho⟩:=bg ho
   obtain ⟨q,hq,ho⟩:=bg ho
   obtain rfl:=aT ho
   obtain ⟨ws,F1,cq,rfl,i1,s1,f1,bD,g1⟩:=QO hr h h1
   obtain ⟨aq,dK,bL,i2,s2,f2,cg,g2⟩:=wP rs vs aU r.2 cq q hq i1 (aY.move s1.ej aB) (aY.move s1.ej h2)
   refine⟨aq,F1.or dK,bL,i2,s1.trans s2,(f1.shrink s2).or f2,⟨ws,aU,F1,dK,rfl,ad.al.mono s2.dF _ _ (fun _ _ h=>h) bD,cg,?_,fun _ _ h=>.inl h,fun _ _ h=>.inr h⟩,?_⟩
   ·intro b o x y
    obtain ⟨id,hl,hf⟩:=g2 b o y
    exact f1.apart id hl b o x hf
   ·rintro b o (y | y)
    ·exact g1 b o y
    ·obtain ⟨id,hl,hf⟩:=g2 b o y;exact⟨id,(s1.live hl).1,hf⟩
end
end Go.LM
namespace Go.LM
inductive k6 where
 | keep
 | b1 (t:ad) (dp:List Nat)
 | ag (c:Nat)
 | au (c:Nat)
inductive kB where
 | cell (c:k6)
 | iu (cs:List k6)
 | ptr (c:Nat)
 | dk (dp:List Nat) (cs:List k6)
 | opt (c:Nat)
 | same
 | drop
 | vI (a b:List (List k6))
inductive iE where
 | var (cs:List k6)
 | row (t:ad) (em:a')
structure bY where
 aj:List (Nat×kB)
 os:List (Nat×iE)
 gs:List kB
abbrev Ren:=List (Nat×Option Nat)
def jO:Ren→Nat→Option (Option Nat)
 | [],_=>none
 | (k,v) :: l,c=>cond (Nat.beq k c) (some v) (jO l c)
def j9(r:Ren)(c id:Nat):Bool:=match jO r c with
 | some (some i)=>Nat.beq i id
 | _=>false
def tX(r:Ren)(c:Nat):Bool:=match jO r c with
 | some none=>true
 | _=>false
def gY:List (Nat×iE)→Nat→Bool
 | [],_=>false
 | (k,_) :: l,c=>cond (Nat.beq k c) true (gY l c)
def rU:Ren→List Nat
 | []=>[]
 | (_,some i) :: l=>i :: rU l
 | (_,none) :: l=>rU l
def pE:List Nat→Bool
 | []=>true
 | x :: l => !(l.any (Nat.beq x))&&pE l
def I':Ren→List Nat
 | []=>[]
 | (k,_) :: l=>k :: I' l
def rV(r:Ren)(c:Nat)(v:Option Nat):Ren:=match jO r c with
 | none=>(c,v) :: r
 | some _=>r
def Ja(r:Ren):List Nat→List (Nat×Nat)→Ren
 | c :: cs,d :: ds=>Ja (rV r c (some d.1)) cs ds
 | _,_=>r
def QQ(r:Ren):k6→a8→Ren
 | .ag c,.ag id _=>rV r c (some id)
 | .ag c,.nil _=>rV r c none
 | .au c,.ag id _=>rV r c (some id)
 | .b1 _ dp,.b1 _ ds _ _=>Ja r dp ds
 | .b1 _ (c :: _),.ag id _=>rV r c (some id)
 | _,_=>r
def Ch(r:Ren):List k6→List a8→Ren
 | c :: cs,x :: xs=>Ch (QQ r c x) cs xs
 | _,_=>r
def QR(r:Ren):kB→a6→Ren
 | .cell c,.aV x=>QQ r c x
 | .cell (.ag c),.kQ=>rV r c none
 | .iu cs,.iu xs=>Ch r cs xs
 | .ptr c,.ptr p=>rV r c (some p.id)
 | .dk dp cs,.dk ds xs _=>Ch (Ja r dp ds) cs xs
 | .opt c,.opt id _=>rV r c (some id)
 | _,_=>r
def QS(s:an)(r:Ren):List (Nat×kB)→Ren
 | []=>r
 | (d,t) :: l=>QS s (QR r t (s.t d)) l
def QT(r:Ren):List kB→List a6→Ren
 | t :: l,x :: xs=>QT (QR r t x) l xs
 | _,_=>r
def Jb(s:an)(r:Ren):List (Nat×iE)→Ren
 | []=>r
 | (c,.var cs) :: l=>Jb s (match jO r c with
   | some (some id)=>(match s.o id with
    | .var _ xs=>Ch r cs xs
    | _=>r)
   | _=>r) l
 | _ :: l=>Jb s r l
def tY(dp:List Nat):List (Nat×Nat):=dp.map fun c=>(c,0)
def qw(r:Ren)(os:List (Nat×iE))(s:an):k6→a8→Option a8
 | .keep,c=>match c with
  | .int k x=>some (.int k x)
  | .bool b=>some (.bool b)
  | .str x=>some (.str x)
  | _=>none
 | .b1 t dp,c=>cond (dp.all (gY os)&&(borrows s c).all fun d=>dp.any fun c=>j9 r c d.1) ((pb s t c).bind fun x=>some (.b1 t (tY dp) none x)) none
 | .ag k,c=>cond (gY os k) (match c with
  | .ag id sub=>cond (j9 r k id) (some (.ag k sub)) none
  | .nil _=>cond (tX r k) (some (.ag k none)) none
  | _=>none) none
 | .au k,c=>cond (gY os k) (match c with
  | .ag id sub=>(match s.o id with
   | .row _ _ _ xs=>cond (j9 r k id) (some (.ag k (some (ei sub,ly sub xs)))) none
   | _=>none)
  | _=>none) none
def oD(r:Ren)(os:List (Nat×iE))(s:an):List k6→List a8→Option (List a8)
 | [],[]=>some []
 | c :: cs,x :: xs=>(qw r os s c x).bind fun y=>(oD r os s cs xs).bind fun ys=>some (y :: ys)
 | _,_=>none
def Ci(r:Ren)(os:List (Nat×iE))(s:an):kB→a6→Option a6
 | .cell c,.aV x=>(qw r os s c x).bind fun y=>some (.aV y)
 | .cell (.ag k),.kQ=>cond (gY os k&&tX r k) (some (.aV (.ag k none))) none
 | .cell (.b1 t dp),.kQ=>cond (dp.all (gY os)) (some (.aV (.b1 t (tY dp) none []))) none
 | .iu cs,.iu xs=>(oD r os s cs xs).bind fun ys=>some (.iu ys)
 | .ptr k,.ptr p=>cond (gY os k&&j9 r k p.id) (some (.ptr { p with id:=k })) none
 | .dk dp cs,.dk ds xs off=>cond (dp.all (gY os)&&alive s ds&&ds.all fun d=>dp.any fun c=>j9 r c d.1) ((oD r os s cs xs).bind fun ys=>some (.dk (tY dp) ys off)) none
 | .opt k,.opt id o=>cond (gY os k&&j9 r k id) (some (.opt k o)) none
 | .same,.jY=>some .jY
 | .same,.aD=>some .aD
 | .same,.fn f [] []=>some (.fn f [] [])
 | .drop,_=>some .aD
 | _,_=>none
def wQ(r:Ren)(os:List (Nat×iE))(s:an):List kB→List a6→Option (List a6)
 | [],[]=>some []
 | t :: l,x :: xs=>(Ci r os s t x).bind fun v=>(wQ r os s l xs).bind fun vs=>some (v :: vs)
 | _,_=>none
def Jc(r:Ren)(os:List (Nat×iE))(s:an):kB→a6→Option a6
 | .vI a b,.fn f xs ys=>(wQ r os s (a.map (kB.dk [])) xs).bind fun x=>(wQ r os s (b.map (kB.dk [])) ys).bind fun y=>some (.fn f x y)
 | t,x=>Ci r os s t x
def Cj(r:Ren)(os:List (Nat×iE))(s:an):List (Nat×kB)→Option (Nat→a6)
 | []=>some fun _=>.aD
 | (d,t) :: l=>(Jc r os s t (s.t d)).bind fun v=>(Cj r os s l).bind fun f=>some (bU f d v)
def Jd(r:Ren)(os:List (Nat×iE))(s:an)(c:Nat)(t:iE):Option cm :=
 match jO r c with
 | some (some id)=>(match t,s.o id with
  | .row t em,.row u gr _ xs=>cond (a'.beq gr em||xs.isEmpty) ((eG (.sl u) (.sl t) xs).bind fun x=>some (.row t em 0 x)) none
  | .var cs,.var _ xs=>(oD r os s cs xs).bind fun ys=>some (.var 0 ys)
  | _,_=>none)
 | some none=>(match t with
  | .row t em=>some (.row t em 0 [])
  | _=>none)
 | none=>none
def Ck(r:Ren)(os:List (Nat×iE))(s:an):List (Nat×iE)→Option (Nat→cm)
 | []=>some fun _=>.none
 | (c,t) :: l=>(Jd r os s c t).bind fun v=>(Ck r os s l).bind fun f=>some (bU f c v)
def Je(T:bY)(r:Ren)(s:an):Option an :=
 cond (pE (rU r)&&pE (I' r)) ((Cj r T.os s T.aj).bind fun t=>(Ck r T.os s T.os).bind fun o=>(wQ r T.os s T.gs s.g).bind fun g=>some ⟨t,o,g⟩) none
def norm(T:bY)(s:an):Option an:=Je T (Jb s (QT (QS s [] T.aj) T.gs s.g) T.os) s
section
variable{w0:World}{F0 Z0:ah}{n:cD}{s s0:an}{a:Act}{w:World}{ι alw:Nat→bG}{Z:ah}{r:Ren}{os:List (Nat×iE)}
def iota(r:Ren)(ι : Nat→bG):Nat→bG:=fun c=>match jO r c with
 | some (some id) => ι id
 | _=>⟨none,0,ah.none⟩
theorem rW{c id:Nat}(h:j9 r c id=true):jO r c=some (some id):=by
 unfold j9 at h
 split at h
 ·rename_i i hi;rw [hi,Nat.eq_of_beq_eq_true h]
 ·cases h
theorem QU{c:Nat}(h:tX r c=true):jO r c=some none:=by
 unfold tX at h
 split at h
 ·rename_i hi;exact hi
 ·cases h
theorem Cl{c id:Nat}(h:j9 r c id=true):iota r ι c = ι id:=by unfold iota;rw [rW h]
theorem aaQ{c:Nat}(h:tX r c=true):iota r ι c=⟨none,0,ah.none⟩:=by unfold iota;rw [QU h]
def mC(r:Ren)(os:List (Nat×iE))(s s0:an):Prop:=∀c,(s0.o c=.none∧gY os c=false) ∨
 (∃id,jO r c=some (some id)∧((∃t em oE ver xs,s.o id=.row t oE ver xs∧s0.o c=.row t em 0 xs∧(oE=em∨xs=[]))∨(∃ver cs lX oF,s.o id=.var ver cs∧s0.o c=.var 0 lX∧oD r os s oF cs=some lX))) ∨
 (jO r c=some none∧∃t em,s0.o c=.row t em 0 [])
theorem mC.known(h:mC r os s s0){c:Nat}(hc:gY os c=true):LM.known s0 c:=by
 intro h0
 rcases h c with⟨_,h1⟩ | ⟨id,_,⟨t,em,oE,ver,xs,_,h1,_⟩ | ⟨ver,cs,lX,oF,_,h1,_⟩⟩ | ⟨_,t,em,h1⟩
 ·rw [hc] at h1;cases h1
 all_goals rw [h1] at h0;cases h0
theorem mC.dep(h:mC r os s s0){c:Nat}(hc:gY os c=true):et s0 (c,0):=⟨h.known hc,.inr (Nat.zero_le _)⟩
theorem QV(h:mC r os s s0){dp:List Nat}(ag:dp.all (gY os)=true):∀d,d∈tY dp→et s0 d:=by
 intro d js
 unfold tY at js
 obtain ⟨c,hc,rfl⟩:=List.mem_map.1 js
 exact h.dep (List.all_eq_true.1 ag c hc)
theorem QW{dp:List Nat}{ds:List (Nat×Nat)}(h:∀d,d∈ds→(dp.any fun c=>j9 r c d.1)=true):ah.sub (dg ι ds) (dg (iota r ι) (tY dp)):=by
 rintro b o ⟨d,ag,hf⟩
 obtain ⟨c,hc,b4⟩:=List.any_eq_true.1 (h d ag)
 refine⟨(c,0),List.mem_map.2 ⟨c,hc,rfl⟩,?_⟩
 rw [Cl b4]
 exact hf
theorem Cm(h:Inv w0 F0 Z0 n s a w ι Z)(bM:mC r os s s0){c:k6}{x y:a8}{v:Value}(hn:qw r os s c x=some y)(hx:cj w Z s ι x v):cj w Z s0 (iota r ι) y v:=by
 cases c with
 | keep =>
  cases x <;> simp only [qw,Option.some.injEq] at hn <;> first | (cases hn;done) | (subst hn;exact hx)
 | b1 t dp =>
  simp only [qw] at hn
  cases hc:(dp.all (gY os)&&(borrows s x).all fun d=>dp.any fun c=>j9 r c d.1)
  ·rw [hc] at hn;cases hn
  rw [hc] at hn
  simp only [cond_true] at hn
  simp only [Bool.and_eq_true] at hc
  obtain ⟨xs,hl,hn⟩:=bg hn
  obtain rfl:=aT hn
  obtain ⟨h1,h2,h3⟩:=HB h hl hx
  have kV:=QW (ι := ι) (r:=r) (dp:=dp) (ds:=borrows s x) fun d ag=>List.all_eq_true.1 hc.2 d ag
  have h4:=ad.al.mono (Z':=Z.or (dg (iota r ι) (tY dp))) (fun b o hz=>hz.elim .inl fun h=>.inr (kV b o h)) _ _ (fun _ _ h=>h) h1
  refine⟨QV bM hc.1,?_,fun _=>h4,.none⟩
  simp only [ad.al] at h4
  obtain ⟨A,c,hv,_⟩:=h4
  simp only [List.cons.injEq,and_true] at hv
  exact⟨A,_,c,hv⟩
 | ag k =>
  simp only [qw] at hn
  cases hc:gY os k
  ·rw [hc] at hn;cases hn
  rw [hc] at hn
  simp only [cond_true] at hn
  cases x with
  | ag id sub =>
   simp only at hn
   cases b4:j9 r k id
   ·rw [b4] at hn;cases hn
   rw [b4] at hn
   obtain rfl:=aT hn
   obtain ⟨h1,A,m,j2,hv,h2⟩:=hx
   refine⟨bM.known hc,A,m,j2,hv,fun t em ver xs bX=>?_⟩
   rw [Cl b4]
   rcases bM k with⟨h0,_⟩ | ⟨d',h0,⟨di,gr,QX,nj,fT,g1,g2,ge⟩ | ⟨nj,cs,lX,oF,g1,g2,_⟩⟩ | ⟨h0,di,gr,g2⟩
   ·rw [h0] at bX;cases bX
   ·rw [rW b4] at h0
    injection h0 with h0;injection h0 with h0;subst h0
    rw [g2] at bX
    simp only [cm.core,cm.row.injEq] at bX
    obtain ⟨rfl,rfl,rfl,bX⟩:=bX
    have:=eq_of_heq bX;subst this
    exact h2 _ _ _ _ (lD g1)
   ·rw [g2] at bX;cases bX
   ·rw [rW b4] at h0;cases h0
  | nil u =>
   simp only at hn
   cases b4:tX r k
   ·rw [b4] at hn;cases hn
   rw [b4] at hn
   obtain rfl:=aT hn
   have hv:v=.slice none 0 0:=hx
   refine⟨bM.known hc,none,0,0,hv,fun t em ver xs bX=>?_⟩
   rw [aaQ b4]
   rcases bM k with⟨h0,_⟩ | ⟨d',h0,_⟩ | ⟨h0,di,gr,g2⟩
   ·rw [h0] at bX;cases bX
   ·rw [QU b4] at h0;cases h0
   ·rw [g2] at bX
    simp only [cm.core,cm.row.injEq] at bX
    obtain ⟨rfl,rfl,rfl,bX⟩:=bX
    have:=eq_of_heq bX;subst this
    exact⟨rfl,Nat.le_refl _,Nat.le_refl _,Nat.le_refl _,.inl rfl⟩
  | _=>cases hn
 | au k =>
  simp only [qw] at hn
  cases hc:gY os k
  ·rw [hc] at hn;cases hn
  rw [hc] at hn
  simp only [cond_true] at hn
  cases x with
  | ag id sub =>
   simp only at hn
   cases hrow:s.o id with
   | row t2 Yl Ym Yn =>
    rw [hrow] at hn
    simp only at hn
    cases b4:j9 r k id
    ·rw [b4] at hn;cases hn
    rw [b4] at hn
    obtain rfl:=aT hn
    obtain ⟨h1,A,m,j2,hv,h2⟩:=hx
    refine⟨bM.known hc,A,m,j2,hv,fun t em ver xs bX=>?_⟩
    rw [Cl b4]
    rcases bM k with⟨h0,_⟩ | ⟨d',h0,⟨di,gr,QX,nj,fT,g1,g2,ge⟩ | ⟨nj,cs,lX,oF,g1,g2,_⟩⟩ | ⟨h0,di,gr,g2⟩
    ·rw [h0] at bX;cases bX
    ·rw [rW b4] at h0
     injection h0 with h0;injection h0 with h0;subst h0
     rw [g2] at bX
     simp only [cm.core,cm.row.injEq] at bX
     obtain ⟨rfl,rfl,rfl,bX⟩:=bX
     have:=eq_of_heq bX;subst this
     rw [hrow] at g1
     simp only [cm.row.injEq] at g1
     obtain ⟨rfl,rfl,rfl,g1⟩:=g1
     have:=eq_of_heq g1;subst this
     have h3:=h2 _ _ _ _ (lD hrow)
     cases sub with
     | none=>exact⟨h3.OF,h3.fits,h3.le,h3.cap,h3.at_⟩
     | some p=>exact h3
    ·rw [g2] at bX;cases bX
    ·rw [rW b4] at h0;cases h0
   | _=>rw [hrow] at hn;cases hn
  | _=>cases hn
theorem Cn(h:Inv w0 F0 Z0 n s a w ι Z)(bM:mC r os s s0):∀ {cs:List k6} {xs ys:List a8} {vs:List Value},oD r os s cs xs=some ys→bK w Z s ι xs vs→bK w Z s0 (iota r ι) ys vs
 | [],[],ys,vs,hn,hx=>by
  obtain rfl:=aT hn
  cases vs with
  | nil=>trivial
  | cons=>exact hx.elim
 | [],_ :: _,_,_,hn,_=>by cases hn
 | _ :: _,[],_,_,hn,_=>by cases hn
 | c :: cs,x :: xs,ys,vs,hn,hx=>by
  simp only [oD] at hn
  obtain ⟨y,h1,hn⟩:=bg hn
  obtain ⟨QY,h2,hn⟩:=bg hn
  obtain rfl:=aT hn
  cases vs with
  | nil=>exact hx.elim
  | cons v vs=>exact⟨Cm h bM h1 hx.1,Cn h bM h2 hx.2⟩
theorem Jf:∀ {cs:List k6} {xs ys:List a8},oD r os s cs xs=some ys→ys.length=xs.length
 | [],[],_,hn=>by obtain rfl:=aT hn;rfl
 | [],_ :: _,_,hn=>by cases hn
 | _ :: _,[],_,hn=>by cases hn
 | c :: cs,x :: xs,ys,hn=>by
  simp only [oD] at hn
  obtain ⟨y,h1,hn⟩:=bg hn
  obtain ⟨QY,h2,hn⟩:=bg hn
  obtain rfl:=aT hn
  simp [Jf h2]
theorem QZ(bM:mC r os s s0){k:Nat}{p:Place}{A:Addr}(hc:gY os k=true)(b4:j9 r k p.id=true)(au:jm s ι p A):jm s0 (iota r ι) { p with id:=k } A:=by
 obtain ⟨h1,h2⟩:=au
 refine⟨h1,?_⟩
 show match (s0.o k).core with | .var _ cs=>_ | .row t _ _ xs=>_ | _=>_
 rw [Cl b4]
 rcases bM k with⟨h0,_⟩ | ⟨d',h0,⟨di,gr,QX,nj,fT,g1,g2,ge⟩ | ⟨nj,cs,lX,oF,g1,g2,_⟩⟩ | ⟨h0,di,gr,g2⟩
 ·rw [h0];trivial
 ·rw [rW b4] at h0
  injection h0 with h0;injection h0 with h0;subst h0
  rw [g2]
  rw [g1] at h2
  exact h2
 ·rw [rW b4] at h0
  injection h0 with h0;injection h0 with h0;subst h0
  rw [g2]
  rw [g1] at h2
  exact h2
 ·rw [rW b4] at h0;cases h0
theorem Q0(h:Inv w0 F0 Z0 n s a w ι Z)(bM:mC r os s s0){t:kB}{x y:a6}{v:Value}(hn:Ci r os s t x=some y)(hx:aQ w Z s ι x v):aQ w Z s0 (iota r ι) y v:=by
 unfold Ci at hn
 split at hn
 ·obtain ⟨z,h1,hn⟩:=bg hn
  obtain rfl:=aT hn
  simp only [aQ] at hx ⊢
  exact Cm h bM h1 hx
 ·rename_i k
  cases hc:(gY os k&&tX r k)
  ·rw [hc] at hn;cases hn
  rw [hc] at hn
  simp only [Bool.and_eq_true] at hc
  obtain rfl:=aT hn
  simp only [aQ] at hx ⊢
  exact Cm (c:=.ag k) (x:=.nil .bool) h bM (by simp only [qw];rw [hc.1,hc.2];rfl) hx
 ·rename_i t dp
  cases hc:dp.all (gY os)
  ·rw [hc] at hn;cases hn
  rw [hc] at hn
  obtain rfl:=aT hn
  simp only [aQ] at hx ⊢
  refine Cm (c:=.b1 t dp) (x:=.nil t) h bM ?_ hx
  simp only [qw,hc,borrows,List.all_nil,Bool.and_true,cond_true]
  simp only [pb,eG]
  rw [dif_pos (ad.beq_refl _)]
  rfl
 ·obtain ⟨z,h1,hn⟩:=bg hn
  obtain rfl:=aT hn
  simp only [aQ] at hx ⊢
  obtain ⟨vs,hv,hx⟩:=hx
  exact⟨vs,hv,Cn h bM h1 hx⟩
 ·rename_i k p
  cases hc:(gY os k&&j9 r k p.id)
  ·rw [hc] at hn;cases hn
  rw [hc] at hn
  simp only [Bool.and_eq_true] at hc
  obtain rfl:=aT hn
  simp only [aQ] at hx ⊢
  obtain ⟨_,A,hv,au⟩:=hx
  exact⟨bM.known hc.1,A,hv,QZ bM hc.1 hc.2 au⟩
 ·rename_i dp cs ds xs off
  cases hc:(dp.all (gY os)&&alive s ds&&ds.all fun d=>dp.any fun c=>j9 r c d.1)
  ·rw [hc] at hn;cases hn
  rw [hc] at hn
  simp only [Bool.and_eq_true] at hc
  simp only [cond_true] at hn
  obtain ⟨z,h1,hn⟩:=bg hn
  obtain rfl:=aT hn
  simp only [aQ] at hx ⊢
  obtain ⟨_,b,o,vs,hv,hx⟩:=hx
  obtain ⟨g1,g2,g3⟩:=hx hc.1.2
  have kV:=QW (ι := ι) (r:=r) (dp:=dp) (ds:=ds) fun d ag=>List.all_eq_true.1 hc.2 d ag
  refine⟨QV bM hc.1.1,b,o,vs,hv,fun _=>⟨Cn h bM h1 g1,g2,fun j hj=>?_⟩⟩
  rw [Jf h1] at hj
  exact(g3 j hj).elim .inl fun h=>.inr (kV _ _ h)
 ·rename_i k id o
  cases hc:(gY os k&&j9 r k id)
  ·rw [hc] at hn;cases hn
  rw [hc] at hn
  simp only [Bool.and_eq_true] at hc
  obtain rfl:=aT hn
  simp only [aQ] at hx ⊢
  obtain ⟨_,hx⟩:=hx
  exact⟨bM.known hc.1,hx.imp (fun h=>h) fun⟨h1,A,hv,au⟩=>⟨h1,A,hv,QZ (p:=⟨id,some o.toNat,0⟩) bM hc.1 hc.2 au⟩⟩
 ·obtain rfl:=aT hn
  simpa only [aQ] using hx
 ·obtain rfl:=aT hn
  simp only [aQ]
 ·obtain rfl:=aT hn
  simpa only [aQ,aY] using hx
 ·obtain rfl:=aT hn
  simp only [aQ]
 ·cases hn
theorem Co(h:Inv w0 F0 Z0 n s a w ι Z)(bM:mC r os s s0):∀ {aj:List kB} {xs ys:List a6} {vs:List Value},wQ r os s aj xs=some ys→aY w Z s ι xs vs→aY w Z s0 (iota r ι) ys vs
 | [],[],ys,vs,hn,hx=>by obtain rfl:=aT hn;simpa only [aY] using hx
 | [],_ :: _,_,_,hn,_=>by cases hn
 | _ :: _,[],_,_,hn,_=>by cases hn
 | t :: aj,x :: xs,ys,vs,hn,hx=>by
  simp only [wQ] at hn
  obtain ⟨y,h1,hn⟩:=bg hn
  obtain ⟨QY,h2,hn⟩:=bg hn
  obtain rfl:=aT hn
  simp only [aY] at hx ⊢
  obtain ⟨v,bI,rfl,g1,g2⟩:=hx
  exact⟨v,bI,rfl,Q0 h bM h1 g1,Co h bM h2 g2⟩
theorem aaR(h:Inv w0 F0 Z0 n s a w ι Z)(bM:mC r os s s0){t:kB}{x y:a6}{v:Value}(hn:Jc r os s t x=some y)(hx:aQ w Z s ι x v):aQ w Z s0 (iota r ι) y v:=by
 unfold Jc at hn
 split at hn
 ·obtain ⟨U,h1,hn⟩:=bg hn
  obtain ⟨aaS,h2,hn⟩:=bg hn
  obtain rfl:=aT hn
  simp only [aQ] at hx ⊢
  obtain ⟨us,vs,rfl,k1,k2⟩:=hx
  exact⟨us,vs,rfl,Co h bM h1 k1,Co h bM h2 k2⟩
 ·exact Q0 h bM hn hx
theorem Q1(h:Inv w0 F0 Z0 n s a w ι Z)(bM:mC r os s s0):∀ {aj:List (Nat×kB)} {f:Nat→a6},Cj r os s aj=some f→∀k,aQ w Z s0 (iota r ι) (f k) (a.tmps.getD k undef)
 | [],f,hn,k=>by obtain rfl:=aT hn;simp only [aQ]
 | (d,t) :: l,f,hn,k=>by
  simp only [Cj] at hn
  obtain ⟨v,h1,hn⟩:=bg hn
  obtain ⟨g,h2,hn⟩:=bg hn
  obtain rfl:=aT hn
  by_cases hk:d=k
  ·subst hk;rw [cw];exact aaR h bM h1 (h.tmps d)
  ·rw [cS hk];exact Q1 h bM h2 k
theorem aaT{c:Nat}{t:iE}{v:cm}(hn:Jd r os s c t=some v) :
  (∃id,jO r c=some (some id)∧((∃t em oE ver xs,s.o id=.row t oE ver xs∧v=.row t em 0 xs∧(oE=em∨xs=[]))∨(∃ver cs lX oF,s.o id=.var ver cs∧v=.var 0 lX∧oD r os s oF cs=some lX)))∨(jO r c=some none∧∃t em,v=.row t em 0 []):=by
 unfold Jd at hn
 split at hn
 ·rename_i id hl
  refine .inl ⟨id,hl,?_⟩
  split at hn
  ·rename_i t em u gr ver xs ho
   cases hb:(a'.beq gr em||xs.isEmpty)
   ·rw [hb] at hn;cases hn
   rw [hb] at hn
   obtain ⟨x,h1,hn⟩:=bg hn
   obtain rfl:=aT hn
   simp only [Bool.or_eq_true] at hb
   obtain ⟨e,rfl⟩:=gR h1
   subst e
   refine .inl ⟨_,_,_,_,_,ho,rfl,?_⟩
   rcases hb with hb | hb
   ·exact .inl (a'.eq_of_beq _ _ hb)
   ·exact .inr (List.isEmpty_iff.1 hb)
  ·rename_i cs ver xs ho
   obtain ⟨ys,h1,hn⟩:=bg hn
   obtain rfl:=aT hn
   exact .inr ⟨_,_,_,_,ho,rfl,h1⟩
  ·cases hn
 ·rename_i hl
  split at hn
  ·obtain rfl:=aT hn;exact .inr ⟨hl,_,_,rfl⟩
  ·cases hn
 ·cases hn
theorem Cp:∀ {l:List (Nat×iE)} {f:Nat→cm},Ck r os s l=some f→∀c,(f c=.none∧gY l c=false) ∨
  (∃id,jO r c=some (some id)∧((∃t em oE ver xs,s.o id=.row t oE ver xs∧f c=.row t em 0 xs∧(oE=em∨xs=[]))∨(∃ver cs lX oF,s.o id=.var ver cs∧f c=.var 0 lX∧oD r os s oF cs=some lX))) ∨
  (jO r c=some none∧∃t em,f c=.row t em 0 [])
 | [],f,hn,c=>by obtain rfl:=aT hn;exact .inl ⟨rfl,rfl⟩
 | (d,t) :: l,f,hn,c=>by
  simp only [Ck] at hn
  obtain ⟨v,h1,hn⟩:=bg hn
  obtain ⟨g,h2,hn⟩:=bg hn
  obtain rfl:=aT hn
  by_cases hk:d=c
  ·subst hk;rw [cw];exact .inr (aaT h1)
  ·rw [cS hk]
   rcases Cp h2 c with⟨g1,g2⟩ | g
   ·refine .inl ⟨g1,?_⟩
    unfold gY
    have:Nat.beq d c=false:=by
     cases hb:Nat.beq d c
     ·rfl
     ·exact absurd (Nat.eq_of_beq_eq_true hb) hk
    rw [this]
    exact g2
   ·exact .inr g
theorem Jg{c:Nat}{v:Option Nat} : ∀ {r:Ren},jO r c=some v→(c,v)∈r
 | [],h=>by cases h
 | (k,u) :: l,h=>by
  unfold jO at h
  cases hb:Nat.beq k c
  ·rw [hb] at h;exact List.mem_cons_of_mem _ (Jg h)
  ·rw [hb] at h
   obtain rfl:=aT h
   obtain rfl:=Nat.eq_of_beq_eq_true hb
   exact List.mem_cons_self
theorem Q2{c id:Nat} : ∀ {r:Ren},(c,some id)∈r→id∈rU r
 | (k,u) :: l,h=>by
  rcases List.mem_cons.1 h with h | h
  ·injection h with h1 h2
   subst h1 h2
   exact List.mem_cons_self
  ·have:=Q2 h
   cases u with
   | none=>exact this
   | some i=>exact List.mem_cons_of_mem _ this
theorem Jh{c c' id:Nat} : ∀ {r:Ren},pE (rU r)=true→(c,some id)∈r→(c',some id)∈r→c=c'
 | (k,u) :: l,hn,h,h'=>by
  cases u with
  | none =>
   simp only [rU] at hn
   rcases List.mem_cons.1 h with h | h
   ·injection h with _ h2;cases h2
   rcases List.mem_cons.1 h' with h' | h'
   ·injection h' with _ h2;cases h2
   exact Jh hn h h'
  | some i =>
   simp only [rU,pE,Bool.and_eq_true,Bool.not_eq_true'] at hn
   have bS:∀ {x},(x,some i)∈l→False:=by
    intro x hx
    have:=Q2 hx
    have h3:=List.any_eq_false.1 hn.1 i this
    simp at h3
   rcases List.mem_cons.1 h with g | g
   ·injection g with h1 h2;injection h2 with h2
    rcases List.mem_cons.1 h' with tZ | tZ
    ·injection tZ with h3 h4;rw [h1,h3]
    ·exact(bS (h2 ▸ tZ)).elim
   ·rcases List.mem_cons.1 h' with tZ | tZ
    ·injection tZ with h1 h2;injection h2 with h2
     exact(bS (h2 ▸ g)).elim
    ·exact Jh hn.2 g tZ
theorem aaU{T:bY}(wR:n.gc=[])(hn:Je T r s=some s0)(hs:cY w0 F0 Z0 n s a w):cY w0 F0 Z0 n s0 a w:=by
 obtain ⟨ι,Z,h⟩:=hs
 unfold Je at hn
 cases gZ:(pE (rU r)&&pE (I' r))
 ·rw [gZ] at hn;cases hn
 rw [gZ] at hn
 simp only [Bool.and_eq_true] at gZ
 simp only [cond_true] at hn
 obtain ⟨aaV,h1,hn⟩:=bg hn
 obtain ⟨bA,h2,hn⟩:=bg hn
 obtain ⟨aaW,h3,hn⟩:=bg hn
 obtain rfl:=aT hn
 have bM:mC r T.os s ⟨aaV,bA,aaW⟩:=Cp h2
 have live:∀c,(bA c).live→(∃id,jO r c=some (some id)∧(s.o id).live∧iota r ι c = ι id)∨(iota r ι c=⟨none,0,ah.none⟩):=by
  intro c hl
  rcases Cp h2 c with⟨g,_⟩ | ⟨id,g,⟨t,em,oE,ver,xs,g1,g2,ge⟩ | ⟨ver,cs,lX,oF,g1,g2,_⟩⟩ | ⟨g,_⟩
  ·rw [g] at hl;exact hl.elim
  ·exact .inl ⟨id,g,by rw [g1];trivial,by unfold iota;rw [g]⟩
  ·exact .inl ⟨id,g,by rw [g1];trivial,by unfold iota;rw [g]⟩
  ·exact .inr (by unfold iota;rw [g])
 refine⟨iota r ι,Z,h.ext,h.dF,h.rv,h.iU,?_,?_,?_,?_,Q1 h bM h1,h.size,Co h bM h3 h.ghost,by rw [wR];intro e he;simp at he,h.defers⟩
 ·intro c
  show h7 w Z _ _ _ (bA c)
  rcases Cp h2 c with⟨g,_⟩ | ⟨id,g,⟨t,em,oE,ver,xs,g1,g2,ge⟩ | ⟨ver,cs,lX,oF,g1,g2,g3⟩⟩ | ⟨g,t,em,g2⟩
  ·rw [g];trivial
  ·rw [g2]
   have:=h.fS id
   rw [g1] at this
   have hi:iota r ι c = ι id:=by unfold iota;rw [g]
   rw [hi]
   rcases ge with rfl | rfl
   ·exact this
   ·rcases this with k | ⟨a0,k1,k2⟩
    ·exact .inl k
    ·obtain ⟨k3,ba,bt,dh,G,dj,eo,gG⟩:=k2
     exact .inr ⟨a0,k1,k3,ba,bt,dh,G,trivial,eo,gG⟩
  ·rw [g2]
   have:=h.fS id
   rw [g1] at this
   have hi:iota r ι c = ι id:=by unfold iota;rw [g]
   rw [hi]
   obtain ⟨a0,vs,k1,k2,k3,ba,bt⟩:=this
   exact⟨a0,vs,k1,k2,Cn h bM g3 k3,ba,fun j hj=>bt j (by rw [← Jf g3];exact hj)⟩
  ·rw [g2]
   exact .inl ⟨rfl,by unfold iota;rw [g]⟩
 ·intro c hl b o hf
  rcases live c hl with⟨id,_,g2,g3⟩ | g
  ·rw [g3] at hf;exact h.own id g2 b o hf
  ·rw [g] at hf;exact hf.elim
 ·intro c c' hl gf hne b o hf iA
  rcases live c hl with⟨id,g1,g2,g3⟩ | g
  ·rcases live c' gf with⟨d',k1,k2,k3⟩ | k
   ·rw [g3] at hf
    rw [k3] at iA
    refine h.apart id d' g2 k2 (fun e=>?_) b o hf iA
    subst e
    exact hne (Jh gZ.1 (Jg g1) (Jg k1))
   ·rw [k] at iA;exact iA.elim
  ·rw [g] at hf;exact hf.elim
 ·intro c hl b o hf hz
  rcases live c hl with⟨id,g1,g2,g3⟩ | g
  ·rw [g3] at hf;exact h.c5 id g2 b o hf hz
  ·rw [g] at hf;exact hf.elim
theorem aaX{T:bY}(wR:n.gc=[])(hn:norm T s=some s0)(hs:cY w0 F0 Z0 n s a w):cY w0 F0 Z0 n s0 a w:=aaU wR hn hs
end
end Go.LM
namespace Go.LM
def Cq:List (Nat×List Item)→Nat→Option (List Item)
 | [],_=>none
 | (k,x) :: l,r=>cond (Nat.beq k r) (some x) (Cq l r)
def Q3(body:Code)(bF:Nat):Option (List Item):=Cq (gK [.code body]) bF
def yW:List (Nat×List Item)→List Nat
 | []=>[]
 | (k,_) :: l=>k :: yW l
def Ji(body:Code):Bool:=pE (yW (gK [.code body]))
theorem Q4{k:Nat}{x:List Item} : ∀ {l:List (Nat×List Item)},(k,x)∈l→k∈yW l
 | (k',bB) :: l,h=>by
  rcases List.mem_cons.1 h with h | h
  ·injection h with h1 h2;rw [h1];exact List.mem_cons_self
  ·exact List.mem_cons_of_mem _ (Q4 h)
theorem Q5{k:Nat}{x:List Item} : ∀ {l:List (Nat×List Item)},pE (yW l)=true→(k,x)∈l→Cq l k=some x
 | (k',bB) :: l,hn,h=>by
  simp only [yW,pE,Bool.and_eq_true,Bool.not_eq_true'] at hn
  unfold Cq
  rcases List.mem_cons.1 h with h | h
  ·injection h with h1 h2
   rw [h1,Nat.beq_refl,h2]
   rfl
  ·have hne:Nat.beq k' k=false:=by
    have h3:=List.any_eq_false.1 hn.1 k (Q4 h)
    cases hb:Nat.beq k' k
    ·rfl
    ·rw [Nat.eq_of_beq_eq_true hb] at h3;simp at h3
   rw [hne]
   exact Q5 hn.2 h
section
variable{bs : Type}
def Jj(g_:Nat→Option bY)(k:Nat→an→Option bs)(bF:Nat)(s:an):Option bs :=
 match g_ bF with
 | some T=>(norm T s).bind (k bF)
 | none=>none
def Jk(g_:Nat→Option bY)(bF:Nat):Bool:=(g_ bF).isSome
def Jl(g_:Nat→Option bY)(fin:an→Option bs)(k:Nat→an→Option bs):Hand bs :=⟨fun r _ s=>Jj g_ k r s,fin⟩
noncomputable def Jm(E:Env)(g_:Nat→Option bY)(body:Code)(fin:an→Option bs)(k:Nat→an→Option bs)(bF:Nat)(s:an):Option bs :=
 match Q3 body bF with
 | some todo=>j1 E (Jk g_) (Jl g_ fin k) 100000 true todo s
 | none=>none
noncomputable def oG(E:Env)(g_:Nat→Option bY)(body:Code)(fin:an→Option bs):Nat→Nat→an→Option bs
 | 0,_,_=>none
 | m+1,bF,s=>Jm E g_ body fin (oG E g_ body fin m) bF s
end
def t_(E:Env):List ResultVar→an→Option (List a6)
 | [],_=>some []
 | .tmp t :: l,s=>(t_ E l s).bind fun vs=>some (s.t t :: vs)
 | .cell a ty :: l,s =>
  match E.ty ty,s.t a with
  | some T,.ptr p=>((l_ s T.size p).bind (jZ T)).bind fun v=>(t_ E l s).bind fun vs=>some (v :: vs)
  | _,_=>none
def mD(key:Nat):List bC→List a6→List a6
 | .fn l9 _ :: _,_ :: l=>[.fn key (l.take l9) (l.drop l9)]
 | .val _ _ :: ps,v :: l | .hD _ :: ps,v :: l | .hC _ _ :: ps,v :: l | .ref _ :: ps,v :: l | .mut _ _ _ :: ps,v :: l=>v :: mD key ps l
 | _,_=>[]
def Cr:List bC→Bool
 | []=>true
 | .fn l9 o_ :: l=>Nat.beq l.length (l9+o_)
 | .val _ _ :: l | .hD _ :: l | .hC _ _ :: l | .ref _ :: l | .mut _ _ _ :: l=>Cr l
def Q6(key:Nat)(e:Entry)(x:(bC.ins e.ps).D):Option an :=
 (k5 key e.ps x 1099511627776 ⟨fun _=>.aD,fun _=>.none,[]⟩).bind fun q=>some ⟨fun k=>(mD key e.ps q.1).getD k .aD,q.2.1.o,q.1⟩
def pF(E:Env)(fn:Func)(e:Entry)(s:an):Option (cX.outs e.rs (bC.dZ e.ps)).D :=
 (t_ E fn.results.toList s).bind fun vs=>gX e.ps s.g e.rs vs s
noncomputable def wS(E:Env)(fn:Func)(body:Code)(g_:Nat→Option bY)(key:Nat)(e:Entry)(k:Nat→an→Option (cX.outs e.rs (bC.dZ e.ps)).D)(x:(bC.ins e.ps).D):Option (cX.outs e.rs (bC.dZ e.ps)).D :=
 (Q6 key e x).bind fun s=>j1 E (Jk g_) (Jl g_ (pF E fn e) k) 100000 false [.code body] s
section
variable{P:Program}{w0:World}{F0 Z0:ah}{n:cD}{s aq:an}{a b_:Act}{w w':World}{ι bf:Nat→bG}{Z Z':ah}{E:Env}{bs : Type}{r : bs}
def aaY(w0:World)(F0 Z0:ah)(n:cD)(fin:an→Option bs)(r : bs)(todo:List Item)(a:Act)(w:World):Prop :=
 (todo=[]∨∃k,todo=.code .ret :: k)∧∃s,fin s=some r∧cY w0 F0 Z0 n s a w
theorem Q7{g_:Nat→Option bY}{body:Code}{fin:an→Option bs}(bM:jL P E)(hn:E.n=n)(wR:n.gc=[])(hu:Ji body=true):∀(m:Nat) (fuel:Nat) (first:Bool) (todo:List Item) (s:an) (a:Act) (w:World),
  (∀p,p∈gK todo→p∈gK [.code body])→j1 E (Jk g_) (Jl g_ fin (oG E g_ body fin m)) fuel first todo s=some r→cY w0 F0 Z0 n s a w→∀(b:Frame) (cs:List Frame),
  ∃pD b_ w',aaY w0 F0 Z0 n fin r pD b_ w'∧Steps P (lone (b.at a todo) cs w) (lone (b.at b_ pD) cs w')
 | m,fuel,first,todo,s,a,w,hc,hk,hs,b,cs=>by
  obtain ⟨t1,s1,a1,nz,h1,h2,h3,h4⟩:=QM bM hn fuel first todo s a w hk hs b cs
  rcases h2 with⟨bF,ops,h6,k,rfl,h_,qv⟩ | ⟨jd,hfin⟩
  ·have yX:Jj g_ (oG E g_ body fin m) bF s1=some r:=qv
   unfold Jj at yX
   cases bZ:g_ bF with
   | none=>rw [bZ] at yX;cases yX
   | some T =>
    rw [bZ] at yX
    obtain ⟨s2,g1,g2⟩:=bg yX
    have ml:=aaX wR g1 h1
    cases m with
    | zero=>cases g2
    | succ m =>
     unfold oG Jm at g2
     have jt:(bF,(.code (.region bF ops h6) :: k:List Item))∈gK [.code body]:=hc _ (h3 _ (by simp [gK,lW]))
     have aaZ:Q3 body bF=some (.code (.region bF ops h6) :: k):=Q5 hu jt
     rw [aaZ] at g2
     simp only at g2
     obtain ⟨di,b_,w',c8,eJ⟩:=Q7 bM hn wR hu m 100000 true _ s2 a1 nz (fun p au=>hc p (h3 p au)) g2 ml b cs
     exact⟨di,b_,w',c8,h4.trans eJ⟩
  ·exact⟨t1,a1,nz,⟨jd,s1,hfin,h1⟩,h4⟩
theorem mE{α : Type} : ∀x:Sem α,x.bind .pure=x
 | .pure a=>rfl
 | .load m a k=>by simp only [Sem.bind];exact congrArg _ (funext fun v=>mE (k v))
 | .store m a v k=>by simp only [Sem.bind];exact congrArg _ (mE k)
 | .new o k=>by simp only [Sem.bind];exact congrArg _ (funext fun v=>mE (k v))
 | .shape r k=>by simp only [Sem.bind];exact congrArg _ (funext fun v=>mE (k v))
 | .freeze a n k=>by simp only [Sem.bind];exact congrArg _ (mE k)
 | .frozen a k=>by simp only [Sem.bind];exact congrArg _ (funext fun v=>mE (k v))
 | .getObj r k=>by simp only [Sem.bind];exact congrArg _ (funext fun v=>mE (k v))
 | .setObj r o k=>by simp only [Sem.bind];exact congrArg _ (mE k)
 | .choose q k=>by simp only [Sem.bind];exact congrArg _ (funext fun v=>mE (k v))
 | .sys c k=>by simp only [Sem.bind];exact congrArg _ (funext fun v=>mE (k v))
 | .program k=>by simp only [Sem.bind];exact congrArg _ (funext fun v=>mE (k v))
 | .mark m k=>by simp only [Sem.bind];exact congrArg _ (mE k)
 | .halt h=>rfl
theorem mF{α β aa0 : Type}(f : α → Sem β)(g : β → Sem aa0):∀x:Sem α,(x.bind f).bind g=x.bind fun a=>(f a).bind g
 | .pure a=>rfl
 | .load m a k=>by simp only [Sem.bind];exact congrArg _ (funext fun v=>mF f g (k v))
 | .store m a v k=>by simp only [Sem.bind];exact congrArg _ (mF f g k)
 | .new o k=>by simp only [Sem.bind];exact congrArg _ (funext fun v=>mF f g (k v))
 | .shape r k=>by simp only [Sem.bind];exact congrArg _ (funext fun v=>mF f g (k v))
 | .freeze a n k=>by simp only [Sem.bind];exact congrArg _ (mF f g k)
 | .frozen a k=>by simp only [Sem.bind];exact congrArg _ (funext fun v=>mF f g (k v))
 | .getObj r k=>by simp only [Sem.bind];exact congrArg _ (funext fun v=>mF f g (k v))
 | .setObj r o k=>by simp only [Sem.bind];exact congrArg _ (mF f g k)
 | .choose q k=>by simp only [Sem.bind];exact congrArg _ (funext fun v=>mF f g (k v))
 | .sys c k=>by simp only [Sem.bind];exact congrArg _ (funext fun v=>mF f g (k v))
 | .program k=>by simp only [Sem.bind];exact congrArg _ (funext fun v=>mF f g (k v))
 | .mark m k=>by simp only [Sem.bind];exact congrArg _ (mF f g k)
 | .halt h=>rfl
instance:LawfulMonad Sem:=LawfulMonad.mk' Sem (fun x=>mE x) (fun _ _=>rfl) (fun x f g=>mF f g x)
theorem Q8{α : Type}{f : α → Sem Value} : ∀ {as:List α} {vs:List Value},vs.length=as.length→(∀i (hi:i<as.length) (c_:i<vs.length),(f as[i]).run P w=.ok vs[i] w)→(as.mapM f).run P w=.ok vs w
 | [],[],_,_=>by rw [List.mapM_nil];exact run_pure _ _
 | [],_ :: _,h,_=>by simp at h
 | _ :: _,[],h,_=>by simp at h
 | x :: as,v :: vs,hl,h=>by
  have h0:=h 0 (by simp) (by simp)
  simp only [List.getElem_cons_zero] at h0
  rw [List.mapM_cons,run_bind,h0]
  simp only [run_bind]
  rw [Q8 (as:=as) (vs:=vs) (by simpa using hl) fun i hi c_=>h (i+1) (by simpa using hi) (by simpa using c_)]
  simp only [run_pure]
theorem aa1{α : Type}{f : α → Sem Value}{as:Array α}{vs:List Value}(hl:vs.length=as.size)(h:∀i (hi:i<as.toList.length) (c_:i<vs.length),(f as.toList[i]).run P w=.ok vs[i] w) :
  (as.mapM f).run P w=.ok vs.toArray w:=by
 rw [Array.mapM_eq_mapM_toList,map_eq_pure_bind,run_bind,Q8 (by simpa using hl) h]
 rfl
theorem Jn(bZ:gS P E)(h:Inv w0 F0 Z0 n s a w ι Z):∀ {l:List ResultVar} {vs:List a6},t_ E l s=some vs →
  ∃us,us.length=l.length∧aY w Z s ι vs us∧∀i (hi:i<l.length) (c_:i<us.length),((fun | .tmp t=>pure (a.tmps.getD t undef) | .cell b t=>do loadVar t (← asAddr (a.tmps.getD b undef)):ResultVar→Sem Value) l[i]).run P w=.ok us[i] w
 | [],vs,hr=>by
  obtain rfl:=aT hr
  exact⟨[],rfl,by simp only [aY],fun i hi=>by simp at hi⟩
 | .tmp t :: l,vs,hr=>by
  simp only [t_] at hr
  obtain ⟨bI,h1,hr⟩:=bg hr
  obtain rfl:=aT hr
  obtain ⟨us,g1,g2,g3⟩:=Jn bZ h h1
  refine⟨_ :: us,by simp [g1],by simp only [aY];exact⟨_,_,rfl,h.tmps t,g2⟩,fun i hi c_=>?_⟩
  cases i with
  | zero=>rfl
  | succ i=>exact g3 i (by simpa using hi) (by simpa using c_)
 | .cell b ty :: l,vs,hr=>by
  simp only [t_] at hr
  cases ht:E.ty ty with
  | none=>rw [ht] at hr;simp at hr
  | some T =>
   rw [ht] at hr
   cases au:s.t b with
   | ptr p =>
    rw [au] at hr
    simp only at hr
    obtain ⟨v,hv,hr⟩:=bg hr
    obtain ⟨bI,h1,hr⟩:=bg hr
    obtain rfl:=aT hr
    obtain ⟨cs,k1,k2⟩:=bg hv
    obtain ⟨us,g1,g2,g3⟩:=Jn bZ h h1
    have hx:=h.tmps b
    rw [au] at hx
    simp only [aQ] at hx
    obtain ⟨_,A,he,fD⟩:=hx
    obtain ⟨cQ,i0,ws,rfl,hc,b4,hlen⟩:=yl h k1 fD
    refine⟨dH T ws :: us,by simp [g1],by simp only [aY];exact⟨_,_,rfl,ph k2 hc,g2⟩,fun i hi c_=>?_⟩
    cases i with
    | zero =>
     show(do loadVar ty (← asAddr (a.tmps.getD b undef)):Sem Value).run P w=_
     rw [run_bind,he]
     show(loadVar ty (at_ cQ i0)).run P w=_
     exact HP (bZ.ty ty T ht) b4 hlen
    | succ i=>exact g3 i (by simpa using hi) (by simpa using c_)
   | _=>rw [au] at hr;simp at hr
theorem aa2{fn:Func}{vs:List a6}(bZ:gS P E)(h:Inv w0 F0 Z0 n s a w ι Z)(hr:t_ E fn.results.toList s=some vs) :
  ∃us,aY w Z s ι vs us∧(results fn a.tmps).run P w=.ok (ow us) w:=by
 obtain ⟨us,h1,h2,h3⟩:=Jn bZ h hr
 refine⟨us,h2,?_⟩
 unfold results
 rw [run_bind,aa1 (vs:=us) (by simpa using h1) (fun i hi c_=>by
  have:=h3 i hi c_
  revert this
  cases fn.results.toList[i] <;> exact fun h=>h)]
 simp only
 rw [run_pure]
 congr 1
 unfold ow
 split
 ·rename_i hs
  match us,hs with
  | [v],_=>rfl
  | [],hs=>simp at hs
  | _ :: _ :: _,hs=>simp at hs
 ·rename_i hs
  match us,hs with
  | [v],hs=>simp at hs
  | [],_=>rfl
  | _ :: _ :: _,_=>rfl
theorem aa3(us:List Value)(m k:Nat):((us.toArray++Array.replicate m undef).getD k undef)=us.getD k undef:=by
 rw [Array.getD_eq_getD_getElem?,List.getD_eq_getElem?_getD]
 by_cases hk:k<us.length
 ·rw [Array.getElem?_append_left (by simpa using hk)];simp
 ·rw [Array.getElem?_append_right (by simpa using Nat.le_of_not_lt hk)]
  rw [List.getElem?_eq_none (by omega)]
  simp only [List.size_toArray,Option.getD_none]
  by_cases en:k-us.length<m
  ·rw [Array.getElem?_eq_getElem (by simpa using en)];simp
  ·rw [Array.getElem?_eq_none (by simpa using Nat.le_of_not_lt en)];rfl
theorem aY.getD:∀ {xs:List a6} {us:List Value},aY w Z s ι xs us→∀k,aQ w Z s ι (xs.getD k .aD) (us.getD k undef)
 | [],us,h,k=>by simp only [List.getD_nil,aQ]
 | x :: xs,us,h,k=>by
  simp only [aY] at h
  obtain ⟨u,aU,rfl,h1,h2⟩:=h
  cases k with
  | zero=>exact h1
  | succ k=>exact aY.getD h2 k
theorem aY.len:∀ {xs:List a6} {us:List Value},aY w Z s ι xs us→us.length=xs.length
 | [],us,h=>by simp only [aY] at h;rw [h];rfl
 | x :: xs,us,h=>by
  simp only [aY] at h
  obtain ⟨u,aU,rfl,h1,h2⟩:=h
  simp [aY.len h2]
theorem Cs:∀ {t:ad} {m:a'} {x:t.D} {vs us:List Value} {F:ah},t.al w Z m x vs F→f' (dH t vs :: us)=f' us
 | .int k,_,_,_,_,_,h=>by simp only [ad.al] at h;subst h;rfl
 | .bool,_,_,_,_,_,h=>by simp only [ad.al] at h;subst h;rfl
 | .str,_,_,_,_,_,h=>by simp only [ad.al] at h;obtain ⟨b,rfl,_⟩:=h;rfl
 | .raw,_,_,_,_,_,h=>by simp only [ad.al] at h;obtain ⟨rfl,_,_,_,rfl⟩:=h;rfl
 | .sl t,.O e,_,_,_,_,h=>by simp only [ad.al] at h;obtain ⟨A,c,rfl,_⟩:=h;rfl
 | .sl t,.R,_,_,_,_,h=>by simp only [ad.al] at h;obtain ⟨A,c,rfl,_⟩:=h;rfl
 | .sl t,.S _,_,_,_,_,h=>by simp only [ad.al] at h;obtain ⟨A,c,rfl,_⟩:=h;rfl
 | .st aj,_,_,_,_,_,_=>rfl
theorem rX{key:Nat} : ∀(ps:List bC) (x:(bC.ins ps).D) (eM:List Value) (F:ah),gw w Z key ps x eM F→eM.length=ps.length
 | [],x,eM,F,h=>by rw [show eM=[] from h];rfl
 | .fn _ _ :: ps,x,eM,F,h=>by obtain ⟨a,b,aU,rfl,_,h2⟩:=h;simp [rX ps x aU F h2]
 | .val _ _ :: ps,x,eM,F,h=>by obtain ⟨v,aU,G,H,rfl,_,h2,_⟩:=h;simp [rX ps _ _ _ h2]
 | .hD _ :: ps,x,eM,F,h=>by obtain ⟨v,aU,G,H,rfl,_,h2,_⟩:=h;simp [rX ps _ _ _ h2]
 | .hC _ _ :: ps,x,eM,F,h=>by obtain ⟨v,aU,G,H,rfl,_,h2,_⟩:=h;simp [rX ps _ _ _ h2]
 | .ref _ :: ps,x,eM,F,h=>by obtain ⟨b,o,v,aU,rfl,_,_,_,h2⟩:=h;simp [rX ps _ _ _ h2]
 | .mut _ _ _ :: ps,x,eM,F,h=>by obtain ⟨b,o,v,aU,G,H,rfl,_,_,_,h2,_⟩:=h;simp [rX ps _ _ _ h2]
theorem aY.split:∀ {q:List a6} {l k:List Value},aY w Z s ι q (l++k)→aY w Z s ι (q.take l.length) l∧aY w Z s ι (q.drop l.length) k
 | q,[],k,h=>by simp only [List.length_nil,List.take_zero,List.drop_zero,aY];exact⟨trivial,h⟩
 | [],u :: l,k,h=>by simp [aY] at h
 | v :: q,u :: l,k,h=>by
  simp only [List.cons_append,aY] at h
  obtain ⟨ib,us2,he,k1,k2⟩:=h
  injection he with e3 fX
  subst e3 fX
  obtain ⟨h1,h2⟩:=aY.split (q:=q) (l:=l) (k:=k) k2
  refine⟨?_,?_⟩
  ·simp only [List.length_cons,List.take_succ_cons,aY];exact⟨_,l,rfl,k1,h1⟩
  ·simpa only [List.length_cons,List.drop_succ_cons] using h2
theorem wT{key:Nat} : ∀(ps:List bC) (x:(bC.ins ps).D) (eM us:List Value) (F:ah) (q:List a6),Cr ps=true→gw w Z key ps x eM F→eM=us++f' us→aY w Z s ι q eM→aY w Z s ι (mD key ps q) us
 | [],x,eM,us,F,q,_,hA,gJ,hq=>by
  have hA:eM=[]:=hA
  subst hA
  obtain ⟨rfl,_⟩:=List.append_eq_nil_iff.1 gJ.symm
  cases q <;> simp only [mD,aY]
 | .fn l9 o_ :: ps,x,eM,us,F,q,ca,hA,gJ,hq=>by
  obtain ⟨a,b,aU,rfl,⟨ha,hb⟩,h2⟩:=hA
  have hl:=rX _ _ _ _ h2
  have alx:=Nat.eq_of_beq_eq_true ca
  cases us with
  | nil=>cases gJ
  | cons u us =>
   injection gJ with e1 e2
   subst e1
   have hz:us=[]:=by
    have:=congrArg List.length e2
    simp [f'] at this
    exact List.length_eq_zero_iff.1 (by omega)
   subst hz
   simp only [f',List.nil_append,List.append_nil] at e2
   subst e2
   cases q with
   | nil=>simp [aY] at hq
   | cons v q =>
    simp only [aY] at hq
    obtain ⟨ib,us2,he,_,k2⟩:=hq
    injection he with e3 fX
    subst e3 fX
    obtain ⟨k3,ba⟩:=aY.split (l:=a.toList) (k:=b.toList) k2
    simp only [mD,aY,aQ]
    rw [Array.length_toList,ha] at k3 ba
    exact⟨_,[],rfl,⟨a.toList,b.toList,by simp,k3,ba⟩,rfl⟩
 | .val t m :: ps,x,eM,us,F,q,ca,hA,gJ,hq=>by
  obtain ⟨vs,aU,G,H,rfl,h1,h2,_⟩:=hA
  cases us with
  | nil=>cases gJ
  | cons u us =>
   injection gJ with e1 e2
   subst e1
   rw [Cs h1] at e2
   cases q with
   | nil=>simp [aY] at hq
   | cons v q =>
    simp only [aY] at hq
    obtain ⟨ib,us2,he,k1,k2⟩:=hq
    injection he with e3 fX
    subst e3 fX
    simp only [mD,aY]
    exact⟨_,us,rfl,k1,wT ps x.2 _ us _ q ca h2 e2 k2⟩
 | .hD t :: ps,x,eM,us,F,q,ca,hA,gJ,hq=>by
  obtain ⟨vs,aU,G,H,rfl,h1,h2,_⟩:=hA
  cases us with
  | nil=>cases gJ
  | cons u us =>
   injection gJ with e1 e2
   subst e1
   rw [Cs h1] at e2
   cases q with
   | nil=>simp [aY] at hq
   | cons v q =>
    simp only [aY] at hq
    obtain ⟨ib,us2,he,k1,k2⟩:=hq
    injection he with e3 fX
    subst e3 fX
    simp only [mD,aY]
    exact⟨_,us,rfl,k1,wT ps x.2 _ us _ q ca h2 e2 k2⟩
 | .hC t m :: ps,x,eM,us,F,q,ca,hA,gJ,hq=>by
  obtain ⟨vs,aU,G,H,rfl,h1,h2,_⟩:=hA
  cases us with
  | nil=>cases gJ
  | cons u us =>
   injection gJ with e1 e2
   subst e1
   rw [Cs h1] at e2
   cases q with
   | nil=>simp [aY] at hq
   | cons v q =>
    simp only [aY] at hq
    obtain ⟨ib,us2,he,k1,k2⟩:=hq
    injection he with e3 fX
    subst e3 fX
    simp only [mD,aY]
    exact⟨_,us,rfl,k1,wT ps x.2 _ us _ q ca h2 e2 k2⟩
 | .ref t :: ps,x,eM,us,F,q,ca,hA,gJ,hq=>by
  obtain ⟨b,o,vs,aU,rfl,_,_,_,h2⟩:=hA
  cases us with
  | nil=>cases gJ
  | cons u us =>
   injection gJ with e1 e2
   subst e1
   have e2:aU=us++f' us:=e2
   cases q with
   | nil=>simp [aY] at hq
   | cons v q =>
    simp only [aY] at hq
    obtain ⟨ib,us2,he,k1,k2⟩:=hq
    injection he with e3 fX
    subst e3 fX
    simp only [mD,aY]
    exact⟨_,us,rfl,k1,wT ps x.2 _ us _ q ca h2 e2 k2⟩
 | .mut t m m' :: ps,x,eM,us,F,q,ca,hA,gJ,hq=>by
  obtain ⟨b,o,vs,aU,G,H,rfl,_,_,_,h2,_⟩:=hA
  cases us with
  | nil=>cases gJ
  | cons u us =>
   injection gJ with e1 e2
   subst e1
   have e2:aU=us++f' us:=e2
   cases q with
   | nil=>simp [aY] at hq
   | cons v q =>
    simp only [aY] at hq
    obtain ⟨ib,us2,he,k1,k2⟩:=hq
    injection he with e3 fX
    subst e3 fX
    simp only [mD,aY]
    exact⟨_,us,rfl,k1,wT ps x.2 _ us _ q ca h2 e2 k2⟩
theorem Q9{f key:Nat}{fn:Func}{body:Code}{e:Entry}{g_:Nat→Option bY}(bM:jL P E)(hf:P.funcs[f]?=some fn)(hb:fn.body=some body)(jb:(fn.name == "runtime.NumGoroutine")=false)
  (hn:Nat.beq E.n fn.ntmps=true) (Ct:Cr e.ps=true) (hlen:Nat.ble e.ps.length fn.ntmps=true) (hu:Ji body=true)
  (hF:∀x r,e.f x=some r→∃m,wS E fn body g_ key e (oG E g_ body (pF E fn e) m) x=some r):Sound P f key e:=by
 refine⟨⟨fn,hf,by rw [hb];rfl,jb⟩,fun w Z F x us r hZ IG hap hA hx=>?_⟩
 obtain ⟨m,hm⟩:=hF x r hx
 unfold wS at hm
 obtain ⟨st,hst,hm⟩:=bg hm
 unfold Q6 at hst
 obtain ⟨q,hq,hst⟩:=bg hst
 obtain rfl:=aT hst
 have qi:=rX _ _ _ _ hA
 rw [List.length_append] at qi
 have hle:=Nat.le_of_ble_eq_true hlen
 let a0:Act := { tmps:=us.toArray++Array.replicate (fn.ntmps-us.toArray.size) undef,defers:=[] }
 have hsz:a0.tmps.size=fn.ntmps:=by simp [a0];omega
 have aa4:Inv w F Z ⟨fn.ntmps,[],[]⟩ ⟨fun _=>.aD,fun _=>.none,[]⟩ a0 w (fun _=>⟨none,0,ah.none⟩) Z:=Inv.start hZ hsz rfl
 obtain ⟨dz,i1,held,cN,ny⟩:=tV e.ps x (us++f' us) _ _ _ F q hq aa4 hA ⟨fun b o h=>⟨.inl h,IG b o h⟩,fun _ h=>h.elim,hap⟩
 have hinv:Inv w F Z ⟨fn.ntmps,us++f' us,[]⟩ ⟨fun k=>(mD key e.ps q.1).getD k .aD,q.2.1.o,q.1⟩ a0 w dz Z:=by
  have hm:eI w Z q.2.1 dz w Z ⟨fun k=>(mD key e.ps q.1).getD k .aD,q.2.1.o,q.1⟩ dz:=Hy rfl
  exact⟨i1.ext,i1.dF,i1.rv,i1.iU,fun id=>h7.move hm (id:=id) (fun _=>⟨rfl,rfl⟩) rfl (i1.fS id),i1.own,i1.apart,i1.c5,
   fun k=>by
    show aQ w Z _ dz ((mD key e.ps q.1).getD k .aD) ((us.toArray++Array.replicate (fn.ntmps-us.toArray.size) undef).getD k undef)
    rw [aa3]
    exact(aY.move hm (wT e.ps x _ us F q.1 Ct hA rfl cN)).getD k,hsz,aY.move hm cN,fun e he=>by simp at he,rfl⟩
 intro cs
 let cQ:Frame := { (default:Frame) with fn:=f,kind:=.normal }
 have aa5:Frame.enter P f us.toArray .normal=cQ.at a0 [.code body]:=by
  simp [Frame.enter,Frame.at,hf,hb,cQ,a0]
 obtain ⟨di,b_,w',⟨jd,aq,hfin,bf,Z',c_⟩,Q_⟩:=Q7 (n:=⟨fn.ntmps,us++f' us,[]⟩) bM (Nat.eq_of_beq_eq_true hn) rfl hu m 100000 false [.code body] _ a0 w (fun _ h=>h) hm ⟨dz,Z,hinv⟩ cQ cs
 unfold pF at hfin
 obtain ⟨vs,hvs,hfin⟩:=bg hfin
 obtain ⟨dr,hr1,gD⟩:=aa2 bM.ty c_ hvs
 obtain ⟨s2,dK,bL,mx,eY,B4,IS,Qg⟩:=wP e.rs vs dr aq Z' r hfin c_ c_.ghost hr1
 have Cu:Ends w Z F e us r (ow dr) w':=by
  refine⟨dr,bL,dK,rfl,c_.ext,mx.rv,fun b o hz=>?_,fun b o hf=>?_,B4.c5,IS⟩
  ·rcases mx.dF b o hz with h1 | h1 | h1
   ·exact .inl h1
   ·exact .inr ⟨.inl h1,mx.iU b o hz⟩
   ·exact .inr ⟨.inr h1,mx.iU b o hz⟩
  ·exact B4.own b o hf
 rw [aa5]
 rcases jd with rfl | ⟨k,rfl⟩
 ·exact⟨.returned (ow dr),w',_,⟨_,rfl,Cu⟩,Steps.trans Q_ (.one step_end),rfl,rfl,c_.defers,rfl,fn,hf,gD⟩
 ·exact⟨.returned (ow dr),w',_,⟨_,rfl,Cu⟩,Steps.trans Q_ (.one step_ret),rfl,rfl,c_.defers,rfl,fn,hf,gD⟩
end
end Go.LM
namespace Go.LM
mutual
def ad.rY(P:Program):ad→TypeId→Bool
 | .int _,_=>true
 | .bool,_=>true
 | .str,_=>true
 | .sl _,_=>false
 | .raw,_=>false
 | .st aj,id => !P.stoodInHeld id&&match P.underlying id with | some (.struct cn)=>aj.Cv P cn.toList | _=>false
def ay.Cv(P:Program):ay→List Field→Bool
 | .nil,_=>true
 | .cons t aj,cn=>match cn with
  | f :: lI=>decide (f.name ≠ "_")&&t.rY P f.type&&aj.Cv P lI
  | []=>false
end
mutual
def ad.deep:ad→Nat
 | .st aj=>aj.deep+1
 | _=>1
def ay.deep:ay→Nat
 | .nil=>0
 | .cons t aj=>t.deep+aj.deep
end
section
variable{P:Program}{w:World}{Z:ah}{s:an}{ι : Nat→bG}
theorem aa6{k:IntKind}{cs ds:List a8}{r:Bool×List a8×List a8}(h:(ad.int k).cmp cs ds=some r):∃x a y b,cs=.int k x :: a∧ds=.int k y :: b∧r=(x==y,a,b):=by
 cases cs with
 | nil=>simp [ad.cmp] at h
 | cons c a=>cases ds with
  | nil=>cases c <;> simp [ad.cmp] at h
  | cons d b =>
   cases c <;> cases d <;> simp only [ad.cmp] at h <;> first | (cases h;done) | skip
   rename_i k1 x k2 y
   cases hk:(Nat.beq (dq k1) (dq k)&&Nat.beq (dq k2) (dq k))
   ·rw [hk] at h;cases h
   rw [hk] at h
   simp only [Bool.and_eq_true] at hk
   obtain rfl:=tf (Nat.eq_of_beq_eq_true hk.1)
   obtain rfl:=tf (Nat.eq_of_beq_eq_true hk.2)
   exact⟨x,a,y,b,rfl,rfl,(aT h).symm⟩
theorem aa7{cs ds:List a8}{r:Bool×List a8×List a8}(h:ad.bool.cmp cs ds=some r):∃x a y b,cs=.bool x :: a∧ds=.bool y :: b∧r=(x==y,a,b):=by
 cases cs with
 | nil=>simp [ad.cmp] at h
 | cons c a=>cases ds with
  | nil=>cases c <;> simp [ad.cmp] at h
  | cons d b =>
   cases c <;> try (simp [ad.cmp] at h;done)
   cases d <;> try (simp [ad.cmp] at h;done)
   simp only [ad.cmp] at h
   exact⟨_,a,_,b,rfl,rfl,(aT h).symm⟩
theorem aa8{cs ds:List a8}{r:Bool×List a8×List a8}(h:ad.str.cmp cs ds=some r):∃x a y b,cs=.str x :: a∧ds=.str y :: b∧r=(bn x y,a,b):=by
 cases cs with
 | nil=>simp [ad.cmp] at h
 | cons c a=>cases ds with
  | nil=>cases c <;> simp [ad.cmp] at h
  | cons d b =>
   cases c <;> try (simp [ad.cmp] at h;done)
   cases d <;> try (simp [ad.cmp] at h;done)
   simp only [ad.cmp] at h
   exact⟨_,a,_,b,rfl,rfl,(aT h).symm⟩
theorem Jo{c c':a8}{a b:List a8}{us vs:List Value}(h1:bK w Z s ι (c :: a) us)(h2:bK w Z s ι (c' :: b) vs) :
  ∃u us2 v vs2,us=u :: us2∧vs=v :: vs2∧cj w Z s ι c u∧cj w Z s ι c' v∧bK w Z s ι a us2∧bK w Z s ι b vs2:=by
 cases us with
 | nil=>exact h1.elim
 | cons u us=>cases vs with
  | nil=>exact h2.elim
  | cons v vs=>exact⟨u,us,v,vs,rfl,rfl,h1.1,h2.1,h1.2,h2.2⟩
mutual
theorem ad.yY:∀(t:ad) (id:TypeId) (d:Nat) {cs ds:List a8} {r:Bool×List a8×List a8} {us vs:List Value},t.ok P id→t.rY P id=true→t.deep≤d→t.cmp cs ds=some r →
  bK w Z s ι cs us→bK w Z s ι ds vs→∃us1 us2 vs1 vs2,us=us1++us2∧vs=vs1++vs2∧us1.length=t.size∧vs1.length=t.size∧bK w Z s ι r.2.1 us2∧bK w Z s ι r.2.2 vs2 ∧
   (Op.equalIn d id (dH t us1) (dH t vs1)).run P w=.ok r.1 w
 | .int k,id,0,cs,ds,r,us,vs,ho,hc,ag,h,h1,h2=>by simp [ad.deep] at ag
 | .int k,id,d+1,cs,ds,r,us,vs,ho,hc,ag,h,h1,h2=>by
  simp only [ad.ok] at ho
  obtain ⟨x,a,y,b,rfl,rfl,rfl⟩:=aa6 h
  obtain ⟨u,us2,v,vs2,rfl,rfl,e1,e2,g1,g2⟩:=Jo h1 h2
  simp only [cj] at e1 e2
  subst e1 e2
  exact⟨[_],us2,[_],vs2,rfl,rfl,rfl,rfl,g1,g2,run_equalIn_int w d id _ _ x y ho.1⟩
 | .bool,id,0,cs,ds,r,us,vs,ho,hc,ag,h,h1,h2=>by simp [ad.deep] at ag
 | .bool,id,d+1,cs,ds,r,us,vs,ho,hc,ag,h,h1,h2=>by
  simp only [ad.ok] at ho
  obtain ⟨x,a,y,b,rfl,rfl,rfl⟩:=aa7 h
  obtain ⟨u,us2,v,vs2,rfl,rfl,e1,e2,g1,g2⟩:=Jo h1 h2
  simp only [cj] at e1 e2
  subst e1 e2
  exact⟨[_],us2,[_],vs2,rfl,rfl,rfl,rfl,g1,g2,run_equalIn_bool w d id x y ho.1⟩
 | .str,id,0,cs,ds,r,us,vs,ho,hc,ag,h,h1,h2=>by simp [ad.deep] at ag
 | .str,id,d+1,cs,ds,r,us,vs,ho,hc,ag,h,h1,h2=>by
  simp only [ad.ok] at ho
  obtain ⟨x,a,y,b,rfl,rfl,rfl⟩:=aa8 h
  obtain ⟨u,us2,v,vs2,rfl,rfl,e1,e2,g1,g2⟩:=Jo h1 h2
  obtain ⟨wc,rfl,rfl⟩:=e1
  obtain ⟨we,rfl,rfl⟩:=e2
  refine⟨[_],us2,[_],vs2,rfl,rfl,rfl,rfl,g1,g2,?_⟩
  rw [← O_]
  exact run_equalIn_string w d id wc we ho.1
 | .raw,id,d,cs,ds,r,us,vs,ho,hc,ag,h,h1,h2=>by simp [ad.rY] at hc
 | .sl t,id,d,cs,ds,r,us,vs,ho,hc,ag,h,h1,h2=>by simp [ad.rY] at hc
 | .st aj,id,0,cs,ds,r,us,vs,ho,hc,ag,h,h1,h2=>by simp [ad.deep] at ag
 | .st aj,id,d+1,cs,ds,r,us,vs,ho,hc,ag,h,h1,h2=>by
  simp only [ad.ok] at ho
  obtain ⟨_,cn,hu,Jp⟩:=ho
  simp only [ad.rY,Bool.and_eq_true,Bool.not_eq_true',hu] at hc
  simp only [ad.deep] at ag
  simp only [ad.cmp] at h
  obtain ⟨us1,us2,vs1,vs2,e1,e2,dS,eK,g1,g2,g3⟩:=ay.yY aj cn.toList 0 d [] [] Jp hc.2 (by omega) h h1 h2 rfl rfl
  refine⟨us1,us2,vs1,vs2,e1,e2,dS,eK,g1,g2,?_⟩
  have kW:P.fieldsOf id=cn:=by simp [Program.fieldsOf,hu]
  show(Op.equalIn (d+1) id (.agg us1.toArray) (.agg vs1.toArray)).run P w=_
  rw [run_equalIn_struct w d id us1.toArray vs1.toArray (by rw [kW];exact hu) hc.1,kW]
  have:=g3 [] []
  simpa using this
theorem ay.yY:∀(aj:ay) (cn:List Field) (off d:Nat) {cs ds:List a8} {r:Bool×List a8×List a8} {us vs:List Value} (pre t':List Value),aj.okF P cn off→aj.Cv P cn=true→aj.deep≤d→aj.cmp cs ds=some r →
  bK w Z s ι cs us→bK w Z s ι ds vs→pre.length=off→t'.length=off→∃us1 us2 vs1 vs2,us=us1++us2∧vs=vs1++vs2∧us1.length=aj.size∧vs1.length=aj.size∧bK w Z s ι r.2.1 us2∧bK w Z s ι r.2.2 vs2 ∧
   ∀dx yZ:List Value,(Op.eqFields d (pre++us1++dx).toArray (t'++vs1++yZ).toArray cn).run P w=.ok r.1 w
 | .nil,cn,off,d,cs,ds,r,us,vs,pre,t',ho,hc,ag,h,h1,h2,au,kx=>by
  simp only [ay.okF] at ho
  subst ho
  obtain rfl:=aT h
  exact⟨[],us,[],vs,rfl,rfl,rfl,rfl,h1,h2,fun _ _=>by simp only [Op.eqFields];exact run_pure _ _⟩
 | .cons t aj,cn,off,d,cs,ds,r,us,vs,pre,t',ho,hc,ag,h,h1,h2,au,kx=>by
  simp only [ay.okF] at ho
  obtain ⟨f,lI,rfl,fx,my,j3⟩:=ho
  simp only [ay.Cv,Bool.and_eq_true,decide_eq_true_eq] at hc
  simp only [ay.deep] at ag
  simp only [ay.cmp] at h
  obtain ⟨bD,k1,h⟩:=bg h
  obtain ⟨cg,k2,h⟩:=bg h
  obtain rfl:=aT h
  obtain ⟨a1,a2,jn,rC,rfl,rfl,dS,eK,g1,g2,g3⟩:=ad.yY t f.type d my hc.1.2 (by omega) k1 h1 h2
  obtain ⟨a3,a4,rI,Bt,rfl,rfl,oo,pg,g4,g5,g6⟩:=ay.yY aj lI (off+t.size) d (pre++a1) (t'++jn) j3 hc.2 (by omega) k2 g1 g2 (by simp;omega) (by simp;omega)
  refine⟨a1++a3,a4,jn++rI,Bt,by simp,by simp,by simp [ay.size];omega,by simp [ay.size];omega,g4,g5,fun dx yZ=>?_⟩
  have ek:=HV (P:=P) (w:=w) my (cs:=pre++(a1++a3)++dx) (k:=off) (by simp;omega)
  have fp:=HV (P:=P) (w:=w) my (cs:=t'++(jn++rI)++yZ) (k:=off) (by simp;omega)
  have c8:((pre++(a1++a3)++dx).drop off).take t.size=a1:=by
   rw [← au,← dS];simp
  have eJ:((t'++(jn++rI)++yZ).drop off).take t.size=jn:=by
   rw [← kx,← eK];simp
  rw [c8] at ek
  rw [eJ] at fp
  simp only [Op.eqFields]
  rw [if_pos hc.1.1,run_bind,fx,ek]
  simp only
  rw [run_bind,fp]
  simp only
  rw [run_bind,g3]
  simp only
  cases hr:bD.1
  ·simp only [Bool.not_false,if_true,Bool.false_and];exact run_pure _ _
  ·simp only [Bool.not_true,Bool.false_eq_true,if_false,Bool.true_and]
   have:=g6 dx yZ
   simpa using this
end
def tb(P:Program):List (Nat×ad)→List Nat→Bool
 | _,[]=>true
 | tab,k :: l=>(match P.underlying k with | some (.struct _)=>true | _=>false) && !P.eqGuardType P.depth k&&(tab.all fun x => !Nat.beq x.1 k||x.2.rY P k&&Nat.ble x.2.deep 10000)&&tb P tab l
theorem Ra{tab:List (Nat×ad)}{k:Nat} : ∀ {l:List Nat},tb P tab l=true→k∈l→(∃cn,P.underlying k=some (.struct cn))∧P.eqGuardType P.depth k=false∧∀T,(k,T)∈tab→T.rY P k=true∧T.deep≤10000
 | x :: l,h,hm=>by
  simp only [tb,Bool.and_eq_true,Bool.not_eq_true'] at h
  rcases List.mem_cons.1 hm with rfl | hm
  ·refine⟨?_,h.1.1.2,fun T bZ=>?_⟩
   ·have h1:=h.1.1.1
    split at h1
    ·rename_i cn hk;exact⟨cn,hk⟩
    ·cases h1
   ·have h2:=List.all_eq_true.1 h.1.2 _ bZ
    rw [Nat.beq_refl] at h2
    simp only [Bool.not_true,Bool.false_or,Bool.and_eq_true] at h2
    exact⟨h2.1,Nat.le_of_ble_eq_true h2.2⟩
  ·exact Ra h.2 hm
theorem aa9{T:ad}{k:Nat}(ho:T.ok P k)(hu:∃cn,P.underlying k=some (.struct cn))(aB:P.eqGuardType P.depth k=false)(hc:T.rY P k=true)(ag:T.deep≤10000)(op:BinOp)(xo yo:Operand)(w:World)(Z:ah)(s:an)(ι : Nat→bG)
  (cs ds:List a8) (us vs:List Value) (q:Bool) (h1:bK w Z s ι cs us) (h2:bK w Z s ι ds vs) (h:T.cmp cs ds=some (q,[],[])) :
  (eqGuard op k xo yo (.agg us.toArray) (.agg vs.toArray)).run P w=.ok () w∧(op=.eql→(binOp op k (.agg us.toArray) (.agg vs.toArray)).run P w=.ok (.bool q) w) ∧
   (op=.neq→(binOp op k (.agg us.toArray) (.agg vs.toArray)).run P w=.ok (.bool (!q)) w):=by
 obtain ⟨us1,us2,vs1,vs2,rfl,rfl,dS,eK,g1,g2,g3⟩:=ad.yY T k 10000 ho hc ag h h1 h2
 have fU:us2=[]:=by cases us2 with | nil=>rfl | cons=>exact g1.elim
 have mb:vs2=[]:=by cases vs2 with | nil=>rfl | cons=>exact g2.elim
 subst fU mb
 have bZ:∃aj,T=.st aj:=by
  obtain ⟨cn,hu⟩:=hu
  cases T with
  | st aj=>exact⟨aj,rfl⟩
  | int=>simp only [ad.ok] at ho;rw [hu] at ho;cases ho.1
  | bool=>simp only [ad.ok] at ho;rw [hu] at ho;cases ho.1
  | str=>simp only [ad.ok] at ho;rw [hu] at ho;cases ho.1
  | sl t=>simp only [ad.ok] at ho;obtain ⟨_,e,he,_⟩:=ho;rw [hu] at he;cases he
  | raw=>simp only [ad.ok] at ho;obtain ⟨_,e,he⟩:=ho;rw [hu] at he;cases he
 obtain ⟨aj,rfl⟩:=bZ
 simp only [List.append_nil]
 have heq:(Op.equal k (.agg us1.toArray) (.agg vs1.toArray)).run P w=.ok q w:=g3
 refine⟨?_,?_,?_⟩
 ·unfold eqGuard
  cases op <;> try rfl
  all_goals
   have aa_:∀w:World,(program:Sem Program).run P w=.ok P w:=fun _=>rfl
   simp only [Bool.not_true,Bool.false_eq_true,if_false,run_bind,aa_,aB,Bool.not_false,if_true]
   rfl
 ·rintro rfl
  show(do pure (.bool (← Op.equal k _ _)):Sem Value).run P w=_
  rw [run_bind,heq];rfl
 ·rintro rfl
  show(do pure (.bool (!(← Op.equal k _ _))):Sem Value).run P w=_
  rw [run_bind,heq];rfl
end
end Go.LM
namespace Go.LM
def zeroV:Value→Value→Bool
 | .int k x,.int k' y=>Nat.beq (dq k) (dq k')&&decide (x=y)
 | .bool a,.bool b=>a==b
 | .string a,.string b=>decide (a.data.toList=b.data.toList)
 | .slice none 0 0,.slice none 0 0=>true
 | _,_=>false
theorem Rb{u v:Value}(h:zeroV u v=true):u=v:=by
 unfold zeroV at h
 split at h
 ·simp only [Bool.and_eq_true,decide_eq_true_eq] at h
  rw [tf (Nat.eq_of_beq_eq_true h.1),h.2]
 ·rw [eq_of_beq h]
 ·rename_i a b
  have h:=of_decide_eq_true h
  obtain ⟨⟨a⟩⟩:=a
  obtain ⟨⟨b⟩⟩:=b
  simp only at h
  rw [h]
 ·rfl
 ·cases h
def Cw:List Value→List Value→Bool
 | [],[]=>true
 | u :: us,v :: vs=>cond (zeroV u v) (Cw us vs) false
 | _,_=>false
theorem Rc:∀ {us vs:List Value},Cw us vs=true→us=vs
 | [],[],_=>rfl
 | u :: us,v :: vs,h=>by
  unfold Cw at h
  cases h1:zeroV u v
  ·rw [h1] at h;cases h
  ·rw [h1] at h;rw [Rb h1,Rc h]
 | [],_ :: _,h=>by cases h
 | _ :: _,[],h=>by cases h
def Jq(t:ad)(v:Value):Bool :=
 match t,v with
 | .st aj,.agg cs=>Cw cs.toList aj.cO
 | .st _,_=>false
 | .sl _,v=>zeroV v (.slice none 0 0)
 | t,v=>zeroV v (t.cO.headD undef)
theorem aa'{t:ad}{v:Value}(h:Jq t v=true):v=dH t t.cO:=by
 cases t with
 | st aj =>
  cases v <;> simp only [Jq] at h <;> try (cases h;done)
  rename_i cs
  show Value.agg cs=.agg aj.cO.toArray
  rw [← Rc h]
 | _=>exact Rb h
def rZ(P:Program)(id:TypeId)(t:ad):Bool :=
 match P.info? id with
 | some i=>Nat.beq i.size t.size&&(match i.zero with | some v=>Jq t v | none=>false)&&Nat.ble i.bytes 2048
 | none=>false
theorem wU{P:Program}{id:TypeId}{t:ad}(h:rZ P id t=true):lH P id t:=by
 unfold rZ at h
 cases hi:P.info? id with
 | none=>rw [hi] at h;cases h
 | some i =>
  rw [hi] at h
  simp only [Bool.and_eq_true] at h
  refine⟨i,hi,Nat.eq_of_beq_eq_true h.1.1,?_,Nat.le_of_ble_eq_true h.2⟩
  have h2:=h.1.2
  cases hz:i.zero with
  | none=>rw [hz] at h2;cases h2
  | some v=>rw [hz] at h2;rw [aa' h2]
mutual
def ad.okB(P:Program):ad→TypeId→Bool
 | .int k,id=>(match P.underlying id with | some (.int k')=>Nat.beq (dq k') (dq k) | _=>false)&&rZ P id (.int k)
 | .bool,id=>(match P.underlying id with | some .bool=>true | _=>false)&&rZ P id .bool
 | .str,id=>(match P.underlying id with | some .string=>true | _=>false)&&rZ P id .str
 | .raw,id=>rZ P id .raw&&match P.underlying id with | some (.slice _)=>true | _=>false
 | .sl t,id=>rZ P id (.sl t)&&match P.underlying id with | some (.slice e)=>t.okB P e | _=>false
 | .st aj,id=>rZ P id (.st aj)&&match P.underlying id with | some (.struct cn)=>aj.wV P cn.toList 0 | _=>false
def ay.wV(P:Program):ay→List Field→Nat→Bool
 | .nil,cn,_=>cn.isEmpty
 | .cons t aj,cn,off=>match cn with
  | f :: lI=>Nat.beq f.offset off&&t.okB P f.type&&aj.wV P lI (off+t.size)
  | []=>false
end
mutual
theorem ad.Cx{P:Program} : ∀(t:ad) (id:TypeId),t.okB P id=true→t.ok P id
 | .int k,id,h=>by
  simp only [ad.okB,Bool.and_eq_true] at h
  refine⟨?_,wU h.2⟩
  have h1:=h.1
  split at h1
  ·rename_i k' hk;rw [hk,tf (Nat.eq_of_beq_eq_true h1)]
  ·cases h1
 | .bool,id,h=>by
  simp only [ad.okB,Bool.and_eq_true] at h
  refine⟨?_,wU h.2⟩
  have h1:=h.1
  split at h1
  ·rename_i hk;exact hk
  ·cases h1
 | .str,id,h=>by
  simp only [ad.okB,Bool.and_eq_true] at h
  refine⟨?_,wU h.2⟩
  have h1:=h.1
  split at h1
  ·rename_i hk;exact hk
  ·cases h1
 | .raw,id,h=>by
  simp only [ad.okB,Bool.and_eq_true] at h
  refine⟨wU h.1,?_⟩
  have h1:=h.2
  split at h1
  ·rename_i e hk;exact⟨e,hk⟩
  ·cases h1
 | .sl t,id,h=>by
  simp only [ad.okB,Bool.and_eq_true] at h
  refine⟨wU h.1,?_⟩
  have h1:=h.2
  split at h1
  ·rename_i e hk;exact⟨e,hk,ad.Cx t e h1⟩
  ·cases h1
 | .st aj,id,h=>by
  simp only [ad.okB,Bool.and_eq_true] at h
  refine⟨wU h.1,?_⟩
  have h1:=h.2
  split at h1
  ·rename_i cn hk;exact⟨cn,hk,ay.Rd aj _ _ h1⟩
  ·cases h1
theorem ay.Rd{P:Program} : ∀(aj:ay) (cn:List Field) (off:Nat),aj.wV P cn off=true→aj.okF P cn off
 | .nil,cn,off,h=>by
  simp only [ay.wV,List.isEmpty_iff] at h
  exact h
 | .cons t aj,cn,off,h=>by
  cases cn with
  | nil=>simp [ay.wV] at h
  | cons f cn =>
   simp only [ay.wV,Bool.and_eq_true] at h
   exact⟨f,cn,rfl,Nat.eq_of_beq_eq_true h.1.1,ad.Cx t _ h.1.2,ay.Rd aj _ _ h.2⟩
end
def wW:List (Nat×ad)→Nat→Option ad
 | [],_=>none
 | (k,t) :: l,i=>cond (Nat.beq k i) (some t) (wW l i)
def s'(P:Program):List (Nat×ad)→Bool
 | []=>true
 | (k,t) :: l=>t.okB P k&&s' P l
theorem Jr{P:Program}{i:Nat}{T:ad} : ∀ {l:List (Nat×ad)},s' P l=true→wW l i=some T→T.ok P i
 | (k,t) :: l,h,hl=>by
  simp only [s',Bool.and_eq_true] at h
  unfold wW at hl
  cases hb:Nat.beq k i
  ·rw [hb] at hl;exact Jr h.2 hl
  ·rw [hb] at hl
   obtain rfl:=aT hl
   obtain rfl:=Nat.eq_of_beq_eq_true hb
   exact ad.Cx _ _ h.1
def ua:List Nat→Nat→Bool
 | [],_=>false
 | k :: l,i=>cond (Nat.beq k i) true (ua l i)
def ta(P:Program):List Nat→Bool
 | []=>true
 | k :: l=>(match P.underlying k with | some (.pointer _)=>true | _=>false)&&ta P l
theorem Re{P:Program}{i:Nat} : ∀ {l:List Nat},ta P l=true→ua l i=true→∃e,P.underlying i=some (.pointer e)
 | k :: l,h,hl=>by
  simp only [ta,Bool.and_eq_true] at h
  unfold ua at hl
  cases hb:Nat.beq k i
  ·rw [hb] at hl;exact Re h.2 hl
  ·obtain rfl:=Nat.eq_of_beq_eq_true hb
   have h1:=h.1
   split at h1
   ·rename_i e hk;exact⟨e,hk⟩
   ·cases h1
def Cy:List (Nat×Entry)→Nat→Nat→Option Entry
 | [],_,_=>none
 | (k,e) :: l,f,key=>cond (Nat.blt f 1000000&&Nat.beq k (f+1000000*key)) (some e) (Cy l f key)
def qx(P:Program):List (Nat×Entry)→Prop
 | []=>True
 | (k,e) :: l=>hW P (k % 1000000) (k / 1000000) e∧qx P l
theorem Rf{P:Program}{f key:Nat}{e:Entry} : ∀ {l:List (Nat×Entry)},qx P l→Cy l f key=some e→hW P f key e
 | (k,gQ) :: l,h,hl=>by
  unfold Cy at hl
  cases hb:(Nat.blt f 1000000&&Nat.beq k (f+1000000*key))
  ·rw [hb] at hl;exact Rf h.2 hl
  ·rw [hb] at hl
   obtain rfl:=aT hl
   simp only [Bool.and_eq_true] at hb
   have h1:=hb.1
   rw [Nat.blt_eq] at h1
   obtain rfl:=Nat.eq_of_beq_eq_true hb.2
   have h2:=h.1
   rw [show(f+1000000*key) % 1000000=f by omega,show(f+1000000*key) / 1000000=key by omega] at h2
   exact h2
def Rg(n:Nat)(tab:List (Nat×ad))(l8 eqs:List Nat)(fns:List (Nat×Entry)):Env:=⟨n,wW tab,ua eqs,ua l8,Cy fns⟩
theorem Rh{i:Nat} : ∀ {l:List Nat},ua l i=true→i∈l
 | k :: l,h=>by
  unfold ua at h
  cases hb:Nat.beq k i
  ·rw [hb] at h;exact List.mem_cons_of_mem _ (Rh h)
  ·rw [Nat.eq_of_beq_eq_true hb];exact List.mem_cons_self
theorem Ri{i:Nat}{T:ad} : ∀ {l:List (Nat×ad)},wW l i=some T→(i,T)∈l
 | (k,t) :: l,hl=>by
  unfold wW at hl
  cases hb:Nat.beq k i
  ·rw [hb] at hl;exact List.mem_cons_of_mem _ (Ri hl)
  ·rw [hb] at hl
   obtain rfl:=aT hl
   rw [Nat.eq_of_beq_eq_true hb]
   exact List.mem_cons_self
theorem Rj{P:Program}{n:Nat}{tab:List (Nat×ad)}{l8 eqs:List Nat}{fns:List (Nat×Entry)}(ht:s' P tab=true)(au:ta P l8=true)(he:tb P tab eqs=true)(hf:qx P fns)(hm:P.follows .mixedOrders=true):jL P (Rg n tab l8 eqs fns):=by
 refine⟨⟨fun id T h=>Jr ht h,fun id h=>Re au h⟩,fun id T h bZ=>?_,fun f key e h=>Rf hf h,hm⟩
 obtain ⟨h1,h2,h3⟩:=Ra he (Rh h)
 obtain ⟨h4,a7⟩:=h3 T (Ri bZ)
 exact aa9 (Jr ht bZ) h1 h2 h4 a7
@[irreducible] def aP:Nat:=18446744073709551616
end Go.LM
namespace Go.LM
open Go.ChangeShapes Go.WideShapes Go.ChangeAt Go.RowKit
open Go.ChangeMaps (open_string shut_string)
mutual
def ad.jP:(t:ad)→t.D→Prop
 | .int k,x=>(Lit.int k x).wf=true
 | .bool,_=>True
 | .str,x=>x.length≤maxLen
 | .raw,_=>True
 | .sl t,xs=>xs.length≤maxLen∧∀y,y∈xs→t.jP y
 | .st aj,x=>aj.jP x
def ay.jP:(aj:ay)→aj.D→Prop
 | .nil,_=>True
 | .cons t aj,x=>t.jP x.1∧aj.jP x.2
end
mutual
def ad.nC:ad→Bool
 | .sl t=>Nat.blt 0 t.size&&t.nC
 | .raw=>false
 | .st aj=>aj.nC
 | _=>true
def ay.nC:ay→Bool
 | .nil=>true
 | .cons t aj=>t.nC&&aj.nC
end
def qy:(ps:List bC)→(bC.ins ps).D→Prop
 | [],_=>True
 | .fn _ _ :: l,x=>qy l x
 | .val t _ :: l,x=>t.jP x.1∧qy l x.2
 | .hD t :: l,x=>t.jP x.1∧qy l x.2
 | .hC t _ :: l,x=>t.jP x.1∧qy l x.2
 | .ref t :: l,x=>t.jP x.1∧qy l x.2
 | .mut t _ _ :: l,x=>t.jP x.1∧qy l x.2
def Js:(rs:List cX)→(aj:ay)→(cX.outs rs aj).D→Prop
 | [.val .bool .R],_,r=>r.1=true
 | _,_,_=>False
section
variable{H:Type}{enc:TypeId×Value→H}{P:Program}{w W W':World}{base:Nat}{spare:Nat→Bool}{held:Bool}{fuel:Nat}
def Old(w:World):ah:=fun b _=>b<w.heap.size
theorem aba{a:Addr}{v:Value}(h:w.cell? a=some v):a.block<w.heap.size:=by
 rcases Nat.lt_or_ge a.block w.heap.size with h1 | h1
 ·exact h1
 ·simp [World.cell?,Array.getElem?_eq_none h1] at h
theorem Jt{t:ad}{id:TypeId}(h:t.ok P id):P.cellsOf id=t.size:=by
 obtain ⟨i,h1,h2,_⟩:=h.info
 unfold Program.cellsOf
 rw [h1]
 exact h2
theorem Rk{a:Addr}{k:Nat}{cs:List Value}(h:w.cells? base a k=some cs):cs.length=k∧∀i v,cs[i]?=some v→w.cell? (a.add i)=some v:=by
 unfold World.cells? at h
 split at h
 ·have hl:cs.length=k:=by
   have:=List.Rl h
   simpa using this
  refine⟨hl,fun i v hv=>?_⟩
  have hi:i<k:=by
   rw [← hl]
   exact(List.getElem?_eq_some_iff.1 hv).1
  have:=Rm h i (by simpa using hi)
  rw [hv] at this
  simpa using this.symm
 ·cases h
where
 List.Rl {α β : Type} {f : α → Option β} : ∀ {l:List α} {r:List β},l.mapM f=some r→r.length=l.length
  | [],r,h=>by simp at h;subst h;rfl
  | x :: l,r,h=>by
   rw [List.mapM_cons] at h
   simp only [Option.bind_eq_bind,Option.bind_eq_some_iff] at h
   obtain ⟨y,h1,ys,h2,h3⟩:=h
   simp only [Option.pure_def,Option.some.injEq] at h3
   subst h3
   simp [List.Rl h2]
 Rm {α β : Type} {f : α → Option β} : ∀ {l:List α} {r:List β},l.mapM f=some r→∀i (hi:i<l.length),r[i]?=f l[i]
  | [],r,h,i,hi=>by simp at hi
  | x :: l,r,h,i,hi=>by
   rw [List.mapM_cons] at h
   simp only [Option.bind_eq_bind,Option.bind_eq_some_iff] at h
   obtain ⟨y,h1,ys,h2,h3⟩:=h
   simp only [Option.pure_def,Option.some.injEq] at h3
   subst h3
   cases i with
   | zero=>simp [h1]
   | succ i=>simpa using Rm h2 i (by simpa using hi)
mutual
theorem ad.read:∀(t:ad) (id:TypeId) (fuel:Nat) (cs:List Value) (x:DataW H×List MemPlace),t.ok P id→t.nC=true→DataW.trod enc P w base spare held fuel id cs=some x →
  ∃y:t.D,t.al w (Old w) .R y cs ah.none∧t.jP y
 | .int k,id,fuel,cs,x,ho,au,h=>by
  obtain ⟨n,rfl,_,hw⟩:=DataW.trod_int (by simp only [ad.ok] at ho;exact ho.1) h
  exact⟨n,by simp only [ad.al],hw⟩
 | .bool,id,fuel,cs,x,ho,au,h=>by
  obtain ⟨n,rfl,_⟩:=DataW.trod_bool (by simp only [ad.ok] at ho;exact ho.1) h
  exact⟨n,by simp only [ad.al],trivial⟩
 | .str,id,fuel,cs,x,ho,au,h=>by
  obtain ⟨s,rfl,_,hs⟩:=DataW.trod_string (by simp only [ad.ok] at ho;exact ho.1) h
  exact⟨s.data.toList,by simp only [ad.al];exact⟨s,rfl,rfl⟩,by simp only [ad.jP,Array.length_toList];exact hs⟩
 | .raw,id,fuel,cs,x,ho,au,h=>by simp [ad.nC] at au
 | .sl t,id,fuel,cs,x,ho,au,h=>by
  simp only [ad.ok] at ho
  obtain ⟨_,e,hu,Rn⟩:=ho
  simp only [ad.nC,Bool.and_eq_true] at au
  have eZ:0<t.size:=Nat.le_of_ble_eq_true au.1
  rcases DataW.trod_slice hu h with⟨rfl,_⟩ | ⟨a,len,cap,elems,rest,m,_,rfl,_,_,hl,hm,hlen,Ro,_,_⟩
  ·exact⟨[],by simp only [ad.al];exact⟨none,0,rfl,.inl trivial⟩,by simp [ad.jP,maxLen]⟩
  ·have hsz:P.cellsOf e=t.size:=Jt Rn
   rw [hsz] at Ro
   have Rp:∀i,i<len→∃cs' d,w.cells? base (a.add (i*t.size)) t.size=some cs'∧DataW.trod enc P w base spare held m e cs'=some d:=by
    intro i hi
    have h1:=Ro i hi
    have h2:∃d,elems[i]?=some d:=⟨_,List.getElem?_eq_getElem (by omega)⟩
    obtain ⟨d,h2⟩:=h2
    rw [h2] at h1
    obtain ⟨cs',h3,h4⟩:=bg h1
    exact⟨cs',d,h3,h4⟩
   have abb:=fun(cs':List Value) (d:DataW H×List MemPlace)=>ad.read t e m cs' d Rn au.2
   have Ju:0<len→a.spot=none∧a.block<w.heap.size:=by
    intro hn
    obtain ⟨cs',d,h1,h2⟩:=Rp 0 hn
    obtain ⟨c1,gC⟩:=Rk h1
    have pw:=gC 0 cs'[0] (List.getElem?_eq_getElem (by omega))
    simp only [Nat.zero_mul,Addr.add,if_true] at pw
    exact⟨World.cell?_spot pw,aba pw⟩
   have hrow:∀(n k:Nat),k+n≤len→∃xs:List t.D,xs.length=n∧Row w (fun y us _=>t.al w (Old w) .R y us ah.none) t.size xs a.block (a.off+k*t.size) ah.none∧(∀y,y∈xs→t.jP y):=by
    intro n
    induction n with
    | zero=>intro k _;exact⟨[],rfl,trivial,by simp⟩
    | succ n ih =>
     intro k hk
     obtain ⟨cs',d,h1,h2⟩:=Rp k (by omega)
     obtain ⟨y,h3,h4⟩:=abb cs' d h2
     obtain ⟨xs,g1,g3,g4⟩:=ih (k+1) (by omega)
     obtain ⟨c1,gC⟩:=Rk h1
     obtain ⟨hsp,aly⟩:=Ju (by omega)
     obtain ⟨ab,ao,asp⟩:=a
     simp only at hsp
     subst hsp
     refine⟨y :: xs,by simp [g1],⟨cs',ah.none,ah.none,h3,c1,?_,?_,fun _ _ h=>h.elim,fun _ _ h=>h,fun _ _ h=>h⟩,?_⟩
     ·intro i v hv
      have:=gC i v hv
      rw [show(⟨ab,ao,none⟩:Addr)=at_ ab ao from rfl,qd,qd] at this
      exact this
     ·have e1:ao+k*t.size+t.size=ao +(k+1)*t.size:=by rw [Nat.add_mul];omega
      simp only
      rw [e1];exact g3
     ·intro z hz
      rcases List.mem_cons.1 hz with rfl | hz
      ·exact h4
      ·exact g4 z hz
   obtain ⟨xs,g1,g3,g4⟩:=hrow len 0 (by omega)
   refine⟨xs,?_,?_⟩
   ·simp only [ad.al]
    refine⟨some a,cap,by rw [g1],?_⟩
    by_cases hx:xs=[]
    ·exact .inl hx
    ·have hn:0<len:=by
      rw [← g1]
      cases xs with
      | nil=>exact absurd rfl hx
      | cons=>simp
     exact .inr ⟨a,rfl,(Ju hn).1,by simpa using g3,fun j hj=>(Ju hn).2,by rw [g1];exact hl⟩
   ·simp only [ad.jP]
    exact⟨by rw [g1];omega,g4⟩
 | .st aj,id,fuel,cs,x,ho,au,h=>by
  have hsz:=Jt ho
  simp only [ad.ok] at ho
  obtain ⟨_,cn,hu,Jp⟩:=ho
  obtain ⟨xs,n,_,_,hl,hxl,hf⟩:=DataW.trod_struct hu h
  have hlen:cs.length=(ad.st aj).size:=by rw [hl,hsz]
  have:=ay.read aj cn.toList 0 n cs Jp (by simpa only [ad.nC] using au) (by simpa only [ad.size,Nat.zero_add] using hlen) (fun i f kC=>by
   have hi:i<xs.length:=by
    rw [hxl]
    have:=(List.getElem?_eq_some_iff.1 kC).1
    simpa using this
   exact⟨xs[i],by rw [hf i f (by rw [← Array.getElem?_toList];exact kC),List.getElem?_eq_getElem hi]⟩)
  obtain ⟨y,h1,h2⟩:=this
  rw [List.drop_zero] at h1
  exact⟨y,by simp only [ad.al];exact h1,by simp only [ad.jP];exact h2⟩
theorem ay.read:∀(aj:ay) (cn:List Field) (off:Nat) (fuel:Nat) (cs:List Value),aj.okF P cn off→aj.nC=true→cs.length=off+aj.size →
  (∀(i:Nat) (f:Field),cn[i]?=some f→∃x,DataW.trod enc P w base spare held fuel f.type ((cs.drop f.offset).take (P.cellsOf f.type))=some x)→∃y:aj.D,aj.al w (Old w) .nil y (cs.drop off) ah.none∧aj.jP y
 | .nil,cn,off,fuel,cs,ho,au,hl,hf=>by
  simp only [ay.size,Nat.add_zero] at hl
  exact⟨(),by simp only [ay.al];rw [List.drop_of_length_le (by omega)],by simp only [ay.jP]⟩
 | .cons t aj,cn,off,fuel,cs,ho,au,hl,hf=>by
  simp only [ay.okF] at ho
  obtain ⟨f,lI,rfl,h1,h2,h3⟩:=ho
  simp only [ay.nC,Bool.and_eq_true] at au
  simp only [ay.size] at hl
  obtain ⟨x,hx⟩:=hf 0 f rfl
  rw [h1,Jt h2] at hx
  obtain ⟨y,g1,g2⟩:=ad.read t f.type fuel _ x h2 au.1 hx
  obtain ⟨ys,g3,g4⟩:=ay.read aj lI (off+t.size) fuel cs h3 au.2 (by omega) fun i na kC=>hf (i+1) na (by simpa using kC)
  refine⟨(y,ys),?_,⟨g2,g4⟩⟩
  simp only [ay.al]
  refine⟨_,_,ah.none,ah.none,?_,g1,g3,fun _ _ h=>h.elim,fun _ _ h=>h,fun _ _ h=>h⟩
  rw [← List.drop_drop,List.take_append_drop]
end
theorem abc{t:ad}{id:TypeId}{r:Reach}{v:Value}(ho:t.ok P id)(hv:Value.okWide P w r base id v):v=dH t v.cells.toList:=by
 cases t with
 | int k=>obtain ⟨n,rfl⟩:=okWide_int (by simp only [ad.ok] at ho;exact ho.1) hv;rfl
 | bool=>obtain ⟨n,rfl⟩:=okWide_bool (by simp only [ad.ok] at ho;exact ho.1) hv;rfl
 | str=>obtain ⟨n,rfl⟩:=okWide_string (by simp only [ad.ok] at ho;exact ho.1) hv;rfl
 | sl t =>
  simp only [ad.ok] at ho
  obtain ⟨_,e,hu,_⟩:=ho
  obtain ⟨a,l,c,rfl⟩:=okWide_slice hu hv
  rfl
 | raw =>
  simp only [ad.ok] at ho
  obtain ⟨_,e,hu⟩:=ho
  obtain ⟨a,l,c,rfl⟩:=okWide_slice hu hv
  rfl
 | st aj =>
  simp only [ad.ok] at ho
  obtain ⟨_,cn,hu,_⟩:=ho
  simp only [Value.okWide,hu] at hv
  obtain ⟨cs,rfl,_⟩:=hv
  simp [dH,Value.cells]
def y0:List (Nat×ad)→List bC
 | []=>[]
 | a :: l=>.val a.2 .R :: y0 l
def ub(P:Program):List (Nat×ad)→Bool
 | []=>true
 | a :: l=>a.2.okB P a.1&&a.2.nC&&P.readableRec a.1&&Nat.blt a.1 P.types.size&&ub P l
theorem Rq{r:Reach}{cQ:Nat} : ∀(as:List (Nat×ad)) (vs:List Value) (ds:List (DataW H)) (p:List MemPlace),ub P as=true →
  DataW.TrodAll enc P w 0 (fun _=>true) true (as.map (·.1)) vs ds p→(∀(j:Nat) t v,(as.map (·.1))[j]?=some t→vs[j]?=some v→Value.okWide P w r cQ t v) →
  ∃x:(bC.ins (y0 as)).D,gw w (Old w) 0 (y0 as) x vs ah.none∧qy (y0 as) x∧f' vs=[]
 | [],vs,ds,p,ho,h,hv=>by
  obtain ⟨rfl,_,_⟩:=trodAll_nil h
  exact⟨(),rfl,trivial,rfl⟩
 | a :: as,vs,ds,p,ho,h,hv=>by
  simp only [ub,Bool.and_eq_true] at ho
  obtain ⟨v,bI,d,Jv,p',Jw,rfl,rfl,rfl,h1,h2⟩:=trodAll_cons (by simpa using h)
  obtain ⟨x,g1,g2,g3⟩:=Rq as bI Jv Jw ho.2 h2 fun j t u hj hu=>hv (j+1) t u (by simpa using hj) (by simpa using hu)
  have ca:=ad.Cx _ _ ho.1.1.1.1
  obtain ⟨fuel,hf⟩:=h1
  obtain ⟨y,k1,k2⟩:=ad.read a.2 a.1 fuel _ _ ca ho.1.1.1.2 hf
  have hw:=abc ca (hv 0 a.1 v rfl rfl)
  refine⟨(y,x),⟨v.cells.toList,bI,ah.none,ah.none,by rw [← hw],k1,g1,fun _ _ h=>h.elim,fun _ _ h=>h,fun _ _ h=>h⟩,⟨k2,g2⟩,?_⟩
  rw [hw,Cs k1]
  exact g3
theorem abd{w w':World}(h:Ext w w' ah.none):Below w.heap.size w w':=by
 refine⟨h.os,h.tape,h.output,h.size,fun b hb=>?_⟩
 rcases h.block b hb with h1 | ⟨c,c',e,f,h1,h2,h3,h4⟩
 ·exact h1
 ·rw [h1,h2]
  have:c'=c:=by
   apply Array.ext h3
   intro i hi c_
   have:=h4 i (fun h=>h.elim)
   rw [Array.getElem?_eq_getElem hi,Array.getElem?_eq_getElem c_] at this
   exact aT this
  rw [this]
theorem Rr(hl:laidOutB P=true):∀(as:List (Nat×ad)) (vs:List Value) (ds:List (DataW H)) (p:List MemPlace),ub P as=true →
  DataW.TrodAll enc P W 0 (fun _=>true) true (as.map (·.1)) vs ds p→Below W.heap.size W W'→DataW.TrodAll enc P W' 0 (fun b=>decide (b<W.heap.size)) true (as.map (·.1)) vs ds p
 | [],vs,ds,p,ho,h,hb=>by
  obtain ⟨rfl,rfl,rfl⟩:=trodAll_nil h
  exact trodAll_mk0
 | a :: as,vs,ds,p,ho,h,hb=>by
  simp only [ub,Bool.and_eq_true] at ho
  obtain ⟨v,bI,d,Jv,p',Jw,rfl,rfl,rfl,h1,h2⟩:=trodAll_cons (by simpa using h)
  have cz:∀x∈p',x.block<W.heap.size:=by obtain ⟨m,hm⟩:=h1;exact DataW.trod_lt m _ _ _ hm
  exact trodAll_cons_mk (Below.trod hl ho.1.1.2 (Nat.le_of_ble_eq_true ho.1.2) h1 hb cz) (Rr hl as bI Jv Jw ho.2 h2 hb)
theorem abe{f:Nat}{fn:Func}{e:Entry}{prs:List (Nat×ad)}{r:Reach}{cQ:Nat}{args:Array Value}{ds:List (DataW H)}{p:List MemPlace}(dQ:Sound P f 0 e)(Ct:e.ps=y0 prs)
  (Jx:fn.params.toList=prs.map (·.1)) (ca:ub P prs=true) (abf:laidOutB P=true) (hc:∀x:(bC.ins e.ps).D,qy e.ps x→∃y,e.f x=some y∧Js e.rs (bC.dZ e.ps) y)
  (tJ:∀(j:Nat) t v,fn.params[j]?=some t→args[j]?=some v→Value.okWide P W r cQ t v)
  (hA:DataW.TrodAll enc P W 0 (fun _=>true) true fn.params.toList args.toList ds p) :
  Calls P f args W fun end_ W'=>end_=.returned (.bool true)∧Below W.heap.size W W'∧DataW.TrodAll enc P W' 0 (fun b=>decide (b<W.heap.size)) true fn.params.toList args.toList ds p:=by
 obtain ⟨ps,rs,c⟩:=e
 simp only at Ct
 subst Ct
 rw [Jx] at hA
 obtain ⟨x,h1,h2,h3⟩:=Rq prs args.toList ds p ca hA fun j t v hj hv=>tJ j t v (by rw [← Array.getElem?_toList,Jx];exact hj) (by rw [← Array.getElem?_toList];exact hv)
 obtain ⟨y,aN,ht⟩:=hc x h2
 have wE:=dQ.calls W (Old W) ah.none x args.toList y (fun _ _ h=>h) (fun _ _ h=>h.elim) (fun _ _ h=>h.elim) (by rw [h3,List.append_nil];exact h1) aN
 have lM:args.toList.toArray=args:=by simp
 rw [lM] at wE
 refine Calls.mono wE ?_
 rintro end_ w' ⟨v,rfl,Cu⟩
 obtain ⟨dr,Z',F',rfl,hx,_,_,_,_,hK⟩:=Cu.out
 have hb:=abd hx
 refine⟨?_,hb,by rw [Jx];exact Rr abf prs _ _ _ ca hA hb⟩
 have hfin:∀(rs:List cX) (aj:ay) (ps:List bC) (us:List Value) (abg:aj=bC.dZ ps) (y:(cX.outs rs (bC.dZ ps)).D),Js rs (bC.dZ ps) y→∀F',ic w' Z' ps us rs y dr F'→ow dr=.bool true:=by
  intro rs aj ps us abg y ht F' hK
  match rs,y,ht,hK with
  | [.val .bool .R],y,ht,hK =>
   obtain ⟨vs,eb,G,fV,rfl,k1,k2,_⟩:=hK
   obtain ⟨rfl,_⟩:=k2
   simp only [ad.al] at k1
   subst k1
   have ht:y.1=true:=ht
   rw [ht]
   rfl
 exact congrArg _ (hfin rs _ _ _ rfl y ht _ hK)
end
end Go.LM
namespace Go.LM
theorem te{x:Int}(h : -9223372036854775808≤x)(h':x≤9223372036854775807):aG x=x:=by
 show(if(true&&decide (x % 18446744073709551616≥9223372036854775808))=true then x % 18446744073709551616-18446744073709551616 else x % 18446744073709551616)=x
 by_cases hc:x % 18446744073709551616≥9223372036854775808
 ·rw [if_pos (by simp [hc])];omega
 ·rw [if_neg (by simp [hc])];omega
theorem bx{n i:Nat}(h:i<n):aM n (i:Int)=some i:=by
 unfold aM
 rw [if_pos ⟨by omega,by omega⟩]
 simp
theorem vK{t:ad}{xs:List t.D}{i:Nat}(h:i<xs.length):J t xs i=xs[i]:=by
 unfold J
 rw [List.getD_eq_getElem?_getD,List.getElem?_eq_getElem h]
 rfl
theorem abh{n:Nat}(h:n≤68719476736):room n=true:=Nat.ble_eq_true_of_le h
theorem kr{n lo hi:Nat}(h:lo≤hi)(h':hi≤n):d_ n (lo:Int) (hi:Int)=some (lo,hi):=by
 unfold d_
 rw [if_pos ⟨by omega,by omega,by omega⟩]
 simp
theorem uc{α : Type}(a:Option α):both a a=a:=by unfold both;rw [if_pos rfl]
theorem k7{α : Type}(a:Option α):dup a=a:=uc a
theorem Cz(s:List UInt8):bn s s=true:=by simp [bn]
end Go.LM
namespace Go.LM
structure kq(P:Program) where
 tab:List (Nat×ad)
 l8:List Nat
 eqs:List Nat
 ht:s' P tab=true
 au:ta P l8=true
 he:tb P tab eqs=true
 hm:P.follows .mixedOrders=true
noncomputable def lY(fn:Func):Code:=match fn.body with
 | some c=>c
 | none=>.skip
noncomputable def r0(fn:Func)(ps:List bC):Bool :=
 fn.body.isSome && !(fn.name == "runtime.NumGoroutine")&&Cr ps&&Nat.ble ps.length fn.ntmps&&Ji (lY fn)
def nD:List (Nat×bY)→Nat→Option bY
 | [],_=>none
 | (k,t) :: l,r=>cond (Nat.beq r k) (some t) (nD l r)
section
variable{P:Program}
def kq.env(B:kq P)(fn:Func)(fns:List (Nat×Entry)):Env:=Rg fn.ntmps B.tab B.l8 B.eqs fns
noncomputable def kq.start(B:kq P)(fn:Func)(fns:List (Nat×Entry))(T:List (Nat×bY))(e:Entry)(k:Nat→an→Option (cX.outs e.rs (bC.dZ e.ps)).D)(x:(bC.ins e.ps).D):Option (cX.outs e.rs (bC.dZ e.ps)).D :=
 wS (B.env fn fns) fn (lY fn) (nD T) 0 e k x
noncomputable def kq.Rs(B:kq P)(key:Nat)(fn:Func)(fns:List (Nat×Entry))(T:List (Nat×bY))(e:Entry)(k:Nat→an→Option (cX.outs e.rs (bC.dZ e.ps)).D)(x:(bC.ins e.ps).D):Option (cX.outs e.rs (bC.dZ e.ps)).D :=
 wS (B.env fn fns) fn (lY fn) (nD T) key e k x
noncomputable def kq.step(B:kq P)(fn:Func)(fns:List (Nat×Entry))(T:List (Nat×bY))(e:Entry)(k:Nat→an→Option (cX.outs e.rs (bC.dZ e.ps)).D):Nat→an→Option (cX.outs e.rs (bC.dZ e.ps)).D :=
 Jm (B.env fn fns) (nD T) (lY fn) (pF (B.env fn fns) fn e) k
theorem Rt(B:kq P){f:Nat}{fn:Func}{e:Entry}{fns:List (Nat×Entry)}(hs:qx P fns)(hf:P.funcs[f]?=some fn)(hc:r0 fn e.ps=true)(T:List (Nat×bY))
  (hF:∀x r,e.f x=some r→∃m,wS (B.env fn fns) fn (lY fn) (nD T) 0 e (oG (B.env fn fns) (nD T) (lY fn) (pF (B.env fn fns) fn e) m) x=some r):Sound P f 0 e:=by
 unfold r0 at hc
 simp only [Bool.and_eq_true,Bool.not_eq_true'] at hc
 obtain ⟨⟨⟨⟨h1,h2⟩,h3⟩,h4⟩,a7⟩:=hc
 refine Q9 (Rj (n:=fn.ntmps) (fns:=fns) B.ht B.au B.he hs B.hm) hf ?_ h2 (Nat.beq_refl _) h3 h4 a7 hF
 unfold lY
 cases hb:fn.body with
 | none=>rw [hb] at h1;cases h1
 | some c=>rfl
theorem cL(B:kq P){f:Nat}{fn:Func}{e:Entry}{fns:List (Nat×Entry)}(hs:qx P fns)(hf:P.funcs[f]?=some fn)(hc:r0 fn e.ps=true)
  (h:∀x,B.start fn fns [] e (fun _ _=>none) x=e.f x):Sound P f 0 e :=
 Rt B hs hf hc [] fun x r hx=>⟨0,by
  rw [show oG (B.env fn fns) (nD []) (lY fn) (pF (B.env fn fns) fn e) 0=fun _ _=>none from rfl]
  exact(h x).trans hx⟩
def eN{K:Type}(s:K→K)(z:K):Nat→K
 | 0=>z
 | m+1=>s (eN s z m)
theorem cA(B:kq P){f:Nat}{fn:Func}{e:Entry}{fns:List (Nat×Entry)}(hs:qx P fns)(hf:P.funcs[f]?=some fn)(hc:r0 fn e.ps=true)(T:List (Nat×bY)){K:Type}
  (of:(Nat→an→Option (cX.outs e.rs (bC.dZ e.ps)).D)→K) (step:K→K) (L:Nat→K) (g:K→(bC.ins e.ps).D→Option (cX.outs e.rs (bC.dZ e.ps)).D)
  (h0:L 0=of fun _ _=>none) (CA:∀m,L (m+1)=step (L m)) (he:∀x,e.f x=g (L aP) x)
  (aB:∀k x,B.start fn fns T e k x=g (of k) x)
  (hst:∀k,of (B.step fn fns T e k)=step (of k)):Sound P f 0 e :=
 Rt B hs hf hc T fun x r hx=>⟨aP,by
  have hl:∀m,of (oG (B.env fn fns) (nD T) (lY fn) (pF (B.env fn fns) fn e) m)=L m:=by
   intro m
   induction m with
   | zero=>exact h0.symm
   | succ m ih=>rw [CA,← ih];exact hst _
  rw [he,← hl aP] at hx
  exact(aB _ x).trans hx⟩
theorem Ru(B:kq P)(key:Nat){f:Nat}{fn:Func}{e:Entry}{fns:List (Nat×Entry)}(hs:qx P fns)(hf:P.funcs[f]?=some fn)(hc:r0 fn e.ps=true)(T:List (Nat×bY))
  (hF:∀x r,e.f x=some r→∃m,wS (B.env fn fns) fn (lY fn) (nD T) key e (oG (B.env fn fns) (nD T) (lY fn) (pF (B.env fn fns) fn e) m) x=some r):Sound P f key e:=by
 unfold r0 at hc
 simp only [Bool.and_eq_true,Bool.not_eq_true'] at hc
 obtain ⟨⟨⟨⟨h1,h2⟩,h3⟩,h4⟩,a7⟩:=hc
 refine Q9 (Rj (n:=fn.ntmps) (fns:=fns) B.ht B.au B.he hs B.hm) hf ?_ h2 (Nat.beq_refl _) h3 h4 a7 hF
 unfold lY
 cases hb:fn.body with
 | none=>rw [hb] at h1;cases h1
 | some c=>rfl
theorem Rv(B:kq P)(key:Nat){f:Nat}{fn:Func}{e:Entry}{fns:List (Nat×Entry)}(hs:qx P fns)(hf:P.funcs[f]?=some fn)(hc:r0 fn e.ps=true)
  (h:∀x,B.Rs key fn fns [] e (fun _ _=>none) x=e.f x):Sound P f key e :=
 Ru B key hs hf hc [] fun x r hx=>⟨0,by
  rw [show oG (B.env fn fns) (nD []) (lY fn) (pF (B.env fn fns) fn e) 0=fun _ _=>none from rfl]
  exact(h x).trans hx⟩
theorem vJ(B:kq P)(key:Nat){f:Nat}{fn:Func}{e:Entry}{fns:List (Nat×Entry)}(hs:qx P fns)(hf:P.funcs[f]?=some fn)(hc:r0 fn e.ps=true)(T:List (Nat×bY)){K:Type}
  (of:(Nat→an→Option (cX.outs e.rs (bC.dZ e.ps)).D)→K) (step:K→K) (L:Nat→K) (g:K→(bC.ins e.ps).D→Option (cX.outs e.rs (bC.dZ e.ps)).D)
  (h0:L 0=of fun _ _=>none) (CA:∀m,L (m+1)=step (L m)) (he:∀x,e.f x=g (L aP) x)
  (aB:∀k x,B.Rs key fn fns T e k x=g (of k) x)
  (hst:∀k,of (B.step fn fns T e k)=step (of k)):Sound P f key e :=
 Ru B key hs hf hc T fun x r hx=>⟨aP,by
  have hl:∀m,of (oG (B.env fn fns) (nD T) (lY fn) (pF (B.env fn fns) fn e) m)=L m:=by
   intro m
   induction m with
   | zero=>exact h0.symm
   | succ m ih=>rw [CA,← ih];exact hst _
  rw [he,← hl aP] at hx
  exact(aB _ x).trans hx⟩
end
@[reducible] def tc(t:ad):bC:=.val t t.own
@[reducible] def aW(t:ad):bC:=.val t .R
@[reducible] def CB(t:ad):bC:=.hD t
@[reducible] def ga(t:ad):bC:=.ref t
@[reducible] def abi(t:ad):bC:=.mut t t.own t.own
@[reducible] def ro(t:ad):cX:=.val t t.own
@[reducible] def bm(t:ad):cX:=.val t .R
def Rw:List (Nat×a6)→Nat→a6
 | []=>fun _=>.aD
 | (d,v) :: l=>bU (Rw l) d v
def Rx:List (Nat×cm)→Nat→cm
 | []=>fun _=>.none
 | (d,v) :: l=>bU (Rx l) d v
def bj(t:List (Nat×a6))(o:List (Nat×cm))(g:List a6):an:=⟨Rw t,Rx o,g⟩
def aZ(x:Int):a6:=.aV (.int .i64 x)
def jM(x:Bool):a6:=.aV (.bool x)
def e9(x:List UInt8):a6:=.aV (.str x)
def hY(t:ad)(x:List t.D):a6:=.aV (.b1 t [] none x)
def ax(c:Nat):a6:=.ptr ⟨c,none,0⟩
def pG(dp:List Nat):List (Nat×Nat):=dp.map fun c=>(c,0)
mutual
def ad.ud:(t:ad)→a'→List Nat→t.D→Nat→List a8×List (Nat×cm)×Nat
 | .int k,_,_,x,j=>([.int k x],[],j)
 | .bool,_,_,x,j=>([.bool x],[],j)
 | .str,_,_,x,j=>([.str x],[],j)
 | .raw,_,_,x,j=>([.raw x],[],j)
 | .sl t,.O e,_,x,j=>([.ag j none],[(j,.row t e 0 x)],j+1)
 | .sl t,_,dp,x,j=>([.b1 t (pG dp) none x],[],j)
 | .st aj,m,dp,x,j=>aj.ud m.parts dp x j
def ay.ud:(aj:ay)→cU→List Nat→aj.D→Nat→List a8×List (Nat×cm)×Nat
 | .nil,_,_,_,j=>([],[],j)
 | .cons t aj,m,dp,x,j=>let r:=t.ud m.ag dp x.1 j;let q:=aj.ud m.dx dp x.2 r.2.2;(r.1++q.1,r.2.1++q.2.1,q.2.2)
end
mutual
def ad.ue:(t:ad)→a'→List Nat→Nat→List k6×List (Nat×iE)×Nat
 | .sl t,.O e,_,j=>([.ag j],[(j,.row t e)],j+1)
 | .sl t,_,dp,j=>([.b1 t dp],[],j)
 | .st aj,m,dp,j=>aj.ue m.parts dp j
 | _,_,_,j=>([.keep],[],j)
def ay.ue:(aj:ay)→cU→List Nat→Nat→List k6×List (Nat×iE)×Nat
 | .nil,_,_,j=>([],[],j)
 | .cons t aj,m,dp,j=>let r:=t.ue m.ag dp j;let q:=aj.ue m.dx dp r.2.2;(r.1++q.1,r.2.1++q.2.1,q.2.2)
end
def aC(c:Nat)(t:ad)(m:a')(dp:List Nat)(x:t.D):List (Nat×cm):=let r:=t.ud m dp x (c+1);(c,.var 0 r.1) :: r.2.1
def aA(c:Nat)(t:ad)(m:a')(dp:List Nat):List (Nat×iE):=let r:=t.ue m dp (c+1);(c,.var r.1) :: r.2.1
def aV(t:ad)(m:a')(dp:List Nat)(x:t.D)(j:Nat):List a8:=(t.ud m dp x j).1
def r1(t:ad)(m:a')(dp:List Nat)(j:Nat):List k6:=(t.ue m dp j).1
def Jy(t:ad)(m:a')(x:t.D)(j:Nat):List (Nat×cm):=(t.ud m [] x j).2.1
def Jz(t:ad)(m:a')(j:Nat):List (Nat×iE):=(t.ue m [] j).2.1
@[reducible] def aO:kB:=.cell .keep
end Go.LM
namespace Go.LM
theorem Ry{P:Program}{f key:Nat}{e:Entry}(hf:∀x,e.f x=none):hW P f key e :=
 ⟨fun w Z F x us r _ _ _ _ hx=>by rw [hf x] at hx;cases hx⟩
theorem abj{w:World}{Z F:ah}{e:Entry}{us:List Value}{k:IntKind}{x:Int}(oC:e.rs=[.val (.int k) .R])(hm:bC.dZ e.ps=.nil)(hZ:∀b o,Z b o→b<w.heap.size)(hF:∀b o,F b o→b<w.heap.size)(hap:ah.apart F Z)
  (r:(cX.outs e.rs (bC.dZ e.ps)).D) (hr:∀G,ic w Z e.ps (us++f' us) e.rs r [.int k x] G):Ends w Z F e us r (.int k x) w :=
 ⟨[.int k x],Z,ah.none,rfl,Ext.refl _ _,fun _ _ h=>h,fun _ _ h=>.inl h,fun _ _ h=>h.elim,fun _ _ h=>h.elim,hr _⟩
def CC(g:List UInt8→UInt8→Int):Entry:=⟨[aW .str,aW (.int .u8)],[bm (.int .i64)],fun x=>some (g x.1 x.2.1.toNat.toUInt8,())⟩
theorem Rz{P:Program}{f:FuncId}{fn:Func}{x:Array Value→Sem Value}(g:List UInt8→UInt8→Int)(hf:P.funcs[f]?=some fn)(jb:(fn.name == "runtime.NumGoroutine")=false)
  (hb:fn.body.isNone=true) (hn:Extern.findNext fn=none) (he:Extern.find fn=some x)
  (hx:∀(s:ByteArray) (c:Int) (w:World),(x #[.string s,.int .u8 c]).run P w=.ok (.int .i64 (g s.data.toList c.toNat.toUInt8)) w):hW P f 0 (CC g):=by
 refine⟨fun w Z F y us r hZ hF hap hA aN=>?_⟩
 obtain rfl:=aT aN
 obtain ⟨vs1,us1,G1,H1,e1,k1,h1,_⟩:=hA
 obtain ⟨vs2,us2,G2,H2,e2,k2,h2,_⟩:=h1
 simp only [ad.al] at k1 k2
 obtain ⟨s,rfl,hs⟩:=k1
 subst k2
 have h2:us2=[]:=h2
 subst h2
 subst e2
 have hus:us=[.string s,.int .u8 y.2.1]:=by
  cases us with
  | nil=>cases e1
  | cons u us =>
   cases us with
   | nil =>
    simp only [List.cons_append,List.nil_append] at e1
    injection e1 with e3 fX
    subst e3
    cases fX
   | cons ib us =>
    simp only [List.cons_append] at e1
    injection e1 with e3 fX
    injection fX with fX tv
    subst e3 fX
    have:us=[]:=(List.append_eq_nil_iff.1 tv).1
    subst this
    rfl
 subst hus
 refine .inr ⟨.int .i64 (g s.data.toList y.2.1.toNat.toUInt8),w,?_,.int .i64 (g s.data.toList y.2.1.toNat.toUInt8),rfl,?_⟩
 ·rw [run_callFunc_extern hf jb hb hn he]
  have:=hx s y.2.1 w
  rw [show(([Value.string s,Value.int IntKind.u8 y.2.1]:List Value).toArray) = #[.string s,.int .u8 y.2.1] from rfl,this]
  rfl
 ·rw [hs]
  refine abj (e:=CC g) rfl rfl hZ hF hap _ fun G=>?_
  refine⟨[_],[],ah.none,ah.none,rfl,?_,?_,fun _ _ h=>h.elim,fun _ _ h=>h.elim,fun _ _ h=>h.elim⟩
  ·simp only [ad.al]
  ·exact⟨rfl,_,_,rfl,_,_,rfl,trivial⟩
theorem abk{P:Program}{f:FuncId}{fn:Func}(hf:P.funcs[f]?=some fn)(jb:(fn.name == "runtime.NumGoroutine")=false)
  (hb:fn.body.isNone=true) (hn:Extern.findNext fn=none) (he:Extern.find fn=some Extern.BytealgIndexByte.indexByte):hW P f 0 (CC Lib.indexByte) :=
 Rz _ hf jb hb hn he fun s c w=>Lib.run_indexByteString s c w
theorem abl{P:Program}{f:FuncId}{fn:Func}(hf:P.funcs[f]?=some fn)(jb:(fn.name == "runtime.NumGoroutine")=false)
  (hb:fn.body.isNone=true) (hn:Extern.findNext fn=none) (he:Extern.find fn=some Extern.BytealgCount.count):hW P f 0 (CC fun l c=>(Lib.countByte l c:Int)) :=
 Rz _ hf jb hb hn he fun s c w=>Lib.run_countString s c w
end Go.LM
namespace Go.LM
mutual
def ad.rw:ad→ad
 | .sl _=>.raw
 | .st aj=>.st aj.rw
 | .int k=>.int k
 | .bool=>.bool
 | .str=>.str
 | .raw=>.raw
def ay.rw:ay→ay
 | .nil=>.nil
 | .cons t aj=>.cons t.rw aj.rw
end
mutual
def ad.rel:(T T':ad)→T.D→T'.D→Prop
 | .int _,.int _,x,y=>x=y
 | .bool,.bool,x,y=>x=y
 | .str,.str,x,y=>x=y
 | .sl _,.raw,_,_=>True
 | .raw,.raw,x,y=>x=y
 | .st aj,.st JA,x,y=>aj.rel JA x y
 | _,_,_,_=>False
def ay.rel:(T T':ay)→T.D→T'.D→Prop
 | .nil,.nil,_,_=>True
 | .cons t aj,.cons di JA,x,y=>t.rel di x.1 y.1∧aj.rel JA x.2 y.2
 | _,_,_,_=>False
end
mutual
theorem ad.oH:∀t:ad,t.rw.size=t.size
 | .int _=>rfl
 | .bool=>rfl
 | .str=>rfl
 | .sl _=>rfl
 | .raw=>rfl
 | .st aj=>by simp only [ad.rw,ad.size];exact ay.oH aj
theorem ay.oH:∀t:ay,t.rw.size=t.size
 | .nil=>rfl
 | .cons t aj=>by simp only [ay.rw,ay.size,ad.oH t,ay.oH aj]
end
mutual
theorem ad.y1{w:World}{Z:ah} : ∀(T:ad) (m:a') {x:T.D} {vs:List Value} {F:ah},T.al w Z m x vs F→∃y:T.rw.D,(∀(w':World) (Z':ah) (m':a') (F':ah),T.rw.al w' Z' m' y vs F')∧T.rel T.rw x y
 | .int _,_,x,_,_,h=>by simp only [ad.al] at h;subst h;exact⟨x,fun _ _ _ _=>by simp only [ad.rw,ad.al],by simp only [ad.rw,ad.rel]⟩
 | .bool,_,x,_,_,h=>by simp only [ad.al] at h;subst h;exact⟨x,fun _ _ _ _=>by simp only [ad.rw,ad.al],by simp only [ad.rw,ad.rel]⟩
 | .str,_,x,_,_,h=>by simp only [ad.al] at h;exact⟨x,fun _ _ _ _=>by simp only [ad.rw,ad.al];exact h,by simp only [ad.rw,ad.rel]⟩
 | .raw,_,x,_,_,h=>by simp only [ad.al] at h;exact⟨x,fun _ _ _ _=>by simp only [ad.rw,ad.al];exact h,by simp only [ad.rw,ad.rel]⟩
 | .sl t,m,x,vs,F,h=>by
  have:∃A n c,vs=[.slice A n c]:=by
   cases m <;>(simp only [ad.al] at h;obtain ⟨A,c,hv,_⟩:=h;exact⟨A,_,c,hv⟩)
  obtain ⟨A,n,c,rfl⟩:=this
  exact⟨(.slice A n c:Value),fun _ _ _ _=>by simp only [ad.rw,ad.al];exact⟨trivial,A,n,c,rfl⟩,by simp only [ad.rw,ad.rel]⟩
 | .st aj,m,x,vs,F,h=>by
  simp only [ad.al] at h
  obtain ⟨y,h1,h2⟩:=ay.y1 aj m.parts h
  exact⟨y,fun w' Z' m' F'=>by simp only [ad.rw,ad.al];exact h1 w' Z' m'.parts F',by simp only [ad.rw,ad.rel];exact h2⟩
theorem ay.y1{w:World}{Z:ah} : ∀(T:ay) (m:cU) {x:T.D} {vs:List Value} {F:ah},T.al w Z m x vs F→∃y:T.rw.D,(∀(w':World) (Z':ah) (m':cU) (F':ah),T.rw.al w' Z' m' y vs F')∧T.rel T.rw x y
 | .nil,_,_,_,_,h=>by simp only [ay.al] at h;exact⟨(),fun _ _ _ _=>by simp only [ay.rw,ay.al];exact h,by simp only [ay.rw,ay.rel]⟩
 | .cons t aj,m,x,vs,F,h=>by
  simp only [ay.al] at h
  obtain ⟨us,bI,G,H,rfl,h1,h2,_⟩:=h
  obtain ⟨y,k1,k2⟩:=ad.y1 t m.ag h1
  obtain ⟨z,dS,eK⟩:=ay.y1 aj m.dx h2
  exact⟨(y,z),fun w' Z' m' F'=>by simp only [ay.rw,ay.al];exact⟨us,bI,ah.none,ah.none,rfl,k1 w' Z' m'.ag _,dS w' Z' m'.dx _,fun _ _ h=>h.elim,fun _ _ h=>h.elim,fun _ _ h=>h.elim⟩,by simp only [ay.rw,ay.rel];exact⟨k2,eK⟩⟩
end
mutual
theorem ad.y2{w w':World}{Z Z':ah} : ∀(T:ad) {m m':a'} {y:T.rw.D} {vs:List Value} {F F':ah},T.rw.al w Z m y vs F→T.rw.al w' Z' m' y vs F'
 | .int _,_,_,_,_,_,_,h=>by simp only [ad.rw,ad.al] at h ⊢;exact h
 | .bool,_,_,_,_,_,_,h=>by simp only [ad.rw,ad.al] at h ⊢;exact h
 | .str,_,_,_,_,_,_,h=>by simp only [ad.rw,ad.al] at h ⊢;exact h
 | .sl _,_,_,_,_,_,_,h=>by simp only [ad.rw,ad.al] at h ⊢;exact h
 | .raw,_,_,_,_,_,_,h=>by simp only [ad.rw,ad.al] at h ⊢;exact h
 | .st aj,_,_,_,_,_,_,h=>by simp only [ad.rw,ad.al] at h ⊢;exact ay.y2 aj h
theorem ay.y2{w w':World}{Z Z':ah} : ∀(T:ay) {m m':cU} {y:T.rw.D} {vs:List Value} {F F':ah},T.rw.al w Z m y vs F→T.rw.al w' Z' m' y vs F'
 | .nil,_,_,_,_,_,_,h=>by simp only [ay.rw,ay.al] at h ⊢;exact h
 | .cons t aj,_,_,_,_,_,_,h=>by
  simp only [ay.rw,ay.al] at h ⊢
  obtain ⟨a,b,_,_,rfl,h1,h2,_⟩:=h
  exact⟨a,b,ah.none,ah.none,rfl,ad.y2 t h1,ay.y2 aj h2,fun _ _ h=>h.elim,fun _ _ h=>h.elim,fun _ _ h=>h.elim⟩
end
mutual
theorem ad.y3{w w':World}{Z Z':ah} : ∀(T:ad) {m m':a'} {y:T.rw.D} {us vs:List Value} {F F':ah},T.rw.al w Z m y us F→T.rw.al w' Z' m' y vs F'→us=vs
 | .int _,_,_,_,_,_,_,_,h,k=>by simp only [ad.rw,ad.al] at h k;rw [h,k]
 | .bool,_,_,_,_,_,_,_,h,k=>by simp only [ad.rw,ad.al] at h k;rw [h,k]
 | .str,_,_,_,_,_,_,_,h,k=>by
  simp only [ad.rw,ad.al] at h k
  obtain ⟨s,rfl,hs⟩:=h
  obtain ⟨aq,rfl,RA⟩:=k
  have:s=aq:=by
   cases s;cases aq
   simp only at hs RA
   congr 1
   apply Array.ext'
   rw [hs,RA]
  rw [this]
 | .sl _,_,_,_,_,_,_,_,h,k=>by simp only [ad.rw,ad.al] at h k;rw [h.1,k.1]
 | .raw,_,_,_,_,_,_,_,h,k=>by simp only [ad.rw,ad.al] at h k;rw [h.1,k.1]
 | .st aj,_,_,_,_,_,_,_,h,k=>by simp only [ad.rw,ad.al] at h k;exact ay.y3 aj h k
theorem ay.y3{w w':World}{Z Z':ah} : ∀(T:ay) {m m':cU} {y:T.rw.D} {us vs:List Value} {F F':ah},T.rw.al w Z m y us F→T.rw.al w' Z' m' y vs F'→us=vs
 | .nil,_,_,_,_,_,_,_,h,k=>by simp only [ay.rw,ay.al] at h k;rw [h,k]
 | .cons t aj,_,_,_,_,_,_,_,h,k=>by
  simp only [ay.rw,ay.al] at h k
  obtain ⟨a,b,_,_,rfl,h1,h2,_⟩:=h
  obtain ⟨b_,b',_,_,rfl,k1,k2,_⟩:=k
  rw [ad.y3 t h1 k1,ay.y3 aj h2 k2]
end
def g'(w:World)(Z:ah)(T:ad)(m:a'):List T.D→List T.rw.D→ah→Prop
 | [],[],_=>True
 | x :: xs,y :: ys,G=>∃vs G1 G2,T.al w Z m x vs G1∧T.rw.al w Z .R y vs ah.none∧T.rel T.rw x y∧g' w Z T m xs ys G2∧ah.apart G1 G2∧ah.sub G1 G∧ah.sub G2 G
 | _,_,_=>False
section
variable{w w':World}{Z Z':ah}{T:ad}{m:a'}
theorem g'.len:∀ {xs:List T.D} {ys:List T.rw.D} {G:ah},g' w Z T m xs ys G→ys.length=xs.length
 | [],[],_,_=>rfl
 | _ :: _,_ :: _,_,⟨_,_,_,_,_,_,h,_⟩=>by simp [g'.len h]
 | [],_ :: _,_,h=>h.elim
 | _ :: _,[],_,h=>h.elim
theorem g'.mono:∀ {xs:List T.D} {ys:List T.rw.D} {G dm:ah},ah.sub G dm→g' w Z T m xs ys G→g' w Z T m xs ys dm
 | [],[],_,_,_,_=>trivial
 | _ :: _,_ :: _,_,_,hs,⟨vs,G1,G2,h1,h2,h3,h4,a7,bh,bH⟩=>⟨vs,G1,G2,h1,h2,h3,h4,a7,fun b o h=>hs b o (bh b o h),fun b o h=>hs b o (bH b o h)⟩
 | [],_ :: _,_,_,_,h=>h.elim
 | _ :: _,[],_,_,_,h=>h.elim
theorem g'.RB:∀ {xs:List T.D} {b o:Nat} {G:ah},Row w (T.al w Z m) T.size xs b o G→∃ys,g' w Z T m xs ys G∧∀(Z':ah),Row w (T.rw.al w Z' .R) T.rw.size ys b o ah.none
 | [],_,_,_,_=>⟨[],trivial,fun _=>trivial⟩
 | x :: xs,b,o,G,⟨vs,G1,G2,h1,h2,h3,h4,a7,bh,bH⟩=>by
  obtain ⟨ys,k1,k2⟩:=g'.RB h4
  obtain ⟨y,dS,eK⟩:=ad.y1 T m h1
  refine⟨y :: ys,⟨vs,G1,G2,h1,dS _ _ _ _,eK,k1,a7,bh,bH⟩,fun Z'=>⟨vs,ah.none,ah.none,dS _ _ _ _,by rw [h2,ad.oH],h3,?_,fun _ _ h=>h.elim,fun _ _ h=>h.elim,fun _ _ h=>h.elim⟩⟩
  have:=k2 Z'
  rw [ad.oH] at this ⊢
  exact this
theorem g'.filter{p:T.D→Bool}{p':T.rw.D→Bool}(au:∀x y,T.rel T.rw x y→p x=p' y):∀ {xs:List T.D} {ys:List T.rw.D} {G:ah},g' w Z T m xs ys G→g' w Z T m (xs.filter p) (ys.filter p') G
 | [],[],_,_=>trivial
 | x :: xs,y :: ys,G,⟨vs,G1,G2,h1,h2,h3,h4,a7,bh,bH⟩=>by
  have ih:=g'.filter au h4
  rw [List.filter_cons,List.filter_cons,au x y h3]
  cases p' y
  ·exact ih.mono bH
  ·exact⟨vs,G1,G2,h1,h2,h3,ih,a7,bh,bH⟩
 | [],_ :: _,_,h=>h.elim
 | _ :: _,[],_,h=>h.elim
theorem g'.same:∀ {xs:List T.D} {ys:List T.rw.D} {G:ah},b9 w w' G→g' w Z T T.own xs ys G→g' w' Z' T T.own xs ys G
 | [],[],_,_,_=>trivial
 | x :: xs,y :: ys,G,hs,⟨vs,G1,G2,h1,h2,h3,h4,a7,bh,bH⟩=>by
  exact⟨vs,G1,G2,qo T (hs.mono bh) h1,ad.y2 T h2,h3,g'.same (hs.mono bH) h4,a7,bh,bH⟩
 | [],_ :: _,_,_,h=>h.elim
 | _ :: _,[],_,_,h=>h.elim
theorem g'.row:∀ {xs:List T.D} {ys:List T.rw.D} {G:ah} {b o:Nat} {H:ah},g' w Z T m xs ys G→Row w (T.rw.al w Z' .R) T.rw.size ys b o H→Row w (T.al w Z m) T.size xs b o G
 | [],[],_,_,_,_,_,_=>trivial
 | x :: xs,y :: ys,G,b,o,H,⟨vs,G1,G2,h1,h2,h3,h4,a7,bh,bH⟩,⟨us,H1,H2,k1,k2,k3,ba,_⟩=>by
  have:us=vs:=ad.y3 T k1 h2
  subst this
  rw [ad.oH] at k2 ba
  exact⟨us,G1,G2,h1,k2,k3,g'.row h4 (by rw [ad.oH];exact ba),a7,bh,bH⟩
 | [],_ :: _,_,_,_,_,h,_=>h.elim
 | _ :: _,[],_,_,_,_,h,_=>h.elim
theorem abm{P:Program}{f:FuncId}{key:FuncId}{T':ad}{p:T.D→Int→Bool}{p':T'.D→Int→Bool}(bZ:T.rw=T')(Ce:∀x y i,T.rel T' x y→p x i=p' y i)
  {fq:(bC.ins [.val (.sl T') (.O .R),.fn 0 1,.ref (.int .i64)]).D→Option (cX.outs [.val (.sl T') (.O .R)] (bC.dZ [.val (.sl T') (.O .R),.fn 0 1,.ref (.int .i64)])).D}
  (dQ:hW P f key ⟨[.val (.sl T') (.O .R),.fn 0 1,.ref (.int .i64)],[.val (.sl T') (.O .R)],fq⟩)
  (hf:∀(ys:List T'.D) (i:Int),room ys.length=true→fq (ys,i,())=some (ys.filter (fun y=>p' y i),())) :
  hW P f key ⟨[.val (.sl T) (.O T.own),.fn 0 1,.ref (.int .i64)],[.val (.sl T) (.O T.own)],fun x=>cond (room x.1.length) (some (x.1.filter (fun y=>p y x.2.1),())) none⟩:=by
 subst bZ
 refine⟨fun w Z F x us r hZ hF hFZ hA hr=>?_⟩
 obtain ⟨xs,i,u⟩:=x
 simp only at hr
 cases hroom:room xs.length
 ·rw [hroom] at hr;cases hr
 rw [hroom] at hr
 simp only [cond_true] at hr
 have hr:=aT hr
 obtain ⟨vs,aU,G,H,e1,cN,fb,CD,hGF,y4⟩:=hA
 simp only [ad.al] at cN
 obtain ⟨A,c,rfl,cN⟩:=cN
 obtain ⟨ys,G1,wX,dU,abn,y5,wY,JB⟩:∃(ys:List T.rw.D) (G1 wX:ah),g' w Z T T.own xs ys G1∧(ad.sl T.rw).al w Z (.O .R) ys [.slice A xs.length c] wX∧ah.sub G1 G∧ah.sub wX G∧ah.apart G1 wX:=by
  rcases cN with⟨rfl,rfl⟩ | ⟨a,rfl,hr⟩
  ·exact⟨[],ah.none,ah.none,trivial,by simp only [ad.al];exact⟨A,0,rfl,.inl (by simp)⟩,fun _ _ h=>h.elim,fun _ _ h=>h.elim,fun _ _ h=>h.elim⟩
  ·obtain ⟨G1,g1,g2,g3⟩:=hr.row
   obtain ⟨ys,k1,k2⟩:=g'.RB g1
   refine⟨ys,G1,ah.run a.block a.off (c*T.size),k1,?_,g3,?_,?_⟩
   ·simp only [ad.al]
    refine⟨some a,c,by rw [k1.len],.inr ⟨a,rfl,hr.spot,by rw [k1.len];exact hr.cap,?_,?_,ah.none,?_,fun _ _ h=>h,fun _ _ h=>h.elim⟩⟩
    ·rw [ad.oH];exact hr.wr
    ·rw [ad.oH];exact fun j hj=>⟨rfl,by omega,by omega⟩
    ·exact k2 Z
   ·rintro b o ⟨rfl,h1,h2⟩
    have:=hr.inF (o-a.off) (by omega)
    rwa [show a.off +(o-a.off)=o by omega] at this
   ·rintro b o aB ⟨rfl,h1,h2⟩
    have:=g2 (o-a.off) (by omega)
    rw [show a.off +(o-a.off)=o by omega] at this
    exact this aB
 have hcall:=dQ.calls w Z (wX.or H) (ys,i,u) us (ys.filter (fun y=>p' y i),()) hZ
  (fun b o h=>h.elim (fun h=>hF b o (hGF b o (wY b o h))) fun h=>hF b o (y4 b o h))
  (fun b o h hz=>h.elim (fun h=>hFZ b o (hGF b o (wY b o h)) hz) fun h=>hFZ b o (y4 b o h) hz)
  ⟨[.slice A xs.length c],aU,wX,H,e1,abn,fb,fun b o h=>CD b o (wY b o h),fun _ _ h=>.inl h,fun _ _ h=>.inr h⟩
  (hf ys i (by rw [dU.len];exact hroom))
 refine hcall.mono ?_
 rintro end_ w' ⟨v,rfl,⟨⟨dr,Z',F',rfl,hx,jr,hz2,hf2,yK,hK⟩⟩⟩
 subst hr
 simp only [ic] at hK
 obtain ⟨vs1,eb,dm,Z_,rfl,wC,⟨rfl,CE⟩,_,RC,_⟩:=hK
 have wZ:∀b o,G1 b o→F b o∧b<w.heap.size:=fun b o h=>⟨hGF b o (y5 b o h),hF b o (hGF b o (y5 b o h))⟩
 have abo:ah.apart G1 F':=by
  intro b o h1 h2
  rcases (hf2 b o h2).1 with(h3 | h3) | h3
  ·exact JB b o h1 h3
  ·exact CD b o (y5 b o h1) h3
  ·have:=(wZ b o h1).2;omega
 have lO:b9 w w' G1:=b9.iW hx (fun b o h=>(wZ b o h).2) (by
  rintro b o h1 (h3 | h3)
  ·exact JB b o h1 h3
  ·exact CD b o (y5 b o h1) h3)
 have CF:g' w' Z' T T.own (xs.filter fun y=>p y i) (ys.filter fun y=>p' y i) G1:=(dU.same lO).filter fun x y h=>Ce x y i h
 have hsz:T.rw.size=T.size:=ad.oH T
 refine⟨_,rfl,⟨⟨_,Z',F'.or G1,rfl,?_,jr,?_,?_,?_,?_⟩⟩⟩
 ·exact hx.mono fun b o hb h=>h.elim (fun h=>hGF b o (wY b o h)) fun h=>y4 b o h
 ·intro b o hz
  rcases hz2 b o hz with h1 | ⟨h1,h2⟩
  ·exact .inl h1
  ·exact .inr ⟨h1.imp (fun h=>h.elim (fun h=>hGF b o (wY b o h)) fun h=>y4 b o h) fun h=>h,h2⟩
 ·rintro b o (h1 | h1)
  ·obtain ⟨h2,h3⟩:=hf2 b o h1
   exact⟨h2.imp (fun h=>h.elim (fun h=>hGF b o (wY b o h)) fun h=>y4 b o h) fun h=>h,h3⟩
  ·exact⟨.inl (wZ b o h1).1,Nat.lt_of_lt_of_le (wZ b o h1).2 hx.size⟩
 ·rintro b o (h1 | h1) hz
  ·exact yK b o h1 hz
  ·rcases hz2 b o hz with h2 | ⟨(h2 | h2) | h2,_⟩
   ·exact hFZ b o (wZ b o h1).1 h2
   ·exact JB b o h1 h2
   ·exact CD b o (y5 b o h1) h2
   ·have:=(wZ b o h1).2;omega
 ·simp only [ic]
  refine⟨vs1,[],F'.or G1,ah.none,rfl,?_,⟨rfl,by simp only [iq] at CE ⊢;exact CE⟩,fun _ _ _ h=>h.elim,fun _ _ h=>h,fun _ _ h=>h.elim⟩
  simp only [ad.al] at wC ⊢
  obtain ⟨pk,c',rfl,wC⟩:=wC
  refine⟨pk,c',by rw [← CF.len],?_⟩
  rcases wC with⟨h1,h2⟩ | ⟨b_,pv,iz⟩
  ·refine .inl ⟨List.eq_nil_of_length_eq_zero ?_,h2⟩
   rw [← CF.len,h1];rfl
  ·obtain ⟨OP,bD,_⟩:=iz.row
   refine .inr ⟨b_,pv,iz.spot,by rw [← CF.len];exact iz.cap,by have:=iz.wr;rwa [hsz] at this,?_,G1,CF.row bD,?_,fun _ _ h=>.inr h⟩
   ·intro j hj
    exact .inl (RC _ _ (iz.inF j (by rw [hsz];exact hj)))
   ·intro j hj aB
    exact abo _ _ aB (RC _ _ (iz.inF j (by rw [hsz];exact hj)))
end
end Go.LM
