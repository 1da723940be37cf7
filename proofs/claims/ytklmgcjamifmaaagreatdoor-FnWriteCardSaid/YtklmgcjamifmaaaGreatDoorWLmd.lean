/- Regions, loops and whole functions are what the interpreter says, and a law's reading fits them. Conditions: each theorem's own hypotheses. -/
import Derived.Test.YtklmgcjamifmaaaGreatDoorWLmc
import Derived.Orders
import Derived.OrdersHeld
import Derived.Laws.StructEq
import Derived.WalkKit
import Derived.ProofKit
import Derived.OpenShut
import Derived.ShutString
import Derived.ChangeOld
import Derived.Below
import Derived.JoinedCond
import Derived.Lib.Bytealg
set_option linter.unusedVariables false
set_option linter.unusedSimpArgs false
namespace Go.LM
section
variable{P:Program}{Q:Exit→Act→World→Prop}
variable{w0:World}{F0 Z0:ah}{n:cC}{s ar:aq}{a b7:Act}{w w':World}{ι bb:Nat→bH}{Z Z':ah}
variable{E:Env}{o:Oper}{bu : Type}{K:aq→Option bu}{r : bu}{id:Nat}
def hB(w0:World)(F0 Z0:ah)(n:cC)(K:aq→Option bu)(r : bu)(a:Act)(w:World):Prop:=∃s,K s=some r∧cX w0 F0 Z0 n s a w
theorem QK(hn:E.n=n)(h:yi E o=true):∀k,o.dst=some k→k<n:=by
 intro k hk
 unfold yi at h
 rw [hk] at h
 rw [← hn]
 exact Nat.le_of_ble_eq_true h
theorem Inv.QL(h:Inv w0 F0 Z0 n s a w ι Z){d:Nat}{b:Bool}(hb:s.t d=.aT (.bool b)):Inv w0 F0 Z0 n (s.set d (.aT (.bool b))) a w ι Z∧a.tmps.getD d undef=.bool b:=by
 have ag:=h.tmps d
 rw [hb] at ag
 have jx:a.tmps.getD d undef=.bool b:=by simpa only [aP,cj] using ag
 refine⟨h.tmp rfl (fun k=>?_) h.size h.defers,jx⟩
 have hm:eI w Z s ι w Z (s.set d (.aT (.bool b))) ι := Hy rfl
 show aP w Z (s.set d (.aT (.bool b))) ι (bU s.t d (.aT (.bool b)) k) (a.tmps.getD k undef)
 by_cases hk:d=k
 ·subst hk;rw [cB,jx];simp only [aP,cj]
 ·rw [cR hk];exact(h.tmps k).move hm
theorem QM(h:Inv w0 F0 Z0 n s a w ι Z)(ag:∀k,o.dst=some k→k<n):cX w0 F0 Z0 n (s.dst o.dst .gone) (a.put o.dst undef) w :=
 ⟨ι,Z,h.dst (by simp only [aP]) ag⟩
theorem QN{ops:Array Oper}(bO:jN P E)(hn:E.n=n)(h:Inv w0 F0 Z0 n s a w ι Z)(hk:tp E id ops.toList o s K=some r) :
  if Region.wanted o (yielded ops a.tmps) then o.wp P a w (hB w0 F0 Z0 n K r) Q else hB w0 F0 Z0 n K r (a.put o.dst undef) w:=by
 unfold tp at hk
 cases tY:yi E o
 ·rw [tY] at hk;cases hk
 rw [tY] at hk
 simp only [cond_true] at hk
 have ag:=QK hn tY
 have iL:∀ {s1:aq},Inv w0 F0 Z0 n s1 a w ι Z→cT E id o s1 K=some r→o.wp P a w (hB w0 F0 Z0 n K r) Q:=by
  intro s1 h1 hk1
  obtain ⟨ar,h2,h3⟩:=ZM (Q:=Q) bO h1 ag hk1
  exact Oper.wp_mono (fun a w hs=>⟨ar,h2,hs⟩) h3
 have bS:∀ {s1:aq},Inv w0 F0 Z0 n s1 a w ι Z→K (s1.dst o.dst .gone)=some r→hB w0 F0 Z0 n K r (a.put o.dst undef) w:=fun h1 hk1=>⟨_,hk1,QM h1 ag⟩
 unfold guardOf at hk
 cases aA:o.guard with
 | none =>
  rw [aA] at hk
  simp only at hk
  rw [if_pos (by simp [Region.wanted,aA])]
  exact iL h hk
 | some I4 =>
  obtain ⟨j,wt⟩:=I4
  rw [aA] at hk
  simp only at hk
  cases hj:(ops.toList[j]?).bind (·.dst) with
  | none=>rw [hj] at hk;simp at hk
  | some d =>
   rw [hj] at hk
   simp only at hk
   cases hst:s.t d with
   | aT c =>
    cases c with
    | bool b =>
     rw [hst] at hk
     simp only at hk
     obtain ⟨h1,h2⟩:=h.QL hst
     have aN:yielded ops a.tmps j=some b:=by
      unfold yielded
      rw [Array.getElem?_toList] at hj
      rw [hj]
      simp only [av]
      have cw:d<a.tmps.size:=by
       rcases Nat.lt_or_ge d a.tmps.size with h | h
       ·exact h
       ·rw [Array.getD_eq_getD_getElem?,Array.getElem?_eq_none h] at h2
        simp [undef] at h2
      rw [Array.getD_eq_getD_getElem?,Array.getElem?_eq_getElem cw] at h2
      rw [Array.getElem?_eq_getElem cw]
      simp only [Option.getD_some] at h2
      rw [h2]
     have hw:Region.wanted o (yielded ops a.tmps)=(b==wt):=by
      simp only [Region.wanted,aA,aN]
      cases b <;> cases wt <;> rfl
     rw [hw]
     cases b <;> cases wt <;> simp only [cond_true,cond_false] at hk
     ·exact iL h1 hk
     ·exact bS h1 hk
     ·exact bS h1 hk
     ·exact iL h1 hk
    | _=>rw [hst] at hk;simp at hk
   | gone =>
    rw [hst] at hk
    simp only at hk
    have h2:=h.tmps d
    rw [hst] at h2
    simp only [aP] at h2
    have aN:yielded ops a.tmps j=none:=by
     unfold yielded
     rw [Array.getElem?_toList] at hj
     rw [hj]
     simp only [av]
     rw [Array.getD_eq_getD_getElem?] at h2
     cases iK:a.tmps[d]? with
     | none=>rfl
     | some v=>rw [iK] at h2;simp only [Option.getD_some] at h2;subst h2;rfl
    have hw:Region.wanted o (yielded ops a.tmps)=false:=by
     simp only [Region.wanted,aA,aN]
     cases wt <;> rfl
    rw [hw]
    exact bS h hk
   | _=>rw [hst] at hk;simp at hk
theorem Ca{ops:Array Oper}{R:Exit→Act→World→Prop}{i m:Nat}(hi:ops[i]?=some o)(aA:o.guard=none)(h:o.wp P a w (fun a w=>wpOps P ops R (List.range' (i+1) m) a w) R):wpOps P ops R (List.range' i (m+1)) a w:=by
 rw [List.range'_succ]
 simp only [wpOps,hi]
 rw [if_pos (by simp [Region.wanted,aA])]
 exact .inl h
theorem I5{bG:Nat}{ops:Array Oper}(bO:jN P E)(hn:E.n=n):∀(m:Nat) (l:List Oper) (i:Nat) (s:aq) (a:Act) (w:World),l.length≤m→ops.toList.drop i=l→tq E bG ops.toList l i 0 s K=some r→cX w0 F0 Z0 n s a w →
  wpOps P ops (fun e a w=>e=.normal∧hB w0 F0 Z0 n K r a w) (List.range' i l.length) a w
 | _,[],i,s,a,w,_,_,hk,hs=>⟨rfl,s,hk,hs⟩
 | 0,_ :: _,_,_,_,_,hm,_,_,_=>by simp at hm
 | m+1,o :: l,i,s,a,w,hm,hl,hk,⟨ι,Z,h⟩=>by
  have hm:l.length≤m:=by simpa using hm
  have Cb:∀(j:Nat) (o:Oper) (l:List Oper),ops.toList.drop j=o :: l→ops[j]?=some o∧ops.toList.drop (j+1)=l:=by
   intro j o l hl
   refine⟨?_,by rw [← List.drop_drop,hl];rfl⟩
   rw [← Array.getElem?_toList]
   have:=congrArg (·[0]?) hl
   simpa using this
  obtain ⟨hi,gk⟩:=Cb i o l hl
  simp only [tq] at hk
  cases bX:OP E s o
  ·rw [bX] at hk
   simp only [cond_false] at hk
   rw [List.length_cons,List.range'_succ]
   have oy:=QN (Q:=fun e a w=>e=.normal∧hB w0 F0 Z0 n K r a w) bO hn h hk
   simp only [wpOps,hi]
   have qB:∀a w,hB w0 F0 Z0 n (fun ar=>tq E bG ops.toList l (i+1) 0 ar K) r a w→wpOps P ops (fun e a w=>e=.normal∧hB w0 F0 Z0 n K r a w) (List.range' (i+1) l.length) a w:=by
    rintro a w ⟨ar,h1,h2⟩
    exact I5 bO hn m l (i+1) ar a w hm gk h1 h2
   split
   ·rename_i hw
    rw [if_pos hw] at oy
    exact .inl (Oper.wp_mono qB oy)
   ·rename_i hw
    rw [if_neg hw] at oy
    exact qB _ _ oy
  ·rw [bX] at hk
   simp only [cond_true] at hk
   obtain ⟨dH,eH,eV,l',rfl,g0,g1,g2,g3,mo⟩:=aad (Q:=fun e a w=>e=.normal∧hB w0 F0 Z0 n K r a w) bO hn h hk
   obtain ⟨gL,hl1⟩:=Cb _ _ _ gk
   obtain ⟨fo,dW⟩:=Cb _ _ _ hl1
   obtain ⟨wo,I6⟩:=Cb _ _ _ dW
   refine Ca hi g0 (Oper.wp_mono (fun a w h=>Ca gL g1 (Oper.wp_mono (fun a w h=>Ca fo g2 (Oper.wp_mono (fun a w h=>Ca wo g3 (Oper.wp_mono (fun a w h=>?_) h)) h)) h)) mo)
   obtain ⟨ar,h1,h2⟩:=h
   exact I5 bO hn m l' (i+1+1+1+1) ar a w (by simp at hm;omega) I6 h1 h2
theorem aao{bG:Nat}{ops:Array Oper}(bO:jN P E)(hn:E.n=n)(l:List Oper)(i:Nat)(s:aq)(a:Act)(w:World)(hl:ops.toList.drop i=l)(hk:Hp E bG ops.toList l i s K=some r)(hs:cX w0 F0 Z0 n s a w) :
  wpOps P ops (fun e a w=>e=.normal∧hB w0 F0 Z0 n K r a w) (List.range' i l.length) a w:=I5 bO hn l.length l i s a w (Nat.le_refl _) hl hk hs
theorem aap{bG:Nat}{ops:Array Oper}(bO:jN P E)(hn:E.n=n)(hk:Hp E bG ops.toList ops.toList 0 s K=some r)(hs:cX w0 F0 Z0 n s a w)(b:Frame)(k:List Item)(cs:List Frame) :
  ∃b7 w',hB w0 F0 Z0 n K r b7 w'∧Steps P (lone (b.at a (.code (.region bG ops false) :: k)) cs w) (lone (b.at b7 k) cs w'):=by
 have h:=aao (w0:=w0) (F0:=F0) (Z0:=Z0) (n:=n) bO hn ops.toList 0 s a w rfl hk hs
 have h':wpOps P ops (fun e a w=>e=.normal∧hB w0 F0 Z0 n K r a w) (List.range ops.size) a w:=by
  rw [List.range_eq_range'];simpa using h
 obtain ⟨e,b7,w',⟨rfl,hl⟩,harr⟩:=wp_ops _ a w h' b k cs
 exact⟨b7,w',hl,.head step_region harr⟩
end
end Go.LM
namespace Go.LM
section
variable{P:Program}{ops:Array Oper}{Q:Exit→Act→World→Prop}
abbrev fL:=List (Nat×(World→Prop))
def fL.after(ops:Array Oper)(j:Nat)(p:fL):fL:=p.filter fun x => !waits ops j x.1
def fL.ok(p:fL)(w:World):Prop:=∀x∈p,x.2 w
def oB(P:Program)(ops:Array Oper)(Q:Exit→Act→World→Prop):Nat→Array Bool→fL→Act→World→Prop
 | 0,listed,_,a,w=>Region.ready .any ops listed=[]∧Q .normal a w
 | fuel+1,listed,iZ,a,w =>
  (Region.ready .any ops listed=[]→Q .normal a w) ∧
  ∀j∈Region.ready .any ops listed,wpOp P ops Q j (fun b7 w'=>(iZ.after ops j).ok w'∧oB P ops Q fuel (listed.setIfInBounds j true) (iZ.after ops j) b7 w') a w
theorem QO:∀(fuel:Nat) (listed:Array Bool) (iZ:fL) (a:Act) (w:World),oB P ops Q fuel listed iZ a w→wpAny P .any ops Q fuel listed a w
 | 0,_,_,_,_,h=>h
 | fuel+1,_,_,_,_,h=>⟨h.1,fun i hi=>wpOp_mono (fun b7 w' h'=>QO fuel _ _ b7 w' h'.2) (h.2 i hi)⟩
theorem fL.QP{p q:fL}(h:∀x∈p,x∈q)(j:Nat):∀x∈p.after ops j,x∈q.after ops j:=by
 intro x hx
 unfold fL.after at *
 rw [List.mem_filter] at *
 exact⟨h x hx.1,hx.2⟩
theorem QQ:∀(fuel:Nat) (listed:Array Bool) (p q:fL) (a:Act) (w:World),(∀x∈p,x∈q)→oB P ops Q fuel listed q a w→oB P ops Q fuel listed p a w
 | 0,_,_,_,_,_,_,h=>h
 | fuel+1,_,p,q,_,_,hs,h=>⟨h.1,fun i hi=>wpOp_mono (fun b7 w' h'=>⟨fun x hx=>h'.1 x (fL.QP hs i x hx),QQ fuel _ _ _ b7 w' (fL.QP hs i) h'.2⟩) (h.2 i hi)⟩
theorem fL.I7{p:fL}{j:Nat}{x:Nat×(World→Prop)}(hx:x∈p.after ops j):x∈p:=(List.mem_filter.1 hx).1
theorem aaq{i:Nat}{mI:Oper}{v:Value}{S:World→Prop}(hi:ops[i]?=some mI)(wR:∀(j:Nat) (o:Oper) cs b,ops[j]?=some o→o.op≠.select cs b)
  (nB:∀c a w,Q (.panic c) (a.put mI.dst v) w→Q (.panic c) a w) :
  ∀(fuel:Nat) (listed:Array Bool) (iZ:fL) (a:Act) (w:World),
   (∀j nC,ops[j]?=some nC→j≠i→listed.getD j true=false→(∀e∈nC.after,Region.binds .any e=true→e.on≠i)→mI.apart ops nC=true) →
   i∈Region.ready .any ops listed→YieldsIf P ops S mI v a→S w→iZ.ok w →
   oB P ops Q fuel (listed.setIfInBounds i true) ((i,S) :: iZ) (a.put mI.dst v) w→oB P ops Q (fuel+1) listed iZ a w:=by
 intro fuel
 induction fuel with
 | zero =>
  intro listed iZ a w _ hr aN dm au H
  refine⟨fun h=>(by rw [h] at hr;cases hr),fun j hj=>?_⟩
  by_cases lU:j=i
  ·subst lU;exact aN.wpOp hi dm ⟨fun x hx=>au x (fL.I7 hx),H⟩
  ·have:=ready_mono hj lU
   rw [H.1] at this
   cases this
 | succ fuel ih =>
  intro listed iZ a w fg hr aN dm au H
  refine⟨fun h=>(by rw [h] at hr;cases hr),fun j hj=>?_⟩
  by_cases lU:j=i
  ·subst lU
   exact aN.wpOp hi dm ⟨fun x hx=>au x (fL.I7 hx),QQ _ _ _ _ _ _ (fun x hx=>List.mem_cons_of_mem _ (fL.I7 hx)) H⟩
  ·have h1:=H.2 j (ready_mono hj lU)
   obtain ⟨QR,nC,Cc,qy⟩:=mem_ready.1 hj
   have QS:∀e∈nC.after,Region.binds .any e=true→e.on≠i:=fun e he hb heq=>by
    have h1:=qy e he hb
    have h0:=(mem_ready.1 hr).1
    rw [heq] at h1
    rcases Nat.lt_or_ge i listed.size with h' | h'
    ·simp [h'] at h0 h1;rw [h0] at h1;cases h1
    ·simp [Array.getElem?_eq_none h'] at h1
   have aar:waits ops j i=false:=by
    unfold waits
    rw [Cc]
    simp only
    rw [Bool.eq_false_iff]
    intro aas
    obtain ⟨e,he,hb⟩:=Array.any_eq_true'.1 aas
    simp only [Bool.and_eq_true] at hb
    exact QS e he hb.1 (Nat.eq_of_beq_eq_true hb.2)
   have aat:fL.after ops j ((i,S) :: iZ)=(i,S) :: iZ.after ops j:=by
    unfold fL.after
    rw [List.filter_cons_of_pos (by simp [aar])]
   rw [aat] at h1
   have h2:=wpOp_putIf Cc (fg j nC Cc lU QR QS) (fun cs b=>wR i mI cs b hi) (fun cs b=>wR j nC cs b Cc) nB aN h1
   have aau:∀k ok,ops[k]?=some ok→k≠i→(listed.setIfInBounds j true).getD k true=false →
     (∀e∈ok.after,Region.binds .any e=true→e.on≠i)→mI.apart ops ok=true:=fun k ok hk fM wS bS=>by
    refine fg k ok hk fM ?_ bS
    by_cases lR:j=k
    ·subst lR;exact QR
    ·rw [getD_set_ne true lR] at wS;exact wS
   refine wpOp_mono (fun b7 w' h3=>⟨fun x hx=>h3.2.1 x (List.mem_cons_of_mem _ hx),ih (listed.setIfInBounds j true) _ b7 w' aau (ready_mono hr (Ne.symm lU)) h3.1 (h3.2.1 _ List.mem_cons_self) (fun x hx=>h3.2.1 x (List.mem_cons_of_mem _ hx)) ?_⟩) h2
   rw [Array.setIfInBounds_comm _ _ lU]
   exact h3.2.2
end
end Go.LM
namespace Go.LM
section
variable{P:Program}{Q:Exit→Act→World→Prop}
variable{w0:World}{F0 Z0:ah}{n:cC}{s ar:aq}{a b7:Act}{w w':World}{ι bb:Nat→bH}{Z Z':ah}
variable{E:Env}{o:Oper}{bu : Type}{K:aq→Option bu}{r : bu}{id:Nat}
structure cC.le(p q:cC):Prop where
 n:q.n=p.n
 qm:q.qm=p.qm
 gc:∀e,e∈p.gc→e∈q.gc
theorem cC.le.refl(n:cC):cC.le n n:=⟨rfl,rfl,fun _ h=>h⟩
theorem cC.le.trans{a b c:cC}(h:cC.le a b)(k:cC.le b c):cC.le a c:=⟨k.n.trans h.n,k.qm.trans h.qm,fun e he=>k.gc e (h.gc e he)⟩
theorem Inv.forget{ef:cC}(h:Inv w0 F0 Z0 ef s a w ι Z)(hl:cC.le n ef):Inv w0 F0 Z0 n s a w ι Z :=
 ⟨h.ext,h.dI,h.rG,h.i',h.fT,h.own,h.apart,h.c2,h.tmps,by rw [h.size,hl.n],by rw [← hl.qm];exact h.ghost,fun e he=>h.seen e (hl.gc e he),h.defers⟩
theorem Inv.QT(h:Inv w0 F0 Z0 n s a w ι Z){e:Seen}(he:tv w Z s ι e):Inv w0 F0 Z0 ⟨n.n,n.qm,e :: n.gc⟩ s a w ι Z :=
 ⟨h.ext,h.dI,h.rG,h.i',h.fT,h.own,h.apart,h.c2,h.tmps,h.size,h.ghost,fun x hx=>by rcases List.mem_cons.1 hx with rfl | hx;exact he;exact h.seen x hx,h.defers⟩
theorem QU(n:cC)(e:Seen):cC.le n ⟨n.n,n.qm,e :: n.gc⟩:=⟨rfl,rfl,fun _ h=>List.mem_cons_of_mem _ h⟩
def r0(n:cC)(dp:List (Nat×Nat))(S:World→Prop):Prop:=(∀w,S w)∨∃b i vs,(⟨dp,b,i,vs⟩:Seen)∈n.gc∧S=fun w=>b3 w b i vs
theorem r0.le{ef:cC}{dp:List (Nat×Nat)}{S:World→Prop}(h:r0 n dp S)(hl:cC.le n ef):r0 ef dp S :=
 h.imp (fun h=>h) fun⟨b,i,vs,h1,h2⟩=>⟨b,i,vs,hl.gc _ h1,h2⟩
def Reads(P:Program)(w0:World)(F0 Z0:ah)(n:cC)(dp:List (Nat×Nat))(o:Oper)(a:Act)(w:World)(ar:aq):Prop :=
 ∃v S ef,(∀w',S w'→(execOp a.eval o).run P w'=.ok (.value v) w')∧S w∧cX w0 F0 Z0 ef ar (a.put o.dst v) w∧cC.le n ef∧r0 ef dp S
theorem Pure.reads{dp:List (Nat×Nat)}(h:Pure P o a w (cX w0 F0 Z0 n ar)):Reads P w0 F0 Z0 n dp o a w ar:=by
 obtain ⟨v,h1,h2⟩:=h
 exact⟨v,fun _=>True,n,fun w' _=>h1 w',trivial,h2,.refl n,.inl fun _=>trivial⟩
theorem aav{t:Nat}{x:Operand}(bX:g' P E)(h:Inv w0 F0 Z0 n s a w ι Z)(ag:∀k,o.dst=some k→k<n)(ho:o.op=.load t x)(hk:cT E id o s K=some r) :
  ∃ar,K ar=some r∧Reads P w0 F0 Z0 n (iY s o) o a w ar:=by
 unfold cT at hk
 rw [ho] at hk
 simp only at hk
 have hx:=e5 h x
 have hrun:∀ {T:ad} {b i:Nat} {vs:List Value} {w':World},E.ty t=some T→a.eval x=.pointer (some (at_ b i))→b3 w' b i vs→vs.length=T.size →
   (execOp a.eval o).run P w'=.ok (.value (dK T vs)) w':=by
  intro T b i vs w' ht he hc hl
  unfold execOp;rw [ho]
  refine fX ?_
  simp only [Instr.loadAt,Instr.sureAddr,he,run_bind,run_pure,HO (bX.ty t T ht) hc hl]
 cases ht:E.ty t with
 | none=>rw [ht] at hk;simp at hk
 | some T =>
  rw [ht] at hk
  cases cK:bV s x with
  | ptr p =>
   have nh:iY s o=[(p.id,kv s p.id)]:=by unfold iY;rw [ho];simp only [cK]
   rw [cK] at hk hx
   simp only at hk
   cases c5:(me s T.size p).bind (j2 T) with
   | none=>rw [c5] at hk;simp at hk
   | some v =>
    rw [c5] at hk
    obtain ⟨cs,h1,h2⟩:=bf c5
    simp only [aP] at hx
    obtain ⟨_,A,he,au⟩:=hx
    obtain ⟨b,i,vs,rfl,hc,ck,hl,b9,hF⟩:=P6 h h1 au
    have I8:tv w Z s ι ⟨iY s o,b,i,vs⟩:=by
     rw [nh]
     refine⟨fun d ag=>?_,fun _=>⟨ck,fun j hj=>.inr ⟨_,List.mem_singleton.2 rfl,hF j (by simp only at hj;omega)⟩⟩⟩
     rw [List.mem_singleton] at ag
     subst ag
     exact⟨fun hn=>by rw [hn] at b9;exact b9,.inr (Nat.le_refl _)⟩
    exact⟨_,hk,_,fun w'=>b3 w' b i vs,_,fun w' hw=>hrun ht he hw hl,ck,⟨ι,Z,(h.QT I8).dst (pq h2 hc) ag⟩,QU n ⟨iY s o,_,_,_⟩,.inr ⟨b,i,vs,List.mem_cons_self,rfl⟩⟩
  | di dp cs off =>
   have nh:iY s o=dp:=by unfold iY;rw [ho];simp only [cK]
   rw [cK] at hk hx
   simp only at hk
   cases c5:(takeN off T.size cs).bind (j2 T) with
   | none=>rw [c5] at hk;simp at hk
   | some v =>
    rw [c5] at hk
    simp only at hk
    cases dX:alive s dp
    ·rw [dX] at hk;simp at hk
    rw [dX] at hk
    obtain ⟨ds,h1,h2⟩:=bf c5
    obtain ⟨h3,rfl⟩:=pj h1
    simp only [aP] at hx
    obtain ⟨cd,b,i,vs,he,hx⟩:=hx
    obtain ⟨hc,ck,hz⟩:=hx dX
    have hlen:=hc.len
    have QV:b3 w b (i+off) (part vs off T.size):=ck.part off T.size
    have fH:(part vs off T.size).length=T.size:=by simp [part];omega
    have I8:tv w Z s ι ⟨iY s o,b,i+off,part vs off T.size⟩:=by
     rw [nh]
     refine⟨cd,fun _=>⟨QV,fun j hj=>?_⟩⟩
     simp only at hj
     rw [fH] at hj
     have:=hz (off+j) (by omega)
     rwa [← Nat.add_assoc] at this
    exact⟨_,hk,_,fun w'=>b3 w' b (i+off) (part vs off T.size),_,fun w' hw=>hrun ht he hw fH,QV,⟨ι,Z,(h.QT I8).dst (pq h2 ((hc.drop _).take _)) ag⟩,QU n ⟨iY s o,_,_,_⟩,.inr ⟨b,i+off,part vs off T.size,List.mem_cons_self,rfl⟩⟩
  | _=>rw [cK] at hk;simp at hk
theorem aaw(bO:jN P E)(h:Inv w0 F0 Z0 n s a w ι Z)(ag:∀k,o.dst=some k→k<n)(c5:tr E o=true)(hk:cT E id o s K=some r) :
  ∃ar,K ar=some r∧Reads P w0 F0 Z0 n (iY s o) o a w ar:=by
 have fh:(∃ar,K ar=some r∧Pure P o a w (cX w0 F0 Z0 n ar))→∃ar,K ar=some r∧Reads P w0 F0 Z0 n (iY s o) o a w ar:=fun⟨ar,h1,h2⟩=>⟨ar,h1,h2.reads⟩
 unfold tr at c5
 cases ho:o.op with
 | move x=>exact fh (Bq h ag (.inl ho) hk)
 | assign x=>exact fh (Bq h ag (.inr ho) hk)
 | pick c x y=>exact fh (O' h ag ho hk)
 | load t x=>exact aav bO.ty h ag ho hk
 | nilCheck x=>exact fh (Pc h ag ho hk)
 | binOp op t x y Bv=>exact fh (Pw bO.ty bO.eq h ag ho hk)
 | unOp op t x=>exact fh (Ps h ag ho hk)
 | convert st gq x =>
  rw [ho] at c5
  simp only at c5
  cases h1:E.ty st with
  | none=>rw [h1] at c5;simp at c5
  | some S =>
   cases h2:E.ty gq with
   | none=>rw [h1,h2] at c5;cases S <;> simp at c5
   | some T =>
    rw [h1,h2] at c5
    cases S <;> cases T <;> simp only at c5 <;> first | (cases c5;done) | exact fh (YS bO.ty h ag ho h1 h2 hk)
 | build t ps=>exact fh (PM bO.ty h ag ho hk)
 | makeFunc f first ly =>
  cases f with
  | func f=>exact fh (Ph h ag ho hk)
  | _=>unfold cT at hk;rw [ho] at hk;simp at hk
 | slice t x lo hi gY=>exact fh (Po bO.ty h ag ho hk)
 | fieldAddr t x f=>exact fh (Pe bO.ty h ag ho hk)
 | field t x f=>exact fh (Pf bO.ty h ag ho hk)
 | indexAddr t x i=>exact fh (Pj bO.ty h ag ho hk)
 | index t x i=>exact fh (Pk bO.ty h ag ho hk)
 | extract x i=>exact fh (Pg h ag ho hk)
 | call c =>
  rw [ho] at c5
  simp only at c5
  cases hc:c.callee with
  | builtin b =>
   rw [hc] at c5
   by_cases hb:b=.append
   ·subst hb;simp at c5
   ·by_cases hb2:b=.clear
    ·subst hb2;simp at c5
    ·exact fh (PG bO.ty h ag ho hc hb hb2 hk)
  | value f=>rw [hc] at c5;simp at c5
  | invoke x m=>rw [hc] at c5;simp at c5
 | _=>rw [ho] at c5;simp at c5
theorem aax{d:Nat}{c:a7}(hst:s.t d=c)(x:Operand):bV (s.set d c) x=bV s x:=by
 cases x with
 | tmp t =>
  show bU s.t d c t=s.t t
  by_cases ag:d=t
  ·subst ag;rw [cB,hst]
  ·rw [cR ag]
 | _=>rfl
theorem QW{d:Nat}{c:a7}(hst:s.t d=c):iY (s.set d c) o=iY s o:=by
 unfold iY
 cases ho:o.op <;> simp only
 rename_i t x
 rw [aax hst]
 rfl
theorem aay{ops:Array Oper}(bO:jN P E)(hn:E.n=n)(c5:tr E o=true)(h:Inv w0 F0 Z0 n s a w ι Z)(hk:tp E id ops.toList o s K=some r) :
  ∃ar v S ef,K ar=some r∧YieldsIf P ops S o v a∧S w∧cX w0 F0 Z0 ef ar (a.put o.dst v) w∧cC.le n ef∧r0 ef (iY s o) S:=by
 unfold tp at hk
 cases tY:yi E o
 ·rw [tY] at hk;cases hk
 rw [tY] at hk
 simp only [cond_true] at hk
 have ag:=QK hn tY
 have iL:∀ {s1:aq},Region.wanted o (yielded ops a.tmps)=true→iY s1 o=iY s o→Inv w0 F0 Z0 n s1 a w ι Z→cT E id o s1 K=some r→∃ar v S ef,K ar=some r∧YieldsIf P ops S o v a∧S w∧cX w0 F0 Z0 ef ar (a.put o.dst v) w∧cC.le n ef∧r0 ef (iY s o) S:=by
  intro s1 hw he h1 hk1
  obtain ⟨ar,h2,v,S,ef,h3,h4,a8,bl,bK⟩:=aaw bO h1 ag c5 hk1
  exact⟨ar,v,S,ef,h2,.inl ⟨hw,h3⟩,h4,a8,bl,he ▸ bK⟩
 have bS:∀ {s1:aq},Region.wanted o (yielded ops a.tmps)=false→Inv w0 F0 Z0 n s1 a w ι Z→K (s1.dst o.dst .gone)=some r→∃ar v S ef,K ar=some r∧YieldsIf P ops S o v a∧S w∧cX w0 F0 Z0 ef ar (a.put o.dst v) w∧cC.le n ef∧r0 ef (iY s o) S:=fun hw h1 hk1 =>
  ⟨_,undef,fun _=>True,n,hk1,.inr ⟨hw,rfl⟩,trivial,QM h1 ag,.refl n,.inl fun _=>trivial⟩
 unfold guardOf at hk
 cases aA:o.guard with
 | none =>
  rw [aA] at hk
  simp only at hk
  exact iL (by simp [Region.wanted,aA]) rfl h hk
 | some I4 =>
  obtain ⟨j,wt⟩:=I4
  rw [aA] at hk
  simp only at hk
  cases hj:(ops.toList[j]?).bind (·.dst) with
  | none=>rw [hj] at hk;simp at hk
  | some d =>
   rw [hj] at hk
   simp only at hk
   cases hst:s.t d with
   | aT c =>
    cases c with
    | bool b =>
     rw [hst] at hk
     simp only at hk
     obtain ⟨h1,h2⟩:=h.QL hst
     have aN:yielded ops a.tmps j=some b:=by
      unfold yielded
      rw [Array.getElem?_toList] at hj
      rw [hj]
      simp only [av]
      have cw:d<a.tmps.size:=by
       rcases Nat.lt_or_ge d a.tmps.size with h | h
       ·exact h
       ·rw [Array.getD_eq_getD_getElem?,Array.getElem?_eq_none h] at h2
        simp [undef] at h2
      rw [Array.getD_eq_getD_getElem?,Array.getElem?_eq_getElem cw] at h2
      rw [Array.getElem?_eq_getElem cw]
      simp only [Option.getD_some] at h2
      rw [h2]
     have hw:Region.wanted o (yielded ops a.tmps)=(b==wt):=by
      simp only [Region.wanted,aA,aN]
      cases b <;> cases wt <;> rfl
     cases b <;> cases wt <;> simp only [cond_true,cond_false] at hk
     ·exact iL hw (QW hst) h1 hk
     ·exact bS hw h1 hk
     ·exact bS hw h1 hk
     ·exact iL hw (QW hst) h1 hk
    | _=>rw [hst] at hk;simp at hk
   | gone =>
    rw [hst] at hk
    simp only at hk
    have h2:=h.tmps d
    rw [hst] at h2
    simp only [aP] at h2
    have aN:yielded ops a.tmps j=none:=by
     unfold yielded
     rw [Array.getElem?_toList] at hj
     rw [hj]
     simp only [av]
     rw [Array.getD_eq_getD_getElem?] at h2
     cases iK:a.tmps[d]? with
     | none=>rfl
     | some v=>rw [iK] at h2;simp only [Option.getD_some] at h2;subst h2;rfl
    have hw:Region.wanted o (yielded ops a.tmps)=false:=by
     simp only [Region.wanted,aA,aN]
     cases wt <;> rfl
    exact bS hw h hk
   | _=>rw [hst] at hk;simp at hk
theorem aaz{a b:Option bu}(h:both a b=some r):a=some r∧b=some r:=by
 unfold both at h
 split at h
 ·rename_i he;subst he;exact⟨h,h⟩
 ·cases h
theorem QX:∀ {l:List (Option bu)},Bj l=some r→∀x∈l,x=some r
 | [x],h,y,aN=>by rw [List.mem_singleton] at aN;rw [aN];exact h
 | x :: z :: l,h,y,aN=>by
  simp only [Bj] at h
  obtain ⟨h1,h2⟩:=aaz h
  rcases List.mem_cons.1 aN with rfl | aN
  ·exact h1
  ·exact QX (l:=z :: l) h2 y aN
def wT(n:cC)(p:List (Nat×List (Nat×Nat)))(q:fL):Prop:=∀x∈q,∃dp,(x.1,dp)∈p∧r0 n dp x.2
theorem wT.le{ef:cC}{p:List (Nat×List (Nat×Nat))}{q:fL}(h:wT n p q)(hl:cC.le n ef):wT ef p q :=
 fun x hx=>let ⟨dp,h1,h2⟩:=h x hx;⟨dp,h1,h2.le hl⟩
theorem I9:∀ {p:List (Nat×List (Nat×Nat))},ts s p=true→∀x∈p,alive s x.2=true
 | [],_,_,hx=>by simp at hx
 | y :: p,h,x,hx=>by
  unfold ts at h
  cases ha:alive s y.2
  ·rw [ha] at h;cases h
  ·rw [ha] at h
   rcases List.mem_cons.1 hx with rfl | hx
   ·exact ha
   ·exact I9 h x hx
theorem aaA{bG:Nat}{ops:Array Oper}(bO:jN P E){m:Nat}{listed:Array Bool}{p:List (Nat×List (Nat×Nat))}{q:fL}{ef:cC}{rs:List Nat}(hn:E.n=ef)(hle:cC.le n ef)(hr:Region.ready .any ops listed=rs)
  (h:Inv w0 F0 Z0 ef s a w ι Z) (au:wT ef p q) (hk:Ht E bG ops listed p rs s K=some r):oB P ops (fun e a w=>e=.normal∧hB w0 F0 Z0 n K r a w) (m+3+1) listed q a w:=by
 have Cd:∀ {l:List Nat} {i:Nat},one l=some i→l=[i]:=by
  intro l i h
  match l,h with
  | [j],h=>rw [aU (show some j=some i from h)]
 unfold Ht at hk
 obtain ⟨i,h0,hk⟩:=bf hk
 obtain ⟨i1,h1,hk⟩:=bf hk
 obtain ⟨i2,h2,hk⟩:=bf hk
 obtain ⟨i3,h3,hk⟩:=bf hk
 have h0:=hr.trans (Cd h0)
 have h1:=Cd h1
 have h2:=Cd h2
 have h3:=Cd h3
 generalize hl1:listed.setIfInBounds i true=dN at hk h1 h2 h3
 generalize dW:dN.setIfInBounds i1 true=ek at hk h2 h3
 generalize I6:ek.setIfInBounds i2 true=mm at hk h3
 generalize aaB:mm.setIfInBounds i3 true=pn at hk
 cases hb:((Region.ready .any ops pn).isEmpty&&((p.filter fun p => !waits ops i p.1).filter fun p => !waits ops i1 p.1).isEmpty)
 ·rw [hb] at hk;cases hk
 rw [hb] at hk
 simp only [cond_true] at hk
 simp only [Bool.and_eq_true,List.isEmpty_iff] at hb
 obtain ⟨h4,aaC⟩:=hb
 obtain ⟨o,ho,hk⟩:=bf hk
 obtain ⟨dH,mF,hk⟩:=bf hk
 obtain ⟨eH,j7,hk⟩:=bf hk
 obtain ⟨eV,qz,hk⟩:=bf hk
 obtain ⟨g0,g1,g2,g3,mo⟩:=aam (Q:=fun e a w=>e=.normal∧hB w0 F0 Z0 n K r a w) bO hn h hk
 have step:∀ {fuel j:Nat} {nC:Oper} {l:Array Bool} {q:fL} {a:Act} {w:World},Region.ready .any ops l=[j]→ops[j]?=some nC→nC.guard=none →
   nC.wp P a w (fun b7 w'=>(q.after ops j).ok w'∧oB P ops (fun e a w=>e=.normal∧hB w0 F0 Z0 n K r a w) fuel (l.setIfInBounds j true) (q.after ops j) b7 w') (fun e a w=>e=.normal∧hB w0 F0 Z0 n K r a w) →
   oB P ops (fun e a w=>e=.normal∧hB w0 F0 Z0 n K r a w) (fuel+1) l q a w:=by
  intro fuel j nC l q a w hr hj aA hw
  refine⟨fun h=>(by rw [hr] at h;cases h),fun k hk=>?_⟩
  rw [hr] at hk
  obtain rfl:=List.mem_singleton.1 hk
  unfold wpOp
  simp only [hj]
  rw [if_pos (by simp [Region.wanted,aA])]
  exact .inl hw
 have iq:fL.after ops i1 (fL.after ops i q)=[]:=by
  refine List.eq_nil_iff_forall_not_mem.2 fun x hx=>?_
  obtain ⟨hx,hx1⟩:=List.mem_filter.1 hx
  obtain ⟨hx,hx0⟩:=List.mem_filter.1 hx
  obtain ⟨dp,g1,_⟩:=au x hx
  have:(x.1,dp)∈((p.filter fun p => !waits ops i p.1).filter fun p => !waits ops i1 p.1):=List.mem_filter.2 ⟨List.mem_filter.2 ⟨g1,hx0⟩,hx1⟩
  rw [aaC] at this
  cases this
 have nil:∀(j:Nat),fL.after ops j []=[]:=fun _=>rfl
 refine step h0 ho g0 (Oper.wp_mono ?_ mo)
 rintro a1 kB ⟨⟨oc,nA,bb,Z',k2⟩,mo⟩
 refine⟨?_,?_⟩
 ·intro x hx
  obtain ⟨hx1,hx2⟩:=List.mem_filter.1 hx
  obtain ⟨dp,f1,f2⟩:=au x hx1
  rcases f2 with f2 | ⟨b,j,vs,f2,f3⟩
  ·exact f2 kB
  ·rw [f3]
   exact((k2.seen _ f2).2 (I9 nA _ (List.mem_filter.2 ⟨f1,hx2⟩))).1
 rw [hl1]
 refine step h1 mF g1 (Oper.wp_mono ?_ mo)
 intro a2 b5 mo
 rw [iq,dW]
 refine⟨fun x hx=>(by cases hx),step h2 j7 g2 (Oper.wp_mono ?_ mo)⟩
 intro a3 oA mo
 rw [nil,I6]
 refine⟨fun x hx=>(by cases hx),step h3 qz g3 (Oper.wp_mono ?_ mo)⟩
 rintro a4 aaD ⟨ar,e1,Qu,aaE,e2⟩
 rw [nil,aaB]
 refine⟨fun x hx=>(by cases hx),?_⟩
 have hfin:Exit.normal=.normal∧hB w0 F0 Z0 n K r a4 aaD:=⟨rfl,ar,e1,Qu,aaE,e2.forget hle⟩
 cases m with
 | zero=>exact⟨h4,hfin⟩
 | succ m=>exact⟨fun _=>hfin,fun j hj=>(by rw [h4] at hj;cases hj)⟩
theorem I_{bG:Nat}{ops:Array Oper}(bO:jN P E)(hs:Region.noSelect ops=true):∀(m:Nat) (listed:Array Bool) (p:List (Nat×List (Nat×Nat))) (q:fL) (ef:cC) (s:aq) (a:Act) (w:World),
  E.n=ef→cC.le n ef→tt E bG ops m listed p s K=some r→cX w0 F0 Z0 ef s a w→wT ef p q→q.ok w →
  oB P ops (fun e a w=>e=.normal∧hB w0 F0 Z0 n K r a w) m listed q a w
 | 0,listed,p,q,ef,s,a,w,hn,hle,hk,⟨ι,Z,h⟩,au,hq=>by
  unfold tt at hk
  cases hr:Region.ready .any ops listed with
  | nil=>rw [hr] at hk;exact⟨hr,rfl,s,hk,ι,Z,h.forget hle⟩
  | cons=>rw [hr] at hk;cases hk
 | m+1,listed,p,q,ef,s,a,w,hn,hle,hk,⟨ι,Z,h⟩,au,hq=>by
  unfold tt at hk
  cases hr:Region.ready .any ops listed with
  | nil =>
   rw [hr] at hk
   exact⟨fun _=>⟨rfl,s,hk,ι,Z,h.forget hle⟩,fun j hj=>by rw [hr] at hj;simp at hj⟩
  | cons i0 QY =>
   rw [hr] at hk
   simp only at hk
   cases hf:(i0 :: QY).find? fun i=>Hq E ops i&&Region.free .any ops listed i with
   | some i =>
    rw [hf] at hk
    simp only at hk
    have h3:=List.find?_some hf
    simp only [Bool.and_eq_true] at h3
    cases ho:ops[i]? with
    | none=>rw [ho] at hk;cases hk
    | some o =>
     rw [ho] at hk
     simp only at hk
     have c5:tr E o=true:=by have:=h3.1;unfold Hq at this;rw [ho] at this;exact this
     obtain ⟨ar,v,S,mh,h1,h2,g3,h4,a8,bl⟩:=aay bO hn c5 h hk
     refine aaq ho (Region.noSelect_spec hs) (fun c a w hh=>by simp at hh) m listed q a w (Region.free_spec ho h3.2) (by rw [hr];exact List.mem_of_find?_eq_some hf) h2 g3 hq ?_
     refine I_ bO hs m _ _ _ mh ar _ w (hn.trans a8.n.symm) (hle.trans a8) h1 h4 ?_ ?_
     ·intro x hx
      rcases List.mem_cons.1 hx with rfl | hx
      ·exact⟨_,List.mem_cons_self,bl⟩
      ·obtain ⟨dp,g1,g2⟩:=au x hx
       exact⟨dp,List.mem_cons_of_mem _ g1,g2.le a8⟩
     ·intro x hx
      rcases List.mem_cons.1 hx with rfl | hx
      ·exact g3
      ·exact hq x hx
   | none =>
    rw [hf] at hk
    simp only at hk
    cases hA:(OQ s ops (i0 :: QY)&&Nat.ble 3 m)
    case true =>
     rw [hA] at hk
     simp only [cond_true] at hk
     simp only [Bool.and_eq_true] at hA
     obtain ⟨m',rfl⟩:∃m',m=m'+3:=⟨m-3,by have:=Nat.le_of_ble_eq_true hA.2;omega⟩
     exact aaA bO hn hle hr h au hk
    rw [hA] at hk
    simp only [cond_false] at hk
    refine⟨fun h0=>(by rw [hr] at h0;cases h0),fun j hj=>?_⟩
    rw [hr] at hj
    have hj':=QX hk _ (List.mem_map.2 ⟨j,hj,rfl⟩)
    cases ho:ops[j]? with
    | none=>rw [ho] at hj';cases hj'
    | some o =>
     rw [ho] at hj'
     simp only at hj'
     cases c5:tr E o
     case true=>rw [c5] at hj';cases hj'
     rw [c5] at hj'
     simp only [cond_false] at hj'
     have oy:=QN (Q:=fun e a w=>e=.normal∧hB w0 F0 Z0 n K r a w) bO hn h hj'
     have qB:∀b7 w',hB w0 F0 Z0 ef (fun ar=>cond (ts ar (p.filter fun p => !waits ops j p.1)) (tt E bG ops m (listed.setIfInBounds j true) (p.filter fun p => !waits ops j p.1) ar K) none) r b7 w' →
       (q.after ops j).ok w'∧oB P ops (fun e a w=>e=.normal∧hB w0 F0 Z0 n K r a w) m (listed.setIfInBounds j true) (q.after ops j) b7 w':=by
      rintro b7 w' ⟨ar,k1,bb,Z',k2⟩
      dsimp only at k1
      cases dX:ts ar (p.filter fun p => !waits ops j p.1)
      ·rw [dX] at k1;cases k1
      rw [dX] at k1
      simp only [cond_true] at k1
      have Ce:wT ef (p.filter fun p => !waits ops j p.1) (q.after ops j):=by
       intro x hx
       obtain ⟨hx1,hx2⟩:=List.mem_filter.1 hx
       obtain ⟨dp,g1,g2⟩:=au x hx1
       exact⟨dp,List.mem_filter.2 ⟨g1,hx2⟩,g2⟩
      have cd:(q.after ops j).ok w':=by
       intro x hx
       obtain ⟨dp,g1,g2⟩:=Ce x hx
       rcases g2 with g2 | ⟨b,i,vs,g2,g3⟩
       ·exact g2 w'
       ·rw [g3]
        exact((k2.seen _ g2).2 (I9 dX _ g1)).1
      exact⟨cd,I_ bO hs m _ _ _ ef ar b7 w' hn hle k1 ⟨bb,Z',k2⟩ Ce cd⟩
     unfold wpOp
     simp only [ho]
     split
     ·rename_i hw
      rw [if_pos hw] at oy
      exact .inl (Oper.wp_mono qB oy)
     ·rename_i hw
      rw [if_neg hw] at oy
      exact qB _ _ oy
theorem aaF{bG:Nat}{ops:Array Oper}(bO:jN P E)(hn:E.n=n)(hk:Hu E bG ops s K=some r)(hs:cX w0 F0 Z0 n s a w)(b:Frame)(k:List Item)(cs:List Frame) :
  ∃b7 w',hB w0 F0 Z0 n K r b7 w'∧Steps P (lone (b.at a (.code (.region bG ops true) :: k)) cs w) (lone (b.at b7 k) cs w'):=by
 unfold Hu at hk
 cases wR:Region.noSelect ops
 ·rw [wR] at hk;cases hk
 rw [wR] at hk
 simp only [cond_true] at hk
 obtain ⟨ι,Z,h⟩:=hs
 have h1:=I_ (n:=n) bO wR ops.size _ [] [] n s a { w with drawn:=w.drawn+1 } hn (.refl n) hk ⟨ι,Z,h.drew _⟩ (fun x hx=>by simp at hx) (fun x hx=>by simp at hx)
 obtain ⟨e,b7,w',⟨rfl,hl⟩,harr⟩:=(wp_region_any (id:=bG) bO.mix (QO _ _ _ _ _ h1)) b k cs
 exact⟨b7,w',hl,harr⟩
end
end Go.LM
namespace Go.LM
section
variable{P:Program}{w0:World}{F0 Z0:ah}{n:cC}{E:Env}{bu : Type}{r : bu}
def lV:Code→List Item→List (Nat×List Item)
 | .region bG ops ik,k=>[(bG,.code (.region bG ops ik) :: k)]
 | .seq a b,k=>lV a (.code b :: k)++lV b k
 | .cond _ x y,k=>lV x k++lV y k
 | .block id c,k=>lV c (.inBlock id :: k)
 | .loop c,k=>lV c (.inLoop c :: k)
 | _,_=>[]
def gQ:List Item→List (Nat×List Item)
 | []=>[]
 | .code c :: k=>lV c k++gQ k
 | .inLoop c :: k=>lV c (.inLoop c :: k)++gQ k
 | _ :: k=>gQ k
theorem QZ{id:Nat} : ∀ {k k':List Item},exitTo id k=some k'→∀p,p∈gQ k'→p∈gQ k
 | [],_,h,_,_=>by simp [exitTo] at h
 | x :: k,k',h,p,au=>by
  have key:(∃i,x=.inBlock i∧k'=k)∨exitTo id k=some k':=by
   cases x with
   | inBlock i =>
    simp only [exitTo] at h
    by_cases hi:(i==id)=true
    ·rw [if_pos hi] at h;exact .inl ⟨i,rfl,(aU h).symm⟩
    ·rw [if_neg hi] at h;exact .inr h
   | _=>exact .inr h
  rcases key with⟨i,rfl,rfl⟩ | hk
  ·exact au
  ·have:=QZ hk p au
   cases x <;> simp only [gQ] <;> first | exact this | exact List.mem_append_right _ this
def Q0(H:Hand bu)(cuts:Nat→Bool)(r : bu)(todo:List Item)(s:aq):Prop :=
 (∃bG ops ik k,todo=.code (.region bG ops ik) :: k∧cuts bG=true∧H.cut bG todo s=some r)∨((todo=[]∨∃k,todo=.code .ret :: k)∧H.fin s=some r)
theorem Q1{cuts:Nat→Bool}{H:Hand bu}(bO:jN P E)(hn:E.n=n):∀(fuel:Nat) (first:Bool) (todo:List Item) (s:aq) (a:Act) (w:World),
  j4 E cuts H fuel first todo s=some r→cX w0 F0 Z0 n s a w→∀(b:Frame) (cs:List Frame),
  ∃pI ar b7 w',cX w0 F0 Z0 n ar b7 w'∧Q0 H cuts r pI ar∧(∀p,p∈gQ pI→p∈gQ todo)∧Steps P (lone (b.at a todo) cs w) (lone (b.at b7 pI) cs w')
 | 0,_,_,_,_,_,hk,_=>by simp [j4] at hk
 | fuel+1,first,todo,s,a,w,hk,hs=>by
  intro b cs
  have ih:=fun first todo s a w hk hs=>Q1 (H:=H) (cuts:=cuts) bO hn fuel first todo s a w hk hs b cs
  have one:∀ {todo1:List Item} {first:Bool},(∀p,p∈gQ todo1→p∈gQ todo)→step P (lone (b.at a todo) cs w)=.next (lone (b.at a todo1) cs w)→j4 E cuts H fuel first todo1 s=some r →
    ∃pI ar b7 w',cX w0 F0 Z0 n ar b7 w'∧Q0 H cuts r pI ar∧(∀p,p∈gQ pI→p∈gQ todo)∧Steps P (lone (b.at a todo) cs w) (lone (b.at b7 pI) cs w'):=by
   intro todo1 first hcs hst hk1
   obtain ⟨dn,ar,b7,w',h1,h2,h3,h4⟩:=ih first todo1 s a w hk1 hs
   exact⟨dn,ar,b7,w',h1,h2,fun p au=>hcs p (h3 p au),.head hst h4⟩
  unfold j4 at hk
  match todo,hk with
  | [],hk=>exact⟨[],s,a,w,hs,.inr ⟨.inl rfl,hk⟩,fun _ h=>h,.refl _ _⟩
  | .inBlock _ :: k,hk=>exact one (todo1:=k) (fun _ h=>h) step_inBlock hk
  | .inLoop c :: k,hk=>exact one (fun p au=>by simp only [gQ,List.mem_append] at au ⊢;exact au.elim .inl fun h=>h) step_inLoop hk
  | .code .ret :: k,hk=>exact⟨_,s,a,w,hs,.inr ⟨.inr ⟨k,rfl⟩,hk⟩,fun _ h=>h,.refl _ _⟩
  | .code .skip :: k,hk=>exact one (todo1:=k) (fun _ h=>h) step_skip hk
  | .code (.seq x y) :: k,hk=>exact one (fun p au=>by simp only [gQ,lV,List.mem_append] at au ⊢;exact or_assoc.2 au) step_seq hk
  | .code (.block id c) :: k,hk=>exact one (fun p au=>by simpa only [gQ,lV] using au) step_block hk
  | .code (.loop c) :: k,hk=>exact one (fun p au=>by simp only [gQ,lV,List.mem_append] at au ⊢;exact au.elim .inl fun h=>h) step_loop hk
  | .code (.exit id) :: k,hk =>
   simp only at hk
   cases he:exitTo id k with
   | none=>rw [he] at hk;simp at hk
   | some k'=>rw [he] at hk;exact one (QZ he) (step_exit he) hk
  | .code (.cond c x y) :: k,hk =>
   simp only at hk
   obtain ⟨ι,Z,h⟩:=hs
   have hc:=e5 h c
   cases hcv:bV s c with
   | aT j5 =>
    cases j5 with
    | bool t =>
     rw [hcv] at hk hc
     simp only [aP,cj] at hc
     have hst:=step_cond (P:=P) (b:=b) (a:=a) (k:=k) (cs:=cs) (w:=w) (x:=x) (y:=y) hc
     cases t with
     | true=>exact one (fun p au=>by simp only [gQ,lV,List.mem_append] at au ⊢;exact au.elim (fun h=>.inl (.inl h)) .inr) hst hk
     | false=>exact one (fun p au=>by simp only [gQ,lV,List.mem_append] at au ⊢;exact au.elim (fun h=>.inl (.inr h)) .inr) hst hk
    | _=>rw [hcv] at hk;simp at hk
   | _=>rw [hcv] at hk;simp at hk
  | .code (.region bG ops ik) :: k,hk =>
   simp only at hk
   cases iv:(cuts bG && !first)
   ·rw [iv] at hk
    simp only [cond_false] at hk
    have aaG:∃b7 w',hB w0 F0 Z0 n (fun ar=>j4 E cuts H fuel false k ar) r b7 w'∧Steps P (lone (b.at a (.code (.region bG ops ik) :: k)) cs w) (lone (b.at b7 k) cs w'):=by
     cases ik with
     | false=>exact aap bO hn hk hs b k cs
     | true=>exact aaF bO hn hk hs b k cs
    obtain ⟨a1,kB,⟨s1,h1,h2⟩,hst⟩:=aaG
    obtain ⟨dn,ar,b7,w',c7,eJ,iD,iE⟩:=ih false k s1 a1 kB h1 h2
    exact⟨dn,ar,b7,w',c7,eJ,fun p au=>by simp only [gQ,List.mem_append];exact .inr (iD p au),hst.trans iE⟩
   ·rw [iv] at hk
    simp only [cond_true] at hk
    simp only [Bool.and_eq_true] at iv
    exact⟨_,s,a,w,hs,.inl ⟨bG,ops,ik,k,rfl,iv.1,hk⟩,fun _ h=>h,.refl _ _⟩
  | .code (.goto _) :: _,hk | .code (.label _) :: _,hk | .code (.scope _) :: _,hk | .inRegion _ _ :: _,hk | .inScope _ :: _,hk=>simp at hk
end
end Go.LM
namespace Go.LM
def k8(key:Nat):(ps:List bA)→(bA.ins ps).D→Nat→aq→Option (List a7×aq×Nat)
 | [],_,j,s=>some ([],s,j)
 | .fn _ _ :: ps,x,j,s=>(k8 key ps x j s).bind fun q=>some (.aD :: q.1,q.2)
 | .val t m :: ps,x,j,s=>(t.hS m [] x.1 s j).bind fun r=>(j2 t r.1).bind fun v=>(k8 key ps x.2 r.2.2 r.2.1).bind fun q=>some (v :: q.1,q.2)
 | .hR t :: ps,x,j,s=>(t.hS .R [] x.1 s j).bind fun r=>(j2 t r.1).bind fun v=>(k8 key ps x.2 r.2.2 r.2.1).bind fun q=>some (v :: q.1,q.2)
 | .hQ t m :: ps,x,j,s=>(t.hS m [] x.1 s j).bind fun r=>(j2 t r.1).bind fun v=>(k8 key ps x.2 r.2.2 r.2.1).bind fun q=>some (v :: q.1,q.2)
 | .ref t :: ps,x,j,s=>(k8 key ps x.2 j s).bind fun q=>some (.di [] (t.cells [] none x.1) 0 :: q.1,q.2)
 | .mut t m _ :: ps,x,j,s=>(t.hS m [] x.1 s j).bind fun r=>(mkObj r.2.1 r.2.2 (.var 0 r.1)).bind fun s1=>(k8 key ps x.2 (r.2.2+1) s1).bind fun q=>some (.ptr ⟨r.2.2,none,0⟩ :: q.1,q.2)
section
variable{P:Program}{w0:World}{F0 Z0:ah}{n:cC}{s ar:aq}{a b7:Act}{w w':World}{ι bb:Nat→bH}{Z Z':ah}
theorem Inv.start{F:ah}(hZ:∀b o,Z b o→b<w.heap.size){m:Nat}(ha:a.tmps.size=m)(ag:a.defers=[]):Inv w F Z ⟨m,[],[]⟩ ⟨fun _=>.aD,fun _=>.none,[]⟩ a w ι Z :=
 ⟨Ext.refl _ _,fun _ _ h=>.inl h,fun _ _ h=>h,hZ,fun _=>trivial,fun _ h=>h.elim,fun _ _ h=>h.elim,fun _ h=>h.elim,fun _=>by simp only [aP],ha,by simp only [aX],fun _ h=>by simp at h,ag⟩
def aaH(w0:World)(F0 Z0:ah)(n:cC)(s:aq)(a:Act)(w:World)(ι : Nat→bH)(Z:ah)(us:List Value)(F:ah)(q:List a7×aq×Nat):Prop :=
 ∃ bb,Inv w0 F0 Z0 n q.2.1 a w bb Z∧gN false w Z s ι w Z q.2.1 bb (fun _ _=>True)∧aX w Z q.2.1 bb q.1 us∧∀X,bL w0 F0 s w ι Z X→ah.apart X F→bL w0 F0 q.2.1 w bb Z X
theorem aaI:gN false w Z s ι w Z s ι (fun _ _=>True) :=
 ⟨fun _ _ h=>h,fun _ _ h=>h,fun _ _ h=>h,fun _ _ _ h=>⟨h,rfl⟩,fun h=>by simp at h,b4.refl _ _,b4.refl _ _,fun _ _ h=>h,fun _ _ _ h=>h⟩
theorem oC:Z.or (df ι [])=Z:=by
 funext b o
 apply propext
 constructor
 ·rintro (h | ⟨d,ag,_⟩)
  ·exact h
  ·simp at ag
 ·exact .inl
theorem tZ{key:Nat} : ∀(ps:List bA) (x:(bA.ins ps).D) (us:List Value) (j:Nat) (s:aq) (ι : Nat→bH) (F:ah) (q:List a7×aq×Nat),k8 key ps x j s=some q→Inv w0 F0 Z0 n s a w ι Z →
  gB w Z key ps x us F→bL w0 F0 s w ι Z F→aaH w0 F0 Z0 n s a w ι Z us F q
 | [],x,us,j,s,ι,F,q,he,h,hA,hF=>by
  simp only [k8,Option.some.injEq] at he
  subst he
  exact⟨ι,h,aaI,hA,fun X hX _=>hX⟩
 | .fn mc pc :: ps,x,us,j,s,ι,F,q,he,h,hA,hF=>by
  simp only [k8] at he
  obtain ⟨p,au,he⟩:=bf he
  obtain rfl:=aU he
  obtain ⟨alp,alq,aS,rfl,hsz,h4⟩:=hA
  obtain ⟨dA,i1,held,hr,nz⟩:=tZ ps x aS j s ι F p au h h4 hF
  refine⟨dA,i1,held,?_,nz⟩
  simp only [aX]
  exact⟨_,aS,rfl,by simp only [aP],hr⟩
 | .ref t :: ps,x,us,j,s,ι,F,q,he,h,hA,hF=>by
  simp only [k8] at he
  obtain ⟨p,au,he⟩:=bf he
  obtain rfl:=aU he
  obtain ⟨b,o,vs,aS,rfl,h1,h2,h3,h4⟩:=hA
  obtain ⟨dA,i1,held,hr,nz⟩:=tZ ps x.2 aS j s ι F p au h h4 hF
  refine⟨dA,i1,held,?_,nz⟩
  simp only [aX]
  refine⟨_,aS,rfl,held.az _ _ ?_,hr⟩
  simp only [aP]
  have hl:=(ad.al.len t _ h2).1
  have hc:bM w Z s ι (t.cells [] none x.1) vs:=ad.qo t [] none (by simp) (fun _=>by rw [oC];exact h2) ⟨_,_,_,h2⟩ .none
  refine⟨by simp,b,o,vs,by simp,fun _=>⟨hc,h1,fun k hk=>.inl (h3 k (by rw [← hc.len,hl] at hk;exact hk))⟩⟩
 | .val t m :: ps,x,us,j,s,ι,F,q,he,h,hA,hF=>by
  simp only [k8] at he
  obtain ⟨r,hr,he⟩:=bf he
  obtain ⟨v,hv,he⟩:=bf he
  obtain ⟨p,au,he⟩:=bf he
  obtain rfl:=aU he
  obtain ⟨vs,aS,G,H,rfl,h1,h2,h3,h4,a8⟩:=hA
  obtain ⟨dA,i1,jf,c1,fJ⟩:=ad.oh t m [] x.1 s ι j r vs G hr h (by rw [oC];exact h1) (hF.sub h4) (by rintro b o _ ⟨d,ag,_⟩;simp at ag) (by simp)
  obtain ⟨eB,i2,held,oD,nz⟩:=tZ ps x.2 aS _ _ dA H p au i1 h2 (fJ H (hF.sub a8) fun b o x y=>h3 b o y x)
  refine⟨eB,i2,(jf.held _).trans held,?_,fun X hX fK=>nz X (fJ X hX fun b o x y=>fK b o x (h4 b o y)) fun b o x y=>fK b o x (a8 b o y)⟩
  simp only [aX]
  exact⟨_,aS,rfl,held.az _ _ (pq hv c1),oD⟩
 | .hR t :: ps,x,us,j,s,ι,F,q,he,h,hA,hF=>by
  simp only [k8] at he
  obtain ⟨r,hr,he⟩:=bf he
  obtain ⟨v,hv,he⟩:=bf he
  obtain ⟨p,au,he⟩:=bf he
  obtain rfl:=aU he
  obtain ⟨vs,aS,G,H,rfl,h1,h2,h3,h4,a8⟩:=hA
  obtain ⟨dA,i1,jf,c1,fJ⟩:=ad.oh t .R [] x.1 s ι j r vs G hr h (by rw [oC];exact h1) (hF.sub h4) (by rintro b o _ ⟨d,ag,_⟩;simp at ag) (by simp)
  obtain ⟨eB,i2,held,oD,nz⟩:=tZ ps x.2 aS _ _ dA H p au i1 h2 (fJ H (hF.sub a8) fun b o x y=>h3 b o y x)
  refine⟨eB,i2,(jf.held _).trans held,?_,fun X hX fK=>nz X (fJ X hX fun b o x y=>fK b o x (h4 b o y)) fun b o x y=>fK b o x (a8 b o y)⟩
  simp only [aX]
  exact⟨_,aS,rfl,held.az _ _ (pq hv c1),oD⟩
 | .hQ t m :: ps,x,us,j,s,ι,F,q,he,h,hA,hF=>by
  simp only [k8] at he
  obtain ⟨r,hr,he⟩:=bf he
  obtain ⟨v,hv,he⟩:=bf he
  obtain ⟨p,au,he⟩:=bf he
  obtain rfl:=aU he
  obtain ⟨vs,aS,G,H,rfl,h1,h2,h3,h4,a8⟩:=hA
  obtain ⟨dA,i1,jf,c1,fJ⟩:=ad.oh t m [] x.1 s ι j r vs G hr h (by rw [oC];exact h1) (hF.sub h4) (by rintro b o _ ⟨d,ag,_⟩;simp at ag) (by simp)
  obtain ⟨eB,i2,held,oD,nz⟩:=tZ ps x.2 aS _ _ dA H p au i1 h2 (fJ H (hF.sub a8) fun b o x y=>h3 b o y x)
  refine⟨eB,i2,(jf.held _).trans held,?_,fun X hX fK=>nz X (fJ X hX fun b o x y=>fK b o x (h4 b o y)) fun b o x y=>fK b o x (a8 b o y)⟩
  simp only [aX]
  exact⟨_,aS,rfl,held.az _ _ (pq hv c1),oD⟩
 | .mut t m m' :: ps,x,us,j,s,ι,F,q,he,h,hA,hF=>by
  simp only [k8] at he
  obtain ⟨r,hr,he⟩:=bf he
  obtain ⟨s1,hm,he⟩:=bf he
  obtain ⟨p,au,he⟩:=bf he
  obtain rfl:=aU he
  obtain ⟨b6,rfl⟩:=qs hm
  obtain ⟨b,o,vs,aS,G,H,rfl,h1,hwr,h2,h3,h4,a8,bl,bK⟩:=hA
  have hG:ah.sub G F:=fun b o x=>bl b o (.inl x)
  have dM:ah.sub (ah.run b o t.size) F:=fun b o x=>bl b o (.inr x)
  obtain ⟨dA,i1,jf,c1,fJ⟩:=ad.oh t m [] x.1 s ι j r vs G hr h (by rw [oC];exact h2) (hF.sub hG) (by rintro b o _ ⟨d,ag,_⟩;simp at ag) (by simp)
  have hl:=(ad.al.len t _ h2).1
  have hcl:=c1.len
  have j8:=fJ _ (hF.sub dM) (fun b o x y=>a8 b o y x)
  obtain ⟨i2,nx,mz,ny⟩:=Ix i1 (id:=r.2.2) (o:=.var 0 r.1) (i:=⟨some (at_ b o),0,ah.run b o t.size⟩) (by rw [b6];exact fun h=>h) (fun o'=>by simp) (by rw [b6];exact .made _ _ _) (fun hm=>by
   refine⟨at_ b o,vs,rfl,rfl,c1.move hm,h1,fun k hk=>⟨hwr k (by omega),rfl,by simp [at_],by simp [at_];omega⟩⟩) j8
  have wE:=(jf.held (w:=w) (Z:=Z) (fun _ _=>True)).trans nx
  have yM:∀X,bL w0 F0 s w ι Z X→ah.apart X (G.or (ah.run b o t.size))→bL w0 F0 (r.2.1.bR r.2.2 (.var 0 r.1)) w (bU dA r.2.2 ⟨some (at_ b o),0,ah.run b o t.size⟩) Z X:=fun X hX fK =>
   mz X (fJ X hX fun b o x y=>fK b o x (.inl y)) fun b o x y=>fK b o x (.inr y)
  obtain ⟨IE,i3,Q2,oD,aaJ⟩:=tZ ps x.2 aS _ _ _ H p au i2 h3 (yM H (hF.sub bK) fun b o x y=>h4 b o y x)
  refine⟨IE,i3,wE.trans Q2,?_,fun X hX fK=>aaJ X (yM X hX fun b o x y=>fK b o x (bl b o y)) fun b o x y=>fK b o x (bK b o y)⟩
  simp only [aX]
  refine⟨_,aS,rfl,Q2.az _ _ ?_,oD⟩
  simp only [aP]
  refine⟨by show bU r.2.1.o r.2.2 _ r.2.2≠_;rw [cB];simp,_,rfl,rfl,?_⟩
  show match (bU r.2.1.o r.2.2 _ r.2.2).core with | .var _ _=>_ | .row .. => _ | _=>_
  rw [cB]
  exact⟨rfl,at_ b o,by rw [cB],by simp [at_]⟩
end
end Go.LM
namespace Go.LM
def yV(t:ad)(m:ba)(v:a7)(s:aq):Option (t.D×aq) :=
 cond (n' t v) (match iX t v with
  | some cs=>(t.imp false m cs s []).bind fun r=>match r.2.1 with
   | []=>some (r.1,r.2.2.1)
   | _=>none
  | none=>none) none
def iM:(ps:List bA)→List a7→aq→Option (bA.d' ps).D
 | [],_,_=>some ()
 | .mut t _ m' :: ps,gs,s =>
  match gs with
  | .ptr p :: gs =>
   match s.o p.id,p.e_ with
   | .var _ cs,none=>cond (Nat.beq p.off 0&&Nat.beq cs.length t.size)
    ((t.imp false m' cs (s.bR p.id .dead) []).bind fun r=>match r.2.1 with
     | []=>(iM ps gs r.2.2.1).bind fun q=>some (r.1,q)
     | _=>none) none
   | _,_=>none
  | _=>none
 | .hQ t m :: ps,gs,s =>
  match gs with
  | v :: gs=>(yV t m v s).bind fun r=>(iM ps gs r.2).bind fun q=>some (r.1,q)
  | []=>none
 | .val _ _ :: ps,gs,s =>
  match gs with
  | _ :: gs=>iM ps gs s
  | []=>none
 | .hR _ :: ps,gs,s =>
  match gs with
  | _ :: gs=>iM ps gs s
  | []=>none
 | .ref _ :: ps,gs,s =>
  match gs with
  | _ :: gs=>iM ps gs s
  | []=>none
 | .fn _ _ :: ps,gs,s =>
  match gs with
  | _ :: gs=>iM ps gs s
  | []=>none
section
variable{P:Program}{w0:World}{F0 Z0:ah}{n:cC}{s ar:aq}{a b7:Act}{w w':World}{ι bb:Nat→bH}{Z Z':ah}
theorem Q3{t:ad}{m:ba}{v:a7}{u:Value}{r:t.D×aq}(ho:yV t m v s=some r)(h:Inv w0 F0 Z0 n s a w ι Z)(hv:aP w Z s ι v u) :
  ∃vs F Z',u=dK t vs∧Inv w0 F0 Z0 n r.2 a w ι Z'∧fb s ι Z r.2 Z'∧bL w0 F0 r.2 w ι Z' F∧t.al w Z' m r.1 vs F∧∀b o,F b o→∃id,(s.o id).live∧(ι id).F b o:=by
 unfold yV at ho
 cases hf:n' t v
 ·rw [hf] at ho;simp at ho
 rw [hf] at ho
 simp only [cond_true] at ho
 cases hcs:iX t v with
 | none=>rw [hcs] at ho;simp at ho
 | some cs =>
  rw [hcs] at ho
  simp only at ho
  obtain ⟨q,hq,ho⟩:=bf ho
  cases en:q.2.1 with
  | cons=>rw [en] at ho;simp at ho
  | nil =>
   rw [en] at ho
   obtain rfl:=aU ho
   obtain ⟨us1,vs1,F1,cq,e1,i1,s1,c1,f1,bz,_,fV,_,g1⟩:=ad.lF t false m cs s [] q _ Z hq h (rN hcs hv) (by simp)
   rw [en] at c1
   have hvs1:vs1=[]:=by cases vs1 with | nil=>rfl | cons=>exact c1.elim
   subst hvs1
   rw [List.append_nil] at e1
   have hw:=BN hf hv
   rw [e1] at hw
   rw [fV rfl,oC] at bz
   exact⟨us1,F1,cq,hw,i1,s1,f1,bz,g1⟩
theorem t_:∀(ps:List bA) (gs:List a7) (us:List Value) (s:aq) (Z:ah) (x:(bA.d' ps).D),iM ps gs s=some x→Inv w0 F0 Z0 n s a w ι Z→aX w Z s ι gs us →
  ∃ar F Z',Inv w0 F0 Z0 n ar a w ι Z'∧fb s ι Z ar Z'∧bL w0 F0 ar w ι Z' F∧iB w Z' ps us x F∧∀b o,F b o→∃id,(s.o id).live∧(ι id).F b o
 | [],gs,us,s,Z,x,ho,h,hv=>⟨s,ah.none,Z,h,.refl,.none,trivial,fun _ _ h=>h.elim⟩
 | .val t m :: ps,gs,us,s,Z,x,ho,h,hv=>by
  cases gs with
  | nil=>simp [iM] at ho
  | cons v gs =>
   simp only [aX] at hv
   obtain ⟨u,aS,rfl,h1,h2⟩:=hv
   obtain ⟨ar,F,Z',i1,s1,f1,bz,g1⟩:=t_ ps gs aS s Z x (by simp only [iM] at ho;exact ho) h h2
   exact⟨ar,F,Z',i1,s1,f1,⟨u,aS,rfl,bz⟩,g1⟩
 | .hR t :: ps,gs,us,s,Z,x,ho,h,hv=>by
  cases gs with
  | nil=>simp [iM] at ho
  | cons v gs =>
   simp only [aX] at hv
   obtain ⟨u,aS,rfl,h1,h2⟩:=hv
   obtain ⟨ar,F,Z',i1,s1,f1,bz,g1⟩:=t_ ps gs aS s Z x (by simp only [iM] at ho;exact ho) h h2
   exact⟨ar,F,Z',i1,s1,f1,⟨u,aS,rfl,bz⟩,g1⟩
 | .ref t :: ps,gs,us,s,Z,x,ho,h,hv=>by
  cases gs with
  | nil=>simp [iM] at ho
  | cons v gs =>
   simp only [aX] at hv
   obtain ⟨u,aS,rfl,h1,h2⟩:=hv
   obtain ⟨ar,F,Z',i1,s1,f1,bz,g1⟩:=t_ ps gs aS s Z x (by simp only [iM] at ho;exact ho) h h2
   exact⟨ar,F,Z',i1,s1,f1,⟨u,aS,rfl,bz⟩,g1⟩
 | .fn _ _ :: ps,gs,us,s,Z,x,ho,h,hv=>by
  cases gs with
  | nil=>simp [iM] at ho
  | cons v gs =>
   simp only [aX] at hv
   obtain ⟨u,aS,rfl,h1,h2⟩:=hv
   obtain ⟨ar,F,Z',i1,s1,f1,bz,g1⟩:=t_ ps gs aS s Z x (by simp only [iM] at ho;exact ho) h h2
   exact⟨ar,F,Z',i1,s1,f1,⟨u,aS,rfl,bz⟩,g1⟩
 | .hQ t m :: ps,gs,us,s,Z,x,ho,h,hv=>by
  cases gs with
  | nil=>simp [iM] at ho
  | cons v gs =>
   simp only [aX] at hv
   obtain ⟨u,aS,rfl,h1,h2⟩:=hv
   simp only [iM] at ho
   obtain ⟨r,hr,ho⟩:=bf ho
   obtain ⟨q,hq,ho⟩:=bf ho
   obtain rfl:=aU ho
   obtain ⟨vs,F1,cq,rfl,i1,s1,f1,bz,g1⟩:=Q3 hr h h1
   obtain ⟨ar,dO,bN,i2,s2,f2,cc,g2⟩:=t_ ps gs aS r.2 cq q hq i1 (aX.move s1.ei h2)
   refine⟨ar,F1.or dO,bN,i2,s1.trans s2,(f1.shrink s2).or f2,⟨vs,aS,F1,dO,rfl,ad.al.mono s2.dI _ _ (fun _ _ h=>h) bz,cc,?_,fun _ _ h=>.inl h,fun _ _ h=>.inr h⟩,?_⟩
   ·intro b o x y
    obtain ⟨id,hl,hf⟩:=g2 b o y
    exact f1.apart id hl b o x hf
   ·rintro b o (y | y)
    ·exact g1 b o y
    ·obtain ⟨id,hl,hf⟩:=g2 b o y;exact⟨id,(s1.live hl).1,hf⟩
 | .mut t m m' :: ps,gs,us,s,Z,x,ho,h,hv=>by
  cases gs with
  | nil=>simp [iM] at ho
  | cons v gs =>
   simp only [aX] at hv
   obtain ⟨u,aS,rfl,h1,h2⟩:=hv
   cases v <;> simp only [iM] at ho <;> try (simp at ho;done)
   rename_i p
   simp only [aP] at h1
   obtain ⟨hk,A,rfl,_,au⟩:=h1
   cases bZ:s.o p.id with
   | var ver cs =>
    rw [bZ] at ho au
    obtain ⟨he,a0,eD,hA⟩:=au
    rw [he] at ho
    simp only at ho
    cases hc:(Nat.beq p.off 0&&Nat.beq cs.length t.size)
    ·rw [hc] at ho;cases ho
    rw [hc] at ho
    simp only [Bool.and_eq_true] at hc
    have fA:=Nat.eq_of_beq_eq_true hc.1
    have hlen:=Nat.eq_of_beq_eq_true hc.2
    simp only [cond_true] at ho
    obtain ⟨r,hr,ho⟩:=bf ho
    cases en:r.2.1 with
    | cons=>rw [en] at ho;cases ho
    | nil =>
     rw [en] at ho
     simp only at ho
     obtain ⟨q,hq,ho⟩:=bf ho
     obtain rfl:=aU ho
     have b9:(s.o p.id).live:=by rw [bZ];trivial
     have cZ:=h.fT p.id
     rw [bZ] at cZ
     obtain ⟨⟨b,o,sp⟩,ws,dJ,hsp,hc,ck,hF⟩:=cZ
     simp only at hsp
     subst hsp
     rw [eD] at dJ
     obtain rfl:=aU dJ
     have iG:fb s ι Z (s.bR p.id .dead) Z:=v8 p.id b9
     have hi0:=h.take p.id (fun _ _ h=>h) (fun _ _ h=>.inl h)
     have fg:=h.v7 b9
     obtain ⟨us1,vs1,F1,cq,e1,i1,s1,c1,f1,bz,_,fV,_,g1⟩:=ad.lF t false m' cs _ [] r _ Z hr hi0 (hc.move iG.ei) (by simp)
     rw [en] at c1
     have hvs1:vs1=[]:=by cases vs1 with | nil=>rfl | cons=>exact c1.elim
     subst hvs1
     rw [List.append_nil] at e1
     subst e1
     rw [fV rfl,oC] at bz
     obtain ⟨ar,dO,bN,i2,s2,f2,cc,g2⟩:=t_ ps gs aS r.2.2.1 cq q hq i1 (aX.move s1.ei (aX.move iG.ei h2))
     have hrun:ah.sub (ah.run b o t.size) (ι p.id).F:=by
      rintro b' o' ⟨rfl,h1,h2⟩
      have:=(hF (o'-o) (by omega)).2
      simp only at this
      rwa [show o +(o'-o)=o' by omega] at this
     have j8:=(fg.sub hrun).shrink s1
     have I':ah.apart F1 (ah.run b o t.size):=by
      intro b o x y
      obtain ⟨id,hl,hf⟩:=g1 b o x
      exact fg.apart id hl b o (hrun b o y) hf
     have gP:bL w0 F0 r.2.2.1 w ι cq (F1.or (ah.run b o t.size)):=f1.or j8
     refine⟨ar,(F1.or (ah.run b o t.size)).or dO,bN,i2,(iG.trans s1).trans s2,(gP.shrink s2).or f2,⟨b,o,ws,aS,F1,dO,?_,ck,ad.al.mono s2.dI _ _ (fun _ _ h=>h) bz,cc,?_,I',fun _ _ h=>.inl h,fun _ _ h=>.inr h⟩,?_⟩
     ·rw [hA,fA];rfl
     ·intro b o x y
      obtain ⟨id,hl,hf⟩:=g2 b o y
      exact gP.apart id hl b o x hf
     ·rintro b o ((y | y) | y)
      ·obtain ⟨id,hl,hf⟩:=g1 b o y;exact⟨id,(iG.live hl).1,hf⟩
      ·exact⟨p.id,b9,hrun b o y⟩
      ·obtain ⟨id,hl,hf⟩:=g2 b o y;exact⟨id,(iG.live (s1.live hl).1).1,hf⟩
   | _=>rw [bZ] at ho;simp at ho
end
end Go.LM
namespace Go.LM
section
variable{P:Program}{w0:World}{F0 Z0:ah}{n:cC}{s ar:aq}{a b7:Act}{w w':World}{ι bb:Nat→bH}{Z Z':ah}
def Cf(t:ad)(m:ba)(v:a7)(s:aq):Option (t.D×aq) :=
 match v with
 | .ptr p =>
  match s.o p.id,p.e_ with
  | .var _ cs,none=>cond (Nat.beq p.off 0&&Nat.beq cs.length t.size)
   ((t.imp false m cs (s.bR p.id .dead) []).bind fun r=>match r.2.1 with
    | []=>some (r.1,r.2.2.1)
    | _=>none) none
  | _,_=>none
 | _=>none
theorem aaK{t:ad}{m:ba}{v:a7}{u:Value}{s:aq}{Z:ah}{x:t.D×aq}(ho:Cf t m v s=some x)(h:Inv w0 F0 Z0 n s a w ι Z)(h1:aP w Z s ι v u) :
  ∃b o vs F Z',u=.pointer (some (at_ b o))∧Inv w0 F0 Z0 n x.2 a w ι Z'∧fb s ι Z x.2 Z'∧bL w0 F0 x.2 w ι Z' (F.or (ah.run b o t.size))∧b3 w b o vs∧(∀j,j<t.size→fk w b (o+j))∧t.al w Z' m x.1 vs F ∧
   ah.apart F (ah.run b o t.size)∧∀b' o',(F.or (ah.run b o t.size)) b' o'→∃id,(s.o id).live∧(ι id).F b' o':=by
 cases v <;> simp only [Cf] at ho <;> try (simp at ho;done)
 rename_i p
 simp only [aP] at h1
 obtain ⟨hk,A,rfl,_,au⟩:=h1
 cases bZ:s.o p.id with
 | var ver cs =>
  rw [bZ] at ho au
  obtain ⟨he,a0,eD,hA⟩:=au
  rw [he] at ho
  simp only at ho
  cases hc:(Nat.beq p.off 0&&Nat.beq cs.length t.size)
  ·rw [hc] at ho;cases ho
  rw [hc] at ho
  simp only [Bool.and_eq_true] at hc
  have fA:=Nat.eq_of_beq_eq_true hc.1
  have hlen:=Nat.eq_of_beq_eq_true hc.2
  simp only [cond_true] at ho
  obtain ⟨r,hr,ho⟩:=bf ho
  cases en:r.2.1 with
  | cons=>rw [en] at ho;cases ho
  | nil =>
   rw [en] at ho
   obtain rfl:=aU ho
   have b9:(s.o p.id).live:=by rw [bZ];trivial
   have cZ:=h.fT p.id
   rw [bZ] at cZ
   obtain ⟨a1,ws,dJ,hsp,hcs,ck,hF⟩:=cZ
   rw [eD] at dJ
   obtain rfl:=aU dJ
   obtain ⟨b,o,sp⟩:=a0
   simp only at hsp
   subst hsp
   have iG:fb s ι Z (s.bR p.id .dead) Z:=v8 p.id b9
   have hi0:=h.take p.id (fun _ _ h=>h) (fun _ _ h=>.inl h)
   have fg:=h.v7 b9
   obtain ⟨us1,vs1,F1,cq,e1,i1,s1,c1,f1,bz,_,fV,_,g1⟩:=ad.lF t false m cs _ [] r _ Z hr hi0 (hcs.move iG.ei) (by simp)
   rw [en] at c1
   have hvs1:vs1=[]:=by cases vs1 with | nil=>rfl | cons=>exact c1.elim
   subst hvs1
   rw [List.append_nil] at e1
   subst e1
   rw [fV rfl,oC] at bz
   have hrun:ah.sub (ah.run b o t.size) (ι p.id).F:=by
    rintro b' o' ⟨rfl,h1,h2⟩
    have:=(hF (o'-o) (by omega)).2
    simp only at this
    rwa [show o +(o'-o)=o' by omega] at this
   have j8:=(fg.sub hrun).shrink s1
   have I':ah.apart F1 (ah.run b o t.size):=by
    intro b o x y
    obtain ⟨id,hl,hf⟩:=g1 b o x
    exact fg.apart id hl b o (hrun b o y) hf
   refine⟨b,o,_,F1,cq,?_,i1,iG.trans s1,f1.or j8,ck,fun j hj=>(hF j (by omega)).1,bz,I',?_⟩
   ·rw [hA,fA];rfl
   ·rintro b o (y | y)
    ·obtain ⟨id,hl,hf⟩:=g1 b o y;exact⟨id,(iG.live hl).1,hf⟩
    ·exact⟨p.id,b9,hrun b o y⟩
 | _=>rw [bZ] at ho;simp at ho
def yW(gs:List a7)(a off:Nat)(t:ad)(v:a7)(s:aq):Option Int :=
 match v with
 | .j1=>some (-1)
 | .opt id x =>
  match qj s gs a off with
  | some k=>cond (Nat.beq k id&&qk s t id) (some x) none
  | none=>none
 | .ptr p =>
  match qj s gs a off,p.e_ with
  | some k,some i=>cond (Nat.beq k p.id&&qk s t p.id&&Nat.beq p.off 0) (some (i:Int)) none
  | _,_=>none
 | _=>none
theorem Q4{gs:List a7}{us:List Value}{lS off id:Nat}{t:ad}{i:Nat}{wI:Addr}(dY:qj s gs lS off=some id)(mB:qk s t id=true)(h:Inv w0 F0 Z0 n s a w ι Z)(hv:aX w Z s ι gs us)
  (au:ju s ι ⟨id,some i,0⟩ wI):Il w us lS off t.size (i:Int) (.pointer (some wI)):=by
 unfold qj at dY
 cases nr:gs[lS]? with
 | none=>rw [nr] at dY;simp at dY
 | some lC =>
  rw [nr] at dY
  cases lC with
  | ptr pl =>
   simp only at dY
   cases c5:me s 1 { pl with off:=pl.off+off } with
   | none=>rw [c5] at dY;simp at dY
   | some cs =>
    rw [c5] at dY
    have hcs:cs=[.ag id none]:=by
     split at dY
     ·rename_i h;obtain rfl:=aU dY;exact aU h
     ·simp at dY
    subst hcs
    obtain ⟨u,wG,rY⟩:=hv.get lS nr
    simp only [aP] at rY
    obtain ⟨j6,A,rfl,mC⟩:=rY
    obtain ⟨b,o,sp⟩:=A
    have hsp:=mC.1
    simp only at hsp
    subst hsp
    obtain ⟨og,eH,ws,hA,hc1,hc2,yG⟩:=yn h c5 (ju.plus (b:=b) (o:=o) off mC)
    simp only [at_,Addr.mk.injEq,and_true] at hA
    obtain ⟨rfl,rfl⟩:=hA
    match ws,hc1 with
    | [v0],hc1 =>
     obtain ⟨hk0,A,m,k,rfl,hh⟩:=hc1.1
     unfold qk at mB
     cases bZ:s.o id with
     | row u em ver xs =>
      rw [bZ] at mB
      have:=ad.eq_of_beq _ _ mB
      subst this
      obtain ⟨c7,eJ,iD,iE,iF⟩:=hh u em ver xs (lD bZ)
      have c7:m=xs.length:=c7
      obtain ⟨hs,au⟩:=au
      have au:match (s.o id).core with | .var _ cs=>_ | .row t _ _ xs=>_ | _=>_:=au
      rw [lD bZ] at au
      obtain ⟨cz,hi,cw,a0,gn,qu⟩:=au
      obtain rfl:=aU hi
      rcases iF with iF | ⟨a1,nm,ns⟩
      ·omega
      ·rw [gn] at nm
       obtain rfl:=aU nm
       right
       refine⟨by omega,b,o,a0.block,a0.off,m,k,wG,?_,by simp;omega,?_⟩
       ·rw [hc2.head,ns];simp [eh,at_]
       ·rw [qu];simp [at_]
     | _=>rw [bZ] at mB;cases mB
  | _=>simp at dY
theorem aaL{gs:List a7}{us:List Value}{lS off:Nat}{t:ad}{v:a7}{u:Value}{x:Int}(ho:yW gs lS off t v s=some x)(h:Inv w0 F0 Z0 n s a w ι Z)(aA:aX w Z s ι gs us)(hv:aP w Z s ι v u):Il w us lS off t.size x u:=by
 cases v with
 | j1 =>
  obtain rfl:=aU ho
  simp only [aP] at hv
  exact .inl ⟨by omega,hv⟩
 | opt id y =>
  simp only [yW] at ho
  cases dY:qj s gs lS off with
  | none=>rw [dY] at ho;cases ho
  | some k =>
   rw [dY] at ho
   cases hc:(Nat.beq k id&&qk s t id)
   ·simp only [hc] at ho;cases ho
   simp only [hc,cond_true] at ho
   obtain rfl:=aU ho
   simp only [Bool.and_eq_true] at hc
   obtain rfl:=Nat.eq_of_beq_eq_true hc.1
   simp only [aP] at hv
   obtain ⟨_,⟨h1,h2⟩ | ⟨h1,wI,rfl,h2⟩⟩:=hv
   ·exact .inl ⟨h1,h2⟩
   ·have:=Q4 dY hc.2 h aA h2
    rwa [Int.toNat_of_nonneg h1] at this
 | ptr p =>
  simp only [yW] at ho
  cases dY:qj s gs lS off with
  | none=>rw [dY] at ho;cases ho
  | some k =>
   rw [dY] at ho
   cases e6:p.e_ with
   | none=>rw [e6] at ho;cases ho
   | some i =>
    rw [e6] at ho
    simp only at ho
    cases hc:(Nat.beq k p.id&&qk s t p.id&&Nat.beq p.off 0)
    ·rw [hc] at ho;cases ho
    rw [hc] at ho
    obtain rfl:=aU ho
    simp only [Bool.and_eq_true] at hc
    have hk:=Nat.eq_of_beq_eq_true hc.1.1
    have h0:=Nat.eq_of_beq_eq_true hc.2
    obtain ⟨pid,alr,als⟩:=p
    simp only at hk h0 e6 hc
    subst hk h0 e6
    simp only [aP] at hv
    obtain ⟨_,wI,rfl,h2⟩:=hv
    exact Q4 dY hc.1.2 h aA h2
 | _=>cases ho
def yX(t:ad)(v:a7):Bool :=
 n' t v&&(match iX t v with
  | some cs=>Nat.beq cs.length t.size
  | none=>false)
theorem aaM{t:ad}{v:a7}{u:Value}{s:aq}{Z:ah}(ho:yX t v=true)(h1:aP w Z s ι v u):u.cells.toList.length=t.size∧∀x∈u.cells.toList,ee x=true:=by
 unfold yX at ho
 simp only [Bool.and_eq_true] at ho
 obtain ⟨hf,hc⟩:=ho
 cases hcs:iX t v with
 | none=>rw [hcs] at hc;cases hc
 | some cs =>
  rw [hcs] at hc
  have hl:=Nat.eq_of_beq_eq_true hc
  have hr:=rN hcs h1
  exact⟨by rw [hr.len];exact hl,hr.ee⟩
def Cg(t:ad)(v:a7)(s:aq):Option (List t.D×aq) :=
 match v with
 | .j1=>some ([],s)
 | .di dp cs off =>
  match takeN off t.size cs with
  | none=>none
  | some cs=>cond dp.isEmpty ((t.imp false .R cs s []).bind fun r=>match r.2.1 with
   | []=>some ([r.1],r.2.2.1)
   | _=>none) none
 | .may b dp cs=>cond b (cond (dp.isEmpty&&Nat.beq cs.length t.size) ((t.imp false .R cs s []).bind fun r=>match r.2.1 with
   | []=>some ([r.1],r.2.2.1)
   | _=>none) none) (some ([],s))
 | _=>none
theorem aaN{t:ad}{v:a7}{u:Value}{s:aq}{Z:ah}{x:List t.D×aq}(ho:Cg t v s=some x)(h:Inv w0 F0 Z0 n s a w ι Z)(h1:aP w Z s ι v u) :
  ∃Z',Inv w0 F0 Z0 n x.2 a w ι Z'∧fb s ι Z x.2 Z'∧((x.1=[]∧u=.pointer none)∨∃y b o vs,x.1=[y]∧u=.pointer (some (at_ b o))∧b3 w b o vs∧t.al w Z' .R y vs ah.none∧∀j,j<t.size→Z' b (o+j)):=by
 have go:∀(cs:List a_) (b o:Nat) (vs:List Value) (x:List t.D×aq),((t.imp false .R cs s []).bind fun r=>match r.2.1 with | []=>some ([r.1],r.2.2.1) | _=>none)=some x→bM w Z s ι cs vs→b3 w b o vs→vs.length=t.size→(∀j,j<t.size→Z b (o+j))→u=.pointer (some (at_ b o)) →
   ∃Z',Inv w0 F0 Z0 n x.2 a w ι Z'∧fb s ι Z x.2 Z'∧((x.1=[]∧u=.pointer none)∨∃y b o vs,x.1=[y]∧u=.pointer (some (at_ b o))∧b3 w b o vs∧t.al w Z' .R y vs ah.none∧∀j,j<t.size→Z' b (o+j)):=by
  intro cs b o vs x ho pr ck hl hz hu
  obtain ⟨r,hr,ho⟩:=bf ho
  cases en:r.2.1 with
  | cons=>rw [en] at ho;cases ho
  | nil =>
   rw [en] at ho
   obtain rfl:=aU ho
   obtain ⟨us1,vs1,F1,cq,e1,i1,s1,c1,f1,bz,_,fV,_,g1⟩:=ad.lF t false .R cs s [] r _ Z hr h pr (by simp)
   rw [en] at c1
   have hvs1:vs1=[]:=by cases vs1 with | nil=>rfl | cons=>exact c1.elim
   subst hvs1
   rw [List.append_nil] at e1
   subst e1
   rw [fV rfl,oC] at bz
   exact⟨cq,i1,s1,.inr ⟨r.1,b,o,_,rfl,hu,ck,rE bz,fun j hj=>s1.dI _ _ (hz j hj)⟩⟩
 cases v <;> simp only [Cg] at ho <;> try (simp at ho;done)
 ·rename_i dp cs off
  simp only [aP] at h1
  obtain ⟨h2,b,o,vs,rfl,h3⟩:=h1
  cases ht:takeN off t.size cs with
  | none=>rw [ht] at ho;cases ho
  | some ds =>
   rw [ht] at ho
   cases dp with
   | cons=>cases ho
   | nil =>
    obtain ⟨k1,k2,k3⟩:=h3 rfl
    obtain ⟨hle,rfl⟩:=pj ht
    have hlen:=k1.len
    refine go _ b (o+off) ((vs.drop off).take t.size) x ho ((k1.drop off).take _) (k2.part off t.size) (by simp;omega) (fun j hj=>?_) rfl
    have:=k3 (off+j) (by omega)
    rw [oC] at this
    rwa [← Nat.add_assoc] at this
 ·simp only [aP] at h1
  obtain rfl:=aU ho
  exact⟨Z,h,.refl,.inl ⟨rfl,h1⟩⟩
 ·rename_i b dp cs
  simp only [aP] at h1
  rcases h1 with⟨rfl,h1⟩ | ⟨rfl,h2,b,o,vs,rfl,h3⟩
  ·obtain rfl:=aU ho
   exact⟨Z,h,.refl,.inl ⟨rfl,h1⟩⟩
  ·simp only [cond_true] at ho
   cases dp with
   | cons=>cases ho
   | nil =>
    cases hc:Nat.beq cs.length t.size
    ·rw [show(List.isEmpty ([]:List (Nat×Nat))&&Nat.beq cs.length t.size)=false by rw [hc];rfl] at ho;cases ho
    rw [show(List.isEmpty ([]:List (Nat×Nat))&&Nat.beq cs.length t.size)=true by rw [hc];rfl] at ho
    have hc:=Nat.eq_of_beq_eq_true hc
    obtain ⟨k1,k2,k3⟩:=h3 rfl
    have hlen:=k1.len
    refine go _ b (o+0) vs x ho k1 k2 (by omega) (fun j hj=>?_) rfl
    have:=k3 j (by omega)
    rw [oC] at this
    exact this
def hC(ps:List bA)(gs:List a7):(rs:List cW)→List a7→aq→Option (cW.outs rs (bA.d' ps)).D
 | [],vs,s =>
  match vs with
  | []=>iM ps gs s
  | _=>none
 | .val t m :: rs,vs,s =>
  match vs with
  | v :: vs=>(yV t m v s).bind fun r=>(hC ps gs rs vs r.2).bind fun q=>some (r.1,q)
  | []=>none
 | .opt a off t :: rs,vs,s =>
  match vs with
  | v :: vs=>(yW gs a off t v s).bind fun x=>(hC ps gs rs vs s).bind fun q=>some (x,q)
  | []=>none
 | .any t :: rs,vs,s =>
  match vs with
  | v :: vs=>cond (yX t v) (hC ps gs rs vs s) none
  | []=>none
 | .pd t :: rs,vs,s =>
  match vs with
  | v :: vs=>(Cg t v s).bind fun r=>(hC ps gs rs vs r.2).bind fun q=>some (r.1,q)
  | []=>none
 | .new t m :: rs,vs,s =>
  match vs with
  | v :: vs=>(Cf t m v s).bind fun r=>(hC ps gs rs vs r.2).bind fun q=>some (r.1,q)
  | []=>none
theorem aaO{ps:List bA}{gs:List a7}{s:aq} : hC ps gs [] [] s=iM ps gs s:=rfl
theorem aaP{ps:List bA}{gs:List a7}{s:aq}{v:a7}{vs:List a7} : hC ps gs [] (v :: vs) s=none:=rfl
theorem aaQ{ps:List bA}{gs:List a7}{a o:Nat}{t:ad}{rs:List cW}{s:aq}{v:a7}{vs:List a7} : hC ps gs (.opt a o t :: rs) (v :: vs) s=(yW gs a o t v s).bind fun x=>(hC ps gs rs vs s).bind fun q=>some (x,q):=rfl
theorem aaR{ps:List bA}{gs:List a7}{a o:Nat}{t:ad}{rs:List cW}{s:aq} : hC ps gs (.opt a o t :: rs) [] s=none:=rfl
theorem aaS{ps:List bA}{gs:List a7}{t:ad}{m:ba}{rs:List cW}{s:aq}{v:a7}{vs:List a7} : hC ps gs (.val t m :: rs) (v :: vs) s=(yV t m v s).bind fun r=>(hC ps gs rs vs r.2).bind fun q=>some (r.1,q):=rfl
theorem aaT{ps:List bA}{gs:List a7}{t:ad}{m:ba}{rs:List cW}{s:aq} : hC ps gs (.val t m :: rs) [] s=none:=rfl
theorem aaU{ps:List bA}{gs:List a7}{t:ad}{rs:List cW}{s:aq}{v:a7}{vs:List a7} : hC ps gs (.any t :: rs) (v :: vs) s=cond (yX t v) (hC ps gs rs vs s) none:=rfl
theorem aaV{ps:List bA}{gs:List a7}{t:ad}{rs:List cW}{s:aq} : hC ps gs (.any t :: rs) [] s=none:=rfl
theorem aaW{ps:List bA}{gs:List a7}{t:ad}{rs:List cW}{s:aq}{v:a7}{vs:List a7} : hC ps gs (.pd t :: rs) (v :: vs) s=(Cg t v s).bind fun r=>(hC ps gs rs vs r.2).bind fun q=>some (r.1,q):=rfl
theorem aaX{ps:List bA}{gs:List a7}{t:ad}{rs:List cW}{s:aq} : hC ps gs (.pd t :: rs) [] s=none:=rfl
theorem aaY{ps:List bA}{gs:List a7}{t:ad}{m:ba}{rs:List cW}{s:aq}{v:a7}{vs:List a7} : hC ps gs (.new t m :: rs) (v :: vs) s=(Cf t m v s).bind fun r=>(hC ps gs rs vs r.2).bind fun q=>some (r.1,q):=rfl
theorem aaZ{ps:List bA}{gs:List a7}{t:ad}{m:ba}{rs:List cW}{s:aq} : hC ps gs (.new t m :: rs) [] s=none:=rfl
theorem wU{ps:List bA}{gs:List a7}{us:List Value} : ∀(rs:List cW) (vs:List a7) (dr:List Value) (s:aq) (Z:ah) (x:(cW.outs rs (bA.d' ps)).D),hC ps gs rs vs s=some x→Inv w0 F0 Z0 n s a w ι Z →
  aX w Z s ι gs us→aX w Z s ι vs dr→∃ar F Z',Inv w0 F0 Z0 n ar a w ι Z'∧fb s ι Z ar Z'∧bL w0 F0 ar w ι Z' F∧iw w Z' ps us rs x dr F∧∀b o,F b o→∃id,(s.o id).live∧(ι id).F b o
 | [],vs,dr,s,Z,x,ho,h,aA,hv=>by
  cases vs with
  | cons=>rw [aaP] at ho;cases ho
  | nil =>
   rw [aaO] at ho
   simp only [aX] at hv
   obtain ⟨ar,F,Z',i1,s1,f1,bz,g1⟩:=t_ ps gs us s Z x ho h aA
   exact⟨ar,F,Z',i1,s1,f1,⟨hv,bz⟩,g1⟩
 | .opt lS off t :: rs,vs,dr,s,Z,x,ho,h,aA,hv=>by
  cases vs with
  | nil=>rw [aaR] at ho;cases ho
  | cons v vs =>
   simp only [aX] at hv
   obtain ⟨u,aS,rfl,h1,h2⟩:=hv
   rw [aaQ] at ho
   obtain ⟨y,aN,ho⟩:=bf ho
   obtain ⟨q,hq,ho⟩:=bf ho
   obtain rfl:=aU ho
   obtain ⟨ar,dO,bN,i2,s2,f2,cc,g2⟩:=wU rs vs aS s Z q hq h aA h2
   exact⟨ar,dO,bN,i2,s2,f2,⟨u,aS,rfl,aaL aN h aA h1,cc⟩,g2⟩
 | .any t :: rs,vs,dr,s,Z,x,ho,h,aA,hv=>by
  cases vs with
  | nil=>rw [aaV] at ho;cases ho
  | cons v vs =>
   simp only [aX] at hv
   obtain ⟨u,aS,rfl,h1,h2⟩:=hv
   rw [aaU] at ho
   cases hc:yX t v
   ·rw [hc] at ho;cases ho
   rw [hc] at ho
   obtain ⟨ar,dO,bN,i2,s2,f2,cc,g2⟩:=wU rs vs aS s Z x ho h aA h2
   exact⟨ar,dO,bN,i2,s2,f2,⟨u,aS,rfl,aaM hc h1,cc⟩,g2⟩
 | .pd t :: rs,vs,dr,s,Z,x,ho,h,aA,hv=>by
  cases vs with
  | nil=>rw [aaX] at ho;cases ho
  | cons v vs =>
   simp only [aX] at hv
   obtain ⟨u,aS,rfl,h1,h2⟩:=hv
   rw [aaW] at ho
   obtain ⟨r,hr,ho⟩:=bf ho
   obtain ⟨q,hq,ho⟩:=bf ho
   obtain rfl:=aU ho
   obtain ⟨cq,i1,s1,bz⟩:=aaN hr h h1
   obtain ⟨ar,dO,bN,i2,s2,f2,cc,g2⟩:=wU rs vs aS r.2 cq q hq i1 (aX.move s1.ei aA) (aX.move s1.ei h2)
   refine⟨ar,dO,bN,i2,s1.trans s2,f2,⟨u,aS,rfl,bz.imp (fun h=>h) fun⟨y,b,o,vs,k1,k2,k3,bg,bx⟩=>⟨y,b,o,vs,k1,k2,k3,ad.al.mono s2.dI _ _ (fun _ _ h=>h) bg,fun j hj=>s2.dI _ _ (bx j hj)⟩,cc⟩,?_⟩
   intro b o y
   obtain ⟨id,hl,hf⟩:=g2 b o y
   exact⟨id,(s1.live hl).1,hf⟩
 | .new t m :: rs,vs,dr,s,Z,x,ho,h,aA,hv=>by
  cases vs with
  | nil=>rw [aaZ] at ho;cases ho
  | cons v vs =>
   simp only [aX] at hv
   obtain ⟨u,aS,rfl,h1,h2⟩:=hv
   rw [aaY] at ho
   obtain ⟨r,hr,ho⟩:=bf ho
   obtain ⟨q,hq,ho⟩:=bf ho
   obtain rfl:=aU ho
   obtain ⟨b,o,ws,F1,cq,rfl,i1,s1,f1,ck,hwr,bz,aa0,g1⟩:=aaK hr h h1
   obtain ⟨ar,dO,bN,i2,s2,f2,cc,g2⟩:=wU rs vs aS r.2 cq q hq i1 (aX.move s1.ei aA) (aX.move s1.ei h2)
   refine⟨ar,(F1.or (ah.run b o t.size)).or dO,bN,i2,s1.trans s2,(f1.shrink s2).or f2,⟨b,o,ws,aS,F1,dO,rfl,ck,hwr,ad.al.mono s2.dI _ _ (fun _ _ h=>h) bz,cc,?_,aa0,fun _ _ h=>.inl h,fun _ _ h=>.inr h⟩,?_⟩
   ·intro b o x y
    obtain ⟨id,hl,hf⟩:=g2 b o y
    exact f1.apart id hl b o x hf
   ·rintro b o (y | y)
    ·exact g1 b o y
    ·obtain ⟨id,hl,hf⟩:=g2 b o y;exact⟨id,(s1.live hl).1,hf⟩
 | .val t m :: rs,vs,dr,s,Z,x,ho,h,aA,hv=>by
  cases vs with
  | nil=>rw [aaT] at ho;cases ho
  | cons v vs =>
   simp only [aX] at hv
   obtain ⟨u,aS,rfl,h1,h2⟩:=hv
   rw [aaS] at ho
   obtain ⟨r,hr,ho⟩:=bf ho
   obtain ⟨q,hq,ho⟩:=bf ho
   obtain rfl:=aU ho
   obtain ⟨ws,F1,cq,rfl,i1,s1,f1,bz,g1⟩:=Q3 hr h h1
   obtain ⟨ar,dO,bN,i2,s2,f2,cc,g2⟩:=wU rs vs aS r.2 cq q hq i1 (aX.move s1.ei aA) (aX.move s1.ei h2)
   refine⟨ar,F1.or dO,bN,i2,s1.trans s2,(f1.shrink s2).or f2,⟨ws,aS,F1,dO,rfl,ad.al.mono s2.dI _ _ (fun _ _ h=>h) bz,cc,?_,fun _ _ h=>.inl h,fun _ _ h=>.inr h⟩,?_⟩
   ·intro b o x y
    obtain ⟨id,hl,hf⟩:=g2 b o y
    exact f1.apart id hl b o x hf
   ·rintro b o (y | y)
    ·exact g1 b o y
    ·obtain ⟨id,hl,hf⟩:=g2 b o y;exact⟨id,(s1.live hl).1,hf⟩
end
end Go.LM
namespace Go.LM
inductive k9 where
 | keep
 | b1 (t:ad) (dp:List Nat)
 | ag (c:Nat)
 | au (c:Nat)
inductive kD where
 | cell (c:k9)
 | iC (cs:List k9)
 | ptr (c:Nat)
 | di (dp:List Nat) (cs:List k9)
 | opt (c:Nat)
 | same
 | drop
 | vN (a b:List (List k9))
inductive iN where
 | var (cs:List k9)
 | row (t:ad) (em:ba)
structure b0 where
 aj:List (Nat×kD)
 os:List (Nat×iN)
 gs:List kD
abbrev Ren:=List (Nat×Option Nat)
def jP:Ren→Nat→Option (Option Nat)
 | [],_=>none
 | (k,v) :: l,c=>cond (Nat.beq k c) (some v) (jP l c)
def ka(r:Ren)(c id:Nat):Bool:=match jP r c with
 | some (some i)=>Nat.beq i id
 | _=>false
def t'(r:Ren)(c:Nat):Bool:=match jP r c with
 | some none=>true
 | _=>false
def hD:List (Nat×iN)→Nat→Bool
 | [],_=>false
 | (k,_) :: l,c=>cond (Nat.beq k c) true (hD l c)
def r1:Ren→List Nat
 | []=>[]
 | (_,some i) :: l=>i :: r1 l
 | (_,none) :: l=>r1 l
def pJ:List Nat→Bool
 | []=>true
 | x :: l => !(l.any (Nat.beq x))&&pJ l
def Ja:Ren→List Nat
 | []=>[]
 | (k,_) :: l=>k :: Ja l
def r2(r:Ren)(c:Nat)(v:Option Nat):Ren:=match jP r c with
 | none=>(c,v) :: r
 | some _=>r
def Jb(r:Ren):List Nat→List (Nat×Nat)→Ren
 | c :: cs,d :: ds=>Jb (r2 r c (some d.1)) cs ds
 | _,_=>r
def Q5(r:Ren):k9→a_→Ren
 | .ag c,.ag id _=>r2 r c (some id)
 | .ag c,.nil _=>r2 r c none
 | .au c,.ag id _=>r2 r c (some id)
 | .b1 _ dp,.b1 _ ds _ _=>Jb r dp ds
 | .b1 _ (c :: _),.ag id _=>r2 r c (some id)
 | _,_=>r
def Ch(r:Ren):List k9→List a_→Ren
 | c :: cs,x :: xs=>Ch (Q5 r c x) cs xs
 | _,_=>r
def Q6(r:Ren):kD→a7→Ren
 | .cell c,.aT x=>Q5 r c x
 | .cell (.ag c),.kS=>r2 r c none
 | .iC cs,.iC xs=>Ch r cs xs
 | .ptr c,.ptr p=>r2 r c (some p.id)
 | .di dp cs,.di ds xs _=>Ch (Jb r dp ds) cs xs
 | .opt c,.opt id _=>r2 r c (some id)
 | _,_=>r
def Q7(s:aq)(r:Ren):List (Nat×kD)→Ren
 | []=>r
 | (d,t) :: l=>Q7 s (Q6 r t (s.t d)) l
def Q8(r:Ren):List kD→List a7→Ren
 | t :: l,x :: xs=>Q8 (Q6 r t x) l xs
 | _,_=>r
def Jc(s:aq)(r:Ren):List (Nat×iN)→Ren
 | []=>r
 | (c,.var cs) :: l=>Jc s (match jP r c with
   | some (some id)=>(match s.o id with
    | .var _ xs=>Ch r cs xs
    | _=>r)
   | _=>r) l
 | _ :: l=>Jc s r l
def ua(dp:List Nat):List (Nat×Nat):=dp.map fun c=>(c,0)
def qC(r:Ren)(os:List (Nat×iN))(s:aq):k9→a_→Option a_
 | .keep,c=>match c with
  | .int k x=>some (.int k x)
  | .bool b=>some (.bool b)
  | .str x=>some (.str x)
  | _=>none
 | .b1 t dp,c=>cond (dp.all (hD os)&&(borrows s c).all fun d=>dp.any fun c=>ka r c d.1) ((pe s t c).bind fun x=>some (.b1 t (ua dp) none x)) none
 | .ag k,c=>cond (hD os k) (match c with
  | .ag id sub=>cond (ka r k id) (some (.ag k sub)) none
  | .nil _=>cond (t' r k) (some (.ag k none)) none
  | _=>none) none
 | .au k,c=>cond (hD os k) (match c with
  | .ag id sub=>(match s.o id with
   | .row _ _ _ xs=>cond (ka r k id) (some (.ag k (some (eh sub,lz sub xs)))) none
   | _=>none)
  | _=>none) none
def oE(r:Ren)(os:List (Nat×iN))(s:aq):List k9→List a_→Option (List a_)
 | [],[]=>some []
 | c :: cs,x :: xs=>(qC r os s c x).bind fun y=>(oE r os s cs xs).bind fun ys=>some (y :: ys)
 | _,_=>none
def Ci(r:Ren)(os:List (Nat×iN))(s:aq):kD→a7→Option a7
 | .cell c,.aT x=>(qC r os s c x).bind fun y=>some (.aT y)
 | .cell (.ag k),.kS=>cond (hD os k&&t' r k) (some (.aT (.ag k none))) none
 | .cell (.b1 t dp),.kS=>cond (dp.all (hD os)) (some (.aT (.b1 t (ua dp) none []))) none
 | .iC cs,.iC xs=>(oE r os s cs xs).bind fun ys=>some (.iC ys)
 | .ptr k,.ptr p=>cond (hD os k&&ka r k p.id) (some (.ptr { p with id:=k })) none
 | .di dp cs,.di ds xs off=>cond (dp.all (hD os)&&alive s ds&&ds.all fun d=>dp.any fun c=>ka r c d.1) ((oE r os s cs xs).bind fun ys=>some (.di (ua dp) ys off)) none
 | .opt k,.opt id o=>cond (hD os k&&ka r k id) (some (.opt k o)) none
 | .same,.j1=>some .j1
 | .same,.aD=>some .aD
 | .same,.fn f [] []=>some (.fn f [] [])
 | .drop,_=>some .aD
 | _,_=>none
def wV(r:Ren)(os:List (Nat×iN))(s:aq):List kD→List a7→Option (List a7)
 | [],[]=>some []
 | t :: l,x :: xs=>(Ci r os s t x).bind fun v=>(wV r os s l xs).bind fun vs=>some (v :: vs)
 | _,_=>none
def Jd(r:Ren)(os:List (Nat×iN))(s:aq):kD→a7→Option a7
 | .vN a b,.fn f xs ys=>(wV r os s (a.map (kD.di [])) xs).bind fun x=>(wV r os s (b.map (kD.di [])) ys).bind fun y=>some (.fn f x y)
 | t,x=>Ci r os s t x
def Cj(r:Ren)(os:List (Nat×iN))(s:aq):List (Nat×kD)→Option (Nat→a7)
 | []=>some fun _=>.aD
 | (d,t) :: l=>(Jd r os s t (s.t d)).bind fun v=>(Cj r os s l).bind fun f=>some (bU f d v)
def Je(r:Ren)(os:List (Nat×iN))(s:aq)(c:Nat)(t:iN):Option cn :=
 match jP r c with
 | some (some id)=>(match t,s.o id with
  | .row t em,.row u gz _ xs=>cond (ba.beq gz em||xs.isEmpty) ((eG (.sl u) (.sl t) xs).bind fun x=>some (.row t em 0 x)) none
  | .var cs,.var _ xs=>(oE r os s cs xs).bind fun ys=>some (.var 0 ys)
  | _,_=>none)
 | some none=>(match t with
  | .row t em=>some (.row t em 0 [])
  | _=>none)
 | none=>none
def Ck(r:Ren)(os:List (Nat×iN))(s:aq):List (Nat×iN)→Option (Nat→cn)
 | []=>some fun _=>.none
 | (c,t) :: l=>(Je r os s c t).bind fun v=>(Ck r os s l).bind fun f=>some (bU f c v)
def Jf(T:b0)(r:Ren)(s:aq):Option aq :=
 cond (pJ (r1 r)&&pJ (Ja r)) ((Cj r T.os s T.aj).bind fun t=>(Ck r T.os s T.os).bind fun o=>(wV r T.os s T.gs s.g).bind fun g=>some ⟨t,o,g⟩) none
def norm(T:b0)(s:aq):Option aq:=Jf T (Jc s (Q8 (Q7 s [] T.aj) T.gs s.g) T.os) s
section
variable{w0:World}{F0 Z0:ah}{n:cC}{s s0:aq}{a:Act}{w:World}{ι alu:Nat→bH}{Z:ah}{r:Ren}{os:List (Nat×iN)}
def iota(r:Ren)(ι : Nat→bH):Nat→bH:=fun c=>match jP r c with
 | some (some id) => ι id
 | _=>⟨none,0,ah.none⟩
theorem r3{c id:Nat}(h:ka r c id=true):jP r c=some (some id):=by
 unfold ka at h
 split at h
 ·rename_i i hi;rw [hi,Nat.eq_of_beq_eq_true h]
 ·cases h
theorem Q9{c:Nat}(h:t' r c=true):jP r c=some none:=by
 unfold t' at h
 split at h
 ·rename_i hi;exact hi
 ·cases h
theorem Cl{c id:Nat}(h:ka r c id=true):iota r ι c = ι id:=by unfold iota;rw [r3 h]
theorem aa1{c:Nat}(h:t' r c=true):iota r ι c=⟨none,0,ah.none⟩:=by unfold iota;rw [Q9 h]
def mJ(r:Ren)(os:List (Nat×iN))(s s0:aq):Prop:=∀c,(s0.o c=.none∧hD os c=false) ∨
 (∃id,jP r c=some (some id)∧((∃t em oF ver xs,s.o id=.row t oF ver xs∧s0.o c=.row t em 0 xs∧(oF=em∨xs=[]))∨(∃ver cs lW oG,s.o id=.var ver cs∧s0.o c=.var 0 lW∧oE r os s oG cs=some lW))) ∨
 (jP r c=some none∧∃t em,s0.o c=.row t em 0 [])
theorem mJ.known(h:mJ r os s s0){c:Nat}(hc:hD os c=true):LM.known s0 c:=by
 intro h0
 rcases h c with⟨_,h1⟩ | ⟨id,_,⟨t,em,oF,ver,xs,_,h1,_⟩ | ⟨ver,cs,lW,oG,_,h1,_⟩⟩ | ⟨_,t,em,h1⟩
 ·rw [hc] at h1;cases h1
 all_goals rw [h1] at h0;cases h0
theorem mJ.dep(h:mJ r os s s0){c:Nat}(hc:hD os c=true):ew s0 (c,0):=⟨h.known hc,.inr (Nat.zero_le _)⟩
theorem Q_(h:mJ r os s s0){dp:List Nat}(ag:dp.all (hD os)=true):∀d,d∈ua dp→ew s0 d:=by
 intro d jx
 unfold ua at jx
 obtain ⟨c,hc,rfl⟩:=List.mem_map.1 jx
 exact h.dep (List.all_eq_true.1 ag c hc)
theorem Ra{dp:List Nat}{ds:List (Nat×Nat)}(h:∀d,d∈ds→(dp.any fun c=>ka r c d.1)=true):ah.sub (df ι ds) (df (iota r ι) (ua dp)):=by
 rintro b o ⟨d,ag,hf⟩
 obtain ⟨c,hc,ck⟩:=List.any_eq_true.1 (h d ag)
 refine⟨(c,0),List.mem_map.2 ⟨c,hc,rfl⟩,?_⟩
 rw [Cl ck]
 exact hf
theorem Cm(h:Inv w0 F0 Z0 n s a w ι Z)(bO:mJ r os s s0){c:k9}{x y:a_}{v:Value}(hn:qC r os s c x=some y)(hx:cj w Z s ι x v):cj w Z s0 (iota r ι) y v:=by
 cases c with
 | keep =>
  cases x <;> simp only [qC,Option.some.injEq] at hn <;> first | (cases hn;done) | (subst hn;exact hx)
 | b1 t dp =>
  simp only [qC] at hn
  cases hc:(dp.all (hD os)&&(borrows s x).all fun d=>dp.any fun c=>ka r c d.1)
  ·rw [hc] at hn;cases hn
  rw [hc] at hn
  simp only [cond_true] at hn
  simp only [Bool.and_eq_true] at hc
  obtain ⟨xs,hl,hn⟩:=bf hn
  obtain rfl:=aU hn
  obtain ⟨h1,h2,h3⟩:=HB h hl hx
  have kY:=Ra (ι := ι) (r:=r) (dp:=dp) (ds:=borrows s x) fun d ag=>List.all_eq_true.1 hc.2 d ag
  have h4:=ad.al.mono (Z':=Z.or (df (iota r ι) (ua dp))) (fun b o hz=>hz.elim .inl fun h=>.inr (kY b o h)) _ _ (fun _ _ h=>h) h1
  refine⟨Q_ bO hc.1,?_,fun _=>h4,.none⟩
  simp only [ad.al] at h4
  obtain ⟨A,c,hv,_⟩:=h4
  simp only [List.cons.injEq,and_true] at hv
  exact⟨A,_,c,hv⟩
 | ag k =>
  simp only [qC] at hn
  cases hc:hD os k
  ·rw [hc] at hn;cases hn
  rw [hc] at hn
  simp only [cond_true] at hn
  cases x with
  | ag id sub =>
   simp only at hn
   cases ck:ka r k id
   ·rw [ck] at hn;cases hn
   rw [ck] at hn
   obtain rfl:=aU hn
   obtain ⟨h1,A,m,j5,hv,h2⟩:=hx
   refine⟨bO.known hc,A,m,j5,hv,fun t em ver xs bZ=>?_⟩
   rw [Cl ck]
   rcases bO k with⟨h0,_⟩ | ⟨ea,h0,⟨dn,gz,Rb,nk,fU,g1,g2,ge⟩ | ⟨nk,cs,lW,oG,g1,g2,_⟩⟩ | ⟨h0,dn,gz,g2⟩
   ·rw [h0] at bZ;cases bZ
   ·rw [r3 ck] at h0
    injection h0 with h0;injection h0 with h0;subst h0
    rw [g2] at bZ
    simp only [cn.core,cn.row.injEq] at bZ
    obtain ⟨rfl,rfl,rfl,bZ⟩:=bZ
    have:=eq_of_heq bZ;subst this
    exact h2 _ _ _ _ (lD g1)
   ·rw [g2] at bZ;cases bZ
   ·rw [r3 ck] at h0;cases h0
  | nil u =>
   simp only at hn
   cases ck:t' r k
   ·rw [ck] at hn;cases hn
   rw [ck] at hn
   obtain rfl:=aU hn
   have hv:v=.slice none 0 0:=hx
   refine⟨bO.known hc,none,0,0,hv,fun t em ver xs bZ=>?_⟩
   rw [aa1 ck]
   rcases bO k with⟨h0,_⟩ | ⟨ea,h0,_⟩ | ⟨h0,dn,gz,g2⟩
   ·rw [h0] at bZ;cases bZ
   ·rw [Q9 ck] at h0;cases h0
   ·rw [g2] at bZ
    simp only [cn.core,cn.row.injEq] at bZ
    obtain ⟨rfl,rfl,rfl,bZ⟩:=bZ
    have:=eq_of_heq bZ;subst this
    exact⟨rfl,Nat.le_refl _,Nat.le_refl _,Nat.le_refl _,.inl rfl⟩
  | _=>cases hn
 | au k =>
  simp only [qC] at hn
  cases hc:hD os k
  ·rw [hc] at hn;cases hn
  rw [hc] at hn
  simp only [cond_true] at hn
  cases x with
  | ag id sub =>
   simp only at hn
   cases hrow:s.o id with
   | row t2 Yv Yw Yx =>
    rw [hrow] at hn
    simp only at hn
    cases ck:ka r k id
    ·rw [ck] at hn;cases hn
    rw [ck] at hn
    obtain rfl:=aU hn
    obtain ⟨h1,A,m,j5,hv,h2⟩:=hx
    refine⟨bO.known hc,A,m,j5,hv,fun t em ver xs bZ=>?_⟩
    rw [Cl ck]
    rcases bO k with⟨h0,_⟩ | ⟨ea,h0,⟨dn,gz,Rb,nk,fU,g1,g2,ge⟩ | ⟨nk,cs,lW,oG,g1,g2,_⟩⟩ | ⟨h0,dn,gz,g2⟩
    ·rw [h0] at bZ;cases bZ
    ·rw [r3 ck] at h0
     injection h0 with h0;injection h0 with h0;subst h0
     rw [g2] at bZ
     simp only [cn.core,cn.row.injEq] at bZ
     obtain ⟨rfl,rfl,rfl,bZ⟩:=bZ
     have:=eq_of_heq bZ;subst this
     rw [hrow] at g1
     simp only [cn.row.injEq] at g1
     obtain ⟨rfl,rfl,rfl,g1⟩:=g1
     have:=eq_of_heq g1;subst this
     have h3:=h2 _ _ _ _ (lD hrow)
     cases sub with
     | none=>exact⟨h3.OV,h3.fits,h3.le,h3.cap,h3.at_⟩
     | some p=>exact h3
    ·rw [g2] at bZ;cases bZ
    ·rw [r3 ck] at h0;cases h0
   | _=>rw [hrow] at hn;cases hn
  | _=>cases hn
theorem Cn(h:Inv w0 F0 Z0 n s a w ι Z)(bO:mJ r os s s0):∀ {cs:List k9} {xs ys:List a_} {vs:List Value},oE r os s cs xs=some ys→bM w Z s ι xs vs→bM w Z s0 (iota r ι) ys vs
 | [],[],ys,vs,hn,hx=>by
  obtain rfl:=aU hn
  cases vs with
  | nil=>trivial
  | cons=>exact hx.elim
 | [],_ :: _,_,_,hn,_=>by cases hn
 | _ :: _,[],_,_,hn,_=>by cases hn
 | c :: cs,x :: xs,ys,vs,hn,hx=>by
  simp only [oE] at hn
  obtain ⟨y,h1,hn⟩:=bf hn
  obtain ⟨Rc,h2,hn⟩:=bf hn
  obtain rfl:=aU hn
  cases vs with
  | nil=>exact hx.elim
  | cons v vs=>exact⟨Cm h bO h1 hx.1,Cn h bO h2 hx.2⟩
theorem Jg:∀ {cs:List k9} {xs ys:List a_},oE r os s cs xs=some ys→ys.length=xs.length
 | [],[],_,hn=>by obtain rfl:=aU hn;rfl
 | [],_ :: _,_,hn=>by cases hn
 | _ :: _,[],_,hn=>by cases hn
 | c :: cs,x :: xs,ys,hn=>by
  simp only [oE] at hn
  obtain ⟨y,h1,hn⟩:=bf hn
  obtain ⟨Rc,h2,hn⟩:=bf hn
  obtain rfl:=aU hn
  simp [Jg h2]
theorem Rd(bO:mJ r os s s0){k:Nat}{p:Place}{A:Addr}(hc:hD os k=true)(ck:ka r k p.id=true)(au:ju s ι p A):ju s0 (iota r ι) { p with id:=k } A:=by
 obtain ⟨h1,h2⟩:=au
 refine⟨h1,?_⟩
 show match (s0.o k).core with | .var _ cs=>_ | .row t _ _ xs=>_ | _=>_
 rw [Cl ck]
 rcases bO k with⟨h0,_⟩ | ⟨ea,h0,⟨dn,gz,Rb,nk,fU,g1,g2,ge⟩ | ⟨nk,cs,lW,oG,g1,g2,_⟩⟩ | ⟨h0,dn,gz,g2⟩
 ·rw [h0];trivial
 ·rw [r3 ck] at h0
  injection h0 with h0;injection h0 with h0;subst h0
  rw [g2]
  rw [g1] at h2
  exact h2
 ·rw [r3 ck] at h0
  injection h0 with h0;injection h0 with h0;subst h0
  rw [g2]
  rw [g1] at h2
  exact h2
 ·rw [r3 ck] at h0;cases h0
theorem Re(h:Inv w0 F0 Z0 n s a w ι Z)(bO:mJ r os s s0){t:kD}{x y:a7}{v:Value}(hn:Ci r os s t x=some y)(hx:aP w Z s ι x v):aP w Z s0 (iota r ι) y v:=by
 unfold Ci at hn
 split at hn
 ·obtain ⟨z,h1,hn⟩:=bf hn
  obtain rfl:=aU hn
  simp only [aP] at hx ⊢
  exact Cm h bO h1 hx
 ·rename_i k
  cases hc:(hD os k&&t' r k)
  ·rw [hc] at hn;cases hn
  rw [hc] at hn
  simp only [Bool.and_eq_true] at hc
  obtain rfl:=aU hn
  simp only [aP] at hx ⊢
  exact Cm (c:=.ag k) (x:=.nil .bool) h bO (by simp only [qC];rw [hc.1,hc.2];rfl) hx
 ·rename_i t dp
  cases hc:dp.all (hD os)
  ·rw [hc] at hn;cases hn
  rw [hc] at hn
  obtain rfl:=aU hn
  simp only [aP] at hx ⊢
  refine Cm (c:=.b1 t dp) (x:=.nil t) h bO ?_ hx
  simp only [qC,hc,borrows,List.all_nil,Bool.and_true,cond_true]
  simp only [pe,eG]
  rw [dif_pos (ad.beq_refl _)]
  rfl
 ·obtain ⟨z,h1,hn⟩:=bf hn
  obtain rfl:=aU hn
  simp only [aP] at hx ⊢
  obtain ⟨vs,hv,hx⟩:=hx
  exact⟨vs,hv,Cn h bO h1 hx⟩
 ·rename_i k p
  cases hc:(hD os k&&ka r k p.id)
  ·rw [hc] at hn;cases hn
  rw [hc] at hn
  simp only [Bool.and_eq_true] at hc
  obtain rfl:=aU hn
  simp only [aP] at hx ⊢
  obtain ⟨_,A,hv,au⟩:=hx
  exact⟨bO.known hc.1,A,hv,Rd bO hc.1 hc.2 au⟩
 ·rename_i dp cs ds xs off
  cases hc:(dp.all (hD os)&&alive s ds&&ds.all fun d=>dp.any fun c=>ka r c d.1)
  ·rw [hc] at hn;cases hn
  rw [hc] at hn
  simp only [Bool.and_eq_true] at hc
  simp only [cond_true] at hn
  obtain ⟨z,h1,hn⟩:=bf hn
  obtain rfl:=aU hn
  simp only [aP] at hx ⊢
  obtain ⟨_,b,o,vs,hv,hx⟩:=hx
  obtain ⟨g1,g2,g3⟩:=hx hc.1.2
  have kY:=Ra (ι := ι) (r:=r) (dp:=dp) (ds:=ds) fun d ag=>List.all_eq_true.1 hc.2 d ag
  refine⟨Q_ bO hc.1.1,b,o,vs,hv,fun _=>⟨Cn h bO h1 g1,g2,fun j hj=>?_⟩⟩
  rw [Jg h1] at hj
  exact(g3 j hj).elim .inl fun h=>.inr (kY _ _ h)
 ·rename_i k id o
  cases hc:(hD os k&&ka r k id)
  ·rw [hc] at hn;cases hn
  rw [hc] at hn
  simp only [Bool.and_eq_true] at hc
  obtain rfl:=aU hn
  simp only [aP] at hx ⊢
  obtain ⟨_,hx⟩:=hx
  exact⟨bO.known hc.1,hx.imp (fun h=>h) fun⟨h1,A,hv,au⟩=>⟨h1,A,hv,Rd (p:=⟨id,some o.toNat,0⟩) bO hc.1 hc.2 au⟩⟩
 ·obtain rfl:=aU hn
  simpa only [aP] using hx
 ·obtain rfl:=aU hn
  simp only [aP]
 ·obtain rfl:=aU hn
  simpa only [aP,aX] using hx
 ·obtain rfl:=aU hn
  simp only [aP]
 ·cases hn
theorem Co(h:Inv w0 F0 Z0 n s a w ι Z)(bO:mJ r os s s0):∀ {aj:List kD} {xs ys:List a7} {vs:List Value},wV r os s aj xs=some ys→aX w Z s ι xs vs→aX w Z s0 (iota r ι) ys vs
 | [],[],ys,vs,hn,hx=>by obtain rfl:=aU hn;simpa only [aX] using hx
 | [],_ :: _,_,_,hn,_=>by cases hn
 | _ :: _,[],_,_,hn,_=>by cases hn
 | t :: aj,x :: xs,ys,vs,hn,hx=>by
  simp only [wV] at hn
  obtain ⟨y,h1,hn⟩:=bf hn
  obtain ⟨Rc,h2,hn⟩:=bf hn
  obtain rfl:=aU hn
  simp only [aX] at hx ⊢
  obtain ⟨v,bJ,rfl,g1,g2⟩:=hx
  exact⟨v,bJ,rfl,Re h bO h1 g1,Co h bO h2 g2⟩
theorem aa2(h:Inv w0 F0 Z0 n s a w ι Z)(bO:mJ r os s s0){t:kD}{x y:a7}{v:Value}(hn:Jd r os s t x=some y)(hx:aP w Z s ι x v):aP w Z s0 (iota r ι) y v:=by
 unfold Jd at hn
 split at hn
 ·obtain ⟨U,h1,hn⟩:=bf hn
  obtain ⟨alv,h2,hn⟩:=bf hn
  obtain rfl:=aU hn
  simp only [aP] at hx ⊢
  obtain ⟨us,vs,rfl,k1,k2⟩:=hx
  exact⟨us,vs,rfl,Co h bO h1 k1,Co h bO h2 k2⟩
 ·exact Re h bO hn hx
theorem Rf(h:Inv w0 F0 Z0 n s a w ι Z)(bO:mJ r os s s0):∀ {aj:List (Nat×kD)} {f:Nat→a7},Cj r os s aj=some f→∀k,aP w Z s0 (iota r ι) (f k) (a.tmps.getD k undef)
 | [],f,hn,k=>by obtain rfl:=aU hn;simp only [aP]
 | (d,t) :: l,f,hn,k=>by
  simp only [Cj] at hn
  obtain ⟨v,h1,hn⟩:=bf hn
  obtain ⟨g,h2,hn⟩:=bf hn
  obtain rfl:=aU hn
  by_cases hk:d=k
  ·subst hk;rw [cB];exact aa2 h bO h1 (h.tmps d)
  ·rw [cR hk];exact Rf h bO h2 k
theorem aa3{c:Nat}{t:iN}{v:cn}(hn:Je r os s c t=some v) :
  (∃id,jP r c=some (some id)∧((∃t em oF ver xs,s.o id=.row t oF ver xs∧v=.row t em 0 xs∧(oF=em∨xs=[]))∨(∃ver cs lW oG,s.o id=.var ver cs∧v=.var 0 lW∧oE r os s oG cs=some lW)))∨(jP r c=some none∧∃t em,v=.row t em 0 []):=by
 unfold Je at hn
 split at hn
 ·rename_i id hl
  refine .inl ⟨id,hl,?_⟩
  split at hn
  ·rename_i t em u gz ver xs ho
   cases hb:(ba.beq gz em||xs.isEmpty)
   ·rw [hb] at hn;cases hn
   rw [hb] at hn
   obtain ⟨x,h1,hn⟩:=bf hn
   obtain rfl:=aU hn
   simp only [Bool.or_eq_true] at hb
   obtain ⟨e,rfl⟩:=g_ h1
   subst e
   refine .inl ⟨_,_,_,_,_,ho,rfl,?_⟩
   rcases hb with hb | hb
   ·exact .inl (ba.eq_of_beq _ _ hb)
   ·exact .inr (List.isEmpty_iff.1 hb)
  ·rename_i cs ver xs ho
   obtain ⟨ys,h1,hn⟩:=bf hn
   obtain rfl:=aU hn
   exact .inr ⟨_,_,_,_,ho,rfl,h1⟩
  ·cases hn
 ·rename_i hl
  split at hn
  ·obtain rfl:=aU hn;exact .inr ⟨hl,_,_,rfl⟩
  ·cases hn
 ·cases hn
theorem Cp:∀ {l:List (Nat×iN)} {f:Nat→cn},Ck r os s l=some f→∀c,(f c=.none∧hD l c=false) ∨
  (∃id,jP r c=some (some id)∧((∃t em oF ver xs,s.o id=.row t oF ver xs∧f c=.row t em 0 xs∧(oF=em∨xs=[]))∨(∃ver cs lW oG,s.o id=.var ver cs∧f c=.var 0 lW∧oE r os s oG cs=some lW))) ∨
  (jP r c=some none∧∃t em,f c=.row t em 0 [])
 | [],f,hn,c=>by obtain rfl:=aU hn;exact .inl ⟨rfl,rfl⟩
 | (d,t) :: l,f,hn,c=>by
  simp only [Ck] at hn
  obtain ⟨v,h1,hn⟩:=bf hn
  obtain ⟨g,h2,hn⟩:=bf hn
  obtain rfl:=aU hn
  by_cases hk:d=c
  ·subst hk;rw [cB];exact .inr (aa3 h1)
  ·rw [cR hk]
   rcases Cp h2 c with⟨g1,g2⟩ | g
   ·refine .inl ⟨g1,?_⟩
    unfold hD
    have:Nat.beq d c=false:=by
     cases hb:Nat.beq d c
     ·rfl
     ·exact absurd (Nat.eq_of_beq_eq_true hb) hk
    rw [this]
    exact g2
   ·exact .inr g
theorem Jh{c:Nat}{v:Option Nat} : ∀ {r:Ren},jP r c=some v→(c,v)∈r
 | [],h=>by cases h
 | (k,u) :: l,h=>by
  unfold jP at h
  cases hb:Nat.beq k c
  ·rw [hb] at h;exact List.mem_cons_of_mem _ (Jh h)
  ·rw [hb] at h
   obtain rfl:=aU h
   obtain rfl:=Nat.eq_of_beq_eq_true hb
   exact List.mem_cons_self
theorem Rg{c id:Nat} : ∀ {r:Ren},(c,some id)∈r→id∈r1 r
 | (k,u) :: l,h=>by
  rcases List.mem_cons.1 h with h | h
  ·injection h with h1 h2
   subst h1 h2
   exact List.mem_cons_self
  ·have:=Rg h
   cases u with
   | none=>exact this
   | some i=>exact List.mem_cons_of_mem _ this
theorem Ji{c c' id:Nat} : ∀ {r:Ren},pJ (r1 r)=true→(c,some id)∈r→(c',some id)∈r→c=c'
 | (k,u) :: l,hn,h,h'=>by
  cases u with
  | none =>
   simp only [r1] at hn
   rcases List.mem_cons.1 h with h | h
   ·injection h with _ h2;cases h2
   rcases List.mem_cons.1 h' with h' | h'
   ·injection h' with _ h2;cases h2
   exact Ji hn h h'
  | some i =>
   simp only [r1,pJ,Bool.and_eq_true,Bool.not_eq_true'] at hn
   have bS:∀ {x},(x,some i)∈l→False:=by
    intro x hx
    have:=Rg hx
    have h3:=List.any_eq_false.1 hn.1 i this
    simp at h3
   rcases List.mem_cons.1 h with g | g
   ·injection g with h1 h2;injection h2 with h2
    rcases List.mem_cons.1 h' with ub | ub
    ·injection ub with h3 h4;rw [h1,h3]
    ·exact(bS (h2 ▸ ub)).elim
   ·rcases List.mem_cons.1 h' with ub | ub
    ·injection ub with h1 h2;injection h2 with h2
     exact(bS (h2 ▸ g)).elim
    ·exact Ji hn.2 g ub
theorem aa4{T:b0}(wW:n.gc=[])(hn:Jf T r s=some s0)(hs:cX w0 F0 Z0 n s a w):cX w0 F0 Z0 n s0 a w:=by
 obtain ⟨ι,Z,h⟩:=hs
 unfold Jf at hn
 cases hH:(pJ (r1 r)&&pJ (Ja r))
 ·rw [hH] at hn;cases hn
 rw [hH] at hn
 simp only [Bool.and_eq_true] at hH
 simp only [cond_true] at hn
 obtain ⟨aa5,h1,hn⟩:=bf hn
 obtain ⟨bw,h2,hn⟩:=bf hn
 obtain ⟨aa6,h3,hn⟩:=bf hn
 obtain rfl:=aU hn
 have bO:mJ r T.os s ⟨aa5,bw,aa6⟩:=Cp h2
 have live:∀c,(bw c).live→(∃id,jP r c=some (some id)∧(s.o id).live∧iota r ι c = ι id)∨(iota r ι c=⟨none,0,ah.none⟩):=by
  intro c hl
  rcases Cp h2 c with⟨g,_⟩ | ⟨id,g,⟨t,em,oF,ver,xs,g1,g2,ge⟩ | ⟨ver,cs,lW,oG,g1,g2,_⟩⟩ | ⟨g,_⟩
  ·rw [g] at hl;exact hl.elim
  ·exact .inl ⟨id,g,by rw [g1];trivial,by unfold iota;rw [g]⟩
  ·exact .inl ⟨id,g,by rw [g1];trivial,by unfold iota;rw [g]⟩
  ·exact .inr (by unfold iota;rw [g])
 refine⟨iota r ι,Z,h.ext,h.dI,h.rG,h.i',?_,?_,?_,?_,Rf h bO h1,h.size,Co h bO h3 h.ghost,by rw [wW];intro e he;simp at he,h.defers⟩
 ·intro c
  show il w Z _ _ _ (bw c)
  rcases Cp h2 c with⟨g,_⟩ | ⟨id,g,⟨t,em,oF,ver,xs,g1,g2,ge⟩ | ⟨ver,cs,lW,oG,g1,g2,g3⟩⟩ | ⟨g,t,em,g2⟩
  ·rw [g];trivial
  ·rw [g2]
   have:=h.fT id
   rw [g1] at this
   have hi:iota r ι c = ι id:=by unfold iota;rw [g]
   rw [hi]
   rcases ge with rfl | rfl
   ·exact this
   ·rcases this with k | ⟨a0,k1,k2⟩
    ·exact .inl k
    ·obtain ⟨k3,bg,bx,dg,G,da,dL,hg⟩:=k2
     exact .inr ⟨a0,k1,k3,bg,bx,dg,G,trivial,dL,hg⟩
  ·rw [g2]
   have:=h.fT id
   rw [g1] at this
   have hi:iota r ι c = ι id:=by unfold iota;rw [g]
   rw [hi]
   obtain ⟨a0,vs,k1,k2,k3,bg,bx⟩:=this
   exact⟨a0,vs,k1,k2,Cn h bO g3 k3,bg,fun j hj=>bx j (by rw [← Jg g3];exact hj)⟩
  ·rw [g2]
   exact .inl ⟨rfl,by unfold iota;rw [g]⟩
 ·intro c hl b o hf
  rcases live c hl with⟨id,_,g2,g3⟩ | g
  ·rw [g3] at hf;exact h.own id g2 b o hf
  ·rw [g] at hf;exact hf.elim
 ·intro c c' hl gk hne b o hf iI
  rcases live c hl with⟨id,g1,g2,g3⟩ | g
  ·rcases live c' gk with⟨ea,k1,k2,k3⟩ | k
   ·rw [g3] at hf
    rw [k3] at iI
    refine h.apart id ea g2 k2 (fun e=>?_) b o hf iI
    subst e
    exact hne (Ji hH.1 (Jh g1) (Jh k1))
   ·rw [k] at iI;exact iI.elim
  ·rw [g] at hf;exact hf.elim
 ·intro c hl b o hf hz
  rcases live c hl with⟨id,g1,g2,g3⟩ | g
  ·rw [g3] at hf;exact h.c2 id g2 b o hf hz
  ·rw [g] at hf;exact hf.elim
theorem aa7{T:b0}(wW:n.gc=[])(hn:norm T s=some s0)(hs:cX w0 F0 Z0 n s a w):cX w0 F0 Z0 n s0 a w:=aa4 wW hn hs
end
end Go.LM
namespace Go.LM
def Cq:List (Nat×List Item)→Nat→Option (List Item)
 | [],_=>none
 | (k,x) :: l,r=>cond (Nat.beq k r) (some x) (Cq l r)
def Rh(body:Code)(bG:Nat):Option (List Item):=Cq (gQ [.code body]) bG
def yY:List (Nat×List Item)→List Nat
 | []=>[]
 | (k,_) :: l=>k :: yY l
def Jj(body:Code):Bool:=pJ (yY (gQ [.code body]))
theorem Ri{k:Nat}{x:List Item} : ∀ {l:List (Nat×List Item)},(k,x)∈l→k∈yY l
 | (k',bF) :: l,h=>by
  rcases List.mem_cons.1 h with h | h
  ·injection h with h1 h2;rw [h1];exact List.mem_cons_self
  ·exact List.mem_cons_of_mem _ (Ri h)
theorem Rj{k:Nat}{x:List Item} : ∀ {l:List (Nat×List Item)},pJ (yY l)=true→(k,x)∈l→Cq l k=some x
 | (k',bF) :: l,hn,h=>by
  simp only [yY,pJ,Bool.and_eq_true,Bool.not_eq_true'] at hn
  unfold Cq
  rcases List.mem_cons.1 h with h | h
  ·injection h with h1 h2
   rw [h1,Nat.beq_refl,h2]
   rfl
  ·have hne:Nat.beq k' k=false:=by
    have h3:=List.any_eq_false.1 hn.1 k (Ri h)
    cases hb:Nat.beq k' k
    ·rfl
    ·rw [Nat.eq_of_beq_eq_true hb] at h3;simp at h3
   rw [hne]
   exact Rj hn.2 h
section
variable{bu : Type}
def Jk(hI:Nat→Option b0)(k:Nat→aq→Option bu)(bG:Nat)(s:aq):Option bu :=
 match hI bG with
 | some T=>(norm T s).bind (k bG)
 | none=>none
def Jl(hI:Nat→Option b0)(bG:Nat):Bool:=(hI bG).isSome
def Jm(hI:Nat→Option b0)(fin:aq→Option bu)(k:Nat→aq→Option bu):Hand bu :=⟨fun r _ s=>Jk hI k r s,fin⟩
noncomputable def Jn(E:Env)(hI:Nat→Option b0)(body:Code)(fin:aq→Option bu)(k:Nat→aq→Option bu)(bG:Nat)(s:aq):Option bu :=
 match Rh body bG with
 | some todo=>j4 E (Jl hI) (Jm hI fin k) 100000 true todo s
 | none=>none
noncomputable def oH(E:Env)(hI:Nat→Option b0)(body:Code)(fin:aq→Option bu):Nat→Nat→aq→Option bu
 | 0,_,_=>none
 | m+1,bG,s=>Jn E hI body fin (oH E hI body fin m) bG s
end
def uc(E:Env):List ResultVar→aq→Option (List a7)
 | [],_=>some []
 | .tmp t :: l,s=>(uc E l s).bind fun vs=>some (s.t t :: vs)
 | .cell a ty :: l,s =>
  match E.ty ty,s.t a with
  | some T,.ptr p=>((me s T.size p).bind (j2 T)).bind fun v=>(uc E l s).bind fun vs=>some (v :: vs)
  | _,_=>none
def mK(key:Nat):List bA→List a7→List a7
 | .fn mc _ :: _,_ :: l=>[.fn key (l.take mc) (l.drop mc)]
 | .val _ _ :: ps,v :: l | .hR _ :: ps,v :: l | .hQ _ _ :: ps,v :: l | .ref _ :: ps,v :: l | .mut _ _ _ :: ps,v :: l=>v :: mK key ps l
 | _,_=>[]
def Cr:List bA→Bool
 | []=>true
 | .fn mc pc :: l=>Nat.beq l.length (mc+pc)
 | .val _ _ :: l | .hR _ :: l | .hQ _ _ :: l | .ref _ :: l | .mut _ _ _ :: l=>Cr l
def Rk(key:Nat)(e:Entry)(x:(bA.ins e.ps).D):Option aq :=
 (k8 key e.ps x 1099511627776 ⟨fun _=>.aD,fun _=>.none,[]⟩).bind fun q=>some ⟨fun k=>(mK key e.ps q.1).getD k .aD,q.2.1.o,q.1⟩
def pK(E:Env)(fn:Func)(e:Entry)(s:aq):Option (cW.outs e.rs (bA.d' e.ps)).D :=
 (uc E fn.results.toList s).bind fun vs=>hC e.ps s.g e.rs vs s
noncomputable def wX(E:Env)(fn:Func)(body:Code)(hI:Nat→Option b0)(key:Nat)(e:Entry)(k:Nat→aq→Option (cW.outs e.rs (bA.d' e.ps)).D)(x:(bA.ins e.ps).D):Option (cW.outs e.rs (bA.d' e.ps)).D :=
 (Rk key e x).bind fun s=>j4 E (Jl hI) (Jm hI (pK E fn e) k) 100000 false [.code body] s
section
variable{P:Program}{w0:World}{F0 Z0:ah}{n:cC}{s ar:aq}{a b7:Act}{w w':World}{ι bb:Nat→bH}{Z Z':ah}{E:Env}{bu : Type}{r : bu}
def aa8(w0:World)(F0 Z0:ah)(n:cC)(fin:aq→Option bu)(r : bu)(todo:List Item)(a:Act)(w:World):Prop :=
 (todo=[]∨∃k,todo=.code .ret :: k)∧∃s,fin s=some r∧cX w0 F0 Z0 n s a w
theorem Rl{hI:Nat→Option b0}{body:Code}{fin:aq→Option bu}(bO:jN P E)(hn:E.n=n)(wW:n.gc=[])(hu:Jj body=true):∀(m:Nat) (fuel:Nat) (first:Bool) (todo:List Item) (s:aq) (a:Act) (w:World),
  (∀p,p∈gQ todo→p∈gQ [.code body])→j4 E (Jl hI) (Jm hI fin (oH E hI body fin m)) fuel first todo s=some r→cX w0 F0 Z0 n s a w→∀(b:Frame) (cs:List Frame),
  ∃pI b7 w',aa8 w0 F0 Z0 n fin r pI b7 w'∧Steps P (lone (b.at a todo) cs w) (lone (b.at b7 pI) cs w')
 | m,fuel,first,todo,s,a,w,hc,hk,hs,b,cs=>by
  obtain ⟨t1,s1,a1,kB,h1,h2,h3,h4⟩:=Q1 bO hn fuel first todo s a w hk hs b cs
  rcases h2 with⟨bG,ops,ik,k,rfl,iv,qB⟩ | ⟨lX,hfin⟩
  ·have yZ:Jk hI (oH E hI body fin m) bG s1=some r:=qB
   unfold Jk at yZ
   cases bX:hI bG with
   | none=>rw [bX] at yZ;cases yZ
   | some T =>
    rw [bX] at yZ
    obtain ⟨s2,g1,g2⟩:=bf yZ
    have oq:=aa7 wW g1 h1
    cases m with
    | zero=>cases g2
    | succ m =>
     unfold oH Jn at g2
     have jy:(bG,(.code (.region bG ops ik) :: k:List Item))∈gQ [.code body]:=hc _ (h3 _ (by simp [gQ,lV]))
     have aa9:Rh body bG=some (.code (.region bG ops ik) :: k):=Rj hu jy
     rw [aa9] at g2
     simp only at g2
     obtain ⟨dn,b7,w',c7,eJ⟩:=Rl bO hn wW hu m 100000 true _ s2 a1 kB (fun p au=>hc p (h3 p au)) g2 oq b cs
     exact⟨dn,b7,w',c7,h4.trans eJ⟩
  ·exact⟨t1,a1,kB,⟨lX,s1,hfin,h1⟩,h4⟩
theorem mL{α : Type} : ∀x:Sem α,x.bind .pure=x
 | .pure a=>rfl
 | .load m a k=>by simp only [Sem.bind];exact congrArg _ (funext fun v=>mL (k v))
 | .store m a v k=>by simp only [Sem.bind];exact congrArg _ (mL k)
 | .new o k=>by simp only [Sem.bind];exact congrArg _ (funext fun v=>mL (k v))
 | .shape r k=>by simp only [Sem.bind];exact congrArg _ (funext fun v=>mL (k v))
 | .freeze a n k=>by simp only [Sem.bind];exact congrArg _ (mL k)
 | .frozen a k=>by simp only [Sem.bind];exact congrArg _ (funext fun v=>mL (k v))
 | .getObj r k=>by simp only [Sem.bind];exact congrArg _ (funext fun v=>mL (k v))
 | .setObj r o k=>by simp only [Sem.bind];exact congrArg _ (mL k)
 | .choose q k=>by simp only [Sem.bind];exact congrArg _ (funext fun v=>mL (k v))
 | .sys c k=>by simp only [Sem.bind];exact congrArg _ (funext fun v=>mL (k v))
 | .program k=>by simp only [Sem.bind];exact congrArg _ (funext fun v=>mL (k v))
 | .mark m k=>by simp only [Sem.bind];exact congrArg _ (mL k)
 | .halt h=>rfl
theorem mM{α β aa_ : Type}(f : α → Sem β)(g : β → Sem aa_):∀x:Sem α,(x.bind f).bind g=x.bind fun a=>(f a).bind g
 | .pure a=>rfl
 | .load m a k=>by simp only [Sem.bind];exact congrArg _ (funext fun v=>mM f g (k v))
 | .store m a v k=>by simp only [Sem.bind];exact congrArg _ (mM f g k)
 | .new o k=>by simp only [Sem.bind];exact congrArg _ (funext fun v=>mM f g (k v))
 | .shape r k=>by simp only [Sem.bind];exact congrArg _ (funext fun v=>mM f g (k v))
 | .freeze a n k=>by simp only [Sem.bind];exact congrArg _ (mM f g k)
 | .frozen a k=>by simp only [Sem.bind];exact congrArg _ (funext fun v=>mM f g (k v))
 | .getObj r k=>by simp only [Sem.bind];exact congrArg _ (funext fun v=>mM f g (k v))
 | .setObj r o k=>by simp only [Sem.bind];exact congrArg _ (mM f g k)
 | .choose q k=>by simp only [Sem.bind];exact congrArg _ (funext fun v=>mM f g (k v))
 | .sys c k=>by simp only [Sem.bind];exact congrArg _ (funext fun v=>mM f g (k v))
 | .program k=>by simp only [Sem.bind];exact congrArg _ (funext fun v=>mM f g (k v))
 | .mark m k=>by simp only [Sem.bind];exact congrArg _ (mM f g k)
 | .halt h=>rfl
instance:LawfulMonad Sem:=LawfulMonad.mk' Sem (fun x=>mL x) (fun _ _=>rfl) (fun x f g=>mM f g x)
theorem Rm{α : Type}{f : α → Sem Value} : ∀ {as:List α} {vs:List Value},vs.length=as.length→(∀i (hi:i<as.length) (c4:i<vs.length),(f as[i]).run P w=.ok vs[i] w)→(as.mapM f).run P w=.ok vs w
 | [],[],_,_=>by rw [List.mapM_nil];exact run_pure _ _
 | [],_ :: _,h,_=>by simp at h
 | _ :: _,[],h,_=>by simp at h
 | x :: as,v :: vs,hl,h=>by
  have h0:=h 0 (by simp) (by simp)
  simp only [List.getElem_cons_zero] at h0
  rw [List.mapM_cons,run_bind,h0]
  simp only [run_bind]
  rw [Rm (as:=as) (vs:=vs) (by simpa using hl) fun i hi c4=>h (i+1) (by simpa using hi) (by simpa using c4)]
  simp only [run_pure]
theorem aa'{α : Type}{f : α → Sem Value}{as:Array α}{vs:List Value}(hl:vs.length=as.size)(h:∀i (hi:i<as.toList.length) (c4:i<vs.length),(f as.toList[i]).run P w=.ok vs[i] w) :
  (as.mapM f).run P w=.ok vs.toArray w:=by
 rw [Array.mapM_eq_mapM_toList,map_eq_pure_bind,run_bind,Rm (by simpa using hl) h]
 rfl
theorem Jo(bX:g' P E)(h:Inv w0 F0 Z0 n s a w ι Z):∀ {l:List ResultVar} {vs:List a7},uc E l s=some vs →
  ∃us,us.length=l.length∧aX w Z s ι vs us∧∀i (hi:i<l.length) (c4:i<us.length),((fun | .tmp t=>pure (a.tmps.getD t undef) | .cell b t=>do loadVar t (← asAddr (a.tmps.getD b undef)):ResultVar→Sem Value) l[i]).run P w=.ok us[i] w
 | [],vs,hr=>by
  obtain rfl:=aU hr
  exact⟨[],rfl,by simp only [aX],fun i hi=>by simp at hi⟩
 | .tmp t :: l,vs,hr=>by
  simp only [uc] at hr
  obtain ⟨bJ,h1,hr⟩:=bf hr
  obtain rfl:=aU hr
  obtain ⟨us,g1,g2,g3⟩:=Jo bX h h1
  refine⟨_ :: us,by simp [g1],by simp only [aX];exact⟨_,_,rfl,h.tmps t,g2⟩,fun i hi c4=>?_⟩
  cases i with
  | zero=>rfl
  | succ i=>exact g3 i (by simpa using hi) (by simpa using c4)
 | .cell b ty :: l,vs,hr=>by
  simp only [uc] at hr
  cases ht:E.ty ty with
  | none=>rw [ht] at hr;simp at hr
  | some T =>
   rw [ht] at hr
   cases au:s.t b with
   | ptr p =>
    rw [au] at hr
    simp only at hr
    obtain ⟨v,hv,hr⟩:=bf hr
    obtain ⟨bJ,h1,hr⟩:=bf hr
    obtain rfl:=aU hr
    obtain ⟨cs,k1,k2⟩:=bf hv
    obtain ⟨us,g1,g2,g3⟩:=Jo bX h h1
    have hx:=h.tmps b
    rw [au] at hx
    simp only [aP] at hx
    obtain ⟨_,A,he,fH⟩:=hx
    obtain ⟨cO,i0,ws,rfl,hc,ck,hlen⟩:=yn h k1 fH
    refine⟨dK T ws :: us,by simp [g1],by simp only [aX];exact⟨_,_,rfl,pq k2 hc,g2⟩,fun i hi c4=>?_⟩
    cases i with
    | zero =>
     show(do loadVar ty (← asAddr (a.tmps.getD b undef)):Sem Value).run P w=_
     rw [run_bind,he]
     show(loadVar ty (at_ cO i0)).run P w=_
     exact HO (bX.ty ty T ht) ck hlen
    | succ i=>exact g3 i (by simpa using hi) (by simpa using c4)
   | _=>rw [au] at hr;simp at hr
theorem aba{fn:Func}{vs:List a7}(bX:g' P E)(h:Inv w0 F0 Z0 n s a w ι Z)(hr:uc E fn.results.toList s=some vs) :
  ∃us,aX w Z s ι vs us∧(results fn a.tmps).run P w=.ok (ou us) w:=by
 obtain ⟨us,h1,h2,h3⟩:=Jo bX h hr
 refine⟨us,h2,?_⟩
 unfold results
 rw [run_bind,aa' (vs:=us) (by simpa using h1) (fun i hi c4=>by
  have:=h3 i hi c4
  revert this
  cases fn.results.toList[i] <;> exact fun h=>h)]
 simp only
 rw [run_pure]
 congr 1
 unfold ou
 split
 ·rename_i hs
  match us,hs with
  | [v],_=>rfl
  | [],hs=>simp at hs
  | _ :: _ :: _,hs=>simp at hs
 ·rename_i hs
  match us,hs with
  | [v],hs=>simp at hs
  | [],_=>rfl
  | _ :: _ :: _,_=>rfl
theorem abb(us:List Value)(m k:Nat):((us.toArray++Array.replicate m undef).getD k undef)=us.getD k undef:=by
 rw [Array.getD_eq_getD_getElem?,List.getD_eq_getElem?_getD]
 by_cases hk:k<us.length
 ·rw [Array.getElem?_append_left (by simpa using hk)];simp
 ·rw [Array.getElem?_append_right (by simpa using Nat.le_of_not_lt hk)]
  rw [List.getElem?_eq_none (by omega)]
  simp only [List.size_toArray,Option.getD_none]
  by_cases eb:k-us.length<m
  ·rw [Array.getElem?_eq_getElem (by simpa using eb)];simp
  ·rw [Array.getElem?_eq_none (by simpa using Nat.le_of_not_lt eb)];rfl
theorem aX.getD:∀ {xs:List a7} {us:List Value},aX w Z s ι xs us→∀k,aP w Z s ι (xs.getD k .aD) (us.getD k undef)
 | [],us,h,k=>by simp only [List.getD_nil,aP]
 | x :: xs,us,h,k=>by
  simp only [aX] at h
  obtain ⟨u,aS,rfl,h1,h2⟩:=h
  cases k with
  | zero=>exact h1
  | succ k=>exact aX.getD h2 k
theorem aX.len:∀ {xs:List a7} {us:List Value},aX w Z s ι xs us→us.length=xs.length
 | [],us,h=>by simp only [aX] at h;rw [h];rfl
 | x :: xs,us,h=>by
  simp only [aX] at h
  obtain ⟨u,aS,rfl,h1,h2⟩:=h
  simp [aX.len h2]
theorem Cs:∀ {t:ad} {m:ba} {x:t.D} {vs us:List Value} {F:ah},t.al w Z m x vs F→gf (dK t vs :: us)=gf us
 | .int k,_,_,_,_,_,h=>by simp only [ad.al] at h;subst h;rfl
 | .bool,_,_,_,_,_,h=>by simp only [ad.al] at h;subst h;rfl
 | .str,_,_,_,_,_,h=>by simp only [ad.al] at h;obtain ⟨b,rfl,_⟩:=h;rfl
 | .raw,_,_,_,_,_,h=>by simp only [ad.al] at h;obtain ⟨rfl,_,_,_,rfl⟩:=h;rfl
 | .sl t,.O e,_,_,_,_,h=>by simp only [ad.al] at h;obtain ⟨A,c,rfl,_⟩:=h;rfl
 | .sl t,.R,_,_,_,_,h=>by simp only [ad.al] at h;obtain ⟨A,c,rfl,_⟩:=h;rfl
 | .sl t,.S _,_,_,_,_,h=>by simp only [ad.al] at h;obtain ⟨A,c,rfl,_⟩:=h;rfl
 | .st aj,_,_,_,_,_,_=>rfl
theorem r4{key:Nat} : ∀(ps:List bA) (x:(bA.ins ps).D) (eK:List Value) (F:ah),gB w Z key ps x eK F→eK.length=ps.length
 | [],x,eK,F,h=>by rw [show eK=[] from h];rfl
 | .fn _ _ :: ps,x,eK,F,h=>by obtain ⟨a,b,aS,rfl,_,h2⟩:=h;simp [r4 ps x aS F h2]
 | .val _ _ :: ps,x,eK,F,h=>by obtain ⟨v,aS,G,H,rfl,_,h2,_⟩:=h;simp [r4 ps _ _ _ h2]
 | .hR _ :: ps,x,eK,F,h=>by obtain ⟨v,aS,G,H,rfl,_,h2,_⟩:=h;simp [r4 ps _ _ _ h2]
 | .hQ _ _ :: ps,x,eK,F,h=>by obtain ⟨v,aS,G,H,rfl,_,h2,_⟩:=h;simp [r4 ps _ _ _ h2]
 | .ref _ :: ps,x,eK,F,h=>by obtain ⟨b,o,v,aS,rfl,_,_,_,h2⟩:=h;simp [r4 ps _ _ _ h2]
 | .mut _ _ _ :: ps,x,eK,F,h=>by obtain ⟨b,o,v,aS,G,H,rfl,_,_,_,h2,_⟩:=h;simp [r4 ps _ _ _ h2]
theorem aX.split:∀ {q:List a7} {l k:List Value},aX w Z s ι q (l++k)→aX w Z s ι (q.take l.length) l∧aX w Z s ι (q.drop l.length) k
 | q,[],k,h=>by simp only [List.length_nil,List.take_zero,List.drop_zero,aX];exact⟨trivial,h⟩
 | [],u :: l,k,h=>by simp [aX] at h
 | v :: q,u :: l,k,h=>by
  simp only [List.cons_append,aX] at h
  obtain ⟨hp,us2,he,k1,k2⟩:=h
  injection he with e3 fY
  subst e3 fY
  obtain ⟨h1,h2⟩:=aX.split (q:=q) (l:=l) (k:=k) k2
  refine⟨?_,?_⟩
  ·simp only [List.length_cons,List.take_succ_cons,aX];exact⟨_,l,rfl,k1,h1⟩
  ·simpa only [List.length_cons,List.drop_succ_cons] using h2
theorem wY{key:Nat} : ∀(ps:List bA) (x:(bA.ins ps).D) (eK us:List Value) (F:ah) (q:List a7),Cr ps=true→gB w Z key ps x eK F→eK=us++gf us→aX w Z s ι q eK→aX w Z s ι (mK key ps q) us
 | [],x,eK,us,F,q,_,hA,gP,hq=>by
  have hA:eK=[]:=hA
  subst hA
  obtain ⟨rfl,_⟩:=List.append_eq_nil_iff.1 gP.symm
  cases q <;> simp only [mK,aX]
 | .fn mc pc :: ps,x,eK,us,F,q,cd,hA,gP,hq=>by
  obtain ⟨a,b,aS,rfl,⟨ha,hb⟩,h2⟩:=hA
  have hl:=r4 _ _ _ _ h2
  have alw:=Nat.eq_of_beq_eq_true cd
  cases us with
  | nil=>cases gP
  | cons u us =>
   injection gP with e1 e2
   subst e1
   have hz:us=[]:=by
    have:=congrArg List.length e2
    simp [gf] at this
    exact List.length_eq_zero_iff.1 (by omega)
   subst hz
   simp only [gf,List.nil_append,List.append_nil] at e2
   subst e2
   cases q with
   | nil=>simp [aX] at hq
   | cons v q =>
    simp only [aX] at hq
    obtain ⟨hp,us2,he,_,k2⟩:=hq
    injection he with e3 fY
    subst e3 fY
    obtain ⟨k3,bg⟩:=aX.split (l:=a.toList) (k:=b.toList) k2
    simp only [mK,aX,aP]
    rw [Array.length_toList,ha] at k3 bg
    exact⟨_,[],rfl,⟨a.toList,b.toList,by simp,k3,bg⟩,rfl⟩
 | .val t m :: ps,x,eK,us,F,q,cd,hA,gP,hq=>by
  obtain ⟨vs,aS,G,H,rfl,h1,h2,_⟩:=hA
  cases us with
  | nil=>cases gP
  | cons u us =>
   injection gP with e1 e2
   subst e1
   rw [Cs h1] at e2
   cases q with
   | nil=>simp [aX] at hq
   | cons v q =>
    simp only [aX] at hq
    obtain ⟨hp,us2,he,k1,k2⟩:=hq
    injection he with e3 fY
    subst e3 fY
    simp only [mK,aX]
    exact⟨_,us,rfl,k1,wY ps x.2 _ us _ q cd h2 e2 k2⟩
 | .hR t :: ps,x,eK,us,F,q,cd,hA,gP,hq=>by
  obtain ⟨vs,aS,G,H,rfl,h1,h2,_⟩:=hA
  cases us with
  | nil=>cases gP
  | cons u us =>
   injection gP with e1 e2
   subst e1
   rw [Cs h1] at e2
   cases q with
   | nil=>simp [aX] at hq
   | cons v q =>
    simp only [aX] at hq
    obtain ⟨hp,us2,he,k1,k2⟩:=hq
    injection he with e3 fY
    subst e3 fY
    simp only [mK,aX]
    exact⟨_,us,rfl,k1,wY ps x.2 _ us _ q cd h2 e2 k2⟩
 | .hQ t m :: ps,x,eK,us,F,q,cd,hA,gP,hq=>by
  obtain ⟨vs,aS,G,H,rfl,h1,h2,_⟩:=hA
  cases us with
  | nil=>cases gP
  | cons u us =>
   injection gP with e1 e2
   subst e1
   rw [Cs h1] at e2
   cases q with
   | nil=>simp [aX] at hq
   | cons v q =>
    simp only [aX] at hq
    obtain ⟨hp,us2,he,k1,k2⟩:=hq
    injection he with e3 fY
    subst e3 fY
    simp only [mK,aX]
    exact⟨_,us,rfl,k1,wY ps x.2 _ us _ q cd h2 e2 k2⟩
 | .ref t :: ps,x,eK,us,F,q,cd,hA,gP,hq=>by
  obtain ⟨b,o,vs,aS,rfl,_,_,_,h2⟩:=hA
  cases us with
  | nil=>cases gP
  | cons u us =>
   injection gP with e1 e2
   subst e1
   have e2:aS=us++gf us:=e2
   cases q with
   | nil=>simp [aX] at hq
   | cons v q =>
    simp only [aX] at hq
    obtain ⟨hp,us2,he,k1,k2⟩:=hq
    injection he with e3 fY
    subst e3 fY
    simp only [mK,aX]
    exact⟨_,us,rfl,k1,wY ps x.2 _ us _ q cd h2 e2 k2⟩
 | .mut t m m' :: ps,x,eK,us,F,q,cd,hA,gP,hq=>by
  obtain ⟨b,o,vs,aS,G,H,rfl,_,_,_,h2,_⟩:=hA
  cases us with
  | nil=>cases gP
  | cons u us =>
   injection gP with e1 e2
   subst e1
   have e2:aS=us++gf us:=e2
   cases q with
   | nil=>simp [aX] at hq
   | cons v q =>
    simp only [aX] at hq
    obtain ⟨hp,us2,he,k1,k2⟩:=hq
    injection he with e3 fY
    subst e3 fY
    simp only [mK,aX]
    exact⟨_,us,rfl,k1,wY ps x.2 _ us _ q cd h2 e2 k2⟩
theorem Rn{f key:Nat}{fn:Func}{body:Code}{e:Entry}{hI:Nat→Option b0}(bO:jN P E)(hf:P.funcs[f]?=some fn)(hb:fn.body=some body)(jg:(fn.name == "runtime.NumGoroutine")=false)
  (hn:Nat.beq E.n fn.ntmps=true) (Ct:Cr e.ps=true) (hlen:Nat.ble e.ps.length fn.ntmps=true) (hu:Jj body=true)
  (hF:∀x r,e.f x=some r→∃m,wX E fn body hI key e (oH E hI body (pK E fn e) m) x=some r):Sound P f key e:=by
 refine⟨⟨fn,hf,by rw [hb];rfl,jg⟩,fun w Z F x us r hZ IH hap hA hx=>?_⟩
 obtain ⟨m,hm⟩:=hF x r hx
 unfold wX at hm
 obtain ⟨st,hst,hm⟩:=bf hm
 unfold Rk at hst
 obtain ⟨q,hq,hst⟩:=bf hst
 obtain rfl:=aU hst
 have qp:=r4 _ _ _ _ hA
 rw [List.length_append] at qp
 have hle:=Nat.le_of_ble_eq_true hlen
 let a0:Act := { tmps:=us.toArray++Array.replicate (fn.ntmps-us.toArray.size) undef,defers:=[] }
 have hsz:a0.tmps.size=fn.ntmps:=by simp [a0];omega
 have abc:Inv w F Z ⟨fn.ntmps,[],[]⟩ ⟨fun _=>.aD,fun _=>.none,[]⟩ a0 w (fun _=>⟨none,0,ah.none⟩) Z:=Inv.start hZ hsz rfl
 obtain ⟨dA,i1,held,cM,nz⟩:=tZ e.ps x (us++gf us) _ _ _ F q hq abc hA ⟨fun b o h=>⟨.inl h,IH b o h⟩,fun _ h=>h.elim,hap⟩
 have hinv:Inv w F Z ⟨fn.ntmps,us++gf us,[]⟩ ⟨fun k=>(mK key e.ps q.1).getD k .aD,q.2.1.o,q.1⟩ a0 w dA Z:=by
  have hm:eI w Z q.2.1 dA w Z ⟨fun k=>(mK key e.ps q.1).getD k .aD,q.2.1.o,q.1⟩ dA:=Hy rfl
  exact⟨i1.ext,i1.dI,i1.rG,i1.i',fun id=>il.move hm (id:=id) (fun _=>⟨rfl,rfl⟩) rfl (i1.fT id),i1.own,i1.apart,i1.c2,
   fun k=>by
    show aP w Z _ dA ((mK key e.ps q.1).getD k .aD) ((us.toArray++Array.replicate (fn.ntmps-us.toArray.size) undef).getD k undef)
    rw [abb]
    exact(aX.move hm (wY e.ps x _ us F q.1 Ct hA rfl cM)).getD k,hsz,aX.move hm cM,fun e he=>by simp at he,rfl⟩
 intro cs
 let cO:Frame := { (default:Frame) with fn:=f,kind:=.normal }
 have abd:Frame.enter P f us.toArray .normal=cO.at a0 [.code body]:=by
  simp [Frame.enter,Frame.at,hf,hb,cO,a0]
 obtain ⟨dn,b7,w',⟨lX,ar,hfin,bb,Z',c4⟩,Ro⟩:=Rl (n:=⟨fn.ntmps,us++gf us,[]⟩) bO (Nat.eq_of_beq_eq_true hn) rfl hu m 100000 false [.code body] _ a0 w (fun _ h=>h) hm ⟨dA,Z,hinv⟩ cO cs
 unfold pK at hfin
 obtain ⟨vs,hvs,hfin⟩:=bf hfin
 obtain ⟨dr,hr1,gK⟩:=aba bO.ty c4 hvs
 obtain ⟨s2,dO,bN,mD,eX,B4,IT,Qv⟩:=wU e.rs vs dr ar Z' r hfin c4 c4.ghost hr1
 have Cu:Ends w Z F e us r (ou dr) w':=by
  refine⟨dr,bN,dO,rfl,c4.ext,mD.rG,fun b o hz=>?_,fun b o hf=>?_,B4.c2,IT⟩
  ·rcases mD.dI b o hz with h1 | h1 | h1
   ·exact .inl h1
   ·exact .inr ⟨.inl h1,mD.i' b o hz⟩
   ·exact .inr ⟨.inr h1,mD.i' b o hz⟩
  ·exact B4.own b o hf
 rw [abd]
 rcases lX with rfl | ⟨k,rfl⟩
 ·exact⟨.returned (ou dr),w',_,⟨_,rfl,Cu⟩,Steps.trans Ro (.one step_end),rfl,rfl,c4.defers,rfl,fn,hf,gK⟩
 ·exact⟨.returned (ou dr),w',_,⟨_,rfl,Cu⟩,Steps.trans Ro (.one step_ret),rfl,rfl,c4.defers,rfl,fn,hf,gK⟩
end
end Go.LM
namespace Go.LM
mutual
def ad.r5(P:Program):ad→TypeId→Bool
 | .int _,_=>true
 | .bool,_=>true
 | .str,_=>true
 | .sl _,_=>false
 | .raw,_=>false
 | .st aj,id => !P.stoodInHeld id&&match P.underlying id with | some (.struct cp)=>aj.Cv P cp.toList | _=>false
def ax.Cv(P:Program):ax→List Field→Bool
 | .nil,_=>true
 | .cons t aj,cp=>match cp with
  | f :: lI=>decide (f.name ≠ "_")&&t.r5 P f.type&&aj.Cv P lI
  | []=>false
end
mutual
def ad.deep:ad→Nat
 | .st aj=>aj.deep+1
 | _=>1
def ax.deep:ax→Nat
 | .nil=>0
 | .cons t aj=>t.deep+aj.deep
end
section
variable{P:Program}{w:World}{Z:ah}{s:aq}{ι : Nat→bH}
theorem abe{k:IntKind}{cs ds:List a_}{r:Bool×List a_×List a_}(h:(ad.int k).cmp cs ds=some r):∃x a y b,cs=.int k x :: a∧ds=.int k y :: b∧r=(x==y,a,b):=by
 cases cs with
 | nil=>simp [ad.cmp] at h
 | cons c a=>cases ds with
  | nil=>cases c <;> simp [ad.cmp] at h
  | cons d b =>
   cases c <;> cases d <;> simp only [ad.cmp] at h <;> first | (cases h;done) | skip
   rename_i k1 x k2 y
   cases hk:(Nat.beq (dq k1) (dq k)&&Nat.beq (dq k2) (dq k))
   ·rw [hk] at h;cases h
   rw [hk] at h
   simp only [Bool.and_eq_true] at hk
   obtain rfl:=tk (Nat.eq_of_beq_eq_true hk.1)
   obtain rfl:=tk (Nat.eq_of_beq_eq_true hk.2)
   exact⟨x,a,y,b,rfl,rfl,(aU h).symm⟩
theorem abf{cs ds:List a_}{r:Bool×List a_×List a_}(h:ad.bool.cmp cs ds=some r):∃x a y b,cs=.bool x :: a∧ds=.bool y :: b∧r=(x==y,a,b):=by
 cases cs with
 | nil=>simp [ad.cmp] at h
 | cons c a=>cases ds with
  | nil=>cases c <;> simp [ad.cmp] at h
  | cons d b =>
   cases c <;> try (simp [ad.cmp] at h;done)
   cases d <;> try (simp [ad.cmp] at h;done)
   simp only [ad.cmp] at h
   exact⟨_,a,_,b,rfl,rfl,(aU h).symm⟩
theorem abg{cs ds:List a_}{r:Bool×List a_×List a_}(h:ad.str.cmp cs ds=some r):∃x a y b,cs=.str x :: a∧ds=.str y :: b∧r=(bs x y,a,b):=by
 cases cs with
 | nil=>simp [ad.cmp] at h
 | cons c a=>cases ds with
  | nil=>cases c <;> simp [ad.cmp] at h
  | cons d b =>
   cases c <;> try (simp [ad.cmp] at h;done)
   cases d <;> try (simp [ad.cmp] at h;done)
   simp only [ad.cmp] at h
   exact⟨_,a,_,b,rfl,rfl,(aU h).symm⟩
theorem Jp{c c':a_}{a b:List a_}{us vs:List Value}(h1:bM w Z s ι (c :: a) us)(h2:bM w Z s ι (c' :: b) vs) :
  ∃u us2 v vs2,us=u :: us2∧vs=v :: vs2∧cj w Z s ι c u∧cj w Z s ι c' v∧bM w Z s ι a us2∧bM w Z s ι b vs2:=by
 cases us with
 | nil=>exact h1.elim
 | cons u us=>cases vs with
  | nil=>exact h2.elim
  | cons v vs=>exact⟨u,us,v,vs,rfl,rfl,h1.1,h2.1,h1.2,h2.2⟩
mutual
theorem ad.y0:∀(t:ad) (id:TypeId) (d:Nat) {cs ds:List a_} {r:Bool×List a_×List a_} {us vs:List Value},t.ok P id→t.r5 P id=true→t.deep≤d→t.cmp cs ds=some r →
  bM w Z s ι cs us→bM w Z s ι ds vs→∃us1 us2 vs1 vs2,us=us1++us2∧vs=vs1++vs2∧us1.length=t.size∧vs1.length=t.size∧bM w Z s ι r.2.1 us2∧bM w Z s ι r.2.2 vs2 ∧
   (Op.equalIn d id (dK t us1) (dK t vs1)).run P w=.ok r.1 w
 | .int k,id,0,cs,ds,r,us,vs,ho,hc,ag,h,h1,h2=>by simp [ad.deep] at ag
 | .int k,id,d+1,cs,ds,r,us,vs,ho,hc,ag,h,h1,h2=>by
  simp only [ad.ok] at ho
  obtain ⟨x,a,y,b,rfl,rfl,rfl⟩:=abe h
  obtain ⟨u,us2,v,vs2,rfl,rfl,e1,e2,g1,g2⟩:=Jp h1 h2
  simp only [cj] at e1 e2
  subst e1 e2
  exact⟨[_],us2,[_],vs2,rfl,rfl,rfl,rfl,g1,g2,run_equalIn_int w d id _ _ x y ho.1⟩
 | .bool,id,0,cs,ds,r,us,vs,ho,hc,ag,h,h1,h2=>by simp [ad.deep] at ag
 | .bool,id,d+1,cs,ds,r,us,vs,ho,hc,ag,h,h1,h2=>by
  simp only [ad.ok] at ho
  obtain ⟨x,a,y,b,rfl,rfl,rfl⟩:=abf h
  obtain ⟨u,us2,v,vs2,rfl,rfl,e1,e2,g1,g2⟩:=Jp h1 h2
  simp only [cj] at e1 e2
  subst e1 e2
  exact⟨[_],us2,[_],vs2,rfl,rfl,rfl,rfl,g1,g2,run_equalIn_bool w d id x y ho.1⟩
 | .str,id,0,cs,ds,r,us,vs,ho,hc,ag,h,h1,h2=>by simp [ad.deep] at ag
 | .str,id,d+1,cs,ds,r,us,vs,ho,hc,ag,h,h1,h2=>by
  simp only [ad.ok] at ho
  obtain ⟨x,a,y,b,rfl,rfl,rfl⟩:=abg h
  obtain ⟨u,us2,v,vs2,rfl,rfl,e1,e2,g1,g2⟩:=Jp h1 h2
  obtain ⟨wj,rfl,rfl⟩:=e1
  obtain ⟨wk,rfl,rfl⟩:=e2
  refine⟨[_],us2,[_],vs2,rfl,rfl,rfl,rfl,g1,g2,?_⟩
  rw [← Pq]
  exact run_equalIn_string w d id wj wk ho.1
 | .raw,id,d,cs,ds,r,us,vs,ho,hc,ag,h,h1,h2=>by simp [ad.r5] at hc
 | .sl t,id,d,cs,ds,r,us,vs,ho,hc,ag,h,h1,h2=>by simp [ad.r5] at hc
 | .st aj,id,0,cs,ds,r,us,vs,ho,hc,ag,h,h1,h2=>by simp [ad.deep] at ag
 | .st aj,id,d+1,cs,ds,r,us,vs,ho,hc,ag,h,h1,h2=>by
  simp only [ad.ok] at ho
  obtain ⟨_,cp,hu,Jq⟩:=ho
  simp only [ad.r5,Bool.and_eq_true,Bool.not_eq_true',hu] at hc
  simp only [ad.deep] at ag
  simp only [ad.cmp] at h
  obtain ⟨us1,us2,vs1,vs2,e1,e2,dN,ek,g1,g2,g3⟩:=ax.y0 aj cp.toList 0 d [] [] Jq hc.2 (by omega) h h1 h2 rfl rfl
  refine⟨us1,us2,vs1,vs2,e1,e2,dN,ek,g1,g2,?_⟩
  have kZ:P.fieldsOf id=cp:=by simp [Program.fieldsOf,hu]
  show(Op.equalIn (d+1) id (.agg us1.toArray) (.agg vs1.toArray)).run P w=_
  rw [run_equalIn_struct w d id us1.toArray vs1.toArray (by rw [kZ];exact hu) hc.1,kZ]
  have:=g3 [] []
  simpa using this
theorem ax.y0:∀(aj:ax) (cp:List Field) (off d:Nat) {cs ds:List a_} {r:Bool×List a_×List a_} {us vs:List Value} (pre ud:List Value),aj.okF P cp off→aj.Cv P cp=true→aj.deep≤d→aj.cmp cs ds=some r →
  bM w Z s ι cs us→bM w Z s ι ds vs→pre.length=off→ud.length=off→∃us1 us2 vs1 vs2,us=us1++us2∧vs=vs1++vs2∧us1.length=aj.size∧vs1.length=aj.size∧bM w Z s ι r.2.1 us2∧bM w Z s ι r.2.2 vs2 ∧
   ∀dv y1:List Value,(Op.eqFields d (pre++us1++dv).toArray (ud++vs1++y1).toArray cp).run P w=.ok r.1 w
 | .nil,cp,off,d,cs,ds,r,us,vs,pre,ud,ho,hc,ag,h,h1,h2,au,kz=>by
  simp only [ax.okF] at ho
  subst ho
  obtain rfl:=aU h
  exact⟨[],us,[],vs,rfl,rfl,rfl,rfl,h1,h2,fun _ _=>by simp only [Op.eqFields];exact run_pure _ _⟩
 | .cons t aj,cp,off,d,cs,ds,r,us,vs,pre,ud,ho,hc,ag,h,h1,h2,au,kz=>by
  simp only [ax.okF] at ho
  obtain ⟨f,lI,rfl,fA,mF,j7⟩:=ho
  simp only [ax.Cv,Bool.and_eq_true,decide_eq_true_eq] at hc
  simp only [ax.deep] at ag
  simp only [ax.cmp] at h
  obtain ⟨bz,k1,h⟩:=bf h
  obtain ⟨cc,k2,h⟩:=bf h
  obtain rfl:=aU h
  obtain ⟨a1,a2,jc,og,rfl,rfl,dN,ek,g1,g2,g3⟩:=ad.y0 t f.type d mF hc.1.2 (by omega) k1 h1 h2
  obtain ⟨a3,a4,pv,Bu,rfl,rfl,mm,pn,g4,g5,g6⟩:=ax.y0 aj lI (off+t.size) d (pre++a1) (ud++jc) j7 hc.2 (by omega) k2 g1 g2 (by simp;omega) (by simp;omega)
  refine⟨a1++a3,a4,jc++pv,Bu,by simp,by simp,by simp [ax.size];omega,by simp [ax.size];omega,g4,g5,fun dv y1=>?_⟩
  have ej:=HU (P:=P) (w:=w) mF (cs:=pre++(a1++a3)++dv) (k:=off) (by simp;omega)
  have fm:=HU (P:=P) (w:=w) mF (cs:=ud++(jc++pv)++y1) (k:=off) (by simp;omega)
  have c7:((pre++(a1++a3)++dv).drop off).take t.size=a1:=by
   rw [← au,← dN];simp
  have eJ:((ud++(jc++pv)++y1).drop off).take t.size=jc:=by
   rw [← kz,← ek];simp
  rw [c7] at ej
  rw [eJ] at fm
  simp only [Op.eqFields]
  rw [if_pos hc.1.1,run_bind,fA,ej]
  simp only
  rw [run_bind,fm]
  simp only
  rw [run_bind,g3]
  simp only
  cases hr:bz.1
  ·simp only [Bool.not_false,if_true,Bool.false_and];exact run_pure _ _
  ·simp only [Bool.not_true,Bool.false_eq_true,if_false,Bool.true_and]
   have:=g6 dv y1
   simpa using this
end
def tg(P:Program):List (Nat×ad)→List Nat→Bool
 | _,[]=>true
 | tab,k :: l=>(match P.underlying k with | some (.struct _)=>true | _=>false) && !P.eqGuardType P.depth k&&(tab.all fun x => !Nat.beq x.1 k||x.2.r5 P k&&Nat.ble x.2.deep 10000)&&tg P tab l
theorem Rp{tab:List (Nat×ad)}{k:Nat} : ∀ {l:List Nat},tg P tab l=true→k∈l→(∃cp,P.underlying k=some (.struct cp))∧P.eqGuardType P.depth k=false∧∀T,(k,T)∈tab→T.r5 P k=true∧T.deep≤10000
 | x :: l,h,hm=>by
  simp only [tg,Bool.and_eq_true,Bool.not_eq_true'] at h
  rcases List.mem_cons.1 hm with rfl | hm
  ·refine⟨?_,h.1.1.2,fun T bX=>?_⟩
   ·have h1:=h.1.1.1
    split at h1
    ·rename_i cp hk;exact⟨cp,hk⟩
    ·cases h1
   ·have h2:=List.all_eq_true.1 h.1.2 _ bX
    rw [Nat.beq_refl] at h2
    simp only [Bool.not_true,Bool.false_or,Bool.and_eq_true] at h2
    exact⟨h2.1,Nat.le_of_ble_eq_true h2.2⟩
  ·exact Rp h.2 hm
theorem abh{T:ad}{k:Nat}(ho:T.ok P k)(hu:∃cp,P.underlying k=some (.struct cp))(aA:P.eqGuardType P.depth k=false)(hc:T.r5 P k=true)(ag:T.deep≤10000)(op:BinOp)(xo yo:Operand)(w:World)(Z:ah)(s:aq)(ι : Nat→bH)
  (cs ds:List a_) (us vs:List Value) (q:Bool) (h1:bM w Z s ι cs us) (h2:bM w Z s ι ds vs) (h:T.cmp cs ds=some (q,[],[])) :
  (eqGuard op k xo yo (.agg us.toArray) (.agg vs.toArray)).run P w=.ok () w∧(op=.eql→(binOp op k (.agg us.toArray) (.agg vs.toArray)).run P w=.ok (.bool q) w) ∧
   (op=.neq→(binOp op k (.agg us.toArray) (.agg vs.toArray)).run P w=.ok (.bool (!q)) w):=by
 obtain ⟨us1,us2,vs1,vs2,rfl,rfl,dN,ek,g1,g2,g3⟩:=ad.y0 T k 10000 ho hc ag h h1 h2
 have fV:us2=[]:=by cases us2 with | nil=>rfl | cons=>exact g1.elim
 have mh:vs2=[]:=by cases vs2 with | nil=>rfl | cons=>exact g2.elim
 subst fV mh
 have bX:∃aj,T=.st aj:=by
  obtain ⟨cp,hu⟩:=hu
  cases T with
  | st aj=>exact⟨aj,rfl⟩
  | int=>simp only [ad.ok] at ho;rw [hu] at ho;cases ho.1
  | bool=>simp only [ad.ok] at ho;rw [hu] at ho;cases ho.1
  | str=>simp only [ad.ok] at ho;rw [hu] at ho;cases ho.1
  | sl t=>simp only [ad.ok] at ho;obtain ⟨_,e,he,_⟩:=ho;rw [hu] at he;cases he
  | raw=>simp only [ad.ok] at ho;obtain ⟨_,e,he⟩:=ho;rw [hu] at he;cases he
 obtain ⟨aj,rfl⟩:=bX
 simp only [List.append_nil]
 have heq:(Op.equal k (.agg us1.toArray) (.agg vs1.toArray)).run P w=.ok q w:=g3
 refine⟨?_,?_,?_⟩
 ·unfold eqGuard
  cases op <;> try rfl
  all_goals
   have abi:∀w:World,(program:Sem Program).run P w=.ok P w:=fun _=>rfl
   simp only [Bool.not_true,Bool.false_eq_true,if_false,run_bind,abi,aA,Bool.not_false,if_true]
   rfl
 ·rintro rfl
  show(do pure (.bool (← Op.equal k _ _)):Sem Value).run P w=_
  rw [run_bind,heq];rfl
 ·rintro rfl
  show(do pure (.bool (!(← Op.equal k _ _))):Sem Value).run P w=_
  rw [run_bind,heq];rfl
end
end Go.LM
namespace Go.LM
def zeroV:Value→Value→Bool
 | .int k x,.int k' y=>Nat.beq (dq k) (dq k')&&decide (x=y)
 | .bool a,.bool b=>a==b
 | .string a,.string b=>decide (a.data.toList=b.data.toList)
 | .slice none 0 0,.slice none 0 0=>true
 | _,_=>false
theorem Rq{u v:Value}(h:zeroV u v=true):u=v:=by
 unfold zeroV at h
 split at h
 ·simp only [Bool.and_eq_true,decide_eq_true_eq] at h
  rw [tk (Nat.eq_of_beq_eq_true h.1),h.2]
 ·rw [eq_of_beq h]
 ·rename_i a b
  have h:=of_decide_eq_true h
  obtain ⟨⟨a⟩⟩:=a
  obtain ⟨⟨b⟩⟩:=b
  simp only at h
  rw [h]
 ·rfl
 ·cases h
def Cw:List Value→List Value→Bool
 | [],[]=>true
 | u :: us,v :: vs=>cond (zeroV u v) (Cw us vs) false
 | _,_=>false
theorem Rr:∀ {us vs:List Value},Cw us vs=true→us=vs
 | [],[],_=>rfl
 | u :: us,v :: vs,h=>by
  unfold Cw at h
  cases h1:zeroV u v
  ·rw [h1] at h;cases h
  ·rw [h1] at h;rw [Rq h1,Rr h]
 | [],_ :: _,h=>by cases h
 | _ :: _,[],h=>by cases h
def Jr(t:ad)(v:Value):Bool :=
 match t,v with
 | .st aj,.agg cs=>Cw cs.toList aj.cN
 | .st _,_=>false
 | .sl _,v=>zeroV v (.slice none 0 0)
 | t,v=>zeroV v (t.cN.headD undef)
theorem abj{t:ad}{v:Value}(h:Jr t v=true):v=dK t t.cN:=by
 cases t with
 | st aj =>
  cases v <;> simp only [Jr] at h <;> try (cases h;done)
  rename_i cs
  show Value.agg cs=.agg aj.cN.toArray
  rw [← Rr h]
 | _=>exact Rq h
def r6(P:Program)(id:TypeId)(t:ad):Bool :=
 match P.info? id with
 | some i=>Nat.beq i.size t.size&&(match i.zero with | some v=>Jr t v | none=>false)&&Nat.ble i.bytes 2048
 | none=>false
theorem wZ{P:Program}{id:TypeId}{t:ad}(h:r6 P id t=true):lH P id t:=by
 unfold r6 at h
 cases hi:P.info? id with
 | none=>rw [hi] at h;cases h
 | some i =>
  rw [hi] at h
  simp only [Bool.and_eq_true] at h
  refine⟨i,hi,Nat.eq_of_beq_eq_true h.1.1,?_,Nat.le_of_ble_eq_true h.2⟩
  have h2:=h.1.2
  cases hz:i.zero with
  | none=>rw [hz] at h2;cases h2
  | some v=>rw [hz] at h2;rw [abj h2]
mutual
def ad.okB(P:Program):ad→TypeId→Bool
 | .int k,id=>(match P.underlying id with | some (.int k')=>Nat.beq (dq k') (dq k) | _=>false)&&r6 P id (.int k)
 | .bool,id=>(match P.underlying id with | some .bool=>true | _=>false)&&r6 P id .bool
 | .str,id=>(match P.underlying id with | some .string=>true | _=>false)&&r6 P id .str
 | .raw,id=>r6 P id .raw&&match P.underlying id with | some (.slice _)=>true | _=>false
 | .sl t,id=>r6 P id (.sl t)&&match P.underlying id with | some (.slice e)=>t.okB P e | _=>false
 | .st aj,id=>r6 P id (.st aj)&&match P.underlying id with | some (.struct cp)=>aj.w1 P cp.toList 0 | _=>false
def ax.w1(P:Program):ax→List Field→Nat→Bool
 | .nil,cp,_=>cp.isEmpty
 | .cons t aj,cp,off=>match cp with
  | f :: lI=>Nat.beq f.offset off&&t.okB P f.type&&aj.w1 P lI (off+t.size)
  | []=>false
end
mutual
theorem ad.Cx{P:Program} : ∀(t:ad) (id:TypeId),t.okB P id=true→t.ok P id
 | .int k,id,h=>by
  simp only [ad.okB,Bool.and_eq_true] at h
  refine⟨?_,wZ h.2⟩
  have h1:=h.1
  split at h1
  ·rename_i k' hk;rw [hk,tk (Nat.eq_of_beq_eq_true h1)]
  ·cases h1
 | .bool,id,h=>by
  simp only [ad.okB,Bool.and_eq_true] at h
  refine⟨?_,wZ h.2⟩
  have h1:=h.1
  split at h1
  ·rename_i hk;exact hk
  ·cases h1
 | .str,id,h=>by
  simp only [ad.okB,Bool.and_eq_true] at h
  refine⟨?_,wZ h.2⟩
  have h1:=h.1
  split at h1
  ·rename_i hk;exact hk
  ·cases h1
 | .raw,id,h=>by
  simp only [ad.okB,Bool.and_eq_true] at h
  refine⟨wZ h.1,?_⟩
  have h1:=h.2
  split at h1
  ·rename_i e hk;exact⟨e,hk⟩
  ·cases h1
 | .sl t,id,h=>by
  simp only [ad.okB,Bool.and_eq_true] at h
  refine⟨wZ h.1,?_⟩
  have h1:=h.2
  split at h1
  ·rename_i e hk;exact⟨e,hk,ad.Cx t e h1⟩
  ·cases h1
 | .st aj,id,h=>by
  simp only [ad.okB,Bool.and_eq_true] at h
  refine⟨wZ h.1,?_⟩
  have h1:=h.2
  split at h1
  ·rename_i cp hk;exact⟨cp,hk,ax.Rs aj _ _ h1⟩
  ·cases h1
theorem ax.Rs{P:Program} : ∀(aj:ax) (cp:List Field) (off:Nat),aj.w1 P cp off=true→aj.okF P cp off
 | .nil,cp,off,h=>by
  simp only [ax.w1,List.isEmpty_iff] at h
  exact h
 | .cons t aj,cp,off,h=>by
  cases cp with
  | nil=>simp [ax.w1] at h
  | cons f cp =>
   simp only [ax.w1,Bool.and_eq_true] at h
   exact⟨f,cp,rfl,Nat.eq_of_beq_eq_true h.1.1,ad.Cx t _ h.1.2,ax.Rs aj _ _ h.2⟩
end
def w2:List (Nat×ad)→Nat→Option ad
 | [],_=>none
 | (k,t) :: l,i=>cond (Nat.beq k i) (some t) (w2 l i)
def te(P:Program):List (Nat×ad)→Bool
 | []=>true
 | (k,t) :: l=>t.okB P k&&te P l
theorem Js{P:Program}{i:Nat}{T:ad} : ∀ {l:List (Nat×ad)},te P l=true→w2 l i=some T→T.ok P i
 | (k,t) :: l,h,hl=>by
  simp only [te,Bool.and_eq_true] at h
  unfold w2 at hl
  cases hb:Nat.beq k i
  ·rw [hb] at hl;exact Js h.2 hl
  ·rw [hb] at hl
   obtain rfl:=aU hl
   obtain rfl:=Nat.eq_of_beq_eq_true hb
   exact ad.Cx _ _ h.1
def ue:List Nat→Nat→Bool
 | [],_=>false
 | k :: l,i=>cond (Nat.beq k i) true (ue l i)
def tf(P:Program):List Nat→Bool
 | []=>true
 | k :: l=>(match P.underlying k with | some (.pointer _)=>true | _=>false)&&tf P l
theorem Rt{P:Program}{i:Nat} : ∀ {l:List Nat},tf P l=true→ue l i=true→∃e,P.underlying i=some (.pointer e)
 | k :: l,h,hl=>by
  simp only [tf,Bool.and_eq_true] at h
  unfold ue at hl
  cases hb:Nat.beq k i
  ·rw [hb] at hl;exact Rt h.2 hl
  ·obtain rfl:=Nat.eq_of_beq_eq_true hb
   have h1:=h.1
   split at h1
   ·rename_i e hk;exact⟨e,hk⟩
   ·cases h1
def Cy:List (Nat×Entry)→Nat→Nat→Option Entry
 | [],_,_=>none
 | (k,e) :: l,f,key=>cond (Nat.blt f 1000000&&Nat.beq k (f+1000000*key)) (some e) (Cy l f key)
def qD(P:Program):List (Nat×Entry)→Prop
 | []=>True
 | (k,e) :: l=>ij P (k % 1000000) (k / 1000000) e∧qD P l
theorem Ru{P:Program}{f key:Nat}{e:Entry} : ∀ {l:List (Nat×Entry)},qD P l→Cy l f key=some e→ij P f key e
 | (k,gZ) :: l,h,hl=>by
  unfold Cy at hl
  cases hb:(Nat.blt f 1000000&&Nat.beq k (f+1000000*key))
  ·rw [hb] at hl;exact Ru h.2 hl
  ·rw [hb] at hl
   obtain rfl:=aU hl
   simp only [Bool.and_eq_true] at hb
   have h1:=hb.1
   rw [Nat.blt_eq] at h1
   obtain rfl:=Nat.eq_of_beq_eq_true hb.2
   have h2:=h.1
   rw [show(f+1000000*key) % 1000000=f by omega,show(f+1000000*key) / 1000000=key by omega] at h2
   exact h2
def Rv(n:Nat)(tab:List (Nat×ad))(mb eqs:List Nat)(fns:List (Nat×Entry)):Env:=⟨n,w2 tab,ue eqs,ue mb,Cy fns⟩
theorem Rw{i:Nat} : ∀ {l:List Nat},ue l i=true→i∈l
 | k :: l,h=>by
  unfold ue at h
  cases hb:Nat.beq k i
  ·rw [hb] at h;exact List.mem_cons_of_mem _ (Rw h)
  ·rw [Nat.eq_of_beq_eq_true hb];exact List.mem_cons_self
theorem Rx{i:Nat}{T:ad} : ∀ {l:List (Nat×ad)},w2 l i=some T→(i,T)∈l
 | (k,t) :: l,hl=>by
  unfold w2 at hl
  cases hb:Nat.beq k i
  ·rw [hb] at hl;exact List.mem_cons_of_mem _ (Rx hl)
  ·rw [hb] at hl
   obtain rfl:=aU hl
   rw [Nat.eq_of_beq_eq_true hb]
   exact List.mem_cons_self
theorem Ry{P:Program}{n:Nat}{tab:List (Nat×ad)}{mb eqs:List Nat}{fns:List (Nat×Entry)}(ht:te P tab=true)(au:tf P mb=true)(he:tg P tab eqs=true)(hf:qD P fns)(hm:P.follows .mixedOrders=true):jN P (Rv n tab mb eqs fns):=by
 refine⟨⟨fun id T h=>Js ht h,fun id h=>Rt au h⟩,fun id T h bX=>?_,fun f key e h=>Ru hf h,hm⟩
 obtain ⟨h1,h2,h3⟩:=Rp he (Rw h)
 obtain ⟨h4,a8⟩:=h3 T (Rx bX)
 exact abh (Js ht bX) h1 h2 h4 a8
@[irreducible] def aQ:Nat:=18446744073709551616
end Go.LM
namespace Go.LM
open Go.ChangeShapes Go.WideShapes Go.ChangeAt Go.RowKit
open Go.ChangeMaps (open_string shut_string)
mutual
def ad.gC:(t:ad)→t.D→Prop
 | .int k,x=>(Lit.int k x).wf=true
 | .bool,_=>True
 | .str,x=>x.length≤maxLen
 | .raw,_=>True
 | .sl t,xs=>xs.length≤maxLen∧∀y,y∈xs→t.gC y
 | .st aj,x=>aj.gC x
def ax.gC:(aj:ax)→aj.D→Prop
 | .nil,_=>True
 | .cons t aj,x=>t.gC x.1∧aj.gC x.2
end
mutual
def ad.nD:ad→Bool
 | .sl t=>Nat.blt 0 t.size&&t.nD
 | .raw=>false
 | .st aj=>aj.nD
 | _=>true
def ax.nD:ax→Bool
 | .nil=>true
 | .cons t aj=>t.nD&&aj.nD
end
def qE:(ps:List bA)→(bA.ins ps).D→Prop
 | [],_=>True
 | .fn _ _ :: l,x=>qE l x
 | .val t _ :: l,x=>t.gC x.1∧qE l x.2
 | .hR t :: l,x=>t.gC x.1∧qE l x.2
 | .hQ t _ :: l,x=>t.gC x.1∧qE l x.2
 | .ref t :: l,x=>t.gC x.1∧qE l x.2
 | .mut t _ _ :: l,x=>t.gC x.1∧qE l x.2
def Jt:(rs:List cW)→(aj:ax)→(cW.outs rs aj).D→Prop
 | [.val .bool .R],_,r=>r.1=true
 | _,_,_=>False
section
variable{H:Type}{enc:TypeId×Value→H}{P:Program}{w W W':World}{base:Nat}{spare:Nat→Bool}{held:Bool}{fuel:Nat}
def Old(w:World):ah:=fun b _=>b<w.heap.size
theorem abk{a:Addr}{v:Value}(h:w.cell? a=some v):a.block<w.heap.size:=by
 rcases Nat.lt_or_ge a.block w.heap.size with h1 | h1
 ·exact h1
 ·simp [World.cell?,Array.getElem?_eq_none h1] at h
theorem Ju{t:ad}{id:TypeId}(h:t.ok P id):P.cellsOf id=t.size:=by
 obtain ⟨i,h1,h2,_⟩:=h.info
 unfold Program.cellsOf
 rw [h1]
 exact h2
theorem Rz{a:Addr}{k:Nat}{cs:List Value}(h:w.cells? base a k=some cs):cs.length=k∧∀i v,cs[i]?=some v→w.cell? (a.add i)=some v:=by
 unfold World.cells? at h
 split at h
 ·have hl:cs.length=k:=by
   have:=List.RA h
   simpa using this
  refine⟨hl,fun i v hv=>?_⟩
  have hi:i<k:=by
   rw [← hl]
   exact(List.getElem?_eq_some_iff.1 hv).1
  have:=RB h i (by simpa using hi)
  rw [hv] at this
  simpa using this.symm
 ·cases h
where
 List.RA {α β : Type} {f : α → Option β} : ∀ {l:List α} {r:List β},l.mapM f=some r→r.length=l.length
  | [],r,h=>by simp at h;subst h;rfl
  | x :: l,r,h=>by
   rw [List.mapM_cons] at h
   simp only [Option.bind_eq_bind,Option.bind_eq_some_iff] at h
   obtain ⟨y,h1,ys,h2,h3⟩:=h
   simp only [Option.pure_def,Option.some.injEq] at h3
   subst h3
   simp [List.RA h2]
 RB {α β : Type} {f : α → Option β} : ∀ {l:List α} {r:List β},l.mapM f=some r→∀i (hi:i<l.length),r[i]?=f l[i]
  | [],r,h,i,hi=>by simp at hi
  | x :: l,r,h,i,hi=>by
   rw [List.mapM_cons] at h
   simp only [Option.bind_eq_bind,Option.bind_eq_some_iff] at h
   obtain ⟨y,h1,ys,h2,h3⟩:=h
   simp only [Option.pure_def,Option.some.injEq] at h3
   subst h3
   cases i with
   | zero=>simp [h1]
   | succ i=>simpa using RB h2 i (by simpa using hi)
mutual
theorem ad.read:∀(t:ad) (id:TypeId) (fuel:Nat) (cs:List Value) (x:DataW H×List MemPlace),t.ok P id→t.nD=true→DataW.trod enc P w base spare held fuel id cs=some x →
  ∃y:t.D,t.al w (Old w) .R y cs ah.none∧t.gC y
 | .int k,id,fuel,cs,x,ho,au,h=>by
  obtain ⟨n,rfl,_,hw⟩:=DataW.trod_int (by simp only [ad.ok] at ho;exact ho.1) h
  exact⟨n,by simp only [ad.al],hw⟩
 | .bool,id,fuel,cs,x,ho,au,h=>by
  obtain ⟨n,rfl,_⟩:=DataW.trod_bool (by simp only [ad.ok] at ho;exact ho.1) h
  exact⟨n,by simp only [ad.al],trivial⟩
 | .str,id,fuel,cs,x,ho,au,h=>by
  obtain ⟨s,rfl,_,hs⟩:=DataW.trod_string (by simp only [ad.ok] at ho;exact ho.1) h
  exact⟨s.data.toList,by simp only [ad.al];exact⟨s,rfl,rfl⟩,by simp only [ad.gC,Array.length_toList];exact hs⟩
 | .raw,id,fuel,cs,x,ho,au,h=>by simp [ad.nD] at au
 | .sl t,id,fuel,cs,x,ho,au,h=>by
  simp only [ad.ok] at ho
  obtain ⟨_,e,hu,RC⟩:=ho
  simp only [ad.nD,Bool.and_eq_true] at au
  have eY:0<t.size:=Nat.le_of_ble_eq_true au.1
  rcases DataW.trod_slice hu h with⟨rfl,_⟩ | ⟨a,len,cap,elems,rest,m,_,rfl,_,_,hl,hm,hlen,RD,_,_⟩
  ·exact⟨[],by simp only [ad.al];exact⟨none,0,rfl,.inl trivial⟩,by simp [ad.gC,maxLen]⟩
  ·have hsz:P.cellsOf e=t.size:=Ju RC
   rw [hsz] at RD
   have RE:∀i,i<len→∃cs' d,w.cells? base (a.add (i*t.size)) t.size=some cs'∧DataW.trod enc P w base spare held m e cs'=some d:=by
    intro i hi
    have h1:=RD i hi
    have h2:∃d,elems[i]?=some d:=⟨_,List.getElem?_eq_getElem (by omega)⟩
    obtain ⟨d,h2⟩:=h2
    rw [h2] at h1
    obtain ⟨cs',h3,h4⟩:=bf h1
    exact⟨cs',d,h3,h4⟩
   have abl:=fun(cs':List Value) (d:DataW H×List MemPlace)=>ad.read t e m cs' d RC au.2
   have Jv:0<len→a.spot=none∧a.block<w.heap.size:=by
    intro hn
    obtain ⟨cs',d,h1,h2⟩:=RE 0 hn
    obtain ⟨c1,gJ⟩:=Rz h1
    have pB:=gJ 0 cs'[0] (List.getElem?_eq_getElem (by omega))
    simp only [Nat.zero_mul,Addr.add,if_true] at pB
    exact⟨World.cell?_spot pB,abk pB⟩
   have hrow:∀(n k:Nat),k+n≤len→∃xs:List t.D,xs.length=n∧Row w (fun y us _=>t.al w (Old w) .R y us ah.none) t.size xs a.block (a.off+k*t.size) ah.none∧(∀y,y∈xs→t.gC y):=by
    intro n
    induction n with
    | zero=>intro k _;exact⟨[],rfl,trivial,by simp⟩
    | succ n ih =>
     intro k hk
     obtain ⟨cs',d,h1,h2⟩:=RE k (by omega)
     obtain ⟨y,h3,h4⟩:=abl cs' d h2
     obtain ⟨xs,g1,g3,g4⟩:=ih (k+1) (by omega)
     obtain ⟨c1,gJ⟩:=Rz h1
     obtain ⟨hsp,alx⟩:=Jv (by omega)
     obtain ⟨ab,ao,asp⟩:=a
     simp only at hsp
     subst hsp
     refine⟨y :: xs,by simp [g1],⟨cs',ah.none,ah.none,h3,c1,?_,?_,fun _ _ h=>h.elim,fun _ _ h=>h,fun _ _ h=>h⟩,?_⟩
     ·intro i v hv
      have:=gJ i v hv
      rw [show(⟨ab,ao,none⟩:Addr)=at_ ab ao from rfl,ql,ql] at this
      exact this
     ·have e1:ao+k*t.size+t.size=ao +(k+1)*t.size:=by rw [Nat.add_mul];omega
      simp only
      rw [e1];exact g3
     ·intro z hz
      rcases List.mem_cons.1 hz with rfl | hz
      ·exact h4
      ·exact g4 z hz
   obtain ⟨xs,g1,g3,g4⟩:=hrow len 0 (by omega)
   refine⟨xs,?_,?_⟩
   ·simp only [ad.al]
    refine⟨some a,cap,by rw [g1],?_⟩
    by_cases hx:xs=[]
    ·exact .inl hx
    ·have hn:0<len:=by
      rw [← g1]
      cases xs with
      | nil=>exact absurd rfl hx
      | cons=>simp
     exact .inr ⟨a,rfl,(Jv hn).1,by simpa using g3,fun j hj=>(Jv hn).2,by rw [g1];exact hl⟩
   ·simp only [ad.gC]
    exact⟨by rw [g1];omega,g4⟩
 | .st aj,id,fuel,cs,x,ho,au,h=>by
  have hsz:=Ju ho
  simp only [ad.ok] at ho
  obtain ⟨_,cp,hu,Jq⟩:=ho
  obtain ⟨xs,n,_,_,hl,hxl,hf⟩:=DataW.trod_struct hu h
  have hlen:cs.length=(ad.st aj).size:=by rw [hl,hsz]
  have:=ax.read aj cp.toList 0 n cs Jq (by simpa only [ad.nD] using au) (by simpa only [ad.size,Nat.zero_add] using hlen) (fun i f kE=>by
   have hi:i<xs.length:=by
    rw [hxl]
    have:=(List.getElem?_eq_some_iff.1 kE).1
    simpa using this
   exact⟨xs[i],by rw [hf i f (by rw [← Array.getElem?_toList];exact kE),List.getElem?_eq_getElem hi]⟩)
  obtain ⟨y,h1,h2⟩:=this
  rw [List.drop_zero] at h1
  exact⟨y,by simp only [ad.al];exact h1,by simp only [ad.gC];exact h2⟩
theorem ax.read:∀(aj:ax) (cp:List Field) (off:Nat) (fuel:Nat) (cs:List Value),aj.okF P cp off→aj.nD=true→cs.length=off+aj.size →
  (∀(i:Nat) (f:Field),cp[i]?=some f→∃x,DataW.trod enc P w base spare held fuel f.type ((cs.drop f.offset).take (P.cellsOf f.type))=some x)→∃y:aj.D,aj.al w (Old w) .nil y (cs.drop off) ah.none∧aj.gC y
 | .nil,cp,off,fuel,cs,ho,au,hl,hf=>by
  simp only [ax.size,Nat.add_zero] at hl
  exact⟨(),by simp only [ax.al];rw [List.drop_of_length_le (by omega)],by simp only [ax.gC]⟩
 | .cons t aj,cp,off,fuel,cs,ho,au,hl,hf=>by
  simp only [ax.okF] at ho
  obtain ⟨f,lI,rfl,h1,h2,h3⟩:=ho
  simp only [ax.nD,Bool.and_eq_true] at au
  simp only [ax.size] at hl
  obtain ⟨x,hx⟩:=hf 0 f rfl
  rw [h1,Ju h2] at hx
  obtain ⟨y,g1,g2⟩:=ad.read t f.type fuel _ x h2 au.1 hx
  obtain ⟨ys,g3,g4⟩:=ax.read aj lI (off+t.size) fuel cs h3 au.2 (by omega) fun i nd kE=>hf (i+1) nd (by simpa using kE)
  refine⟨(y,ys),?_,⟨g2,g4⟩⟩
  simp only [ax.al]
  refine⟨_,_,ah.none,ah.none,?_,g1,g3,fun _ _ h=>h.elim,fun _ _ h=>h,fun _ _ h=>h⟩
  rw [← List.drop_drop,List.take_append_drop]
end
theorem abm{t:ad}{id:TypeId}{r:Reach}{v:Value}(ho:t.ok P id)(hv:Value.okWide P w r base id v):v=dK t v.cells.toList:=by
 cases t with
 | int k=>obtain ⟨n,rfl⟩:=okWide_int (by simp only [ad.ok] at ho;exact ho.1) hv;rfl
 | bool=>obtain ⟨n,rfl⟩:=okWide_bool (by simp only [ad.ok] at ho;exact ho.1) hv;rfl
 | str=>obtain ⟨n,rfl⟩:=okWide_string (by simp only [ad.ok] at ho;exact ho.1) hv;rfl
 | sl t =>
  simp only [ad.ok] at ho
  obtain ⟨_,e,hu,_⟩:=ho
  obtain ⟨a,l,c,rfl⟩:=okWide_slice hu hv
  rfl
 | raw =>
  simp only [ad.ok] at ho
  obtain ⟨_,e,hu⟩:=ho
  obtain ⟨a,l,c,rfl⟩:=okWide_slice hu hv
  rfl
 | st aj =>
  simp only [ad.ok] at ho
  obtain ⟨_,cp,hu,_⟩:=ho
  simp only [Value.okWide,hu] at hv
  obtain ⟨cs,rfl,_⟩:=hv
  simp [dK,Value.cells]
def y2:List (Nat×ad)→List bA
 | []=>[]
 | a :: l=>.val a.2 .R :: y2 l
def uf(P:Program):List (Nat×ad)→Bool
 | []=>true
 | a :: l=>a.2.okB P a.1&&a.2.nD&&P.readableRec a.1&&Nat.blt a.1 P.types.size&&uf P l
theorem RF{r:Reach}{cO:Nat} : ∀(as:List (Nat×ad)) (vs:List Value) (ds:List (DataW H)) (p:List MemPlace),uf P as=true →
  DataW.TrodAll enc P w 0 (fun _=>true) true (as.map (·.1)) vs ds p→(∀(j:Nat) t v,(as.map (·.1))[j]?=some t→vs[j]?=some v→Value.okWide P w r cO t v) →
  ∃x:(bA.ins (y2 as)).D,gB w (Old w) 0 (y2 as) x vs ah.none∧qE (y2 as) x∧gf vs=[]
 | [],vs,ds,p,ho,h,hv=>by
  obtain ⟨rfl,_,_⟩:=trodAll_nil h
  exact⟨(),rfl,trivial,rfl⟩
 | a :: as,vs,ds,p,ho,h,hv=>by
  simp only [uf,Bool.and_eq_true] at ho
  obtain ⟨v,bJ,d,Jw,p',Jx,rfl,rfl,rfl,h1,h2⟩:=trodAll_cons (by simpa using h)
  obtain ⟨x,g1,g2,g3⟩:=RF as bJ Jw Jx ho.2 h2 fun j t u hj hu=>hv (j+1) t u (by simpa using hj) (by simpa using hu)
  have cd:=ad.Cx _ _ ho.1.1.1.1
  obtain ⟨fuel,hf⟩:=h1
  obtain ⟨y,k1,k2⟩:=ad.read a.2 a.1 fuel _ _ cd ho.1.1.1.2 hf
  have hw:=abm cd (hv 0 a.1 v rfl rfl)
  refine⟨(y,x),⟨v.cells.toList,bJ,ah.none,ah.none,by rw [← hw],k1,g1,fun _ _ h=>h.elim,fun _ _ h=>h,fun _ _ h=>h⟩,⟨k2,g2⟩,?_⟩
  rw [hw,Cs k1]
  exact g3
theorem abn{w w':World}(h:Ext w w' ah.none):Below w.heap.size w w':=by
 refine⟨h.os,h.tape,h.output,h.size,fun b hb=>?_⟩
 rcases h.block b hb with h1 | ⟨c,c',e,f,h1,h2,h3,h4⟩
 ·exact h1
 ·rw [h1,h2]
  have:c'=c:=by
   apply Array.ext h3
   intro i hi c4
   have:=h4 i (fun h=>h.elim)
   rw [Array.getElem?_eq_getElem hi,Array.getElem?_eq_getElem c4] at this
   exact aU this
  rw [this]
theorem RG(hl:laidOutB P=true):∀(as:List (Nat×ad)) (vs:List Value) (ds:List (DataW H)) (p:List MemPlace),uf P as=true →
  DataW.TrodAll enc P W 0 (fun _=>true) true (as.map (·.1)) vs ds p→Below W.heap.size W W'→DataW.TrodAll enc P W' 0 (fun b=>decide (b<W.heap.size)) true (as.map (·.1)) vs ds p
 | [],vs,ds,p,ho,h,hb=>by
  obtain ⟨rfl,rfl,rfl⟩:=trodAll_nil h
  exact trodAll_mk0
 | a :: as,vs,ds,p,ho,h,hb=>by
  simp only [uf,Bool.and_eq_true] at ho
  obtain ⟨v,bJ,d,Jw,p',Jx,rfl,rfl,rfl,h1,h2⟩:=trodAll_cons (by simpa using h)
  have cw:∀x∈p',x.block<W.heap.size:=by obtain ⟨m,hm⟩:=h1;exact DataW.trod_lt m _ _ _ hm
  exact trodAll_cons_mk (Below.trod hl ho.1.1.2 (Nat.le_of_ble_eq_true ho.1.2) h1 hb cw) (RG hl as bJ Jw Jx ho.2 h2 hb)
theorem abo{f:Nat}{fn:Func}{e:Entry}{prs:List (Nat×ad)}{r:Reach}{cO:Nat}{args:Array Value}{ds:List (DataW H)}{p:List MemPlace}(dm:Sound P f 0 e)(Ct:e.ps=y2 prs)
  (Jy:fn.params.toList=prs.map (·.1)) (cd:uf P prs=true) (abp:laidOutB P=true) (hc:∀x:(bA.ins e.ps).D,qE e.ps x→∃y,e.f x=some y∧Jt e.rs (bA.d' e.ps) y)
  (tO:∀(j:Nat) t v,fn.params[j]?=some t→args[j]?=some v→Value.okWide P W r cO t v)
  (hA:DataW.TrodAll enc P W 0 (fun _=>true) true fn.params.toList args.toList ds p) :
  Calls P f args W fun end_ W'=>end_=.returned (.bool true)∧Below W.heap.size W W'∧DataW.TrodAll enc P W' 0 (fun b=>decide (b<W.heap.size)) true fn.params.toList args.toList ds p:=by
 obtain ⟨ps,rs,c⟩:=e
 simp only at Ct
 subst Ct
 rw [Jy] at hA
 obtain ⟨x,h1,h2,h3⟩:=RF prs args.toList ds p cd hA fun j t v hj hv=>tO j t v (by rw [← Array.getElem?_toList,Jy];exact hj) (by rw [← Array.getElem?_toList];exact hv)
 obtain ⟨y,aN,ht⟩:=hc x h2
 have wJ:=dm.calls W (Old W) ah.none x args.toList y (fun _ _ h=>h) (fun _ _ h=>h.elim) (fun _ _ h=>h.elim) (by rw [h3,List.append_nil];exact h1) aN
 have lN:args.toList.toArray=args:=by simp
 rw [lN] at wJ
 refine Calls.mono wJ ?_
 rintro end_ w' ⟨v,rfl,Cu⟩
 obtain ⟨dr,Z',F',rfl,hx,_,_,_,_,hV⟩:=Cu.out
 have hb:=abn hx
 refine⟨?_,hb,by rw [Jy];exact RG abp prs _ _ _ cd hA hb⟩
 have hfin:∀(rs:List cW) (aj:ax) (ps:List bA) (us:List Value) (abq:aj=bA.d' ps) (y:(cW.outs rs (bA.d' ps)).D),Jt rs (bA.d' ps) y→∀F',iw w' Z' ps us rs y dr F'→ou dr=.bool true:=by
  intro rs aj ps us abq y ht F' hV
  match rs,y,ht,hV with
  | [.val .bool .R],y,ht,hV =>
   obtain ⟨vs,ec,G,fW,rfl,k1,k2,_⟩:=hV
   obtain ⟨rfl,_⟩:=k2
   simp only [ad.al] at k1
   subst k1
   have ht:y.1=true:=ht
   rw [ht]
   rfl
 exact congrArg _ (hfin rs _ _ _ rfl y ht _ hV)
end
end Go.LM
namespace Go.LM
theorem tj{x:Int}(h : -9223372036854775808≤x)(h':x≤9223372036854775807):aK x=x:=by
 show(if(true&&decide (x % 18446744073709551616≥9223372036854775808))=true then x % 18446744073709551616-18446744073709551616 else x % 18446744073709551616)=x
 by_cases hc:x % 18446744073709551616≥9223372036854775808
 ·rw [if_pos (by simp [hc])];omega
 ·rw [if_neg (by simp [hc])];omega
theorem bB{n i:Nat}(h:i<n):aO n (i:Int)=some i:=by
 unfold aO
 rw [if_pos ⟨by omega,by omega⟩]
 simp
theorem vP{t:ad}{xs:List t.D}{i:Nat}(h:i<xs.length):J t xs i=xs[i]:=by
 unfold J
 rw [List.getD_eq_getElem?_getD,List.getElem?_eq_getElem h]
 rfl
theorem abr{n:Nat}(h:n≤68719476736):room n=true:=Nat.ble_eq_true_of_le h
theorem iW{n lo hi:Nat}(h:lo≤hi)(h':hi≤n):du n (lo:Int) (hi:Int)=some (lo,hi):=by
 unfold du
 rw [if_pos ⟨by omega,by omega,by omega⟩]
 simp
theorem nE{α : Type}(a:Option α):both a a=a:=by unfold both;rw [if_pos rfl]
theorem ji{α : Type}(a:Option α):dup a=a:=nE a
theorem Cz(s:List UInt8):bs s s=true:=by simp [bs]
end Go.LM
namespace Go.LM
structure ku(P:Program) where
 tab:List (Nat×ad)
 mb:List Nat
 eqs:List Nat
 ht:te P tab=true
 au:tf P mb=true
 he:tg P tab eqs=true
 hm:P.follows .mixedOrders=true
noncomputable def lY(fn:Func):Code:=match fn.body with
 | some c=>c
 | none=>.skip
noncomputable def r7(fn:Func)(ps:List bA):Bool :=
 fn.body.isSome && !(fn.name == "runtime.NumGoroutine")&&Cr ps&&Nat.ble ps.length fn.ntmps&&Jj (lY fn)
def nF:List (Nat×b0)→Nat→Option b0
 | [],_=>none
 | (k,t) :: l,r=>cond (Nat.beq r k) (some t) (nF l r)
section
variable{P:Program}
def ku.env(B:ku P)(fn:Func)(fns:List (Nat×Entry)):Env:=Rv fn.ntmps B.tab B.mb B.eqs fns
noncomputable def ku.start(B:ku P)(fn:Func)(fns:List (Nat×Entry))(T:List (Nat×b0))(e:Entry)(k:Nat→aq→Option (cW.outs e.rs (bA.d' e.ps)).D)(x:(bA.ins e.ps).D):Option (cW.outs e.rs (bA.d' e.ps)).D :=
 wX (B.env fn fns) fn (lY fn) (nF T) 0 e k x
noncomputable def ku.RH(B:ku P)(key:Nat)(fn:Func)(fns:List (Nat×Entry))(T:List (Nat×b0))(e:Entry)(k:Nat→aq→Option (cW.outs e.rs (bA.d' e.ps)).D)(x:(bA.ins e.ps).D):Option (cW.outs e.rs (bA.d' e.ps)).D :=
 wX (B.env fn fns) fn (lY fn) (nF T) key e k x
noncomputable def ku.step(B:ku P)(fn:Func)(fns:List (Nat×Entry))(T:List (Nat×b0))(e:Entry)(k:Nat→aq→Option (cW.outs e.rs (bA.d' e.ps)).D):Nat→aq→Option (cW.outs e.rs (bA.d' e.ps)).D :=
 Jn (B.env fn fns) (nF T) (lY fn) (pK (B.env fn fns) fn e) k
theorem RI(B:ku P){f:Nat}{fn:Func}{e:Entry}{fns:List (Nat×Entry)}(hs:qD P fns)(hf:P.funcs[f]?=some fn)(hc:r7 fn e.ps=true)(T:List (Nat×b0))
  (hF:∀x r,e.f x=some r→∃m,wX (B.env fn fns) fn (lY fn) (nF T) 0 e (oH (B.env fn fns) (nF T) (lY fn) (pK (B.env fn fns) fn e) m) x=some r):Sound P f 0 e:=by
 unfold r7 at hc
 simp only [Bool.and_eq_true,Bool.not_eq_true'] at hc
 obtain ⟨⟨⟨⟨h1,h2⟩,h3⟩,h4⟩,a8⟩:=hc
 refine Rn (Ry (n:=fn.ntmps) (fns:=fns) B.ht B.au B.he hs B.hm) hf ?_ h2 (Nat.beq_refl _) h3 h4 a8 hF
 unfold lY
 cases hb:fn.body with
 | none=>rw [hb] at h1;cases h1
 | some c=>rfl
theorem cI(B:ku P){f:Nat}{fn:Func}{e:Entry}{fns:List (Nat×Entry)}(hs:qD P fns)(hf:P.funcs[f]?=some fn)(hc:r7 fn e.ps=true)
  (h:∀x,B.start fn fns [] e (fun _ _=>none) x=e.f x):Sound P f 0 e :=
 RI B hs hf hc [] fun x r hx=>⟨0,by
  rw [show oH (B.env fn fns) (nF []) (lY fn) (pK (B.env fn fns) fn e) 0=fun _ _=>none from rfl]
  exact(h x).trans hx⟩
def eR{K:Type}(s:K→K)(z:K):Nat→K
 | 0=>z
 | m+1=>s (eR s z m)
theorem cE(B:ku P){f:Nat}{fn:Func}{e:Entry}{fns:List (Nat×Entry)}(hs:qD P fns)(hf:P.funcs[f]?=some fn)(hc:r7 fn e.ps=true)(T:List (Nat×b0)){K:Type}
  (of:(Nat→aq→Option (cW.outs e.rs (bA.d' e.ps)).D)→K) (step:K→K) (L:Nat→K) (g:K→(bA.ins e.ps).D→Option (cW.outs e.rs (bA.d' e.ps)).D)
  (h0:L 0=of fun _ _=>none) (CA:∀m,L (m+1)=step (L m)) (he:∀x,e.f x=g (L aQ) x)
  (aA:∀k x,B.start fn fns T e k x=g (of k) x)
  (hst:∀k,of (B.step fn fns T e k)=step (of k)):Sound P f 0 e :=
 RI B hs hf hc T fun x r hx=>⟨aQ,by
  have hl:∀m,of (oH (B.env fn fns) (nF T) (lY fn) (pK (B.env fn fns) fn e) m)=L m:=by
   intro m
   induction m with
   | zero=>exact h0.symm
   | succ m ih=>rw [CA,← ih];exact hst _
  rw [he,← hl aQ] at hx
  exact(aA _ x).trans hx⟩
theorem RJ(B:ku P)(key:Nat){f:Nat}{fn:Func}{e:Entry}{fns:List (Nat×Entry)}(hs:qD P fns)(hf:P.funcs[f]?=some fn)(hc:r7 fn e.ps=true)(T:List (Nat×b0))
  (hF:∀x r,e.f x=some r→∃m,wX (B.env fn fns) fn (lY fn) (nF T) key e (oH (B.env fn fns) (nF T) (lY fn) (pK (B.env fn fns) fn e) m) x=some r):Sound P f key e:=by
 unfold r7 at hc
 simp only [Bool.and_eq_true,Bool.not_eq_true'] at hc
 obtain ⟨⟨⟨⟨h1,h2⟩,h3⟩,h4⟩,a8⟩:=hc
 refine Rn (Ry (n:=fn.ntmps) (fns:=fns) B.ht B.au B.he hs B.hm) hf ?_ h2 (Nat.beq_refl _) h3 h4 a8 hF
 unfold lY
 cases hb:fn.body with
 | none=>rw [hb] at h1;cases h1
 | some c=>rfl
theorem RK(B:ku P)(key:Nat){f:Nat}{fn:Func}{e:Entry}{fns:List (Nat×Entry)}(hs:qD P fns)(hf:P.funcs[f]?=some fn)(hc:r7 fn e.ps=true)
  (h:∀x,B.RH key fn fns [] e (fun _ _=>none) x=e.f x):Sound P f key e :=
 RJ B key hs hf hc [] fun x r hx=>⟨0,by
  rw [show oH (B.env fn fns) (nF []) (lY fn) (pK (B.env fn fns) fn e) 0=fun _ _=>none from rfl]
  exact(h x).trans hx⟩
theorem vO(B:ku P)(key:Nat){f:Nat}{fn:Func}{e:Entry}{fns:List (Nat×Entry)}(hs:qD P fns)(hf:P.funcs[f]?=some fn)(hc:r7 fn e.ps=true)(T:List (Nat×b0)){K:Type}
  (of:(Nat→aq→Option (cW.outs e.rs (bA.d' e.ps)).D)→K) (step:K→K) (L:Nat→K) (g:K→(bA.ins e.ps).D→Option (cW.outs e.rs (bA.d' e.ps)).D)
  (h0:L 0=of fun _ _=>none) (CA:∀m,L (m+1)=step (L m)) (he:∀x,e.f x=g (L aQ) x)
  (aA:∀k x,B.RH key fn fns T e k x=g (of k) x)
  (hst:∀k,of (B.step fn fns T e k)=step (of k)):Sound P f key e :=
 RJ B key hs hf hc T fun x r hx=>⟨aQ,by
  have hl:∀m,of (oH (B.env fn fns) (nF T) (lY fn) (pK (B.env fn fns) fn e) m)=L m:=by
   intro m
   induction m with
   | zero=>exact h0.symm
   | succ m ih=>rw [CA,← ih];exact hst _
  rw [he,← hl aQ] at hx
  exact(aA _ x).trans hx⟩
end
@[reducible] def th(t:ad):bA:=.val t t.own
@[reducible] def aW(t:ad):bA:=.val t .R
@[reducible] def CB(t:ad):bA:=.hR t
@[reducible] def gg(t:ad):bA:=.ref t
@[reducible] def abt(t:ad):bA:=.mut t t.own t.own
@[reducible] def ro(t:ad):cW:=.val t t.own
@[reducible] def bq(t:ad):cW:=.val t .R
def RL:List (Nat×a7)→Nat→a7
 | []=>fun _=>.aD
 | (d,v) :: l=>bU (RL l) d v
def RM:List (Nat×cn)→Nat→cn
 | []=>fun _=>.none
 | (d,v) :: l=>bU (RM l) d v
def bm(t:List (Nat×a7))(o:List (Nat×cn))(g:List a7):aq:=⟨RL t,RM o,g⟩
def aY(x:Int):a7:=.aT (.int .i64 x)
def jO(x:Bool):a7:=.aT (.bool x)
def eo(x:List UInt8):a7:=.aT (.str x)
def gX(t:ad)(x:List t.D):a7:=.aT (.b1 t [] none x)
def aw(c:Nat):a7:=.ptr ⟨c,none,0⟩
def pL(dp:List Nat):List (Nat×Nat):=dp.map fun c=>(c,0)
mutual
def ad.ug:(t:ad)→ba→List Nat→t.D→Nat→List a_×List (Nat×cn)×Nat
 | .int k,_,_,x,j=>([.int k x],[],j)
 | .bool,_,_,x,j=>([.bool x],[],j)
 | .str,_,_,x,j=>([.str x],[],j)
 | .raw,_,_,x,j=>([.raw x],[],j)
 | .sl t,.O e,_,x,j=>([.ag j none],[(j,.row t e 0 x)],j+1)
 | .sl t,_,dp,x,j=>([.b1 t (pL dp) none x],[],j)
 | .st aj,m,dp,x,j=>aj.ug m.parts dp x j
def ax.ug:(aj:ax)→cU→List Nat→aj.D→Nat→List a_×List (Nat×cn)×Nat
 | .nil,_,_,_,j=>([],[],j)
 | .cons t aj,m,dp,x,j=>let r:=t.ug m.ag dp x.1 j;let q:=aj.ug m.dv dp x.2 r.2.2;(r.1++q.1,r.2.1++q.2.1,q.2.2)
end
mutual
def ad.uh:(t:ad)→ba→List Nat→Nat→List k9×List (Nat×iN)×Nat
 | .sl t,.O e,_,j=>([.ag j],[(j,.row t e)],j+1)
 | .sl t,_,dp,j=>([.b1 t dp],[],j)
 | .st aj,m,dp,j=>aj.uh m.parts dp j
 | _,_,_,j=>([.keep],[],j)
def ax.uh:(aj:ax)→cU→List Nat→Nat→List k9×List (Nat×iN)×Nat
 | .nil,_,_,j=>([],[],j)
 | .cons t aj,m,dp,j=>let r:=t.uh m.ag dp j;let q:=aj.uh m.dv dp r.2.2;(r.1++q.1,r.2.1++q.2.1,q.2.2)
end
def aC(c:Nat)(t:ad)(m:ba)(dp:List Nat)(x:t.D):List (Nat×cn):=let r:=t.ug m dp x (c+1);(c,.var 0 r.1) :: r.2.1
def az(c:Nat)(t:ad)(m:ba)(dp:List Nat):List (Nat×iN):=let r:=t.uh m dp (c+1);(c,.var r.1) :: r.2.1
def aT(t:ad)(m:ba)(dp:List Nat)(x:t.D)(j:Nat):List a_:=(t.ug m dp x j).1
def r8(t:ad)(m:ba)(dp:List Nat)(j:Nat):List k9:=(t.uh m dp j).1
def Jz(t:ad)(m:ba)(x:t.D)(j:Nat):List (Nat×cn):=(t.ug m [] x j).2.1
def JA(t:ad)(m:ba)(j:Nat):List (Nat×iN):=(t.uh m [] j).2.1
@[reducible] def aM:kD:=.cell .keep
end Go.LM
namespace Go.LM
theorem RN{P:Program}{f key:Nat}{e:Entry}(hf:∀x,e.f x=none):ij P f key e :=
 ⟨fun w Z F x us r _ _ _ _ hx=>by rw [hf x] at hx;cases hx⟩
theorem abu{w:World}{Z F:ah}{e:Entry}{us:List Value}{k:IntKind}{x:Int}(oD:e.rs=[.val (.int k) .R])(hm:bA.d' e.ps=.nil)(hZ:∀b o,Z b o→b<w.heap.size)(hF:∀b o,F b o→b<w.heap.size)(hap:ah.apart F Z)
  (r:(cW.outs e.rs (bA.d' e.ps)).D) (hr:∀G,iw w Z e.ps (us++gf us) e.rs r [.int k x] G):Ends w Z F e us r (.int k x) w :=
 ⟨[.int k x],Z,ah.none,rfl,Ext.refl _ _,fun _ _ h=>h,fun _ _ h=>.inl h,fun _ _ h=>h.elim,fun _ _ h=>h.elim,hr _⟩
def CC(g:List UInt8→UInt8→Int):Entry:=⟨[aW .str,aW (.int .u8)],[bq (.int .i64)],fun x=>some (g x.1 x.2.1.toNat.toUInt8,())⟩
theorem RO{P:Program}{f:FuncId}{fn:Func}{x:Array Value→Sem Value}(g:List UInt8→UInt8→Int)(hf:P.funcs[f]?=some fn)(jg:(fn.name == "runtime.NumGoroutine")=false)
  (hb:fn.body.isNone=true) (hn:Extern.findNext fn=none) (he:Extern.find fn=some x)
  (hx:∀(s:ByteArray) (c:Int) (w:World),(x #[.string s,.int .u8 c]).run P w=.ok (.int .i64 (g s.data.toList c.toNat.toUInt8)) w):ij P f 0 (CC g):=by
 refine⟨fun w Z F y us r hZ hF hap hA aN=>?_⟩
 obtain rfl:=aU aN
 obtain ⟨vs1,us1,G1,H1,e1,k1,h1,_⟩:=hA
 obtain ⟨vs2,us2,G2,H2,e2,k2,h2,_⟩:=h1
 simp only [ad.al] at k1 k2
 obtain ⟨s,rfl,hs⟩:=k1
 subst k2
 have h2:us2=[]:=h2
 subst h2
 subst e2
 have hus:us=[.string s,.int .u8 y.2.1]:=by
  cases us with
  | nil=>cases e1
  | cons u us =>
   cases us with
   | nil =>
    simp only [List.cons_append,List.nil_append] at e1
    injection e1 with e3 fY
    subst e3
    cases fY
   | cons hp us =>
    simp only [List.cons_append] at e1
    injection e1 with e3 fY
    injection fY with fY tB
    subst e3 fY
    have:us=[]:=(List.append_eq_nil_iff.1 tB).1
    subst this
    rfl
 subst hus
 refine .inr ⟨.int .i64 (g s.data.toList y.2.1.toNat.toUInt8),w,?_,.int .i64 (g s.data.toList y.2.1.toNat.toUInt8),rfl,?_⟩
 ·rw [run_callFunc_extern hf jg hb hn he]
  have:=hx s y.2.1 w
  rw [show(([Value.string s,Value.int IntKind.u8 y.2.1]:List Value).toArray) = #[.string s,.int .u8 y.2.1] from rfl,this]
  rfl
 ·rw [hs]
  refine abu (e:=CC g) rfl rfl hZ hF hap _ fun G=>?_
  refine⟨[_],[],ah.none,ah.none,rfl,?_,?_,fun _ _ h=>h.elim,fun _ _ h=>h.elim,fun _ _ h=>h.elim⟩
  ·simp only [ad.al]
  ·exact⟨rfl,_,_,rfl,_,_,rfl,trivial⟩
theorem abv{P:Program}{f:FuncId}{fn:Func}(hf:P.funcs[f]?=some fn)(jg:(fn.name == "runtime.NumGoroutine")=false)
  (hb:fn.body.isNone=true) (hn:Extern.findNext fn=none) (he:Extern.find fn=some Extern.BytealgIndexByte.indexByte):ij P f 0 (CC Lib.indexByte) :=
 RO _ hf jg hb hn he fun s c w=>Lib.run_indexByteString s c w
theorem abw{P:Program}{f:FuncId}{fn:Func}(hf:P.funcs[f]?=some fn)(jg:(fn.name == "runtime.NumGoroutine")=false)
  (hb:fn.body.isNone=true) (hn:Extern.findNext fn=none) (he:Extern.find fn=some Extern.BytealgCount.count):ij P f 0 (CC fun l c=>(Lib.countByte l c:Int)) :=
 RO _ hf jg hb hn he fun s c w=>Lib.run_countString s c w
end Go.LM
namespace Go.LM
mutual
def ad.rw:ad→ad
 | .sl _=>.raw
 | .st aj=>.st aj.rw
 | .int k=>.int k
 | .bool=>.bool
 | .str=>.str
 | .raw=>.raw
def ax.rw:ax→ax
 | .nil=>.nil
 | .cons t aj=>.cons t.rw aj.rw
end
mutual
def ad.rel:(T T':ad)→T.D→T'.D→Prop
 | .int _,.int _,x,y=>x=y
 | .bool,.bool,x,y=>x=y
 | .str,.str,x,y=>x=y
 | .sl _,.raw,_,_=>True
 | .raw,.raw,x,y=>x=y
 | .st aj,.st JB,x,y=>aj.rel JB x y
 | _,_,_,_=>False
def ax.rel:(T T':ax)→T.D→T'.D→Prop
 | .nil,.nil,_,_=>True
 | .cons t aj,.cons dn JB,x,y=>t.rel dn x.1 y.1∧aj.rel JB x.2 y.2
 | _,_,_,_=>False
end
mutual
theorem ad.oI:∀t:ad,t.rw.size=t.size
 | .int _=>rfl
 | .bool=>rfl
 | .str=>rfl
 | .sl _=>rfl
 | .raw=>rfl
 | .st aj=>by simp only [ad.rw,ad.size];exact ax.oI aj
theorem ax.oI:∀t:ax,t.rw.size=t.size
 | .nil=>rfl
 | .cons t aj=>by simp only [ax.rw,ax.size,ad.oI t,ax.oI aj]
end
mutual
theorem ad.y3{w:World}{Z:ah} : ∀(T:ad) (m:ba) {x:T.D} {vs:List Value} {F:ah},T.al w Z m x vs F→∃y:T.rw.D,(∀(w':World) (Z':ah) (m':ba) (F':ah),T.rw.al w' Z' m' y vs F')∧T.rel T.rw x y
 | .int _,_,x,_,_,h=>by simp only [ad.al] at h;subst h;exact⟨x,fun _ _ _ _=>by simp only [ad.rw,ad.al],by simp only [ad.rw,ad.rel]⟩
 | .bool,_,x,_,_,h=>by simp only [ad.al] at h;subst h;exact⟨x,fun _ _ _ _=>by simp only [ad.rw,ad.al],by simp only [ad.rw,ad.rel]⟩
 | .str,_,x,_,_,h=>by simp only [ad.al] at h;exact⟨x,fun _ _ _ _=>by simp only [ad.rw,ad.al];exact h,by simp only [ad.rw,ad.rel]⟩
 | .raw,_,x,_,_,h=>by simp only [ad.al] at h;exact⟨x,fun _ _ _ _=>by simp only [ad.rw,ad.al];exact h,by simp only [ad.rw,ad.rel]⟩
 | .sl t,m,x,vs,F,h=>by
  have:∃A n c,vs=[.slice A n c]:=by
   cases m <;>(simp only [ad.al] at h;obtain ⟨A,c,hv,_⟩:=h;exact⟨A,_,c,hv⟩)
  obtain ⟨A,n,c,rfl⟩:=this
  exact⟨(.slice A n c:Value),fun _ _ _ _=>by simp only [ad.rw,ad.al];exact⟨trivial,A,n,c,rfl⟩,by simp only [ad.rw,ad.rel]⟩
 | .st aj,m,x,vs,F,h=>by
  simp only [ad.al] at h
  obtain ⟨y,h1,h2⟩:=ax.y3 aj m.parts h
  exact⟨y,fun w' Z' m' F'=>by simp only [ad.rw,ad.al];exact h1 w' Z' m'.parts F',by simp only [ad.rw,ad.rel];exact h2⟩
theorem ax.y3{w:World}{Z:ah} : ∀(T:ax) (m:cU) {x:T.D} {vs:List Value} {F:ah},T.al w Z m x vs F→∃y:T.rw.D,(∀(w':World) (Z':ah) (m':cU) (F':ah),T.rw.al w' Z' m' y vs F')∧T.rel T.rw x y
 | .nil,_,_,_,_,h=>by simp only [ax.al] at h;exact⟨(),fun _ _ _ _=>by simp only [ax.rw,ax.al];exact h,by simp only [ax.rw,ax.rel]⟩
 | .cons t aj,m,x,vs,F,h=>by
  simp only [ax.al] at h
  obtain ⟨us,bJ,G,H,rfl,h1,h2,_⟩:=h
  obtain ⟨y,k1,k2⟩:=ad.y3 t m.ag h1
  obtain ⟨z,dN,ek⟩:=ax.y3 aj m.dv h2
  exact⟨(y,z),fun w' Z' m' F'=>by simp only [ax.rw,ax.al];exact⟨us,bJ,ah.none,ah.none,rfl,k1 w' Z' m'.ag _,dN w' Z' m'.dv _,fun _ _ h=>h.elim,fun _ _ h=>h.elim,fun _ _ h=>h.elim⟩,by simp only [ax.rw,ax.rel];exact⟨k2,ek⟩⟩
end
mutual
theorem ad.y4{w w':World}{Z Z':ah} : ∀(T:ad) {m m':ba} {y:T.rw.D} {vs:List Value} {F F':ah},T.rw.al w Z m y vs F→T.rw.al w' Z' m' y vs F'
 | .int _,_,_,_,_,_,_,h=>by simp only [ad.rw,ad.al] at h ⊢;exact h
 | .bool,_,_,_,_,_,_,h=>by simp only [ad.rw,ad.al] at h ⊢;exact h
 | .str,_,_,_,_,_,_,h=>by simp only [ad.rw,ad.al] at h ⊢;exact h
 | .sl _,_,_,_,_,_,_,h=>by simp only [ad.rw,ad.al] at h ⊢;exact h
 | .raw,_,_,_,_,_,_,h=>by simp only [ad.rw,ad.al] at h ⊢;exact h
 | .st aj,_,_,_,_,_,_,h=>by simp only [ad.rw,ad.al] at h ⊢;exact ax.y4 aj h
theorem ax.y4{w w':World}{Z Z':ah} : ∀(T:ax) {m m':cU} {y:T.rw.D} {vs:List Value} {F F':ah},T.rw.al w Z m y vs F→T.rw.al w' Z' m' y vs F'
 | .nil,_,_,_,_,_,_,h=>by simp only [ax.rw,ax.al] at h ⊢;exact h
 | .cons t aj,_,_,_,_,_,_,h=>by
  simp only [ax.rw,ax.al] at h ⊢
  obtain ⟨a,b,_,_,rfl,h1,h2,_⟩:=h
  exact⟨a,b,ah.none,ah.none,rfl,ad.y4 t h1,ax.y4 aj h2,fun _ _ h=>h.elim,fun _ _ h=>h.elim,fun _ _ h=>h.elim⟩
end
mutual
theorem ad.y5{w w':World}{Z Z':ah} : ∀(T:ad) {m m':ba} {y:T.rw.D} {us vs:List Value} {F F':ah},T.rw.al w Z m y us F→T.rw.al w' Z' m' y vs F'→us=vs
 | .int _,_,_,_,_,_,_,_,h,k=>by simp only [ad.rw,ad.al] at h k;rw [h,k]
 | .bool,_,_,_,_,_,_,_,h,k=>by simp only [ad.rw,ad.al] at h k;rw [h,k]
 | .str,_,_,_,_,_,_,_,h,k=>by
  simp only [ad.rw,ad.al] at h k
  obtain ⟨s,rfl,hs⟩:=h
  obtain ⟨ar,rfl,RP⟩:=k
  have:s=ar:=by
   cases s;cases ar
   simp only at hs RP
   congr 1
   apply Array.ext'
   rw [hs,RP]
  rw [this]
 | .sl _,_,_,_,_,_,_,_,h,k=>by simp only [ad.rw,ad.al] at h k;rw [h.1,k.1]
 | .raw,_,_,_,_,_,_,_,h,k=>by simp only [ad.rw,ad.al] at h k;rw [h.1,k.1]
 | .st aj,_,_,_,_,_,_,_,h,k=>by simp only [ad.rw,ad.al] at h k;exact ax.y5 aj h k
theorem ax.y5{w w':World}{Z Z':ah} : ∀(T:ax) {m m':cU} {y:T.rw.D} {us vs:List Value} {F F':ah},T.rw.al w Z m y us F→T.rw.al w' Z' m' y vs F'→us=vs
 | .nil,_,_,_,_,_,_,_,h,k=>by simp only [ax.rw,ax.al] at h k;rw [h,k]
 | .cons t aj,_,_,_,_,_,_,_,h,k=>by
  simp only [ax.rw,ax.al] at h k
  obtain ⟨a,b,_,_,rfl,h1,h2,_⟩:=h
  obtain ⟨b7,b',_,_,rfl,k1,k2,_⟩:=k
  rw [ad.y5 t h1 k1,ax.y5 aj h2 k2]
end
def hJ(w:World)(Z:ah)(T:ad)(m:ba):List T.D→List T.rw.D→ah→Prop
 | [],[],_=>True
 | x :: xs,y :: ys,G=>∃vs G1 G2,T.al w Z m x vs G1∧T.rw.al w Z .R y vs ah.none∧T.rel T.rw x y∧hJ w Z T m xs ys G2∧ah.apart G1 G2∧ah.sub G1 G∧ah.sub G2 G
 | _,_,_=>False
section
variable{w w':World}{Z Z':ah}{T:ad}{m:ba}
theorem hJ.len:∀ {xs:List T.D} {ys:List T.rw.D} {G:ah},hJ w Z T m xs ys G→ys.length=xs.length
 | [],[],_,_=>rfl
 | _ :: _,_ :: _,_,⟨_,_,_,_,_,_,h,_⟩=>by simp [hJ.len h]
 | [],_ :: _,_,h=>h.elim
 | _ :: _,[],_,h=>h.elim
theorem hJ.mono:∀ {xs:List T.D} {ys:List T.rw.D} {G dj:ah},ah.sub G dj→hJ w Z T m xs ys G→hJ w Z T m xs ys dj
 | [],[],_,_,_,_=>trivial
 | _ :: _,_ :: _,_,_,hs,⟨vs,G1,G2,h1,h2,h3,h4,a8,bl,bK⟩=>⟨vs,G1,G2,h1,h2,h3,h4,a8,fun b o h=>hs b o (bl b o h),fun b o h=>hs b o (bK b o h)⟩
 | [],_ :: _,_,_,_,h=>h.elim
 | _ :: _,[],_,_,_,h=>h.elim
theorem hJ.RQ:∀ {xs:List T.D} {b o:Nat} {G:ah},Row w (T.al w Z m) T.size xs b o G→∃ys,hJ w Z T m xs ys G∧∀(Z':ah),Row w (T.rw.al w Z' .R) T.rw.size ys b o ah.none
 | [],_,_,_,_=>⟨[],trivial,fun _=>trivial⟩
 | x :: xs,b,o,G,⟨vs,G1,G2,h1,h2,h3,h4,a8,bl,bK⟩=>by
  obtain ⟨ys,k1,k2⟩:=hJ.RQ h4
  obtain ⟨y,dN,ek⟩:=ad.y3 T m h1
  refine⟨y :: ys,⟨vs,G1,G2,h1,dN _ _ _ _,ek,k1,a8,bl,bK⟩,fun Z'=>⟨vs,ah.none,ah.none,dN _ _ _ _,by rw [h2,ad.oI],h3,?_,fun _ _ h=>h.elim,fun _ _ h=>h.elim,fun _ _ h=>h.elim⟩⟩
  have:=k2 Z'
  rw [ad.oI] at this ⊢
  exact this
theorem hJ.filter{p:T.D→Bool}{p':T.rw.D→Bool}(au:∀x y,T.rel T.rw x y→p x=p' y):∀ {xs:List T.D} {ys:List T.rw.D} {G:ah},hJ w Z T m xs ys G→hJ w Z T m (xs.filter p) (ys.filter p') G
 | [],[],_,_=>trivial
 | x :: xs,y :: ys,G,⟨vs,G1,G2,h1,h2,h3,h4,a8,bl,bK⟩=>by
  have ih:=hJ.filter au h4
  rw [List.filter_cons,List.filter_cons,au x y h3]
  cases p' y
  ·exact ih.mono bK
  ·exact⟨vs,G1,G2,h1,h2,h3,ih,a8,bl,bK⟩
 | [],_ :: _,_,h=>h.elim
 | _ :: _,[],_,h=>h.elim
theorem hJ.same:∀ {xs:List T.D} {ys:List T.rw.D} {G:ah},b4 w w' G→hJ w Z T T.own xs ys G→hJ w' Z' T T.own xs ys G
 | [],[],_,_,_=>trivial
 | x :: xs,y :: ys,G,hs,⟨vs,G1,G2,h1,h2,h3,h4,a8,bl,bK⟩=>by
  exact⟨vs,G1,G2,qv T (hs.mono bl) h1,ad.y4 T h2,h3,hJ.same (hs.mono bK) h4,a8,bl,bK⟩
 | [],_ :: _,_,_,h=>h.elim
 | _ :: _,[],_,_,h=>h.elim
theorem hJ.row:∀ {xs:List T.D} {ys:List T.rw.D} {G:ah} {b o:Nat} {H:ah},hJ w Z T m xs ys G→Row w (T.rw.al w Z' .R) T.rw.size ys b o H→Row w (T.al w Z m) T.size xs b o G
 | [],[],_,_,_,_,_,_=>trivial
 | x :: xs,y :: ys,G,b,o,H,⟨vs,G1,G2,h1,h2,h3,h4,a8,bl,bK⟩,⟨us,H1,H2,k1,k2,k3,bg,_⟩=>by
  have:us=vs:=ad.y5 T k1 h2
  subst this
  rw [ad.oI] at k2 bg
  exact⟨us,G1,G2,h1,k2,k3,hJ.row h4 (by rw [ad.oI];exact bg),a8,bl,bK⟩
 | [],_ :: _,_,_,_,_,h,_=>h.elim
 | _ :: _,[],_,_,_,_,h,_=>h.elim
theorem abx{P:Program}{f:FuncId}{key:FuncId}{T':ad}{p:T.D→Int→Bool}{p':T'.D→Int→Bool}(bX:T.rw=T')(Ce:∀x y i,T.rel T' x y→p x i=p' y i)
  {fq:(bA.ins [.val (.sl T') (.O .R),.fn 0 1,.ref (.int .i64)]).D→Option (cW.outs [.val (.sl T') (.O .R)] (bA.d' [.val (.sl T') (.O .R),.fn 0 1,.ref (.int .i64)])).D}
  (dm:ij P f key ⟨[.val (.sl T') (.O .R),.fn 0 1,.ref (.int .i64)],[.val (.sl T') (.O .R)],fq⟩)
  (hf:∀(ys:List T'.D) (i:Int),room ys.length=true→fq (ys,i,())=some (ys.filter (fun y=>p' y i),())) :
  ij P f key ⟨[.val (.sl T) (.O T.own),.fn 0 1,.ref (.int .i64)],[.val (.sl T) (.O T.own)],fun x=>cond (room x.1.length) (some (x.1.filter (fun y=>p y x.2.1),())) none⟩:=by
 subst bX
 refine⟨fun w Z F x us r hZ hF hFZ hA hr=>?_⟩
 obtain ⟨xs,i,u⟩:=x
 simp only at hr
 cases hroom:room xs.length
 ·rw [hroom] at hr;cases hr
 rw [hroom] at hr
 simp only [cond_true] at hr
 have hr:=aU hr
 obtain ⟨vs,aS,G,H,e1,cM,fa,CD,hGF,y6⟩:=hA
 simp only [ad.al] at cM
 obtain ⟨A,c,rfl,cM⟩:=cM
 obtain ⟨ys,G1,w3,dX,aby,y7,w4,JC⟩:∃(ys:List T.rw.D) (G1 w3:ah),hJ w Z T T.own xs ys G1∧(ad.sl T.rw).al w Z (.O .R) ys [.slice A xs.length c] w3∧ah.sub G1 G∧ah.sub w3 G∧ah.apart G1 w3:=by
  rcases cM with⟨rfl,rfl⟩ | ⟨a,rfl,hr⟩
  ·exact⟨[],ah.none,ah.none,trivial,by simp only [ad.al];exact⟨A,0,rfl,.inl (by simp)⟩,fun _ _ h=>h.elim,fun _ _ h=>h.elim,fun _ _ h=>h.elim⟩
  ·obtain ⟨G1,g1,g2,g3⟩:=hr.row
   obtain ⟨ys,k1,k2⟩:=hJ.RQ g1
   refine⟨ys,G1,ah.run a.block a.off (c*T.size),k1,?_,g3,?_,?_⟩
   ·simp only [ad.al]
    refine⟨some a,c,by rw [k1.len],.inr ⟨a,rfl,hr.spot,by rw [k1.len];exact hr.cap,?_,?_,ah.none,?_,fun _ _ h=>h,fun _ _ h=>h.elim⟩⟩
    ·rw [ad.oI];exact hr.wr
    ·rw [ad.oI];exact fun j hj=>⟨rfl,by omega,by omega⟩
    ·exact k2 Z
   ·rintro b o ⟨rfl,h1,h2⟩
    have:=hr.inF (o-a.off) (by omega)
    rwa [show a.off +(o-a.off)=o by omega] at this
   ·rintro b o aA ⟨rfl,h1,h2⟩
    have:=g2 (o-a.off) (by omega)
    rw [show a.off +(o-a.off)=o by omega] at this
    exact this aA
 have hcall:=dm.calls w Z (w3.or H) (ys,i,u) us (ys.filter (fun y=>p' y i),()) hZ
  (fun b o h=>h.elim (fun h=>hF b o (hGF b o (w4 b o h))) fun h=>hF b o (y6 b o h))
  (fun b o h hz=>h.elim (fun h=>hFZ b o (hGF b o (w4 b o h)) hz) fun h=>hFZ b o (y6 b o h) hz)
  ⟨[.slice A xs.length c],aS,w3,H,e1,aby,fa,fun b o h=>CD b o (w4 b o h),fun _ _ h=>.inl h,fun _ _ h=>.inr h⟩
  (hf ys i (by rw [dX.len];exact hroom))
 refine hcall.mono ?_
 rintro end_ w' ⟨v,rfl,⟨⟨dr,Z',F',rfl,hx,jw,hz2,hf2,tN,hV⟩⟩⟩
 subst hr
 simp only [iw] at hV
 obtain ⟨vs1,ec,dj,aak,rfl,wH,⟨rfl,CE⟩,_,RR,_⟩:=hV
 have w5:∀b o,G1 b o→F b o∧b<w.heap.size:=fun b o h=>⟨hGF b o (y7 b o h),hF b o (hGF b o (y7 b o h))⟩
 have abz:ah.apart G1 F':=by
  intro b o h1 h2
  rcases (hf2 b o h2).1 with(h3 | h3) | h3
  ·exact JC b o h1 h3
  ·exact CD b o (y7 b o h1) h3
  ·have:=(w5 b o h1).2;omega
 have k4:b4 w w' G1:=b4.jb hx (fun b o h=>(w5 b o h).2) (by
  rintro b o h1 (h3 | h3)
  ·exact JC b o h1 h3
  ·exact CD b o (y7 b o h1) h3)
 have CF:hJ w' Z' T T.own (xs.filter fun y=>p y i) (ys.filter fun y=>p' y i) G1:=(dX.same k4).filter fun x y h=>Ce x y i h
 have hsz:T.rw.size=T.size:=ad.oI T
 refine⟨_,rfl,⟨⟨_,Z',F'.or G1,rfl,?_,jw,?_,?_,?_,?_⟩⟩⟩
 ·exact hx.mono fun b o hb h=>h.elim (fun h=>hGF b o (w4 b o h)) fun h=>y6 b o h
 ·intro b o hz
  rcases hz2 b o hz with h1 | ⟨h1,h2⟩
  ·exact .inl h1
  ·exact .inr ⟨h1.imp (fun h=>h.elim (fun h=>hGF b o (w4 b o h)) fun h=>y6 b o h) fun h=>h,h2⟩
 ·rintro b o (h1 | h1)
  ·obtain ⟨h2,h3⟩:=hf2 b o h1
   exact⟨h2.imp (fun h=>h.elim (fun h=>hGF b o (w4 b o h)) fun h=>y6 b o h) fun h=>h,h3⟩
  ·exact⟨.inl (w5 b o h1).1,Nat.lt_of_lt_of_le (w5 b o h1).2 hx.size⟩
 ·rintro b o (h1 | h1) hz
  ·exact tN b o h1 hz
  ·rcases hz2 b o hz with h2 | ⟨(h2 | h2) | h2,_⟩
   ·exact hFZ b o (w5 b o h1).1 h2
   ·exact JC b o h1 h2
   ·exact CD b o (y7 b o h1) h2
   ·have:=(w5 b o h1).2;omega
 ·simp only [iw]
  refine⟨vs1,[],F'.or G1,ah.none,rfl,?_,⟨rfl,by simp only [iB] at CE ⊢;exact CE⟩,fun _ _ _ h=>h.elim,fun _ _ h=>h,fun _ _ h=>h.elim⟩
  simp only [ad.al] at wH ⊢
  obtain ⟨pt,c',rfl,wH⟩:=wH
  refine⟨pt,c',by rw [← CF.len],?_⟩
  rcases wH with⟨h1,h2⟩ | ⟨b7,pA,iH⟩
  ·refine .inl ⟨List.eq_nil_of_length_eq_zero ?_,h2⟩
   rw [← CF.len,h1];rfl
  ·obtain ⟨O5,bz,_⟩:=iH.row
   refine .inr ⟨b7,pA,iH.spot,by rw [← CF.len];exact iH.cap,by have:=iH.wr;rwa [hsz] at this,?_,G1,CF.row bz,?_,fun _ _ h=>.inr h⟩
   ·intro j hj
    exact .inl (RR _ _ (iH.inF j (by rw [hsz];exact hj)))
   ·intro j hj aA
    exact abz _ _ aA (RR _ _ (iH.inF j (by rw [hsz];exact hj)))
end
end Go.LM
