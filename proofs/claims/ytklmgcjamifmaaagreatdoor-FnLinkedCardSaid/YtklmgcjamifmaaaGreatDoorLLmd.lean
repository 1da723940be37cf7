/- Regions, loops and whole functions are what the interpreter says, and a law's reading fits them. Conditions: each theorem's own hypotheses. -/
import Derived.Test.YtklmgcjamifmaaaGreatDoorLLmc
import Derived.Orders
import Derived.OrdersHeld
import Derived.Laws.StructEq
import Derived.WalkKit
import Derived.ProofKit
import Derived.OpenShut
import Derived.ShutString
import Derived.ChangeOld
import Derived.Below
import Derived.JoinedCond
import Derived.Lib.Bytealg
set_option linter.unusedVariables false
set_option linter.unusedSimpArgs false
namespace Go.LM
section
variable{P:Program}{Q:Exit→Act→World→Prop}
variable{w0:World}{F0 Z0:ah}{n:cC}{s ar:an}{a b9:Act}{w w':World}{ι bd:Nat→bF}{Z Z':ah}
variable{E:Env}{o:Oper}{bu : Type}{K:an→Option bu}{r : bu}{id:Nat}
def gW(w0:World)(F0 Z0:ah)(n:cC)(K:an→Option bu)(r : bu)(a:Act)(w:World):Prop:=∃s,K s=some r∧cY w0 F0 Z0 n s a w
theorem QJ(hn:E.n=n)(h:yf E o=true):∀k,o.dst=some k→k<n:=by
 intro k hk
 unfold yf at h
 rw [hk] at h
 rw [← hn]
 exact Nat.le_of_ble_eq_true h
theorem Inv.QK(h:Inv w0 F0 Z0 n s a w ι Z){d:Nat}{b:Bool}(hb:s.t d=.aU (.bool b)):Inv w0 F0 Z0 n (s.set d (.aU (.bool b))) a w ι Z∧a.tmps.getD d undef=.bool b:=by
 have ag:=h.tmps d
 rw [hb] at ag
 have jm:a.tmps.getD d undef=.bool b:=by simpa only [aP,cj] using ag
 refine⟨h.tmp rfl (fun k=>?_) h.size h.defers,jm⟩
 have hm:eH w Z s ι w Z (s.set d (.aU (.bool b))) ι := HL rfl
 show aP w Z (s.set d (.aU (.bool b))) ι (bT s.t d (.aU (.bool b)) k) (a.tmps.getD k undef)
 by_cases hk:d=k
 ·subst hk;rw [cz,jm];simp only [aP,cj]
 ·rw [cR hk];exact(h.tmps k).move hm
theorem QL(h:Inv w0 F0 Z0 n s a w ι Z)(ag:∀k,o.dst=some k→k<n):cY w0 F0 Z0 n (s.dst o.dst .gone) (a.put o.dst undef) w :=
 ⟨ι,Z,h.dst (by simp only [aP]) ag⟩
theorem QM{ops:Array Oper}(bN:jH P E)(hn:E.n=n)(h:Inv w0 F0 Z0 n s a w ι Z)(hk:tk E id ops.toList o s K=some r) :
  if Region.wanted o (yielded ops a.tmps) then o.wp P a w (gW w0 F0 Z0 n K r) Q else gW w0 F0 Z0 n K r (a.put o.dst undef) w:=by
 unfold tk at hk
 cases tU:yf E o
 ·rw [tU] at hk;cases hk
 rw [tU] at hk
 simp only [cond_true] at hk
 have ag:=QJ hn tU
 have lU:∀ {s1:an},Inv w0 F0 Z0 n s1 a w ι Z→cU E id o s1 K=some r→o.wp P a w (gW w0 F0 Z0 n K r) Q:=by
  intro s1 h1 hk1
  obtain ⟨ar,h2,h3⟩:=ZV (Q:=Q) bN h1 ag hk1
  exact Oper.wp_mono (fun a w hs=>⟨ar,h2,hs⟩) h3
 have bS:∀ {s1:an},Inv w0 F0 Z0 n s1 a w ι Z→K (s1.dst o.dst .gone)=some r→gW w0 F0 Z0 n K r (a.put o.dst undef) w:=fun h1 hk1=>⟨_,hk1,QL h1 ag⟩
 unfold guardOf at hk
 cases aB:o.guard with
 | none =>
  rw [aB] at hk
  simp only at hk
  rw [if_pos (by simp [Region.wanted,aB])]
  exact lU h hk
 | some Jf =>
  obtain ⟨j,wt⟩:=Jf
  rw [aB] at hk
  simp only at hk
  cases hj:(ops.toList[j]?).bind (·.dst) with
  | none=>rw [hj] at hk;simp at hk
  | some d =>
   rw [hj] at hk
   simp only at hk
   cases hst:s.t d with
   | aU c =>
    cases c with
    | bool b =>
     rw [hst] at hk
     simp only at hk
     obtain ⟨h1,h2⟩:=h.QK hst
     have aN:yielded ops a.tmps j=some b:=by
      unfold yielded
      rw [Array.getElem?_toList] at hj
      rw [hj]
      simp only [av]
      have cA:d<a.tmps.size:=by
       rcases Nat.lt_or_ge d a.tmps.size with h | h
       ·exact h
       ·rw [Array.getD_eq_getD_getElem?,Array.getElem?_eq_none h] at h2
        simp [undef] at h2
      rw [Array.getD_eq_getD_getElem?,Array.getElem?_eq_getElem cA] at h2
      rw [Array.getElem?_eq_getElem cA]
      simp only [Option.getD_some] at h2
      rw [h2]
     have hw:Region.wanted o (yielded ops a.tmps)=(b==wt):=by
      simp only [Region.wanted,aB,aN]
      cases b <;> cases wt <;> rfl
     rw [hw]
     cases b <;> cases wt <;> simp only [cond_true,cond_false] at hk
     ·exact lU h1 hk
     ·exact bS h1 hk
     ·exact bS h1 hk
     ·exact lU h1 hk
    | _=>rw [hst] at hk;simp at hk
   | gone =>
    rw [hst] at hk
    simp only at hk
    have h2:=h.tmps d
    rw [hst] at h2
    simp only [aP] at h2
    have aN:yielded ops a.tmps j=none:=by
     unfold yielded
     rw [Array.getElem?_toList] at hj
     rw [hj]
     simp only [av]
     rw [Array.getD_eq_getD_getElem?] at h2
     cases iC:a.tmps[d]? with
     | none=>rfl
     | some v=>rw [iC] at h2;simp only [Option.getD_some] at h2;subst h2;rfl
    have hw:Region.wanted o (yielded ops a.tmps)=false:=by
     simp only [Region.wanted,aB,aN]
     cases wt <;> rfl
    rw [hw]
    exact bS h hk
   | _=>rw [hst] at hk;simp at hk
theorem Ci{ops:Array Oper}{R:Exit→Act→World→Prop}{i m:Nat}(hi:ops[i]?=some o)(aB:o.guard=none)(h:o.wp P a w (fun a w=>wpOps P ops R (List.range' (i+1) m) a w) R):wpOps P ops R (List.range' i (m+1)) a w:=by
 rw [List.range'_succ]
 simp only [wpOps,hi]
 rw [if_pos (by simp [Region.wanted,aB])]
 exact .inl h
theorem Jg{bE:Nat}{ops:Array Oper}(bN:jH P E)(hn:E.n=n):∀(m:Nat) (l:List Oper) (i:Nat) (s:an) (a:Act) (w:World),l.length≤m→ops.toList.drop i=l→tl E bE ops.toList l i 0 s K=some r→cY w0 F0 Z0 n s a w →
  wpOps P ops (fun e a w=>e=.normal∧gW w0 F0 Z0 n K r a w) (List.range' i l.length) a w
 | _,[],i,s,a,w,_,_,hk,hs=>⟨rfl,s,hk,hs⟩
 | 0,_ :: _,_,_,_,_,hm,_,_,_=>by simp at hm
 | m+1,o :: l,i,s,a,w,hm,hl,hk,⟨ι,Z,h⟩=>by
  have hm:l.length≤m:=by simpa using hm
  have Cj:∀(j:Nat) (o:Oper) (l:List Oper),ops.toList.drop j=o :: l→ops[j]?=some o∧ops.toList.drop (j+1)=l:=by
   intro j o l hl
   refine⟨?_,by rw [← List.drop_drop,hl];rfl⟩
   rw [← Array.getElem?_toList]
   have:=congrArg (·[0]?) hl
   simpa using this
  obtain ⟨hi,gf⟩:=Cj i o l hl
  simp only [tl] at hk
  cases b1:OQ E s o
  ·rw [b1] at hk
   simp only [cond_false] at hk
   rw [List.length_cons,List.range'_succ]
   have oy:=QM (Q:=fun e a w=>e=.normal∧gW w0 F0 Z0 n K r a w) bN hn h hk
   simp only [wpOps,hi]
   have qC:∀a w,gW w0 F0 Z0 n (fun ar=>tl E bE ops.toList l (i+1) 0 ar K) r a w→wpOps P ops (fun e a w=>e=.normal∧gW w0 F0 Z0 n K r a w) (List.range' (i+1) l.length) a w:=by
    rintro a w ⟨ar,h1,h2⟩
    exact Jg bN hn m l (i+1) ar a w hm gf h1 h2
   split
   ·rename_i hw
    rw [if_pos hw] at oy
    exact .inl (Oper.wp_mono qC oy)
   ·rename_i hw
    rw [if_neg hw] at oy
    exact qC _ _ oy
  ·rw [b1] at hk
   simp only [cond_true] at hk
   obtain ⟨dD,eG,eS,l',rfl,g0,g1,g2,g3,mf⟩:=aam (Q:=fun e a w=>e=.normal∧gW w0 F0 Z0 n K r a w) bN hn h hk
   obtain ⟨gG,hl1⟩:=Cj _ _ _ gf
   obtain ⟨e',dF⟩:=Cj _ _ _ hl1
   obtain ⟨rO,Jh⟩:=Cj _ _ _ dF
   refine Ci hi g0 (Oper.wp_mono (fun a w h=>Ci gG g1 (Oper.wp_mono (fun a w h=>Ci e' g2 (Oper.wp_mono (fun a w h=>Ci rO g3 (Oper.wp_mono (fun a w h=>?_) h)) h)) h)) mf)
   obtain ⟨ar,h1,h2⟩:=h
   exact Jg bN hn m l' (i+1+1+1+1) ar a w (by simp at hm;omega) Jh h1 h2
theorem aax{bE:Nat}{ops:Array Oper}(bN:jH P E)(hn:E.n=n)(l:List Oper)(i:Nat)(s:an)(a:Act)(w:World)(hl:ops.toList.drop i=l)(hk:HD E bE ops.toList l i s K=some r)(hs:cY w0 F0 Z0 n s a w) :
  wpOps P ops (fun e a w=>e=.normal∧gW w0 F0 Z0 n K r a w) (List.range' i l.length) a w:=Jg bN hn l.length l i s a w (Nat.le_refl _) hl hk hs
theorem aay{bE:Nat}{ops:Array Oper}(bN:jH P E)(hn:E.n=n)(hk:HD E bE ops.toList ops.toList 0 s K=some r)(hs:cY w0 F0 Z0 n s a w)(b:Frame)(k:List Item)(cs:List Frame) :
  ∃b9 w',gW w0 F0 Z0 n K r b9 w'∧Steps P (lone (b.at a (.code (.region bE ops false) :: k)) cs w) (lone (b.at b9 k) cs w'):=by
 have h:=aax (w0:=w0) (F0:=F0) (Z0:=Z0) (n:=n) bN hn ops.toList 0 s a w rfl hk hs
 have h':wpOps P ops (fun e a w=>e=.normal∧gW w0 F0 Z0 n K r a w) (List.range ops.size) a w:=by
  rw [List.range_eq_range'];simpa using h
 obtain ⟨e,b9,w',⟨rfl,hl⟩,harr⟩:=wp_ops _ a w h' b k cs
 exact⟨b9,w',hl,.head step_region harr⟩
end
end Go.LM
namespace Go.LM
section
variable{P:Program}{ops:Array Oper}{Q:Exit→Act→World→Prop}
abbrev fN:=List (Nat×(World→Prop))
def fN.after(ops:Array Oper)(j:Nat)(p:fN):fN:=p.filter fun x => !waits ops j x.1
def fN.ok(p:fN)(w:World):Prop:=∀x∈p,x.2 w
def oA(P:Program)(ops:Array Oper)(Q:Exit→Act→World→Prop):Nat→Array Bool→fN→Act→World→Prop
 | 0,listed,_,a,w=>Region.ready .any ops listed=[]∧Q .normal a w
 | fuel+1,listed,iP,a,w =>
  (Region.ready .any ops listed=[]→Q .normal a w) ∧
  ∀j∈Region.ready .any ops listed,wpOp P ops Q j (fun b9 w'=>(iP.after ops j).ok w'∧oA P ops Q fuel (listed.setIfInBounds j true) (iP.after ops j) b9 w') a w
theorem QN:∀(fuel:Nat) (listed:Array Bool) (iP:fN) (a:Act) (w:World),oA P ops Q fuel listed iP a w→wpAny P .any ops Q fuel listed a w
 | 0,_,_,_,_,h=>h
 | fuel+1,_,_,_,_,h=>⟨h.1,fun i hi=>wpOp_mono (fun b9 w' h'=>QN fuel _ _ b9 w' h'.2) (h.2 i hi)⟩
theorem fN.QO{p q:fN}(h:∀x∈p,x∈q)(j:Nat):∀x∈p.after ops j,x∈q.after ops j:=by
 intro x hx
 unfold fN.after at *
 rw [List.mem_filter] at *
 exact⟨h x hx.1,hx.2⟩
theorem QP:∀(fuel:Nat) (listed:Array Bool) (p q:fN) (a:Act) (w:World),(∀x∈p,x∈q)→oA P ops Q fuel listed q a w→oA P ops Q fuel listed p a w
 | 0,_,_,_,_,_,_,h=>h
 | fuel+1,_,p,q,_,_,hs,h=>⟨h.1,fun i hi=>wpOp_mono (fun b9 w' h'=>⟨fun x hx=>h'.1 x (fN.QO hs i x hx),QP fuel _ _ _ b9 w' (fN.QO hs i) h'.2⟩) (h.2 i hi)⟩
theorem fN.Ji{p:fN}{j:Nat}{x:Nat×(World→Prop)}(hx:x∈p.after ops j):x∈p:=(List.mem_filter.1 hx).1
theorem aaz{i:Nat}{mC:Oper}{v:Value}{S:World→Prop}(hi:ops[i]?=some mC)(wK:∀(j:Nat) (o:Oper) cs b,ops[j]?=some o→o.op≠.select cs b)
  (nB:∀c a w,Q (.panic c) (a.put mC.dst v) w→Q (.panic c) a w) :
  ∀(fuel:Nat) (listed:Array Bool) (iP:fN) (a:Act) (w:World),
   (∀j nC,ops[j]?=some nC→j≠i→listed.getD j true=false→(∀e∈nC.after,Region.binds .any e=true→e.on≠i)→mC.apart ops nC=true) →
   i∈Region.ready .any ops listed→YieldsIf P ops S mC v a→S w→iP.ok w →
   oA P ops Q fuel (listed.setIfInBounds i true) ((i,S) :: iP) (a.put mC.dst v) w→oA P ops Q (fuel+1) listed iP a w:=by
 intro fuel
 induction fuel with
 | zero =>
  intro listed iP a w _ hr aN dS au H
  refine⟨fun h=>(by rw [h] at hr;cases hr),fun j hj=>?_⟩
  by_cases lT:j=i
  ·subst lT;exact aN.wpOp hi dS ⟨fun x hx=>au x (fN.Ji hx),H⟩
  ·have:=ready_mono hj lT
   rw [H.1] at this
   cases this
 | succ fuel ih =>
  intro listed iP a w ff hr aN dS au H
  refine⟨fun h=>(by rw [h] at hr;cases hr),fun j hj=>?_⟩
  by_cases lT:j=i
  ·subst lT
   exact aN.wpOp hi dS ⟨fun x hx=>au x (fN.Ji hx),QP _ _ _ _ _ _ (fun x hx=>List.mem_cons_of_mem _ (fN.Ji hx)) H⟩
  ·have h1:=H.2 j (ready_mono hj lT)
   obtain ⟨QQ,nC,Ck,qz⟩:=mem_ready.1 hj
   have QR:∀e∈nC.after,Region.binds .any e=true→e.on≠i:=fun e he hb heq=>by
    have h1:=qz e he hb
    have h0:=(mem_ready.1 hr).1
    rw [heq] at h1
    rcases Nat.lt_or_ge i listed.size with h' | h'
    ·simp [h'] at h0 h1;rw [h0] at h1;cases h1
    ·simp [Array.getElem?_eq_none h'] at h1
   have aaA:waits ops j i=false:=by
    unfold waits
    rw [Ck]
    simp only
    rw [Bool.eq_false_iff]
    intro aaB
    obtain ⟨e,he,hb⟩:=Array.any_eq_true'.1 aaB
    simp only [Bool.and_eq_true] at hb
    exact QR e he hb.1 (Nat.eq_of_beq_eq_true hb.2)
   have aaC:fN.after ops j ((i,S) :: iP)=(i,S) :: iP.after ops j:=by
    unfold fN.after
    rw [List.filter_cons_of_pos (by simp [aaA])]
   rw [aaC] at h1
   have h2:=wpOp_putIf Ck (ff j nC Ck lT QQ QR) (fun cs b=>wK i mC cs b hi) (fun cs b=>wK j nC cs b Ck) nB aN h1
   have aaD:∀k ok,ops[k]?=some ok→k≠i→(listed.setIfInBounds j true).getD k true=false →
     (∀e∈ok.after,Region.binds .any e=true→e.on≠i)→mC.apart ops ok=true:=fun k ok hk gL wL bS=>by
    refine ff k ok hk gL ?_ bS
    by_cases lQ:j=k
    ·subst lQ;exact QQ
    ·rw [getD_set_ne true lQ] at wL;exact wL
   refine wpOp_mono (fun b9 w' h3=>⟨fun x hx=>h3.2.1 x (List.mem_cons_of_mem _ hx),ih (listed.setIfInBounds j true) _ b9 w' aaD (ready_mono hr (Ne.symm lT)) h3.1 (h3.2.1 _ List.mem_cons_self) (fun x hx=>h3.2.1 x (List.mem_cons_of_mem _ hx)) ?_⟩) h2
   rw [Array.setIfInBounds_comm _ _ lT]
   exact h3.2.2
end
end Go.LM
namespace Go.LM
section
variable{P:Program}{Q:Exit→Act→World→Prop}
variable{w0:World}{F0 Z0:ah}{n:cC}{s ar:an}{a b9:Act}{w w':World}{ι bd:Nat→bF}{Z Z':ah}
variable{E:Env}{o:Oper}{bu : Type}{K:an→Option bu}{r : bu}{id:Nat}
structure cC.le(p q:cC):Prop where
 n:q.n=p.n
 qj:q.qj=p.qj
 gc:∀e,e∈p.gc→e∈q.gc
theorem cC.le.refl(n:cC):cC.le n n:=⟨rfl,rfl,fun _ h=>h⟩
theorem cC.le.trans{a b c:cC}(h:cC.le a b)(k:cC.le b c):cC.le a c:=⟨k.n.trans h.n,k.qj.trans h.qj,fun e he=>k.gc e (h.gc e he)⟩
theorem Inv.forget{ef:cC}(h:Inv w0 F0 Z0 ef s a w ι Z)(hl:cC.le n ef):Inv w0 F0 Z0 n s a w ι Z :=
 ⟨h.ext,h.dE,h.rB,h.iR,h.fU,h.own,h.apart,h.c4,h.tmps,by rw [h.size,hl.n],by rw [← hl.qj];exact h.ghost,fun e he=>h.seen e (hl.gc e he),h.defers⟩
theorem Inv.QS(h:Inv w0 F0 Z0 n s a w ι Z){e:Seen}(he:tr w Z s ι e):Inv w0 F0 Z0 ⟨n.n,n.qj,e :: n.gc⟩ s a w ι Z :=
 ⟨h.ext,h.dE,h.rB,h.iR,h.fU,h.own,h.apart,h.c4,h.tmps,h.size,h.ghost,fun x hx=>by rcases List.mem_cons.1 hx with rfl | hx;exact he;exact h.seen x hx,h.defers⟩
theorem QT(n:cC)(e:Seen):cC.le n ⟨n.n,n.qj,e :: n.gc⟩:=⟨rfl,rfl,fun _ h=>List.mem_cons_of_mem _ h⟩
def rX(n:cC)(dp:List (Nat×Nat))(S:World→Prop):Prop:=(∀w,S w)∨∃b i vs,(⟨dp,b,i,vs⟩:Seen)∈n.gc∧S=fun w=>b5 w b i vs
theorem rX.le{ef:cC}{dp:List (Nat×Nat)}{S:World→Prop}(h:rX n dp S)(hl:cC.le n ef):rX ef dp S :=
 h.imp (fun h=>h) fun⟨b,i,vs,h1,h2⟩=>⟨b,i,vs,hl.gc _ h1,h2⟩
def Reads(P:Program)(w0:World)(F0 Z0:ah)(n:cC)(dp:List (Nat×Nat))(o:Oper)(a:Act)(w:World)(ar:an):Prop :=
 ∃v S ef,(∀w',S w'→(execOp a.eval o).run P w'=.ok (.value v) w')∧S w∧cY w0 F0 Z0 ef ar (a.put o.dst v) w∧cC.le n ef∧rX ef dp S
theorem Pure.reads{dp:List (Nat×Nat)}(h:Pure P o a w (cY w0 F0 Z0 n ar)):Reads P w0 F0 Z0 n dp o a w ar:=by
 obtain ⟨v,h1,h2⟩:=h
 exact⟨v,fun _=>True,n,fun w' _=>h1 w',trivial,h2,.refl n,.inl fun _=>trivial⟩
theorem aaE{t:Nat}{x:Operand}(b1:gT P E)(h:Inv w0 F0 Z0 n s a w ι Z)(ag:∀k,o.dst=some k→k<n)(ho:o.op=.load t x)(hk:cU E id o s K=some r) :
  ∃ar,K ar=some r∧Reads P w0 F0 Z0 n (iO s o) o a w ar:=by
 unfold cU at hk
 rw [ho] at hk
 simp only at hk
 have hx:=e4 h x
 have hrun:∀ {T:ad} {b i:Nat} {vs:List Value} {w':World},E.ty t=some T→a.eval x=.pointer (some (at_ b i))→b5 w' b i vs→vs.length=T.size →
   (execOp a.eval o).run P w'=.ok (.value (dH T vs)) w':=by
  intro T b i vs w' ht he hc hl
  unfold execOp;rw [ho]
  refine fY ?_
  simp only [Instr.loadAt,Instr.sureAddr,he,run_bind,run_pure,H5 (b1.ty t T ht) hc hl]
 cases ht:E.ty t with
 | none=>rw [ht] at hk;simp at hk
 | some T =>
  rw [ht] at hk
  cases cK:bU s x with
  | ptr p =>
   have nh:iO s o=[(p.id,kq s p.id)]:=by unfold iO;rw [ho];simp only [cK]
   rw [cK] at hk hx
   simp only at hk
   cases c8:(l9 s T.size p).bind (jV T) with
   | none=>rw [c8] at hk;simp at hk
   | some v =>
    rw [c8] at hk
    obtain ⟨cs,h1,h2⟩:=bf c8
    simp only [aP] at hx
    obtain ⟨_,A,he,au⟩:=hx
    obtain ⟨b,i,vs,rfl,hc,ck,hl,b_,hF⟩:=P5 h h1 au
    have Jj:tr w Z s ι ⟨iO s o,b,i,vs⟩:=by
     rw [nh]
     refine⟨fun d ag=>?_,fun _=>⟨ck,fun j hj=>.inr ⟨_,List.mem_singleton.2 rfl,hF j (by simp only at hj;omega)⟩⟩⟩
     rw [List.mem_singleton] at ag
     subst ag
     exact⟨fun hn=>by rw [hn] at b_;exact b_,.inr (Nat.le_refl _)⟩
    exact⟨_,hk,_,fun w'=>b5 w' b i vs,_,fun w' hw=>hrun ht he hw hl,ck,⟨ι,Z,(h.QS Jj).dst (pk h2 hc) ag⟩,QT n ⟨iO s o,_,_,_⟩,.inr ⟨b,i,vs,List.mem_cons_self,rfl⟩⟩
  | dj dp cs off =>
   have nh:iO s o=dp:=by unfold iO;rw [ho];simp only [cK]
   rw [cK] at hk hx
   simp only at hk
   cases c8:(takeN off T.size cs).bind (jV T) with
   | none=>rw [c8] at hk;simp at hk
   | some v =>
    rw [c8] at hk
    simp only at hk
    cases dV:alive s dp
    ·rw [dV] at hk;simp at hk
    rw [dV] at hk
    obtain ⟨ds,h1,h2⟩:=bf c8
    obtain ⟨h3,rfl⟩:=pg h1
    simp only [aP] at hx
    obtain ⟨cd,b,i,vs,he,hx⟩:=hx
    obtain ⟨hc,ck,hz⟩:=hx dV
    have hlen:=hc.len
    have QU:b5 w b (i+off) (part vs off T.size):=ck.part off T.size
    have fJ:(part vs off T.size).length=T.size:=by simp [part];omega
    have Jj:tr w Z s ι ⟨iO s o,b,i+off,part vs off T.size⟩:=by
     rw [nh]
     refine⟨cd,fun _=>⟨QU,fun j hj=>?_⟩⟩
     simp only at hj
     rw [fJ] at hj
     have:=hz (off+j) (by omega)
     rwa [← Nat.add_assoc] at this
    exact⟨_,hk,_,fun w'=>b5 w' b (i+off) (part vs off T.size),_,fun w' hw=>hrun ht he hw fJ,QU,⟨ι,Z,(h.QS Jj).dst (pk h2 ((hc.drop _).take _)) ag⟩,QT n ⟨iO s o,_,_,_⟩,.inr ⟨b,i+off,part vs off T.size,List.mem_cons_self,rfl⟩⟩
  | _=>rw [cK] at hk;simp at hk
theorem aaF(bN:jH P E)(h:Inv w0 F0 Z0 n s a w ι Z)(ag:∀k,o.dst=some k→k<n)(c8:tm E o=true)(hk:cU E id o s K=some r) :
  ∃ar,K ar=some r∧Reads P w0 F0 Z0 n (iO s o) o a w ar:=by
 have fg:(∃ar,K ar=some r∧Pure P o a w (cY w0 F0 Z0 n ar))→∃ar,K ar=some r∧Reads P w0 F0 Z0 n (iO s o) o a w ar:=fun⟨ar,h1,h2⟩=>⟨ar,h1,h2.reads⟩
 unfold tm at c8
 cases ho:o.op with
 | move x=>exact fg (Bx h ag (.inl ho) hk)
 | assign x=>exact fg (Bx h ag (.inr ho) hk)
 | pick c x y=>exact fg (Pb h ag ho hk)
 | load t x=>exact aaE bN.ty h ag ho hk
 | nilCheck x=>exact fg (Pd h ag ho hk)
 | binOp op t x y BC=>exact fg (Pw bN.ty bN.eq h ag ho hk)
 | unOp op t x=>exact fg (Pt h ag ho hk)
 | convert st gl x =>
  rw [ho] at c8
  simp only at c8
  cases h1:E.ty st with
  | none=>rw [h1] at c8;simp at c8
  | some S =>
   cases h2:E.ty gl with
   | none=>rw [h1,h2] at c8;cases S <;> simp at c8
   | some T =>
    rw [h1,h2] at c8
    cases S <;> cases T <;> simp only at c8 <;> first | (cases c8;done) | exact fg (Y1 bN.ty h ag ho h1 h2 hk)
 | build t ps=>exact fg (PM bN.ty h ag ho hk)
 | makeFunc f first lx =>
  cases f with
  | func f=>exact fg (Pj h ag ho hk)
  | _=>unfold cU at hk;rw [ho] at hk;simp at hk
 | slice t x lo hi gQ=>exact fg (Pp bN.ty h ag ho hk)
 | fieldAddr t x f=>exact fg (Pf bN.ty h ag ho hk)
 | field t x f=>exact fg (Pg bN.ty h ag ho hk)
 | indexAddr t x i=>exact fg (Pk bN.ty h ag ho hk)
 | index t x i=>exact fg (Pl bN.ty h ag ho hk)
 | extract x i=>exact fg (Ph h ag ho hk)
 | call c =>
  rw [ho] at c8
  simp only at c8
  cases hc:c.callee with
  | builtin b =>
   rw [hc] at c8
   by_cases hb:b=.append
   ·subst hb;simp at c8
   ·by_cases hb2:b=.clear
    ·subst hb2;simp at c8
    ·exact fg (PG bN.ty h ag ho hc hb hb2 hk)
  | value f=>rw [hc] at c8;simp at c8
  | invoke x m=>rw [hc] at c8;simp at c8
 | _=>rw [ho] at c8;simp at c8
theorem aaG{d:Nat}{c:a6}(hst:s.t d=c)(x:Operand):bU (s.set d c) x=bU s x:=by
 cases x with
 | tmp t =>
  show bT s.t d c t=s.t t
  by_cases ag:d=t
  ·subst ag;rw [cz,hst]
  ·rw [cR ag]
 | _=>rfl
theorem QV{d:Nat}{c:a6}(hst:s.t d=c):iO (s.set d c) o=iO s o:=by
 unfold iO
 cases ho:o.op <;> simp only
 rename_i t x
 rw [aaG hst]
 rfl
theorem aaH{ops:Array Oper}(bN:jH P E)(hn:E.n=n)(c8:tm E o=true)(h:Inv w0 F0 Z0 n s a w ι Z)(hk:tk E id ops.toList o s K=some r) :
  ∃ar v S ef,K ar=some r∧YieldsIf P ops S o v a∧S w∧cY w0 F0 Z0 ef ar (a.put o.dst v) w∧cC.le n ef∧rX ef (iO s o) S:=by
 unfold tk at hk
 cases tU:yf E o
 ·rw [tU] at hk;cases hk
 rw [tU] at hk
 simp only [cond_true] at hk
 have ag:=QJ hn tU
 have lU:∀ {s1:an},Region.wanted o (yielded ops a.tmps)=true→iO s1 o=iO s o→Inv w0 F0 Z0 n s1 a w ι Z→cU E id o s1 K=some r→∃ar v S ef,K ar=some r∧YieldsIf P ops S o v a∧S w∧cY w0 F0 Z0 ef ar (a.put o.dst v) w∧cC.le n ef∧rX ef (iO s o) S:=by
  intro s1 hw he h1 hk1
  obtain ⟨ar,h2,v,S,ef,h3,h4,a7,bg,bH⟩:=aaF bN h1 ag c8 hk1
  exact⟨ar,v,S,ef,h2,.inl ⟨hw,h3⟩,h4,a7,bg,he ▸ bH⟩
 have bS:∀ {s1:an},Region.wanted o (yielded ops a.tmps)=false→Inv w0 F0 Z0 n s1 a w ι Z→K (s1.dst o.dst .gone)=some r→∃ar v S ef,K ar=some r∧YieldsIf P ops S o v a∧S w∧cY w0 F0 Z0 ef ar (a.put o.dst v) w∧cC.le n ef∧rX ef (iO s o) S:=fun hw h1 hk1 =>
  ⟨_,undef,fun _=>True,n,hk1,.inr ⟨hw,rfl⟩,trivial,QL h1 ag,.refl n,.inl fun _=>trivial⟩
 unfold guardOf at hk
 cases aB:o.guard with
 | none =>
  rw [aB] at hk
  simp only at hk
  exact lU (by simp [Region.wanted,aB]) rfl h hk
 | some Jf =>
  obtain ⟨j,wt⟩:=Jf
  rw [aB] at hk
  simp only at hk
  cases hj:(ops.toList[j]?).bind (·.dst) with
  | none=>rw [hj] at hk;simp at hk
  | some d =>
   rw [hj] at hk
   simp only at hk
   cases hst:s.t d with
   | aU c =>
    cases c with
    | bool b =>
     rw [hst] at hk
     simp only at hk
     obtain ⟨h1,h2⟩:=h.QK hst
     have aN:yielded ops a.tmps j=some b:=by
      unfold yielded
      rw [Array.getElem?_toList] at hj
      rw [hj]
      simp only [av]
      have cA:d<a.tmps.size:=by
       rcases Nat.lt_or_ge d a.tmps.size with h | h
       ·exact h
       ·rw [Array.getD_eq_getD_getElem?,Array.getElem?_eq_none h] at h2
        simp [undef] at h2
      rw [Array.getD_eq_getD_getElem?,Array.getElem?_eq_getElem cA] at h2
      rw [Array.getElem?_eq_getElem cA]
      simp only [Option.getD_some] at h2
      rw [h2]
     have hw:Region.wanted o (yielded ops a.tmps)=(b==wt):=by
      simp only [Region.wanted,aB,aN]
      cases b <;> cases wt <;> rfl
     cases b <;> cases wt <;> simp only [cond_true,cond_false] at hk
     ·exact lU hw (QV hst) h1 hk
     ·exact bS hw h1 hk
     ·exact bS hw h1 hk
     ·exact lU hw (QV hst) h1 hk
    | _=>rw [hst] at hk;simp at hk
   | gone =>
    rw [hst] at hk
    simp only at hk
    have h2:=h.tmps d
    rw [hst] at h2
    simp only [aP] at h2
    have aN:yielded ops a.tmps j=none:=by
     unfold yielded
     rw [Array.getElem?_toList] at hj
     rw [hj]
     simp only [av]
     rw [Array.getD_eq_getD_getElem?] at h2
     cases iC:a.tmps[d]? with
     | none=>rfl
     | some v=>rw [iC] at h2;simp only [Option.getD_some] at h2;subst h2;rfl
    have hw:Region.wanted o (yielded ops a.tmps)=false:=by
     simp only [Region.wanted,aB,aN]
     cases wt <;> rfl
    exact bS hw h hk
   | _=>rw [hst] at hk;simp at hk
theorem aaI{a b:Option bu}(h:both a b=some r):a=some r∧b=some r:=by
 unfold both at h
 split at h
 ·rename_i he;subst he;exact⟨h,h⟩
 ·cases h
theorem QW:∀ {l:List (Option bu)},Bq l=some r→∀x∈l,x=some r
 | [x],h,y,aN=>by rw [List.mem_singleton] at aN;rw [aN];exact h
 | x :: z :: l,h,y,aN=>by
  simp only [Bq] at h
  obtain ⟨h1,h2⟩:=aaI h
  rcases List.mem_cons.1 aN with rfl | aN
  ·exact h1
  ·exact QW (l:=z :: l) h2 y aN
def wM(n:cC)(p:List (Nat×List (Nat×Nat)))(q:fN):Prop:=∀x∈q,∃dp,(x.1,dp)∈p∧rX n dp x.2
theorem wM.le{ef:cC}{p:List (Nat×List (Nat×Nat))}{q:fN}(h:wM n p q)(hl:cC.le n ef):wM ef p q :=
 fun x hx=>let ⟨dp,h1,h2⟩:=h x hx;⟨dp,h1,h2.le hl⟩
theorem Jk:∀ {p:List (Nat×List (Nat×Nat))},tn s p=true→∀x∈p,alive s x.2=true
 | [],_,_,hx=>by simp at hx
 | y :: p,h,x,hx=>by
  unfold tn at h
  cases ha:alive s y.2
  ·rw [ha] at h;cases h
  ·rw [ha] at h
   rcases List.mem_cons.1 hx with rfl | hx
   ·exact ha
   ·exact Jk h x hx
theorem aaJ{bE:Nat}{ops:Array Oper}(bN:jH P E){m:Nat}{listed:Array Bool}{p:List (Nat×List (Nat×Nat))}{q:fN}{ef:cC}{rs:List Nat}(hn:E.n=ef)(hle:cC.le n ef)(hr:Region.ready .any ops listed=rs)
  (h:Inv w0 F0 Z0 ef s a w ι Z) (au:wM ef p q) (hk:HH E bE ops listed p rs s K=some r):oA P ops (fun e a w=>e=.normal∧gW w0 F0 Z0 n K r a w) (m+3+1) listed q a w:=by
 have Cl:∀ {l:List Nat} {i:Nat},one l=some i→l=[i]:=by
  intro l i h
  match l,h with
  | [j],h=>rw [aS (show some j=some i from h)]
 unfold HH at hk
 obtain ⟨i,h0,hk⟩:=bf hk
 obtain ⟨i1,h1,hk⟩:=bf hk
 obtain ⟨i2,h2,hk⟩:=bf hk
 obtain ⟨i3,h3,hk⟩:=bf hk
 have h0:=hr.trans (Cl h0)
 have h1:=Cl h1
 have h2:=Cl h2
 have h3:=Cl h3
 generalize hl1:listed.setIfInBounds i true=dU at hk h1 h2 h3
 generalize dF:dU.setIfInBounds i1 true=eJ at hk h2 h3
 generalize Jh:eJ.setIfInBounds i2 true=oo at hk h3
 generalize aaK:oo.setIfInBounds i3 true=pj at hk
 cases hb:((Region.ready .any ops pj).isEmpty&&((p.filter fun p => !waits ops i p.1).filter fun p => !waits ops i1 p.1).isEmpty)
 ·rw [hb] at hk;cases hk
 rw [hb] at hk
 simp only [cond_true] at hk
 simp only [Bool.and_eq_true,List.isEmpty_iff] at hb
 obtain ⟨h4,aaL⟩:=hb
 obtain ⟨o,ho,hk⟩:=bf hk
 obtain ⟨dD,my,hk⟩:=bf hk
 obtain ⟨eG,j1,hk⟩:=bf hk
 obtain ⟨eS,qA,hk⟩:=bf hk
 obtain ⟨g0,g1,g2,g3,mf⟩:=aav (Q:=fun e a w=>e=.normal∧gW w0 F0 Z0 n K r a w) bN hn h hk
 have step:∀ {fuel j:Nat} {nC:Oper} {l:Array Bool} {q:fN} {a:Act} {w:World},Region.ready .any ops l=[j]→ops[j]?=some nC→nC.guard=none →
   nC.wp P a w (fun b9 w'=>(q.after ops j).ok w'∧oA P ops (fun e a w=>e=.normal∧gW w0 F0 Z0 n K r a w) fuel (l.setIfInBounds j true) (q.after ops j) b9 w') (fun e a w=>e=.normal∧gW w0 F0 Z0 n K r a w) →
   oA P ops (fun e a w=>e=.normal∧gW w0 F0 Z0 n K r a w) (fuel+1) l q a w:=by
  intro fuel j nC l q a w hr hj aB hw
  refine⟨fun h=>(by rw [hr] at h;cases h),fun k hk=>?_⟩
  rw [hr] at hk
  obtain rfl:=List.mem_singleton.1 hk
  unfold wpOp
  simp only [hj]
  rw [if_pos (by simp [Region.wanted,aB])]
  exact .inl hw
 have h7:fN.after ops i1 (fN.after ops i q)=[]:=by
  refine List.eq_nil_iff_forall_not_mem.2 fun x hx=>?_
  obtain ⟨hx,hx1⟩:=List.mem_filter.1 hx
  obtain ⟨hx,hx0⟩:=List.mem_filter.1 hx
  obtain ⟨dp,g1,_⟩:=au x hx
  have:(x.1,dp)∈((p.filter fun p => !waits ops i p.1).filter fun p => !waits ops i1 p.1):=List.mem_filter.2 ⟨List.mem_filter.2 ⟨g1,hx0⟩,hx1⟩
  rw [aaL] at this
  cases this
 have nil:∀(j:Nat),fN.after ops j []=[]:=fun _=>rfl
 refine step h0 ho g0 (Oper.wp_mono ?_ mf)
 rintro a1 c6 ⟨⟨og,mB,bd,Z',k2⟩,mf⟩
 refine⟨?_,?_⟩
 ·intro x hx
  obtain ⟨hx1,hx2⟩:=List.mem_filter.1 hx
  obtain ⟨dp,f1,f2⟩:=au x hx1
  rcases f2 with f2 | ⟨b,j,vs,f2,f3⟩
  ·exact f2 c6
  ·rw [f3]
   exact((k2.seen _ f2).2 (Jk mB _ (List.mem_filter.2 ⟨f1,hx2⟩))).1
 rw [hl1]
 refine step h1 my g1 (Oper.wp_mono ?_ mf)
 intro a2 bL mf
 rw [h7,dF]
 refine⟨fun x hx=>(by cases hx),step h2 j1 g2 (Oper.wp_mono ?_ mf)⟩
 intro a3 dJ mf
 rw [nil,Jh]
 refine⟨fun x hx=>(by cases hx),step h3 qA g3 (Oper.wp_mono ?_ mf)⟩
 rintro a4 QX ⟨ar,e1,Qt,aaM,e2⟩
 rw [nil,aaK]
 refine⟨fun x hx=>(by cases hx),?_⟩
 have hfin:Exit.normal=.normal∧gW w0 F0 Z0 n K r a4 QX:=⟨rfl,ar,e1,Qt,aaM,e2.forget hle⟩
 cases m with
 | zero=>exact⟨h4,hfin⟩
 | succ m=>exact⟨fun _=>hfin,fun j hj=>(by rw [h4] at hj;cases hj)⟩
theorem Jl{bE:Nat}{ops:Array Oper}(bN:jH P E)(hs:Region.noSelect ops=true):∀(m:Nat) (listed:Array Bool) (p:List (Nat×List (Nat×Nat))) (q:fN) (ef:cC) (s:an) (a:Act) (w:World),
  E.n=ef→cC.le n ef→tp E bE ops m listed p s K=some r→cY w0 F0 Z0 ef s a w→wM ef p q→q.ok w →
  oA P ops (fun e a w=>e=.normal∧gW w0 F0 Z0 n K r a w) m listed q a w
 | 0,listed,p,q,ef,s,a,w,hn,hle,hk,⟨ι,Z,h⟩,au,hq=>by
  unfold tp at hk
  cases hr:Region.ready .any ops listed with
  | nil=>rw [hr] at hk;exact⟨hr,rfl,s,hk,ι,Z,h.forget hle⟩
  | cons=>rw [hr] at hk;cases hk
 | m+1,listed,p,q,ef,s,a,w,hn,hle,hk,⟨ι,Z,h⟩,au,hq=>by
  unfold tp at hk
  cases hr:Region.ready .any ops listed with
  | nil =>
   rw [hr] at hk
   exact⟨fun _=>⟨rfl,s,hk,ι,Z,h.forget hle⟩,fun j hj=>by rw [hr] at hj;simp at hj⟩
  | cons i0 QY =>
   rw [hr] at hk
   simp only at hk
   cases hf:(i0 :: QY).find? fun i=>HE E ops i&&Region.free .any ops listed i with
   | some i =>
    rw [hf] at hk
    simp only at hk
    have h3:=List.find?_some hf
    simp only [Bool.and_eq_true] at h3
    cases ho:ops[i]? with
    | none=>rw [ho] at hk;cases hk
    | some o =>
     rw [ho] at hk
     simp only at hk
     have c8:tm E o=true:=by have:=h3.1;unfold HE at this;rw [ho] at this;exact this
     obtain ⟨ar,v,S,jY,h1,h2,g3,h4,a7,bg⟩:=aaH bN hn c8 h hk
     refine aaz ho (Region.noSelect_spec hs) (fun c a w hh=>by simp at hh) m listed q a w (Region.free_spec ho h3.2) (by rw [hr];exact List.mem_of_find?_eq_some hf) h2 g3 hq ?_
     refine Jl bN hs m _ _ _ jY ar _ w (hn.trans a7.n.symm) (hle.trans a7) h1 h4 ?_ ?_
     ·intro x hx
      rcases List.mem_cons.1 hx with rfl | hx
      ·exact⟨_,List.mem_cons_self,bg⟩
      ·obtain ⟨dp,g1,g2⟩:=au x hx
       exact⟨dp,List.mem_cons_of_mem _ g1,g2.le a7⟩
     ·intro x hx
      rcases List.mem_cons.1 hx with rfl | hx
      ·exact g3
      ·exact hq x hx
   | none =>
    rw [hf] at hk
    simp only at hk
    cases hA:(OR s ops (i0 :: QY)&&Nat.ble 3 m)
    case true =>
     rw [hA] at hk
     simp only [cond_true] at hk
     simp only [Bool.and_eq_true] at hA
     obtain ⟨m',rfl⟩:∃m',m=m'+3:=⟨m-3,by have:=Nat.le_of_ble_eq_true hA.2;omega⟩
     exact aaJ bN hn hle hr h au hk
    rw [hA] at hk
    simp only [cond_false] at hk
    refine⟨fun h0=>(by rw [hr] at h0;cases h0),fun j hj=>?_⟩
    rw [hr] at hj
    have hj':=QW hk _ (List.mem_map.2 ⟨j,hj,rfl⟩)
    cases ho:ops[j]? with
    | none=>rw [ho] at hj';cases hj'
    | some o =>
     rw [ho] at hj'
     simp only at hj'
     cases c8:tm E o
     case true=>rw [c8] at hj';cases hj'
     rw [c8] at hj'
     simp only [cond_false] at hj'
     have oy:=QM (Q:=fun e a w=>e=.normal∧gW w0 F0 Z0 n K r a w) bN hn h hj'
     have qC:∀b9 w',gW w0 F0 Z0 ef (fun ar=>cond (tn ar (p.filter fun p => !waits ops j p.1)) (tp E bE ops m (listed.setIfInBounds j true) (p.filter fun p => !waits ops j p.1) ar K) none) r b9 w' →
       (q.after ops j).ok w'∧oA P ops (fun e a w=>e=.normal∧gW w0 F0 Z0 n K r a w) m (listed.setIfInBounds j true) (q.after ops j) b9 w':=by
      rintro b9 w' ⟨ar,k1,bd,Z',k2⟩
      dsimp only at k1
      cases dV:tn ar (p.filter fun p => !waits ops j p.1)
      ·rw [dV] at k1;cases k1
      rw [dV] at k1
      simp only [cond_true] at k1
      have Cm:wM ef (p.filter fun p => !waits ops j p.1) (q.after ops j):=by
       intro x hx
       obtain ⟨hx1,hx2⟩:=List.mem_filter.1 hx
       obtain ⟨dp,g1,g2⟩:=au x hx1
       exact⟨dp,List.mem_filter.2 ⟨g1,hx2⟩,g2⟩
      have cd:(q.after ops j).ok w':=by
       intro x hx
       obtain ⟨dp,g1,g2⟩:=Cm x hx
       rcases g2 with g2 | ⟨b,i,vs,g2,g3⟩
       ·exact g2 w'
       ·rw [g3]
        exact((k2.seen _ g2).2 (Jk dV _ g1)).1
      exact⟨cd,Jl bN hs m _ _ _ ef ar b9 w' hn hle k1 ⟨bd,Z',k2⟩ Cm cd⟩
     unfold wpOp
     simp only [ho]
     split
     ·rename_i hw
      rw [if_pos hw] at oy
      exact .inl (Oper.wp_mono qC oy)
     ·rename_i hw
      rw [if_neg hw] at oy
      exact qC _ _ oy
theorem aaN{bE:Nat}{ops:Array Oper}(bN:jH P E)(hn:E.n=n)(hk:HI E bE ops s K=some r)(hs:cY w0 F0 Z0 n s a w)(b:Frame)(k:List Item)(cs:List Frame) :
  ∃b9 w',gW w0 F0 Z0 n K r b9 w'∧Steps P (lone (b.at a (.code (.region bE ops true) :: k)) cs w) (lone (b.at b9 k) cs w'):=by
 unfold HI at hk
 cases wK:Region.noSelect ops
 ·rw [wK] at hk;cases hk
 rw [wK] at hk
 simp only [cond_true] at hk
 obtain ⟨ι,Z,h⟩:=hs
 have h1:=Jl (n:=n) bN wK ops.size _ [] [] n s a { w with drawn:=w.drawn+1 } hn (.refl n) hk ⟨ι,Z,h.drew _⟩ (fun x hx=>by simp at hx) (fun x hx=>by simp at hx)
 obtain ⟨e,b9,w',⟨rfl,hl⟩,harr⟩:=(wp_region_any (id:=bE) bN.mix (QN _ _ _ _ _ h1)) b k cs
 exact⟨b9,w',hl,harr⟩
end
end Go.LM
namespace Go.LM
section
variable{P:Program}{w0:World}{F0 Z0:ah}{n:cC}{E:Env}{bu : Type}{r : bu}
def lV:Code→List Item→List (Nat×List Item)
 | .region bE ops hY,k=>[(bE,.code (.region bE ops hY) :: k)]
 | .seq a b,k=>lV a (.code b :: k)++lV b k
 | .cond _ x y,k=>lV x k++lV y k
 | .block id c,k=>lV c (.inBlock id :: k)
 | .loop c,k=>lV c (.inLoop c :: k)
 | _,_=>[]
def gM:List Item→List (Nat×List Item)
 | []=>[]
 | .code c :: k=>lV c k++gM k
 | .inLoop c :: k=>lV c (.inLoop c :: k)++gM k
 | _ :: k=>gM k
theorem QZ{id:Nat} : ∀ {k k':List Item},exitTo id k=some k'→∀p,p∈gM k'→p∈gM k
 | [],_,h,_,_=>by simp [exitTo] at h
 | x :: k,k',h,p,au=>by
  have key:(∃i,x=.inBlock i∧k'=k)∨exitTo id k=some k':=by
   cases x with
   | inBlock i =>
    simp only [exitTo] at h
    by_cases hi:(i==id)=true
    ·rw [if_pos hi] at h;exact .inl ⟨i,rfl,(aS h).symm⟩
    ·rw [if_neg hi] at h;exact .inr h
   | _=>exact .inr h
  rcases key with⟨i,rfl,rfl⟩ | hk
  ·exact au
  ·have:=QZ hk p au
   cases x <;> simp only [gM] <;> first | exact this | exact List.mem_append_right _ this
def Q0(H:Hand bu)(cuts:Nat→Bool)(r : bu)(todo:List Item)(s:an):Prop :=
 (∃bE ops hY k,todo=.code (.region bE ops hY) :: k∧cuts bE=true∧H.cut bE todo s=some r)∨((todo=[]∨∃k,todo=.code .ret :: k)∧H.fin s=some r)
theorem Q1{cuts:Nat→Bool}{H:Hand bu}(bN:jH P E)(hn:E.n=n):∀(fuel:Nat) (first:Bool) (todo:List Item) (s:an) (a:Act) (w:World),
  jX E cuts H fuel first todo s=some r→cY w0 F0 Z0 n s a w→∀(b:Frame) (cs:List Frame),
  ∃pF ar b9 w',cY w0 F0 Z0 n ar b9 w'∧Q0 H cuts r pF ar∧(∀p,p∈gM pF→p∈gM todo)∧Steps P (lone (b.at a todo) cs w) (lone (b.at b9 pF) cs w')
 | 0,_,_,_,_,_,hk,_=>by simp [jX] at hk
 | fuel+1,first,todo,s,a,w,hk,hs=>by
  intro b cs
  have ih:=fun first todo s a w hk hs=>Q1 (H:=H) (cuts:=cuts) bN hn fuel first todo s a w hk hs b cs
  have one:∀ {todo1:List Item} {first:Bool},(∀p,p∈gM todo1→p∈gM todo)→step P (lone (b.at a todo) cs w)=.next (lone (b.at a todo1) cs w)→jX E cuts H fuel first todo1 s=some r →
    ∃pF ar b9 w',cY w0 F0 Z0 n ar b9 w'∧Q0 H cuts r pF ar∧(∀p,p∈gM pF→p∈gM todo)∧Steps P (lone (b.at a todo) cs w) (lone (b.at b9 pF) cs w'):=by
   intro todo1 first hcs hst hk1
   obtain ⟨dm,ar,b9,w',h1,h2,h3,h4⟩:=ih first todo1 s a w hk1 hs
   exact⟨dm,ar,b9,w',h1,h2,fun p au=>hcs p (h3 p au),.head hst h4⟩
  unfold jX at hk
  match todo,hk with
  | [],hk=>exact⟨[],s,a,w,hs,.inr ⟨.inl rfl,hk⟩,fun _ h=>h,.refl _ _⟩
  | .inBlock _ :: k,hk=>exact one (todo1:=k) (fun _ h=>h) step_inBlock hk
  | .inLoop c :: k,hk=>exact one (fun p au=>by simp only [gM,List.mem_append] at au ⊢;exact au.elim .inl fun h=>h) step_inLoop hk
  | .code .ret :: k,hk=>exact⟨_,s,a,w,hs,.inr ⟨.inr ⟨k,rfl⟩,hk⟩,fun _ h=>h,.refl _ _⟩
  | .code .skip :: k,hk=>exact one (todo1:=k) (fun _ h=>h) step_skip hk
  | .code (.seq x y) :: k,hk=>exact one (fun p au=>by simp only [gM,lV,List.mem_append] at au ⊢;exact or_assoc.2 au) step_seq hk
  | .code (.block id c) :: k,hk=>exact one (fun p au=>by simpa only [gM,lV] using au) step_block hk
  | .code (.loop c) :: k,hk=>exact one (fun p au=>by simp only [gM,lV,List.mem_append] at au ⊢;exact au.elim .inl fun h=>h) step_loop hk
  | .code (.exit id) :: k,hk =>
   simp only at hk
   cases he:exitTo id k with
   | none=>rw [he] at hk;simp at hk
   | some k'=>rw [he] at hk;exact one (QZ he) (step_exit he) hk
  | .code (.cond c x y) :: k,hk =>
   simp only at hk
   obtain ⟨ι,Z,h⟩:=hs
   have hc:=e4 h c
   cases hcv:bU s c with
   | aU jZ =>
    cases jZ with
    | bool t =>
     rw [hcv] at hk hc
     simp only [aP,cj] at hc
     have hst:=step_cond (P:=P) (b:=b) (a:=a) (k:=k) (cs:=cs) (w:=w) (x:=x) (y:=y) hc
     cases t with
     | true=>exact one (fun p au=>by simp only [gM,lV,List.mem_append] at au ⊢;exact au.elim (fun h=>.inl (.inl h)) .inr) hst hk
     | false=>exact one (fun p au=>by simp only [gM,lV,List.mem_append] at au ⊢;exact au.elim (fun h=>.inl (.inr h)) .inr) hst hk
    | _=>rw [hcv] at hk;simp at hk
   | _=>rw [hcv] at hk;simp at hk
  | .code (.region bE ops hY) :: k,hk =>
   simp only at hk
   cases h8:(cuts bE && !first)
   ·rw [h8] at hk
    simp only [cond_false] at hk
    have aaO:∃b9 w',gW w0 F0 Z0 n (fun ar=>jX E cuts H fuel false k ar) r b9 w'∧Steps P (lone (b.at a (.code (.region bE ops hY) :: k)) cs w) (lone (b.at b9 k) cs w'):=by
     cases hY with
     | false=>exact aay bN hn hk hs b k cs
     | true=>exact aaN bN hn hk hs b k cs
    obtain ⟨a1,c6,⟨s1,h1,h2⟩,hst⟩:=aaO
    obtain ⟨dm,ar,b9,w',c9,eI,iw,ix⟩:=ih false k s1 a1 c6 h1 h2
    exact⟨dm,ar,b9,w',c9,eI,fun p au=>by simp only [gM,List.mem_append];exact .inr (iw p au),hst.trans ix⟩
   ·rw [h8] at hk
    simp only [cond_true] at hk
    simp only [Bool.and_eq_true] at h8
    exact⟨_,s,a,w,hs,.inl ⟨bE,ops,hY,k,rfl,h8.1,hk⟩,fun _ h=>h,.refl _ _⟩
  | .code (.goto _) :: _,hk | .code (.label _) :: _,hk | .code (.scope _) :: _,hk | .inRegion _ _ :: _,hk | .inScope _ :: _,hk=>simp at hk
end
end Go.LM
namespace Go.LM
def k0(key:Nat):(ps:List bB)→(bB.ins ps).D→Nat→an→Option (List a6×an×Nat)
 | [],_,j,s=>some ([],s,j)
 | .fn _ _ :: ps,x,j,s=>(k0 key ps x j s).bind fun q=>some (.aD :: q.1,q.2)
 | .val t m :: ps,x,j,s=>(t.hH m [] x.1 s j).bind fun r=>(jV t r.1).bind fun v=>(k0 key ps x.2 r.2.2 r.2.1).bind fun q=>some (v :: q.1,q.2)
 | .hD t :: ps,x,j,s=>(t.hH .R [] x.1 s j).bind fun r=>(jV t r.1).bind fun v=>(k0 key ps x.2 r.2.2 r.2.1).bind fun q=>some (v :: q.1,q.2)
 | .hC t m :: ps,x,j,s=>(t.hH m [] x.1 s j).bind fun r=>(jV t r.1).bind fun v=>(k0 key ps x.2 r.2.2 r.2.1).bind fun q=>some (v :: q.1,q.2)
 | .ref t :: ps,x,j,s=>(k0 key ps x.2 j s).bind fun q=>some (.dj [] (t.cells [] none x.1) 0 :: q.1,q.2)
 | .mut t m _ :: ps,x,j,s=>(t.hH m [] x.1 s j).bind fun r=>(mkObj r.2.1 r.2.2 (.var 0 r.1)).bind fun s1=>(k0 key ps x.2 (r.2.2+1) s1).bind fun q=>some (.ptr ⟨r.2.2,none,0⟩ :: q.1,q.2)
section
variable{P:Program}{w0:World}{F0 Z0:ah}{n:cC}{s ar:an}{a b9:Act}{w w':World}{ι bd:Nat→bF}{Z Z':ah}
theorem Inv.start{F:ah}(hZ:∀b o,Z b o→b<w.heap.size){m:Nat}(ha:a.tmps.size=m)(ag:a.defers=[]):Inv w F Z ⟨m,[],[]⟩ ⟨fun _=>.aD,fun _=>.none,[]⟩ a w ι Z :=
 ⟨Ext.refl _ _,fun _ _ h=>.inl h,fun _ _ h=>h,hZ,fun _=>trivial,fun _ h=>h.elim,fun _ _ h=>h.elim,fun _ h=>h.elim,fun _=>by simp only [aP],ha,by simp only [aX],fun _ h=>by simp at h,ag⟩
def aaP(w0:World)(F0 Z0:ah)(n:cC)(s:an)(a:Act)(w:World)(ι : Nat→bF)(Z:ah)(us:List Value)(F:ah)(q:List a6×an×Nat):Prop :=
 ∃ bd,Inv w0 F0 Z0 n q.2.1 a w bd Z∧gI false w Z s ι w Z q.2.1 bd (fun _ _=>True)∧aX w Z q.2.1 bd q.1 us∧∀X,bJ w0 F0 s w ι Z X→ah.apart X F→bJ w0 F0 q.2.1 w bd Z X
theorem aaQ:gI false w Z s ι w Z s ι (fun _ _=>True) :=
 ⟨fun _ _ h=>h,fun _ _ h=>h,fun _ _ h=>h,fun _ _ _ h=>⟨h,rfl⟩,fun h=>by simp at h,b6.refl _ _,b6.refl _ _,fun _ _ h=>h,fun _ _ _ h=>h⟩
theorem oB:Z.or (dh ι [])=Z:=by
 funext b o
 apply propext
 constructor
 ·rintro (h | ⟨d,ag,_⟩)
  ·exact h
  ·simp at ag
 ·exact .inl
theorem tV{key:Nat} : ∀(ps:List bB) (x:(bB.ins ps).D) (us:List Value) (j:Nat) (s:an) (ι : Nat→bF) (F:ah) (q:List a6×an×Nat),k0 key ps x j s=some q→Inv w0 F0 Z0 n s a w ι Z →
  gA w Z key ps x us F→bJ w0 F0 s w ι Z F→aaP w0 F0 Z0 n s a w ι Z us F q
 | [],x,us,j,s,ι,F,q,he,h,hA,hF=>by
  simp only [k0,Option.some.injEq] at he
  subst he
  exact⟨ι,h,aaQ,hA,fun X hX _=>hX⟩
 | .fn l8 pb :: ps,x,us,j,s,ι,F,q,he,h,hA,hF=>by
  simp only [k0] at he
  obtain ⟨p,au,he⟩:=bf he
  obtain rfl:=aS he
  obtain ⟨alA,alB,aT,rfl,hsz,h4⟩:=hA
  obtain ⟨dy,i1,held,hr,nA⟩:=tV ps x aT j s ι F p au h h4 hF
  refine⟨dy,i1,held,?_,nA⟩
  simp only [aX]
  exact⟨_,aT,rfl,by simp only [aP],hr⟩
 | .ref t :: ps,x,us,j,s,ι,F,q,he,h,hA,hF=>by
  simp only [k0] at he
  obtain ⟨p,au,he⟩:=bf he
  obtain rfl:=aS he
  obtain ⟨b,o,vs,aT,rfl,h1,h2,h3,h4⟩:=hA
  obtain ⟨dy,i1,held,hr,nA⟩:=tV ps x.2 aT j s ι F p au h h4 hF
  refine⟨dy,i1,held,?_,nA⟩
  simp only [aX]
  refine⟨_,aT,rfl,held.aA _ _ ?_,hr⟩
  simp only [aP]
  have hl:=(ad.al.len t _ h2).1
  have hc:bK w Z s ι (t.cells [] none x.1) vs:=ad.ql t [] none (by simp) (fun _=>by rw [oB];exact h2) ⟨_,_,_,h2⟩ .none
  refine⟨by simp,b,o,vs,by simp,fun _=>⟨hc,h1,fun k hk=>.inl (h3 k (by rw [← hc.len,hl] at hk;exact hk))⟩⟩
 | .val t m :: ps,x,us,j,s,ι,F,q,he,h,hA,hF=>by
  simp only [k0] at he
  obtain ⟨r,hr,he⟩:=bf he
  obtain ⟨v,hv,he⟩:=bf he
  obtain ⟨p,au,he⟩:=bf he
  obtain rfl:=aS he
  obtain ⟨vs,aT,G,H,rfl,h1,h2,h3,h4,a7⟩:=hA
  obtain ⟨dy,i1,iY,c1,fL⟩:=ad.oj t m [] x.1 s ι j r vs G hr h (by rw [oB];exact h1) (hF.sub h4) (by rintro b o _ ⟨d,ag,_⟩;simp at ag) (by simp)
  obtain ⟨eA,i2,held,oC,nA⟩:=tV ps x.2 aT _ _ dy H p au i1 h2 (fL H (hF.sub a7) fun b o x y=>h3 b o y x)
  refine⟨eA,i2,(iY.held _).trans held,?_,fun X hX fM=>nA X (fL X hX fun b o x y=>fM b o x (h4 b o y)) fun b o x y=>fM b o x (a7 b o y)⟩
  simp only [aX]
  exact⟨_,aT,rfl,held.aA _ _ (pk hv c1),oC⟩
 | .hD t :: ps,x,us,j,s,ι,F,q,he,h,hA,hF=>by
  simp only [k0] at he
  obtain ⟨r,hr,he⟩:=bf he
  obtain ⟨v,hv,he⟩:=bf he
  obtain ⟨p,au,he⟩:=bf he
  obtain rfl:=aS he
  obtain ⟨vs,aT,G,H,rfl,h1,h2,h3,h4,a7⟩:=hA
  obtain ⟨dy,i1,iY,c1,fL⟩:=ad.oj t .R [] x.1 s ι j r vs G hr h (by rw [oB];exact h1) (hF.sub h4) (by rintro b o _ ⟨d,ag,_⟩;simp at ag) (by simp)
  obtain ⟨eA,i2,held,oC,nA⟩:=tV ps x.2 aT _ _ dy H p au i1 h2 (fL H (hF.sub a7) fun b o x y=>h3 b o y x)
  refine⟨eA,i2,(iY.held _).trans held,?_,fun X hX fM=>nA X (fL X hX fun b o x y=>fM b o x (h4 b o y)) fun b o x y=>fM b o x (a7 b o y)⟩
  simp only [aX]
  exact⟨_,aT,rfl,held.aA _ _ (pk hv c1),oC⟩
 | .hC t m :: ps,x,us,j,s,ι,F,q,he,h,hA,hF=>by
  simp only [k0] at he
  obtain ⟨r,hr,he⟩:=bf he
  obtain ⟨v,hv,he⟩:=bf he
  obtain ⟨p,au,he⟩:=bf he
  obtain rfl:=aS he
  obtain ⟨vs,aT,G,H,rfl,h1,h2,h3,h4,a7⟩:=hA
  obtain ⟨dy,i1,iY,c1,fL⟩:=ad.oj t m [] x.1 s ι j r vs G hr h (by rw [oB];exact h1) (hF.sub h4) (by rintro b o _ ⟨d,ag,_⟩;simp at ag) (by simp)
  obtain ⟨eA,i2,held,oC,nA⟩:=tV ps x.2 aT _ _ dy H p au i1 h2 (fL H (hF.sub a7) fun b o x y=>h3 b o y x)
  refine⟨eA,i2,(iY.held _).trans held,?_,fun X hX fM=>nA X (fL X hX fun b o x y=>fM b o x (h4 b o y)) fun b o x y=>fM b o x (a7 b o y)⟩
  simp only [aX]
  exact⟨_,aT,rfl,held.aA _ _ (pk hv c1),oC⟩
 | .mut t m m' :: ps,x,us,j,s,ι,F,q,he,h,hA,hF=>by
  simp only [k0] at he
  obtain ⟨r,hr,he⟩:=bf he
  obtain ⟨s1,hm,he⟩:=bf he
  obtain ⟨p,au,he⟩:=bf he
  obtain rfl:=aS he
  obtain ⟨b7,rfl⟩:=qp hm
  obtain ⟨b,o,vs,aT,G,H,rfl,h1,hwr,h2,h3,h4,a7,bg,bH⟩:=hA
  have hG:ah.sub G F:=fun b o x=>bg b o (.inl x)
  have dK:ah.sub (ah.run b o t.size) F:=fun b o x=>bg b o (.inr x)
  obtain ⟨dy,i1,iY,c1,fL⟩:=ad.oj t m [] x.1 s ι j r vs G hr h (by rw [oB];exact h2) (hF.sub hG) (by rintro b o _ ⟨d,ag,_⟩;simp at ag) (by simp)
  have hl:=(ad.al.len t _ h2).1
  have hcl:=c1.len
  have j2:=fL _ (hF.sub dK) (fun b o x y=>a7 b o y x)
  obtain ⟨i2,ny,mq,nz⟩:=IK i1 (id:=r.2.2) (o:=.var 0 r.1) (i:=⟨some (at_ b o),0,ah.run b o t.size⟩) (by rw [b7];exact fun h=>h) (fun o'=>by simp) (by rw [b7];exact .made _ _ _) (fun hm=>by
   refine⟨at_ b o,vs,rfl,rfl,c1.move hm,h1,fun k hk=>⟨hwr k (by omega),rfl,by simp [at_],by simp [at_];omega⟩⟩) j2
  have wx:=(iY.held (w:=w) (Z:=Z) (fun _ _=>True)).trans ny
  have yK:∀X,bJ w0 F0 s w ι Z X→ah.apart X (G.or (ah.run b o t.size))→bJ w0 F0 (r.2.1.bQ r.2.2 (.var 0 r.1)) w (bT dy r.2.2 ⟨some (at_ b o),0,ah.run b o t.size⟩) Z X:=fun X hX fM =>
   mq X (fL X hX fun b o x y=>fM b o x (.inl y)) fun b o x y=>fM b o x (.inr y)
  obtain ⟨IT,i3,Q2,oC,aaR⟩:=tV ps x.2 aT _ _ _ H p au i2 h3 (yK H (hF.sub bH) fun b o x y=>h4 b o y x)
  refine⟨IT,i3,wx.trans Q2,?_,fun X hX fM=>aaR X (yK X hX fun b o x y=>fM b o x (bg b o y)) fun b o x y=>fM b o x (bH b o y)⟩
  simp only [aX]
  refine⟨_,aT,rfl,Q2.aA _ _ ?_,oC⟩
  simp only [aP]
  refine⟨by show bT r.2.1.o r.2.2 _ r.2.2≠_;rw [cz];simp,_,rfl,rfl,?_⟩
  show match (bT r.2.1.o r.2.2 _ r.2.2).core with | .var _ _=>_ | .row .. => _ | _=>_
  rw [cz]
  exact⟨rfl,at_ b o,by rw [cz],by simp [at_]⟩
end
end Go.LM
namespace Go.LM
def yT(t:ad)(m:a')(v:a6)(s:an):Option (t.D×an) :=
 cond (oc t v) (match iN t v with
  | some cs=>(t.imp false m cs s []).bind fun r=>match r.2.1 with
   | []=>some (r.1,r.2.2.1)
   | _=>none
  | none=>none) none
def iD:(ps:List bB)→List a6→an→Option (bB.d_ ps).D
 | [],_,_=>some ()
 | .mut t _ m' :: ps,gs,s =>
  match gs with
  | .ptr p :: gs =>
   match s.o p.id,p.fl with
   | .var _ cs,none=>cond (Nat.beq p.off 0&&Nat.beq cs.length t.size)
    ((t.imp false m' cs (s.bQ p.id .dead) []).bind fun r=>match r.2.1 with
     | []=>(iD ps gs r.2.2.1).bind fun q=>some (r.1,q)
     | _=>none) none
   | _,_=>none
  | _=>none
 | .hC t m :: ps,gs,s =>
  match gs with
  | v :: gs=>(yT t m v s).bind fun r=>(iD ps gs r.2).bind fun q=>some (r.1,q)
  | []=>none
 | .val _ _ :: ps,gs,s =>
  match gs with
  | _ :: gs=>iD ps gs s
  | []=>none
 | .hD _ :: ps,gs,s =>
  match gs with
  | _ :: gs=>iD ps gs s
  | []=>none
 | .ref _ :: ps,gs,s =>
  match gs with
  | _ :: gs=>iD ps gs s
  | []=>none
 | .fn _ _ :: ps,gs,s =>
  match gs with
  | _ :: gs=>iD ps gs s
  | []=>none
section
variable{P:Program}{w0:World}{F0 Z0:ah}{n:cC}{s ar:an}{a b9:Act}{w w':World}{ι bd:Nat→bF}{Z Z':ah}
theorem Q3{t:ad}{m:a'}{v:a6}{u:Value}{r:t.D×an}(ho:yT t m v s=some r)(h:Inv w0 F0 Z0 n s a w ι Z)(hv:aP w Z s ι v u) :
  ∃vs F Z',u=dH t vs∧Inv w0 F0 Z0 n r.2 a w ι Z'∧e_ s ι Z r.2 Z'∧bJ w0 F0 r.2 w ι Z' F∧t.al w Z' m r.1 vs F∧∀b o,F b o→∃id,(s.o id).live∧(ι id).F b o:=by
 unfold yT at ho
 cases hf:oc t v
 ·rw [hf] at ho;simp at ho
 rw [hf] at ho
 simp only [cond_true] at ho
 cases hcs:iN t v with
 | none=>rw [hcs] at ho;simp at ho
 | some cs =>
  rw [hcs] at ho
  simp only at ho
  obtain ⟨q,hq,ho⟩:=bf ho
  cases ep:q.2.1 with
  | cons=>rw [ep] at ho;simp at ho
  | nil =>
   rw [ep] at ho
   obtain rfl:=aS ho
   obtain ⟨us1,vs1,F1,cp,e1,i1,s1,c1,f1,bx,_,fp,_,g1⟩:=ad.lF t false m cs s [] q _ Z hq h (rI hcs hv) (by simp)
   rw [ep] at c1
   have hvs1:vs1=[]:=by cases vs1 with | nil=>rfl | cons=>exact c1.elim
   subst hvs1
   rw [List.append_nil] at e1
   have hw:=BU hf hv
   rw [e1] at hw
   rw [fp rfl,oB] at bx
   exact⟨us1,F1,cp,hw,i1,s1,f1,bx,g1⟩
theorem tW:∀(ps:List bB) (gs:List a6) (us:List Value) (s:an) (Z:ah) (x:(bB.d_ ps).D),iD ps gs s=some x→Inv w0 F0 Z0 n s a w ι Z→aX w Z s ι gs us →
  ∃ar F Z',Inv w0 F0 Z0 n ar a w ι Z'∧e_ s ι Z ar Z'∧bJ w0 F0 ar w ι Z' F∧iu w Z' ps us x F∧∀b o,F b o→∃id,(s.o id).live∧(ι id).F b o
 | [],gs,us,s,Z,x,ho,h,hv=>⟨s,ah.none,Z,h,.refl,.none,trivial,fun _ _ h=>h.elim⟩
 | .val t m :: ps,gs,us,s,Z,x,ho,h,hv=>by
  cases gs with
  | nil=>simp [iD] at ho
  | cons v gs =>
   simp only [aX] at hv
   obtain ⟨u,aT,rfl,h1,h2⟩:=hv
   obtain ⟨ar,F,Z',i1,s1,f1,bx,g1⟩:=tW ps gs aT s Z x (by simp only [iD] at ho;exact ho) h h2
   exact⟨ar,F,Z',i1,s1,f1,⟨u,aT,rfl,bx⟩,g1⟩
 | .hD t :: ps,gs,us,s,Z,x,ho,h,hv=>by
  cases gs with
  | nil=>simp [iD] at ho
  | cons v gs =>
   simp only [aX] at hv
   obtain ⟨u,aT,rfl,h1,h2⟩:=hv
   obtain ⟨ar,F,Z',i1,s1,f1,bx,g1⟩:=tW ps gs aT s Z x (by simp only [iD] at ho;exact ho) h h2
   exact⟨ar,F,Z',i1,s1,f1,⟨u,aT,rfl,bx⟩,g1⟩
 | .ref t :: ps,gs,us,s,Z,x,ho,h,hv=>by
  cases gs with
  | nil=>simp [iD] at ho
  | cons v gs =>
   simp only [aX] at hv
   obtain ⟨u,aT,rfl,h1,h2⟩:=hv
   obtain ⟨ar,F,Z',i1,s1,f1,bx,g1⟩:=tW ps gs aT s Z x (by simp only [iD] at ho;exact ho) h h2
   exact⟨ar,F,Z',i1,s1,f1,⟨u,aT,rfl,bx⟩,g1⟩
 | .fn _ _ :: ps,gs,us,s,Z,x,ho,h,hv=>by
  cases gs with
  | nil=>simp [iD] at ho
  | cons v gs =>
   simp only [aX] at hv
   obtain ⟨u,aT,rfl,h1,h2⟩:=hv
   obtain ⟨ar,F,Z',i1,s1,f1,bx,g1⟩:=tW ps gs aT s Z x (by simp only [iD] at ho;exact ho) h h2
   exact⟨ar,F,Z',i1,s1,f1,⟨u,aT,rfl,bx⟩,g1⟩
 | .hC t m :: ps,gs,us,s,Z,x,ho,h,hv=>by
  cases gs with
  | nil=>simp [iD] at ho
  | cons v gs =>
   simp only [aX] at hv
   obtain ⟨u,aT,rfl,h1,h2⟩:=hv
   simp only [iD] at ho
   obtain ⟨r,hr,ho⟩:=bf ho
   obtain ⟨q,hq,ho⟩:=bf ho
   obtain rfl:=aS ho
   obtain ⟨vs,F1,cp,rfl,i1,s1,f1,bx,g1⟩:=Q3 hr h h1
   obtain ⟨ar,dL,bM,i2,s2,f2,ch,g2⟩:=tW ps gs aT r.2 cp q hq i1 (aX.move s1.ek h2)
   refine⟨ar,F1.or dL,bM,i2,s1.trans s2,(f1.shrink s2).or f2,⟨vs,aT,F1,dL,rfl,ad.al.mono s2.dE _ _ (fun _ _ h=>h) bx,ch,?_,fun _ _ h=>.inl h,fun _ _ h=>.inr h⟩,?_⟩
   ·intro b o x y
    obtain ⟨id,hl,hf⟩:=g2 b o y
    exact f1.apart id hl b o x hf
   ·rintro b o (y | y)
    ·exact g1 b o y
    ·obtain ⟨id,hl,hf⟩:=g2 b o y;exact⟨id,(s1.live hl).1,hf⟩
 | .mut t m m' :: ps,gs,us,s,Z,x,ho,h,hv=>by
  cases gs with
  | nil=>simp [iD] at ho
  | cons v gs =>
   simp only [aX] at hv
   obtain ⟨u,aT,rfl,h1,h2⟩:=hv
   cases v <;> simp only [iD] at ho <;> try (simp at ho;done)
   rename_i p
   simp only [aP] at h1
   obtain ⟨hk,A,rfl,_,au⟩:=h1
   cases bY:s.o p.id with
   | var ver cs =>
    rw [bY] at ho au
    obtain ⟨he,a0,eC,hA⟩:=au
    rw [he] at ho
    simp only at ho
    cases hc:(Nat.beq p.off 0&&Nat.beq cs.length t.size)
    ·rw [hc] at ho;cases ho
    rw [hc] at ho
    simp only [Bool.and_eq_true] at hc
    have fA:=Nat.eq_of_beq_eq_true hc.1
    have hlen:=Nat.eq_of_beq_eq_true hc.2
    simp only [cond_true] at ho
    obtain ⟨r,hr,ho⟩:=bf ho
    cases ep:r.2.1 with
    | cons=>rw [ep] at ho;cases ho
    | nil =>
     rw [ep] at ho
     simp only at ho
     obtain ⟨q,hq,ho⟩:=bf ho
     obtain rfl:=aS ho
     have b_:(s.o p.id).live:=by rw [bY];trivial
     have c0:=h.fU p.id
     rw [bY] at c0
     obtain ⟨⟨b,o,sp⟩,ws,dG,hsp,hc,ck,hF⟩:=c0
     simp only at hsp
     subst hsp
     rw [eC] at dG
     obtain rfl:=aS dG
     have iz:e_ s ι Z (s.bQ p.id .dead) Z:=vU p.id b_
     have hi0:=h.take p.id (fun _ _ h=>h) (fun _ _ h=>.inl h)
     have ff:=h.vT b_
     obtain ⟨us1,vs1,F1,cp,e1,i1,s1,c1,f1,bx,_,fp,_,g1⟩:=ad.lF t false m' cs _ [] r _ Z hr hi0 (hc.move iz.ek) (by simp)
     rw [ep] at c1
     have hvs1:vs1=[]:=by cases vs1 with | nil=>rfl | cons=>exact c1.elim
     subst hvs1
     rw [List.append_nil] at e1
     subst e1
     rw [fp rfl,oB] at bx
     obtain ⟨ar,dL,bM,i2,s2,f2,ch,g2⟩:=tW ps gs aT r.2.2.1 cp q hq i1 (aX.move s1.ek (aX.move iz.ek h2))
     have hrun:ah.sub (ah.run b o t.size) (ι p.id).F:=by
      rintro b' o' ⟨rfl,h1,h2⟩
      have:=(hF (o'-o) (by omega)).2
      simp only at this
      rwa [show o +(o'-o)=o' by omega] at this
     have j2:=(ff.sub hrun).shrink s1
     have Jm:ah.apart F1 (ah.run b o t.size):=by
      intro b o x y
      obtain ⟨id,hl,hf⟩:=g1 b o x
      exact ff.apart id hl b o (hrun b o y) hf
     have gK:bJ w0 F0 r.2.2.1 w ι cp (F1.or (ah.run b o t.size)):=f1.or j2
     refine⟨ar,(F1.or (ah.run b o t.size)).or dL,bM,i2,(iz.trans s1).trans s2,(gK.shrink s2).or f2,⟨b,o,ws,aT,F1,dL,?_,ck,ad.al.mono s2.dE _ _ (fun _ _ h=>h) bx,ch,?_,Jm,fun _ _ h=>.inl h,fun _ _ h=>.inr h⟩,?_⟩
     ·rw [hA,fA];rfl
     ·intro b o x y
      obtain ⟨id,hl,hf⟩:=g2 b o y
      exact gK.apart id hl b o x hf
     ·rintro b o ((y | y) | y)
      ·obtain ⟨id,hl,hf⟩:=g1 b o y;exact⟨id,(iz.live hl).1,hf⟩
      ·exact⟨p.id,b_,hrun b o y⟩
      ·obtain ⟨id,hl,hf⟩:=g2 b o y;exact⟨id,(iz.live (s1.live hl).1).1,hf⟩
   | _=>rw [bY] at ho;simp at ho
end
end Go.LM
namespace Go.LM
section
variable{P:Program}{w0:World}{F0 Z0:ah}{n:cC}{s ar:an}{a b9:Act}{w w':World}{ι bd:Nat→bF}{Z Z':ah}
def Cn(t:ad)(m:a')(v:a6)(s:an):Option (t.D×an) :=
 match v with
 | .ptr p =>
  match s.o p.id,p.fl with
  | .var _ cs,none=>cond (Nat.beq p.off 0&&Nat.beq cs.length t.size)
   ((t.imp false m cs (s.bQ p.id .dead) []).bind fun r=>match r.2.1 with
    | []=>some (r.1,r.2.2.1)
    | _=>none) none
  | _,_=>none
 | _=>none
theorem aaS{t:ad}{m:a'}{v:a6}{u:Value}{s:an}{Z:ah}{x:t.D×an}(ho:Cn t m v s=some x)(h:Inv w0 F0 Z0 n s a w ι Z)(h1:aP w Z s ι v u) :
  ∃b o vs F Z',u=.pointer (some (at_ b o))∧Inv w0 F0 Z0 n x.2 a w ι Z'∧e_ s ι Z x.2 Z'∧bJ w0 F0 x.2 w ι Z' (F.or (ah.run b o t.size))∧b5 w b o vs∧(∀j,j<t.size→fk w b (o+j))∧t.al w Z' m x.1 vs F ∧
   ah.apart F (ah.run b o t.size)∧∀b' o',(F.or (ah.run b o t.size)) b' o'→∃id,(s.o id).live∧(ι id).F b' o':=by
 cases v <;> simp only [Cn] at ho <;> try (simp at ho;done)
 rename_i p
 simp only [aP] at h1
 obtain ⟨hk,A,rfl,_,au⟩:=h1
 cases bY:s.o p.id with
 | var ver cs =>
  rw [bY] at ho au
  obtain ⟨he,a0,eC,hA⟩:=au
  rw [he] at ho
  simp only at ho
  cases hc:(Nat.beq p.off 0&&Nat.beq cs.length t.size)
  ·rw [hc] at ho;cases ho
  rw [hc] at ho
  simp only [Bool.and_eq_true] at hc
  have fA:=Nat.eq_of_beq_eq_true hc.1
  have hlen:=Nat.eq_of_beq_eq_true hc.2
  simp only [cond_true] at ho
  obtain ⟨r,hr,ho⟩:=bf ho
  cases ep:r.2.1 with
  | cons=>rw [ep] at ho;cases ho
  | nil =>
   rw [ep] at ho
   obtain rfl:=aS ho
   have b_:(s.o p.id).live:=by rw [bY];trivial
   have c0:=h.fU p.id
   rw [bY] at c0
   obtain ⟨a1,ws,dG,hsp,hcs,ck,hF⟩:=c0
   rw [eC] at dG
   obtain rfl:=aS dG
   obtain ⟨b,o,sp⟩:=a0
   simp only at hsp
   subst hsp
   have iz:e_ s ι Z (s.bQ p.id .dead) Z:=vU p.id b_
   have hi0:=h.take p.id (fun _ _ h=>h) (fun _ _ h=>.inl h)
   have ff:=h.vT b_
   obtain ⟨us1,vs1,F1,cp,e1,i1,s1,c1,f1,bx,_,fp,_,g1⟩:=ad.lF t false m cs _ [] r _ Z hr hi0 (hcs.move iz.ek) (by simp)
   rw [ep] at c1
   have hvs1:vs1=[]:=by cases vs1 with | nil=>rfl | cons=>exact c1.elim
   subst hvs1
   rw [List.append_nil] at e1
   subst e1
   rw [fp rfl,oB] at bx
   have hrun:ah.sub (ah.run b o t.size) (ι p.id).F:=by
    rintro b' o' ⟨rfl,h1,h2⟩
    have:=(hF (o'-o) (by omega)).2
    simp only at this
    rwa [show o +(o'-o)=o' by omega] at this
   have j2:=(ff.sub hrun).shrink s1
   have Jm:ah.apart F1 (ah.run b o t.size):=by
    intro b o x y
    obtain ⟨id,hl,hf⟩:=g1 b o x
    exact ff.apart id hl b o (hrun b o y) hf
   refine⟨b,o,_,F1,cp,?_,i1,iz.trans s1,f1.or j2,ck,fun j hj=>(hF j (by omega)).1,bx,Jm,?_⟩
   ·rw [hA,fA];rfl
   ·rintro b o (y | y)
    ·obtain ⟨id,hl,hf⟩:=g1 b o y;exact⟨id,(iz.live hl).1,hf⟩
    ·exact⟨p.id,b_,hrun b o y⟩
 | _=>rw [bY] at ho;simp at ho
def yU(gs:List a6)(a off:Nat)(t:ad)(v:a6)(s:an):Option Int :=
 match v with
 | .jU=>some (-1)
 | .opt id x =>
  match qg s gs a off with
  | some k=>cond (Nat.beq k id&&qh s t id) (some x) none
  | none=>none
 | .ptr p =>
  match qg s gs a off,p.fl with
  | some k,some i=>cond (Nat.beq k p.id&&qh s t p.id&&Nat.beq p.off 0) (some (i:Int)) none
  | _,_=>none
 | _=>none
theorem Q4{gs:List a6}{us:List Value}{lR off id:Nat}{t:ad}{i:Nat}{wB:Addr}(dW:qg s gs lR off=some id)(mu:qh s t id=true)(h:Inv w0 F0 Z0 n s a w ι Z)(hv:aX w Z s ι gs us)
  (au:jh s ι ⟨id,some i,0⟩ wB):Iz w us lR off t.size (i:Int) (.pointer (some wB)):=by
 unfold qg at dW
 cases ns:gs[lR]? with
 | none=>rw [ns] at dW;simp at dW
 | some lB =>
  rw [ns] at dW
  cases lB with
  | ptr pl =>
   simp only at dW
   cases c8:l9 s 1 { pl with off:=pl.off+off } with
   | none=>rw [c8] at dW;simp at dW
   | some cs =>
    rw [c8] at dW
    have hcs:cs=[.ag id none]:=by
     split at dW
     ·rename_i h;obtain rfl:=aS dW;exact aS h
     ·simp at dW
    subst hcs
    obtain ⟨u,wz,rV⟩:=hv.get lR ns
    simp only [aP] at rV
    obtain ⟨j0,A,rfl,mv⟩:=rV
    obtain ⟨b,o,sp⟩:=A
    have hsp:=mv.1
    simp only at hsp
    subst hsp
    obtain ⟨rG,eG,ws,hA,hc1,hc2,yE⟩:=yk h c8 (jh.plus (b:=b) (o:=o) off mv)
    simp only [at_,Addr.mk.injEq,and_true] at hA
    obtain ⟨rfl,rfl⟩:=hA
    match ws,hc1 with
    | [v0],hc1 =>
     obtain ⟨hk0,A,m,k,rfl,hh⟩:=hc1.1
     unfold qh at mu
     cases bY:s.o id with
     | row u em ver xs =>
      rw [bY] at mu
      have:=ad.eq_of_beq _ _ mu
      subst this
      obtain ⟨c9,eI,iw,ix,iy⟩:=hh u em ver xs (lD bY)
      have c9:m=xs.length:=c9
      obtain ⟨hs,au⟩:=au
      have au:match (s.o id).core with | .var _ cs=>_ | .row t _ _ xs=>_ | _=>_:=au
      rw [lD bY] at au
      obtain ⟨eb,hi,cA,a0,gj,qv⟩:=au
      obtain rfl:=aS hi
      rcases iy with iy | ⟨a1,nm,nt⟩
      ·omega
      ·rw [gj] at nm
       obtain rfl:=aS nm
       right
       refine⟨by omega,b,o,a0.block,a0.off,m,k,wz,?_,by simp;omega,?_⟩
       ·rw [hc2.head,nt];simp [ej,at_]
       ·rw [qv];simp [at_]
     | _=>rw [bY] at mu;cases mu
  | _=>simp at dW
theorem aaT{gs:List a6}{us:List Value}{lR off:Nat}{t:ad}{v:a6}{u:Value}{x:Int}(ho:yU gs lR off t v s=some x)(h:Inv w0 F0 Z0 n s a w ι Z)(aB:aX w Z s ι gs us)(hv:aP w Z s ι v u):Iz w us lR off t.size x u:=by
 cases v with
 | jU =>
  obtain rfl:=aS ho
  simp only [aP] at hv
  exact .inl ⟨by omega,hv⟩
 | opt id y =>
  simp only [yU] at ho
  cases dW:qg s gs lR off with
  | none=>rw [dW] at ho;cases ho
  | some k =>
   rw [dW] at ho
   cases hc:(Nat.beq k id&&qh s t id)
   ·simp only [hc] at ho;cases ho
   simp only [hc,cond_true] at ho
   obtain rfl:=aS ho
   simp only [Bool.and_eq_true] at hc
   obtain rfl:=Nat.eq_of_beq_eq_true hc.1
   simp only [aP] at hv
   obtain ⟨_,⟨h1,h2⟩ | ⟨h1,wB,rfl,h2⟩⟩:=hv
   ·exact .inl ⟨h1,h2⟩
   ·have:=Q4 dW hc.2 h aB h2
    rwa [Int.toNat_of_nonneg h1] at this
 | ptr p =>
  simp only [yU] at ho
  cases dW:qg s gs lR off with
  | none=>rw [dW] at ho;cases ho
  | some k =>
   rw [dW] at ho
   cases e5:p.fl with
   | none=>rw [e5] at ho;cases ho
   | some i =>
    rw [e5] at ho
    simp only at ho
    cases hc:(Nat.beq k p.id&&qh s t p.id&&Nat.beq p.off 0)
    ·rw [hc] at ho;cases ho
    rw [hc] at ho
    obtain rfl:=aS ho
    simp only [Bool.and_eq_true] at hc
    have hk:=Nat.eq_of_beq_eq_true hc.1.1
    have h0:=Nat.eq_of_beq_eq_true hc.2
    obtain ⟨pid,alC,alD⟩:=p
    simp only at hk h0 e5 hc
    subst hk h0 e5
    simp only [aP] at hv
    obtain ⟨_,wB,rfl,h2⟩:=hv
    exact Q4 dW hc.1.2 h aB h2
 | _=>cases ho
def yV(t:ad)(v:a6):Bool :=
 oc t v&&(match iN t v with
  | some cs=>Nat.beq cs.length t.size
  | none=>false)
theorem aaU{t:ad}{v:a6}{u:Value}{s:an}{Z:ah}(ho:yV t v=true)(h1:aP w Z s ι v u):u.cells.toList.length=t.size∧∀x∈u.cells.toList,ee x=true:=by
 unfold yV at ho
 simp only [Bool.and_eq_true] at ho
 obtain ⟨hf,hc⟩:=ho
 cases hcs:iN t v with
 | none=>rw [hcs] at hc;cases hc
 | some cs =>
  rw [hcs] at hc
  have hl:=Nat.eq_of_beq_eq_true hc
  have hr:=rI hcs h1
  exact⟨by rw [hr.len];exact hl,hr.ee⟩
def Co(t:ad)(v:a6)(s:an):Option (List t.D×an) :=
 match v with
 | .jU=>some ([],s)
 | .dj dp cs off =>
  match takeN off t.size cs with
  | none=>none
  | some cs=>cond dp.isEmpty ((t.imp false .R cs s []).bind fun r=>match r.2.1 with
   | []=>some ([r.1],r.2.2.1)
   | _=>none) none
 | .may b dp cs=>cond b (cond (dp.isEmpty&&Nat.beq cs.length t.size) ((t.imp false .R cs s []).bind fun r=>match r.2.1 with
   | []=>some ([r.1],r.2.2.1)
   | _=>none) none) (some ([],s))
 | _=>none
theorem aaV{t:ad}{v:a6}{u:Value}{s:an}{Z:ah}{x:List t.D×an}(ho:Co t v s=some x)(h:Inv w0 F0 Z0 n s a w ι Z)(h1:aP w Z s ι v u) :
  ∃Z',Inv w0 F0 Z0 n x.2 a w ι Z'∧e_ s ι Z x.2 Z'∧((x.1=[]∧u=.pointer none)∨∃y b o vs,x.1=[y]∧u=.pointer (some (at_ b o))∧b5 w b o vs∧t.al w Z' .R y vs ah.none∧∀j,j<t.size→Z' b (o+j)):=by
 have go:∀(cs:List a8) (b o:Nat) (vs:List Value) (x:List t.D×an),((t.imp false .R cs s []).bind fun r=>match r.2.1 with | []=>some ([r.1],r.2.2.1) | _=>none)=some x→bK w Z s ι cs vs→b5 w b o vs→vs.length=t.size→(∀j,j<t.size→Z b (o+j))→u=.pointer (some (at_ b o)) →
   ∃Z',Inv w0 F0 Z0 n x.2 a w ι Z'∧e_ s ι Z x.2 Z'∧((x.1=[]∧u=.pointer none)∨∃y b o vs,x.1=[y]∧u=.pointer (some (at_ b o))∧b5 w b o vs∧t.al w Z' .R y vs ah.none∧∀j,j<t.size→Z' b (o+j)):=by
  intro cs b o vs x ho pn ck hl hz hu
  obtain ⟨r,hr,ho⟩:=bf ho
  cases ep:r.2.1 with
  | cons=>rw [ep] at ho;cases ho
  | nil =>
   rw [ep] at ho
   obtain rfl:=aS ho
   obtain ⟨us1,vs1,F1,cp,e1,i1,s1,c1,f1,bx,_,fp,_,g1⟩:=ad.lF t false .R cs s [] r _ Z hr h pn (by simp)
   rw [ep] at c1
   have hvs1:vs1=[]:=by cases vs1 with | nil=>rfl | cons=>exact c1.elim
   subst hvs1
   rw [List.append_nil] at e1
   subst e1
   rw [fp rfl,oB] at bx
   exact⟨cp,i1,s1,.inr ⟨r.1,b,o,_,rfl,hu,ck,rz bx,fun j hj=>s1.dE _ _ (hz j hj)⟩⟩
 cases v <;> simp only [Co] at ho <;> try (simp at ho;done)
 ·rename_i dp cs off
  simp only [aP] at h1
  obtain ⟨h2,b,o,vs,rfl,h3⟩:=h1
  cases ht:takeN off t.size cs with
  | none=>rw [ht] at ho;cases ho
  | some ds =>
   rw [ht] at ho
   cases dp with
   | cons=>cases ho
   | nil =>
    obtain ⟨k1,k2,k3⟩:=h3 rfl
    obtain ⟨hle,rfl⟩:=pg ht
    have hlen:=k1.len
    refine go _ b (o+off) ((vs.drop off).take t.size) x ho ((k1.drop off).take _) (k2.part off t.size) (by simp;omega) (fun j hj=>?_) rfl
    have:=k3 (off+j) (by omega)
    rw [oB] at this
    rwa [← Nat.add_assoc] at this
 ·simp only [aP] at h1
  obtain rfl:=aS ho
  exact⟨Z,h,.refl,.inl ⟨rfl,h1⟩⟩
 ·rename_i b dp cs
  simp only [aP] at h1
  rcases h1 with⟨rfl,h1⟩ | ⟨rfl,h2,b,o,vs,rfl,h3⟩
  ·obtain rfl:=aS ho
   exact⟨Z,h,.refl,.inl ⟨rfl,h1⟩⟩
  ·simp only [cond_true] at ho
   cases dp with
   | cons=>cases ho
   | nil =>
    cases hc:Nat.beq cs.length t.size
    ·rw [show(List.isEmpty ([]:List (Nat×Nat))&&Nat.beq cs.length t.size)=false by rw [hc];rfl] at ho;cases ho
    rw [show(List.isEmpty ([]:List (Nat×Nat))&&Nat.beq cs.length t.size)=true by rw [hc];rfl] at ho
    have hc:=Nat.eq_of_beq_eq_true hc
    obtain ⟨k1,k2,k3⟩:=h3 rfl
    have hlen:=k1.len
    refine go _ b (o+0) vs x ho k1 k2 (by omega) (fun j hj=>?_) rfl
    have:=k3 j (by omega)
    rw [oB] at this
    exact this
def gX(ps:List bB)(gs:List a6):(rs:List cX)→List a6→an→Option (cX.outs rs (bB.d_ ps)).D
 | [],vs,s =>
  match vs with
  | []=>iD ps gs s
  | _=>none
 | .val t m :: rs,vs,s =>
  match vs with
  | v :: vs=>(yT t m v s).bind fun r=>(gX ps gs rs vs r.2).bind fun q=>some (r.1,q)
  | []=>none
 | .opt a off t :: rs,vs,s =>
  match vs with
  | v :: vs=>(yU gs a off t v s).bind fun x=>(gX ps gs rs vs s).bind fun q=>some (x,q)
  | []=>none
 | .any t :: rs,vs,s =>
  match vs with
  | v :: vs=>cond (yV t v) (gX ps gs rs vs s) none
  | []=>none
 | .pc t :: rs,vs,s =>
  match vs with
  | v :: vs=>(Co t v s).bind fun r=>(gX ps gs rs vs r.2).bind fun q=>some (r.1,q)
  | []=>none
 | .new t m :: rs,vs,s =>
  match vs with
  | v :: vs=>(Cn t m v s).bind fun r=>(gX ps gs rs vs r.2).bind fun q=>some (r.1,q)
  | []=>none
theorem aaW{ps:List bB}{gs:List a6}{s:an} : gX ps gs [] [] s=iD ps gs s:=rfl
theorem aaX{ps:List bB}{gs:List a6}{s:an}{v:a6}{vs:List a6} : gX ps gs [] (v :: vs) s=none:=rfl
theorem aaY{ps:List bB}{gs:List a6}{a o:Nat}{t:ad}{rs:List cX}{s:an}{v:a6}{vs:List a6} : gX ps gs (.opt a o t :: rs) (v :: vs) s=(yU gs a o t v s).bind fun x=>(gX ps gs rs vs s).bind fun q=>some (x,q):=rfl
theorem aaZ{ps:List bB}{gs:List a6}{a o:Nat}{t:ad}{rs:List cX}{s:an} : gX ps gs (.opt a o t :: rs) [] s=none:=rfl
theorem aa0{ps:List bB}{gs:List a6}{t:ad}{m:a'}{rs:List cX}{s:an}{v:a6}{vs:List a6} : gX ps gs (.val t m :: rs) (v :: vs) s=(yT t m v s).bind fun r=>(gX ps gs rs vs r.2).bind fun q=>some (r.1,q):=rfl
theorem aa1{ps:List bB}{gs:List a6}{t:ad}{m:a'}{rs:List cX}{s:an} : gX ps gs (.val t m :: rs) [] s=none:=rfl
theorem aa2{ps:List bB}{gs:List a6}{t:ad}{rs:List cX}{s:an}{v:a6}{vs:List a6} : gX ps gs (.any t :: rs) (v :: vs) s=cond (yV t v) (gX ps gs rs vs s) none:=rfl
theorem aa3{ps:List bB}{gs:List a6}{t:ad}{rs:List cX}{s:an} : gX ps gs (.any t :: rs) [] s=none:=rfl
theorem aa4{ps:List bB}{gs:List a6}{t:ad}{rs:List cX}{s:an}{v:a6}{vs:List a6} : gX ps gs (.pc t :: rs) (v :: vs) s=(Co t v s).bind fun r=>(gX ps gs rs vs r.2).bind fun q=>some (r.1,q):=rfl
theorem aa5{ps:List bB}{gs:List a6}{t:ad}{rs:List cX}{s:an} : gX ps gs (.pc t :: rs) [] s=none:=rfl
theorem aa6{ps:List bB}{gs:List a6}{t:ad}{m:a'}{rs:List cX}{s:an}{v:a6}{vs:List a6} : gX ps gs (.new t m :: rs) (v :: vs) s=(Cn t m v s).bind fun r=>(gX ps gs rs vs r.2).bind fun q=>some (r.1,q):=rfl
theorem aa7{ps:List bB}{gs:List a6}{t:ad}{m:a'}{rs:List cX}{s:an} : gX ps gs (.new t m :: rs) [] s=none:=rfl
theorem wN{ps:List bB}{gs:List a6}{us:List Value} : ∀(rs:List cX) (vs:List a6) (du:List Value) (s:an) (Z:ah) (x:(cX.outs rs (bB.d_ ps)).D),gX ps gs rs vs s=some x→Inv w0 F0 Z0 n s a w ι Z →
  aX w Z s ι gs us→aX w Z s ι vs du→∃ar F Z',Inv w0 F0 Z0 n ar a w ι Z'∧e_ s ι Z ar Z'∧bJ w0 F0 ar w ι Z' F∧ia w Z' ps us rs x du F∧∀b o,F b o→∃id,(s.o id).live∧(ι id).F b o
 | [],vs,du,s,Z,x,ho,h,aB,hv=>by
  cases vs with
  | cons=>rw [aaX] at ho;cases ho
  | nil =>
   rw [aaW] at ho
   simp only [aX] at hv
   obtain ⟨ar,F,Z',i1,s1,f1,bx,g1⟩:=tW ps gs us s Z x ho h aB
   exact⟨ar,F,Z',i1,s1,f1,⟨hv,bx⟩,g1⟩
 | .opt lR off t :: rs,vs,du,s,Z,x,ho,h,aB,hv=>by
  cases vs with
  | nil=>rw [aaZ] at ho;cases ho
  | cons v vs =>
   simp only [aX] at hv
   obtain ⟨u,aT,rfl,h1,h2⟩:=hv
   rw [aaY] at ho
   obtain ⟨y,aN,ho⟩:=bf ho
   obtain ⟨q,hq,ho⟩:=bf ho
   obtain rfl:=aS ho
   obtain ⟨ar,dL,bM,i2,s2,f2,ch,g2⟩:=wN rs vs aT s Z q hq h aB h2
   exact⟨ar,dL,bM,i2,s2,f2,⟨u,aT,rfl,aaT aN h aB h1,ch⟩,g2⟩
 | .any t :: rs,vs,du,s,Z,x,ho,h,aB,hv=>by
  cases vs with
  | nil=>rw [aa3] at ho;cases ho
  | cons v vs =>
   simp only [aX] at hv
   obtain ⟨u,aT,rfl,h1,h2⟩:=hv
   rw [aa2] at ho
   cases hc:yV t v
   ·rw [hc] at ho;cases ho
   rw [hc] at ho
   obtain ⟨ar,dL,bM,i2,s2,f2,ch,g2⟩:=wN rs vs aT s Z x ho h aB h2
   exact⟨ar,dL,bM,i2,s2,f2,⟨u,aT,rfl,aaU hc h1,ch⟩,g2⟩
 | .pc t :: rs,vs,du,s,Z,x,ho,h,aB,hv=>by
  cases vs with
  | nil=>rw [aa5] at ho;cases ho
  | cons v vs =>
   simp only [aX] at hv
   obtain ⟨u,aT,rfl,h1,h2⟩:=hv
   rw [aa4] at ho
   obtain ⟨r,hr,ho⟩:=bf ho
   obtain ⟨q,hq,ho⟩:=bf ho
   obtain rfl:=aS ho
   obtain ⟨cp,i1,s1,bx⟩:=aaV hr h h1
   obtain ⟨ar,dL,bM,i2,s2,f2,ch,g2⟩:=wN rs vs aT r.2 cp q hq i1 (aX.move s1.ek aB) (aX.move s1.ek h2)
   refine⟨ar,dL,bM,i2,s1.trans s2,f2,⟨u,aT,rfl,bx.imp (fun h=>h) fun⟨y,b,o,vs,k1,k2,k3,bb,bw⟩=>⟨y,b,o,vs,k1,k2,k3,ad.al.mono s2.dE _ _ (fun _ _ h=>h) bb,fun j hj=>s2.dE _ _ (bw j hj)⟩,ch⟩,?_⟩
   intro b o y
   obtain ⟨id,hl,hf⟩:=g2 b o y
   exact⟨id,(s1.live hl).1,hf⟩
 | .new t m :: rs,vs,du,s,Z,x,ho,h,aB,hv=>by
  cases vs with
  | nil=>rw [aa7] at ho;cases ho
  | cons v vs =>
   simp only [aX] at hv
   obtain ⟨u,aT,rfl,h1,h2⟩:=hv
   rw [aa6] at ho
   obtain ⟨r,hr,ho⟩:=bf ho
   obtain ⟨q,hq,ho⟩:=bf ho
   obtain rfl:=aS ho
   obtain ⟨b,o,ws,F1,cp,rfl,i1,s1,f1,ck,hwr,bx,aa8,g1⟩:=aaS hr h h1
   obtain ⟨ar,dL,bM,i2,s2,f2,ch,g2⟩:=wN rs vs aT r.2 cp q hq i1 (aX.move s1.ek aB) (aX.move s1.ek h2)
   refine⟨ar,(F1.or (ah.run b o t.size)).or dL,bM,i2,s1.trans s2,(f1.shrink s2).or f2,⟨b,o,ws,aT,F1,dL,rfl,ck,hwr,ad.al.mono s2.dE _ _ (fun _ _ h=>h) bx,ch,?_,aa8,fun _ _ h=>.inl h,fun _ _ h=>.inr h⟩,?_⟩
   ·intro b o x y
    obtain ⟨id,hl,hf⟩:=g2 b o y
    exact f1.apart id hl b o x hf
   ·rintro b o (y | y)
    ·exact g1 b o y
    ·obtain ⟨id,hl,hf⟩:=g2 b o y;exact⟨id,(s1.live hl).1,hf⟩
 | .val t m :: rs,vs,du,s,Z,x,ho,h,aB,hv=>by
  cases vs with
  | nil=>rw [aa1] at ho;cases ho
  | cons v vs =>
   simp only [aX] at hv
   obtain ⟨u,aT,rfl,h1,h2⟩:=hv
   rw [aa0] at ho
   obtain ⟨r,hr,ho⟩:=bf ho
   obtain ⟨q,hq,ho⟩:=bf ho
   obtain rfl:=aS ho
   obtain ⟨ws,F1,cp,rfl,i1,s1,f1,bx,g1⟩:=Q3 hr h h1
   obtain ⟨ar,dL,bM,i2,s2,f2,ch,g2⟩:=wN rs vs aT r.2 cp q hq i1 (aX.move s1.ek aB) (aX.move s1.ek h2)
   refine⟨ar,F1.or dL,bM,i2,s1.trans s2,(f1.shrink s2).or f2,⟨ws,aT,F1,dL,rfl,ad.al.mono s2.dE _ _ (fun _ _ h=>h) bx,ch,?_,fun _ _ h=>.inl h,fun _ _ h=>.inr h⟩,?_⟩
   ·intro b o x y
    obtain ⟨id,hl,hf⟩:=g2 b o y
    exact f1.apart id hl b o x hf
   ·rintro b o (y | y)
    ·exact g1 b o y
    ·obtain ⟨id,hl,hf⟩:=g2 b o y;exact⟨id,(s1.live hl).1,hf⟩
end
end Go.LM
namespace Go.LM
inductive k4 where
 | keep
 | b2 (t:ad) (dp:List Nat)
 | ag (c:Nat)
 | au (c:Nat)
inductive ky where
 | cell (c:k4)
 | iv (cs:List k4)
 | ptr (c:Nat)
 | dj (dp:List Nat) (cs:List k4)
 | opt (c:Nat)
 | same
 | drop
 | vG (a b:List (List k4))
inductive iE where
 | var (cs:List k4)
 | row (t:ad) (em:a')
structure b0 where
 aj:List (Nat×ky)
 os:List (Nat×iE)
 gs:List ky
abbrev Ren:=List (Nat×Option Nat)
def jJ:Ren→Nat→Option (Option Nat)
 | [],_=>none
 | (k,v) :: l,c=>cond (Nat.beq k c) (some v) (jJ l c)
def j6(r:Ren)(c id:Nat):Bool:=match jJ r c with
 | some (some i)=>Nat.beq i id
 | _=>false
def tX(r:Ren)(c:Nat):Bool:=match jJ r c with
 | some none=>true
 | _=>false
def gY:List (Nat×iE)→Nat→Bool
 | [],_=>false
 | (k,_) :: l,c=>cond (Nat.beq k c) true (gY l c)
def rY:Ren→List Nat
 | []=>[]
 | (_,some i) :: l=>i :: rY l
 | (_,none) :: l=>rY l
def pG:List Nat→Bool
 | []=>true
 | x :: l => !(l.any (Nat.beq x))&&pG l
def Jn:Ren→List Nat
 | []=>[]
 | (k,_) :: l=>k :: Jn l
def rZ(r:Ren)(c:Nat)(v:Option Nat):Ren:=match jJ r c with
 | none=>(c,v) :: r
 | some _=>r
def Jo(r:Ren):List Nat→List (Nat×Nat)→Ren
 | c :: cs,d :: ds=>Jo (rZ r c (some d.1)) cs ds
 | _,_=>r
def Q5(r:Ren):k4→a8→Ren
 | .ag c,.ag id _=>rZ r c (some id)
 | .ag c,.nil _=>rZ r c none
 | .au c,.ag id _=>rZ r c (some id)
 | .b2 _ dp,.b2 _ ds _ _=>Jo r dp ds
 | .b2 _ (c :: _),.ag id _=>rZ r c (some id)
 | _,_=>r
def Cp(r:Ren):List k4→List a8→Ren
 | c :: cs,x :: xs=>Cp (Q5 r c x) cs xs
 | _,_=>r
def Q6(r:Ren):ky→a6→Ren
 | .cell c,.aU x=>Q5 r c x
 | .cell (.ag c),.kP=>rZ r c none
 | .iv cs,.iv xs=>Cp r cs xs
 | .ptr c,.ptr p=>rZ r c (some p.id)
 | .dj dp cs,.dj ds xs _=>Cp (Jo r dp ds) cs xs
 | .opt c,.opt id _=>rZ r c (some id)
 | _,_=>r
def Q7(s:an)(r:Ren):List (Nat×ky)→Ren
 | []=>r
 | (d,t) :: l=>Q7 s (Q6 r t (s.t d)) l
def Q8(r:Ren):List ky→List a6→Ren
 | t :: l,x :: xs=>Q8 (Q6 r t x) l xs
 | _,_=>r
def Jp(s:an)(r:Ren):List (Nat×iE)→Ren
 | []=>r
 | (c,.var cs) :: l=>Jp s (match jJ r c with
   | some (some id)=>(match s.o id with
    | .var _ xs=>Cp r cs xs
    | _=>r)
   | _=>r) l
 | _ :: l=>Jp s r l
def tY(dp:List Nat):List (Nat×Nat):=dp.map fun c=>(c,0)
def qD(r:Ren)(os:List (Nat×iE))(s:an):k4→a8→Option a8
 | .keep,c=>match c with
  | .int k x=>some (.int k x)
  | .bool b=>some (.bool b)
  | .str x=>some (.str x)
  | _=>none
 | .b2 t dp,c=>cond (dp.all (gY os)&&(borrows s c).all fun d=>dp.any fun c=>j6 r c d.1) ((pd s t c).bind fun x=>some (.b2 t (tY dp) none x)) none
 | .ag k,c=>cond (gY os k) (match c with
  | .ag id sub=>cond (j6 r k id) (some (.ag k sub)) none
  | .nil _=>cond (tX r k) (some (.ag k none)) none
  | _=>none) none
 | .au k,c=>cond (gY os k) (match c with
  | .ag id sub=>(match s.o id with
   | .row _ _ _ xs=>cond (j6 r k id) (some (.ag k (some (ej sub,ly sub xs)))) none
   | _=>none)
  | _=>none) none
def oD(r:Ren)(os:List (Nat×iE))(s:an):List k4→List a8→Option (List a8)
 | [],[]=>some []
 | c :: cs,x :: xs=>(qD r os s c x).bind fun y=>(oD r os s cs xs).bind fun ys=>some (y :: ys)
 | _,_=>none
def Cq(r:Ren)(os:List (Nat×iE))(s:an):ky→a6→Option a6
 | .cell c,.aU x=>(qD r os s c x).bind fun y=>some (.aU y)
 | .cell (.ag k),.kP=>cond (gY os k&&tX r k) (some (.aU (.ag k none))) none
 | .cell (.b2 t dp),.kP=>cond (dp.all (gY os)) (some (.aU (.b2 t (tY dp) none []))) none
 | .iv cs,.iv xs=>(oD r os s cs xs).bind fun ys=>some (.iv ys)
 | .ptr k,.ptr p=>cond (gY os k&&j6 r k p.id) (some (.ptr { p with id:=k })) none
 | .dj dp cs,.dj ds xs off=>cond (dp.all (gY os)&&alive s ds&&ds.all fun d=>dp.any fun c=>j6 r c d.1) ((oD r os s cs xs).bind fun ys=>some (.dj (tY dp) ys off)) none
 | .opt k,.opt id o=>cond (gY os k&&j6 r k id) (some (.opt k o)) none
 | .same,.jU=>some .jU
 | .same,.aD=>some .aD
 | .same,.fn f [] []=>some (.fn f [] [])
 | .drop,_=>some .aD
 | _,_=>none
def wO(r:Ren)(os:List (Nat×iE))(s:an):List ky→List a6→Option (List a6)
 | [],[]=>some []
 | t :: l,x :: xs=>(Cq r os s t x).bind fun v=>(wO r os s l xs).bind fun vs=>some (v :: vs)
 | _,_=>none
def Jq(r:Ren)(os:List (Nat×iE))(s:an):ky→a6→Option a6
 | .vG a b,.fn f xs ys=>(wO r os s (a.map (ky.dj [])) xs).bind fun x=>(wO r os s (b.map (ky.dj [])) ys).bind fun y=>some (.fn f x y)
 | t,x=>Cq r os s t x
def Cr(r:Ren)(os:List (Nat×iE))(s:an):List (Nat×ky)→Option (Nat→a6)
 | []=>some fun _=>.aD
 | (d,t) :: l=>(Jq r os s t (s.t d)).bind fun v=>(Cr r os s l).bind fun f=>some (bT f d v)
def Jr(r:Ren)(os:List (Nat×iE))(s:an)(c:Nat)(t:iE):Option cm :=
 match jJ r c with
 | some (some id)=>(match t,s.o id with
  | .row t em,.row u gx _ xs=>cond (a'.beq gx em||xs.isEmpty) ((eF (.sl u) (.sl t) xs).bind fun x=>some (.row t em 0 x)) none
  | .var cs,.var _ xs=>(oD r os s cs xs).bind fun ys=>some (.var 0 ys)
  | _,_=>none)
 | some none=>(match t with
  | .row t em=>some (.row t em 0 [])
  | _=>none)
 | none=>none
def Cs(r:Ren)(os:List (Nat×iE))(s:an):List (Nat×iE)→Option (Nat→cm)
 | []=>some fun _=>.none
 | (c,t) :: l=>(Jr r os s c t).bind fun v=>(Cs r os s l).bind fun f=>some (bT f c v)
def Js(T:b0)(r:Ren)(s:an):Option an :=
 cond (pG (rY r)&&pG (Jn r)) ((Cr r T.os s T.aj).bind fun t=>(Cs r T.os s T.os).bind fun o=>(wO r T.os s T.gs s.g).bind fun g=>some ⟨t,o,g⟩) none
def norm(T:b0)(s:an):Option an:=Js T (Jp s (Q8 (Q7 s [] T.aj) T.gs s.g) T.os) s
section
variable{w0:World}{F0 Z0:ah}{n:cC}{s s0:an}{a:Act}{w:World}{ι alE:Nat→bF}{Z:ah}{r:Ren}{os:List (Nat×iE)}
def iota(r:Ren)(ι : Nat→bF):Nat→bF:=fun c=>match jJ r c with
 | some (some id) => ι id
 | _=>⟨none,0,ah.none⟩
theorem r0{c id:Nat}(h:j6 r c id=true):jJ r c=some (some id):=by
 unfold j6 at h
 split at h
 ·rename_i i hi;rw [hi,Nat.eq_of_beq_eq_true h]
 ·cases h
theorem Q9{c:Nat}(h:tX r c=true):jJ r c=some none:=by
 unfold tX at h
 split at h
 ·rename_i hi;exact hi
 ·cases h
theorem Ct{c id:Nat}(h:j6 r c id=true):iota r ι c = ι id:=by unfold iota;rw [r0 h]
theorem aa9{c:Nat}(h:tX r c=true):iota r ι c=⟨none,0,ah.none⟩:=by unfold iota;rw [Q9 h]
def mD(r:Ren)(os:List (Nat×iE))(s s0:an):Prop:=∀c,(s0.o c=.none∧gY os c=false) ∨
 (∃id,jJ r c=some (some id)∧((∃t em oE ver xs,s.o id=.row t oE ver xs∧s0.o c=.row t em 0 xs∧(oE=em∨xs=[]))∨(∃ver cs lW oF,s.o id=.var ver cs∧s0.o c=.var 0 lW∧oD r os s oF cs=some lW))) ∨
 (jJ r c=some none∧∃t em,s0.o c=.row t em 0 [])
theorem mD.known(h:mD r os s s0){c:Nat}(hc:gY os c=true):LM.known s0 c:=by
 intro h0
 rcases h c with⟨_,h1⟩ | ⟨id,_,⟨t,em,oE,ver,xs,_,h1,_⟩ | ⟨ver,cs,lW,oF,_,h1,_⟩⟩ | ⟨_,t,em,h1⟩
 ·rw [hc] at h1;cases h1
 all_goals rw [h1] at h0;cases h0
theorem mD.dep(h:mD r os s s0){c:Nat}(hc:gY os c=true):er s0 (c,0):=⟨h.known hc,.inr (Nat.zero_le _)⟩
theorem Q_(h:mD r os s s0){dp:List Nat}(ag:dp.all (gY os)=true):∀d,d∈tY dp→er s0 d:=by
 intro d jm
 unfold tY at jm
 obtain ⟨c,hc,rfl⟩:=List.mem_map.1 jm
 exact h.dep (List.all_eq_true.1 ag c hc)
theorem Ra{dp:List Nat}{ds:List (Nat×Nat)}(h:∀d,d∈ds→(dp.any fun c=>j6 r c d.1)=true):ah.sub (dh ι ds) (dh (iota r ι) (tY dp)):=by
 rintro b o ⟨d,ag,hf⟩
 obtain ⟨c,hc,ck⟩:=List.any_eq_true.1 (h d ag)
 refine⟨(c,0),List.mem_map.2 ⟨c,hc,rfl⟩,?_⟩
 rw [Ct ck]
 exact hf
theorem Cu(h:Inv w0 F0 Z0 n s a w ι Z)(bN:mD r os s s0){c:k4}{x y:a8}{v:Value}(hn:qD r os s c x=some y)(hx:cj w Z s ι x v):cj w Z s0 (iota r ι) y v:=by
 cases c with
 | keep =>
  cases x <;> simp only [qD,Option.some.injEq] at hn <;> first | (cases hn;done) | (subst hn;exact hx)
 | b2 t dp =>
  simp only [qD] at hn
  cases hc:(dp.all (gY os)&&(borrows s x).all fun d=>dp.any fun c=>j6 r c d.1)
  ·rw [hc] at hn;cases hn
  rw [hc] at hn
  simp only [cond_true] at hn
  simp only [Bool.and_eq_true] at hc
  obtain ⟨xs,hl,hn⟩:=bf hn
  obtain rfl:=aS hn
  obtain ⟨h1,h2,h3⟩:=HO h hl hx
  have kU:=Ra (ι := ι) (r:=r) (dp:=dp) (ds:=borrows s x) fun d ag=>List.all_eq_true.1 hc.2 d ag
  have h4:=ad.al.mono (Z':=Z.or (dh (iota r ι) (tY dp))) (fun b o hz=>hz.elim .inl fun h=>.inr (kU b o h)) _ _ (fun _ _ h=>h) h1
  refine⟨Q_ bN hc.1,?_,fun _=>h4,.none⟩
  simp only [ad.al] at h4
  obtain ⟨A,c,hv,_⟩:=h4
  simp only [List.cons.injEq,and_true] at hv
  exact⟨A,_,c,hv⟩
 | ag k =>
  simp only [qD] at hn
  cases hc:gY os k
  ·rw [hc] at hn;cases hn
  rw [hc] at hn
  simp only [cond_true] at hn
  cases x with
  | ag id sub =>
   simp only at hn
   cases ck:j6 r k id
   ·rw [ck] at hn;cases hn
   rw [ck] at hn
   obtain rfl:=aS hn
   obtain ⟨h1,A,m,jZ,hv,h2⟩:=hx
   refine⟨bN.known hc,A,m,jZ,hv,fun t em ver xs bY=>?_⟩
   rw [Ct ck]
   rcases bN k with⟨h0,_⟩ | ⟨ea,h0,⟨dm,gx,Rb,nk,fV,g1,g2,ge⟩ | ⟨nk,cs,lW,oF,g1,g2,_⟩⟩ | ⟨h0,dm,gx,g2⟩
   ·rw [h0] at bY;cases bY
   ·rw [r0 ck] at h0
    injection h0 with h0;injection h0 with h0;subst h0
    rw [g2] at bY
    simp only [cm.core,cm.row.injEq] at bY
    obtain ⟨rfl,rfl,rfl,bY⟩:=bY
    have:=eq_of_heq bY;subst this
    exact h2 _ _ _ _ (lD g1)
   ·rw [g2] at bY;cases bY
   ·rw [r0 ck] at h0;cases h0
  | nil u =>
   simp only at hn
   cases ck:tX r k
   ·rw [ck] at hn;cases hn
   rw [ck] at hn
   obtain rfl:=aS hn
   have hv:v=.slice none 0 0:=hx
   refine⟨bN.known hc,none,0,0,hv,fun t em ver xs bY=>?_⟩
   rw [aa9 ck]
   rcases bN k with⟨h0,_⟩ | ⟨ea,h0,_⟩ | ⟨h0,dm,gx,g2⟩
   ·rw [h0] at bY;cases bY
   ·rw [Q9 ck] at h0;cases h0
   ·rw [g2] at bY
    simp only [cm.core,cm.row.injEq] at bY
    obtain ⟨rfl,rfl,rfl,bY⟩:=bY
    have:=eq_of_heq bY;subst this
    exact⟨rfl,Nat.le_refl _,Nat.le_refl _,Nat.le_refl _,.inl rfl⟩
  | _=>cases hn
 | au k =>
  simp only [qD] at hn
  cases hc:gY os k
  ·rw [hc] at hn;cases hn
  rw [hc] at hn
  simp only [cond_true] at hn
  cases x with
  | ag id sub =>
   simp only at hn
   cases hrow:s.o id with
   | row t2 YE YF YG =>
    rw [hrow] at hn
    simp only at hn
    cases ck:j6 r k id
    ·rw [ck] at hn;cases hn
    rw [ck] at hn
    obtain rfl:=aS hn
    obtain ⟨h1,A,m,jZ,hv,h2⟩:=hx
    refine⟨bN.known hc,A,m,jZ,hv,fun t em ver xs bY=>?_⟩
    rw [Ct ck]
    rcases bN k with⟨h0,_⟩ | ⟨ea,h0,⟨dm,gx,Rb,nk,fV,g1,g2,ge⟩ | ⟨nk,cs,lW,oF,g1,g2,_⟩⟩ | ⟨h0,dm,gx,g2⟩
    ·rw [h0] at bY;cases bY
    ·rw [r0 ck] at h0
     injection h0 with h0;injection h0 with h0;subst h0
     rw [g2] at bY
     simp only [cm.core,cm.row.injEq] at bY
     obtain ⟨rfl,rfl,rfl,bY⟩:=bY
     have:=eq_of_heq bY;subst this
     rw [hrow] at g1
     simp only [cm.row.injEq] at g1
     obtain ⟨rfl,rfl,rfl,g1⟩:=g1
     have:=eq_of_heq g1;subst this
     have h3:=h2 _ _ _ _ (lD hrow)
     cases sub with
     | none=>exact⟨h3.OW,h3.fits,h3.le,h3.cap,h3.at_⟩
     | some p=>exact h3
    ·rw [g2] at bY;cases bY
    ·rw [r0 ck] at h0;cases h0
   | _=>rw [hrow] at hn;cases hn
  | _=>cases hn
theorem Cv(h:Inv w0 F0 Z0 n s a w ι Z)(bN:mD r os s s0):∀ {cs:List k4} {xs ys:List a8} {vs:List Value},oD r os s cs xs=some ys→bK w Z s ι xs vs→bK w Z s0 (iota r ι) ys vs
 | [],[],ys,vs,hn,hx=>by
  obtain rfl:=aS hn
  cases vs with
  | nil=>trivial
  | cons=>exact hx.elim
 | [],_ :: _,_,_,hn,_=>by cases hn
 | _ :: _,[],_,_,hn,_=>by cases hn
 | c :: cs,x :: xs,ys,vs,hn,hx=>by
  simp only [oD] at hn
  obtain ⟨y,h1,hn⟩:=bf hn
  obtain ⟨Rc,h2,hn⟩:=bf hn
  obtain rfl:=aS hn
  cases vs with
  | nil=>exact hx.elim
  | cons v vs=>exact⟨Cu h bN h1 hx.1,Cv h bN h2 hx.2⟩
theorem Jt:∀ {cs:List k4} {xs ys:List a8},oD r os s cs xs=some ys→ys.length=xs.length
 | [],[],_,hn=>by obtain rfl:=aS hn;rfl
 | [],_ :: _,_,hn=>by cases hn
 | _ :: _,[],_,hn=>by cases hn
 | c :: cs,x :: xs,ys,hn=>by
  simp only [oD] at hn
  obtain ⟨y,h1,hn⟩:=bf hn
  obtain ⟨Rc,h2,hn⟩:=bf hn
  obtain rfl:=aS hn
  simp [Jt h2]
theorem Rd(bN:mD r os s s0){k:Nat}{p:Place}{A:Addr}(hc:gY os k=true)(ck:j6 r k p.id=true)(au:jh s ι p A):jh s0 (iota r ι) { p with id:=k } A:=by
 obtain ⟨h1,h2⟩:=au
 refine⟨h1,?_⟩
 show match (s0.o k).core with | .var _ cs=>_ | .row t _ _ xs=>_ | _=>_
 rw [Ct ck]
 rcases bN k with⟨h0,_⟩ | ⟨ea,h0,⟨dm,gx,Rb,nk,fV,g1,g2,ge⟩ | ⟨nk,cs,lW,oF,g1,g2,_⟩⟩ | ⟨h0,dm,gx,g2⟩
 ·rw [h0];trivial
 ·rw [r0 ck] at h0
  injection h0 with h0;injection h0 with h0;subst h0
  rw [g2]
  rw [g1] at h2
  exact h2
 ·rw [r0 ck] at h0
  injection h0 with h0;injection h0 with h0;subst h0
  rw [g2]
  rw [g1] at h2
  exact h2
 ·rw [r0 ck] at h0;cases h0
theorem Re(h:Inv w0 F0 Z0 n s a w ι Z)(bN:mD r os s s0){t:ky}{x y:a6}{v:Value}(hn:Cq r os s t x=some y)(hx:aP w Z s ι x v):aP w Z s0 (iota r ι) y v:=by
 unfold Cq at hn
 split at hn
 ·obtain ⟨z,h1,hn⟩:=bf hn
  obtain rfl:=aS hn
  simp only [aP] at hx ⊢
  exact Cu h bN h1 hx
 ·rename_i k
  cases hc:(gY os k&&tX r k)
  ·rw [hc] at hn;cases hn
  rw [hc] at hn
  simp only [Bool.and_eq_true] at hc
  obtain rfl:=aS hn
  simp only [aP] at hx ⊢
  exact Cu (c:=.ag k) (x:=.nil .bool) h bN (by simp only [qD];rw [hc.1,hc.2];rfl) hx
 ·rename_i t dp
  cases hc:dp.all (gY os)
  ·rw [hc] at hn;cases hn
  rw [hc] at hn
  obtain rfl:=aS hn
  simp only [aP] at hx ⊢
  refine Cu (c:=.b2 t dp) (x:=.nil t) h bN ?_ hx
  simp only [qD,hc,borrows,List.all_nil,Bool.and_true,cond_true]
  simp only [pd,eF]
  rw [dif_pos (ad.beq_refl _)]
  rfl
 ·obtain ⟨z,h1,hn⟩:=bf hn
  obtain rfl:=aS hn
  simp only [aP] at hx ⊢
  obtain ⟨vs,hv,hx⟩:=hx
  exact⟨vs,hv,Cv h bN h1 hx⟩
 ·rename_i k p
  cases hc:(gY os k&&j6 r k p.id)
  ·rw [hc] at hn;cases hn
  rw [hc] at hn
  simp only [Bool.and_eq_true] at hc
  obtain rfl:=aS hn
  simp only [aP] at hx ⊢
  obtain ⟨_,A,hv,au⟩:=hx
  exact⟨bN.known hc.1,A,hv,Rd bN hc.1 hc.2 au⟩
 ·rename_i dp cs ds xs off
  cases hc:(dp.all (gY os)&&alive s ds&&ds.all fun d=>dp.any fun c=>j6 r c d.1)
  ·rw [hc] at hn;cases hn
  rw [hc] at hn
  simp only [Bool.and_eq_true] at hc
  simp only [cond_true] at hn
  obtain ⟨z,h1,hn⟩:=bf hn
  obtain rfl:=aS hn
  simp only [aP] at hx ⊢
  obtain ⟨_,b,o,vs,hv,hx⟩:=hx
  obtain ⟨g1,g2,g3⟩:=hx hc.1.2
  have kU:=Ra (ι := ι) (r:=r) (dp:=dp) (ds:=ds) fun d ag=>List.all_eq_true.1 hc.2 d ag
  refine⟨Q_ bN hc.1.1,b,o,vs,hv,fun _=>⟨Cv h bN h1 g1,g2,fun j hj=>?_⟩⟩
  rw [Jt h1] at hj
  exact(g3 j hj).elim .inl fun h=>.inr (kU _ _ h)
 ·rename_i k id o
  cases hc:(gY os k&&j6 r k id)
  ·rw [hc] at hn;cases hn
  rw [hc] at hn
  simp only [Bool.and_eq_true] at hc
  obtain rfl:=aS hn
  simp only [aP] at hx ⊢
  obtain ⟨_,hx⟩:=hx
  exact⟨bN.known hc.1,hx.imp (fun h=>h) fun⟨h1,A,hv,au⟩=>⟨h1,A,hv,Rd (p:=⟨id,some o.toNat,0⟩) bN hc.1 hc.2 au⟩⟩
 ·obtain rfl:=aS hn
  simpa only [aP] using hx
 ·obtain rfl:=aS hn
  simp only [aP]
 ·obtain rfl:=aS hn
  simpa only [aP,aX] using hx
 ·obtain rfl:=aS hn
  simp only [aP]
 ·cases hn
theorem Cw(h:Inv w0 F0 Z0 n s a w ι Z)(bN:mD r os s s0):∀ {aj:List ky} {xs ys:List a6} {vs:List Value},wO r os s aj xs=some ys→aX w Z s ι xs vs→aX w Z s0 (iota r ι) ys vs
 | [],[],ys,vs,hn,hx=>by obtain rfl:=aS hn;simpa only [aX] using hx
 | [],_ :: _,_,_,hn,_=>by cases hn
 | _ :: _,[],_,_,hn,_=>by cases hn
 | t :: aj,x :: xs,ys,vs,hn,hx=>by
  simp only [wO] at hn
  obtain ⟨y,h1,hn⟩:=bf hn
  obtain ⟨Rc,h2,hn⟩:=bf hn
  obtain rfl:=aS hn
  simp only [aX] at hx ⊢
  obtain ⟨v,bI,rfl,g1,g2⟩:=hx
  exact⟨v,bI,rfl,Re h bN h1 g1,Cw h bN h2 g2⟩
theorem aa_(h:Inv w0 F0 Z0 n s a w ι Z)(bN:mD r os s s0){t:ky}{x y:a6}{v:Value}(hn:Jq r os s t x=some y)(hx:aP w Z s ι x v):aP w Z s0 (iota r ι) y v:=by
 unfold Jq at hn
 split at hn
 ·obtain ⟨U,h1,hn⟩:=bf hn
  obtain ⟨alF,h2,hn⟩:=bf hn
  obtain rfl:=aS hn
  simp only [aP] at hx ⊢
  obtain ⟨us,vs,rfl,k1,k2⟩:=hx
  exact⟨us,vs,rfl,Cw h bN h1 k1,Cw h bN h2 k2⟩
 ·exact Re h bN hn hx
theorem Rf(h:Inv w0 F0 Z0 n s a w ι Z)(bN:mD r os s s0):∀ {aj:List (Nat×ky)} {f:Nat→a6},Cr r os s aj=some f→∀k,aP w Z s0 (iota r ι) (f k) (a.tmps.getD k undef)
 | [],f,hn,k=>by obtain rfl:=aS hn;simp only [aP]
 | (d,t) :: l,f,hn,k=>by
  simp only [Cr] at hn
  obtain ⟨v,h1,hn⟩:=bf hn
  obtain ⟨g,h2,hn⟩:=bf hn
  obtain rfl:=aS hn
  by_cases hk:d=k
  ·subst hk;rw [cz];exact aa_ h bN h1 (h.tmps d)
  ·rw [cR hk];exact Rf h bN h2 k
theorem aa'{c:Nat}{t:iE}{v:cm}(hn:Jr r os s c t=some v) :
  (∃id,jJ r c=some (some id)∧((∃t em oE ver xs,s.o id=.row t oE ver xs∧v=.row t em 0 xs∧(oE=em∨xs=[]))∨(∃ver cs lW oF,s.o id=.var ver cs∧v=.var 0 lW∧oD r os s oF cs=some lW)))∨(jJ r c=some none∧∃t em,v=.row t em 0 []):=by
 unfold Jr at hn
 split at hn
 ·rename_i id hl
  refine .inl ⟨id,hl,?_⟩
  split at hn
  ·rename_i t em u gx ver xs ho
   cases hb:(a'.beq gx em||xs.isEmpty)
   ·rw [hb] at hn;cases hn
   rw [hb] at hn
   obtain ⟨x,h1,hn⟩:=bf hn
   obtain rfl:=aS hn
   simp only [Bool.or_eq_true] at hb
   obtain ⟨e,rfl⟩:=gS h1
   subst e
   refine .inl ⟨_,_,_,_,_,ho,rfl,?_⟩
   rcases hb with hb | hb
   ·exact .inl (a'.eq_of_beq _ _ hb)
   ·exact .inr (List.isEmpty_iff.1 hb)
  ·rename_i cs ver xs ho
   obtain ⟨ys,h1,hn⟩:=bf hn
   obtain rfl:=aS hn
   exact .inr ⟨_,_,_,_,ho,rfl,h1⟩
  ·cases hn
 ·rename_i hl
  split at hn
  ·obtain rfl:=aS hn;exact .inr ⟨hl,_,_,rfl⟩
  ·cases hn
 ·cases hn
theorem Cx:∀ {l:List (Nat×iE)} {f:Nat→cm},Cs r os s l=some f→∀c,(f c=.none∧gY l c=false) ∨
  (∃id,jJ r c=some (some id)∧((∃t em oE ver xs,s.o id=.row t oE ver xs∧f c=.row t em 0 xs∧(oE=em∨xs=[]))∨(∃ver cs lW oF,s.o id=.var ver cs∧f c=.var 0 lW∧oD r os s oF cs=some lW))) ∨
  (jJ r c=some none∧∃t em,f c=.row t em 0 [])
 | [],f,hn,c=>by obtain rfl:=aS hn;exact .inl ⟨rfl,rfl⟩
 | (d,t) :: l,f,hn,c=>by
  simp only [Cs] at hn
  obtain ⟨v,h1,hn⟩:=bf hn
  obtain ⟨g,h2,hn⟩:=bf hn
  obtain rfl:=aS hn
  by_cases hk:d=c
  ·subst hk;rw [cz];exact .inr (aa' h1)
  ·rw [cR hk]
   rcases Cx h2 c with⟨g1,g2⟩ | g
   ·refine .inl ⟨g1,?_⟩
    unfold gY
    have:Nat.beq d c=false:=by
     cases hb:Nat.beq d c
     ·rfl
     ·exact absurd (Nat.eq_of_beq_eq_true hb) hk
    rw [this]
    exact g2
   ·exact .inr g
theorem Ju{c:Nat}{v:Option Nat} : ∀ {r:Ren},jJ r c=some v→(c,v)∈r
 | [],h=>by cases h
 | (k,u) :: l,h=>by
  unfold jJ at h
  cases hb:Nat.beq k c
  ·rw [hb] at h;exact List.mem_cons_of_mem _ (Ju h)
  ·rw [hb] at h
   obtain rfl:=aS h
   obtain rfl:=Nat.eq_of_beq_eq_true hb
   exact List.mem_cons_self
theorem Rg{c id:Nat} : ∀ {r:Ren},(c,some id)∈r→id∈rY r
 | (k,u) :: l,h=>by
  rcases List.mem_cons.1 h with h | h
  ·injection h with h1 h2
   subst h1 h2
   exact List.mem_cons_self
  ·have:=Rg h
   cases u with
   | none=>exact this
   | some i=>exact List.mem_cons_of_mem _ this
theorem Jv{c c' id:Nat} : ∀ {r:Ren},pG (rY r)=true→(c,some id)∈r→(c',some id)∈r→c=c'
 | (k,u) :: l,hn,h,h'=>by
  cases u with
  | none =>
   simp only [rY] at hn
   rcases List.mem_cons.1 h with h | h
   ·injection h with _ h2;cases h2
   rcases List.mem_cons.1 h' with h' | h'
   ·injection h' with _ h2;cases h2
   exact Jv hn h h'
  | some i =>
   simp only [rY,pG,Bool.and_eq_true,Bool.not_eq_true'] at hn
   have bS:∀ {x},(x,some i)∈l→False:=by
    intro x hx
    have:=Rg hx
    have h3:=List.any_eq_false.1 hn.1 i this
    simp at h3
   rcases List.mem_cons.1 h with g | g
   ·injection g with h1 h2;injection h2 with h2
    rcases List.mem_cons.1 h' with tZ | tZ
    ·injection tZ with h3 h4;rw [h1,h3]
    ·exact(bS (h2 ▸ tZ)).elim
   ·rcases List.mem_cons.1 h' with tZ | tZ
    ·injection tZ with h1 h2;injection h2 with h2
     exact(bS (h2 ▸ g)).elim
    ·exact Jv hn.2 g tZ
theorem aba{T:b0}(wP:n.gc=[])(hn:Js T r s=some s0)(hs:cY w0 F0 Z0 n s a w):cY w0 F0 Z0 n s0 a w:=by
 obtain ⟨ι,Z,h⟩:=hs
 unfold Js at hn
 cases gZ:(pG (rY r)&&pG (Jn r))
 ·rw [gZ] at hn;cases hn
 rw [gZ] at hn
 simp only [Bool.and_eq_true] at gZ
 simp only [cond_true] at hn
 obtain ⟨abb,h1,hn⟩:=bf hn
 obtain ⟨bl,h2,hn⟩:=bf hn
 obtain ⟨abc,h3,hn⟩:=bf hn
 obtain rfl:=aS hn
 have bN:mD r T.os s ⟨abb,bl,abc⟩:=Cx h2
 have live:∀c,(bl c).live→(∃id,jJ r c=some (some id)∧(s.o id).live∧iota r ι c = ι id)∨(iota r ι c=⟨none,0,ah.none⟩):=by
  intro c hl
  rcases Cx h2 c with⟨g,_⟩ | ⟨id,g,⟨t,em,oE,ver,xs,g1,g2,ge⟩ | ⟨ver,cs,lW,oF,g1,g2,_⟩⟩ | ⟨g,_⟩
  ·rw [g] at hl;exact hl.elim
  ·exact .inl ⟨id,g,by rw [g1];trivial,by unfold iota;rw [g]⟩
  ·exact .inl ⟨id,g,by rw [g1];trivial,by unfold iota;rw [g]⟩
  ·exact .inr (by unfold iota;rw [g])
 refine⟨iota r ι,Z,h.ext,h.dE,h.rB,h.iR,?_,?_,?_,?_,Rf h bN h1,h.size,Cw h bN h3 h.ghost,by rw [wP];intro e he;simp at he,h.defers⟩
 ·intro c
  show h5 w Z _ _ _ (bl c)
  rcases Cx h2 c with⟨g,_⟩ | ⟨id,g,⟨t,em,oE,ver,xs,g1,g2,ge⟩ | ⟨ver,cs,lW,oF,g1,g2,g3⟩⟩ | ⟨g,t,em,g2⟩
  ·rw [g];trivial
  ·rw [g2]
   have:=h.fU id
   rw [g1] at this
   have hi:iota r ι c = ι id:=by unfold iota;rw [g]
   rw [hi]
   rcases ge with rfl | rfl
   ·exact this
   ·rcases this with k | ⟨a0,k1,k2⟩
    ·exact .inl k
    ·obtain ⟨k3,bb,bw,da,G,c5,dI,fB⟩:=k2
     exact .inr ⟨a0,k1,k3,bb,bw,da,G,trivial,dI,fB⟩
  ·rw [g2]
   have:=h.fU id
   rw [g1] at this
   have hi:iota r ι c = ι id:=by unfold iota;rw [g]
   rw [hi]
   obtain ⟨a0,vs,k1,k2,k3,bb,bw⟩:=this
   exact⟨a0,vs,k1,k2,Cv h bN g3 k3,bb,fun j hj=>bw j (by rw [← Jt g3];exact hj)⟩
  ·rw [g2]
   exact .inl ⟨rfl,by unfold iota;rw [g]⟩
 ·intro c hl b o hf
  rcases live c hl with⟨id,_,g2,g3⟩ | g
  ·rw [g3] at hf;exact h.own id g2 b o hf
  ·rw [g] at hf;exact hf.elim
 ·intro c c' hl gf hne b o hf iA
  rcases live c hl with⟨id,g1,g2,g3⟩ | g
  ·rcases live c' gf with⟨ea,k1,k2,k3⟩ | k
   ·rw [g3] at hf
    rw [k3] at iA
    refine h.apart id ea g2 k2 (fun e=>?_) b o hf iA
    subst e
    exact hne (Jv gZ.1 (Ju g1) (Ju k1))
   ·rw [k] at iA;exact iA.elim
  ·rw [g] at hf;exact hf.elim
 ·intro c hl b o hf hz
  rcases live c hl with⟨id,g1,g2,g3⟩ | g
  ·rw [g3] at hf;exact h.c4 id g2 b o hf hz
  ·rw [g] at hf;exact hf.elim
theorem abd{T:b0}(wP:n.gc=[])(hn:norm T s=some s0)(hs:cY w0 F0 Z0 n s a w):cY w0 F0 Z0 n s0 a w:=aba wP hn hs
end
end Go.LM
namespace Go.LM
def Cy:List (Nat×List Item)→Nat→Option (List Item)
 | [],_=>none
 | (k,x) :: l,r=>cond (Nat.beq k r) (some x) (Cy l r)
def Rh(body:Code)(bE:Nat):Option (List Item):=Cy (gM [.code body]) bE
def yW:List (Nat×List Item)→List Nat
 | []=>[]
 | (k,_) :: l=>k :: yW l
def Jw(body:Code):Bool:=pG (yW (gM [.code body]))
theorem Ri{k:Nat}{x:List Item} : ∀ {l:List (Nat×List Item)},(k,x)∈l→k∈yW l
 | (k',bD) :: l,h=>by
  rcases List.mem_cons.1 h with h | h
  ·injection h with h1 h2;rw [h1];exact List.mem_cons_self
  ·exact List.mem_cons_of_mem _ (Ri h)
theorem Rj{k:Nat}{x:List Item} : ∀ {l:List (Nat×List Item)},pG (yW l)=true→(k,x)∈l→Cy l k=some x
 | (k',bD) :: l,hn,h=>by
  simp only [yW,pG,Bool.and_eq_true,Bool.not_eq_true'] at hn
  unfold Cy
  rcases List.mem_cons.1 h with h | h
  ·injection h with h1 h2
   rw [h1,Nat.beq_refl,h2]
   rfl
  ·have hne:Nat.beq k' k=false:=by
    have h3:=List.any_eq_false.1 hn.1 k (Ri h)
    cases hb:Nat.beq k' k
    ·rfl
    ·rw [Nat.eq_of_beq_eq_true hb] at h3;simp at h3
   rw [hne]
   exact Rj hn.2 h
section
variable{bu : Type}
def Jx(g_:Nat→Option b0)(k:Nat→an→Option bu)(bE:Nat)(s:an):Option bu :=
 match g_ bE with
 | some T=>(norm T s).bind (k bE)
 | none=>none
def Jy(g_:Nat→Option b0)(bE:Nat):Bool:=(g_ bE).isSome
def Jz(g_:Nat→Option b0)(fin:an→Option bu)(k:Nat→an→Option bu):Hand bu :=⟨fun r _ s=>Jx g_ k r s,fin⟩
noncomputable def JA(E:Env)(g_:Nat→Option b0)(body:Code)(fin:an→Option bu)(k:Nat→an→Option bu)(bE:Nat)(s:an):Option bu :=
 match Rh body bE with
 | some todo=>jX E (Jy g_) (Jz g_ fin k) 100000 true todo s
 | none=>none
noncomputable def oG(E:Env)(g_:Nat→Option b0)(body:Code)(fin:an→Option bu):Nat→Nat→an→Option bu
 | 0,_,_=>none
 | m+1,bE,s=>JA E g_ body fin (oG E g_ body fin m) bE s
end
def t_(E:Env):List ResultVar→an→Option (List a6)
 | [],_=>some []
 | .tmp t :: l,s=>(t_ E l s).bind fun vs=>some (s.t t :: vs)
 | .cell a ty :: l,s =>
  match E.ty ty,s.t a with
  | some T,.ptr p=>((l9 s T.size p).bind (jV T)).bind fun v=>(t_ E l s).bind fun vs=>some (v :: vs)
  | _,_=>none
def mE(key:Nat):List bB→List a6→List a6
 | .fn l8 _ :: _,_ :: l=>[.fn key (l.take l8) (l.drop l8)]
 | .val _ _ :: ps,v :: l | .hD _ :: ps,v :: l | .hC _ _ :: ps,v :: l | .ref _ :: ps,v :: l | .mut _ _ _ :: ps,v :: l=>v :: mE key ps l
 | _,_=>[]
def Cz:List bB→Bool
 | []=>true
 | .fn l8 pb :: l=>Nat.beq l.length (l8+pb)
 | .val _ _ :: l | .hD _ :: l | .hC _ _ :: l | .ref _ :: l | .mut _ _ _ :: l=>Cz l
def Rk(key:Nat)(e:Entry)(x:(bB.ins e.ps).D):Option an :=
 (k0 key e.ps x 1099511627776 ⟨fun _=>.aD,fun _=>.none,[]⟩).bind fun q=>some ⟨fun k=>(mE key e.ps q.1).getD k .aD,q.2.1.o,q.1⟩
def pH(E:Env)(fn:Func)(e:Entry)(s:an):Option (cX.outs e.rs (bB.d_ e.ps)).D :=
 (t_ E fn.results.toList s).bind fun vs=>gX e.ps s.g e.rs vs s
noncomputable def wQ(E:Env)(fn:Func)(body:Code)(g_:Nat→Option b0)(key:Nat)(e:Entry)(k:Nat→an→Option (cX.outs e.rs (bB.d_ e.ps)).D)(x:(bB.ins e.ps).D):Option (cX.outs e.rs (bB.d_ e.ps)).D :=
 (Rk key e x).bind fun s=>jX E (Jy g_) (Jz g_ (pH E fn e) k) 100000 false [.code body] s
section
variable{P:Program}{w0:World}{F0 Z0:ah}{n:cC}{s ar:an}{a b9:Act}{w w':World}{ι bd:Nat→bF}{Z Z':ah}{E:Env}{bu : Type}{r : bu}
def abe(w0:World)(F0 Z0:ah)(n:cC)(fin:an→Option bu)(r : bu)(todo:List Item)(a:Act)(w:World):Prop :=
 (todo=[]∨∃k,todo=.code .ret :: k)∧∃s,fin s=some r∧cY w0 F0 Z0 n s a w
theorem Rl{g_:Nat→Option b0}{body:Code}{fin:an→Option bu}(bN:jH P E)(hn:E.n=n)(wP:n.gc=[])(hu:Jw body=true):∀(m:Nat) (fuel:Nat) (first:Bool) (todo:List Item) (s:an) (a:Act) (w:World),
  (∀p,p∈gM todo→p∈gM [.code body])→jX E (Jy g_) (Jz g_ fin (oG E g_ body fin m)) fuel first todo s=some r→cY w0 F0 Z0 n s a w→∀(b:Frame) (cs:List Frame),
  ∃pF b9 w',abe w0 F0 Z0 n fin r pF b9 w'∧Steps P (lone (b.at a todo) cs w) (lone (b.at b9 pF) cs w')
 | m,fuel,first,todo,s,a,w,hc,hk,hs,b,cs=>by
  obtain ⟨t1,s1,a1,c6,h1,h2,h3,h4⟩:=Q1 bN hn fuel first todo s a w hk hs b cs
  rcases h2 with⟨bE,ops,hY,k,rfl,h8,qC⟩ | ⟨lX,hfin⟩
  ·have yX:Jx g_ (oG E g_ body fin m) bE s1=some r:=qC
   unfold Jx at yX
   cases b1:g_ bE with
   | none=>rw [b1] at yX;cases yX
   | some T =>
    rw [b1] at yX
    obtain ⟨s2,g1,g2⟩:=bf yX
    have mj:=abd wP g1 h1
    cases m with
    | zero=>cases g2
    | succ m =>
     unfold oG JA at g2
     have jn:(bE,(.code (.region bE ops hY) :: k:List Item))∈gM [.code body]:=hc _ (h3 _ (by simp [gM,lV]))
     have abf:Rh body bE=some (.code (.region bE ops hY) :: k):=Rj hu jn
     rw [abf] at g2
     simp only at g2
     obtain ⟨dm,b9,w',c9,eI⟩:=Rl bN hn wP hu m 100000 true _ s2 a1 c6 (fun p au=>hc p (h3 p au)) g2 mj b cs
     exact⟨dm,b9,w',c9,h4.trans eI⟩
  ·exact⟨t1,a1,c6,⟨lX,s1,hfin,h1⟩,h4⟩
theorem mF{α : Type} : ∀x:Sem α,x.bind .pure=x
 | .pure a=>rfl
 | .load m a k=>by simp only [Sem.bind];exact congrArg _ (funext fun v=>mF (k v))
 | .store m a v k=>by simp only [Sem.bind];exact congrArg _ (mF k)
 | .new o k=>by simp only [Sem.bind];exact congrArg _ (funext fun v=>mF (k v))
 | .shape r k=>by simp only [Sem.bind];exact congrArg _ (funext fun v=>mF (k v))
 | .freeze a n k=>by simp only [Sem.bind];exact congrArg _ (mF k)
 | .frozen a k=>by simp only [Sem.bind];exact congrArg _ (funext fun v=>mF (k v))
 | .getObj r k=>by simp only [Sem.bind];exact congrArg _ (funext fun v=>mF (k v))
 | .setObj r o k=>by simp only [Sem.bind];exact congrArg _ (mF k)
 | .choose q k=>by simp only [Sem.bind];exact congrArg _ (funext fun v=>mF (k v))
 | .sys c k=>by simp only [Sem.bind];exact congrArg _ (funext fun v=>mF (k v))
 | .program k=>by simp only [Sem.bind];exact congrArg _ (funext fun v=>mF (k v))
 | .mark m k=>by simp only [Sem.bind];exact congrArg _ (mF k)
 | .halt h=>rfl
theorem mG{α β abg : Type}(f : α → Sem β)(g : β → Sem abg):∀x:Sem α,(x.bind f).bind g=x.bind fun a=>(f a).bind g
 | .pure a=>rfl
 | .load m a k=>by simp only [Sem.bind];exact congrArg _ (funext fun v=>mG f g (k v))
 | .store m a v k=>by simp only [Sem.bind];exact congrArg _ (mG f g k)
 | .new o k=>by simp only [Sem.bind];exact congrArg _ (funext fun v=>mG f g (k v))
 | .shape r k=>by simp only [Sem.bind];exact congrArg _ (funext fun v=>mG f g (k v))
 | .freeze a n k=>by simp only [Sem.bind];exact congrArg _ (mG f g k)
 | .frozen a k=>by simp only [Sem.bind];exact congrArg _ (funext fun v=>mG f g (k v))
 | .getObj r k=>by simp only [Sem.bind];exact congrArg _ (funext fun v=>mG f g (k v))
 | .setObj r o k=>by simp only [Sem.bind];exact congrArg _ (mG f g k)
 | .choose q k=>by simp only [Sem.bind];exact congrArg _ (funext fun v=>mG f g (k v))
 | .sys c k=>by simp only [Sem.bind];exact congrArg _ (funext fun v=>mG f g (k v))
 | .program k=>by simp only [Sem.bind];exact congrArg _ (funext fun v=>mG f g (k v))
 | .mark m k=>by simp only [Sem.bind];exact congrArg _ (mG f g k)
 | .halt h=>rfl
instance:LawfulMonad Sem:=LawfulMonad.mk' Sem (fun x=>mF x) (fun _ _=>rfl) (fun x f g=>mG f g x)
theorem Rm{α : Type}{f : α → Sem Value} : ∀ {as:List α} {vs:List Value},vs.length=as.length→(∀i (hi:i<as.length) (c_:i<vs.length),(f as[i]).run P w=.ok vs[i] w)→(as.mapM f).run P w=.ok vs w
 | [],[],_,_=>by rw [List.mapM_nil];exact run_pure _ _
 | [],_ :: _,h,_=>by simp at h
 | _ :: _,[],h,_=>by simp at h
 | x :: as,v :: vs,hl,h=>by
  have h0:=h 0 (by simp) (by simp)
  simp only [List.getElem_cons_zero] at h0
  rw [List.mapM_cons,run_bind,h0]
  simp only [run_bind]
  rw [Rm (as:=as) (vs:=vs) (by simpa using hl) fun i hi c_=>h (i+1) (by simpa using hi) (by simpa using c_)]
  simp only [run_pure]
theorem abh{α : Type}{f : α → Sem Value}{as:Array α}{vs:List Value}(hl:vs.length=as.size)(h:∀i (hi:i<as.toList.length) (c_:i<vs.length),(f as.toList[i]).run P w=.ok vs[i] w) :
  (as.mapM f).run P w=.ok vs.toArray w:=by
 rw [Array.mapM_eq_mapM_toList,map_eq_pure_bind,run_bind,Rm (by simpa using hl) h]
 rfl
theorem JB(b1:gT P E)(h:Inv w0 F0 Z0 n s a w ι Z):∀ {l:List ResultVar} {vs:List a6},t_ E l s=some vs →
  ∃us,us.length=l.length∧aX w Z s ι vs us∧∀i (hi:i<l.length) (c_:i<us.length),((fun | .tmp t=>pure (a.tmps.getD t undef) | .cell b t=>do loadVar t (← asAddr (a.tmps.getD b undef)):ResultVar→Sem Value) l[i]).run P w=.ok us[i] w
 | [],vs,hr=>by
  obtain rfl:=aS hr
  exact⟨[],rfl,by simp only [aX],fun i hi=>by simp at hi⟩
 | .tmp t :: l,vs,hr=>by
  simp only [t_] at hr
  obtain ⟨bI,h1,hr⟩:=bf hr
  obtain rfl:=aS hr
  obtain ⟨us,g1,g2,g3⟩:=JB b1 h h1
  refine⟨_ :: us,by simp [g1],by simp only [aX];exact⟨_,_,rfl,h.tmps t,g2⟩,fun i hi c_=>?_⟩
  cases i with
  | zero=>rfl
  | succ i=>exact g3 i (by simpa using hi) (by simpa using c_)
 | .cell b ty :: l,vs,hr=>by
  simp only [t_] at hr
  cases ht:E.ty ty with
  | none=>rw [ht] at hr;simp at hr
  | some T =>
   rw [ht] at hr
   cases au:s.t b with
   | ptr p =>
    rw [au] at hr
    simp only at hr
    obtain ⟨v,hv,hr⟩:=bf hr
    obtain ⟨bI,h1,hr⟩:=bf hr
    obtain rfl:=aS hr
    obtain ⟨cs,k1,k2⟩:=bf hv
    obtain ⟨us,g1,g2,g3⟩:=JB b1 h h1
    have hx:=h.tmps b
    rw [au] at hx
    simp only [aP] at hx
    obtain ⟨_,A,he,fJ⟩:=hx
    obtain ⟨cO,i0,ws,rfl,hc,ck,hlen⟩:=yk h k1 fJ
    refine⟨dH T ws :: us,by simp [g1],by simp only [aX];exact⟨_,_,rfl,pk k2 hc,g2⟩,fun i hi c_=>?_⟩
    cases i with
    | zero =>
     show(do loadVar ty (← asAddr (a.tmps.getD b undef)):Sem Value).run P w=_
     rw [run_bind,he]
     show(loadVar ty (at_ cO i0)).run P w=_
     exact H5 (b1.ty ty T ht) ck hlen
    | succ i=>exact g3 i (by simpa using hi) (by simpa using c_)
   | _=>rw [au] at hr;simp at hr
theorem abi{fn:Func}{vs:List a6}(b1:gT P E)(h:Inv w0 F0 Z0 n s a w ι Z)(hr:t_ E fn.results.toList s=some vs) :
  ∃us,aX w Z s ι vs us∧(results fn a.tmps).run P w=.ok (ov us) w:=by
 obtain ⟨us,h1,h2,h3⟩:=JB b1 h hr
 refine⟨us,h2,?_⟩
 unfold results
 rw [run_bind,abh (vs:=us) (by simpa using h1) (fun i hi c_=>by
  have:=h3 i hi c_
  revert this
  cases fn.results.toList[i] <;> exact fun h=>h)]
 simp only
 rw [run_pure]
 congr 1
 unfold ov
 split
 ·rename_i hs
  match us,hs with
  | [v],_=>rfl
  | [],hs=>simp at hs
  | _ :: _ :: _,hs=>simp at hs
 ·rename_i hs
  match us,hs with
  | [v],hs=>simp at hs
  | [],_=>rfl
  | _ :: _ :: _,_=>rfl
theorem abj(us:List Value)(m k:Nat):((us.toArray++Array.replicate m undef).getD k undef)=us.getD k undef:=by
 rw [Array.getD_eq_getD_getElem?,List.getD_eq_getElem?_getD]
 by_cases hk:k<us.length
 ·rw [Array.getElem?_append_left (by simpa using hk)];simp
 ·rw [Array.getElem?_append_right (by simpa using Nat.le_of_not_lt hk)]
  rw [List.getElem?_eq_none (by omega)]
  simp only [List.size_toArray,Option.getD_none]
  by_cases eo:k-us.length<m
  ·rw [Array.getElem?_eq_getElem (by simpa using eo)];simp
  ·rw [Array.getElem?_eq_none (by simpa using Nat.le_of_not_lt eo)];rfl
theorem aX.getD:∀ {xs:List a6} {us:List Value},aX w Z s ι xs us→∀k,aP w Z s ι (xs.getD k .aD) (us.getD k undef)
 | [],us,h,k=>by simp only [List.getD_nil,aP]
 | x :: xs,us,h,k=>by
  simp only [aX] at h
  obtain ⟨u,aT,rfl,h1,h2⟩:=h
  cases k with
  | zero=>exact h1
  | succ k=>exact aX.getD h2 k
theorem aX.len:∀ {xs:List a6} {us:List Value},aX w Z s ι xs us→us.length=xs.length
 | [],us,h=>by simp only [aX] at h;rw [h];rfl
 | x :: xs,us,h=>by
  simp only [aX] at h
  obtain ⟨u,aT,rfl,h1,h2⟩:=h
  simp [aX.len h2]
theorem CA:∀ {t:ad} {m:a'} {x:t.D} {vs us:List Value} {F:ah},t.al w Z m x vs F→f' (dH t vs :: us)=f' us
 | .int k,_,_,_,_,_,h=>by simp only [ad.al] at h;subst h;rfl
 | .bool,_,_,_,_,_,h=>by simp only [ad.al] at h;subst h;rfl
 | .str,_,_,_,_,_,h=>by simp only [ad.al] at h;obtain ⟨b,rfl,_⟩:=h;rfl
 | .raw,_,_,_,_,_,h=>by simp only [ad.al] at h;obtain ⟨rfl,_,_,_,rfl⟩:=h;rfl
 | .sl t,.O e,_,_,_,_,h=>by simp only [ad.al] at h;obtain ⟨A,c,rfl,_⟩:=h;rfl
 | .sl t,.R,_,_,_,_,h=>by simp only [ad.al] at h;obtain ⟨A,c,rfl,_⟩:=h;rfl
 | .sl t,.S _,_,_,_,_,h=>by simp only [ad.al] at h;obtain ⟨A,c,rfl,_⟩:=h;rfl
 | .st aj,_,_,_,_,_,_=>rfl
theorem r1{key:Nat} : ∀(ps:List bB) (x:(bB.ins ps).D) (eK:List Value) (F:ah),gA w Z key ps x eK F→eK.length=ps.length
 | [],x,eK,F,h=>by rw [show eK=[] from h];rfl
 | .fn _ _ :: ps,x,eK,F,h=>by obtain ⟨a,b,aT,rfl,_,h2⟩:=h;simp [r1 ps x aT F h2]
 | .val _ _ :: ps,x,eK,F,h=>by obtain ⟨v,aT,G,H,rfl,_,h2,_⟩:=h;simp [r1 ps _ _ _ h2]
 | .hD _ :: ps,x,eK,F,h=>by obtain ⟨v,aT,G,H,rfl,_,h2,_⟩:=h;simp [r1 ps _ _ _ h2]
 | .hC _ _ :: ps,x,eK,F,h=>by obtain ⟨v,aT,G,H,rfl,_,h2,_⟩:=h;simp [r1 ps _ _ _ h2]
 | .ref _ :: ps,x,eK,F,h=>by obtain ⟨b,o,v,aT,rfl,_,_,_,h2⟩:=h;simp [r1 ps _ _ _ h2]
 | .mut _ _ _ :: ps,x,eK,F,h=>by obtain ⟨b,o,v,aT,G,H,rfl,_,_,_,h2,_⟩:=h;simp [r1 ps _ _ _ h2]
theorem aX.split:∀ {q:List a6} {l k:List Value},aX w Z s ι q (l++k)→aX w Z s ι (q.take l.length) l∧aX w Z s ι (q.drop l.length) k
 | q,[],k,h=>by simp only [List.length_nil,List.take_zero,List.drop_zero,aX];exact⟨trivial,h⟩
 | [],u :: l,k,h=>by simp [aX] at h
 | v :: q,u :: l,k,h=>by
  simp only [List.cons_append,aX] at h
  obtain ⟨h_,us2,he,k1,k2⟩:=h
  injection he with e3 fr
  subst e3 fr
  obtain ⟨h1,h2⟩:=aX.split (q:=q) (l:=l) (k:=k) k2
  refine⟨?_,?_⟩
  ·simp only [List.length_cons,List.take_succ_cons,aX];exact⟨_,l,rfl,k1,h1⟩
  ·simpa only [List.length_cons,List.drop_succ_cons] using h2
theorem wR{key:Nat} : ∀(ps:List bB) (x:(bB.ins ps).D) (eK us:List Value) (F:ah) (q:List a6),Cz ps=true→gA w Z key ps x eK F→eK=us++f' us→aX w Z s ι q eK→aX w Z s ι (mE key ps q) us
 | [],x,eK,us,F,q,_,hA,gK,hq=>by
  have hA:eK=[]:=hA
  subst hA
  obtain ⟨rfl,_⟩:=List.append_eq_nil_iff.1 gK.symm
  cases q <;> simp only [mE,aX]
 | .fn l8 pb :: ps,x,eK,us,F,q,cd,hA,gK,hq=>by
  obtain ⟨a,b,aT,rfl,⟨ha,hb⟩,h2⟩:=hA
  have hl:=r1 _ _ _ _ h2
  have CB:=Nat.eq_of_beq_eq_true cd
  cases us with
  | nil=>cases gK
  | cons u us =>
   injection gK with e1 e2
   subst e1
   have hz:us=[]:=by
    have:=congrArg List.length e2
    simp [f'] at this
    exact List.length_eq_zero_iff.1 (by omega)
   subst hz
   simp only [f',List.nil_append,List.append_nil] at e2
   subst e2
   cases q with
   | nil=>simp [aX] at hq
   | cons v q =>
    simp only [aX] at hq
    obtain ⟨h_,us2,he,_,k2⟩:=hq
    injection he with e3 fr
    subst e3 fr
    obtain ⟨k3,bb⟩:=aX.split (l:=a.toList) (k:=b.toList) k2
    simp only [mE,aX,aP]
    rw [Array.length_toList,ha] at k3 bb
    exact⟨_,[],rfl,⟨a.toList,b.toList,by simp,k3,bb⟩,rfl⟩
 | .val t m :: ps,x,eK,us,F,q,cd,hA,gK,hq=>by
  obtain ⟨vs,aT,G,H,rfl,h1,h2,_⟩:=hA
  cases us with
  | nil=>cases gK
  | cons u us =>
   injection gK with e1 e2
   subst e1
   rw [CA h1] at e2
   cases q with
   | nil=>simp [aX] at hq
   | cons v q =>
    simp only [aX] at hq
    obtain ⟨h_,us2,he,k1,k2⟩:=hq
    injection he with e3 fr
    subst e3 fr
    simp only [mE,aX]
    exact⟨_,us,rfl,k1,wR ps x.2 _ us _ q cd h2 e2 k2⟩
 | .hD t :: ps,x,eK,us,F,q,cd,hA,gK,hq=>by
  obtain ⟨vs,aT,G,H,rfl,h1,h2,_⟩:=hA
  cases us with
  | nil=>cases gK
  | cons u us =>
   injection gK with e1 e2
   subst e1
   rw [CA h1] at e2
   cases q with
   | nil=>simp [aX] at hq
   | cons v q =>
    simp only [aX] at hq
    obtain ⟨h_,us2,he,k1,k2⟩:=hq
    injection he with e3 fr
    subst e3 fr
    simp only [mE,aX]
    exact⟨_,us,rfl,k1,wR ps x.2 _ us _ q cd h2 e2 k2⟩
 | .hC t m :: ps,x,eK,us,F,q,cd,hA,gK,hq=>by
  obtain ⟨vs,aT,G,H,rfl,h1,h2,_⟩:=hA
  cases us with
  | nil=>cases gK
  | cons u us =>
   injection gK with e1 e2
   subst e1
   rw [CA h1] at e2
   cases q with
   | nil=>simp [aX] at hq
   | cons v q =>
    simp only [aX] at hq
    obtain ⟨h_,us2,he,k1,k2⟩:=hq
    injection he with e3 fr
    subst e3 fr
    simp only [mE,aX]
    exact⟨_,us,rfl,k1,wR ps x.2 _ us _ q cd h2 e2 k2⟩
 | .ref t :: ps,x,eK,us,F,q,cd,hA,gK,hq=>by
  obtain ⟨b,o,vs,aT,rfl,_,_,_,h2⟩:=hA
  cases us with
  | nil=>cases gK
  | cons u us =>
   injection gK with e1 e2
   subst e1
   have e2:aT=us++f' us:=e2
   cases q with
   | nil=>simp [aX] at hq
   | cons v q =>
    simp only [aX] at hq
    obtain ⟨h_,us2,he,k1,k2⟩:=hq
    injection he with e3 fr
    subst e3 fr
    simp only [mE,aX]
    exact⟨_,us,rfl,k1,wR ps x.2 _ us _ q cd h2 e2 k2⟩
 | .mut t m m' :: ps,x,eK,us,F,q,cd,hA,gK,hq=>by
  obtain ⟨b,o,vs,aT,G,H,rfl,_,_,_,h2,_⟩:=hA
  cases us with
  | nil=>cases gK
  | cons u us =>
   injection gK with e1 e2
   subst e1
   have e2:aT=us++f' us:=e2
   cases q with
   | nil=>simp [aX] at hq
   | cons v q =>
    simp only [aX] at hq
    obtain ⟨h_,us2,he,k1,k2⟩:=hq
    injection he with e3 fr
    subst e3 fr
    simp only [mE,aX]
    exact⟨_,us,rfl,k1,wR ps x.2 _ us _ q cd h2 e2 k2⟩
theorem Rn{f key:Nat}{fn:Func}{body:Code}{e:Entry}{g_:Nat→Option b0}(bN:jH P E)(hf:P.funcs[f]?=some fn)(hb:fn.body=some body)(iZ:(fn.name == "runtime.NumGoroutine")=false)
  (hn:Nat.beq E.n fn.ntmps=true) (CC:Cz e.ps=true) (hlen:Nat.ble e.ps.length fn.ntmps=true) (hu:Jw body=true)
  (hF:∀x r,e.f x=some r→∃m,wQ E fn body g_ key e (oG E g_ body (pH E fn e) m) x=some r):Sound P f key e:=by
 refine⟨⟨fn,hf,by rw [hb];rfl,iZ⟩,fun w Z F x us r hZ IW hap hA hx=>?_⟩
 obtain ⟨m,hm⟩:=hF x r hx
 unfold wQ at hm
 obtain ⟨st,hst,hm⟩:=bf hm
 unfold Rk at hst
 obtain ⟨q,hq,hst⟩:=bf hst
 obtain rfl:=aS hst
 have qn:=r1 _ _ _ _ hA
 rw [List.length_append] at qn
 have hle:=Nat.le_of_ble_eq_true hlen
 let a0:Act := { tmps:=us.toArray++Array.replicate (fn.ntmps-us.toArray.size) undef,defers:=[] }
 have hsz:a0.tmps.size=fn.ntmps:=by simp [a0];omega
 have abk:Inv w F Z ⟨fn.ntmps,[],[]⟩ ⟨fun _=>.aD,fun _=>.none,[]⟩ a0 w (fun _=>⟨none,0,ah.none⟩) Z:=Inv.start hZ hsz rfl
 obtain ⟨dy,i1,held,cM,nA⟩:=tV e.ps x (us++f' us) _ _ _ F q hq abk hA ⟨fun b o h=>⟨.inl h,IW b o h⟩,fun _ h=>h.elim,hap⟩
 have hinv:Inv w F Z ⟨fn.ntmps,us++f' us,[]⟩ ⟨fun k=>(mE key e.ps q.1).getD k .aD,q.2.1.o,q.1⟩ a0 w dy Z:=by
  have hm:eH w Z q.2.1 dy w Z ⟨fun k=>(mE key e.ps q.1).getD k .aD,q.2.1.o,q.1⟩ dy:=HL rfl
  exact⟨i1.ext,i1.dE,i1.rB,i1.iR,fun id=>h5.move hm (id:=id) (fun _=>⟨rfl,rfl⟩) rfl (i1.fU id),i1.own,i1.apart,i1.c4,
   fun k=>by
    show aP w Z _ dy ((mE key e.ps q.1).getD k .aD) ((us.toArray++Array.replicate (fn.ntmps-us.toArray.size) undef).getD k undef)
    rw [abj]
    exact(aX.move hm (wR e.ps x _ us F q.1 CC hA rfl cM)).getD k,hsz,aX.move hm cM,fun e he=>by simp at he,rfl⟩
 intro cs
 let cO:Frame := { (default:Frame) with fn:=f,kind:=.normal }
 have abl:Frame.enter P f us.toArray .normal=cO.at a0 [.code body]:=by
  simp [Frame.enter,Frame.at,hf,hb,cO,a0]
 obtain ⟨dm,b9,w',⟨lX,ar,hfin,bd,Z',c_⟩,Ro⟩:=Rl (n:=⟨fn.ntmps,us++f' us,[]⟩) bN (Nat.eq_of_beq_eq_true hn) rfl hu m 100000 false [.code body] _ a0 w (fun _ h=>h) hm ⟨dy,Z,hinv⟩ cO cs
 unfold pH at hfin
 obtain ⟨vs,hvs,hfin⟩:=bf hfin
 obtain ⟨du,hr1,fX⟩:=abi bN.ty c_ hvs
 obtain ⟨s2,dL,bM,mw,eU,Ca,I6,Qu⟩:=wN e.rs vs du ar Z' r hfin c_ c_.ghost hr1
 have CD:Ends w Z F e us r (ov du) w':=by
  refine⟨du,bM,dL,rfl,c_.ext,mw.rB,fun b o hz=>?_,fun b o hf=>?_,Ca.c4,I6⟩
  ·rcases mw.dE b o hz with h1 | h1 | h1
   ·exact .inl h1
   ·exact .inr ⟨.inl h1,mw.iR b o hz⟩
   ·exact .inr ⟨.inr h1,mw.iR b o hz⟩
  ·exact Ca.own b o hf
 rw [abl]
 rcases lX with rfl | ⟨k,rfl⟩
 ·exact⟨.returned (ov du),w',_,⟨_,rfl,CD⟩,Steps.trans Ro (.one step_end),rfl,rfl,c_.defers,rfl,fn,hf,fX⟩
 ·exact⟨.returned (ov du),w',_,⟨_,rfl,CD⟩,Steps.trans Ro (.one step_ret),rfl,rfl,c_.defers,rfl,fn,hf,fX⟩
end
end Go.LM
namespace Go.LM
mutual
def ad.r2(P:Program):ad→TypeId→Bool
 | .int _,_=>true
 | .bool,_=>true
 | .str,_=>true
 | .sl _,_=>false
 | .raw,_=>false
 | .st aj,id => !P.stoodInHeld id&&match P.underlying id with | some (.struct cn)=>aj.CE P cn.toList | _=>false
def ay.CE(P:Program):ay→List Field→Bool
 | .nil,_=>true
 | .cons t aj,cn=>match cn with
  | f :: lI=>decide (f.name ≠ "_")&&t.r2 P f.type&&aj.CE P lI
  | []=>false
end
mutual
def ad.deep:ad→Nat
 | .st aj=>aj.deep+1
 | _=>1
def ay.deep:ay→Nat
 | .nil=>0
 | .cons t aj=>t.deep+aj.deep
end
section
variable{P:Program}{w:World}{Z:ah}{s:an}{ι : Nat→bF}
theorem abm{k:IntKind}{cs ds:List a8}{r:Bool×List a8×List a8}(h:(ad.int k).cmp cs ds=some r):∃x a y b,cs=.int k x :: a∧ds=.int k y :: b∧r=(x==y,a,b):=by
 cases cs with
 | nil=>simp [ad.cmp] at h
 | cons c a=>cases ds with
  | nil=>cases c <;> simp [ad.cmp] at h
  | cons d b =>
   cases c <;> cases d <;> simp only [ad.cmp] at h <;> first | (cases h;done) | skip
   rename_i k1 x k2 y
   cases hk:(Nat.beq (dt k1) (dt k)&&Nat.beq (dt k2) (dt k))
   ·rw [hk] at h;cases h
   rw [hk] at h
   simp only [Bool.and_eq_true] at hk
   obtain rfl:=tg (Nat.eq_of_beq_eq_true hk.1)
   obtain rfl:=tg (Nat.eq_of_beq_eq_true hk.2)
   exact⟨x,a,y,b,rfl,rfl,(aS h).symm⟩
theorem abn{cs ds:List a8}{r:Bool×List a8×List a8}(h:ad.bool.cmp cs ds=some r):∃x a y b,cs=.bool x :: a∧ds=.bool y :: b∧r=(x==y,a,b):=by
 cases cs with
 | nil=>simp [ad.cmp] at h
 | cons c a=>cases ds with
  | nil=>cases c <;> simp [ad.cmp] at h
  | cons d b =>
   cases c <;> try (simp [ad.cmp] at h;done)
   cases d <;> try (simp [ad.cmp] at h;done)
   simp only [ad.cmp] at h
   exact⟨_,a,_,b,rfl,rfl,(aS h).symm⟩
theorem abo{cs ds:List a8}{r:Bool×List a8×List a8}(h:ad.str.cmp cs ds=some r):∃x a y b,cs=.str x :: a∧ds=.str y :: b∧r=(bs x y,a,b):=by
 cases cs with
 | nil=>simp [ad.cmp] at h
 | cons c a=>cases ds with
  | nil=>cases c <;> simp [ad.cmp] at h
  | cons d b =>
   cases c <;> try (simp [ad.cmp] at h;done)
   cases d <;> try (simp [ad.cmp] at h;done)
   simp only [ad.cmp] at h
   exact⟨_,a,_,b,rfl,rfl,(aS h).symm⟩
theorem JC{c c':a8}{a b:List a8}{us vs:List Value}(h1:bK w Z s ι (c :: a) us)(h2:bK w Z s ι (c' :: b) vs) :
  ∃u us2 v vs2,us=u :: us2∧vs=v :: vs2∧cj w Z s ι c u∧cj w Z s ι c' v∧bK w Z s ι a us2∧bK w Z s ι b vs2:=by
 cases us with
 | nil=>exact h1.elim
 | cons u us=>cases vs with
  | nil=>exact h2.elim
  | cons v vs=>exact⟨u,us,v,vs,rfl,rfl,h1.1,h2.1,h1.2,h2.2⟩
mutual
theorem ad.yY:∀(t:ad) (id:TypeId) (d:Nat) {cs ds:List a8} {r:Bool×List a8×List a8} {us vs:List Value},t.ok P id→t.r2 P id=true→t.deep≤d→t.cmp cs ds=some r →
  bK w Z s ι cs us→bK w Z s ι ds vs→∃us1 us2 vs1 vs2,us=us1++us2∧vs=vs1++vs2∧us1.length=t.size∧vs1.length=t.size∧bK w Z s ι r.2.1 us2∧bK w Z s ι r.2.2 vs2 ∧
   (Op.equalIn d id (dH t us1) (dH t vs1)).run P w=.ok r.1 w
 | .int k,id,0,cs,ds,r,us,vs,ho,hc,ag,h,h1,h2=>by simp [ad.deep] at ag
 | .int k,id,d+1,cs,ds,r,us,vs,ho,hc,ag,h,h1,h2=>by
  simp only [ad.ok] at ho
  obtain ⟨x,a,y,b,rfl,rfl,rfl⟩:=abm h
  obtain ⟨u,us2,v,vs2,rfl,rfl,e1,e2,g1,g2⟩:=JC h1 h2
  simp only [cj] at e1 e2
  subst e1 e2
  exact⟨[_],us2,[_],vs2,rfl,rfl,rfl,rfl,g1,g2,run_equalIn_int w d id _ _ x y ho.1⟩
 | .bool,id,0,cs,ds,r,us,vs,ho,hc,ag,h,h1,h2=>by simp [ad.deep] at ag
 | .bool,id,d+1,cs,ds,r,us,vs,ho,hc,ag,h,h1,h2=>by
  simp only [ad.ok] at ho
  obtain ⟨x,a,y,b,rfl,rfl,rfl⟩:=abn h
  obtain ⟨u,us2,v,vs2,rfl,rfl,e1,e2,g1,g2⟩:=JC h1 h2
  simp only [cj] at e1 e2
  subst e1 e2
  exact⟨[_],us2,[_],vs2,rfl,rfl,rfl,rfl,g1,g2,run_equalIn_bool w d id x y ho.1⟩
 | .str,id,0,cs,ds,r,us,vs,ho,hc,ag,h,h1,h2=>by simp [ad.deep] at ag
 | .str,id,d+1,cs,ds,r,us,vs,ho,hc,ag,h,h1,h2=>by
  simp only [ad.ok] at ho
  obtain ⟨x,a,y,b,rfl,rfl,rfl⟩:=abo h
  obtain ⟨u,us2,v,vs2,rfl,rfl,e1,e2,g1,g2⟩:=JC h1 h2
  obtain ⟨wa,rfl,rfl⟩:=e1
  obtain ⟨wb,rfl,rfl⟩:=e2
  refine⟨[_],us2,[_],vs2,rfl,rfl,rfl,rfl,g1,g2,?_⟩
  rw [← Pr]
  exact run_equalIn_string w d id wa wb ho.1
 | .raw,id,d,cs,ds,r,us,vs,ho,hc,ag,h,h1,h2=>by simp [ad.r2] at hc
 | .sl t,id,d,cs,ds,r,us,vs,ho,hc,ag,h,h1,h2=>by simp [ad.r2] at hc
 | .st aj,id,0,cs,ds,r,us,vs,ho,hc,ag,h,h1,h2=>by simp [ad.deep] at ag
 | .st aj,id,d+1,cs,ds,r,us,vs,ho,hc,ag,h,h1,h2=>by
  simp only [ad.ok] at ho
  obtain ⟨_,cn,hu,JD⟩:=ho
  simp only [ad.r2,Bool.and_eq_true,Bool.not_eq_true',hu] at hc
  simp only [ad.deep] at ag
  simp only [ad.cmp] at h
  obtain ⟨us1,us2,vs1,vs2,e1,e2,dU,eJ,g1,g2,g3⟩:=ay.yY aj cn.toList 0 d [] [] JD hc.2 (by omega) h h1 h2 rfl rfl
  refine⟨us1,us2,vs1,vs2,e1,e2,dU,eJ,g1,g2,?_⟩
  have kV:P.fieldsOf id=cn:=by simp [Program.fieldsOf,hu]
  show(Op.equalIn (d+1) id (.agg us1.toArray) (.agg vs1.toArray)).run P w=_
  rw [run_equalIn_struct w d id us1.toArray vs1.toArray (by rw [kV];exact hu) hc.1,kV]
  have:=g3 [] []
  simpa using this
theorem ay.yY:∀(aj:ay) (cn:List Field) (off d:Nat) {cs ds:List a8} {r:Bool×List a8×List a8} {us vs:List Value} (pre t':List Value),aj.okF P cn off→aj.CE P cn=true→aj.deep≤d→aj.cmp cs ds=some r →
  bK w Z s ι cs us→bK w Z s ι ds vs→pre.length=off→t'.length=off→∃us1 us2 vs1 vs2,us=us1++us2∧vs=vs1++vs2∧us1.length=aj.size∧vs1.length=aj.size∧bK w Z s ι r.2.1 us2∧bK w Z s ι r.2.2 vs2 ∧
   ∀dw yZ:List Value,(Op.eqFields d (pre++us1++dw).toArray (t'++vs1++yZ).toArray cn).run P w=.ok r.1 w
 | .nil,cn,off,d,cs,ds,r,us,vs,pre,t',ho,hc,ag,h,h1,h2,au,kt=>by
  simp only [ay.okF] at ho
  subst ho
  obtain rfl:=aS h
  exact⟨[],us,[],vs,rfl,rfl,rfl,rfl,h1,h2,fun _ _=>by simp only [Op.eqFields];exact run_pure _ _⟩
 | .cons t aj,cn,off,d,cs,ds,r,us,vs,pre,t',ho,hc,ag,h,h1,h2,au,kt=>by
  simp only [ay.okF] at ho
  obtain ⟨f,lI,rfl,fA,my,j1⟩:=ho
  simp only [ay.CE,Bool.and_eq_true,decide_eq_true_eq] at hc
  simp only [ay.deep] at ag
  simp only [ay.cmp] at h
  obtain ⟨bx,k1,h⟩:=bf h
  obtain ⟨ch,k2,h⟩:=bf h
  obtain rfl:=aS h
  obtain ⟨a1,a2,ji,rG,rfl,rfl,dU,eJ,g1,g2,g3⟩:=ad.yY t f.type d my hc.1.2 (by omega) k1 h1 h2
  obtain ⟨a3,a4,rM,BB,rfl,rfl,oo,pj,g4,g5,g6⟩:=ay.yY aj lI (off+t.size) d (pre++a1) (t'++ji) j1 hc.2 (by omega) k2 g1 g2 (by simp;omega) (by simp;omega)
  refine⟨a1++a3,a4,ji++rM,BB,by simp,by simp,by simp [ay.size];omega,by simp [ay.size];omega,g4,g5,fun dw yZ=>?_⟩
  have en:=H' (P:=P) (w:=w) my (cs:=pre++(a1++a3)++dw) (k:=off) (by simp;omega)
  have fo:=H' (P:=P) (w:=w) my (cs:=t'++(ji++rM)++yZ) (k:=off) (by simp;omega)
  have c9:((pre++(a1++a3)++dw).drop off).take t.size=a1:=by
   rw [← au,← dU];simp
  have eI:((t'++(ji++rM)++yZ).drop off).take t.size=ji:=by
   rw [← kt,← eJ];simp
  rw [c9] at en
  rw [eI] at fo
  simp only [Op.eqFields]
  rw [if_pos hc.1.1,run_bind,fA,en]
  simp only
  rw [run_bind,fo]
  simp only
  rw [run_bind,g3]
  simp only
  cases hr:bx.1
  ·simp only [Bool.not_false,if_true,Bool.false_and];exact run_pure _ _
  ·simp only [Bool.not_true,Bool.false_eq_true,if_false,Bool.true_and]
   have:=g6 dw yZ
   simpa using this
end
def tc(P:Program):List (Nat×ad)→List Nat→Bool
 | _,[]=>true
 | tab,k :: l=>(match P.underlying k with | some (.struct _)=>true | _=>false) && !P.eqGuardType P.depth k&&(tab.all fun x => !Nat.beq x.1 k||x.2.r2 P k&&Nat.ble x.2.deep 10000)&&tc P tab l
theorem Rp{tab:List (Nat×ad)}{k:Nat} : ∀ {l:List Nat},tc P tab l=true→k∈l→(∃cn,P.underlying k=some (.struct cn))∧P.eqGuardType P.depth k=false∧∀T,(k,T)∈tab→T.r2 P k=true∧T.deep≤10000
 | x :: l,h,hm=>by
  simp only [tc,Bool.and_eq_true,Bool.not_eq_true'] at h
  rcases List.mem_cons.1 hm with rfl | hm
  ·refine⟨?_,h.1.1.2,fun T b1=>?_⟩
   ·have h1:=h.1.1.1
    split at h1
    ·rename_i cn hk;exact⟨cn,hk⟩
    ·cases h1
   ·have h2:=List.all_eq_true.1 h.1.2 _ b1
    rw [Nat.beq_refl] at h2
    simp only [Bool.not_true,Bool.false_or,Bool.and_eq_true] at h2
    exact⟨h2.1,Nat.le_of_ble_eq_true h2.2⟩
  ·exact Rp h.2 hm
theorem abp{T:ad}{k:Nat}(ho:T.ok P k)(hu:∃cn,P.underlying k=some (.struct cn))(aB:P.eqGuardType P.depth k=false)(hc:T.r2 P k=true)(ag:T.deep≤10000)(op:BinOp)(xo yo:Operand)(w:World)(Z:ah)(s:an)(ι : Nat→bF)
  (cs ds:List a8) (us vs:List Value) (q:Bool) (h1:bK w Z s ι cs us) (h2:bK w Z s ι ds vs) (h:T.cmp cs ds=some (q,[],[])) :
  (eqGuard op k xo yo (.agg us.toArray) (.agg vs.toArray)).run P w=.ok () w∧(op=.eql→(binOp op k (.agg us.toArray) (.agg vs.toArray)).run P w=.ok (.bool q) w) ∧
   (op=.neq→(binOp op k (.agg us.toArray) (.agg vs.toArray)).run P w=.ok (.bool (!q)) w):=by
 obtain ⟨us1,us2,vs1,vs2,rfl,rfl,dU,eJ,g1,g2,g3⟩:=ad.yY T k 10000 ho hc ag h h1 h2
 have fp:us2=[]:=by cases us2 with | nil=>rfl | cons=>exact g1.elim
 have jY:vs2=[]:=by cases vs2 with | nil=>rfl | cons=>exact g2.elim
 subst fp jY
 have b1:∃aj,T=.st aj:=by
  obtain ⟨cn,hu⟩:=hu
  cases T with
  | st aj=>exact⟨aj,rfl⟩
  | int=>simp only [ad.ok] at ho;rw [hu] at ho;cases ho.1
  | bool=>simp only [ad.ok] at ho;rw [hu] at ho;cases ho.1
  | str=>simp only [ad.ok] at ho;rw [hu] at ho;cases ho.1
  | sl t=>simp only [ad.ok] at ho;obtain ⟨_,e,he,_⟩:=ho;rw [hu] at he;cases he
  | raw=>simp only [ad.ok] at ho;obtain ⟨_,e,he⟩:=ho;rw [hu] at he;cases he
 obtain ⟨aj,rfl⟩:=b1
 simp only [List.append_nil]
 have heq:(Op.equal k (.agg us1.toArray) (.agg vs1.toArray)).run P w=.ok q w:=g3
 refine⟨?_,?_,?_⟩
 ·unfold eqGuard
  cases op <;> try rfl
  all_goals
   have abq:∀w:World,(program:Sem Program).run P w=.ok P w:=fun _=>rfl
   simp only [Bool.not_true,Bool.false_eq_true,if_false,run_bind,abq,aB,Bool.not_false,if_true]
   rfl
 ·rintro rfl
  show(do pure (.bool (← Op.equal k _ _)):Sem Value).run P w=_
  rw [run_bind,heq];rfl
 ·rintro rfl
  show(do pure (.bool (!(← Op.equal k _ _))):Sem Value).run P w=_
  rw [run_bind,heq];rfl
end
end Go.LM
namespace Go.LM
def zeroV:Value→Value→Bool
 | .int k x,.int k' y=>Nat.beq (dt k) (dt k')&&decide (x=y)
 | .bool a,.bool b=>a==b
 | .string a,.string b=>decide (a.data.toList=b.data.toList)
 | .slice none 0 0,.slice none 0 0=>true
 | _,_=>false
theorem Rq{u v:Value}(h:zeroV u v=true):u=v:=by
 unfold zeroV at h
 split at h
 ·simp only [Bool.and_eq_true,decide_eq_true_eq] at h
  rw [tg (Nat.eq_of_beq_eq_true h.1),h.2]
 ·rw [eq_of_beq h]
 ·rename_i a b
  have h:=of_decide_eq_true h
  obtain ⟨⟨a⟩⟩:=a
  obtain ⟨⟨b⟩⟩:=b
  simp only at h
  rw [h]
 ·rfl
 ·cases h
def CF:List Value→List Value→Bool
 | [],[]=>true
 | u :: us,v :: vs=>cond (zeroV u v) (CF us vs) false
 | _,_=>false
theorem Rr:∀ {us vs:List Value},CF us vs=true→us=vs
 | [],[],_=>rfl
 | u :: us,v :: vs,h=>by
  unfold CF at h
  cases h1:zeroV u v
  ·rw [h1] at h;cases h
  ·rw [h1] at h;rw [Rq h1,Rr h]
 | [],_ :: _,h=>by cases h
 | _ :: _,[],h=>by cases h
def JE(t:ad)(v:Value):Bool :=
 match t,v with
 | .st aj,.agg cs=>CF cs.toList aj.cN
 | .st _,_=>false
 | .sl _,v=>zeroV v (.slice none 0 0)
 | t,v=>zeroV v (t.cN.headD undef)
theorem abr{t:ad}{v:Value}(h:JE t v=true):v=dH t t.cN:=by
 cases t with
 | st aj =>
  cases v <;> simp only [JE] at h <;> try (cases h;done)
  rename_i cs
  show Value.agg cs=.agg aj.cN.toArray
  rw [← Rr h]
 | _=>exact Rq h
def r3(P:Program)(id:TypeId)(t:ad):Bool :=
 match P.info? id with
 | some i=>Nat.beq i.size t.size&&(match i.zero with | some v=>JE t v | none=>false)&&Nat.ble i.bytes 2048
 | none=>false
theorem wS{P:Program}{id:TypeId}{t:ad}(h:r3 P id t=true):lH P id t:=by
 unfold r3 at h
 cases hi:P.info? id with
 | none=>rw [hi] at h;cases h
 | some i =>
  rw [hi] at h
  simp only [Bool.and_eq_true] at h
  refine⟨i,hi,Nat.eq_of_beq_eq_true h.1.1,?_,Nat.le_of_ble_eq_true h.2⟩
  have h2:=h.1.2
  cases hz:i.zero with
  | none=>rw [hz] at h2;cases h2
  | some v=>rw [hz] at h2;rw [abr h2]
mutual
def ad.okB(P:Program):ad→TypeId→Bool
 | .int k,id=>(match P.underlying id with | some (.int k')=>Nat.beq (dt k') (dt k) | _=>false)&&r3 P id (.int k)
 | .bool,id=>(match P.underlying id with | some .bool=>true | _=>false)&&r3 P id .bool
 | .str,id=>(match P.underlying id with | some .string=>true | _=>false)&&r3 P id .str
 | .raw,id=>r3 P id .raw&&match P.underlying id with | some (.slice _)=>true | _=>false
 | .sl t,id=>r3 P id (.sl t)&&match P.underlying id with | some (.slice e)=>t.okB P e | _=>false
 | .st aj,id=>r3 P id (.st aj)&&match P.underlying id with | some (.struct cn)=>aj.wT P cn.toList 0 | _=>false
def ay.wT(P:Program):ay→List Field→Nat→Bool
 | .nil,cn,_=>cn.isEmpty
 | .cons t aj,cn,off=>match cn with
  | f :: lI=>Nat.beq f.offset off&&t.okB P f.type&&aj.wT P lI (off+t.size)
  | []=>false
end
mutual
theorem ad.CG{P:Program} : ∀(t:ad) (id:TypeId),t.okB P id=true→t.ok P id
 | .int k,id,h=>by
  simp only [ad.okB,Bool.and_eq_true] at h
  refine⟨?_,wS h.2⟩
  have h1:=h.1
  split at h1
  ·rename_i k' hk;rw [hk,tg (Nat.eq_of_beq_eq_true h1)]
  ·cases h1
 | .bool,id,h=>by
  simp only [ad.okB,Bool.and_eq_true] at h
  refine⟨?_,wS h.2⟩
  have h1:=h.1
  split at h1
  ·rename_i hk;exact hk
  ·cases h1
 | .str,id,h=>by
  simp only [ad.okB,Bool.and_eq_true] at h
  refine⟨?_,wS h.2⟩
  have h1:=h.1
  split at h1
  ·rename_i hk;exact hk
  ·cases h1
 | .raw,id,h=>by
  simp only [ad.okB,Bool.and_eq_true] at h
  refine⟨wS h.1,?_⟩
  have h1:=h.2
  split at h1
  ·rename_i e hk;exact⟨e,hk⟩
  ·cases h1
 | .sl t,id,h=>by
  simp only [ad.okB,Bool.and_eq_true] at h
  refine⟨wS h.1,?_⟩
  have h1:=h.2
  split at h1
  ·rename_i e hk;exact⟨e,hk,ad.CG t e h1⟩
  ·cases h1
 | .st aj,id,h=>by
  simp only [ad.okB,Bool.and_eq_true] at h
  refine⟨wS h.1,?_⟩
  have h1:=h.2
  split at h1
  ·rename_i cn hk;exact⟨cn,hk,ay.Rs aj _ _ h1⟩
  ·cases h1
theorem ay.Rs{P:Program} : ∀(aj:ay) (cn:List Field) (off:Nat),aj.wT P cn off=true→aj.okF P cn off
 | .nil,cn,off,h=>by
  simp only [ay.wT,List.isEmpty_iff] at h
  exact h
 | .cons t aj,cn,off,h=>by
  cases cn with
  | nil=>simp [ay.wT] at h
  | cons f cn =>
   simp only [ay.wT,Bool.and_eq_true] at h
   exact⟨f,cn,rfl,Nat.eq_of_beq_eq_true h.1.1,ad.CG t _ h.1.2,ay.Rs aj _ _ h.2⟩
end
def wU:List (Nat×ad)→Nat→Option ad
 | [],_=>none
 | (k,t) :: l,i=>cond (Nat.beq k i) (some t) (wU l i)
def ta(P:Program):List (Nat×ad)→Bool
 | []=>true
 | (k,t) :: l=>t.okB P k&&ta P l
theorem JF{P:Program}{i:Nat}{T:ad} : ∀ {l:List (Nat×ad)},ta P l=true→wU l i=some T→T.ok P i
 | (k,t) :: l,h,hl=>by
  simp only [ta,Bool.and_eq_true] at h
  unfold wU at hl
  cases hb:Nat.beq k i
  ·rw [hb] at hl;exact JF h.2 hl
  ·rw [hb] at hl
   obtain rfl:=aS hl
   obtain rfl:=Nat.eq_of_beq_eq_true hb
   exact ad.CG _ _ h.1
def ua:List Nat→Nat→Bool
 | [],_=>false
 | k :: l,i=>cond (Nat.beq k i) true (ua l i)
def tb(P:Program):List Nat→Bool
 | []=>true
 | k :: l=>(match P.underlying k with | some (.pointer _)=>true | _=>false)&&tb P l
theorem Rt{P:Program}{i:Nat} : ∀ {l:List Nat},tb P l=true→ua l i=true→∃e,P.underlying i=some (.pointer e)
 | k :: l,h,hl=>by
  simp only [tb,Bool.and_eq_true] at h
  unfold ua at hl
  cases hb:Nat.beq k i
  ·rw [hb] at hl;exact Rt h.2 hl
  ·obtain rfl:=Nat.eq_of_beq_eq_true hb
   have h1:=h.1
   split at h1
   ·rename_i e hk;exact⟨e,hk⟩
   ·cases h1
def CH:List (Nat×Entry)→Nat→Nat→Option Entry
 | [],_,_=>none
 | (k,e) :: l,f,key=>cond (Nat.blt f 1000000&&Nat.beq k (f+1000000*key)) (some e) (CH l f key)
def qE(P:Program):List (Nat×Entry)→Prop
 | []=>True
 | (k,e) :: l=>hU P (k % 1000000) (k / 1000000) e∧qE P l
theorem Ru{P:Program}{f key:Nat}{e:Entry} : ∀ {l:List (Nat×Entry)},qE P l→CH l f key=some e→hU P f key e
 | (k,gR) :: l,h,hl=>by
  unfold CH at hl
  cases hb:(Nat.blt f 1000000&&Nat.beq k (f+1000000*key))
  ·rw [hb] at hl;exact Ru h.2 hl
  ·rw [hb] at hl
   obtain rfl:=aS hl
   simp only [Bool.and_eq_true] at hb
   have h1:=hb.1
   rw [Nat.blt_eq] at h1
   obtain rfl:=Nat.eq_of_beq_eq_true hb.2
   have h2:=h.1
   rw [show(f+1000000*key) % 1000000=f by omega,show(f+1000000*key) / 1000000=key by omega] at h2
   exact h2
def Rv(n:Nat)(tab:List (Nat×ad))(l7 eqs:List Nat)(fns:List (Nat×Entry)):Env:=⟨n,wU tab,ua eqs,ua l7,CH fns⟩
theorem Rw{i:Nat} : ∀ {l:List Nat},ua l i=true→i∈l
 | k :: l,h=>by
  unfold ua at h
  cases hb:Nat.beq k i
  ·rw [hb] at h;exact List.mem_cons_of_mem _ (Rw h)
  ·rw [Nat.eq_of_beq_eq_true hb];exact List.mem_cons_self
theorem Rx{i:Nat}{T:ad} : ∀ {l:List (Nat×ad)},wU l i=some T→(i,T)∈l
 | (k,t) :: l,hl=>by
  unfold wU at hl
  cases hb:Nat.beq k i
  ·rw [hb] at hl;exact List.mem_cons_of_mem _ (Rx hl)
  ·rw [hb] at hl
   obtain rfl:=aS hl
   rw [Nat.eq_of_beq_eq_true hb]
   exact List.mem_cons_self
theorem Ry{P:Program}{n:Nat}{tab:List (Nat×ad)}{l7 eqs:List Nat}{fns:List (Nat×Entry)}(ht:ta P tab=true)(au:tb P l7=true)(he:tc P tab eqs=true)(hf:qE P fns)(hm:P.follows .mixedOrders=true):jH P (Rv n tab l7 eqs fns):=by
 refine⟨⟨fun id T h=>JF ht h,fun id h=>Rt au h⟩,fun id T h b1=>?_,fun f key e h=>Ru hf h,hm⟩
 obtain ⟨h1,h2,h3⟩:=Rp he (Rw h)
 obtain ⟨h4,a7⟩:=h3 T (Rx b1)
 exact abp (JF ht b1) h1 h2 h4 a7
@[irreducible] def aQ:Nat:=18446744073709551616
end Go.LM
namespace Go.LM
open Go.ChangeShapes Go.WideShapes Go.ChangeAt Go.RowKit
open Go.ChangeMaps (open_string shut_string)
mutual
def ad.jK:(t:ad)→t.D→Prop
 | .int k,x=>(Lit.int k x).wf=true
 | .bool,_=>True
 | .str,x=>x.length≤maxLen
 | .raw,_=>True
 | .sl t,xs=>xs.length≤maxLen∧∀y,y∈xs→t.jK y
 | .st aj,x=>aj.jK x
def ay.jK:(aj:ay)→aj.D→Prop
 | .nil,_=>True
 | .cons t aj,x=>t.jK x.1∧aj.jK x.2
end
mutual
def ad.nD:ad→Bool
 | .sl t=>Nat.blt 0 t.size&&t.nD
 | .raw=>false
 | .st aj=>aj.nD
 | _=>true
def ay.nD:ay→Bool
 | .nil=>true
 | .cons t aj=>t.nD&&aj.nD
end
def qF:(ps:List bB)→(bB.ins ps).D→Prop
 | [],_=>True
 | .fn _ _ :: l,x=>qF l x
 | .val t _ :: l,x=>t.jK x.1∧qF l x.2
 | .hD t :: l,x=>t.jK x.1∧qF l x.2
 | .hC t _ :: l,x=>t.jK x.1∧qF l x.2
 | .ref t :: l,x=>t.jK x.1∧qF l x.2
 | .mut t _ _ :: l,x=>t.jK x.1∧qF l x.2
def JG:(rs:List cX)→(aj:ay)→(cX.outs rs aj).D→Prop
 | [.val .bool .R],_,r=>r.1=true
 | _,_,_=>False
section
variable{H:Type}{enc:TypeId×Value→H}{P:Program}{w W W':World}{base:Nat}{spare:Nat→Bool}{held:Bool}{fuel:Nat}
def Old(w:World):ah:=fun b _=>b<w.heap.size
theorem abt{a:Addr}{v:Value}(h:w.cell? a=some v):a.block<w.heap.size:=by
 rcases Nat.lt_or_ge a.block w.heap.size with h1 | h1
 ·exact h1
 ·simp [World.cell?,Array.getElem?_eq_none h1] at h
theorem JH{t:ad}{id:TypeId}(h:t.ok P id):P.cellsOf id=t.size:=by
 obtain ⟨i,h1,h2,_⟩:=h.info
 unfold Program.cellsOf
 rw [h1]
 exact h2
theorem Rz{a:Addr}{k:Nat}{cs:List Value}(h:w.cells? base a k=some cs):cs.length=k∧∀i v,cs[i]?=some v→w.cell? (a.add i)=some v:=by
 unfold World.cells? at h
 split at h
 ·have hl:cs.length=k:=by
   have:=List.RA h
   simpa using this
  refine⟨hl,fun i v hv=>?_⟩
  have hi:i<k:=by
   rw [← hl]
   exact(List.getElem?_eq_some_iff.1 hv).1
  have:=RB h i (by simpa using hi)
  rw [hv] at this
  simpa using this.symm
 ·cases h
where
 List.RA {α β : Type} {f : α → Option β} : ∀ {l:List α} {r:List β},l.mapM f=some r→r.length=l.length
  | [],r,h=>by simp at h;subst h;rfl
  | x :: l,r,h=>by
   rw [List.mapM_cons] at h
   simp only [Option.bind_eq_bind,Option.bind_eq_some_iff] at h
   obtain ⟨y,h1,ys,h2,h3⟩:=h
   simp only [Option.pure_def,Option.some.injEq] at h3
   subst h3
   simp [List.RA h2]
 RB {α β : Type} {f : α → Option β} : ∀ {l:List α} {r:List β},l.mapM f=some r→∀i (hi:i<l.length),r[i]?=f l[i]
  | [],r,h,i,hi=>by simp at hi
  | x :: l,r,h,i,hi=>by
   rw [List.mapM_cons] at h
   simp only [Option.bind_eq_bind,Option.bind_eq_some_iff] at h
   obtain ⟨y,h1,ys,h2,h3⟩:=h
   simp only [Option.pure_def,Option.some.injEq] at h3
   subst h3
   cases i with
   | zero=>simp [h1]
   | succ i=>simpa using RB h2 i (by simpa using hi)
mutual
theorem ad.read:∀(t:ad) (id:TypeId) (fuel:Nat) (cs:List Value) (x:DataW H×List MemPlace),t.ok P id→t.nD=true→DataW.trod enc P w base spare held fuel id cs=some x →
  ∃y:t.D,t.al w (Old w) .R y cs ah.none∧t.jK y
 | .int k,id,fuel,cs,x,ho,au,h=>by
  obtain ⟨n,rfl,_,hw⟩:=DataW.trod_int (by simp only [ad.ok] at ho;exact ho.1) h
  exact⟨n,by simp only [ad.al],hw⟩
 | .bool,id,fuel,cs,x,ho,au,h=>by
  obtain ⟨n,rfl,_⟩:=DataW.trod_bool (by simp only [ad.ok] at ho;exact ho.1) h
  exact⟨n,by simp only [ad.al],trivial⟩
 | .str,id,fuel,cs,x,ho,au,h=>by
  obtain ⟨s,rfl,_,hs⟩:=DataW.trod_string (by simp only [ad.ok] at ho;exact ho.1) h
  exact⟨s.data.toList,by simp only [ad.al];exact⟨s,rfl,rfl⟩,by simp only [ad.jK,Array.length_toList];exact hs⟩
 | .raw,id,fuel,cs,x,ho,au,h=>by simp [ad.nD] at au
 | .sl t,id,fuel,cs,x,ho,au,h=>by
  simp only [ad.ok] at ho
  obtain ⟨_,e,hu,RC⟩:=ho
  simp only [ad.nD,Bool.and_eq_true] at au
  have eV:0<t.size:=Nat.le_of_ble_eq_true au.1
  rcases DataW.trod_slice hu h with⟨rfl,_⟩ | ⟨a,len,cap,elems,rest,m,_,rfl,_,_,hl,hm,hlen,RD,_,_⟩
  ·exact⟨[],by simp only [ad.al];exact⟨none,0,rfl,.inl trivial⟩,by simp [ad.jK,maxLen]⟩
  ·have hsz:P.cellsOf e=t.size:=JH RC
   rw [hsz] at RD
   have RE:∀i,i<len→∃cs' d,w.cells? base (a.add (i*t.size)) t.size=some cs'∧DataW.trod enc P w base spare held m e cs'=some d:=by
    intro i hi
    have h1:=RD i hi
    have h2:∃d,elems[i]?=some d:=⟨_,List.getElem?_eq_getElem (by omega)⟩
    obtain ⟨d,h2⟩:=h2
    rw [h2] at h1
    obtain ⟨cs',h3,h4⟩:=bf h1
    exact⟨cs',d,h3,h4⟩
   have abu:=fun(cs':List Value) (d:DataW H×List MemPlace)=>ad.read t e m cs' d RC au.2
   have JI:0<len→a.spot=none∧a.block<w.heap.size:=by
    intro hn
    obtain ⟨cs',d,h1,h2⟩:=RE 0 hn
    obtain ⟨c1,gh⟩:=Rz h1
    have py:=gh 0 cs'[0] (List.getElem?_eq_getElem (by omega))
    simp only [Nat.zero_mul,Addr.add,if_true] at py
    exact⟨World.cell?_spot py,abt py⟩
   have hrow:∀(n k:Nat),k+n≤len→∃xs:List t.D,xs.length=n∧Row w (fun y us _=>t.al w (Old w) .R y us ah.none) t.size xs a.block (a.off+k*t.size) ah.none∧(∀y,y∈xs→t.jK y):=by
    intro n
    induction n with
    | zero=>intro k _;exact⟨[],rfl,trivial,by simp⟩
    | succ n ih =>
     intro k hk
     obtain ⟨cs',d,h1,h2⟩:=RE k (by omega)
     obtain ⟨y,h3,h4⟩:=abu cs' d h2
     obtain ⟨xs,g1,g3,g4⟩:=ih (k+1) (by omega)
     obtain ⟨c1,gh⟩:=Rz h1
     obtain ⟨hsp,alG⟩:=JI (by omega)
     obtain ⟨ab,ao,asp⟩:=a
     simp only at hsp
     subst hsp
     refine⟨y :: xs,by simp [g1],⟨cs',ah.none,ah.none,h3,c1,?_,?_,fun _ _ h=>h.elim,fun _ _ h=>h,fun _ _ h=>h⟩,?_⟩
     ·intro i v hv
      have:=gh i v hv
      rw [show(⟨ab,ao,none⟩:Addr)=at_ ab ao from rfl,qi,qi] at this
      exact this
     ·have e1:ao+k*t.size+t.size=ao +(k+1)*t.size:=by rw [Nat.add_mul];omega
      simp only
      rw [e1];exact g3
     ·intro z hz
      rcases List.mem_cons.1 hz with rfl | hz
      ·exact h4
      ·exact g4 z hz
   obtain ⟨xs,g1,g3,g4⟩:=hrow len 0 (by omega)
   refine⟨xs,?_,?_⟩
   ·simp only [ad.al]
    refine⟨some a,cap,by rw [g1],?_⟩
    by_cases hx:xs=[]
    ·exact .inl hx
    ·have hn:0<len:=by
      rw [← g1]
      cases xs with
      | nil=>exact absurd rfl hx
      | cons=>simp
     exact .inr ⟨a,rfl,(JI hn).1,by simpa using g3,fun j hj=>(JI hn).2,by rw [g1];exact hl⟩
   ·simp only [ad.jK]
    exact⟨by rw [g1];omega,g4⟩
 | .st aj,id,fuel,cs,x,ho,au,h=>by
  have hsz:=JH ho
  simp only [ad.ok] at ho
  obtain ⟨_,cn,hu,JD⟩:=ho
  obtain ⟨xs,n,_,_,hl,hxl,hf⟩:=DataW.trod_struct hu h
  have hlen:cs.length=(ad.st aj).size:=by rw [hl,hsz]
  have:=ay.read aj cn.toList 0 n cs JD (by simpa only [ad.nD] using au) (by simpa only [ad.size,Nat.zero_add] using hlen) (fun i f kz=>by
   have hi:i<xs.length:=by
    rw [hxl]
    have:=(List.getElem?_eq_some_iff.1 kz).1
    simpa using this
   exact⟨xs[i],by rw [hf i f (by rw [← Array.getElem?_toList];exact kz),List.getElem?_eq_getElem hi]⟩)
  obtain ⟨y,h1,h2⟩:=this
  rw [List.drop_zero] at h1
  exact⟨y,by simp only [ad.al];exact h1,by simp only [ad.jK];exact h2⟩
theorem ay.read:∀(aj:ay) (cn:List Field) (off:Nat) (fuel:Nat) (cs:List Value),aj.okF P cn off→aj.nD=true→cs.length=off+aj.size →
  (∀(i:Nat) (f:Field),cn[i]?=some f→∃x,DataW.trod enc P w base spare held fuel f.type ((cs.drop f.offset).take (P.cellsOf f.type))=some x)→∃y:aj.D,aj.al w (Old w) .nil y (cs.drop off) ah.none∧aj.jK y
 | .nil,cn,off,fuel,cs,ho,au,hl,hf=>by
  simp only [ay.size,Nat.add_zero] at hl
  exact⟨(),by simp only [ay.al];rw [List.drop_of_length_le (by omega)],by simp only [ay.jK]⟩
 | .cons t aj,cn,off,fuel,cs,ho,au,hl,hf=>by
  simp only [ay.okF] at ho
  obtain ⟨f,lI,rfl,h1,h2,h3⟩:=ho
  simp only [ay.nD,Bool.and_eq_true] at au
  simp only [ay.size] at hl
  obtain ⟨x,hx⟩:=hf 0 f rfl
  rw [h1,JH h2] at hx
  obtain ⟨y,g1,g2⟩:=ad.read t f.type fuel _ x h2 au.1 hx
  obtain ⟨ys,g3,g4⟩:=ay.read aj lI (off+t.size) fuel cs h3 au.2 (by omega) fun i nc kz=>hf (i+1) nc (by simpa using kz)
  refine⟨(y,ys),?_,⟨g2,g4⟩⟩
  simp only [ay.al]
  refine⟨_,_,ah.none,ah.none,?_,g1,g3,fun _ _ h=>h.elim,fun _ _ h=>h,fun _ _ h=>h⟩
  rw [← List.drop_drop,List.take_append_drop]
end
theorem abv{t:ad}{id:TypeId}{r:Reach}{v:Value}(ho:t.ok P id)(hv:Value.okWide P w r base id v):v=dH t v.cells.toList:=by
 cases t with
 | int k=>obtain ⟨n,rfl⟩:=okWide_int (by simp only [ad.ok] at ho;exact ho.1) hv;rfl
 | bool=>obtain ⟨n,rfl⟩:=okWide_bool (by simp only [ad.ok] at ho;exact ho.1) hv;rfl
 | str=>obtain ⟨n,rfl⟩:=okWide_string (by simp only [ad.ok] at ho;exact ho.1) hv;rfl
 | sl t =>
  simp only [ad.ok] at ho
  obtain ⟨_,e,hu,_⟩:=ho
  obtain ⟨a,l,c,rfl⟩:=okWide_slice hu hv
  rfl
 | raw =>
  simp only [ad.ok] at ho
  obtain ⟨_,e,hu⟩:=ho
  obtain ⟨a,l,c,rfl⟩:=okWide_slice hu hv
  rfl
 | st aj =>
  simp only [ad.ok] at ho
  obtain ⟨_,cn,hu,_⟩:=ho
  simp only [Value.okWide,hu] at hv
  obtain ⟨cs,rfl,_⟩:=hv
  simp [dH,Value.cells]
def y0:List (Nat×ad)→List bB
 | []=>[]
 | a :: l=>.val a.2 .R :: y0 l
def ub(P:Program):List (Nat×ad)→Bool
 | []=>true
 | a :: l=>a.2.okB P a.1&&a.2.nD&&P.readableRec a.1&&Nat.blt a.1 P.types.size&&ub P l
theorem RF{r:Reach}{cO:Nat} : ∀(as:List (Nat×ad)) (vs:List Value) (ds:List (DataW H)) (p:List MemPlace),ub P as=true →
  DataW.TrodAll enc P w 0 (fun _=>true) true (as.map (·.1)) vs ds p→(∀(j:Nat) t v,(as.map (·.1))[j]?=some t→vs[j]?=some v→Value.okWide P w r cO t v) →
  ∃x:(bB.ins (y0 as)).D,gA w (Old w) 0 (y0 as) x vs ah.none∧qF (y0 as) x∧f' vs=[]
 | [],vs,ds,p,ho,h,hv=>by
  obtain ⟨rfl,_,_⟩:=trodAll_nil h
  exact⟨(),rfl,trivial,rfl⟩
 | a :: as,vs,ds,p,ho,h,hv=>by
  simp only [ub,Bool.and_eq_true] at ho
  obtain ⟨v,bI,d,JJ,p',JK,rfl,rfl,rfl,h1,h2⟩:=trodAll_cons (by simpa using h)
  obtain ⟨x,g1,g2,g3⟩:=RF as bI JJ JK ho.2 h2 fun j t u hj hu=>hv (j+1) t u (by simpa using hj) (by simpa using hu)
  have cd:=ad.CG _ _ ho.1.1.1.1
  obtain ⟨fuel,hf⟩:=h1
  obtain ⟨y,k1,k2⟩:=ad.read a.2 a.1 fuel _ _ cd ho.1.1.1.2 hf
  have hw:=abv cd (hv 0 a.1 v rfl rfl)
  refine⟨(y,x),⟨v.cells.toList,bI,ah.none,ah.none,by rw [← hw],k1,g1,fun _ _ h=>h.elim,fun _ _ h=>h,fun _ _ h=>h⟩,⟨k2,g2⟩,?_⟩
  rw [hw,CA k1]
  exact g3
theorem abw{w w':World}(h:Ext w w' ah.none):Below w.heap.size w w':=by
 refine⟨h.os,h.tape,h.output,h.size,fun b hb=>?_⟩
 rcases h.block b hb with h1 | ⟨c,c',e,f,h1,h2,h3,h4⟩
 ·exact h1
 ·rw [h1,h2]
  have:c'=c:=by
   apply Array.ext h3
   intro i hi c_
   have:=h4 i (fun h=>h.elim)
   rw [Array.getElem?_eq_getElem hi,Array.getElem?_eq_getElem c_] at this
   exact aS this
  rw [this]
theorem RG(hl:laidOutB P=true):∀(as:List (Nat×ad)) (vs:List Value) (ds:List (DataW H)) (p:List MemPlace),ub P as=true →
  DataW.TrodAll enc P W 0 (fun _=>true) true (as.map (·.1)) vs ds p→Below W.heap.size W W'→DataW.TrodAll enc P W' 0 (fun b=>decide (b<W.heap.size)) true (as.map (·.1)) vs ds p
 | [],vs,ds,p,ho,h,hb=>by
  obtain ⟨rfl,rfl,rfl⟩:=trodAll_nil h
  exact trodAll_mk0
 | a :: as,vs,ds,p,ho,h,hb=>by
  simp only [ub,Bool.and_eq_true] at ho
  obtain ⟨v,bI,d,JJ,p',JK,rfl,rfl,rfl,h1,h2⟩:=trodAll_cons (by simpa using h)
  have cA:∀x∈p',x.block<W.heap.size:=by obtain ⟨m,hm⟩:=h1;exact DataW.trod_lt m _ _ _ hm
  exact trodAll_cons_mk (Below.trod hl ho.1.1.2 (Nat.le_of_ble_eq_true ho.1.2) h1 hb cA) (RG hl as bI JJ JK ho.2 h2 hb)
theorem abx{f:Nat}{fn:Func}{e:Entry}{prs:List (Nat×ad)}{r:Reach}{cO:Nat}{args:Array Value}{ds:List (DataW H)}{p:List MemPlace}(dS:Sound P f 0 e)(CC:e.ps=y0 prs)
  (JL:fn.params.toList=prs.map (·.1)) (cd:ub P prs=true) (aby:laidOutB P=true) (hc:∀x:(bB.ins e.ps).D,qF e.ps x→∃y,e.f x=some y∧JG e.rs (bB.d_ e.ps) y)
  (tK:∀(j:Nat) t v,fn.params[j]?=some t→args[j]?=some v→Value.okWide P W r cO t v)
  (hA:DataW.TrodAll enc P W 0 (fun _=>true) true fn.params.toList args.toList ds p) :
  Calls P f args W fun end_ W'=>end_=.returned (.bool true)∧Below W.heap.size W W'∧DataW.TrodAll enc P W' 0 (fun b=>decide (b<W.heap.size)) true fn.params.toList args.toList ds p:=by
 obtain ⟨ps,rs,c⟩:=e
 simp only at CC
 subst CC
 rw [JL] at hA
 obtain ⟨x,h1,h2,h3⟩:=RF prs args.toList ds p cd hA fun j t v hj hv=>tK j t v (by rw [← Array.getElem?_toList,JL];exact hj) (by rw [← Array.getElem?_toList];exact hv)
 obtain ⟨y,aN,ht⟩:=hc x h2
 have wC:=dS.calls W (Old W) ah.none x args.toList y (fun _ _ h=>h) (fun _ _ h=>h.elim) (fun _ _ h=>h.elim) (by rw [h3,List.append_nil];exact h1) aN
 have lM:args.toList.toArray=args:=by simp
 rw [lM] at wC
 refine Calls.mono wC ?_
 rintro end_ w' ⟨v,rfl,CD⟩
 obtain ⟨du,Z',F',rfl,hx,_,_,_,_,hK⟩:=CD.out
 have hb:=abw hx
 refine⟨?_,hb,by rw [JL];exact RG aby prs _ _ _ cd hA hb⟩
 have hfin:∀(rs:List cX) (aj:ay) (ps:List bB) (us:List Value) (abz:aj=bB.d_ ps) (y:(cX.outs rs (bB.d_ ps)).D),JG rs (bB.d_ ps) y→∀F',ia w' Z' ps us rs y du F'→ov du=.bool true:=by
  intro rs aj ps us abz y ht F' hK
  match rs,y,ht,hK with
  | [.val .bool .R],y,ht,hK =>
   obtain ⟨vs,ec,G,fW,rfl,k1,k2,_⟩:=hK
   obtain ⟨rfl,_⟩:=k2
   simp only [ad.al] at k1
   subst k1
   have ht:y.1=true:=ht
   rw [ht]
   rfl
 exact congrArg _ (hfin rs _ _ _ rfl y ht _ hK)
end
end Go.LM
namespace Go.LM
theorem tf{x:Int}(h : -9223372036854775808≤x)(h':x≤9223372036854775807):aK x=x:=by
 show(if(true&&decide (x % 18446744073709551616≥9223372036854775808))=true then x % 18446744073709551616-18446744073709551616 else x % 18446744073709551616)=x
 by_cases hc:x % 18446744073709551616≥9223372036854775808
 ·rw [if_pos (by simp [hc])];omega
 ·rw [if_neg (by simp [hc])];omega
theorem bC{n i:Nat}(h:i<n):aO n (i:Int)=some i:=by
 unfold aO
 rw [if_pos ⟨by omega,by omega⟩]
 simp
theorem vI{t:ad}{xs:List t.D}{i:Nat}(h:i<xs.length):J t xs i=xs[i]:=by
 unfold J
 rw [List.getD_eq_getElem?_getD,List.getElem?_eq_getElem h]
 rfl
theorem abA{n:Nat}(h:n≤68719476736):room n=true:=Nat.ble_eq_true_of_le h
theorem kp{n lo hi:Nat}(h:lo≤hi)(h':hi≤n):d' n (lo:Int) (hi:Int)=some (lo,hi):=by
 unfold d'
 rw [if_pos ⟨by omega,by omega,by omega⟩]
 simp
theorem oH{α : Type}(a:Option α):both a a=a:=by unfold both;rw [if_pos rfl]
theorem jo{α : Type}(a:Option α):dup a=a:=oH a
theorem RH(s:List UInt8):bs s s=true:=by simp [bs]
end Go.LM
namespace Go.LM
structure ko(P:Program) where
 tab:List (Nat×ad)
 l7:List Nat
 eqs:List Nat
 ht:ta P tab=true
 au:tb P l7=true
 he:tc P tab eqs=true
 hm:P.follows .mixedOrders=true
noncomputable def lY(fn:Func):Code:=match fn.body with
 | some c=>c
 | none=>.skip
noncomputable def r4(fn:Func)(ps:List bB):Bool :=
 fn.body.isSome && !(fn.name == "runtime.NumGoroutine")&&Cz ps&&Nat.ble ps.length fn.ntmps&&Jw (lY fn)
def nE:List (Nat×b0)→Nat→Option b0
 | [],_=>none
 | (k,t) :: l,r=>cond (Nat.beq r k) (some t) (nE l r)
section
variable{P:Program}
def ko.env(B:ko P)(fn:Func)(fns:List (Nat×Entry)):Env:=Rv fn.ntmps B.tab B.l7 B.eqs fns
noncomputable def ko.start(B:ko P)(fn:Func)(fns:List (Nat×Entry))(T:List (Nat×b0))(e:Entry)(k:Nat→an→Option (cX.outs e.rs (bB.d_ e.ps)).D)(x:(bB.ins e.ps).D):Option (cX.outs e.rs (bB.d_ e.ps)).D :=
 wQ (B.env fn fns) fn (lY fn) (nE T) 0 e k x
noncomputable def ko.RI(B:ko P)(key:Nat)(fn:Func)(fns:List (Nat×Entry))(T:List (Nat×b0))(e:Entry)(k:Nat→an→Option (cX.outs e.rs (bB.d_ e.ps)).D)(x:(bB.ins e.ps).D):Option (cX.outs e.rs (bB.d_ e.ps)).D :=
 wQ (B.env fn fns) fn (lY fn) (nE T) key e k x
noncomputable def ko.step(B:ko P)(fn:Func)(fns:List (Nat×Entry))(T:List (Nat×b0))(e:Entry)(k:Nat→an→Option (cX.outs e.rs (bB.d_ e.ps)).D):Nat→an→Option (cX.outs e.rs (bB.d_ e.ps)).D :=
 JA (B.env fn fns) (nE T) (lY fn) (pH (B.env fn fns) fn e) k
theorem RJ(B:ko P){f:Nat}{fn:Func}{e:Entry}{fns:List (Nat×Entry)}(hs:qE P fns)(hf:P.funcs[f]?=some fn)(hc:r4 fn e.ps=true)(T:List (Nat×b0))
  (hF:∀x r,e.f x=some r→∃m,wQ (B.env fn fns) fn (lY fn) (nE T) 0 e (oG (B.env fn fns) (nE T) (lY fn) (pH (B.env fn fns) fn e) m) x=some r):Sound P f 0 e:=by
 unfold r4 at hc
 simp only [Bool.and_eq_true,Bool.not_eq_true'] at hc
 obtain ⟨⟨⟨⟨h1,h2⟩,h3⟩,h4⟩,a7⟩:=hc
 refine Rn (Ry (n:=fn.ntmps) (fns:=fns) B.ht B.au B.he hs B.hm) hf ?_ h2 (Nat.beq_refl _) h3 h4 a7 hF
 unfold lY
 cases hb:fn.body with
 | none=>rw [hb] at h1;cases h1
 | some c=>rfl
theorem cL(B:ko P){f:Nat}{fn:Func}{e:Entry}{fns:List (Nat×Entry)}(hs:qE P fns)(hf:P.funcs[f]?=some fn)(hc:r4 fn e.ps=true)
  (h:∀x,B.start fn fns [] e (fun _ _=>none) x=e.f x):Sound P f 0 e :=
 RJ B hs hf hc [] fun x r hx=>⟨0,by
  rw [show oG (B.env fn fns) (nE []) (lY fn) (pH (B.env fn fns) fn e) 0=fun _ _=>none from rfl]
  exact(h x).trans hx⟩
def eO{K:Type}(s:K→K)(z:K):Nat→K
 | 0=>z
 | m+1=>s (eO s z m)
theorem cE(B:ko P){f:Nat}{fn:Func}{e:Entry}{fns:List (Nat×Entry)}(hs:qE P fns)(hf:P.funcs[f]?=some fn)(hc:r4 fn e.ps=true)(T:List (Nat×b0)){K:Type}
  (of:(Nat→an→Option (cX.outs e.rs (bB.d_ e.ps)).D)→K) (step:K→K) (L:Nat→K) (g:K→(bB.ins e.ps).D→Option (cX.outs e.rs (bB.d_ e.ps)).D)
  (h0:L 0=of fun _ _=>none) (wV:∀m,L (m+1)=step (L m)) (he:∀x,e.f x=g (L aQ) x)
  (aB:∀k x,B.start fn fns T e k x=g (of k) x)
  (hst:∀k,of (B.step fn fns T e k)=step (of k)):Sound P f 0 e :=
 RJ B hs hf hc T fun x r hx=>⟨aQ,by
  have hl:∀m,of (oG (B.env fn fns) (nE T) (lY fn) (pH (B.env fn fns) fn e) m)=L m:=by
   intro m
   induction m with
   | zero=>exact h0.symm
   | succ m ih=>rw [wV,← ih];exact hst _
  rw [he,← hl aQ] at hx
  exact(aB _ x).trans hx⟩
theorem RK(B:ko P)(key:Nat){f:Nat}{fn:Func}{e:Entry}{fns:List (Nat×Entry)}(hs:qE P fns)(hf:P.funcs[f]?=some fn)(hc:r4 fn e.ps=true)(T:List (Nat×b0))
  (hF:∀x r,e.f x=some r→∃m,wQ (B.env fn fns) fn (lY fn) (nE T) key e (oG (B.env fn fns) (nE T) (lY fn) (pH (B.env fn fns) fn e) m) x=some r):Sound P f key e:=by
 unfold r4 at hc
 simp only [Bool.and_eq_true,Bool.not_eq_true'] at hc
 obtain ⟨⟨⟨⟨h1,h2⟩,h3⟩,h4⟩,a7⟩:=hc
 refine Rn (Ry (n:=fn.ntmps) (fns:=fns) B.ht B.au B.he hs B.hm) hf ?_ h2 (Nat.beq_refl _) h3 h4 a7 hF
 unfold lY
 cases hb:fn.body with
 | none=>rw [hb] at h1;cases h1
 | some c=>rfl
theorem RL(B:ko P)(key:Nat){f:Nat}{fn:Func}{e:Entry}{fns:List (Nat×Entry)}(hs:qE P fns)(hf:P.funcs[f]?=some fn)(hc:r4 fn e.ps=true)
  (h:∀x,B.RI key fn fns [] e (fun _ _=>none) x=e.f x):Sound P f key e :=
 RK B key hs hf hc [] fun x r hx=>⟨0,by
  rw [show oG (B.env fn fns) (nE []) (lY fn) (pH (B.env fn fns) fn e) 0=fun _ _=>none from rfl]
  exact(h x).trans hx⟩
theorem vH(B:ko P)(key:Nat){f:Nat}{fn:Func}{e:Entry}{fns:List (Nat×Entry)}(hs:qE P fns)(hf:P.funcs[f]?=some fn)(hc:r4 fn e.ps=true)(T:List (Nat×b0)){K:Type}
  (of:(Nat→an→Option (cX.outs e.rs (bB.d_ e.ps)).D)→K) (step:K→K) (L:Nat→K) (g:K→(bB.ins e.ps).D→Option (cX.outs e.rs (bB.d_ e.ps)).D)
  (h0:L 0=of fun _ _=>none) (wV:∀m,L (m+1)=step (L m)) (he:∀x,e.f x=g (L aQ) x)
  (aB:∀k x,B.RI key fn fns T e k x=g (of k) x)
  (hst:∀k,of (B.step fn fns T e k)=step (of k)):Sound P f key e :=
 RK B key hs hf hc T fun x r hx=>⟨aQ,by
  have hl:∀m,of (oG (B.env fn fns) (nE T) (lY fn) (pH (B.env fn fns) fn e) m)=L m:=by
   intro m
   induction m with
   | zero=>exact h0.symm
   | succ m ih=>rw [wV,← ih];exact hst _
  rw [he,← hl aQ] at hx
  exact(aB _ x).trans hx⟩
end
@[reducible] def td(t:ad):bB:=.val t t.own
@[reducible] def aW(t:ad):bB:=.val t .R
@[reducible] def CI(t:ad):bB:=.hD t
@[reducible] def ga(t:ad):bB:=.ref t
@[reducible] def abB(t:ad):bB:=.mut t t.own t.own
@[reducible] def ro(t:ad):cX:=.val t t.own
@[reducible] def bp(t:ad):cX:=.val t .R
def RM:List (Nat×a6)→Nat→a6
 | []=>fun _=>.aD
 | (d,v) :: l=>bT (RM l) d v
def RN:List (Nat×cm)→Nat→cm
 | []=>fun _=>.none
 | (d,v) :: l=>bT (RN l) d v
def bj(t:List (Nat×a6))(o:List (Nat×cm))(g:List a6):an:=⟨RM t,RN o,g⟩
def aZ(x:Int):a6:=.aU (.int .i64 x)
def jI(x:Bool):a6:=.aU (.bool x)
def e6(x:List UInt8):a6:=.aU (.str x)
def hV(t:ad)(x:List t.D):a6:=.aU (.b2 t [] none x)
def aw(c:Nat):a6:=.ptr ⟨c,none,0⟩
def pI(dp:List Nat):List (Nat×Nat):=dp.map fun c=>(c,0)
mutual
def ad.uc:(t:ad)→a'→List Nat→t.D→Nat→List a8×List (Nat×cm)×Nat
 | .int k,_,_,x,j=>([.int k x],[],j)
 | .bool,_,_,x,j=>([.bool x],[],j)
 | .str,_,_,x,j=>([.str x],[],j)
 | .raw,_,_,x,j=>([.raw x],[],j)
 | .sl t,.O e,_,x,j=>([.ag j none],[(j,.row t e 0 x)],j+1)
 | .sl t,_,dp,x,j=>([.b2 t (pI dp) none x],[],j)
 | .st aj,m,dp,x,j=>aj.uc m.parts dp x j
def ay.uc:(aj:ay)→cW→List Nat→aj.D→Nat→List a8×List (Nat×cm)×Nat
 | .nil,_,_,_,j=>([],[],j)
 | .cons t aj,m,dp,x,j=>let r:=t.uc m.ag dp x.1 j;let q:=aj.uc m.dw dp x.2 r.2.2;(r.1++q.1,r.2.1++q.2.1,q.2.2)
end
mutual
def ad.ud:(t:ad)→a'→List Nat→Nat→List k4×List (Nat×iE)×Nat
 | .sl t,.O e,_,j=>([.ag j],[(j,.row t e)],j+1)
 | .sl t,_,dp,j=>([.b2 t dp],[],j)
 | .st aj,m,dp,j=>aj.ud m.parts dp j
 | _,_,_,j=>([.keep],[],j)
def ay.ud:(aj:ay)→cW→List Nat→Nat→List k4×List (Nat×iE)×Nat
 | .nil,_,_,j=>([],[],j)
 | .cons t aj,m,dp,j=>let r:=t.ud m.ag dp j;let q:=aj.ud m.dw dp r.2.2;(r.1++q.1,r.2.1++q.2.1,q.2.2)
end
def aC(c:Nat)(t:ad)(m:a')(dp:List Nat)(x:t.D):List (Nat×cm):=let r:=t.uc m dp x (c+1);(c,.var 0 r.1) :: r.2.1
def aA(c:Nat)(t:ad)(m:a')(dp:List Nat):List (Nat×iE):=let r:=t.ud m dp (c+1);(c,.var r.1) :: r.2.1
def aU(t:ad)(m:a')(dp:List Nat)(x:t.D)(j:Nat):List a8:=(t.uc m dp x j).1
def r5(t:ad)(m:a')(dp:List Nat)(j:Nat):List k4:=(t.ud m dp j).1
def JM(t:ad)(m:a')(x:t.D)(j:Nat):List (Nat×cm):=(t.uc m [] x j).2.1
def JN(t:ad)(m:a')(j:Nat):List (Nat×iE):=(t.ud m [] j).2.1
@[reducible] def aM:ky:=.cell .keep
end Go.LM
namespace Go.LM
theorem RO{P:Program}{f key:Nat}{e:Entry}(hf:∀x,e.f x=none):hU P f key e :=
 ⟨fun w Z F x us r _ _ _ _ hx=>by rw [hf x] at hx;cases hx⟩
theorem abC{w:World}{Z F:ah}{e:Entry}{us:List Value}{k:IntKind}{x:Int}(oC:e.rs=[.val (.int k) .R])(hm:bB.d_ e.ps=.nil)(hZ:∀b o,Z b o→b<w.heap.size)(hF:∀b o,F b o→b<w.heap.size)(hap:ah.apart F Z)
  (r:(cX.outs e.rs (bB.d_ e.ps)).D) (hr:∀G,ia w Z e.ps (us++f' us) e.rs r [.int k x] G):Ends w Z F e us r (.int k x) w :=
 ⟨[.int k x],Z,ah.none,rfl,Ext.refl _ _,fun _ _ h=>h,fun _ _ h=>.inl h,fun _ _ h=>h.elim,fun _ _ h=>h.elim,hr _⟩
def CJ(g:List UInt8→UInt8→Int):Entry:=⟨[aW .str,aW (.int .u8)],[bp (.int .i64)],fun x=>some (g x.1 x.2.1.toNat.toUInt8,())⟩
theorem RP{P:Program}{f:FuncId}{fn:Func}{x:Array Value→Sem Value}(g:List UInt8→UInt8→Int)(hf:P.funcs[f]?=some fn)(iZ:(fn.name == "runtime.NumGoroutine")=false)
  (hb:fn.body.isNone=true) (hn:Extern.findNext fn=none) (he:Extern.find fn=some x)
  (hx:∀(s:ByteArray) (c:Int) (w:World),(x #[.string s,.int .u8 c]).run P w=.ok (.int .i64 (g s.data.toList c.toNat.toUInt8)) w):hU P f 0 (CJ g):=by
 refine⟨fun w Z F y us r hZ hF hap hA aN=>?_⟩
 obtain rfl:=aS aN
 obtain ⟨vs1,us1,G1,H1,e1,k1,h1,_⟩:=hA
 obtain ⟨vs2,us2,G2,H2,e2,k2,h2,_⟩:=h1
 simp only [ad.al] at k1 k2
 obtain ⟨s,rfl,hs⟩:=k1
 subst k2
 have h2:us2=[]:=h2
 subst h2
 subst e2
 have hus:us=[.string s,.int .u8 y.2.1]:=by
  cases us with
  | nil=>cases e1
  | cons u us =>
   cases us with
   | nil =>
    simp only [List.cons_append,List.nil_append] at e1
    injection e1 with e3 fr
    subst e3
    cases fr
   | cons h_ us =>
    simp only [List.cons_append] at e1
    injection e1 with e3 fr
    injection fr with fr qq
    subst e3 fr
    have:us=[]:=(List.append_eq_nil_iff.1 qq).1
    subst this
    rfl
 subst hus
 refine .inr ⟨.int .i64 (g s.data.toList y.2.1.toNat.toUInt8),w,?_,.int .i64 (g s.data.toList y.2.1.toNat.toUInt8),rfl,?_⟩
 ·rw [run_callFunc_extern hf iZ hb hn he]
  have:=hx s y.2.1 w
  rw [show(([Value.string s,Value.int IntKind.u8 y.2.1]:List Value).toArray) = #[.string s,.int .u8 y.2.1] from rfl,this]
  rfl
 ·rw [hs]
  refine abC (e:=CJ g) rfl rfl hZ hF hap _ fun G=>?_
  refine⟨[_],[],ah.none,ah.none,rfl,?_,?_,fun _ _ h=>h.elim,fun _ _ h=>h.elim,fun _ _ h=>h.elim⟩
  ·simp only [ad.al]
  ·exact⟨rfl,_,_,rfl,_,_,rfl,trivial⟩
theorem abD{P:Program}{f:FuncId}{fn:Func}(hf:P.funcs[f]?=some fn)(iZ:(fn.name == "runtime.NumGoroutine")=false)
  (hb:fn.body.isNone=true) (hn:Extern.findNext fn=none) (he:Extern.find fn=some Extern.BytealgIndexByte.indexByte):hU P f 0 (CJ Lib.indexByte) :=
 RP _ hf iZ hb hn he fun s c w=>Lib.run_indexByteString s c w
theorem abE{P:Program}{f:FuncId}{fn:Func}(hf:P.funcs[f]?=some fn)(iZ:(fn.name == "runtime.NumGoroutine")=false)
  (hb:fn.body.isNone=true) (hn:Extern.findNext fn=none) (he:Extern.find fn=some Extern.BytealgCount.count):hU P f 0 (CJ fun l c=>(Lib.countByte l c:Int)) :=
 RP _ hf iZ hb hn he fun s c w=>Lib.run_countString s c w
end Go.LM
namespace Go.LM
mutual
def ad.rw:ad→ad
 | .sl _=>.raw
 | .st aj=>.st aj.rw
 | .int k=>.int k
 | .bool=>.bool
 | .str=>.str
 | .raw=>.raw
def ay.rw:ay→ay
 | .nil=>.nil
 | .cons t aj=>.cons t.rw aj.rw
end
mutual
def ad.rel:(T T':ad)→T.D→T'.D→Prop
 | .int _,.int _,x,y=>x=y
 | .bool,.bool,x,y=>x=y
 | .str,.str,x,y=>x=y
 | .sl _,.raw,_,_=>True
 | .raw,.raw,x,y=>x=y
 | .st aj,.st JO,x,y=>aj.rel JO x y
 | _,_,_,_=>False
def ay.rel:(T T':ay)→T.D→T'.D→Prop
 | .nil,.nil,_,_=>True
 | .cons t aj,.cons dm JO,x,y=>t.rel dm x.1 y.1∧aj.rel JO x.2 y.2
 | _,_,_,_=>False
end
mutual
theorem ad.oI:∀t:ad,t.rw.size=t.size
 | .int _=>rfl
 | .bool=>rfl
 | .str=>rfl
 | .sl _=>rfl
 | .raw=>rfl
 | .st aj=>by simp only [ad.rw,ad.size];exact ay.oI aj
theorem ay.oI:∀t:ay,t.rw.size=t.size
 | .nil=>rfl
 | .cons t aj=>by simp only [ay.rw,ay.size,ad.oI t,ay.oI aj]
end
mutual
theorem ad.y1{w:World}{Z:ah} : ∀(T:ad) (m:a') {x:T.D} {vs:List Value} {F:ah},T.al w Z m x vs F→∃y:T.rw.D,(∀(w':World) (Z':ah) (m':a') (F':ah),T.rw.al w' Z' m' y vs F')∧T.rel T.rw x y
 | .int _,_,x,_,_,h=>by simp only [ad.al] at h;subst h;exact⟨x,fun _ _ _ _=>by simp only [ad.rw,ad.al],by simp only [ad.rw,ad.rel]⟩
 | .bool,_,x,_,_,h=>by simp only [ad.al] at h;subst h;exact⟨x,fun _ _ _ _=>by simp only [ad.rw,ad.al],by simp only [ad.rw,ad.rel]⟩
 | .str,_,x,_,_,h=>by simp only [ad.al] at h;exact⟨x,fun _ _ _ _=>by simp only [ad.rw,ad.al];exact h,by simp only [ad.rw,ad.rel]⟩
 | .raw,_,x,_,_,h=>by simp only [ad.al] at h;exact⟨x,fun _ _ _ _=>by simp only [ad.rw,ad.al];exact h,by simp only [ad.rw,ad.rel]⟩
 | .sl t,m,x,vs,F,h=>by
  have:∃A n c,vs=[.slice A n c]:=by
   cases m <;>(simp only [ad.al] at h;obtain ⟨A,c,hv,_⟩:=h;exact⟨A,_,c,hv⟩)
  obtain ⟨A,n,c,rfl⟩:=this
  exact⟨(.slice A n c:Value),fun _ _ _ _=>by simp only [ad.rw,ad.al];exact⟨trivial,A,n,c,rfl⟩,by simp only [ad.rw,ad.rel]⟩
 | .st aj,m,x,vs,F,h=>by
  simp only [ad.al] at h
  obtain ⟨y,h1,h2⟩:=ay.y1 aj m.parts h
  exact⟨y,fun w' Z' m' F'=>by simp only [ad.rw,ad.al];exact h1 w' Z' m'.parts F',by simp only [ad.rw,ad.rel];exact h2⟩
theorem ay.y1{w:World}{Z:ah} : ∀(T:ay) (m:cW) {x:T.D} {vs:List Value} {F:ah},T.al w Z m x vs F→∃y:T.rw.D,(∀(w':World) (Z':ah) (m':cW) (F':ah),T.rw.al w' Z' m' y vs F')∧T.rel T.rw x y
 | .nil,_,_,_,_,h=>by simp only [ay.al] at h;exact⟨(),fun _ _ _ _=>by simp only [ay.rw,ay.al];exact h,by simp only [ay.rw,ay.rel]⟩
 | .cons t aj,m,x,vs,F,h=>by
  simp only [ay.al] at h
  obtain ⟨us,bI,G,H,rfl,h1,h2,_⟩:=h
  obtain ⟨y,k1,k2⟩:=ad.y1 t m.ag h1
  obtain ⟨z,dU,eJ⟩:=ay.y1 aj m.dw h2
  exact⟨(y,z),fun w' Z' m' F'=>by simp only [ay.rw,ay.al];exact⟨us,bI,ah.none,ah.none,rfl,k1 w' Z' m'.ag _,dU w' Z' m'.dw _,fun _ _ h=>h.elim,fun _ _ h=>h.elim,fun _ _ h=>h.elim⟩,by simp only [ay.rw,ay.rel];exact⟨k2,eJ⟩⟩
end
mutual
theorem ad.y2{w w':World}{Z Z':ah} : ∀(T:ad) {m m':a'} {y:T.rw.D} {vs:List Value} {F F':ah},T.rw.al w Z m y vs F→T.rw.al w' Z' m' y vs F'
 | .int _,_,_,_,_,_,_,h=>by simp only [ad.rw,ad.al] at h ⊢;exact h
 | .bool,_,_,_,_,_,_,h=>by simp only [ad.rw,ad.al] at h ⊢;exact h
 | .str,_,_,_,_,_,_,h=>by simp only [ad.rw,ad.al] at h ⊢;exact h
 | .sl _,_,_,_,_,_,_,h=>by simp only [ad.rw,ad.al] at h ⊢;exact h
 | .raw,_,_,_,_,_,_,h=>by simp only [ad.rw,ad.al] at h ⊢;exact h
 | .st aj,_,_,_,_,_,_,h=>by simp only [ad.rw,ad.al] at h ⊢;exact ay.y2 aj h
theorem ay.y2{w w':World}{Z Z':ah} : ∀(T:ay) {m m':cW} {y:T.rw.D} {vs:List Value} {F F':ah},T.rw.al w Z m y vs F→T.rw.al w' Z' m' y vs F'
 | .nil,_,_,_,_,_,_,h=>by simp only [ay.rw,ay.al] at h ⊢;exact h
 | .cons t aj,_,_,_,_,_,_,h=>by
  simp only [ay.rw,ay.al] at h ⊢
  obtain ⟨a,b,_,_,rfl,h1,h2,_⟩:=h
  exact⟨a,b,ah.none,ah.none,rfl,ad.y2 t h1,ay.y2 aj h2,fun _ _ h=>h.elim,fun _ _ h=>h.elim,fun _ _ h=>h.elim⟩
end
mutual
theorem ad.y3{w w':World}{Z Z':ah} : ∀(T:ad) {m m':a'} {y:T.rw.D} {us vs:List Value} {F F':ah},T.rw.al w Z m y us F→T.rw.al w' Z' m' y vs F'→us=vs
 | .int _,_,_,_,_,_,_,_,h,k=>by simp only [ad.rw,ad.al] at h k;rw [h,k]
 | .bool,_,_,_,_,_,_,_,h,k=>by simp only [ad.rw,ad.al] at h k;rw [h,k]
 | .str,_,_,_,_,_,_,_,h,k=>by
  simp only [ad.rw,ad.al] at h k
  obtain ⟨s,rfl,hs⟩:=h
  obtain ⟨ar,rfl,RQ⟩:=k
  have:s=ar:=by
   cases s;cases ar
   simp only at hs RQ
   congr 1
   apply Array.ext'
   rw [hs,RQ]
  rw [this]
 | .sl _,_,_,_,_,_,_,_,h,k=>by simp only [ad.rw,ad.al] at h k;rw [h.1,k.1]
 | .raw,_,_,_,_,_,_,_,h,k=>by simp only [ad.rw,ad.al] at h k;rw [h.1,k.1]
 | .st aj,_,_,_,_,_,_,_,h,k=>by simp only [ad.rw,ad.al] at h k;exact ay.y3 aj h k
theorem ay.y3{w w':World}{Z Z':ah} : ∀(T:ay) {m m':cW} {y:T.rw.D} {us vs:List Value} {F F':ah},T.rw.al w Z m y us F→T.rw.al w' Z' m' y vs F'→us=vs
 | .nil,_,_,_,_,_,_,_,h,k=>by simp only [ay.rw,ay.al] at h k;rw [h,k]
 | .cons t aj,_,_,_,_,_,_,_,h,k=>by
  simp only [ay.rw,ay.al] at h k
  obtain ⟨a,b,_,_,rfl,h1,h2,_⟩:=h
  obtain ⟨b9,b',_,_,rfl,k1,k2,_⟩:=k
  rw [ad.y3 t h1 k1,ay.y3 aj h2 k2]
end
def g'(w:World)(Z:ah)(T:ad)(m:a'):List T.D→List T.rw.D→ah→Prop
 | [],[],_=>True
 | x :: xs,y :: ys,G=>∃vs G1 G2,T.al w Z m x vs G1∧T.rw.al w Z .R y vs ah.none∧T.rel T.rw x y∧g' w Z T m xs ys G2∧ah.apart G1 G2∧ah.sub G1 G∧ah.sub G2 G
 | _,_,_=>False
section
variable{w w':World}{Z Z':ah}{T:ad}{m:a'}
theorem g'.len:∀ {xs:List T.D} {ys:List T.rw.D} {G:ah},g' w Z T m xs ys G→ys.length=xs.length
 | [],[],_,_=>rfl
 | _ :: _,_ :: _,_,⟨_,_,_,_,_,_,h,_⟩=>by simp [g'.len h]
 | [],_ :: _,_,h=>h.elim
 | _ :: _,[],_,h=>h.elim
theorem g'.mono:∀ {xs:List T.D} {ys:List T.rw.D} {G dk:ah},ah.sub G dk→g' w Z T m xs ys G→g' w Z T m xs ys dk
 | [],[],_,_,_,_=>trivial
 | _ :: _,_ :: _,_,_,hs,⟨vs,G1,G2,h1,h2,h3,h4,a7,bg,bH⟩=>⟨vs,G1,G2,h1,h2,h3,h4,a7,fun b o h=>hs b o (bg b o h),fun b o h=>hs b o (bH b o h)⟩
 | [],_ :: _,_,_,_,h=>h.elim
 | _ :: _,[],_,_,_,h=>h.elim
theorem g'.RR:∀ {xs:List T.D} {b o:Nat} {G:ah},Row w (T.al w Z m) T.size xs b o G→∃ys,g' w Z T m xs ys G∧∀(Z':ah),Row w (T.rw.al w Z' .R) T.rw.size ys b o ah.none
 | [],_,_,_,_=>⟨[],trivial,fun _=>trivial⟩
 | x :: xs,b,o,G,⟨vs,G1,G2,h1,h2,h3,h4,a7,bg,bH⟩=>by
  obtain ⟨ys,k1,k2⟩:=g'.RR h4
  obtain ⟨y,dU,eJ⟩:=ad.y1 T m h1
  refine⟨y :: ys,⟨vs,G1,G2,h1,dU _ _ _ _,eJ,k1,a7,bg,bH⟩,fun Z'=>⟨vs,ah.none,ah.none,dU _ _ _ _,by rw [h2,ad.oI],h3,?_,fun _ _ h=>h.elim,fun _ _ h=>h.elim,fun _ _ h=>h.elim⟩⟩
  have:=k2 Z'
  rw [ad.oI] at this ⊢
  exact this
theorem g'.filter{p:T.D→Bool}{p':T.rw.D→Bool}(au:∀x y,T.rel T.rw x y→p x=p' y):∀ {xs:List T.D} {ys:List T.rw.D} {G:ah},g' w Z T m xs ys G→g' w Z T m (xs.filter p) (ys.filter p') G
 | [],[],_,_=>trivial
 | x :: xs,y :: ys,G,⟨vs,G1,G2,h1,h2,h3,h4,a7,bg,bH⟩=>by
  have ih:=g'.filter au h4
  rw [List.filter_cons,List.filter_cons,au x y h3]
  cases p' y
  ·exact ih.mono bH
  ·exact⟨vs,G1,G2,h1,h2,h3,ih,a7,bg,bH⟩
 | [],_ :: _,_,h=>h.elim
 | _ :: _,[],_,h=>h.elim
theorem g'.same:∀ {xs:List T.D} {ys:List T.rw.D} {G:ah},b6 w w' G→g' w Z T T.own xs ys G→g' w' Z' T T.own xs ys G
 | [],[],_,_,_=>trivial
 | x :: xs,y :: ys,G,hs,⟨vs,G1,G2,h1,h2,h3,h4,a7,bg,bH⟩=>by
  exact⟨vs,G1,G2,qw T (hs.mono bg) h1,ad.y2 T h2,h3,g'.same (hs.mono bH) h4,a7,bg,bH⟩
 | [],_ :: _,_,_,h=>h.elim
 | _ :: _,[],_,_,h=>h.elim
theorem g'.row:∀ {xs:List T.D} {ys:List T.rw.D} {G:ah} {b o:Nat} {H:ah},g' w Z T m xs ys G→Row w (T.rw.al w Z' .R) T.rw.size ys b o H→Row w (T.al w Z m) T.size xs b o G
 | [],[],_,_,_,_,_,_=>trivial
 | x :: xs,y :: ys,G,b,o,H,⟨vs,G1,G2,h1,h2,h3,h4,a7,bg,bH⟩,⟨us,H1,H2,k1,k2,k3,bb,_⟩=>by
  have:us=vs:=ad.y3 T k1 h2
  subst this
  rw [ad.oI] at k2 bb
  exact⟨us,G1,G2,h1,k2,k3,g'.row h4 (by rw [ad.oI];exact bb),a7,bg,bH⟩
 | [],_ :: _,_,_,_,_,h,_=>h.elim
 | _ :: _,[],_,_,_,_,h,_=>h.elim
theorem abF{P:Program}{f:FuncId}{key:FuncId}{T':ad}{p:T.D→Int→Bool}{p':T'.D→Int→Bool}(b1:T.rw=T')(Cm:∀x y i,T.rel T' x y→p x i=p' y i)
  {fq:(bB.ins [.val (.sl T') (.O .R),.fn 0 1,.ref (.int .i64)]).D→Option (cX.outs [.val (.sl T') (.O .R)] (bB.d_ [.val (.sl T') (.O .R),.fn 0 1,.ref (.int .i64)])).D}
  (dS:hU P f key ⟨[.val (.sl T') (.O .R),.fn 0 1,.ref (.int .i64)],[.val (.sl T') (.O .R)],fq⟩)
  (hf:∀(ys:List T'.D) (i:Int),room ys.length=true→fq (ys,i,())=some (ys.filter (fun y=>p' y i),())) :
  hU P f key ⟨[.val (.sl T) (.O T.own),.fn 0 1,.ref (.int .i64)],[.val (.sl T) (.O T.own)],fun x=>cond (room x.1.length) (some (x.1.filter (fun y=>p y x.2.1),())) none⟩:=by
 subst b1
 refine⟨fun w Z F x us r hZ hF hFZ hA hr=>?_⟩
 obtain ⟨xs,i,u⟩:=x
 simp only at hr
 cases hroom:room xs.length
 ·rw [hroom] at hr;cases hr
 rw [hroom] at hr
 simp only [cond_true] at hr
 have hr:=aS hr
 obtain ⟨vs,aT,G,H,e1,cM,e9,CK,hGF,y4⟩:=hA
 simp only [ad.al] at cM
 obtain ⟨A,c,rfl,cM⟩:=cM
 obtain ⟨ys,G1,wW,dV,abG,y5,wX,JP⟩:∃(ys:List T.rw.D) (G1 wW:ah),g' w Z T T.own xs ys G1∧(ad.sl T.rw).al w Z (.O .R) ys [.slice A xs.length c] wW∧ah.sub G1 G∧ah.sub wW G∧ah.apart G1 wW:=by
  rcases cM with⟨rfl,rfl⟩ | ⟨a,rfl,hr⟩
  ·exact⟨[],ah.none,ah.none,trivial,by simp only [ad.al];exact⟨A,0,rfl,.inl (by simp)⟩,fun _ _ h=>h.elim,fun _ _ h=>h.elim,fun _ _ h=>h.elim⟩
  ·obtain ⟨G1,g1,g2,g3⟩:=hr.row
   obtain ⟨ys,k1,k2⟩:=g'.RR g1
   refine⟨ys,G1,ah.run a.block a.off (c*T.size),k1,?_,g3,?_,?_⟩
   ·simp only [ad.al]
    refine⟨some a,c,by rw [k1.len],.inr ⟨a,rfl,hr.spot,by rw [k1.len];exact hr.cap,?_,?_,ah.none,?_,fun _ _ h=>h,fun _ _ h=>h.elim⟩⟩
    ·rw [ad.oI];exact hr.wr
    ·rw [ad.oI];exact fun j hj=>⟨rfl,by omega,by omega⟩
    ·exact k2 Z
   ·rintro b o ⟨rfl,h1,h2⟩
    have:=hr.inF (o-a.off) (by omega)
    rwa [show a.off +(o-a.off)=o by omega] at this
   ·rintro b o aB ⟨rfl,h1,h2⟩
    have:=g2 (o-a.off) (by omega)
    rw [show a.off +(o-a.off)=o by omega] at this
    exact this aB
 have hcall:=dS.calls w Z (wW.or H) (ys,i,u) us (ys.filter (fun y=>p' y i),()) hZ
  (fun b o h=>h.elim (fun h=>hF b o (hGF b o (wX b o h))) fun h=>hF b o (y4 b o h))
  (fun b o h hz=>h.elim (fun h=>hFZ b o (hGF b o (wX b o h)) hz) fun h=>hFZ b o (y4 b o h) hz)
  ⟨[.slice A xs.length c],aT,wW,H,e1,abG,e9,fun b o h=>CK b o (wX b o h),fun _ _ h=>.inl h,fun _ _ h=>.inr h⟩
  (hf ys i (by rw [dV.len];exact hroom))
 refine hcall.mono ?_
 rintro end_ w' ⟨v,rfl,⟨⟨du,Z',F',rfl,hx,jl,hz2,hf2,tJ,hK⟩⟩⟩
 subst hr
 simp only [ia] at hK
 obtain ⟨vs1,ec,dk,aat,rfl,wA,⟨rfl,CL⟩,_,RS,_⟩:=hK
 have wY:∀b o,G1 b o→F b o∧b<w.heap.size:=fun b o h=>⟨hGF b o (y5 b o h),hF b o (hGF b o (y5 b o h))⟩
 have abH:ah.apart G1 F':=by
  intro b o h1 h2
  rcases (hf2 b o h2).1 with(h3 | h3) | h3
  ·exact JP b o h1 h3
  ·exact CK b o (y5 b o h1) h3
  ·have:=(wY b o h1).2;omega
 have nr:b6 w w' G1:=b6.iT hx (fun b o h=>(wY b o h).2) (by
  rintro b o h1 (h3 | h3)
  ·exact JP b o h1 h3
  ·exact CK b o (y5 b o h1) h3)
 have CM:g' w' Z' T T.own (xs.filter fun y=>p y i) (ys.filter fun y=>p' y i) G1:=(dV.same nr).filter fun x y h=>Cm x y i h
 have hsz:T.rw.size=T.size:=ad.oI T
 refine⟨_,rfl,⟨⟨_,Z',F'.or G1,rfl,?_,jl,?_,?_,?_,?_⟩⟩⟩
 ·exact hx.mono fun b o hb h=>h.elim (fun h=>hGF b o (wX b o h)) fun h=>y4 b o h
 ·intro b o hz
  rcases hz2 b o hz with h1 | ⟨h1,h2⟩
  ·exact .inl h1
  ·exact .inr ⟨h1.imp (fun h=>h.elim (fun h=>hGF b o (wX b o h)) fun h=>y4 b o h) fun h=>h,h2⟩
 ·rintro b o (h1 | h1)
  ·obtain ⟨h2,h3⟩:=hf2 b o h1
   exact⟨h2.imp (fun h=>h.elim (fun h=>hGF b o (wX b o h)) fun h=>y4 b o h) fun h=>h,h3⟩
  ·exact⟨.inl (wY b o h1).1,Nat.lt_of_lt_of_le (wY b o h1).2 hx.size⟩
 ·rintro b o (h1 | h1) hz
  ·exact tJ b o h1 hz
  ·rcases hz2 b o hz with h2 | ⟨(h2 | h2) | h2,_⟩
   ·exact hFZ b o (wY b o h1).1 h2
   ·exact JP b o h1 h2
   ·exact CK b o (y5 b o h1) h2
   ·have:=(wY b o h1).2;omega
 ·simp only [ia]
  refine⟨vs1,[],F'.or G1,ah.none,rfl,?_,⟨rfl,by simp only [iu] at CL ⊢;exact CL⟩,fun _ _ _ h=>h.elim,fun _ _ h=>h,fun _ _ h=>h.elim⟩
  simp only [ad.al] at wA ⊢
  obtain ⟨pq,c',rfl,wA⟩:=wA
  refine⟨pq,c',by rw [← CM.len],?_⟩
  rcases wA with⟨h1,h2⟩ | ⟨b9,px,fI⟩
  ·refine .inl ⟨List.eq_nil_of_length_eq_zero ?_,h2⟩
   rw [← CM.len,h1];rfl
  ·obtain ⟨O6,bx,_⟩:=fI.row
   refine .inr ⟨b9,px,fI.spot,by rw [← CM.len];exact fI.cap,by have:=fI.wr;rwa [hsz] at this,?_,G1,CM.row bx,?_,fun _ _ h=>.inr h⟩
   ·intro j hj
    exact .inl (RS _ _ (fI.inF j (by rw [hsz];exact hj)))
   ·intro j hj aB
    exact abH _ _ aB (RS _ _ (fI.inF j (by rw [hsz];exact hj)))
end
end Go.LM
