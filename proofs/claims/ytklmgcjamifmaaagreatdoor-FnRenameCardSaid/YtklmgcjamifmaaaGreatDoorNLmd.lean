/- Regions, loops and whole functions are what the interpreter says, and a law's reading fits them. Conditions: each theorem's own hypotheses. -/
import Derived.Test.YtklmgcjamifmaaaGreatDoorNLmc
import Derived.Orders
import Derived.OrdersHeld
import Derived.Laws.StructEq
import Derived.WalkKit
import Derived.ProofKit
import Derived.OpenShut
import Derived.ShutString
import Derived.ChangeOld
import Derived.Below
import Derived.JoinedCond
import Derived.Lib.Bytealg
set_option linter.unusedVariables false
set_option linter.unusedSimpArgs false
namespace Go.LM
section
variable{P:Program}{Q:Exit→Act→World→Prop}
variable{w0:World}{F0 Z0:ah}{n:cB}{s ar:aq}{a b6:Act}{w w':World}{ι bd:Nat→bC}{Z Z':ah}
variable{E:Env}{o:Oper}{bs : Type}{K:aq→Option bs}{r : bs}{id:Nat}
def gL(w0:World)(F0 Z0:ah)(n:cB)(K:aq→Option bs)(r : bs)(a:Act)(w:World):Prop:=∃s,K s=some r∧cV w0 F0 Z0 n s a w
theorem P6(hn:E.n=n)(h:xG E o=true):∀k,o.dst=some k→k<n:=by
 intro k hk
 unfold xG at h
 rw [hk] at h
 rw [← hn]
 exact Nat.le_of_ble_eq_true h
theorem Inv.P7(h:Inv w0 F0 Z0 n s a w ι Z){d:Nat}{b:Bool}(hb:s.t d=.aU (.bool b)):Inv w0 F0 Z0 n (s.set d (.aU (.bool b))) a w ι Z∧a.tmps.getD d undef=.bool b:=by
 have ag:=h.tmps d
 rw [hb] at ag
 have i_:a.tmps.getD d undef=.bool b:=by simpa only [aQ,cf] using ag
 refine⟨h.tmp rfl (fun k=>?_) h.size h.defers,i_⟩
 have hm:eD w Z s ι w Z (s.set d (.aU (.bool b))) ι := G7 rfl
 show aQ w Z (s.set d (.aU (.bool b))) ι (bQ s.t d (.aU (.bool b)) k) (a.tmps.getD k undef)
 by_cases hk:d=k
 ·subst hk;rw [cw,i_];simp only [aQ,cf]
 ·rw [cO hk];exact(h.tmps k).move hm
theorem P8(h:Inv w0 F0 Z0 n s a w ι Z)(ag:∀k,o.dst=some k→k<n):cV w0 F0 Z0 n (s.dst o.dst .gone) (a.put o.dst undef) w :=
 ⟨ι,Z,h.dst (by simp only [aQ]) ag⟩
theorem P9{ops:Array Oper}(bL:jt P E)(hn:E.n=n)(h:Inv w0 F0 Z0 n s a w ι Z)(hk:sL E id ops.toList o s K=some r) :
  if Region.wanted o (yielded ops a.tmps) then o.wp P a w (gL w0 F0 Z0 n K r) Q else gL w0 F0 Z0 n K r (a.put o.dst undef) w:=by
 unfold sL at hk
 cases tj:xG E o
 ·rw [tj] at hk;cases hk
 rw [tj] at hk
 simp only [cond_true] at hk
 have ag:=P6 hn tj
 have lq:∀ {s1:aq},Inv w0 F0 Z0 n s1 a w ι Z→cQ E id o s1 K=some r→o.wp P a w (gL w0 F0 Z0 n K r) Q:=by
  intro s1 h1 hk1
  obtain ⟨ar,h2,h3⟩:=Y' (Q:=Q) bL h1 ag hk1
  exact Oper.wp_mono (fun a w hs=>⟨ar,h2,hs⟩) h3
 have bO:∀ {s1:aq},Inv w0 F0 Z0 n s1 a w ι Z→K (s1.dst o.dst .gone)=some r→gL w0 F0 Z0 n K r (a.put o.dst undef) w:=fun h1 hk1=>⟨_,hk1,P8 h1 ag⟩
 unfold guardOf at hk
 cases aA:o.guard with
 | none =>
  rw [aA] at hk
  simp only at hk
  rw [if_pos (by simp [Region.wanted,aA])]
  exact lq h hk
 | some IC =>
  obtain ⟨j,wt⟩:=IC
  rw [aA] at hk
  simp only at hk
  cases hj:(ops.toList[j]?).bind (·.dst) with
  | none=>rw [hj] at hk;simp at hk
  | some d =>
   rw [hj] at hk
   simp only at hk
   cases hst:s.t d with
   | aU c =>
    cases c with
    | bool b =>
     rw [hst] at hk
     simp only at hk
     obtain ⟨h1,h2⟩:=h.P7 hst
     have aO:yielded ops a.tmps j=some b:=by
      unfold yielded
      rw [Array.getElem?_toList] at hj
      rw [hj]
      simp only [av]
      have cz:d<a.tmps.size:=by
       rcases Nat.lt_or_ge d a.tmps.size with h | h
       ·exact h
       ·rw [Array.getD_eq_getD_getElem?,Array.getElem?_eq_none h] at h2
        simp [undef] at h2
      rw [Array.getD_eq_getD_getElem?,Array.getElem?_eq_getElem cz] at h2
      rw [Array.getElem?_eq_getElem cz]
      simp only [Option.getD_some] at h2
      rw [h2]
     have hw:Region.wanted o (yielded ops a.tmps)=(b==wt):=by
      simp only [Region.wanted,aA,aO]
      cases b <;> cases wt <;> rfl
     rw [hw]
     cases b <;> cases wt <;> simp only [cond_true,cond_false] at hk
     ·exact lq h1 hk
     ·exact bO h1 hk
     ·exact bO h1 hk
     ·exact lq h1 hk
    | _=>rw [hst] at hk;simp at hk
   | gone =>
    rw [hst] at hk
    simp only at hk
    have h2:=h.tmps d
    rw [hst] at h2
    simp only [aQ] at h2
    have aO:yielded ops a.tmps j=none:=by
     unfold yielded
     rw [Array.getElem?_toList] at hj
     rw [hj]
     simp only [av]
     rw [Array.getD_eq_getD_getElem?] at h2
     cases ij:a.tmps[d]? with
     | none=>rfl
     | some v=>rw [ij] at h2;simp only [Option.getD_some] at h2;subst h2;rfl
    have hw:Region.wanted o (yielded ops a.tmps)=false:=by
     simp only [Region.wanted,aA,aO]
     cases wt <;> rfl
    rw [hw]
    exact bO h hk
   | _=>rw [hst] at hk;simp at hk
theorem BE{ops:Array Oper}{R:Exit→Act→World→Prop}{i m:Nat}(hi:ops[i]?=some o)(aA:o.guard=none)(h:o.wp P a w (fun a w=>wpOps P ops R (List.range' (i+1) m) a w) R):wpOps P ops R (List.range' i (m+1)) a w:=by
 rw [List.range'_succ]
 simp only [wpOps,hi]
 rw [if_pos (by simp [Region.wanted,aA])]
 exact .inl h
theorem ID{bA:Nat}{ops:Array Oper}(bL:jt P E)(hn:E.n=n):∀(m:Nat) (l:List Oper) (i:Nat) (s:aq) (a:Act) (w:World),l.length≤m→ops.toList.drop i=l→sM E bA ops.toList l i 0 s K=some r→cV w0 F0 Z0 n s a w →
  wpOps P ops (fun e a w=>e=.normal∧gL w0 F0 Z0 n K r a w) (List.range' i l.length) a w
 | _,[],i,s,a,w,_,_,hk,hs=>⟨rfl,s,hk,hs⟩
 | 0,_ :: _,_,_,_,_,hm,_,_,_=>by simp at hm
 | m+1,o :: l,i,s,a,w,hm,hl,hk,⟨ι,Z,h⟩=>by
  have hm:l.length≤m:=by simpa using hm
  have BF:∀(j:Nat) (o:Oper) (l:List Oper),ops.toList.drop j=o :: l→ops[j]?=some o∧ops.toList.drop (j+1)=l:=by
   intro j o l hl
   refine⟨?_,by rw [← List.drop_drop,hl];rfl⟩
   rw [← Array.getElem?_toList]
   have:=congrArg (·[0]?) hl
   simpa using this
  obtain ⟨hi,fT⟩:=BF i o l hl
  simp only [sM] at hk
  cases bX:N9 E s o
  ·rw [bX] at hk
   simp only [cond_false] at hk
   rw [List.length_cons,List.range'_succ]
   have nZ:=P9 (Q:=fun e a w=>e=.normal∧gL w0 F0 Z0 n K r a w) bL hn h hk
   simp only [wpOps,hi]
   have qd:∀a w,gL w0 F0 Z0 n (fun ar=>sM E bA ops.toList l (i+1) 0 ar K) r a w→wpOps P ops (fun e a w=>e=.normal∧gL w0 F0 Z0 n K r a w) (List.range' (i+1) l.length) a w:=by
    rintro a w ⟨ar,h1,h2⟩
    exact ID bL hn m l (i+1) ar a w hm fT h1 h2
   split
   ·rename_i hw
    rw [if_pos hw] at nZ
    exact .inl (Oper.wp_mono qd nZ)
   ·rename_i hw
    rw [if_neg hw] at nZ
    exact qd _ _ nZ
  ·rw [bX] at hk
   simp only [cond_true] at hk
   obtain ⟨dy,eC,eP,l',rfl,g0,g1,g2,g3,lR⟩:=ZA (Q:=fun e a w=>e=.normal∧gL w0 F0 Z0 n K r a w) bL hn h hk
   obtain ⟨gu,hl1⟩:=BF _ _ _ fT
   obtain ⟨gr,dO⟩:=BF _ _ _ hl1
   obtain ⟨vC,IE⟩:=BF _ _ _ dO
   refine BE hi g0 (Oper.wp_mono (fun a w h=>BE gu g1 (Oper.wp_mono (fun a w h=>BE gr g2 (Oper.wp_mono (fun a w h=>BE vC g3 (Oper.wp_mono (fun a w h=>?_) h)) h)) h)) lR)
   obtain ⟨ar,h1,h2⟩:=h
   exact ID bL hn m l' (i+1+1+1+1) ar a w (by simp at hm;omega) IE h1 h2
theorem ZL{bA:Nat}{ops:Array Oper}(bL:jt P E)(hn:E.n=n)(l:List Oper)(i:Nat)(s:aq)(a:Act)(w:World)(hl:ops.toList.drop i=l)(hk:GW E bA ops.toList l i s K=some r)(hs:cV w0 F0 Z0 n s a w) :
  wpOps P ops (fun e a w=>e=.normal∧gL w0 F0 Z0 n K r a w) (List.range' i l.length) a w:=ID bL hn l.length l i s a w (Nat.le_refl _) hl hk hs
theorem ZM{bA:Nat}{ops:Array Oper}(bL:jt P E)(hn:E.n=n)(hk:GW E bA ops.toList ops.toList 0 s K=some r)(hs:cV w0 F0 Z0 n s a w)(b:Frame)(k:List Item)(cs:List Frame) :
  ∃b6 w',gL w0 F0 Z0 n K r b6 w'∧Steps P (lone (b.at a (.code (.region bA ops false) :: k)) cs w) (lone (b.at b6 k) cs w'):=by
 have h:=ZL (w0:=w0) (F0:=F0) (Z0:=Z0) (n:=n) bL hn ops.toList 0 s a w rfl hk hs
 have h':wpOps P ops (fun e a w=>e=.normal∧gL w0 F0 Z0 n K r a w) (List.range ops.size) a w:=by
  rw [List.range_eq_range'];simpa using h
 obtain ⟨e,b6,w',⟨rfl,hl⟩,harr⟩:=wp_ops _ a w h' b k cs
 exact⟨b6,w',hl,.head step_region harr⟩
end
end Go.LM
namespace Go.LM
section
variable{P:Program}{ops:Array Oper}{Q:Exit→Act→World→Prop}
abbrev fw:=List (Nat×(World→Prop))
def fw.after(ops:Array Oper)(j:Nat)(p:fw):fw:=p.filter fun x => !waits ops j x.1
def fw.ok(p:fw)(w:World):Prop:=∀x∈p,x.2 w
def n1(P:Program)(ops:Array Oper)(Q:Exit→Act→World→Prop):Nat→Array Bool→fw→Act→World→Prop
 | 0,listed,_,a,w=>Region.ready .any ops listed=[]∧Q .normal a w
 | fuel+1,listed,iA,a,w =>
  (Region.ready .any ops listed=[]→Q .normal a w) ∧
  ∀j∈Region.ready .any ops listed,wpOp P ops Q j (fun b6 w'=>(iA.after ops j).ok w'∧n1 P ops Q fuel (listed.setIfInBounds j true) (iA.after ops j) b6 w') a w
theorem P_:∀(fuel:Nat) (listed:Array Bool) (iA:fw) (a:Act) (w:World),n1 P ops Q fuel listed iA a w→wpAny P .any ops Q fuel listed a w
 | 0,_,_,_,_,h=>h
 | fuel+1,_,_,_,_,h=>⟨h.1,fun i hi=>wpOp_mono (fun b6 w' h'=>P_ fuel _ _ b6 w' h'.2) (h.2 i hi)⟩
theorem fw.P'{p q:fw}(h:∀x∈p,x∈q)(j:Nat):∀x∈p.after ops j,x∈q.after ops j:=by
 intro x hx
 unfold fw.after at *
 rw [List.mem_filter] at *
 exact⟨h x hx.1,hx.2⟩
theorem Qa:∀(fuel:Nat) (listed:Array Bool) (p q:fw) (a:Act) (w:World),(∀x∈p,x∈q)→n1 P ops Q fuel listed q a w→n1 P ops Q fuel listed p a w
 | 0,_,_,_,_,_,_,h=>h
 | fuel+1,_,p,q,_,_,hs,h=>⟨h.1,fun i hi=>wpOp_mono (fun b6 w' h'=>⟨fun x hx=>h'.1 x (fw.P' hs i x hx),Qa fuel _ _ _ b6 w' (fw.P' hs i) h'.2⟩) (h.2 i hi)⟩
theorem fw.IF{p:fw}{j:Nat}{x:Nat×(World→Prop)}(hx:x∈p.after ops j):x∈p:=(List.mem_filter.1 hx).1
theorem ZN{i:Nat}{l7:Oper}{v:Value}{S:World→Prop}(hi:ops[i]?=some l7)(v7:∀(j:Nat) (o:Oper) cs b,ops[j]?=some o→o.op≠.select cs b)
  (m1:∀c a w,Q (.panic c) (a.put l7.dst v) w→Q (.panic c) a w) :
  ∀(fuel:Nat) (listed:Array Bool) (iA:fw) (a:Act) (w:World),
   (∀j m2,ops[j]?=some m2→j≠i→listed.getD j true=false→(∀e∈m2.after,Region.binds .any e=true→e.on≠i)→l7.apart ops m2=true) →
   i∈Region.ready .any ops listed→YieldsIf P ops S l7 v a→S w→iA.ok w →
   n1 P ops Q fuel (listed.setIfInBounds i true) ((i,S) :: iA) (a.put l7.dst v) w→n1 P ops Q (fuel+1) listed iA a w:=by
 intro fuel
 induction fuel with
 | zero =>
  intro listed iA a w _ hr aO dN au H
  refine⟨fun h=>(by rw [h] at hr;cases hr),fun j hj=>?_⟩
  by_cases lp:j=i
  ·subst lp;exact aO.wpOp hi dN ⟨fun x hx=>au x (fw.IF hx),H⟩
  ·have:=ready_mono hj lp
   rw [H.1] at this
   cases this
 | succ fuel ih =>
  intro listed iA a w eZ hr aO dN au H
  refine⟨fun h=>(by rw [h] at hr;cases hr),fun j hj=>?_⟩
  by_cases lp:j=i
  ·subst lp
   exact aO.wpOp hi dN ⟨fun x hx=>au x (fw.IF hx),Qa _ _ _ _ _ _ (fun x hx=>List.mem_cons_of_mem _ (fw.IF hx)) H⟩
  ·have h1:=H.2 j (ready_mono hj lp)
   obtain ⟨Qb,m2,BG,p9⟩:=mem_ready.1 hj
   have Qc:∀e∈m2.after,Region.binds .any e=true→e.on≠i:=fun e he hb heq=>by
    have h1:=p9 e he hb
    have h0:=(mem_ready.1 hr).1
    rw [heq] at h1
    rcases Nat.lt_or_ge i listed.size with h' | h'
    ·simp [h'] at h0 h1;rw [h0] at h1;cases h1
    ·simp [Array.getElem?_eq_none h'] at h1
   have ZO:waits ops j i=false:=by
    unfold waits
    rw [BG]
    simp only
    rw [Bool.eq_false_iff]
    intro ZP
    obtain ⟨e,he,hb⟩:=Array.any_eq_true'.1 ZP
    simp only [Bool.and_eq_true] at hb
    exact Qc e he hb.1 (Nat.eq_of_beq_eq_true hb.2)
   have ZQ:fw.after ops j ((i,S) :: iA)=(i,S) :: iA.after ops j:=by
    unfold fw.after
    rw [List.filter_cons_of_pos (by simp [ZO])]
   rw [ZQ] at h1
   have h2:=wpOp_putIf BG (eZ j m2 BG lp Qb Qc) (fun cs b=>v7 i l7 cs b hi) (fun cs b=>v7 j m2 cs b BG) m1 aO h1
   have ZR:∀k ok,ops[k]?=some ok→k≠i→(listed.setIfInBounds j true).getD k true=false →
     (∀e∈ok.after,Region.binds .any e=true→e.on≠i)→l7.apart ops ok=true:=fun k ok hk hQ qe bO=>by
    refine eZ k ok hk hQ ?_ bO
    by_cases lj:j=k
    ·subst lj;exact Qb
    ·rw [getD_set_ne true lj] at qe;exact qe
   refine wpOp_mono (fun b6 w' h3=>⟨fun x hx=>h3.2.1 x (List.mem_cons_of_mem _ hx),ih (listed.setIfInBounds j true) _ b6 w' ZR (ready_mono hr (Ne.symm lp)) h3.1 (h3.2.1 _ List.mem_cons_self) (fun x hx=>h3.2.1 x (List.mem_cons_of_mem _ hx)) ?_⟩) h2
   rw [Array.setIfInBounds_comm _ _ lp]
   exact h3.2.2
end
end Go.LM
namespace Go.LM
section
variable{P:Program}{Q:Exit→Act→World→Prop}
variable{w0:World}{F0 Z0:ah}{n:cB}{s ar:aq}{a b6:Act}{w w':World}{ι bd:Nat→bC}{Z Z':ah}
variable{E:Env}{o:Oper}{bs : Type}{K:aq→Option bs}{r : bs}{id:Nat}
structure cB.le(p q:cB):Prop where
 n:q.n=p.n
 pT:q.pT=p.pT
 gc:∀e,e∈p.gc→e∈q.gc
theorem cB.le.refl(n:cB):cB.le n n:=⟨rfl,rfl,fun _ h=>h⟩
theorem cB.le.trans{a b c:cB}(h:cB.le a b)(k:cB.le b c):cB.le a c:=⟨k.n.trans h.n,k.pT.trans h.pT,fun e he=>k.gc e (h.gc e he)⟩
theorem Inv.forget{d':cB}(h:Inv w0 F0 Z0 d' s a w ι Z)(hl:cB.le n d'):Inv w0 F0 Z0 n s a w ι Z :=
 ⟨h.ext,h.dz,h.q8,h.iC,h.fC,h.own,h.apart,h.c0,h.tmps,by rw [h.size,hl.n],by rw [← hl.pT];exact h.ghost,fun e he=>h.seen e (hl.gc e he),h.defers⟩
theorem Inv.Qd(h:Inv w0 F0 Z0 n s a w ι Z){e:Seen}(he:sR w Z s ι e):Inv w0 F0 Z0 ⟨n.n,n.pT,e :: n.gc⟩ s a w ι Z :=
 ⟨h.ext,h.dz,h.q8,h.iC,h.fC,h.own,h.apart,h.c0,h.tmps,h.size,h.ghost,fun x hx=>by rcases List.mem_cons.1 hx with rfl | hx;exact he;exact h.seen x hx,h.defers⟩
theorem Qe(n:cB)(e:Seen):cB.le n ⟨n.n,n.pT,e :: n.gc⟩:=⟨rfl,rfl,fun _ h=>List.mem_cons_of_mem _ h⟩
def ry(n:cB)(dp:List (Nat×Nat))(S:World→Prop):Prop:=(∀w,S w)∨∃b i vs,(⟨dp,b,i,vs⟩:Seen)∈n.gc∧S=fun w=>b4 w b i vs
theorem ry.le{d':cB}{dp:List (Nat×Nat)}{S:World→Prop}(h:ry n dp S)(hl:cB.le n d'):ry d' dp S :=
 h.imp (fun h=>h) fun⟨b,i,vs,h1,h2⟩=>⟨b,i,vs,hl.gc _ h1,h2⟩
def Reads(P:Program)(w0:World)(F0 Z0:ah)(n:cB)(dp:List (Nat×Nat))(o:Oper)(a:Act)(w:World)(ar:aq):Prop :=
 ∃v S d',(∀w',S w'→(execOp a.eval o).run P w'=.ok (.value v) w')∧S w∧cV w0 F0 Z0 d' ar (a.put o.dst v) w∧cB.le n d'∧ry d' dp S
theorem Pure.reads{dp:List (Nat×Nat)}(h:Pure P o a w (cV w0 F0 Z0 n ar)):Reads P w0 F0 Z0 n dp o a w ar:=by
 obtain ⟨v,h1,h2⟩:=h
 exact⟨v,fun _=>True,n,fun w' _=>h1 w',trivial,h2,.refl n,.inl fun _=>trivial⟩
theorem ZS{t:Nat}{x:Operand}(bX:gI P E)(h:Inv w0 F0 Z0 n s a w ι Z)(ag:∀k,o.dst=some k→k<n)(ho:o.op=.load t x)(hk:cQ E id o s K=some r) :
  ∃ar,K ar=some r∧Reads P w0 F0 Z0 n (iz s o) o a w ar:=by
 unfold cQ at hk
 rw [ho] at hk
 simp only at hk
 have hx:=eT h x
 have hrun:∀ {T:ae} {b i:Nat} {vs:List Value} {w':World},E.ty t=some T→a.eval x=.pointer (some (at_ b i))→b4 w' b i vs→vs.length=T.size →
   (execOp a.eval o).run P w'=.ok (.value (dB T vs)) w':=by
  intro T b i vs w' ht he hc hl
  unfold execOp;rw [ho]
  refine fH ?_
  simp only [Instr.loadAt,Instr.sureAddr,he,run_bind,run_pure,Hm (bX.ty t T ht) hc hl]
 cases ht:E.ty t with
 | none=>rw [ht] at hk;simp at hk
 | some T =>
  rw [ht] at hk
  cases cJ:bT s x with
  | ptr p =>
   have mJ:iz s o=[(p.id,j7 s p.id)]:=by unfold iz;rw [ho];simp only [cJ]
   rw [cJ] at hk hx
   simp only at hk
   cases c2:(lK s T.size p).bind (jE T) with
   | none=>rw [c2] at hk;simp at hk
   | some v =>
    rw [c2] at hk
    obtain ⟨cs,h1,h2⟩:=bf c2
    simp only [aQ] at hx
    obtain ⟨_,A,he,au⟩:=hx
    obtain ⟨b,i,vs,rfl,hc,cl,hl,b8,hF⟩:=Pp h h1 au
    have IG:sR w Z s ι ⟨iz s o,b,i,vs⟩:=by
     rw [mJ]
     refine⟨fun d ag=>?_,fun _=>⟨cl,fun j hj=>.inr ⟨_,List.mem_singleton.2 rfl,hF j (by simp only at hj;omega)⟩⟩⟩
     rw [List.mem_singleton] at ag
     subst ag
     exact⟨fun hn=>by rw [hn] at b8;exact b8,.inr (Nat.le_refl _)⟩
    exact⟨_,hk,_,fun w'=>b4 w' b i vs,_,fun w' hw=>hrun ht he hw hl,cl,⟨ι,Z,(h.Qd IG).dst (oO h2 hc) ag⟩,Qe n ⟨iz s o,_,_,_⟩,.inr ⟨b,i,vs,List.mem_cons_self,rfl⟩⟩
  | dg dp cs off =>
   have mJ:iz s o=dp:=by unfold iz;rw [ho];simp only [cJ]
   rw [cJ] at hk hx
   simp only at hk
   cases c2:(takeN off T.size cs).bind (jE T) with
   | none=>rw [c2] at hk;simp at hk
   | some v =>
    rw [c2] at hk
    simp only at hk
    cases dQ:alive s dp
    ·rw [dQ] at hk;simp at hk
    rw [dQ] at hk
    obtain ⟨ds,h1,h2⟩:=bf c2
    obtain ⟨h3,rfl⟩:=oL h1
    simp only [aQ] at hx
    obtain ⟨ca,b,i,vs,he,hx⟩:=hx
    obtain ⟨hc,cl,hz⟩:=hx dQ
    have hlen:=hc.len
    have Qf:b4 w b (i+off) (part vs off T.size):=cl.part off T.size
    have fI:(part vs off T.size).length=T.size:=by simp [part];omega
    have IG:sR w Z s ι ⟨iz s o,b,i+off,part vs off T.size⟩:=by
     rw [mJ]
     refine⟨ca,fun _=>⟨Qf,fun j hj=>?_⟩⟩
     simp only at hj
     rw [fI] at hj
     have:=hz (off+j) (by omega)
     rwa [← Nat.add_assoc] at this
    exact⟨_,hk,_,fun w'=>b4 w' b (i+off) (part vs off T.size),_,fun w' hw=>hrun ht he hw fI,Qf,⟨ι,Z,(h.Qd IG).dst (oO h2 ((hc.drop _).take _)) ag⟩,Qe n ⟨iz s o,_,_,_⟩,.inr ⟨b,i+off,part vs off T.size,List.mem_cons_self,rfl⟩⟩
  | _=>rw [cJ] at hk;simp at hk
theorem ZT(bL:jt P E)(h:Inv w0 F0 Z0 n s a w ι Z)(ag:∀k,o.dst=some k→k<n)(c2:sN E o=true)(hk:cQ E id o s K=some r) :
  ∃ar,K ar=some r∧Reads P w0 F0 Z0 n (iz s o) o a w ar:=by
 have e4:(∃ar,K ar=some r∧Pure P o a w (cV w0 F0 Z0 n ar))→∃ar,K ar=some r∧Reads P w0 F0 Z0 n (iz s o) o a w ar:=fun⟨ar,h1,h2⟩=>⟨ar,h1,h2.reads⟩
 unfold sN at c2
 cases ho:o.op with
 | move x=>exact e4 (AU h ag (.inl ho) hk)
 | assign x=>exact e4 (AU h ag (.inr ho) hk)
 | pick c x y=>exact e4 (Ow h ag ho hk)
 | load t x=>exact ZS bL.ty h ag ho hk
 | nilCheck x=>exact e4 (Oy h ag ho hk)
 | binOp op t x y AZ=>exact e4 (OQ bL.ty bL.eq h ag ho hk)
 | unOp op t x=>exact e4 (OM h ag ho hk)
 | convert st fY x =>
  rw [ho] at c2
  simp only at c2
  cases h1:E.ty st with
  | none=>rw [h1] at c2;simp at c2
  | some S =>
   cases h2:E.ty fY with
   | none=>rw [h1,h2] at c2;cases S <;> simp at c2
   | some T =>
    rw [h1,h2] at c2
    cases S <;> cases T <;> simp only at c2 <;> first | (cases c2;done) | exact e4 (Ye bL.ty h ag ho h1 h2 hk)
 | build t ps=>exact e4 (O6 bL.ty h ag ho hk)
 | makeFunc f first kU =>
  cases f with
  | func f=>exact e4 (OD h ag ho hk)
  | _=>unfold cQ at hk;rw [ho] at hk;simp at hk
 | slice t x lo hi gE=>exact e4 (OI bL.ty h ag ho hk)
 | fieldAddr t x f=>exact e4 (OA bL.ty h ag ho hk)
 | field t x f=>exact e4 (OB bL.ty h ag ho hk)
 | indexAddr t x i=>exact e4 (OE bL.ty h ag ho hk)
 | index t x i=>exact e4 (OF bL.ty h ag ho hk)
 | extract x i=>exact e4 (OC h ag ho hk)
 | call c =>
  rw [ho] at c2
  simp only at c2
  cases hc:c.callee with
  | builtin b =>
   rw [hc] at c2
   by_cases hb:b=.append
   ·subst hb;simp at c2
   ·by_cases hb2:b=.clear
    ·subst hb2;simp at c2
    ·exact e4 (O0 bL.ty h ag ho hc hb hb2 hk)
  | value f=>rw [hc] at c2;simp at c2
  | invoke x m=>rw [hc] at c2;simp at c2
 | _=>rw [ho] at c2;simp at c2
theorem ZU{d:Nat}{c:a6}(hst:s.t d=c)(x:Operand):bT (s.set d c) x=bT s x:=by
 cases x with
 | tmp t =>
  show bQ s.t d c t=s.t t
  by_cases ag:d=t
  ·subst ag;rw [cw,hst]
  ·rw [cO ag]
 | _=>rfl
theorem Qg{d:Nat}{c:a6}(hst:s.t d=c):iz (s.set d c) o=iz s o:=by
 unfold iz
 cases ho:o.op <;> simp only
 rename_i t x
 rw [ZU hst]
 rfl
theorem ZV{ops:Array Oper}(bL:jt P E)(hn:E.n=n)(c2:sN E o=true)(h:Inv w0 F0 Z0 n s a w ι Z)(hk:sL E id ops.toList o s K=some r) :
  ∃ar v S d',K ar=some r∧YieldsIf P ops S o v a∧S w∧cV w0 F0 Z0 d' ar (a.put o.dst v) w∧cB.le n d'∧ry d' (iz s o) S:=by
 unfold sL at hk
 cases tj:xG E o
 ·rw [tj] at hk;cases hk
 rw [tj] at hk
 simp only [cond_true] at hk
 have ag:=P6 hn tj
 have lq:∀ {s1:aq},Region.wanted o (yielded ops a.tmps)=true→iz s1 o=iz s o→Inv w0 F0 Z0 n s1 a w ι Z→cQ E id o s1 K=some r→∃ar v S d',K ar=some r∧YieldsIf P ops S o v a∧S w∧cV w0 F0 Z0 d' ar (a.put o.dst v) w∧cB.le n d'∧ry d' (iz s o) S:=by
  intro s1 hw he h1 hk1
  obtain ⟨ar,h2,v,S,d',h3,h4,a7,bj,bE⟩:=ZT bL h1 ag c2 hk1
  exact⟨ar,v,S,d',h2,.inl ⟨hw,h3⟩,h4,a7,bj,he ▸ bE⟩
 have bO:∀ {s1:aq},Region.wanted o (yielded ops a.tmps)=false→Inv w0 F0 Z0 n s1 a w ι Z→K (s1.dst o.dst .gone)=some r→∃ar v S d',K ar=some r∧YieldsIf P ops S o v a∧S w∧cV w0 F0 Z0 d' ar (a.put o.dst v) w∧cB.le n d'∧ry d' (iz s o) S:=fun hw h1 hk1 =>
  ⟨_,undef,fun _=>True,n,hk1,.inr ⟨hw,rfl⟩,trivial,P8 h1 ag,.refl n,.inl fun _=>trivial⟩
 unfold guardOf at hk
 cases aA:o.guard with
 | none =>
  rw [aA] at hk
  simp only at hk
  exact lq (by simp [Region.wanted,aA]) rfl h hk
 | some IC =>
  obtain ⟨j,wt⟩:=IC
  rw [aA] at hk
  simp only at hk
  cases hj:(ops.toList[j]?).bind (·.dst) with
  | none=>rw [hj] at hk;simp at hk
  | some d =>
   rw [hj] at hk
   simp only at hk
   cases hst:s.t d with
   | aU c =>
    cases c with
    | bool b =>
     rw [hst] at hk
     simp only at hk
     obtain ⟨h1,h2⟩:=h.P7 hst
     have aO:yielded ops a.tmps j=some b:=by
      unfold yielded
      rw [Array.getElem?_toList] at hj
      rw [hj]
      simp only [av]
      have cz:d<a.tmps.size:=by
       rcases Nat.lt_or_ge d a.tmps.size with h | h
       ·exact h
       ·rw [Array.getD_eq_getD_getElem?,Array.getElem?_eq_none h] at h2
        simp [undef] at h2
      rw [Array.getD_eq_getD_getElem?,Array.getElem?_eq_getElem cz] at h2
      rw [Array.getElem?_eq_getElem cz]
      simp only [Option.getD_some] at h2
      rw [h2]
     have hw:Region.wanted o (yielded ops a.tmps)=(b==wt):=by
      simp only [Region.wanted,aA,aO]
      cases b <;> cases wt <;> rfl
     cases b <;> cases wt <;> simp only [cond_true,cond_false] at hk
     ·exact lq hw (Qg hst) h1 hk
     ·exact bO hw h1 hk
     ·exact bO hw h1 hk
     ·exact lq hw (Qg hst) h1 hk
    | _=>rw [hst] at hk;simp at hk
   | gone =>
    rw [hst] at hk
    simp only at hk
    have h2:=h.tmps d
    rw [hst] at h2
    simp only [aQ] at h2
    have aO:yielded ops a.tmps j=none:=by
     unfold yielded
     rw [Array.getElem?_toList] at hj
     rw [hj]
     simp only [av]
     rw [Array.getD_eq_getD_getElem?] at h2
     cases ij:a.tmps[d]? with
     | none=>rfl
     | some v=>rw [ij] at h2;simp only [Option.getD_some] at h2;subst h2;rfl
    have hw:Region.wanted o (yielded ops a.tmps)=false:=by
     simp only [Region.wanted,aA,aO]
     cases wt <;> rfl
    exact bO hw h hk
   | _=>rw [hst] at hk;simp at hk
theorem ZW{a b:Option bs}(h:both a b=some r):a=some r∧b=some r:=by
 unfold both at h
 split at h
 ·rename_i he;subst he;exact⟨h,h⟩
 ·cases h
theorem Qh:∀ {l:List (Option bs)},AN l=some r→∀x∈l,x=some r
 | [x],h,y,aO=>by rw [List.mem_singleton] at aO;rw [aO];exact h
 | x :: z :: l,h,y,aO=>by
  simp only [AN] at h
  obtain ⟨h1,h2⟩:=ZW h
  rcases List.mem_cons.1 aO with rfl | aO
  ·exact h1
  ·exact Qh (l:=z :: l) h2 y aO
def v8(n:cB)(p:List (Nat×List (Nat×Nat)))(q:fw):Prop:=∀x∈q,∃dp,(x.1,dp)∈p∧ry n dp x.2
theorem v8.le{d':cB}{p:List (Nat×List (Nat×Nat))}{q:fw}(h:v8 n p q)(hl:cB.le n d'):v8 d' p q :=
 fun x hx=>let ⟨dp,h1,h2⟩:=h x hx;⟨dp,h1,h2.le hl⟩
theorem IH:∀ {p:List (Nat×List (Nat×Nat))},sO s p=true→∀x∈p,alive s x.2=true
 | [],_,_,hx=>by simp at hx
 | y :: p,h,x,hx=>by
  unfold sO at h
  cases ha:alive s y.2
  ·rw [ha] at h;cases h
  ·rw [ha] at h
   rcases List.mem_cons.1 hx with rfl | hx
   ·exact ha
   ·exact IH h x hx
theorem ZX{bA:Nat}{ops:Array Oper}(bL:jt P E){m:Nat}{listed:Array Bool}{p:List (Nat×List (Nat×Nat))}{q:fw}{d':cB}{rs:List Nat}(hn:E.n=d')(hle:cB.le n d')(hr:Region.ready .any ops listed=rs)
  (h:Inv w0 F0 Z0 d' s a w ι Z) (au:v8 d' p q) (hk:G0 E bA ops listed p rs s K=some r):n1 P ops (fun e a w=>e=.normal∧gL w0 F0 Z0 n K r a w) (m+3+1) listed q a w:=by
 have BH:∀ {l:List Nat} {i:Nat},one l=some i→l=[i]:=by
  intro l i h
  match l,h with
  | [j],h=>rw [aV (show some j=some i from h)]
 unfold G0 at hk
 obtain ⟨i,h0,hk⟩:=bf hk
 obtain ⟨i1,h1,hk⟩:=bf hk
 obtain ⟨i2,h2,hk⟩:=bf hk
 obtain ⟨i3,h3,hk⟩:=bf hk
 have h0:=hr.trans (BH h0)
 have h1:=BH h1
 have h2:=BH h2
 have h3:=BH h3
 generalize hl1:listed.setIfInBounds i true=dP at hk h1 h2 h3
 generalize dO:dP.setIfInBounds i1 true=eF at hk h2 h3
 generalize IE:eF.setIfInBounds i2 true=nR at hk h3
 generalize ZY:nR.setIfInBounds i3 true=oN at hk
 cases hb:((Region.ready .any ops oN).isEmpty&&((p.filter fun p => !waits ops i p.1).filter fun p => !waits ops i1 p.1).isEmpty)
 ·rw [hb] at hk;cases hk
 rw [hb] at hk
 simp only [cond_true] at hk
 simp only [Bool.and_eq_true,List.isEmpty_iff] at hb
 obtain ⟨h4,ZZ⟩:=hb
 obtain ⟨o,ho,hk⟩:=bf hk
 obtain ⟨dy,l4,hk⟩:=bf hk
 obtain ⟨eC,jJ,hk⟩:=bf hk
 obtain ⟨eP,p_,hk⟩:=bf hk
 obtain ⟨g0,g1,g2,g3,lR⟩:=ZJ (Q:=fun e a w=>e=.normal∧gL w0 F0 Z0 n K r a w) bL hn h hk
 have step:∀ {fuel j:Nat} {m2:Oper} {l:Array Bool} {q:fw} {a:Act} {w:World},Region.ready .any ops l=[j]→ops[j]?=some m2→m2.guard=none →
   m2.wp P a w (fun b6 w'=>(q.after ops j).ok w'∧n1 P ops (fun e a w=>e=.normal∧gL w0 F0 Z0 n K r a w) fuel (l.setIfInBounds j true) (q.after ops j) b6 w') (fun e a w=>e=.normal∧gL w0 F0 Z0 n K r a w) →
   n1 P ops (fun e a w=>e=.normal∧gL w0 F0 Z0 n K r a w) (fuel+1) l q a w:=by
  intro fuel j m2 l q a w hr hj aA hw
  refine⟨fun h=>(by rw [hr] at h;cases h),fun k hk=>?_⟩
  rw [hr] at hk
  obtain rfl:=List.mem_singleton.1 hk
  unfold wpOp
  simp only [hj]
  rw [if_pos (by simp [Region.wanted,aA])]
  exact .inl hw
 have hL:fw.after ops i1 (fw.after ops i q)=[]:=by
  refine List.eq_nil_iff_forall_not_mem.2 fun x hx=>?_
  obtain ⟨hx,hx1⟩:=List.mem_filter.1 hx
  obtain ⟨hx,hx0⟩:=List.mem_filter.1 hx
  obtain ⟨dp,g1,_⟩:=au x hx
  have:(x.1,dp)∈((p.filter fun p => !waits ops i p.1).filter fun p => !waits ops i1 p.1):=List.mem_filter.2 ⟨List.mem_filter.2 ⟨g1,hx0⟩,hx1⟩
  rw [ZZ] at this
  cases this
 have nil:∀(j:Nat),fw.after ops j []=[]:=fun _=>rfl
 refine step h0 ho g0 (Oper.wp_mono ?_ lR)
 rintro a1 n0 ⟨⟨nL,qb,bd,Z',k2⟩,lR⟩
 refine⟨?_,?_⟩
 ·intro x hx
  obtain ⟨hx1,hx2⟩:=List.mem_filter.1 hx
  obtain ⟨dp,f1,f2⟩:=au x hx1
  rcases f2 with f2 | ⟨b,j,vs,f2,f3⟩
  ·exact f2 n0
  ·rw [f3]
   exact((k2.seen _ f2).2 (IH qb _ (List.mem_filter.2 ⟨f1,hx2⟩))).1
 rw [hl1]
 refine step h1 l4 g1 (Oper.wp_mono ?_ lR)
 intro a2 b7 lR
 rw [hL,dO]
 refine⟨fun x hx=>(by cases hx),step h2 jJ g2 (Oper.wp_mono ?_ lR)⟩
 intro a3 o2 lR
 rw [nil,IE]
 refine⟨fun x hx=>(by cases hx),step h3 p_ g3 (Oper.wp_mono ?_ lR)⟩
 rintro a4 Z1 ⟨ar,e1,PQ,Z2,e2⟩
 rw [nil,ZY]
 refine⟨fun x hx=>(by cases hx),?_⟩
 have hfin:Exit.normal=.normal∧gL w0 F0 Z0 n K r a4 Z1:=⟨rfl,ar,e1,PQ,Z2,e2.forget hle⟩
 cases m with
 | zero=>exact⟨h4,hfin⟩
 | succ m=>exact⟨fun _=>hfin,fun j hj=>(by rw [h4] at hj;cases hj)⟩
theorem II{bA:Nat}{ops:Array Oper}(bL:jt P E)(hs:Region.noSelect ops=true):∀(m:Nat) (listed:Array Bool) (p:List (Nat×List (Nat×Nat))) (q:fw) (d':cB) (s:aq) (a:Act) (w:World),
  E.n=d'→cB.le n d'→sP E bA ops m listed p s K=some r→cV w0 F0 Z0 d' s a w→v8 d' p q→q.ok w →
  n1 P ops (fun e a w=>e=.normal∧gL w0 F0 Z0 n K r a w) m listed q a w
 | 0,listed,p,q,d',s,a,w,hn,hle,hk,⟨ι,Z,h⟩,au,hq=>by
  unfold sP at hk
  cases hr:Region.ready .any ops listed with
  | nil=>rw [hr] at hk;exact⟨hr,rfl,s,hk,ι,Z,h.forget hle⟩
  | cons=>rw [hr] at hk;cases hk
 | m+1,listed,p,q,d',s,a,w,hn,hle,hk,⟨ι,Z,h⟩,au,hq=>by
  unfold sP at hk
  cases hr:Region.ready .any ops listed with
  | nil =>
   rw [hr] at hk
   exact⟨fun _=>⟨rfl,s,hk,ι,Z,h.forget hle⟩,fun j hj=>by rw [hr] at hj;simp at hj⟩
  | cons i0 Qi =>
   rw [hr] at hk
   simp only at hk
   cases hf:(i0 :: Qi).find? fun i=>GX E ops i&&Region.free .any ops listed i with
   | some i =>
    rw [hf] at hk
    simp only at hk
    have h3:=List.find?_some hf
    simp only [Bool.and_eq_true] at h3
    cases ho:ops[i]? with
    | none=>rw [ho] at hk;cases hk
    | some o =>
     rw [ho] at hk
     simp only at hk
     have c2:sN E o=true:=by have:=h3.1;unfold GX at this;rw [ho] at this;exact this
     obtain ⟨ar,v,S,lN,h1,h2,g3,h4,a7,bj⟩:=ZV bL hn c2 h hk
     refine ZN ho (Region.noSelect_spec hs) (fun c a w hh=>by simp at hh) m listed q a w (Region.free_spec ho h3.2) (by rw [hr];exact List.mem_of_find?_eq_some hf) h2 g3 hq ?_
     refine II bL hs m _ _ _ lN ar _ w (hn.trans a7.n.symm) (hle.trans a7) h1 h4 ?_ ?_
     ·intro x hx
      rcases List.mem_cons.1 hx with rfl | hx
      ·exact⟨_,List.mem_cons_self,bj⟩
      ·obtain ⟨dp,g1,g2⟩:=au x hx
       exact⟨dp,List.mem_cons_of_mem _ g1,g2.le a7⟩
     ·intro x hx
      rcases List.mem_cons.1 hx with rfl | hx
      ·exact g3
      ·exact hq x hx
   | none =>
    rw [hf] at hk
    simp only at hk
    cases hA:(N_ s ops (i0 :: Qi)&&Nat.ble 3 m)
    case true =>
     rw [hA] at hk
     simp only [cond_true] at hk
     simp only [Bool.and_eq_true] at hA
     obtain ⟨m',rfl⟩:∃m',m=m'+3:=⟨m-3,by have:=Nat.le_of_ble_eq_true hA.2;omega⟩
     exact ZX bL hn hle hr h au hk
    rw [hA] at hk
    simp only [cond_false] at hk
    refine⟨fun h0=>(by rw [hr] at h0;cases h0),fun j hj=>?_⟩
    rw [hr] at hj
    have hj':=Qh hk _ (List.mem_map.2 ⟨j,hj,rfl⟩)
    cases ho:ops[j]? with
    | none=>rw [ho] at hj';cases hj'
    | some o =>
     rw [ho] at hj'
     simp only at hj'
     cases c2:sN E o
     case true=>rw [c2] at hj';cases hj'
     rw [c2] at hj'
     simp only [cond_false] at hj'
     have nZ:=P9 (Q:=fun e a w=>e=.normal∧gL w0 F0 Z0 n K r a w) bL hn h hj'
     have qd:∀b6 w',gL w0 F0 Z0 d' (fun ar=>cond (sO ar (p.filter fun p => !waits ops j p.1)) (sP E bA ops m (listed.setIfInBounds j true) (p.filter fun p => !waits ops j p.1) ar K) none) r b6 w' →
       (q.after ops j).ok w'∧n1 P ops (fun e a w=>e=.normal∧gL w0 F0 Z0 n K r a w) m (listed.setIfInBounds j true) (q.after ops j) b6 w':=by
      rintro b6 w' ⟨ar,k1,bd,Z',k2⟩
      dsimp only at k1
      cases dQ:sO ar (p.filter fun p => !waits ops j p.1)
      ·rw [dQ] at k1;cases k1
      rw [dQ] at k1
      simp only [cond_true] at k1
      have BI:v8 d' (p.filter fun p => !waits ops j p.1) (q.after ops j):=by
       intro x hx
       obtain ⟨hx1,hx2⟩:=List.mem_filter.1 hx
       obtain ⟨dp,g1,g2⟩:=au x hx1
       exact⟨dp,List.mem_filter.2 ⟨g1,hx2⟩,g2⟩
      have ca:(q.after ops j).ok w':=by
       intro x hx
       obtain ⟨dp,g1,g2⟩:=BI x hx
       rcases g2 with g2 | ⟨b,i,vs,g2,g3⟩
       ·exact g2 w'
       ·rw [g3]
        exact((k2.seen _ g2).2 (IH dQ _ g1)).1
      exact⟨ca,II bL hs m _ _ _ d' ar b6 w' hn hle k1 ⟨bd,Z',k2⟩ BI ca⟩
     unfold wpOp
     simp only [ho]
     split
     ·rename_i hw
      rw [if_pos hw] at nZ
      exact .inl (Oper.wp_mono qd nZ)
     ·rename_i hw
      rw [if_neg hw] at nZ
      exact qd _ _ nZ
theorem Z3{bA:Nat}{ops:Array Oper}(bL:jt P E)(hn:E.n=n)(hk:G4 E bA ops s K=some r)(hs:cV w0 F0 Z0 n s a w)(b:Frame)(k:List Item)(cs:List Frame) :
  ∃b6 w',gL w0 F0 Z0 n K r b6 w'∧Steps P (lone (b.at a (.code (.region bA ops true) :: k)) cs w) (lone (b.at b6 k) cs w'):=by
 unfold G4 at hk
 cases v7:Region.noSelect ops
 ·rw [v7] at hk;cases hk
 rw [v7] at hk
 simp only [cond_true] at hk
 obtain ⟨ι,Z,h⟩:=hs
 have h1:=II (n:=n) bL v7 ops.size _ [] [] n s a { w with drawn:=w.drawn+1 } hn (.refl n) hk ⟨ι,Z,h.drew _⟩ (fun x hx=>by simp at hx) (fun x hx=>by simp at hx)
 obtain ⟨e,b6,w',⟨rfl,hl⟩,harr⟩:=(wp_region_any (id:=bA) bL.mix (P_ _ _ _ _ _ h1)) b k cs
 exact⟨b6,w',hl,harr⟩
end
end Go.LM
namespace Go.LM
section
variable{P:Program}{w0:World}{F0 Z0:ah}{n:cB}{E:Env}{bs : Type}{r : bs}
def lr:Code→List Item→List (Nat×List Item)
 | .region bA ops hI,k=>[(bA,.code (.region bA ops hI) :: k)]
 | .seq a b,k=>lr a (.code b :: k)++lr b k
 | .cond _ x y,k=>lr x k++lr y k
 | .block id c,k=>lr c (.inBlock id :: k)
 | .loop c,k=>lr c (.inLoop c :: k)
 | _,_=>[]
def gz:List Item→List (Nat×List Item)
 | []=>[]
 | .code c :: k=>lr c k++gz k
 | .inLoop c :: k=>lr c (.inLoop c :: k)++gz k
 | _ :: k=>gz k
theorem Qj{id:Nat} : ∀ {k k':List Item},exitTo id k=some k'→∀p,p∈gz k'→p∈gz k
 | [],_,h,_,_=>by simp [exitTo] at h
 | x :: k,k',h,p,au=>by
  have key:(∃i,x=.inBlock i∧k'=k)∨exitTo id k=some k':=by
   cases x with
   | inBlock i =>
    simp only [exitTo] at h
    by_cases hi:(i==id)=true
    ·rw [if_pos hi] at h;exact .inl ⟨i,rfl,(aV h).symm⟩
    ·rw [if_neg hi] at h;exact .inr h
   | _=>exact .inr h
  rcases key with⟨i,rfl,rfl⟩ | hk
  ·exact au
  ·have:=Qj hk p au
   cases x <;> simp only [gz] <;> first | exact this | exact List.mem_append_right _ this
def Qk(H:Hand bs)(cuts:Nat→Bool)(r : bs)(todo:List Item)(s:aq):Prop :=
 (∃bA ops hI k,todo=.code (.region bA ops hI) :: k∧cuts bA=true∧H.cut bA todo s=some r)∨((todo=[]∨∃k,todo=.code .ret :: k)∧H.fin s=some r)
theorem Ql{cuts:Nat→Bool}{H:Hand bs}(bL:jt P E)(hn:E.n=n):∀(fuel:Nat) (first:Bool) (todo:List Item) (s:aq) (a:Act) (w:World),
  jG E cuts H fuel first todo s=some r→cV w0 F0 Z0 n s a w→∀(b:Frame) (cs:List Frame),
  ∃o3 ar b6 w',cV w0 F0 Z0 n ar b6 w'∧Qk H cuts r o3 ar∧(∀p,p∈gz o3→p∈gz todo)∧Steps P (lone (b.at a todo) cs w) (lone (b.at b6 o3) cs w')
 | 0,_,_,_,_,_,hk,_=>by simp [jG] at hk
 | fuel+1,first,todo,s,a,w,hk,hs=>by
  intro b cs
  have ih:=fun first todo s a w hk hs=>Ql (H:=H) (cuts:=cuts) bL hn fuel first todo s a w hk hs b cs
  have one:∀ {todo1:List Item} {first:Bool},(∀p,p∈gz todo1→p∈gz todo)→step P (lone (b.at a todo) cs w)=.next (lone (b.at a todo1) cs w)→jG E cuts H fuel first todo1 s=some r →
    ∃o3 ar b6 w',cV w0 F0 Z0 n ar b6 w'∧Qk H cuts r o3 ar∧(∀p,p∈gz o3→p∈gz todo)∧Steps P (lone (b.at a todo) cs w) (lone (b.at b6 o3) cs w'):=by
   intro todo1 first hcs hst hk1
   obtain ⟨c8,ar,b6,w',h1,h2,h3,h4⟩:=ih first todo1 s a w hk1 hs
   exact⟨c8,ar,b6,w',h1,h2,fun p au=>hcs p (h3 p au),.head hst h4⟩
  unfold jG at hk
  match todo,hk with
  | [],hk=>exact⟨[],s,a,w,hs,.inr ⟨.inl rfl,hk⟩,fun _ h=>h,.refl _ _⟩
  | .inBlock _ :: k,hk=>exact one (todo1:=k) (fun _ h=>h) step_inBlock hk
  | .inLoop c :: k,hk=>exact one (fun p au=>by simp only [gz,List.mem_append] at au ⊢;exact au.elim .inl fun h=>h) step_inLoop hk
  | .code .ret :: k,hk=>exact⟨_,s,a,w,hs,.inr ⟨.inr ⟨k,rfl⟩,hk⟩,fun _ h=>h,.refl _ _⟩
  | .code .skip :: k,hk=>exact one (todo1:=k) (fun _ h=>h) step_skip hk
  | .code (.seq x y) :: k,hk=>exact one (fun p au=>by simp only [gz,lr,List.mem_append] at au ⊢;exact or_assoc.2 au) step_seq hk
  | .code (.block id c) :: k,hk=>exact one (fun p au=>by simpa only [gz,lr] using au) step_block hk
  | .code (.loop c) :: k,hk=>exact one (fun p au=>by simp only [gz,lr,List.mem_append] at au ⊢;exact au.elim .inl fun h=>h) step_loop hk
  | .code (.exit id) :: k,hk =>
   simp only at hk
   cases he:exitTo id k with
   | none=>rw [he] at hk;simp at hk
   | some k'=>rw [he] at hk;exact one (Qj he) (step_exit he) hk
  | .code (.cond c x y) :: k,hk =>
   simp only at hk
   obtain ⟨ι,Z,h⟩:=hs
   have hc:=eT h c
   cases hcv:bT s c with
   | aU jH =>
    cases jH with
    | bool t =>
     rw [hcv] at hk hc
     simp only [aQ,cf] at hc
     have hst:=step_cond (P:=P) (b:=b) (a:=a) (k:=k) (cs:=cs) (w:=w) (x:=x) (y:=y) hc
     cases t with
     | true=>exact one (fun p au=>by simp only [gz,lr,List.mem_append] at au ⊢;exact au.elim (fun h=>.inl (.inl h)) .inr) hst hk
     | false=>exact one (fun p au=>by simp only [gz,lr,List.mem_append] at au ⊢;exact au.elim (fun h=>.inl (.inr h)) .inr) hst hk
    | _=>rw [hcv] at hk;simp at hk
   | _=>rw [hcv] at hk;simp at hk
  | .code (.region bA ops hI) :: k,hk =>
   simp only at hk
   cases iH:(cuts bA && !first)
   ·rw [iH] at hk
    simp only [cond_false] at hk
    have Z4:∃b6 w',gL w0 F0 Z0 n (fun ar=>jG E cuts H fuel false k ar) r b6 w'∧Steps P (lone (b.at a (.code (.region bA ops hI) :: k)) cs w) (lone (b.at b6 k) cs w'):=by
     cases hI with
     | false=>exact ZM bL hn hk hs b k cs
     | true=>exact Z3 bL hn hk hs b k cs
    obtain ⟨a1,n0,⟨s1,h1,h2⟩,hst⟩:=Z4
    obtain ⟨c8,ar,b6,w',c6,eE,h8,h9⟩:=ih false k s1 a1 n0 h1 h2
    exact⟨c8,ar,b6,w',c6,eE,fun p au=>by simp only [gz,List.mem_append];exact .inr (h8 p au),hst.trans h9⟩
   ·rw [iH] at hk
    simp only [cond_true] at hk
    simp only [Bool.and_eq_true] at iH
    exact⟨_,s,a,w,hs,.inl ⟨bA,ops,hI,k,rfl,iH.1,hk⟩,fun _ h=>h,.refl _ _⟩
  | .code (.goto _) :: _,hk | .code (.label _) :: _,hk | .code (.scope _) :: _,hk | .inRegion _ _ :: _,hk | .inScope _ :: _,hk=>simp at hk
end
end Go.LM
namespace Go.LM
def kC(key:Nat):(ps:List bx)→(bx.ins ps).D→Nat→aq→Option (List a6×aq×Nat)
 | [],_,j,s=>some ([],s,j)
 | .fn _ _ :: ps,x,j,s=>(kC key ps x j s).bind fun q=>some (.aD :: q.1,q.2)
 | .val t m :: ps,x,j,s=>(t.gW m [] x.1 s j).bind fun r=>(jE t r.1).bind fun v=>(kC key ps x.2 r.2.2 r.2.1).bind fun q=>some (v :: q.1,q.2)
 | .gV t :: ps,x,j,s=>(t.gW .R [] x.1 s j).bind fun r=>(jE t r.1).bind fun v=>(kC key ps x.2 r.2.2 r.2.1).bind fun q=>some (v :: q.1,q.2)
 | .gU t m :: ps,x,j,s=>(t.gW m [] x.1 s j).bind fun r=>(jE t r.1).bind fun v=>(kC key ps x.2 r.2.2 r.2.1).bind fun q=>some (v :: q.1,q.2)
 | .ref t :: ps,x,j,s=>(kC key ps x.2 j s).bind fun q=>some (.dg [] (t.cells [] none x.1) 0 :: q.1,q.2)
 | .mut t m _ :: ps,x,j,s=>(t.gW m [] x.1 s j).bind fun r=>(mkObj r.2.1 r.2.2 (.var 0 r.1)).bind fun s1=>(kC key ps x.2 (r.2.2+1) s1).bind fun q=>some (.ptr ⟨r.2.2,none,0⟩ :: q.1,q.2)
section
variable{P:Program}{w0:World}{F0 Z0:ah}{n:cB}{s ar:aq}{a b6:Act}{w w':World}{ι bd:Nat→bC}{Z Z':ah}
theorem Inv.start{F:ah}(hZ:∀b o,Z b o→b<w.heap.size){m:Nat}(ha:a.tmps.size=m)(ag:a.defers=[]):Inv w F Z ⟨m,[],[]⟩ ⟨fun _=>.aD,fun _=>.none,[]⟩ a w ι Z :=
 ⟨Ext.refl _ _,fun _ _ h=>.inl h,fun _ _ h=>h,hZ,fun _=>trivial,fun _ h=>h.elim,fun _ _ h=>h.elim,fun _ h=>h.elim,fun _=>by simp only [aQ],ha,by simp only [aZ],fun _ h=>by simp at h,ag⟩
def Z5(w0:World)(F0 Z0:ah)(n:cB)(s:aq)(a:Act)(w:World)(ι : Nat→bC)(Z:ah)(us:List Value)(F:ah)(q:List a6×aq×Nat):Prop :=
 ∃ bd,Inv w0 F0 Z0 n q.2.1 a w bd Z∧gw false w Z s ι w Z q.2.1 bd (fun _ _=>True)∧aZ w Z q.2.1 bd q.1 us∧∀X,bF w0 F0 s w ι Z X→ah.apart X F→bF w0 F0 q.2.1 w bd Z X
theorem Z6:gw false w Z s ι w Z s ι (fun _ _=>True) :=
 ⟨fun _ _ h=>h,fun _ _ h=>h,fun _ _ h=>h,fun _ _ _ h=>⟨h,rfl⟩,fun h=>by simp at h,b5.refl _ _,b5.refl _ _,fun _ _ h=>h,fun _ _ _ h=>h⟩
theorem n2:Z.or (db ι [])=Z:=by
 funext b o
 apply propext
 constructor
 ·rintro (h | ⟨d,ag,_⟩)
  ·exact h
  ·simp at ag
 ·exact .inl
theorem tk{key:Nat} : ∀(ps:List bx) (x:(bx.ins ps).D) (us:List Value) (j:Nat) (s:aq) (ι : Nat→bC) (F:ah) (q:List a6×aq×Nat),kC key ps x j s=some q→Inv w0 F0 Z0 n s a w ι Z →
  gh w Z key ps x us F→bF w0 F0 s w ι Z F→Z5 w0 F0 Z0 n s a w ι Z us F q
 | [],x,us,j,s,ι,F,q,he,h,hA,hF=>by
  simp only [kC,Option.some.injEq] at he
  subst he
  exact⟨ι,h,Z6,hA,fun X hX _=>hX⟩
 | .fn lJ oF :: ps,x,us,j,s,ι,F,q,he,h,hA,hF=>by
  simp only [kC] at he
  obtain ⟨p,au,he⟩:=bf he
  obtain rfl:=aV he
  obtain ⟨akH,akI,aT,rfl,hsz,h4⟩:=hA
  obtain ⟨dv,i1,held,hr,m0⟩:=tk ps x aT j s ι F p au h h4 hF
  refine⟨dv,i1,held,?_,m0⟩
  simp only [aZ]
  exact⟨_,aT,rfl,by simp only [aQ],hr⟩
 | .ref t :: ps,x,us,j,s,ι,F,q,he,h,hA,hF=>by
  simp only [kC] at he
  obtain ⟨p,au,he⟩:=bf he
  obtain rfl:=aV he
  obtain ⟨b,o,vs,aT,rfl,h1,h2,h3,h4⟩:=hA
  obtain ⟨dv,i1,held,hr,m0⟩:=tk ps x.2 aT j s ι F p au h h4 hF
  refine⟨dv,i1,held,?_,m0⟩
  simp only [aZ]
  refine⟨_,aT,rfl,held.az _ _ ?_,hr⟩
  simp only [aQ]
  have hl:=(ae.al.len t _ h2).1
  have hc:bG w Z s ι (t.cells [] none x.1) vs:=ae.pW t [] none (by simp) (fun _=>by rw [n2];exact h2) ⟨_,_,_,h2⟩ .none
  refine⟨by simp,b,o,vs,by simp,fun _=>⟨hc,h1,fun k hk=>.inl (h3 k (by rw [← hc.len,hl] at hk;exact hk))⟩⟩
 | .val t m :: ps,x,us,j,s,ι,F,q,he,h,hA,hF=>by
  simp only [kC] at he
  obtain ⟨r,hr,he⟩:=bf he
  obtain ⟨v,hv,he⟩:=bf he
  obtain ⟨p,au,he⟩:=bf he
  obtain rfl:=aV he
  obtain ⟨vs,aT,G,H,rfl,h1,h2,h3,h4,a7⟩:=hA
  obtain ⟨dv,i1,iK,c1,fs⟩:=ae.nO t m [] x.1 s ι j r vs G hr h (by rw [n2];exact h1) (hF.sub h4) (by rintro b o _ ⟨d,ag,_⟩;simp at ag) (by simp)
  obtain ⟨ep,i2,held,n3,m0⟩:=tk ps x.2 aT _ _ dv H p au i1 h2 (fs H (hF.sub a7) fun b o x y=>h3 b o y x)
  refine⟨ep,i2,(iK.held _).trans held,?_,fun X hX ft=>m0 X (fs X hX fun b o x y=>ft b o x (h4 b o y)) fun b o x y=>ft b o x (a7 b o y)⟩
  simp only [aZ]
  exact⟨_,aT,rfl,held.az _ _ (oO hv c1),n3⟩
 | .gV t :: ps,x,us,j,s,ι,F,q,he,h,hA,hF=>by
  simp only [kC] at he
  obtain ⟨r,hr,he⟩:=bf he
  obtain ⟨v,hv,he⟩:=bf he
  obtain ⟨p,au,he⟩:=bf he
  obtain rfl:=aV he
  obtain ⟨vs,aT,G,H,rfl,h1,h2,h3,h4,a7⟩:=hA
  obtain ⟨dv,i1,iK,c1,fs⟩:=ae.nO t .R [] x.1 s ι j r vs G hr h (by rw [n2];exact h1) (hF.sub h4) (by rintro b o _ ⟨d,ag,_⟩;simp at ag) (by simp)
  obtain ⟨ep,i2,held,n3,m0⟩:=tk ps x.2 aT _ _ dv H p au i1 h2 (fs H (hF.sub a7) fun b o x y=>h3 b o y x)
  refine⟨ep,i2,(iK.held _).trans held,?_,fun X hX ft=>m0 X (fs X hX fun b o x y=>ft b o x (h4 b o y)) fun b o x y=>ft b o x (a7 b o y)⟩
  simp only [aZ]
  exact⟨_,aT,rfl,held.az _ _ (oO hv c1),n3⟩
 | .gU t m :: ps,x,us,j,s,ι,F,q,he,h,hA,hF=>by
  simp only [kC] at he
  obtain ⟨r,hr,he⟩:=bf he
  obtain ⟨v,hv,he⟩:=bf he
  obtain ⟨p,au,he⟩:=bf he
  obtain rfl:=aV he
  obtain ⟨vs,aT,G,H,rfl,h1,h2,h3,h4,a7⟩:=hA
  obtain ⟨dv,i1,iK,c1,fs⟩:=ae.nO t m [] x.1 s ι j r vs G hr h (by rw [n2];exact h1) (hF.sub h4) (by rintro b o _ ⟨d,ag,_⟩;simp at ag) (by simp)
  obtain ⟨ep,i2,held,n3,m0⟩:=tk ps x.2 aT _ _ dv H p au i1 h2 (fs H (hF.sub a7) fun b o x y=>h3 b o y x)
  refine⟨ep,i2,(iK.held _).trans held,?_,fun X hX ft=>m0 X (fs X hX fun b o x y=>ft b o x (h4 b o y)) fun b o x y=>ft b o x (a7 b o y)⟩
  simp only [aZ]
  exact⟨_,aT,rfl,held.az _ _ (oO hv c1),n3⟩
 | .mut t m m' :: ps,x,us,j,s,ι,F,q,he,h,hA,hF=>by
  simp only [kC] at he
  obtain ⟨r,hr,he⟩:=bf he
  obtain ⟨s1,hm,he⟩:=bf he
  obtain ⟨p,au,he⟩:=bf he
  obtain rfl:=aV he
  obtain ⟨b3,rfl⟩:=p0 hm
  obtain ⟨b,o,vs,aT,G,H,rfl,h1,hwr,h2,h3,h4,a7,bj,bE⟩:=hA
  have hG:ah.sub G F:=fun b o x=>bj b o (.inl x)
  have dG:ah.sub (ah.run b o t.size) F:=fun b o x=>bj b o (.inr x)
  obtain ⟨dv,i1,iK,c1,fs⟩:=ae.nO t m [] x.1 s ι j r vs G hr h (by rw [n2];exact h2) (hF.sub hG) (by rintro b o _ ⟨d,ag,_⟩;simp at ag) (by simp)
  have hl:=(ae.al.len t _ h2).1
  have hcl:=c1.len
  have jK:=fs _ (hF.sub dG) (fun b o x y=>a7 b o y x)
  obtain ⟨i2,mX,l0,mY⟩:=H6 i1 (id:=r.2.2) (o:=.var 0 r.1) (i:=⟨some (at_ b o),0,ah.run b o t.size⟩) (by rw [b3];exact fun h=>h) (fun o'=>by simp) (by rw [b3];exact .made _ _ _) (fun hm=>by
   refine⟨at_ b o,vs,rfl,rfl,c1.move hm,h1,fun k hk=>⟨hwr k (by omega),rfl,by simp [at_],by simp [at_];omega⟩⟩) jK
  have vN:=(iK.held (w:=w) (Z:=Z) (fun _ _=>True)).trans mX
  have x8:∀X,bF w0 F0 s w ι Z X→ah.apart X (G.or (ah.run b o t.size))→bF w0 F0 (r.2.1.bN r.2.2 (.var 0 r.1)) w (bQ dv r.2.2 ⟨some (at_ b o),0,ah.run b o t.size⟩) Z X:=fun X hX ft =>
   l0 X (fs X hX fun b o x y=>ft b o x (.inl y)) fun b o x y=>ft b o x (.inr y)
  obtain ⟨Ib,i3,Qm,n3,Z7⟩:=tk ps x.2 aT _ _ _ H p au i2 h3 (x8 H (hF.sub bE) fun b o x y=>h4 b o y x)
  refine⟨Ib,i3,vN.trans Qm,?_,fun X hX ft=>Z7 X (x8 X hX fun b o x y=>ft b o x (bj b o y)) fun b o x y=>ft b o x (bE b o y)⟩
  simp only [aZ]
  refine⟨_,aT,rfl,Qm.az _ _ ?_,n3⟩
  simp only [aQ]
  refine⟨by show bQ r.2.1.o r.2.2 _ r.2.2≠_;rw [cw];simp,_,rfl,rfl,?_⟩
  show match (bQ r.2.1.o r.2.2 _ r.2.2).core with | .var _ _=>_ | .row .. => _ | _=>_
  rw [cw]
  exact⟨rfl,at_ b o,by rw [cw],by simp [at_]⟩
end
end Go.LM
namespace Go.LM
def yg(t:ae)(m:ba)(v:a6)(s:aq):Option (t.D×aq) :=
 cond (nI t v) (match iy t v with
  | some cs=>(t.imp false m cs s []).bind fun r=>match r.2.1 with
   | []=>some (r.1,r.2.2.1)
   | _=>none
  | none=>none) none
def ik:(ps:List bx)→List a6→aq→Option (bx.dU ps).D
 | [],_,_=>some ()
 | .mut t _ m' :: ps,gs,s =>
  match gs with
  | .ptr p :: gs =>
   match s.o p.id,p.fa with
   | .var _ cs,none=>cond (Nat.beq p.off 0&&Nat.beq cs.length t.size)
    ((t.imp false m' cs (s.bN p.id .dead) []).bind fun r=>match r.2.1 with
     | []=>(ik ps gs r.2.2.1).bind fun q=>some (r.1,q)
     | _=>none) none
   | _,_=>none
  | _=>none
 | .gU t m :: ps,gs,s =>
  match gs with
  | v :: gs=>(yg t m v s).bind fun r=>(ik ps gs r.2).bind fun q=>some (r.1,q)
  | []=>none
 | .val _ _ :: ps,gs,s =>
  match gs with
  | _ :: gs=>ik ps gs s
  | []=>none
 | .gV _ :: ps,gs,s =>
  match gs with
  | _ :: gs=>ik ps gs s
  | []=>none
 | .ref _ :: ps,gs,s =>
  match gs with
  | _ :: gs=>ik ps gs s
  | []=>none
 | .fn _ _ :: ps,gs,s =>
  match gs with
  | _ :: gs=>ik ps gs s
  | []=>none
section
variable{P:Program}{w0:World}{F0 Z0:ah}{n:cB}{s ar:aq}{a b6:Act}{w w':World}{ι bd:Nat→bC}{Z Z':ah}
theorem Qn{t:ae}{m:ba}{v:a6}{u:Value}{r:t.D×aq}(ho:yg t m v s=some r)(h:Inv w0 F0 Z0 n s a w ι Z)(hv:aQ w Z s ι v u) :
  ∃vs F Z',u=dB t vs∧Inv w0 F0 Z0 n r.2 a w ι Z'∧eV s ι Z r.2 Z'∧bF w0 F0 r.2 w ι Z' F∧t.al w Z' m r.1 vs F∧∀b o,F b o→∃id,(s.o id).live∧(ι id).F b o:=by
 unfold yg at ho
 cases hf:nI t v
 ·rw [hf] at ho;simp at ho
 rw [hf] at ho
 simp only [cond_true] at ho
 cases hcs:iy t v with
 | none=>rw [hcs] at ho;simp at ho
 | some cs =>
  rw [hcs] at ho
  simp only at ho
  obtain ⟨q,hq,ho⟩:=bf ho
  cases eg:q.2.1 with
  | cons=>rw [eg] at ho;simp at ho
  | nil =>
   rw [eg] at ho
   obtain rfl:=aV ho
   obtain ⟨us1,vs1,F1,cp,e1,i1,s1,c1,f1,bB,_,fF,_,g1⟩:=ae.k5 t false m cs s [] q _ Z hq h (re hcs hv) (by simp)
   rw [eg] at c1
   have hvs1:vs1=[]:=by cases vs1 with | nil=>rfl | cons=>exact c1.elim
   subst hvs1
   rw [List.append_nil] at e1
   have hw:=Bf hf hv
   rw [e1] at hw
   rw [fF rfl,n2] at bB
   exact⟨us1,F1,cp,hw,i1,s1,f1,bB,g1⟩
theorem tl:∀(ps:List bx) (gs:List a6) (us:List Value) (s:aq) (Z:ah) (x:(bx.dU ps).D),ik ps gs s=some x→Inv w0 F0 Z0 n s a w ι Z→aZ w Z s ι gs us →
  ∃ar F Z',Inv w0 F0 Z0 n ar a w ι Z'∧eV s ι Z ar Z'∧bF w0 F0 ar w ι Z' F∧h6 w Z' ps us x F∧∀b o,F b o→∃id,(s.o id).live∧(ι id).F b o
 | [],gs,us,s,Z,x,ho,h,hv=>⟨s,ah.none,Z,h,.refl,.none,trivial,fun _ _ h=>h.elim⟩
 | .val t m :: ps,gs,us,s,Z,x,ho,h,hv=>by
  cases gs with
  | nil=>simp [ik] at ho
  | cons v gs =>
   simp only [aZ] at hv
   obtain ⟨u,aT,rfl,h1,h2⟩:=hv
   obtain ⟨ar,F,Z',i1,s1,f1,bB,g1⟩:=tl ps gs aT s Z x (by simp only [ik] at ho;exact ho) h h2
   exact⟨ar,F,Z',i1,s1,f1,⟨u,aT,rfl,bB⟩,g1⟩
 | .gV t :: ps,gs,us,s,Z,x,ho,h,hv=>by
  cases gs with
  | nil=>simp [ik] at ho
  | cons v gs =>
   simp only [aZ] at hv
   obtain ⟨u,aT,rfl,h1,h2⟩:=hv
   obtain ⟨ar,F,Z',i1,s1,f1,bB,g1⟩:=tl ps gs aT s Z x (by simp only [ik] at ho;exact ho) h h2
   exact⟨ar,F,Z',i1,s1,f1,⟨u,aT,rfl,bB⟩,g1⟩
 | .ref t :: ps,gs,us,s,Z,x,ho,h,hv=>by
  cases gs with
  | nil=>simp [ik] at ho
  | cons v gs =>
   simp only [aZ] at hv
   obtain ⟨u,aT,rfl,h1,h2⟩:=hv
   obtain ⟨ar,F,Z',i1,s1,f1,bB,g1⟩:=tl ps gs aT s Z x (by simp only [ik] at ho;exact ho) h h2
   exact⟨ar,F,Z',i1,s1,f1,⟨u,aT,rfl,bB⟩,g1⟩
 | .fn _ _ :: ps,gs,us,s,Z,x,ho,h,hv=>by
  cases gs with
  | nil=>simp [ik] at ho
  | cons v gs =>
   simp only [aZ] at hv
   obtain ⟨u,aT,rfl,h1,h2⟩:=hv
   obtain ⟨ar,F,Z',i1,s1,f1,bB,g1⟩:=tl ps gs aT s Z x (by simp only [ik] at ho;exact ho) h h2
   exact⟨ar,F,Z',i1,s1,f1,⟨u,aT,rfl,bB⟩,g1⟩
 | .gU t m :: ps,gs,us,s,Z,x,ho,h,hv=>by
  cases gs with
  | nil=>simp [ik] at ho
  | cons v gs =>
   simp only [aZ] at hv
   obtain ⟨u,aT,rfl,h1,h2⟩:=hv
   simp only [ik] at ho
   obtain ⟨r,hr,ho⟩:=bf ho
   obtain ⟨q,hq,ho⟩:=bf ho
   obtain rfl:=aV ho
   obtain ⟨vs,F1,cp,rfl,i1,s1,f1,bB,g1⟩:=Qn hr h h1
   obtain ⟨ar,dH,bK,i2,s2,f2,cc,g2⟩:=tl ps gs aT r.2 cp q hq i1 (aZ.move s1.ec h2)
   refine⟨ar,F1.or dH,bK,i2,s1.trans s2,(f1.shrink s2).or f2,⟨vs,aT,F1,dH,rfl,ae.al.mono s2.dz _ _ (fun _ _ h=>h) bB,cc,?_,fun _ _ h=>.inl h,fun _ _ h=>.inr h⟩,?_⟩
   ·intro b o x y
    obtain ⟨id,hl,hf⟩:=g2 b o y
    exact f1.apart id hl b o x hf
   ·rintro b o (y | y)
    ·exact g1 b o y
    ·obtain ⟨id,hl,hf⟩:=g2 b o y;exact⟨id,(s1.live hl).1,hf⟩
 | .mut t m m' :: ps,gs,us,s,Z,x,ho,h,hv=>by
  cases gs with
  | nil=>simp [ik] at ho
  | cons v gs =>
   simp only [aZ] at hv
   obtain ⟨u,aT,rfl,h1,h2⟩:=hv
   cases v <;> simp only [ik] at ho <;> try (simp at ho;done)
   rename_i p
   simp only [aQ] at h1
   obtain ⟨hk,A,rfl,_,au⟩:=h1
   cases bU:s.o p.id with
   | var ver cs =>
    rw [bU] at ho au
    obtain ⟨he,a0,et,hA⟩:=au
    rw [he] at ho
    simp only at ho
    cases hc:(Nat.beq p.off 0&&Nat.beq cs.length t.size)
    ·rw [hc] at ho;cases ho
    rw [hc] at ho
    simp only [Bool.and_eq_true] at hc
    have fh:=Nat.eq_of_beq_eq_true hc.1
    have hlen:=Nat.eq_of_beq_eq_true hc.2
    simp only [cond_true] at ho
    obtain ⟨r,hr,ho⟩:=bf ho
    cases eg:r.2.1 with
    | cons=>rw [eg] at ho;cases ho
    | nil =>
     rw [eg] at ho
     simp only at ho
     obtain ⟨q,hq,ho⟩:=bf ho
     obtain rfl:=aV ho
     have b8:(s.o p.id).live:=by rw [bU];trivial
     have cX:=h.fC p.id
     rw [bU] at cX
     obtain ⟨⟨b,o,sp⟩,ws,dA,hsp,hc,cl,hF⟩:=cX
     simp only at hsp
     subst hsp
     rw [et] at dA
     obtain rfl:=aV dA
     have ia:eV s ι Z (s.bN p.id .dead) Z:=vo p.id b8
     have hi0:=h.take p.id (fun _ _ h=>h) (fun _ _ h=>.inl h)
     have eZ:=h.vn b8
     obtain ⟨us1,vs1,F1,cp,e1,i1,s1,c1,f1,bB,_,fF,_,g1⟩:=ae.k5 t false m' cs _ [] r _ Z hr hi0 (hc.move ia.ec) (by simp)
     rw [eg] at c1
     have hvs1:vs1=[]:=by cases vs1 with | nil=>rfl | cons=>exact c1.elim
     subst hvs1
     rw [List.append_nil] at e1
     subst e1
     rw [fF rfl,n2] at bB
     obtain ⟨ar,dH,bK,i2,s2,f2,cc,g2⟩:=tl ps gs aT r.2.2.1 cp q hq i1 (aZ.move s1.ec (aZ.move ia.ec h2))
     have hrun:ah.sub (ah.run b o t.size) (ι p.id).F:=by
      rintro b' o' ⟨rfl,h1,h2⟩
      have:=(hF (o'-o) (by omega)).2
      simp only at this
      rwa [show o +(o'-o)=o' by omega] at this
     have jK:=(eZ.sub hrun).shrink s1
     have IJ:ah.apart F1 (ah.run b o t.size):=by
      intro b o x y
      obtain ⟨id,hl,hf⟩:=g1 b o x
      exact eZ.apart id hl b o (hrun b o y) hf
     have gy:bF w0 F0 r.2.2.1 w ι cp (F1.or (ah.run b o t.size)):=f1.or jK
     refine⟨ar,(F1.or (ah.run b o t.size)).or dH,bK,i2,(ia.trans s1).trans s2,(gy.shrink s2).or f2,⟨b,o,ws,aT,F1,dH,?_,cl,ae.al.mono s2.dz _ _ (fun _ _ h=>h) bB,cc,?_,IJ,fun _ _ h=>.inl h,fun _ _ h=>.inr h⟩,?_⟩
     ·rw [hA,fh];rfl
     ·intro b o x y
      obtain ⟨id,hl,hf⟩:=g2 b o y
      exact gy.apart id hl b o x hf
     ·rintro b o ((y | y) | y)
      ·obtain ⟨id,hl,hf⟩:=g1 b o y;exact⟨id,(ia.live hl).1,hf⟩
      ·exact⟨p.id,b8,hrun b o y⟩
      ·obtain ⟨id,hl,hf⟩:=g2 b o y;exact⟨id,(ia.live (s1.live hl).1).1,hf⟩
   | _=>rw [bU] at ho;simp at ho
end
end Go.LM
namespace Go.LM
section
variable{P:Program}{w0:World}{F0 Z0:ah}{n:cB}{s ar:aq}{a b6:Act}{w w':World}{ι bd:Nat→bC}{Z Z':ah}
def BJ(t:ae)(m:ba)(v:a6)(s:aq):Option (t.D×aq) :=
 match v with
 | .ptr p =>
  match s.o p.id,p.fa with
  | .var _ cs,none=>cond (Nat.beq p.off 0&&Nat.beq cs.length t.size)
   ((t.imp false m cs (s.bN p.id .dead) []).bind fun r=>match r.2.1 with
    | []=>some (r.1,r.2.2.1)
    | _=>none) none
  | _,_=>none
 | _=>none
theorem Z8{t:ae}{m:ba}{v:a6}{u:Value}{s:aq}{Z:ah}{x:t.D×aq}(ho:BJ t m v s=some x)(h:Inv w0 F0 Z0 n s a w ι Z)(h1:aQ w Z s ι v u) :
  ∃b o vs F Z',u=.pointer (some (at_ b o))∧Inv w0 F0 Z0 n x.2 a w ι Z'∧eV s ι Z x.2 Z'∧bF w0 F0 x.2 w ι Z' (F.or (ah.run b o t.size))∧b4 w b o vs∧(∀j,j<t.size→e' w b (o+j))∧t.al w Z' m x.1 vs F ∧
   ah.apart F (ah.run b o t.size)∧∀b' o',(F.or (ah.run b o t.size)) b' o'→∃id,(s.o id).live∧(ι id).F b' o':=by
 cases v <;> simp only [BJ] at ho <;> try (simp at ho;done)
 rename_i p
 simp only [aQ] at h1
 obtain ⟨hk,A,rfl,_,au⟩:=h1
 cases bU:s.o p.id with
 | var ver cs =>
  rw [bU] at ho au
  obtain ⟨he,a0,et,hA⟩:=au
  rw [he] at ho
  simp only at ho
  cases hc:(Nat.beq p.off 0&&Nat.beq cs.length t.size)
  ·rw [hc] at ho;cases ho
  rw [hc] at ho
  simp only [Bool.and_eq_true] at hc
  have fh:=Nat.eq_of_beq_eq_true hc.1
  have hlen:=Nat.eq_of_beq_eq_true hc.2
  simp only [cond_true] at ho
  obtain ⟨r,hr,ho⟩:=bf ho
  cases eg:r.2.1 with
  | cons=>rw [eg] at ho;cases ho
  | nil =>
   rw [eg] at ho
   obtain rfl:=aV ho
   have b8:(s.o p.id).live:=by rw [bU];trivial
   have cX:=h.fC p.id
   rw [bU] at cX
   obtain ⟨a1,ws,dA,hsp,hcs,cl,hF⟩:=cX
   rw [et] at dA
   obtain rfl:=aV dA
   obtain ⟨b,o,sp⟩:=a0
   simp only at hsp
   subst hsp
   have ia:eV s ι Z (s.bN p.id .dead) Z:=vo p.id b8
   have hi0:=h.take p.id (fun _ _ h=>h) (fun _ _ h=>.inl h)
   have eZ:=h.vn b8
   obtain ⟨us1,vs1,F1,cp,e1,i1,s1,c1,f1,bB,_,fF,_,g1⟩:=ae.k5 t false m cs _ [] r _ Z hr hi0 (hcs.move ia.ec) (by simp)
   rw [eg] at c1
   have hvs1:vs1=[]:=by cases vs1 with | nil=>rfl | cons=>exact c1.elim
   subst hvs1
   rw [List.append_nil] at e1
   subst e1
   rw [fF rfl,n2] at bB
   have hrun:ah.sub (ah.run b o t.size) (ι p.id).F:=by
    rintro b' o' ⟨rfl,h1,h2⟩
    have:=(hF (o'-o) (by omega)).2
    simp only at this
    rwa [show o +(o'-o)=o' by omega] at this
   have jK:=(eZ.sub hrun).shrink s1
   have IJ:ah.apart F1 (ah.run b o t.size):=by
    intro b o x y
    obtain ⟨id,hl,hf⟩:=g1 b o x
    exact eZ.apart id hl b o (hrun b o y) hf
   refine⟨b,o,_,F1,cp,?_,i1,ia.trans s1,f1.or jK,cl,fun j hj=>(hF j (by omega)).1,bB,IJ,?_⟩
   ·rw [hA,fh];rfl
   ·rintro b o (y | y)
    ·obtain ⟨id,hl,hf⟩:=g1 b o y;exact⟨id,(ia.live hl).1,hf⟩
    ·exact⟨p.id,b8,hrun b o y⟩
 | _=>rw [bU] at ho;simp at ho
def yh(gs:List a6)(a off:Nat)(t:ae)(v:a6)(s:aq):Option Int :=
 match v with
 | .jD=>some (-1)
 | .opt id x =>
  match pQ s gs a off with
  | some k=>cond (Nat.beq k id&&pR s t id) (some x) none
  | none=>none
 | .ptr p =>
  match pQ s gs a off,p.fa with
  | some k,some i=>cond (Nat.beq k p.id&&pR s t p.id&&Nat.beq p.off 0) (some (i:Int)) none
  | _,_=>none
 | _=>none
theorem Qo{gs:List a6}{us:List Value}{lk off id:Nat}{t:ae}{i:Nat}{vR:Addr}(dR:pQ s gs lk off=some id)(l2:pR s t id=true)(h:Inv w0 F0 Z0 n s a w ι Z)(hv:aZ w Z s ι gs us)
  (au:iV s ι ⟨id,some i,0⟩ vR):HS w us lk off t.size (i:Int) (.pointer (some vR)):=by
 unfold pQ at dR
 cases mS:gs[lk]? with
 | none=>rw [mS] at dR;simp at dR
 | some kY =>
  rw [mS] at dR
  cases kY with
  | ptr pl =>
   simp only at dR
   cases c2:lK s 1 { pl with off:=pl.off+off } with
   | none=>rw [c2] at dR;simp at dR
   | some cs =>
    rw [c2] at dR
    have hcs:cs=[.ag id none]:=by
     split at dR
     ·rename_i h;obtain rfl:=aV dR;exact aV h
     ·simp at dR
    subst hcs
    obtain ⟨u,vP,ru⟩:=hv.get lk mS
    simp only [aQ] at ru
    obtain ⟨jI,A,rfl,mZ⟩:=ru
    obtain ⟨b,o,sp⟩:=A
    have hsp:=mZ.1
    simp only at hsp
    subst hsp
    obtain ⟨pV,eC,ws,hA,hc1,hc2,x2⟩:=xL h c2 (iV.plus (b:=b) (o:=o) off mZ)
    simp only [at_,Addr.mk.injEq,and_true] at hA
    obtain ⟨rfl,rfl⟩:=hA
    match ws,hc1 with
    | [v0],hc1 =>
     obtain ⟨hk0,A,m,k,rfl,hh⟩:=hc1.1
     unfold pR at l2
     cases bU:s.o id with
     | row u em ver xs =>
      rw [bU] at l2
      have:=ae.eq_of_beq _ _ l2
      subst this
      obtain ⟨c6,eE,h8,h9,h_⟩:=hh u em ver xs (k0 bU)
      have c6:m=xs.length:=c6
      obtain ⟨hs,au⟩:=au
      have au:match (s.o id).core with | .var _ cs=>_ | .row t _ _ xs=>_ | _=>_:=au
      rw [k0 bU] at au
      obtain ⟨dW,hi,cz,a0,fW,p4⟩:=au
      obtain rfl:=aV hi
      rcases h_ with h_ | ⟨a1,mN,mT⟩
      ·omega
      ·rw [fW] at mN
       obtain rfl:=aV mN
       right
       refine⟨by omega,b,o,a0.block,a0.off,m,k,vP,?_,by simp;omega,?_⟩
       ·rw [hc2.head,mT];simp [eb,at_]
       ·rw [p4];simp [at_]
     | _=>rw [bU] at l2;cases l2
  | _=>simp at dR
theorem Z9{gs:List a6}{us:List Value}{lk off:Nat}{t:ae}{v:a6}{u:Value}{x:Int}(ho:yh gs lk off t v s=some x)(h:Inv w0 F0 Z0 n s a w ι Z)(aA:aZ w Z s ι gs us)(hv:aQ w Z s ι v u):HS w us lk off t.size x u:=by
 cases v with
 | jD =>
  obtain rfl:=aV ho
  simp only [aQ] at hv
  exact .inl ⟨by omega,hv⟩
 | opt id y =>
  simp only [yh] at ho
  cases dR:pQ s gs lk off with
  | none=>rw [dR] at ho;cases ho
  | some k =>
   rw [dR] at ho
   cases hc:(Nat.beq k id&&pR s t id)
   ·simp only [hc] at ho;cases ho
   simp only [hc,cond_true] at ho
   obtain rfl:=aV ho
   simp only [Bool.and_eq_true] at hc
   obtain rfl:=Nat.eq_of_beq_eq_true hc.1
   simp only [aQ] at hv
   obtain ⟨_,⟨h1,h2⟩ | ⟨h1,vR,rfl,h2⟩⟩:=hv
   ·exact .inl ⟨h1,h2⟩
   ·have:=Qo dR hc.2 h aA h2
    rwa [Int.toNat_of_nonneg h1] at this
 | ptr p =>
  simp only [yh] at ho
  cases dR:pQ s gs lk off with
  | none=>rw [dR] at ho;cases ho
  | some k =>
   rw [dR] at ho
   cases eL:p.fa with
   | none=>rw [eL] at ho;cases ho
   | some i =>
    rw [eL] at ho
    simp only at ho
    cases hc:(Nat.beq k p.id&&pR s t p.id&&Nat.beq p.off 0)
    ·rw [hc] at ho;cases ho
    rw [hc] at ho
    obtain rfl:=aV ho
    simp only [Bool.and_eq_true] at hc
    have hk:=Nat.eq_of_beq_eq_true hc.1.1
    have h0:=Nat.eq_of_beq_eq_true hc.2
    obtain ⟨pid,akJ,akK⟩:=p
    simp only at hk h0 eL hc
    subst hk h0 eL
    simp only [aQ] at hv
    obtain ⟨_,vR,rfl,h2⟩:=hv
    exact Qo dR hc.1.2 h aA h2
 | _=>cases ho
def yi(t:ae)(v:a6):Bool :=
 nI t v&&(match iy t v with
  | some cs=>Nat.beq cs.length t.size
  | none=>false)
theorem Z_{t:ae}{v:a6}{u:Value}{s:aq}{Z:ah}(ho:yi t v=true)(h1:aQ w Z s ι v u):u.cells.toList.length=t.size∧∀x∈u.cells.toList,dY x=true:=by
 unfold yi at ho
 simp only [Bool.and_eq_true] at ho
 obtain ⟨hf,hc⟩:=ho
 cases hcs:iy t v with
 | none=>rw [hcs] at hc;cases hc
 | some cs =>
  rw [hcs] at hc
  have hl:=Nat.eq_of_beq_eq_true hc
  have hr:=re hcs h1
  exact⟨by rw [hr.len];exact hl,hr.dY⟩
def BK(t:ae)(v:a6)(s:aq):Option (List t.D×aq) :=
 match v with
 | .jD=>some ([],s)
 | .dg dp cs off =>
  match takeN off t.size cs with
  | none=>none
  | some cs=>cond dp.isEmpty ((t.imp false .R cs s []).bind fun r=>match r.2.1 with
   | []=>some ([r.1],r.2.2.1)
   | _=>none) none
 | .may b dp cs=>cond b (cond (dp.isEmpty&&Nat.beq cs.length t.size) ((t.imp false .R cs s []).bind fun r=>match r.2.1 with
   | []=>some ([r.1],r.2.2.1)
   | _=>none) none) (some ([],s))
 | _=>none
theorem aaa{t:ae}{v:a6}{u:Value}{s:aq}{Z:ah}{x:List t.D×aq}(ho:BK t v s=some x)(h:Inv w0 F0 Z0 n s a w ι Z)(h1:aQ w Z s ι v u) :
  ∃Z',Inv w0 F0 Z0 n x.2 a w ι Z'∧eV s ι Z x.2 Z'∧((x.1=[]∧u=.pointer none)∨∃y b o vs,x.1=[y]∧u=.pointer (some (at_ b o))∧b4 w b o vs∧t.al w Z' .R y vs ah.none∧∀j,j<t.size→Z' b (o+j)):=by
 have go:∀(cs:List a8) (b o:Nat) (vs:List Value) (x:List t.D×aq),((t.imp false .R cs s []).bind fun r=>match r.2.1 with | []=>some ([r.1],r.2.2.1) | _=>none)=some x→bG w Z s ι cs vs→b4 w b o vs→vs.length=t.size→(∀j,j<t.size→Z b (o+j))→u=.pointer (some (at_ b o)) →
   ∃Z',Inv w0 F0 Z0 n x.2 a w ι Z'∧eV s ι Z x.2 Z'∧((x.1=[]∧u=.pointer none)∨∃y b o vs,x.1=[y]∧u=.pointer (some (at_ b o))∧b4 w b o vs∧t.al w Z' .R y vs ah.none∧∀j,j<t.size→Z' b (o+j)):=by
  intro cs b o vs x ho oP cl hl hz hu
  obtain ⟨r,hr,ho⟩:=bf ho
  cases eg:r.2.1 with
  | cons=>rw [eg] at ho;cases ho
  | nil =>
   rw [eg] at ho
   obtain rfl:=aV ho
   obtain ⟨us1,vs1,F1,cp,e1,i1,s1,c1,f1,bB,_,fF,_,g1⟩:=ae.k5 t false .R cs s [] r _ Z hr h oP (by simp)
   rw [eg] at c1
   have hvs1:vs1=[]:=by cases vs1 with | nil=>rfl | cons=>exact c1.elim
   subst hvs1
   rw [List.append_nil] at e1
   subst e1
   rw [fF rfl,n2] at bB
   exact⟨cp,i1,s1,.inr ⟨r.1,b,o,_,rfl,hu,cl,q6 bB,fun j hj=>s1.dz _ _ (hz j hj)⟩⟩
 cases v <;> simp only [BK] at ho <;> try (simp at ho;done)
 ·rename_i dp cs off
  simp only [aQ] at h1
  obtain ⟨h2,b,o,vs,rfl,h3⟩:=h1
  cases ht:takeN off t.size cs with
  | none=>rw [ht] at ho;cases ho
  | some ds =>
   rw [ht] at ho
   cases dp with
   | cons=>cases ho
   | nil =>
    obtain ⟨k1,k2,k3⟩:=h3 rfl
    obtain ⟨hle,rfl⟩:=oL ht
    have hlen:=k1.len
    refine go _ b (o+off) ((vs.drop off).take t.size) x ho ((k1.drop off).take _) (k2.part off t.size) (by simp;omega) (fun j hj=>?_) rfl
    have:=k3 (off+j) (by omega)
    rw [n2] at this
    rwa [← Nat.add_assoc] at this
 ·simp only [aQ] at h1
  obtain rfl:=aV ho
  exact⟨Z,h,.refl,.inl ⟨rfl,h1⟩⟩
 ·rename_i b dp cs
  simp only [aQ] at h1
  rcases h1 with⟨rfl,h1⟩ | ⟨rfl,h2,b,o,vs,rfl,h3⟩
  ·obtain rfl:=aV ho
   exact⟨Z,h,.refl,.inl ⟨rfl,h1⟩⟩
  ·simp only [cond_true] at ho
   cases dp with
   | cons=>cases ho
   | nil =>
    cases hc:Nat.beq cs.length t.size
    ·rw [show(List.isEmpty ([]:List (Nat×Nat))&&Nat.beq cs.length t.size)=false by rw [hc];rfl] at ho;cases ho
    rw [show(List.isEmpty ([]:List (Nat×Nat))&&Nat.beq cs.length t.size)=true by rw [hc];rfl] at ho
    have hc:=Nat.eq_of_beq_eq_true hc
    obtain ⟨k1,k2,k3⟩:=h3 rfl
    have hlen:=k1.len
    refine go _ b (o+0) vs x ho k1 k2 (by omega) (fun j hj=>?_) rfl
    have:=k3 j (by omega)
    rw [n2] at this
    exact this
def gM(ps:List bx)(gs:List a6):(rs:List cU)→List a6→aq→Option (cU.outs rs (bx.dU ps)).D
 | [],vs,s =>
  match vs with
  | []=>ik ps gs s
  | _=>none
 | .val t m :: rs,vs,s =>
  match vs with
  | v :: vs=>(yg t m v s).bind fun r=>(gM ps gs rs vs r.2).bind fun q=>some (r.1,q)
  | []=>none
 | .opt a off t :: rs,vs,s =>
  match vs with
  | v :: vs=>(yh gs a off t v s).bind fun x=>(gM ps gs rs vs s).bind fun q=>some (x,q)
  | []=>none
 | .any t :: rs,vs,s =>
  match vs with
  | v :: vs=>cond (yi t v) (gM ps gs rs vs s) none
  | []=>none
 | .oG t :: rs,vs,s =>
  match vs with
  | v :: vs=>(BK t v s).bind fun r=>(gM ps gs rs vs r.2).bind fun q=>some (r.1,q)
  | []=>none
 | .new t m :: rs,vs,s =>
  match vs with
  | v :: vs=>(BJ t m v s).bind fun r=>(gM ps gs rs vs r.2).bind fun q=>some (r.1,q)
  | []=>none
theorem aab{ps:List bx}{gs:List a6}{s:aq} : gM ps gs [] [] s=ik ps gs s:=rfl
theorem aac{ps:List bx}{gs:List a6}{s:aq}{v:a6}{vs:List a6} : gM ps gs [] (v :: vs) s=none:=rfl
theorem aad{ps:List bx}{gs:List a6}{a o:Nat}{t:ae}{rs:List cU}{s:aq}{v:a6}{vs:List a6} : gM ps gs (.opt a o t :: rs) (v :: vs) s=(yh gs a o t v s).bind fun x=>(gM ps gs rs vs s).bind fun q=>some (x,q):=rfl
theorem aae{ps:List bx}{gs:List a6}{a o:Nat}{t:ae}{rs:List cU}{s:aq} : gM ps gs (.opt a o t :: rs) [] s=none:=rfl
theorem aaf{ps:List bx}{gs:List a6}{t:ae}{m:ba}{rs:List cU}{s:aq}{v:a6}{vs:List a6} : gM ps gs (.val t m :: rs) (v :: vs) s=(yg t m v s).bind fun r=>(gM ps gs rs vs r.2).bind fun q=>some (r.1,q):=rfl
theorem aag{ps:List bx}{gs:List a6}{t:ae}{m:ba}{rs:List cU}{s:aq} : gM ps gs (.val t m :: rs) [] s=none:=rfl
theorem aah{ps:List bx}{gs:List a6}{t:ae}{rs:List cU}{s:aq}{v:a6}{vs:List a6} : gM ps gs (.any t :: rs) (v :: vs) s=cond (yi t v) (gM ps gs rs vs s) none:=rfl
theorem aai{ps:List bx}{gs:List a6}{t:ae}{rs:List cU}{s:aq} : gM ps gs (.any t :: rs) [] s=none:=rfl
theorem aaj{ps:List bx}{gs:List a6}{t:ae}{rs:List cU}{s:aq}{v:a6}{vs:List a6} : gM ps gs (.oG t :: rs) (v :: vs) s=(BK t v s).bind fun r=>(gM ps gs rs vs r.2).bind fun q=>some (r.1,q):=rfl
theorem aak{ps:List bx}{gs:List a6}{t:ae}{rs:List cU}{s:aq} : gM ps gs (.oG t :: rs) [] s=none:=rfl
theorem aal{ps:List bx}{gs:List a6}{t:ae}{m:ba}{rs:List cU}{s:aq}{v:a6}{vs:List a6} : gM ps gs (.new t m :: rs) (v :: vs) s=(BJ t m v s).bind fun r=>(gM ps gs rs vs r.2).bind fun q=>some (r.1,q):=rfl
theorem aam{ps:List bx}{gs:List a6}{t:ae}{m:ba}{rs:List cU}{s:aq} : gM ps gs (.new t m :: rs) [] s=none:=rfl
theorem v_{ps:List bx}{gs:List a6}{us:List Value} : ∀(rs:List cU) (vs:List a6) (dk:List Value) (s:aq) (Z:ah) (x:(cU.outs rs (bx.dU ps)).D),gM ps gs rs vs s=some x→Inv w0 F0 Z0 n s a w ι Z →
  aZ w Z s ι gs us→aZ w Z s ι vs dk→∃ar F Z',Inv w0 F0 Z0 n ar a w ι Z'∧eV s ι Z ar Z'∧bF w0 F0 ar w ι Z' F∧hP w Z' ps us rs x dk F∧∀b o,F b o→∃id,(s.o id).live∧(ι id).F b o
 | [],vs,dk,s,Z,x,ho,h,aA,hv=>by
  cases vs with
  | cons=>rw [aac] at ho;cases ho
  | nil =>
   rw [aab] at ho
   simp only [aZ] at hv
   obtain ⟨ar,F,Z',i1,s1,f1,bB,g1⟩:=tl ps gs us s Z x ho h aA
   exact⟨ar,F,Z',i1,s1,f1,⟨hv,bB⟩,g1⟩
 | .opt lk off t :: rs,vs,dk,s,Z,x,ho,h,aA,hv=>by
  cases vs with
  | nil=>rw [aae] at ho;cases ho
  | cons v vs =>
   simp only [aZ] at hv
   obtain ⟨u,aT,rfl,h1,h2⟩:=hv
   rw [aad] at ho
   obtain ⟨y,aO,ho⟩:=bf ho
   obtain ⟨q,hq,ho⟩:=bf ho
   obtain rfl:=aV ho
   obtain ⟨ar,dH,bK,i2,s2,f2,cc,g2⟩:=v_ rs vs aT s Z q hq h aA h2
   exact⟨ar,dH,bK,i2,s2,f2,⟨u,aT,rfl,Z9 aO h aA h1,cc⟩,g2⟩
 | .any t :: rs,vs,dk,s,Z,x,ho,h,aA,hv=>by
  cases vs with
  | nil=>rw [aai] at ho;cases ho
  | cons v vs =>
   simp only [aZ] at hv
   obtain ⟨u,aT,rfl,h1,h2⟩:=hv
   rw [aah] at ho
   cases hc:yi t v
   ·rw [hc] at ho;cases ho
   rw [hc] at ho
   obtain ⟨ar,dH,bK,i2,s2,f2,cc,g2⟩:=v_ rs vs aT s Z x ho h aA h2
   exact⟨ar,dH,bK,i2,s2,f2,⟨u,aT,rfl,Z_ hc h1,cc⟩,g2⟩
 | .oG t :: rs,vs,dk,s,Z,x,ho,h,aA,hv=>by
  cases vs with
  | nil=>rw [aak] at ho;cases ho
  | cons v vs =>
   simp only [aZ] at hv
   obtain ⟨u,aT,rfl,h1,h2⟩:=hv
   rw [aaj] at ho
   obtain ⟨r,hr,ho⟩:=bf ho
   obtain ⟨q,hq,ho⟩:=bf ho
   obtain rfl:=aV ho
   obtain ⟨cp,i1,s1,bB⟩:=aaa hr h h1
   obtain ⟨ar,dH,bK,i2,s2,f2,cc,g2⟩:=v_ rs vs aT r.2 cp q hq i1 (aZ.move s1.ec aA) (aZ.move s1.ec h2)
   refine⟨ar,dH,bK,i2,s1.trans s2,f2,⟨u,aT,rfl,bB.imp (fun h=>h) fun⟨y,b,o,vs,k1,k2,k3,bh,bu⟩=>⟨y,b,o,vs,k1,k2,k3,ae.al.mono s2.dz _ _ (fun _ _ h=>h) bh,fun j hj=>s2.dz _ _ (bu j hj)⟩,cc⟩,?_⟩
   intro b o y
   obtain ⟨id,hl,hf⟩:=g2 b o y
   exact⟨id,(s1.live hl).1,hf⟩
 | .new t m :: rs,vs,dk,s,Z,x,ho,h,aA,hv=>by
  cases vs with
  | nil=>rw [aam] at ho;cases ho
  | cons v vs =>
   simp only [aZ] at hv
   obtain ⟨u,aT,rfl,h1,h2⟩:=hv
   rw [aal] at ho
   obtain ⟨r,hr,ho⟩:=bf ho
   obtain ⟨q,hq,ho⟩:=bf ho
   obtain rfl:=aV ho
   obtain ⟨b,o,ws,F1,cp,rfl,i1,s1,f1,cl,hwr,bB,aan,g1⟩:=Z8 hr h h1
   obtain ⟨ar,dH,bK,i2,s2,f2,cc,g2⟩:=v_ rs vs aT r.2 cp q hq i1 (aZ.move s1.ec aA) (aZ.move s1.ec h2)
   refine⟨ar,(F1.or (ah.run b o t.size)).or dH,bK,i2,s1.trans s2,(f1.shrink s2).or f2,⟨b,o,ws,aT,F1,dH,rfl,cl,hwr,ae.al.mono s2.dz _ _ (fun _ _ h=>h) bB,cc,?_,aan,fun _ _ h=>.inl h,fun _ _ h=>.inr h⟩,?_⟩
   ·intro b o x y
    obtain ⟨id,hl,hf⟩:=g2 b o y
    exact f1.apart id hl b o x hf
   ·rintro b o (y | y)
    ·exact g1 b o y
    ·obtain ⟨id,hl,hf⟩:=g2 b o y;exact⟨id,(s1.live hl).1,hf⟩
 | .val t m :: rs,vs,dk,s,Z,x,ho,h,aA,hv=>by
  cases vs with
  | nil=>rw [aag] at ho;cases ho
  | cons v vs =>
   simp only [aZ] at hv
   obtain ⟨u,aT,rfl,h1,h2⟩:=hv
   rw [aaf] at ho
   obtain ⟨r,hr,ho⟩:=bf ho
   obtain ⟨q,hq,ho⟩:=bf ho
   obtain rfl:=aV ho
   obtain ⟨ws,F1,cp,rfl,i1,s1,f1,bB,g1⟩:=Qn hr h h1
   obtain ⟨ar,dH,bK,i2,s2,f2,cc,g2⟩:=v_ rs vs aT r.2 cp q hq i1 (aZ.move s1.ec aA) (aZ.move s1.ec h2)
   refine⟨ar,F1.or dH,bK,i2,s1.trans s2,(f1.shrink s2).or f2,⟨ws,aT,F1,dH,rfl,ae.al.mono s2.dz _ _ (fun _ _ h=>h) bB,cc,?_,fun _ _ h=>.inl h,fun _ _ h=>.inr h⟩,?_⟩
   ·intro b o x y
    obtain ⟨id,hl,hf⟩:=g2 b o y
    exact f1.apart id hl b o x hf
   ·rintro b o (y | y)
    ·exact g1 b o y
    ·obtain ⟨id,hl,hf⟩:=g2 b o y;exact⟨id,(s1.live hl).1,hf⟩
end
end Go.LM
namespace Go.LM
inductive kD where
 | keep
 | bW (t:ae) (dp:List Nat)
 | ag (c:Nat)
 | au (c:Nat)
inductive ka where
 | cell (c:kD)
 | h7 (cs:List kD)
 | ptr (c:Nat)
 | dg (dp:List Nat) (cs:List kD)
 | opt (c:Nat)
 | same
 | drop
 | u_ (a b:List (List kD))
inductive il where
 | var (cs:List kD)
 | row (t:ae) (em:ba)
structure bV where
 aj:List (Nat×ka)
 os:List (Nat×il)
 gs:List ka
abbrev Ren:=List (Nat×Option Nat)
def ju:Ren→Nat→Option (Option Nat)
 | [],_=>none
 | (k,v) :: l,c=>cond (Nat.beq k c) (some v) (ju l c)
def jO(r:Ren)(c id:Nat):Bool:=match ju r c with
 | some (some i)=>Nat.beq i id
 | _=>false
def tm(r:Ren)(c:Nat):Bool:=match ju r c with
 | some none=>true
 | _=>false
def gN:List (Nat×il)→Nat→Bool
 | [],_=>false
 | (k,_) :: l,c=>cond (Nat.beq k c) true (gN l c)
def rz:Ren→List Nat
 | []=>[]
 | (_,some i) :: l=>i :: rz l
 | (_,none) :: l=>rz l
def o4:List Nat→Bool
 | []=>true
 | x :: l => !(l.any (Nat.beq x))&&o4 l
def IK:Ren→List Nat
 | []=>[]
 | (k,_) :: l=>k :: IK l
def rA(r:Ren)(c:Nat)(v:Option Nat):Ren:=match ju r c with
 | none=>(c,v) :: r
 | some _=>r
def IL(r:Ren):List Nat→List (Nat×Nat)→Ren
 | c :: cs,d :: ds=>IL (rA r c (some d.1)) cs ds
 | _,_=>r
def Qp(r:Ren):kD→a8→Ren
 | .ag c,.ag id _=>rA r c (some id)
 | .ag c,.nil _=>rA r c none
 | .au c,.ag id _=>rA r c (some id)
 | .bW _ dp,.bW _ ds _ _=>IL r dp ds
 | .bW _ (c :: _),.ag id _=>rA r c (some id)
 | _,_=>r
def BL(r:Ren):List kD→List a8→Ren
 | c :: cs,x :: xs=>BL (Qp r c x) cs xs
 | _,_=>r
def Qq(r:Ren):ka→a6→Ren
 | .cell c,.aU x=>Qp r c x
 | .cell (.ag c),.kq=>rA r c none
 | .h7 cs,.h7 xs=>BL r cs xs
 | .ptr c,.ptr p=>rA r c (some p.id)
 | .dg dp cs,.dg ds xs _=>BL (IL r dp ds) cs xs
 | .opt c,.opt id _=>rA r c (some id)
 | _,_=>r
def Qr(s:aq)(r:Ren):List (Nat×ka)→Ren
 | []=>r
 | (d,t) :: l=>Qr s (Qq r t (s.t d)) l
def Qs(r:Ren):List ka→List a6→Ren
 | t :: l,x :: xs=>Qs (Qq r t x) l xs
 | _,_=>r
def IM(s:aq)(r:Ren):List (Nat×il)→Ren
 | []=>r
 | (c,.var cs) :: l=>IM s (match ju r c with
   | some (some id)=>(match s.o id with
    | .var _ xs=>BL r cs xs
    | _=>r)
   | _=>r) l
 | _ :: l=>IM s r l
def tn(dp:List Nat):List (Nat×Nat):=dp.map fun c=>(c,0)
def qf(r:Ren)(os:List (Nat×il))(s:aq):kD→a8→Option a8
 | .keep,c=>match c with
  | .int k x=>some (.int k x)
  | .bool b=>some (.bool b)
  | .str x=>some (.str x)
  | _=>none
 | .bW t dp,c=>cond (dp.all (gN os)&&(borrows s c).all fun d=>dp.any fun c=>jO r c d.1) ((oH s t c).bind fun x=>some (.bW t (tn dp) none x)) none
 | .ag k,c=>cond (gN os k) (match c with
  | .ag id sub=>cond (jO r k id) (some (.ag k sub)) none
  | .nil _=>cond (tm r k) (some (.ag k none)) none
  | _=>none) none
 | .au k,c=>cond (gN os k) (match c with
  | .ag id sub=>(match s.o id with
   | .row _ _ _ xs=>cond (jO r k id) (some (.ag k (some (eb sub,kV sub xs)))) none
   | _=>none)
  | _=>none) none
def n4(r:Ren)(os:List (Nat×il))(s:aq):List kD→List a8→Option (List a8)
 | [],[]=>some []
 | c :: cs,x :: xs=>(qf r os s c x).bind fun y=>(n4 r os s cs xs).bind fun ys=>some (y :: ys)
 | _,_=>none
def BM(r:Ren)(os:List (Nat×il))(s:aq):ka→a6→Option a6
 | .cell c,.aU x=>(qf r os s c x).bind fun y=>some (.aU y)
 | .cell (.ag k),.kq=>cond (gN os k&&tm r k) (some (.aU (.ag k none))) none
 | .cell (.bW t dp),.kq=>cond (dp.all (gN os)) (some (.aU (.bW t (tn dp) none []))) none
 | .h7 cs,.h7 xs=>(n4 r os s cs xs).bind fun ys=>some (.h7 ys)
 | .ptr k,.ptr p=>cond (gN os k&&jO r k p.id) (some (.ptr { p with id:=k })) none
 | .dg dp cs,.dg ds xs off=>cond (dp.all (gN os)&&alive s ds&&ds.all fun d=>dp.any fun c=>jO r c d.1) ((n4 r os s cs xs).bind fun ys=>some (.dg (tn dp) ys off)) none
 | .opt k,.opt id o=>cond (gN os k&&jO r k id) (some (.opt k o)) none
 | .same,.jD=>some .jD
 | .same,.aD=>some .aD
 | .same,.fn f [] []=>some (.fn f [] [])
 | .drop,_=>some .aD
 | _,_=>none
def v'(r:Ren)(os:List (Nat×il))(s:aq):List ka→List a6→Option (List a6)
 | [],[]=>some []
 | t :: l,x :: xs=>(BM r os s t x).bind fun v=>(v' r os s l xs).bind fun vs=>some (v :: vs)
 | _,_=>none
def IN(r:Ren)(os:List (Nat×il))(s:aq):ka→a6→Option a6
 | .u_ a b,.fn f xs ys=>(v' r os s (a.map (ka.dg [])) xs).bind fun x=>(v' r os s (b.map (ka.dg [])) ys).bind fun y=>some (.fn f x y)
 | t,x=>BM r os s t x
def BN(r:Ren)(os:List (Nat×il))(s:aq):List (Nat×ka)→Option (Nat→a6)
 | []=>some fun _=>.aD
 | (d,t) :: l=>(IN r os s t (s.t d)).bind fun v=>(BN r os s l).bind fun f=>some (bQ f d v)
def IP(r:Ren)(os:List (Nat×il))(s:aq)(c:Nat)(t:il):Option ck :=
 match ju r c with
 | some (some id)=>(match t,s.o id with
  | .row t em,.row u gd _ xs=>cond (ba.beq gd em||xs.isEmpty) ((eB (.sl u) (.sl t) xs).bind fun x=>some (.row t em 0 x)) none
  | .var cs,.var _ xs=>(n4 r os s cs xs).bind fun ys=>some (.var 0 ys)
  | _,_=>none)
 | some none=>(match t with
  | .row t em=>some (.row t em 0 [])
  | _=>none)
 | none=>none
def BO(r:Ren)(os:List (Nat×il))(s:aq):List (Nat×il)→Option (Nat→ck)
 | []=>some fun _=>.none
 | (c,t) :: l=>(IP r os s c t).bind fun v=>(BO r os s l).bind fun f=>some (bQ f c v)
def IQ(T:bV)(r:Ren)(s:aq):Option aq :=
 cond (o4 (rz r)&&o4 (IK r)) ((BN r T.os s T.aj).bind fun t=>(BO r T.os s T.os).bind fun o=>(v' r T.os s T.gs s.g).bind fun g=>some ⟨t,o,g⟩) none
def norm(T:bV)(s:aq):Option aq:=IQ T (IM s (Qs (Qr s [] T.aj) T.gs s.g) T.os) s
section
variable{w0:World}{F0 Z0:ah}{n:cB}{s s0:aq}{a:Act}{w:World}{ι akL:Nat→bC}{Z:ah}{r:Ren}{os:List (Nat×il)}
def iota(r:Ren)(ι : Nat→bC):Nat→bC:=fun c=>match ju r c with
 | some (some id) => ι id
 | _=>⟨none,0,ah.none⟩
theorem rB{c id:Nat}(h:jO r c id=true):ju r c=some (some id):=by
 unfold jO at h
 split at h
 ·rename_i i hi;rw [hi,Nat.eq_of_beq_eq_true h]
 ·cases h
theorem Qt{c:Nat}(h:tm r c=true):ju r c=some none:=by
 unfold tm at h
 split at h
 ·rename_i hi;exact hi
 ·cases h
theorem BP{c id:Nat}(h:jO r c id=true):iota r ι c = ι id:=by unfold iota;rw [rB h]
theorem aao{c:Nat}(h:tm r c=true):iota r ι c=⟨none,0,ah.none⟩:=by unfold iota;rw [Qt h]
def l8(r:Ren)(os:List (Nat×il))(s s0:aq):Prop:=∀c,(s0.o c=.none∧gN os c=false) ∨
 (∃id,ju r c=some (some id)∧((∃t em n5 ver xs,s.o id=.row t n5 ver xs∧s0.o c=.row t em 0 xs∧(n5=em∨xs=[]))∨(∃ver cs lu n6,s.o id=.var ver cs∧s0.o c=.var 0 lu∧n4 r os s n6 cs=some lu))) ∨
 (ju r c=some none∧∃t em,s0.o c=.row t em 0 [])
theorem l8.known(h:l8 r os s s0){c:Nat}(hc:gN os c=true):LM.known s0 c:=by
 intro h0
 rcases h c with⟨_,h1⟩ | ⟨id,_,⟨t,em,n5,ver,xs,_,h1,_⟩ | ⟨ver,cs,lu,n6,_,h1,_⟩⟩ | ⟨_,t,em,h1⟩
 ·rw [hc] at h1;cases h1
 all_goals rw [h1] at h0;cases h0
theorem l8.dep(h:l8 r os s s0){c:Nat}(hc:gN os c=true):ek s0 (c,0):=⟨h.known hc,.inr (Nat.zero_le _)⟩
theorem Qu(h:l8 r os s s0){dp:List Nat}(ag:dp.all (gN os)=true):∀d,d∈tn dp→ek s0 d:=by
 intro d i_
 unfold tn at i_
 obtain ⟨c,hc,rfl⟩:=List.mem_map.1 i_
 exact h.dep (List.all_eq_true.1 ag c hc)
theorem Qv{dp:List Nat}{ds:List (Nat×Nat)}(h:∀d,d∈ds→(dp.any fun c=>jO r c d.1)=true):ah.sub (db ι ds) (db (iota r ι) (tn dp)):=by
 rintro b o ⟨d,ag,hf⟩
 obtain ⟨c,hc,cl⟩:=List.any_eq_true.1 (h d ag)
 refine⟨(c,0),List.mem_map.2 ⟨c,hc,rfl⟩,?_⟩
 rw [BP cl]
 exact hf
theorem BQ(h:Inv w0 F0 Z0 n s a w ι Z)(bL:l8 r os s s0){c:kD}{x y:a8}{v:Value}(hn:qf r os s c x=some y)(hx:cf w Z s ι x v):cf w Z s0 (iota r ι) y v:=by
 cases c with
 | keep =>
  cases x <;> simp only [qf,Option.some.injEq] at hn <;> first | (cases hn;done) | (subst hn;exact hx)
 | bW t dp =>
  simp only [qf] at hn
  cases hc:(dp.all (gN os)&&(borrows s x).all fun d=>dp.any fun c=>jO r c d.1)
  ·rw [hc] at hn;cases hn
  rw [hc] at hn
  simp only [cond_true] at hn
  simp only [Bool.and_eq_true] at hc
  obtain ⟨xs,hl,hn⟩:=bf hn
  obtain rfl:=aV hn
  obtain ⟨h1,h2,h3⟩:=G_ h hl hx
  have kv:=Qv (ι := ι) (r:=r) (dp:=dp) (ds:=borrows s x) fun d ag=>List.all_eq_true.1 hc.2 d ag
  have h4:=ae.al.mono (Z':=Z.or (db (iota r ι) (tn dp))) (fun b o hz=>hz.elim .inl fun h=>.inr (kv b o h)) _ _ (fun _ _ h=>h) h1
  refine⟨Qu bL hc.1,?_,fun _=>h4,.none⟩
  simp only [ae.al] at h4
  obtain ⟨A,c,hv,_⟩:=h4
  simp only [List.cons.injEq,and_true] at hv
  exact⟨A,_,c,hv⟩
 | ag k =>
  simp only [qf] at hn
  cases hc:gN os k
  ·rw [hc] at hn;cases hn
  rw [hc] at hn
  simp only [cond_true] at hn
  cases x with
  | ag id sub =>
   simp only at hn
   cases cl:jO r k id
   ·rw [cl] at hn;cases hn
   rw [cl] at hn
   obtain rfl:=aV hn
   obtain ⟨h1,A,m,jH,hv,h2⟩:=hx
   refine⟨bL.known hc,A,m,jH,hv,fun t em ver xs bU=>?_⟩
   rw [BP cl]
   rcases bL k with⟨h0,_⟩ | ⟨dV,h0,⟨c8,gd,Qw,mM,fD,g1,g2,ge⟩ | ⟨mM,cs,lu,n6,g1,g2,_⟩⟩ | ⟨h0,c8,gd,g2⟩
   ·rw [h0] at bU;cases bU
   ·rw [rB cl] at h0
    injection h0 with h0;injection h0 with h0;subst h0
    rw [g2] at bU
    simp only [ck.core,ck.row.injEq] at bU
    obtain ⟨rfl,rfl,rfl,bU⟩:=bU
    have:=eq_of_heq bU;subst this
    exact h2 _ _ _ _ (k0 g1)
   ·rw [g2] at bU;cases bU
   ·rw [rB cl] at h0;cases h0
  | nil u =>
   simp only at hn
   cases cl:tm r k
   ·rw [cl] at hn;cases hn
   rw [cl] at hn
   obtain rfl:=aV hn
   have hv:v=.slice none 0 0:=hx
   refine⟨bL.known hc,none,0,0,hv,fun t em ver xs bU=>?_⟩
   rw [aao cl]
   rcases bL k with⟨h0,_⟩ | ⟨dV,h0,_⟩ | ⟨h0,c8,gd,g2⟩
   ·rw [h0] at bU;cases bU
   ·rw [Qt cl] at h0;cases h0
   ·rw [g2] at bU
    simp only [ck.core,ck.row.injEq] at bU
    obtain ⟨rfl,rfl,rfl,bU⟩:=bU
    have:=eq_of_heq bU;subst this
    exact⟨rfl,Nat.le_refl _,Nat.le_refl _,Nat.le_refl _,.inl rfl⟩
  | _=>cases hn
 | au k =>
  simp only [qf] at hn
  cases hc:gN os k
  ·rw [hc] at hn;cases hn
  rw [hc] at hn
  simp only [cond_true] at hn
  cases x with
  | ag id sub =>
   simp only at hn
   cases hrow:s.o id with
   | row t2 XT XU XV =>
    rw [hrow] at hn
    simp only at hn
    cases cl:jO r k id
    ·rw [cl] at hn;cases hn
    rw [cl] at hn
    obtain rfl:=aV hn
    obtain ⟨h1,A,m,jH,hv,h2⟩:=hx
    refine⟨bL.known hc,A,m,jH,hv,fun t em ver xs bU=>?_⟩
    rw [BP cl]
    rcases bL k with⟨h0,_⟩ | ⟨dV,h0,⟨c8,gd,Qw,mM,fD,g1,g2,ge⟩ | ⟨mM,cs,lu,n6,g1,g2,_⟩⟩ | ⟨h0,c8,gd,g2⟩
    ·rw [h0] at bU;cases bU
    ·rw [rB cl] at h0
     injection h0 with h0;injection h0 with h0;subst h0
     rw [g2] at bU
     simp only [ck.core,ck.row.injEq] at bU
     obtain ⟨rfl,rfl,rfl,bU⟩:=bU
     have:=eq_of_heq bU;subst this
     rw [hrow] at g1
     simp only [ck.row.injEq] at g1
     obtain ⟨rfl,rfl,rfl,g1⟩:=g1
     have:=eq_of_heq g1;subst this
     have h3:=h2 _ _ _ _ (k0 hrow)
     cases sub with
     | none=>exact⟨h3.Od,h3.fits,h3.le,h3.cap,h3.at_⟩
     | some p=>exact h3
    ·rw [g2] at bU;cases bU
    ·rw [rB cl] at h0;cases h0
   | _=>rw [hrow] at hn;cases hn
  | _=>cases hn
theorem BR(h:Inv w0 F0 Z0 n s a w ι Z)(bL:l8 r os s s0):∀ {cs:List kD} {xs ys:List a8} {vs:List Value},n4 r os s cs xs=some ys→bG w Z s ι xs vs→bG w Z s0 (iota r ι) ys vs
 | [],[],ys,vs,hn,hx=>by
  obtain rfl:=aV hn
  cases vs with
  | nil=>trivial
  | cons=>exact hx.elim
 | [],_ :: _,_,_,hn,_=>by cases hn
 | _ :: _,[],_,_,hn,_=>by cases hn
 | c :: cs,x :: xs,ys,vs,hn,hx=>by
  simp only [n4] at hn
  obtain ⟨y,h1,hn⟩:=bf hn
  obtain ⟨Qx,h2,hn⟩:=bf hn
  obtain rfl:=aV hn
  cases vs with
  | nil=>exact hx.elim
  | cons v vs=>exact⟨BQ h bL h1 hx.1,BR h bL h2 hx.2⟩
theorem IS:∀ {cs:List kD} {xs ys:List a8},n4 r os s cs xs=some ys→ys.length=xs.length
 | [],[],_,hn=>by obtain rfl:=aV hn;rfl
 | [],_ :: _,_,hn=>by cases hn
 | _ :: _,[],_,hn=>by cases hn
 | c :: cs,x :: xs,ys,hn=>by
  simp only [n4] at hn
  obtain ⟨y,h1,hn⟩:=bf hn
  obtain ⟨Qx,h2,hn⟩:=bf hn
  obtain rfl:=aV hn
  simp [IS h2]
theorem Qy(bL:l8 r os s s0){k:Nat}{p:Place}{A:Addr}(hc:gN os k=true)(cl:jO r k p.id=true)(au:iV s ι p A):iV s0 (iota r ι) { p with id:=k } A:=by
 obtain ⟨h1,h2⟩:=au
 refine⟨h1,?_⟩
 show match (s0.o k).core with | .var _ cs=>_ | .row t _ _ xs=>_ | _=>_
 rw [BP cl]
 rcases bL k with⟨h0,_⟩ | ⟨dV,h0,⟨c8,gd,Qw,mM,fD,g1,g2,ge⟩ | ⟨mM,cs,lu,n6,g1,g2,_⟩⟩ | ⟨h0,c8,gd,g2⟩
 ·rw [h0];trivial
 ·rw [rB cl] at h0
  injection h0 with h0;injection h0 with h0;subst h0
  rw [g2]
  rw [g1] at h2
  exact h2
 ·rw [rB cl] at h0
  injection h0 with h0;injection h0 with h0;subst h0
  rw [g2]
  rw [g1] at h2
  exact h2
 ·rw [rB cl] at h0;cases h0
theorem Qz(h:Inv w0 F0 Z0 n s a w ι Z)(bL:l8 r os s s0){t:ka}{x y:a6}{v:Value}(hn:BM r os s t x=some y)(hx:aQ w Z s ι x v):aQ w Z s0 (iota r ι) y v:=by
 unfold BM at hn
 split at hn
 ·obtain ⟨z,h1,hn⟩:=bf hn
  obtain rfl:=aV hn
  simp only [aQ] at hx ⊢
  exact BQ h bL h1 hx
 ·rename_i k
  cases hc:(gN os k&&tm r k)
  ·rw [hc] at hn;cases hn
  rw [hc] at hn
  simp only [Bool.and_eq_true] at hc
  obtain rfl:=aV hn
  simp only [aQ] at hx ⊢
  exact BQ (c:=.ag k) (x:=.nil .bool) h bL (by simp only [qf];rw [hc.1,hc.2];rfl) hx
 ·rename_i t dp
  cases hc:dp.all (gN os)
  ·rw [hc] at hn;cases hn
  rw [hc] at hn
  obtain rfl:=aV hn
  simp only [aQ] at hx ⊢
  refine BQ (c:=.bW t dp) (x:=.nil t) h bL ?_ hx
  simp only [qf,hc,borrows,List.all_nil,Bool.and_true,cond_true]
  simp only [oH,eB]
  rw [dif_pos (ae.beq_refl _)]
  rfl
 ·obtain ⟨z,h1,hn⟩:=bf hn
  obtain rfl:=aV hn
  simp only [aQ] at hx ⊢
  obtain ⟨vs,hv,hx⟩:=hx
  exact⟨vs,hv,BR h bL h1 hx⟩
 ·rename_i k p
  cases hc:(gN os k&&jO r k p.id)
  ·rw [hc] at hn;cases hn
  rw [hc] at hn
  simp only [Bool.and_eq_true] at hc
  obtain rfl:=aV hn
  simp only [aQ] at hx ⊢
  obtain ⟨_,A,hv,au⟩:=hx
  exact⟨bL.known hc.1,A,hv,Qy bL hc.1 hc.2 au⟩
 ·rename_i dp cs ds xs off
  cases hc:(dp.all (gN os)&&alive s ds&&ds.all fun d=>dp.any fun c=>jO r c d.1)
  ·rw [hc] at hn;cases hn
  rw [hc] at hn
  simp only [Bool.and_eq_true] at hc
  simp only [cond_true] at hn
  obtain ⟨z,h1,hn⟩:=bf hn
  obtain rfl:=aV hn
  simp only [aQ] at hx ⊢
  obtain ⟨_,b,o,vs,hv,hx⟩:=hx
  obtain ⟨g1,g2,g3⟩:=hx hc.1.2
  have kv:=Qv (ι := ι) (r:=r) (dp:=dp) (ds:=ds) fun d ag=>List.all_eq_true.1 hc.2 d ag
  refine⟨Qu bL hc.1.1,b,o,vs,hv,fun _=>⟨BR h bL h1 g1,g2,fun j hj=>?_⟩⟩
  rw [IS h1] at hj
  exact(g3 j hj).elim .inl fun h=>.inr (kv _ _ h)
 ·rename_i k id o
  cases hc:(gN os k&&jO r k id)
  ·rw [hc] at hn;cases hn
  rw [hc] at hn
  simp only [Bool.and_eq_true] at hc
  obtain rfl:=aV hn
  simp only [aQ] at hx ⊢
  obtain ⟨_,hx⟩:=hx
  exact⟨bL.known hc.1,hx.imp (fun h=>h) fun⟨h1,A,hv,au⟩=>⟨h1,A,hv,Qy (p:=⟨id,some o.toNat,0⟩) bL hc.1 hc.2 au⟩⟩
 ·obtain rfl:=aV hn
  simpa only [aQ] using hx
 ·obtain rfl:=aV hn
  simp only [aQ]
 ·obtain rfl:=aV hn
  simpa only [aQ,aZ] using hx
 ·obtain rfl:=aV hn
  simp only [aQ]
 ·cases hn
theorem BS(h:Inv w0 F0 Z0 n s a w ι Z)(bL:l8 r os s s0):∀ {aj:List ka} {xs ys:List a6} {vs:List Value},v' r os s aj xs=some ys→aZ w Z s ι xs vs→aZ w Z s0 (iota r ι) ys vs
 | [],[],ys,vs,hn,hx=>by obtain rfl:=aV hn;simpa only [aZ] using hx
 | [],_ :: _,_,_,hn,_=>by cases hn
 | _ :: _,[],_,_,hn,_=>by cases hn
 | t :: aj,x :: xs,ys,vs,hn,hx=>by
  simp only [v'] at hn
  obtain ⟨y,h1,hn⟩:=bf hn
  obtain ⟨Qx,h2,hn⟩:=bf hn
  obtain rfl:=aV hn
  simp only [aZ] at hx ⊢
  obtain ⟨v,bD,rfl,g1,g2⟩:=hx
  exact⟨v,bD,rfl,Qz h bL h1 g1,BS h bL h2 g2⟩
theorem aap(h:Inv w0 F0 Z0 n s a w ι Z)(bL:l8 r os s s0){t:ka}{x y:a6}{v:Value}(hn:IN r os s t x=some y)(hx:aQ w Z s ι x v):aQ w Z s0 (iota r ι) y v:=by
 unfold IN at hn
 split at hn
 ·obtain ⟨U,h1,hn⟩:=bf hn
  obtain ⟨akM,h2,hn⟩:=bf hn
  obtain rfl:=aV hn
  simp only [aQ] at hx ⊢
  obtain ⟨us,vs,rfl,k1,k2⟩:=hx
  exact⟨us,vs,rfl,BS h bL h1 k1,BS h bL h2 k2⟩
 ·exact Qz h bL hn hx
theorem QA(h:Inv w0 F0 Z0 n s a w ι Z)(bL:l8 r os s s0):∀ {aj:List (Nat×ka)} {f:Nat→a6},BN r os s aj=some f→∀k,aQ w Z s0 (iota r ι) (f k) (a.tmps.getD k undef)
 | [],f,hn,k=>by obtain rfl:=aV hn;simp only [aQ]
 | (d,t) :: l,f,hn,k=>by
  simp only [BN] at hn
  obtain ⟨v,h1,hn⟩:=bf hn
  obtain ⟨g,h2,hn⟩:=bf hn
  obtain rfl:=aV hn
  by_cases hk:d=k
  ·subst hk;rw [cw];exact aap h bL h1 (h.tmps d)
  ·rw [cO hk];exact QA h bL h2 k
theorem aaq{c:Nat}{t:il}{v:ck}(hn:IP r os s c t=some v) :
  (∃id,ju r c=some (some id)∧((∃t em n5 ver xs,s.o id=.row t n5 ver xs∧v=.row t em 0 xs∧(n5=em∨xs=[]))∨(∃ver cs lu n6,s.o id=.var ver cs∧v=.var 0 lu∧n4 r os s n6 cs=some lu)))∨(ju r c=some none∧∃t em,v=.row t em 0 []):=by
 unfold IP at hn
 split at hn
 ·rename_i id hl
  refine .inl ⟨id,hl,?_⟩
  split at hn
  ·rename_i t em u gd ver xs ho
   cases hb:(ba.beq gd em||xs.isEmpty)
   ·rw [hb] at hn;cases hn
   rw [hb] at hn
   obtain ⟨x,h1,hn⟩:=bf hn
   obtain rfl:=aV hn
   simp only [Bool.or_eq_true] at hb
   obtain ⟨e,rfl⟩:=gH h1
   subst e
   refine .inl ⟨_,_,_,_,_,ho,rfl,?_⟩
   rcases hb with hb | hb
   ·exact .inl (ba.eq_of_beq _ _ hb)
   ·exact .inr (List.isEmpty_iff.1 hb)
  ·rename_i cs ver xs ho
   obtain ⟨ys,h1,hn⟩:=bf hn
   obtain rfl:=aV hn
   exact .inr ⟨_,_,_,_,ho,rfl,h1⟩
  ·cases hn
 ·rename_i hl
  split at hn
  ·obtain rfl:=aV hn;exact .inr ⟨hl,_,_,rfl⟩
  ·cases hn
 ·cases hn
theorem BT:∀ {l:List (Nat×il)} {f:Nat→ck},BO r os s l=some f→∀c,(f c=.none∧gN l c=false) ∨
  (∃id,ju r c=some (some id)∧((∃t em n5 ver xs,s.o id=.row t n5 ver xs∧f c=.row t em 0 xs∧(n5=em∨xs=[]))∨(∃ver cs lu n6,s.o id=.var ver cs∧f c=.var 0 lu∧n4 r os s n6 cs=some lu))) ∨
  (ju r c=some none∧∃t em,f c=.row t em 0 [])
 | [],f,hn,c=>by obtain rfl:=aV hn;exact .inl ⟨rfl,rfl⟩
 | (d,t) :: l,f,hn,c=>by
  simp only [BO] at hn
  obtain ⟨v,h1,hn⟩:=bf hn
  obtain ⟨g,h2,hn⟩:=bf hn
  obtain rfl:=aV hn
  by_cases hk:d=c
  ·subst hk;rw [cw];exact .inr (aaq h1)
  ·rw [cO hk]
   rcases BT h2 c with⟨g1,g2⟩ | g
   ·refine .inl ⟨g1,?_⟩
    unfold gN
    have:Nat.beq d c=false:=by
     cases hb:Nat.beq d c
     ·rfl
     ·exact absurd (Nat.eq_of_beq_eq_true hb) hk
    rw [this]
    exact g2
   ·exact .inr g
theorem IT{c:Nat}{v:Option Nat} : ∀ {r:Ren},ju r c=some v→(c,v)∈r
 | [],h=>by cases h
 | (k,u) :: l,h=>by
  unfold ju at h
  cases hb:Nat.beq k c
  ·rw [hb] at h;exact List.mem_cons_of_mem _ (IT h)
  ·rw [hb] at h
   obtain rfl:=aV h
   obtain rfl:=Nat.eq_of_beq_eq_true hb
   exact List.mem_cons_self
theorem QB{c id:Nat} : ∀ {r:Ren},(c,some id)∈r→id∈rz r
 | (k,u) :: l,h=>by
  rcases List.mem_cons.1 h with h | h
  ·injection h with h1 h2
   subst h1 h2
   exact List.mem_cons_self
  ·have:=QB h
   cases u with
   | none=>exact this
   | some i=>exact List.mem_cons_of_mem _ this
theorem IU{c c' id:Nat} : ∀ {r:Ren},o4 (rz r)=true→(c,some id)∈r→(c',some id)∈r→c=c'
 | (k,u) :: l,hn,h,h'=>by
  cases u with
  | none =>
   simp only [rz] at hn
   rcases List.mem_cons.1 h with h | h
   ·injection h with _ h2;cases h2
   rcases List.mem_cons.1 h' with h' | h'
   ·injection h' with _ h2;cases h2
   exact IU hn h h'
  | some i =>
   simp only [rz,o4,Bool.and_eq_true,Bool.not_eq_true'] at hn
   have bO:∀ {x},(x,some i)∈l→False:=by
    intro x hx
    have:=QB hx
    have h3:=List.any_eq_false.1 hn.1 i this
    simp at h3
   rcases List.mem_cons.1 h with g | g
   ·injection g with h1 h2;injection h2 with h2
    rcases List.mem_cons.1 h' with tp | tp
    ·injection tp with h3 h4;rw [h1,h3]
    ·exact(bO (h2 ▸ tp)).elim
   ·rcases List.mem_cons.1 h' with tp | tp
    ·injection tp with h1 h2;injection h2 with h2
     exact(bO (h2 ▸ g)).elim
    ·exact IU hn.2 g tp
theorem aar{T:bV}(wa:n.gc=[])(hn:IQ T r s=some s0)(hs:cV w0 F0 Z0 n s a w):cV w0 F0 Z0 n s0 a w:=by
 obtain ⟨ι,Z,h⟩:=hs
 unfold IQ at hn
 cases hR:(o4 (rz r)&&o4 (IK r))
 ·rw [hR] at hn;cases hn
 rw [hR] at hn
 simp only [Bool.and_eq_true] at hR
 simp only [cond_true] at hn
 obtain ⟨aas,h1,hn⟩:=bf hn
 obtain ⟨bZ,h2,hn⟩:=bf hn
 obtain ⟨aat,h3,hn⟩:=bf hn
 obtain rfl:=aV hn
 have bL:l8 r T.os s ⟨aas,bZ,aat⟩:=BT h2
 have live:∀c,(bZ c).live→(∃id,ju r c=some (some id)∧(s.o id).live∧iota r ι c = ι id)∨(iota r ι c=⟨none,0,ah.none⟩):=by
  intro c hl
  rcases BT h2 c with⟨g,_⟩ | ⟨id,g,⟨t,em,n5,ver,xs,g1,g2,ge⟩ | ⟨ver,cs,lu,n6,g1,g2,_⟩⟩ | ⟨g,_⟩
  ·rw [g] at hl;exact hl.elim
  ·exact .inl ⟨id,g,by rw [g1];trivial,by unfold iota;rw [g]⟩
  ·exact .inl ⟨id,g,by rw [g1];trivial,by unfold iota;rw [g]⟩
  ·exact .inr (by unfold iota;rw [g])
 refine⟨iota r ι,Z,h.ext,h.dz,h.q8,h.iC,?_,?_,?_,?_,QA h bL h1,h.size,BS h bL h3 h.ghost,by rw [wa];intro e he;simp at he,h.defers⟩
 ·intro c
  show hJ w Z _ _ _ (bZ c)
  rcases BT h2 c with⟨g,_⟩ | ⟨id,g,⟨t,em,n5,ver,xs,g1,g2,ge⟩ | ⟨ver,cs,lu,n6,g1,g2,g3⟩⟩ | ⟨g,t,em,g2⟩
  ·rw [g];trivial
  ·rw [g2]
   have:=h.fC id
   rw [g1] at this
   have hi:iota r ι c = ι id:=by unfold iota;rw [g]
   rw [hi]
   rcases ge with rfl | rfl
   ·exact this
   ·rcases this with k | ⟨a0,k1,k2⟩
    ·exact .inl k
    ·obtain ⟨k3,bh,bu,dd,G,dj,ef,fX⟩:=k2
     exact .inr ⟨a0,k1,k3,bh,bu,dd,G,trivial,ef,fX⟩
  ·rw [g2]
   have:=h.fC id
   rw [g1] at this
   have hi:iota r ι c = ι id:=by unfold iota;rw [g]
   rw [hi]
   obtain ⟨a0,vs,k1,k2,k3,bh,bu⟩:=this
   exact⟨a0,vs,k1,k2,BR h bL g3 k3,bh,fun j hj=>bu j (by rw [← IS g3];exact hj)⟩
  ·rw [g2]
   exact .inl ⟨rfl,by unfold iota;rw [g]⟩
 ·intro c hl b o hf
  rcases live c hl with⟨id,_,g2,g3⟩ | g
  ·rw [g3] at hf;exact h.own id g2 b o hf
  ·rw [g] at hf;exact hf.elim
 ·intro c c' hl fT hne b o hf ic
  rcases live c hl with⟨id,g1,g2,g3⟩ | g
  ·rcases live c' fT with⟨dV,k1,k2,k3⟩ | k
   ·rw [g3] at hf
    rw [k3] at ic
    refine h.apart id dV g2 k2 (fun e=>?_) b o hf ic
    subst e
    exact hne (IU hR.1 (IT g1) (IT k1))
   ·rw [k] at ic;exact ic.elim
  ·rw [g] at hf;exact hf.elim
 ·intro c hl b o hf hz
  rcases live c hl with⟨id,g1,g2,g3⟩ | g
  ·rw [g3] at hf;exact h.c0 id g2 b o hf hz
  ·rw [g] at hf;exact hf.elim
theorem aau{T:bV}(wa:n.gc=[])(hn:norm T s=some s0)(hs:cV w0 F0 Z0 n s a w):cV w0 F0 Z0 n s0 a w:=aar wa hn hs
end
end Go.LM
namespace Go.LM
def BU:List (Nat×List Item)→Nat→Option (List Item)
 | [],_=>none
 | (k,x) :: l,r=>cond (Nat.beq k r) (some x) (BU l r)
def QC(body:Code)(bA:Nat):Option (List Item):=BU (gz [.code body]) bA
def yj:List (Nat×List Item)→List Nat
 | []=>[]
 | (k,_) :: l=>k :: yj l
def IV(body:Code):Bool:=o4 (yj (gz [.code body]))
theorem QD{k:Nat}{x:List Item} : ∀ {l:List (Nat×List Item)},(k,x)∈l→k∈yj l
 | (k',bz) :: l,h=>by
  rcases List.mem_cons.1 h with h | h
  ·injection h with h1 h2;rw [h1];exact List.mem_cons_self
  ·exact List.mem_cons_of_mem _ (QD h)
theorem QE{k:Nat}{x:List Item} : ∀ {l:List (Nat×List Item)},o4 (yj l)=true→(k,x)∈l→BU l k=some x
 | (k',bz) :: l,hn,h=>by
  simp only [yj,o4,Bool.and_eq_true,Bool.not_eq_true'] at hn
  unfold BU
  rcases List.mem_cons.1 h with h | h
  ·injection h with h1 h2
   rw [h1,Nat.beq_refl,h2]
   rfl
  ·have hne:Nat.beq k' k=false:=by
    have h3:=List.any_eq_false.1 hn.1 k (QD h)
    cases hb:Nat.beq k' k
    ·rfl
    ·rw [Nat.eq_of_beq_eq_true hb] at h3;simp at h3
   rw [hne]
   exact QE hn.2 h
section
variable{bs : Type}
def IW(gO:Nat→Option bV)(k:Nat→aq→Option bs)(bA:Nat)(s:aq):Option bs :=
 match gO bA with
 | some T=>(norm T s).bind (k bA)
 | none=>none
def IX(gO:Nat→Option bV)(bA:Nat):Bool:=(gO bA).isSome
def IY(gO:Nat→Option bV)(fin:aq→Option bs)(k:Nat→aq→Option bs):Hand bs :=⟨fun r _ s=>IW gO k r s,fin⟩
noncomputable def IZ(E:Env)(gO:Nat→Option bV)(body:Code)(fin:aq→Option bs)(k:Nat→aq→Option bs)(bA:Nat)(s:aq):Option bs :=
 match QC body bA with
 | some todo=>jG E (IX gO) (IY gO fin k) 100000 true todo s
 | none=>none
noncomputable def n7(E:Env)(gO:Nat→Option bV)(body:Code)(fin:aq→Option bs):Nat→Nat→aq→Option bs
 | 0,_,_=>none
 | m+1,bA,s=>IZ E gO body fin (n7 E gO body fin m) bA s
end
def tq(E:Env):List ResultVar→aq→Option (List a6)
 | [],_=>some []
 | .tmp t :: l,s=>(tq E l s).bind fun vs=>some (s.t t :: vs)
 | .cell a ty :: l,s =>
  match E.ty ty,s.t a with
  | some T,.ptr p=>((lK s T.size p).bind (jE T)).bind fun v=>(tq E l s).bind fun vs=>some (v :: vs)
  | _,_=>none
def l9(key:Nat):List bx→List a6→List a6
 | .fn lJ _ :: _,_ :: l=>[.fn key (l.take lJ) (l.drop lJ)]
 | .val _ _ :: ps,v :: l | .gV _ :: ps,v :: l | .gU _ _ :: ps,v :: l | .ref _ :: ps,v :: l | .mut _ _ _ :: ps,v :: l=>v :: l9 key ps l
 | _,_=>[]
def BV:List bx→Bool
 | []=>true
 | .fn lJ oF :: l=>Nat.beq l.length (lJ+oF)
 | .val _ _ :: l | .gV _ :: l | .gU _ _ :: l | .ref _ :: l | .mut _ _ _ :: l=>BV l
def QF(key:Nat)(e:Entry)(x:(bx.ins e.ps).D):Option aq :=
 (kC key e.ps x 1099511627776 ⟨fun _=>.aD,fun _=>.none,[]⟩).bind fun q=>some ⟨fun k=>(l9 key e.ps q.1).getD k .aD,q.2.1.o,q.1⟩
def o5(E:Env)(fn:Func)(e:Entry)(s:aq):Option (cU.outs e.rs (bx.dU e.ps)).D :=
 (tq E fn.results.toList s).bind fun vs=>gM e.ps s.g e.rs vs s
noncomputable def wb(E:Env)(fn:Func)(body:Code)(gO:Nat→Option bV)(key:Nat)(e:Entry)(k:Nat→aq→Option (cU.outs e.rs (bx.dU e.ps)).D)(x:(bx.ins e.ps).D):Option (cU.outs e.rs (bx.dU e.ps)).D :=
 (QF key e x).bind fun s=>jG E (IX gO) (IY gO (o5 E fn e) k) 100000 false [.code body] s
section
variable{P:Program}{w0:World}{F0 Z0:ah}{n:cB}{s ar:aq}{a b6:Act}{w w':World}{ι bd:Nat→bC}{Z Z':ah}{E:Env}{bs : Type}{r : bs}
def aav(w0:World)(F0 Z0:ah)(n:cB)(fin:aq→Option bs)(r : bs)(todo:List Item)(a:Act)(w:World):Prop :=
 (todo=[]∨∃k,todo=.code .ret :: k)∧∃s,fin s=some r∧cV w0 F0 Z0 n s a w
theorem QG{gO:Nat→Option bV}{body:Code}{fin:aq→Option bs}(bL:jt P E)(hn:E.n=n)(wa:n.gc=[])(hu:IV body=true):∀(m:Nat) (fuel:Nat) (first:Bool) (todo:List Item) (s:aq) (a:Act) (w:World),
  (∀p,p∈gz todo→p∈gz [.code body])→jG E (IX gO) (IY gO fin (n7 E gO body fin m)) fuel first todo s=some r→cV w0 F0 Z0 n s a w→∀(b:Frame) (cs:List Frame),
  ∃o3 b6 w',aav w0 F0 Z0 n fin r o3 b6 w'∧Steps P (lone (b.at a todo) cs w) (lone (b.at b6 o3) cs w')
 | m,fuel,first,todo,s,a,w,hc,hk,hs,b,cs=>by
  obtain ⟨t1,s1,a1,n0,h1,h2,h3,h4⟩:=Ql bL hn fuel first todo s a w hk hs b cs
  rcases h2 with⟨bA,ops,hI,k,rfl,iH,qd⟩ | ⟨lv,hfin⟩
  ·have yk:IW gO (n7 E gO body fin m) bA s1=some r:=qd
   unfold IW at yk
   cases bX:gO bA with
   | none=>rw [bX] at yk;cases yk
   | some T =>
    rw [bX] at yk
    obtain ⟨s2,g1,g2⟩:=bf yk
    have nU:=aau wa g1 h1
    cases m with
    | zero=>cases g2
    | succ m =>
     unfold n7 IZ at g2
     have i':(bA,(.code (.region bA ops hI) :: k:List Item))∈gz [.code body]:=hc _ (h3 _ (by simp [gz,lr]))
     have aaw:QC body bA=some (.code (.region bA ops hI) :: k):=QE hu i'
     rw [aaw] at g2
     simp only at g2
     obtain ⟨c8,b6,w',c6,eE⟩:=QG bL hn wa hu m 100000 true _ s2 a1 n0 (fun p au=>hc p (h3 p au)) g2 nU b cs
     exact⟨c8,b6,w',c6,h4.trans eE⟩
  ·exact⟨t1,a1,n0,⟨lv,s1,hfin,h1⟩,h4⟩
theorem l_{α : Type} : ∀x:Sem α,x.bind .pure=x
 | .pure a=>rfl
 | .load m a k=>by simp only [Sem.bind];exact congrArg _ (funext fun v=>l_ (k v))
 | .store m a v k=>by simp only [Sem.bind];exact congrArg _ (l_ k)
 | .new o k=>by simp only [Sem.bind];exact congrArg _ (funext fun v=>l_ (k v))
 | .shape r k=>by simp only [Sem.bind];exact congrArg _ (funext fun v=>l_ (k v))
 | .freeze a n k=>by simp only [Sem.bind];exact congrArg _ (l_ k)
 | .frozen a k=>by simp only [Sem.bind];exact congrArg _ (funext fun v=>l_ (k v))
 | .getObj r k=>by simp only [Sem.bind];exact congrArg _ (funext fun v=>l_ (k v))
 | .setObj r o k=>by simp only [Sem.bind];exact congrArg _ (l_ k)
 | .choose q k=>by simp only [Sem.bind];exact congrArg _ (funext fun v=>l_ (k v))
 | .sys c k=>by simp only [Sem.bind];exact congrArg _ (funext fun v=>l_ (k v))
 | .program k=>by simp only [Sem.bind];exact congrArg _ (funext fun v=>l_ (k v))
 | .mark m k=>by simp only [Sem.bind];exact congrArg _ (l_ k)
 | .halt h=>rfl
theorem ma{α β aax : Type}(f : α → Sem β)(g : β → Sem aax):∀x:Sem α,(x.bind f).bind g=x.bind fun a=>(f a).bind g
 | .pure a=>rfl
 | .load m a k=>by simp only [Sem.bind];exact congrArg _ (funext fun v=>ma f g (k v))
 | .store m a v k=>by simp only [Sem.bind];exact congrArg _ (ma f g k)
 | .new o k=>by simp only [Sem.bind];exact congrArg _ (funext fun v=>ma f g (k v))
 | .shape r k=>by simp only [Sem.bind];exact congrArg _ (funext fun v=>ma f g (k v))
 | .freeze a n k=>by simp only [Sem.bind];exact congrArg _ (ma f g k)
 | .frozen a k=>by simp only [Sem.bind];exact congrArg _ (funext fun v=>ma f g (k v))
 | .getObj r k=>by simp only [Sem.bind];exact congrArg _ (funext fun v=>ma f g (k v))
 | .setObj r o k=>by simp only [Sem.bind];exact congrArg _ (ma f g k)
 | .choose q k=>by simp only [Sem.bind];exact congrArg _ (funext fun v=>ma f g (k v))
 | .sys c k=>by simp only [Sem.bind];exact congrArg _ (funext fun v=>ma f g (k v))
 | .program k=>by simp only [Sem.bind];exact congrArg _ (funext fun v=>ma f g (k v))
 | .mark m k=>by simp only [Sem.bind];exact congrArg _ (ma f g k)
 | .halt h=>rfl
instance:LawfulMonad Sem:=LawfulMonad.mk' Sem (fun x=>l_ x) (fun _ _=>rfl) (fun x f g=>ma f g x)
theorem QH{α : Type}{f : α → Sem Value} : ∀ {as:List α} {vs:List Value},vs.length=as.length→(∀i (hi:i<as.length) (c5:i<vs.length),(f as[i]).run P w=.ok vs[i] w)→(as.mapM f).run P w=.ok vs w
 | [],[],_,_=>by rw [List.mapM_nil];exact run_pure _ _
 | [],_ :: _,h,_=>by simp at h
 | _ :: _,[],h,_=>by simp at h
 | x :: as,v :: vs,hl,h=>by
  have h0:=h 0 (by simp) (by simp)
  simp only [List.getElem_cons_zero] at h0
  rw [List.mapM_cons,run_bind,h0]
  simp only [run_bind]
  rw [QH (as:=as) (vs:=vs) (by simpa using hl) fun i hi c5=>h (i+1) (by simpa using hi) (by simpa using c5)]
  simp only [run_pure]
theorem aay{α : Type}{f : α → Sem Value}{as:Array α}{vs:List Value}(hl:vs.length=as.size)(h:∀i (hi:i<as.toList.length) (c5:i<vs.length),(f as.toList[i]).run P w=.ok vs[i] w) :
  (as.mapM f).run P w=.ok vs.toArray w:=by
 rw [Array.mapM_eq_mapM_toList,map_eq_pure_bind,run_bind,QH (by simpa using hl) h]
 rfl
theorem I0(bX:gI P E)(h:Inv w0 F0 Z0 n s a w ι Z):∀ {l:List ResultVar} {vs:List a6},tq E l s=some vs →
  ∃us,us.length=l.length∧aZ w Z s ι vs us∧∀i (hi:i<l.length) (c5:i<us.length),((fun | .tmp t=>pure (a.tmps.getD t undef) | .cell b t=>do loadVar t (← asAddr (a.tmps.getD b undef)):ResultVar→Sem Value) l[i]).run P w=.ok us[i] w
 | [],vs,hr=>by
  obtain rfl:=aV hr
  exact⟨[],rfl,by simp only [aZ],fun i hi=>by simp at hi⟩
 | .tmp t :: l,vs,hr=>by
  simp only [tq] at hr
  obtain ⟨bD,h1,hr⟩:=bf hr
  obtain rfl:=aV hr
  obtain ⟨us,g1,g2,g3⟩:=I0 bX h h1
  refine⟨_ :: us,by simp [g1],by simp only [aZ];exact⟨_,_,rfl,h.tmps t,g2⟩,fun i hi c5=>?_⟩
  cases i with
  | zero=>rfl
  | succ i=>exact g3 i (by simpa using hi) (by simpa using c5)
 | .cell b ty :: l,vs,hr=>by
  simp only [tq] at hr
  cases ht:E.ty ty with
  | none=>rw [ht] at hr;simp at hr
  | some T =>
   rw [ht] at hr
   cases au:s.t b with
   | ptr p =>
    rw [au] at hr
    simp only at hr
    obtain ⟨v,hv,hr⟩:=bf hr
    obtain ⟨bD,h1,hr⟩:=bf hr
    obtain rfl:=aV hr
    obtain ⟨cs,k1,k2⟩:=bf hv
    obtain ⟨us,g1,g2,g3⟩:=I0 bX h h1
    have hx:=h.tmps b
    rw [au] at hx
    simp only [aQ] at hx
    obtain ⟨_,A,he,fI⟩:=hx
    obtain ⟨cM,i0,ws,rfl,hc,cl,hlen⟩:=xL h k1 fI
    refine⟨dB T ws :: us,by simp [g1],by simp only [aZ];exact⟨_,_,rfl,oO k2 hc,g2⟩,fun i hi c5=>?_⟩
    cases i with
    | zero =>
     show(do loadVar ty (← asAddr (a.tmps.getD b undef)):Sem Value).run P w=_
     rw [run_bind,he]
     show(loadVar ty (at_ cM i0)).run P w=_
     exact Hm (bX.ty ty T ht) cl hlen
    | succ i=>exact g3 i (by simpa using hi) (by simpa using c5)
   | _=>rw [au] at hr;simp at hr
theorem aaz{fn:Func}{vs:List a6}(bX:gI P E)(h:Inv w0 F0 Z0 n s a w ι Z)(hr:tq E fn.results.toList s=some vs) :
  ∃us,aZ w Z s ι vs us∧(results fn a.tmps).run P w=.ok (nW us) w:=by
 obtain ⟨us,h1,h2,h3⟩:=I0 bX h hr
 refine⟨us,h2,?_⟩
 unfold results
 rw [run_bind,aay (vs:=us) (by simpa using h1) (fun i hi c5=>by
  have:=h3 i hi c5
  revert this
  cases fn.results.toList[i] <;> exact fun h=>h)]
 simp only
 rw [run_pure]
 congr 1
 unfold nW
 split
 ·rename_i hs
  match us,hs with
  | [v],_=>rfl
  | [],hs=>simp at hs
  | _ :: _ :: _,hs=>simp at hs
 ·rename_i hs
  match us,hs with
  | [v],hs=>simp at hs
  | [],_=>rfl
  | _ :: _ :: _,_=>rfl
theorem aaA(us:List Value)(m k:Nat):((us.toArray++Array.replicate m undef).getD k undef)=us.getD k undef:=by
 rw [Array.getD_eq_getD_getElem?,List.getD_eq_getElem?_getD]
 by_cases hk:k<us.length
 ·rw [Array.getElem?_append_left (by simpa using hk)];simp
 ·rw [Array.getElem?_append_right (by simpa using Nat.le_of_not_lt hk)]
  rw [List.getElem?_eq_none (by omega)]
  simp only [List.size_toArray,Option.getD_none]
  by_cases ee:k-us.length<m
  ·rw [Array.getElem?_eq_getElem (by simpa using ee)];simp
  ·rw [Array.getElem?_eq_none (by simpa using Nat.le_of_not_lt ee)];rfl
theorem aZ.getD:∀ {xs:List a6} {us:List Value},aZ w Z s ι xs us→∀k,aQ w Z s ι (xs.getD k .aD) (us.getD k undef)
 | [],us,h,k=>by simp only [List.getD_nil,aQ]
 | x :: xs,us,h,k=>by
  simp only [aZ] at h
  obtain ⟨u,aT,rfl,h1,h2⟩:=h
  cases k with
  | zero=>exact h1
  | succ k=>exact aZ.getD h2 k
theorem aZ.len:∀ {xs:List a6} {us:List Value},aZ w Z s ι xs us→us.length=xs.length
 | [],us,h=>by simp only [aZ] at h;rw [h];rfl
 | x :: xs,us,h=>by
  simp only [aZ] at h
  obtain ⟨u,aT,rfl,h1,h2⟩:=h
  simp [aZ.len h2]
theorem BW:∀ {t:ae} {m:ba} {x:t.D} {vs us:List Value} {F:ah},t.al w Z m x vs F→fQ (dB t vs :: us)=fQ us
 | .int k,_,_,_,_,_,h=>by simp only [ae.al] at h;subst h;rfl
 | .bool,_,_,_,_,_,h=>by simp only [ae.al] at h;subst h;rfl
 | .str,_,_,_,_,_,h=>by simp only [ae.al] at h;obtain ⟨b,rfl,_⟩:=h;rfl
 | .raw,_,_,_,_,_,h=>by simp only [ae.al] at h;obtain ⟨rfl,_,_,_,rfl⟩:=h;rfl
 | .sl t,.O e,_,_,_,_,h=>by simp only [ae.al] at h;obtain ⟨A,c,rfl,_⟩:=h;rfl
 | .sl t,.R,_,_,_,_,h=>by simp only [ae.al] at h;obtain ⟨A,c,rfl,_⟩:=h;rfl
 | .sl t,.S _,_,_,_,_,h=>by simp only [ae.al] at h;obtain ⟨A,c,rfl,_⟩:=h;rfl
 | .st aj,_,_,_,_,_,_=>rfl
theorem rC{key:Nat} : ∀(ps:List bx) (x:(bx.ins ps).D) (eG:List Value) (F:ah),gh w Z key ps x eG F→eG.length=ps.length
 | [],x,eG,F,h=>by rw [show eG=[] from h];rfl
 | .fn _ _ :: ps,x,eG,F,h=>by obtain ⟨a,b,aT,rfl,_,h2⟩:=h;simp [rC ps x aT F h2]
 | .val _ _ :: ps,x,eG,F,h=>by obtain ⟨v,aT,G,H,rfl,_,h2,_⟩:=h;simp [rC ps _ _ _ h2]
 | .gV _ :: ps,x,eG,F,h=>by obtain ⟨v,aT,G,H,rfl,_,h2,_⟩:=h;simp [rC ps _ _ _ h2]
 | .gU _ _ :: ps,x,eG,F,h=>by obtain ⟨v,aT,G,H,rfl,_,h2,_⟩:=h;simp [rC ps _ _ _ h2]
 | .ref _ :: ps,x,eG,F,h=>by obtain ⟨b,o,v,aT,rfl,_,_,_,h2⟩:=h;simp [rC ps _ _ _ h2]
 | .mut _ _ _ :: ps,x,eG,F,h=>by obtain ⟨b,o,v,aT,G,H,rfl,_,_,_,h2,_⟩:=h;simp [rC ps _ _ _ h2]
theorem aZ.split:∀ {q:List a6} {l k:List Value},aZ w Z s ι q (l++k)→aZ w Z s ι (q.take l.length) l∧aZ w Z s ι (q.drop l.length) k
 | q,[],k,h=>by simp only [List.length_nil,List.take_zero,List.drop_zero,aZ];exact⟨trivial,h⟩
 | [],u :: l,k,h=>by simp [aZ] at h
 | v :: q,u :: l,k,h=>by
  simp only [List.cons_append,aZ] at h
  obtain ⟨hO,us2,he,k1,k2⟩:=h
  injection he with e3 fJ
  subst e3 fJ
  obtain ⟨h1,h2⟩:=aZ.split (q:=q) (l:=l) (k:=k) k2
  refine⟨?_,?_⟩
  ·simp only [List.length_cons,List.take_succ_cons,aZ];exact⟨_,l,rfl,k1,h1⟩
  ·simpa only [List.length_cons,List.drop_succ_cons] using h2
theorem wc{key:Nat} : ∀(ps:List bx) (x:(bx.ins ps).D) (eG us:List Value) (F:ah) (q:List a6),BV ps=true→gh w Z key ps x eG F→eG=us++fQ us→aZ w Z s ι q eG→aZ w Z s ι (l9 key ps q) us
 | [],x,eG,us,F,q,_,hA,gy,hq=>by
  have hA:eG=[]:=hA
  subst hA
  obtain ⟨rfl,_⟩:=List.append_eq_nil_iff.1 gy.symm
  cases q <;> simp only [l9,aZ]
 | .fn lJ oF :: ps,x,eG,us,F,q,ca,hA,gy,hq=>by
  obtain ⟨a,b,aT,rfl,⟨ha,hb⟩,h2⟩:=hA
  have hl:=rC _ _ _ _ h2
  have akN:=Nat.eq_of_beq_eq_true ca
  cases us with
  | nil=>cases gy
  | cons u us =>
   injection gy with e1 e2
   subst e1
   have hz:us=[]:=by
    have:=congrArg List.length e2
    simp [fQ] at this
    exact List.length_eq_zero_iff.1 (by omega)
   subst hz
   simp only [fQ,List.nil_append,List.append_nil] at e2
   subst e2
   cases q with
   | nil=>simp [aZ] at hq
   | cons v q =>
    simp only [aZ] at hq
    obtain ⟨hO,us2,he,_,k2⟩:=hq
    injection he with e3 fJ
    subst e3 fJ
    obtain ⟨k3,bh⟩:=aZ.split (l:=a.toList) (k:=b.toList) k2
    simp only [l9,aZ,aQ]
    rw [Array.length_toList,ha] at k3 bh
    exact⟨_,[],rfl,⟨a.toList,b.toList,by simp,k3,bh⟩,rfl⟩
 | .val t m :: ps,x,eG,us,F,q,ca,hA,gy,hq=>by
  obtain ⟨vs,aT,G,H,rfl,h1,h2,_⟩:=hA
  cases us with
  | nil=>cases gy
  | cons u us =>
   injection gy with e1 e2
   subst e1
   rw [BW h1] at e2
   cases q with
   | nil=>simp [aZ] at hq
   | cons v q =>
    simp only [aZ] at hq
    obtain ⟨hO,us2,he,k1,k2⟩:=hq
    injection he with e3 fJ
    subst e3 fJ
    simp only [l9,aZ]
    exact⟨_,us,rfl,k1,wc ps x.2 _ us _ q ca h2 e2 k2⟩
 | .gV t :: ps,x,eG,us,F,q,ca,hA,gy,hq=>by
  obtain ⟨vs,aT,G,H,rfl,h1,h2,_⟩:=hA
  cases us with
  | nil=>cases gy
  | cons u us =>
   injection gy with e1 e2
   subst e1
   rw [BW h1] at e2
   cases q with
   | nil=>simp [aZ] at hq
   | cons v q =>
    simp only [aZ] at hq
    obtain ⟨hO,us2,he,k1,k2⟩:=hq
    injection he with e3 fJ
    subst e3 fJ
    simp only [l9,aZ]
    exact⟨_,us,rfl,k1,wc ps x.2 _ us _ q ca h2 e2 k2⟩
 | .gU t m :: ps,x,eG,us,F,q,ca,hA,gy,hq=>by
  obtain ⟨vs,aT,G,H,rfl,h1,h2,_⟩:=hA
  cases us with
  | nil=>cases gy
  | cons u us =>
   injection gy with e1 e2
   subst e1
   rw [BW h1] at e2
   cases q with
   | nil=>simp [aZ] at hq
   | cons v q =>
    simp only [aZ] at hq
    obtain ⟨hO,us2,he,k1,k2⟩:=hq
    injection he with e3 fJ
    subst e3 fJ
    simp only [l9,aZ]
    exact⟨_,us,rfl,k1,wc ps x.2 _ us _ q ca h2 e2 k2⟩
 | .ref t :: ps,x,eG,us,F,q,ca,hA,gy,hq=>by
  obtain ⟨b,o,vs,aT,rfl,_,_,_,h2⟩:=hA
  cases us with
  | nil=>cases gy
  | cons u us =>
   injection gy with e1 e2
   subst e1
   have e2:aT=us++fQ us:=e2
   cases q with
   | nil=>simp [aZ] at hq
   | cons v q =>
    simp only [aZ] at hq
    obtain ⟨hO,us2,he,k1,k2⟩:=hq
    injection he with e3 fJ
    subst e3 fJ
    simp only [l9,aZ]
    exact⟨_,us,rfl,k1,wc ps x.2 _ us _ q ca h2 e2 k2⟩
 | .mut t m m' :: ps,x,eG,us,F,q,ca,hA,gy,hq=>by
  obtain ⟨b,o,vs,aT,G,H,rfl,_,_,_,h2,_⟩:=hA
  cases us with
  | nil=>cases gy
  | cons u us =>
   injection gy with e1 e2
   subst e1
   have e2:aT=us++fQ us:=e2
   cases q with
   | nil=>simp [aZ] at hq
   | cons v q =>
    simp only [aZ] at hq
    obtain ⟨hO,us2,he,k1,k2⟩:=hq
    injection he with e3 fJ
    subst e3 fJ
    simp only [l9,aZ]
    exact⟨_,us,rfl,k1,wc ps x.2 _ us _ q ca h2 e2 k2⟩
theorem QI{f key:Nat}{fn:Func}{body:Code}{e:Entry}{gO:Nat→Option bV}(bL:jt P E)(hf:P.funcs[f]?=some fn)(hb:fn.body=some body)(iL:(fn.name == "runtime.NumGoroutine")=false)
  (hn:Nat.beq E.n fn.ntmps=true) (BX:BV e.ps=true) (hlen:Nat.ble e.ps.length fn.ntmps=true) (hu:IV body=true)
  (hF:∀x r,e.f x=some r→∃m,wb E fn body gO key e (n7 E gO body (o5 E fn e) m) x=some r):Sound P f key e:=by
 refine⟨⟨fn,hf,by rw [hb];rfl,iL⟩,fun w Z F x us r hZ Ig hap hA hx=>?_⟩
 obtain ⟨m,hm⟩:=hF x r hx
 unfold wb at hm
 obtain ⟨st,hst,hm⟩:=bf hm
 unfold QF at hst
 obtain ⟨q,hq,hst⟩:=bf hst
 obtain rfl:=aV hst
 have pY:=rC _ _ _ _ hA
 rw [List.length_append] at pY
 have hle:=Nat.le_of_ble_eq_true hlen
 let a0:Act := { tmps:=us.toArray++Array.replicate (fn.ntmps-us.toArray.size) undef,defers:=[] }
 have hsz:a0.tmps.size=fn.ntmps:=by simp [a0];omega
 have aaB:Inv w F Z ⟨fn.ntmps,[],[]⟩ ⟨fun _=>.aD,fun _=>.none,[]⟩ a0 w (fun _=>⟨none,0,ah.none⟩) Z:=Inv.start hZ hsz rfl
 obtain ⟨dv,i1,held,cK,m0⟩:=tk e.ps x (us++fQ us) _ _ _ F q hq aaB hA ⟨fun b o h=>⟨.inl h,Ig b o h⟩,fun _ h=>h.elim,hap⟩
 have hinv:Inv w F Z ⟨fn.ntmps,us++fQ us,[]⟩ ⟨fun k=>(l9 key e.ps q.1).getD k .aD,q.2.1.o,q.1⟩ a0 w dv Z:=by
  have hm:eD w Z q.2.1 dv w Z ⟨fun k=>(l9 key e.ps q.1).getD k .aD,q.2.1.o,q.1⟩ dv:=G7 rfl
  exact⟨i1.ext,i1.dz,i1.q8,i1.iC,fun id=>hJ.move hm (id:=id) (fun _=>⟨rfl,rfl⟩) rfl (i1.fC id),i1.own,i1.apart,i1.c0,
   fun k=>by
    show aQ w Z _ dv ((l9 key e.ps q.1).getD k .aD) ((us.toArray++Array.replicate (fn.ntmps-us.toArray.size) undef).getD k undef)
    rw [aaA]
    exact(aZ.move hm (wc e.ps x _ us F q.1 BX hA rfl cK)).getD k,hsz,aZ.move hm cK,fun e he=>by simp at he,rfl⟩
 intro cs
 let cM:Frame := { (default:Frame) with fn:=f,kind:=.normal }
 have aaC:Frame.enter P f us.toArray .normal=cM.at a0 [.code body]:=by
  simp [Frame.enter,Frame.at,hf,hb,cM,a0]
 obtain ⟨c8,b6,w',⟨lv,ar,hfin,bd,Z',c5⟩,QJ⟩:=QG (n:=⟨fn.ntmps,us++fQ us,[]⟩) bL (Nat.eq_of_beq_eq_true hn) rfl hu m 100000 false [.code body] _ a0 w (fun _ h=>h) hm ⟨dv,Z,hinv⟩ cM cs
 unfold o5 at hfin
 obtain ⟨vs,hvs,hfin⟩:=bf hfin
 obtain ⟨dk,hr1,gq⟩:=aaz bL.ty c5 hvs
 obtain ⟨s2,dH,bK,l3,ew,Bw,Ir,PR⟩:=v_ e.rs vs dk ar Z' r hfin c5 c5.ghost hr1
 have BY:Ends w Z F e us r (nW dk) w':=by
  refine⟨dk,bK,dH,rfl,c5.ext,l3.q8,fun b o hz=>?_,fun b o hf=>?_,Bw.c0,Ir⟩
  ·rcases l3.dz b o hz with h1 | h1 | h1
   ·exact .inl h1
   ·exact .inr ⟨.inl h1,l3.iC b o hz⟩
   ·exact .inr ⟨.inr h1,l3.iC b o hz⟩
  ·exact Bw.own b o hf
 rw [aaC]
 rcases lv with rfl | ⟨k,rfl⟩
 ·exact⟨.returned (nW dk),w',_,⟨_,rfl,BY⟩,Steps.trans QJ (.one step_end),rfl,rfl,c5.defers,rfl,fn,hf,gq⟩
 ·exact⟨.returned (nW dk),w',_,⟨_,rfl,BY⟩,Steps.trans QJ (.one step_ret),rfl,rfl,c5.defers,rfl,fn,hf,gq⟩
end
end Go.LM
namespace Go.LM
mutual
def ae.rD(P:Program):ae→TypeId→Bool
 | .int _,_=>true
 | .bool,_=>true
 | .str,_=>true
 | .sl _,_=>false
 | .raw,_=>false
 | .st aj,id => !P.stoodInHeld id&&match P.underlying id with | some (.struct cm)=>aj.BZ P cm.toList | _=>false
def ay.BZ(P:Program):ay→List Field→Bool
 | .nil,_=>true
 | .cons t aj,cm=>match cm with
  | f :: k8=>decide (f.name ≠ "_")&&t.rD P f.type&&aj.BZ P k8
  | []=>false
end
mutual
def ae.deep:ae→Nat
 | .st aj=>aj.deep+1
 | _=>1
def ay.deep:ay→Nat
 | .nil=>0
 | .cons t aj=>t.deep+aj.deep
end
section
variable{P:Program}{w:World}{Z:ah}{s:aq}{ι : Nat→bC}
theorem aaD{k:IntKind}{cs ds:List a8}{r:Bool×List a8×List a8}(h:(ae.int k).cmp cs ds=some r):∃x a y b,cs=.int k x :: a∧ds=.int k y :: b∧r=(x==y,a,b):=by
 cases cs with
 | nil=>simp [ae.cmp] at h
 | cons c a=>cases ds with
  | nil=>cases c <;> simp [ae.cmp] at h
  | cons d b =>
   cases c <;> cases d <;> simp only [ae.cmp] at h <;> first | (cases h;done) | skip
   rename_i k1 x k2 y
   cases hk:(Nat.beq (di k1) (di k)&&Nat.beq (di k2) (di k))
   ·rw [hk] at h;cases h
   rw [hk] at h
   simp only [Bool.and_eq_true] at hk
   obtain rfl:=sH (Nat.eq_of_beq_eq_true hk.1)
   obtain rfl:=sH (Nat.eq_of_beq_eq_true hk.2)
   exact⟨x,a,y,b,rfl,rfl,(aV h).symm⟩
theorem aaE{cs ds:List a8}{r:Bool×List a8×List a8}(h:ae.bool.cmp cs ds=some r):∃x a y b,cs=.bool x :: a∧ds=.bool y :: b∧r=(x==y,a,b):=by
 cases cs with
 | nil=>simp [ae.cmp] at h
 | cons c a=>cases ds with
  | nil=>cases c <;> simp [ae.cmp] at h
  | cons d b =>
   cases c <;> try (simp [ae.cmp] at h;done)
   cases d <;> try (simp [ae.cmp] at h;done)
   simp only [ae.cmp] at h
   exact⟨_,a,_,b,rfl,rfl,(aV h).symm⟩
theorem aaF{cs ds:List a8}{r:Bool×List a8×List a8}(h:ae.str.cmp cs ds=some r):∃x a y b,cs=.str x :: a∧ds=.str y :: b∧r=(br x y,a,b):=by
 cases cs with
 | nil=>simp [ae.cmp] at h
 | cons c a=>cases ds with
  | nil=>cases c <;> simp [ae.cmp] at h
  | cons d b =>
   cases c <;> try (simp [ae.cmp] at h;done)
   cases d <;> try (simp [ae.cmp] at h;done)
   simp only [ae.cmp] at h
   exact⟨_,a,_,b,rfl,rfl,(aV h).symm⟩
theorem I1{c c':a8}{a b:List a8}{us vs:List Value}(h1:bG w Z s ι (c :: a) us)(h2:bG w Z s ι (c' :: b) vs) :
  ∃u us2 v vs2,us=u :: us2∧vs=v :: vs2∧cf w Z s ι c u∧cf w Z s ι c' v∧bG w Z s ι a us2∧bG w Z s ι b vs2:=by
 cases us with
 | nil=>exact h1.elim
 | cons u us=>cases vs with
  | nil=>exact h2.elim
  | cons v vs=>exact⟨u,us,v,vs,rfl,rfl,h1.1,h2.1,h1.2,h2.2⟩
mutual
theorem ae.yl:∀(t:ae) (id:TypeId) (d:Nat) {cs ds:List a8} {r:Bool×List a8×List a8} {us vs:List Value},t.ok P id→t.rD P id=true→t.deep≤d→t.cmp cs ds=some r →
  bG w Z s ι cs us→bG w Z s ι ds vs→∃us1 us2 vs1 vs2,us=us1++us2∧vs=vs1++vs2∧us1.length=t.size∧vs1.length=t.size∧bG w Z s ι r.2.1 us2∧bG w Z s ι r.2.2 vs2 ∧
   (Op.equalIn d id (dB t us1) (dB t vs1)).run P w=.ok r.1 w
 | .int k,id,0,cs,ds,r,us,vs,ho,hc,ag,h,h1,h2=>by simp [ae.deep] at ag
 | .int k,id,d+1,cs,ds,r,us,vs,ho,hc,ag,h,h1,h2=>by
  simp only [ae.ok] at ho
  obtain ⟨x,a,y,b,rfl,rfl,rfl⟩:=aaD h
  obtain ⟨u,us2,v,vs2,rfl,rfl,e1,e2,g1,g2⟩:=I1 h1 h2
  simp only [cf] at e1 e2
  subst e1 e2
  exact⟨[_],us2,[_],vs2,rfl,rfl,rfl,rfl,g1,g2,run_equalIn_int w d id _ _ x y ho.1⟩
 | .bool,id,0,cs,ds,r,us,vs,ho,hc,ag,h,h1,h2=>by simp [ae.deep] at ag
 | .bool,id,d+1,cs,ds,r,us,vs,ho,hc,ag,h,h1,h2=>by
  simp only [ae.ok] at ho
  obtain ⟨x,a,y,b,rfl,rfl,rfl⟩:=aaE h
  obtain ⟨u,us2,v,vs2,rfl,rfl,e1,e2,g1,g2⟩:=I1 h1 h2
  simp only [cf] at e1 e2
  subst e1 e2
  exact⟨[_],us2,[_],vs2,rfl,rfl,rfl,rfl,g1,g2,run_equalIn_bool w d id x y ho.1⟩
 | .str,id,0,cs,ds,r,us,vs,ho,hc,ag,h,h1,h2=>by simp [ae.deep] at ag
 | .str,id,d+1,cs,ds,r,us,vs,ho,hc,ag,h,h1,h2=>by
  simp only [ae.ok] at ho
  obtain ⟨x,a,y,b,rfl,rfl,rfl⟩:=aaF h
  obtain ⟨u,us2,v,vs2,rfl,rfl,e1,e2,g1,g2⟩:=I1 h1 h2
  obtain ⟨vz,rfl,rfl⟩:=e1
  obtain ⟨vA,rfl,rfl⟩:=e2
  refine⟨[_],us2,[_],vs2,rfl,rfl,rfl,rfl,g1,g2,?_⟩
  rw [← OK]
  exact run_equalIn_string w d id vz vA ho.1
 | .raw,id,d,cs,ds,r,us,vs,ho,hc,ag,h,h1,h2=>by simp [ae.rD] at hc
 | .sl t,id,d,cs,ds,r,us,vs,ho,hc,ag,h,h1,h2=>by simp [ae.rD] at hc
 | .st aj,id,0,cs,ds,r,us,vs,ho,hc,ag,h,h1,h2=>by simp [ae.deep] at ag
 | .st aj,id,d+1,cs,ds,r,us,vs,ho,hc,ag,h,h1,h2=>by
  simp only [ae.ok] at ho
  obtain ⟨_,cm,hu,I2⟩:=ho
  simp only [ae.rD,Bool.and_eq_true,Bool.not_eq_true',hu] at hc
  simp only [ae.deep] at ag
  simp only [ae.cmp] at h
  obtain ⟨us1,us2,vs1,vs2,e1,e2,dP,eF,g1,g2,g3⟩:=ay.yl aj cm.toList 0 d [] [] I2 hc.2 (by omega) h h1 h2 rfl rfl
  refine⟨us1,us2,vs1,vs2,e1,e2,dP,eF,g1,g2,?_⟩
  have kx:P.fieldsOf id=cm:=by simp [Program.fieldsOf,hu]
  show(Op.equalIn (d+1) id (.agg us1.toArray) (.agg vs1.toArray)).run P w=_
  rw [run_equalIn_struct w d id us1.toArray vs1.toArray (by rw [kx];exact hu) hc.1,kx]
  have:=g3 [] []
  simpa using this
theorem ay.yl:∀(aj:ay) (cm:List Field) (off d:Nat) {cs ds:List a8} {r:Bool×List a8×List a8} {us vs:List Value} (pre tr:List Value),aj.okF P cm off→aj.BZ P cm=true→aj.deep≤d→aj.cmp cs ds=some r →
  bG w Z s ι cs us→bG w Z s ι ds vs→pre.length=off→tr.length=off→∃us1 us2 vs1 vs2,us=us1++us2∧vs=vs1++vs2∧us1.length=aj.size∧vs1.length=aj.size∧bG w Z s ι r.2.1 us2∧bG w Z s ι r.2.2 vs2 ∧
   ∀dt ym:List Value,(Op.eqFields d (pre++us1++dt).toArray (tr++vs1++ym).toArray cm).run P w=.ok r.1 w
 | .nil,cm,off,d,cs,ds,r,us,vs,pre,tr,ho,hc,ag,h,h1,h2,au,nP=>by
  simp only [ay.okF] at ho
  subst ho
  obtain rfl:=aV h
  exact⟨[],us,[],vs,rfl,rfl,rfl,rfl,h1,h2,fun _ _=>by simp only [Op.eqFields];exact run_pure _ _⟩
 | .cons t aj,cm,off,d,cs,ds,r,us,vs,pre,tr,ho,hc,ag,h,h1,h2,au,nP=>by
  simp only [ay.okF] at ho
  obtain ⟨f,k8,rfl,fh,l4,jJ⟩:=ho
  simp only [ay.BZ,Bool.and_eq_true,decide_eq_true_eq] at hc
  simp only [ay.deep] at ag
  simp only [ay.cmp] at h
  obtain ⟨bB,k1,h⟩:=bf h
  obtain ⟨cc,k2,h⟩:=bf h
  obtain rfl:=aV h
  obtain ⟨a1,a2,iF,pV,rfl,rfl,dP,eF,g1,g2,g3⟩:=ae.yl t f.type d l4 hc.1.2 (by omega) k1 h1 h2
  obtain ⟨a3,a4,rj,AY,rfl,rfl,nR,oN,g4,g5,g6⟩:=ay.yl aj k8 (off+t.size) d (pre++a1) (tr++iF) jJ hc.2 (by omega) k2 g1 g2 (by simp;omega) (by simp;omega)
  refine⟨a1++a3,a4,iF++rj,AY,by simp,by simp,by simp [ay.size];omega,by simp [ay.size];omega,g4,g5,fun dt ym=>?_⟩
  have ed:=Hs (P:=P) (w:=w) l4 (cs:=pre++(a1++a3)++dt) (k:=off) (by simp;omega)
  have d_:=Hs (P:=P) (w:=w) l4 (cs:=tr++(iF++rj)++ym) (k:=off) (by simp;omega)
  have c6:((pre++(a1++a3)++dt).drop off).take t.size=a1:=by
   rw [← au,← dP];simp
  have eE:((tr++(iF++rj)++ym).drop off).take t.size=iF:=by
   rw [← nP,← eF];simp
  rw [c6] at ed
  rw [eE] at d_
  simp only [Op.eqFields]
  rw [if_pos hc.1.1,run_bind,fh,ed]
  simp only
  rw [run_bind,d_]
  simp only
  rw [run_bind,g3]
  simp only
  cases hr:bB.1
  ·simp only [Bool.not_false,if_true,Bool.false_and];exact run_pure _ _
  ·simp only [Bool.not_true,Bool.false_eq_true,if_false,Bool.true_and]
   have:=g6 dt ym
   simpa using this
end
def sD(P:Program):List (Nat×ae)→List Nat→Bool
 | _,[]=>true
 | tab,k :: l=>(match P.underlying k with | some (.struct _)=>true | _=>false) && !P.eqGuardType P.depth k&&(tab.all fun x => !Nat.beq x.1 k||x.2.rD P k&&Nat.ble x.2.deep 10000)&&sD P tab l
theorem QK{tab:List (Nat×ae)}{k:Nat} : ∀ {l:List Nat},sD P tab l=true→k∈l→(∃cm,P.underlying k=some (.struct cm))∧P.eqGuardType P.depth k=false∧∀T,(k,T)∈tab→T.rD P k=true∧T.deep≤10000
 | x :: l,h,hm=>by
  simp only [sD,Bool.and_eq_true,Bool.not_eq_true'] at h
  rcases List.mem_cons.1 hm with rfl | hm
  ·refine⟨?_,h.1.1.2,fun T bX=>?_⟩
   ·have h1:=h.1.1.1
    split at h1
    ·rename_i cm hk;exact⟨cm,hk⟩
    ·cases h1
   ·have h2:=List.all_eq_true.1 h.1.2 _ bX
    rw [Nat.beq_refl] at h2
    simp only [Bool.not_true,Bool.false_or,Bool.and_eq_true] at h2
    exact⟨h2.1,Nat.le_of_ble_eq_true h2.2⟩
  ·exact QK h.2 hm
theorem aaG{T:ae}{k:Nat}(ho:T.ok P k)(hu:∃cm,P.underlying k=some (.struct cm))(aA:P.eqGuardType P.depth k=false)(hc:T.rD P k=true)(ag:T.deep≤10000)(op:BinOp)(xo yo:Operand)(w:World)(Z:ah)(s:aq)(ι : Nat→bC)
  (cs ds:List a8) (us vs:List Value) (q:Bool) (h1:bG w Z s ι cs us) (h2:bG w Z s ι ds vs) (h:T.cmp cs ds=some (q,[],[])) :
  (eqGuard op k xo yo (.agg us.toArray) (.agg vs.toArray)).run P w=.ok () w∧(op=.eql→(binOp op k (.agg us.toArray) (.agg vs.toArray)).run P w=.ok (.bool q) w) ∧
   (op=.neq→(binOp op k (.agg us.toArray) (.agg vs.toArray)).run P w=.ok (.bool (!q)) w):=by
 obtain ⟨us1,us2,vs1,vs2,rfl,rfl,dP,eF,g1,g2,g3⟩:=ae.yl T k 10000 ho hc ag h h1 h2
 have fF:us2=[]:=by cases us2 with | nil=>rfl | cons=>exact g1.elim
 have lN:vs2=[]:=by cases vs2 with | nil=>rfl | cons=>exact g2.elim
 subst fF lN
 have bX:∃aj,T=.st aj:=by
  obtain ⟨cm,hu⟩:=hu
  cases T with
  | st aj=>exact⟨aj,rfl⟩
  | int=>simp only [ae.ok] at ho;rw [hu] at ho;cases ho.1
  | bool=>simp only [ae.ok] at ho;rw [hu] at ho;cases ho.1
  | str=>simp only [ae.ok] at ho;rw [hu] at ho;cases ho.1
  | sl t=>simp only [ae.ok] at ho;obtain ⟨_,e,he,_⟩:=ho;rw [hu] at he;cases he
  | raw=>simp only [ae.ok] at ho;obtain ⟨_,e,he⟩:=ho;rw [hu] at he;cases he
 obtain ⟨aj,rfl⟩:=bX
 simp only [List.append_nil]
 have heq:(Op.equal k (.agg us1.toArray) (.agg vs1.toArray)).run P w=.ok q w:=g3
 refine⟨?_,?_,?_⟩
 ·unfold eqGuard
  cases op <;> try rfl
  all_goals
   have aaH:∀w:World,(program:Sem Program).run P w=.ok P w:=fun _=>rfl
   simp only [Bool.not_true,Bool.false_eq_true,if_false,run_bind,aaH,aA,Bool.not_false,if_true]
   rfl
 ·rintro rfl
  show(do pure (.bool (← Op.equal k _ _)):Sem Value).run P w=_
  rw [run_bind,heq];rfl
 ·rintro rfl
  show(do pure (.bool (!(← Op.equal k _ _))):Sem Value).run P w=_
  rw [run_bind,heq];rfl
end
end Go.LM
namespace Go.LM
def zeroV:Value→Value→Bool
 | .int k x,.int k' y=>Nat.beq (di k) (di k')&&decide (x=y)
 | .bool a,.bool b=>a==b
 | .string a,.string b=>decide (a.data.toList=b.data.toList)
 | .slice none 0 0,.slice none 0 0=>true
 | _,_=>false
theorem QL{u v:Value}(h:zeroV u v=true):u=v:=by
 unfold zeroV at h
 split at h
 ·simp only [Bool.and_eq_true,decide_eq_true_eq] at h
  rw [sH (Nat.eq_of_beq_eq_true h.1),h.2]
 ·rw [eq_of_beq h]
 ·rename_i a b
  have h:=of_decide_eq_true h
  obtain ⟨⟨a⟩⟩:=a
  obtain ⟨⟨b⟩⟩:=b
  simp only at h
  rw [h]
 ·rfl
 ·cases h
def B0:List Value→List Value→Bool
 | [],[]=>true
 | u :: us,v :: vs=>cond (zeroV u v) (B0 us vs) false
 | _,_=>false
theorem QM:∀ {us vs:List Value},B0 us vs=true→us=vs
 | [],[],_=>rfl
 | u :: us,v :: vs,h=>by
  unfold B0 at h
  cases h1:zeroV u v
  ·rw [h1] at h;cases h
  ·rw [h1] at h;rw [QL h1,QM h]
 | [],_ :: _,h=>by cases h
 | _ :: _,[],h=>by cases h
def I3(t:ae)(v:Value):Bool :=
 match t,v with
 | .st aj,.agg cs=>B0 cs.toList aj.cL
 | .st _,_=>false
 | .sl _,v=>zeroV v (.slice none 0 0)
 | t,v=>zeroV v (t.cL.headD undef)
theorem aaI{t:ae}{v:Value}(h:I3 t v=true):v=dB t t.cL:=by
 cases t with
 | st aj =>
  cases v <;> simp only [I3] at h <;> try (cases h;done)
  rename_i cs
  show Value.agg cs=.agg aj.cL.toArray
  rw [← QM h]
 | _=>exact QL h
def rE(P:Program)(id:TypeId)(t:ae):Bool :=
 match P.info? id with
 | some i=>Nat.beq i.size t.size&&(match i.zero with | some v=>I3 t v | none=>false)&&Nat.ble i.bytes 2048
 | none=>false
theorem we{P:Program}{id:TypeId}{t:ae}(h:rE P id t=true):k7 P id t:=by
 unfold rE at h
 cases hi:P.info? id with
 | none=>rw [hi] at h;cases h
 | some i =>
  rw [hi] at h
  simp only [Bool.and_eq_true] at h
  refine⟨i,hi,Nat.eq_of_beq_eq_true h.1.1,?_,Nat.le_of_ble_eq_true h.2⟩
  have h2:=h.1.2
  cases hz:i.zero with
  | none=>rw [hz] at h2;cases h2
  | some v=>rw [hz] at h2;rw [aaI h2]
mutual
def ae.okB(P:Program):ae→TypeId→Bool
 | .int k,id=>(match P.underlying id with | some (.int k')=>Nat.beq (di k') (di k) | _=>false)&&rE P id (.int k)
 | .bool,id=>(match P.underlying id with | some .bool=>true | _=>false)&&rE P id .bool
 | .str,id=>(match P.underlying id with | some .string=>true | _=>false)&&rE P id .str
 | .raw,id=>rE P id .raw&&match P.underlying id with | some (.slice _)=>true | _=>false
 | .sl t,id=>rE P id (.sl t)&&match P.underlying id with | some (.slice e)=>t.okB P e | _=>false
 | .st aj,id=>rE P id (.st aj)&&match P.underlying id with | some (.struct cm)=>aj.wg P cm.toList 0 | _=>false
def ay.wg(P:Program):ay→List Field→Nat→Bool
 | .nil,cm,_=>cm.isEmpty
 | .cons t aj,cm,off=>match cm with
  | f :: k8=>Nat.beq f.offset off&&t.okB P f.type&&aj.wg P k8 (off+t.size)
  | []=>false
end
mutual
theorem ae.B1{P:Program} : ∀(t:ae) (id:TypeId),t.okB P id=true→t.ok P id
 | .int k,id,h=>by
  simp only [ae.okB,Bool.and_eq_true] at h
  refine⟨?_,we h.2⟩
  have h1:=h.1
  split at h1
  ·rename_i k' hk;rw [hk,sH (Nat.eq_of_beq_eq_true h1)]
  ·cases h1
 | .bool,id,h=>by
  simp only [ae.okB,Bool.and_eq_true] at h
  refine⟨?_,we h.2⟩
  have h1:=h.1
  split at h1
  ·rename_i hk;exact hk
  ·cases h1
 | .str,id,h=>by
  simp only [ae.okB,Bool.and_eq_true] at h
  refine⟨?_,we h.2⟩
  have h1:=h.1
  split at h1
  ·rename_i hk;exact hk
  ·cases h1
 | .raw,id,h=>by
  simp only [ae.okB,Bool.and_eq_true] at h
  refine⟨we h.1,?_⟩
  have h1:=h.2
  split at h1
  ·rename_i e hk;exact⟨e,hk⟩
  ·cases h1
 | .sl t,id,h=>by
  simp only [ae.okB,Bool.and_eq_true] at h
  refine⟨we h.1,?_⟩
  have h1:=h.2
  split at h1
  ·rename_i e hk;exact⟨e,hk,ae.B1 t e h1⟩
  ·cases h1
 | .st aj,id,h=>by
  simp only [ae.okB,Bool.and_eq_true] at h
  refine⟨we h.1,?_⟩
  have h1:=h.2
  split at h1
  ·rename_i cm hk;exact⟨cm,hk,ay.QN aj _ _ h1⟩
  ·cases h1
theorem ay.QN{P:Program} : ∀(aj:ay) (cm:List Field) (off:Nat),aj.wg P cm off=true→aj.okF P cm off
 | .nil,cm,off,h=>by
  simp only [ay.wg,List.isEmpty_iff] at h
  exact h
 | .cons t aj,cm,off,h=>by
  cases cm with
  | nil=>simp [ay.wg] at h
  | cons f cm =>
   simp only [ay.wg,Bool.and_eq_true] at h
   exact⟨f,cm,rfl,Nat.eq_of_beq_eq_true h.1.1,ae.B1 t _ h.1.2,ay.QN aj _ _ h.2⟩
end
def wh:List (Nat×ae)→Nat→Option ae
 | [],_=>none
 | (k,t) :: l,i=>cond (Nat.beq k i) (some t) (wh l i)
def sB(P:Program):List (Nat×ae)→Bool
 | []=>true
 | (k,t) :: l=>t.okB P k&&sB P l
theorem I4{P:Program}{i:Nat}{T:ae} : ∀ {l:List (Nat×ae)},sB P l=true→wh l i=some T→T.ok P i
 | (k,t) :: l,h,hl=>by
  simp only [sB,Bool.and_eq_true] at h
  unfold wh at hl
  cases hb:Nat.beq k i
  ·rw [hb] at hl;exact I4 h.2 hl
  ·rw [hb] at hl
   obtain rfl:=aV hl
   obtain rfl:=Nat.eq_of_beq_eq_true hb
   exact ae.B1 _ _ h.1
def ts:List Nat→Nat→Bool
 | [],_=>false
 | k :: l,i=>cond (Nat.beq k i) true (ts l i)
def sC(P:Program):List Nat→Bool
 | []=>true
 | k :: l=>(match P.underlying k with | some (.pointer _)=>true | _=>false)&&sC P l
theorem QO{P:Program}{i:Nat} : ∀ {l:List Nat},sC P l=true→ts l i=true→∃e,P.underlying i=some (.pointer e)
 | k :: l,h,hl=>by
  simp only [sC,Bool.and_eq_true] at h
  unfold ts at hl
  cases hb:Nat.beq k i
  ·rw [hb] at hl;exact QO h.2 hl
  ·obtain rfl:=Nat.eq_of_beq_eq_true hb
   have h1:=h.1
   split at h1
   ·rename_i e hk;exact⟨e,hk⟩
   ·cases h1
def B2:List (Nat×Entry)→Nat→Nat→Option Entry
 | [],_,_=>none
 | (k,e) :: l,f,key=>cond (Nat.blt f 1000000&&Nat.beq k (f+1000000*key)) (some e) (B2 l f key)
def qg(P:Program):List (Nat×Entry)→Prop
 | []=>True
 | (k,e) :: l=>hD P (k % 1000000) (k / 1000000) e∧qg P l
theorem QP{P:Program}{f key:Nat}{e:Entry} : ∀ {l:List (Nat×Entry)},qg P l→B2 l f key=some e→hD P f key e
 | (k,gF) :: l,h,hl=>by
  unfold B2 at hl
  cases hb:(Nat.blt f 1000000&&Nat.beq k (f+1000000*key))
  ·rw [hb] at hl;exact QP h.2 hl
  ·rw [hb] at hl
   obtain rfl:=aV hl
   simp only [Bool.and_eq_true] at hb
   have h1:=hb.1
   rw [Nat.blt_eq] at h1
   obtain rfl:=Nat.eq_of_beq_eq_true hb.2
   have h2:=h.1
   rw [show(f+1000000*key) % 1000000=f by omega,show(f+1000000*key) / 1000000=key by omega] at h2
   exact h2
def QQ(n:Nat)(tab:List (Nat×ae))(lI eqs:List Nat)(fns:List (Nat×Entry)):Env:=⟨n,wh tab,ts eqs,ts lI,B2 fns⟩
theorem QR{i:Nat} : ∀ {l:List Nat},ts l i=true→i∈l
 | k :: l,h=>by
  unfold ts at h
  cases hb:Nat.beq k i
  ·rw [hb] at h;exact List.mem_cons_of_mem _ (QR h)
  ·rw [Nat.eq_of_beq_eq_true hb];exact List.mem_cons_self
theorem QS{i:Nat}{T:ae} : ∀ {l:List (Nat×ae)},wh l i=some T→(i,T)∈l
 | (k,t) :: l,hl=>by
  unfold wh at hl
  cases hb:Nat.beq k i
  ·rw [hb] at hl;exact List.mem_cons_of_mem _ (QS hl)
  ·rw [hb] at hl
   obtain rfl:=aV hl
   rw [Nat.eq_of_beq_eq_true hb]
   exact List.mem_cons_self
theorem QT{P:Program}{n:Nat}{tab:List (Nat×ae)}{lI eqs:List Nat}{fns:List (Nat×Entry)}(ht:sB P tab=true)(au:sC P lI=true)(he:sD P tab eqs=true)(hf:qg P fns)(hm:P.follows .mixedOrders=true):jt P (QQ n tab lI eqs fns):=by
 refine⟨⟨fun id T h=>I4 ht h,fun id h=>QO au h⟩,fun id T h bX=>?_,fun f key e h=>QP hf h,hm⟩
 obtain ⟨h1,h2,h3⟩:=QK he (QR h)
 obtain ⟨h4,a7⟩:=h3 T (QS bX)
 exact aaG (I4 ht bX) h1 h2 h4 a7
@[irreducible] def aR:Nat:=18446744073709551616
end Go.LM
namespace Go.LM
open Go.ChangeShapes Go.WideShapes Go.ChangeAt Go.RowKit
open Go.ChangeMaps (open_string shut_string)
mutual
def ae.jv:(t:ae)→t.D→Prop
 | .int k,x=>(Lit.int k x).wf=true
 | .bool,_=>True
 | .str,x=>x.length≤maxLen
 | .raw,_=>True
 | .sl t,xs=>xs.length≤maxLen∧∀y,y∈xs→t.jv y
 | .st aj,x=>aj.jv x
def ay.jv:(aj:ay)→aj.D→Prop
 | .nil,_=>True
 | .cons t aj,x=>t.jv x.1∧aj.jv x.2
end
mutual
def ae.m3:ae→Bool
 | .sl t=>Nat.blt 0 t.size&&t.m3
 | .raw=>false
 | .st aj=>aj.m3
 | _=>true
def ay.m3:ay→Bool
 | .nil=>true
 | .cons t aj=>t.m3&&aj.m3
end
def qh:(ps:List bx)→(bx.ins ps).D→Prop
 | [],_=>True
 | .fn _ _ :: l,x=>qh l x
 | .val t _ :: l,x=>t.jv x.1∧qh l x.2
 | .gV t :: l,x=>t.jv x.1∧qh l x.2
 | .gU t _ :: l,x=>t.jv x.1∧qh l x.2
 | .ref t :: l,x=>t.jv x.1∧qh l x.2
 | .mut t _ _ :: l,x=>t.jv x.1∧qh l x.2
def I5:(rs:List cU)→(aj:ay)→(cU.outs rs aj).D→Prop
 | [.val .bool .R],_,r=>r.1=true
 | _,_,_=>False
section
variable{H:Type}{enc:TypeId×Value→H}{P:Program}{w W W':World}{base:Nat}{spare:Nat→Bool}{held:Bool}{fuel:Nat}
def Old(w:World):ah:=fun b _=>b<w.heap.size
theorem aaJ{a:Addr}{v:Value}(h:w.cell? a=some v):a.block<w.heap.size:=by
 rcases Nat.lt_or_ge a.block w.heap.size with h1 | h1
 ·exact h1
 ·simp [World.cell?,Array.getElem?_eq_none h1] at h
theorem I6{t:ae}{id:TypeId}(h:t.ok P id):P.cellsOf id=t.size:=by
 obtain ⟨i,h1,h2,_⟩:=h.info
 unfold Program.cellsOf
 rw [h1]
 exact h2
theorem QU{a:Addr}{k:Nat}{cs:List Value}(h:w.cells? base a k=some cs):cs.length=k∧∀i v,cs[i]?=some v→w.cell? (a.add i)=some v:=by
 unfold World.cells? at h
 split at h
 ·have hl:cs.length=k:=by
   have:=List.QV h
   simpa using this
  refine⟨hl,fun i v hv=>?_⟩
  have hi:i<k:=by
   rw [← hl]
   exact(List.getElem?_eq_some_iff.1 hv).1
  have:=QW h i (by simpa using hi)
  rw [hv] at this
  simpa using this.symm
 ·cases h
where
 List.QV {α β : Type} {f : α → Option β} : ∀ {l:List α} {r:List β},l.mapM f=some r→r.length=l.length
  | [],r,h=>by simp at h;subst h;rfl
  | x :: l,r,h=>by
   rw [List.mapM_cons] at h
   simp only [Option.bind_eq_bind,Option.bind_eq_some_iff] at h
   obtain ⟨y,h1,ys,h2,h3⟩:=h
   simp only [Option.pure_def,Option.some.injEq] at h3
   subst h3
   simp [List.QV h2]
 QW {α β : Type} {f : α → Option β} : ∀ {l:List α} {r:List β},l.mapM f=some r→∀i (hi:i<l.length),r[i]?=f l[i]
  | [],r,h,i,hi=>by simp at hi
  | x :: l,r,h,i,hi=>by
   rw [List.mapM_cons] at h
   simp only [Option.bind_eq_bind,Option.bind_eq_some_iff] at h
   obtain ⟨y,h1,ys,h2,h3⟩:=h
   simp only [Option.pure_def,Option.some.injEq] at h3
   subst h3
   cases i with
   | zero=>simp [h1]
   | succ i=>simpa using QW h2 i (by simpa using hi)
mutual
theorem ae.read:∀(t:ae) (id:TypeId) (fuel:Nat) (cs:List Value) (x:DataW H×List MemPlace),t.ok P id→t.m3=true→DataW.trod enc P w base spare held fuel id cs=some x →
  ∃y:t.D,t.al w (Old w) .R y cs ah.none∧t.jv y
 | .int k,id,fuel,cs,x,ho,au,h=>by
  obtain ⟨n,rfl,_,hw⟩:=DataW.trod_int (by simp only [ae.ok] at ho;exact ho.1) h
  exact⟨n,by simp only [ae.al],hw⟩
 | .bool,id,fuel,cs,x,ho,au,h=>by
  obtain ⟨n,rfl,_⟩:=DataW.trod_bool (by simp only [ae.ok] at ho;exact ho.1) h
  exact⟨n,by simp only [ae.al],trivial⟩
 | .str,id,fuel,cs,x,ho,au,h=>by
  obtain ⟨s,rfl,_,hs⟩:=DataW.trod_string (by simp only [ae.ok] at ho;exact ho.1) h
  exact⟨s.data.toList,by simp only [ae.al];exact⟨s,rfl,rfl⟩,by simp only [ae.jv,Array.length_toList];exact hs⟩
 | .raw,id,fuel,cs,x,ho,au,h=>by simp [ae.m3] at au
 | .sl t,id,fuel,cs,x,ho,au,h=>by
  simp only [ae.ok] at ho
  obtain ⟨_,e,hu,QX⟩:=ho
  simp only [ae.m3,Bool.and_eq_true] at au
  have fK:0<t.size:=Nat.le_of_ble_eq_true au.1
  rcases DataW.trod_slice hu h with⟨rfl,_⟩ | ⟨a,len,cap,elems,rest,m,_,rfl,_,_,hl,hm,hlen,QY,_,_⟩
  ·exact⟨[],by simp only [ae.al];exact⟨none,0,rfl,.inl trivial⟩,by simp [ae.jv,maxLen]⟩
  ·have hsz:P.cellsOf e=t.size:=I6 QX
   rw [hsz] at QY
   have QZ:∀i,i<len→∃cs' d,w.cells? base (a.add (i*t.size)) t.size=some cs'∧DataW.trod enc P w base spare held m e cs'=some d:=by
    intro i hi
    have h1:=QY i hi
    have h2:∃d,elems[i]?=some d:=⟨_,List.getElem?_eq_getElem (by omega)⟩
    obtain ⟨d,h2⟩:=h2
    rw [h2] at h1
    obtain ⟨cs',h3,h4⟩:=bf h1
    exact⟨cs',d,h3,h4⟩
   have aaK:=fun(cs':List Value) (d:DataW H×List MemPlace)=>ae.read t e m cs' d QX au.2
   have I7:0<len→a.spot=none∧a.block<w.heap.size:=by
    intro hn
    obtain ⟨cs',d,h1,h2⟩:=QZ 0 hn
    obtain ⟨c1,gf⟩:=QU h1
    have oV:=gf 0 cs'[0] (List.getElem?_eq_getElem (by omega))
    simp only [Nat.zero_mul,Addr.add,if_true] at oV
    exact⟨World.cell?_spot oV,aaJ oV⟩
   have hrow:∀(n k:Nat),k+n≤len→∃xs:List t.D,xs.length=n∧Row w (fun y us _=>t.al w (Old w) .R y us ah.none) t.size xs a.block (a.off+k*t.size) ah.none∧(∀y,y∈xs→t.jv y):=by
    intro n
    induction n with
    | zero=>intro k _;exact⟨[],rfl,trivial,by simp⟩
    | succ n ih =>
     intro k hk
     obtain ⟨cs',d,h1,h2⟩:=QZ k (by omega)
     obtain ⟨y,h3,h4⟩:=aaK cs' d h2
     obtain ⟨xs,g1,g3,g4⟩:=ih (k+1) (by omega)
     obtain ⟨c1,gf⟩:=QU h1
     obtain ⟨hsp,akO⟩:=I7 (by omega)
     obtain ⟨ab,ao,asp⟩:=a
     simp only at hsp
     subst hsp
     refine⟨y :: xs,by simp [g1],⟨cs',ah.none,ah.none,h3,c1,?_,?_,fun _ _ h=>h.elim,fun _ _ h=>h,fun _ _ h=>h⟩,?_⟩
     ·intro i v hv
      have:=gf i v hv
      rw [show(⟨ab,ao,none⟩:Addr)=at_ ab ao from rfl,pS,pS] at this
      exact this
     ·have e1:ao+k*t.size+t.size=ao +(k+1)*t.size:=by rw [Nat.add_mul];omega
      simp only
      rw [e1];exact g3
     ·intro z hz
      rcases List.mem_cons.1 hz with rfl | hz
      ·exact h4
      ·exact g4 z hz
   obtain ⟨xs,g1,g3,g4⟩:=hrow len 0 (by omega)
   refine⟨xs,?_,?_⟩
   ·simp only [ae.al]
    refine⟨some a,cap,by rw [g1],?_⟩
    by_cases hx:xs=[]
    ·exact .inl hx
    ·have hn:0<len:=by
      rw [← g1]
      cases xs with
      | nil=>exact absurd rfl hx
      | cons=>simp
     exact .inr ⟨a,rfl,(I7 hn).1,by simpa using g3,fun j hj=>(I7 hn).2,by rw [g1];exact hl⟩
   ·simp only [ae.jv]
    exact⟨by rw [g1];omega,g4⟩
 | .st aj,id,fuel,cs,x,ho,au,h=>by
  have hsz:=I6 ho
  simp only [ae.ok] at ho
  obtain ⟨_,cm,hu,I2⟩:=ho
  obtain ⟨xs,n,_,_,hl,hxl,hf⟩:=DataW.trod_struct hu h
  have hlen:cs.length=(ae.st aj).size:=by rw [hl,hsz]
  have:=ay.read aj cm.toList 0 n cs I2 (by simpa only [ae.m3] using au) (by simpa only [ae.size,Nat.zero_add] using hlen) (fun i f kb=>by
   have hi:i<xs.length:=by
    rw [hxl]
    have:=(List.getElem?_eq_some_iff.1 kb).1
    simpa using this
   exact⟨xs[i],by rw [hf i f (by rw [← Array.getElem?_toList];exact kb),List.getElem?_eq_getElem hi]⟩)
  obtain ⟨y,h1,h2⟩:=this
  rw [List.drop_zero] at h1
  exact⟨y,by simp only [ae.al];exact h1,by simp only [ae.jv];exact h2⟩
theorem ay.read:∀(aj:ay) (cm:List Field) (off:Nat) (fuel:Nat) (cs:List Value),aj.okF P cm off→aj.m3=true→cs.length=off+aj.size →
  (∀(i:Nat) (f:Field),cm[i]?=some f→∃x,DataW.trod enc P w base spare held fuel f.type ((cs.drop f.offset).take (P.cellsOf f.type))=some x)→∃y:aj.D,aj.al w (Old w) .nil y (cs.drop off) ah.none∧aj.jv y
 | .nil,cm,off,fuel,cs,ho,au,hl,hf=>by
  simp only [ay.size,Nat.add_zero] at hl
  exact⟨(),by simp only [ay.al];rw [List.drop_of_length_le (by omega)],by simp only [ay.jv]⟩
 | .cons t aj,cm,off,fuel,cs,ho,au,hl,hf=>by
  simp only [ay.okF] at ho
  obtain ⟨f,k8,rfl,h1,h2,h3⟩:=ho
  simp only [ay.m3,Bool.and_eq_true] at au
  simp only [ay.size] at hl
  obtain ⟨x,hx⟩:=hf 0 f rfl
  rw [h1,I6 h2] at hx
  obtain ⟨y,g1,g2⟩:=ae.read t f.type fuel _ x h2 au.1 hx
  obtain ⟨ys,g3,g4⟩:=ay.read aj k8 (off+t.size) fuel cs h3 au.2 (by omega) fun i mG kb=>hf (i+1) mG (by simpa using kb)
  refine⟨(y,ys),?_,⟨g2,g4⟩⟩
  simp only [ay.al]
  refine⟨_,_,ah.none,ah.none,?_,g1,g3,fun _ _ h=>h.elim,fun _ _ h=>h,fun _ _ h=>h⟩
  rw [← List.drop_drop,List.take_append_drop]
end
theorem aaL{t:ae}{id:TypeId}{r:Reach}{v:Value}(ho:t.ok P id)(hv:Value.okWide P w r base id v):v=dB t v.cells.toList:=by
 cases t with
 | int k=>obtain ⟨n,rfl⟩:=okWide_int (by simp only [ae.ok] at ho;exact ho.1) hv;rfl
 | bool=>obtain ⟨n,rfl⟩:=okWide_bool (by simp only [ae.ok] at ho;exact ho.1) hv;rfl
 | str=>obtain ⟨n,rfl⟩:=okWide_string (by simp only [ae.ok] at ho;exact ho.1) hv;rfl
 | sl t =>
  simp only [ae.ok] at ho
  obtain ⟨_,e,hu,_⟩:=ho
  obtain ⟨a,l,c,rfl⟩:=okWide_slice hu hv
  rfl
 | raw =>
  simp only [ae.ok] at ho
  obtain ⟨_,e,hu⟩:=ho
  obtain ⟨a,l,c,rfl⟩:=okWide_slice hu hv
  rfl
 | st aj =>
  simp only [ae.ok] at ho
  obtain ⟨_,cm,hu,_⟩:=ho
  simp only [Value.okWide,hu] at hv
  obtain ⟨cs,rfl,_⟩:=hv
  simp [dB,Value.cells]
def yn:List (Nat×ae)→List bx
 | []=>[]
 | a :: l=>.val a.2 .R :: yn l
def tt(P:Program):List (Nat×ae)→Bool
 | []=>true
 | a :: l=>a.2.okB P a.1&&a.2.m3&&P.readableRec a.1&&Nat.blt a.1 P.types.size&&tt P l
theorem Q0{r:Reach}{cM:Nat} : ∀(as:List (Nat×ae)) (vs:List Value) (ds:List (DataW H)) (p:List MemPlace),tt P as=true →
  DataW.TrodAll enc P w 0 (fun _=>true) true (as.map (·.1)) vs ds p→(∀(j:Nat) t v,(as.map (·.1))[j]?=some t→vs[j]?=some v→Value.okWide P w r cM t v) →
  ∃x:(bx.ins (yn as)).D,gh w (Old w) 0 (yn as) x vs ah.none∧qh (yn as) x∧fQ vs=[]
 | [],vs,ds,p,ho,h,hv=>by
  obtain ⟨rfl,_,_⟩:=trodAll_nil h
  exact⟨(),rfl,trivial,rfl⟩
 | a :: as,vs,ds,p,ho,h,hv=>by
  simp only [tt,Bool.and_eq_true] at ho
  obtain ⟨v,bD,d,I8,p',I9,rfl,rfl,rfl,h1,h2⟩:=trodAll_cons (by simpa using h)
  obtain ⟨x,g1,g2,g3⟩:=Q0 as bD I8 I9 ho.2 h2 fun j t u hj hu=>hv (j+1) t u (by simpa using hj) (by simpa using hu)
  have ca:=ae.B1 _ _ ho.1.1.1.1
  obtain ⟨fuel,hf⟩:=h1
  obtain ⟨y,k1,k2⟩:=ae.read a.2 a.1 fuel _ _ ca ho.1.1.1.2 hf
  have hw:=aaL ca (hv 0 a.1 v rfl rfl)
  refine⟨(y,x),⟨v.cells.toList,bD,ah.none,ah.none,by rw [← hw],k1,g1,fun _ _ h=>h.elim,fun _ _ h=>h,fun _ _ h=>h⟩,⟨k2,g2⟩,?_⟩
  rw [hw,BW k1]
  exact g3
theorem aaM{w w':World}(h:Ext w w' ah.none):Below w.heap.size w w':=by
 refine⟨h.os,h.tape,h.output,h.size,fun b hb=>?_⟩
 rcases h.block b hb with h1 | ⟨c,c',e,f,h1,h2,h3,h4⟩
 ·exact h1
 ·rw [h1,h2]
  have:c'=c:=by
   apply Array.ext h3
   intro i hi c5
   have:=h4 i (fun h=>h.elim)
   rw [Array.getElem?_eq_getElem hi,Array.getElem?_eq_getElem c5] at this
   exact aV this
  rw [this]
theorem Q1(hl:laidOutB P=true):∀(as:List (Nat×ae)) (vs:List Value) (ds:List (DataW H)) (p:List MemPlace),tt P as=true →
  DataW.TrodAll enc P W 0 (fun _=>true) true (as.map (·.1)) vs ds p→Below W.heap.size W W'→DataW.TrodAll enc P W' 0 (fun b=>decide (b<W.heap.size)) true (as.map (·.1)) vs ds p
 | [],vs,ds,p,ho,h,hb=>by
  obtain ⟨rfl,rfl,rfl⟩:=trodAll_nil h
  exact trodAll_mk0
 | a :: as,vs,ds,p,ho,h,hb=>by
  simp only [tt,Bool.and_eq_true] at ho
  obtain ⟨v,bD,d,I8,p',I9,rfl,rfl,rfl,h1,h2⟩:=trodAll_cons (by simpa using h)
  have cz:∀x∈p',x.block<W.heap.size:=by obtain ⟨m,hm⟩:=h1;exact DataW.trod_lt m _ _ _ hm
  exact trodAll_cons_mk (Below.trod hl ho.1.1.2 (Nat.le_of_ble_eq_true ho.1.2) h1 hb cz) (Q1 hl as bD I8 I9 ho.2 h2 hb)
theorem aaN{f:Nat}{fn:Func}{e:Entry}{prs:List (Nat×ae)}{r:Reach}{cM:Nat}{args:Array Value}{ds:List (DataW H)}{p:List MemPlace}(dN:Sound P f 0 e)(BX:e.ps=yn prs)
  (I_:fn.params.toList=prs.map (·.1)) (ca:tt P prs=true) (aaO:laidOutB P=true) (hc:∀x:(bx.ins e.ps).D,qh e.ps x→∃y,e.f x=some y∧I5 e.rs (bx.dU e.ps) y)
  (tb:∀(j:Nat) t v,fn.params[j]?=some t→args[j]?=some v→Value.okWide P W r cM t v)
  (hA:DataW.TrodAll enc P W 0 (fun _=>true) true fn.params.toList args.toList ds p) :
  Calls P f args W fun end_ W'=>end_=.returned (.bool true)∧Below W.heap.size W W'∧DataW.TrodAll enc P W' 0 (fun b=>decide (b<W.heap.size)) true fn.params.toList args.toList ds p:=by
 obtain ⟨ps,rs,c⟩:=e
 simp only at BX
 subst BX
 rw [I_] at hA
 obtain ⟨x,h1,h2,h3⟩:=Q0 prs args.toList ds p ca hA fun j t v hj hv=>tb j t v (by rw [← Array.getElem?_toList,I_];exact hj) (by rw [← Array.getElem?_toList];exact hv)
 obtain ⟨y,aO,ht⟩:=hc x h2
 have vS:=dN.calls W (Old W) ah.none x args.toList y (fun _ _ h=>h) (fun _ _ h=>h.elim) (fun _ _ h=>h.elim) (by rw [h3,List.append_nil];exact h1) aO
 have ld:args.toList.toArray=args:=by simp
 rw [ld] at vS
 refine Calls.mono vS ?_
 rintro end_ w' ⟨v,rfl,BY⟩
 obtain ⟨dk,Z',F',rfl,hx,_,_,_,_,gZ⟩:=BY.out
 have hb:=aaM hx
 refine⟨?_,hb,by rw [I_];exact Q1 aaO prs _ _ _ ca hA hb⟩
 have hfin:∀(rs:List cU) (aj:ay) (ps:List bx) (us:List Value) (aaP:aj=bx.dU ps) (y:(cU.outs rs (bx.dU ps)).D),I5 rs (bx.dU ps) y→∀F',hP w' Z' ps us rs y dk F'→nW dk=.bool true:=by
  intro rs aj ps us aaP y ht F' gZ
  match rs,y,ht,gZ with
  | [.val .bool .R],y,ht,gZ =>
   obtain ⟨vs,dX,G,fG,rfl,k1,k2,_⟩:=gZ
   obtain ⟨rfl,_⟩:=k2
   simp only [ae.al] at k1
   subst k1
   have ht:y.1=true:=ht
   rw [ht]
   rfl
 exact congrArg _ (hfin rs _ _ _ rfl y ht _ gZ)
end
end Go.LM
namespace Go.LM
theorem sG{x:Int}(h : -9223372036854775808≤x)(h':x≤9223372036854775807):aG x=x:=by
 show(if(true&&decide (x % 18446744073709551616≥9223372036854775808))=true then x % 18446744073709551616-18446744073709551616 else x % 18446744073709551616)=x
 by_cases hc:x % 18446744073709551616≥9223372036854775808
 ·rw [if_pos (by simp [hc])];omega
 ·rw [if_neg (by simp [hc])];omega
theorem bw{n i:Nat}(h:i<n):aN n (i:Int)=some i:=by
 unfold aN
 rw [if_pos ⟨by omega,by omega⟩]
 simp
theorem va{t:ae}{xs:List t.D}{i:Nat}(h:i<xs.length):J t xs i=xs[i]:=by
 unfold J
 rw [List.getD_eq_getElem?_getD,List.getElem?_eq_getElem h]
 rfl
theorem aaQ{n:Nat}(h:n≤68719476736):room n=true:=Nat.ble_eq_true_of_le h
theorem kp{n lo hi:Nat}(h:lo≤hi)(h':hi≤n):dZ n (lo:Int) (hi:Int)=some (lo,hi):=by
 unfold dZ
 rw [if_pos ⟨by omega,by omega,by omega⟩]
 simp
theorem tu{α : Type}(a:Option α):both a a=a:=by unfold both;rw [if_pos rfl]
theorem lx{α : Type}(a:Option α):dup a=a:=tu a
theorem B3(s:List UInt8):br s s=true:=by simp [br]
end Go.LM
namespace Go.LM
structure j6(P:Program) where
 tab:List (Nat×ae)
 lI:List Nat
 eqs:List Nat
 ht:sB P tab=true
 au:sC P lI=true
 he:sD P tab eqs=true
 hm:P.follows .mixedOrders=true
noncomputable def ly(fn:Func):Code:=match fn.body with
 | some c=>c
 | none=>.skip
noncomputable def rF(fn:Func)(ps:List bx):Bool :=
 fn.body.isSome && !(fn.name == "runtime.NumGoroutine")&&BV ps&&Nat.ble ps.length fn.ntmps&&IV (ly fn)
def m4:List (Nat×bV)→Nat→Option bV
 | [],_=>none
 | (k,t) :: l,r=>cond (Nat.beq r k) (some t) (m4 l r)
section
variable{P:Program}
def j6.env(B:j6 P)(fn:Func)(fns:List (Nat×Entry)):Env:=QQ fn.ntmps B.tab B.lI B.eqs fns
noncomputable def j6.start(B:j6 P)(fn:Func)(fns:List (Nat×Entry))(T:List (Nat×bV))(e:Entry)(k:Nat→aq→Option (cU.outs e.rs (bx.dU e.ps)).D)(x:(bx.ins e.ps).D):Option (cU.outs e.rs (bx.dU e.ps)).D :=
 wb (B.env fn fns) fn (ly fn) (m4 T) 0 e k x
noncomputable def j6.Q2(B:j6 P)(key:Nat)(fn:Func)(fns:List (Nat×Entry))(T:List (Nat×bV))(e:Entry)(k:Nat→aq→Option (cU.outs e.rs (bx.dU e.ps)).D)(x:(bx.ins e.ps).D):Option (cU.outs e.rs (bx.dU e.ps)).D :=
 wb (B.env fn fns) fn (ly fn) (m4 T) key e k x
noncomputable def j6.step(B:j6 P)(fn:Func)(fns:List (Nat×Entry))(T:List (Nat×bV))(e:Entry)(k:Nat→aq→Option (cU.outs e.rs (bx.dU e.ps)).D):Nat→aq→Option (cU.outs e.rs (bx.dU e.ps)).D :=
 IZ (B.env fn fns) (m4 T) (ly fn) (o5 (B.env fn fns) fn e) k
theorem Q3(B:j6 P){f:Nat}{fn:Func}{e:Entry}{fns:List (Nat×Entry)}(hs:qg P fns)(hf:P.funcs[f]?=some fn)(hc:rF fn e.ps=true)(T:List (Nat×bV))
  (hF:∀x r,e.f x=some r→∃m,wb (B.env fn fns) fn (ly fn) (m4 T) 0 e (n7 (B.env fn fns) (m4 T) (ly fn) (o5 (B.env fn fns) fn e) m) x=some r):Sound P f 0 e:=by
 unfold rF at hc
 simp only [Bool.and_eq_true,Bool.not_eq_true'] at hc
 obtain ⟨⟨⟨⟨h1,h2⟩,h3⟩,h4⟩,a7⟩:=hc
 refine QI (QT (n:=fn.ntmps) (fns:=fns) B.ht B.au B.he hs B.hm) hf ?_ h2 (Nat.beq_refl _) h3 h4 a7 hF
 unfold ly
 cases hb:fn.body with
 | none=>rw [hb] at h1;cases h1
 | some c=>rfl
theorem cI(B:j6 P){f:Nat}{fn:Func}{e:Entry}{fns:List (Nat×Entry)}(hs:qg P fns)(hf:P.funcs[f]?=some fn)(hc:rF fn e.ps=true)
  (h:∀x,B.start fn fns [] e (fun _ _=>none) x=e.f x):Sound P f 0 e :=
 Q3 B hs hf hc [] fun x r hx=>⟨0,by
  rw [show n7 (B.env fn fns) (m4 []) (ly fn) (o5 (B.env fn fns) fn e) 0=fun _ _=>none from rfl]
  exact(h x).trans hx⟩
def eH{K:Type}(s:K→K)(z:K):Nat→K
 | 0=>z
 | m+1=>s (eH s z m)
theorem ct(B:j6 P){f:Nat}{fn:Func}{e:Entry}{fns:List (Nat×Entry)}(hs:qg P fns)(hf:P.funcs[f]?=some fn)(hc:rF fn e.ps=true)(T:List (Nat×bV)){K:Type}
  (of:(Nat→aq→Option (cU.outs e.rs (bx.dU e.ps)).D)→K) (step:K→K) (L:Nat→K) (g:K→(bx.ins e.ps).D→Option (cU.outs e.rs (bx.dU e.ps)).D)
  (h0:L 0=of fun _ _=>none) (wi:∀m,L (m+1)=step (L m)) (he:∀x,e.f x=g (L aR) x)
  (aA:∀k x,B.start fn fns T e k x=g (of k) x)
  (hst:∀k,of (B.step fn fns T e k)=step (of k)):Sound P f 0 e :=
 Q3 B hs hf hc T fun x r hx=>⟨aR,by
  have hl:∀m,of (n7 (B.env fn fns) (m4 T) (ly fn) (o5 (B.env fn fns) fn e) m)=L m:=by
   intro m
   induction m with
   | zero=>exact h0.symm
   | succ m ih=>rw [wi,← ih];exact hst _
  rw [he,← hl aR] at hx
  exact(aA _ x).trans hx⟩
theorem Q4(B:j6 P)(key:Nat){f:Nat}{fn:Func}{e:Entry}{fns:List (Nat×Entry)}(hs:qg P fns)(hf:P.funcs[f]?=some fn)(hc:rF fn e.ps=true)(T:List (Nat×bV))
  (hF:∀x r,e.f x=some r→∃m,wb (B.env fn fns) fn (ly fn) (m4 T) key e (n7 (B.env fn fns) (m4 T) (ly fn) (o5 (B.env fn fns) fn e) m) x=some r):Sound P f key e:=by
 unfold rF at hc
 simp only [Bool.and_eq_true,Bool.not_eq_true'] at hc
 obtain ⟨⟨⟨⟨h1,h2⟩,h3⟩,h4⟩,a7⟩:=hc
 refine QI (QT (n:=fn.ntmps) (fns:=fns) B.ht B.au B.he hs B.hm) hf ?_ h2 (Nat.beq_refl _) h3 h4 a7 hF
 unfold ly
 cases hb:fn.body with
 | none=>rw [hb] at h1;cases h1
 | some c=>rfl
theorem Q5(B:j6 P)(key:Nat){f:Nat}{fn:Func}{e:Entry}{fns:List (Nat×Entry)}(hs:qg P fns)(hf:P.funcs[f]?=some fn)(hc:rF fn e.ps=true)
  (h:∀x,B.Q2 key fn fns [] e (fun _ _=>none) x=e.f x):Sound P f key e :=
 Q4 B key hs hf hc [] fun x r hx=>⟨0,by
  rw [show n7 (B.env fn fns) (m4 []) (ly fn) (o5 (B.env fn fns) fn e) 0=fun _ _=>none from rfl]
  exact(h x).trans hx⟩
theorem u'(B:j6 P)(key:Nat){f:Nat}{fn:Func}{e:Entry}{fns:List (Nat×Entry)}(hs:qg P fns)(hf:P.funcs[f]?=some fn)(hc:rF fn e.ps=true)(T:List (Nat×bV)){K:Type}
  (of:(Nat→aq→Option (cU.outs e.rs (bx.dU e.ps)).D)→K) (step:K→K) (L:Nat→K) (g:K→(bx.ins e.ps).D→Option (cU.outs e.rs (bx.dU e.ps)).D)
  (h0:L 0=of fun _ _=>none) (wi:∀m,L (m+1)=step (L m)) (he:∀x,e.f x=g (L aR) x)
  (aA:∀k x,B.Q2 key fn fns T e k x=g (of k) x)
  (hst:∀k,of (B.step fn fns T e k)=step (of k)):Sound P f key e :=
 Q4 B key hs hf hc T fun x r hx=>⟨aR,by
  have hl:∀m,of (n7 (B.env fn fns) (m4 T) (ly fn) (o5 (B.env fn fns) fn e) m)=L m:=by
   intro m
   induction m with
   | zero=>exact h0.symm
   | succ m ih=>rw [wi,← ih];exact hst _
  rw [he,← hl aR] at hx
  exact(aA _ x).trans hx⟩
end
@[reducible] def sE(t:ae):bx:=.val t t.own
@[reducible] def aW(t:ae):bx:=.val t .R
@[reducible] def B4(t:ae):bx:=.gV t
@[reducible] def fR(t:ae):bx:=.ref t
@[reducible] def aaR(t:ae):bx:=.mut t t.own t.own
@[reducible] def ro(t:ae):cU:=.val t t.own
@[reducible] def bm(t:ae):cU:=.val t .R
def Q6:List (Nat×a6)→Nat→a6
 | []=>fun _=>.aD
 | (d,v) :: l=>bQ (Q6 l) d v
def Q7:List (Nat×ck)→Nat→ck
 | []=>fun _=>.none
 | (d,v) :: l=>bQ (Q7 l) d v
def bg(t:List (Nat×a6))(o:List (Nat×ck))(g:List a6):aq:=⟨Q6 t,Q7 o,g⟩
def aY(x:Int):a6:=.aU (.int .i64 x)
def ig(x:Bool):a6:=.aU (.bool x)
def eh(x:List UInt8):a6:=.aU (.str x)
def gT(t:ae)(x:List t.D):a6:=.aU (.bW t [] none x)
def ax(c:Nat):a6:=.ptr ⟨c,none,0⟩
def o6(dp:List Nat):List (Nat×Nat):=dp.map fun c=>(c,0)
mutual
def ae.tv:(t:ae)→ba→List Nat→t.D→Nat→List a8×List (Nat×ck)×Nat
 | .int k,_,_,x,j=>([.int k x],[],j)
 | .bool,_,_,x,j=>([.bool x],[],j)
 | .str,_,_,x,j=>([.str x],[],j)
 | .raw,_,_,x,j=>([.raw x],[],j)
 | .sl t,.O e,_,x,j=>([.ag j none],[(j,.row t e 0 x)],j+1)
 | .sl t,_,dp,x,j=>([.bW t (o6 dp) none x],[],j)
 | .st aj,m,dp,x,j=>aj.tv m.parts dp x j
def ay.tv:(aj:ay)→cS→List Nat→aj.D→Nat→List a8×List (Nat×ck)×Nat
 | .nil,_,_,_,j=>([],[],j)
 | .cons t aj,m,dp,x,j=>let r:=t.tv m.ag dp x.1 j;let q:=aj.tv m.dt dp x.2 r.2.2;(r.1++q.1,r.2.1++q.2.1,q.2.2)
end
mutual
def ae.tw:(t:ae)→ba→List Nat→Nat→List kD×List (Nat×il)×Nat
 | .sl t,.O e,_,j=>([.ag j],[(j,.row t e)],j+1)
 | .sl t,_,dp,j=>([.bW t dp],[],j)
 | .st aj,m,dp,j=>aj.tw m.parts dp j
 | _,_,_,j=>([.keep],[],j)
def ay.tw:(aj:ay)→cS→List Nat→Nat→List kD×List (Nat×il)×Nat
 | .nil,_,_,j=>([],[],j)
 | .cons t aj,m,dp,j=>let r:=t.tw m.ag dp j;let q:=aj.tw m.dt dp r.2.2;(r.1++q.1,r.2.1++q.2.1,q.2.2)
end
def aC(c:Nat)(t:ae)(m:ba)(dp:List Nat)(x:t.D):List (Nat×ck):=let r:=t.tv m dp x (c+1);(c,.var 0 r.1) :: r.2.1
def az(c:Nat)(t:ae)(m:ba)(dp:List Nat):List (Nat×il):=let r:=t.tw m dp (c+1);(c,.var r.1) :: r.2.1
def aU(t:ae)(m:ba)(dp:List Nat)(x:t.D)(j:Nat):List a8:=(t.tv m dp x j).1
def rG(t:ae)(m:ba)(dp:List Nat)(j:Nat):List kD:=(t.tw m dp j).1
def I'(t:ae)(m:ba)(x:t.D)(j:Nat):List (Nat×ck):=(t.tv m [] x j).2.1
def Ja(t:ae)(m:ba)(j:Nat):List (Nat×il):=(t.tw m [] j).2.1
@[reducible] def aM:ka:=.cell .keep
end Go.LM
namespace Go.LM
theorem Q8{P:Program}{f key:Nat}{e:Entry}(hf:∀x,e.f x=none):hD P f key e :=
 ⟨fun w Z F x us r _ _ _ _ hx=>by rw [hf x] at hx;cases hx⟩
theorem aaS{w:World}{Z F:ah}{e:Entry}{us:List Value}{k:IntKind}{x:Int}(n3:e.rs=[.val (.int k) .R])(hm:bx.dU e.ps=.nil)(hZ:∀b o,Z b o→b<w.heap.size)(hF:∀b o,F b o→b<w.heap.size)(hap:ah.apart F Z)
  (r:(cU.outs e.rs (bx.dU e.ps)).D) (hr:∀G,hP w Z e.ps (us++fQ us) e.rs r [.int k x] G):Ends w Z F e us r (.int k x) w :=
 ⟨[.int k x],Z,ah.none,rfl,Ext.refl _ _,fun _ _ h=>h,fun _ _ h=>.inl h,fun _ _ h=>h.elim,fun _ _ h=>h.elim,hr _⟩
def B5(g:List UInt8→UInt8→Int):Entry:=⟨[aW .str,aW (.int .u8)],[bm (.int .i64)],fun x=>some (g x.1 x.2.1.toNat.toUInt8,())⟩
theorem Q9{P:Program}{f:FuncId}{fn:Func}{x:Array Value→Sem Value}(g:List UInt8→UInt8→Int)(hf:P.funcs[f]?=some fn)(iL:(fn.name == "runtime.NumGoroutine")=false)
  (hb:fn.body.isNone=true) (hn:Extern.findNext fn=none) (he:Extern.find fn=some x)
  (hx:∀(s:ByteArray) (c:Int) (w:World),(x #[.string s,.int .u8 c]).run P w=.ok (.int .i64 (g s.data.toList c.toNat.toUInt8)) w):hD P f 0 (B5 g):=by
 refine⟨fun w Z F y us r hZ hF hap hA aO=>?_⟩
 obtain rfl:=aV aO
 obtain ⟨vs1,us1,G1,H1,e1,k1,h1,_⟩:=hA
 obtain ⟨vs2,us2,G2,H2,e2,k2,h2,_⟩:=h1
 simp only [ae.al] at k1 k2
 obtain ⟨s,rfl,hs⟩:=k1
 subst k2
 have h2:us2=[]:=h2
 subst h2
 subst e2
 have hus:us=[.string s,.int .u8 y.2.1]:=by
  cases us with
  | nil=>cases e1
  | cons u us =>
   cases us with
   | nil =>
    simp only [List.cons_append,List.nil_append] at e1
    injection e1 with e3 fJ
    subst e3
    cases fJ
   | cons hO us =>
    simp only [List.cons_append] at e1
    injection e1 with e3 fJ
    injection fJ with fJ sX
    subst e3 fJ
    have:us=[]:=(List.append_eq_nil_iff.1 sX).1
    subst this
    rfl
 subst hus
 refine .inr ⟨.int .i64 (g s.data.toList y.2.1.toNat.toUInt8),w,?_,.int .i64 (g s.data.toList y.2.1.toNat.toUInt8),rfl,?_⟩
 ·rw [run_callFunc_extern hf iL hb hn he]
  have:=hx s y.2.1 w
  rw [show(([Value.string s,Value.int IntKind.u8 y.2.1]:List Value).toArray) = #[.string s,.int .u8 y.2.1] from rfl,this]
  rfl
 ·rw [hs]
  refine aaS (e:=B5 g) rfl rfl hZ hF hap _ fun G=>?_
  refine⟨[_],[],ah.none,ah.none,rfl,?_,?_,fun _ _ h=>h.elim,fun _ _ h=>h.elim,fun _ _ h=>h.elim⟩
  ·simp only [ae.al]
  ·exact⟨rfl,_,_,rfl,_,_,rfl,trivial⟩
theorem aaT{P:Program}{f:FuncId}{fn:Func}(hf:P.funcs[f]?=some fn)(iL:(fn.name == "runtime.NumGoroutine")=false)
  (hb:fn.body.isNone=true) (hn:Extern.findNext fn=none) (he:Extern.find fn=some Extern.BytealgIndexByte.indexByte):hD P f 0 (B5 Lib.indexByte) :=
 Q9 _ hf iL hb hn he fun s c w=>Lib.run_indexByteString s c w
theorem aaU{P:Program}{f:FuncId}{fn:Func}(hf:P.funcs[f]?=some fn)(iL:(fn.name == "runtime.NumGoroutine")=false)
  (hb:fn.body.isNone=true) (hn:Extern.findNext fn=none) (he:Extern.find fn=some Extern.BytealgCount.count):hD P f 0 (B5 fun l c=>(Lib.countByte l c:Int)) :=
 Q9 _ hf iL hb hn he fun s c w=>Lib.run_countString s c w
end Go.LM
namespace Go.LM
mutual
def ae.rw:ae→ae
 | .sl _=>.raw
 | .st aj=>.st aj.rw
 | .int k=>.int k
 | .bool=>.bool
 | .str=>.str
 | .raw=>.raw
def ay.rw:ay→ay
 | .nil=>.nil
 | .cons t aj=>.cons t.rw aj.rw
end
mutual
def ae.rel:(T T':ae)→T.D→T'.D→Prop
 | .int _,.int _,x,y=>x=y
 | .bool,.bool,x,y=>x=y
 | .str,.str,x,y=>x=y
 | .sl _,.raw,_,_=>True
 | .raw,.raw,x,y=>x=y
 | .st aj,.st Jb,x,y=>aj.rel Jb x y
 | _,_,_,_=>False
def ay.rel:(T T':ay)→T.D→T'.D→Prop
 | .nil,.nil,_,_=>True
 | .cons t aj,.cons c8 Jb,x,y=>t.rel c8 x.1 y.1∧aj.rel Jb x.2 y.2
 | _,_,_,_=>False
end
mutual
theorem ae.n8:∀t:ae,t.rw.size=t.size
 | .int _=>rfl
 | .bool=>rfl
 | .str=>rfl
 | .sl _=>rfl
 | .raw=>rfl
 | .st aj=>by simp only [ae.rw,ae.size];exact ay.n8 aj
theorem ay.n8:∀t:ay,t.rw.size=t.size
 | .nil=>rfl
 | .cons t aj=>by simp only [ay.rw,ay.size,ae.n8 t,ay.n8 aj]
end
mutual
theorem ae.yp{w:World}{Z:ah} : ∀(T:ae) (m:ba) {x:T.D} {vs:List Value} {F:ah},T.al w Z m x vs F→∃y:T.rw.D,(∀(w':World) (Z':ah) (m':ba) (F':ah),T.rw.al w' Z' m' y vs F')∧T.rel T.rw x y
 | .int _,_,x,_,_,h=>by simp only [ae.al] at h;subst h;exact⟨x,fun _ _ _ _=>by simp only [ae.rw,ae.al],by simp only [ae.rw,ae.rel]⟩
 | .bool,_,x,_,_,h=>by simp only [ae.al] at h;subst h;exact⟨x,fun _ _ _ _=>by simp only [ae.rw,ae.al],by simp only [ae.rw,ae.rel]⟩
 | .str,_,x,_,_,h=>by simp only [ae.al] at h;exact⟨x,fun _ _ _ _=>by simp only [ae.rw,ae.al];exact h,by simp only [ae.rw,ae.rel]⟩
 | .raw,_,x,_,_,h=>by simp only [ae.al] at h;exact⟨x,fun _ _ _ _=>by simp only [ae.rw,ae.al];exact h,by simp only [ae.rw,ae.rel]⟩
 | .sl t,m,x,vs,F,h=>by
  have:∃A n c,vs=[.slice A n c]:=by
   cases m <;>(simp only [ae.al] at h;obtain ⟨A,c,hv,_⟩:=h;exact⟨A,_,c,hv⟩)
  obtain ⟨A,n,c,rfl⟩:=this
  exact⟨(.slice A n c:Value),fun _ _ _ _=>by simp only [ae.rw,ae.al];exact⟨trivial,A,n,c,rfl⟩,by simp only [ae.rw,ae.rel]⟩
 | .st aj,m,x,vs,F,h=>by
  simp only [ae.al] at h
  obtain ⟨y,h1,h2⟩:=ay.yp aj m.parts h
  exact⟨y,fun w' Z' m' F'=>by simp only [ae.rw,ae.al];exact h1 w' Z' m'.parts F',by simp only [ae.rw,ae.rel];exact h2⟩
theorem ay.yp{w:World}{Z:ah} : ∀(T:ay) (m:cS) {x:T.D} {vs:List Value} {F:ah},T.al w Z m x vs F→∃y:T.rw.D,(∀(w':World) (Z':ah) (m':cS) (F':ah),T.rw.al w' Z' m' y vs F')∧T.rel T.rw x y
 | .nil,_,_,_,_,h=>by simp only [ay.al] at h;exact⟨(),fun _ _ _ _=>by simp only [ay.rw,ay.al];exact h,by simp only [ay.rw,ay.rel]⟩
 | .cons t aj,m,x,vs,F,h=>by
  simp only [ay.al] at h
  obtain ⟨us,bD,G,H,rfl,h1,h2,_⟩:=h
  obtain ⟨y,k1,k2⟩:=ae.yp t m.ag h1
  obtain ⟨z,dP,eF⟩:=ay.yp aj m.dt h2
  exact⟨(y,z),fun w' Z' m' F'=>by simp only [ay.rw,ay.al];exact⟨us,bD,ah.none,ah.none,rfl,k1 w' Z' m'.ag _,dP w' Z' m'.dt _,fun _ _ h=>h.elim,fun _ _ h=>h.elim,fun _ _ h=>h.elim⟩,by simp only [ay.rw,ay.rel];exact⟨k2,eF⟩⟩
end
mutual
theorem ae.yq{w w':World}{Z Z':ah} : ∀(T:ae) {m m':ba} {y:T.rw.D} {vs:List Value} {F F':ah},T.rw.al w Z m y vs F→T.rw.al w' Z' m' y vs F'
 | .int _,_,_,_,_,_,_,h=>by simp only [ae.rw,ae.al] at h ⊢;exact h
 | .bool,_,_,_,_,_,_,h=>by simp only [ae.rw,ae.al] at h ⊢;exact h
 | .str,_,_,_,_,_,_,h=>by simp only [ae.rw,ae.al] at h ⊢;exact h
 | .sl _,_,_,_,_,_,_,h=>by simp only [ae.rw,ae.al] at h ⊢;exact h
 | .raw,_,_,_,_,_,_,h=>by simp only [ae.rw,ae.al] at h ⊢;exact h
 | .st aj,_,_,_,_,_,_,h=>by simp only [ae.rw,ae.al] at h ⊢;exact ay.yq aj h
theorem ay.yq{w w':World}{Z Z':ah} : ∀(T:ay) {m m':cS} {y:T.rw.D} {vs:List Value} {F F':ah},T.rw.al w Z m y vs F→T.rw.al w' Z' m' y vs F'
 | .nil,_,_,_,_,_,_,h=>by simp only [ay.rw,ay.al] at h ⊢;exact h
 | .cons t aj,_,_,_,_,_,_,h=>by
  simp only [ay.rw,ay.al] at h ⊢
  obtain ⟨a,b,_,_,rfl,h1,h2,_⟩:=h
  exact⟨a,b,ah.none,ah.none,rfl,ae.yq t h1,ay.yq aj h2,fun _ _ h=>h.elim,fun _ _ h=>h.elim,fun _ _ h=>h.elim⟩
end
mutual
theorem ae.yr{w w':World}{Z Z':ah} : ∀(T:ae) {m m':ba} {y:T.rw.D} {us vs:List Value} {F F':ah},T.rw.al w Z m y us F→T.rw.al w' Z' m' y vs F'→us=vs
 | .int _,_,_,_,_,_,_,_,h,k=>by simp only [ae.rw,ae.al] at h k;rw [h,k]
 | .bool,_,_,_,_,_,_,_,h,k=>by simp only [ae.rw,ae.al] at h k;rw [h,k]
 | .str,_,_,_,_,_,_,_,h,k=>by
  simp only [ae.rw,ae.al] at h k
  obtain ⟨s,rfl,hs⟩:=h
  obtain ⟨ar,rfl,Q_⟩:=k
  have:s=ar:=by
   cases s;cases ar
   simp only at hs Q_
   congr 1
   apply Array.ext'
   rw [hs,Q_]
  rw [this]
 | .sl _,_,_,_,_,_,_,_,h,k=>by simp only [ae.rw,ae.al] at h k;rw [h.1,k.1]
 | .raw,_,_,_,_,_,_,_,h,k=>by simp only [ae.rw,ae.al] at h k;rw [h.1,k.1]
 | .st aj,_,_,_,_,_,_,_,h,k=>by simp only [ae.rw,ae.al] at h k;exact ay.yr aj h k
theorem ay.yr{w w':World}{Z Z':ah} : ∀(T:ay) {m m':cS} {y:T.rw.D} {us vs:List Value} {F F':ah},T.rw.al w Z m y us F→T.rw.al w' Z' m' y vs F'→us=vs
 | .nil,_,_,_,_,_,_,_,h,k=>by simp only [ay.rw,ay.al] at h k;rw [h,k]
 | .cons t aj,_,_,_,_,_,_,_,h,k=>by
  simp only [ay.rw,ay.al] at h k
  obtain ⟨a,b,_,_,rfl,h1,h2,_⟩:=h
  obtain ⟨b6,b',_,_,rfl,k1,k2,_⟩:=k
  rw [ae.yr t h1 k1,ay.yr aj h2 k2]
end
def gP(w:World)(Z:ah)(T:ae)(m:ba):List T.D→List T.rw.D→ah→Prop
 | [],[],_=>True
 | x :: xs,y :: ys,G=>∃vs G1 G2,T.al w Z m x vs G1∧T.rw.al w Z .R y vs ah.none∧T.rel T.rw x y∧gP w Z T m xs ys G2∧ah.apart G1 G2∧ah.sub G1 G∧ah.sub G2 G
 | _,_,_=>False
section
variable{w w':World}{Z Z':ah}{T:ae}{m:ba}
theorem gP.len:∀ {xs:List T.D} {ys:List T.rw.D} {G:ah},gP w Z T m xs ys G→ys.length=xs.length
 | [],[],_,_=>rfl
 | _ :: _,_ :: _,_,⟨_,_,_,_,_,_,h,_⟩=>by simp [gP.len h]
 | [],_ :: _,_,h=>h.elim
 | _ :: _,[],_,h=>h.elim
theorem gP.mono:∀ {xs:List T.D} {ys:List T.rw.D} {G dh:ah},ah.sub G dh→gP w Z T m xs ys G→gP w Z T m xs ys dh
 | [],[],_,_,_,_=>trivial
 | _ :: _,_ :: _,_,_,hs,⟨vs,G1,G2,h1,h2,h3,h4,a7,bj,bE⟩=>⟨vs,G1,G2,h1,h2,h3,h4,a7,fun b o h=>hs b o (bj b o h),fun b o h=>hs b o (bE b o h)⟩
 | [],_ :: _,_,_,_,h=>h.elim
 | _ :: _,[],_,_,_,h=>h.elim
theorem gP.Ra:∀ {xs:List T.D} {b o:Nat} {G:ah},Row w (T.al w Z m) T.size xs b o G→∃ys,gP w Z T m xs ys G∧∀(Z':ah),Row w (T.rw.al w Z' .R) T.rw.size ys b o ah.none
 | [],_,_,_,_=>⟨[],trivial,fun _=>trivial⟩
 | x :: xs,b,o,G,⟨vs,G1,G2,h1,h2,h3,h4,a7,bj,bE⟩=>by
  obtain ⟨ys,k1,k2⟩:=gP.Ra h4
  obtain ⟨y,dP,eF⟩:=ae.yp T m h1
  refine⟨y :: ys,⟨vs,G1,G2,h1,dP _ _ _ _,eF,k1,a7,bj,bE⟩,fun Z'=>⟨vs,ah.none,ah.none,dP _ _ _ _,by rw [h2,ae.n8],h3,?_,fun _ _ h=>h.elim,fun _ _ h=>h.elim,fun _ _ h=>h.elim⟩⟩
  have:=k2 Z'
  rw [ae.n8] at this ⊢
  exact this
theorem gP.filter{p:T.D→Bool}{p':T.rw.D→Bool}(au:∀x y,T.rel T.rw x y→p x=p' y):∀ {xs:List T.D} {ys:List T.rw.D} {G:ah},gP w Z T m xs ys G→gP w Z T m (xs.filter p) (ys.filter p') G
 | [],[],_,_=>trivial
 | x :: xs,y :: ys,G,⟨vs,G1,G2,h1,h2,h3,h4,a7,bj,bE⟩=>by
  have ih:=gP.filter au h4
  rw [List.filter_cons,List.filter_cons,au x y h3]
  cases p' y
  ·exact ih.mono bE
  ·exact⟨vs,G1,G2,h1,h2,h3,ih,a7,bj,bE⟩
 | [],_ :: _,_,h=>h.elim
 | _ :: _,[],_,h=>h.elim
theorem gP.same:∀ {xs:List T.D} {ys:List T.rw.D} {G:ah},b5 w w' G→gP w Z T T.own xs ys G→gP w' Z' T T.own xs ys G
 | [],[],_,_,_=>trivial
 | x :: xs,y :: ys,G,hs,⟨vs,G1,G2,h1,h2,h3,h4,a7,bj,bE⟩=>by
  exact⟨vs,G1,G2,p6 T (hs.mono bj) h1,ae.yq T h2,h3,gP.same (hs.mono bE) h4,a7,bj,bE⟩
 | [],_ :: _,_,_,h=>h.elim
 | _ :: _,[],_,_,h=>h.elim
theorem gP.row:∀ {xs:List T.D} {ys:List T.rw.D} {G:ah} {b o:Nat} {H:ah},gP w Z T m xs ys G→Row w (T.rw.al w Z' .R) T.rw.size ys b o H→Row w (T.al w Z m) T.size xs b o G
 | [],[],_,_,_,_,_,_=>trivial
 | x :: xs,y :: ys,G,b,o,H,⟨vs,G1,G2,h1,h2,h3,h4,a7,bj,bE⟩,⟨us,H1,H2,k1,k2,k3,bh,_⟩=>by
  have:us=vs:=ae.yr T k1 h2
  subst this
  rw [ae.n8] at k2 bh
  exact⟨us,G1,G2,h1,k2,k3,gP.row h4 (by rw [ae.n8];exact bh),a7,bj,bE⟩
 | [],_ :: _,_,_,_,_,h,_=>h.elim
 | _ :: _,[],_,_,_,_,h,_=>h.elim
theorem aaV{P:Program}{f:FuncId}{key:FuncId}{T':ae}{p:T.D→Int→Bool}{p':T'.D→Int→Bool}(bX:T.rw=T')(BI:∀x y i,T.rel T' x y→p x i=p' y i)
  {fq:(bx.ins [.val (.sl T') (.O .R),.fn 0 1,.ref (.int .i64)]).D→Option (cU.outs [.val (.sl T') (.O .R)] (bx.dU [.val (.sl T') (.O .R),.fn 0 1,.ref (.int .i64)])).D}
  (dN:hD P f key ⟨[.val (.sl T') (.O .R),.fn 0 1,.ref (.int .i64)],[.val (.sl T') (.O .R)],fq⟩)
  (hf:∀(ys:List T'.D) (i:Int),room ys.length=true→fq (ys,i,())=some (ys.filter (fun y=>p' y i),())) :
  hD P f key ⟨[.val (.sl T) (.O T.own),.fn 0 1,.ref (.int .i64)],[.val (.sl T) (.O T.own)],fun x=>cond (room x.1.length) (some (x.1.filter (fun y=>p y x.2.1),())) none⟩:=by
 subst bX
 refine⟨fun w Z F x us r hZ hF hFZ hA hr=>?_⟩
 obtain ⟨xs,i,u⟩:=x
 simp only at hr
 cases hroom:room xs.length
 ·rw [hroom] at hr;cases hr
 rw [hroom] at hr
 simp only [cond_true] at hr
 have hr:=aV hr
 obtain ⟨vs,aT,G,H,e1,cK,fE,B6,hGF,yt⟩:=hA
 simp only [ae.al] at cK
 obtain ⟨A,c,rfl,cK⟩:=cK
 obtain ⟨ys,G1,wj,dQ,aaW,yu,wk,Jc⟩:∃(ys:List T.rw.D) (G1 wj:ah),gP w Z T T.own xs ys G1∧(ae.sl T.rw).al w Z (.O .R) ys [.slice A xs.length c] wj∧ah.sub G1 G∧ah.sub wj G∧ah.apart G1 wj:=by
  rcases cK with⟨rfl,rfl⟩ | ⟨a,rfl,hr⟩
  ·exact⟨[],ah.none,ah.none,trivial,by simp only [ae.al];exact⟨A,0,rfl,.inl (by simp)⟩,fun _ _ h=>h.elim,fun _ _ h=>h.elim,fun _ _ h=>h.elim⟩
  ·obtain ⟨G1,g1,g2,g3⟩:=hr.row
   obtain ⟨ys,k1,k2⟩:=gP.Ra g1
   refine⟨ys,G1,ah.run a.block a.off (c*T.size),k1,?_,g3,?_,?_⟩
   ·simp only [ae.al]
    refine⟨some a,c,by rw [k1.len],.inr ⟨a,rfl,hr.spot,by rw [k1.len];exact hr.cap,?_,?_,ah.none,?_,fun _ _ h=>h,fun _ _ h=>h.elim⟩⟩
    ·rw [ae.n8];exact hr.wr
    ·rw [ae.n8];exact fun j hj=>⟨rfl,by omega,by omega⟩
    ·exact k2 Z
   ·rintro b o ⟨rfl,h1,h2⟩
    have:=hr.inF (o-a.off) (by omega)
    rwa [show a.off +(o-a.off)=o by omega] at this
   ·rintro b o aA ⟨rfl,h1,h2⟩
    have:=g2 (o-a.off) (by omega)
    rw [show a.off +(o-a.off)=o by omega] at this
    exact this aA
 have hcall:=dN.calls w Z (wj.or H) (ys,i,u) us (ys.filter (fun y=>p' y i),()) hZ
  (fun b o h=>h.elim (fun h=>hF b o (hGF b o (wk b o h))) fun h=>hF b o (yt b o h))
  (fun b o h hz=>h.elim (fun h=>hFZ b o (hGF b o (wk b o h)) hz) fun h=>hFZ b o (yt b o h) hz)
  ⟨[.slice A xs.length c],aT,wj,H,e1,aaW,fE,fun b o h=>B6 b o (wk b o h),fun _ _ h=>.inl h,fun _ _ h=>.inr h⟩
  (hf ys i (by rw [dQ.len];exact hroom))
 refine hcall.mono ?_
 rintro end_ w' ⟨v,rfl,⟨⟨dk,Z',F',rfl,hx,iY,hz2,hf2,x9,gZ⟩⟩⟩
 subst hr
 simp only [hP] at gZ
 obtain ⟨vs1,dX,dh,ZH,rfl,vQ,⟨rfl,B7⟩,_,Rb,_⟩:=gZ
 have wm:∀b o,G1 b o→F b o∧b<w.heap.size:=fun b o h=>⟨hGF b o (yu b o h),hF b o (hGF b o (yu b o h))⟩
 have aaX:ah.apart G1 F':=by
  intro b o h1 h2
  rcases (hf2 b o h2).1 with(h3 | h3) | h3
  ·exact Jc b o h1 h3
  ·exact B6 b o (yu b o h1) h3
  ·have:=(wm b o h1).2;omega
 have mR:b5 w w' G1:=b5.iE hx (fun b o h=>(wm b o h).2) (by
  rintro b o h1 (h3 | h3)
  ·exact Jc b o h1 h3
  ·exact B6 b o (yu b o h1) h3)
 have B8:gP w' Z' T T.own (xs.filter fun y=>p y i) (ys.filter fun y=>p' y i) G1:=(dQ.same mR).filter fun x y h=>BI x y i h
 have hsz:T.rw.size=T.size:=ae.n8 T
 refine⟨_,rfl,⟨⟨_,Z',F'.or G1,rfl,?_,iY,?_,?_,?_,?_⟩⟩⟩
 ·exact hx.mono fun b o hb h=>h.elim (fun h=>hGF b o (wk b o h)) fun h=>yt b o h
 ·intro b o hz
  rcases hz2 b o hz with h1 | ⟨h1,h2⟩
  ·exact .inl h1
  ·exact .inr ⟨h1.imp (fun h=>h.elim (fun h=>hGF b o (wk b o h)) fun h=>yt b o h) fun h=>h,h2⟩
 ·rintro b o (h1 | h1)
  ·obtain ⟨h2,h3⟩:=hf2 b o h1
   exact⟨h2.imp (fun h=>h.elim (fun h=>hGF b o (wk b o h)) fun h=>yt b o h) fun h=>h,h3⟩
  ·exact⟨.inl (wm b o h1).1,Nat.lt_of_lt_of_le (wm b o h1).2 hx.size⟩
 ·rintro b o (h1 | h1) hz
  ·exact x9 b o h1 hz
  ·rcases hz2 b o hz with h2 | ⟨(h2 | h2) | h2,_⟩
   ·exact hFZ b o (wm b o h1).1 h2
   ·exact Jc b o h1 h2
   ·exact B6 b o (yu b o h1) h2
   ·have:=(wm b o h1).2;omega
 ·simp only [hP]
  refine⟨vs1,[],F'.or G1,ah.none,rfl,?_,⟨rfl,by simp only [h6] at B7 ⊢;exact B7⟩,fun _ _ _ h=>h.elim,fun _ _ h=>h,fun _ _ h=>h.elim⟩
  simp only [ae.al] at vQ ⊢
  obtain ⟨oQ,c',rfl,vQ⟩:=vQ
  refine⟨oQ,c',by rw [← B8.len],?_⟩
  rcases vQ with⟨h1,h2⟩ | ⟨b6,oU,ib⟩
  ·refine .inl ⟨List.eq_nil_of_length_eq_zero ?_,h2⟩
   rw [← B8.len,h1];rfl
  ·obtain ⟨On,bB,_⟩:=ib.row
   refine .inr ⟨b6,oU,ib.spot,by rw [← B8.len];exact ib.cap,by have:=ib.wr;rwa [hsz] at this,?_,G1,B8.row bB,?_,fun _ _ h=>.inr h⟩
   ·intro j hj
    exact .inl (Rb _ _ (ib.inF j (by rw [hsz];exact hj)))
   ·intro j hj aA
    exact aaX _ _ aA (Rb _ _ (ib.inF j (by rw [hsz];exact hj)))
end
end Go.LM
