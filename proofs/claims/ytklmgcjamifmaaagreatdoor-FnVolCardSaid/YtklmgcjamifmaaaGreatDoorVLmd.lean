/- Regions, loops and whole functions are what the interpreter says, and a law's reading fits them. Conditions: each theorem's own hypotheses. -/
import Derived.Test.YtklmgcjamifmaaaGreatDoorVLmc
import Derived.Orders
import Derived.OrdersHeld
import Derived.Laws.StructEq
import Derived.WalkKit
import Derived.ProofKit
import Derived.OpenShut
import Derived.ShutString
import Derived.ChangeOld
import Derived.Below
import Derived.JoinedCond
import Derived.Lib.Bytealg
set_option linter.unusedVariables false
set_option linter.unusedSimpArgs false
namespace Go.LM
section
variable{P:Program}{Q:Exit→Act→World→Prop}
variable{w0:World}{F0 Z0:ah}{n:cC}{s aq:an}{a b6:Act}{w w':World}{ι ba:Nat→bD}{Z Z':ah}
variable{E:Env}{o:Oper}{br : Type}{K:an→Option br}{r : br}{id:Nat}
def gI(w0:World)(F0 Z0:ah)(n:cC)(K:an→Option br)(r : br)(a:Act)(w:World):Prop:=∃s,K s=some r∧cT w0 F0 Z0 n s a w
theorem PF(hn:E.n=n)(h:xt E o=true):∀k,o.dst=some k→k<n:=by
 intro k hk
 unfold xt at h
 rw [hk] at h
 rw [← hn]
 exact Nat.le_of_ble_eq_true h
theorem Inv.PG(h:Inv w0 F0 Z0 n s a w ι Z){d:Nat}{b:Bool}(hb:s.t d=.aS (.bool b)):Inv w0 F0 Z0 n (s.set d (.aS (.bool b))) a w ι Z∧a.tmps.getD d undef=.bool b:=by
 have ag:=h.tmps d
 rw [hb] at ag
 have iW:a.tmps.getD d undef=.bool b:=by simpa only [aO,cf] using ag
 refine⟨h.tmp rfl (fun k=>?_) h.size h.defers,iW⟩
 have hm:eB w Z s ι w Z (s.set d (.aS (.bool b))) ι := GN rfl
 show aO w Z (s.set d (.aS (.bool b))) ι (bQ s.t d (.aS (.bool b)) k) (a.tmps.getD k undef)
 by_cases hk:d=k
 ·subst hk;rw [ct,iW];simp only [aO,cf]
 ·rw [cO hk];exact(h.tmps k).move hm
theorem PH(h:Inv w0 F0 Z0 n s a w ι Z)(ag:∀k,o.dst=some k→k<n):cT w0 F0 Z0 n (s.dst o.dst .gone) (a.put o.dst undef) w :=
 ⟨ι,Z,h.dst (by simp only [aO]) ag⟩
theorem PI{ops:Array Oper}(bL:jr P E)(hn:E.n=n)(h:Inv w0 F0 Z0 n s a w ι Z)(hk:sE E id ops.toList o s K=some r) :
  if Region.wanted o (yielded ops a.tmps) then o.wp P a w (gI w0 F0 Z0 n K r) Q else gI w0 F0 Z0 n K r (a.put o.dst undef) w:=by
 unfold sE at hk
 cases tc:xt E o
 ·rw [tc] at hk;cases hk
 rw [tc] at hk
 simp only [cond_true] at hk
 have ag:=PF hn tc
 have ll:∀ {s1:an},Inv w0 F0 Z0 n s1 a w ι Z→cP E id o s1 K=some r→o.wp P a w (gI w0 F0 Z0 n K r) Q:=by
  intro s1 h1 hk1
  obtain ⟨aq,h2,h3⟩:=YC (Q:=Q) bL h1 ag hk1
  exact Oper.wp_mono (fun a w hs=>⟨aq,h2,hs⟩) h3
 have bP:∀ {s1:an},Inv w0 F0 Z0 n s1 a w ι Z→K (s1.dst o.dst .gone)=some r→gI w0 F0 Z0 n K r (a.put o.dst undef) w:=fun h1 hk1=>⟨_,hk1,PH h1 ag⟩
 unfold guardOf at hk
 cases az:o.guard with
 | none =>
  rw [az] at hk
  simp only at hk
  rw [if_pos (by simp [Region.wanted,az])]
  exact ll h hk
 | some Ij =>
  obtain ⟨j,wt⟩:=Ij
  rw [az] at hk
  simp only at hk
  cases hj:(ops.toList[j]?).bind (·.dst) with
  | none=>rw [hj] at hk;simp at hk
  | some d =>
   rw [hj] at hk
   simp only at hk
   cases hst:s.t d with
   | aS c =>
    cases c with
    | bool b =>
     rw [hst] at hk
     simp only at hk
     obtain ⟨h1,h2⟩:=h.PG hst
     have aM:yielded ops a.tmps j=some b:=by
      unfold yielded
      rw [Array.getElem?_toList] at hj
      rw [hj]
      simp only [av]
      have cw:d<a.tmps.size:=by
       rcases Nat.lt_or_ge d a.tmps.size with h | h
       ·exact h
       ·rw [Array.getD_eq_getD_getElem?,Array.getElem?_eq_none h] at h2
        simp [undef] at h2
      rw [Array.getD_eq_getD_getElem?,Array.getElem?_eq_getElem cw] at h2
      rw [Array.getElem?_eq_getElem cw]
      simp only [Option.getD_some] at h2
      rw [h2]
     have hw:Region.wanted o (yielded ops a.tmps)=(b==wt):=by
      simp only [Region.wanted,az,aM]
      cases b <;> cases wt <;> rfl
     rw [hw]
     cases b <;> cases wt <;> simp only [cond_true,cond_false] at hk
     ·exact ll h1 hk
     ·exact bP h1 hk
     ·exact bP h1 hk
     ·exact ll h1 hk
    | _=>rw [hst] at hk;simp at hk
   | gone =>
    rw [hst] at hk
    simp only at hk
    have h2:=h.tmps d
    rw [hst] at h2
    simp only [aO] at h2
    have aM:yielded ops a.tmps j=none:=by
     unfold yielded
     rw [Array.getElem?_toList] at hj
     rw [hj]
     simp only [av]
     rw [Array.getD_eq_getD_getElem?] at h2
     cases ia:a.tmps[d]? with
     | none=>rfl
     | some v=>rw [ia] at h2;simp only [Option.getD_some] at h2;subst h2;rfl
    have hw:Region.wanted o (yielded ops a.tmps)=false:=by
     simp only [Region.wanted,az,aM]
     cases wt <;> rfl
    rw [hw]
    exact bP h hk
   | _=>rw [hst] at hk;simp at hk
theorem Bn{ops:Array Oper}{R:Exit→Act→World→Prop}{i m:Nat}(hi:ops[i]?=some o)(az:o.guard=none)(h:o.wp P a w (fun a w=>wpOps P ops R (List.range' (i+1) m) a w) R):wpOps P ops R (List.range' i (m+1)) a w:=by
 rw [List.range'_succ]
 simp only [wpOps,hi]
 rw [if_pos (by simp [Region.wanted,az])]
 exact .inl h
theorem Ik{bB:Nat}{ops:Array Oper}(bL:jr P E)(hn:E.n=n):∀(m:Nat) (l:List Oper) (i:Nat) (s:an) (a:Act) (w:World),l.length≤m→ops.toList.drop i=l→sF E bB ops.toList l i 0 s K=some r→cT w0 F0 Z0 n s a w →
  wpOps P ops (fun e a w=>e=.normal∧gI w0 F0 Z0 n K r a w) (List.range' i l.length) a w
 | _,[],i,s,a,w,_,_,hk,hs=>⟨rfl,s,hk,hs⟩
 | 0,_ :: _,_,_,_,_,hm,_,_,_=>by simp at hm
 | m+1,o :: l,i,s,a,w,hm,hl,hk,⟨ι,Z,h⟩=>by
  have hm:l.length≤m:=by simpa using hm
  have Bo:∀(j:Nat) (o:Oper) (l:List Oper),ops.toList.drop j=o :: l→ops[j]?=some o∧ops.toList.drop (j+1)=l:=by
   intro j o l hl
   refine⟨?_,by rw [← List.drop_drop,hl];rfl⟩
   rw [← Array.getElem?_toList]
   have:=congrArg (·[0]?) hl
   simpa using this
  obtain ⟨hi,fS⟩:=Bo i o l hl
  simp only [sF] at hk
  cases bW:NI E s o
  ·rw [bW] at hk
   simp only [cond_false] at hk
   rw [List.length_cons,List.range'_succ]
   have nU:=PI (Q:=fun e a w=>e=.normal∧gI w0 F0 Z0 n K r a w) bL hn h hk
   simp only [wpOps,hi]
   have p5:∀a w,gI w0 F0 Z0 n (fun aq=>sF E bB ops.toList l (i+1) 0 aq K) r a w→wpOps P ops (fun e a w=>e=.normal∧gI w0 F0 Z0 n K r a w) (List.range' (i+1) l.length) a w:=by
    rintro a w ⟨aq,h1,h2⟩
    exact Ik bL hn m l (i+1) aq a w hm fS h1 h2
   split
   ·rename_i hw
    rw [if_pos hw] at nU
    exact .inl (Oper.wp_mono p5 nU)
   ·rename_i hw
    rw [if_neg hw] at nU
    exact p5 _ _ nU
  ·rw [bW] at hk
   simp only [cond_true] at hk
   obtain ⟨dz,eA,eL,l',rfl,g0,g1,g2,g3,lN⟩:=Y3 (Q:=fun e a w=>e=.normal∧gI w0 F0 Z0 n K r a w) bL hn h hk
   obtain ⟨gp,hl1⟩:=Bo _ _ _ fS
   obtain ⟨fV,dN⟩:=Bo _ _ _ hl1
   obtain ⟨vt,Il⟩:=Bo _ _ _ dN
   refine Bn hi g0 (Oper.wp_mono (fun a w h=>Bn gp g1 (Oper.wp_mono (fun a w h=>Bn fV g2 (Oper.wp_mono (fun a w h=>Bn vt g3 (Oper.wp_mono (fun a w h=>?_) h)) h)) h)) lN)
   obtain ⟨aq,h1,h2⟩:=h
   exact Ik bL hn m l' (i+1+1+1+1) aq a w (by simp at hm;omega) Il h1 h2
theorem Zc{bB:Nat}{ops:Array Oper}(bL:jr P E)(hn:E.n=n)(l:List Oper)(i:Nat)(s:an)(a:Act)(w:World)(hl:ops.toList.drop i=l)(hk:GF E bB ops.toList l i s K=some r)(hs:cT w0 F0 Z0 n s a w) :
  wpOps P ops (fun e a w=>e=.normal∧gI w0 F0 Z0 n K r a w) (List.range' i l.length) a w:=Ik bL hn l.length l i s a w (Nat.le_refl _) hl hk hs
theorem Zd{bB:Nat}{ops:Array Oper}(bL:jr P E)(hn:E.n=n)(hk:GF E bB ops.toList ops.toList 0 s K=some r)(hs:cT w0 F0 Z0 n s a w)(b:Frame)(k:List Item)(cs:List Frame) :
  ∃b6 w',gI w0 F0 Z0 n K r b6 w'∧Steps P (lone (b.at a (.code (.region bB ops false) :: k)) cs w) (lone (b.at b6 k) cs w'):=by
 have h:=Zc (w0:=w0) (F0:=F0) (Z0:=Z0) (n:=n) bL hn ops.toList 0 s a w rfl hk hs
 have h':wpOps P ops (fun e a w=>e=.normal∧gI w0 F0 Z0 n K r a w) (List.range ops.size) a w:=by
  rw [List.range_eq_range'];simpa using h
 obtain ⟨e,b6,w',⟨rfl,hl⟩,harr⟩:=wp_ops _ a w h' b k cs
 exact⟨b6,w',hl,.head step_region harr⟩
end
end Go.LM
namespace Go.LM
section
variable{P:Program}{ops:Array Oper}{Q:Exit→Act→World→Prop}
abbrev fs:=List (Nat×(World→Prop))
def fs.after(ops:Array Oper)(j:Nat)(p:fs):fs:=p.filter fun x => !waits ops j x.1
def fs.ok(p:fs)(w:World):Prop:=∀x∈p,x.2 w
def nW(P:Program)(ops:Array Oper)(Q:Exit→Act→World→Prop):Nat→Array Bool→fs→Act→World→Prop
 | 0,listed,_,a,w=>Region.ready .any ops listed=[]∧Q .normal a w
 | fuel+1,listed,iu,a,w =>
  (Region.ready .any ops listed=[]→Q .normal a w) ∧
  ∀j∈Region.ready .any ops listed,wpOp P ops Q j (fun b6 w'=>(iu.after ops j).ok w'∧nW P ops Q fuel (listed.setIfInBounds j true) (iu.after ops j) b6 w') a w
theorem PJ:∀(fuel:Nat) (listed:Array Bool) (iu:fs) (a:Act) (w:World),nW P ops Q fuel listed iu a w→wpAny P .any ops Q fuel listed a w
 | 0,_,_,_,_,h=>h
 | fuel+1,_,_,_,_,h=>⟨h.1,fun i hi=>wpOp_mono (fun b6 w' h'=>PJ fuel _ _ b6 w' h'.2) (h.2 i hi)⟩
theorem fs.PK{p q:fs}(h:∀x∈p,x∈q)(j:Nat):∀x∈p.after ops j,x∈q.after ops j:=by
 intro x hx
 unfold fs.after at *
 rw [List.mem_filter] at *
 exact⟨h x hx.1,hx.2⟩
theorem PL:∀(fuel:Nat) (listed:Array Bool) (p q:fs) (a:Act) (w:World),(∀x∈p,x∈q)→nW P ops Q fuel listed q a w→nW P ops Q fuel listed p a w
 | 0,_,_,_,_,_,_,h=>h
 | fuel+1,_,p,q,_,_,hs,h=>⟨h.1,fun i hi=>wpOp_mono (fun b6 w' h'=>⟨fun x hx=>h'.1 x (fs.PK hs i x hx),PL fuel _ _ _ b6 w' (fs.PK hs i) h'.2⟩) (h.2 i hi)⟩
theorem fs.Im{p:fs}{j:Nat}{x:Nat×(World→Prop)}(hx:x∈p.after ops j):x∈p:=(List.mem_filter.1 hx).1
theorem Ze{i:Nat}{l3:Oper}{v:Value}{S:World→Prop}(hi:ops[i]?=some l3)(vR:∀(j:Nat) (o:Oper) cs b,ops[j]?=some o→o.op≠.select cs b)
  (mY:∀c a w,Q (.panic c) (a.put l3.dst v) w→Q (.panic c) a w) :
  ∀(fuel:Nat) (listed:Array Bool) (iu:fs) (a:Act) (w:World),
   (∀j mZ,ops[j]?=some mZ→j≠i→listed.getD j true=false→(∀e∈mZ.after,Region.binds .any e=true→e.on≠i)→l3.apart ops mZ=true) →
   i∈Region.ready .any ops listed→YieldsIf P ops S l3 v a→S w→iu.ok w →
   nW P ops Q fuel (listed.setIfInBounds i true) ((i,S) :: iu) (a.put l3.dst v) w→nW P ops Q (fuel+1) listed iu a w:=by
 intro fuel
 induction fuel with
 | zero =>
  intro listed iu a w _ hr aM dM au H
  refine⟨fun h=>(by rw [h] at hr;cases hr),fun j hj=>?_⟩
  by_cases lk:j=i
  ·subst lk;exact aM.wpOp hi dM ⟨fun x hx=>au x (fs.Im hx),H⟩
  ·have:=ready_mono hj lk
   rw [H.1] at this
   cases this
 | succ fuel ih =>
  intro listed iu a w e4 hr aM dM au H
  refine⟨fun h=>(by rw [h] at hr;cases hr),fun j hj=>?_⟩
  by_cases lk:j=i
  ·subst lk
   exact aM.wpOp hi dM ⟨fun x hx=>au x (fs.Im hx),PL _ _ _ _ _ _ (fun x hx=>List.mem_cons_of_mem _ (fs.Im hx)) H⟩
  ·have h1:=H.2 j (ready_mono hj lk)
   obtain ⟨PM,mZ,Bp,p0⟩:=mem_ready.1 hj
   have PN:∀e∈mZ.after,Region.binds .any e=true→e.on≠i:=fun e he hb heq=>by
    have h1:=p0 e he hb
    have h0:=(mem_ready.1 hr).1
    rw [heq] at h1
    rcases Nat.lt_or_ge i listed.size with h' | h'
    ·simp [h'] at h0 h1;rw [h0] at h1;cases h1
    ·simp [Array.getElem?_eq_none h'] at h1
   have Zf:waits ops j i=false:=by
    unfold waits
    rw [Bp]
    simp only
    rw [Bool.eq_false_iff]
    intro Zg
    obtain ⟨e,he,hb⟩:=Array.any_eq_true'.1 Zg
    simp only [Bool.and_eq_true] at hb
    exact PN e he hb.1 (Nat.eq_of_beq_eq_true hb.2)
   have Zh:fs.after ops j ((i,S) :: iu)=(i,S) :: iu.after ops j:=by
    unfold fs.after
    rw [List.filter_cons_of_pos (by simp [Zf])]
   rw [Zh] at h1
   have h2:=wpOp_putIf Bp (e4 j mZ Bp lk PM PN) (fun cs b=>vR i l3 cs b hi) (fun cs b=>vR j mZ cs b Bp) mY aM h1
   have Zi:∀k ok,ops[k]?=some ok→k≠i→(listed.setIfInBounds j true).getD k true=false →
     (∀e∈ok.after,Region.binds .any e=true→e.on≠i)→l3.apart ops ok=true:=fun k ok hk hM vS bP=>by
    refine e4 k ok hk hM ?_ bP
    by_cases lg:j=k
    ·subst lg;exact PM
    ·rw [getD_set_ne true lg] at vS;exact vS
   refine wpOp_mono (fun b6 w' h3=>⟨fun x hx=>h3.2.1 x (List.mem_cons_of_mem _ hx),ih (listed.setIfInBounds j true) _ b6 w' Zi (ready_mono hr (Ne.symm lk)) h3.1 (h3.2.1 _ List.mem_cons_self) (fun x hx=>h3.2.1 x (List.mem_cons_of_mem _ hx)) ?_⟩) h2
   rw [Array.setIfInBounds_comm _ _ lk]
   exact h3.2.2
end
end Go.LM
namespace Go.LM
section
variable{P:Program}{Q:Exit→Act→World→Prop}
variable{w0:World}{F0 Z0:ah}{n:cC}{s aq:an}{a b6:Act}{w w':World}{ι ba:Nat→bD}{Z Z':ah}
variable{E:Env}{o:Oper}{br : Type}{K:an→Option br}{r : br}{id:Nat}
structure cC.le(p q:cC):Prop where
 n:q.n=p.n
 pL:q.pL=p.pL
 gc:∀e,e∈p.gc→e∈q.gc
theorem cC.le.refl(n:cC):cC.le n n:=⟨rfl,rfl,fun _ h=>h⟩
theorem cC.le.trans{a b c:cC}(h:cC.le a b)(k:cC.le b c):cC.le a c:=⟨k.n.trans h.n,k.pL.trans h.pL,fun e he=>k.gc e (h.gc e he)⟩
theorem Inv.forget{d_:cC}(h:Inv w0 F0 Z0 d_ s a w ι Z)(hl:cC.le n d_):Inv w0 F0 Z0 n s a w ι Z :=
 ⟨h.ext,h.dA,h.q1,h.iw,h.fA,h.own,h.apart,h.cY,h.tmps,by rw [h.size,hl.n],by rw [← hl.pL];exact h.ghost,fun e he=>h.seen e (hl.gc e he),h.defers⟩
theorem Inv.PO(h:Inv w0 F0 Z0 n s a w ι Z){e:Seen}(he:sK w Z s ι e):Inv w0 F0 Z0 ⟨n.n,n.pL,e :: n.gc⟩ s a w ι Z :=
 ⟨h.ext,h.dA,h.q1,h.iw,h.fA,h.own,h.apart,h.cY,h.tmps,h.size,h.ghost,fun x hx=>by rcases List.mem_cons.1 hx with rfl | hx;exact he;exact h.seen x hx,h.defers⟩
theorem PQ(n:cC)(e:Seen):cC.le n ⟨n.n,n.pL,e :: n.gc⟩:=⟨rfl,rfl,fun _ h=>List.mem_cons_of_mem _ h⟩
def rn(n:cC)(dp:List (Nat×Nat))(S:World→Prop):Prop:=(∀w,S w)∨∃b i vs,(⟨dp,b,i,vs⟩:Seen)∈n.gc∧S=fun w=>b2 w b i vs
theorem rn.le{d_:cC}{dp:List (Nat×Nat)}{S:World→Prop}(h:rn n dp S)(hl:cC.le n d_):rn d_ dp S :=
 h.imp (fun h=>h) fun⟨b,i,vs,h1,h2⟩=>⟨b,i,vs,hl.gc _ h1,h2⟩
def Reads(P:Program)(w0:World)(F0 Z0:ah)(n:cC)(dp:List (Nat×Nat))(o:Oper)(a:Act)(w:World)(aq:an):Prop :=
 ∃v S d_,(∀w',S w'→(execOp a.eval o).run P w'=.ok (.value v) w')∧S w∧cT w0 F0 Z0 d_ aq (a.put o.dst v) w∧cC.le n d_∧rn d_ dp S
theorem Pure.reads{dp:List (Nat×Nat)}(h:Pure P o a w (cT w0 F0 Z0 n aq)):Reads P w0 F0 Z0 n dp o a w aq:=by
 obtain ⟨v,h1,h2⟩:=h
 exact⟨v,fun _=>True,n,fun w' _=>h1 w',trivial,h2,.refl n,.inl fun _=>trivial⟩
theorem Zj{t:Nat}{x:Operand}(bW:gE P E)(h:Inv w0 F0 Z0 n s a w ι Z)(ag:∀k,o.dst=some k→k<n)(ho:o.op=.load t x)(hk:cP E id o s K=some r) :
  ∃aq,K aq=some r∧Reads P w0 F0 Z0 n (iq s o) o a w aq:=by
 unfold cP at hk
 rw [ho] at hk
 simp only at hk
 have hx:=eR h x
 have hrun:∀ {T:ad} {b i:Nat} {vs:List Value} {w':World},E.ty t=some T→a.eval x=.pointer (some (at_ b i))→b2 w' b i vs→vs.length=T.size →
   (execOp a.eval o).run P w'=.ok (.value (dB T vs)) w':=by
  intro T b i vs w' ht he hc hl
  unfold execOp;rw [ho]
  refine fF ?_
  simp only [Instr.loadAt,Instr.sureAddr,he,run_bind,run_pure,G8 (bW.ty t T ht) hc hl]
 cases ht:E.ty t with
 | none=>rw [ht] at hk;simp at hk
 | some T =>
  rw [ht] at hk
  cases cH:bS s x with
  | ptr p =>
   have mG:iq s o=[(p.id,j5 s p.id)]:=by unfold iq;rw [ho];simp only [cH]
   rw [cH] at hk hx
   simp only at hk
   cases c2:(lG s T.size p).bind (jD T) with
   | none=>rw [c2] at hk;simp at hk
   | some v =>
    rw [c2] at hk
    obtain ⟨cs,h1,h2⟩:=bb c2
    simp only [aO] at hx
    obtain ⟨_,A,he,au⟩:=hx
    obtain ⟨b,i,vs,rfl,hc,cl,hl,b8,hF⟩:=OZ h h1 au
    have Io:sK w Z s ι ⟨iq s o,b,i,vs⟩:=by
     rw [mG]
     refine⟨fun d ag=>?_,fun _=>⟨cl,fun j hj=>.inr ⟨_,List.mem_singleton.2 rfl,hF j (by simp only at hj;omega)⟩⟩⟩
     rw [List.mem_singleton] at ag
     subst ag
     exact⟨fun hn=>by rw [hn] at b8;exact b8,.inr (Nat.le_refl _)⟩
    exact⟨_,hk,_,fun w'=>b2 w' b i vs,_,fun w' hw=>hrun ht he hw hl,cl,⟨ι,Z,(h.PO Io).dst (oH h2 hc) ag⟩,PQ n ⟨iq s o,_,_,_⟩,.inr ⟨b,i,vs,List.mem_cons_self,rfl⟩⟩
  | dd dp cs off =>
   have mG:iq s o=dp:=by unfold iq;rw [ho];simp only [cH]
   rw [cH] at hk hx
   simp only at hk
   cases c2:(takeN off T.size cs).bind (jD T) with
   | none=>rw [c2] at hk;simp at hk
   | some v =>
    rw [c2] at hk
    simp only at hk
    cases dP:alive s dp
    ·rw [dP] at hk;simp at hk
    rw [dP] at hk
    obtain ⟨ds,h1,h2⟩:=bb c2
    obtain ⟨h3,rfl⟩:=oE h1
    simp only [aO] at hx
    obtain ⟨b9,b,i,vs,he,hx⟩:=hx
    obtain ⟨hc,cl,hz⟩:=hx dP
    have hlen:=hc.len
    have PR:b2 w b (i+off) (part vs off T.size):=cl.part off T.size
    have fG:(part vs off T.size).length=T.size:=by simp [part];omega
    have Io:sK w Z s ι ⟨iq s o,b,i+off,part vs off T.size⟩:=by
     rw [mG]
     refine⟨b9,fun _=>⟨PR,fun j hj=>?_⟩⟩
     simp only at hj
     rw [fG] at hj
     have:=hz (off+j) (by omega)
     rwa [← Nat.add_assoc] at this
    exact⟨_,hk,_,fun w'=>b2 w' b (i+off) (part vs off T.size),_,fun w' hw=>hrun ht he hw fG,PR,⟨ι,Z,(h.PO Io).dst (oH h2 ((hc.drop _).take _)) ag⟩,PQ n ⟨iq s o,_,_,_⟩,.inr ⟨b,i+off,part vs off T.size,List.mem_cons_self,rfl⟩⟩
  | _=>rw [cH] at hk;simp at hk
theorem Zk(bL:jr P E)(h:Inv w0 F0 Z0 n s a w ι Z)(ag:∀k,o.dst=some k→k<n)(c2:sG E o=true)(hk:cP E id o s K=some r) :
  ∃aq,K aq=some r∧Reads P w0 F0 Z0 n (iq s o) o a w aq:=by
 have e5:(∃aq,K aq=some r∧Pure P o a w (cT w0 F0 Z0 n aq))→∃aq,K aq=some r∧Reads P w0 F0 Z0 n (iq s o) o a w aq:=fun⟨aq,h1,h2⟩=>⟨aq,h1,h2.reads⟩
 unfold sG at c2
 cases ho:o.op with
 | move x=>exact e5 (AD h ag (.inl ho) hk)
 | assign x=>exact e5 (AD h ag (.inr ho) hk)
 | pick c x y=>exact e5 (N4 h ag ho hk)
 | load t x=>exact Zj bL.ty h ag ho hk
 | nilCheck x=>exact e5 (N6 h ag ho hk)
 | binOp op t x y AI=>exact e5 (On bL.ty bL.eq h ag ho hk)
 | unOp op t x=>exact e5 (Oj h ag ho hk)
 | convert st fX x =>
  rw [ho] at c2
  simp only at c2
  cases h1:E.ty st with
  | none=>rw [h1] at c2;simp at c2
  | some S =>
   cases h2:E.ty fX with
   | none=>rw [h1,h2] at c2;cases S <;> simp at c2
   | some T =>
    rw [h1,h2] at c2
    cases S <;> cases T <;> simp only at c2 <;> first | (cases c2;done) | exact e5 (XH bL.ty h ag ho h1 h2 hk)
 | build t ps=>exact e5 (OG bL.ty h ag ho hk)
 | makeFunc f first kS =>
  cases f with
  | func f=>exact e5 (N' h ag ho hk)
  | _=>unfold cP at hk;rw [ho] at hk;simp at hk
 | slice t x lo hi gA=>exact e5 (Of bL.ty h ag ho hk)
 | fieldAddr t x f=>exact e5 (N8 bL.ty h ag ho hk)
 | field t x f=>exact e5 (N9 bL.ty h ag ho hk)
 | indexAddr t x i=>exact e5 (Oa bL.ty h ag ho hk)
 | index t x i=>exact e5 (Ob bL.ty h ag ho hk)
 | extract x i=>exact e5 (N_ h ag ho hk)
 | call c =>
  rw [ho] at c2
  simp only at c2
  cases hc:c.callee with
  | builtin b =>
   rw [hc] at c2
   by_cases hb:b=.append
   ·subst hb;simp at c2
   ·by_cases hb2:b=.clear
    ·subst hb2;simp at c2
    ·exact e5 (OA bL.ty h ag ho hc hb hb2 hk)
  | value f=>rw [hc] at c2;simp at c2
  | invoke x m=>rw [hc] at c2;simp at c2
 | _=>rw [ho] at c2;simp at c2
theorem Zl{d:Nat}{c:a6}(hst:s.t d=c)(x:Operand):bS (s.set d c) x=bS s x:=by
 cases x with
 | tmp t =>
  show bQ s.t d c t=s.t t
  by_cases ag:d=t
  ·subst ag;rw [ct,hst]
  ·rw [cO ag]
 | _=>rfl
theorem PS{d:Nat}{c:a6}(hst:s.t d=c):iq (s.set d c) o=iq s o:=by
 unfold iq
 cases ho:o.op <;> simp only
 rename_i t x
 rw [Zl hst]
 rfl
theorem Zm{ops:Array Oper}(bL:jr P E)(hn:E.n=n)(c2:sG E o=true)(h:Inv w0 F0 Z0 n s a w ι Z)(hk:sE E id ops.toList o s K=some r) :
  ∃aq v S d_,K aq=some r∧YieldsIf P ops S o v a∧S w∧cT w0 F0 Z0 d_ aq (a.put o.dst v) w∧cC.le n d_∧rn d_ (iq s o) S:=by
 unfold sE at hk
 cases tc:xt E o
 ·rw [tc] at hk;cases hk
 rw [tc] at hk
 simp only [cond_true] at hk
 have ag:=PF hn tc
 have ll:∀ {s1:an},Region.wanted o (yielded ops a.tmps)=true→iq s1 o=iq s o→Inv w0 F0 Z0 n s1 a w ι Z→cP E id o s1 K=some r→∃aq v S d_,K aq=some r∧YieldsIf P ops S o v a∧S w∧cT w0 F0 Z0 d_ aq (a.put o.dst v) w∧cC.le n d_∧rn d_ (iq s o) S:=by
  intro s1 hw he h1 hk1
  obtain ⟨aq,h2,v,S,d_,h3,h4,aZ,bd,bC⟩:=Zk bL h1 ag c2 hk1
  exact⟨aq,v,S,d_,h2,.inl ⟨hw,h3⟩,h4,aZ,bd,he ▸ bC⟩
 have bP:∀ {s1:an},Region.wanted o (yielded ops a.tmps)=false→Inv w0 F0 Z0 n s1 a w ι Z→K (s1.dst o.dst .gone)=some r→∃aq v S d_,K aq=some r∧YieldsIf P ops S o v a∧S w∧cT w0 F0 Z0 d_ aq (a.put o.dst v) w∧cC.le n d_∧rn d_ (iq s o) S:=fun hw h1 hk1 =>
  ⟨_,undef,fun _=>True,n,hk1,.inr ⟨hw,rfl⟩,trivial,PH h1 ag,.refl n,.inl fun _=>trivial⟩
 unfold guardOf at hk
 cases az:o.guard with
 | none =>
  rw [az] at hk
  simp only at hk
  exact ll (by simp [Region.wanted,az]) rfl h hk
 | some Ij =>
  obtain ⟨j,wt⟩:=Ij
  rw [az] at hk
  simp only at hk
  cases hj:(ops.toList[j]?).bind (·.dst) with
  | none=>rw [hj] at hk;simp at hk
  | some d =>
   rw [hj] at hk
   simp only at hk
   cases hst:s.t d with
   | aS c =>
    cases c with
    | bool b =>
     rw [hst] at hk
     simp only at hk
     obtain ⟨h1,h2⟩:=h.PG hst
     have aM:yielded ops a.tmps j=some b:=by
      unfold yielded
      rw [Array.getElem?_toList] at hj
      rw [hj]
      simp only [av]
      have cw:d<a.tmps.size:=by
       rcases Nat.lt_or_ge d a.tmps.size with h | h
       ·exact h
       ·rw [Array.getD_eq_getD_getElem?,Array.getElem?_eq_none h] at h2
        simp [undef] at h2
      rw [Array.getD_eq_getD_getElem?,Array.getElem?_eq_getElem cw] at h2
      rw [Array.getElem?_eq_getElem cw]
      simp only [Option.getD_some] at h2
      rw [h2]
     have hw:Region.wanted o (yielded ops a.tmps)=(b==wt):=by
      simp only [Region.wanted,az,aM]
      cases b <;> cases wt <;> rfl
     cases b <;> cases wt <;> simp only [cond_true,cond_false] at hk
     ·exact ll hw (PS hst) h1 hk
     ·exact bP hw h1 hk
     ·exact bP hw h1 hk
     ·exact ll hw (PS hst) h1 hk
    | _=>rw [hst] at hk;simp at hk
   | gone =>
    rw [hst] at hk
    simp only at hk
    have h2:=h.tmps d
    rw [hst] at h2
    simp only [aO] at h2
    have aM:yielded ops a.tmps j=none:=by
     unfold yielded
     rw [Array.getElem?_toList] at hj
     rw [hj]
     simp only [av]
     rw [Array.getD_eq_getD_getElem?] at h2
     cases ia:a.tmps[d]? with
     | none=>rfl
     | some v=>rw [ia] at h2;simp only [Option.getD_some] at h2;subst h2;rfl
    have hw:Region.wanted o (yielded ops a.tmps)=false:=by
     simp only [Region.wanted,az,aM]
     cases wt <;> rfl
    exact bP hw h hk
   | _=>rw [hst] at hk;simp at hk
theorem Zn{a b:Option br}(h:both a b=some r):a=some r∧b=some r:=by
 unfold both at h
 split at h
 ·rename_i he;subst he;exact⟨h,h⟩
 ·cases h
theorem PT:∀ {l:List (Option br)},Av l=some r→∀x∈l,x=some r
 | [x],h,y,aM=>by rw [List.mem_singleton] at aM;rw [aM];exact h
 | x :: z :: l,h,y,aM=>by
  simp only [Av] at h
  obtain ⟨h1,h2⟩:=Zn h
  rcases List.mem_cons.1 aM with rfl | aM
  ·exact h1
  ·exact PT (l:=z :: l) h2 y aM
def vT(n:cC)(p:List (Nat×List (Nat×Nat)))(q:fs):Prop:=∀x∈q,∃dp,(x.1,dp)∈p∧rn n dp x.2
theorem vT.le{d_:cC}{p:List (Nat×List (Nat×Nat))}{q:fs}(h:vT n p q)(hl:cC.le n d_):vT d_ p q :=
 fun x hx=>let ⟨dp,h1,h2⟩:=h x hx;⟨dp,h1,h2.le hl⟩
theorem Ip:∀ {p:List (Nat×List (Nat×Nat))},sH s p=true→∀x∈p,alive s x.2=true
 | [],_,_,hx=>by simp at hx
 | y :: p,h,x,hx=>by
  unfold sH at h
  cases ha:alive s y.2
  ·rw [ha] at h;cases h
  ·rw [ha] at h
   rcases List.mem_cons.1 hx with rfl | hx
   ·exact ha
   ·exact Ip h x hx
theorem Zo{bB:Nat}{ops:Array Oper}(bL:jr P E){m:Nat}{listed:Array Bool}{p:List (Nat×List (Nat×Nat))}{q:fs}{d_:cC}{rs:List Nat}(hn:E.n=d_)(hle:cC.le n d_)(hr:Region.ready .any ops listed=rs)
  (h:Inv w0 F0 Z0 d_ s a w ι Z) (au:vT d_ p q) (hk:GJ E bB ops listed p rs s K=some r):nW P ops (fun e a w=>e=.normal∧gI w0 F0 Z0 n K r a w) (m+3+1) listed q a w:=by
 have Bq:∀ {l:List Nat} {i:Nat},one l=some i→l=[i]:=by
  intro l i h
  match l,h with
  | [j],h=>rw [aU (show some j=some i from h)]
 unfold GJ at hk
 obtain ⟨i,h0,hk⟩:=bb hk
 obtain ⟨i1,h1,hk⟩:=bb hk
 obtain ⟨i2,h2,hk⟩:=bb hk
 obtain ⟨i3,h3,hk⟩:=bb hk
 have h0:=hr.trans (Bq h0)
 have h1:=Bq h1
 have h2:=Bq h2
 have h3:=Bq h3
 generalize hl1:listed.setIfInBounds i true=dO at hk h1 h2 h3
 generalize dN:dO.setIfInBounds i1 true=eD at hk h2 h3
 generalize Il:eD.setIfInBounds i2 true=nM at hk h3
 generalize Zp:nM.setIfInBounds i3 true=oG at hk
 cases hb:((Region.ready .any ops oG).isEmpty&&((p.filter fun p => !waits ops i p.1).filter fun p => !waits ops i1 p.1).isEmpty)
 ·rw [hb] at hk;cases hk
 rw [hb] at hk
 simp only [cond_true] at hk
 simp only [Bool.and_eq_true,List.isEmpty_iff] at hb
 obtain ⟨h4,Zq⟩:=hb
 obtain ⟨o,ho,hk⟩:=bb hk
 obtain ⟨dz,l0,hk⟩:=bb hk
 obtain ⟨eA,jI,hk⟩:=bb hk
 obtain ⟨eL,p1,hk⟩:=bb hk
 obtain ⟨g0,g1,g2,g3,lN⟩:=Za (Q:=fun e a w=>e=.normal∧gI w0 F0 Z0 n K r a w) bL hn h hk
 have step:∀ {fuel j:Nat} {mZ:Oper} {l:Array Bool} {q:fs} {a:Act} {w:World},Region.ready .any ops l=[j]→ops[j]?=some mZ→mZ.guard=none →
   mZ.wp P a w (fun b6 w'=>(q.after ops j).ok w'∧nW P ops (fun e a w=>e=.normal∧gI w0 F0 Z0 n K r a w) fuel (l.setIfInBounds j true) (q.after ops j) b6 w') (fun e a w=>e=.normal∧gI w0 F0 Z0 n K r a w) →
   nW P ops (fun e a w=>e=.normal∧gI w0 F0 Z0 n K r a w) (fuel+1) l q a w:=by
  intro fuel j mZ l q a w hr hj az hw
  refine⟨fun h=>(by rw [hr] at h;cases h),fun k hk=>?_⟩
  rw [hr] at hk
  obtain rfl:=List.mem_singleton.1 hk
  unfold wpOp
  simp only [hj]
  rw [if_pos (by simp [Region.wanted,az])]
  exact .inl hw
 have hI:fs.after ops i1 (fs.after ops i q)=[]:=by
  refine List.eq_nil_iff_forall_not_mem.2 fun x hx=>?_
  obtain ⟨hx,hx1⟩:=List.mem_filter.1 hx
  obtain ⟨hx,hx0⟩:=List.mem_filter.1 hx
  obtain ⟨dp,g1,_⟩:=au x hx
  have:(x.1,dp)∈((p.filter fun p => !waits ops i p.1).filter fun p => !waits ops i1 p.1):=List.mem_filter.2 ⟨List.mem_filter.2 ⟨g1,hx0⟩,hx1⟩
  rw [Zq] at this
  cases this
 have nil:∀(j:Nat),fs.after ops j []=[]:=fun _=>rfl
 refine step h0 ho g0 (Oper.wp_mono ?_ lN)
 rintro a1 nV ⟨⟨nG,p3,ba,Z',k2⟩,lN⟩
 refine⟨?_,?_⟩
 ·intro x hx
  obtain ⟨hx1,hx2⟩:=List.mem_filter.1 hx
  obtain ⟨dp,f1,f2⟩:=au x hx1
  rcases f2 with f2 | ⟨b,j,vs,f2,f3⟩
  ·exact f2 nV
  ·rw [f3]
   exact((k2.seen _ f2).2 (Ip p3 _ (List.mem_filter.2 ⟨f1,hx2⟩))).1
 rw [hl1]
 refine step h1 l0 g1 (Oper.wp_mono ?_ lN)
 intro a2 b7 lN
 rw [hI,dN]
 refine⟨fun x hx=>(by cases hx),step h2 jI g2 (Oper.wp_mono ?_ lN)⟩
 intro a3 oW lN
 rw [nil,Il]
 refine⟨fun x hx=>(by cases hx),step h3 p1 g3 (Oper.wp_mono ?_ lN)⟩
 rintro a4 Zr ⟨aq,e1,Pp,Zs,e2⟩
 rw [nil,Zp]
 refine⟨fun x hx=>(by cases hx),?_⟩
 have hfin:Exit.normal=.normal∧gI w0 F0 Z0 n K r a4 Zr:=⟨rfl,aq,e1,Pp,Zs,e2.forget hle⟩
 cases m with
 | zero=>exact⟨h4,hfin⟩
 | succ m=>exact⟨fun _=>hfin,fun j hj=>(by rw [h4] at hj;cases hj)⟩
theorem Iq{bB:Nat}{ops:Array Oper}(bL:jr P E)(hs:Region.noSelect ops=true):∀(m:Nat) (listed:Array Bool) (p:List (Nat×List (Nat×Nat))) (q:fs) (d_:cC) (s:an) (a:Act) (w:World),
  E.n=d_→cC.le n d_→sI E bB ops m listed p s K=some r→cT w0 F0 Z0 d_ s a w→vT d_ p q→q.ok w →
  nW P ops (fun e a w=>e=.normal∧gI w0 F0 Z0 n K r a w) m listed q a w
 | 0,listed,p,q,d_,s,a,w,hn,hle,hk,⟨ι,Z,h⟩,au,hq=>by
  unfold sI at hk
  cases hr:Region.ready .any ops listed with
  | nil=>rw [hr] at hk;exact⟨hr,rfl,s,hk,ι,Z,h.forget hle⟩
  | cons=>rw [hr] at hk;cases hk
 | m+1,listed,p,q,d_,s,a,w,hn,hle,hk,⟨ι,Z,h⟩,au,hq=>by
  unfold sI at hk
  cases hr:Region.ready .any ops listed with
  | nil =>
   rw [hr] at hk
   exact⟨fun _=>⟨rfl,s,hk,ι,Z,h.forget hle⟩,fun j hj=>by rw [hr] at hj;simp at hj⟩
  | cons i0 PU =>
   rw [hr] at hk
   simp only at hk
   cases hf:(i0 :: PU).find? fun i=>GG E ops i&&Region.free .any ops listed i with
   | some i =>
    rw [hf] at hk
    simp only at hk
    have h3:=List.find?_some hf
    simp only [Bool.and_eq_true] at h3
    cases ho:ops[i]? with
    | none=>rw [ho] at hk;cases hk
    | some o =>
     rw [ho] at hk
     simp only at hk
     have c2:sG E o=true:=by have:=h3.1;unfold GG at this;rw [ho] at this;exact this
     obtain ⟨aq,v,S,lJ,h1,h2,g3,h4,aZ,bd⟩:=Zm bL hn c2 h hk
     refine Ze ho (Region.noSelect_spec hs) (fun c a w hh=>by simp at hh) m listed q a w (Region.free_spec ho h3.2) (by rw [hr];exact List.mem_of_find?_eq_some hf) h2 g3 hq ?_
     refine Iq bL hs m _ _ _ lJ aq _ w (hn.trans aZ.n.symm) (hle.trans aZ) h1 h4 ?_ ?_
     ·intro x hx
      rcases List.mem_cons.1 hx with rfl | hx
      ·exact⟨_,List.mem_cons_self,bd⟩
      ·obtain ⟨dp,g1,g2⟩:=au x hx
       exact⟨dp,List.mem_cons_of_mem _ g1,g2.le aZ⟩
     ·intro x hx
      rcases List.mem_cons.1 hx with rfl | hx
      ·exact g3
      ·exact hq x hx
   | none =>
    rw [hf] at hk
    simp only at hk
    cases hA:(NJ s ops (i0 :: PU)&&Nat.ble 3 m)
    case true =>
     rw [hA] at hk
     simp only [cond_true] at hk
     simp only [Bool.and_eq_true] at hA
     obtain ⟨m',rfl⟩:∃m',m=m'+3:=⟨m-3,by have:=Nat.le_of_ble_eq_true hA.2;omega⟩
     exact Zo bL hn hle hr h au hk
    rw [hA] at hk
    simp only [cond_false] at hk
    refine⟨fun h0=>(by rw [hr] at h0;cases h0),fun j hj=>?_⟩
    rw [hr] at hj
    have hj':=PT hk _ (List.mem_map.2 ⟨j,hj,rfl⟩)
    cases ho:ops[j]? with
    | none=>rw [ho] at hj';cases hj'
    | some o =>
     rw [ho] at hj'
     simp only at hj'
     cases c2:sG E o
     case true=>rw [c2] at hj';cases hj'
     rw [c2] at hj'
     simp only [cond_false] at hj'
     have nU:=PI (Q:=fun e a w=>e=.normal∧gI w0 F0 Z0 n K r a w) bL hn h hj'
     have p5:∀b6 w',gI w0 F0 Z0 d_ (fun aq=>cond (sH aq (p.filter fun p => !waits ops j p.1)) (sI E bB ops m (listed.setIfInBounds j true) (p.filter fun p => !waits ops j p.1) aq K) none) r b6 w' →
       (q.after ops j).ok w'∧nW P ops (fun e a w=>e=.normal∧gI w0 F0 Z0 n K r a w) m (listed.setIfInBounds j true) (q.after ops j) b6 w':=by
      rintro b6 w' ⟨aq,k1,ba,Z',k2⟩
      dsimp only at k1
      cases dP:sH aq (p.filter fun p => !waits ops j p.1)
      ·rw [dP] at k1;cases k1
      rw [dP] at k1
      simp only [cond_true] at k1
      have Br:vT d_ (p.filter fun p => !waits ops j p.1) (q.after ops j):=by
       intro x hx
       obtain ⟨hx1,hx2⟩:=List.mem_filter.1 hx
       obtain ⟨dp,g1,g2⟩:=au x hx1
       exact⟨dp,List.mem_filter.2 ⟨g1,hx2⟩,g2⟩
      have b9:(q.after ops j).ok w':=by
       intro x hx
       obtain ⟨dp,g1,g2⟩:=Br x hx
       rcases g2 with g2 | ⟨b,i,vs,g2,g3⟩
       ·exact g2 w'
       ·rw [g3]
        exact((k2.seen _ g2).2 (Ip dP _ g1)).1
      exact⟨b9,Iq bL hs m _ _ _ d_ aq b6 w' hn hle k1 ⟨ba,Z',k2⟩ Br b9⟩
     unfold wpOp
     simp only [ho]
     split
     ·rename_i hw
      rw [if_pos hw] at nU
      exact .inl (Oper.wp_mono p5 nU)
     ·rename_i hw
      rw [if_neg hw] at nU
      exact p5 _ _ nU
theorem Zt{bB:Nat}{ops:Array Oper}(bL:jr P E)(hn:E.n=n)(hk:GK E bB ops s K=some r)(hs:cT w0 F0 Z0 n s a w)(b:Frame)(k:List Item)(cs:List Frame) :
  ∃b6 w',gI w0 F0 Z0 n K r b6 w'∧Steps P (lone (b.at a (.code (.region bB ops true) :: k)) cs w) (lone (b.at b6 k) cs w'):=by
 unfold GK at hk
 cases vR:Region.noSelect ops
 ·rw [vR] at hk;cases hk
 rw [vR] at hk
 simp only [cond_true] at hk
 obtain ⟨ι,Z,h⟩:=hs
 have h1:=Iq (n:=n) bL vR ops.size _ [] [] n s a { w with drawn:=w.drawn+1 } hn (.refl n) hk ⟨ι,Z,h.drew _⟩ (fun x hx=>by simp at hx) (fun x hx=>by simp at hx)
 obtain ⟨e,b6,w',⟨rfl,hl⟩,harr⟩:=(wp_region_any (id:=bB) bL.mix (PJ _ _ _ _ _ h1)) b k cs
 exact⟨b6,w',hl,harr⟩
end
end Go.LM
namespace Go.LM
section
variable{P:Program}{w0:World}{F0 Z0:ah}{n:cC}{E:Env}{br : Type}{r : br}
def ln:Code→List Item→List (Nat×List Item)
 | .region bB ops hC,k=>[(bB,.code (.region bB ops hC) :: k)]
 | .seq a b,k=>ln a (.code b :: k)++ln b k
 | .cond _ x y,k=>ln x k++ln y k
 | .block id c,k=>ln c (.inBlock id :: k)
 | .loop c,k=>ln c (.inLoop c :: k)
 | _,_=>[]
def gw:List Item→List (Nat×List Item)
 | []=>[]
 | .code c :: k=>ln c k++gw k
 | .inLoop c :: k=>ln c (.inLoop c :: k)++gw k
 | _ :: k=>gw k
theorem PV{id:Nat} : ∀ {k k':List Item},exitTo id k=some k'→∀p,p∈gw k'→p∈gw k
 | [],_,h,_,_=>by simp [exitTo] at h
 | x :: k,k',h,p,au=>by
  have key:(∃i,x=.inBlock i∧k'=k)∨exitTo id k=some k':=by
   cases x with
   | inBlock i =>
    simp only [exitTo] at h
    by_cases hi:(i==id)=true
    ·rw [if_pos hi] at h;exact .inl ⟨i,rfl,(aU h).symm⟩
    ·rw [if_neg hi] at h;exact .inr h
   | _=>exact .inr h
  rcases key with⟨i,rfl,rfl⟩ | hk
  ·exact au
  ·have:=PV hk p au
   cases x <;> simp only [gw] <;> first | exact this | exact List.mem_append_right _ this
def PW(H:Hand br)(cuts:Nat→Bool)(r : br)(todo:List Item)(s:an):Prop :=
 (∃bB ops hC k,todo=.code (.region bB ops hC) :: k∧cuts bB=true∧H.cut bB todo s=some r)∨((todo=[]∨∃k,todo=.code .ret :: k)∧H.fin s=some r)
theorem PX{cuts:Nat→Bool}{H:Hand br}(bL:jr P E)(hn:E.n=n):∀(fuel:Nat) (first:Bool) (todo:List Item) (s:an) (a:Act) (w:World),
  jF E cuts H fuel first todo s=some r→cT w0 F0 Z0 n s a w→∀(b:Frame) (cs:List Frame),
  ∃oX aq b6 w',cT w0 F0 Z0 n aq b6 w'∧PW H cuts r oX aq∧(∀p,p∈gw oX→p∈gw todo)∧Steps P (lone (b.at a todo) cs w) (lone (b.at b6 oX) cs w')
 | 0,_,_,_,_,_,hk,_=>by simp [jF] at hk
 | fuel+1,first,todo,s,a,w,hk,hs=>by
  intro b cs
  have ih:=fun first todo s a w hk hs=>PX (H:=H) (cuts:=cuts) bL hn fuel first todo s a w hk hs b cs
  have one:∀ {todo1:List Item} {first:Bool},(∀p,p∈gw todo1→p∈gw todo)→step P (lone (b.at a todo) cs w)=.next (lone (b.at a todo1) cs w)→jF E cuts H fuel first todo1 s=some r →
    ∃oX aq b6 w',cT w0 F0 Z0 n aq b6 w'∧PW H cuts r oX aq∧(∀p,p∈gw oX→p∈gw todo)∧Steps P (lone (b.at a todo) cs w) (lone (b.at b6 oX) cs w'):=by
   intro todo1 first hcs hst hk1
   obtain ⟨dk,aq,b6,w',h1,h2,h3,h4⟩:=ih first todo1 s a w hk1 hs
   exact⟨dk,aq,b6,w',h1,h2,fun p au=>hcs p (h3 p au),.head hst h4⟩
  unfold jF at hk
  match todo,hk with
  | [],hk=>exact⟨[],s,a,w,hs,.inr ⟨.inl rfl,hk⟩,fun _ h=>h,.refl _ _⟩
  | .inBlock _ :: k,hk=>exact one (todo1:=k) (fun _ h=>h) step_inBlock hk
  | .inLoop c :: k,hk=>exact one (fun p au=>by simp only [gw,List.mem_append] at au ⊢;exact au.elim .inl fun h=>h) step_inLoop hk
  | .code .ret :: k,hk=>exact⟨_,s,a,w,hs,.inr ⟨.inr ⟨k,rfl⟩,hk⟩,fun _ h=>h,.refl _ _⟩
  | .code .skip :: k,hk=>exact one (todo1:=k) (fun _ h=>h) step_skip hk
  | .code (.seq x y) :: k,hk=>exact one (fun p au=>by simp only [gw,ln,List.mem_append] at au ⊢;exact or_assoc.2 au) step_seq hk
  | .code (.block id c) :: k,hk=>exact one (fun p au=>by simpa only [gw,ln] using au) step_block hk
  | .code (.loop c) :: k,hk=>exact one (fun p au=>by simp only [gw,ln,List.mem_append] at au ⊢;exact au.elim .inl fun h=>h) step_loop hk
  | .code (.exit id) :: k,hk =>
   simp only at hk
   cases he:exitTo id k with
   | none=>rw [he] at hk;simp at hk
   | some k'=>rw [he] at hk;exact one (PV he) (step_exit he) hk
  | .code (.cond c x y) :: k,hk =>
   simp only at hk
   obtain ⟨ι,Z,h⟩:=hs
   have hc:=eR h c
   cases hcv:bS s c with
   | aS jG =>
    cases jG with
    | bool t =>
     rw [hcv] at hk hc
     simp only [aO,cf] at hc
     have hst:=step_cond (P:=P) (b:=b) (a:=a) (k:=k) (cs:=cs) (w:=w) (x:=x) (y:=y) hc
     cases t with
     | true=>exact one (fun p au=>by simp only [gw,ln,List.mem_append] at au ⊢;exact au.elim (fun h=>.inl (.inl h)) .inr) hst hk
     | false=>exact one (fun p au=>by simp only [gw,ln,List.mem_append] at au ⊢;exact au.elim (fun h=>.inl (.inr h)) .inr) hst hk
    | _=>rw [hcv] at hk;simp at hk
   | _=>rw [hcv] at hk;simp at hk
  | .code (.region bB ops hC) :: k,hk =>
   simp only at hk
   cases iA:(cuts bB && !first)
   ·rw [iA] at hk
    simp only [cond_false] at hk
    have Zu:∃b6 w',gI w0 F0 Z0 n (fun aq=>jF E cuts H fuel false k aq) r b6 w'∧Steps P (lone (b.at a (.code (.region bB ops hC) :: k)) cs w) (lone (b.at b6 k) cs w'):=by
     cases hC with
     | false=>exact Zd bL hn hk hs b k cs
     | true=>exact Zt bL hn hk hs b k cs
    obtain ⟨a1,nV,⟨s1,h1,h2⟩,hst⟩:=Zu
    obtain ⟨dk,aq,b6,w',c4,eC,hY,h5⟩:=ih false k s1 a1 nV h1 h2
    exact⟨dk,aq,b6,w',c4,eC,fun p au=>by simp only [gw,List.mem_append];exact .inr (hY p au),hst.trans h5⟩
   ·rw [iA] at hk
    simp only [cond_true] at hk
    simp only [Bool.and_eq_true] at iA
    exact⟨_,s,a,w,hs,.inl ⟨bB,ops,hC,k,rfl,iA.1,hk⟩,fun _ h=>h,.refl _ _⟩
  | .code (.goto _) :: _,hk | .code (.label _) :: _,hk | .code (.scope _) :: _,hk | .inRegion _ _ :: _,hk | .inScope _ :: _,hk=>simp at hk
end
end Go.LM
namespace Go.LM
def kA(key:Nat):(ps:List bw)→(bw.ins ps).D→Nat→an→Option (List a6×an×Nat)
 | [],_,j,s=>some ([],s,j)
 | .fn _ _ :: ps,x,j,s=>(kA key ps x j s).bind fun q=>some (.aC :: q.1,q.2)
 | .val t m :: ps,x,j,s=>(t.gR m [] x.1 s j).bind fun r=>(jD t r.1).bind fun v=>(kA key ps x.2 r.2.2 r.2.1).bind fun q=>some (v :: q.1,q.2)
 | .gQ t :: ps,x,j,s=>(t.gR .R [] x.1 s j).bind fun r=>(jD t r.1).bind fun v=>(kA key ps x.2 r.2.2 r.2.1).bind fun q=>some (v :: q.1,q.2)
 | .gP t m :: ps,x,j,s=>(t.gR m [] x.1 s j).bind fun r=>(jD t r.1).bind fun v=>(kA key ps x.2 r.2.2 r.2.1).bind fun q=>some (v :: q.1,q.2)
 | .ref t :: ps,x,j,s=>(kA key ps x.2 j s).bind fun q=>some (.dd [] (t.cells [] none x.1) 0 :: q.1,q.2)
 | .mut t m _ :: ps,x,j,s=>(t.gR m [] x.1 s j).bind fun r=>(mkObj r.2.1 r.2.2 (.var 0 r.1)).bind fun s1=>(kA key ps x.2 (r.2.2+1) s1).bind fun q=>some (.ptr ⟨r.2.2,none,0⟩ :: q.1,q.2)
section
variable{P:Program}{w0:World}{F0 Z0:ah}{n:cC}{s aq:an}{a b6:Act}{w w':World}{ι ba:Nat→bD}{Z Z':ah}
theorem Inv.start{F:ah}(hZ:∀b o,Z b o→b<w.heap.size){m:Nat}(ha:a.tmps.size=m)(ag:a.defers=[]):Inv w F Z ⟨m,[],[]⟩ ⟨fun _=>.aC,fun _=>.none,[]⟩ a w ι Z :=
 ⟨Ext.refl _ _,fun _ _ h=>.inl h,fun _ _ h=>h,hZ,fun _=>trivial,fun _ h=>h.elim,fun _ _ h=>h.elim,fun _ h=>h.elim,fun _=>by simp only [aO],ha,by simp only [aX],fun _ h=>by simp at h,ag⟩
def Zv(w0:World)(F0 Z0:ah)(n:cC)(s:an)(a:Act)(w:World)(ι : Nat→bD)(Z:ah)(us:List Value)(F:ah)(q:List a6×an×Nat):Prop :=
 ∃ ba,Inv w0 F0 Z0 n q.2.1 a w ba Z∧gr false w Z s ι w Z q.2.1 ba (fun _ _=>True)∧aX w Z q.2.1 ba q.1 us∧∀X,bF w0 F0 s w ι Z X→ah.apart X F→bF w0 F0 q.2.1 w ba Z X
theorem Zw:gr false w Z s ι w Z s ι (fun _ _=>True) :=
 ⟨fun _ _ h=>h,fun _ _ h=>h,fun _ _ h=>h,fun _ _ _ h=>⟨h,rfl⟩,fun h=>by simp at h,b4.refl _ _,b4.refl _ _,fun _ _ h=>h,fun _ _ _ h=>h⟩
theorem nX:Z.or (c9 ι [])=Z:=by
 funext b o
 apply propext
 constructor
 ·rintro (h | ⟨d,ag,_⟩)
  ·exact h
  ·simp at ag
 ·exact .inl
theorem td{key:Nat} : ∀(ps:List bw) (x:(bw.ins ps).D) (us:List Value) (j:Nat) (s:an) (ι : Nat→bD) (F:ah) (q:List a6×an×Nat),kA key ps x j s=some q→Inv w0 F0 Z0 n s a w ι Z →
  gf w Z key ps x us F→bF w0 F0 s w ι Z F→Zv w0 F0 Z0 n s a w ι Z us F q
 | [],x,us,j,s,ι,F,q,he,h,hA,hF=>by
  simp only [kA,Option.some.injEq] at he
  subst he
  exact⟨ι,h,Zw,hA,fun X hX _=>hX⟩
 | .fn lF oy :: ps,x,us,j,s,ι,F,q,he,h,hA,hF=>by
  simp only [kA] at he
  obtain ⟨p,au,he⟩:=bb he
  obtain rfl:=aU he
  obtain ⟨aj7,aj8,aR,rfl,hsz,h4⟩:=hA
  obtain ⟨du,i1,held,hr,mX⟩:=td ps x aR j s ι F p au h h4 hF
  refine⟨du,i1,held,?_,mX⟩
  simp only [aX]
  exact⟨_,aR,rfl,by simp only [aO],hr⟩
 | .ref t :: ps,x,us,j,s,ι,F,q,he,h,hA,hF=>by
  simp only [kA] at he
  obtain ⟨p,au,he⟩:=bb he
  obtain rfl:=aU he
  obtain ⟨b,o,vs,aR,rfl,h1,h2,h3,h4⟩:=hA
  obtain ⟨du,i1,held,hr,mX⟩:=td ps x.2 aR j s ι F p au h h4 hF
  refine⟨du,i1,held,?_,mX⟩
  simp only [aX]
  refine⟨_,aR,rfl,held.aB _ _ ?_,hr⟩
  simp only [aO]
  have hl:=(ad.al.len t _ h2).1
  have hc:bH w Z s ι (t.cells [] none x.1) vs:=ad.pN t [] none (by simp) (fun _=>by rw [nX];exact h2) ⟨_,_,_,h2⟩ .none
  refine⟨by simp,b,o,vs,by simp,fun _=>⟨hc,h1,fun k hk=>.inl (h3 k (by rw [← hc.len,hl] at hk;exact hk))⟩⟩
 | .val t m :: ps,x,us,j,s,ι,F,q,he,h,hA,hF=>by
  simp only [kA] at he
  obtain ⟨r,hr,he⟩:=bb he
  obtain ⟨v,hv,he⟩:=bb he
  obtain ⟨p,au,he⟩:=bb he
  obtain rfl:=aU he
  obtain ⟨vs,aR,G,H,rfl,h1,h2,h3,h4,aZ⟩:=hA
  obtain ⟨du,i1,iD,c1,fp⟩:=ad.nJ t m [] x.1 s ι j r vs G hr h (by rw [nX];exact h1) (hF.sub h4) (by rintro b o _ ⟨d,ag,_⟩;simp at ag) (by simp)
  obtain ⟨eo,i2,held,nY,mX⟩:=td ps x.2 aR _ _ du H p au i1 h2 (fp H (hF.sub aZ) fun b o x y=>h3 b o y x)
  refine⟨eo,i2,(iD.held _).trans held,?_,fun X hX fr=>mX X (fp X hX fun b o x y=>fr b o x (h4 b o y)) fun b o x y=>fr b o x (aZ b o y)⟩
  simp only [aX]
  exact⟨_,aR,rfl,held.aB _ _ (oH hv c1),nY⟩
 | .gQ t :: ps,x,us,j,s,ι,F,q,he,h,hA,hF=>by
  simp only [kA] at he
  obtain ⟨r,hr,he⟩:=bb he
  obtain ⟨v,hv,he⟩:=bb he
  obtain ⟨p,au,he⟩:=bb he
  obtain rfl:=aU he
  obtain ⟨vs,aR,G,H,rfl,h1,h2,h3,h4,aZ⟩:=hA
  obtain ⟨du,i1,iD,c1,fp⟩:=ad.nJ t .R [] x.1 s ι j r vs G hr h (by rw [nX];exact h1) (hF.sub h4) (by rintro b o _ ⟨d,ag,_⟩;simp at ag) (by simp)
  obtain ⟨eo,i2,held,nY,mX⟩:=td ps x.2 aR _ _ du H p au i1 h2 (fp H (hF.sub aZ) fun b o x y=>h3 b o y x)
  refine⟨eo,i2,(iD.held _).trans held,?_,fun X hX fr=>mX X (fp X hX fun b o x y=>fr b o x (h4 b o y)) fun b o x y=>fr b o x (aZ b o y)⟩
  simp only [aX]
  exact⟨_,aR,rfl,held.aB _ _ (oH hv c1),nY⟩
 | .gP t m :: ps,x,us,j,s,ι,F,q,he,h,hA,hF=>by
  simp only [kA] at he
  obtain ⟨r,hr,he⟩:=bb he
  obtain ⟨v,hv,he⟩:=bb he
  obtain ⟨p,au,he⟩:=bb he
  obtain rfl:=aU he
  obtain ⟨vs,aR,G,H,rfl,h1,h2,h3,h4,aZ⟩:=hA
  obtain ⟨du,i1,iD,c1,fp⟩:=ad.nJ t m [] x.1 s ι j r vs G hr h (by rw [nX];exact h1) (hF.sub h4) (by rintro b o _ ⟨d,ag,_⟩;simp at ag) (by simp)
  obtain ⟨eo,i2,held,nY,mX⟩:=td ps x.2 aR _ _ du H p au i1 h2 (fp H (hF.sub aZ) fun b o x y=>h3 b o y x)
  refine⟨eo,i2,(iD.held _).trans held,?_,fun X hX fr=>mX X (fp X hX fun b o x y=>fr b o x (h4 b o y)) fun b o x y=>fr b o x (aZ b o y)⟩
  simp only [aX]
  exact⟨_,aR,rfl,held.aB _ _ (oH hv c1),nY⟩
 | .mut t m m' :: ps,x,us,j,s,ι,F,q,he,h,hA,hF=>by
  simp only [kA] at he
  obtain ⟨r,hr,he⟩:=bb he
  obtain ⟨s1,hm,he⟩:=bb he
  obtain ⟨p,au,he⟩:=bb he
  obtain rfl:=aU he
  obtain ⟨b5,rfl⟩:=pR hm
  obtain ⟨b,o,vs,aR,G,H,rfl,h1,hwr,h2,h3,h4,aZ,bd,bC⟩:=hA
  have hG:ah.sub G F:=fun b o x=>bd b o (.inl x)
  have dt:ah.sub (ah.run b o t.size) F:=fun b o x=>bd b o (.inr x)
  obtain ⟨du,i1,iD,c1,fp⟩:=ad.nJ t m [] x.1 s ι j r vs G hr h (by rw [nX];exact h2) (hF.sub hG) (by rintro b o _ ⟨d,ag,_⟩;simp at ag) (by simp)
  have hl:=(ad.al.len t _ h2).1
  have hcl:=c1.len
  have jJ:=fp _ (hF.sub dt) (fun b o x y=>aZ b o y x)
  obtain ⟨i2,mU,lV,mV⟩:=HL i1 (id:=r.2.2) (o:=.var 0 r.1) (i:=⟨some (at_ b o),0,ah.run b o t.size⟩) (by rw [b5];exact fun h=>h) (fun o'=>by simp) (by rw [b5];exact .made _ _ _) (fun hm=>by
   refine⟨at_ b o,vs,rfl,rfl,c1.move hm,h1,fun k hk=>⟨hwr k (by omega),rfl,by simp [at_],by simp [at_];omega⟩⟩) jJ
  have vE:=(iD.held (w:=w) (Z:=Z) (fun _ _=>True)).trans mU
  have xW:∀X,bF w0 F0 s w ι Z X→ah.apart X (G.or (ah.run b o t.size))→bF w0 F0 (r.2.1.bO r.2.2 (.var 0 r.1)) w (bQ du r.2.2 ⟨some (at_ b o),0,ah.run b o t.size⟩) Z X:=fun X hX fr =>
   lV X (fp X hX fun b o x y=>fr b o x (.inl y)) fun b o x y=>fr b o x (.inr y)
  obtain ⟨HS,i3,PY,nY,Zx⟩:=td ps x.2 aR _ _ _ H p au i2 h3 (xW H (hF.sub bC) fun b o x y=>h4 b o y x)
  refine⟨HS,i3,vE.trans PY,?_,fun X hX fr=>Zx X (xW X hX fun b o x y=>fr b o x (bd b o y)) fun b o x y=>fr b o x (bC b o y)⟩
  simp only [aX]
  refine⟨_,aR,rfl,PY.aB _ _ ?_,nY⟩
  simp only [aO]
  refine⟨by show bQ r.2.1.o r.2.2 _ r.2.2≠_;rw [ct];simp,_,rfl,rfl,?_⟩
  show match (bQ r.2.1.o r.2.2 _ r.2.2).core with | .var _ _=>_ | .row .. => _ | _=>_
  rw [ct]
  exact⟨rfl,at_ b o,by rw [ct],by simp [at_]⟩
end
end Go.LM
namespace Go.LM
def x6(t:ad)(m:a')(v:a6)(s:an):Option (t.D×an) :=
 cond (nD t v) (match im t v with
  | some cs=>(t.imp false m cs s []).bind fun r=>match r.2.1 with
   | []=>some (r.1,r.2.2.1)
   | _=>none
  | none=>none) none
def ib:(ps:List bw)→List a6→an→Option (bw.dU ps).D
 | [],_,_=>some ()
 | .mut t _ m' :: ps,gs,s =>
  match gs with
  | .ptr p :: gs =>
   match s.o p.id,p.fa with
   | .var _ cs,none=>cond (Nat.beq p.off 0&&Nat.beq cs.length t.size)
    ((t.imp false m' cs (s.bO p.id .dead) []).bind fun r=>match r.2.1 with
     | []=>(ib ps gs r.2.2.1).bind fun q=>some (r.1,q)
     | _=>none) none
   | _,_=>none
  | _=>none
 | .gP t m :: ps,gs,s =>
  match gs with
  | v :: gs=>(x6 t m v s).bind fun r=>(ib ps gs r.2).bind fun q=>some (r.1,q)
  | []=>none
 | .val _ _ :: ps,gs,s =>
  match gs with
  | _ :: gs=>ib ps gs s
  | []=>none
 | .gQ _ :: ps,gs,s =>
  match gs with
  | _ :: gs=>ib ps gs s
  | []=>none
 | .ref _ :: ps,gs,s =>
  match gs with
  | _ :: gs=>ib ps gs s
  | []=>none
 | .fn _ _ :: ps,gs,s =>
  match gs with
  | _ :: gs=>ib ps gs s
  | []=>none
section
variable{P:Program}{w0:World}{F0 Z0:ah}{n:cC}{s aq:an}{a b6:Act}{w w':World}{ι ba:Nat→bD}{Z Z':ah}
theorem PZ{t:ad}{m:a'}{v:a6}{u:Value}{r:t.D×an}(ho:x6 t m v s=some r)(h:Inv w0 F0 Z0 n s a w ι Z)(hv:aO w Z s ι v u) :
  ∃vs F Z',u=dB t vs∧Inv w0 F0 Z0 n r.2 a w ι Z'∧eV s ι Z r.2 Z'∧bF w0 F0 r.2 w ι Z' F∧t.al w Z' m r.1 vs F∧∀b o,F b o→∃id,(s.o id).live∧(ι id).F b o:=by
 unfold x6 at ho
 cases hf:nD t v
 ·rw [hf] at ho;simp at ho
 rw [hf] at ho
 simp only [cond_true] at ho
 cases hcs:im t v with
 | none=>rw [hcs] at ho;simp at ho
 | some cs =>
  rw [hcs] at ho
  simp only at ho
  obtain ⟨q,hq,ho⟩:=bb ho
  cases ef:q.2.1 with
  | cons=>rw [ef] at ho;simp at ho
  | nil =>
   rw [ef] at ho
   obtain rfl:=aU ho
   obtain ⟨us1,vs1,F1,cp,e1,i1,s1,c1,f1,bA,_,fD,_,g1⟩:=ad.k0 t false m cs s [] q _ Z hq h (q8 hcs hv) (by simp)
   rw [ef] at c1
   have hvs1:vs1=[]:=by cases vs1 with | nil=>rfl | cons=>exact c1.elim
   subst hvs1
   rw [List.append_nil] at e1
   have hw:=A0 hf hv
   rw [e1] at hw
   rw [fD rfl,nX] at bA
   exact⟨us1,F1,cp,hw,i1,s1,f1,bA,g1⟩
theorem te:∀(ps:List bw) (gs:List a6) (us:List Value) (s:an) (Z:ah) (x:(bw.dU ps).D),ib ps gs s=some x→Inv w0 F0 Z0 n s a w ι Z→aX w Z s ι gs us →
  ∃aq F Z',Inv w0 F0 Z0 n aq a w ι Z'∧eV s ι Z aq Z'∧bF w0 F0 aq w ι Z' F∧hV w Z' ps us x F∧∀b o,F b o→∃id,(s.o id).live∧(ι id).F b o
 | [],gs,us,s,Z,x,ho,h,hv=>⟨s,ah.none,Z,h,.refl,.none,trivial,fun _ _ h=>h.elim⟩
 | .val t m :: ps,gs,us,s,Z,x,ho,h,hv=>by
  cases gs with
  | nil=>simp [ib] at ho
  | cons v gs =>
   simp only [aX] at hv
   obtain ⟨u,aR,rfl,h1,h2⟩:=hv
   obtain ⟨aq,F,Z',i1,s1,f1,bA,g1⟩:=te ps gs aR s Z x (by simp only [ib] at ho;exact ho) h h2
   exact⟨aq,F,Z',i1,s1,f1,⟨u,aR,rfl,bA⟩,g1⟩
 | .gQ t :: ps,gs,us,s,Z,x,ho,h,hv=>by
  cases gs with
  | nil=>simp [ib] at ho
  | cons v gs =>
   simp only [aX] at hv
   obtain ⟨u,aR,rfl,h1,h2⟩:=hv
   obtain ⟨aq,F,Z',i1,s1,f1,bA,g1⟩:=te ps gs aR s Z x (by simp only [ib] at ho;exact ho) h h2
   exact⟨aq,F,Z',i1,s1,f1,⟨u,aR,rfl,bA⟩,g1⟩
 | .ref t :: ps,gs,us,s,Z,x,ho,h,hv=>by
  cases gs with
  | nil=>simp [ib] at ho
  | cons v gs =>
   simp only [aX] at hv
   obtain ⟨u,aR,rfl,h1,h2⟩:=hv
   obtain ⟨aq,F,Z',i1,s1,f1,bA,g1⟩:=te ps gs aR s Z x (by simp only [ib] at ho;exact ho) h h2
   exact⟨aq,F,Z',i1,s1,f1,⟨u,aR,rfl,bA⟩,g1⟩
 | .fn _ _ :: ps,gs,us,s,Z,x,ho,h,hv=>by
  cases gs with
  | nil=>simp [ib] at ho
  | cons v gs =>
   simp only [aX] at hv
   obtain ⟨u,aR,rfl,h1,h2⟩:=hv
   obtain ⟨aq,F,Z',i1,s1,f1,bA,g1⟩:=te ps gs aR s Z x (by simp only [ib] at ho;exact ho) h h2
   exact⟨aq,F,Z',i1,s1,f1,⟨u,aR,rfl,bA⟩,g1⟩
 | .gP t m :: ps,gs,us,s,Z,x,ho,h,hv=>by
  cases gs with
  | nil=>simp [ib] at ho
  | cons v gs =>
   simp only [aX] at hv
   obtain ⟨u,aR,rfl,h1,h2⟩:=hv
   simp only [ib] at ho
   obtain ⟨r,hr,ho⟩:=bb ho
   obtain ⟨q,hq,ho⟩:=bb ho
   obtain rfl:=aU ho
   obtain ⟨vs,F1,cp,rfl,i1,s1,f1,bA,g1⟩:=PZ hr h h1
   obtain ⟨aq,dE,bK,i2,s2,f2,cc,g2⟩:=te ps gs aR r.2 cp q hq i1 (aX.move s1.eb h2)
   refine⟨aq,F1.or dE,bK,i2,s1.trans s2,(f1.shrink s2).or f2,⟨vs,aR,F1,dE,rfl,ad.al.mono s2.dA _ _ (fun _ _ h=>h) bA,cc,?_,fun _ _ h=>.inl h,fun _ _ h=>.inr h⟩,?_⟩
   ·intro b o x y
    obtain ⟨id,hl,hf⟩:=g2 b o y
    exact f1.apart id hl b o x hf
   ·rintro b o (y | y)
    ·exact g1 b o y
    ·obtain ⟨id,hl,hf⟩:=g2 b o y;exact⟨id,(s1.live hl).1,hf⟩
 | .mut t m m' :: ps,gs,us,s,Z,x,ho,h,hv=>by
  cases gs with
  | nil=>simp [ib] at ho
  | cons v gs =>
   simp only [aX] at hv
   obtain ⟨u,aR,rfl,h1,h2⟩:=hv
   cases v <;> simp only [ib] at ho <;> try (simp at ho;done)
   rename_i p
   simp only [aO] at h1
   obtain ⟨hk,A,rfl,_,au⟩:=h1
   cases bU:s.o p.id with
   | var ver cs =>
    rw [bU] at ho au
    obtain ⟨he,a0,er,hA⟩:=au
    rw [he] at ho
    simp only at ho
    cases hc:(Nat.beq p.off 0&&Nat.beq cs.length t.size)
    ·rw [hc] at ho;cases ho
    rw [hc] at ho
    simp only [Bool.and_eq_true] at hc
    have fi:=Nat.eq_of_beq_eq_true hc.1
    have hlen:=Nat.eq_of_beq_eq_true hc.2
    simp only [cond_true] at ho
    obtain ⟨r,hr,ho⟩:=bb ho
    cases ef:r.2.1 with
    | cons=>rw [ef] at ho;cases ho
    | nil =>
     rw [ef] at ho
     simp only at ho
     obtain ⟨q,hq,ho⟩:=bb ho
     obtain rfl:=aU ho
     have b8:(s.o p.id).live:=by rw [bU];trivial
     have cW:=h.fA p.id
     rw [bU] at cW
     obtain ⟨⟨b,o,sp⟩,ws,dj,hsp,hc,cl,hF⟩:=cW
     simp only at hsp
     subst hsp
     rw [er] at dj
     obtain rfl:=aU dj
     have h7:eV s ι Z (s.bO p.id .dead) Z:=vf p.id b8
     have hi0:=h.take p.id (fun _ _ h=>h) (fun _ _ h=>.inl h)
     have e4:=h.ve b8
     obtain ⟨us1,vs1,F1,cp,e1,i1,s1,c1,f1,bA,_,fD,_,g1⟩:=ad.k0 t false m' cs _ [] r _ Z hr hi0 (hc.move h7.eb) (by simp)
     rw [ef] at c1
     have hvs1:vs1=[]:=by cases vs1 with | nil=>rfl | cons=>exact c1.elim
     subst hvs1
     rw [List.append_nil] at e1
     subst e1
     rw [fD rfl,nX] at bA
     obtain ⟨aq,dE,bK,i2,s2,f2,cc,g2⟩:=te ps gs aR r.2.2.1 cp q hq i1 (aX.move s1.eb (aX.move h7.eb h2))
     have hrun:ah.sub (ah.run b o t.size) (ι p.id).F:=by
      rintro b' o' ⟨rfl,h1,h2⟩
      have:=(hF (o'-o) (by omega)).2
      simp only at this
      rwa [show o +(o'-o)=o' by omega] at this
     have jJ:=(e4.sub hrun).shrink s1
     have Ir:ah.apart F1 (ah.run b o t.size):=by
      intro b o x y
      obtain ⟨id,hl,hf⟩:=g1 b o x
      exact e4.apart id hl b o (hrun b o y) hf
     have gv:bF w0 F0 r.2.2.1 w ι cp (F1.or (ah.run b o t.size)):=f1.or jJ
     refine⟨aq,(F1.or (ah.run b o t.size)).or dE,bK,i2,(h7.trans s1).trans s2,(gv.shrink s2).or f2,⟨b,o,ws,aR,F1,dE,?_,cl,ad.al.mono s2.dA _ _ (fun _ _ h=>h) bA,cc,?_,Ir,fun _ _ h=>.inl h,fun _ _ h=>.inr h⟩,?_⟩
     ·rw [hA,fi];rfl
     ·intro b o x y
      obtain ⟨id,hl,hf⟩:=g2 b o y
      exact gv.apart id hl b o x hf
     ·rintro b o ((y | y) | y)
      ·obtain ⟨id,hl,hf⟩:=g1 b o y;exact⟨id,(h7.live hl).1,hf⟩
      ·exact⟨p.id,b8,hrun b o y⟩
      ·obtain ⟨id,hl,hf⟩:=g2 b o y;exact⟨id,(h7.live (s1.live hl).1).1,hf⟩
   | _=>rw [bU] at ho;simp at ho
end
end Go.LM
namespace Go.LM
section
variable{P:Program}{w0:World}{F0 Z0:ah}{n:cC}{s aq:an}{a b6:Act}{w w':World}{ι ba:Nat→bD}{Z Z':ah}
def Bs(t:ad)(m:a')(v:a6)(s:an):Option (t.D×an) :=
 match v with
 | .ptr p =>
  match s.o p.id,p.fa with
  | .var _ cs,none=>cond (Nat.beq p.off 0&&Nat.beq cs.length t.size)
   ((t.imp false m cs (s.bO p.id .dead) []).bind fun r=>match r.2.1 with
    | []=>some (r.1,r.2.2.1)
    | _=>none) none
  | _,_=>none
 | _=>none
theorem Zy{t:ad}{m:a'}{v:a6}{u:Value}{s:an}{Z:ah}{x:t.D×an}(ho:Bs t m v s=some x)(h:Inv w0 F0 Z0 n s a w ι Z)(h1:aO w Z s ι v u) :
  ∃b o vs F Z',u=.pointer (some (at_ b o))∧Inv w0 F0 Z0 n x.2 a w ι Z'∧eV s ι Z x.2 Z'∧bF w0 F0 x.2 w ι Z' (F.or (ah.run b o t.size))∧b2 w b o vs∧(∀j,j<t.size→e' w b (o+j))∧t.al w Z' m x.1 vs F ∧
   ah.apart F (ah.run b o t.size)∧∀b' o',(F.or (ah.run b o t.size)) b' o'→∃id,(s.o id).live∧(ι id).F b' o':=by
 cases v <;> simp only [Bs] at ho <;> try (simp at ho;done)
 rename_i p
 simp only [aO] at h1
 obtain ⟨hk,A,rfl,_,au⟩:=h1
 cases bU:s.o p.id with
 | var ver cs =>
  rw [bU] at ho au
  obtain ⟨he,a0,er,hA⟩:=au
  rw [he] at ho
  simp only at ho
  cases hc:(Nat.beq p.off 0&&Nat.beq cs.length t.size)
  ·rw [hc] at ho;cases ho
  rw [hc] at ho
  simp only [Bool.and_eq_true] at hc
  have fi:=Nat.eq_of_beq_eq_true hc.1
  have hlen:=Nat.eq_of_beq_eq_true hc.2
  simp only [cond_true] at ho
  obtain ⟨r,hr,ho⟩:=bb ho
  cases ef:r.2.1 with
  | cons=>rw [ef] at ho;cases ho
  | nil =>
   rw [ef] at ho
   obtain rfl:=aU ho
   have b8:(s.o p.id).live:=by rw [bU];trivial
   have cW:=h.fA p.id
   rw [bU] at cW
   obtain ⟨a1,ws,dj,hsp,hcs,cl,hF⟩:=cW
   rw [er] at dj
   obtain rfl:=aU dj
   obtain ⟨b,o,sp⟩:=a0
   simp only at hsp
   subst hsp
   have h7:eV s ι Z (s.bO p.id .dead) Z:=vf p.id b8
   have hi0:=h.take p.id (fun _ _ h=>h) (fun _ _ h=>.inl h)
   have e4:=h.ve b8
   obtain ⟨us1,vs1,F1,cp,e1,i1,s1,c1,f1,bA,_,fD,_,g1⟩:=ad.k0 t false m cs _ [] r _ Z hr hi0 (hcs.move h7.eb) (by simp)
   rw [ef] at c1
   have hvs1:vs1=[]:=by cases vs1 with | nil=>rfl | cons=>exact c1.elim
   subst hvs1
   rw [List.append_nil] at e1
   subst e1
   rw [fD rfl,nX] at bA
   have hrun:ah.sub (ah.run b o t.size) (ι p.id).F:=by
    rintro b' o' ⟨rfl,h1,h2⟩
    have:=(hF (o'-o) (by omega)).2
    simp only at this
    rwa [show o +(o'-o)=o' by omega] at this
   have jJ:=(e4.sub hrun).shrink s1
   have Ir:ah.apart F1 (ah.run b o t.size):=by
    intro b o x y
    obtain ⟨id,hl,hf⟩:=g1 b o x
    exact e4.apart id hl b o (hrun b o y) hf
   refine⟨b,o,_,F1,cp,?_,i1,h7.trans s1,f1.or jJ,cl,fun j hj=>(hF j (by omega)).1,bA,Ir,?_⟩
   ·rw [hA,fi];rfl
   ·rintro b o (y | y)
    ·obtain ⟨id,hl,hf⟩:=g1 b o y;exact⟨id,(h7.live hl).1,hf⟩
    ·exact⟨p.id,b8,hrun b o y⟩
 | _=>rw [bU] at ho;simp at ho
def x7(gs:List a6)(a off:Nat)(t:ad)(v:a6)(s:an):Option Int :=
 match v with
 | .jC=>some (-1)
 | .opt id x =>
  match pI s gs a off with
  | some k=>cond (Nat.beq k id&&pJ s t id) (some x) none
  | none=>none
 | .ptr p =>
  match pI s gs a off,p.fa with
  | some k,some i=>cond (Nat.beq k p.id&&pJ s t p.id&&Nat.beq p.off 0) (some (i:Int)) none
  | _,_=>none
 | _=>none
theorem P0{gs:List a6}{us:List Value}{lh off id:Nat}{t:ad}{i:Nat}{vI:Addr}(dQ:pI s gs lh off=some id)(lX:pJ s t id=true)(h:Inv w0 F0 Z0 n s a w ι Z)(hv:aX w Z s ι gs us)
  (au:iR s ι ⟨id,some i,0⟩ vI):HB w us lh off t.size (i:Int) (.pointer (some vI)):=by
 unfold pI at dQ
 cases mP:gs[lh]? with
 | none=>rw [mP] at dQ;simp at dQ
 | some kW =>
  rw [mP] at dQ
  cases kW with
  | ptr pl =>
   simp only at dQ
   cases c2:lG s 1 { pl with off:=pl.off+off } with
   | none=>rw [c2] at dQ;simp at dQ
   | some cs =>
    rw [c2] at dQ
    have hcs:cs=[.ag id none]:=by
     split at dQ
     ·rename_i h;obtain rfl:=aU dQ;exact aU h
     ·simp at dQ
    subst hcs
    obtain ⟨u,vG,rl⟩:=hv.get lh mP
    simp only [aO] at rl
    obtain ⟨jH,A,rfl,mW⟩:=rl
    obtain ⟨b,o,sp⟩:=A
    have hsp:=mW.1
    simp only at hsp
    subst hsp
    obtain ⟨q6,eA,ws,hA,hc1,hc2,xQ⟩:=xy h c2 (iR.plus (b:=b) (o:=o) off mW)
    simp only [at_,Addr.mk.injEq,and_true] at hA
    obtain ⟨rfl,rfl⟩:=hA
    match ws,hc1 with
    | [v0],hc1 =>
     obtain ⟨hk0,A,m,k,rfl,hh⟩:=hc1.1
     unfold pJ at lX
     cases bU:s.o id with
     | row u em ver xs =>
      rw [bU] at lX
      have:=ad.eq_of_beq _ _ lX
      subst this
      obtain ⟨c4,eC,hY,h5,h6⟩:=hh u em ver xs (kY bU)
      have c4:m=xs.length:=c4
      obtain ⟨hs,au⟩:=au
      have au:match (s.o id).core with | .var _ cs=>_ | .row t _ _ xs=>_ | _=>_:=au
      rw [kY bU] at au
      obtain ⟨dW,hi,cw,a0,fW,pV⟩:=au
      obtain rfl:=aU hi
      rcases h6 with h6 | ⟨a1,mK,mQ⟩
      ·omega
      ·rw [fW] at mK
       obtain rfl:=aU mK
       right
       refine⟨by omega,b,o,a0.block,a0.off,m,k,vG,?_,by simp;omega,?_⟩
       ·rw [hc2.head,mQ];simp [ea,at_]
       ·rw [pV];simp [at_]
     | _=>rw [bU] at lX;cases lX
  | _=>simp at dQ
theorem Zz{gs:List a6}{us:List Value}{lh off:Nat}{t:ad}{v:a6}{u:Value}{x:Int}(ho:x7 gs lh off t v s=some x)(h:Inv w0 F0 Z0 n s a w ι Z)(az:aX w Z s ι gs us)(hv:aO w Z s ι v u):HB w us lh off t.size x u:=by
 cases v with
 | jC =>
  obtain rfl:=aU ho
  simp only [aO] at hv
  exact .inl ⟨by omega,hv⟩
 | opt id y =>
  simp only [x7] at ho
  cases dQ:pI s gs lh off with
  | none=>rw [dQ] at ho;cases ho
  | some k =>
   rw [dQ] at ho
   cases hc:(Nat.beq k id&&pJ s t id)
   ·simp only [hc] at ho;cases ho
   simp only [hc,cond_true] at ho
   obtain rfl:=aU ho
   simp only [Bool.and_eq_true] at hc
   obtain rfl:=Nat.eq_of_beq_eq_true hc.1
   simp only [aO] at hv
   obtain ⟨_,⟨h1,h2⟩ | ⟨h1,vI,rfl,h2⟩⟩:=hv
   ·exact .inl ⟨h1,h2⟩
   ·have:=P0 dQ hc.2 h az h2
    rwa [Int.toNat_of_nonneg h1] at this
 | ptr p =>
  simp only [x7] at ho
  cases dQ:pI s gs lh off with
  | none=>rw [dQ] at ho;cases ho
  | some k =>
   rw [dQ] at ho
   cases eS:p.fa with
   | none=>rw [eS] at ho;cases ho
   | some i =>
    rw [eS] at ho
    simp only at ho
    cases hc:(Nat.beq k p.id&&pJ s t p.id&&Nat.beq p.off 0)
    ·rw [hc] at ho;cases ho
    rw [hc] at ho
    obtain rfl:=aU ho
    simp only [Bool.and_eq_true] at hc
    have hk:=Nat.eq_of_beq_eq_true hc.1.1
    have h0:=Nat.eq_of_beq_eq_true hc.2
    obtain ⟨pid,aj9,aj_⟩:=p
    simp only at hk h0 eS hc
    subst hk h0 eS
    simp only [aO] at hv
    obtain ⟨_,vI,rfl,h2⟩:=hv
    exact P0 dQ hc.1.2 h az h2
 | _=>cases ho
def x8(t:ad)(v:a6):Bool :=
 nD t v&&(match im t v with
  | some cs=>Nat.beq cs.length t.size
  | none=>false)
theorem ZA{t:ad}{v:a6}{u:Value}{s:an}{Z:ah}(ho:x8 t v=true)(h1:aO w Z s ι v u):u.cells.toList.length=t.size∧∀x∈u.cells.toList,dY x=true:=by
 unfold x8 at ho
 simp only [Bool.and_eq_true] at ho
 obtain ⟨hf,hc⟩:=ho
 cases hcs:im t v with
 | none=>rw [hcs] at hc;cases hc
 | some cs =>
  rw [hcs] at hc
  have hl:=Nat.eq_of_beq_eq_true hc
  have hr:=q8 hcs h1
  exact⟨by rw [hr.len];exact hl,hr.dY⟩
def Bt(t:ad)(v:a6)(s:an):Option (List t.D×an) :=
 match v with
 | .jC=>some ([],s)
 | .dd dp cs off =>
  match takeN off t.size cs with
  | none=>none
  | some cs=>cond dp.isEmpty ((t.imp false .R cs s []).bind fun r=>match r.2.1 with
   | []=>some ([r.1],r.2.2.1)
   | _=>none) none
 | .may b dp cs=>cond b (cond (dp.isEmpty&&Nat.beq cs.length t.size) ((t.imp false .R cs s []).bind fun r=>match r.2.1 with
   | []=>some ([r.1],r.2.2.1)
   | _=>none) none) (some ([],s))
 | _=>none
theorem ZB{t:ad}{v:a6}{u:Value}{s:an}{Z:ah}{x:List t.D×an}(ho:Bt t v s=some x)(h:Inv w0 F0 Z0 n s a w ι Z)(h1:aO w Z s ι v u) :
  ∃Z',Inv w0 F0 Z0 n x.2 a w ι Z'∧eV s ι Z x.2 Z'∧((x.1=[]∧u=.pointer none)∨∃y b o vs,x.1=[y]∧u=.pointer (some (at_ b o))∧b2 w b o vs∧t.al w Z' .R y vs ah.none∧∀j,j<t.size→Z' b (o+j)):=by
 have go:∀(cs:List a8) (b o:Nat) (vs:List Value) (x:List t.D×an),((t.imp false .R cs s []).bind fun r=>match r.2.1 with | []=>some ([r.1],r.2.2.1) | _=>none)=some x→bH w Z s ι cs vs→b2 w b o vs→vs.length=t.size→(∀j,j<t.size→Z b (o+j))→u=.pointer (some (at_ b o)) →
   ∃Z',Inv w0 F0 Z0 n x.2 a w ι Z'∧eV s ι Z x.2 Z'∧((x.1=[]∧u=.pointer none)∨∃y b o vs,x.1=[y]∧u=.pointer (some (at_ b o))∧b2 w b o vs∧t.al w Z' .R y vs ah.none∧∀j,j<t.size→Z' b (o+j)):=by
  intro cs b o vs x ho oI cl hl hz hu
  obtain ⟨r,hr,ho⟩:=bb ho
  cases ef:r.2.1 with
  | cons=>rw [ef] at ho;cases ho
  | nil =>
   rw [ef] at ho
   obtain rfl:=aU ho
   obtain ⟨us1,vs1,F1,cp,e1,i1,s1,c1,f1,bA,_,fD,_,g1⟩:=ad.k0 t false .R cs s [] r _ Z hr h oI (by simp)
   rw [ef] at c1
   have hvs1:vs1=[]:=by cases vs1 with | nil=>rfl | cons=>exact c1.elim
   subst hvs1
   rw [List.append_nil] at e1
   subst e1
   rw [fD rfl,nX] at bA
   exact⟨cp,i1,s1,.inr ⟨r.1,b,o,_,rfl,hu,cl,qZ bA,fun j hj=>s1.dA _ _ (hz j hj)⟩⟩
 cases v <;> simp only [Bt] at ho <;> try (simp at ho;done)
 ·rename_i dp cs off
  simp only [aO] at h1
  obtain ⟨h2,b,o,vs,rfl,h3⟩:=h1
  cases ht:takeN off t.size cs with
  | none=>rw [ht] at ho;cases ho
  | some ds =>
   rw [ht] at ho
   cases dp with
   | cons=>cases ho
   | nil =>
    obtain ⟨k1,k2,k3⟩:=h3 rfl
    obtain ⟨hle,rfl⟩:=oE ht
    have hlen:=k1.len
    refine go _ b (o+off) ((vs.drop off).take t.size) x ho ((k1.drop off).take _) (k2.part off t.size) (by simp;omega) (fun j hj=>?_) rfl
    have:=k3 (off+j) (by omega)
    rw [nX] at this
    rwa [← Nat.add_assoc] at this
 ·simp only [aO] at h1
  obtain rfl:=aU ho
  exact⟨Z,h,.refl,.inl ⟨rfl,h1⟩⟩
 ·rename_i b dp cs
  simp only [aO] at h1
  rcases h1 with⟨rfl,h1⟩ | ⟨rfl,h2,b,o,vs,rfl,h3⟩
  ·obtain rfl:=aU ho
   exact⟨Z,h,.refl,.inl ⟨rfl,h1⟩⟩
  ·simp only [cond_true] at ho
   cases dp with
   | cons=>cases ho
   | nil =>
    cases hc:Nat.beq cs.length t.size
    ·rw [show(List.isEmpty ([]:List (Nat×Nat))&&Nat.beq cs.length t.size)=false by rw [hc];rfl] at ho;cases ho
    rw [show(List.isEmpty ([]:List (Nat×Nat))&&Nat.beq cs.length t.size)=true by rw [hc];rfl] at ho
    have hc:=Nat.eq_of_beq_eq_true hc
    obtain ⟨k1,k2,k3⟩:=h3 rfl
    have hlen:=k1.len
    refine go _ b (o+0) vs x ho k1 k2 (by omega) (fun j hj=>?_) rfl
    have:=k3 j (by omega)
    rw [nX] at this
    exact this
def gJ(ps:List bw)(gs:List a6):(rs:List cS)→List a6→an→Option (cS.outs rs (bw.dU ps)).D
 | [],vs,s =>
  match vs with
  | []=>ib ps gs s
  | _=>none
 | .val t m :: rs,vs,s =>
  match vs with
  | v :: vs=>(x6 t m v s).bind fun r=>(gJ ps gs rs vs r.2).bind fun q=>some (r.1,q)
  | []=>none
 | .opt a off t :: rs,vs,s =>
  match vs with
  | v :: vs=>(x7 gs a off t v s).bind fun x=>(gJ ps gs rs vs s).bind fun q=>some (x,q)
  | []=>none
 | .any t :: rs,vs,s =>
  match vs with
  | v :: vs=>cond (x8 t v) (gJ ps gs rs vs s) none
  | []=>none
 | .oz t :: rs,vs,s =>
  match vs with
  | v :: vs=>(Bt t v s).bind fun r=>(gJ ps gs rs vs r.2).bind fun q=>some (r.1,q)
  | []=>none
 | .new t m :: rs,vs,s =>
  match vs with
  | v :: vs=>(Bs t m v s).bind fun r=>(gJ ps gs rs vs r.2).bind fun q=>some (r.1,q)
  | []=>none
theorem ZC{ps:List bw}{gs:List a6}{s:an} : gJ ps gs [] [] s=ib ps gs s:=rfl
theorem ZD{ps:List bw}{gs:List a6}{s:an}{v:a6}{vs:List a6} : gJ ps gs [] (v :: vs) s=none:=rfl
theorem ZE{ps:List bw}{gs:List a6}{a o:Nat}{t:ad}{rs:List cS}{s:an}{v:a6}{vs:List a6} : gJ ps gs (.opt a o t :: rs) (v :: vs) s=(x7 gs a o t v s).bind fun x=>(gJ ps gs rs vs s).bind fun q=>some (x,q):=rfl
theorem ZF{ps:List bw}{gs:List a6}{a o:Nat}{t:ad}{rs:List cS}{s:an} : gJ ps gs (.opt a o t :: rs) [] s=none:=rfl
theorem ZG{ps:List bw}{gs:List a6}{t:ad}{m:a'}{rs:List cS}{s:an}{v:a6}{vs:List a6} : gJ ps gs (.val t m :: rs) (v :: vs) s=(x6 t m v s).bind fun r=>(gJ ps gs rs vs r.2).bind fun q=>some (r.1,q):=rfl
theorem ZH{ps:List bw}{gs:List a6}{t:ad}{m:a'}{rs:List cS}{s:an} : gJ ps gs (.val t m :: rs) [] s=none:=rfl
theorem ZI{ps:List bw}{gs:List a6}{t:ad}{rs:List cS}{s:an}{v:a6}{vs:List a6} : gJ ps gs (.any t :: rs) (v :: vs) s=cond (x8 t v) (gJ ps gs rs vs s) none:=rfl
theorem ZJ{ps:List bw}{gs:List a6}{t:ad}{rs:List cS}{s:an} : gJ ps gs (.any t :: rs) [] s=none:=rfl
theorem ZK{ps:List bw}{gs:List a6}{t:ad}{rs:List cS}{s:an}{v:a6}{vs:List a6} : gJ ps gs (.oz t :: rs) (v :: vs) s=(Bt t v s).bind fun r=>(gJ ps gs rs vs r.2).bind fun q=>some (r.1,q):=rfl
theorem ZL{ps:List bw}{gs:List a6}{t:ad}{rs:List cS}{s:an} : gJ ps gs (.oz t :: rs) [] s=none:=rfl
theorem ZM{ps:List bw}{gs:List a6}{t:ad}{m:a'}{rs:List cS}{s:an}{v:a6}{vs:List a6} : gJ ps gs (.new t m :: rs) (v :: vs) s=(Bs t m v s).bind fun r=>(gJ ps gs rs vs r.2).bind fun q=>some (r.1,q):=rfl
theorem ZN{ps:List bw}{gs:List a6}{t:ad}{m:a'}{rs:List cS}{s:an} : gJ ps gs (.new t m :: rs) [] s=none:=rfl
theorem vU{ps:List bw}{gs:List a6}{us:List Value} : ∀(rs:List cS) (vs:List a6) (di:List Value) (s:an) (Z:ah) (x:(cS.outs rs (bw.dU ps)).D),gJ ps gs rs vs s=some x→Inv w0 F0 Z0 n s a w ι Z →
  aX w Z s ι gs us→aX w Z s ι vs di→∃aq F Z',Inv w0 F0 Z0 n aq a w ι Z'∧eV s ι Z aq Z'∧bF w0 F0 aq w ι Z' F∧hL w Z' ps us rs x di F∧∀b o,F b o→∃id,(s.o id).live∧(ι id).F b o
 | [],vs,di,s,Z,x,ho,h,az,hv=>by
  cases vs with
  | cons=>rw [ZD] at ho;cases ho
  | nil =>
   rw [ZC] at ho
   simp only [aX] at hv
   obtain ⟨aq,F,Z',i1,s1,f1,bA,g1⟩:=te ps gs us s Z x ho h az
   exact⟨aq,F,Z',i1,s1,f1,⟨hv,bA⟩,g1⟩
 | .opt lh off t :: rs,vs,di,s,Z,x,ho,h,az,hv=>by
  cases vs with
  | nil=>rw [ZF] at ho;cases ho
  | cons v vs =>
   simp only [aX] at hv
   obtain ⟨u,aR,rfl,h1,h2⟩:=hv
   rw [ZE] at ho
   obtain ⟨y,aM,ho⟩:=bb ho
   obtain ⟨q,hq,ho⟩:=bb ho
   obtain rfl:=aU ho
   obtain ⟨aq,dE,bK,i2,s2,f2,cc,g2⟩:=vU rs vs aR s Z q hq h az h2
   exact⟨aq,dE,bK,i2,s2,f2,⟨u,aR,rfl,Zz aM h az h1,cc⟩,g2⟩
 | .any t :: rs,vs,di,s,Z,x,ho,h,az,hv=>by
  cases vs with
  | nil=>rw [ZJ] at ho;cases ho
  | cons v vs =>
   simp only [aX] at hv
   obtain ⟨u,aR,rfl,h1,h2⟩:=hv
   rw [ZI] at ho
   cases hc:x8 t v
   ·rw [hc] at ho;cases ho
   rw [hc] at ho
   obtain ⟨aq,dE,bK,i2,s2,f2,cc,g2⟩:=vU rs vs aR s Z x ho h az h2
   exact⟨aq,dE,bK,i2,s2,f2,⟨u,aR,rfl,ZA hc h1,cc⟩,g2⟩
 | .oz t :: rs,vs,di,s,Z,x,ho,h,az,hv=>by
  cases vs with
  | nil=>rw [ZL] at ho;cases ho
  | cons v vs =>
   simp only [aX] at hv
   obtain ⟨u,aR,rfl,h1,h2⟩:=hv
   rw [ZK] at ho
   obtain ⟨r,hr,ho⟩:=bb ho
   obtain ⟨q,hq,ho⟩:=bb ho
   obtain rfl:=aU ho
   obtain ⟨cp,i1,s1,bA⟩:=ZB hr h h1
   obtain ⟨aq,dE,bK,i2,s2,f2,cc,g2⟩:=vU rs vs aR r.2 cp q hq i1 (aX.move s1.eb az) (aX.move s1.eb h2)
   refine⟨aq,dE,bK,i2,s1.trans s2,f2,⟨u,aR,rfl,bA.imp (fun h=>h) fun⟨y,b,o,vs,k1,k2,k3,bf,bs⟩=>⟨y,b,o,vs,k1,k2,k3,ad.al.mono s2.dA _ _ (fun _ _ h=>h) bf,fun j hj=>s2.dA _ _ (bs j hj)⟩,cc⟩,?_⟩
   intro b o y
   obtain ⟨id,hl,hf⟩:=g2 b o y
   exact⟨id,(s1.live hl).1,hf⟩
 | .new t m :: rs,vs,di,s,Z,x,ho,h,az,hv=>by
  cases vs with
  | nil=>rw [ZN] at ho;cases ho
  | cons v vs =>
   simp only [aX] at hv
   obtain ⟨u,aR,rfl,h1,h2⟩:=hv
   rw [ZM] at ho
   obtain ⟨r,hr,ho⟩:=bb ho
   obtain ⟨q,hq,ho⟩:=bb ho
   obtain rfl:=aU ho
   obtain ⟨b,o,ws,F1,cp,rfl,i1,s1,f1,cl,hwr,bA,ZO,g1⟩:=Zy hr h h1
   obtain ⟨aq,dE,bK,i2,s2,f2,cc,g2⟩:=vU rs vs aR r.2 cp q hq i1 (aX.move s1.eb az) (aX.move s1.eb h2)
   refine⟨aq,(F1.or (ah.run b o t.size)).or dE,bK,i2,s1.trans s2,(f1.shrink s2).or f2,⟨b,o,ws,aR,F1,dE,rfl,cl,hwr,ad.al.mono s2.dA _ _ (fun _ _ h=>h) bA,cc,?_,ZO,fun _ _ h=>.inl h,fun _ _ h=>.inr h⟩,?_⟩
   ·intro b o x y
    obtain ⟨id,hl,hf⟩:=g2 b o y
    exact f1.apart id hl b o x hf
   ·rintro b o (y | y)
    ·exact g1 b o y
    ·obtain ⟨id,hl,hf⟩:=g2 b o y;exact⟨id,(s1.live hl).1,hf⟩
 | .val t m :: rs,vs,di,s,Z,x,ho,h,az,hv=>by
  cases vs with
  | nil=>rw [ZH] at ho;cases ho
  | cons v vs =>
   simp only [aX] at hv
   obtain ⟨u,aR,rfl,h1,h2⟩:=hv
   rw [ZG] at ho
   obtain ⟨r,hr,ho⟩:=bb ho
   obtain ⟨q,hq,ho⟩:=bb ho
   obtain rfl:=aU ho
   obtain ⟨ws,F1,cp,rfl,i1,s1,f1,bA,g1⟩:=PZ hr h h1
   obtain ⟨aq,dE,bK,i2,s2,f2,cc,g2⟩:=vU rs vs aR r.2 cp q hq i1 (aX.move s1.eb az) (aX.move s1.eb h2)
   refine⟨aq,F1.or dE,bK,i2,s1.trans s2,(f1.shrink s2).or f2,⟨ws,aR,F1,dE,rfl,ad.al.mono s2.dA _ _ (fun _ _ h=>h) bA,cc,?_,fun _ _ h=>.inl h,fun _ _ h=>.inr h⟩,?_⟩
   ·intro b o x y
    obtain ⟨id,hl,hf⟩:=g2 b o y
    exact f1.apart id hl b o x hf
   ·rintro b o (y | y)
    ·exact g1 b o y
    ·obtain ⟨id,hl,hf⟩:=g2 b o y;exact⟨id,(s1.live hl).1,hf⟩
end
end Go.LM
namespace Go.LM
inductive kB where
 | keep
 | bY (t:ad) (dp:List Nat)
 | ag (c:Nat)
 | au (c:Nat)
inductive j' where
 | cell (c:kB)
 | hW (cs:List kB)
 | ptr (c:Nat)
 | dd (dp:List Nat) (cs:List kB)
 | opt (c:Nat)
 | same
 | drop
 | u0 (a b:List (List kB))
inductive ic where
 | var (cs:List kB)
 | row (t:ad) (em:a')
structure bV where
 aj:List (Nat×j')
 os:List (Nat×ic)
 gs:List j'
abbrev Ren:=List (Nat×Option Nat)
def jt:Ren→Nat→Option (Option Nat)
 | [],_=>none
 | (k,v) :: l,c=>cond (Nat.beq k c) (some v) (jt l c)
def jN(r:Ren)(c id:Nat):Bool:=match jt r c with
 | some (some i)=>Nat.beq i id
 | _=>false
def tf(r:Ren)(c:Nat):Bool:=match jt r c with
 | some none=>true
 | _=>false
def gK:List (Nat×ic)→Nat→Bool
 | [],_=>false
 | (k,_) :: l,c=>cond (Nat.beq k c) true (gK l c)
def rp:Ren→List Nat
 | []=>[]
 | (_,some i) :: l=>i :: rp l
 | (_,none) :: l=>rp l
def oY:List Nat→Bool
 | []=>true
 | x :: l => !(l.any (Nat.beq x))&&oY l
def Is:Ren→List Nat
 | []=>[]
 | (k,_) :: l=>k :: Is l
def rq(r:Ren)(c:Nat)(v:Option Nat):Ren:=match jt r c with
 | none=>(c,v) :: r
 | some _=>r
def It(r:Ren):List Nat→List (Nat×Nat)→Ren
 | c :: cs,d :: ds=>It (rq r c (some d.1)) cs ds
 | _,_=>r
def P1(r:Ren):kB→a8→Ren
 | .ag c,.ag id _=>rq r c (some id)
 | .ag c,.nil _=>rq r c none
 | .au c,.ag id _=>rq r c (some id)
 | .bY _ dp,.bY _ ds _ _=>It r dp ds
 | .bY _ (c :: _),.ag id _=>rq r c (some id)
 | _,_=>r
def Bu(r:Ren):List kB→List a8→Ren
 | c :: cs,x :: xs=>Bu (P1 r c x) cs xs
 | _,_=>r
def P2(r:Ren):j'→a6→Ren
 | .cell c,.aS x=>P1 r c x
 | .cell (.ag c),.ko=>rq r c none
 | .hW cs,.hW xs=>Bu r cs xs
 | .ptr c,.ptr p=>rq r c (some p.id)
 | .dd dp cs,.dd ds xs _=>Bu (It r dp ds) cs xs
 | .opt c,.opt id _=>rq r c (some id)
 | _,_=>r
def P3(s:an)(r:Ren):List (Nat×j')→Ren
 | []=>r
 | (d,t) :: l=>P3 s (P2 r t (s.t d)) l
def P4(r:Ren):List j'→List a6→Ren
 | t :: l,x :: xs=>P4 (P2 r t x) l xs
 | _,_=>r
def Iu(s:an)(r:Ren):List (Nat×ic)→Ren
 | []=>r
 | (c,.var cs) :: l=>Iu s (match jt r c with
   | some (some id)=>(match s.o id with
    | .var _ xs=>Bu r cs xs
    | _=>r)
   | _=>r) l
 | _ :: l=>Iu s r l
def tg(dp:List Nat):List (Nat×Nat):=dp.map fun c=>(c,0)
def p6(r:Ren)(os:List (Nat×ic))(s:an):kB→a8→Option a8
 | .keep,c=>match c with
  | .int k x=>some (.int k x)
  | .bool b=>some (.bool b)
  | .str x=>some (.str x)
  | _=>none
 | .bY t dp,c=>cond (dp.all (gK os)&&(borrows s c).all fun d=>dp.any fun c=>jN r c d.1) ((oA s t c).bind fun x=>some (.bY t (tg dp) none x)) none
 | .ag k,c=>cond (gK os k) (match c with
  | .ag id sub=>cond (jN r k id) (some (.ag k sub)) none
  | .nil _=>cond (tf r k) (some (.ag k none)) none
  | _=>none) none
 | .au k,c=>cond (gK os k) (match c with
  | .ag id sub=>(match s.o id with
   | .row _ _ _ xs=>cond (jN r k id) (some (.ag k (some (ea sub,kT sub xs)))) none
   | _=>none)
  | _=>none) none
def nZ(r:Ren)(os:List (Nat×ic))(s:an):List kB→List a8→Option (List a8)
 | [],[]=>some []
 | c :: cs,x :: xs=>(p6 r os s c x).bind fun y=>(nZ r os s cs xs).bind fun ys=>some (y :: ys)
 | _,_=>none
def Bv(r:Ren)(os:List (Nat×ic))(s:an):j'→a6→Option a6
 | .cell c,.aS x=>(p6 r os s c x).bind fun y=>some (.aS y)
 | .cell (.ag k),.ko=>cond (gK os k&&tf r k) (some (.aS (.ag k none))) none
 | .cell (.bY t dp),.ko=>cond (dp.all (gK os)) (some (.aS (.bY t (tg dp) none []))) none
 | .hW cs,.hW xs=>(nZ r os s cs xs).bind fun ys=>some (.hW ys)
 | .ptr k,.ptr p=>cond (gK os k&&jN r k p.id) (some (.ptr { p with id:=k })) none
 | .dd dp cs,.dd ds xs off=>cond (dp.all (gK os)&&alive s ds&&ds.all fun d=>dp.any fun c=>jN r c d.1) ((nZ r os s cs xs).bind fun ys=>some (.dd (tg dp) ys off)) none
 | .opt k,.opt id o=>cond (gK os k&&jN r k id) (some (.opt k o)) none
 | .same,.jC=>some .jC
 | .same,.aC=>some .aC
 | .same,.fn f [] []=>some (.fn f [] [])
 | .drop,_=>some .aC
 | _,_=>none
def vV(r:Ren)(os:List (Nat×ic))(s:an):List j'→List a6→Option (List a6)
 | [],[]=>some []
 | t :: l,x :: xs=>(Bv r os s t x).bind fun v=>(vV r os s l xs).bind fun vs=>some (v :: vs)
 | _,_=>none
def Iv(r:Ren)(os:List (Nat×ic))(s:an):j'→a6→Option a6
 | .u0 a b,.fn f xs ys=>(vV r os s (a.map (j'.dd [])) xs).bind fun x=>(vV r os s (b.map (j'.dd [])) ys).bind fun y=>some (.fn f x y)
 | t,x=>Bv r os s t x
def Bw(r:Ren)(os:List (Nat×ic))(s:an):List (Nat×j')→Option (Nat→a6)
 | []=>some fun _=>.aC
 | (d,t) :: l=>(Iv r os s t (s.t d)).bind fun v=>(Bw r os s l).bind fun f=>some (bQ f d v)
def Iw(r:Ren)(os:List (Nat×ic))(s:an)(c:Nat)(t:ic):Option cj :=
 match jt r c with
 | some (some id)=>(match t,s.o id with
  | .row t em,.row u gb _ xs=>cond (a'.beq gb em||xs.isEmpty) ((ez (.sl u) (.sl t) xs).bind fun x=>some (.row t em 0 x)) none
  | .var cs,.var _ xs=>(nZ r os s cs xs).bind fun ys=>some (.var 0 ys)
  | _,_=>none)
 | some none=>(match t with
  | .row t em=>some (.row t em 0 [])
  | _=>none)
 | none=>none
def Bx(r:Ren)(os:List (Nat×ic))(s:an):List (Nat×ic)→Option (Nat→cj)
 | []=>some fun _=>.none
 | (c,t) :: l=>(Iw r os s c t).bind fun v=>(Bx r os s l).bind fun f=>some (bQ f c v)
def Ix(T:bV)(r:Ren)(s:an):Option an :=
 cond (oY (rp r)&&oY (Is r)) ((Bw r T.os s T.aj).bind fun t=>(Bx r T.os s T.os).bind fun o=>(vV r T.os s T.gs s.g).bind fun g=>some ⟨t,o,g⟩) none
def norm(T:bV)(s:an):Option an:=Ix T (Iu s (P4 (P3 s [] T.aj) T.gs s.g) T.os) s
section
variable{w0:World}{F0 Z0:ah}{n:cC}{s s0:an}{a:Act}{w:World}{ι aj':Nat→bD}{Z:ah}{r:Ren}{os:List (Nat×ic)}
def iota(r:Ren)(ι : Nat→bD):Nat→bD:=fun c=>match jt r c with
 | some (some id) => ι id
 | _=>⟨none,0,ah.none⟩
theorem rr{c id:Nat}(h:jN r c id=true):jt r c=some (some id):=by
 unfold jN at h
 split at h
 ·rename_i i hi;rw [hi,Nat.eq_of_beq_eq_true h]
 ·cases h
theorem P5{c:Nat}(h:tf r c=true):jt r c=some none:=by
 unfold tf at h
 split at h
 ·rename_i hi;exact hi
 ·cases h
theorem By{c id:Nat}(h:jN r c id=true):iota r ι c = ι id:=by unfold iota;rw [rr h]
theorem ZP{c:Nat}(h:tf r c=true):iota r ι c=⟨none,0,ah.none⟩:=by unfold iota;rw [P5 h]
def l4(r:Ren)(os:List (Nat×ic))(s s0:an):Prop:=∀c,(s0.o c=.none∧gK os c=false) ∨
 (∃id,jt r c=some (some id)∧((∃t em n0 ver xs,s.o id=.row t n0 ver xs∧s0.o c=.row t em 0 xs∧(n0=em∨xs=[]))∨(∃ver cs lp n1,s.o id=.var ver cs∧s0.o c=.var 0 lp∧nZ r os s n1 cs=some lp))) ∨
 (jt r c=some none∧∃t em,s0.o c=.row t em 0 [])
theorem l4.known(h:l4 r os s s0){c:Nat}(hc:gK os c=true):LM.known s0 c:=by
 intro h0
 rcases h c with⟨_,h1⟩ | ⟨id,_,⟨t,em,n0,ver,xs,_,h1,_⟩ | ⟨ver,cs,lp,n1,_,h1,_⟩⟩ | ⟨_,t,em,h1⟩
 ·rw [hc] at h1;cases h1
 all_goals rw [h1] at h0;cases h0
theorem l4.dep(h:l4 r os s s0){c:Nat}(hc:gK os c=true):ei s0 (c,0):=⟨h.known hc,.inr (Nat.zero_le _)⟩
theorem P6(h:l4 r os s s0){dp:List Nat}(ag:dp.all (gK os)=true):∀d,d∈tg dp→ei s0 d:=by
 intro d iW
 unfold tg at iW
 obtain ⟨c,hc,rfl⟩:=List.mem_map.1 iW
 exact h.dep (List.all_eq_true.1 ag c hc)
theorem P7{dp:List Nat}{ds:List (Nat×Nat)}(h:∀d,d∈ds→(dp.any fun c=>jN r c d.1)=true):ah.sub (c9 ι ds) (c9 (iota r ι) (tg dp)):=by
 rintro b o ⟨d,ag,hf⟩
 obtain ⟨c,hc,cl⟩:=List.any_eq_true.1 (h d ag)
 refine⟨(c,0),List.mem_map.2 ⟨c,hc,rfl⟩,?_⟩
 rw [By cl]
 exact hf
theorem Bz(h:Inv w0 F0 Z0 n s a w ι Z)(bL:l4 r os s s0){c:kB}{x y:a8}{v:Value}(hn:p6 r os s c x=some y)(hx:cf w Z s ι x v):cf w Z s0 (iota r ι) y v:=by
 cases c with
 | keep =>
  cases x <;> simp only [p6,Option.some.injEq] at hn <;> first | (cases hn;done) | (subst hn;exact hx)
 | bY t dp =>
  simp only [p6] at hn
  cases hc:(dp.all (gK os)&&(borrows s x).all fun d=>dp.any fun c=>jN r c d.1)
  ·rw [hc] at hn;cases hn
  rw [hc] at hn
  simp only [cond_true] at hn
  simp only [Bool.and_eq_true] at hc
  obtain ⟨xs,hl,hn⟩:=bb hn
  obtain rfl:=aU hn
  obtain ⟨h1,h2,h3⟩:=GQ h hl hx
  have kt:=P7 (ι := ι) (r:=r) (dp:=dp) (ds:=borrows s x) fun d ag=>List.all_eq_true.1 hc.2 d ag
  have h4:=ad.al.mono (Z':=Z.or (c9 (iota r ι) (tg dp))) (fun b o hz=>hz.elim .inl fun h=>.inr (kt b o h)) _ _ (fun _ _ h=>h) h1
  refine⟨P6 bL hc.1,?_,fun _=>h4,.none⟩
  simp only [ad.al] at h4
  obtain ⟨A,c,hv,_⟩:=h4
  simp only [List.cons.injEq,and_true] at hv
  exact⟨A,_,c,hv⟩
 | ag k =>
  simp only [p6] at hn
  cases hc:gK os k
  ·rw [hc] at hn;cases hn
  rw [hc] at hn
  simp only [cond_true] at hn
  cases x with
  | ag id sub =>
   simp only at hn
   cases cl:jN r k id
   ·rw [cl] at hn;cases hn
   rw [cl] at hn
   obtain rfl:=aU hn
   obtain ⟨h1,A,m,jG,hv,h2⟩:=hx
   refine⟨bL.known hc,A,m,jG,hv,fun t em ver xs bU=>?_⟩
   rw [By cl]
   rcases bL k with⟨h0,_⟩ | ⟨dV,h0,⟨dk,gb,P8,mJ,fB,g1,g2,ge⟩ | ⟨mJ,cs,lp,n1,g1,g2,_⟩⟩ | ⟨h0,dk,gb,g2⟩
   ·rw [h0] at bU;cases bU
   ·rw [rr cl] at h0
    injection h0 with h0;injection h0 with h0;subst h0
    rw [g2] at bU
    simp only [cj.core,cj.row.injEq] at bU
    obtain ⟨rfl,rfl,rfl,bU⟩:=bU
    have:=eq_of_heq bU;subst this
    exact h2 _ _ _ _ (kY g1)
   ·rw [g2] at bU;cases bU
   ·rw [rr cl] at h0;cases h0
  | nil u =>
   simp only at hn
   cases cl:tf r k
   ·rw [cl] at hn;cases hn
   rw [cl] at hn
   obtain rfl:=aU hn
   have hv:v=.slice none 0 0:=hx
   refine⟨bL.known hc,none,0,0,hv,fun t em ver xs bU=>?_⟩
   rw [ZP cl]
   rcases bL k with⟨h0,_⟩ | ⟨dV,h0,_⟩ | ⟨h0,dk,gb,g2⟩
   ·rw [h0] at bU;cases bU
   ·rw [P5 cl] at h0;cases h0
   ·rw [g2] at bU
    simp only [cj.core,cj.row.injEq] at bU
    obtain ⟨rfl,rfl,rfl,bU⟩:=bU
    have:=eq_of_heq bU;subst this
    exact⟨rfl,Nat.le_refl _,Nat.le_refl _,Nat.le_refl _,.inl rfl⟩
  | _=>cases hn
 | au k =>
  simp only [p6] at hn
  cases hc:gK os k
  ·rw [hc] at hn;cases hn
  rw [hc] at hn
  simp only [cond_true] at hn
  cases x with
  | ag id sub =>
   simp only at hn
   cases hrow:s.o id with
   | row t2 Xk Xl Xm =>
    rw [hrow] at hn
    simp only at hn
    cases cl:jN r k id
    ·rw [cl] at hn;cases hn
    rw [cl] at hn
    obtain rfl:=aU hn
    obtain ⟨h1,A,m,jG,hv,h2⟩:=hx
    refine⟨bL.known hc,A,m,jG,hv,fun t em ver xs bU=>?_⟩
    rw [By cl]
    rcases bL k with⟨h0,_⟩ | ⟨dV,h0,⟨dk,gb,P8,mJ,fB,g1,g2,ge⟩ | ⟨mJ,cs,lp,n1,g1,g2,_⟩⟩ | ⟨h0,dk,gb,g2⟩
    ·rw [h0] at bU;cases bU
    ·rw [rr cl] at h0
     injection h0 with h0;injection h0 with h0;subst h0
     rw [g2] at bU
     simp only [cj.core,cj.row.injEq] at bU
     obtain ⟨rfl,rfl,rfl,bU⟩:=bU
     have:=eq_of_heq bU;subst this
     rw [hrow] at g1
     simp only [cj.row.injEq] at g1
     obtain ⟨rfl,rfl,rfl,g1⟩:=g1
     have:=eq_of_heq g1;subst this
     have h3:=h2 _ _ _ _ (kY hrow)
     cases sub with
     | none=>exact⟨h3.NO,h3.fits,h3.le,h3.cap,h3.at_⟩
     | some p=>exact h3
    ·rw [g2] at bU;cases bU
    ·rw [rr cl] at h0;cases h0
   | _=>rw [hrow] at hn;cases hn
  | _=>cases hn
theorem BA(h:Inv w0 F0 Z0 n s a w ι Z)(bL:l4 r os s s0):∀ {cs:List kB} {xs ys:List a8} {vs:List Value},nZ r os s cs xs=some ys→bH w Z s ι xs vs→bH w Z s0 (iota r ι) ys vs
 | [],[],ys,vs,hn,hx=>by
  obtain rfl:=aU hn
  cases vs with
  | nil=>trivial
  | cons=>exact hx.elim
 | [],_ :: _,_,_,hn,_=>by cases hn
 | _ :: _,[],_,_,hn,_=>by cases hn
 | c :: cs,x :: xs,ys,vs,hn,hx=>by
  simp only [nZ] at hn
  obtain ⟨y,h1,hn⟩:=bb hn
  obtain ⟨P9,h2,hn⟩:=bb hn
  obtain rfl:=aU hn
  cases vs with
  | nil=>exact hx.elim
  | cons v vs=>exact⟨Bz h bL h1 hx.1,BA h bL h2 hx.2⟩
theorem Iy:∀ {cs:List kB} {xs ys:List a8},nZ r os s cs xs=some ys→ys.length=xs.length
 | [],[],_,hn=>by obtain rfl:=aU hn;rfl
 | [],_ :: _,_,hn=>by cases hn
 | _ :: _,[],_,hn=>by cases hn
 | c :: cs,x :: xs,ys,hn=>by
  simp only [nZ] at hn
  obtain ⟨y,h1,hn⟩:=bb hn
  obtain ⟨P9,h2,hn⟩:=bb hn
  obtain rfl:=aU hn
  simp [Iy h2]
theorem P_(bL:l4 r os s s0){k:Nat}{p:Place}{A:Addr}(hc:gK os k=true)(cl:jN r k p.id=true)(au:iR s ι p A):iR s0 (iota r ι) { p with id:=k } A:=by
 obtain ⟨h1,h2⟩:=au
 refine⟨h1,?_⟩
 show match (s0.o k).core with | .var _ cs=>_ | .row t _ _ xs=>_ | _=>_
 rw [By cl]
 rcases bL k with⟨h0,_⟩ | ⟨dV,h0,⟨dk,gb,P8,mJ,fB,g1,g2,ge⟩ | ⟨mJ,cs,lp,n1,g1,g2,_⟩⟩ | ⟨h0,dk,gb,g2⟩
 ·rw [h0];trivial
 ·rw [rr cl] at h0
  injection h0 with h0;injection h0 with h0;subst h0
  rw [g2]
  rw [g1] at h2
  exact h2
 ·rw [rr cl] at h0
  injection h0 with h0;injection h0 with h0;subst h0
  rw [g2]
  rw [g1] at h2
  exact h2
 ·rw [rr cl] at h0;cases h0
theorem P'(h:Inv w0 F0 Z0 n s a w ι Z)(bL:l4 r os s s0){t:j'}{x y:a6}{v:Value}(hn:Bv r os s t x=some y)(hx:aO w Z s ι x v):aO w Z s0 (iota r ι) y v:=by
 unfold Bv at hn
 split at hn
 ·obtain ⟨z,h1,hn⟩:=bb hn
  obtain rfl:=aU hn
  simp only [aO] at hx ⊢
  exact Bz h bL h1 hx
 ·rename_i k
  cases hc:(gK os k&&tf r k)
  ·rw [hc] at hn;cases hn
  rw [hc] at hn
  simp only [Bool.and_eq_true] at hc
  obtain rfl:=aU hn
  simp only [aO] at hx ⊢
  exact Bz (c:=.ag k) (x:=.nil .bool) h bL (by simp only [p6];rw [hc.1,hc.2];rfl) hx
 ·rename_i t dp
  cases hc:dp.all (gK os)
  ·rw [hc] at hn;cases hn
  rw [hc] at hn
  obtain rfl:=aU hn
  simp only [aO] at hx ⊢
  refine Bz (c:=.bY t dp) (x:=.nil t) h bL ?_ hx
  simp only [p6,hc,borrows,List.all_nil,Bool.and_true,cond_true]
  simp only [oA,ez]
  rw [dif_pos (ad.beq_refl _)]
  rfl
 ·obtain ⟨z,h1,hn⟩:=bb hn
  obtain rfl:=aU hn
  simp only [aO] at hx ⊢
  obtain ⟨vs,hv,hx⟩:=hx
  exact⟨vs,hv,BA h bL h1 hx⟩
 ·rename_i k p
  cases hc:(gK os k&&jN r k p.id)
  ·rw [hc] at hn;cases hn
  rw [hc] at hn
  simp only [Bool.and_eq_true] at hc
  obtain rfl:=aU hn
  simp only [aO] at hx ⊢
  obtain ⟨_,A,hv,au⟩:=hx
  exact⟨bL.known hc.1,A,hv,P_ bL hc.1 hc.2 au⟩
 ·rename_i dp cs ds xs off
  cases hc:(dp.all (gK os)&&alive s ds&&ds.all fun d=>dp.any fun c=>jN r c d.1)
  ·rw [hc] at hn;cases hn
  rw [hc] at hn
  simp only [Bool.and_eq_true] at hc
  simp only [cond_true] at hn
  obtain ⟨z,h1,hn⟩:=bb hn
  obtain rfl:=aU hn
  simp only [aO] at hx ⊢
  obtain ⟨_,b,o,vs,hv,hx⟩:=hx
  obtain ⟨g1,g2,g3⟩:=hx hc.1.2
  have kt:=P7 (ι := ι) (r:=r) (dp:=dp) (ds:=ds) fun d ag=>List.all_eq_true.1 hc.2 d ag
  refine⟨P6 bL hc.1.1,b,o,vs,hv,fun _=>⟨BA h bL h1 g1,g2,fun j hj=>?_⟩⟩
  rw [Iy h1] at hj
  exact(g3 j hj).elim .inl fun h=>.inr (kt _ _ h)
 ·rename_i k id o
  cases hc:(gK os k&&jN r k id)
  ·rw [hc] at hn;cases hn
  rw [hc] at hn
  simp only [Bool.and_eq_true] at hc
  obtain rfl:=aU hn
  simp only [aO] at hx ⊢
  obtain ⟨_,hx⟩:=hx
  exact⟨bL.known hc.1,hx.imp (fun h=>h) fun⟨h1,A,hv,au⟩=>⟨h1,A,hv,P_ (p:=⟨id,some o.toNat,0⟩) bL hc.1 hc.2 au⟩⟩
 ·obtain rfl:=aU hn
  simpa only [aO] using hx
 ·obtain rfl:=aU hn
  simp only [aO]
 ·obtain rfl:=aU hn
  simpa only [aO,aX] using hx
 ·obtain rfl:=aU hn
  simp only [aO]
 ·cases hn
theorem BB(h:Inv w0 F0 Z0 n s a w ι Z)(bL:l4 r os s s0):∀ {aj:List j'} {xs ys:List a6} {vs:List Value},vV r os s aj xs=some ys→aX w Z s ι xs vs→aX w Z s0 (iota r ι) ys vs
 | [],[],ys,vs,hn,hx=>by obtain rfl:=aU hn;simpa only [aX] using hx
 | [],_ :: _,_,_,hn,_=>by cases hn
 | _ :: _,[],_,_,hn,_=>by cases hn
 | t :: aj,x :: xs,ys,vs,hn,hx=>by
  simp only [vV] at hn
  obtain ⟨y,h1,hn⟩:=bb hn
  obtain ⟨P9,h2,hn⟩:=bb hn
  obtain rfl:=aU hn
  simp only [aX] at hx ⊢
  obtain ⟨v,bE,rfl,g1,g2⟩:=hx
  exact⟨v,bE,rfl,P' h bL h1 g1,BB h bL h2 g2⟩
theorem ZQ(h:Inv w0 F0 Z0 n s a w ι Z)(bL:l4 r os s s0){t:j'}{x y:a6}{v:Value}(hn:Iv r os s t x=some y)(hx:aO w Z s ι x v):aO w Z s0 (iota r ι) y v:=by
 unfold Iv at hn
 split at hn
 ·obtain ⟨U,h1,hn⟩:=bb hn
  obtain ⟨aka,h2,hn⟩:=bb hn
  obtain rfl:=aU hn
  simp only [aO] at hx ⊢
  obtain ⟨us,vs,rfl,k1,k2⟩:=hx
  exact⟨us,vs,rfl,BB h bL h1 k1,BB h bL h2 k2⟩
 ·exact P' h bL hn hx
theorem Qa(h:Inv w0 F0 Z0 n s a w ι Z)(bL:l4 r os s s0):∀ {aj:List (Nat×j')} {f:Nat→a6},Bw r os s aj=some f→∀k,aO w Z s0 (iota r ι) (f k) (a.tmps.getD k undef)
 | [],f,hn,k=>by obtain rfl:=aU hn;simp only [aO]
 | (d,t) :: l,f,hn,k=>by
  simp only [Bw] at hn
  obtain ⟨v,h1,hn⟩:=bb hn
  obtain ⟨g,h2,hn⟩:=bb hn
  obtain rfl:=aU hn
  by_cases hk:d=k
  ·subst hk;rw [ct];exact ZQ h bL h1 (h.tmps d)
  ·rw [cO hk];exact Qa h bL h2 k
theorem ZR{c:Nat}{t:ic}{v:cj}(hn:Iw r os s c t=some v) :
  (∃id,jt r c=some (some id)∧((∃t em n0 ver xs,s.o id=.row t n0 ver xs∧v=.row t em 0 xs∧(n0=em∨xs=[]))∨(∃ver cs lp n1,s.o id=.var ver cs∧v=.var 0 lp∧nZ r os s n1 cs=some lp)))∨(jt r c=some none∧∃t em,v=.row t em 0 []):=by
 unfold Iw at hn
 split at hn
 ·rename_i id hl
  refine .inl ⟨id,hl,?_⟩
  split at hn
  ·rename_i t em u gb ver xs ho
   cases hb:(a'.beq gb em||xs.isEmpty)
   ·rw [hb] at hn;cases hn
   rw [hb] at hn
   obtain ⟨x,h1,hn⟩:=bb hn
   obtain rfl:=aU hn
   simp only [Bool.or_eq_true] at hb
   obtain ⟨e,rfl⟩:=gD h1
   subst e
   refine .inl ⟨_,_,_,_,_,ho,rfl,?_⟩
   rcases hb with hb | hb
   ·exact .inl (a'.eq_of_beq _ _ hb)
   ·exact .inr (List.isEmpty_iff.1 hb)
  ·rename_i cs ver xs ho
   obtain ⟨ys,h1,hn⟩:=bb hn
   obtain rfl:=aU hn
   exact .inr ⟨_,_,_,_,ho,rfl,h1⟩
  ·cases hn
 ·rename_i hl
  split at hn
  ·obtain rfl:=aU hn;exact .inr ⟨hl,_,_,rfl⟩
  ·cases hn
 ·cases hn
theorem BC:∀ {l:List (Nat×ic)} {f:Nat→cj},Bx r os s l=some f→∀c,(f c=.none∧gK l c=false) ∨
  (∃id,jt r c=some (some id)∧((∃t em n0 ver xs,s.o id=.row t n0 ver xs∧f c=.row t em 0 xs∧(n0=em∨xs=[]))∨(∃ver cs lp n1,s.o id=.var ver cs∧f c=.var 0 lp∧nZ r os s n1 cs=some lp))) ∨
  (jt r c=some none∧∃t em,f c=.row t em 0 [])
 | [],f,hn,c=>by obtain rfl:=aU hn;exact .inl ⟨rfl,rfl⟩
 | (d,t) :: l,f,hn,c=>by
  simp only [Bx] at hn
  obtain ⟨v,h1,hn⟩:=bb hn
  obtain ⟨g,h2,hn⟩:=bb hn
  obtain rfl:=aU hn
  by_cases hk:d=c
  ·subst hk;rw [ct];exact .inr (ZR h1)
  ·rw [cO hk]
   rcases BC h2 c with⟨g1,g2⟩ | g
   ·refine .inl ⟨g1,?_⟩
    unfold gK
    have:Nat.beq d c=false:=by
     cases hb:Nat.beq d c
     ·rfl
     ·exact absurd (Nat.eq_of_beq_eq_true hb) hk
    rw [this]
    exact g2
   ·exact .inr g
theorem Iz{c:Nat}{v:Option Nat} : ∀ {r:Ren},jt r c=some v→(c,v)∈r
 | [],h=>by cases h
 | (k,u) :: l,h=>by
  unfold jt at h
  cases hb:Nat.beq k c
  ·rw [hb] at h;exact List.mem_cons_of_mem _ (Iz h)
  ·rw [hb] at h
   obtain rfl:=aU h
   obtain rfl:=Nat.eq_of_beq_eq_true hb
   exact List.mem_cons_self
theorem Qb{c id:Nat} : ∀ {r:Ren},(c,some id)∈r→id∈rp r
 | (k,u) :: l,h=>by
  rcases List.mem_cons.1 h with h | h
  ·injection h with h1 h2
   subst h1 h2
   exact List.mem_cons_self
  ·have:=Qb h
   cases u with
   | none=>exact this
   | some i=>exact List.mem_cons_of_mem _ this
theorem IA{c c' id:Nat} : ∀ {r:Ren},oY (rp r)=true→(c,some id)∈r→(c',some id)∈r→c=c'
 | (k,u) :: l,hn,h,h'=>by
  cases u with
  | none =>
   simp only [rp] at hn
   rcases List.mem_cons.1 h with h | h
   ·injection h with _ h2;cases h2
   rcases List.mem_cons.1 h' with h' | h'
   ·injection h' with _ h2;cases h2
   exact IA hn h h'
  | some i =>
   simp only [rp,oY,Bool.and_eq_true,Bool.not_eq_true'] at hn
   have bP:∀ {x},(x,some i)∈l→False:=by
    intro x hx
    have:=Qb hx
    have h3:=List.any_eq_false.1 hn.1 i this
    simp at h3
   rcases List.mem_cons.1 h with g | g
   ·injection g with h1 h2;injection h2 with h2
    rcases List.mem_cons.1 h' with th | th
    ·injection th with h3 h4;rw [h1,h3]
    ·exact(bP (h2 ▸ th)).elim
   ·rcases List.mem_cons.1 h' with th | th
    ·injection th with h1 h2;injection h2 with h2
     exact(bP (h2 ▸ g)).elim
    ·exact IA hn.2 g th
theorem ZS{T:bV}(vW:n.gc=[])(hn:Ix T r s=some s0)(hs:cT w0 F0 Z0 n s a w):cT w0 F0 Z0 n s0 a w:=by
 obtain ⟨ι,Z,h⟩:=hs
 unfold Ix at hn
 cases hO:(oY (rp r)&&oY (Is r))
 ·rw [hO] at hn;cases hn
 rw [hO] at hn
 simp only [Bool.and_eq_true] at hO
 simp only [cond_true] at hn
 obtain ⟨ZT,h1,hn⟩:=bb hn
 obtain ⟨b3,h2,hn⟩:=bb hn
 obtain ⟨ZU,h3,hn⟩:=bb hn
 obtain rfl:=aU hn
 have bL:l4 r T.os s ⟨ZT,b3,ZU⟩:=BC h2
 have live:∀c,(b3 c).live→(∃id,jt r c=some (some id)∧(s.o id).live∧iota r ι c = ι id)∨(iota r ι c=⟨none,0,ah.none⟩):=by
  intro c hl
  rcases BC h2 c with⟨g,_⟩ | ⟨id,g,⟨t,em,n0,ver,xs,g1,g2,ge⟩ | ⟨ver,cs,lp,n1,g1,g2,_⟩⟩ | ⟨g,_⟩
  ·rw [g] at hl;exact hl.elim
  ·exact .inl ⟨id,g,by rw [g1];trivial,by unfold iota;rw [g]⟩
  ·exact .inl ⟨id,g,by rw [g1];trivial,by unfold iota;rw [g]⟩
  ·exact .inr (by unfold iota;rw [g])
 refine⟨iota r ι,Z,h.ext,h.dA,h.q1,h.iw,?_,?_,?_,?_,Qa h bL h1,h.size,BB h bL h3 h.ghost,by rw [vW];intro e he;simp at he,h.defers⟩
 ·intro c
  show hD w Z _ _ _ (b3 c)
  rcases BC h2 c with⟨g,_⟩ | ⟨id,g,⟨t,em,n0,ver,xs,g1,g2,ge⟩ | ⟨ver,cs,lp,n1,g1,g2,g3⟩⟩ | ⟨g,t,em,g2⟩
  ·rw [g];trivial
  ·rw [g2]
   have:=h.fA id
   rw [g1] at this
   have hi:iota r ι c = ι id:=by unfold iota;rw [g]
   rw [hi]
   rcases ge with rfl | rfl
   ·exact this
   ·rcases this with k | ⟨a0,k1,k2⟩
    ·exact .inl k
    ·obtain ⟨k3,bf,bs,c_,G,dh,ee,gG⟩:=k2
     exact .inr ⟨a0,k1,k3,bf,bs,c_,G,trivial,ee,gG⟩
  ·rw [g2]
   have:=h.fA id
   rw [g1] at this
   have hi:iota r ι c = ι id:=by unfold iota;rw [g]
   rw [hi]
   obtain ⟨a0,vs,k1,k2,k3,bf,bs⟩:=this
   exact⟨a0,vs,k1,k2,BA h bL g3 k3,bf,fun j hj=>bs j (by rw [← Iy g3];exact hj)⟩
  ·rw [g2]
   exact .inl ⟨rfl,by unfold iota;rw [g]⟩
 ·intro c hl b o hf
  rcases live c hl with⟨id,_,g2,g3⟩ | g
  ·rw [g3] at hf;exact h.own id g2 b o hf
  ·rw [g] at hf;exact hf.elim
 ·intro c c' hl fS hne b o hf h9
  rcases live c hl with⟨id,g1,g2,g3⟩ | g
  ·rcases live c' fS with⟨dV,k1,k2,k3⟩ | k
   ·rw [g3] at hf
    rw [k3] at h9
    refine h.apart id dV g2 k2 (fun e=>?_) b o hf h9
    subst e
    exact hne (IA hO.1 (Iz g1) (Iz k1))
   ·rw [k] at h9;exact h9.elim
  ·rw [g] at hf;exact hf.elim
 ·intro c hl b o hf hz
  rcases live c hl with⟨id,g1,g2,g3⟩ | g
  ·rw [g3] at hf;exact h.cY id g2 b o hf hz
  ·rw [g] at hf;exact hf.elim
theorem ZV{T:bV}(vW:n.gc=[])(hn:norm T s=some s0)(hs:cT w0 F0 Z0 n s a w):cT w0 F0 Z0 n s0 a w:=ZS vW hn hs
end
end Go.LM
namespace Go.LM
def BD:List (Nat×List Item)→Nat→Option (List Item)
 | [],_=>none
 | (k,x) :: l,r=>cond (Nat.beq k r) (some x) (BD l r)
def Qc(body:Code)(bB:Nat):Option (List Item):=BD (gw [.code body]) bB
def x9:List (Nat×List Item)→List Nat
 | []=>[]
 | (k,_) :: l=>k :: x9 l
def IB(body:Code):Bool:=oY (x9 (gw [.code body]))
theorem Qd{k:Nat}{x:List Item} : ∀ {l:List (Nat×List Item)},(k,x)∈l→k∈x9 l
 | (k',bz) :: l,h=>by
  rcases List.mem_cons.1 h with h | h
  ·injection h with h1 h2;rw [h1];exact List.mem_cons_self
  ·exact List.mem_cons_of_mem _ (Qd h)
theorem Qe{k:Nat}{x:List Item} : ∀ {l:List (Nat×List Item)},oY (x9 l)=true→(k,x)∈l→BD l k=some x
 | (k',bz) :: l,hn,h=>by
  simp only [x9,oY,Bool.and_eq_true,Bool.not_eq_true'] at hn
  unfold BD
  rcases List.mem_cons.1 h with h | h
  ·injection h with h1 h2
   rw [h1,Nat.beq_refl,h2]
   rfl
  ·have hne:Nat.beq k' k=false:=by
    have h3:=List.any_eq_false.1 hn.1 k (Qd h)
    cases hb:Nat.beq k' k
    ·rfl
    ·rw [Nat.eq_of_beq_eq_true hb] at h3;simp at h3
   rw [hne]
   exact Qe hn.2 h
section
variable{br : Type}
def IC(gL:Nat→Option bV)(k:Nat→an→Option br)(bB:Nat)(s:an):Option br :=
 match gL bB with
 | some T=>(norm T s).bind (k bB)
 | none=>none
def ID(gL:Nat→Option bV)(bB:Nat):Bool:=(gL bB).isSome
def IE(gL:Nat→Option bV)(fin:an→Option br)(k:Nat→an→Option br):Hand br :=⟨fun r _ s=>IC gL k r s,fin⟩
noncomputable def IF(E:Env)(gL:Nat→Option bV)(body:Code)(fin:an→Option br)(k:Nat→an→Option br)(bB:Nat)(s:an):Option br :=
 match Qc body bB with
 | some todo=>jF E (ID gL) (IE gL fin k) 100000 true todo s
 | none=>none
noncomputable def n2(E:Env)(gL:Nat→Option bV)(body:Code)(fin:an→Option br):Nat→Nat→an→Option br
 | 0,_,_=>none
 | m+1,bB,s=>IF E gL body fin (n2 E gL body fin m) bB s
end
def ti(E:Env):List ResultVar→an→Option (List a6)
 | [],_=>some []
 | .tmp t :: l,s=>(ti E l s).bind fun vs=>some (s.t t :: vs)
 | .cell a ty :: l,s =>
  match E.ty ty,s.t a with
  | some T,.ptr p=>((lG s T.size p).bind (jD T)).bind fun v=>(ti E l s).bind fun vs=>some (v :: vs)
  | _,_=>none
def l5(key:Nat):List bw→List a6→List a6
 | .fn lF _ :: _,_ :: l=>[.fn key (l.take lF) (l.drop lF)]
 | .val _ _ :: ps,v :: l | .gQ _ :: ps,v :: l | .gP _ _ :: ps,v :: l | .ref _ :: ps,v :: l | .mut _ _ _ :: ps,v :: l=>v :: l5 key ps l
 | _,_=>[]
def BE:List bw→Bool
 | []=>true
 | .fn lF oy :: l=>Nat.beq l.length (lF+oy)
 | .val _ _ :: l | .gQ _ :: l | .gP _ _ :: l | .ref _ :: l | .mut _ _ _ :: l=>BE l
def Qf(key:Nat)(e:Entry)(x:(bw.ins e.ps).D):Option an :=
 (kA key e.ps x 1099511627776 ⟨fun _=>.aC,fun _=>.none,[]⟩).bind fun q=>some ⟨fun k=>(l5 key e.ps q.1).getD k .aC,q.2.1.o,q.1⟩
def oZ(E:Env)(fn:Func)(e:Entry)(s:an):Option (cS.outs e.rs (bw.dU e.ps)).D :=
 (ti E fn.results.toList s).bind fun vs=>gJ e.ps s.g e.rs vs s
noncomputable def vX(E:Env)(fn:Func)(body:Code)(gL:Nat→Option bV)(key:Nat)(e:Entry)(k:Nat→an→Option (cS.outs e.rs (bw.dU e.ps)).D)(x:(bw.ins e.ps).D):Option (cS.outs e.rs (bw.dU e.ps)).D :=
 (Qf key e x).bind fun s=>jF E (ID gL) (IE gL (oZ E fn e) k) 100000 false [.code body] s
section
variable{P:Program}{w0:World}{F0 Z0:ah}{n:cC}{s aq:an}{a b6:Act}{w w':World}{ι ba:Nat→bD}{Z Z':ah}{E:Env}{br : Type}{r : br}
def ZW(w0:World)(F0 Z0:ah)(n:cC)(fin:an→Option br)(r : br)(todo:List Item)(a:Act)(w:World):Prop :=
 (todo=[]∨∃k,todo=.code .ret :: k)∧∃s,fin s=some r∧cT w0 F0 Z0 n s a w
theorem Qg{gL:Nat→Option bV}{body:Code}{fin:an→Option br}(bL:jr P E)(hn:E.n=n)(vW:n.gc=[])(hu:IB body=true):∀(m:Nat) (fuel:Nat) (first:Bool) (todo:List Item) (s:an) (a:Act) (w:World),
  (∀p,p∈gw todo→p∈gw [.code body])→jF E (ID gL) (IE gL fin (n2 E gL body fin m)) fuel first todo s=some r→cT w0 F0 Z0 n s a w→∀(b:Frame) (cs:List Frame),
  ∃oX b6 w',ZW w0 F0 Z0 n fin r oX b6 w'∧Steps P (lone (b.at a todo) cs w) (lone (b.at b6 oX) cs w')
 | m,fuel,first,todo,s,a,w,hc,hk,hs,b,cs=>by
  obtain ⟨t1,s1,a1,nV,h1,h2,h3,h4⟩:=PX bL hn fuel first todo s a w hk hs b cs
  rcases h2 with⟨bB,ops,hC,k,rfl,iA,p5⟩ | ⟨lq,hfin⟩
  ·have x_:IC gL (n2 E gL body fin m) bB s1=some r:=p5
   unfold IC at x_
   cases bW:gL bB with
   | none=>rw [bW] at x_;cases x_
   | some T =>
    rw [bW] at x_
    obtain ⟨s2,g1,g2⟩:=bb x_
    have nP:=ZV vW g1 h1
    cases m with
    | zero=>cases g2
    | succ m =>
     unfold n2 IF at g2
     have iX:(bB,(.code (.region bB ops hC) :: k:List Item))∈gw [.code body]:=hc _ (h3 _ (by simp [gw,ln]))
     have ZX:Qc body bB=some (.code (.region bB ops hC) :: k):=Qe hu iX
     rw [ZX] at g2
     simp only at g2
     obtain ⟨dk,b6,w',c4,eC⟩:=Qg bL hn vW hu m 100000 true _ s2 a1 nV (fun p au=>hc p (h3 p au)) g2 nP b cs
     exact⟨dk,b6,w',c4,h4.trans eC⟩
  ·exact⟨t1,a1,nV,⟨lq,s1,hfin,h1⟩,h4⟩
theorem l6{α : Type} : ∀x:Sem α,x.bind .pure=x
 | .pure a=>rfl
 | .load m a k=>by simp only [Sem.bind];exact congrArg _ (funext fun v=>l6 (k v))
 | .store m a v k=>by simp only [Sem.bind];exact congrArg _ (l6 k)
 | .new o k=>by simp only [Sem.bind];exact congrArg _ (funext fun v=>l6 (k v))
 | .shape r k=>by simp only [Sem.bind];exact congrArg _ (funext fun v=>l6 (k v))
 | .freeze a n k=>by simp only [Sem.bind];exact congrArg _ (l6 k)
 | .frozen a k=>by simp only [Sem.bind];exact congrArg _ (funext fun v=>l6 (k v))
 | .getObj r k=>by simp only [Sem.bind];exact congrArg _ (funext fun v=>l6 (k v))
 | .setObj r o k=>by simp only [Sem.bind];exact congrArg _ (l6 k)
 | .choose q k=>by simp only [Sem.bind];exact congrArg _ (funext fun v=>l6 (k v))
 | .sys c k=>by simp only [Sem.bind];exact congrArg _ (funext fun v=>l6 (k v))
 | .program k=>by simp only [Sem.bind];exact congrArg _ (funext fun v=>l6 (k v))
 | .mark m k=>by simp only [Sem.bind];exact congrArg _ (l6 k)
 | .halt h=>rfl
theorem l7{α β ZY : Type}(f : α → Sem β)(g : β → Sem ZY):∀x:Sem α,(x.bind f).bind g=x.bind fun a=>(f a).bind g
 | .pure a=>rfl
 | .load m a k=>by simp only [Sem.bind];exact congrArg _ (funext fun v=>l7 f g (k v))
 | .store m a v k=>by simp only [Sem.bind];exact congrArg _ (l7 f g k)
 | .new o k=>by simp only [Sem.bind];exact congrArg _ (funext fun v=>l7 f g (k v))
 | .shape r k=>by simp only [Sem.bind];exact congrArg _ (funext fun v=>l7 f g (k v))
 | .freeze a n k=>by simp only [Sem.bind];exact congrArg _ (l7 f g k)
 | .frozen a k=>by simp only [Sem.bind];exact congrArg _ (funext fun v=>l7 f g (k v))
 | .getObj r k=>by simp only [Sem.bind];exact congrArg _ (funext fun v=>l7 f g (k v))
 | .setObj r o k=>by simp only [Sem.bind];exact congrArg _ (l7 f g k)
 | .choose q k=>by simp only [Sem.bind];exact congrArg _ (funext fun v=>l7 f g (k v))
 | .sys c k=>by simp only [Sem.bind];exact congrArg _ (funext fun v=>l7 f g (k v))
 | .program k=>by simp only [Sem.bind];exact congrArg _ (funext fun v=>l7 f g (k v))
 | .mark m k=>by simp only [Sem.bind];exact congrArg _ (l7 f g k)
 | .halt h=>rfl
instance:LawfulMonad Sem:=LawfulMonad.mk' Sem (fun x=>l6 x) (fun _ _=>rfl) (fun x f g=>l7 f g x)
theorem Qh{α : Type}{f : α → Sem Value} : ∀ {as:List α} {vs:List Value},vs.length=as.length→(∀i (hi:i<as.length) (c5:i<vs.length),(f as[i]).run P w=.ok vs[i] w)→(as.mapM f).run P w=.ok vs w
 | [],[],_,_=>by rw [List.mapM_nil];exact run_pure _ _
 | [],_ :: _,h,_=>by simp at h
 | _ :: _,[],h,_=>by simp at h
 | x :: as,v :: vs,hl,h=>by
  have h0:=h 0 (by simp) (by simp)
  simp only [List.getElem_cons_zero] at h0
  rw [List.mapM_cons,run_bind,h0]
  simp only [run_bind]
  rw [Qh (as:=as) (vs:=vs) (by simpa using hl) fun i hi c5=>h (i+1) (by simpa using hi) (by simpa using c5)]
  simp only [run_pure]
theorem ZZ{α : Type}{f : α → Sem Value}{as:Array α}{vs:List Value}(hl:vs.length=as.size)(h:∀i (hi:i<as.toList.length) (c5:i<vs.length),(f as.toList[i]).run P w=.ok vs[i] w) :
  (as.mapM f).run P w=.ok vs.toArray w:=by
 rw [Array.mapM_eq_mapM_toList,map_eq_pure_bind,run_bind,Qh (by simpa using hl) h]
 rfl
theorem IG(bW:gE P E)(h:Inv w0 F0 Z0 n s a w ι Z):∀ {l:List ResultVar} {vs:List a6},ti E l s=some vs →
  ∃us,us.length=l.length∧aX w Z s ι vs us∧∀i (hi:i<l.length) (c5:i<us.length),((fun | .tmp t=>pure (a.tmps.getD t undef) | .cell b t=>do loadVar t (← asAddr (a.tmps.getD b undef)):ResultVar→Sem Value) l[i]).run P w=.ok us[i] w
 | [],vs,hr=>by
  obtain rfl:=aU hr
  exact⟨[],rfl,by simp only [aX],fun i hi=>by simp at hi⟩
 | .tmp t :: l,vs,hr=>by
  simp only [ti] at hr
  obtain ⟨bE,h1,hr⟩:=bb hr
  obtain rfl:=aU hr
  obtain ⟨us,g1,g2,g3⟩:=IG bW h h1
  refine⟨_ :: us,by simp [g1],by simp only [aX];exact⟨_,_,rfl,h.tmps t,g2⟩,fun i hi c5=>?_⟩
  cases i with
  | zero=>rfl
  | succ i=>exact g3 i (by simpa using hi) (by simpa using c5)
 | .cell b ty :: l,vs,hr=>by
  simp only [ti] at hr
  cases ht:E.ty ty with
  | none=>rw [ht] at hr;simp at hr
  | some T =>
   rw [ht] at hr
   cases au:s.t b with
   | ptr p =>
    rw [au] at hr
    simp only at hr
    obtain ⟨v,hv,hr⟩:=bb hr
    obtain ⟨bE,h1,hr⟩:=bb hr
    obtain rfl:=aU hr
    obtain ⟨cs,k1,k2⟩:=bb hv
    obtain ⟨us,g1,g2,g3⟩:=IG bW h h1
    have hx:=h.tmps b
    rw [au] at hx
    simp only [aO] at hx
    obtain ⟨_,A,he,fG⟩:=hx
    obtain ⟨cM,i0,ws,rfl,hc,cl,hlen⟩:=xy h k1 fG
    refine⟨dB T ws :: us,by simp [g1],by simp only [aX];exact⟨_,_,rfl,oH k2 hc,g2⟩,fun i hi c5=>?_⟩
    cases i with
    | zero =>
     show(do loadVar ty (← asAddr (a.tmps.getD b undef)):Sem Value).run P w=_
     rw [run_bind,he]
     show(loadVar ty (at_ cM i0)).run P w=_
     exact G8 (bW.ty ty T ht) cl hlen
    | succ i=>exact g3 i (by simpa using hi) (by simpa using c5)
   | _=>rw [au] at hr;simp at hr
theorem Z1{fn:Func}{vs:List a6}(bW:gE P E)(h:Inv w0 F0 Z0 n s a w ι Z)(hr:ti E fn.results.toList s=some vs) :
  ∃us,aX w Z s ι vs us∧(results fn a.tmps).run P w=.ok (nR us) w:=by
 obtain ⟨us,h1,h2,h3⟩:=IG bW h hr
 refine⟨us,h2,?_⟩
 unfold results
 rw [run_bind,ZZ (vs:=us) (by simpa using h1) (fun i hi c5=>by
  have:=h3 i hi c5
  revert this
  cases fn.results.toList[i] <;> exact fun h=>h)]
 simp only
 rw [run_pure]
 congr 1
 unfold nR
 split
 ·rename_i hs
  match us,hs with
  | [v],_=>rfl
  | [],hs=>simp at hs
  | _ :: _ :: _,hs=>simp at hs
 ·rename_i hs
  match us,hs with
  | [v],hs=>simp at hs
  | [],_=>rfl
  | _ :: _ :: _,_=>rfl
theorem Z2(us:List Value)(m k:Nat):((us.toArray++Array.replicate m undef).getD k undef)=us.getD k undef:=by
 rw [Array.getD_eq_getD_getElem?,List.getD_eq_getElem?_getD]
 by_cases hk:k<us.length
 ·rw [Array.getElem?_append_left (by simpa using hk)];simp
 ·rw [Array.getElem?_append_right (by simpa using Nat.le_of_not_lt hk)]
  rw [List.getElem?_eq_none (by omega)]
  simp only [List.size_toArray,Option.getD_none]
  by_cases ed:k-us.length<m
  ·rw [Array.getElem?_eq_getElem (by simpa using ed)];simp
  ·rw [Array.getElem?_eq_none (by simpa using Nat.le_of_not_lt ed)];rfl
theorem aX.getD:∀ {xs:List a6} {us:List Value},aX w Z s ι xs us→∀k,aO w Z s ι (xs.getD k .aC) (us.getD k undef)
 | [],us,h,k=>by simp only [List.getD_nil,aO]
 | x :: xs,us,h,k=>by
  simp only [aX] at h
  obtain ⟨u,aR,rfl,h1,h2⟩:=h
  cases k with
  | zero=>exact h1
  | succ k=>exact aX.getD h2 k
theorem aX.len:∀ {xs:List a6} {us:List Value},aX w Z s ι xs us→us.length=xs.length
 | [],us,h=>by simp only [aX] at h;rw [h];rfl
 | x :: xs,us,h=>by
  simp only [aX] at h
  obtain ⟨u,aR,rfl,h1,h2⟩:=h
  simp [aX.len h2]
theorem BF:∀ {t:ad} {m:a'} {x:t.D} {vs us:List Value} {F:ah},t.al w Z m x vs F→fP (dB t vs :: us)=fP us
 | .int k,_,_,_,_,_,h=>by simp only [ad.al] at h;subst h;rfl
 | .bool,_,_,_,_,_,h=>by simp only [ad.al] at h;subst h;rfl
 | .str,_,_,_,_,_,h=>by simp only [ad.al] at h;obtain ⟨b,rfl,_⟩:=h;rfl
 | .raw,_,_,_,_,_,h=>by simp only [ad.al] at h;obtain ⟨rfl,_,_,_,rfl⟩:=h;rfl
 | .sl t,.O e,_,_,_,_,h=>by simp only [ad.al] at h;obtain ⟨A,c,rfl,_⟩:=h;rfl
 | .sl t,.R,_,_,_,_,h=>by simp only [ad.al] at h;obtain ⟨A,c,rfl,_⟩:=h;rfl
 | .sl t,.S _,_,_,_,_,h=>by simp only [ad.al] at h;obtain ⟨A,c,rfl,_⟩:=h;rfl
 | .st aj,_,_,_,_,_,_=>rfl
theorem ru{key:Nat} : ∀(ps:List bw) (x:(bw.ins ps).D) (eE:List Value) (F:ah),gf w Z key ps x eE F→eE.length=ps.length
 | [],x,eE,F,h=>by rw [show eE=[] from h];rfl
 | .fn _ _ :: ps,x,eE,F,h=>by obtain ⟨a,b,aR,rfl,_,h2⟩:=h;simp [ru ps x aR F h2]
 | .val _ _ :: ps,x,eE,F,h=>by obtain ⟨v,aR,G,H,rfl,_,h2,_⟩:=h;simp [ru ps _ _ _ h2]
 | .gQ _ :: ps,x,eE,F,h=>by obtain ⟨v,aR,G,H,rfl,_,h2,_⟩:=h;simp [ru ps _ _ _ h2]
 | .gP _ _ :: ps,x,eE,F,h=>by obtain ⟨v,aR,G,H,rfl,_,h2,_⟩:=h;simp [ru ps _ _ _ h2]
 | .ref _ :: ps,x,eE,F,h=>by obtain ⟨b,o,v,aR,rfl,_,_,_,h2⟩:=h;simp [ru ps _ _ _ h2]
 | .mut _ _ _ :: ps,x,eE,F,h=>by obtain ⟨b,o,v,aR,G,H,rfl,_,_,_,h2,_⟩:=h;simp [ru ps _ _ _ h2]
theorem aX.split:∀ {q:List a6} {l k:List Value},aX w Z s ι q (l++k)→aX w Z s ι (q.take l.length) l∧aX w Z s ι (q.drop l.length) k
 | q,[],k,h=>by simp only [List.length_nil,List.take_zero,List.drop_zero,aX];exact⟨trivial,h⟩
 | [],u :: l,k,h=>by simp [aX] at h
 | v :: q,u :: l,k,h=>by
  simp only [List.cons_append,aX] at h
  obtain ⟨hK,us2,he,k1,k2⟩:=h
  injection he with e3 fH
  subst e3 fH
  obtain ⟨h1,h2⟩:=aX.split (q:=q) (l:=l) (k:=k) k2
  refine⟨?_,?_⟩
  ·simp only [List.length_cons,List.take_succ_cons,aX];exact⟨_,l,rfl,k1,h1⟩
  ·simpa only [List.length_cons,List.drop_succ_cons] using h2
theorem vY{key:Nat} : ∀(ps:List bw) (x:(bw.ins ps).D) (eE us:List Value) (F:ah) (q:List a6),BE ps=true→gf w Z key ps x eE F→eE=us++fP us→aX w Z s ι q eE→aX w Z s ι (l5 key ps q) us
 | [],x,eE,us,F,q,_,hA,gv,hq=>by
  have hA:eE=[]:=hA
  subst hA
  obtain ⟨rfl,_⟩:=List.append_eq_nil_iff.1 gv.symm
  cases q <;> simp only [l5,aX]
 | .fn lF oy :: ps,x,eE,us,F,q,b9,hA,gv,hq=>by
  obtain ⟨a,b,aR,rfl,⟨ha,hb⟩,h2⟩:=hA
  have hl:=ru _ _ _ _ h2
  have akb:=Nat.eq_of_beq_eq_true b9
  cases us with
  | nil=>cases gv
  | cons u us =>
   injection gv with e1 e2
   subst e1
   have hz:us=[]:=by
    have:=congrArg List.length e2
    simp [fP] at this
    exact List.length_eq_zero_iff.1 (by omega)
   subst hz
   simp only [fP,List.nil_append,List.append_nil] at e2
   subst e2
   cases q with
   | nil=>simp [aX] at hq
   | cons v q =>
    simp only [aX] at hq
    obtain ⟨hK,us2,he,_,k2⟩:=hq
    injection he with e3 fH
    subst e3 fH
    obtain ⟨k3,bf⟩:=aX.split (l:=a.toList) (k:=b.toList) k2
    simp only [l5,aX,aO]
    rw [Array.length_toList,ha] at k3 bf
    exact⟨_,[],rfl,⟨a.toList,b.toList,by simp,k3,bf⟩,rfl⟩
 | .val t m :: ps,x,eE,us,F,q,b9,hA,gv,hq=>by
  obtain ⟨vs,aR,G,H,rfl,h1,h2,_⟩:=hA
  cases us with
  | nil=>cases gv
  | cons u us =>
   injection gv with e1 e2
   subst e1
   rw [BF h1] at e2
   cases q with
   | nil=>simp [aX] at hq
   | cons v q =>
    simp only [aX] at hq
    obtain ⟨hK,us2,he,k1,k2⟩:=hq
    injection he with e3 fH
    subst e3 fH
    simp only [l5,aX]
    exact⟨_,us,rfl,k1,vY ps x.2 _ us _ q b9 h2 e2 k2⟩
 | .gQ t :: ps,x,eE,us,F,q,b9,hA,gv,hq=>by
  obtain ⟨vs,aR,G,H,rfl,h1,h2,_⟩:=hA
  cases us with
  | nil=>cases gv
  | cons u us =>
   injection gv with e1 e2
   subst e1
   rw [BF h1] at e2
   cases q with
   | nil=>simp [aX] at hq
   | cons v q =>
    simp only [aX] at hq
    obtain ⟨hK,us2,he,k1,k2⟩:=hq
    injection he with e3 fH
    subst e3 fH
    simp only [l5,aX]
    exact⟨_,us,rfl,k1,vY ps x.2 _ us _ q b9 h2 e2 k2⟩
 | .gP t m :: ps,x,eE,us,F,q,b9,hA,gv,hq=>by
  obtain ⟨vs,aR,G,H,rfl,h1,h2,_⟩:=hA
  cases us with
  | nil=>cases gv
  | cons u us =>
   injection gv with e1 e2
   subst e1
   rw [BF h1] at e2
   cases q with
   | nil=>simp [aX] at hq
   | cons v q =>
    simp only [aX] at hq
    obtain ⟨hK,us2,he,k1,k2⟩:=hq
    injection he with e3 fH
    subst e3 fH
    simp only [l5,aX]
    exact⟨_,us,rfl,k1,vY ps x.2 _ us _ q b9 h2 e2 k2⟩
 | .ref t :: ps,x,eE,us,F,q,b9,hA,gv,hq=>by
  obtain ⟨b,o,vs,aR,rfl,_,_,_,h2⟩:=hA
  cases us with
  | nil=>cases gv
  | cons u us =>
   injection gv with e1 e2
   subst e1
   have e2:aR=us++fP us:=e2
   cases q with
   | nil=>simp [aX] at hq
   | cons v q =>
    simp only [aX] at hq
    obtain ⟨hK,us2,he,k1,k2⟩:=hq
    injection he with e3 fH
    subst e3 fH
    simp only [l5,aX]
    exact⟨_,us,rfl,k1,vY ps x.2 _ us _ q b9 h2 e2 k2⟩
 | .mut t m m' :: ps,x,eE,us,F,q,b9,hA,gv,hq=>by
  obtain ⟨b,o,vs,aR,G,H,rfl,_,_,_,h2,_⟩:=hA
  cases us with
  | nil=>cases gv
  | cons u us =>
   injection gv with e1 e2
   subst e1
   have e2:aR=us++fP us:=e2
   cases q with
   | nil=>simp [aX] at hq
   | cons v q =>
    simp only [aX] at hq
    obtain ⟨hK,us2,he,k1,k2⟩:=hq
    injection he with e3 fH
    subst e3 fH
    simp only [l5,aX]
    exact⟨_,us,rfl,k1,vY ps x.2 _ us _ q b9 h2 e2 k2⟩
theorem Qi{f key:Nat}{fn:Func}{body:Code}{e:Entry}{gL:Nat→Option bV}(bL:jr P E)(hf:P.funcs[f]?=some fn)(hb:fn.body=some body)(iE:(fn.name == "runtime.NumGoroutine")=false)
  (hn:Nat.beq E.n fn.ntmps=true) (BG:BE e.ps=true) (hlen:Nat.ble e.ps.length fn.ntmps=true) (hu:IB body=true)
  (hF:∀x r,e.f x=some r→∃m,vX E fn body gL key e (n2 E gL body (oZ E fn e) m) x=some r):Sound P f key e:=by
 refine⟨⟨fn,hf,by rw [hb];rfl,iE⟩,fun w Z F x us r hZ HV hap hA hx=>?_⟩
 obtain ⟨m,hm⟩:=hF x r hx
 unfold vX at hm
 obtain ⟨st,hst,hm⟩:=bb hm
 unfold Qf at hst
 obtain ⟨q,hq,hst⟩:=bb hst
 obtain rfl:=aU hst
 have pP:=ru _ _ _ _ hA
 rw [List.length_append] at pP
 have hle:=Nat.le_of_ble_eq_true hlen
 let a0:Act := { tmps:=us.toArray++Array.replicate (fn.ntmps-us.toArray.size) undef,defers:=[] }
 have hsz:a0.tmps.size=fn.ntmps:=by simp [a0];omega
 have Z3:Inv w F Z ⟨fn.ntmps,[],[]⟩ ⟨fun _=>.aC,fun _=>.none,[]⟩ a0 w (fun _=>⟨none,0,ah.none⟩) Z:=Inv.start hZ hsz rfl
 obtain ⟨du,i1,held,cK,mX⟩:=td e.ps x (us++fP us) _ _ _ F q hq Z3 hA ⟨fun b o h=>⟨.inl h,HV b o h⟩,fun _ h=>h.elim,hap⟩
 have hinv:Inv w F Z ⟨fn.ntmps,us++fP us,[]⟩ ⟨fun k=>(l5 key e.ps q.1).getD k .aC,q.2.1.o,q.1⟩ a0 w du Z:=by
  have hm:eB w Z q.2.1 du w Z ⟨fun k=>(l5 key e.ps q.1).getD k .aC,q.2.1.o,q.1⟩ du:=GN rfl
  exact⟨i1.ext,i1.dA,i1.q1,i1.iw,fun id=>hD.move hm (id:=id) (fun _=>⟨rfl,rfl⟩) rfl (i1.fA id),i1.own,i1.apart,i1.cY,
   fun k=>by
    show aO w Z _ du ((l5 key e.ps q.1).getD k .aC) ((us.toArray++Array.replicate (fn.ntmps-us.toArray.size) undef).getD k undef)
    rw [Z2]
    exact(aX.move hm (vY e.ps x _ us F q.1 BG hA rfl cK)).getD k,hsz,aX.move hm cK,fun e he=>by simp at he,rfl⟩
 intro cs
 let cM:Frame := { (default:Frame) with fn:=f,kind:=.normal }
 have Z4:Frame.enter P f us.toArray .normal=cM.at a0 [.code body]:=by
  simp [Frame.enter,Frame.at,hf,hb,cM,a0]
 obtain ⟨dk,b6,w',⟨lq,aq,hfin,ba,Z',c5⟩,Qj⟩:=Qg (n:=⟨fn.ntmps,us++fP us,[]⟩) bL (Nat.eq_of_beq_eq_true hn) rfl hu m 100000 false [.code body] _ a0 w (fun _ h=>h) hm ⟨du,Z,hinv⟩ cM cs
 unfold oZ at hfin
 obtain ⟨vs,hvs,hfin⟩:=bb hfin
 obtain ⟨di,hr1,gn⟩:=Z1 bL.ty c5 hvs
 obtain ⟨s2,dE,bK,lY,eN,Bf,H8,Pq⟩:=vU e.rs vs di aq Z' r hfin c5 c5.ghost hr1
 have BH:Ends w Z F e us r (nR di) w':=by
  refine⟨di,bK,dE,rfl,c5.ext,lY.q1,fun b o hz=>?_,fun b o hf=>?_,Bf.cY,H8⟩
  ·rcases lY.dA b o hz with h1 | h1 | h1
   ·exact .inl h1
   ·exact .inr ⟨.inl h1,lY.iw b o hz⟩
   ·exact .inr ⟨.inr h1,lY.iw b o hz⟩
  ·exact Bf.own b o hf
 rw [Z4]
 rcases lq with rfl | ⟨k,rfl⟩
 ·exact⟨.returned (nR di),w',_,⟨_,rfl,BH⟩,Steps.trans Qj (.one step_end),rfl,rfl,c5.defers,rfl,fn,hf,gn⟩
 ·exact⟨.returned (nR di),w',_,⟨_,rfl,BH⟩,Steps.trans Qj (.one step_ret),rfl,rfl,c5.defers,rfl,fn,hf,gn⟩
end
end Go.LM
namespace Go.LM
mutual
def ad.rv(P:Program):ad→TypeId→Bool
 | .int _,_=>true
 | .bool,_=>true
 | .str,_=>true
 | .sl _,_=>false
 | .raw,_=>false
 | .st aj,id => !P.stoodInHeld id&&match P.underlying id with | some (.struct cm)=>aj.BI P cm.toList | _=>false
def ax.BI(P:Program):ax→List Field→Bool
 | .nil,_=>true
 | .cons t aj,cm=>match cm with
  | f :: k6=>decide (f.name ≠ "_")&&t.rv P f.type&&aj.BI P k6
  | []=>false
end
mutual
def ad.deep:ad→Nat
 | .st aj=>aj.deep+1
 | _=>1
def ax.deep:ax→Nat
 | .nil=>0
 | .cons t aj=>t.deep+aj.deep
end
section
variable{P:Program}{w:World}{Z:ah}{s:an}{ι : Nat→bD}
theorem Z5{k:IntKind}{cs ds:List a8}{r:Bool×List a8×List a8}(h:(ad.int k).cmp cs ds=some r):∃x a y b,cs=.int k x :: a∧ds=.int k y :: b∧r=(x==y,a,b):=by
 cases cs with
 | nil=>simp [ad.cmp] at h
 | cons c a=>cases ds with
  | nil=>cases c <;> simp [ad.cmp] at h
  | cons d b =>
   cases c <;> cases d <;> simp only [ad.cmp] at h <;> first | (cases h;done) | skip
   rename_i k1 x k2 y
   cases hk:(Nat.beq (dg k1) (dg k)&&Nat.beq (dg k2) (dg k))
   ·rw [hk] at h;cases h
   rw [hk] at h
   simp only [Bool.and_eq_true] at hk
   obtain rfl:=sA (Nat.eq_of_beq_eq_true hk.1)
   obtain rfl:=sA (Nat.eq_of_beq_eq_true hk.2)
   exact⟨x,a,y,b,rfl,rfl,(aU h).symm⟩
theorem Z6{cs ds:List a8}{r:Bool×List a8×List a8}(h:ad.bool.cmp cs ds=some r):∃x a y b,cs=.bool x :: a∧ds=.bool y :: b∧r=(x==y,a,b):=by
 cases cs with
 | nil=>simp [ad.cmp] at h
 | cons c a=>cases ds with
  | nil=>cases c <;> simp [ad.cmp] at h
  | cons d b =>
   cases c <;> try (simp [ad.cmp] at h;done)
   cases d <;> try (simp [ad.cmp] at h;done)
   simp only [ad.cmp] at h
   exact⟨_,a,_,b,rfl,rfl,(aU h).symm⟩
theorem Z7{cs ds:List a8}{r:Bool×List a8×List a8}(h:ad.str.cmp cs ds=some r):∃x a y b,cs=.str x :: a∧ds=.str y :: b∧r=(bu x y,a,b):=by
 cases cs with
 | nil=>simp [ad.cmp] at h
 | cons c a=>cases ds with
  | nil=>cases c <;> simp [ad.cmp] at h
  | cons d b =>
   cases c <;> try (simp [ad.cmp] at h;done)
   cases d <;> try (simp [ad.cmp] at h;done)
   simp only [ad.cmp] at h
   exact⟨_,a,_,b,rfl,rfl,(aU h).symm⟩
theorem IH{c c':a8}{a b:List a8}{us vs:List Value}(h1:bH w Z s ι (c :: a) us)(h2:bH w Z s ι (c' :: b) vs) :
  ∃u us2 v vs2,us=u :: us2∧vs=v :: vs2∧cf w Z s ι c u∧cf w Z s ι c' v∧bH w Z s ι a us2∧bH w Z s ι b vs2:=by
 cases us with
 | nil=>exact h1.elim
 | cons u us=>cases vs with
  | nil=>exact h2.elim
  | cons v vs=>exact⟨u,us,v,vs,rfl,rfl,h1.1,h2.1,h1.2,h2.2⟩
mutual
theorem ad.x':∀(t:ad) (id:TypeId) (d:Nat) {cs ds:List a8} {r:Bool×List a8×List a8} {us vs:List Value},t.ok P id→t.rv P id=true→t.deep≤d→t.cmp cs ds=some r →
  bH w Z s ι cs us→bH w Z s ι ds vs→∃us1 us2 vs1 vs2,us=us1++us2∧vs=vs1++vs2∧us1.length=t.size∧vs1.length=t.size∧bH w Z s ι r.2.1 us2∧bH w Z s ι r.2.2 vs2 ∧
   (Op.equalIn d id (dB t us1) (dB t vs1)).run P w=.ok r.1 w
 | .int k,id,0,cs,ds,r,us,vs,ho,hc,ag,h,h1,h2=>by simp [ad.deep] at ag
 | .int k,id,d+1,cs,ds,r,us,vs,ho,hc,ag,h,h1,h2=>by
  simp only [ad.ok] at ho
  obtain ⟨x,a,y,b,rfl,rfl,rfl⟩:=Z5 h
  obtain ⟨u,us2,v,vs2,rfl,rfl,e1,e2,g1,g2⟩:=IH h1 h2
  simp only [cf] at e1 e2
  subst e1 e2
  exact⟨[_],us2,[_],vs2,rfl,rfl,rfl,rfl,g1,g2,run_equalIn_int w d id _ _ x y ho.1⟩
 | .bool,id,0,cs,ds,r,us,vs,ho,hc,ag,h,h1,h2=>by simp [ad.deep] at ag
 | .bool,id,d+1,cs,ds,r,us,vs,ho,hc,ag,h,h1,h2=>by
  simp only [ad.ok] at ho
  obtain ⟨x,a,y,b,rfl,rfl,rfl⟩:=Z6 h
  obtain ⟨u,us2,v,vs2,rfl,rfl,e1,e2,g1,g2⟩:=IH h1 h2
  simp only [cf] at e1 e2
  subst e1 e2
  exact⟨[_],us2,[_],vs2,rfl,rfl,rfl,rfl,g1,g2,run_equalIn_bool w d id x y ho.1⟩
 | .str,id,0,cs,ds,r,us,vs,ho,hc,ag,h,h1,h2=>by simp [ad.deep] at ag
 | .str,id,d+1,cs,ds,r,us,vs,ho,hc,ag,h,h1,h2=>by
  simp only [ad.ok] at ho
  obtain ⟨x,a,y,b,rfl,rfl,rfl⟩:=Z7 h
  obtain ⟨u,us2,v,vs2,rfl,rfl,e1,e2,g1,g2⟩:=IH h1 h2
  obtain ⟨vp,rfl,rfl⟩:=e1
  obtain ⟨vq,rfl,rfl⟩:=e2
  refine⟨[_],us2,[_],vs2,rfl,rfl,rfl,rfl,g1,g2,?_⟩
  rw [← Oh]
  exact run_equalIn_string w d id vp vq ho.1
 | .raw,id,d,cs,ds,r,us,vs,ho,hc,ag,h,h1,h2=>by simp [ad.rv] at hc
 | .sl t,id,d,cs,ds,r,us,vs,ho,hc,ag,h,h1,h2=>by simp [ad.rv] at hc
 | .st aj,id,0,cs,ds,r,us,vs,ho,hc,ag,h,h1,h2=>by simp [ad.deep] at ag
 | .st aj,id,d+1,cs,ds,r,us,vs,ho,hc,ag,h,h1,h2=>by
  simp only [ad.ok] at ho
  obtain ⟨_,cm,hu,II⟩:=ho
  simp only [ad.rv,Bool.and_eq_true,Bool.not_eq_true',hu] at hc
  simp only [ad.deep] at ag
  simp only [ad.cmp] at h
  obtain ⟨us1,us2,vs1,vs2,e1,e2,dO,eD,g1,g2,g3⟩:=ax.x' aj cm.toList 0 d [] [] II hc.2 (by omega) h h1 h2 rfl rfl
  refine⟨us1,us2,vs1,vs2,e1,e2,dO,eD,g1,g2,?_⟩
  have ku:P.fieldsOf id=cm:=by simp [Program.fieldsOf,hu]
  show(Op.equalIn (d+1) id (.agg us1.toArray) (.agg vs1.toArray)).run P w=_
  rw [run_equalIn_struct w d id us1.toArray vs1.toArray (by rw [ku];exact hu) hc.1,ku]
  have:=g3 [] []
  simpa using this
theorem ax.x':∀(aj:ax) (cm:List Field) (off d:Nat) {cs ds:List a8} {r:Bool×List a8×List a8} {us vs:List Value} (pre tj:List Value),aj.okF P cm off→aj.BI P cm=true→aj.deep≤d→aj.cmp cs ds=some r →
  bH w Z s ι cs us→bH w Z s ι ds vs→pre.length=off→tj.length=off→∃us1 us2 vs1 vs2,us=us1++us2∧vs=vs1++vs2∧us1.length=aj.size∧vs1.length=aj.size∧bH w Z s ι r.2.1 us2∧bH w Z s ι r.2.2 vs2 ∧
   ∀dq ya:List Value,(Op.eqFields d (pre++us1++dq).toArray (tj++vs1++ya).toArray cm).run P w=.ok r.1 w
 | .nil,cm,off,d,cs,ds,r,us,vs,pre,tj,ho,hc,ag,h,h1,h2,au,nK=>by
  simp only [ax.okF] at ho
  subst ho
  obtain rfl:=aU h
  exact⟨[],us,[],vs,rfl,rfl,rfl,rfl,h1,h2,fun _ _=>by simp only [Op.eqFields];exact run_pure _ _⟩
 | .cons t aj,cm,off,d,cs,ds,r,us,vs,pre,tj,ho,hc,ag,h,h1,h2,au,nK=>by
  simp only [ax.okF] at ho
  obtain ⟨f,k6,rfl,fi,l0,jI⟩:=ho
  simp only [ax.BI,Bool.and_eq_true,decide_eq_true_eq] at hc
  simp only [ax.deep] at ag
  simp only [ax.cmp] at h
  obtain ⟨bA,k1,h⟩:=bb h
  obtain ⟨cc,k2,h⟩:=bb h
  obtain rfl:=aU h
  obtain ⟨a1,a2,iS,q6,rfl,rfl,dO,eD,g1,g2,g3⟩:=ad.x' t f.type d l0 hc.1.2 (by omega) k1 h1 h2
  obtain ⟨a3,a4,ra,AH,rfl,rfl,nM,oG,g4,g5,g6⟩:=ax.x' aj k6 (off+t.size) d (pre++a1) (tj++iS) jI hc.2 (by omega) k2 g1 g2 (by simp;omega) (by simp;omega)
  refine⟨a1++a3,a4,iS++ra,AH,by simp,by simp,by simp [ax.size];omega,by simp [ax.size];omega,g4,g5,fun dq ya=>?_⟩
  have ec:=Hc (P:=P) (w:=w) l0 (cs:=pre++(a1++a3)++dq) (k:=off) (by simp;omega)
  have fc:=Hc (P:=P) (w:=w) l0 (cs:=tj++(iS++ra)++ya) (k:=off) (by simp;omega)
  have c4:((pre++(a1++a3)++dq).drop off).take t.size=a1:=by
   rw [← au,← dO];simp
  have eC:((tj++(iS++ra)++ya).drop off).take t.size=iS:=by
   rw [← nK,← eD];simp
  rw [c4] at ec
  rw [eC] at fc
  simp only [Op.eqFields]
  rw [if_pos hc.1.1,run_bind,fi,ec]
  simp only
  rw [run_bind,fc]
  simp only
  rw [run_bind,g3]
  simp only
  cases hr:bA.1
  ·simp only [Bool.not_false,if_true,Bool.false_and];exact run_pure _ _
  ·simp only [Bool.not_true,Bool.false_eq_true,if_false,Bool.true_and]
   have:=g6 dq ya
   simpa using this
end
def sv(P:Program):List (Nat×ad)→List Nat→Bool
 | _,[]=>true
 | tab,k :: l=>(match P.underlying k with | some (.struct _)=>true | _=>false) && !P.eqGuardType P.depth k&&(tab.all fun x => !Nat.beq x.1 k||x.2.rv P k&&Nat.ble x.2.deep 10000)&&sv P tab l
theorem Qk{tab:List (Nat×ad)}{k:Nat} : ∀ {l:List Nat},sv P tab l=true→k∈l→(∃cm,P.underlying k=some (.struct cm))∧P.eqGuardType P.depth k=false∧∀T,(k,T)∈tab→T.rv P k=true∧T.deep≤10000
 | x :: l,h,hm=>by
  simp only [sv,Bool.and_eq_true,Bool.not_eq_true'] at h
  rcases List.mem_cons.1 hm with rfl | hm
  ·refine⟨?_,h.1.1.2,fun T bW=>?_⟩
   ·have h1:=h.1.1.1
    split at h1
    ·rename_i cm hk;exact⟨cm,hk⟩
    ·cases h1
   ·have h2:=List.all_eq_true.1 h.1.2 _ bW
    rw [Nat.beq_refl] at h2
    simp only [Bool.not_true,Bool.false_or,Bool.and_eq_true] at h2
    exact⟨h2.1,Nat.le_of_ble_eq_true h2.2⟩
  ·exact Qk h.2 hm
theorem Z8{T:ad}{k:Nat}(ho:T.ok P k)(hu:∃cm,P.underlying k=some (.struct cm))(az:P.eqGuardType P.depth k=false)(hc:T.rv P k=true)(ag:T.deep≤10000)(op:BinOp)(xo yo:Operand)(w:World)(Z:ah)(s:an)(ι : Nat→bD)
  (cs ds:List a8) (us vs:List Value) (q:Bool) (h1:bH w Z s ι cs us) (h2:bH w Z s ι ds vs) (h:T.cmp cs ds=some (q,[],[])) :
  (eqGuard op k xo yo (.agg us.toArray) (.agg vs.toArray)).run P w=.ok () w∧(op=.eql→(binOp op k (.agg us.toArray) (.agg vs.toArray)).run P w=.ok (.bool q) w) ∧
   (op=.neq→(binOp op k (.agg us.toArray) (.agg vs.toArray)).run P w=.ok (.bool (!q)) w):=by
 obtain ⟨us1,us2,vs1,vs2,rfl,rfl,dO,eD,g1,g2,g3⟩:=ad.x' T k 10000 ho hc ag h h1 h2
 have fD:us2=[]:=by cases us2 with | nil=>rfl | cons=>exact g1.elim
 have lJ:vs2=[]:=by cases vs2 with | nil=>rfl | cons=>exact g2.elim
 subst fD lJ
 have bW:∃aj,T=.st aj:=by
  obtain ⟨cm,hu⟩:=hu
  cases T with
  | st aj=>exact⟨aj,rfl⟩
  | int=>simp only [ad.ok] at ho;rw [hu] at ho;cases ho.1
  | bool=>simp only [ad.ok] at ho;rw [hu] at ho;cases ho.1
  | str=>simp only [ad.ok] at ho;rw [hu] at ho;cases ho.1
  | sl t=>simp only [ad.ok] at ho;obtain ⟨_,e,he,_⟩:=ho;rw [hu] at he;cases he
  | raw=>simp only [ad.ok] at ho;obtain ⟨_,e,he⟩:=ho;rw [hu] at he;cases he
 obtain ⟨aj,rfl⟩:=bW
 simp only [List.append_nil]
 have heq:(Op.equal k (.agg us1.toArray) (.agg vs1.toArray)).run P w=.ok q w:=g3
 refine⟨?_,?_,?_⟩
 ·unfold eqGuard
  cases op <;> try rfl
  all_goals
   have Z9:∀w:World,(program:Sem Program).run P w=.ok P w:=fun _=>rfl
   simp only [Bool.not_true,Bool.false_eq_true,if_false,run_bind,Z9,az,Bool.not_false,if_true]
   rfl
 ·rintro rfl
  show(do pure (.bool (← Op.equal k _ _)):Sem Value).run P w=_
  rw [run_bind,heq];rfl
 ·rintro rfl
  show(do pure (.bool (!(← Op.equal k _ _))):Sem Value).run P w=_
  rw [run_bind,heq];rfl
end
end Go.LM
namespace Go.LM
def zeroV:Value→Value→Bool
 | .int k x,.int k' y=>Nat.beq (dg k) (dg k')&&decide (x=y)
 | .bool a,.bool b=>a==b
 | .string a,.string b=>decide (a.data.toList=b.data.toList)
 | .slice none 0 0,.slice none 0 0=>true
 | _,_=>false
theorem Ql{u v:Value}(h:zeroV u v=true):u=v:=by
 unfold zeroV at h
 split at h
 ·simp only [Bool.and_eq_true,decide_eq_true_eq] at h
  rw [sA (Nat.eq_of_beq_eq_true h.1),h.2]
 ·rw [eq_of_beq h]
 ·rename_i a b
  have h:=of_decide_eq_true h
  obtain ⟨⟨a⟩⟩:=a
  obtain ⟨⟨b⟩⟩:=b
  simp only at h
  rw [h]
 ·rfl
 ·cases h
def BJ:List Value→List Value→Bool
 | [],[]=>true
 | u :: us,v :: vs=>cond (zeroV u v) (BJ us vs) false
 | _,_=>false
theorem Qm:∀ {us vs:List Value},BJ us vs=true→us=vs
 | [],[],_=>rfl
 | u :: us,v :: vs,h=>by
  unfold BJ at h
  cases h1:zeroV u v
  ·rw [h1] at h;cases h
  ·rw [h1] at h;rw [Ql h1,Qm h]
 | [],_ :: _,h=>by cases h
 | _ :: _,[],h=>by cases h
def IJ(t:ad)(v:Value):Bool :=
 match t,v with
 | .st aj,.agg cs=>BJ cs.toList aj.cL
 | .st _,_=>false
 | .sl _,v=>zeroV v (.slice none 0 0)
 | t,v=>zeroV v (t.cL.headD undef)
theorem Z_{t:ad}{v:Value}(h:IJ t v=true):v=dB t t.cL:=by
 cases t with
 | st aj =>
  cases v <;> simp only [IJ] at h <;> try (cases h;done)
  rename_i cs
  show Value.agg cs=.agg aj.cL.toArray
  rw [← Qm h]
 | _=>exact Ql h
def ry(P:Program)(id:TypeId)(t:ad):Bool :=
 match P.info? id with
 | some i=>Nat.beq i.size t.size&&(match i.zero with | some v=>IJ t v | none=>false)&&Nat.ble i.bytes 2048
 | none=>false
theorem vZ{P:Program}{id:TypeId}{t:ad}(h:ry P id t=true):k5 P id t:=by
 unfold ry at h
 cases hi:P.info? id with
 | none=>rw [hi] at h;cases h
 | some i =>
  rw [hi] at h
  simp only [Bool.and_eq_true] at h
  refine⟨i,hi,Nat.eq_of_beq_eq_true h.1.1,?_,Nat.le_of_ble_eq_true h.2⟩
  have h2:=h.1.2
  cases hz:i.zero with
  | none=>rw [hz] at h2;cases h2
  | some v=>rw [hz] at h2;rw [Z_ h2]
mutual
def ad.okB(P:Program):ad→TypeId→Bool
 | .int k,id=>(match P.underlying id with | some (.int k')=>Nat.beq (dg k') (dg k) | _=>false)&&ry P id (.int k)
 | .bool,id=>(match P.underlying id with | some .bool=>true | _=>false)&&ry P id .bool
 | .str,id=>(match P.underlying id with | some .string=>true | _=>false)&&ry P id .str
 | .raw,id=>ry P id .raw&&match P.underlying id with | some (.slice _)=>true | _=>false
 | .sl t,id=>ry P id (.sl t)&&match P.underlying id with | some (.slice e)=>t.okB P e | _=>false
 | .st aj,id=>ry P id (.st aj)&&match P.underlying id with | some (.struct cm)=>aj.v7 P cm.toList 0 | _=>false
def ax.v7(P:Program):ax→List Field→Nat→Bool
 | .nil,cm,_=>cm.isEmpty
 | .cons t aj,cm,off=>match cm with
  | f :: k6=>Nat.beq f.offset off&&t.okB P f.type&&aj.v7 P k6 (off+t.size)
  | []=>false
end
mutual
theorem ad.BK{P:Program} : ∀(t:ad) (id:TypeId),t.okB P id=true→t.ok P id
 | .int k,id,h=>by
  simp only [ad.okB,Bool.and_eq_true] at h
  refine⟨?_,vZ h.2⟩
  have h1:=h.1
  split at h1
  ·rename_i k' hk;rw [hk,sA (Nat.eq_of_beq_eq_true h1)]
  ·cases h1
 | .bool,id,h=>by
  simp only [ad.okB,Bool.and_eq_true] at h
  refine⟨?_,vZ h.2⟩
  have h1:=h.1
  split at h1
  ·rename_i hk;exact hk
  ·cases h1
 | .str,id,h=>by
  simp only [ad.okB,Bool.and_eq_true] at h
  refine⟨?_,vZ h.2⟩
  have h1:=h.1
  split at h1
  ·rename_i hk;exact hk
  ·cases h1
 | .raw,id,h=>by
  simp only [ad.okB,Bool.and_eq_true] at h
  refine⟨vZ h.1,?_⟩
  have h1:=h.2
  split at h1
  ·rename_i e hk;exact⟨e,hk⟩
  ·cases h1
 | .sl t,id,h=>by
  simp only [ad.okB,Bool.and_eq_true] at h
  refine⟨vZ h.1,?_⟩
  have h1:=h.2
  split at h1
  ·rename_i e hk;exact⟨e,hk,ad.BK t e h1⟩
  ·cases h1
 | .st aj,id,h=>by
  simp only [ad.okB,Bool.and_eq_true] at h
  refine⟨vZ h.1,?_⟩
  have h1:=h.2
  split at h1
  ·rename_i cm hk;exact⟨cm,hk,ax.Qn aj _ _ h1⟩
  ·cases h1
theorem ax.Qn{P:Program} : ∀(aj:ax) (cm:List Field) (off:Nat),aj.v7 P cm off=true→aj.okF P cm off
 | .nil,cm,off,h=>by
  simp only [ax.v7,List.isEmpty_iff] at h
  exact h
 | .cons t aj,cm,off,h=>by
  cases cm with
  | nil=>simp [ax.v7] at h
  | cons f cm =>
   simp only [ax.v7,Bool.and_eq_true] at h
   exact⟨f,cm,rfl,Nat.eq_of_beq_eq_true h.1.1,ad.BK t _ h.1.2,ax.Qn aj _ _ h.2⟩
end
def v8:List (Nat×ad)→Nat→Option ad
 | [],_=>none
 | (k,t) :: l,i=>cond (Nat.beq k i) (some t) (v8 l i)
def sr(P:Program):List (Nat×ad)→Bool
 | []=>true
 | (k,t) :: l=>t.okB P k&&sr P l
theorem IK{P:Program}{i:Nat}{T:ad} : ∀ {l:List (Nat×ad)},sr P l=true→v8 l i=some T→T.ok P i
 | (k,t) :: l,h,hl=>by
  simp only [sr,Bool.and_eq_true] at h
  unfold v8 at hl
  cases hb:Nat.beq k i
  ·rw [hb] at hl;exact IK h.2 hl
  ·rw [hb] at hl
   obtain rfl:=aU hl
   obtain rfl:=Nat.eq_of_beq_eq_true hb
   exact ad.BK _ _ h.1
def tk:List Nat→Nat→Bool
 | [],_=>false
 | k :: l,i=>cond (Nat.beq k i) true (tk l i)
def su(P:Program):List Nat→Bool
 | []=>true
 | k :: l=>(match P.underlying k with | some (.pointer _)=>true | _=>false)&&su P l
theorem Qo{P:Program}{i:Nat} : ∀ {l:List Nat},su P l=true→tk l i=true→∃e,P.underlying i=some (.pointer e)
 | k :: l,h,hl=>by
  simp only [su,Bool.and_eq_true] at h
  unfold tk at hl
  cases hb:Nat.beq k i
  ·rw [hb] at hl;exact Qo h.2 hl
  ·obtain rfl:=Nat.eq_of_beq_eq_true hb
   have h1:=h.1
   split at h1
   ·rename_i e hk;exact⟨e,hk⟩
   ·cases h1
def BL:List (Nat×Entry)→Nat→Nat→Option Entry
 | [],_,_=>none
 | (k,e) :: l,f,key=>cond (Nat.blt f 1000000&&Nat.beq k (f+1000000*key)) (some e) (BL l f key)
def p7(P:Program):List (Nat×Entry)→Prop
 | []=>True
 | (k,e) :: l=>hp P (k % 1000000) (k / 1000000) e∧p7 P l
theorem Qp{P:Program}{f key:Nat}{e:Entry} : ∀ {l:List (Nat×Entry)},p7 P l→BL l f key=some e→hp P f key e
 | (k,gB) :: l,h,hl=>by
  unfold BL at hl
  cases hb:(Nat.blt f 1000000&&Nat.beq k (f+1000000*key))
  ·rw [hb] at hl;exact Qp h.2 hl
  ·rw [hb] at hl
   obtain rfl:=aU hl
   simp only [Bool.and_eq_true] at hb
   have h1:=hb.1
   rw [Nat.blt_eq] at h1
   obtain rfl:=Nat.eq_of_beq_eq_true hb.2
   have h2:=h.1
   rw [show(f+1000000*key) % 1000000=f by omega,show(f+1000000*key) / 1000000=key by omega] at h2
   exact h2
def Qq(n:Nat)(tab:List (Nat×ad))(lE eqs:List Nat)(fns:List (Nat×Entry)):Env:=⟨n,v8 tab,tk eqs,tk lE,BL fns⟩
theorem Qr{i:Nat} : ∀ {l:List Nat},tk l i=true→i∈l
 | k :: l,h=>by
  unfold tk at h
  cases hb:Nat.beq k i
  ·rw [hb] at h;exact List.mem_cons_of_mem _ (Qr h)
  ·rw [Nat.eq_of_beq_eq_true hb];exact List.mem_cons_self
theorem Qs{i:Nat}{T:ad} : ∀ {l:List (Nat×ad)},v8 l i=some T→(i,T)∈l
 | (k,t) :: l,hl=>by
  unfold v8 at hl
  cases hb:Nat.beq k i
  ·rw [hb] at hl;exact List.mem_cons_of_mem _ (Qs hl)
  ·rw [hb] at hl
   obtain rfl:=aU hl
   rw [Nat.eq_of_beq_eq_true hb]
   exact List.mem_cons_self
theorem Qt{P:Program}{n:Nat}{tab:List (Nat×ad)}{lE eqs:List Nat}{fns:List (Nat×Entry)}(ht:sr P tab=true)(au:su P lE=true)(he:sv P tab eqs=true)(hf:p7 P fns)(hm:P.follows .mixedOrders=true):jr P (Qq n tab lE eqs fns):=by
 refine⟨⟨fun id T h=>IK ht h,fun id h=>Qo au h⟩,fun id T h bW=>?_,fun f key e h=>Qp hf h,hm⟩
 obtain ⟨h1,h2,h3⟩:=Qk he (Qr h)
 obtain ⟨h4,aZ⟩:=h3 T (Qs bW)
 exact Z8 (IK ht bW) h1 h2 h4 aZ
@[irreducible] def aP:Nat:=18446744073709551616
end Go.LM
namespace Go.LM
open Go.ChangeShapes Go.WideShapes Go.ChangeAt Go.RowKit
open Go.ChangeMaps (open_string shut_string)
mutual
def ad.ju:(t:ad)→t.D→Prop
 | .int k,x=>(Lit.int k x).wf=true
 | .bool,_=>True
 | .str,x=>x.length≤maxLen
 | .raw,_=>True
 | .sl t,xs=>xs.length≤maxLen∧∀y,y∈xs→t.ju y
 | .st aj,x=>aj.ju x
def ax.ju:(aj:ax)→aj.D→Prop
 | .nil,_=>True
 | .cons t aj,x=>t.ju x.1∧aj.ju x.2
end
mutual
def ad.m0:ad→Bool
 | .sl t=>Nat.blt 0 t.size&&t.m0
 | .raw=>false
 | .st aj=>aj.m0
 | _=>true
def ax.m0:ax→Bool
 | .nil=>true
 | .cons t aj=>t.m0&&aj.m0
end
def p8:(ps:List bw)→(bw.ins ps).D→Prop
 | [],_=>True
 | .fn _ _ :: l,x=>p8 l x
 | .val t _ :: l,x=>t.ju x.1∧p8 l x.2
 | .gQ t :: l,x=>t.ju x.1∧p8 l x.2
 | .gP t _ :: l,x=>t.ju x.1∧p8 l x.2
 | .ref t :: l,x=>t.ju x.1∧p8 l x.2
 | .mut t _ _ :: l,x=>t.ju x.1∧p8 l x.2
def IL:(rs:List cS)→(aj:ax)→(cS.outs rs aj).D→Prop
 | [.val .bool .R],_,r=>r.1=true
 | _,_,_=>False
section
variable{H:Type}{enc:TypeId×Value→H}{P:Program}{w W W':World}{base:Nat}{spare:Nat→Bool}{held:Bool}{fuel:Nat}
def Old(w:World):ah:=fun b _=>b<w.heap.size
theorem aaa{a:Addr}{v:Value}(h:w.cell? a=some v):a.block<w.heap.size:=by
 rcases Nat.lt_or_ge a.block w.heap.size with h1 | h1
 ·exact h1
 ·simp [World.cell?,Array.getElem?_eq_none h1] at h
theorem IM{t:ad}{id:TypeId}(h:t.ok P id):P.cellsOf id=t.size:=by
 obtain ⟨i,h1,h2,_⟩:=h.info
 unfold Program.cellsOf
 rw [h1]
 exact h2
theorem Qu{a:Addr}{k:Nat}{cs:List Value}(h:w.cells? base a k=some cs):cs.length=k∧∀i v,cs[i]?=some v→w.cell? (a.add i)=some v:=by
 unfold World.cells? at h
 split at h
 ·have hl:cs.length=k:=by
   have:=List.Qv h
   simpa using this
  refine⟨hl,fun i v hv=>?_⟩
  have hi:i<k:=by
   rw [← hl]
   exact(List.getElem?_eq_some_iff.1 hv).1
  have:=Qw h i (by simpa using hi)
  rw [hv] at this
  simpa using this.symm
 ·cases h
where
 List.Qv {α β : Type} {f : α → Option β} : ∀ {l:List α} {r:List β},l.mapM f=some r→r.length=l.length
  | [],r,h=>by simp at h;subst h;rfl
  | x :: l,r,h=>by
   rw [List.mapM_cons] at h
   simp only [Option.bind_eq_bind,Option.bind_eq_some_iff] at h
   obtain ⟨y,h1,ys,h2,h3⟩:=h
   simp only [Option.pure_def,Option.some.injEq] at h3
   subst h3
   simp [List.Qv h2]
 Qw {α β : Type} {f : α → Option β} : ∀ {l:List α} {r:List β},l.mapM f=some r→∀i (hi:i<l.length),r[i]?=f l[i]
  | [],r,h,i,hi=>by simp at hi
  | x :: l,r,h,i,hi=>by
   rw [List.mapM_cons] at h
   simp only [Option.bind_eq_bind,Option.bind_eq_some_iff] at h
   obtain ⟨y,h1,ys,h2,h3⟩:=h
   simp only [Option.pure_def,Option.some.injEq] at h3
   subst h3
   cases i with
   | zero=>simp [h1]
   | succ i=>simpa using Qw h2 i (by simpa using hi)
mutual
theorem ad.read:∀(t:ad) (id:TypeId) (fuel:Nat) (cs:List Value) (x:DataW H×List MemPlace),t.ok P id→t.m0=true→DataW.trod enc P w base spare held fuel id cs=some x →
  ∃y:t.D,t.al w (Old w) .R y cs ah.none∧t.ju y
 | .int k,id,fuel,cs,x,ho,au,h=>by
  obtain ⟨n,rfl,_,hw⟩:=DataW.trod_int (by simp only [ad.ok] at ho;exact ho.1) h
  exact⟨n,by simp only [ad.al],hw⟩
 | .bool,id,fuel,cs,x,ho,au,h=>by
  obtain ⟨n,rfl,_⟩:=DataW.trod_bool (by simp only [ad.ok] at ho;exact ho.1) h
  exact⟨n,by simp only [ad.al],trivial⟩
 | .str,id,fuel,cs,x,ho,au,h=>by
  obtain ⟨s,rfl,_,hs⟩:=DataW.trod_string (by simp only [ad.ok] at ho;exact ho.1) h
  exact⟨s.data.toList,by simp only [ad.al];exact⟨s,rfl,rfl⟩,by simp only [ad.ju,Array.length_toList];exact hs⟩
 | .raw,id,fuel,cs,x,ho,au,h=>by simp [ad.m0] at au
 | .sl t,id,fuel,cs,x,ho,au,h=>by
  simp only [ad.ok] at ho
  obtain ⟨_,e,hu,Qx⟩:=ho
  simp only [ad.m0,Bool.and_eq_true] at au
  have fJ:0<t.size:=Nat.le_of_ble_eq_true au.1
  rcases DataW.trod_slice hu h with⟨rfl,_⟩ | ⟨a,len,cap,elems,rest,m,_,rfl,_,_,hl,hm,hlen,Qy,_,_⟩
  ·exact⟨[],by simp only [ad.al];exact⟨none,0,rfl,.inl trivial⟩,by simp [ad.ju,maxLen]⟩
  ·have hsz:P.cellsOf e=t.size:=IM Qx
   rw [hsz] at Qy
   have Qz:∀i,i<len→∃cs' d,w.cells? base (a.add (i*t.size)) t.size=some cs'∧DataW.trod enc P w base spare held m e cs'=some d:=by
    intro i hi
    have h1:=Qy i hi
    have h2:∃d,elems[i]?=some d:=⟨_,List.getElem?_eq_getElem (by omega)⟩
    obtain ⟨d,h2⟩:=h2
    rw [h2] at h1
    obtain ⟨cs',h3,h4⟩:=bb h1
    exact⟨cs',d,h3,h4⟩
   have aab:=fun(cs':List Value) (d:DataW H×List MemPlace)=>ad.read t e m cs' d Qx au.2
   have IN:0<len→a.spot=none∧a.block<w.heap.size:=by
    intro hn
    obtain ⟨cs',d,h1,h2⟩:=Qz 0 hn
    obtain ⟨c1,gm⟩:=Qu h1
    have oP:=gm 0 cs'[0] (List.getElem?_eq_getElem (by omega))
    simp only [Nat.zero_mul,Addr.add,if_true] at oP
    exact⟨World.cell?_spot oP,aaa oP⟩
   have hrow:∀(n k:Nat),k+n≤len→∃xs:List t.D,xs.length=n∧Row w (fun y us _=>t.al w (Old w) .R y us ah.none) t.size xs a.block (a.off+k*t.size) ah.none∧(∀y,y∈xs→t.ju y):=by
    intro n
    induction n with
    | zero=>intro k _;exact⟨[],rfl,trivial,by simp⟩
    | succ n ih =>
     intro k hk
     obtain ⟨cs',d,h1,h2⟩:=Qz k (by omega)
     obtain ⟨y,h3,h4⟩:=aab cs' d h2
     obtain ⟨xs,g1,g3,g4⟩:=ih (k+1) (by omega)
     obtain ⟨c1,gm⟩:=Qu h1
     obtain ⟨hsp,akc⟩:=IN (by omega)
     obtain ⟨ab,ao,asp⟩:=a
     simp only at hsp
     subst hsp
     refine⟨y :: xs,by simp [g1],⟨cs',ah.none,ah.none,h3,c1,?_,?_,fun _ _ h=>h.elim,fun _ _ h=>h,fun _ _ h=>h⟩,?_⟩
     ·intro i v hv
      have:=gm i v hv
      rw [show(⟨ab,ao,none⟩:Addr)=at_ ab ao from rfl,pK,pK] at this
      exact this
     ·have e1:ao+k*t.size+t.size=ao +(k+1)*t.size:=by rw [Nat.add_mul];omega
      simp only
      rw [e1];exact g3
     ·intro z hz
      rcases List.mem_cons.1 hz with rfl | hz
      ·exact h4
      ·exact g4 z hz
   obtain ⟨xs,g1,g3,g4⟩:=hrow len 0 (by omega)
   refine⟨xs,?_,?_⟩
   ·simp only [ad.al]
    refine⟨some a,cap,by rw [g1],?_⟩
    by_cases hx:xs=[]
    ·exact .inl hx
    ·have hn:0<len:=by
      rw [← g1]
      cases xs with
      | nil=>exact absurd rfl hx
      | cons=>simp
     exact .inr ⟨a,rfl,(IN hn).1,by simpa using g3,fun j hj=>(IN hn).2,by rw [g1];exact hl⟩
   ·simp only [ad.ju]
    exact⟨by rw [g1];omega,g4⟩
 | .st aj,id,fuel,cs,x,ho,au,h=>by
  have hsz:=IM ho
  simp only [ad.ok] at ho
  obtain ⟨_,cm,hu,II⟩:=ho
  obtain ⟨xs,n,_,_,hl,hxl,hf⟩:=DataW.trod_struct hu h
  have hlen:cs.length=(ad.st aj).size:=by rw [hl,hsz]
  have:=ax.read aj cm.toList 0 n cs II (by simpa only [ad.m0] using au) (by simpa only [ad.size,Nat.zero_add] using hlen) (fun i f ka=>by
   have hi:i<xs.length:=by
    rw [hxl]
    have:=(List.getElem?_eq_some_iff.1 ka).1
    simpa using this
   exact⟨xs[i],by rw [hf i f (by rw [← Array.getElem?_toList];exact ka),List.getElem?_eq_getElem hi]⟩)
  obtain ⟨y,h1,h2⟩:=this
  rw [List.drop_zero] at h1
  exact⟨y,by simp only [ad.al];exact h1,by simp only [ad.ju];exact h2⟩
theorem ax.read:∀(aj:ax) (cm:List Field) (off:Nat) (fuel:Nat) (cs:List Value),aj.okF P cm off→aj.m0=true→cs.length=off+aj.size →
  (∀(i:Nat) (f:Field),cm[i]?=some f→∃x,DataW.trod enc P w base spare held fuel f.type ((cs.drop f.offset).take (P.cellsOf f.type))=some x)→∃y:aj.D,aj.al w (Old w) .nil y (cs.drop off) ah.none∧aj.ju y
 | .nil,cm,off,fuel,cs,ho,au,hl,hf=>by
  simp only [ax.size,Nat.add_zero] at hl
  exact⟨(),by simp only [ax.al];rw [List.drop_of_length_le (by omega)],by simp only [ax.ju]⟩
 | .cons t aj,cm,off,fuel,cs,ho,au,hl,hf=>by
  simp only [ax.okF] at ho
  obtain ⟨f,k6,rfl,h1,h2,h3⟩:=ho
  simp only [ax.m0,Bool.and_eq_true] at au
  simp only [ax.size] at hl
  obtain ⟨x,hx⟩:=hf 0 f rfl
  rw [h1,IM h2] at hx
  obtain ⟨y,g1,g2⟩:=ad.read t f.type fuel _ x h2 au.1 hx
  obtain ⟨ys,g3,g4⟩:=ax.read aj k6 (off+t.size) fuel cs h3 au.2 (by omega) fun i mD ka=>hf (i+1) mD (by simpa using ka)
  refine⟨(y,ys),?_,⟨g2,g4⟩⟩
  simp only [ax.al]
  refine⟨_,_,ah.none,ah.none,?_,g1,g3,fun _ _ h=>h.elim,fun _ _ h=>h,fun _ _ h=>h⟩
  rw [← List.drop_drop,List.take_append_drop]
end
theorem aac{t:ad}{id:TypeId}{r:Reach}{v:Value}(ho:t.ok P id)(hv:Value.okWide P w r base id v):v=dB t v.cells.toList:=by
 cases t with
 | int k=>obtain ⟨n,rfl⟩:=okWide_int (by simp only [ad.ok] at ho;exact ho.1) hv;rfl
 | bool=>obtain ⟨n,rfl⟩:=okWide_bool (by simp only [ad.ok] at ho;exact ho.1) hv;rfl
 | str=>obtain ⟨n,rfl⟩:=okWide_string (by simp only [ad.ok] at ho;exact ho.1) hv;rfl
 | sl t =>
  simp only [ad.ok] at ho
  obtain ⟨_,e,hu,_⟩:=ho
  obtain ⟨a,l,c,rfl⟩:=okWide_slice hu hv
  rfl
 | raw =>
  simp only [ad.ok] at ho
  obtain ⟨_,e,hu⟩:=ho
  obtain ⟨a,l,c,rfl⟩:=okWide_slice hu hv
  rfl
 | st aj =>
  simp only [ad.ok] at ho
  obtain ⟨_,cm,hu,_⟩:=ho
  simp only [Value.okWide,hu] at hv
  obtain ⟨cs,rfl,_⟩:=hv
  simp [dB,Value.cells]
def yb:List (Nat×ad)→List bw
 | []=>[]
 | a :: l=>.val a.2 .R :: yb l
def tl(P:Program):List (Nat×ad)→Bool
 | []=>true
 | a :: l=>a.2.okB P a.1&&a.2.m0&&P.readableRec a.1&&Nat.blt a.1 P.types.size&&tl P l
theorem QA{r:Reach}{cM:Nat} : ∀(as:List (Nat×ad)) (vs:List Value) (ds:List (DataW H)) (p:List MemPlace),tl P as=true →
  DataW.TrodAll enc P w 0 (fun _=>true) true (as.map (·.1)) vs ds p→(∀(j:Nat) t v,(as.map (·.1))[j]?=some t→vs[j]?=some v→Value.okWide P w r cM t v) →
  ∃x:(bw.ins (yb as)).D,gf w (Old w) 0 (yb as) x vs ah.none∧p8 (yb as) x∧fP vs=[]
 | [],vs,ds,p,ho,h,hv=>by
  obtain ⟨rfl,_,_⟩:=trodAll_nil h
  exact⟨(),rfl,trivial,rfl⟩
 | a :: as,vs,ds,p,ho,h,hv=>by
  simp only [tl,Bool.and_eq_true] at ho
  obtain ⟨v,bE,d,IP,p',IQ,rfl,rfl,rfl,h1,h2⟩:=trodAll_cons (by simpa using h)
  obtain ⟨x,g1,g2,g3⟩:=QA as bE IP IQ ho.2 h2 fun j t u hj hu=>hv (j+1) t u (by simpa using hj) (by simpa using hu)
  have b9:=ad.BK _ _ ho.1.1.1.1
  obtain ⟨fuel,hf⟩:=h1
  obtain ⟨y,k1,k2⟩:=ad.read a.2 a.1 fuel _ _ b9 ho.1.1.1.2 hf
  have hw:=aac b9 (hv 0 a.1 v rfl rfl)
  refine⟨(y,x),⟨v.cells.toList,bE,ah.none,ah.none,by rw [← hw],k1,g1,fun _ _ h=>h.elim,fun _ _ h=>h,fun _ _ h=>h⟩,⟨k2,g2⟩,?_⟩
  rw [hw,BF k1]
  exact g3
theorem aad{w w':World}(h:Ext w w' ah.none):Below w.heap.size w w':=by
 refine⟨h.os,h.tape,h.output,h.size,fun b hb=>?_⟩
 rcases h.block b hb with h1 | ⟨c,c',e,f,h1,h2,h3,h4⟩
 ·exact h1
 ·rw [h1,h2]
  have:c'=c:=by
   apply Array.ext h3
   intro i hi c5
   have:=h4 i (fun h=>h.elim)
   rw [Array.getElem?_eq_getElem hi,Array.getElem?_eq_getElem c5] at this
   exact aU this
  rw [this]
theorem QB(hl:laidOutB P=true):∀(as:List (Nat×ad)) (vs:List Value) (ds:List (DataW H)) (p:List MemPlace),tl P as=true →
  DataW.TrodAll enc P W 0 (fun _=>true) true (as.map (·.1)) vs ds p→Below W.heap.size W W'→DataW.TrodAll enc P W' 0 (fun b=>decide (b<W.heap.size)) true (as.map (·.1)) vs ds p
 | [],vs,ds,p,ho,h,hb=>by
  obtain ⟨rfl,rfl,rfl⟩:=trodAll_nil h
  exact trodAll_mk0
 | a :: as,vs,ds,p,ho,h,hb=>by
  simp only [tl,Bool.and_eq_true] at ho
  obtain ⟨v,bE,d,IP,p',IQ,rfl,rfl,rfl,h1,h2⟩:=trodAll_cons (by simpa using h)
  have cw:∀x∈p',x.block<W.heap.size:=by obtain ⟨m,hm⟩:=h1;exact DataW.trod_lt m _ _ _ hm
  exact trodAll_cons_mk (Below.trod hl ho.1.1.2 (Nat.le_of_ble_eq_true ho.1.2) h1 hb cw) (QB hl as bE IP IQ ho.2 h2 hb)
theorem aae{f:Nat}{fn:Func}{e:Entry}{prs:List (Nat×ad)}{r:Reach}{cM:Nat}{args:Array Value}{ds:List (DataW H)}{p:List MemPlace}(dM:Sound P f 0 e)(BG:e.ps=yb prs)
  (IS:fn.params.toList=prs.map (·.1)) (b9:tl P prs=true) (aaf:laidOutB P=true) (hc:∀x:(bw.ins e.ps).D,p8 e.ps x→∃y,e.f x=some y∧IL e.rs (bw.dU e.ps) y)
  (s6:∀(j:Nat) t v,fn.params[j]?=some t→args[j]?=some v→Value.okWide P W r cM t v)
  (hA:DataW.TrodAll enc P W 0 (fun _=>true) true fn.params.toList args.toList ds p) :
  Calls P f args W fun end_ W'=>end_=.returned (.bool true)∧Below W.heap.size W W'∧DataW.TrodAll enc P W' 0 (fun b=>decide (b<W.heap.size)) true fn.params.toList args.toList ds p:=by
 obtain ⟨ps,rs,c⟩:=e
 simp only at BG
 subst BG
 rw [IS] at hA
 obtain ⟨x,h1,h2,h3⟩:=QA prs args.toList ds p b9 hA fun j t v hj hv=>s6 j t v (by rw [← Array.getElem?_toList,IS];exact hj) (by rw [← Array.getElem?_toList];exact hv)
 obtain ⟨y,aM,ht⟩:=hc x h2
 have vJ:=dM.calls W (Old W) ah.none x args.toList y (fun _ _ h=>h) (fun _ _ h=>h.elim) (fun _ _ h=>h.elim) (by rw [h3,List.append_nil];exact h1) aM
 have k_:args.toList.toArray=args:=by simp
 rw [k_] at vJ
 refine Calls.mono vJ ?_
 rintro end_ w' ⟨v,rfl,BH⟩
 obtain ⟨di,Z',F',rfl,hx,_,_,_,_,gU⟩:=BH.out
 have hb:=aad hx
 refine⟨?_,hb,by rw [IS];exact QB aaf prs _ _ _ b9 hA hb⟩
 have hfin:∀(rs:List cS) (aj:ax) (ps:List bw) (us:List Value) (aag:aj=bw.dU ps) (y:(cS.outs rs (bw.dU ps)).D),IL rs (bw.dU ps) y→∀F',hL w' Z' ps us rs y di F'→nR di=.bool true:=by
  intro rs aj ps us aag y ht F' gU
  match rs,y,ht,gU with
  | [.val .bool .R],y,ht,gU =>
   obtain ⟨vs,dX,G,fE,rfl,k1,k2,_⟩:=gU
   obtain ⟨rfl,_⟩:=k2
   simp only [ad.al] at k1
   subst k1
   have ht:y.1=true:=ht
   rw [ht]
   rfl
 exact congrArg _ (hfin rs _ _ _ rfl y ht _ gU)
end
end Go.LM
namespace Go.LM
theorem sy{x:Int}(h : -9223372036854775808≤x)(h':x≤9223372036854775807):aH x=x:=by
 show(if(true&&decide (x % 18446744073709551616≥9223372036854775808))=true then x % 18446744073709551616-18446744073709551616 else x % 18446744073709551616)=x
 by_cases hc:x % 18446744073709551616≥9223372036854775808
 ·rw [if_pos (by simp [hc])];omega
 ·rw [if_neg (by simp [hc])];omega
theorem bx{n i:Nat}(h:i<n):aN n (i:Int)=some i:=by
 unfold aN
 rw [if_pos ⟨by omega,by omega⟩]
 simp
theorem u2{t:ad}{xs:List t.D}{i:Nat}(h:i<xs.length):J t xs i=xs[i]:=by
 unfold J
 rw [List.getD_eq_getElem?_getD,List.getElem?_eq_getElem h]
 rfl
theorem aah{n:Nat}(h:n≤68719476736):room n=true:=Nat.ble_eq_true_of_le h
theorem kn{n lo hi:Nat}(h:lo≤hi)(h':hi≤n):dZ n (lo:Int) (hi:Int)=some (lo,hi):=by
 unfold dZ
 rw [if_pos ⟨by omega,by omega,by omega⟩]
 simp
theorem IT{α : Type}(a:Option α):both a a=a:=by unfold both;rw [if_pos rfl]
theorem o0{α : Type}(a:Option α):dup a=a:=IT a
theorem QC(s:List UInt8):bu s s=true:=by simp [bu]
end Go.LM
namespace Go.LM
structure j4(P:Program) where
 tab:List (Nat×ad)
 lE:List Nat
 eqs:List Nat
 ht:sr P tab=true
 au:su P lE=true
 he:sv P tab eqs=true
 hm:P.follows .mixedOrders=true
noncomputable def lr(fn:Func):Code:=match fn.body with
 | some c=>c
 | none=>.skip
noncomputable def rz(fn:Func)(ps:List bw):Bool :=
 fn.body.isSome && !(fn.name == "runtime.NumGoroutine")&&BE ps&&Nat.ble ps.length fn.ntmps&&IB (lr fn)
def m1:List (Nat×bV)→Nat→Option bV
 | [],_=>none
 | (k,t) :: l,r=>cond (Nat.beq r k) (some t) (m1 l r)
section
variable{P:Program}
def j4.env(B:j4 P)(fn:Func)(fns:List (Nat×Entry)):Env:=Qq fn.ntmps B.tab B.lE B.eqs fns
noncomputable def j4.start(B:j4 P)(fn:Func)(fns:List (Nat×Entry))(T:List (Nat×bV))(e:Entry)(k:Nat→an→Option (cS.outs e.rs (bw.dU e.ps)).D)(x:(bw.ins e.ps).D):Option (cS.outs e.rs (bw.dU e.ps)).D :=
 vX (B.env fn fns) fn (lr fn) (m1 T) 0 e k x
noncomputable def j4.QD(B:j4 P)(key:Nat)(fn:Func)(fns:List (Nat×Entry))(T:List (Nat×bV))(e:Entry)(k:Nat→an→Option (cS.outs e.rs (bw.dU e.ps)).D)(x:(bw.ins e.ps).D):Option (cS.outs e.rs (bw.dU e.ps)).D :=
 vX (B.env fn fns) fn (lr fn) (m1 T) key e k x
noncomputable def j4.step(B:j4 P)(fn:Func)(fns:List (Nat×Entry))(T:List (Nat×bV))(e:Entry)(k:Nat→an→Option (cS.outs e.rs (bw.dU e.ps)).D):Nat→an→Option (cS.outs e.rs (bw.dU e.ps)).D :=
 IF (B.env fn fns) (m1 T) (lr fn) (oZ (B.env fn fns) fn e) k
theorem QE(B:j4 P){f:Nat}{fn:Func}{e:Entry}{fns:List (Nat×Entry)}(hs:p7 P fns)(hf:P.funcs[f]?=some fn)(hc:rz fn e.ps=true)(T:List (Nat×bV))
  (hF:∀x r,e.f x=some r→∃m,vX (B.env fn fns) fn (lr fn) (m1 T) 0 e (n2 (B.env fn fns) (m1 T) (lr fn) (oZ (B.env fn fns) fn e) m) x=some r):Sound P f 0 e:=by
 unfold rz at hc
 simp only [Bool.and_eq_true,Bool.not_eq_true'] at hc
 obtain ⟨⟨⟨⟨h1,h2⟩,h3⟩,h4⟩,aZ⟩:=hc
 refine Qi (Qt (n:=fn.ntmps) (fns:=fns) B.ht B.au B.he hs B.hm) hf ?_ h2 (Nat.beq_refl _) h3 h4 aZ hF
 unfold lr
 cases hb:fn.body with
 | none=>rw [hb] at h1;cases h1
 | some c=>rfl
theorem cF(B:j4 P){f:Nat}{fn:Func}{e:Entry}{fns:List (Nat×Entry)}(hs:p7 P fns)(hf:P.funcs[f]?=some fn)(hc:rz fn e.ps=true)
  (h:∀x,B.start fn fns [] e (fun _ _=>none) x=e.f x):Sound P f 0 e :=
 QE B hs hf hc [] fun x r hx=>⟨0,by
  rw [show n2 (B.env fn fns) (m1 []) (lr fn) (oZ (B.env fn fns) fn e) 0=fun _ _=>none from rfl]
  exact(h x).trans hx⟩
def eF{K:Type}(s:K→K)(z:K):Nat→K
 | 0=>z
 | m+1=>s (eF s z m)
theorem cz(B:j4 P){f:Nat}{fn:Func}{e:Entry}{fns:List (Nat×Entry)}(hs:p7 P fns)(hf:P.funcs[f]?=some fn)(hc:rz fn e.ps=true)(T:List (Nat×bV)){K:Type}
  (of:(Nat→an→Option (cS.outs e.rs (bw.dU e.ps)).D)→K) (step:K→K) (L:Nat→K) (g:K→(bw.ins e.ps).D→Option (cS.outs e.rs (bw.dU e.ps)).D)
  (h0:L 0=of fun _ _=>none) (BM:∀m,L (m+1)=step (L m)) (he:∀x,e.f x=g (L aP) x)
  (az:∀k x,B.start fn fns T e k x=g (of k) x)
  (hst:∀k,of (B.step fn fns T e k)=step (of k)):Sound P f 0 e :=
 QE B hs hf hc T fun x r hx=>⟨aP,by
  have hl:∀m,of (n2 (B.env fn fns) (m1 T) (lr fn) (oZ (B.env fn fns) fn e) m)=L m:=by
   intro m
   induction m with
   | zero=>exact h0.symm
   | succ m ih=>rw [BM,← ih];exact hst _
  rw [he,← hl aP] at hx
  exact(az _ x).trans hx⟩
theorem QF(B:j4 P)(key:Nat){f:Nat}{fn:Func}{e:Entry}{fns:List (Nat×Entry)}(hs:p7 P fns)(hf:P.funcs[f]?=some fn)(hc:rz fn e.ps=true)(T:List (Nat×bV))
  (hF:∀x r,e.f x=some r→∃m,vX (B.env fn fns) fn (lr fn) (m1 T) key e (n2 (B.env fn fns) (m1 T) (lr fn) (oZ (B.env fn fns) fn e) m) x=some r):Sound P f key e:=by
 unfold rz at hc
 simp only [Bool.and_eq_true,Bool.not_eq_true'] at hc
 obtain ⟨⟨⟨⟨h1,h2⟩,h3⟩,h4⟩,aZ⟩:=hc
 refine Qi (Qt (n:=fn.ntmps) (fns:=fns) B.ht B.au B.he hs B.hm) hf ?_ h2 (Nat.beq_refl _) h3 h4 aZ hF
 unfold lr
 cases hb:fn.body with
 | none=>rw [hb] at h1;cases h1
 | some c=>rfl
theorem QG(B:j4 P)(key:Nat){f:Nat}{fn:Func}{e:Entry}{fns:List (Nat×Entry)}(hs:p7 P fns)(hf:P.funcs[f]?=some fn)(hc:rz fn e.ps=true)
  (h:∀x,B.QD key fn fns [] e (fun _ _=>none) x=e.f x):Sound P f key e :=
 QF B key hs hf hc [] fun x r hx=>⟨0,by
  rw [show n2 (B.env fn fns) (m1 []) (lr fn) (oZ (B.env fn fns) fn e) 0=fun _ _=>none from rfl]
  exact(h x).trans hx⟩
theorem u1(B:j4 P)(key:Nat){f:Nat}{fn:Func}{e:Entry}{fns:List (Nat×Entry)}(hs:p7 P fns)(hf:P.funcs[f]?=some fn)(hc:rz fn e.ps=true)(T:List (Nat×bV)){K:Type}
  (of:(Nat→an→Option (cS.outs e.rs (bw.dU e.ps)).D)→K) (step:K→K) (L:Nat→K) (g:K→(bw.ins e.ps).D→Option (cS.outs e.rs (bw.dU e.ps)).D)
  (h0:L 0=of fun _ _=>none) (BM:∀m,L (m+1)=step (L m)) (he:∀x,e.f x=g (L aP) x)
  (az:∀k x,B.QD key fn fns T e k x=g (of k) x)
  (hst:∀k,of (B.step fn fns T e k)=step (of k)):Sound P f key e :=
 QF B key hs hf hc T fun x r hx=>⟨aP,by
  have hl:∀m,of (n2 (B.env fn fns) (m1 T) (lr fn) (oZ (B.env fn fns) fn e) m)=L m:=by
   intro m
   induction m with
   | zero=>exact h0.symm
   | succ m ih=>rw [BM,← ih];exact hst _
  rw [he,← hl aP] at hx
  exact(az _ x).trans hx⟩
end
@[reducible] def sw(t:ad):bw:=.val t t.own
@[reducible] def aT(t:ad):bw:=.val t .R
@[reducible] def BN(t:ad):bw:=.gQ t
@[reducible] def fQ(t:ad):bw:=.ref t
@[reducible] def aai(t:ad):bw:=.mut t t.own t.own
@[reducible] def ro(t:ad):cS:=.val t t.own
@[reducible] def bg(t:ad):cS:=.val t .R
def QH:List (Nat×a6)→Nat→a6
 | []=>fun _=>.aC
 | (d,v) :: l=>bQ (QH l) d v
def QI:List (Nat×cj)→Nat→cj
 | []=>fun _=>.none
 | (d,v) :: l=>bQ (QI l) d v
def bl(t:List (Nat×a6))(o:List (Nat×cj))(g:List a6):an:=⟨QH t,QI o,g⟩
def aY(x:Int):a6:=.aS (.int .i64 x)
def js(x:Bool):a6:=.aS (.bool x)
def eT(x:List UInt8):a6:=.aS (.str x)
def hy(t:ad)(x:List t.D):a6:=.aS (.bY t [] none x)
def ay(c:Nat):a6:=.ptr ⟨c,none,0⟩
def o1(dp:List Nat):List (Nat×Nat):=dp.map fun c=>(c,0)
mutual
def ad.tm:(t:ad)→a'→List Nat→t.D→Nat→List a8×List (Nat×cj)×Nat
 | .int k,_,_,x,j=>([.int k x],[],j)
 | .bool,_,_,x,j=>([.bool x],[],j)
 | .str,_,_,x,j=>([.str x],[],j)
 | .raw,_,_,x,j=>([.raw x],[],j)
 | .sl t,.O e,_,x,j=>([.ag j none],[(j,.row t e 0 x)],j+1)
 | .sl t,_,dp,x,j=>([.bY t (o1 dp) none x],[],j)
 | .st aj,m,dp,x,j=>aj.tm m.parts dp x j
def ax.tm:(aj:ax)→cQ→List Nat→aj.D→Nat→List a8×List (Nat×cj)×Nat
 | .nil,_,_,_,j=>([],[],j)
 | .cons t aj,m,dp,x,j=>let r:=t.tm m.ag dp x.1 j;let q:=aj.tm m.dq dp x.2 r.2.2;(r.1++q.1,r.2.1++q.2.1,q.2.2)
end
mutual
def ad.tn:(t:ad)→a'→List Nat→Nat→List kB×List (Nat×ic)×Nat
 | .sl t,.O e,_,j=>([.ag j],[(j,.row t e)],j+1)
 | .sl t,_,dp,j=>([.bY t dp],[],j)
 | .st aj,m,dp,j=>aj.tn m.parts dp j
 | _,_,_,j=>([.keep],[],j)
def ax.tn:(aj:ax)→cQ→List Nat→Nat→List kB×List (Nat×ic)×Nat
 | .nil,_,_,j=>([],[],j)
 | .cons t aj,m,dp,j=>let r:=t.tn m.ag dp j;let q:=aj.tn m.dq dp r.2.2;(r.1++q.1,r.2.1++q.2.1,q.2.2)
end
def aD(c:Nat)(t:ad)(m:a')(dp:List Nat)(x:t.D):List (Nat×cj):=let r:=t.tm m dp x (c+1);(c,.var 0 r.1) :: r.2.1
def aB(c:Nat)(t:ad)(m:a')(dp:List Nat):List (Nat×ic):=let r:=t.tn m dp (c+1);(c,.var r.1) :: r.2.1
def aS(t:ad)(m:a')(dp:List Nat)(x:t.D)(j:Nat):List a8:=(t.tm m dp x j).1
def rA(t:ad)(m:a')(dp:List Nat)(j:Nat):List kB:=(t.tn m dp j).1
def IU(t:ad)(m:a')(x:t.D)(j:Nat):List (Nat×cj):=(t.tm m [] x j).2.1
def IV(t:ad)(m:a')(j:Nat):List (Nat×ic):=(t.tn m [] j).2.1
@[reducible] def aL:j':=.cell .keep
end Go.LM
namespace Go.LM
theorem QJ{P:Program}{f key:Nat}{e:Entry}(hf:∀x,e.f x=none):hp P f key e :=
 ⟨fun w Z F x us r _ _ _ _ hx=>by rw [hf x] at hx;cases hx⟩
theorem aaj{w:World}{Z F:ah}{e:Entry}{us:List Value}{k:IntKind}{x:Int}(nY:e.rs=[.val (.int k) .R])(hm:bw.dU e.ps=.nil)(hZ:∀b o,Z b o→b<w.heap.size)(hF:∀b o,F b o→b<w.heap.size)(hap:ah.apart F Z)
  (r:(cS.outs e.rs (bw.dU e.ps)).D) (hr:∀G,hL w Z e.ps (us++fP us) e.rs r [.int k x] G):Ends w Z F e us r (.int k x) w :=
 ⟨[.int k x],Z,ah.none,rfl,Ext.refl _ _,fun _ _ h=>h,fun _ _ h=>.inl h,fun _ _ h=>h.elim,fun _ _ h=>h.elim,hr _⟩
def BO(g:List UInt8→UInt8→Int):Entry:=⟨[aT .str,aT (.int .u8)],[bg (.int .i64)],fun x=>some (g x.1 x.2.1.toNat.toUInt8,())⟩
theorem QK{P:Program}{f:FuncId}{fn:Func}{x:Array Value→Sem Value}(g:List UInt8→UInt8→Int)(hf:P.funcs[f]?=some fn)(iE:(fn.name == "runtime.NumGoroutine")=false)
  (hb:fn.body.isNone=true) (hn:Extern.findNext fn=none) (he:Extern.find fn=some x)
  (hx:∀(s:ByteArray) (c:Int) (w:World),(x #[.string s,.int .u8 c]).run P w=.ok (.int .i64 (g s.data.toList c.toNat.toUInt8)) w):hp P f 0 (BO g):=by
 refine⟨fun w Z F y us r hZ hF hap hA aM=>?_⟩
 obtain rfl:=aU aM
 obtain ⟨vs1,us1,G1,H1,e1,k1,h1,_⟩:=hA
 obtain ⟨vs2,us2,G2,H2,e2,k2,h2,_⟩:=h1
 simp only [ad.al] at k1 k2
 obtain ⟨s,rfl,hs⟩:=k1
 subst k2
 have h2:us2=[]:=h2
 subst h2
 subst e2
 have hus:us=[.string s,.int .u8 y.2.1]:=by
  cases us with
  | nil=>cases e1
  | cons u us =>
   cases us with
   | nil =>
    simp only [List.cons_append,List.nil_append] at e1
    injection e1 with e3 fH
    subst e3
    cases fH
   | cons hK us =>
    simp only [List.cons_append] at e1
    injection e1 with e3 fH
    injection fH with fH sP
    subst e3 fH
    have:us=[]:=(List.append_eq_nil_iff.1 sP).1
    subst this
    rfl
 subst hus
 refine .inr ⟨.int .i64 (g s.data.toList y.2.1.toNat.toUInt8),w,?_,.int .i64 (g s.data.toList y.2.1.toNat.toUInt8),rfl,?_⟩
 ·rw [run_callFunc_extern hf iE hb hn he]
  have:=hx s y.2.1 w
  rw [show(([Value.string s,Value.int IntKind.u8 y.2.1]:List Value).toArray) = #[.string s,.int .u8 y.2.1] from rfl,this]
  rfl
 ·rw [hs]
  refine aaj (e:=BO g) rfl rfl hZ hF hap _ fun G=>?_
  refine⟨[_],[],ah.none,ah.none,rfl,?_,?_,fun _ _ h=>h.elim,fun _ _ h=>h.elim,fun _ _ h=>h.elim⟩
  ·simp only [ad.al]
  ·exact⟨rfl,_,_,rfl,_,_,rfl,trivial⟩
theorem aak{P:Program}{f:FuncId}{fn:Func}(hf:P.funcs[f]?=some fn)(iE:(fn.name == "runtime.NumGoroutine")=false)
  (hb:fn.body.isNone=true) (hn:Extern.findNext fn=none) (he:Extern.find fn=some Extern.BytealgIndexByte.indexByte):hp P f 0 (BO Lib.indexByte) :=
 QK _ hf iE hb hn he fun s c w=>Lib.run_indexByteString s c w
theorem aal{P:Program}{f:FuncId}{fn:Func}(hf:P.funcs[f]?=some fn)(iE:(fn.name == "runtime.NumGoroutine")=false)
  (hb:fn.body.isNone=true) (hn:Extern.findNext fn=none) (he:Extern.find fn=some Extern.BytealgCount.count):hp P f 0 (BO fun l c=>(Lib.countByte l c:Int)) :=
 QK _ hf iE hb hn he fun s c w=>Lib.run_countString s c w
end Go.LM
namespace Go.LM
mutual
def ad.rw:ad→ad
 | .sl _=>.raw
 | .st aj=>.st aj.rw
 | .int k=>.int k
 | .bool=>.bool
 | .str=>.str
 | .raw=>.raw
def ax.rw:ax→ax
 | .nil=>.nil
 | .cons t aj=>.cons t.rw aj.rw
end
mutual
def ad.rel:(T T':ad)→T.D→T'.D→Prop
 | .int _,.int _,x,y=>x=y
 | .bool,.bool,x,y=>x=y
 | .str,.str,x,y=>x=y
 | .sl _,.raw,_,_=>True
 | .raw,.raw,x,y=>x=y
 | .st aj,.st IW,x,y=>aj.rel IW x y
 | _,_,_,_=>False
def ax.rel:(T T':ax)→T.D→T'.D→Prop
 | .nil,.nil,_,_=>True
 | .cons t aj,.cons dk IW,x,y=>t.rel dk x.1 y.1∧aj.rel IW x.2 y.2
 | _,_,_,_=>False
end
mutual
theorem ad.n3:∀t:ad,t.rw.size=t.size
 | .int _=>rfl
 | .bool=>rfl
 | .str=>rfl
 | .sl _=>rfl
 | .raw=>rfl
 | .st aj=>by simp only [ad.rw,ad.size];exact ax.n3 aj
theorem ax.n3:∀t:ax,t.rw.size=t.size
 | .nil=>rfl
 | .cons t aj=>by simp only [ax.rw,ax.size,ad.n3 t,ax.n3 aj]
end
mutual
theorem ad.yc{w:World}{Z:ah} : ∀(T:ad) (m:a') {x:T.D} {vs:List Value} {F:ah},T.al w Z m x vs F→∃y:T.rw.D,(∀(w':World) (Z':ah) (m':a') (F':ah),T.rw.al w' Z' m' y vs F')∧T.rel T.rw x y
 | .int _,_,x,_,_,h=>by simp only [ad.al] at h;subst h;exact⟨x,fun _ _ _ _=>by simp only [ad.rw,ad.al],by simp only [ad.rw,ad.rel]⟩
 | .bool,_,x,_,_,h=>by simp only [ad.al] at h;subst h;exact⟨x,fun _ _ _ _=>by simp only [ad.rw,ad.al],by simp only [ad.rw,ad.rel]⟩
 | .str,_,x,_,_,h=>by simp only [ad.al] at h;exact⟨x,fun _ _ _ _=>by simp only [ad.rw,ad.al];exact h,by simp only [ad.rw,ad.rel]⟩
 | .raw,_,x,_,_,h=>by simp only [ad.al] at h;exact⟨x,fun _ _ _ _=>by simp only [ad.rw,ad.al];exact h,by simp only [ad.rw,ad.rel]⟩
 | .sl t,m,x,vs,F,h=>by
  have:∃A n c,vs=[.slice A n c]:=by
   cases m <;>(simp only [ad.al] at h;obtain ⟨A,c,hv,_⟩:=h;exact⟨A,_,c,hv⟩)
  obtain ⟨A,n,c,rfl⟩:=this
  exact⟨(.slice A n c:Value),fun _ _ _ _=>by simp only [ad.rw,ad.al];exact⟨trivial,A,n,c,rfl⟩,by simp only [ad.rw,ad.rel]⟩
 | .st aj,m,x,vs,F,h=>by
  simp only [ad.al] at h
  obtain ⟨y,h1,h2⟩:=ax.yc aj m.parts h
  exact⟨y,fun w' Z' m' F'=>by simp only [ad.rw,ad.al];exact h1 w' Z' m'.parts F',by simp only [ad.rw,ad.rel];exact h2⟩
theorem ax.yc{w:World}{Z:ah} : ∀(T:ax) (m:cQ) {x:T.D} {vs:List Value} {F:ah},T.al w Z m x vs F→∃y:T.rw.D,(∀(w':World) (Z':ah) (m':cQ) (F':ah),T.rw.al w' Z' m' y vs F')∧T.rel T.rw x y
 | .nil,_,_,_,_,h=>by simp only [ax.al] at h;exact⟨(),fun _ _ _ _=>by simp only [ax.rw,ax.al];exact h,by simp only [ax.rw,ax.rel]⟩
 | .cons t aj,m,x,vs,F,h=>by
  simp only [ax.al] at h
  obtain ⟨us,bE,G,H,rfl,h1,h2,_⟩:=h
  obtain ⟨y,k1,k2⟩:=ad.yc t m.ag h1
  obtain ⟨z,dO,eD⟩:=ax.yc aj m.dq h2
  exact⟨(y,z),fun w' Z' m' F'=>by simp only [ax.rw,ax.al];exact⟨us,bE,ah.none,ah.none,rfl,k1 w' Z' m'.ag _,dO w' Z' m'.dq _,fun _ _ h=>h.elim,fun _ _ h=>h.elim,fun _ _ h=>h.elim⟩,by simp only [ax.rw,ax.rel];exact⟨k2,eD⟩⟩
end
mutual
theorem ad.yd{w w':World}{Z Z':ah} : ∀(T:ad) {m m':a'} {y:T.rw.D} {vs:List Value} {F F':ah},T.rw.al w Z m y vs F→T.rw.al w' Z' m' y vs F'
 | .int _,_,_,_,_,_,_,h=>by simp only [ad.rw,ad.al] at h ⊢;exact h
 | .bool,_,_,_,_,_,_,h=>by simp only [ad.rw,ad.al] at h ⊢;exact h
 | .str,_,_,_,_,_,_,h=>by simp only [ad.rw,ad.al] at h ⊢;exact h
 | .sl _,_,_,_,_,_,_,h=>by simp only [ad.rw,ad.al] at h ⊢;exact h
 | .raw,_,_,_,_,_,_,h=>by simp only [ad.rw,ad.al] at h ⊢;exact h
 | .st aj,_,_,_,_,_,_,h=>by simp only [ad.rw,ad.al] at h ⊢;exact ax.yd aj h
theorem ax.yd{w w':World}{Z Z':ah} : ∀(T:ax) {m m':cQ} {y:T.rw.D} {vs:List Value} {F F':ah},T.rw.al w Z m y vs F→T.rw.al w' Z' m' y vs F'
 | .nil,_,_,_,_,_,_,h=>by simp only [ax.rw,ax.al] at h ⊢;exact h
 | .cons t aj,_,_,_,_,_,_,h=>by
  simp only [ax.rw,ax.al] at h ⊢
  obtain ⟨a,b,_,_,rfl,h1,h2,_⟩:=h
  exact⟨a,b,ah.none,ah.none,rfl,ad.yd t h1,ax.yd aj h2,fun _ _ h=>h.elim,fun _ _ h=>h.elim,fun _ _ h=>h.elim⟩
end
mutual
theorem ad.ye{w w':World}{Z Z':ah} : ∀(T:ad) {m m':a'} {y:T.rw.D} {us vs:List Value} {F F':ah},T.rw.al w Z m y us F→T.rw.al w' Z' m' y vs F'→us=vs
 | .int _,_,_,_,_,_,_,_,h,k=>by simp only [ad.rw,ad.al] at h k;rw [h,k]
 | .bool,_,_,_,_,_,_,_,h,k=>by simp only [ad.rw,ad.al] at h k;rw [h,k]
 | .str,_,_,_,_,_,_,_,h,k=>by
  simp only [ad.rw,ad.al] at h k
  obtain ⟨s,rfl,hs⟩:=h
  obtain ⟨aq,rfl,QL⟩:=k
  have:s=aq:=by
   cases s;cases aq
   simp only at hs QL
   congr 1
   apply Array.ext'
   rw [hs,QL]
  rw [this]
 | .sl _,_,_,_,_,_,_,_,h,k=>by simp only [ad.rw,ad.al] at h k;rw [h.1,k.1]
 | .raw,_,_,_,_,_,_,_,h,k=>by simp only [ad.rw,ad.al] at h k;rw [h.1,k.1]
 | .st aj,_,_,_,_,_,_,_,h,k=>by simp only [ad.rw,ad.al] at h k;exact ax.ye aj h k
theorem ax.ye{w w':World}{Z Z':ah} : ∀(T:ax) {m m':cQ} {y:T.rw.D} {us vs:List Value} {F F':ah},T.rw.al w Z m y us F→T.rw.al w' Z' m' y vs F'→us=vs
 | .nil,_,_,_,_,_,_,_,h,k=>by simp only [ax.rw,ax.al] at h k;rw [h,k]
 | .cons t aj,_,_,_,_,_,_,_,h,k=>by
  simp only [ax.rw,ax.al] at h k
  obtain ⟨a,b,_,_,rfl,h1,h2,_⟩:=h
  obtain ⟨b6,b',_,_,rfl,k1,k2,_⟩:=k
  rw [ad.ye t h1 k1,ax.ye aj h2 k2]
end
def gM(w:World)(Z:ah)(T:ad)(m:a'):List T.D→List T.rw.D→ah→Prop
 | [],[],_=>True
 | x :: xs,y :: ys,G=>∃vs G1 G2,T.al w Z m x vs G1∧T.rw.al w Z .R y vs ah.none∧T.rel T.rw x y∧gM w Z T m xs ys G2∧ah.apart G1 G2∧ah.sub G1 G∧ah.sub G2 G
 | _,_,_=>False
section
variable{w w':World}{Z Z':ah}{T:ad}{m:a'}
theorem gM.len:∀ {xs:List T.D} {ys:List T.rw.D} {G:ah},gM w Z T m xs ys G→ys.length=xs.length
 | [],[],_,_=>rfl
 | _ :: _,_ :: _,_,⟨_,_,_,_,_,_,h,_⟩=>by simp [gM.len h]
 | [],_ :: _,_,h=>h.elim
 | _ :: _,[],_,h=>h.elim
theorem gM.mono:∀ {xs:List T.D} {ys:List T.rw.D} {G de:ah},ah.sub G de→gM w Z T m xs ys G→gM w Z T m xs ys de
 | [],[],_,_,_,_=>trivial
 | _ :: _,_ :: _,_,_,hs,⟨vs,G1,G2,h1,h2,h3,h4,aZ,bd,bC⟩=>⟨vs,G1,G2,h1,h2,h3,h4,aZ,fun b o h=>hs b o (bd b o h),fun b o h=>hs b o (bC b o h)⟩
 | [],_ :: _,_,_,_,h=>h.elim
 | _ :: _,[],_,_,_,h=>h.elim
theorem gM.QM:∀ {xs:List T.D} {b o:Nat} {G:ah},Row w (T.al w Z m) T.size xs b o G→∃ys,gM w Z T m xs ys G∧∀(Z':ah),Row w (T.rw.al w Z' .R) T.rw.size ys b o ah.none
 | [],_,_,_,_=>⟨[],trivial,fun _=>trivial⟩
 | x :: xs,b,o,G,⟨vs,G1,G2,h1,h2,h3,h4,aZ,bd,bC⟩=>by
  obtain ⟨ys,k1,k2⟩:=gM.QM h4
  obtain ⟨y,dO,eD⟩:=ad.yc T m h1
  refine⟨y :: ys,⟨vs,G1,G2,h1,dO _ _ _ _,eD,k1,aZ,bd,bC⟩,fun Z'=>⟨vs,ah.none,ah.none,dO _ _ _ _,by rw [h2,ad.n3],h3,?_,fun _ _ h=>h.elim,fun _ _ h=>h.elim,fun _ _ h=>h.elim⟩⟩
  have:=k2 Z'
  rw [ad.n3] at this ⊢
  exact this
theorem gM.filter{p:T.D→Bool}{p':T.rw.D→Bool}(au:∀x y,T.rel T.rw x y→p x=p' y):∀ {xs:List T.D} {ys:List T.rw.D} {G:ah},gM w Z T m xs ys G→gM w Z T m (xs.filter p) (ys.filter p') G
 | [],[],_,_=>trivial
 | x :: xs,y :: ys,G,⟨vs,G1,G2,h1,h2,h3,h4,aZ,bd,bC⟩=>by
  have ih:=gM.filter au h4
  rw [List.filter_cons,List.filter_cons,au x y h3]
  cases p' y
  ·exact ih.mono bC
  ·exact⟨vs,G1,G2,h1,h2,h3,ih,aZ,bd,bC⟩
 | [],_ :: _,_,h=>h.elim
 | _ :: _,[],_,h=>h.elim
theorem gM.same:∀ {xs:List T.D} {ys:List T.rw.D} {G:ah},b4 w w' G→gM w Z T T.own xs ys G→gM w' Z' T T.own xs ys G
 | [],[],_,_,_=>trivial
 | x :: xs,y :: ys,G,hs,⟨vs,G1,G2,h1,h2,h3,h4,aZ,bd,bC⟩=>by
  exact⟨vs,G1,G2,pX T (hs.mono bd) h1,ad.yd T h2,h3,gM.same (hs.mono bC) h4,aZ,bd,bC⟩
 | [],_ :: _,_,_,h=>h.elim
 | _ :: _,[],_,_,h=>h.elim
theorem gM.row:∀ {xs:List T.D} {ys:List T.rw.D} {G:ah} {b o:Nat} {H:ah},gM w Z T m xs ys G→Row w (T.rw.al w Z' .R) T.rw.size ys b o H→Row w (T.al w Z m) T.size xs b o G
 | [],[],_,_,_,_,_,_=>trivial
 | x :: xs,y :: ys,G,b,o,H,⟨vs,G1,G2,h1,h2,h3,h4,aZ,bd,bC⟩,⟨us,H1,H2,k1,k2,k3,bf,_⟩=>by
  have:us=vs:=ad.ye T k1 h2
  subst this
  rw [ad.n3] at k2 bf
  exact⟨us,G1,G2,h1,k2,k3,gM.row h4 (by rw [ad.n3];exact bf),aZ,bd,bC⟩
 | [],_ :: _,_,_,_,_,h,_=>h.elim
 | _ :: _,[],_,_,_,_,h,_=>h.elim
theorem aam{P:Program}{f:FuncId}{key:FuncId}{T':ad}{p:T.D→Int→Bool}{p':T'.D→Int→Bool}(bW:T.rw=T')(Br:∀x y i,T.rel T' x y→p x i=p' y i)
  {fq:(bw.ins [.val (.sl T') (.O .R),.fn 0 1,.ref (.int .i64)]).D→Option (cS.outs [.val (.sl T') (.O .R)] (bw.dU [.val (.sl T') (.O .R),.fn 0 1,.ref (.int .i64)])).D}
  (dM:hp P f key ⟨[.val (.sl T') (.O .R),.fn 0 1,.ref (.int .i64)],[.val (.sl T') (.O .R)],fq⟩)
  (hf:∀(ys:List T'.D) (i:Int),room ys.length=true→fq (ys,i,())=some (ys.filter (fun y=>p' y i),())) :
  hp P f key ⟨[.val (.sl T) (.O T.own),.fn 0 1,.ref (.int .i64)],[.val (.sl T) (.O T.own)],fun x=>cond (room x.1.length) (some (x.1.filter (fun y=>p y x.2.1),())) none⟩:=by
 subst bW
 refine⟨fun w Z F x us r hZ hF hFZ hA hr=>?_⟩
 obtain ⟨xs,i,u⟩:=x
 simp only at hr
 cases hroom:room xs.length
 ·rw [hroom] at hr;cases hr
 rw [hroom] at hr
 simp only [cond_true] at hr
 have hr:=aU hr
 obtain ⟨vs,aR,G,H,e1,cK,fC,BP,hGF,yf⟩:=hA
 simp only [ad.al] at cK
 obtain ⟨A,c,rfl,cK⟩:=cK
 obtain ⟨ys,G1,v_,dP,aan,yg,v',IX⟩:∃(ys:List T.rw.D) (G1 v_:ah),gM w Z T T.own xs ys G1∧(ad.sl T.rw).al w Z (.O .R) ys [.slice A xs.length c] v_∧ah.sub G1 G∧ah.sub v_ G∧ah.apart G1 v_:=by
  rcases cK with⟨rfl,rfl⟩ | ⟨a,rfl,hr⟩
  ·exact⟨[],ah.none,ah.none,trivial,by simp only [ad.al];exact⟨A,0,rfl,.inl (by simp)⟩,fun _ _ h=>h.elim,fun _ _ h=>h.elim,fun _ _ h=>h.elim⟩
  ·obtain ⟨G1,g1,g2,g3⟩:=hr.row
   obtain ⟨ys,k1,k2⟩:=gM.QM g1
   refine⟨ys,G1,ah.run a.block a.off (c*T.size),k1,?_,g3,?_,?_⟩
   ·simp only [ad.al]
    refine⟨some a,c,by rw [k1.len],.inr ⟨a,rfl,hr.spot,by rw [k1.len];exact hr.cap,?_,?_,ah.none,?_,fun _ _ h=>h,fun _ _ h=>h.elim⟩⟩
    ·rw [ad.n3];exact hr.wr
    ·rw [ad.n3];exact fun j hj=>⟨rfl,by omega,by omega⟩
    ·exact k2 Z
   ·rintro b o ⟨rfl,h1,h2⟩
    have:=hr.inF (o-a.off) (by omega)
    rwa [show a.off +(o-a.off)=o by omega] at this
   ·rintro b o az ⟨rfl,h1,h2⟩
    have:=g2 (o-a.off) (by omega)
    rw [show a.off +(o-a.off)=o by omega] at this
    exact this az
 have hcall:=dM.calls w Z (v_.or H) (ys,i,u) us (ys.filter (fun y=>p' y i),()) hZ
  (fun b o h=>h.elim (fun h=>hF b o (hGF b o (v' b o h))) fun h=>hF b o (yf b o h))
  (fun b o h hz=>h.elim (fun h=>hFZ b o (hGF b o (v' b o h)) hz) fun h=>hFZ b o (yf b o h) hz)
  ⟨[.slice A xs.length c],aR,v_,H,e1,aan,fC,fun b o h=>BP b o (v' b o h),fun _ _ h=>.inl h,fun _ _ h=>.inr h⟩
  (hf ys i (by rw [dP.len];exact hroom))
 refine hcall.mono ?_
 rintro end_ w' ⟨v,rfl,⟨⟨di,Z',F',rfl,hx,iV,hz2,hf2,xX,gU⟩⟩⟩
 subst hr
 simp only [hL] at gU
 obtain ⟨vs1,dX,de,Y_,rfl,vH,⟨rfl,BQ⟩,_,QN,_⟩:=gU
 have wa:∀b o,G1 b o→F b o∧b<w.heap.size:=fun b o h=>⟨hGF b o (yg b o h),hF b o (hGF b o (yg b o h))⟩
 have aao:ah.apart G1 F':=by
  intro b o h1 h2
  rcases (hf2 b o h2).1 with(h3 | h3) | h3
  ·exact IX b o h1 h3
  ·exact BP b o (yg b o h1) h3
  ·have:=(wa b o h1).2;omega
 have mO:b4 w w' G1:=b4.iy hx (fun b o h=>(wa b o h).2) (by
  rintro b o h1 (h3 | h3)
  ·exact IX b o h1 h3
  ·exact BP b o (yg b o h1) h3)
 have BR:gM w' Z' T T.own (xs.filter fun y=>p y i) (ys.filter fun y=>p' y i) G1:=(dP.same mO).filter fun x y h=>Br x y i h
 have hsz:T.rw.size=T.size:=ad.n3 T
 refine⟨_,rfl,⟨⟨_,Z',F'.or G1,rfl,?_,iV,?_,?_,?_,?_⟩⟩⟩
 ·exact hx.mono fun b o hb h=>h.elim (fun h=>hGF b o (v' b o h)) fun h=>yf b o h
 ·intro b o hz
  rcases hz2 b o hz with h1 | ⟨h1,h2⟩
  ·exact .inl h1
  ·exact .inr ⟨h1.imp (fun h=>h.elim (fun h=>hGF b o (v' b o h)) fun h=>yf b o h) fun h=>h,h2⟩
 ·rintro b o (h1 | h1)
  ·obtain ⟨h2,h3⟩:=hf2 b o h1
   exact⟨h2.imp (fun h=>h.elim (fun h=>hGF b o (v' b o h)) fun h=>yf b o h) fun h=>h,h3⟩
  ·exact⟨.inl (wa b o h1).1,Nat.lt_of_lt_of_le (wa b o h1).2 hx.size⟩
 ·rintro b o (h1 | h1) hz
  ·exact xX b o h1 hz
  ·rcases hz2 b o hz with h2 | ⟨(h2 | h2) | h2,_⟩
   ·exact hFZ b o (wa b o h1).1 h2
   ·exact IX b o h1 h2
   ·exact BP b o (yg b o h1) h2
   ·have:=(wa b o h1).2;omega
 ·simp only [hL]
  refine⟨vs1,[],F'.or G1,ah.none,rfl,?_,⟨rfl,by simp only [hV] at BQ ⊢;exact BQ⟩,fun _ _ _ h=>h.elim,fun _ _ h=>h,fun _ _ h=>h.elim⟩
  simp only [ad.al] at vH ⊢
  obtain ⟨oJ,c',rfl,vH⟩:=vH
  refine⟨oJ,c',by rw [← BR.len],?_⟩
  rcases vH with⟨h1,h2⟩ | ⟨b6,oO,h8⟩
  ·refine .inl ⟨List.eq_nil_of_length_eq_zero ?_,h2⟩
   rw [← BR.len,h1];rfl
  ·obtain ⟨NY,bA,_⟩:=h8.row
   refine .inr ⟨b6,oO,h8.spot,by rw [← BR.len];exact h8.cap,by have:=h8.wr;rwa [hsz] at this,?_,G1,BR.row bA,?_,fun _ _ h=>.inr h⟩
   ·intro j hj
    exact .inl (QN _ _ (h8.inF j (by rw [hsz];exact hj)))
   ·intro j hj az
    exact aao _ _ az (QN _ _ (h8.inF j (by rw [hsz];exact hj)))
end
end Go.LM
