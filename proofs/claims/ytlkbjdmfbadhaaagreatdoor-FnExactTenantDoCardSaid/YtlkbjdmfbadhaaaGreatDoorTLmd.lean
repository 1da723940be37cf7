/- Regions, loops and whole functions are what the interpreter says, and a law's reading fits them. Conditions: each theorem's own hypotheses. -/
import Derived.Test.YtlkbjdmfbadhaaaGreatDoorTLmc
import Derived.Orders
import Derived.OrdersHeld
import Derived.Laws.StructEq
import Derived.WalkKit
import Derived.ProofKit
import Derived.OpenShut
import Derived.ShutString
import Derived.ChangeOld
import Derived.Below
import Derived.JoinedCond
import Derived.Lib.Bytealg
set_option linter.unusedVariables false
set_option linter.unusedSimpArgs false
namespace Go.LM
section
variable{P:Program}{Q:Exit→Act→World→Prop}
variable{w0:World}{F0 Z0:ag}{n:cB}{s aq:al}{a b6:Act}{w w':World}{ι bh:Nat→bC}{Z Z':ag}
variable{E:Env}{o:Oper}{bs : Type}{K:al→Option bs}{r : bs}{id:Nat}
def gP(w0:World)(F0 Z0:ag)(n:cB)(K:al→Option bs)(r : bs)(a:Act)(w:World):Prop:=∃s,K s=some r∧cQ w0 F0 Z0 n s a w
theorem Ti(hn:E.n=n)(h:yM E o=true):∀k,o.dst=some k→k<n:=by
 intro k hk
 unfold yM at h
 rw [hk] at h
 rw [← hn]
 exact Nat.le_of_ble_eq_true h
theorem Inv.Tj(h:Inv w0 F0 Z0 n s a w ι Z){d:Nat}{b:Bool}(hb:s.t d=.aU (.bool b)):Inv w0 F0 Z0 n (s.set d (.aU (.bool b))) a w ι Z∧a.tmps.getD d undef=.bool b:=by
 have ah:=h.tmps d
 rw [hb] at ah
 have qp:a.tmps.getD d undef=.bool b:=by simpa only [aT,cc] using ah
 refine⟨h.tmp rfl (fun k=>?_) h.size h.defers,qp⟩
 have hm:eA w Z s ι w Z (s.set d (.aU (.bool b))) ι := Jl rfl
 show aT w Z (s.set d (.aU (.bool b))) ι (bP s.t d (.aU (.bool b)) k) (a.tmps.getD k undef)
 by_cases hk:d=k
 ·subst hk;rw [cz,qp];simp only [aT,cc]
 ·rw [cK hk];exact(h.tmps k).move hm
theorem Tk(h:Inv w0 F0 Z0 n s a w ι Z)(ah:∀k,o.dst=some k→k<n):cQ w0 F0 Z0 n (s.dst o.dst .gone) (a.put o.dst undef) w :=
 ⟨ι,Z,h.dst (by simp only [aT]) ah⟩
theorem Tl{ops:Array Oper}(bK:jE P E)(hn:E.n=n)(h:Inv w0 F0 Z0 n s a w ι Z)(hk:tB E id ops.toList o s K=some r) :
  if Region.wanted o (yielded ops a.tmps) then o.wp P a w (gP w0 F0 Z0 n K r) Q else gP w0 F0 Z0 n K r (a.put o.dst undef) w:=by
 unfold tB at hk
 cases uh:yM E o
 ·rw [uh] at hk;cases hk
 rw [uh] at hk
 simp only [cond_true] at hk
 have ah:=Ti hn uh
 have lx:∀ {s1:al},Inv w0 F0 Z0 n s1 a w ι Z→cL E id o s1 K=some r→o.wp P a w (gP w0 F0 Z0 n K r) Q:=by
  intro s1 h1 hk1
  obtain ⟨aq,h2,h3⟩:=adn (Q:=Q) bK h1 ah hk1
  exact Oper.wp_mono (fun a w hs=>⟨aq,h2,hs⟩) h3
 have eI:∀ {s1:al},Inv w0 F0 Z0 n s1 a w ι Z→K (s1.dst o.dst .gone)=some r→gP w0 F0 Z0 n K r (a.put o.dst undef) w:=fun h1 hk1=>⟨_,hk1,Tk h1 ah⟩
 unfold guardOf at hk
 cases aD:o.guard with
 | none =>
  rw [aD] at hk
  simp only at hk
  rw [if_pos (by simp [Region.wanted,aD])]
  exact lx h hk
 | some KL =>
  obtain ⟨j,wt⟩:=KL
  rw [aD] at hk
  simp only at hk
  cases hj:(ops.toList[j]?).bind (·.dst) with
  | none=>rw [hj] at hk;simp at hk
  | some d =>
   rw [hj] at hk
   simp only at hk
   cases hst:s.t d with
   | aU c =>
    cases c with
    | bool b =>
     rw [hst] at hk
     simp only at hk
     obtain ⟨h1,h2⟩:=h.Tj hst
     have a_:yielded ops a.tmps j=some b:=by
      unfold yielded
      rw [Array.getElem?_toList] at hj
      rw [hj]
      simp only [ak]
      have bY:d<a.tmps.size:=by
       rcases Nat.lt_or_ge d a.tmps.size with h | h
       ·exact h
       ·rw [Array.getD_eq_getD_getElem?,Array.getElem?_eq_none h] at h2
        simp [undef] at h2
      rw [Array.getD_eq_getD_getElem?,Array.getElem?_eq_getElem bY] at h2
      rw [Array.getElem?_eq_getElem bY]
      simp only [Option.getD_some] at h2
      rw [h2]
     have hw:Region.wanted o (yielded ops a.tmps)=(b==wt):=by
      simp only [Region.wanted,aD,a_]
      cases b <;> cases wt <;> rfl
     rw [hw]
     cases b <;> cases wt <;> simp only [cond_true,cond_false] at hk
     ·exact lx h1 hk
     ·exact eI h1 hk
     ·exact eI h1 hk
     ·exact lx h1 hk
    | _=>rw [hst] at hk;simp at hk
   | gone =>
    rw [hst] at hk
    simp only at hk
    have h2:=h.tmps d
    rw [hst] at h2
    simp only [aT] at h2
    have a_:yielded ops a.tmps j=none:=by
     unfold yielded
     rw [Array.getElem?_toList] at hj
     rw [hj]
     simp only [ak]
     rw [Array.getD_eq_getD_getElem?] at h2
     cases n7:a.tmps[d]? with
     | none=>rfl
     | some v=>rw [n7] at h2;simp only [Option.getD_some] at h2;subst h2;rfl
    have hw:Region.wanted o (yielded ops a.tmps)=false:=by
     simp only [Region.wanted,aD,a_]
     cases wt <;> rfl
    rw [hw]
    exact eI h hk
   | _=>rw [hst] at hk;simp at hk
theorem CD{ops:Array Oper}{R:Exit→Act→World→Prop}{i m:Nat}(hi:ops[i]?=some o)(aD:o.guard=none)(h:o.wp P a w (fun a w=>wpOps P ops R (List.range' (i+1) m) a w) R):wpOps P ops R (List.range' i (m+1)) a w:=by
 rw [List.range'_succ]
 simp only [wpOps,hi]
 rw [if_pos (by simp [Region.wanted,aD])]
 exact .inl h
theorem KM{ca:Nat}{ops:Array Oper}(bK:jE P E)(hn:E.n=n):∀(m:Nat) (l:List Oper) (i:Nat) (s:al) (a:Act) (w:World),l.length≤m→ops.toList.drop i=l→tC E ca ops.toList l i 0 s K=some r→cQ w0 F0 Z0 n s a w →
  wpOps P ops (fun e a w=>e=.normal∧gP w0 F0 Z0 n K r a w) (List.range' i l.length) a w
 | _,[],i,s,a,w,_,_,hk,hs=>⟨rfl,s,hk,hs⟩
 | 0,_ :: _,_,_,_,_,hm,_,_,_=>by simp at hm
 | m+1,o :: l,i,s,a,w,hm,hl,hk,⟨ι,Z,h⟩=>by
  have hm:l.length≤m:=by simpa using hm
  have CE:∀(j:Nat) (o:Oper) (l:List Oper),ops.toList.drop j=o :: l→ops[j]?=some o∧ops.toList.drop (j+1)=l:=by
   intro j o l hl
   refine⟨?_,by rw [← List.drop_drop,hl];rfl⟩
   rw [← Array.getElem?_toList]
   have:=congrArg (·[0]?) hl
   simpa using this
  obtain ⟨hi,gf⟩:=CE i o l hl
  simp only [tC] at hk
  cases bX:Rq E s o
  ·rw [bX] at hk
   simp only [cond_false] at hk
   rw [List.length_cons,List.range'_succ]
   have n8:=Tl (Q:=fun e a w=>e=.normal∧gP w0 F0 Z0 n K r a w) bK hn h hk
   simp only [wpOps,hi]
   have rZ:∀a w,gP w0 F0 Z0 n (fun aq=>tC E ca ops.toList l (i+1) 0 aq K) r a w→wpOps P ops (fun e a w=>e=.normal∧gP w0 F0 Z0 n K r a w) (List.range' (i+1) l.length) a w:=by
    rintro a w ⟨aq,h1,h2⟩
    exact KM bK hn m l (i+1) aq a w hm gf h1 h2
   split
   ·rename_i hw
    rw [if_pos hw] at n8
    exact .inl (Oper.wp_mono rZ n8)
   ·rename_i hw
    rw [if_neg hw] at n8
    exact rZ _ _ n8
  ·rw [bX] at hk
   simp only [cond_true] at hk
   obtain ⟨dB,ez,eL,dh,rfl,g0,g1,g2,g3,lY⟩:=adQ (Q:=fun e a w=>e=.normal∧gP w0 F0 Z0 n K r a w) bK hn h hk
   obtain ⟨gw,hl1⟩:=CE _ _ _ gf
   obtain ⟨ia,eB⟩:=CE _ _ _ hl1
   obtain ⟨wZ,KN⟩:=CE _ _ _ eB
   refine CD hi g0 (Oper.wp_mono (fun a w h=>CD gw g1 (Oper.wp_mono (fun a w h=>CD ia g2 (Oper.wp_mono (fun a w h=>CD wZ g3 (Oper.wp_mono (fun a w h=>?_) h)) h)) h)) lY)
   obtain ⟨aq,h1,h2⟩:=h
   exact KM bK hn m dh (i+1+1+1+1) aq a w (by simp at hm;omega) KN h1 h2
theorem ad0{ca:Nat}{ops:Array Oper}(bK:jE P E)(hn:E.n=n)(l:List Oper)(i:Nat)(s:al)(a:Act)(w:World)(hl:ops.toList.drop i=l)(hk:Jd E ca ops.toList l i s K=some r)(hs:cQ w0 F0 Z0 n s a w) :
  wpOps P ops (fun e a w=>e=.normal∧gP w0 F0 Z0 n K r a w) (List.range' i l.length) a w:=KM bK hn l.length l i s a w (Nat.le_refl _) hl hk hs
theorem ad1{ca:Nat}{ops:Array Oper}(bK:jE P E)(hn:E.n=n)(hk:Jd E ca ops.toList ops.toList 0 s K=some r)(hs:cQ w0 F0 Z0 n s a w)(b:Frame)(k:List Item)(cs:List Frame) :
  ∃b6 w',gP w0 F0 Z0 n K r b6 w'∧Steps P (lone (b.at a (.code (.region ca ops false) :: k)) cs w) (lone (b.at b6 k) cs w'):=by
 have h:=ad0 (w0:=w0) (F0:=F0) (Z0:=Z0) (n:=n) bK hn ops.toList 0 s a w rfl hk hs
 have h':wpOps P ops (fun e a w=>e=.normal∧gP w0 F0 Z0 n K r a w) (List.range ops.size) a w:=by
  rw [List.range_eq_range'];simpa using h
 obtain ⟨e,b6,w',⟨rfl,hl⟩,harr⟩:=wp_ops _ a w h' b k cs
 exact⟨b6,w',hl,.head step_region harr⟩
end
end Go.LM
namespace Go.LM
section
variable{P:Program}{ops:Array Oper}{Q:Exit→Act→World→Prop}
abbrev fE:=List (Nat×(World→Prop))
def fE.after(ops:Array Oper)(j:Nat)(p:fE):fE:=p.filter fun x => !waits ops j x.1
def fE.ok(p:fE)(w:World):Prop:=∀x∈p,x.2 w
def n_(P:Program)(ops:Array Oper)(Q:Exit→Act→World→Prop):Nat→Array Bool→fE→Act→World→Prop
 | 0,listed,_,a,w=>Region.ready .any ops listed=[]∧Q .normal a w
 | fuel+1,listed,iA,a,w =>
  (Region.ready .any ops listed=[]→Q .normal a w) ∧
  ∀j∈Region.ready .any ops listed,wpOp P ops Q j (fun b6 w'=>(iA.after ops j).ok w'∧n_ P ops Q fuel (listed.setIfInBounds j true) (iA.after ops j) b6 w') a w
theorem Tm:∀(fuel:Nat) (listed:Array Bool) (iA:fE) (a:Act) (w:World),n_ P ops Q fuel listed iA a w→wpAny P .any ops Q fuel listed a w
 | 0,_,_,_,_,h=>h
 | fuel+1,_,_,_,_,h=>⟨h.1,fun i hi=>wpOp_mono (fun b6 w' h'=>Tm fuel _ _ b6 w' h'.2) (h.2 i hi)⟩
theorem fE.Tn{p q:fE}(h:∀x∈p,x∈q)(j:Nat):∀x∈p.after ops j,x∈q.after ops j:=by
 intro x hx
 unfold fE.after at *
 rw [List.mem_filter] at *
 exact⟨h x hx.1,hx.2⟩
theorem To:∀(fuel:Nat) (listed:Array Bool) (p q:fE) (a:Act) (w:World),(∀x∈p,x∈q)→n_ P ops Q fuel listed q a w→n_ P ops Q fuel listed p a w
 | 0,_,_,_,_,_,_,h=>h
 | fuel+1,_,p,q,_,_,hs,h=>⟨h.1,fun i hi=>wpOp_mono (fun b6 w' h'=>⟨fun x hx=>h'.1 x (fE.Tn hs i x hx),To fuel _ _ _ b6 w' (fE.Tn hs i) h'.2⟩) (h.2 i hi)⟩
theorem fE.KO{p:fE}{j:Nat}{x:Nat×(World→Prop)}(hx:x∈p.after ops j):x∈p:=(List.mem_filter.1 hx).1
theorem ad2{i:Nat}{l':Oper}{v:Value}{S:World→Prop}(hi:ops[i]?=some l')(xp:∀(j:Nat) (o:Oper) cs b,ops[j]?=some o→o.op≠.select cs b)
  (m8:∀c a w,Q (.panic c) (a.put l'.dst v) w→Q (.panic c) a w) :
  ∀(fuel:Nat) (listed:Array Bool) (iA:fE) (a:Act) (w:World),
   (∀j m9,ops[j]?=some m9→j≠i→listed.getD j true=false→(∀e∈m9.after,Region.binds .any e=true→e.on≠i)→l'.apart ops m9=true) →
   i∈Region.ready .any ops listed→YieldsIf P ops S l' v a→S w→iA.ok w →
   n_ P ops Q fuel (listed.setIfInBounds i true) ((i,S) :: iA) (a.put l'.dst v) w→n_ P ops Q (fuel+1) listed iA a w:=by
 intro fuel
 induction fuel with
 | zero =>
  intro listed iA a w _ hr a_ ef av H
  refine⟨fun h=>(by rw [h] at hr;cases hr),fun j hj=>?_⟩
  by_cases lv:j=i
  ·subst lv;exact a_.wpOp hi ef ⟨fun x hx=>av x (fE.KO hx),H⟩
  ·have:=ready_mono hj lv
   rw [H.1] at this
   cases this
 | succ fuel ih =>
  intro listed iA a w fS hr a_ ef av H
  refine⟨fun h=>(by rw [h] at hr;cases hr),fun j hj=>?_⟩
  by_cases lv:j=i
  ·subst lv
   exact a_.wpOp hi ef ⟨fun x hx=>av x (fE.KO hx),To _ _ _ _ _ _ (fun x hx=>List.mem_cons_of_mem _ (fE.KO hx)) H⟩
  ·have h1:=H.2 j (ready_mono hj lv)
   obtain ⟨Tp,m9,CF,qn⟩:=mem_ready.1 hj
   have Tq:∀e∈m9.after,Region.binds .any e=true→e.on≠i:=fun e he hb heq=>by
    have h1:=qn e he hb
    have h0:=(mem_ready.1 hr).1
    rw [heq] at h1
    rcases Nat.lt_or_ge i listed.size with h' | h'
    ·simp [h'] at h0 h1;rw [h0] at h1;cases h1
    ·simp [Array.getElem?_eq_none h'] at h1
   have ad3:waits ops j i=false:=by
    unfold waits
    rw [CF]
    simp only
    rw [Bool.eq_false_iff]
    intro ad4
    obtain ⟨e,he,hb⟩:=Array.any_eq_true'.1 ad4
    simp only [Bool.and_eq_true] at hb
    exact Tq e he hb.1 (Nat.eq_of_beq_eq_true hb.2)
   have ad5:fE.after ops j ((i,S) :: iA)=(i,S) :: iA.after ops j:=by
    unfold fE.after
    rw [List.filter_cons_of_pos (by simp [ad3])]
   rw [ad5] at h1
   have h2:=wpOp_putIf CF (fS j m9 CF lv Tp Tq) (fun cs b=>xp i l' cs b hi) (fun cs b=>xp j m9 cs b CF) m8 a_ h1
   have ad6:∀k ok,ops[k]?=some ok→k≠i→(listed.setIfInBounds j true).getD k true=false →
     (∀e∈ok.after,Region.binds .any e=true→e.on≠i)→l'.apart ops ok=true:=fun k ok hk ly CG eI=>by
    refine fS k ok hk ly ?_ eI
    by_cases o3:j=k
    ·subst o3;exact Tp
    ·rw [getD_set_ne true o3] at CG;exact CG
   refine wpOp_mono (fun b6 w' h3=>⟨fun x hx=>h3.2.1 x (List.mem_cons_of_mem _ hx),ih (listed.setIfInBounds j true) _ b6 w' ad6 (ready_mono hr (Ne.symm lv)) h3.1 (h3.2.1 _ List.mem_cons_self) (fun x hx=>h3.2.1 x (List.mem_cons_of_mem _ hx)) ?_⟩) h2
   rw [Array.setIfInBounds_comm _ _ lv]
   exact h3.2.2
end
end Go.LM
namespace Go.LM
section
variable{P:Program}{Q:Exit→Act→World→Prop}
variable{w0:World}{F0 Z0:ag}{n:cB}{s aq:al}{a b6:Act}{w w':World}{ι bh:Nat→bC}{Z Z':ag}
variable{E:Env}{o:Oper}{bs : Type}{K:al→Option bs}{r : bs}{id:Nat}
structure cB.le(p q:cB):Prop where
 n:q.n=p.n
 p7:q.p7=p.p7
 gc:∀e,e∈p.gc→e∈q.gc
theorem cB.le.refl(n:cB):cB.le n n:=⟨rfl,rfl,fun _ h=>h⟩
theorem cB.le.trans{a b c:cB}(h:cB.le a b)(k:cB.le b c):cB.le a c:=⟨k.n.trans h.n,k.p7.trans h.p7,fun e he=>k.gc e (h.gc e he)⟩
theorem Inv.forget{dW:cB}(h:Inv w0 F0 Z0 dW s a w ι Z)(hl:cB.le n dW):Inv w0 F0 Z0 n s a w ι Z :=
 ⟨h.ext,h.dC,h.rE,h.iC,h.fP,h.own,h.apart,h.cW,h.tmps,by rw [h.size,hl.n],by rw [← hl.p7];exact h.ghost,fun e he=>h.seen e (hl.gc e he),h.defers⟩
theorem Inv.Tr(h:Inv w0 F0 Z0 n s a w ι Z){e:Seen}(he:tH w Z s ι e):Inv w0 F0 Z0 ⟨n.n,n.p7,e :: n.gc⟩ s a w ι Z :=
 ⟨h.ext,h.dC,h.rE,h.iC,h.fP,h.own,h.apart,h.cW,h.tmps,h.size,h.ghost,fun x hx=>by rcases List.mem_cons.1 hx with rfl | hx;exact he;exact h.seen x hx,h.defers⟩
theorem Ts(n:cB)(e:Seen):cB.le n ⟨n.n,n.p7,e :: n.gc⟩:=⟨rfl,rfl,fun _ h=>List.mem_cons_of_mem _ h⟩
def r0(n:cB)(dp:List (Nat×Nat))(S:World→Prop):Prop:=(∀w,S w)∨∃b i vs,(⟨dp,b,i,vs⟩:Seen)∈n.gc∧S=fun w=>b2 w b i vs
theorem r0.le{dW:cB}{dp:List (Nat×Nat)}{S:World→Prop}(h:r0 n dp S)(hl:cB.le n dW):r0 dW dp S :=
 h.imp (fun h=>h) fun⟨b,i,vs,h1,h2⟩=>⟨b,i,vs,hl.gc _ h1,h2⟩
def Reads(P:Program)(w0:World)(F0 Z0:ag)(n:cB)(dp:List (Nat×Nat))(o:Oper)(a:Act)(w:World)(aq:al):Prop :=
 ∃v S dW,(∀w',S w'→(execOp a.eval o).run P w'=.ok (.value v) w')∧S w∧cQ w0 F0 Z0 dW aq (a.put o.dst v) w∧cB.le n dW∧r0 dW dp S
theorem Pure.reads{dp:List (Nat×Nat)}(h:Pure P o a w (cQ w0 F0 Z0 n aq)):Reads P w0 F0 Z0 n dp o a w aq:=by
 obtain ⟨v,h1,h2⟩:=h
 exact⟨v,fun _=>True,n,fun w' _=>h1 w',trivial,h2,.refl n,.inl fun _=>trivial⟩
theorem ad7{t:Nat}{x:Operand}(bX:gL P E)(h:Inv w0 F0 Z0 n s a w ι Z)(ah:∀k,o.dst=some k→k<n)(ho:o.op=.load t x)(hk:cL E id o s K=some r) :
  ∃aq,K aq=some r∧Reads P w0 F0 Z0 n (iz s o) o a w aq:=by
 unfold cL at hk
 rw [ho] at hk
 simp only at hk
 have hx:=eR h x
 have hrun:∀ {T:aa} {b i:Nat} {vs:List Value} {w':World},E.ty t=some T→a.eval x=.pointer (some (at_ b i))→b2 w' b i vs→vs.length=T.size →
   (execOp a.eval o).run P w'=.ok (.value (dD T vs)) w':=by
  intro T b i vs w' ht he hc hl
  unfold execOp;rw [ho]
  refine fU ?_
  simp only [Instr.loadAt,Instr.sureAddr,he,run_bind,run_pure,JB (bX.ty t T ht) hc hl]
 cases ht:E.ty t with
 | none=>rw [ht] at hk;simp at hk
 | some T =>
  rw [ht] at hk
  cases cF:bR s x with
  | ptr p =>
   have mN:iz s o=[(p.id,km s p.id)]:=by unfold iz;rw [ho];simp only [cF]
   rw [cF] at hk hx
   simp only at hk
   cases cX:(lS s T.size p).bind (jT T) with
   | none=>rw [cX] at hk;simp at hk
   | some v =>
    rw [cX] at hk
    obtain ⟨cs,h1,h2⟩:=bj cX
    simp only [aT] at hx
    obtain ⟨_,A,he,av⟩:=hx
    obtain ⟨b,i,vs,rfl,hc,cm,hl,b8,hF⟩:=SD h h1 av
    have KP:tH w Z s ι ⟨iz s o,b,i,vs⟩:=by
     rw [mN]
     refine⟨fun d ah=>?_,fun _=>⟨cm,fun j hj=>.inr ⟨_,List.mem_singleton.2 rfl,hF j (by simp only at hj;omega)⟩⟩⟩
     rw [List.mem_singleton] at ah
     subst ah
     exact⟨fun hn=>by rw [hn] at b8;exact b8,.inr (Nat.le_refl _)⟩
    exact⟨_,hk,_,fun w'=>b2 w' b i vs,_,fun w' hw=>hrun ht he hw hl,cm,⟨ι,Z,(h.Tr KP).dst (oV h2 hc) ah⟩,Ts n ⟨iz s o,_,_,_⟩,.inr ⟨b,i,vs,List.mem_cons_self,rfl⟩⟩
  | c3 dp cs off =>
   have mN:iz s o=dp:=by unfold iz;rw [ho];simp only [cF]
   rw [cF] at hk hx
   simp only at hk
   cases cX:(takeN off T.size cs).bind (jT T) with
   | none=>rw [cX] at hk;simp at hk
   | some v =>
    rw [cX] at hk
    simp only at hk
    cases dq:alive s dp
    ·rw [dq] at hk;simp at hk
    rw [dq] at hk
    obtain ⟨ds,h1,h2⟩:=bj cX
    obtain ⟨h3,rfl⟩:=oS h1
    simp only [aT] at hx
    obtain ⟨cw,b,i,vs,he,hx⟩:=hx
    obtain ⟨hc,cm,hz⟩:=hx dq
    have hlen:=hc.len
    have Tt:b2 w b (i+off) (part vs off T.size):=cm.part off T.size
    have fV:(part vs off T.size).length=T.size:=by simp [part];omega
    have KP:tH w Z s ι ⟨iz s o,b,i+off,part vs off T.size⟩:=by
     rw [mN]
     refine⟨cw,fun _=>⟨Tt,fun j hj=>?_⟩⟩
     simp only at hj
     rw [fV] at hj
     have:=hz (off+j) (by omega)
     rwa [← Nat.add_assoc] at this
    exact⟨_,hk,_,fun w'=>b2 w' b (i+off) (part vs off T.size),_,fun w' hw=>hrun ht he hw fV,Tt,⟨ι,Z,(h.Tr KP).dst (oV h2 ((hc.drop _).take _)) ah⟩,Ts n ⟨iz s o,_,_,_⟩,.inr ⟨b,i+off,part vs off T.size,List.mem_cons_self,rfl⟩⟩
  | _=>rw [cF] at hk;simp at hk
theorem ad8(bK:jE P E)(h:Inv w0 F0 Z0 n s a w ι Z)(ah:∀k,o.dst=some k→k<n)(cX:tD E o=true)(hk:cL E id o s K=some r) :
  ∃aq,K aq=some r∧Reads P w0 F0 Z0 n (iz s o) o a w aq:=by
 have e6:(∃aq,K aq=some r∧Pure P o a w (cQ w0 F0 Z0 n aq))→∃aq,K aq=some r∧Reads P w0 F0 Z0 n (iz s o) o a w aq:=fun⟨aq,h1,h2⟩=>⟨aq,h1,h2.reads⟩
 unfold tD at cX
 cases ho:o.op with
 | move x=>exact e6 (BS h ah (.inl ho) hk)
 | assign x=>exact e6 (BS h ah (.inr ho) hk)
 | pick c x y=>exact e6 (RM h ah ho hk)
 | load t x=>exact ad7 bK.ty h ah ho hk
 | nilCheck x=>exact e6 (RO h ah ho hk)
 | binOp op t x y BY=>exact e6 (R6 bK.ty bK.eq h ah ho hk)
 | unOp op t x=>exact e6 (R3 h ah ho hk)
 | convert st gg x =>
  rw [ho] at cX
  simp only at cX
  cases h1:E.ty st with
  | none=>rw [h1] at cX;simp at cX
  | some S =>
   cases h2:E.ty gg with
   | none=>rw [h1,h2] at cX;cases S <;> simp at cX
   | some T =>
    rw [h1,h2] at cX
    cases S <;> cases T <;> simp only at cX <;> first | (cases cX;done) | exact e6 (acr bK.ty h ah ho h1 h2 hk)
 | build t ps=>exact e6 (Sk bK.ty h ah ho hk)
 | makeFunc f first k0 =>
  cases f with
  | func f=>exact e6 (RT h ah ho hk)
  | _=>unfold cL at hk;rw [ho] at hk;simp at hk
 | slice t x lo hi fi=>exact e6 (RZ bK.ty h ah ho hk)
 | fieldAddr t x f=>exact e6 (RQ bK.ty h ah ho hk)
 | field t x f=>exact e6 (RR bK.ty h ah ho hk)
 | indexAddr t x i=>exact e6 (RU bK.ty h ah ho hk)
 | index t x i=>exact e6 (RV bK.ty h ah ho hk)
 | extract x i=>exact e6 (RS h ah ho hk)
 | call c =>
  rw [ho] at cX
  simp only at cX
  cases hc:c.callee with
  | builtin b =>
   rw [hc] at cX
   by_cases hb:b=.append
   ·subst hb;simp at cX
   ·by_cases hb2:b=.clear
    ·subst hb2;simp at cX
    ·exact e6 (Se bK.ty h ah ho hc hb hb2 hk)
  | value f=>rw [hc] at cX;simp at cX
  | invoke x m=>rw [hc] at cX;simp at cX
 | _=>rw [ho] at cX;simp at cX
theorem ad9{d:Nat}{c:a'}(hst:s.t d=c)(x:Operand):bR (s.set d c) x=bR s x:=by
 cases x with
 | tmp t =>
  show bP s.t d c t=s.t t
  by_cases ah:d=t
  ·subst ah;rw [cz,hst]
  ·rw [cK ah]
 | _=>rfl
theorem Tu{d:Nat}{c:a'}(hst:s.t d=c):iz (s.set d c) o=iz s o:=by
 unfold iz
 cases ho:o.op <;> simp only
 rename_i t x
 rw [ad9 hst]
 rfl
theorem ad_{ops:Array Oper}(bK:jE P E)(hn:E.n=n)(cX:tD E o=true)(h:Inv w0 F0 Z0 n s a w ι Z)(hk:tB E id ops.toList o s K=some r) :
  ∃aq v S dW,K aq=some r∧YieldsIf P ops S o v a∧S w∧cQ w0 F0 Z0 dW aq (a.put o.dst v) w∧cB.le n dW∧r0 dW (iz s o) S:=by
 unfold tB at hk
 cases uh:yM E o
 ·rw [uh] at hk;cases hk
 rw [uh] at hk
 simp only [cond_true] at hk
 have ah:=Ti hn uh
 have lx:∀ {s1:al},Region.wanted o (yielded ops a.tmps)=true→iz s1 o=iz s o→Inv w0 F0 Z0 n s1 a w ι Z→cL E id o s1 K=some r→∃aq v S dW,K aq=some r∧YieldsIf P ops S o v a∧S w∧cQ w0 F0 Z0 dW aq (a.put o.dst v) w∧cB.le n dW∧r0 dW (iz s o) S:=by
  intro s1 hw he h1 hk1
  obtain ⟨aq,h2,v,S,dW,h3,h4,a7,bp,bI⟩:=ad8 bK h1 ah cX hk1
  exact⟨aq,v,S,dW,h2,.inl ⟨hw,h3⟩,h4,a7,bp,he ▸ bI⟩
 have eI:∀ {s1:al},Region.wanted o (yielded ops a.tmps)=false→Inv w0 F0 Z0 n s1 a w ι Z→K (s1.dst o.dst .gone)=some r→∃aq v S dW,K aq=some r∧YieldsIf P ops S o v a∧S w∧cQ w0 F0 Z0 dW aq (a.put o.dst v) w∧cB.le n dW∧r0 dW (iz s o) S:=fun hw h1 hk1 =>
  ⟨_,undef,fun _=>True,n,hk1,.inr ⟨hw,rfl⟩,trivial,Tk h1 ah,.refl n,.inl fun _=>trivial⟩
 unfold guardOf at hk
 cases aD:o.guard with
 | none =>
  rw [aD] at hk
  simp only at hk
  exact lx (by simp [Region.wanted,aD]) rfl h hk
 | some KL =>
  obtain ⟨j,wt⟩:=KL
  rw [aD] at hk
  simp only at hk
  cases hj:(ops.toList[j]?).bind (·.dst) with
  | none=>rw [hj] at hk;simp at hk
  | some d =>
   rw [hj] at hk
   simp only at hk
   cases hst:s.t d with
   | aU c =>
    cases c with
    | bool b =>
     rw [hst] at hk
     simp only at hk
     obtain ⟨h1,h2⟩:=h.Tj hst
     have a_:yielded ops a.tmps j=some b:=by
      unfold yielded
      rw [Array.getElem?_toList] at hj
      rw [hj]
      simp only [ak]
      have bY:d<a.tmps.size:=by
       rcases Nat.lt_or_ge d a.tmps.size with h | h
       ·exact h
       ·rw [Array.getD_eq_getD_getElem?,Array.getElem?_eq_none h] at h2
        simp [undef] at h2
      rw [Array.getD_eq_getD_getElem?,Array.getElem?_eq_getElem bY] at h2
      rw [Array.getElem?_eq_getElem bY]
      simp only [Option.getD_some] at h2
      rw [h2]
     have hw:Region.wanted o (yielded ops a.tmps)=(b==wt):=by
      simp only [Region.wanted,aD,a_]
      cases b <;> cases wt <;> rfl
     cases b <;> cases wt <;> simp only [cond_true,cond_false] at hk
     ·exact lx hw (Tu hst) h1 hk
     ·exact eI hw h1 hk
     ·exact eI hw h1 hk
     ·exact lx hw (Tu hst) h1 hk
    | _=>rw [hst] at hk;simp at hk
   | gone =>
    rw [hst] at hk
    simp only at hk
    have h2:=h.tmps d
    rw [hst] at h2
    simp only [aT] at h2
    have a_:yielded ops a.tmps j=none:=by
     unfold yielded
     rw [Array.getElem?_toList] at hj
     rw [hj]
     simp only [ak]
     rw [Array.getD_eq_getD_getElem?] at h2
     cases n7:a.tmps[d]? with
     | none=>rfl
     | some v=>rw [n7] at h2;simp only [Option.getD_some] at h2;subst h2;rfl
    have hw:Region.wanted o (yielded ops a.tmps)=false:=by
     simp only [Region.wanted,aD,a_]
     cases wt <;> rfl
    exact eI hw h hk
   | _=>rw [hst] at hk;simp at hk
theorem ad'{a b:Option bs}(h:both a b=some r):a=some r∧b=some r:=by
 unfold both at h
 split at h
 ·rename_i he;subst he;exact⟨h,h⟩
 ·cases h
theorem Tv:∀ {l:List (Option bs)},BL l=some r→∀x∈l,x=some r
 | [x],h,y,a_=>by rw [List.mem_singleton] at a_;rw [a_];exact h
 | x :: z :: l,h,y,a_=>by
  simp only [BL] at h
  obtain ⟨h1,h2⟩:=ad' h
  rcases List.mem_cons.1 a_ with rfl | a_
  ·exact h1
  ·exact Tv (l:=z :: l) h2 y a_
def xq(n:cB)(p:List (Nat×List (Nat×Nat)))(q:fE):Prop:=∀x∈q,∃dp,(x.1,dp)∈p∧r0 n dp x.2
theorem xq.le{dW:cB}{p:List (Nat×List (Nat×Nat))}{q:fE}(h:xq n p q)(hl:cB.le n dW):xq dW p q :=
 fun x hx=>let ⟨dp,h1,h2⟩:=h x hx;⟨dp,h1,h2.le hl⟩
theorem KQ:∀ {p:List (Nat×List (Nat×Nat))},tE s p=true→∀x∈p,alive s x.2=true
 | [],_,_,hx=>by simp at hx
 | y :: p,h,x,hx=>by
  unfold tE at h
  cases ha:alive s y.2
  ·rw [ha] at h;cases h
  ·rw [ha] at h
   rcases List.mem_cons.1 hx with rfl | hx
   ·exact ha
   ·exact KQ h x hx
theorem aea{ca:Nat}{ops:Array Oper}(bK:jE P E){m:Nat}{listed:Array Bool}{p:List (Nat×List (Nat×Nat))}{q:fE}{dW:cB}{rs:List Nat}(hn:E.n=dW)(hle:cB.le n dW)(hr:Region.ready .any ops listed=rs)
  (h:Inv w0 F0 Z0 dW s a w ι Z) (av:xq dW p q) (hk:Jh E ca ops listed p rs s K=some r):n_ P ops (fun e a w=>e=.normal∧gP w0 F0 Z0 n K r a w) (m+3+1) listed q a w:=by
 have CH:∀ {l:List Nat} {i:Nat},one l=some i→l=[i]:=by
  intro l i h
  match l,h with
  | [j],h=>rw [aX (show some j=some i from h)]
 unfold Jh at hk
 obtain ⟨i,h0,hk⟩:=bj hk
 obtain ⟨i1,h1,hk⟩:=bj hk
 obtain ⟨i2,h2,hk⟩:=bj hk
 obtain ⟨i3,h3,hk⟩:=bj hk
 have h0:=hr.trans (CH h0)
 have h1:=CH h1
 have h2:=CH h2
 have h3:=CH h3
 generalize hl1:listed.setIfInBounds i true=dn at hk h1 h2 h3
 generalize eB:dn.setIfInBounds i1 true=eh at hk h2 h3
 generalize KN:eh.setIfInBounds i2 true=nZ at hk h3
 generalize aeb:nZ.setIfInBounds i3 true=oU at hk
 cases hb:((Region.ready .any ops oU).isEmpty&&((p.filter fun p => !waits ops i p.1).filter fun p => !waits ops i1 p.1).isEmpty)
 ·rw [hb] at hk;cases hk
 rw [hb] at hk
 simp only [cond_true] at hk
 simp only [Bool.and_eq_true,List.isEmpty_iff] at hb
 obtain ⟨h4,aec⟩:=hb
 obtain ⟨o,ho,hk⟩:=bj hk
 obtain ⟨dB,l8,hk⟩:=bj hk
 obtain ⟨ez,jX,hk⟩:=bj hk
 obtain ⟨eL,qo,hk⟩:=bj hk
 obtain ⟨g0,g1,g2,g3,lY⟩:=adY (Q:=fun e a w=>e=.normal∧gP w0 F0 Z0 n K r a w) bK hn h hk
 have step:∀ {fuel j:Nat} {m9:Oper} {l:Array Bool} {q:fE} {a:Act} {w:World},Region.ready .any ops l=[j]→ops[j]?=some m9→m9.guard=none →
   m9.wp P a w (fun b6 w'=>(q.after ops j).ok w'∧n_ P ops (fun e a w=>e=.normal∧gP w0 F0 Z0 n K r a w) fuel (l.setIfInBounds j true) (q.after ops j) b6 w') (fun e a w=>e=.normal∧gP w0 F0 Z0 n K r a w) →
   n_ P ops (fun e a w=>e=.normal∧gP w0 F0 Z0 n K r a w) (fuel+1) l q a w:=by
  intro fuel j m9 l q a w hr hj aD hw
  refine⟨fun h=>(by rw [hr] at h;cases h),fun k hk=>?_⟩
  rw [hr] at hk
  obtain rfl:=List.mem_singleton.1 hk
  unfold wpOp
  simp only [hj]
  rw [if_pos (by simp [Region.wanted,aD])]
  exact .inl hw
 have hQ:fE.after ops i1 (fE.after ops i q)=[]:=by
  refine List.eq_nil_iff_forall_not_mem.2 fun x hx=>?_
  obtain ⟨hx,hx1⟩:=List.mem_filter.1 hx
  obtain ⟨hx,hx0⟩:=List.mem_filter.1 hx
  obtain ⟨dp,g1,_⟩:=av x hx
  have:(x.1,dp)∈((p.filter fun p => !waits ops i p.1).filter fun p => !waits ops i1 p.1):=List.mem_filter.2 ⟨List.mem_filter.2 ⟨g1,hx0⟩,hx1⟩
  rw [aec] at this
  cases this
 have nil:∀(j:Nat),fE.after ops j []=[]:=fun _=>rfl
 refine step h0 ho g0 (Oper.wp_mono ?_ lY)
 rintro a1 m7 ⟨⟨nS,jj,bh,Z',k2⟩,lY⟩
 refine⟨?_,?_⟩
 ·intro x hx
  obtain ⟨hx1,hx2⟩:=List.mem_filter.1 hx
  obtain ⟨dp,f1,f2⟩:=av x hx1
  rcases f2 with f2 | ⟨b,j,vs,f2,f3⟩
  ·exact f2 m7
  ·rw [f3]
   exact((k2.seen _ f2).2 (KQ jj _ (List.mem_filter.2 ⟨f1,hx2⟩))).1
 rw [hl1]
 refine step h1 l8 g1 (Oper.wp_mono ?_ lY)
 intro a2 b7 lY
 rw [hQ,eB]
 refine⟨fun x hx=>(by cases hx),step h2 jX g2 (Oper.wp_mono ?_ lY)⟩
 intro a3 n9 lY
 rw [nil,KN]
 refine⟨fun x hx=>(by cases hx),step h3 qo g3 (Oper.wp_mono ?_ lY)⟩
 rintro a4 aed ⟨aq,e1,S4,aee,e2⟩
 rw [nil,aeb]
 refine⟨fun x hx=>(by cases hx),?_⟩
 have hfin:Exit.normal=.normal∧gP w0 F0 Z0 n K r a4 aed:=⟨rfl,aq,e1,S4,aee,e2.forget hle⟩
 cases m with
 | zero=>exact⟨h4,hfin⟩
 | succ m=>exact⟨fun _=>hfin,fun j hj=>(by rw [h4] at hj;cases hj)⟩
theorem KR{ca:Nat}{ops:Array Oper}(bK:jE P E)(hs:Region.noSelect ops=true):∀(m:Nat) (listed:Array Bool) (p:List (Nat×List (Nat×Nat))) (q:fE) (dW:cB) (s:al) (a:Act) (w:World),
  E.n=dW→cB.le n dW→tF E ca ops m listed p s K=some r→cQ w0 F0 Z0 dW s a w→xq dW p q→q.ok w →
  n_ P ops (fun e a w=>e=.normal∧gP w0 F0 Z0 n K r a w) m listed q a w
 | 0,listed,p,q,dW,s,a,w,hn,hle,hk,⟨ι,Z,h⟩,av,hq=>by
  unfold tF at hk
  cases hr:Region.ready .any ops listed with
  | nil=>rw [hr] at hk;exact⟨hr,rfl,s,hk,ι,Z,h.forget hle⟩
  | cons=>rw [hr] at hk;cases hk
 | m+1,listed,p,q,dW,s,a,w,hn,hle,hk,⟨ι,Z,h⟩,av,hq=>by
  unfold tF at hk
  cases hr:Region.ready .any ops listed with
  | nil =>
   rw [hr] at hk
   exact⟨fun _=>⟨rfl,s,hk,ι,Z,h.forget hle⟩,fun j hj=>by rw [hr] at hj;simp at hj⟩
  | cons i0 Tw =>
   rw [hr] at hk
   simp only at hk
   cases hf:(i0 :: Tw).find? fun i=>Je E ops i&&Region.free .any ops listed i with
   | some i =>
    rw [hf] at hk
    simp only at hk
    have h3:=List.find?_some hf
    simp only [Bool.and_eq_true] at h3
    cases ho:ops[i]? with
    | none=>rw [ho] at hk;cases hk
    | some o =>
     rw [ho] at hk
     simp only at hk
     have cX:tD E o=true:=by have:=h3.1;unfold Je at this;rw [ho] at this;exact this
     obtain ⟨aq,v,S,la,h1,h2,g3,h4,a7,bp⟩:=ad_ bK hn cX h hk
     refine ad2 ho (Region.noSelect_spec hs) (fun c a w hh=>by simp at hh) m listed q a w (Region.free_spec ho h3.2) (by rw [hr];exact List.mem_of_find?_eq_some hf) h2 g3 hq ?_
     refine KR bK hs m _ _ _ la aq _ w (hn.trans a7.n.symm) (hle.trans a7) h1 h4 ?_ ?_
     ·intro x hx
      rcases List.mem_cons.1 hx with rfl | hx
      ·exact⟨_,List.mem_cons_self,bp⟩
      ·obtain ⟨dp,g1,g2⟩:=av x hx
       exact⟨dp,List.mem_cons_of_mem _ g1,g2.le a7⟩
     ·intro x hx
      rcases List.mem_cons.1 hx with rfl | hx
      ·exact g3
      ·exact hq x hx
   | none =>
    rw [hf] at hk
    simp only at hk
    cases hA:(Rr s ops (i0 :: Tw)&&Nat.ble 3 m)
    case true =>
     rw [hA] at hk
     simp only [cond_true] at hk
     simp only [Bool.and_eq_true] at hA
     obtain ⟨m',rfl⟩:∃m',m=m'+3:=⟨m-3,by have:=Nat.le_of_ble_eq_true hA.2;omega⟩
     exact aea bK hn hle hr h av hk
    rw [hA] at hk
    simp only [cond_false] at hk
    refine⟨fun h0=>(by rw [hr] at h0;cases h0),fun j hj=>?_⟩
    rw [hr] at hj
    have hj':=Tv hk _ (List.mem_map.2 ⟨j,hj,rfl⟩)
    cases ho:ops[j]? with
    | none=>rw [ho] at hj';cases hj'
    | some o =>
     rw [ho] at hj'
     simp only at hj'
     cases cX:tD E o
     case true=>rw [cX] at hj';cases hj'
     rw [cX] at hj'
     simp only [cond_false] at hj'
     have n8:=Tl (Q:=fun e a w=>e=.normal∧gP w0 F0 Z0 n K r a w) bK hn h hj'
     have rZ:∀b6 w',gP w0 F0 Z0 dW (fun aq=>cond (tE aq (p.filter fun p => !waits ops j p.1)) (tF E ca ops m (listed.setIfInBounds j true) (p.filter fun p => !waits ops j p.1) aq K) none) r b6 w' →
       (q.after ops j).ok w'∧n_ P ops (fun e a w=>e=.normal∧gP w0 F0 Z0 n K r a w) m (listed.setIfInBounds j true) (q.after ops j) b6 w':=by
      rintro b6 w' ⟨aq,k1,bh,Z',k2⟩
      dsimp only at k1
      cases dq:tE aq (p.filter fun p => !waits ops j p.1)
      ·rw [dq] at k1;cases k1
      rw [dq] at k1
      simp only [cond_true] at k1
      have CI:xq dW (p.filter fun p => !waits ops j p.1) (q.after ops j):=by
       intro x hx
       obtain ⟨hx1,hx2⟩:=List.mem_filter.1 hx
       obtain ⟨dp,g1,g2⟩:=av x hx1
       exact⟨dp,List.mem_filter.2 ⟨g1,hx2⟩,g2⟩
      have cw:(q.after ops j).ok w':=by
       intro x hx
       obtain ⟨dp,g1,g2⟩:=CI x hx
       rcases g2 with g2 | ⟨b,i,vs,g2,g3⟩
       ·exact g2 w'
       ·rw [g3]
        exact((k2.seen _ g2).2 (KQ dq _ g1)).1
      exact⟨cw,KR bK hs m _ _ _ dW aq b6 w' hn hle k1 ⟨bh,Z',k2⟩ CI cw⟩
     unfold wpOp
     simp only [ho]
     split
     ·rename_i hw
      rw [if_pos hw] at n8
      exact .inl (Oper.wp_mono rZ n8)
     ·rename_i hw
      rw [if_neg hw] at n8
      exact rZ _ _ n8
theorem aef{ca:Nat}{ops:Array Oper}(bK:jE P E)(hn:E.n=n)(hk:Ji E ca ops s K=some r)(hs:cQ w0 F0 Z0 n s a w)(b:Frame)(k:List Item)(cs:List Frame) :
  ∃b6 w',gP w0 F0 Z0 n K r b6 w'∧Steps P (lone (b.at a (.code (.region ca ops true) :: k)) cs w) (lone (b.at b6 k) cs w'):=by
 unfold Ji at hk
 cases xp:Region.noSelect ops
 ·rw [xp] at hk;cases hk
 rw [xp] at hk
 simp only [cond_true] at hk
 obtain ⟨ι,Z,h⟩:=hs
 have h1:=KR (n:=n) bK xp ops.size _ [] [] n s a { w with drawn:=w.drawn+1 } hn (.refl n) hk ⟨ι,Z,h.drew _⟩ (fun x hx=>by simp at hx) (fun x hx=>by simp at hx)
 obtain ⟨e,b6,w',⟨rfl,hl⟩,harr⟩:=(wp_region_any (id:=ca) bK.mix (Tm _ _ _ _ _ h1)) b k cs
 exact⟨b6,w',hl,harr⟩
end
end Go.LM
namespace Go.LM
section
variable{P:Program}{w0:World}{F0 Z0:ag}{n:cB}{E:Env}{bs : Type}{r : bs}
def lz:Code→List Item→List (Nat×List Item)
 | .region ca ops hM,k=>[(ca,.code (.region ca ops hM) :: k)]
 | .seq a b,k=>lz a (.code b :: k)++lz b k
 | .cond _ x y,k=>lz x k++lz y k
 | .block id c,k=>lz c (.inBlock id :: k)
 | .loop c,k=>lz c (.inLoop c :: k)
 | _,_=>[]
def gC:List Item→List (Nat×List Item)
 | []=>[]
 | .code c :: k=>lz c k++gC k
 | .inLoop c :: k=>lz c (.inLoop c :: k)++gC k
 | _ :: k=>gC k
theorem Tx{id:Nat} : ∀ {k k':List Item},exitTo id k=some k'→∀p,p∈gC k'→p∈gC k
 | [],_,h,_,_=>by simp [exitTo] at h
 | x :: k,k',h,p,av=>by
  have key:(∃i,x=.inBlock i∧k'=k)∨exitTo id k=some k':=by
   cases x with
   | inBlock i =>
    simp only [exitTo] at h
    by_cases hi:(i==id)=true
    ·rw [if_pos hi] at h;exact .inl ⟨i,rfl,(aX h).symm⟩
    ·rw [if_neg hi] at h;exact .inr h
   | _=>exact .inr h
  rcases key with⟨i,rfl,rfl⟩ | hk
  ·exact av
  ·have:=Tx hk p av
   cases x <;> simp only [gC] <;> first | exact this | exact List.mem_append_right _ this
def Ty(H:Hand bs)(cuts:Nat→Bool)(r : bs)(todo:List Item)(s:al):Prop :=
 (∃ca ops hM k,todo=.code (.region ca ops hM) :: k∧cuts ca=true∧H.cut ca todo s=some r)∨((todo=[]∨∃k,todo=.code .ret :: k)∧H.fin s=some r)
theorem Tz{cuts:Nat→Bool}{H:Hand bs}(bK:jE P E)(hn:E.n=n):∀(fuel:Nat) (first:Bool) (todo:List Item) (s:al) (a:Act) (w:World),
  jV E cuts H fuel first todo s=some r→cQ w0 F0 Z0 n s a w→∀(b:Frame) (cs:List Frame),
  ∃pa aq b6 w',cQ w0 F0 Z0 n aq b6 w'∧Ty H cuts r pa aq∧(∀p,p∈gC pa→p∈gC todo)∧Steps P (lone (b.at a todo) cs w) (lone (b.at b6 pa) cs w')
 | 0,_,_,_,_,_,hk,_=>by simp [jV] at hk
 | fuel+1,first,todo,s,a,w,hk,hs=>by
  intro b cs
  have ih:=fun first todo s a w hk hs=>Tz (H:=H) (cuts:=cuts) bK hn fuel first todo s a w hk hs b cs
  have one:∀ {todo1:List Item} {first:Bool},(∀p,p∈gC todo1→p∈gC todo)→step P (lone (b.at a todo) cs w)=.next (lone (b.at a todo1) cs w)→jV E cuts H fuel first todo1 s=some r →
    ∃pa aq b6 w',cQ w0 F0 Z0 n aq b6 w'∧Ty H cuts r pa aq∧(∀p,p∈gC pa→p∈gC todo)∧Steps P (lone (b.at a todo) cs w) (lone (b.at b6 pa) cs w'):=by
   intro todo1 first hcs hst hk1
   obtain ⟨cE,aq,b6,w',h1,h2,h3,h4⟩:=ih first todo1 s a w hk1 hs
   exact⟨cE,aq,b6,w',h1,h2,fun p av=>hcs p (h3 p av),.head hst h4⟩
  unfold jV at hk
  match todo,hk with
  | [],hk=>exact⟨[],s,a,w,hs,.inr ⟨.inl rfl,hk⟩,fun _ h=>h,.refl _ _⟩
  | .inBlock _ :: k,hk=>exact one (todo1:=k) (fun _ h=>h) step_inBlock hk
  | .inLoop c :: k,hk=>exact one (fun p av=>by simp only [gC,List.mem_append] at av ⊢;exact av.elim .inl fun h=>h) step_inLoop hk
  | .code .ret :: k,hk=>exact⟨_,s,a,w,hs,.inr ⟨.inr ⟨k,rfl⟩,hk⟩,fun _ h=>h,.refl _ _⟩
  | .code .skip :: k,hk=>exact one (todo1:=k) (fun _ h=>h) step_skip hk
  | .code (.seq x y) :: k,hk=>exact one (fun p av=>by simp only [gC,lz,List.mem_append] at av ⊢;exact or_assoc.2 av) step_seq hk
  | .code (.block id c) :: k,hk=>exact one (fun p av=>by simpa only [gC,lz] using av) step_block hk
  | .code (.loop c) :: k,hk=>exact one (fun p av=>by simp only [gC,lz,List.mem_append] at av ⊢;exact av.elim .inl fun h=>h) step_loop hk
  | .code (.exit id) :: k,hk =>
   simp only at hk
   cases he:exitTo id k with
   | none=>rw [he] at hk;simp at hk
   | some k'=>rw [he] at hk;exact one (Tx he) (step_exit he) hk
  | .code (.cond c x y) :: k,hk =>
   simp only at hk
   obtain ⟨ι,Z,h⟩:=hs
   have hc:=eR h c
   cases hcv:bR s c with
   | aU jW =>
    cases jW with
    | bool t =>
     rw [hcv] at hk hc
     simp only [aT,cc] at hc
     have hst:=step_cond (P:=P) (b:=b) (a:=a) (k:=k) (cs:=cs) (w:=w) (x:=x) (y:=y) hc
     cases t with
     | true=>exact one (fun p av=>by simp only [gC,lz,List.mem_append] at av ⊢;exact av.elim (fun h=>.inl (.inl h)) .inr) hst hk
     | false=>exact one (fun p av=>by simp only [gC,lz,List.mem_append] at av ⊢;exact av.elim (fun h=>.inl (.inr h)) .inr) hst hk
    | _=>rw [hcv] at hk;simp at hk
   | _=>rw [hcv] at hk;simp at hk
  | .code (.region ca ops hM) :: k,hk =>
   simp only at hk
   cases iI:(cuts ca && !first)
   ·rw [iI] at hk
    simp only [cond_false] at hk
    have aeg:∃b6 w',gP w0 F0 Z0 n (fun aq=>jV E cuts H fuel false k aq) r b6 w'∧Steps P (lone (b.at a (.code (.region ca ops hM) :: k)) cs w) (lone (b.at b6 k) cs w'):=by
     cases hM with
     | false=>exact ad1 bK hn hk hs b k cs
     | true=>exact aef bK hn hk hs b k cs
    obtain ⟨a1,m7,⟨s1,h1,h2⟩,hst⟩:=aeg
    obtain ⟨cE,aq,b6,w',cP,dU,gJ,hP⟩:=ih false k s1 a1 m7 h1 h2
    exact⟨cE,aq,b6,w',cP,dU,fun p av=>by simp only [gC,List.mem_append];exact .inr (gJ p av),hst.trans hP⟩
   ·rw [iI] at hk
    simp only [cond_true] at hk
    simp only [Bool.and_eq_true] at iI
    exact⟨_,s,a,w,hs,.inl ⟨ca,ops,hM,k,rfl,iI.1,hk⟩,fun _ h=>h,.refl _ _⟩
  | .code (.goto _) :: _,hk | .code (.label _) :: _,hk | .code (.scope _) :: _,hk | .inRegion _ _ :: _,hk | .inScope _ :: _,hk=>simp at hk
end
end Go.LM
namespace Go.LM
def kN(key:Nat):(ps:List bt)→(bt.ins ps).D→Nat→al→Option (List a'×al×Nat)
 | [],_,j,s=>some ([],s,j)
 | .fn _ _ :: ps,x,j,s=>(kN key ps x j s).bind fun q=>some (.aw :: q.1,q.2)
 | .val t m :: ps,x,j,s=>(t.g_ m [] x.1 s j).bind fun r=>(jT t r.1).bind fun v=>(kN key ps x.2 r.2.2 r.2.1).bind fun q=>some (v :: q.1,q.2)
 | .gZ t :: ps,x,j,s=>(t.g_ .R [] x.1 s j).bind fun r=>(jT t r.1).bind fun v=>(kN key ps x.2 r.2.2 r.2.1).bind fun q=>some (v :: q.1,q.2)
 | .gI t m :: ps,x,j,s=>(t.g_ m [] x.1 s j).bind fun r=>(jT t r.1).bind fun v=>(kN key ps x.2 r.2.2 r.2.1).bind fun q=>some (v :: q.1,q.2)
 | .ref t :: ps,x,j,s=>(kN key ps x.2 j s).bind fun q=>some (.c3 [] (t.cells [] none x.1) 0 :: q.1,q.2)
 | .mut t m _ :: ps,x,j,s=>(t.g_ m [] x.1 s j).bind fun r=>(mkObj r.2.1 r.2.2 (.var 0 r.1)).bind fun s1=>(kN key ps x.2 (r.2.2+1) s1).bind fun q=>some (.ptr ⟨r.2.2,none,0⟩ :: q.1,q.2)
section
variable{P:Program}{w0:World}{F0 Z0:ag}{n:cB}{s aq:al}{a b6:Act}{w w':World}{ι bh:Nat→bC}{Z Z':ag}
theorem Inv.start{F:ag}(hZ:∀b o,Z b o→b<w.heap.size){m:Nat}(ha:a.tmps.size=m)(ah:a.defers=[]):Inv w F Z ⟨m,[],[]⟩ ⟨fun _=>.aw,fun _=>.none,[]⟩ a w ι Z :=
 ⟨Ext.refl _ _,fun _ _ h=>.inl h,fun _ _ h=>h,hZ,fun _=>trivial,fun _ h=>h.elim,fun _ _ h=>h.elim,fun _ h=>h.elim,fun _=>by simp only [aT],ha,by simp only [a8],fun _ h=>by simp at h,ah⟩
def aeh(w0:World)(F0 Z0:ag)(n:cB)(s:al)(a:Act)(w:World)(ι : Nat→bC)(Z:ag)(us:List Value)(F:ag)(q:List a'×al×Nat):Prop :=
 ∃ bh,Inv w0 F0 Z0 n q.2.1 a w bh Z∧gy false w Z s ι w Z q.2.1 bh (fun _ _=>True)∧a8 w Z q.2.1 bh q.1 us∧∀X,bE w0 F0 s w ι Z X→ag.apart X F→bE w0 F0 q.2.1 w bh Z X
theorem aei:gy false w Z s ι w Z s ι (fun _ _=>True) :=
 ⟨fun _ _ h=>h,fun _ _ h=>h,fun _ _ h=>h,fun _ _ _ h=>⟨h,rfl⟩,fun h=>by simp at h,b4.refl _ _,b4.refl _ _,fun _ _ h=>h,fun _ _ _ h=>h⟩
theorem n':Z.or (dd ι [])=Z:=by
 funext b o
 apply propext
 constructor
 ·rintro (h | ⟨d,ah,_⟩)
  ·exact h
  ·simp at ah
 ·exact .inl
theorem ui{key:Nat} : ∀(ps:List bt) (x:(bt.ins ps).D) (us:List Value) (j:Nat) (s:al) (ι : Nat→bC) (F:ag) (q:List a'×al×Nat),kN key ps x j s=some q→Inv w0 F0 Z0 n s a w ι Z →
  gm w Z key ps x us F→bE w0 F0 s w ι Z F→aeh w0 F0 Z0 n s a w ι Z us F q
 | [],x,us,j,s,ι,F,q,he,h,hA,hF=>by
  simp only [kN,Option.some.injEq] at he
  subst he
  exact⟨ι,h,aei,hA,fun X hX _=>hX⟩
 | .fn lR oL :: ps,x,us,j,s,ι,F,q,he,h,hA,hF=>by
  simp only [kN] at he
  obtain ⟨p,av,he⟩:=bj he
  obtain rfl:=aX he
  obtain ⟨arc,ard,aV,rfl,hsz,h4⟩:=hA
  obtain ⟨dw,i1,held,hr,m6⟩:=ui ps x aV j s ι F p av h h4 hF
  refine⟨dw,i1,held,?_,m6⟩
  simp only [a8]
  exact⟨_,aV,rfl,by simp only [aT],hr⟩
 | .ref t :: ps,x,us,j,s,ι,F,q,he,h,hA,hF=>by
  simp only [kN] at he
  obtain ⟨p,av,he⟩:=bj he
  obtain rfl:=aX he
  obtain ⟨b,o,vs,aV,rfl,h1,h2,h3,h4⟩:=hA
  obtain ⟨dw,i1,held,hr,m6⟩:=ui ps x.2 aV j s ι F p av h h4 hF
  refine⟨dw,i1,held,?_,m6⟩
  simp only [a8]
  refine⟨_,aV,rfl,held.aF _ _ ?_,hr⟩
  simp only [aT]
  have hl:=(aa.an.len t _ h2).1
  have hc:bF w Z s ι (t.cells [] none x.1) vs:=aa.p9 t [] none (by simp) (fun _=>by rw [n'];exact h2) ⟨_,_,_,h2⟩ .none
  refine⟨by simp,b,o,vs,by simp,fun _=>⟨hc,h1,fun k hk=>.inl (h3 k (by rw [← hc.len,hl] at hk;exact hk))⟩⟩
 | .val t m :: ps,x,us,j,s,ι,F,q,he,h,hA,hF=>by
  simp only [kN] at he
  obtain ⟨r,hr,he⟩:=bj he
  obtain ⟨v,hv,he⟩:=bj he
  obtain ⟨p,av,he⟩:=bj he
  obtain rfl:=aX he
  obtain ⟨vs,aV,G,H,rfl,h1,h2,h3,h4,a7⟩:=hA
  obtain ⟨dw,i1,iM,c1,fC⟩:=aa.nW t m [] x.1 s ι j r vs G hr h (by rw [n'];exact h1) (hF.sub h4) (by rintro b o _ ⟨d,ah,_⟩;simp at ah) (by simp)
  obtain ⟨en,i2,held,r1,m6⟩:=ui ps x.2 aV _ _ dw H p av i1 h2 (fC H (hF.sub a7) fun b o x y=>h3 b o y x)
  refine⟨en,i2,(iM.held _).trans held,?_,fun X hX fD=>m6 X (fC X hX fun b o x y=>fD b o x (h4 b o y)) fun b o x y=>fD b o x (a7 b o y)⟩
  simp only [a8]
  exact⟨_,aV,rfl,held.aF _ _ (oV hv c1),r1⟩
 | .gZ t :: ps,x,us,j,s,ι,F,q,he,h,hA,hF=>by
  simp only [kN] at he
  obtain ⟨r,hr,he⟩:=bj he
  obtain ⟨v,hv,he⟩:=bj he
  obtain ⟨p,av,he⟩:=bj he
  obtain rfl:=aX he
  obtain ⟨vs,aV,G,H,rfl,h1,h2,h3,h4,a7⟩:=hA
  obtain ⟨dw,i1,iM,c1,fC⟩:=aa.nW t .R [] x.1 s ι j r vs G hr h (by rw [n'];exact h1) (hF.sub h4) (by rintro b o _ ⟨d,ah,_⟩;simp at ah) (by simp)
  obtain ⟨en,i2,held,r1,m6⟩:=ui ps x.2 aV _ _ dw H p av i1 h2 (fC H (hF.sub a7) fun b o x y=>h3 b o y x)
  refine⟨en,i2,(iM.held _).trans held,?_,fun X hX fD=>m6 X (fC X hX fun b o x y=>fD b o x (h4 b o y)) fun b o x y=>fD b o x (a7 b o y)⟩
  simp only [a8]
  exact⟨_,aV,rfl,held.aF _ _ (oV hv c1),r1⟩
 | .gI t m :: ps,x,us,j,s,ι,F,q,he,h,hA,hF=>by
  simp only [kN] at he
  obtain ⟨r,hr,he⟩:=bj he
  obtain ⟨v,hv,he⟩:=bj he
  obtain ⟨p,av,he⟩:=bj he
  obtain rfl:=aX he
  obtain ⟨vs,aV,G,H,rfl,h1,h2,h3,h4,a7⟩:=hA
  obtain ⟨dw,i1,iM,c1,fC⟩:=aa.nW t m [] x.1 s ι j r vs G hr h (by rw [n'];exact h1) (hF.sub h4) (by rintro b o _ ⟨d,ah,_⟩;simp at ah) (by simp)
  obtain ⟨en,i2,held,r1,m6⟩:=ui ps x.2 aV _ _ dw H p av i1 h2 (fC H (hF.sub a7) fun b o x y=>h3 b o y x)
  refine⟨en,i2,(iM.held _).trans held,?_,fun X hX fD=>m6 X (fC X hX fun b o x y=>fD b o x (h4 b o y)) fun b o x y=>fD b o x (a7 b o y)⟩
  simp only [a8]
  exact⟨_,aV,rfl,held.aF _ _ (oV hv c1),r1⟩
 | .mut t m m' :: ps,x,us,j,s,ι,F,q,he,h,hA,hF=>by
  simp only [kN] at he
  obtain ⟨r,hr,he⟩:=bj he
  obtain ⟨s1,hm,he⟩:=bj he
  obtain ⟨p,av,he⟩:=bj he
  obtain rfl:=aX he
  obtain ⟨cd,rfl⟩:=qc hm
  obtain ⟨b,o,vs,aV,G,H,rfl,h1,hwr,h2,h3,h4,a7,bp,bI⟩:=hA
  have hG:ag.sub G F:=fun b o x=>bp b o (.inl x)
  have eM:ag.sub (ag.run b o t.size) F:=fun b o x=>bp b o (.inr x)
  obtain ⟨dw,i1,iM,c1,fC⟩:=aa.nW t m [] x.1 s ι j r vs G hr h (by rw [n'];exact h2) (hF.sub hG) (by rintro b o _ ⟨d,ah,_⟩;simp at ah) (by simp)
  have hl:=(aa.an.len t _ h2).1
  have hcl:=c1.len
  have kI:=fC _ (hF.sub eM) (fun b o x y=>a7 b o y x)
  obtain ⟨i2,m3,l4,m4⟩:=Kf i1 (id:=r.2.2) (o:=.var 0 r.1) (i:=⟨some (at_ b o),0,ag.run b o t.size⟩) (by rw [cd];exact fun h=>h) (fun o'=>by simp) (by rw [cd];exact .made _ _ _) (fun hm=>by
   refine⟨at_ b o,vs,rfl,rfl,c1.move hm,h1,fun k hk=>⟨hwr k (by omega),rfl,by simp [at_],by simp [at_];omega⟩⟩) kI
  have xc:=(iM.held (w:=w) (Z:=Z) (fun _ _=>True)).trans m3
  have zd:∀X,bE w0 F0 s w ι Z X→ag.apart X (G.or (ag.run b o t.size))→bE w0 F0 (r.2.1.bL r.2.2 (.var 0 r.1)) w (bP dw r.2.2 ⟨some (at_ b o),0,ag.run b o t.size⟩) Z X:=fun X hX fD =>
   l4 X (fC X hX fun b o x y=>fD b o x (.inl y)) fun b o x y=>fD b o x (.inr y)
  obtain ⟨Km,i3,TA,r1,aej⟩:=ui ps x.2 aV _ _ _ H p av i2 h3 (zd H (hF.sub bI) fun b o x y=>h4 b o y x)
  refine⟨Km,i3,xc.trans TA,?_,fun X hX fD=>aej X (zd X hX fun b o x y=>fD b o x (bp b o y)) fun b o x y=>fD b o x (bI b o y)⟩
  simp only [a8]
  refine⟨_,aV,rfl,TA.aF _ _ ?_,r1⟩
  simp only [aT]
  refine⟨by show bP r.2.1.o r.2.2 _ r.2.2≠_;rw [cz];simp,_,rfl,rfl,?_⟩
  show match (bP r.2.1.o r.2.2 _ r.2.2).core with | .var _ _=>_ | .row .. => _ | _=>_
  rw [cz]
  exact⟨rfl,at_ b o,by rw [cz],by simp [at_]⟩
end
end Go.LM
namespace Go.LM
def zo(t:aa)(m:bg)(v:a')(s:al):Option (t.D×al) :=
 cond (nP t v) (match iy t v with
  | some cs=>(t.imp false m cs s []).bind fun r=>match r.2.1 with
   | []=>some (r.1,r.2.2.1)
   | _=>none
  | none=>none) none
def ie:(ps:List bt)→List a'→al→Option (bt.dM ps).D
 | [],_,_=>some ()
 | .mut t _ m' :: ps,gs,s =>
  match gs with
  | .ptr p :: gs =>
   match s.o p.id,p.fb with
   | .var _ cs,none=>cond (Nat.beq p.off 0&&Nat.beq cs.length t.size)
    ((t.imp false m' cs (s.bL p.id .dead) []).bind fun r=>match r.2.1 with
     | []=>(ie ps gs r.2.2.1).bind fun q=>some (r.1,q)
     | _=>none) none
   | _,_=>none
  | _=>none
 | .gI t m :: ps,gs,s =>
  match gs with
  | v :: gs=>(zo t m v s).bind fun r=>(ie ps gs r.2).bind fun q=>some (r.1,q)
  | []=>none
 | .val _ _ :: ps,gs,s =>
  match gs with
  | _ :: gs=>ie ps gs s
  | []=>none
 | .gZ _ :: ps,gs,s =>
  match gs with
  | _ :: gs=>ie ps gs s
  | []=>none
 | .ref _ :: ps,gs,s =>
  match gs with
  | _ :: gs=>ie ps gs s
  | []=>none
 | .fn _ _ :: ps,gs,s =>
  match gs with
  | _ :: gs=>ie ps gs s
  | []=>none
section
variable{P:Program}{w0:World}{F0 Z0:ag}{n:cB}{s aq:al}{a b6:Act}{w w':World}{ι bh:Nat→bC}{Z Z':ag}
theorem TB{t:aa}{m:bg}{v:a'}{u:Value}{r:t.D×al}(ho:zo t m v s=some r)(h:Inv w0 F0 Z0 n s a w ι Z)(hv:aT w Z s ι v u) :
  ∃vs F Z',u=dD t vs∧Inv w0 F0 Z0 n r.2 a w ι Z'∧eU s ι Z r.2 Z'∧bE w0 F0 r.2 w ι Z' F∧t.an w Z' m r.1 vs F∧∀b o,F b o→∃id,(s.o id).live∧(ι id).F b o:=by
 unfold zo at ho
 cases hf:nP t v
 ·rw [hf] at ho;simp at ho
 rw [hf] at ho
 simp only [cond_true] at ho
 cases hcs:iy t v with
 | none=>rw [hcs] at ho;simp at ho
 | some cs =>
  rw [hcs] at ho
  simp only at ho
  obtain ⟨q,hq,ho⟩:=bj ho
  cases ea:q.2.1 with
  | cons=>rw [ea] at ho;simp at ho
  | nil =>
   rw [ea] at ho
   obtain rfl:=aX ho
   obtain ⟨us1,vs1,F1,cr,e1,i1,s1,c1,f1,bw,_,fj,_,g1⟩:=aa.k_ t false m cs s [] q _ Z hq h (rL hcs hv) (by simp)
   rw [ea] at c1
   have hvs1:vs1=[]:=by cases vs1 with | nil=>rfl | cons=>exact c1.elim
   subst hvs1
   rw [List.append_nil] at e1
   have hw:=Cd hf hv
   rw [e1] at hw
   rw [fj rfl,n'] at bw
   exact⟨us1,F1,cr,hw,i1,s1,f1,bw,g1⟩
theorem uj:∀(ps:List bt) (gs:List a') (us:List Value) (s:al) (Z:ag) (x:(bt.dM ps).D),ie ps gs s=some x→Inv w0 F0 Z0 n s a w ι Z→a8 w Z s ι gs us →
  ∃aq F Z',Inv w0 F0 Z0 n aq a w ι Z'∧eU s ι Z aq Z'∧bE w0 F0 aq w ι Z' F∧h7 w Z' ps us x F∧∀b o,F b o→∃id,(s.o id).live∧(ι id).F b o
 | [],gs,us,s,Z,x,ho,h,hv=>⟨s,ag.none,Z,h,.refl,.none,trivial,fun _ _ h=>h.elim⟩
 | .val t m :: ps,gs,us,s,Z,x,ho,h,hv=>by
  cases gs with
  | nil=>simp [ie] at ho
  | cons v gs =>
   simp only [a8] at hv
   obtain ⟨u,aV,rfl,h1,h2⟩:=hv
   obtain ⟨aq,F,Z',i1,s1,f1,bw,g1⟩:=uj ps gs aV s Z x (by simp only [ie] at ho;exact ho) h h2
   exact⟨aq,F,Z',i1,s1,f1,⟨u,aV,rfl,bw⟩,g1⟩
 | .gZ t :: ps,gs,us,s,Z,x,ho,h,hv=>by
  cases gs with
  | nil=>simp [ie] at ho
  | cons v gs =>
   simp only [a8] at hv
   obtain ⟨u,aV,rfl,h1,h2⟩:=hv
   obtain ⟨aq,F,Z',i1,s1,f1,bw,g1⟩:=uj ps gs aV s Z x (by simp only [ie] at ho;exact ho) h h2
   exact⟨aq,F,Z',i1,s1,f1,⟨u,aV,rfl,bw⟩,g1⟩
 | .ref t :: ps,gs,us,s,Z,x,ho,h,hv=>by
  cases gs with
  | nil=>simp [ie] at ho
  | cons v gs =>
   simp only [a8] at hv
   obtain ⟨u,aV,rfl,h1,h2⟩:=hv
   obtain ⟨aq,F,Z',i1,s1,f1,bw,g1⟩:=uj ps gs aV s Z x (by simp only [ie] at ho;exact ho) h h2
   exact⟨aq,F,Z',i1,s1,f1,⟨u,aV,rfl,bw⟩,g1⟩
 | .fn _ _ :: ps,gs,us,s,Z,x,ho,h,hv=>by
  cases gs with
  | nil=>simp [ie] at ho
  | cons v gs =>
   simp only [a8] at hv
   obtain ⟨u,aV,rfl,h1,h2⟩:=hv
   obtain ⟨aq,F,Z',i1,s1,f1,bw,g1⟩:=uj ps gs aV s Z x (by simp only [ie] at ho;exact ho) h h2
   exact⟨aq,F,Z',i1,s1,f1,⟨u,aV,rfl,bw⟩,g1⟩
 | .gI t m :: ps,gs,us,s,Z,x,ho,h,hv=>by
  cases gs with
  | nil=>simp [ie] at ho
  | cons v gs =>
   simp only [a8] at hv
   obtain ⟨u,aV,rfl,h1,h2⟩:=hv
   simp only [ie] at ho
   obtain ⟨r,hr,ho⟩:=bj ho
   obtain ⟨q,hq,ho⟩:=bj ho
   obtain rfl:=aX ho
   obtain ⟨vs,F1,cr,rfl,i1,s1,f1,bw,g1⟩:=TB hr h h1
   obtain ⟨aq,dE,bJ,i2,s2,f2,b9,g2⟩:=uj ps gs aV r.2 cr q hq i1 (a8.move s1.d' h2)
   refine⟨aq,F1.or dE,bJ,i2,s1.trans s2,(f1.shrink s2).or f2,⟨vs,aV,F1,dE,rfl,aa.an.mono s2.dC _ _ (fun _ _ h=>h) bw,b9,?_,fun _ _ h=>.inl h,fun _ _ h=>.inr h⟩,?_⟩
   ·intro b o x y
    obtain ⟨id,hl,hf⟩:=g2 b o y
    exact f1.apart id hl b o x hf
   ·rintro b o (y | y)
    ·exact g1 b o y
    ·obtain ⟨id,hl,hf⟩:=g2 b o y;exact⟨id,(s1.live hl).1,hf⟩
 | .mut t m m' :: ps,gs,us,s,Z,x,ho,h,hv=>by
  cases gs with
  | nil=>simp [ie] at ho
  | cons v gs =>
   simp only [a8] at hv
   obtain ⟨u,aV,rfl,h1,h2⟩:=hv
   cases v <;> simp only [ie] at ho <;> try (simp at ho;done)
   rename_i p
   simp only [aT] at h1
   obtain ⟨hk,A,rfl,_,av⟩:=h1
   cases bU:s.o p.id with
   | var ver cs =>
    rw [bU] at ho av
    obtain ⟨he,a0,ep,hA⟩:=av
    rw [he] at ho
    simp only at ho
    cases hc:(Nat.beq p.off 0&&Nat.beq cs.length t.size)
    ·rw [hc] at ho;cases ho
    rw [hc] at ho
    simp only [Bool.and_eq_true] at hc
    have fk:=Nat.eq_of_beq_eq_true hc.1
    have hlen:=Nat.eq_of_beq_eq_true hc.2
    simp only [cond_true] at ho
    obtain ⟨r,hr,ho⟩:=bj ho
    cases ea:r.2.1 with
    | cons=>rw [ea] at ho;cases ho
    | nil =>
     rw [ea] at ho
     simp only at ho
     obtain ⟨q,hq,ho⟩:=bj ho
     obtain rfl:=aX ho
     have b8:(s.o p.id).live:=by rw [bU];trivial
     have cU:=h.fP p.id
     rw [bU] at cU
     obtain ⟨⟨b,o,sp⟩,ws,dV,hsp,hc,cm,hF⟩:=cU
     simp only at hsp
     subst hsp
     rw [ep] at dV
     obtain rfl:=aX dV
     have h_:eU s ι Z (s.bL p.id .dead) Z:=wM p.id b8
     have hi0:=h.take p.id (fun _ _ h=>h) (fun _ _ h=>.inl h)
     have fS:=h.wL b8
     obtain ⟨us1,vs1,F1,cr,e1,i1,s1,c1,f1,bw,_,fj,_,g1⟩:=aa.k_ t false m' cs _ [] r _ Z hr hi0 (hc.move h_.d') (by simp)
     rw [ea] at c1
     have hvs1:vs1=[]:=by cases vs1 with | nil=>rfl | cons=>exact c1.elim
     subst hvs1
     rw [List.append_nil] at e1
     subst e1
     rw [fj rfl,n'] at bw
     obtain ⟨aq,dE,bJ,i2,s2,f2,b9,g2⟩:=uj ps gs aV r.2.2.1 cr q hq i1 (a8.move s1.d' (a8.move h_.d' h2))
     have hrun:ag.sub (ag.run b o t.size) (ι p.id).F:=by
      rintro b' o' ⟨rfl,h1,h2⟩
      have:=(hF (o'-o) (by omega)).2
      simp only at this
      rwa [show o +(o'-o)=o' by omega] at this
     have kI:=(fS.sub hrun).shrink s1
     have KS:ag.apart F1 (ag.run b o t.size):=by
      intro b o x y
      obtain ⟨id,hl,hf⟩:=g1 b o x
      exact fS.apart id hl b o (hrun b o y) hf
     have gA:bE w0 F0 r.2.2.1 w ι cr (F1.or (ag.run b o t.size)):=f1.or kI
     refine⟨aq,(F1.or (ag.run b o t.size)).or dE,bJ,i2,(h_.trans s1).trans s2,(gA.shrink s2).or f2,⟨b,o,ws,aV,F1,dE,?_,cm,aa.an.mono s2.dC _ _ (fun _ _ h=>h) bw,b9,?_,KS,fun _ _ h=>.inl h,fun _ _ h=>.inr h⟩,?_⟩
     ·rw [hA,fk];rfl
     ·intro b o x y
      obtain ⟨id,hl,hf⟩:=g2 b o y
      exact gA.apart id hl b o x hf
     ·rintro b o ((y | y) | y)
      ·obtain ⟨id,hl,hf⟩:=g1 b o y;exact⟨id,(h_.live hl).1,hf⟩
      ·exact⟨p.id,b8,hrun b o y⟩
      ·obtain ⟨id,hl,hf⟩:=g2 b o y;exact⟨id,(h_.live (s1.live hl).1).1,hf⟩
   | _=>rw [bU] at ho;simp at ho
end
end Go.LM
namespace Go.LM
section
variable{P:Program}{w0:World}{F0 Z0:ag}{n:cB}{s aq:al}{a b6:Act}{w w':World}{ι bh:Nat→bC}{Z Z':ag}
def CJ(t:aa)(m:bg)(v:a')(s:al):Option (t.D×al) :=
 match v with
 | .ptr p =>
  match s.o p.id,p.fb with
  | .var _ cs,none=>cond (Nat.beq p.off 0&&Nat.beq cs.length t.size)
   ((t.imp false m cs (s.bL p.id .dead) []).bind fun r=>match r.2.1 with
    | []=>some (r.1,r.2.2.1)
    | _=>none) none
  | _,_=>none
 | _=>none
theorem aek{t:aa}{m:bg}{v:a'}{u:Value}{s:al}{Z:ag}{x:t.D×al}(ho:CJ t m v s=some x)(h:Inv w0 F0 Z0 n s a w ι Z)(h1:aT w Z s ι v u) :
  ∃b o vs F Z',u=.pointer (some (at_ b o))∧Inv w0 F0 Z0 n x.2 a w ι Z'∧eU s ι Z x.2 Z'∧bE w0 F0 x.2 w ι Z' (F.or (ag.run b o t.size))∧b2 w b o vs∧(∀j,j<t.size→fa w b (o+j))∧t.an w Z' m x.1 vs F ∧
   ag.apart F (ag.run b o t.size)∧∀b' o',(F.or (ag.run b o t.size)) b' o'→∃id,(s.o id).live∧(ι id).F b' o':=by
 cases v <;> simp only [CJ] at ho <;> try (simp at ho;done)
 rename_i p
 simp only [aT] at h1
 obtain ⟨hk,A,rfl,_,av⟩:=h1
 cases bU:s.o p.id with
 | var ver cs =>
  rw [bU] at ho av
  obtain ⟨he,a0,ep,hA⟩:=av
  rw [he] at ho
  simp only at ho
  cases hc:(Nat.beq p.off 0&&Nat.beq cs.length t.size)
  ·rw [hc] at ho;cases ho
  rw [hc] at ho
  simp only [Bool.and_eq_true] at hc
  have fk:=Nat.eq_of_beq_eq_true hc.1
  have hlen:=Nat.eq_of_beq_eq_true hc.2
  simp only [cond_true] at ho
  obtain ⟨r,hr,ho⟩:=bj ho
  cases ea:r.2.1 with
  | cons=>rw [ea] at ho;cases ho
  | nil =>
   rw [ea] at ho
   obtain rfl:=aX ho
   have b8:(s.o p.id).live:=by rw [bU];trivial
   have cU:=h.fP p.id
   rw [bU] at cU
   obtain ⟨a1,ws,dV,hsp,hcs,cm,hF⟩:=cU
   rw [ep] at dV
   obtain rfl:=aX dV
   obtain ⟨b,o,sp⟩:=a0
   simp only at hsp
   subst hsp
   have h_:eU s ι Z (s.bL p.id .dead) Z:=wM p.id b8
   have hi0:=h.take p.id (fun _ _ h=>h) (fun _ _ h=>.inl h)
   have fS:=h.wL b8
   obtain ⟨us1,vs1,F1,cr,e1,i1,s1,c1,f1,bw,_,fj,_,g1⟩:=aa.k_ t false m cs _ [] r _ Z hr hi0 (hcs.move h_.d') (by simp)
   rw [ea] at c1
   have hvs1:vs1=[]:=by cases vs1 with | nil=>rfl | cons=>exact c1.elim
   subst hvs1
   rw [List.append_nil] at e1
   subst e1
   rw [fj rfl,n'] at bw
   have hrun:ag.sub (ag.run b o t.size) (ι p.id).F:=by
    rintro b' o' ⟨rfl,h1,h2⟩
    have:=(hF (o'-o) (by omega)).2
    simp only at this
    rwa [show o +(o'-o)=o' by omega] at this
   have kI:=(fS.sub hrun).shrink s1
   have KS:ag.apart F1 (ag.run b o t.size):=by
    intro b o x y
    obtain ⟨id,hl,hf⟩:=g1 b o x
    exact fS.apart id hl b o (hrun b o y) hf
   refine⟨b,o,_,F1,cr,?_,i1,h_.trans s1,f1.or kI,cm,fun j hj=>(hF j (by omega)).1,bw,KS,?_⟩
   ·rw [hA,fk];rfl
   ·rintro b o (y | y)
    ·obtain ⟨id,hl,hf⟩:=g1 b o y;exact⟨id,(h_.live hl).1,hf⟩
    ·exact⟨p.id,b8,hrun b o y⟩
 | _=>rw [bU] at ho;simp at ho
def zp(gs:List a')(a off:Nat)(t:aa)(v:a')(s:al):Option Int :=
 match v with
 | .jS=>some (-1)
 | .opt id x =>
  match p4 s gs a off with
  | some k=>cond (Nat.beq k id&&p5 s t id) (some x) none
  | none=>none
 | .ptr p =>
  match p4 s gs a off,p.fb with
  | some k,some i=>cond (Nat.beq k p.id&&p5 s t p.id&&Nat.beq p.off 0) (some (i:Int)) none
  | _,_=>none
 | _=>none
theorem TC{gs:List a'}{us:List Value}{lr off id:Nat}{t:aa}{i:Nat}{xf:Addr}(dK:p4 s gs lr off=some id)(l6:p5 s t id=true)(h:Inv w0 F0 Z0 n s a w ι Z)(hv:a8 w Z s ι gs us)
  (av:je s ι ⟨id,some i,0⟩ xf):J6 w us lr off t.size (i:Int) (.pointer (some xf)):=by
 unfold p4 at dK
 cases mY:gs[lr]? with
 | none=>rw [mY] at dK;simp at dK
 | some k7 =>
  rw [mY] at dK
  cases k7 with
  | ptr pl =>
   simp only at dK
   cases cX:lS s 1 { pl with off:=pl.off+off } with
   | none=>rw [cX] at dK;simp at dK
   | some cs =>
    rw [cX] at dK
    have hcs:cs=[.ah id none]:=by
     split at dK
     ·rename_i h;obtain rfl:=aX dK;exact aX h
     ·simp at dK
    subst hcs
    obtain ⟨u,ze,t'⟩:=hv.get lr mY
    simp only [aT] at t'
    obtain ⟨mP,A,rfl,m5⟩:=t'
    obtain ⟨b,o,sp⟩:=A
    have hsp:=m5.1
    simp only at hsp
    subst hsp
    obtain ⟨rJ,ez,ws,hA,hc1,hc2,y8⟩:=yR h cX (je.plus (b:=b) (o:=o) off m5)
    simp only [at_,Addr.mk.injEq,and_true] at hA
    obtain ⟨rfl,rfl⟩:=hA
    match ws,hc1 with
    | [v0],hc1 =>
     obtain ⟨hk0,A,m,k,rfl,hh⟩:=hc1.1
     unfold p5 at l6
     cases bU:s.o id with
     | row u em ver xs =>
      rw [bU] at l6
      have:=aa.eq_of_beq _ _ l6
      subst this
      obtain ⟨cP,dU,gJ,hP,h9⟩:=hh u em ver xs (k8 bU)
      have cP:m=xs.length:=cP
      obtain ⟨hs,av⟩:=av
      have av:match (s.o id).core with | .var _ cs=>_ | .row t _ _ xs=>_ | _=>_:=av
      rw [k8 bU] at av
      obtain ⟨dP,hi,bY,a0,gM,qg⟩:=av
      obtain rfl:=aX hi
      rcases h9 with h9 | ⟨a1,mT,mZ⟩
      ·omega
      ·rw [gM] at mT
       obtain rfl:=aX mT
       right
       refine⟨by omega,b,o,a0.block,a0.off,m,k,ze,?_,by simp;omega,?_⟩
       ·rw [hc2.head,mZ];simp [d_,at_]
       ·rw [qg];simp [at_]
     | _=>rw [bU] at l6;cases l6
  | _=>simp at dK
theorem ael{gs:List a'}{us:List Value}{lr off:Nat}{t:aa}{v:a'}{u:Value}{x:Int}(ho:zp gs lr off t v s=some x)(h:Inv w0 F0 Z0 n s a w ι Z)(aD:a8 w Z s ι gs us)(hv:aT w Z s ι v u):J6 w us lr off t.size x u:=by
 cases v with
 | jS =>
  obtain rfl:=aX ho
  simp only [aT] at hv
  exact .inl ⟨by omega,hv⟩
 | opt id y =>
  simp only [zp] at ho
  cases dK:p4 s gs lr off with
  | none=>rw [dK] at ho;cases ho
  | some k =>
   rw [dK] at ho
   cases hc:(Nat.beq k id&&p5 s t id)
   ·simp only [hc] at ho;cases ho
   simp only [hc,cond_true] at ho
   obtain rfl:=aX ho
   simp only [Bool.and_eq_true] at hc
   obtain rfl:=Nat.eq_of_beq_eq_true hc.1
   simp only [aT] at hv
   obtain ⟨_,⟨h1,h2⟩ | ⟨h1,xf,rfl,h2⟩⟩:=hv
   ·exact .inl ⟨h1,h2⟩
   ·have:=TC dK hc.2 h aD h2
    rwa [Int.toNat_of_nonneg h1] at this
 | ptr p =>
  simp only [zp] at ho
  cases dK:p4 s gs lr off with
  | none=>rw [dK] at ho;cases ho
  | some k =>
   rw [dK] at ho
   cases eS:p.fb with
   | none=>rw [eS] at ho;cases ho
   | some i =>
    rw [eS] at ho
    simp only at ho
    cases hc:(Nat.beq k p.id&&p5 s t p.id&&Nat.beq p.off 0)
    ·rw [hc] at ho;cases ho
    rw [hc] at ho
    obtain rfl:=aX ho
    simp only [Bool.and_eq_true] at hc
    have hk:=Nat.eq_of_beq_eq_true hc.1.1
    have h0:=Nat.eq_of_beq_eq_true hc.2
    obtain ⟨pid,are,arf⟩:=p
    simp only at hk h0 eS hc
    subst hk h0 eS
    simp only [aT] at hv
    obtain ⟨_,xf,rfl,h2⟩:=hv
    exact TC dK hc.1.2 h aD h2
 | _=>cases ho
def zq(t:aa)(v:a'):Bool :=
 nP t v&&(match iy t v with
  | some cs=>Nat.beq cs.length t.size
  | none=>false)
theorem aem{t:aa}{v:a'}{u:Value}{s:al}{Z:ag}(ho:zq t v=true)(h1:aT w Z s ι v u):u.cells.toList.length=t.size∧∀x∈u.cells.toList,dS x=true:=by
 unfold zq at ho
 simp only [Bool.and_eq_true] at ho
 obtain ⟨hf,hc⟩:=ho
 cases hcs:iy t v with
 | none=>rw [hcs] at hc;cases hc
 | some cs =>
  rw [hcs] at hc
  have hl:=Nat.eq_of_beq_eq_true hc
  have hr:=rL hcs h1
  exact⟨by rw [hr.len];exact hl,hr.dS⟩
def CK(t:aa)(v:a')(s:al):Option (List t.D×al) :=
 match v with
 | .jS=>some ([],s)
 | .c3 dp cs off =>
  match takeN off t.size cs with
  | none=>none
  | some cs=>cond dp.isEmpty ((t.imp false .R cs s []).bind fun r=>match r.2.1 with
   | []=>some ([r.1],r.2.2.1)
   | _=>none) none
 | .may b dp cs=>cond b (cond (dp.isEmpty&&Nat.beq cs.length t.size) ((t.imp false .R cs s []).bind fun r=>match r.2.1 with
   | []=>some ([r.1],r.2.2.1)
   | _=>none) none) (some ([],s))
 | _=>none
theorem aen{t:aa}{v:a'}{u:Value}{s:al}{Z:ag}{x:List t.D×al}(ho:CK t v s=some x)(h:Inv w0 F0 Z0 n s a w ι Z)(h1:aT w Z s ι v u) :
  ∃Z',Inv w0 F0 Z0 n x.2 a w ι Z'∧eU s ι Z x.2 Z'∧((x.1=[]∧u=.pointer none)∨∃y b o vs,x.1=[y]∧u=.pointer (some (at_ b o))∧b2 w b o vs∧t.an w Z' .R y vs ag.none∧∀j,j<t.size→Z' b (o+j)):=by
 have go:∀(cs:List bb) (b o:Nat) (vs:List Value) (x:List t.D×al),((t.imp false .R cs s []).bind fun r=>match r.2.1 with | []=>some ([r.1],r.2.2.1) | _=>none)=some x→bF w Z s ι cs vs→b2 w b o vs→vs.length=t.size→(∀j,j<t.size→Z b (o+j))→u=.pointer (some (at_ b o)) →
   ∃Z',Inv w0 F0 Z0 n x.2 a w ι Z'∧eU s ι Z x.2 Z'∧((x.1=[]∧u=.pointer none)∨∃y b o vs,x.1=[y]∧u=.pointer (some (at_ b o))∧b2 w b o vs∧t.an w Z' .R y vs ag.none∧∀j,j<t.size→Z' b (o+j)):=by
  intro cs b o vs x ho tM cm hl hz hu
  obtain ⟨r,hr,ho⟩:=bj ho
  cases ea:r.2.1 with
  | cons=>rw [ea] at ho;cases ho
  | nil =>
   rw [ea] at ho
   obtain rfl:=aX ho
   obtain ⟨us1,vs1,F1,cr,e1,i1,s1,c1,f1,bw,_,fj,_,g1⟩:=aa.k_ t false .R cs s [] r _ Z hr h tM (by simp)
   rw [ea] at c1
   have hvs1:vs1=[]:=by cases vs1 with | nil=>rfl | cons=>exact c1.elim
   subst hvs1
   rw [List.append_nil] at e1
   subst e1
   rw [fj rfl,n'] at bw
   exact⟨cr,i1,s1,.inr ⟨r.1,b,o,_,rfl,hu,cm,rC bw,fun j hj=>s1.dC _ _ (hz j hj)⟩⟩
 cases v <;> simp only [CK] at ho <;> try (simp at ho;done)
 ·rename_i dp cs off
  simp only [aT] at h1
  obtain ⟨h2,b,o,vs,rfl,h3⟩:=h1
  cases ht:takeN off t.size cs with
  | none=>rw [ht] at ho;cases ho
  | some ds =>
   rw [ht] at ho
   cases dp with
   | cons=>cases ho
   | nil =>
    obtain ⟨k1,k2,k3⟩:=h3 rfl
    obtain ⟨hle,rfl⟩:=oS ht
    have hlen:=k1.len
    refine go _ b (o+off) ((vs.drop off).take t.size) x ho ((k1.drop off).take _) (k2.part off t.size) (by simp;omega) (fun j hj=>?_) rfl
    have:=k3 (off+j) (by omega)
    rw [n'] at this
    rwa [← Nat.add_assoc] at this
 ·simp only [aT] at h1
  obtain rfl:=aX ho
  exact⟨Z,h,.refl,.inl ⟨rfl,h1⟩⟩
 ·rename_i b dp cs
  simp only [aT] at h1
  rcases h1 with⟨rfl,h1⟩ | ⟨rfl,h2,b,o,vs,rfl,h3⟩
  ·obtain rfl:=aX ho
   exact⟨Z,h,.refl,.inl ⟨rfl,h1⟩⟩
  ·simp only [cond_true] at ho
   cases dp with
   | cons=>cases ho
   | nil =>
    cases hc:Nat.beq cs.length t.size
    ·rw [show(List.isEmpty ([]:List (Nat×Nat))&&Nat.beq cs.length t.size)=false by rw [hc];rfl] at ho;cases ho
    rw [show(List.isEmpty ([]:List (Nat×Nat))&&Nat.beq cs.length t.size)=true by rw [hc];rfl] at ho
    have hc:=Nat.eq_of_beq_eq_true hc
    obtain ⟨k1,k2,k3⟩:=h3 rfl
    have hlen:=k1.len
    refine go _ b (o+0) vs x ho k1 k2 (by omega) (fun j hj=>?_) rfl
    have:=k3 j (by omega)
    rw [n'] at this
    exact this
def gQ(ps:List bt)(gs:List a'):(rs:List cO)→List a'→al→Option (cO.outs rs (bt.dM ps)).D
 | [],vs,s =>
  match vs with
  | []=>ie ps gs s
  | _=>none
 | .val t m :: rs,vs,s =>
  match vs with
  | v :: vs=>(zo t m v s).bind fun r=>(gQ ps gs rs vs r.2).bind fun q=>some (r.1,q)
  | []=>none
 | .opt a off t :: rs,vs,s =>
  match vs with
  | v :: vs=>(zp gs a off t v s).bind fun x=>(gQ ps gs rs vs s).bind fun q=>some (x,q)
  | []=>none
 | .any t :: rs,vs,s =>
  match vs with
  | v :: vs=>cond (zq t v) (gQ ps gs rs vs s) none
  | []=>none
 | .oM t :: rs,vs,s =>
  match vs with
  | v :: vs=>(CK t v s).bind fun r=>(gQ ps gs rs vs r.2).bind fun q=>some (r.1,q)
  | []=>none
 | .new t m :: rs,vs,s =>
  match vs with
  | v :: vs=>(CJ t m v s).bind fun r=>(gQ ps gs rs vs r.2).bind fun q=>some (r.1,q)
  | []=>none
theorem aeo{ps:List bt}{gs:List a'}{s:al} : gQ ps gs [] [] s=ie ps gs s:=rfl
theorem aep{ps:List bt}{gs:List a'}{s:al}{v:a'}{vs:List a'} : gQ ps gs [] (v :: vs) s=none:=rfl
theorem aeq{ps:List bt}{gs:List a'}{a o:Nat}{t:aa}{rs:List cO}{s:al}{v:a'}{vs:List a'} : gQ ps gs (.opt a o t :: rs) (v :: vs) s=(zp gs a o t v s).bind fun x=>(gQ ps gs rs vs s).bind fun q=>some (x,q):=rfl
theorem aer{ps:List bt}{gs:List a'}{a o:Nat}{t:aa}{rs:List cO}{s:al} : gQ ps gs (.opt a o t :: rs) [] s=none:=rfl
theorem aes{ps:List bt}{gs:List a'}{t:aa}{m:bg}{rs:List cO}{s:al}{v:a'}{vs:List a'} : gQ ps gs (.val t m :: rs) (v :: vs) s=(zo t m v s).bind fun r=>(gQ ps gs rs vs r.2).bind fun q=>some (r.1,q):=rfl
theorem aet{ps:List bt}{gs:List a'}{t:aa}{m:bg}{rs:List cO}{s:al} : gQ ps gs (.val t m :: rs) [] s=none:=rfl
theorem aeu{ps:List bt}{gs:List a'}{t:aa}{rs:List cO}{s:al}{v:a'}{vs:List a'} : gQ ps gs (.any t :: rs) (v :: vs) s=cond (zq t v) (gQ ps gs rs vs s) none:=rfl
theorem aev{ps:List bt}{gs:List a'}{t:aa}{rs:List cO}{s:al} : gQ ps gs (.any t :: rs) [] s=none:=rfl
theorem aew{ps:List bt}{gs:List a'}{t:aa}{rs:List cO}{s:al}{v:a'}{vs:List a'} : gQ ps gs (.oM t :: rs) (v :: vs) s=(CK t v s).bind fun r=>(gQ ps gs rs vs r.2).bind fun q=>some (r.1,q):=rfl
theorem aex{ps:List bt}{gs:List a'}{t:aa}{rs:List cO}{s:al} : gQ ps gs (.oM t :: rs) [] s=none:=rfl
theorem aey{ps:List bt}{gs:List a'}{t:aa}{m:bg}{rs:List cO}{s:al}{v:a'}{vs:List a'} : gQ ps gs (.new t m :: rs) (v :: vs) s=(CJ t m v s).bind fun r=>(gQ ps gs rs vs r.2).bind fun q=>some (r.1,q):=rfl
theorem aez{ps:List bt}{gs:List a'}{t:aa}{m:bg}{rs:List cO}{s:al} : gQ ps gs (.new t m :: rs) [] s=none:=rfl
theorem xr{ps:List bt}{gs:List a'}{us:List Value} : ∀(rs:List cO) (vs:List a') (dk:List Value) (s:al) (Z:ag) (x:(cO.outs rs (bt.dM ps)).D),gQ ps gs rs vs s=some x→Inv w0 F0 Z0 n s a w ι Z →
  a8 w Z s ι gs us→a8 w Z s ι vs dk→∃aq F Z',Inv w0 F0 Z0 n aq a w ι Z'∧eU s ι Z aq Z'∧bE w0 F0 aq w ι Z' F∧hS w Z' ps us rs x dk F∧∀b o,F b o→∃id,(s.o id).live∧(ι id).F b o
 | [],vs,dk,s,Z,x,ho,h,aD,hv=>by
  cases vs with
  | cons=>rw [aep] at ho;cases ho
  | nil =>
   rw [aeo] at ho
   simp only [a8] at hv
   obtain ⟨aq,F,Z',i1,s1,f1,bw,g1⟩:=uj ps gs us s Z x ho h aD
   exact⟨aq,F,Z',i1,s1,f1,⟨hv,bw⟩,g1⟩
 | .opt lr off t :: rs,vs,dk,s,Z,x,ho,h,aD,hv=>by
  cases vs with
  | nil=>rw [aer] at ho;cases ho
  | cons v vs =>
   simp only [a8] at hv
   obtain ⟨u,aV,rfl,h1,h2⟩:=hv
   rw [aeq] at ho
   obtain ⟨y,a_,ho⟩:=bj ho
   obtain ⟨q,hq,ho⟩:=bj ho
   obtain rfl:=aX ho
   obtain ⟨aq,dE,bJ,i2,s2,f2,b9,g2⟩:=xr rs vs aV s Z q hq h aD h2
   exact⟨aq,dE,bJ,i2,s2,f2,⟨u,aV,rfl,ael a_ h aD h1,b9⟩,g2⟩
 | .any t :: rs,vs,dk,s,Z,x,ho,h,aD,hv=>by
  cases vs with
  | nil=>rw [aev] at ho;cases ho
  | cons v vs =>
   simp only [a8] at hv
   obtain ⟨u,aV,rfl,h1,h2⟩:=hv
   rw [aeu] at ho
   cases hc:zq t v
   ·rw [hc] at ho;cases ho
   rw [hc] at ho
   obtain ⟨aq,dE,bJ,i2,s2,f2,b9,g2⟩:=xr rs vs aV s Z x ho h aD h2
   exact⟨aq,dE,bJ,i2,s2,f2,⟨u,aV,rfl,aem hc h1,b9⟩,g2⟩
 | .oM t :: rs,vs,dk,s,Z,x,ho,h,aD,hv=>by
  cases vs with
  | nil=>rw [aex] at ho;cases ho
  | cons v vs =>
   simp only [a8] at hv
   obtain ⟨u,aV,rfl,h1,h2⟩:=hv
   rw [aew] at ho
   obtain ⟨r,hr,ho⟩:=bj ho
   obtain ⟨q,hq,ho⟩:=bj ho
   obtain rfl:=aX ho
   obtain ⟨cr,i1,s1,bw⟩:=aen hr h h1
   obtain ⟨aq,dE,bJ,i2,s2,f2,b9,g2⟩:=xr rs vs aV r.2 cr q hq i1 (a8.move s1.d' aD) (a8.move s1.d' h2)
   refine⟨aq,dE,bJ,i2,s1.trans s2,f2,⟨u,aV,rfl,bw.imp (fun h=>h) fun⟨y,b,o,vs,k1,k2,k3,bf,bm⟩=>⟨y,b,o,vs,k1,k2,k3,aa.an.mono s2.dC _ _ (fun _ _ h=>h) bf,fun j hj=>s2.dC _ _ (bm j hj)⟩,b9⟩,?_⟩
   intro b o y
   obtain ⟨id,hl,hf⟩:=g2 b o y
   exact⟨id,(s1.live hl).1,hf⟩
 | .new t m :: rs,vs,dk,s,Z,x,ho,h,aD,hv=>by
  cases vs with
  | nil=>rw [aez] at ho;cases ho
  | cons v vs =>
   simp only [a8] at hv
   obtain ⟨u,aV,rfl,h1,h2⟩:=hv
   rw [aey] at ho
   obtain ⟨r,hr,ho⟩:=bj ho
   obtain ⟨q,hq,ho⟩:=bj ho
   obtain rfl:=aX ho
   obtain ⟨b,o,ws,F1,cr,rfl,i1,s1,f1,cm,hwr,bw,aeA,g1⟩:=aek hr h h1
   obtain ⟨aq,dE,bJ,i2,s2,f2,b9,g2⟩:=xr rs vs aV r.2 cr q hq i1 (a8.move s1.d' aD) (a8.move s1.d' h2)
   refine⟨aq,(F1.or (ag.run b o t.size)).or dE,bJ,i2,s1.trans s2,(f1.shrink s2).or f2,⟨b,o,ws,aV,F1,dE,rfl,cm,hwr,aa.an.mono s2.dC _ _ (fun _ _ h=>h) bw,b9,?_,aeA,fun _ _ h=>.inl h,fun _ _ h=>.inr h⟩,?_⟩
   ·intro b o x y
    obtain ⟨id,hl,hf⟩:=g2 b o y
    exact f1.apart id hl b o x hf
   ·rintro b o (y | y)
    ·exact g1 b o y
    ·obtain ⟨id,hl,hf⟩:=g2 b o y;exact⟨id,(s1.live hl).1,hf⟩
 | .val t m :: rs,vs,dk,s,Z,x,ho,h,aD,hv=>by
  cases vs with
  | nil=>rw [aet] at ho;cases ho
  | cons v vs =>
   simp only [a8] at hv
   obtain ⟨u,aV,rfl,h1,h2⟩:=hv
   rw [aes] at ho
   obtain ⟨r,hr,ho⟩:=bj ho
   obtain ⟨q,hq,ho⟩:=bj ho
   obtain rfl:=aX ho
   obtain ⟨ws,F1,cr,rfl,i1,s1,f1,bw,g1⟩:=TB hr h h1
   obtain ⟨aq,dE,bJ,i2,s2,f2,b9,g2⟩:=xr rs vs aV r.2 cr q hq i1 (a8.move s1.d' aD) (a8.move s1.d' h2)
   refine⟨aq,F1.or dE,bJ,i2,s1.trans s2,(f1.shrink s2).or f2,⟨ws,aV,F1,dE,rfl,aa.an.mono s2.dC _ _ (fun _ _ h=>h) bw,b9,?_,fun _ _ h=>.inl h,fun _ _ h=>.inr h⟩,?_⟩
   ·intro b o x y
    obtain ⟨id,hl,hf⟩:=g2 b o y
    exact f1.apart id hl b o x hf
   ·rintro b o (y | y)
    ·exact g1 b o y
    ·obtain ⟨id,hl,hf⟩:=g2 b o y;exact⟨id,(s1.live hl).1,hf⟩
end
end Go.LM
namespace Go.LM
inductive kO where
 | keep
 | bA (t:aa) (dp:List Nat)
 | ah (c:Nat)
 | av (c:Nat)
inductive kr where
 | cell (c:kO)
 | h8 (cs:List kO)
 | ptr (c:Nat)
 | c3 (dp:List Nat) (cs:List kO)
 | opt (c:Nat)
 | same
 | drop
 | wz (a b:List (List kO))
inductive ig where
 | var (cs:List kO)
 | row (t:aa) (em:bg)
structure bz where
 aj:List (Nat×kr)
 os:List (Nat×ig)
 gs:List kr
abbrev Ren:=List (Nat×Option Nat)
def jG:Ren→Nat→Option (Option Nat)
 | [],_=>none
 | (k,v) :: l,c=>cond (Nat.beq k c) (some v) (jG l c)
def j2(r:Ren)(c id:Nat):Bool:=match jG r c with
 | some (some i)=>Nat.beq i id
 | _=>false
def uk(r:Ren)(c:Nat):Bool:=match jG r c with
 | some none=>true
 | _=>false
def gR:List (Nat×ig)→Nat→Bool
 | [],_=>false
 | (k,_) :: l,c=>cond (Nat.beq k c) true (gR l c)
def r2:Ren→List Nat
 | []=>[]
 | (_,some i) :: l=>i :: r2 l
 | (_,none) :: l=>r2 l
def pb:List Nat→Bool
 | []=>true
 | x :: l => !(l.any (Nat.beq x))&&pb l
def KT:Ren→List Nat
 | []=>[]
 | (k,_) :: l=>k :: KT l
def r3(r:Ren)(c:Nat)(v:Option Nat):Ren:=match jG r c with
 | none=>(c,v) :: r
 | some _=>r
def KU(r:Ren):List Nat→List (Nat×Nat)→Ren
 | c :: cs,d :: ds=>KU (r3 r c (some d.1)) cs ds
 | _,_=>r
def TD(r:Ren):kO→bb→Ren
 | .ah c,.ah id _=>r3 r c (some id)
 | .ah c,.nil _=>r3 r c none
 | .av c,.ah id _=>r3 r c (some id)
 | .bA _ dp,.bA _ ds _ _=>KU r dp ds
 | .bA _ (c :: _),.ah id _=>r3 r c (some id)
 | _,_=>r
def CL(r:Ren):List kO→List bb→Ren
 | c :: cs,x :: xs=>CL (TD r c x) cs xs
 | _,_=>r
def TE(r:Ren):kr→a'→Ren
 | .cell c,.aU x=>TD r c x
 | .cell (.ah c),.kD=>r3 r c none
 | .h8 cs,.h8 xs=>CL r cs xs
 | .ptr c,.ptr p=>r3 r c (some p.id)
 | .c3 dp cs,.c3 ds xs _=>CL (KU r dp ds) cs xs
 | .opt c,.opt id _=>r3 r c (some id)
 | _,_=>r
def TF(s:al)(r:Ren):List (Nat×kr)→Ren
 | []=>r
 | (d,t) :: l=>TF s (TE r t (s.t d)) l
def TG(r:Ren):List kr→List a'→Ren
 | t :: l,x :: xs=>TG (TE r t x) l xs
 | _,_=>r
def KV(s:al)(r:Ren):List (Nat×ig)→Ren
 | []=>r
 | (c,.var cs) :: l=>KV s (match jG r c with
   | some (some id)=>(match s.o id with
    | .var _ xs=>CL r cs xs
    | _=>r)
   | _=>r) l
 | _ :: l=>KV s r l
def um(dp:List Nat):List (Nat×Nat):=dp.map fun c=>(c,0)
def qq(r:Ren)(os:List (Nat×ig))(s:al):kO→bb→Option bb
 | .keep,c=>match c with
  | .int k x=>some (.int k x)
  | .bool b=>some (.bool b)
  | .str x=>some (.str x)
  | _=>none
 | .bA t dp,c=>cond (dp.all (gR os)&&(borrows s c).all fun d=>dp.any fun c=>j2 r c d.1) ((oN s t c).bind fun x=>some (.bA t (um dp) none x)) none
 | .ah k,c=>cond (gR os k) (match c with
  | .ah id sub=>cond (j2 r k id) (some (.ah k sub)) none
  | .nil _=>cond (uk r k) (some (.ah k none)) none
  | _=>none) none
 | .av k,c=>cond (gR os k) (match c with
  | .ah id sub=>(match s.o id with
   | .row _ _ _ xs=>cond (j2 r k id) (some (.ah k (some (d_ sub,k4 sub xs)))) none
   | _=>none)
  | _=>none) none
def oa(r:Ren)(os:List (Nat×ig))(s:al):List kO→List bb→Option (List bb)
 | [],[]=>some []
 | c :: cs,x :: xs=>(qq r os s c x).bind fun y=>(oa r os s cs xs).bind fun ys=>some (y :: ys)
 | _,_=>none
def CM(r:Ren)(os:List (Nat×ig))(s:al):kr→a'→Option a'
 | .cell c,.aU x=>(qq r os s c x).bind fun y=>some (.aU y)
 | .cell (.ah k),.kD=>cond (gR os k&&uk r k) (some (.aU (.ah k none))) none
 | .cell (.bA t dp),.kD=>cond (dp.all (gR os)) (some (.aU (.bA t (um dp) none []))) none
 | .h8 cs,.h8 xs=>(oa r os s cs xs).bind fun ys=>some (.h8 ys)
 | .ptr k,.ptr p=>cond (gR os k&&j2 r k p.id) (some (.ptr { p with id:=k })) none
 | .c3 dp cs,.c3 ds xs off=>cond (dp.all (gR os)&&alive s ds&&ds.all fun d=>dp.any fun c=>j2 r c d.1) ((oa r os s cs xs).bind fun ys=>some (.c3 (um dp) ys off)) none
 | .opt k,.opt id o=>cond (gR os k&&j2 r k id) (some (.opt k o)) none
 | .same,.jS=>some .jS
 | .same,.aw=>some .aw
 | .same,.fn f [] []=>some (.fn f [] [])
 | .drop,_=>some .aw
 | _,_=>none
def xt(r:Ren)(os:List (Nat×ig))(s:al):List kr→List a'→Option (List a')
 | [],[]=>some []
 | t :: l,x :: xs=>(CM r os s t x).bind fun v=>(xt r os s l xs).bind fun vs=>some (v :: vs)
 | _,_=>none
def KW(r:Ren)(os:List (Nat×ig))(s:al):kr→a'→Option a'
 | .wz a b,.fn f xs ys=>(xt r os s (a.map (kr.c3 [])) xs).bind fun x=>(xt r os s (b.map (kr.c3 [])) ys).bind fun y=>some (.fn f x y)
 | t,x=>CM r os s t x
def CN(r:Ren)(os:List (Nat×ig))(s:al):List (Nat×kr)→Option (Nat→a')
 | []=>some fun _=>.aw
 | (d,t) :: l=>(KW r os s t (s.t d)).bind fun v=>(CN r os s l).bind fun f=>some (bP f d v)
def KX(r:Ren)(os:List (Nat×ig))(s:al)(c:Nat)(t:ig):Option cj :=
 match jG r c with
 | some (some id)=>(match t,s.o id with
  | .row t em,.row u gk _ xs=>cond (bg.beq gk em||xs.isEmpty) ((ew (.sl u) (.sl t) xs).bind fun x=>some (.row t em 0 x)) none
  | .var cs,.var _ xs=>(oa r os s cs xs).bind fun ys=>some (.var 0 ys)
  | _,_=>none)
 | some none=>(match t with
  | .row t em=>some (.row t em 0 [])
  | _=>none)
 | none=>none
def CO(r:Ren)(os:List (Nat×ig))(s:al):List (Nat×ig)→Option (Nat→cj)
 | []=>some fun _=>.none
 | (c,t) :: l=>(KX r os s c t).bind fun v=>(CO r os s l).bind fun f=>some (bP f c v)
def KY(T:bz)(r:Ren)(s:al):Option al :=
 cond (pb (r2 r)&&pb (KT r)) ((CN r T.os s T.aj).bind fun t=>(CO r T.os s T.os).bind fun o=>(xt r T.os s T.gs s.g).bind fun g=>some ⟨t,o,g⟩) none
def norm(T:bz)(s:al):Option al:=KY T (KV s (TG (TF s [] T.aj) T.gs s.g) T.os) s
section
variable{w0:World}{F0 Z0:ag}{n:cB}{s s0:al}{a:Act}{w:World}{ι arh:Nat→bC}{Z:ag}{r:Ren}{os:List (Nat×ig)}
def iota(r:Ren)(ι : Nat→bC):Nat→bC:=fun c=>match jG r c with
 | some (some id) => ι id
 | _=>⟨none,0,ag.none⟩
theorem r4{c id:Nat}(h:j2 r c id=true):jG r c=some (some id):=by
 unfold j2 at h
 split at h
 ·rename_i i hi;rw [hi,Nat.eq_of_beq_eq_true h]
 ·cases h
theorem TH{c:Nat}(h:uk r c=true):jG r c=some none:=by
 unfold uk at h
 split at h
 ·rename_i hi;exact hi
 ·cases h
theorem CP{c id:Nat}(h:j2 r c id=true):iota r ι c = ι id:=by unfold iota;rw [r4 h]
theorem aeB{c:Nat}(h:uk r c=true):iota r ι c=⟨none,0,ag.none⟩:=by unfold iota;rw [TH h]
def ma(r:Ren)(os:List (Nat×ig))(s s0:al):Prop:=∀c,(s0.o c=.none∧gR os c=false) ∨
 (∃id,jG r c=some (some id)∧((∃t em ob ver xs,s.o id=.row t ob ver xs∧s0.o c=.row t em 0 xs∧(ob=em∨xs=[]))∨(∃ver cs lA oc,s.o id=.var ver cs∧s0.o c=.var 0 lA∧oa r os s oc cs=some lA))) ∨
 (jG r c=some none∧∃t em,s0.o c=.row t em 0 [])
theorem ma.known(h:ma r os s s0){c:Nat}(hc:gR os c=true):LM.known s0 c:=by
 intro h0
 rcases h c with⟨_,h1⟩ | ⟨id,_,⟨t,em,ob,ver,xs,_,h1,_⟩ | ⟨ver,cs,lA,oc,_,h1,_⟩⟩ | ⟨_,t,em,h1⟩
 ·rw [hc] at h1;cases h1
 all_goals rw [h1] at h0;cases h0
theorem ma.dep(h:ma r os s s0){c:Nat}(hc:gR os c=true):eg s0 (c,0):=⟨h.known hc,.inr (Nat.zero_le _)⟩
theorem TI(h:ma r os s s0){dp:List Nat}(ah:dp.all (gR os)=true):∀d,d∈um dp→eg s0 d:=by
 intro d qp
 unfold um at qp
 obtain ⟨c,hc,rfl⟩:=List.mem_map.1 qp
 exact h.dep (List.all_eq_true.1 ah c hc)
theorem TJ{dp:List Nat}{ds:List (Nat×Nat)}(h:∀d,d∈ds→(dp.any fun c=>j2 r c d.1)=true):ag.sub (dd ι ds) (dd (iota r ι) (um dp)):=by
 rintro b o ⟨d,ah,hf⟩
 obtain ⟨c,hc,cm⟩:=List.any_eq_true.1 (h d ah)
 refine⟨(c,0),List.mem_map.2 ⟨c,hc,rfl⟩,?_⟩
 rw [CP cm]
 exact hf
theorem CQ(h:Inv w0 F0 Z0 n s a w ι Z)(bK:ma r os s s0){c:kO}{x y:bb}{v:Value}(hn:qq r os s c x=some y)(hx:cc w Z s ι x v):cc w Z s0 (iota r ι) y v:=by
 cases c with
 | keep =>
  cases x <;> simp only [qq,Option.some.injEq] at hn <;> first | (cases hn;done) | (subst hn;exact hx)
 | bA t dp =>
  simp only [qq] at hn
  cases hc:(dp.all (gR os)&&(borrows s x).all fun d=>dp.any fun c=>j2 r c d.1)
  ·rw [hc] at hn;cases hn
  rw [hc] at hn
  simp only [cond_true] at hn
  simp only [Bool.and_eq_true] at hc
  obtain ⟨xs,hl,hn⟩:=bj hn
  obtain rfl:=aX hn
  obtain ⟨h1,h2,h3⟩:=Jo h hl hx
  have tI:=TJ (ι := ι) (r:=r) (dp:=dp) (ds:=borrows s x) fun d ah=>List.all_eq_true.1 hc.2 d ah
  have h4:=aa.an.mono (Z':=Z.or (dd (iota r ι) (um dp))) (fun b o hz=>hz.elim .inl fun h=>.inr (tI b o h)) _ _ (fun _ _ h=>h) h1
  refine⟨TI bK hc.1,?_,fun _=>h4,.none⟩
  simp only [aa.an] at h4
  obtain ⟨A,c,hv,_⟩:=h4
  simp only [List.cons.injEq,and_true] at hv
  exact⟨A,_,c,hv⟩
 | ah k =>
  simp only [qq] at hn
  cases hc:gR os k
  ·rw [hc] at hn;cases hn
  rw [hc] at hn
  simp only [cond_true] at hn
  cases x with
  | ah id sub =>
   simp only at hn
   cases cm:j2 r k id
   ·rw [cm] at hn;cases hn
   rw [cm] at hn
   obtain rfl:=aX hn
   obtain ⟨h1,A,m,jW,hv,h2⟩:=hx
   refine⟨bK.known hc,A,m,jW,hv,fun t em ver xs bU=>?_⟩
   rw [CP cm]
   rcases bK k with⟨h0,_⟩ | ⟨dO,h0,⟨cE,gk,TK,mS,fQ,g1,g2,ge⟩ | ⟨mS,cs,lA,oc,g1,g2,_⟩⟩ | ⟨h0,cE,gk,g2⟩
   ·rw [h0] at bU;cases bU
   ·rw [r4 cm] at h0
    injection h0 with h0;injection h0 with h0;subst h0
    rw [g2] at bU
    simp only [cj.core,cj.row.injEq] at bU
    obtain ⟨rfl,rfl,rfl,bU⟩:=bU
    have:=eq_of_heq bU;subst this
    exact h2 _ _ _ _ (k8 g1)
   ·rw [g2] at bU;cases bU
   ·rw [r4 cm] at h0;cases h0
  | nil u =>
   simp only at hn
   cases cm:uk r k
   ·rw [cm] at hn;cases hn
   rw [cm] at hn
   obtain rfl:=aX hn
   have hv:v=.slice none 0 0:=hx
   refine⟨bK.known hc,none,0,0,hv,fun t em ver xs bU=>?_⟩
   rw [aeB cm]
   rcases bK k with⟨h0,_⟩ | ⟨dO,h0,_⟩ | ⟨h0,cE,gk,g2⟩
   ·rw [h0] at bU;cases bU
   ·rw [TH cm] at h0;cases h0
   ·rw [g2] at bU
    simp only [cj.core,cj.row.injEq] at bU
    obtain ⟨rfl,rfl,rfl,bU⟩:=bU
    have:=eq_of_heq bU;subst this
    exact⟨rfl,Nat.le_refl _,Nat.le_refl _,Nat.le_refl _,.inl rfl⟩
  | _=>cases hn
 | av k =>
  simp only [qq] at hn
  cases hc:gR os k
  ·rw [hc] at hn;cases hn
  rw [hc] at hn
  simp only [cond_true] at hn
  cases x with
  | ah id sub =>
   simp only at hn
   cases hrow:s.o id with
   | row t2 ab4 ab5 ab6 =>
    rw [hrow] at hn
    simp only at hn
    cases cm:j2 r k id
    ·rw [cm] at hn;cases hn
    rw [cm] at hn
    obtain rfl:=aX hn
    obtain ⟨h1,A,m,jW,hv,h2⟩:=hx
    refine⟨bK.known hc,A,m,jW,hv,fun t em ver xs bU=>?_⟩
    rw [CP cm]
    rcases bK k with⟨h0,_⟩ | ⟨dO,h0,⟨cE,gk,TK,mS,fQ,g1,g2,ge⟩ | ⟨mS,cs,lA,oc,g1,g2,_⟩⟩ | ⟨h0,cE,gk,g2⟩
    ·rw [h0] at bU;cases bU
    ·rw [r4 cm] at h0
     injection h0 with h0;injection h0 with h0;subst h0
     rw [g2] at bU
     simp only [cj.core,cj.row.injEq] at bU
     obtain ⟨rfl,rfl,rfl,bU⟩:=bU
     have:=eq_of_heq bU;subst this
     rw [hrow] at g1
     simp only [cj.row.injEq] at g1
     obtain ⟨rfl,rfl,rfl,g1⟩:=g1
     have:=eq_of_heq g1;subst this
     have h3:=h2 _ _ _ _ (k8 hrow)
     cases sub with
     | none=>exact⟨h3.Rw,h3.fits,h3.le,h3.cap,h3.at_⟩
     | some p=>exact h3
    ·rw [g2] at bU;cases bU
    ·rw [r4 cm] at h0;cases h0
   | _=>rw [hrow] at hn;cases hn
  | _=>cases hn
theorem CR(h:Inv w0 F0 Z0 n s a w ι Z)(bK:ma r os s s0):∀ {cs:List kO} {xs ys:List bb} {vs:List Value},oa r os s cs xs=some ys→bF w Z s ι xs vs→bF w Z s0 (iota r ι) ys vs
 | [],[],ys,vs,hn,hx=>by
  obtain rfl:=aX hn
  cases vs with
  | nil=>trivial
  | cons=>exact hx.elim
 | [],_ :: _,_,_,hn,_=>by cases hn
 | _ :: _,[],_,_,hn,_=>by cases hn
 | c :: cs,x :: xs,ys,vs,hn,hx=>by
  simp only [oa] at hn
  obtain ⟨y,h1,hn⟩:=bj hn
  obtain ⟨TL,h2,hn⟩:=bj hn
  obtain rfl:=aX hn
  cases vs with
  | nil=>exact hx.elim
  | cons v vs=>exact⟨CQ h bK h1 hx.1,CR h bK h2 hx.2⟩
theorem KZ:∀ {cs:List kO} {xs ys:List bb},oa r os s cs xs=some ys→ys.length=xs.length
 | [],[],_,hn=>by obtain rfl:=aX hn;rfl
 | [],_ :: _,_,hn=>by cases hn
 | _ :: _,[],_,hn=>by cases hn
 | c :: cs,x :: xs,ys,hn=>by
  simp only [oa] at hn
  obtain ⟨y,h1,hn⟩:=bj hn
  obtain ⟨TL,h2,hn⟩:=bj hn
  obtain rfl:=aX hn
  simp [KZ h2]
theorem TM(bK:ma r os s s0){k:Nat}{p:Place}{A:Addr}(hc:gR os k=true)(cm:j2 r k p.id=true)(av:je s ι p A):je s0 (iota r ι) { p with id:=k } A:=by
 obtain ⟨h1,h2⟩:=av
 refine⟨h1,?_⟩
 show match (s0.o k).core with | .var _ cs=>_ | .row t _ _ xs=>_ | _=>_
 rw [CP cm]
 rcases bK k with⟨h0,_⟩ | ⟨dO,h0,⟨cE,gk,TK,mS,fQ,g1,g2,ge⟩ | ⟨mS,cs,lA,oc,g1,g2,_⟩⟩ | ⟨h0,cE,gk,g2⟩
 ·rw [h0];trivial
 ·rw [r4 cm] at h0
  injection h0 with h0;injection h0 with h0;subst h0
  rw [g2]
  rw [g1] at h2
  exact h2
 ·rw [r4 cm] at h0
  injection h0 with h0;injection h0 with h0;subst h0
  rw [g2]
  rw [g1] at h2
  exact h2
 ·rw [r4 cm] at h0;cases h0
theorem TN(h:Inv w0 F0 Z0 n s a w ι Z)(bK:ma r os s s0){t:kr}{x y:a'}{v:Value}(hn:CM r os s t x=some y)(hx:aT w Z s ι x v):aT w Z s0 (iota r ι) y v:=by
 unfold CM at hn
 split at hn
 ·obtain ⟨z,h1,hn⟩:=bj hn
  obtain rfl:=aX hn
  simp only [aT] at hx ⊢
  exact CQ h bK h1 hx
 ·rename_i k
  cases hc:(gR os k&&uk r k)
  ·rw [hc] at hn;cases hn
  rw [hc] at hn
  simp only [Bool.and_eq_true] at hc
  obtain rfl:=aX hn
  simp only [aT] at hx ⊢
  exact CQ (c:=.ah k) (x:=.nil .bool) h bK (by simp only [qq];rw [hc.1,hc.2];rfl) hx
 ·rename_i t dp
  cases hc:dp.all (gR os)
  ·rw [hc] at hn;cases hn
  rw [hc] at hn
  obtain rfl:=aX hn
  simp only [aT] at hx ⊢
  refine CQ (c:=.bA t dp) (x:=.nil t) h bK ?_ hx
  simp only [qq,hc,borrows,List.all_nil,Bool.and_true,cond_true]
  simp only [oN,ew]
  rw [dif_pos (aa.beq_refl _)]
  rfl
 ·obtain ⟨z,h1,hn⟩:=bj hn
  obtain rfl:=aX hn
  simp only [aT] at hx ⊢
  obtain ⟨vs,hv,hx⟩:=hx
  exact⟨vs,hv,CR h bK h1 hx⟩
 ·rename_i k p
  cases hc:(gR os k&&j2 r k p.id)
  ·rw [hc] at hn;cases hn
  rw [hc] at hn
  simp only [Bool.and_eq_true] at hc
  obtain rfl:=aX hn
  simp only [aT] at hx ⊢
  obtain ⟨_,A,hv,av⟩:=hx
  exact⟨bK.known hc.1,A,hv,TM bK hc.1 hc.2 av⟩
 ·rename_i dp cs ds xs off
  cases hc:(dp.all (gR os)&&alive s ds&&ds.all fun d=>dp.any fun c=>j2 r c d.1)
  ·rw [hc] at hn;cases hn
  rw [hc] at hn
  simp only [Bool.and_eq_true] at hc
  simp only [cond_true] at hn
  obtain ⟨z,h1,hn⟩:=bj hn
  obtain rfl:=aX hn
  simp only [aT] at hx ⊢
  obtain ⟨_,b,o,vs,hv,hx⟩:=hx
  obtain ⟨g1,g2,g3⟩:=hx hc.1.2
  have tI:=TJ (ι := ι) (r:=r) (dp:=dp) (ds:=ds) fun d ah=>List.all_eq_true.1 hc.2 d ah
  refine⟨TI bK hc.1.1,b,o,vs,hv,fun _=>⟨CR h bK h1 g1,g2,fun j hj=>?_⟩⟩
  rw [KZ h1] at hj
  exact(g3 j hj).elim .inl fun h=>.inr (tI _ _ h)
 ·rename_i k id o
  cases hc:(gR os k&&j2 r k id)
  ·rw [hc] at hn;cases hn
  rw [hc] at hn
  simp only [Bool.and_eq_true] at hc
  obtain rfl:=aX hn
  simp only [aT] at hx ⊢
  obtain ⟨_,hx⟩:=hx
  exact⟨bK.known hc.1,hx.imp (fun h=>h) fun⟨h1,A,hv,av⟩=>⟨h1,A,hv,TM (p:=⟨id,some o.toNat,0⟩) bK hc.1 hc.2 av⟩⟩
 ·obtain rfl:=aX hn
  simpa only [aT] using hx
 ·obtain rfl:=aX hn
  simp only [aT]
 ·obtain rfl:=aX hn
  simpa only [aT,a8] using hx
 ·obtain rfl:=aX hn
  simp only [aT]
 ·cases hn
theorem CS(h:Inv w0 F0 Z0 n s a w ι Z)(bK:ma r os s s0):∀ {aj:List kr} {xs ys:List a'} {vs:List Value},xt r os s aj xs=some ys→a8 w Z s ι xs vs→a8 w Z s0 (iota r ι) ys vs
 | [],[],ys,vs,hn,hx=>by obtain rfl:=aX hn;simpa only [a8] using hx
 | [],_ :: _,_,_,hn,_=>by cases hn
 | _ :: _,[],_,_,hn,_=>by cases hn
 | t :: aj,x :: xs,ys,vs,hn,hx=>by
  simp only [xt] at hn
  obtain ⟨y,h1,hn⟩:=bj hn
  obtain ⟨TL,h2,hn⟩:=bj hn
  obtain rfl:=aX hn
  simp only [a8] at hx ⊢
  obtain ⟨v,bD,rfl,g1,g2⟩:=hx
  exact⟨v,bD,rfl,TN h bK h1 g1,CS h bK h2 g2⟩
theorem aeC(h:Inv w0 F0 Z0 n s a w ι Z)(bK:ma r os s s0){t:kr}{x y:a'}{v:Value}(hn:KW r os s t x=some y)(hx:aT w Z s ι x v):aT w Z s0 (iota r ι) y v:=by
 unfold KW at hn
 split at hn
 ·obtain ⟨U,h1,hn⟩:=bj hn
  obtain ⟨zr,h2,hn⟩:=bj hn
  obtain rfl:=aX hn
  simp only [aT] at hx ⊢
  obtain ⟨us,vs,rfl,k1,k2⟩:=hx
  exact⟨us,vs,rfl,CS h bK h1 k1,CS h bK h2 k2⟩
 ·exact TN h bK hn hx
theorem TO(h:Inv w0 F0 Z0 n s a w ι Z)(bK:ma r os s s0):∀ {aj:List (Nat×kr)} {f:Nat→a'},CN r os s aj=some f→∀k,aT w Z s0 (iota r ι) (f k) (a.tmps.getD k undef)
 | [],f,hn,k=>by obtain rfl:=aX hn;simp only [aT]
 | (d,t) :: l,f,hn,k=>by
  simp only [CN] at hn
  obtain ⟨v,h1,hn⟩:=bj hn
  obtain ⟨g,h2,hn⟩:=bj hn
  obtain rfl:=aX hn
  by_cases hk:d=k
  ·subst hk;rw [cz];exact aeC h bK h1 (h.tmps d)
  ·rw [cK hk];exact TO h bK h2 k
theorem aeD{c:Nat}{t:ig}{v:cj}(hn:KX r os s c t=some v) :
  (∃id,jG r c=some (some id)∧((∃t em ob ver xs,s.o id=.row t ob ver xs∧v=.row t em 0 xs∧(ob=em∨xs=[]))∨(∃ver cs lA oc,s.o id=.var ver cs∧v=.var 0 lA∧oa r os s oc cs=some lA)))∨(jG r c=some none∧∃t em,v=.row t em 0 []):=by
 unfold KX at hn
 split at hn
 ·rename_i id hl
  refine .inl ⟨id,hl,?_⟩
  split at hn
  ·rename_i t em u gk ver xs ho
   cases hb:(bg.beq gk em||xs.isEmpty)
   ·rw [hb] at hn;cases hn
   rw [hb] at hn
   obtain ⟨x,h1,hn⟩:=bj hn
   obtain rfl:=aX hn
   simp only [Bool.or_eq_true] at hb
   obtain ⟨e,rfl⟩:=gK h1
   subst e
   refine .inl ⟨_,_,_,_,_,ho,rfl,?_⟩
   rcases hb with hb | hb
   ·exact .inl (bg.eq_of_beq _ _ hb)
   ·exact .inr (List.isEmpty_iff.1 hb)
  ·rename_i cs ver xs ho
   obtain ⟨ys,h1,hn⟩:=bj hn
   obtain rfl:=aX hn
   exact .inr ⟨_,_,_,_,ho,rfl,h1⟩
  ·cases hn
 ·rename_i hl
  split at hn
  ·obtain rfl:=aX hn;exact .inr ⟨hl,_,_,rfl⟩
  ·cases hn
 ·cases hn
theorem CT:∀ {l:List (Nat×ig)} {f:Nat→cj},CO r os s l=some f→∀c,(f c=.none∧gR l c=false) ∨
  (∃id,jG r c=some (some id)∧((∃t em ob ver xs,s.o id=.row t ob ver xs∧f c=.row t em 0 xs∧(ob=em∨xs=[]))∨(∃ver cs lA oc,s.o id=.var ver cs∧f c=.var 0 lA∧oa r os s oc cs=some lA))) ∨
  (jG r c=some none∧∃t em,f c=.row t em 0 [])
 | [],f,hn,c=>by obtain rfl:=aX hn;exact .inl ⟨rfl,rfl⟩
 | (d,t) :: l,f,hn,c=>by
  simp only [CO] at hn
  obtain ⟨v,h1,hn⟩:=bj hn
  obtain ⟨g,h2,hn⟩:=bj hn
  obtain rfl:=aX hn
  by_cases hk:d=c
  ·subst hk;rw [cz];exact .inr (aeD h1)
  ·rw [cK hk]
   rcases CT h2 c with⟨g1,g2⟩ | g
   ·refine .inl ⟨g1,?_⟩
    unfold gR
    have:Nat.beq d c=false:=by
     cases hb:Nat.beq d c
     ·rfl
     ·exact absurd (Nat.eq_of_beq_eq_true hb) hk
    rw [this]
    exact g2
   ·exact .inr g
theorem K0{c:Nat}{v:Option Nat} : ∀ {r:Ren},jG r c=some v→(c,v)∈r
 | [],h=>by cases h
 | (k,u) :: l,h=>by
  unfold jG at h
  cases hb:Nat.beq k c
  ·rw [hb] at h;exact List.mem_cons_of_mem _ (K0 h)
  ·rw [hb] at h
   obtain rfl:=aX h
   obtain rfl:=Nat.eq_of_beq_eq_true hb
   exact List.mem_cons_self
theorem TP{c id:Nat} : ∀ {r:Ren},(c,some id)∈r→id∈r2 r
 | (k,u) :: l,h=>by
  rcases List.mem_cons.1 h with h | h
  ·injection h with h1 h2
   subst h1 h2
   exact List.mem_cons_self
  ·have:=TP h
   cases u with
   | none=>exact this
   | some i=>exact List.mem_cons_of_mem _ this
theorem K1{c c' id:Nat} : ∀ {r:Ren},pb (r2 r)=true→(c,some id)∈r→(c',some id)∈r→c=c'
 | (k,u) :: l,hn,h,h'=>by
  cases u with
  | none =>
   simp only [r2] at hn
   rcases List.mem_cons.1 h with h | h
   ·injection h with _ h2;cases h2
   rcases List.mem_cons.1 h' with h' | h'
   ·injection h' with _ h2;cases h2
   exact K1 hn h h'
  | some i =>
   simp only [r2,pb,Bool.and_eq_true,Bool.not_eq_true'] at hn
   have eI:∀ {x},(x,some i)∈l→False:=by
    intro x hx
    have:=TP hx
    have h3:=List.any_eq_false.1 hn.1 i this
    simp at h3
   rcases List.mem_cons.1 h with g | g
   ·injection g with h1 h2;injection h2 with h2
    rcases List.mem_cons.1 h' with uo | uo
    ·injection uo with h3 h4;rw [h1,h3]
    ·exact(eI (h2 ▸ uo)).elim
   ·rcases List.mem_cons.1 h' with uo | uo
    ·injection uo with h1 h2;injection h2 with h2
     exact(eI (h2 ▸ g)).elim
    ·exact K1 hn.2 g uo
theorem aeE{T:bz}(xu:n.gc=[])(hn:KY T r s=some s0)(hs:cQ w0 F0 Z0 n s a w):cQ w0 F0 Z0 n s0 a w:=by
 obtain ⟨ι,Z,h⟩:=hs
 unfold KY at hn
 cases hT:(pb (r2 r)&&pb (KT r))
 ·rw [hT] at hn;cases hn
 rw [hT] at hn
 simp only [Bool.and_eq_true] at hT
 simp only [cond_true] at hn
 obtain ⟨aeF,h1,hn⟩:=bj hn
 obtain ⟨b3,h2,hn⟩:=bj hn
 obtain ⟨aeG,h3,hn⟩:=bj hn
 obtain rfl:=aX hn
 have bK:ma r T.os s ⟨aeF,b3,aeG⟩:=CT h2
 have live:∀c,(b3 c).live→(∃id,jG r c=some (some id)∧(s.o id).live∧iota r ι c = ι id)∨(iota r ι c=⟨none,0,ag.none⟩):=by
  intro c hl
  rcases CT h2 c with⟨g,_⟩ | ⟨id,g,⟨t,em,ob,ver,xs,g1,g2,ge⟩ | ⟨ver,cs,lA,oc,g1,g2,_⟩⟩ | ⟨g,_⟩
  ·rw [g] at hl;exact hl.elim
  ·exact .inl ⟨id,g,by rw [g1];trivial,by unfold iota;rw [g]⟩
  ·exact .inl ⟨id,g,by rw [g1];trivial,by unfold iota;rw [g]⟩
  ·exact .inr (by unfold iota;rw [g])
 refine⟨iota r ι,Z,h.ext,h.dC,h.rE,h.iC,?_,?_,?_,?_,TO h bK h1,h.size,CS h bK h3 h.ghost,by rw [xu];intro e he;simp at he,h.defers⟩
 ·intro c
  show hO w Z _ _ _ (b3 c)
  rcases CT h2 c with⟨g,_⟩ | ⟨id,g,⟨t,em,ob,ver,xs,g1,g2,ge⟩ | ⟨ver,cs,lA,oc,g1,g2,g3⟩⟩ | ⟨g,t,em,g2⟩
  ·rw [g];trivial
  ·rw [g2]
   have:=h.fP id
   rw [g1] at this
   have hi:iota r ι c = ι id:=by unfold iota;rw [g]
   rw [hi]
   rcases ge with rfl | rfl
   ·exact this
   ·rcases this with k | ⟨a0,k1,k2⟩
    ·exact .inl k
    ·obtain ⟨k3,bf,bm,dJ,G,dG,cY,eb⟩:=k2
     exact .inr ⟨a0,k1,k3,bf,bm,dJ,G,trivial,cY,eb⟩
  ·rw [g2]
   have:=h.fP id
   rw [g1] at this
   have hi:iota r ι c = ι id:=by unfold iota;rw [g]
   rw [hi]
   obtain ⟨a0,vs,k1,k2,k3,bf,bm⟩:=this
   exact⟨a0,vs,k1,k2,CR h bK g3 k3,bf,fun j hj=>bm j (by rw [← KZ g3];exact hj)⟩
  ·rw [g2]
   exact .inl ⟨rfl,by unfold iota;rw [g]⟩
 ·intro c hl b o hf
  rcases live c hl with⟨id,_,g2,g3⟩ | g
  ·rw [g3] at hf;exact h.own id g2 b o hf
  ·rw [g] at hf;exact hf.elim
 ·intro c c' hl gf hne b o hf ib
  rcases live c hl with⟨id,g1,g2,g3⟩ | g
  ·rcases live c' gf with⟨dO,k1,k2,k3⟩ | k
   ·rw [g3] at hf
    rw [k3] at ib
    refine h.apart id dO g2 k2 (fun e=>?_) b o hf ib
    subst e
    exact hne (K1 hT.1 (K0 g1) (K0 k1))
   ·rw [k] at ib;exact ib.elim
  ·rw [g] at hf;exact hf.elim
 ·intro c hl b o hf hz
  rcases live c hl with⟨id,g1,g2,g3⟩ | g
  ·rw [g3] at hf;exact h.cW id g2 b o hf hz
  ·rw [g] at hf;exact hf.elim
theorem aeH{T:bz}(xu:n.gc=[])(hn:norm T s=some s0)(hs:cQ w0 F0 Z0 n s a w):cQ w0 F0 Z0 n s0 a w:=aeE xu hn hs
end
end Go.LM
namespace Go.LM
def CU:List (Nat×List Item)→Nat→Option (List Item)
 | [],_=>none
 | (k,x) :: l,r=>cond (Nat.beq k r) (some x) (CU l r)
def TQ(body:Code)(ca:Nat):Option (List Item):=CU (gC [.code body]) ca
def zs:List (Nat×List Item)→List Nat
 | []=>[]
 | (k,_) :: l=>k :: zs l
def K2(body:Code):Bool:=pb (zs (gC [.code body]))
theorem TS{k:Nat}{x:List Item} : ∀ {l:List (Nat×List Item)},(k,x)∈l→k∈zs l
 | (k',cl) :: l,h=>by
  rcases List.mem_cons.1 h with h | h
  ·injection h with h1 h2;rw [h1];exact List.mem_cons_self
  ·exact List.mem_cons_of_mem _ (TS h)
theorem TT{k:Nat}{x:List Item} : ∀ {l:List (Nat×List Item)},pb (zs l)=true→(k,x)∈l→CU l k=some x
 | (k',cl) :: l,hn,h=>by
  simp only [zs,pb,Bool.and_eq_true,Bool.not_eq_true'] at hn
  unfold CU
  rcases List.mem_cons.1 h with h | h
  ·injection h with h1 h2
   rw [h1,Nat.beq_refl,h2]
   rfl
  ·have hne:Nat.beq k' k=false:=by
    have h3:=List.any_eq_false.1 hn.1 k (TS h)
    cases hb:Nat.beq k' k
    ·rfl
    ·rw [Nat.eq_of_beq_eq_true hb] at h3;simp at h3
   rw [hne]
   exact TT hn.2 h
section
variable{bs : Type}
def K3(gS:Nat→Option bz)(k:Nat→al→Option bs)(ca:Nat)(s:al):Option bs :=
 match gS ca with
 | some T=>(norm T s).bind (k ca)
 | none=>none
def K4(gS:Nat→Option bz)(ca:Nat):Bool:=(gS ca).isSome
def K5(gS:Nat→Option bz)(fin:al→Option bs)(k:Nat→al→Option bs):Hand bs :=⟨fun r _ s=>K3 gS k r s,fin⟩
noncomputable def K6(E:Env)(gS:Nat→Option bz)(body:Code)(fin:al→Option bs)(k:Nat→al→Option bs)(ca:Nat)(s:al):Option bs :=
 match TQ body ca with
 | some todo=>jV E (K4 gS) (K5 gS fin k) 100000 true todo s
 | none=>none
noncomputable def od(E:Env)(gS:Nat→Option bz)(body:Code)(fin:al→Option bs):Nat→Nat→al→Option bs
 | 0,_,_=>none
 | m+1,ca,s=>K6 E gS body fin (od E gS body fin m) ca s
end
def uq(E:Env):List ResultVar→al→Option (List a')
 | [],_=>some []
 | .tmp t :: l,s=>(uq E l s).bind fun vs=>some (s.t t :: vs)
 | .cell a ty :: l,s =>
  match E.ty ty,s.t a with
  | some T,.ptr p=>((lS s T.size p).bind (jT T)).bind fun v=>(uq E l s).bind fun vs=>some (v :: vs)
  | _,_=>none
def mb(key:Nat):List bt→List a'→List a'
 | .fn lR _ :: _,_ :: l=>[.fn key (l.take lR) (l.drop lR)]
 | .val _ _ :: ps,v :: l | .gZ _ :: ps,v :: l | .gI _ _ :: ps,v :: l | .ref _ :: ps,v :: l | .mut _ _ _ :: ps,v :: l=>v :: mb key ps l
 | _,_=>[]
def CV:List bt→Bool
 | []=>true
 | .fn lR oL :: l=>Nat.beq l.length (lR+oL)
 | .val _ _ :: l | .gZ _ :: l | .gI _ _ :: l | .ref _ :: l | .mut _ _ _ :: l=>CV l
def TU(key:Nat)(e:Entry)(x:(bt.ins e.ps).D):Option al :=
 (kN key e.ps x 1099511627776 ⟨fun _=>.aw,fun _=>.none,[]⟩).bind fun q=>some ⟨fun k=>(mb key e.ps q.1).getD k .aw,q.2.1.o,q.1⟩
def pc(E:Env)(fn:Func)(e:Entry)(s:al):Option (cO.outs e.rs (bt.dM e.ps)).D :=
 (uq E fn.results.toList s).bind fun vs=>gQ e.ps s.g e.rs vs s
noncomputable def xv(E:Env)(fn:Func)(body:Code)(gS:Nat→Option bz)(key:Nat)(e:Entry)(k:Nat→al→Option (cO.outs e.rs (bt.dM e.ps)).D)(x:(bt.ins e.ps).D):Option (cO.outs e.rs (bt.dM e.ps)).D :=
 (TU key e x).bind fun s=>jV E (K4 gS) (K5 gS (pc E fn e) k) 100000 false [.code body] s
section
variable{P:Program}{w0:World}{F0 Z0:ag}{n:cB}{s aq:al}{a b6:Act}{w w':World}{ι bh:Nat→bC}{Z Z':ag}{E:Env}{bs : Type}{r : bs}
def aeI(w0:World)(F0 Z0:ag)(n:cB)(fin:al→Option bs)(r : bs)(todo:List Item)(a:Act)(w:World):Prop :=
 (todo=[]∨∃k,todo=.code .ret :: k)∧∃s,fin s=some r∧cQ w0 F0 Z0 n s a w
theorem TV{gS:Nat→Option bz}{body:Code}{fin:al→Option bs}(bK:jE P E)(hn:E.n=n)(xu:n.gc=[])(hu:K2 body=true):∀(m:Nat) (fuel:Nat) (first:Bool) (todo:List Item) (s:al) (a:Act) (w:World),
  (∀p,p∈gC todo→p∈gC [.code body])→jV E (K4 gS) (K5 gS fin (od E gS body fin m)) fuel first todo s=some r→cQ w0 F0 Z0 n s a w→∀(b:Frame) (cs:List Frame),
  ∃pa b6 w',aeI w0 F0 Z0 n fin r pa b6 w'∧Steps P (lone (b.at a todo) cs w) (lone (b.at b6 pa) cs w')
 | m,fuel,first,todo,s,a,w,hc,hk,hs,b,cs=>by
  obtain ⟨t1,s1,a1,m7,h1,h2,h3,h4⟩:=Tz bK hn fuel first todo s a w hk hs b cs
  rcases h2 with⟨ca,ops,hM,k,rfl,iI,rZ⟩ | ⟨oe,hfin⟩
  ·have zt:K3 gS (od E gS body fin m) ca s1=some r:=rZ
   unfold K3 at zt
   cases bX:gS ca with
   | none=>rw [bX] at zt;cases zt
   | some T =>
    rw [bX] at zt
    obtain ⟨s2,g1,g2⟩:=bj zt
    have n2:=aeH xu g1 h1
    cases m with
    | zero=>cases g2
    | succ m =>
     unfold od K6 at g2
     have xw:(ca,(.code (.region ca ops hM) :: k:List Item))∈gC [.code body]:=hc _ (h3 _ (by simp [gC,lz]))
     have aeJ:TQ body ca=some (.code (.region ca ops hM) :: k):=TT hu xw
     rw [aeJ] at g2
     simp only at g2
     obtain ⟨cE,b6,w',cP,dU⟩:=TV bK hn xu hu m 100000 true _ s2 a1 m7 (fun p av=>hc p (h3 p av)) g2 n2 b cs
     exact⟨cE,b6,w',cP,h4.trans dU⟩
  ·exact⟨t1,a1,m7,⟨oe,s1,hfin,h1⟩,h4⟩
theorem mc{α : Type} : ∀x:Sem α,x.bind .pure=x
 | .pure a=>rfl
 | .load m a k=>by simp only [Sem.bind];exact congrArg _ (funext fun v=>mc (k v))
 | .store m a v k=>by simp only [Sem.bind];exact congrArg _ (mc k)
 | .new o k=>by simp only [Sem.bind];exact congrArg _ (funext fun v=>mc (k v))
 | .shape r k=>by simp only [Sem.bind];exact congrArg _ (funext fun v=>mc (k v))
 | .freeze a n k=>by simp only [Sem.bind];exact congrArg _ (mc k)
 | .frozen a k=>by simp only [Sem.bind];exact congrArg _ (funext fun v=>mc (k v))
 | .getObj r k=>by simp only [Sem.bind];exact congrArg _ (funext fun v=>mc (k v))
 | .setObj r o k=>by simp only [Sem.bind];exact congrArg _ (mc k)
 | .choose q k=>by simp only [Sem.bind];exact congrArg _ (funext fun v=>mc (k v))
 | .sys c k=>by simp only [Sem.bind];exact congrArg _ (funext fun v=>mc (k v))
 | .program k=>by simp only [Sem.bind];exact congrArg _ (funext fun v=>mc (k v))
 | .mark m k=>by simp only [Sem.bind];exact congrArg _ (mc k)
 | .halt h=>rfl
theorem me{α β aeK : Type}(f : α → Sem β)(g : β → Sem aeK):∀x:Sem α,(x.bind f).bind g=x.bind fun a=>(f a).bind g
 | .pure a=>rfl
 | .load m a k=>by simp only [Sem.bind];exact congrArg _ (funext fun v=>me f g (k v))
 | .store m a v k=>by simp only [Sem.bind];exact congrArg _ (me f g k)
 | .new o k=>by simp only [Sem.bind];exact congrArg _ (funext fun v=>me f g (k v))
 | .shape r k=>by simp only [Sem.bind];exact congrArg _ (funext fun v=>me f g (k v))
 | .freeze a n k=>by simp only [Sem.bind];exact congrArg _ (me f g k)
 | .frozen a k=>by simp only [Sem.bind];exact congrArg _ (funext fun v=>me f g (k v))
 | .getObj r k=>by simp only [Sem.bind];exact congrArg _ (funext fun v=>me f g (k v))
 | .setObj r o k=>by simp only [Sem.bind];exact congrArg _ (me f g k)
 | .choose q k=>by simp only [Sem.bind];exact congrArg _ (funext fun v=>me f g (k v))
 | .sys c k=>by simp only [Sem.bind];exact congrArg _ (funext fun v=>me f g (k v))
 | .program k=>by simp only [Sem.bind];exact congrArg _ (funext fun v=>me f g (k v))
 | .mark m k=>by simp only [Sem.bind];exact congrArg _ (me f g k)
 | .halt h=>rfl
instance:LawfulMonad Sem:=LawfulMonad.mk' Sem (fun x=>mc x) (fun _ _=>rfl) (fun x f g=>me f g x)
theorem TW{α : Type}{f : α → Sem Value} : ∀ {as:List α} {vs:List Value},vs.length=as.length→(∀i (hi:i<as.length) (c6:i<vs.length),(f as[i]).run P w=.ok vs[i] w)→(as.mapM f).run P w=.ok vs w
 | [],[],_,_=>by rw [List.mapM_nil];exact run_pure _ _
 | [],_ :: _,h,_=>by simp at h
 | _ :: _,[],h,_=>by simp at h
 | x :: as,v :: vs,hl,h=>by
  have h0:=h 0 (by simp) (by simp)
  simp only [List.getElem_cons_zero] at h0
  rw [List.mapM_cons,run_bind,h0]
  simp only [run_bind]
  rw [TW (as:=as) (vs:=vs) (by simpa using hl) fun i hi c6=>h (i+1) (by simpa using hi) (by simpa using c6)]
  simp only [run_pure]
theorem aeL{α : Type}{f : α → Sem Value}{as:Array α}{vs:List Value}(hl:vs.length=as.size)(h:∀i (hi:i<as.toList.length) (c6:i<vs.length),(f as.toList[i]).run P w=.ok vs[i] w) :
  (as.mapM f).run P w=.ok vs.toArray w:=by
 rw [Array.mapM_eq_mapM_toList,map_eq_pure_bind,run_bind,TW (by simpa using hl) h]
 rfl
theorem K7(bX:gL P E)(h:Inv w0 F0 Z0 n s a w ι Z):∀ {l:List ResultVar} {vs:List a'},uq E l s=some vs →
  ∃us,us.length=l.length∧a8 w Z s ι vs us∧∀i (hi:i<l.length) (c6:i<us.length),((fun | .tmp t=>pure (a.tmps.getD t undef) | .cell b t=>do loadVar t (← asAddr (a.tmps.getD b undef)):ResultVar→Sem Value) l[i]).run P w=.ok us[i] w
 | [],vs,hr=>by
  obtain rfl:=aX hr
  exact⟨[],rfl,by simp only [a8],fun i hi=>by simp at hi⟩
 | .tmp t :: l,vs,hr=>by
  simp only [uq] at hr
  obtain ⟨bD,h1,hr⟩:=bj hr
  obtain rfl:=aX hr
  obtain ⟨us,g1,g2,g3⟩:=K7 bX h h1
  refine⟨_ :: us,by simp [g1],by simp only [a8];exact⟨_,_,rfl,h.tmps t,g2⟩,fun i hi c6=>?_⟩
  cases i with
  | zero=>rfl
  | succ i=>exact g3 i (by simpa using hi) (by simpa using c6)
 | .cell b ty :: l,vs,hr=>by
  simp only [uq] at hr
  cases ht:E.ty ty with
  | none=>rw [ht] at hr;simp at hr
  | some T =>
   rw [ht] at hr
   cases av:s.t b with
   | ptr p =>
    rw [av] at hr
    simp only at hr
    obtain ⟨v,hv,hr⟩:=bj hr
    obtain ⟨bD,h1,hr⟩:=bj hr
    obtain rfl:=aX hr
    obtain ⟨cs,k1,k2⟩:=bj hv
    obtain ⟨us,g1,g2,g3⟩:=K7 bX h h1
    have hx:=h.tmps b
    rw [av] at hx
    simp only [aT] at hx
    obtain ⟨_,A,he,fV⟩:=hx
    obtain ⟨cJ,i0,ws,rfl,hc,cm,hlen⟩:=yR h k1 fV
    refine⟨dD T ws :: us,by simp [g1],by simp only [a8];exact⟨_,_,rfl,oV k2 hc,g2⟩,fun i hi c6=>?_⟩
    cases i with
    | zero =>
     show(do loadVar ty (← asAddr (a.tmps.getD b undef)):Sem Value).run P w=_
     rw [run_bind,he]
     show(loadVar ty (at_ cJ i0)).run P w=_
     exact JB (bX.ty ty T ht) cm hlen
    | succ i=>exact g3 i (by simpa using hi) (by simpa using c6)
   | _=>rw [av] at hr;simp at hr
theorem aeM{fn:Func}{vs:List a'}(bX:gL P E)(h:Inv w0 F0 Z0 n s a w ι Z)(hr:uq E fn.results.toList s=some vs) :
  ∃us,a8 w Z s ι vs us∧(results fn a.tmps).run P w=.ok (n5 us) w:=by
 obtain ⟨us,h1,h2,h3⟩:=K7 bX h hr
 refine⟨us,h2,?_⟩
 unfold results
 rw [run_bind,aeL (vs:=us) (by simpa using h1) (fun i hi c6=>by
  have:=h3 i hi c6
  revert this
  cases fn.results.toList[i] <;> exact fun h=>h)]
 simp only
 rw [run_pure]
 congr 1
 unfold n5
 split
 ·rename_i hs
  match us,hs with
  | [v],_=>rfl
  | [],hs=>simp at hs
  | _ :: _ :: _,hs=>simp at hs
 ·rename_i hs
  match us,hs with
  | [v],hs=>simp at hs
  | [],_=>rfl
  | _ :: _ :: _,_=>rfl
theorem aeN(us:List Value)(m k:Nat):((us.toArray++Array.replicate m undef).getD k undef)=us.getD k undef:=by
 rw [Array.getD_eq_getD_getElem?,List.getD_eq_getElem?_getD]
 by_cases hk:k<us.length
 ·rw [Array.getElem?_append_left (by simpa using hk)];simp
 ·rw [Array.getElem?_append_right (by simpa using Nat.le_of_not_lt hk)]
  rw [List.getElem?_eq_none (by omega)]
  simp only [List.size_toArray,Option.getD_none]
  by_cases eN:k-us.length<m
  ·rw [Array.getElem?_eq_getElem (by simpa using eN)];simp
  ·rw [Array.getElem?_eq_none (by simpa using Nat.le_of_not_lt eN)];rfl
theorem a8.getD:∀ {xs:List a'} {us:List Value},a8 w Z s ι xs us→∀k,aT w Z s ι (xs.getD k .aw) (us.getD k undef)
 | [],us,h,k=>by simp only [List.getD_nil,aT]
 | x :: xs,us,h,k=>by
  simp only [a8] at h
  obtain ⟨u,aV,rfl,h1,h2⟩:=h
  cases k with
  | zero=>exact h1
  | succ k=>exact a8.getD h2 k
theorem a8.len:∀ {xs:List a'} {us:List Value},a8 w Z s ι xs us→us.length=xs.length
 | [],us,h=>by simp only [a8] at h;rw [h];rfl
 | x :: xs,us,h=>by
  simp only [a8] at h
  obtain ⟨u,aV,rfl,h1,h2⟩:=h
  simp [a8.len h2]
theorem CW:∀ {t:aa} {m:bg} {x:t.D} {vs us:List Value} {F:ag},t.an w Z m x vs F→f' (dD t vs :: us)=f' us
 | .int k,_,_,_,_,_,h=>by simp only [aa.an] at h;subst h;rfl
 | .bool,_,_,_,_,_,h=>by simp only [aa.an] at h;subst h;rfl
 | .str,_,_,_,_,_,h=>by simp only [aa.an] at h;obtain ⟨b,rfl,_⟩:=h;rfl
 | .raw,_,_,_,_,_,h=>by simp only [aa.an] at h;obtain ⟨rfl,_,_,_,rfl⟩:=h;rfl
 | .sl t,.O e,_,_,_,_,h=>by simp only [aa.an] at h;obtain ⟨A,c,rfl,_⟩:=h;rfl
 | .sl t,.R,_,_,_,_,h=>by simp only [aa.an] at h;obtain ⟨A,c,rfl,_⟩:=h;rfl
 | .sl t,.S _,_,_,_,_,h=>by simp only [aa.an] at h;obtain ⟨A,c,rfl,_⟩:=h;rfl
 | .st aj,_,_,_,_,_,_=>rfl
theorem r5{key:Nat} : ∀(ps:List bt) (x:(bt.ins ps).D) (eC:List Value) (F:ag),gm w Z key ps x eC F→eC.length=ps.length
 | [],x,eC,F,h=>by rw [show eC=[] from h];rfl
 | .fn _ _ :: ps,x,eC,F,h=>by obtain ⟨a,b,aV,rfl,_,h2⟩:=h;simp [r5 ps x aV F h2]
 | .val _ _ :: ps,x,eC,F,h=>by obtain ⟨v,aV,G,H,rfl,_,h2,_⟩:=h;simp [r5 ps _ _ _ h2]
 | .gZ _ :: ps,x,eC,F,h=>by obtain ⟨v,aV,G,H,rfl,_,h2,_⟩:=h;simp [r5 ps _ _ _ h2]
 | .gI _ _ :: ps,x,eC,F,h=>by obtain ⟨v,aV,G,H,rfl,_,h2,_⟩:=h;simp [r5 ps _ _ _ h2]
 | .ref _ :: ps,x,eC,F,h=>by obtain ⟨b,o,v,aV,rfl,_,_,_,h2⟩:=h;simp [r5 ps _ _ _ h2]
 | .mut _ _ _ :: ps,x,eC,F,h=>by obtain ⟨b,o,v,aV,G,H,rfl,_,_,_,h2,_⟩:=h;simp [r5 ps _ _ _ h2]
theorem a8.split:∀ {q:List a'} {l k:List Value},a8 w Z s ι q (l++k)→a8 w Z s ι (q.take l.length) l∧a8 w Z s ι (q.drop l.length) k
 | q,[],k,h=>by simp only [List.length_nil,List.take_zero,List.drop_zero,a8];exact⟨trivial,h⟩
 | [],u :: l,k,h=>by simp [a8] at h
 | v :: q,u :: l,k,h=>by
  simp only [List.cons_append,a8] at h
  obtain ⟨iK,us2,he,k1,k2⟩:=h
  injection he with e3 eH
  subst e3 eH
  obtain ⟨h1,h2⟩:=a8.split (q:=q) (l:=l) (k:=k) k2
  refine⟨?_,?_⟩
  ·simp only [List.length_cons,List.take_succ_cons,a8];exact⟨_,l,rfl,k1,h1⟩
  ·simpa only [List.length_cons,List.drop_succ_cons] using h2
theorem xx{key:Nat} : ∀(ps:List bt) (x:(bt.ins ps).D) (eC us:List Value) (F:ag) (q:List a'),CV ps=true→gm w Z key ps x eC F→eC=us++f' us→a8 w Z s ι q eC→a8 w Z s ι (mb key ps q) us
 | [],x,eC,us,F,q,_,hA,gA,hq=>by
  have hA:eC=[]:=hA
  subst hA
  obtain ⟨rfl,_⟩:=List.append_eq_nil_iff.1 gA.symm
  cases q <;> simp only [mb,a8]
 | .fn lR oL :: ps,x,eC,us,F,q,cw,hA,gA,hq=>by
  obtain ⟨a,b,aV,rfl,⟨ha,hb⟩,h2⟩:=hA
  have hl:=r5 _ _ _ _ h2
  have ari:=Nat.eq_of_beq_eq_true cw
  cases us with
  | nil=>cases gA
  | cons u us =>
   injection gA with e1 e2
   subst e1
   have hz:us=[]:=by
    have:=congrArg List.length e2
    simp [f'] at this
    exact List.length_eq_zero_iff.1 (by omega)
   subst hz
   simp only [f',List.nil_append,List.append_nil] at e2
   subst e2
   cases q with
   | nil=>simp [a8] at hq
   | cons v q =>
    simp only [a8] at hq
    obtain ⟨iK,us2,he,_,k2⟩:=hq
    injection he with e3 eH
    subst e3 eH
    obtain ⟨k3,bf⟩:=a8.split (l:=a.toList) (k:=b.toList) k2
    simp only [mb,a8,aT]
    rw [Array.length_toList,ha] at k3 bf
    exact⟨_,[],rfl,⟨a.toList,b.toList,by simp,k3,bf⟩,rfl⟩
 | .val t m :: ps,x,eC,us,F,q,cw,hA,gA,hq=>by
  obtain ⟨vs,aV,G,H,rfl,h1,h2,_⟩:=hA
  cases us with
  | nil=>cases gA
  | cons u us =>
   injection gA with e1 e2
   subst e1
   rw [CW h1] at e2
   cases q with
   | nil=>simp [a8] at hq
   | cons v q =>
    simp only [a8] at hq
    obtain ⟨iK,us2,he,k1,k2⟩:=hq
    injection he with e3 eH
    subst e3 eH
    simp only [mb,a8]
    exact⟨_,us,rfl,k1,xx ps x.2 _ us _ q cw h2 e2 k2⟩
 | .gZ t :: ps,x,eC,us,F,q,cw,hA,gA,hq=>by
  obtain ⟨vs,aV,G,H,rfl,h1,h2,_⟩:=hA
  cases us with
  | nil=>cases gA
  | cons u us =>
   injection gA with e1 e2
   subst e1
   rw [CW h1] at e2
   cases q with
   | nil=>simp [a8] at hq
   | cons v q =>
    simp only [a8] at hq
    obtain ⟨iK,us2,he,k1,k2⟩:=hq
    injection he with e3 eH
    subst e3 eH
    simp only [mb,a8]
    exact⟨_,us,rfl,k1,xx ps x.2 _ us _ q cw h2 e2 k2⟩
 | .gI t m :: ps,x,eC,us,F,q,cw,hA,gA,hq=>by
  obtain ⟨vs,aV,G,H,rfl,h1,h2,_⟩:=hA
  cases us with
  | nil=>cases gA
  | cons u us =>
   injection gA with e1 e2
   subst e1
   rw [CW h1] at e2
   cases q with
   | nil=>simp [a8] at hq
   | cons v q =>
    simp only [a8] at hq
    obtain ⟨iK,us2,he,k1,k2⟩:=hq
    injection he with e3 eH
    subst e3 eH
    simp only [mb,a8]
    exact⟨_,us,rfl,k1,xx ps x.2 _ us _ q cw h2 e2 k2⟩
 | .ref t :: ps,x,eC,us,F,q,cw,hA,gA,hq=>by
  obtain ⟨b,o,vs,aV,rfl,_,_,_,h2⟩:=hA
  cases us with
  | nil=>cases gA
  | cons u us =>
   injection gA with e1 e2
   subst e1
   have e2:aV=us++f' us:=e2
   cases q with
   | nil=>simp [a8] at hq
   | cons v q =>
    simp only [a8] at hq
    obtain ⟨iK,us2,he,k1,k2⟩:=hq
    injection he with e3 eH
    subst e3 eH
    simp only [mb,a8]
    exact⟨_,us,rfl,k1,xx ps x.2 _ us _ q cw h2 e2 k2⟩
 | .mut t m m' :: ps,x,eC,us,F,q,cw,hA,gA,hq=>by
  obtain ⟨b,o,vs,aV,G,H,rfl,_,_,_,h2,_⟩:=hA
  cases us with
  | nil=>cases gA
  | cons u us =>
   injection gA with e1 e2
   subst e1
   have e2:aV=us++f' us:=e2
   cases q with
   | nil=>simp [a8] at hq
   | cons v q =>
    simp only [a8] at hq
    obtain ⟨iK,us2,he,k1,k2⟩:=hq
    injection he with e3 eH
    subst e3 eH
    simp only [mb,a8]
    exact⟨_,us,rfl,k1,xx ps x.2 _ us _ q cw h2 e2 k2⟩
theorem TX{f key:Nat}{fn:Func}{body:Code}{e:Entry}{gS:Nat→Option bz}(bK:jE P E)(hf:P.funcs[f]?=some fn)(hb:fn.body=some body)(j1:(fn.name == "runtime.NumGoroutine")=false)
  (hn:Nat.beq E.n fn.ntmps=true) (CX:CV e.ps=true) (hlen:Nat.ble e.ps.length fn.ntmps=true) (hu:K2 body=true)
  (hF:∀x r,e.f x=some r→∃m,xv E fn body gS key e (od E gS body (pc E fn e) m) x=some r):Sound P f key e:=by
 refine⟨⟨fn,hf,by rw [hb];rfl,j1⟩,fun w Z F x us r hZ Kq hap hA hx=>?_⟩
 obtain ⟨m,hm⟩:=hF x r hx
 unfold xv at hm
 obtain ⟨st,hst,hm⟩:=bj hm
 unfold TU at hst
 obtain ⟨q,hq,hst⟩:=bj hst
 obtain rfl:=aX hst
 have qa:=r5 _ _ _ _ hA
 rw [List.length_append] at qa
 have hle:=Nat.le_of_ble_eq_true hlen
 let a0:Act := { tmps:=us.toArray++Array.replicate (fn.ntmps-us.toArray.size) undef,defers:=[] }
 have hsz:a0.tmps.size=fn.ntmps:=by simp [a0];omega
 have aeO:Inv w F Z ⟨fn.ntmps,[],[]⟩ ⟨fun _=>.aw,fun _=>.none,[]⟩ a0 w (fun _=>⟨none,0,ag.none⟩) Z:=Inv.start hZ hsz rfl
 obtain ⟨dw,i1,held,cH,m6⟩:=ui e.ps x (us++f' us) _ _ _ F q hq aeO hA ⟨fun b o h=>⟨.inl h,Kq b o h⟩,fun _ h=>h.elim,hap⟩
 have hinv:Inv w F Z ⟨fn.ntmps,us++f' us,[]⟩ ⟨fun k=>(mb key e.ps q.1).getD k .aw,q.2.1.o,q.1⟩ a0 w dw Z:=by
  have hm:eA w Z q.2.1 dw w Z ⟨fun k=>(mb key e.ps q.1).getD k .aw,q.2.1.o,q.1⟩ dw:=Jl rfl
  exact⟨i1.ext,i1.dC,i1.rE,i1.iC,fun id=>hO.move hm (id:=id) (fun _=>⟨rfl,rfl⟩) rfl (i1.fP id),i1.own,i1.apart,i1.cW,
   fun k=>by
    show aT w Z _ dw ((mb key e.ps q.1).getD k .aw) ((us.toArray++Array.replicate (fn.ntmps-us.toArray.size) undef).getD k undef)
    rw [aeN]
    exact(a8.move hm (xx e.ps x _ us F q.1 CX hA rfl cH)).getD k,hsz,a8.move hm cH,fun e he=>by simp at he,rfl⟩
 intro cs
 let cJ:Frame := { (default:Frame) with fn:=f,kind:=.normal }
 have aeP:Frame.enter P f us.toArray .normal=cJ.at a0 [.code body]:=by
  simp [Frame.enter,Frame.at,hf,hb,cJ,a0]
 obtain ⟨cE,b6,w',⟨oe,aq,hfin,bh,Z',c6⟩,TY⟩:=TV (n:=⟨fn.ntmps,us++f' us,[]⟩) bK (Nat.eq_of_beq_eq_true hn) rfl hu m 100000 false [.code body] _ a0 w (fun _ h=>h) hm ⟨dw,Z,hinv⟩ cJ cs
 unfold pc at hfin
 obtain ⟨vs,hvs,hfin⟩:=bj hfin
 obtain ⟨dk,hr1,iG⟩:=aeM bK.ty c6 hvs
 obtain ⟨s2,dE,bJ,jD,eW,Cu,KA,S5⟩:=xr e.rs vs dk aq Z' r hfin c6 c6.ghost hr1
 have CY:Ends w Z F e us r (n5 dk) w':=by
  refine⟨dk,bJ,dE,rfl,c6.ext,jD.rE,fun b o hz=>?_,fun b o hf=>?_,Cu.cW,KA⟩
  ·rcases jD.dC b o hz with h1 | h1 | h1
   ·exact .inl h1
   ·exact .inr ⟨.inl h1,jD.iC b o hz⟩
   ·exact .inr ⟨.inr h1,jD.iC b o hz⟩
  ·exact Cu.own b o hf
 rw [aeP]
 rcases oe with rfl | ⟨k,rfl⟩
 ·exact⟨.returned (n5 dk),w',_,⟨_,rfl,CY⟩,Steps.trans TY (.one step_end),rfl,rfl,c6.defers,rfl,fn,hf,iG⟩
 ·exact⟨.returned (n5 dk),w',_,⟨_,rfl,CY⟩,Steps.trans TY (.one step_ret),rfl,rfl,c6.defers,rfl,fn,hf,iG⟩
end
end Go.LM
namespace Go.LM
mutual
def aa.r6(P:Program):aa→TypeId→Bool
 | .int _,_=>true
 | .bool,_=>true
 | .str,_=>true
 | .sl _,_=>false
 | .raw,_=>false
 | .st aj,id => !P.stoodInHeld id&&match P.underlying id with | some (.struct cn)=>aj.CZ P cn.toList | _=>false
def az.CZ(P:Program):az→List Field→Bool
 | .nil,_=>true
 | .cons t aj,cn=>match cn with
  | f :: lg=>decide (f.name ≠ "_")&&t.r6 P f.type&&aj.CZ P lg
  | []=>false
end
mutual
def aa.deep:aa→Nat
 | .st aj=>aj.deep+1
 | _=>1
def az.deep:az→Nat
 | .nil=>0
 | .cons t aj=>t.deep+aj.deep
end
section
variable{P:Program}{w:World}{Z:ag}{s:al}{ι : Nat→bC}
theorem aeQ{k:IntKind}{cs ds:List bb}{r:Bool×List bb×List bb}(h:(aa.int k).cmp cs ds=some r):∃x a y b,cs=.int k x :: a∧ds=.int k y :: b∧r=(x==y,a,b):=by
 cases cs with
 | nil=>simp [aa.cmp] at h
 | cons c a=>cases ds with
  | nil=>cases c <;> simp [aa.cmp] at h
  | cons d b =>
   cases c <;> cases d <;> simp only [aa.cmp] at h <;> first | (cases h;done) | skip
   rename_i k1 x k2 y
   cases hk:(Nat.beq (dj k1) (dj k)&&Nat.beq (dj k2) (dj k))
   ·rw [hk] at h;cases h
   rw [hk] at h
   simp only [Bool.and_eq_true] at hk
   obtain rfl:=tw (Nat.eq_of_beq_eq_true hk.1)
   obtain rfl:=tw (Nat.eq_of_beq_eq_true hk.2)
   exact⟨x,a,y,b,rfl,rfl,(aX h).symm⟩
theorem aeR{cs ds:List bb}{r:Bool×List bb×List bb}(h:aa.bool.cmp cs ds=some r):∃x a y b,cs=.bool x :: a∧ds=.bool y :: b∧r=(x==y,a,b):=by
 cases cs with
 | nil=>simp [aa.cmp] at h
 | cons c a=>cases ds with
  | nil=>cases c <;> simp [aa.cmp] at h
  | cons d b =>
   cases c <;> try (simp [aa.cmp] at h;done)
   cases d <;> try (simp [aa.cmp] at h;done)
   simp only [aa.cmp] at h
   exact⟨_,a,_,b,rfl,rfl,(aX h).symm⟩
theorem aeS{cs ds:List bb}{r:Bool×List bb×List bb}(h:aa.str.cmp cs ds=some r):∃x a y b,cs=.str x :: a∧ds=.str y :: b∧r=(bB x y,a,b):=by
 cases cs with
 | nil=>simp [aa.cmp] at h
 | cons c a=>cases ds with
  | nil=>cases c <;> simp [aa.cmp] at h
  | cons d b =>
   cases c <;> try (simp [aa.cmp] at h;done)
   cases d <;> try (simp [aa.cmp] at h;done)
   simp only [aa.cmp] at h
   exact⟨_,a,_,b,rfl,rfl,(aX h).symm⟩
theorem K8{c c':bb}{a b:List bb}{us vs:List Value}(h1:bF w Z s ι (c :: a) us)(h2:bF w Z s ι (c' :: b) vs) :
  ∃u us2 v vs2,us=u :: us2∧vs=v :: vs2∧cc w Z s ι c u∧cc w Z s ι c' v∧bF w Z s ι a us2∧bF w Z s ι b vs2:=by
 cases us with
 | nil=>exact h1.elim
 | cons u us=>cases vs with
  | nil=>exact h2.elim
  | cons v vs=>exact⟨u,us,v,vs,rfl,rfl,h1.1,h2.1,h1.2,h2.2⟩
mutual
theorem aa.zu:∀(t:aa) (id:TypeId) (d:Nat) {cs ds:List bb} {r:Bool×List bb×List bb} {us vs:List Value},t.ok P id→t.r6 P id=true→t.deep≤d→t.cmp cs ds=some r →
  bF w Z s ι cs us→bF w Z s ι ds vs→∃us1 us2 vs1 vs2,us=us1++us2∧vs=vs1++vs2∧us1.length=t.size∧vs1.length=t.size∧bF w Z s ι r.2.1 us2∧bF w Z s ι r.2.2 vs2 ∧
   (Op.equalIn d id (dD t us1) (dD t vs1)).run P w=.ok r.1 w
 | .int k,id,0,cs,ds,r,us,vs,ho,hc,ah,h,h1,h2=>by simp [aa.deep] at ah
 | .int k,id,d+1,cs,ds,r,us,vs,ho,hc,ah,h,h1,h2=>by
  simp only [aa.ok] at ho
  obtain ⟨x,a,y,b,rfl,rfl,rfl⟩:=aeQ h
  obtain ⟨u,us2,v,vs2,rfl,rfl,e1,e2,g1,g2⟩:=K8 h1 h2
  simp only [cc] at e1 e2
  subst e1 e2
  exact⟨[_],us2,[_],vs2,rfl,rfl,rfl,rfl,g1,g2,run_equalIn_int w d id _ _ x y ho.1⟩
 | .bool,id,0,cs,ds,r,us,vs,ho,hc,ah,h,h1,h2=>by simp [aa.deep] at ah
 | .bool,id,d+1,cs,ds,r,us,vs,ho,hc,ah,h,h1,h2=>by
  simp only [aa.ok] at ho
  obtain ⟨x,a,y,b,rfl,rfl,rfl⟩:=aeR h
  obtain ⟨u,us2,v,vs2,rfl,rfl,e1,e2,g1,g2⟩:=K8 h1 h2
  simp only [cc] at e1 e2
  subst e1 e2
  exact⟨[_],us2,[_],vs2,rfl,rfl,rfl,rfl,g1,g2,run_equalIn_bool w d id x y ho.1⟩
 | .str,id,0,cs,ds,r,us,vs,ho,hc,ah,h,h1,h2=>by simp [aa.deep] at ah
 | .str,id,d+1,cs,ds,r,us,vs,ho,hc,ah,h,h1,h2=>by
  simp only [aa.ok] at ho
  obtain ⟨x,a,y,b,rfl,rfl,rfl⟩:=aeS h
  obtain ⟨u,us2,v,vs2,rfl,rfl,e1,e2,g1,g2⟩:=K8 h1 h2
  obtain ⟨wW,rfl,rfl⟩:=e1
  obtain ⟨wX,rfl,rfl⟩:=e2
  refine⟨[_],us2,[_],vs2,rfl,rfl,rfl,rfl,g1,g2,?_⟩
  rw [← R1]
  exact run_equalIn_string w d id wW wX ho.1
 | .raw,id,d,cs,ds,r,us,vs,ho,hc,ah,h,h1,h2=>by simp [aa.r6] at hc
 | .sl t,id,d,cs,ds,r,us,vs,ho,hc,ah,h,h1,h2=>by simp [aa.r6] at hc
 | .st aj,id,0,cs,ds,r,us,vs,ho,hc,ah,h,h1,h2=>by simp [aa.deep] at ah
 | .st aj,id,d+1,cs,ds,r,us,vs,ho,hc,ah,h,h1,h2=>by
  simp only [aa.ok] at ho
  obtain ⟨_,cn,hu,K9⟩:=ho
  simp only [aa.r6,Bool.and_eq_true,Bool.not_eq_true',hu] at hc
  simp only [aa.deep] at ah
  simp only [aa.cmp] at h
  obtain ⟨us1,us2,vs1,vs2,e1,e2,dn,eh,g1,g2,g3⟩:=az.zu aj cn.toList 0 d [] [] K9 hc.2 (by omega) h h1 h2 rfl rfl
  refine⟨us1,us2,vs1,vs2,e1,e2,dn,eh,g1,g2,?_⟩
  have kH:P.fieldsOf id=cn:=by simp [Program.fieldsOf,hu]
  show(Op.equalIn (d+1) id (.agg us1.toArray) (.agg vs1.toArray)).run P w=_
  rw [run_equalIn_struct w d id us1.toArray vs1.toArray (by rw [kH];exact hu) hc.1,kH]
  have:=g3 [] []
  simpa using this
theorem az.zu:∀(aj:az) (cn:List Field) (off d:Nat) {cs ds:List bb} {r:Bool×List bb×List bb} {us vs:List Value} (pre ur:List Value),aj.okF P cn off→aj.CZ P cn=true→aj.deep≤d→aj.cmp cs ds=some r →
  bF w Z s ι cs us→bF w Z s ι ds vs→pre.length=off→ur.length=off→∃us1 us2 vs1 vs2,us=us1++us2∧vs=vs1++vs2∧us1.length=aj.size∧vs1.length=aj.size∧bF w Z s ι r.2.1 us2∧bF w Z s ι r.2.2 vs2 ∧
   ∀du zv:List Value,(Op.eqFields d (pre++us1++du).toArray (ur++vs1++zv).toArray cn).run P w=.ok r.1 w
 | .nil,cn,off,d,cs,ds,r,us,vs,pre,ur,ho,hc,ah,h,h1,h2,av,nX=>by
  simp only [az.okF] at ho
  subst ho
  obtain rfl:=aX h
  exact⟨[],us,[],vs,rfl,rfl,rfl,rfl,h1,h2,fun _ _=>by simp only [Op.eqFields];exact run_pure _ _⟩
 | .cons t aj,cn,off,d,cs,ds,r,us,vs,pre,ur,ho,hc,ah,h,h1,h2,av,nX=>by
  simp only [az.okF] at ho
  obtain ⟨f,lg,rfl,fk,l8,jX⟩:=ho
  simp only [az.CZ,Bool.and_eq_true,decide_eq_true_eq] at hc
  simp only [az.deep] at ah
  simp only [az.cmp] at h
  obtain ⟨bw,k1,h⟩:=bj h
  obtain ⟨b9,k2,h⟩:=bj h
  obtain rfl:=aX h
  obtain ⟨a1,a2,iF,rJ,rfl,rfl,dn,eh,g1,g2,g3⟩:=aa.zu t f.type d l8 hc.1.2 (by omega) k1 h1 h2
  obtain ⟨a3,a4,qd,BW,rfl,rfl,nZ,oU,g4,g5,g6⟩:=az.zu aj lg (off+t.size) d (pre++a1) (ur++iF) jX hc.2 (by omega) k2 g1 g2 (by simp;omega) (by simp;omega)
  refine⟨a1++a3,a4,iF++qd,BW,by simp,by simp,by simp [az.size];omega,by simp [az.size];omega,g4,g5,fun du zv=>?_⟩
  have dQ:=JH (P:=P) (w:=w) l8 (cs:=pre++(a1++a3)++du) (k:=off) (by simp;omega)
  have e5:=JH (P:=P) (w:=w) l8 (cs:=ur++(iF++qd)++zv) (k:=off) (by simp;omega)
  have cP:((pre++(a1++a3)++du).drop off).take t.size=a1:=by
   rw [← av,← dn];simp
  have dU:((ur++(iF++qd)++zv).drop off).take t.size=iF:=by
   rw [← nX,← eh];simp
  rw [cP] at dQ
  rw [dU] at e5
  simp only [Op.eqFields]
  rw [if_pos hc.1.1,run_bind,fk,dQ]
  simp only
  rw [run_bind,e5]
  simp only
  rw [run_bind,g3]
  simp only
  cases hr:bw.1
  ·simp only [Bool.not_false,if_true,Bool.false_and];exact run_pure _ _
  ·simp only [Bool.not_true,Bool.false_eq_true,if_false,Bool.true_and]
   have:=g6 du zv
   simpa using this
end
def tu(P:Program):List (Nat×aa)→List Nat→Bool
 | _,[]=>true
 | tab,k :: l=>(match P.underlying k with | some (.struct _)=>true | _=>false) && !P.eqGuardType P.depth k&&(tab.all fun x => !Nat.beq x.1 k||x.2.r6 P k&&Nat.ble x.2.deep 10000)&&tu P tab l
theorem TZ{tab:List (Nat×aa)}{k:Nat} : ∀ {l:List Nat},tu P tab l=true→k∈l→(∃cn,P.underlying k=some (.struct cn))∧P.eqGuardType P.depth k=false∧∀T,(k,T)∈tab→T.r6 P k=true∧T.deep≤10000
 | x :: l,h,hm=>by
  simp only [tu,Bool.and_eq_true,Bool.not_eq_true'] at h
  rcases List.mem_cons.1 hm with rfl | hm
  ·refine⟨?_,h.1.1.2,fun T bX=>?_⟩
   ·have h1:=h.1.1.1
    split at h1
    ·rename_i cn hk;exact⟨cn,hk⟩
    ·cases h1
   ·have h2:=List.all_eq_true.1 h.1.2 _ bX
    rw [Nat.beq_refl] at h2
    simp only [Bool.not_true,Bool.false_or,Bool.and_eq_true] at h2
    exact⟨h2.1,Nat.le_of_ble_eq_true h2.2⟩
  ·exact TZ h.2 hm
theorem aeT{T:aa}{k:Nat}(ho:T.ok P k)(hu:∃cn,P.underlying k=some (.struct cn))(aD:P.eqGuardType P.depth k=false)(hc:T.r6 P k=true)(ah:T.deep≤10000)(op:BinOp)(xo yo:Operand)(w:World)(Z:ag)(s:al)(ι : Nat→bC)
  (cs ds:List bb) (us vs:List Value) (q:Bool) (h1:bF w Z s ι cs us) (h2:bF w Z s ι ds vs) (h:T.cmp cs ds=some (q,[],[])) :
  (eqGuard op k xo yo (.agg us.toArray) (.agg vs.toArray)).run P w=.ok () w∧(op=.eql→(binOp op k (.agg us.toArray) (.agg vs.toArray)).run P w=.ok (.bool q) w) ∧
   (op=.neq→(binOp op k (.agg us.toArray) (.agg vs.toArray)).run P w=.ok (.bool (!q)) w):=by
 obtain ⟨us1,us2,vs1,vs2,rfl,rfl,dn,eh,g1,g2,g3⟩:=aa.zu T k 10000 ho hc ah h h1 h2
 have fj:us2=[]:=by cases us2 with | nil=>rfl | cons=>exact g1.elim
 have la:vs2=[]:=by cases vs2 with | nil=>rfl | cons=>exact g2.elim
 subst fj la
 have bX:∃aj,T=.st aj:=by
  obtain ⟨cn,hu⟩:=hu
  cases T with
  | st aj=>exact⟨aj,rfl⟩
  | int=>simp only [aa.ok] at ho;rw [hu] at ho;cases ho.1
  | bool=>simp only [aa.ok] at ho;rw [hu] at ho;cases ho.1
  | str=>simp only [aa.ok] at ho;rw [hu] at ho;cases ho.1
  | sl t=>simp only [aa.ok] at ho;obtain ⟨_,e,he,_⟩:=ho;rw [hu] at he;cases he
  | raw=>simp only [aa.ok] at ho;obtain ⟨_,e,he⟩:=ho;rw [hu] at he;cases he
 obtain ⟨aj,rfl⟩:=bX
 simp only [List.append_nil]
 have heq:(Op.equal k (.agg us1.toArray) (.agg vs1.toArray)).run P w=.ok q w:=g3
 refine⟨?_,?_,?_⟩
 ·unfold eqGuard
  cases op <;> try rfl
  all_goals
   have aeU:∀w:World,(program:Sem Program).run P w=.ok P w:=fun _=>rfl
   simp only [Bool.not_true,Bool.false_eq_true,if_false,run_bind,aeU,aD,Bool.not_false,if_true]
   rfl
 ·rintro rfl
  show(do pure (.bool (← Op.equal k _ _)):Sem Value).run P w=_
  rw [run_bind,heq];rfl
 ·rintro rfl
  show(do pure (.bool (!(← Op.equal k _ _))):Sem Value).run P w=_
  rw [run_bind,heq];rfl
end
end Go.LM
namespace Go.LM
def zeroV:Value→Value→Bool
 | .int k x,.int k' y=>Nat.beq (dj k) (dj k')&&decide (x=y)
 | .bool a,.bool b=>a==b
 | .string a,.string b=>decide (a.data.toList=b.data.toList)
 | .slice none 0 0,.slice none 0 0=>true
 | _,_=>false
theorem T0{u v:Value}(h:zeroV u v=true):u=v:=by
 unfold zeroV at h
 split at h
 ·simp only [Bool.and_eq_true,decide_eq_true_eq] at h
  rw [tw (Nat.eq_of_beq_eq_true h.1),h.2]
 ·rw [eq_of_beq h]
 ·rename_i a b
  have h:=of_decide_eq_true h
  obtain ⟨⟨a⟩⟩:=a
  obtain ⟨⟨b⟩⟩:=b
  simp only at h
  rw [h]
 ·rfl
 ·cases h
def C0:List Value→List Value→Bool
 | [],[]=>true
 | u :: us,v :: vs=>cond (zeroV u v) (C0 us vs) false
 | _,_=>false
theorem T1:∀ {us vs:List Value},C0 us vs=true→us=vs
 | [],[],_=>rfl
 | u :: us,v :: vs,h=>by
  unfold C0 at h
  cases h1:zeroV u v
  ·rw [h1] at h;cases h
  ·rw [h1] at h;rw [T0 h1,T1 h]
 | [],_ :: _,h=>by cases h
 | _ :: _,[],h=>by cases h
def K_(t:aa)(v:Value):Bool :=
 match t,v with
 | .st aj,.agg cs=>C0 cs.toList aj.cI
 | .st _,_=>false
 | .sl _,v=>zeroV v (.slice none 0 0)
 | t,v=>zeroV v (t.cI.headD undef)
theorem aeV{t:aa}{v:Value}(h:K_ t v=true):v=dD t t.cI:=by
 cases t with
 | st aj =>
  cases v <;> simp only [K_] at h <;> try (cases h;done)
  rename_i cs
  show Value.agg cs=.agg aj.cI.toArray
  rw [← T1 h]
 | _=>exact T0 h
def r7(P:Program)(id:TypeId)(t:aa):Bool :=
 match P.info? id with
 | some i=>Nat.beq i.size t.size&&(match i.zero with | some v=>K_ t v | none=>false)&&Nat.ble i.bytes 2048
 | none=>false
theorem xy{P:Program}{id:TypeId}{t:aa}(h:r7 P id t=true):lf P id t:=by
 unfold r7 at h
 cases hi:P.info? id with
 | none=>rw [hi] at h;cases h
 | some i =>
  rw [hi] at h
  simp only [Bool.and_eq_true] at h
  refine⟨i,hi,Nat.eq_of_beq_eq_true h.1.1,?_,Nat.le_of_ble_eq_true h.2⟩
  have h2:=h.1.2
  cases hz:i.zero with
  | none=>rw [hz] at h2;cases h2
  | some v=>rw [hz] at h2;rw [aeV h2]
mutual
def aa.okB(P:Program):aa→TypeId→Bool
 | .int k,id=>(match P.underlying id with | some (.int k')=>Nat.beq (dj k') (dj k) | _=>false)&&r7 P id (.int k)
 | .bool,id=>(match P.underlying id with | some .bool=>true | _=>false)&&r7 P id .bool
 | .str,id=>(match P.underlying id with | some .string=>true | _=>false)&&r7 P id .str
 | .raw,id=>r7 P id .raw&&match P.underlying id with | some (.slice _)=>true | _=>false
 | .sl t,id=>r7 P id (.sl t)&&match P.underlying id with | some (.slice e)=>t.okB P e | _=>false
 | .st aj,id=>r7 P id (.st aj)&&match P.underlying id with | some (.struct cn)=>aj.xz P cn.toList 0 | _=>false
def az.xz(P:Program):az→List Field→Nat→Bool
 | .nil,cn,_=>cn.isEmpty
 | .cons t aj,cn,off=>match cn with
  | f :: lg=>Nat.beq f.offset off&&t.okB P f.type&&aj.xz P lg (off+t.size)
  | []=>false
end
mutual
theorem aa.C1{P:Program} : ∀(t:aa) (id:TypeId),t.okB P id=true→t.ok P id
 | .int k,id,h=>by
  simp only [aa.okB,Bool.and_eq_true] at h
  refine⟨?_,xy h.2⟩
  have h1:=h.1
  split at h1
  ·rename_i k' hk;rw [hk,tw (Nat.eq_of_beq_eq_true h1)]
  ·cases h1
 | .bool,id,h=>by
  simp only [aa.okB,Bool.and_eq_true] at h
  refine⟨?_,xy h.2⟩
  have h1:=h.1
  split at h1
  ·rename_i hk;exact hk
  ·cases h1
 | .str,id,h=>by
  simp only [aa.okB,Bool.and_eq_true] at h
  refine⟨?_,xy h.2⟩
  have h1:=h.1
  split at h1
  ·rename_i hk;exact hk
  ·cases h1
 | .raw,id,h=>by
  simp only [aa.okB,Bool.and_eq_true] at h
  refine⟨xy h.1,?_⟩
  have h1:=h.2
  split at h1
  ·rename_i e hk;exact⟨e,hk⟩
  ·cases h1
 | .sl t,id,h=>by
  simp only [aa.okB,Bool.and_eq_true] at h
  refine⟨xy h.1,?_⟩
  have h1:=h.2
  split at h1
  ·rename_i e hk;exact⟨e,hk,aa.C1 t e h1⟩
  ·cases h1
 | .st aj,id,h=>by
  simp only [aa.okB,Bool.and_eq_true] at h
  refine⟨xy h.1,?_⟩
  have h1:=h.2
  split at h1
  ·rename_i cn hk;exact⟨cn,hk,az.T2 aj _ _ h1⟩
  ·cases h1
theorem az.T2{P:Program} : ∀(aj:az) (cn:List Field) (off:Nat),aj.xz P cn off=true→aj.okF P cn off
 | .nil,cn,off,h=>by
  simp only [az.xz,List.isEmpty_iff] at h
  exact h
 | .cons t aj,cn,off,h=>by
  cases cn with
  | nil=>simp [az.xz] at h
  | cons f cn =>
   simp only [az.xz,Bool.and_eq_true] at h
   exact⟨f,cn,rfl,Nat.eq_of_beq_eq_true h.1.1,aa.C1 t _ h.1.2,az.T2 aj _ _ h.2⟩
end
def xA:List (Nat×aa)→Nat→Option aa
 | [],_=>none
 | (k,t) :: l,i=>cond (Nat.beq k i) (some t) (xA l i)
def ts(P:Program):List (Nat×aa)→Bool
 | []=>true
 | (k,t) :: l=>t.okB P k&&ts P l
theorem K'{P:Program}{i:Nat}{T:aa} : ∀ {l:List (Nat×aa)},ts P l=true→xA l i=some T→T.ok P i
 | (k,t) :: l,h,hl=>by
  simp only [ts,Bool.and_eq_true] at h
  unfold xA at hl
  cases hb:Nat.beq k i
  ·rw [hb] at hl;exact K' h.2 hl
  ·rw [hb] at hl
   obtain rfl:=aX hl
   obtain rfl:=Nat.eq_of_beq_eq_true hb
   exact aa.C1 _ _ h.1
def uu:List Nat→Nat→Bool
 | [],_=>false
 | k :: l,i=>cond (Nat.beq k i) true (uu l i)
def tt(P:Program):List Nat→Bool
 | []=>true
 | k :: l=>(match P.underlying k with | some (.pointer _)=>true | _=>false)&&tt P l
theorem T3{P:Program}{i:Nat} : ∀ {l:List Nat},tt P l=true→uu l i=true→∃e,P.underlying i=some (.pointer e)
 | k :: l,h,hl=>by
  simp only [tt,Bool.and_eq_true] at h
  unfold uu at hl
  cases hb:Nat.beq k i
  ·rw [hb] at hl;exact T3 h.2 hl
  ·obtain rfl:=Nat.eq_of_beq_eq_true hb
   have h1:=h.1
   split at h1
   ·rename_i e hk;exact⟨e,hk⟩
   ·cases h1
def C2:List (Nat×Entry)→Nat→Nat→Option Entry
 | [],_,_=>none
 | (k,e) :: l,f,key=>cond (Nat.blt f 1000000&&Nat.beq k (f+1000000*key)) (some e) (C2 l f key)
def qs(P:Program):List (Nat×Entry)→Prop
 | []=>True
 | (k,e) :: l=>hK P (k % 1000000) (k / 1000000) e∧qs P l
theorem T4{P:Program}{f key:Nat}{e:Entry} : ∀ {l:List (Nat×Entry)},qs P l→C2 l f key=some e→hK P f key e
 | (k,gu) :: l,h,hl=>by
  unfold C2 at hl
  cases hb:(Nat.blt f 1000000&&Nat.beq k (f+1000000*key))
  ·rw [hb] at hl;exact T4 h.2 hl
  ·rw [hb] at hl
   obtain rfl:=aX hl
   simp only [Bool.and_eq_true] at hb
   have h1:=hb.1
   rw [Nat.blt_eq] at h1
   obtain rfl:=Nat.eq_of_beq_eq_true hb.2
   have h2:=h.1
   rw [show(f+1000000*key) % 1000000=f by omega,show(f+1000000*key) / 1000000=key by omega] at h2
   exact h2
def T5(n:Nat)(tab:List (Nat×aa))(lQ eqs:List Nat)(fns:List (Nat×Entry)):Env:=⟨n,xA tab,uu eqs,uu lQ,C2 fns⟩
theorem T6{i:Nat} : ∀ {l:List Nat},uu l i=true→i∈l
 | k :: l,h=>by
  unfold uu at h
  cases hb:Nat.beq k i
  ·rw [hb] at h;exact List.mem_cons_of_mem _ (T6 h)
  ·rw [Nat.eq_of_beq_eq_true hb];exact List.mem_cons_self
theorem T7{i:Nat}{T:aa} : ∀ {l:List (Nat×aa)},xA l i=some T→(i,T)∈l
 | (k,t) :: l,hl=>by
  unfold xA at hl
  cases hb:Nat.beq k i
  ·rw [hb] at hl;exact List.mem_cons_of_mem _ (T7 hl)
  ·rw [hb] at hl
   obtain rfl:=aX hl
   rw [Nat.eq_of_beq_eq_true hb]
   exact List.mem_cons_self
theorem T8{P:Program}{n:Nat}{tab:List (Nat×aa)}{lQ eqs:List Nat}{fns:List (Nat×Entry)}(ht:ts P tab=true)(av:tt P lQ=true)(he:tu P tab eqs=true)(hf:qs P fns)(hm:P.follows .mixedOrders=true):jE P (T5 n tab lQ eqs fns):=by
 refine⟨⟨fun id T h=>K' ht h,fun id h=>T3 av h⟩,fun id T h bX=>?_,fun f key e h=>T4 hf h,hm⟩
 obtain ⟨h1,h2,h3⟩:=TZ he (T6 h)
 obtain ⟨h4,a7⟩:=h3 T (T7 bX)
 exact aeT (K' ht bX) h1 h2 h4 a7
@[irreducible] def aK:Nat:=18446744073709551616
end Go.LM
namespace Go.LM
open Go.ChangeShapes Go.WideShapes Go.ChangeAt Go.RowKit
open Go.ChangeMaps (open_string shut_string)
mutual
def aa.dH:(t:aa)→t.D→Prop
 | .int k,x=>(Lit.int k x).wf=true
 | .bool,_=>True
 | .str,x=>x.length≤maxLen
 | .raw,_=>True
 | .sl t,xs=>xs.length≤maxLen∧∀y,y∈xs→t.dH y
 | .st aj,x=>aj.dH x
def az.dH:(aj:az)→aj.D→Prop
 | .nil,_=>True
 | .cons t aj,x=>t.dH x.1∧aj.dH x.2
end
mutual
def aa.na:aa→Bool
 | .sl t=>Nat.blt 0 t.size&&t.na
 | .raw=>false
 | .st aj=>aj.na
 | _=>true
def az.na:az→Bool
 | .nil=>true
 | .cons t aj=>t.na&&aj.na
end
def qt:(ps:List bt)→(bt.ins ps).D→Prop
 | [],_=>True
 | .fn _ _ :: l,x=>qt l x
 | .val t _ :: l,x=>t.dH x.1∧qt l x.2
 | .gZ t :: l,x=>t.dH x.1∧qt l x.2
 | .gI t _ :: l,x=>t.dH x.1∧qt l x.2
 | .ref t :: l,x=>t.dH x.1∧qt l x.2
 | .mut t _ _ :: l,x=>t.dH x.1∧qt l x.2
def La:(rs:List cO)→(aj:az)→(cO.outs rs aj).D→Prop
 | [.val .bool .R],_,r=>r.1=true
 | _,_,_=>False
section
variable{H:Type}{enc:TypeId×Value→H}{P:Program}{w W W':World}{base:Nat}{spare:Nat→Bool}{held:Bool}{fuel:Nat}
def Old(w:World):ag:=fun b _=>b<w.heap.size
theorem aeW{a:Addr}{v:Value}(h:w.cell? a=some v):a.block<w.heap.size:=by
 rcases Nat.lt_or_ge a.block w.heap.size with h1 | h1
 ·exact h1
 ·simp [World.cell?,Array.getElem?_eq_none h1] at h
theorem Lb{t:aa}{id:TypeId}(h:t.ok P id):P.cellsOf id=t.size:=by
 obtain ⟨i,h1,h2,_⟩:=h.info
 unfold Program.cellsOf
 rw [h1]
 exact h2
theorem T9{a:Addr}{k:Nat}{cs:List Value}(h:w.cells? base a k=some cs):cs.length=k∧∀i v,cs[i]?=some v→w.cell? (a.add i)=some v:=by
 unfold World.cells? at h
 split at h
 ·have hl:cs.length=k:=by
   have:=List.T_ h
   simpa using this
  refine⟨hl,fun i v hv=>?_⟩
  have hi:i<k:=by
   rw [← hl]
   exact(List.getElem?_eq_some_iff.1 hv).1
  have:=Ua h i (by simpa using hi)
  rw [hv] at this
  simpa using this.symm
 ·cases h
where
 List.T_ {α β : Type} {f : α → Option β} : ∀ {l:List α} {r:List β},l.mapM f=some r→r.length=l.length
  | [],r,h=>by simp at h;subst h;rfl
  | x :: l,r,h=>by
   rw [List.mapM_cons] at h
   simp only [Option.bind_eq_bind,Option.bind_eq_some_iff] at h
   obtain ⟨y,h1,ys,h2,h3⟩:=h
   simp only [Option.pure_def,Option.some.injEq] at h3
   subst h3
   simp [List.T_ h2]
 Ua {α β : Type} {f : α → Option β} : ∀ {l:List α} {r:List β},l.mapM f=some r→∀i (hi:i<l.length),r[i]?=f l[i]
  | [],r,h,i,hi=>by simp at hi
  | x :: l,r,h,i,hi=>by
   rw [List.mapM_cons] at h
   simp only [Option.bind_eq_bind,Option.bind_eq_some_iff] at h
   obtain ⟨y,h1,ys,h2,h3⟩:=h
   simp only [Option.pure_def,Option.some.injEq] at h3
   subst h3
   cases i with
   | zero=>simp [h1]
   | succ i=>simpa using Ua h2 i (by simpa using hi)
mutual
theorem aa.read:∀(t:aa) (id:TypeId) (fuel:Nat) (cs:List Value) (x:DataW H×List MemPlace),t.ok P id→t.na=true→DataW.trod enc P w base spare held fuel id cs=some x →
  ∃y:t.D,t.an w (Old w) .R y cs ag.none∧t.dH y
 | .int k,id,fuel,cs,x,ho,av,h=>by
  obtain ⟨n,rfl,_,hw⟩:=DataW.trod_int (by simp only [aa.ok] at ho;exact ho.1) h
  exact⟨n,by simp only [aa.an],hw⟩
 | .bool,id,fuel,cs,x,ho,av,h=>by
  obtain ⟨n,rfl,_⟩:=DataW.trod_bool (by simp only [aa.ok] at ho;exact ho.1) h
  exact⟨n,by simp only [aa.an],trivial⟩
 | .str,id,fuel,cs,x,ho,av,h=>by
  obtain ⟨s,rfl,_,hs⟩:=DataW.trod_string (by simp only [aa.ok] at ho;exact ho.1) h
  exact⟨s.data.toList,by simp only [aa.an];exact⟨s,rfl,rfl⟩,by simp only [aa.dH,Array.length_toList];exact hs⟩
 | .raw,id,fuel,cs,x,ho,av,h=>by simp [aa.na] at av
 | .sl t,id,fuel,cs,x,ho,av,h=>by
  simp only [aa.ok] at ho
  obtain ⟨_,e,hu,Ub⟩:=ho
  simp only [aa.na,Bool.and_eq_true] at av
  have fX:0<t.size:=Nat.le_of_ble_eq_true av.1
  rcases DataW.trod_slice hu h with⟨rfl,_⟩ | ⟨a,len,cap,elems,rest,m,_,rfl,_,_,hl,hm,hlen,Uc,_,_⟩
  ·exact⟨[],by simp only [aa.an];exact⟨none,0,rfl,.inl trivial⟩,by simp [aa.dH,maxLen]⟩
  ·have hsz:P.cellsOf e=t.size:=Lb Ub
   rw [hsz] at Uc
   have Ud:∀i,i<len→∃cs' d,w.cells? base (a.add (i*t.size)) t.size=some cs'∧DataW.trod enc P w base spare held m e cs'=some d:=by
    intro i hi
    have h1:=Uc i hi
    have h2:∃d,elems[i]?=some d:=⟨_,List.getElem?_eq_getElem (by omega)⟩
    obtain ⟨d,h2⟩:=h2
    rw [h2] at h1
    obtain ⟨cs',h3,h4⟩:=bj h1
    exact⟨cs',d,h3,h4⟩
   have aeX:=fun(cs':List Value) (d:DataW H×List MemPlace)=>aa.read t e m cs' d Ub av.2
   have Lc:0<len→a.spot=none∧a.block<w.heap.size:=by
    intro hn
    obtain ⟨cs',d,h1,h2⟩:=Ud 0 hn
    obtain ⟨c1,gv⟩:=T9 h1
    have o2:=gv 0 cs'[0] (List.getElem?_eq_getElem (by omega))
    simp only [Nat.zero_mul,Addr.add,if_true] at o2
    exact⟨World.cell?_spot o2,aeW o2⟩
   have hrow:∀(n k:Nat),k+n≤len→∃xs:List t.D,xs.length=n∧Row w (fun y us _=>t.an w (Old w) .R y us ag.none) t.size xs a.block (a.off+k*t.size) ag.none∧(∀y,y∈xs→t.dH y):=by
    intro n
    induction n with
    | zero=>intro k _;exact⟨[],rfl,trivial,by simp⟩
    | succ n ih =>
     intro k hk
     obtain ⟨cs',d,h1,h2⟩:=Ud k (by omega)
     obtain ⟨y,h3,h4⟩:=aeX cs' d h2
     obtain ⟨xs,g1,g3,g4⟩:=ih (k+1) (by omega)
     obtain ⟨c1,gv⟩:=T9 h1
     obtain ⟨hsp,arj⟩:=Lc (by omega)
     obtain ⟨ab,ao,asp⟩:=a
     simp only at hsp
     subst hsp
     refine⟨y :: xs,by simp [g1],⟨cs',ag.none,ag.none,h3,c1,?_,?_,fun _ _ h=>h.elim,fun _ _ h=>h,fun _ _ h=>h⟩,?_⟩
     ·intro i v hv
      have:=gv i v hv
      rw [show(⟨ab,ao,none⟩:Addr)=at_ ab ao from rfl,p6,p6] at this
      exact this
     ·have e1:ao+k*t.size+t.size=ao +(k+1)*t.size:=by rw [Nat.add_mul];omega
      simp only
      rw [e1];exact g3
     ·intro z hz
      rcases List.mem_cons.1 hz with rfl | hz
      ·exact h4
      ·exact g4 z hz
   obtain ⟨xs,g1,g3,g4⟩:=hrow len 0 (by omega)
   refine⟨xs,?_,?_⟩
   ·simp only [aa.an]
    refine⟨some a,cap,by rw [g1],?_⟩
    by_cases hx:xs=[]
    ·exact .inl hx
    ·have hn:0<len:=by
      rw [← g1]
      cases xs with
      | nil=>exact absurd rfl hx
      | cons=>simp
     exact .inr ⟨a,rfl,(Lc hn).1,by simpa using g3,fun j hj=>(Lc hn).2,by rw [g1];exact hl⟩
   ·simp only [aa.dH]
    exact⟨by rw [g1];omega,g4⟩
 | .st aj,id,fuel,cs,x,ho,av,h=>by
  have hsz:=Lb ho
  simp only [aa.ok] at ho
  obtain ⟨_,cn,hu,K9⟩:=ho
  obtain ⟨xs,n,_,_,hl,hxl,hf⟩:=DataW.trod_struct hu h
  have hlen:cs.length=(aa.st aj).size:=by rw [hl,hsz]
  have:=az.read aj cn.toList 0 n cs K9 (by simpa only [aa.na] using av) (by simpa only [aa.size,Nat.zero_add] using hlen) (fun i f C3=>by
   have hi:i<xs.length:=by
    rw [hxl]
    have:=(List.getElem?_eq_some_iff.1 C3).1
    simpa using this
   exact⟨xs[i],by rw [hf i f (by rw [← Array.getElem?_toList];exact C3),List.getElem?_eq_getElem hi]⟩)
  obtain ⟨y,h1,h2⟩:=this
  rw [List.drop_zero] at h1
  exact⟨y,by simp only [aa.an];exact h1,by simp only [aa.dH];exact h2⟩
theorem az.read:∀(aj:az) (cn:List Field) (off:Nat) (fuel:Nat) (cs:List Value),aj.okF P cn off→aj.na=true→cs.length=off+aj.size →
  (∀(i:Nat) (f:Field),cn[i]?=some f→∃x,DataW.trod enc P w base spare held fuel f.type ((cs.drop f.offset).take (P.cellsOf f.type))=some x)→∃y:aj.D,aj.an w (Old w) .nil y (cs.drop off) ag.none∧aj.dH y
 | .nil,cn,off,fuel,cs,ho,av,hl,hf=>by
  simp only [az.size,Nat.add_zero] at hl
  exact⟨(),by simp only [az.an];rw [List.drop_of_length_le (by omega)],by simp only [az.dH]⟩
 | .cons t aj,cn,off,fuel,cs,ho,av,hl,hf=>by
  simp only [az.okF] at ho
  obtain ⟨f,lg,rfl,h1,h2,h3⟩:=ho
  simp only [az.na,Bool.and_eq_true] at av
  simp only [az.size] at hl
  obtain ⟨x,hx⟩:=hf 0 f rfl
  rw [h1,Lb h2] at hx
  obtain ⟨y,g1,g2⟩:=aa.read t f.type fuel _ x h2 av.1 hx
  obtain ⟨ys,g3,g4⟩:=az.read aj lg (off+t.size) fuel cs h3 av.2 (by omega) fun i mK C3=>hf (i+1) mK (by simpa using C3)
  refine⟨(y,ys),?_,⟨g2,g4⟩⟩
  simp only [az.an]
  refine⟨_,_,ag.none,ag.none,?_,g1,g3,fun _ _ h=>h.elim,fun _ _ h=>h,fun _ _ h=>h⟩
  rw [← List.drop_drop,List.take_append_drop]
end
theorem aeY{t:aa}{id:TypeId}{r:Reach}{v:Value}(ho:t.ok P id)(hv:Value.okWide P w r base id v):v=dD t v.cells.toList:=by
 cases t with
 | int k=>obtain ⟨n,rfl⟩:=okWide_int (by simp only [aa.ok] at ho;exact ho.1) hv;rfl
 | bool=>obtain ⟨n,rfl⟩:=okWide_bool (by simp only [aa.ok] at ho;exact ho.1) hv;rfl
 | str=>obtain ⟨n,rfl⟩:=okWide_string (by simp only [aa.ok] at ho;exact ho.1) hv;rfl
 | sl t =>
  simp only [aa.ok] at ho
  obtain ⟨_,e,hu,_⟩:=ho
  obtain ⟨a,l,c,rfl⟩:=okWide_slice hu hv
  rfl
 | raw =>
  simp only [aa.ok] at ho
  obtain ⟨_,e,hu⟩:=ho
  obtain ⟨a,l,c,rfl⟩:=okWide_slice hu hv
  rfl
 | st aj =>
  simp only [aa.ok] at ho
  obtain ⟨_,cn,hu,_⟩:=ho
  simp only [Value.okWide,hu] at hv
  obtain ⟨cs,rfl,_⟩:=hv
  simp [dD,Value.cells]
def zw:List (Nat×aa)→List bt
 | []=>[]
 | a :: l=>.val a.2 .R :: zw l
def uv(P:Program):List (Nat×aa)→Bool
 | []=>true
 | a :: l=>a.2.okB P a.1&&a.2.na&&P.readableRec a.1&&Nat.blt a.1 P.types.size&&uv P l
theorem Ue{r:Reach}{cJ:Nat} : ∀(as:List (Nat×aa)) (vs:List Value) (ds:List (DataW H)) (p:List MemPlace),uv P as=true →
  DataW.TrodAll enc P w 0 (fun _=>true) true (as.map (·.1)) vs ds p→(∀(j:Nat) t v,(as.map (·.1))[j]?=some t→vs[j]?=some v→Value.okWide P w r cJ t v) →
  ∃x:(bt.ins (zw as)).D,gm w (Old w) 0 (zw as) x vs ag.none∧qt (zw as) x∧f' vs=[]
 | [],vs,ds,p,ho,h,hv=>by
  obtain ⟨rfl,_,_⟩:=trodAll_nil h
  exact⟨(),rfl,trivial,rfl⟩
 | a :: as,vs,ds,p,ho,h,hv=>by
  simp only [uv,Bool.and_eq_true] at ho
  obtain ⟨v,bD,d,Ld,p',Le,rfl,rfl,rfl,h1,h2⟩:=trodAll_cons (by simpa using h)
  obtain ⟨x,g1,g2,g3⟩:=Ue as bD Ld Le ho.2 h2 fun j t u hj hu=>hv (j+1) t u (by simpa using hj) (by simpa using hu)
  have cw:=aa.C1 _ _ ho.1.1.1.1
  obtain ⟨fuel,hf⟩:=h1
  obtain ⟨y,k1,k2⟩:=aa.read a.2 a.1 fuel _ _ cw ho.1.1.1.2 hf
  have hw:=aeY cw (hv 0 a.1 v rfl rfl)
  refine⟨(y,x),⟨v.cells.toList,bD,ag.none,ag.none,by rw [← hw],k1,g1,fun _ _ h=>h.elim,fun _ _ h=>h,fun _ _ h=>h⟩,⟨k2,g2⟩,?_⟩
  rw [hw,CW k1]
  exact g3
theorem aeZ{w w':World}(h:Ext w w' ag.none):Below w.heap.size w w':=by
 refine⟨h.os,h.tape,h.output,h.size,fun b hb=>?_⟩
 rcases h.block b hb with h1 | ⟨c,c',e,f,h1,h2,h3,h4⟩
 ·exact h1
 ·rw [h1,h2]
  have:c'=c:=by
   apply Array.ext h3
   intro i hi c6
   have:=h4 i (fun h=>h.elim)
   rw [Array.getElem?_eq_getElem hi,Array.getElem?_eq_getElem c6] at this
   exact aX this
  rw [this]
theorem Uf(hl:laidOutB P=true):∀(as:List (Nat×aa)) (vs:List Value) (ds:List (DataW H)) (p:List MemPlace),uv P as=true →
  DataW.TrodAll enc P W 0 (fun _=>true) true (as.map (·.1)) vs ds p→Below W.heap.size W W'→DataW.TrodAll enc P W' 0 (fun b=>decide (b<W.heap.size)) true (as.map (·.1)) vs ds p
 | [],vs,ds,p,ho,h,hb=>by
  obtain ⟨rfl,rfl,rfl⟩:=trodAll_nil h
  exact trodAll_mk0
 | a :: as,vs,ds,p,ho,h,hb=>by
  simp only [uv,Bool.and_eq_true] at ho
  obtain ⟨v,bD,d,Ld,p',Le,rfl,rfl,rfl,h1,h2⟩:=trodAll_cons (by simpa using h)
  have bY:∀x∈p',x.block<W.heap.size:=by obtain ⟨m,hm⟩:=h1;exact DataW.trod_lt m _ _ _ hm
  exact trodAll_cons_mk (Below.trod hl ho.1.1.2 (Nat.le_of_ble_eq_true ho.1.2) h1 hb bY) (Uf hl as bD Ld Le ho.2 h2 hb)
theorem ae0{f:Nat}{fn:Func}{e:Entry}{prs:List (Nat×aa)}{r:Reach}{cJ:Nat}{args:Array Value}{ds:List (DataW H)}{p:List MemPlace}(ef:Sound P f 0 e)(CX:e.ps=zw prs)
  (Lf:fn.params.toList=prs.map (·.1)) (cw:uv P prs=true) (ae1:laidOutB P=true) (hc:∀x:(bt.ins e.ps).D,qt e.ps x→∃y,e.f x=some y∧La e.rs (bt.dM e.ps) y)
  (ua:∀(j:Nat) t v,fn.params[j]?=some t→args[j]?=some v→Value.okWide P W r cJ t v)
  (hA:DataW.TrodAll enc P W 0 (fun _=>true) true fn.params.toList args.toList ds p) :
  Calls P f args W fun end_ W'=>end_=.returned (.bool true)∧Below W.heap.size W W'∧DataW.TrodAll enc P W' 0 (fun b=>decide (b<W.heap.size)) true fn.params.toList args.toList ds p:=by
 obtain ⟨ps,rs,c⟩:=e
 simp only at CX
 subst CX
 rw [Lf] at hA
 obtain ⟨x,h1,h2,h3⟩:=Ue prs args.toList ds p cw hA fun j t v hj hv=>ua j t v (by rw [← Array.getElem?_toList,Lf];exact hj) (by rw [← Array.getElem?_toList];exact hv)
 obtain ⟨y,a_,ht⟩:=hc x h2
 have xg:=ef.calls W (Old W) ag.none x args.toList y (fun _ _ h=>h) (fun _ _ h=>h.elim) (fun _ _ h=>h.elim) (by rw [h3,List.append_nil];exact h1) a_
 have ln:args.toList.toArray=args:=by simp
 rw [ln] at xg
 refine Calls.mono xg ?_
 rintro end_ w' ⟨v,rfl,CY⟩
 obtain ⟨dk,Z',F',rfl,hx,_,_,_,_,hg⟩:=CY.out
 have hb:=aeZ hx
 refine⟨?_,hb,by rw [Lf];exact Uf ae1 prs _ _ _ cw hA hb⟩
 have hfin:∀(rs:List cO) (aj:az) (ps:List bt) (us:List Value) (ae2:aj=bt.dM ps) (y:(cO.outs rs (bt.dM ps)).D),La rs (bt.dM ps) y→∀F',hS w' Z' ps us rs y dk F'→n5 dk=.bool true:=by
  intro rs aj ps us ae2 y ht F' hg
  match rs,y,ht,hg with
  | [.val .bool .R],y,ht,hg =>
   obtain ⟨vs,dR,G,fT,rfl,k1,k2,_⟩:=hg
   obtain ⟨rfl,_⟩:=k2
   simp only [aa.an] at k1
   subst k1
   have ht:y.1=true:=ht
   rw [ht]
   rfl
 exact congrArg _ (hfin rs _ _ _ rfl y ht _ hg)
end
end Go.LM
namespace Go.LM
theorem c0{x:Int}(h : -9223372036854775808≤x)(h':x≤9223372036854775807):ay x=x:=by
 show(if(true&&decide (x % 18446744073709551616≥9223372036854775808))=true then x % 18446744073709551616-18446744073709551616 else x % 18446744073709551616)=x
 by_cases hc:x % 18446744073709551616≥9223372036854775808
 ·rw [if_pos (by simp [hc])];omega
 ·rw [if_neg (by simp [hc])];omega
theorem ba{n i:Nat}(h:i<n):aL n (i:Int)=some i:=by
 unfold aL
 rw [if_pos ⟨by omega,by omega⟩]
 simp
theorem p2{t:aa}{xs:List t.D}{i:Nat}(h:i<xs.length):J t xs i=xs[i]:=by
 unfold J
 rw [List.getD_eq_getElem?_getD,List.getElem?_eq_getElem h]
 rfl
theorem C4{t:aa}{xs:List t.D}{i:Nat}{y:t.D}(h:i<xs.length):J t (xs.set i y) i=y:=by
 rw [p2 (by simpa using h)]
 simp
theorem zx{n:Nat}(h:n≤68719476736):room n=true:=Nat.ble_eq_true_of_le h
theorem jc{n lo hi:Nat}(h:lo≤hi)(h':hi≤n):dN n (lo:Int) (hi:Int)=some (lo,hi):=by
 unfold dN
 rw [if_pos ⟨by omega,by omega,by omega⟩]
 simp
theorem xB{α : Type}(a:Option α):both a a=a:=by unfold both;rw [if_pos rfl]
theorem nc{α : Type}(a:Option α):dup a=a:=xB a
theorem ij(s:List UInt8):bB s s=true:=by simp [bB]
end Go.LM
namespace Go.LM
structure kl(P:Program) where
 tab:List (Nat×aa)
 lQ:List Nat
 eqs:List Nat
 ht:ts P tab=true
 av:tt P lQ=true
 he:tu P tab eqs=true
 hm:P.follows .mixedOrders=true
noncomputable def lB(fn:Func):Code:=match fn.body with
 | some c=>c
 | none=>.skip
noncomputable def r8(fn:Func)(ps:List bt):Bool :=
 fn.body.isSome && !(fn.name == "runtime.NumGoroutine")&&CV ps&&Nat.ble ps.length fn.ntmps&&K2 (lB fn)
def nd:List (Nat×bz)→Nat→Option bz
 | [],_=>none
 | (k,t) :: l,r=>cond (Nat.beq r k) (some t) (nd l r)
section
variable{P:Program}
def kl.env(B:kl P)(fn:Func)(fns:List (Nat×Entry)):Env:=T5 fn.ntmps B.tab B.lQ B.eqs fns
noncomputable def kl.start(B:kl P)(fn:Func)(fns:List (Nat×Entry))(T:List (Nat×bz))(e:Entry)(k:Nat→al→Option (cO.outs e.rs (bt.dM e.ps)).D)(x:(bt.ins e.ps).D):Option (cO.outs e.rs (bt.dM e.ps)).D :=
 xv (B.env fn fns) fn (lB fn) (nd T) 0 e k x
noncomputable def kl.Ug(B:kl P)(key:Nat)(fn:Func)(fns:List (Nat×Entry))(T:List (Nat×bz))(e:Entry)(k:Nat→al→Option (cO.outs e.rs (bt.dM e.ps)).D)(x:(bt.ins e.ps).D):Option (cO.outs e.rs (bt.dM e.ps)).D :=
 xv (B.env fn fns) fn (lB fn) (nd T) key e k x
noncomputable def kl.step(B:kl P)(fn:Func)(fns:List (Nat×Entry))(T:List (Nat×bz))(e:Entry)(k:Nat→al→Option (cO.outs e.rs (bt.dM e.ps)).D):Nat→al→Option (cO.outs e.rs (bt.dM e.ps)).D :=
 K6 (B.env fn fns) (nd T) (lB fn) (pc (B.env fn fns) fn e) k
theorem Uh(B:kl P){f:Nat}{fn:Func}{e:Entry}{fns:List (Nat×Entry)}(hs:qs P fns)(hf:P.funcs[f]?=some fn)(hc:r8 fn e.ps=true)(T:List (Nat×bz))
  (hF:∀x r,e.f x=some r→∃m,xv (B.env fn fns) fn (lB fn) (nd T) 0 e (od (B.env fn fns) (nd T) (lB fn) (pc (B.env fn fns) fn e) m) x=some r):Sound P f 0 e:=by
 unfold r8 at hc
 simp only [Bool.and_eq_true,Bool.not_eq_true'] at hc
 obtain ⟨⟨⟨⟨h1,h2⟩,h3⟩,h4⟩,a7⟩:=hc
 refine TX (T8 (n:=fn.ntmps) (fns:=fns) B.ht B.av B.he hs B.hm) hf ?_ h2 (Nat.beq_refl _) h3 h4 a7 hF
 unfold lB
 cases hb:fn.body with
 | none=>rw [hb] at h1;cases h1
 | some c=>rfl
theorem b5(B:kl P){f:Nat}{fn:Func}{e:Entry}{fns:List (Nat×Entry)}(hs:qs P fns)(hf:P.funcs[f]?=some fn)(hc:r8 fn e.ps=true)
  (h:∀x,B.start fn fns [] e (fun _ _=>none) x=e.f x):Sound P f 0 e :=
 Uh B hs hf hc [] fun x r hx=>⟨0,by
  rw [show od (B.env fn fns) (nd []) (lB fn) (pc (B.env fn fns) fn e) 0=fun _ _=>none from rfl]
  exact(h x).trans hx⟩
def dX{K:Type}(s:K→K)(z:K):Nat→K
 | 0=>z
 | m+1=>s (dX s z m)
theorem bW(B:kl P){f:Nat}{fn:Func}{e:Entry}{fns:List (Nat×Entry)}(hs:qs P fns)(hf:P.funcs[f]?=some fn)(hc:r8 fn e.ps=true)(T:List (Nat×bz)){K:Type}
  (of:(Nat→al→Option (cO.outs e.rs (bt.dM e.ps)).D)→K) (step:K→K) (L:Nat→K) (g:K→(bt.ins e.ps).D→Option (cO.outs e.rs (bt.dM e.ps)).D)
  (h0:L 0=of fun _ _=>none) (C5:∀m,L (m+1)=step (L m)) (he:∀x,e.f x=g (L aK) x)
  (aD:∀k x,B.start fn fns T e k x=g (of k) x)
  (hst:∀k,of (B.step fn fns T e k)=step (of k)):Sound P f 0 e :=
 Uh B hs hf hc T fun x r hx=>⟨aK,by
  have hl:∀m,of (od (B.env fn fns) (nd T) (lB fn) (pc (B.env fn fns) fn e) m)=L m:=by
   intro m
   induction m with
   | zero=>exact h0.symm
   | succ m ih=>rw [C5,← ih];exact hst _
  rw [he,← hl aK] at hx
  exact(aD _ x).trans hx⟩
theorem Ui(B:kl P)(key:Nat){f:Nat}{fn:Func}{e:Entry}{fns:List (Nat×Entry)}(hs:qs P fns)(hf:P.funcs[f]?=some fn)(hc:r8 fn e.ps=true)(T:List (Nat×bz))
  (hF:∀x r,e.f x=some r→∃m,xv (B.env fn fns) fn (lB fn) (nd T) key e (od (B.env fn fns) (nd T) (lB fn) (pc (B.env fn fns) fn e) m) x=some r):Sound P f key e:=by
 unfold r8 at hc
 simp only [Bool.and_eq_true,Bool.not_eq_true'] at hc
 obtain ⟨⟨⟨⟨h1,h2⟩,h3⟩,h4⟩,a7⟩:=hc
 refine TX (T8 (n:=fn.ntmps) (fns:=fns) B.ht B.av B.he hs B.hm) hf ?_ h2 (Nat.beq_refl _) h3 h4 a7 hF
 unfold lB
 cases hb:fn.body with
 | none=>rw [hb] at h1;cases h1
 | some c=>rfl
theorem Uj(B:kl P)(key:Nat){f:Nat}{fn:Func}{e:Entry}{fns:List (Nat×Entry)}(hs:qs P fns)(hf:P.funcs[f]?=some fn)(hc:r8 fn e.ps=true)
  (h:∀x,B.Ug key fn fns [] e (fun _ _=>none) x=e.f x):Sound P f key e :=
 Ui B key hs hf hc [] fun x r hx=>⟨0,by
  rw [show od (B.env fn fns) (nd []) (lB fn) (pc (B.env fn fns) fn e) 0=fun _ _=>none from rfl]
  exact(h x).trans hx⟩
theorem wA(B:kl P)(key:Nat){f:Nat}{fn:Func}{e:Entry}{fns:List (Nat×Entry)}(hs:qs P fns)(hf:P.funcs[f]?=some fn)(hc:r8 fn e.ps=true)(T:List (Nat×bz)){K:Type}
  (of:(Nat→al→Option (cO.outs e.rs (bt.dM e.ps)).D)→K) (step:K→K) (L:Nat→K) (g:K→(bt.ins e.ps).D→Option (cO.outs e.rs (bt.dM e.ps)).D)
  (h0:L 0=of fun _ _=>none) (C5:∀m,L (m+1)=step (L m)) (he:∀x,e.f x=g (L aK) x)
  (aD:∀k x,B.Ug key fn fns T e k x=g (of k) x)
  (hst:∀k,of (B.step fn fns T e k)=step (of k)):Sound P f key e :=
 Ui B key hs hf hc T fun x r hx=>⟨aK,by
  have hl:∀m,of (od (B.env fn fns) (nd T) (lB fn) (pc (B.env fn fns) fn e) m)=L m:=by
   intro m
   induction m with
   | zero=>exact h0.symm
   | succ m ih=>rw [C5,← ih];exact hst _
  rw [he,← hl aK] at hx
  exact(aD _ x).trans hx⟩
end
@[reducible] def yJ(t:aa):bt:=.val t t.own
@[reducible] def aI(t:aa):bt:=.val t .R
@[reducible] def zy(t:aa):bt:=.gZ t
@[reducible] def xC(t:aa):bt:=.gI t t.own
@[reducible] def fh(t:aa):bt:=.ref t
@[reducible] def Lg(t:aa):bt:=.mut t t.own t.own
@[reducible] def ro(t:aa):cO:=.val t t.own
@[reducible] def aZ(t:aa):cO:=.val t .R
def Uk:List (Nat×a')→Nat→a'
 | []=>fun _=>.aw
 | (d,v) :: l=>bP (Uk l) d v
def Ul:List (Nat×cj)→Nat→cj
 | []=>fun _=>.none
 | (d,v) :: l=>bP (Ul l) d v
def bd(t:List (Nat×a'))(o:List (Nat×cj))(g:List a'):al:=⟨Uk t,Ul o,g⟩
def aR(x:Int):a':=.aU (.int .i64 x)
def gB(x:Bool):a':=.aU (.bool x)
def eP(x:List UInt8):a':=.aU (.str x)
def dg(t:aa)(x:List t.D):a':=.aU (.bA t [] none x)
def aC(c:Nat):a':=.ptr ⟨c,none,0⟩
def nf(dp:List Nat):List (Nat×Nat):=dp.map fun c=>(c,0)
mutual
def aa.uw:(t:aa)→bg→List Nat→t.D→Nat→List bb×List (Nat×cj)×Nat
 | .int k,_,_,x,j=>([.int k x],[],j)
 | .bool,_,_,x,j=>([.bool x],[],j)
 | .str,_,_,x,j=>([.str x],[],j)
 | .raw,_,_,x,j=>([.raw x],[],j)
 | .sl t,.O e,_,x,j=>([.ah j none],[(j,.row t e 0 x)],j+1)
 | .sl t,_,dp,x,j=>([.bA t (nf dp) none x],[],j)
 | .st aj,m,dp,x,j=>aj.uw m.parts dp x j
def az.uw:(aj:az)→cM→List Nat→aj.D→Nat→List bb×List (Nat×cj)×Nat
 | .nil,_,_,_,j=>([],[],j)
 | .cons t aj,m,dp,x,j=>let r:=t.uw m.ah dp x.1 j;let q:=aj.uw m.du dp x.2 r.2.2;(r.1++q.1,r.2.1++q.2.1,q.2.2)
end
mutual
def aa.ux:(t:aa)→bg→List Nat→Nat→List kO×List (Nat×ig)×Nat
 | .sl t,.O e,_,j=>([.ah j],[(j,.row t e)],j+1)
 | .sl t,_,dp,j=>([.bA t dp],[],j)
 | .st aj,m,dp,j=>aj.ux m.parts dp j
 | _,_,_,j=>([.keep],[],j)
def az.ux:(aj:az)→cM→List Nat→Nat→List kO×List (Nat×ig)×Nat
 | .nil,_,_,j=>([],[],j)
 | .cons t aj,m,dp,j=>let r:=t.ux m.ah dp j;let q:=aj.ux m.du dp r.2.2;(r.1++q.1,r.2.1++q.2.1,q.2.2)
end
def aH(c:Nat)(t:aa)(m:bg)(dp:List Nat)(x:t.D):List (Nat×cj):=let r:=t.uw m dp x (c+1);(c,.var 0 r.1) :: r.2.1
def aF(c:Nat)(t:aa)(m:bg)(dp:List Nat):List (Nat×ig):=let r:=t.ux m dp (c+1);(c,.var r.1) :: r.2.1
def aU(t:aa)(m:bg)(dp:List Nat)(x:t.D)(j:Nat):List bb:=(t.uw m dp x j).1
def pd(t:aa)(m:bg)(dp:List Nat)(j:Nat):List kO:=(t.ux m dp j).1
def Lh(t:aa)(m:bg)(x:t.D)(j:Nat):List (Nat×cj):=(t.uw m [] x j).2.1
def Li(t:aa)(m:bg)(j:Nat):List (Nat×ig):=(t.ux m [] j).2.1
@[reducible] def aJ:kr:=.cell .keep
end Go.LM
namespace Go.LM
theorem Um{P:Program}{f key:Nat}{e:Entry}(hf:∀x,e.f x=none):hK P f key e :=
 ⟨fun w Z F x us r _ _ _ _ hx=>by rw [hf x] at hx;cases hx⟩
theorem ae3{w:World}{Z F:ag}{e:Entry}{us:List Value}{k:IntKind}{x:Int}(r1:e.rs=[.val (.int k) .R])(hm:bt.dM e.ps=.nil)(hZ:∀b o,Z b o→b<w.heap.size)(hF:∀b o,F b o→b<w.heap.size)(hap:ag.apart F Z)
  (r:(cO.outs e.rs (bt.dM e.ps)).D) (hr:∀G,hS w Z e.ps (us++f' us) e.rs r [.int k x] G):Ends w Z F e us r (.int k x) w :=
 ⟨[.int k x],Z,ag.none,rfl,Ext.refl _ _,fun _ _ h=>h,fun _ _ h=>.inl h,fun _ _ h=>h.elim,fun _ _ h=>h.elim,hr _⟩
def C6(g:List UInt8→UInt8→Int):Entry:=⟨[aI .str,aI (.int .u8)],[aZ (.int .i64)],fun x=>some (g x.1 x.2.1.toNat.toUInt8,())⟩
theorem Un{P:Program}{f:FuncId}{fn:Func}{x:Array Value→Sem Value}(g:List UInt8→UInt8→Int)(hf:P.funcs[f]?=some fn)(j1:(fn.name == "runtime.NumGoroutine")=false)
  (hb:fn.body.isNone=true) (hn:Extern.findNext fn=none) (he:Extern.find fn=some x)
  (hx:∀(s:ByteArray) (c:Int) (w:World),(x #[.string s,.int .u8 c]).run P w=.ok (.int .i64 (g s.data.toList c.toNat.toUInt8)) w):hK P f 0 (C6 g):=by
 refine⟨fun w Z F y us r hZ hF hap hA a_=>?_⟩
 obtain rfl:=aX a_
 obtain ⟨vs1,us1,G1,H1,e1,k1,h1,_⟩:=hA
 obtain ⟨vs2,us2,G2,H2,e2,k2,h2,_⟩:=h1
 simp only [aa.an] at k1 k2
 obtain ⟨s,rfl,hs⟩:=k1
 subst k2
 have h2:us2=[]:=h2
 subst h2
 subst e2
 have hus:us=[.string s,.int .u8 y.2.1]:=by
  cases us with
  | nil=>cases e1
  | cons u us =>
   cases us with
   | nil =>
    simp only [List.cons_append,List.nil_append] at e1
    injection e1 with e3 eH
    subst e3
    cases eH
   | cons iK us =>
    simp only [List.cons_append] at e1
    injection e1 with e3 eH
    injection eH with eH lk
    subst e3 eH
    have:us=[]:=(List.append_eq_nil_iff.1 lk).1
    subst this
    rfl
 subst hus
 refine .inr ⟨.int .i64 (g s.data.toList y.2.1.toNat.toUInt8),w,?_,.int .i64 (g s.data.toList y.2.1.toNat.toUInt8),rfl,?_⟩
 ·rw [run_callFunc_extern hf j1 hb hn he]
  have:=hx s y.2.1 w
  rw [show(([Value.string s,Value.int IntKind.u8 y.2.1]:List Value).toArray) = #[.string s,.int .u8 y.2.1] from rfl,this]
  rfl
 ·rw [hs]
  refine ae3 (e:=C6 g) rfl rfl hZ hF hap _ fun G=>?_
  refine⟨[_],[],ag.none,ag.none,rfl,?_,?_,fun _ _ h=>h.elim,fun _ _ h=>h.elim,fun _ _ h=>h.elim⟩
  ·simp only [aa.an]
  ·exact⟨rfl,_,_,rfl,_,_,rfl,trivial⟩
theorem ae4{P:Program}{f:FuncId}{fn:Func}(hf:P.funcs[f]?=some fn)(j1:(fn.name == "runtime.NumGoroutine")=false)
  (hb:fn.body.isNone=true) (hn:Extern.findNext fn=none) (he:Extern.find fn=some Extern.BytealgIndexByte.indexByte):hK P f 0 (C6 Lib.indexByte) :=
 Un _ hf j1 hb hn he fun s c w=>Lib.run_indexByteString s c w
theorem ae5{P:Program}{f:FuncId}{fn:Func}(hf:P.funcs[f]?=some fn)(j1:(fn.name == "runtime.NumGoroutine")=false)
  (hb:fn.body.isNone=true) (hn:Extern.findNext fn=none) (he:Extern.find fn=some Extern.BytealgCount.count):hK P f 0 (C6 fun l c=>(Lib.countByte l c:Int)) :=
 Un _ hf j1 hb hn he fun s c w=>Lib.run_countString s c w
end Go.LM
namespace Go.LM
mutual
def aa.rw:aa→aa
 | .sl _=>.raw
 | .st aj=>.st aj.rw
 | .int k=>.int k
 | .bool=>.bool
 | .str=>.str
 | .raw=>.raw
def az.rw:az→az
 | .nil=>.nil
 | .cons t aj=>.cons t.rw aj.rw
end
mutual
def aa.rel:(T T':aa)→T.D→T'.D→Prop
 | .int _,.int _,x,y=>x=y
 | .bool,.bool,x,y=>x=y
 | .str,.str,x,y=>x=y
 | .sl _,.raw,_,_=>True
 | .raw,.raw,x,y=>x=y
 | .st aj,.st Lj,x,y=>aj.rel Lj x y
 | _,_,_,_=>False
def az.rel:(T T':az)→T.D→T'.D→Prop
 | .nil,.nil,_,_=>True
 | .cons t aj,.cons cE Lj,x,y=>t.rel cE x.1 y.1∧aj.rel Lj x.2 y.2
 | _,_,_,_=>False
end
mutual
theorem aa.og:∀t:aa,t.rw.size=t.size
 | .int _=>rfl
 | .bool=>rfl
 | .str=>rfl
 | .sl _=>rfl
 | .raw=>rfl
 | .st aj=>by simp only [aa.rw,aa.size];exact az.og aj
theorem az.og:∀t:az,t.rw.size=t.size
 | .nil=>rfl
 | .cons t aj=>by simp only [az.rw,az.size,aa.og t,az.og aj]
end
mutual
theorem aa.zz{w:World}{Z:ag} : ∀(T:aa) (m:bg) {x:T.D} {vs:List Value} {F:ag},T.an w Z m x vs F→∃y:T.rw.D,(∀(w':World) (Z':ag) (m':bg) (F':ag),T.rw.an w' Z' m' y vs F')∧T.rel T.rw x y
 | .int _,_,x,_,_,h=>by simp only [aa.an] at h;subst h;exact⟨x,fun _ _ _ _=>by simp only [aa.rw,aa.an],by simp only [aa.rw,aa.rel]⟩
 | .bool,_,x,_,_,h=>by simp only [aa.an] at h;subst h;exact⟨x,fun _ _ _ _=>by simp only [aa.rw,aa.an],by simp only [aa.rw,aa.rel]⟩
 | .str,_,x,_,_,h=>by simp only [aa.an] at h;exact⟨x,fun _ _ _ _=>by simp only [aa.rw,aa.an];exact h,by simp only [aa.rw,aa.rel]⟩
 | .raw,_,x,_,_,h=>by simp only [aa.an] at h;exact⟨x,fun _ _ _ _=>by simp only [aa.rw,aa.an];exact h,by simp only [aa.rw,aa.rel]⟩
 | .sl t,m,x,vs,F,h=>by
  have:∃A n c,vs=[.slice A n c]:=by
   cases m <;>(simp only [aa.an] at h;obtain ⟨A,c,hv,_⟩:=h;exact⟨A,_,c,hv⟩)
  obtain ⟨A,n,c,rfl⟩:=this
  exact⟨(.slice A n c:Value),fun _ _ _ _=>by simp only [aa.rw,aa.an];exact⟨trivial,A,n,c,rfl⟩,by simp only [aa.rw,aa.rel]⟩
 | .st aj,m,x,vs,F,h=>by
  simp only [aa.an] at h
  obtain ⟨y,h1,h2⟩:=az.zz aj m.parts h
  exact⟨y,fun w' Z' m' F'=>by simp only [aa.rw,aa.an];exact h1 w' Z' m'.parts F',by simp only [aa.rw,aa.rel];exact h2⟩
theorem az.zz{w:World}{Z:ag} : ∀(T:az) (m:cM) {x:T.D} {vs:List Value} {F:ag},T.an w Z m x vs F→∃y:T.rw.D,(∀(w':World) (Z':ag) (m':cM) (F':ag),T.rw.an w' Z' m' y vs F')∧T.rel T.rw x y
 | .nil,_,_,_,_,h=>by simp only [az.an] at h;exact⟨(),fun _ _ _ _=>by simp only [az.rw,az.an];exact h,by simp only [az.rw,az.rel]⟩
 | .cons t aj,m,x,vs,F,h=>by
  simp only [az.an] at h
  obtain ⟨us,bD,G,H,rfl,h1,h2,_⟩:=h
  obtain ⟨y,k1,k2⟩:=aa.zz t m.ah h1
  obtain ⟨z,dn,eh⟩:=az.zz aj m.du h2
  exact⟨(y,z),fun w' Z' m' F'=>by simp only [az.rw,az.an];exact⟨us,bD,ag.none,ag.none,rfl,k1 w' Z' m'.ah _,dn w' Z' m'.du _,fun _ _ h=>h.elim,fun _ _ h=>h.elim,fun _ _ h=>h.elim⟩,by simp only [az.rw,az.rel];exact⟨k2,eh⟩⟩
end
mutual
theorem aa.zA{w w':World}{Z Z':ag} : ∀(T:aa) {m m':bg} {y:T.rw.D} {vs:List Value} {F F':ag},T.rw.an w Z m y vs F→T.rw.an w' Z' m' y vs F'
 | .int _,_,_,_,_,_,_,h=>by simp only [aa.rw,aa.an] at h ⊢;exact h
 | .bool,_,_,_,_,_,_,h=>by simp only [aa.rw,aa.an] at h ⊢;exact h
 | .str,_,_,_,_,_,_,h=>by simp only [aa.rw,aa.an] at h ⊢;exact h
 | .sl _,_,_,_,_,_,_,h=>by simp only [aa.rw,aa.an] at h ⊢;exact h
 | .raw,_,_,_,_,_,_,h=>by simp only [aa.rw,aa.an] at h ⊢;exact h
 | .st aj,_,_,_,_,_,_,h=>by simp only [aa.rw,aa.an] at h ⊢;exact az.zA aj h
theorem az.zA{w w':World}{Z Z':ag} : ∀(T:az) {m m':cM} {y:T.rw.D} {vs:List Value} {F F':ag},T.rw.an w Z m y vs F→T.rw.an w' Z' m' y vs F'
 | .nil,_,_,_,_,_,_,h=>by simp only [az.rw,az.an] at h ⊢;exact h
 | .cons t aj,_,_,_,_,_,_,h=>by
  simp only [az.rw,az.an] at h ⊢
  obtain ⟨a,b,_,_,rfl,h1,h2,_⟩:=h
  exact⟨a,b,ag.none,ag.none,rfl,aa.zA t h1,az.zA aj h2,fun _ _ h=>h.elim,fun _ _ h=>h.elim,fun _ _ h=>h.elim⟩
end
mutual
theorem aa.zB{w w':World}{Z Z':ag} : ∀(T:aa) {m m':bg} {y:T.rw.D} {us vs:List Value} {F F':ag},T.rw.an w Z m y us F→T.rw.an w' Z' m' y vs F'→us=vs
 | .int _,_,_,_,_,_,_,_,h,k=>by simp only [aa.rw,aa.an] at h k;rw [h,k]
 | .bool,_,_,_,_,_,_,_,h,k=>by simp only [aa.rw,aa.an] at h k;rw [h,k]
 | .str,_,_,_,_,_,_,_,h,k=>by
  simp only [aa.rw,aa.an] at h k
  obtain ⟨s,rfl,hs⟩:=h
  obtain ⟨aq,rfl,Uo⟩:=k
  have:s=aq:=by
   cases s;cases aq
   simp only at hs Uo
   congr 1
   apply Array.ext'
   rw [hs,Uo]
  rw [this]
 | .sl _,_,_,_,_,_,_,_,h,k=>by simp only [aa.rw,aa.an] at h k;rw [h.1,k.1]
 | .raw,_,_,_,_,_,_,_,h,k=>by simp only [aa.rw,aa.an] at h k;rw [h.1,k.1]
 | .st aj,_,_,_,_,_,_,_,h,k=>by simp only [aa.rw,aa.an] at h k;exact az.zB aj h k
theorem az.zB{w w':World}{Z Z':ag} : ∀(T:az) {m m':cM} {y:T.rw.D} {us vs:List Value} {F F':ag},T.rw.an w Z m y us F→T.rw.an w' Z' m' y vs F'→us=vs
 | .nil,_,_,_,_,_,_,_,h,k=>by simp only [az.rw,az.an] at h k;rw [h,k]
 | .cons t aj,_,_,_,_,_,_,_,h,k=>by
  simp only [az.rw,az.an] at h k
  obtain ⟨a,b,_,_,rfl,h1,h2,_⟩:=h
  obtain ⟨b6,b',_,_,rfl,k1,k2,_⟩:=k
  rw [aa.zB t h1 k1,az.zB aj h2 k2]
end
def gT(w:World)(Z:ag)(T:aa)(m:bg):List T.D→List T.rw.D→ag→Prop
 | [],[],_=>True
 | x :: xs,y :: ys,G=>∃vs G1 G2,T.an w Z m x vs G1∧T.rw.an w Z .R y vs ag.none∧T.rel T.rw x y∧gT w Z T m xs ys G2∧ag.apart G1 G2∧ag.sub G1 G∧ag.sub G2 G
 | _,_,_=>False
section
variable{w w':World}{Z Z':ag}{T:aa}{m:bg}
theorem gT.len:∀ {xs:List T.D} {ys:List T.rw.D} {G:ag},gT w Z T m xs ys G→ys.length=xs.length
 | [],[],_,_=>rfl
 | _ :: _,_ :: _,_,⟨_,_,_,_,_,_,h,_⟩=>by simp [gT.len h]
 | [],_ :: _,_,h=>h.elim
 | _ :: _,[],_,h=>h.elim
theorem gT.mono:∀ {xs:List T.D} {ys:List T.rw.D} {G df:ag},ag.sub G df→gT w Z T m xs ys G→gT w Z T m xs ys df
 | [],[],_,_,_,_=>trivial
 | _ :: _,_ :: _,_,_,hs,⟨vs,G1,G2,h1,h2,h3,h4,a7,bp,bI⟩=>⟨vs,G1,G2,h1,h2,h3,h4,a7,fun b o h=>hs b o (bp b o h),fun b o h=>hs b o (bI b o h)⟩
 | [],_ :: _,_,_,_,h=>h.elim
 | _ :: _,[],_,_,_,h=>h.elim
theorem gT.Up:∀ {xs:List T.D} {b o:Nat} {G:ag},Row w (T.an w Z m) T.size xs b o G→∃ys,gT w Z T m xs ys G∧∀(Z':ag),Row w (T.rw.an w Z' .R) T.rw.size ys b o ag.none
 | [],_,_,_,_=>⟨[],trivial,fun _=>trivial⟩
 | x :: xs,b,o,G,⟨vs,G1,G2,h1,h2,h3,h4,a7,bp,bI⟩=>by
  obtain ⟨ys,k1,k2⟩:=gT.Up h4
  obtain ⟨y,dn,eh⟩:=aa.zz T m h1
  refine⟨y :: ys,⟨vs,G1,G2,h1,dn _ _ _ _,eh,k1,a7,bp,bI⟩,fun Z'=>⟨vs,ag.none,ag.none,dn _ _ _ _,by rw [h2,aa.og],h3,?_,fun _ _ h=>h.elim,fun _ _ h=>h.elim,fun _ _ h=>h.elim⟩⟩
  have:=k2 Z'
  rw [aa.og] at this ⊢
  exact this
theorem gT.filter{p:T.D→Bool}{p':T.rw.D→Bool}(av:∀x y,T.rel T.rw x y→p x=p' y):∀ {xs:List T.D} {ys:List T.rw.D} {G:ag},gT w Z T m xs ys G→gT w Z T m (xs.filter p) (ys.filter p') G
 | [],[],_,_=>trivial
 | x :: xs,y :: ys,G,⟨vs,G1,G2,h1,h2,h3,h4,a7,bp,bI⟩=>by
  have ih:=gT.filter av h4
  rw [List.filter_cons,List.filter_cons,av x y h3]
  cases p' y
  ·exact ih.mono bI
  ·exact⟨vs,G1,G2,h1,h2,h3,ih,a7,bp,bI⟩
 | [],_ :: _,_,h=>h.elim
 | _ :: _,[],_,h=>h.elim
theorem gT.same:∀ {xs:List T.D} {ys:List T.rw.D} {G:ag},b4 w w' G→gT w Z T T.own xs ys G→gT w' Z' T T.own xs ys G
 | [],[],_,_,_=>trivial
 | x :: xs,y :: ys,G,hs,⟨vs,G1,G2,h1,h2,h3,h4,a7,bp,bI⟩=>by
  exact⟨vs,G1,G2,qi T (hs.mono bp) h1,aa.zA T h2,h3,gT.same (hs.mono bI) h4,a7,bp,bI⟩
 | [],_ :: _,_,_,h=>h.elim
 | _ :: _,[],_,_,h=>h.elim
theorem gT.row:∀ {xs:List T.D} {ys:List T.rw.D} {G:ag} {b o:Nat} {H:ag},gT w Z T m xs ys G→Row w (T.rw.an w Z' .R) T.rw.size ys b o H→Row w (T.an w Z m) T.size xs b o G
 | [],[],_,_,_,_,_,_=>trivial
 | x :: xs,y :: ys,G,b,o,H,⟨vs,G1,G2,h1,h2,h3,h4,a7,bp,bI⟩,⟨us,H1,H2,k1,k2,k3,bf,_⟩=>by
  have:us=vs:=aa.zB T k1 h2
  subst this
  rw [aa.og] at k2 bf
  exact⟨us,G1,G2,h1,k2,k3,gT.row h4 (by rw [aa.og];exact bf),a7,bp,bI⟩
 | [],_ :: _,_,_,_,_,h,_=>h.elim
 | _ :: _,[],_,_,_,_,h,_=>h.elim
theorem ae6{P:Program}{f:FuncId}{key:FuncId}{T':aa}{p:T.D→Int→Bool}{p':T'.D→Int→Bool}(bX:T.rw=T')(CI:∀x y i,T.rel T' x y→p x i=p' y i)
  {fq:(bt.ins [.val (.sl T') (.O .R),.fn 0 1,.ref (.int .i64)]).D→Option (cO.outs [.val (.sl T') (.O .R)] (bt.dM [.val (.sl T') (.O .R),.fn 0 1,.ref (.int .i64)])).D}
  (ef:hK P f key ⟨[.val (.sl T') (.O .R),.fn 0 1,.ref (.int .i64)],[.val (.sl T') (.O .R)],fq⟩)
  (hf:∀(ys:List T'.D) (i:Int),room ys.length=true→fq (ys,i,())=some (ys.filter (fun y=>p' y i),())) :
  hK P f key ⟨[.val (.sl T) (.O T.own),.fn 0 1,.ref (.int .i64)],[.val (.sl T) (.O T.own)],fun x=>cond (room x.1.length) (some (x.1.filter (fun y=>p y x.2.1),())) none⟩:=by
 subst bX
 refine⟨fun w Z F x us r hZ hF hFZ hA hr=>?_⟩
 obtain ⟨xs,i,u⟩:=x
 simp only at hr
 cases hroom:room xs.length
 ·rw [hroom] at hr;cases hr
 rw [hroom] at hr
 simp only [cond_true] at hr
 have hr:=aX hr
 obtain ⟨vs,aV,G,H,e1,cH,fR,C7,hGF,zC⟩:=hA
 simp only [aa.an] at cH
 obtain ⟨A,c,rfl,cH⟩:=cH
 obtain ⟨ys,G1,xD,dq,ae7,zD,xE,Lk⟩:∃(ys:List T.rw.D) (G1 xD:ag),gT w Z T T.own xs ys G1∧(aa.sl T.rw).an w Z (.O .R) ys [.slice A xs.length c] xD∧ag.sub G1 G∧ag.sub xD G∧ag.apart G1 xD:=by
  rcases cH with⟨rfl,rfl⟩ | ⟨a,rfl,hr⟩
  ·exact⟨[],ag.none,ag.none,trivial,by simp only [aa.an];exact⟨A,0,rfl,.inl (by simp)⟩,fun _ _ h=>h.elim,fun _ _ h=>h.elim,fun _ _ h=>h.elim⟩
  ·obtain ⟨G1,g1,g2,g3⟩:=hr.row
   obtain ⟨ys,k1,k2⟩:=gT.Up g1
   refine⟨ys,G1,ag.run a.block a.off (c*T.size),k1,?_,g3,?_,?_⟩
   ·simp only [aa.an]
    refine⟨some a,c,by rw [k1.len],.inr ⟨a,rfl,hr.spot,by rw [k1.len];exact hr.cap,?_,?_,ag.none,?_,fun _ _ h=>h,fun _ _ h=>h.elim⟩⟩
    ·rw [aa.og];exact hr.wr
    ·rw [aa.og];exact fun j hj=>⟨rfl,by omega,by omega⟩
    ·exact k2 Z
   ·rintro b o ⟨rfl,h1,h2⟩
    have:=hr.inF (o-a.off) (by omega)
    rwa [show a.off +(o-a.off)=o by omega] at this
   ·rintro b o aD ⟨rfl,h1,h2⟩
    have:=g2 (o-a.off) (by omega)
    rw [show a.off +(o-a.off)=o by omega] at this
    exact this aD
 have hcall:=ef.calls w Z (xD.or H) (ys,i,u) us (ys.filter (fun y=>p' y i),()) hZ
  (fun b o h=>h.elim (fun h=>hF b o (hGF b o (xE b o h))) fun h=>hF b o (zC b o h))
  (fun b o h hz=>h.elim (fun h=>hFZ b o (hGF b o (xE b o h)) hz) fun h=>hFZ b o (zC b o h) hz)
  ⟨[.slice A xs.length c],aV,xD,H,e1,ae7,fR,fun b o h=>C7 b o (xE b o h),fun _ _ h=>.inl h,fun _ _ h=>.inr h⟩
  (hf ys i (by rw [dq.len];exact hroom))
 refine hcall.mono ?_
 rintro end_ w' ⟨v,rfl,⟨⟨dk,Z',F',rfl,hx,Kp,hz2,hf2,zf,hg⟩⟩⟩
 subst hr
 simp only [hS] at hg
 obtain ⟨vs1,dR,df,adW,rfl,xe,⟨rfl,C8⟩,_,Uq,_⟩:=hg
 have xF:∀b o,G1 b o→F b o∧b<w.heap.size:=fun b o h=>⟨hGF b o (zD b o h),hF b o (hGF b o (zD b o h))⟩
 have ae8:ag.apart G1 F':=by
  intro b o h1 h2
  rcases (hf2 b o h2).1 with(h3 | h3) | h3
  ·exact Lk b o h1 h3
  ·exact C7 b o (zD b o h1) h3
  ·have:=(xF b o h1).2;omega
 have mX:b4 w w' G1:=b4.iE hx (fun b o h=>(xF b o h).2) (by
  rintro b o h1 (h3 | h3)
  ·exact Lk b o h1 h3
  ·exact C7 b o (zD b o h1) h3)
 have C9:gT w' Z' T T.own (xs.filter fun y=>p y i) (ys.filter fun y=>p' y i) G1:=(dq.same mX).filter fun x y h=>CI x y i h
 have hsz:T.rw.size=T.size:=aa.og T
 refine⟨_,rfl,⟨⟨_,Z',F'.or G1,rfl,?_,Kp,?_,?_,?_,?_⟩⟩⟩
 ·exact hx.mono fun b o hb h=>h.elim (fun h=>hGF b o (xE b o h)) fun h=>zC b o h
 ·intro b o hz
  rcases hz2 b o hz with h1 | ⟨h1,h2⟩
  ·exact .inl h1
  ·exact .inr ⟨h1.imp (fun h=>h.elim (fun h=>hGF b o (xE b o h)) fun h=>zC b o h) fun h=>h,h2⟩
 ·rintro b o (h1 | h1)
  ·obtain ⟨h2,h3⟩:=hf2 b o h1
   exact⟨h2.imp (fun h=>h.elim (fun h=>hGF b o (xE b o h)) fun h=>zC b o h) fun h=>h,h3⟩
  ·exact⟨.inl (xF b o h1).1,Nat.lt_of_lt_of_le (xF b o h1).2 hx.size⟩
 ·rintro b o (h1 | h1) hz
  ·exact zf b o h1 hz
  ·rcases hz2 b o hz with h2 | ⟨(h2 | h2) | h2,_⟩
   ·exact hFZ b o (xF b o h1).1 h2
   ·exact Lk b o h1 h2
   ·exact C7 b o (zD b o h1) h2
   ·have:=(xF b o h1).2;omega
 ·simp only [hS]
  refine⟨vs1,[],F'.or G1,ag.none,rfl,?_,⟨rfl,by simp only [h7] at C8 ⊢;exact C8⟩,fun _ _ _ h=>h.elim,fun _ _ h=>h,fun _ _ h=>h.elim⟩
  simp only [aa.an] at xe ⊢
  obtain ⟨mQ,c',rfl,xe⟩:=xe
  refine⟨mQ,c',by rw [← C9.len],?_⟩
  rcases xe with⟨h1,h2⟩ | ⟨b6,o1,jC⟩
  ·refine .inl ⟨List.eq_nil_of_length_eq_zero ?_,h2⟩
   rw [← C9.len,h1];rfl
  ·obtain ⟨RG,bw,_⟩:=jC.row
   refine .inr ⟨b6,o1,jC.spot,by rw [← C9.len];exact jC.cap,by have:=jC.wr;rwa [hsz] at this,?_,G1,C9.row bw,?_,fun _ _ h=>.inr h⟩
   ·intro j hj
    exact .inl (Uq _ _ (jC.inF j (by rw [hsz];exact hj)))
   ·intro j hj aD
    exact ae8 _ _ aD (Uq _ _ (jC.inF j (by rw [hsz];exact hj)))
end
end Go.LM
