/- Regions, loops and whole functions are what the interpreter says, and a law's reading fits them. Conditions: each theorem's own hypotheses. -/
import Derived.Test.YtlkbjdmfbadhaaaGreatDoorULmc
import Derived.Orders
import Derived.OrdersHeld
import Derived.Laws.StructEq
import Derived.WalkKit
import Derived.ProofKit
import Derived.OpenShut
import Derived.ShutString
import Derived.ChangeOld
import Derived.Below
import Derived.JoinedCond
import Derived.Lib.Bytealg
set_option linter.unusedVariables false
set_option linter.unusedSimpArgs false
namespace Go.LM
section
variable{P:Program}{Q:Exit→Act→World→Prop}
variable{w0:World}{F0 Z0:ag}{n:cM}{s av:ar}{a b5:Act}{w w':World}{ι bm:Nat→bH}{Z Z':ag}
variable{E:Env}{o:Oper}{bB : Type}{K:ar→Option bB}{r : bB}{id:Nat}
def hJ(w0:World)(F0 Z0:ag)(n:cM)(K:ar→Option bB)(r : bB)(a:Act)(w:World):Prop:=∃s,K s=some r∧c5 w0 F0 Z0 n s a w
theorem Ut(hn:E.n=n)(h:zQ E o=true):∀k,o.dst=some k→k<n:=by intro k hk;unfold zQ at h;rw [hk] at h;rw [← hn];exact Nat.le_of_ble_eq_true h
theorem Inv.Uu(h:Inv w0 F0 Z0 n s a w ι Z){d:Nat}{b:Bool}(hb:s.t d=.aV (.bool b)):Inv w0 F0 Z0 n (s.set d (.aV (.bool b))) a w ι Z∧a.tmps.getD d undef=.bool b:=by
 have af:=h.tmps d;rw [hb] at af;have jO:a.tmps.getD d undef=.bool b:=by simpa only [aT,cr] using af
 refine⟨h.tmp rfl (fun k=>?_) h.size h.defers,jO⟩;have hm:eU w Z s ι w Z (s.set d (.aV (.bool b))) ι := KA rfl;show aT w Z (s.set d (.aV (.bool b))) ι (bW s.t d (.aV (.bool b)) k) (a.tmps.getD k undef);by_cases hk:d=k
 ·subst hk;rw [cL,jO];simp only [aT,cr]
 ·rw [cW hk];exact(h.tmps k).move hm
theorem Uv(h:Inv w0 F0 Z0 n s a w ι Z)(af:∀k,o.dst=some k→k<n):c5 w0 F0 Z0 n (s.dst o.dst .gone) (a.put o.dst undef) w:=
 ⟨ι,Z,h.dst (by simp only [aT]) af⟩
theorem Uw{ops:Array Oper}(bR:j5 P E)(hn:E.n=n)(h:Inv w0 F0 Z0 n s a w ι Z)(hk:uE E id ops.toList o s K=some r) :
  if Region.wanted o (yielded ops a.tmps) then o.wp P a w (hJ w0 F0 Z0 n K r) Q else hJ w0 F0 Z0 n K r (a.put o.dst undef) w:=by
 unfold uE at hk;cases u7:zQ E o
 ·rw [u7] at hk;cases hk
 rw [u7] at hk;simp only [cond_true] at hk;have af:=Ut hn u7;have mb:∀ {s1:ar},Inv w0 F0 Z0 n s1 a w ι Z→cZ E id o s1 K=some r→o.wp P a w (hJ w0 F0 Z0 n K r) Q:=by intro s1 h1 hk1;obtain ⟨av,h2,h3⟩:=ae' (Q:=Q) bR h1 af hk1;exact Oper.wp_mono (fun a w hs=>⟨av,h2,hs⟩) h3
 have bS:∀ {s1:ar},Inv w0 F0 Z0 n s1 a w ι Z→K (s1.dst o.dst .gone)=some r→hJ w0 F0 Z0 n K r (a.put o.dst undef) w:=fun h1 hk1=>⟨_,hk1,Uv h1 af⟩
 unfold guardOf at hk
 cases aC:o.guard with
 | none=>rw [aC] at hk;simp only at hk;rw [if_pos (by simp [Region.wanted,aC])];exact mb h hk
 | some L4=>
  obtain ⟨j,wt⟩:=L4;rw [aC] at hk;simp only at hk
  cases hj:(ops.toList[j]?).bind (·.dst) with
  | none=>rw [hj] at hk;simp at hk
  | some d=>
   rw [hj] at hk;simp only at hk
   cases hst:s.t d with
   | aV c=>
    cases c with
    | bool b=>
     rw [hst] at hk;simp only at hk;obtain ⟨h1,h2⟩:=h.Uu hst
     have aR:yielded ops a.tmps j=some b:=by
      unfold yielded;rw [Array.getElem?_toList] at hj;rw [hj];simp only [al]
      have bO:d<a.tmps.size:=by
       rcases Nat.lt_or_ge d a.tmps.size with h | h
       ·exact h
       ·rw [Array.getD_eq_getD_getElem?,Array.getElem?_eq_none h] at h2;simp [undef] at h2
      rw [Array.getD_eq_getD_getElem?,Array.getElem?_eq_getElem bO] at h2;rw [Array.getElem?_eq_getElem bO];simp only [Option.getD_some] at h2;rw [h2]
     have hw:Region.wanted o (yielded ops a.tmps)=(b==wt):=by simp only [Region.wanted,aC,aR];cases b <;> cases wt <;> rfl
     rw [hw];cases b <;> cases wt <;> simp only [cond_true,cond_false] at hk
     ·exact mb h1 hk
     ·exact bS h1 hk
     ·exact bS h1 hk
     ·exact mb h1 hk
    | _=>rw [hst] at hk;simp at hk
   | gone=>
    rw [hst] at hk;simp only at hk;have h2:=h.tmps d;rw [hst] at h2;simp only [aT] at h2
    have aR:yielded ops a.tmps j=none:=by
     unfold yielded;rw [Array.getElem?_toList] at hj;rw [hj];simp only [al];rw [Array.getD_eq_getD_getElem?] at h2
     cases iQ:a.tmps[d]? with
     | none=>rfl
     | some v=>rw [iQ] at h2;simp only [Option.getD_some] at h2;subst h2;rfl
    have hw:Region.wanted o (yielded ops a.tmps)=false:=by simp only [Region.wanted,aC,aR];cases wt <;> rfl
    rw [hw];exact bS h hk
   | _=>rw [hst] at hk;simp at hk
theorem D6{ops:Array Oper}{R:Exit→Act→World→Prop}{i m:Nat}(hi:ops[i]?=some o)(aC:o.guard=none)(h:o.wp P a w (fun a w=>wpOps P ops R (List.range' (i+1) m) a w) R):wpOps P ops R (List.range' i (m+1)) a w:=by rw [List.range'_succ];simp only [wpOps,hi];rw [if_pos (by simp [Region.wanted,aC])];exact .inl h
theorem L5{bF:Nat}{ops:Array Oper}(bR:j5 P E)(hn:E.n=n):∀(m:Nat) (l:List Oper) (i:Nat) (s:ar) (a:Act) (w:World),l.length≤m→ops.toList.drop i=l→uF E bF ops.toList l i 0 s K=some r→c5 w0 F0 Z0 n s a w →
  wpOps P ops (fun e a w=>e=.normal∧hJ w0 F0 Z0 n K r a w) (List.range' i l.length) a w
 | _,[],i,s,a,w,_,_,hk,hs=>⟨rfl,s,hk,hs⟩
 | 0,_ :: _,_,_,_,_,hm,_,_,_=>by simp at hm
 | m+1,o :: l,i,s,a,w,hm,hl,hk,⟨ι,Z,h⟩=>by
  have hm:l.length≤m:=by simpa using hm
  have D7:∀(j:Nat) (o:Oper) (l:List Oper),ops.toList.drop j=o :: l→ops[j]?=some o∧ops.toList.drop (j+1)=l:=by intro j o l hl;refine⟨?_,by rw [← List.drop_drop,hl];rfl⟩;rw [← Array.getElem?_toList];have:=congrArg (·[0]?) hl;simpa using this
  obtain ⟨hi,gr⟩:=D7 i o l hl;simp only [uF] at hk;cases b2:Sy E s o
  ·rw [b2] at hk;simp only [cond_false] at hk;rw [List.length_cons,List.range'_succ];have o1:=Uw (Q:=fun e a w=>e=.normal∧hJ w0 F0 Z0 n K r a w) bR hn h hk;simp only [wpOps,hi]
   have rk:∀a w,hJ w0 F0 Z0 n (fun av=>uF E bF ops.toList l (i+1) 0 av K) r a w→wpOps P ops (fun e a w=>e=.normal∧hJ w0 F0 Z0 n K r a w) (List.range' (i+1) l.length) a w:=by
    rintro a w ⟨av,h1,h2⟩
    exact L5 bR hn m l (i+1) av a w hm gr h1 h2
   split
   ·rename_i hw;rw [if_pos hw] at o1;exact .inl (Oper.wp_mono rk o1)
   ·rename_i hw;rw [if_neg hw] at o1;exact rk _ _ o1
  ·rw [b2] at hk;simp only [cond_true] at hk;obtain ⟨dK,eT,e5,l',rfl,g0,g1,g2,g3,mH⟩:=afB (Q:=fun e a w=>e=.normal∧hJ w0 F0 Z0 n K r a w) bR hn h hk;obtain ⟨mL,hl1⟩:=D7 _ _ _ gr;obtain ⟨gw,d'⟩:=D7 _ _ _ hl1;obtain ⟨xM,L6⟩:=D7 _ _ _ d';refine D6 hi g0 (Oper.wp_mono (fun a w h=>D6 mL g1 (Oper.wp_mono (fun a w h=>D6 gw g2 (Oper.wp_mono (fun a w h=>D6 xM g3 (Oper.wp_mono (fun a w h=>?_) h)) h)) h)) mH);obtain ⟨av,h1,h2⟩:=h;exact L5 bR hn m l' (i+1+1+1+1) av a w (by simp at hm;omega) L6 h1 h2
theorem afL{bF:Nat}{ops:Array Oper}(bR:j5 P E)(hn:E.n=n)(l:List Oper)(i:Nat)(s:ar)(a:Act)(w:World)(hl:ops.toList.drop i=l)(hk:Ks E bF ops.toList l i s K=some r)(hs:c5 w0 F0 Z0 n s a w) :
  wpOps P ops (fun e a w=>e=.normal∧hJ w0 F0 Z0 n K r a w) (List.range' i l.length) a w:=L5 bR hn l.length l i s a w (Nat.le_refl _) hl hk hs
theorem afM{bF:Nat}{ops:Array Oper}(bR:j5 P E)(hn:E.n=n)(hk:Ks E bF ops.toList ops.toList 0 s K=some r)(hs:c5 w0 F0 Z0 n s a w)(b:Frame)(k:List Item)(cs:List Frame) :
  ∃b5 w',hJ w0 F0 Z0 n K r b5 w'∧Steps P (lone (b.at a (.code (.region bF ops false) :: k)) cs w) (lone (b.at b5 k) cs w'):=by
 have h:=afL (w0:=w0) (F0:=F0) (Z0:=Z0) (n:=n) bR hn ops.toList 0 s a w rfl hk hs;have h':wpOps P ops (fun e a w=>e=.normal∧hJ w0 F0 Z0 n K r a w) (List.range ops.size) a w:=by rw [List.range_eq_range'];simpa using h
 obtain ⟨e,b5,w',⟨rfl,hl⟩,harr⟩:=wp_ops _ a w h' b k cs;exact⟨b5,w',hl,.head step_region harr⟩
end
end Go.LM
namespace Go.LM
section
variable{P:Program}{ops:Array Oper}{Q:Exit→Act→World→Prop}
abbrev fZ:=List (Nat×(World→Prop))
def fZ.after(ops:Array Oper)(j:Nat)(p:fZ):fZ:=p.filter fun x=> !waits ops j x.1
def fZ.ok(p:fZ)(w:World):Prop:=∀x∈p,x.2 w
def o2(P:Program)(ops:Array Oper)(Q:Exit→Act→World→Prop):Nat→Array Bool→fZ→Act→World→Prop
 | 0,listed,_,a,w=>Region.ready .any ops listed=[]∧Q .normal a w
 | fuel+1,listed,jg,a,w=>
  (Region.ready .any ops listed=[]→Q .normal a w) ∧
  ∀j∈Region.ready .any ops listed,wpOp P ops Q j (fun b5 w'=>(jg.after ops j).ok w'∧o2 P ops Q fuel (listed.setIfInBounds j true) (jg.after ops j) b5 w') a w
theorem Ux:∀(fuel:Nat) (listed:Array Bool) (jg:fZ) (a:Act) (w:World),o2 P ops Q fuel listed jg a w→wpAny P .any ops Q fuel listed a w
 | 0,_,_,_,_,h=>h
 | fuel+1,_,_,_,_,h=>⟨h.1,fun i hi=>wpOp_mono (fun b5 w' h'=>Ux fuel _ _ b5 w' h'.2) (h.2 i hi)⟩
theorem fZ.Uy{p q:fZ}(h:∀x∈p,x∈q)(j:Nat):∀x∈p.after ops j,x∈q.after ops j:=by intro x hx;unfold fZ.after at *;rw [List.mem_filter] at *;exact⟨h x hx.1,hx.2⟩
theorem Uz:∀(fuel:Nat) (listed:Array Bool) (p q:fZ) (a:Act) (w:World),(∀x∈p,x∈q)→o2 P ops Q fuel listed q a w→o2 P ops Q fuel listed p a w
 | 0,_,_,_,_,_,_,h=>h
 | fuel+1,_,p,q,_,_,hs,h=>⟨h.1,fun i hi=>wpOp_mono (fun b5 w' h'=>⟨fun x hx=>h'.1 x (fZ.Uy hs i x hx),Uz fuel _ _ _ b5 w' (fZ.Uy hs i) h'.2⟩) (h.2 i hi)⟩
theorem fZ.L7{p:fZ}{j:Nat}{x:Nat×(World→Prop)}(hx:x∈p.after ops j):x∈p:=(List.mem_filter.1 hx).1
theorem afN{i:Nat}{mY:Oper}{v:Value}{S:World→Prop}(hi:ops[i]?=some mY)(x':∀(j:Nat) (o:Oper) cs b,ops[j]?=some o→o.op≠.select cs b)
  (n2:∀c a w,Q (.panic c) (a.put mY.dst v) w→Q (.panic c) a w) :
  ∀(fuel:Nat) (listed:Array Bool) (jg:fZ) (a:Act) (w:World),
   (∀j n3,ops[j]?=some n3→j≠i→listed.getD j true=false→(∀e∈n3.after,Region.binds .any e=true→e.on≠i)→mY.apart ops n3=true) →
   i∈Region.ready .any ops listed→YieldsIf P ops S mY v a→S w→jg.ok w →
   o2 P ops Q fuel (listed.setIfInBounds i true) ((i,S) :: jg) (a.put mY.dst v) w→o2 P ops Q (fuel+1) listed jg a w:=by
 intro fuel
 induction fuel with
 | zero=>
  intro listed jg a w _ hr aR de aw H;refine⟨fun h=>(by rw [h] at hr;cases hr),fun j hj=>?_⟩;by_cases kS:j=i
  ·subst kS;exact aR.wpOp hi de ⟨fun x hx=>aw x (fZ.L7 hx),H⟩
  ·have:=ready_mono hj kS;rw [H.1] at this;cases this
 | succ fuel ih=>
  intro listed jg a w fs hr aR de aw H;refine⟨fun h=>(by rw [h] at hr;cases hr),fun j hj=>?_⟩;by_cases kS:j=i
  ·subst kS;exact aR.wpOp hi de ⟨fun x hx=>aw x (fZ.L7 hx),Uz _ _ _ _ _ _ (fun x hx=>List.mem_cons_of_mem _ (fZ.L7 hx)) H⟩
  ·have h1:=H.2 j (ready_mono hj kS);obtain ⟨UA,n3,D8,LH⟩:=mem_ready.1 hj
   have UB:∀e∈n3.after,Region.binds .any e=true→e.on≠i:=fun e he hb heq=>by
    have h1:=LH e he hb;have h0:=(mem_ready.1 hr).1;rw [heq] at h1;rcases Nat.lt_or_ge i listed.size with h' | h'
    ·simp [h'] at h0 h1;rw [h0] at h1;cases h1
    ·simp [Array.getElem?_eq_none h'] at h1
   have afO:waits ops j i=false:=by unfold waits;rw [D8];simp only;rw [Bool.eq_false_iff];intro afP;obtain ⟨e,he,hb⟩:=Array.any_eq_true'.1 afP;simp only [Bool.and_eq_true] at hb;exact UB e he hb.1 (Nat.eq_of_beq_eq_true hb.2)
   have afQ:fZ.after ops j ((i,S) :: jg)=(i,S) :: jg.after ops j:=by unfold fZ.after;rw [List.filter_cons_of_pos (by simp [afO])]
   rw [afQ] at h1;have h2:=wpOp_putIf D8 (fs j n3 D8 kS UA UB) (fun cs b=>x' i mY cs b hi) (fun cs b=>x' j n3 cs b D8) n2 aR h1
   have afR:∀k ok,ops[k]?=some ok→k≠i→(listed.setIfInBounds j true).getD k true=false →
     (∀e∈ok.after,Region.binds .any e=true→e.on≠i)→mY.apart ops ok=true:=fun k ok hk iz ya bS=>by
    refine fs k ok hk iz ?_ bS;by_cases l8:j=k
    ·subst l8;exact UA
    ·rw [getD_set_ne true l8] at ya;exact ya
   refine wpOp_mono (fun b5 w' h3=>⟨fun x hx=>h3.2.1 x (List.mem_cons_of_mem _ hx),ih (listed.setIfInBounds j true) _ b5 w' afR (ready_mono hr (Ne.symm kS)) h3.1 (h3.2.1 _ List.mem_cons_self) (fun x hx=>h3.2.1 x (List.mem_cons_of_mem _ hx)) ?_⟩) h2;rw [Array.setIfInBounds_comm _ _ kS];exact h3.2.2
end
end Go.LM
namespace Go.LM
section
variable{P:Program}{Q:Exit→Act→World→Prop}
variable{w0:World}{F0 Z0:ag}{n:cM}{s av:ar}{a b5:Act}{w w':World}{ι bm:Nat→bH}{Z Z':ag}
variable{E:Env}{o:Oper}{bB : Type}{K:ar→Option bB}{r : bB}{id:Nat}
structure cM.le(p q:cM):Prop where
 n:q.n=p.n
 q0:q.q0=p.q0
 gc:∀e,e∈p.gc→e∈q.gc
theorem cM.le.refl(n:cM):cM.le n n:=⟨rfl,rfl,fun _ h=>h⟩
theorem cM.le.trans{a b c:cM}(h:cM.le a b)(k:cM.le b c):cM.le a c:=⟨k.n.trans h.n,k.q0.trans h.q0,fun e he=>k.gc e (h.gc e he)⟩
theorem Inv.forget{dn:cM}(h:Inv w0 F0 Z0 dn s a w ι Z)(hl:cM.le n dn):Inv w0 F0 Z0 n s a w ι Z:=
 ⟨h.ext,h.dL,h.sC,h.ji,h.gf,h.own,h.apart,h.db,h.tmps,by rw [h.size,hl.n],by rw [← hl.q0];exact h.ghost,fun e he=>h.seen e (hl.gc e he),h.defers⟩
theorem Inv.UC(h:Inv w0 F0 Z0 n s a w ι Z){e:Seen}(he:uK w Z s ι e):Inv w0 F0 Z0 ⟨n.n,n.q0,e :: n.gc⟩ s a w ι Z:=
 ⟨h.ext,h.dL,h.sC,h.ji,h.gf,h.own,h.apart,h.db,h.tmps,h.size,h.ghost,fun x hx=>by rcases List.mem_cons.1 hx with rfl | hx;exact he;exact h.seen x hx,h.defers⟩
theorem UD(n:cM)(e:Seen):cM.le n ⟨n.n,n.q0,e :: n.gc⟩:=⟨rfl,rfl,fun _ h=>List.mem_cons_of_mem _ h⟩
def sZ(n:cM)(dp:List (Nat×Nat))(S:World→Prop):Prop:=(∀w,S w)∨∃b i vs,(⟨dp,b,i,vs⟩:Seen)∈n.gc∧S=fun w=>cc w b i vs
theorem sZ.le{dn:cM}{dp:List (Nat×Nat)}{S:World→Prop}(h:sZ n dp S)(hl:cM.le n dn):sZ dn dp S:=
 h.imp (fun h=>h) fun⟨b,i,vs,h1,h2⟩=>⟨b,i,vs,hl.gc _ h1,h2⟩
def Reads(P:Program)(w0:World)(F0 Z0:ag)(n:cM)(dp:List (Nat×Nat))(o:Oper)(a:Act)(w:World)(av:ar):Prop:=
 ∃v S dn,(∀w',S w'→(execOp a.eval o).run P w'=.ok (.value v) w')∧S w∧c5 w0 F0 Z0 dn av (a.put o.dst v) w∧cM.le n dn∧sZ dn dp S
theorem Pure.reads{dp:List (Nat×Nat)}(h:Pure P o a w (c5 w0 F0 Z0 n av)):Reads P w0 F0 Z0 n dp o a w av:=by obtain ⟨v,h1,h2⟩:=h;exact⟨v,fun _=>True,n,fun w' _=>h1 w',trivial,h2,.refl n,.inl fun _=>trivial⟩
theorem afS{t:Nat}{x:Operand}(b2:hB P E)(h:Inv w0 F0 Z0 n s a w ι Z)(af:∀k,o.dst=some k→k<n)(ho:o.op=.load t x)(hk:cZ E id o s K=some r) :
  ∃av,K av=some r∧Reads P w0 F0 Z0 n (jf s o) o a w av:=by
 unfold cZ at hk;rw [ho] at hk;simp only at hk;have hx:=fe h x
 have hrun:∀ {T:ad} {b i:Nat} {vs:List Value} {w':World},E.ty t=some T→a.eval x=.pointer (some (at_ b i))→cc w' b i vs→vs.length=T.size →
   (execOp a.eval o).run P w'=.ok (.value (dN T vs)) w':=by
  intro T b i vs w' ht he hc hl;unfold execOp;rw [ho];refine gk ?_;simp only [Instr.loadAt,Instr.sureAddr,he,run_bind,run_pure,KQ (b2.ty t T ht) hc hl]
 cases ht:E.ty t with
 | none=>rw [ht] at hk;simp at hk
 | some T=>
  rw [ht] at hk
  cases cQ:bZ s x with
  | ptr p=>
   have nJ:jf s o=[(p.id,kM s p.id)]:=by unfold jf;rw [ho];simp only [cQ]
   rw [cQ] at hk hx;simp only at hk
   cases c8:(mA s T.size p).bind (kh T) with
   | none=>rw [c8] at hk;simp at hk
   | some v=>
    rw [c8] at hk;obtain ⟨cs,h1,h2⟩:=bd c8;simp only [aT] at hx;obtain ⟨_,A,he,aw⟩:=hx;obtain ⟨b,i,vs,rfl,hc,cC,hl,ck,hF⟩:=TM h h1 aw;have L8:uK w Z s ι ⟨jf s o,b,i,vs⟩:=by rw [nJ];refine⟨fun d af=>?_,fun _=>⟨cC,fun j hj=>.inr ⟨_,List.mem_singleton.2 rfl,hF j (by simp only at hj;omega)⟩⟩⟩;rw [List.mem_singleton] at af;subst af;exact⟨fun hn=>by rw [hn] at ck;exact ck,.inr (Nat.le_refl _)⟩
    exact⟨_,hk,_,fun w'=>cc w' b i vs,_,fun w' hw=>hrun ht he hw hl,cC,⟨ι,Z,(h.UC L8).dst (pW h2 hc) af⟩,UD n ⟨jf s o,_,_,_⟩,.inr ⟨b,i,vs,List.mem_cons_self,rfl⟩⟩
  | du dp cs off=>
   have nJ:jf s o=dp:=by unfold jf;rw [ho];simp only [cQ]
   rw [cQ] at hk hx;simp only at hk
   cases c8:(takeN off T.size cs).bind (kh T) with
   | none=>rw [c8] at hk;simp at hk
   | some v=>
    rw [c8] at hk;simp only at hk;cases dF:alive s dp
    ·rw [dF] at hk;simp at hk
    rw [dF] at hk;obtain ⟨ds,h1,h2⟩:=bd c8;obtain ⟨h3,rfl⟩:=pT h1;simp only [aT] at hx;obtain ⟨cl,b,i,vs,he,hx⟩:=hx;obtain ⟨hc,cC,hz⟩:=hx dF;have hlen:=hc.len;have UE:cc w b (i+off) (part vs off T.size):=cC.part off T.size;have gl:(part vs off T.size).length=T.size:=by simp [part];omega
    have L8:uK w Z s ι ⟨jf s o,b,i+off,part vs off T.size⟩:=by rw [nJ];refine⟨cl,fun _=>⟨UE,fun j hj=>?_⟩⟩;simp only at hj;rw [gl] at hj;have:=hz (off+j) (by omega);rwa [← Nat.add_assoc] at this
    exact⟨_,hk,_,fun w'=>cc w' b (i+off) (part vs off T.size),_,fun w' hw=>hrun ht he hw gl,UE,⟨ι,Z,(h.UC L8).dst (pW h2 ((hc.drop _).take _)) af⟩,UD n ⟨jf s o,_,_,_⟩,.inr ⟨b,i+off,part vs off T.size,List.mem_cons_self,rfl⟩⟩
  | _=>rw [cQ] at hk;simp at hk
theorem afT(bR:j5 P E)(h:Inv w0 F0 Z0 n s a w ι Z)(af:∀k,o.dst=some k→k<n)(c8:uG E o=true)(hk:cZ E id o s K=some r) :
  ∃av,K av=some r∧Reads P w0 F0 Z0 n (jf s o) o a w av:=by
 have ft:(∃av,K av=some r∧Pure P o a w (c5 w0 F0 Z0 n av))→∃av,K av=some r∧Reads P w0 F0 Z0 n (jf s o) o a w av:=fun⟨av,h1,h2⟩=>⟨av,h1,h2.reads⟩
 unfold uG at c8
 cases ho:o.op with
 | move x=>exact ft (Dk h af (.inl ho) hk)
 | assign x=>exact ft (Dk h af (.inr ho) hk)
 | pick c x y=>exact ft (SV h af ho hk)
 | load t x=>exact afS bR.ty h af ho hk
 | nilCheck x=>exact ft (SX h af ho hk)
 | binOp op t x y Dp=>exact ft (Td bR.ty bR.eq h af ho hk)
 | unOp op t x=>exact ft (Ta h af ho hk)
 | convert st gy x=>
  rw [ho] at c8;simp only at c8
  cases h1:E.ty st with
  | none=>rw [h1] at c8;simp at c8
  | some S=>
   cases h2:E.ty gy with
   | none=>rw [h1,h2] at c8;cases S <;> simp at c8
   | some T=>rw [h1,h2] at c8;cases S <;> cases T <;> simp only at c8 <;> first | (cases c8;done) | exact ft (aeg bR.ty h af ho h1 h2 hk)
 | build t ps=>exact ft (Tt bR.ty h af ho hk)
 | makeFunc f first lR=>
  cases f with
  | func f=>exact ft (S2 h af ho hk)
  | _=>unfold cZ at hk;rw [ho] at hk;simp at hk
 | slice t x lo hi fH=>exact ft (S8 bR.ty h af ho hk)
 | fieldAddr t x f=>exact ft (SZ bR.ty h af ho hk)
 | field t x f=>exact ft (S0 bR.ty h af ho hk)
 | indexAddr t x i=>exact ft (S3 bR.ty h af ho hk)
 | index t x i=>exact ft (S4 bR.ty h af ho hk)
 | extract x i=>exact ft (S1 h af ho hk)
 | call c=>
  rw [ho] at c8;simp only at c8
  cases hc:c.callee with
  | builtin b=>
   rw [hc] at c8;by_cases hb:b=.append
   ·subst hb;simp at c8
   ·by_cases hb2:b=.clear
    ·subst hb2;simp at c8
    ·exact ft (Tn bR.ty h af ho hc hb hb2 hk)
  | value f=>rw [hc] at c8;simp at c8
  | invoke x m=>rw [hc] at c8;simp at c8
 | _=>rw [ho] at c8;simp at c8
theorem afU{d:Nat}{c:ba}(hst:s.t d=c)(x:Operand):bZ (s.set d c) x=bZ s x:=by
 cases x with
 | tmp t=>
  show bW s.t d c t=s.t t;by_cases af:d=t
  ·subst af;rw [cL,hst]
  ·rw [cW af]
 | _=>rfl
theorem UF{d:Nat}{c:ba}(hst:s.t d=c):jf (s.set d c) o=jf s o:=by
 unfold jf;cases ho:o.op <;> simp only
 rename_i t x;rw [afU hst];rfl
theorem afV{ops:Array Oper}(bR:j5 P E)(hn:E.n=n)(c8:uG E o=true)(h:Inv w0 F0 Z0 n s a w ι Z)(hk:uE E id ops.toList o s K=some r) :
  ∃av v S dn,K av=some r∧YieldsIf P ops S o v a∧S w∧c5 w0 F0 Z0 dn av (a.put o.dst v) w∧cM.le n dn∧sZ dn (jf s o) S:=by
 unfold uE at hk;cases u7:zQ E o
 ·rw [u7] at hk;cases hk
 rw [u7] at hk;simp only [cond_true] at hk;have af:=Ut hn u7;have mb:∀ {s1:ar},Region.wanted o (yielded ops a.tmps)=true→jf s1 o=jf s o→Inv w0 F0 Z0 n s1 a w ι Z→cZ E id o s1 K=some r→∃av v S dn,K av=some r∧YieldsIf P ops S o v a∧S w∧c5 w0 F0 Z0 dn av (a.put o.dst v) w∧cM.le n dn∧sZ dn (jf s o) S:=by intro s1 hw he h1 hk1;obtain ⟨av,h2,v,S,dn,h3,h4,a7,bh,bJ⟩:=afT bR h1 af c8 hk1;exact⟨av,v,S,dn,h2,.inl ⟨hw,h3⟩,h4,a7,bh,he ▸ bJ⟩
 have bS:∀ {s1:ar},Region.wanted o (yielded ops a.tmps)=false→Inv w0 F0 Z0 n s1 a w ι Z→K (s1.dst o.dst .gone)=some r→∃av v S dn,K av=some r∧YieldsIf P ops S o v a∧S w∧c5 w0 F0 Z0 dn av (a.put o.dst v) w∧cM.le n dn∧sZ dn (jf s o) S:=fun hw h1 hk1=>⟨_,undef,fun _=>True,n,hk1,.inr ⟨hw,rfl⟩,trivial,Uv h1 af,.refl n,.inl fun _=>trivial⟩
 unfold guardOf at hk
 cases aC:o.guard with
 | none=>rw [aC] at hk;simp only at hk;exact mb (by simp [Region.wanted,aC]) rfl h hk
 | some L4=>
  obtain ⟨j,wt⟩:=L4;rw [aC] at hk;simp only at hk
  cases hj:(ops.toList[j]?).bind (·.dst) with
  | none=>rw [hj] at hk;simp at hk
  | some d=>
   rw [hj] at hk;simp only at hk
   cases hst:s.t d with
   | aV c=>
    cases c with
    | bool b=>
     rw [hst] at hk;simp only at hk;obtain ⟨h1,h2⟩:=h.Uu hst
     have aR:yielded ops a.tmps j=some b:=by
      unfold yielded;rw [Array.getElem?_toList] at hj;rw [hj];simp only [al]
      have bO:d<a.tmps.size:=by
       rcases Nat.lt_or_ge d a.tmps.size with h | h
       ·exact h
       ·rw [Array.getD_eq_getD_getElem?,Array.getElem?_eq_none h] at h2;simp [undef] at h2
      rw [Array.getD_eq_getD_getElem?,Array.getElem?_eq_getElem bO] at h2;rw [Array.getElem?_eq_getElem bO];simp only [Option.getD_some] at h2;rw [h2]
     have hw:Region.wanted o (yielded ops a.tmps)=(b==wt):=by simp only [Region.wanted,aC,aR];cases b <;> cases wt <;> rfl
     cases b <;> cases wt <;> simp only [cond_true,cond_false] at hk
     ·exact mb hw (UF hst) h1 hk
     ·exact bS hw h1 hk
     ·exact bS hw h1 hk
     ·exact mb hw (UF hst) h1 hk
    | _=>rw [hst] at hk;simp at hk
   | gone=>
    rw [hst] at hk;simp only at hk;have h2:=h.tmps d;rw [hst] at h2;simp only [aT] at h2
    have aR:yielded ops a.tmps j=none:=by
     unfold yielded;rw [Array.getElem?_toList] at hj;rw [hj];simp only [al];rw [Array.getD_eq_getD_getElem?] at h2
     cases iQ:a.tmps[d]? with
     | none=>rfl
     | some v=>rw [iQ] at h2;simp only [Option.getD_some] at h2;subst h2;rfl
    have hw:Region.wanted o (yielded ops a.tmps)=false:=by simp only [Region.wanted,aC,aR];cases wt <;> rfl
    exact bS hw h hk
   | _=>rw [hst] at hk;simp at hk
theorem afW{a b:Option bB}(h:both a b=some r):a=some r∧b=some r:=by
 unfold both at h;split at h
 ·rename_i he;subst he;exact⟨h,h⟩
 ·cases h
theorem UG:∀ {l:List (Option bB)},Dd l=some r→∀x∈l,x=some r
 | [x],h,y,aR=>by rw [List.mem_singleton] at aR;rw [aR];exact h
 | x :: z :: l,h,y,aR=>by
  simp only [Dd] at h;obtain ⟨h1,h2⟩:=afW h;rcases List.mem_cons.1 aR with rfl | aR
  ·exact h1
  ·exact UG (l:=z :: l) h2 y aR
def yb(n:cM)(p:List (Nat×List (Nat×Nat)))(q:fZ):Prop:=∀x∈q,∃dp,(x.1,dp)∈p∧sZ n dp x.2
theorem yb.le{dn:cM}{p:List (Nat×List (Nat×Nat))}{q:fZ}(h:yb n p q)(hl:cM.le n dn):yb dn p q:=
 fun x hx=>let ⟨dp,h1,h2⟩:=h x hx;⟨dp,h1,h2.le hl⟩
theorem L9:∀ {p:List (Nat×List (Nat×Nat))},uH s p=true→∀x∈p,alive s x.2=true
 | [],_,_,hx=>by simp at hx
 | y :: p,h,x,hx=>by
  unfold uH at h;cases ha:alive s y.2
  ·rw [ha] at h;cases h
  ·rw [ha] at h;rcases List.mem_cons.1 hx with rfl | hx
   ·exact ha
   ·exact L9 h x hx
theorem afX{bF:Nat}{ops:Array Oper}(bR:j5 P E){m:Nat}{listed:Array Bool}{p:List (Nat×List (Nat×Nat))}{q:fZ}{dn:cM}{rs:List Nat}(hn:E.n=dn)(hle:cM.le n dn)(hr:Region.ready .any ops listed=rs)
  (h:Inv w0 F0 Z0 dn s a w ι Z) (aw:yb dn p q) (hk:Kw E bF ops listed p rs s K=some r):o2 P ops (fun e a w=>e=.normal∧hJ w0 F0 Z0 n K r a w) (m+3+1) listed q a w:=by
 have D9:∀ {l:List Nat} {i:Nat},one l=some i→l=[i]:=by
  intro l i h
  match l,h with
  | [j],h=>rw [aW (show some j=some i from h)]
 unfold Kw at hk;obtain ⟨i,h0,hk⟩:=bd hk;obtain ⟨i1,h1,hk⟩:=bd hk;obtain ⟨i2,h2,hk⟩:=bd hk;obtain ⟨i3,h3,hk⟩:=bd hk;have h0:=hr.trans (D9 h0);have h1:=D9 h1;have h2:=D9 h2;have h3:=D9 h3;generalize hl1:listed.setIfInBounds i true=ea at hk h1 h2 h3;generalize d':ea.setIfInBounds i1 true=eV at hk h2 h3;generalize L6:eV.setIfInBounds i2 true=oR at hk h3;generalize afY:oR.setIfInBounds i3 true=pV at hk;cases hb:((Region.ready .any ops pV).isEmpty&&((p.filter fun p=> !waits ops i p.1).filter fun p=> !waits ops i1 p.1).isEmpty)
 ·rw [hb] at hk;cases hk
 rw [hb] at hk;simp only [cond_true] at hk;simp only [Bool.and_eq_true,List.isEmpty_iff] at hb;obtain ⟨h4,afZ⟩:=hb;obtain ⟨o,ho,hk⟩:=bd hk;obtain ⟨dK,mV,hk⟩:=bd hk;obtain ⟨eT,kn,hk⟩:=bd hk;obtain ⟨e5,rh,hk⟩:=bd hk;obtain ⟨g0,g1,g2,g3,mH⟩:=afJ (Q:=fun e a w=>e=.normal∧hJ w0 F0 Z0 n K r a w) bR hn h hk
 have step:∀ {fuel j:Nat} {n3:Oper} {l:Array Bool} {q:fZ} {a:Act} {w:World},Region.ready .any ops l=[j]→ops[j]?=some n3→n3.guard=none →
   n3.wp P a w (fun b5 w'=>(q.after ops j).ok w'∧o2 P ops (fun e a w=>e=.normal∧hJ w0 F0 Z0 n K r a w) fuel (l.setIfInBounds j true) (q.after ops j) b5 w') (fun e a w=>e=.normal∧hJ w0 F0 Z0 n K r a w) →
   o2 P ops (fun e a w=>e=.normal∧hJ w0 F0 Z0 n K r a w) (fuel+1) l q a w:=by
  intro fuel j n3 l q a w hr hj aC hw;refine⟨fun h=>(by rw [hr] at h;cases h),fun k hk=>?_⟩;rw [hr] at hk;obtain rfl:=List.mem_singleton.1 hk;unfold wpOp;simp only [hj];rw [if_pos (by simp [Region.wanted,aC])];exact .inl hw
 have jn:fZ.after ops i1 (fZ.after ops i q)=[]:=by
  refine List.eq_nil_iff_forall_not_mem.2 fun x hx=>?_
  obtain ⟨hx,hx1⟩:=List.mem_filter.1 hx;obtain ⟨hx,hx0⟩:=List.mem_filter.1 hx;obtain ⟨dp,g1,_⟩:=aw x hx;have:(x.1,dp)∈((p.filter fun p=> !waits ops i p.1).filter fun p=> !waits ops i1 p.1):=List.mem_filter.2 ⟨List.mem_filter.2 ⟨g1,hx0⟩,hx1⟩;rw [afZ] at this;cases this
 have nil:∀(j:Nat),fZ.after ops j []=[]:=fun _=>rfl
 refine step h0 ho g0 (Oper.wp_mono ?_ mH)
 rintro a1 n1 ⟨⟨oM,jN,bm,Z',k2⟩,mH⟩
 refine⟨?_,?_⟩
 ·intro x hx;obtain ⟨hx1,hx2⟩:=List.mem_filter.1 hx;obtain ⟨dp,f1,f2⟩:=aw x hx1;rcases f2 with f2 | ⟨b,j,vs,f2,f3⟩
  ·exact f2 n1
  ·rw [f3];exact((k2.seen _ f2).2 (L9 jN _ (List.mem_filter.2 ⟨f1,hx2⟩))).1
 rw [hl1];refine step h1 mV g1 (Oper.wp_mono ?_ mH);intro a2 ch mH;rw [jn,d'];refine⟨fun x hx=>(by cases hx),step h2 kn g2 (Oper.wp_mono ?_ mH)⟩;intro a3 p9 mH;rw [nil,L6];refine⟨fun x hx=>(by cases hx),step h3 rh g3 (Oper.wp_mono ?_ mH)⟩
 rintro a4 af0 ⟨av,e1,Uc,af1,e2⟩
 rw [nil,afY];refine⟨fun x hx=>(by cases hx),?_⟩;have hfin:Exit.normal=.normal∧hJ w0 F0 Z0 n K r a4 af0:=⟨rfl,av,e1,Uc,af1,e2.forget hle⟩
 cases m with
 | zero=>exact⟨h4,hfin⟩
 | succ m=>exact⟨fun _=>hfin,fun j hj=>(by rw [h4] at hj;cases hj)⟩
theorem L_{bF:Nat}{ops:Array Oper}(bR:j5 P E)(hs:Region.noSelect ops=true):∀(m:Nat) (listed:Array Bool) (p:List (Nat×List (Nat×Nat))) (q:fZ) (dn:cM) (s:ar) (a:Act) (w:World),
  E.n=dn→cM.le n dn→uI E bF ops m listed p s K=some r→c5 w0 F0 Z0 dn s a w→yb dn p q→q.ok w →
  o2 P ops (fun e a w=>e=.normal∧hJ w0 F0 Z0 n K r a w) m listed q a w
 | 0,listed,p,q,dn,s,a,w,hn,hle,hk,⟨ι,Z,h⟩,aw,hq=>by
  unfold uI at hk
  cases hr:Region.ready .any ops listed with
  | nil=>rw [hr] at hk;exact⟨hr,rfl,s,hk,ι,Z,h.forget hle⟩
  | cons=>rw [hr] at hk;cases hk
 | m+1,listed,p,q,dn,s,a,w,hn,hle,hk,⟨ι,Z,h⟩,aw,hq=>by
  unfold uI at hk
  cases hr:Region.ready .any ops listed with
  | nil=>rw [hr] at hk;exact⟨fun _=>⟨rfl,s,hk,ι,Z,h.forget hle⟩,fun j hj=>by rw [hr] at hj;simp at hj⟩
  | cons i0 UH=>
   rw [hr] at hk;simp only at hk
   cases hf:(i0 :: UH).find? fun i=>Kt E ops i&&Region.free .any ops listed i with
   | some i=>
    rw [hf] at hk;simp only at hk;have h3:=List.find?_some hf;simp only [Bool.and_eq_true] at h3
    cases ho:ops[i]? with
    | none=>rw [ho] at hk;cases hk
    | some o=>
     rw [ho] at hk;simp only at hk;have c8:uG E o=true:=by have:=h3.1;unfold Kt at this;rw [ho] at this;exact this
     obtain ⟨av,v,S,kk,h1,h2,g3,h4,a7,bh⟩:=afV bR hn c8 h hk;refine afN ho (Region.noSelect_spec hs) (fun c a w hh=>by simp at hh) m listed q a w (Region.free_spec ho h3.2) (by rw [hr];exact List.mem_of_find?_eq_some hf) h2 g3 hq ?_;refine L_ bR hs m _ _ _ kk av _ w (hn.trans a7.n.symm) (hle.trans a7) h1 h4 ?_ ?_
     ·intro x hx;rcases List.mem_cons.1 hx with rfl | hx
      ·exact⟨_,List.mem_cons_self,bh⟩
      ·obtain ⟨dp,g1,g2⟩:=aw x hx;exact⟨dp,List.mem_cons_of_mem _ g1,g2.le a7⟩
     ·intro x hx;rcases List.mem_cons.1 hx with rfl | hx
      ·exact g3
      ·exact hq x hx
   | none=>
    rw [hf] at hk;simp only at hk;cases hA:(Sz s ops (i0 :: UH)&&Nat.ble 3 m)
    case true=>
     rw [hA] at hk;simp only [cond_true] at hk;simp only [Bool.and_eq_true] at hA;obtain ⟨m',rfl⟩:∃m',m=m'+3:=⟨m-3,by have:=Nat.le_of_ble_eq_true hA.2;omega⟩
     exact afX bR hn hle hr h aw hk
    rw [hA] at hk;simp only [cond_false] at hk;refine⟨fun h0=>(by rw [hr] at h0;cases h0),fun j hj=>?_⟩;rw [hr] at hj;have hj':=UG hk _ (List.mem_map.2 ⟨j,hj,rfl⟩)
    cases ho:ops[j]? with
    | none=>rw [ho] at hj';cases hj'
    | some o=>
     rw [ho] at hj';simp only at hj';cases c8:uG E o
     case true=>rw [c8] at hj';cases hj'
     rw [c8] at hj';simp only [cond_false] at hj';have o1:=Uw (Q:=fun e a w=>e=.normal∧hJ w0 F0 Z0 n K r a w) bR hn h hj'
     have rk:∀b5 w',hJ w0 F0 Z0 dn (fun av=>cond (uH av (p.filter fun p=> !waits ops j p.1)) (uI E bF ops m (listed.setIfInBounds j true) (p.filter fun p=> !waits ops j p.1) av K) none) r b5 w' →
       (q.after ops j).ok w'∧o2 P ops (fun e a w=>e=.normal∧hJ w0 F0 Z0 n K r a w) m (listed.setIfInBounds j true) (q.after ops j) b5 w':=by
      rintro b5 w' ⟨av,k1,bm,Z',k2⟩
      dsimp only at k1;cases dF:uH av (p.filter fun p=> !waits ops j p.1)
      ·rw [dF] at k1;cases k1
      rw [dF] at k1;simp only [cond_true] at k1;have D_:yb dn (p.filter fun p=> !waits ops j p.1) (q.after ops j):=by intro x hx;obtain ⟨hx1,hx2⟩:=List.mem_filter.1 hx;obtain ⟨dp,g1,g2⟩:=aw x hx1;exact⟨dp,List.mem_filter.2 ⟨g1,hx2⟩,g2⟩
      have cl:(q.after ops j).ok w':=by
       intro x hx;obtain ⟨dp,g1,g2⟩:=D_ x hx;rcases g2 with g2 | ⟨b,i,vs,g2,g3⟩
       ·exact g2 w'
       ·rw [g3];exact((k2.seen _ g2).2 (L9 dF _ g1)).1
      exact⟨cl,L_ bR hs m _ _ _ dn av b5 w' hn hle k1 ⟨bm,Z',k2⟩ D_ cl⟩
     unfold wpOp;simp only [ho];split
     ·rename_i hw;rw [if_pos hw] at o1;exact .inl (Oper.wp_mono rk o1)
     ·rename_i hw;rw [if_neg hw] at o1;exact rk _ _ o1
theorem af2{bF:Nat}{ops:Array Oper}(bR:j5 P E)(hn:E.n=n)(hk:Kx E bF ops s K=some r)(hs:c5 w0 F0 Z0 n s a w)(b:Frame)(k:List Item)(cs:List Frame) :
  ∃b5 w',hJ w0 F0 Z0 n K r b5 w'∧Steps P (lone (b.at a (.code (.region bF ops true) :: k)) cs w) (lone (b.at b5 k) cs w'):=by
 unfold Kx at hk;cases x':Region.noSelect ops
 ·rw [x'] at hk;cases hk
 rw [x'] at hk;simp only [cond_true] at hk;obtain ⟨ι,Z,h⟩:=hs;have h1:=L_ (n:=n) bR x' ops.size _ [] [] n s a { w with drawn:=w.drawn+1 } hn (.refl n) hk ⟨ι,Z,h.drew _⟩ (fun x hx=>by simp at hx) (fun x hx=>by simp at hx);obtain ⟨e,b5,w',⟨rfl,hl⟩,harr⟩:=(wp_region_any (id:=bF) bR.mix (Ux _ _ _ _ _ h1)) b k cs;exact⟨b5,w',hl,harr⟩
end
end Go.LM
namespace Go.LM
section
variable{P:Program}{w0:World}{F0 Z0:ag}{n:cM}{E:Env}{bB : Type}{r : bB}
def mc:Code→List Item→List (Nat×List Item)
 | .region bF ops im,k=>[(bF,.code (.region bF ops im) :: k)]
 | .seq a b,k=>mc a (.code b :: k)++mc b k
 | .cond _ x y,k=>mc x k++mc y k
 | .block id c,k=>mc c (.inBlock id :: k)
 | .loop c,k=>mc c (.inLoop c :: k)
 | _,_=>[]
def gW:List Item→List (Nat×List Item)
 | []=>[]
 | .code c :: k=>mc c k++gW k
 | .inLoop c :: k=>mc c (.inLoop c :: k)++gW k
 | _ :: k=>gW k
theorem UI{id:Nat} : ∀ {k k':List Item},exitTo id k=some k'→∀p,p∈gW k'→p∈gW k
 | [],_,h,_,_=>by simp [exitTo] at h
 | x :: k,k',h,p,aw=>by
  have key:(∃i,x=.inBlock i∧k'=k)∨exitTo id k=some k':=by
   cases x with
   | inBlock i=>
    simp only [exitTo] at h;by_cases hi:(i==id)=true
    ·rw [if_pos hi] at h;exact .inl ⟨i,rfl,(aW h).symm⟩
    ·rw [if_neg hi] at h;exact .inr h
   | _=>exact .inr h
  rcases key with⟨i,rfl,rfl⟩ | hk
  ·exact aw
  ·have:=UI hk p aw;cases x <;> simp only [gW] <;> first | exact this | exact List.mem_append_right _ this
def UJ(H:Hand bB)(cuts:Nat→Bool)(r : bB)(todo:List Item)(s:ar):Prop:=
 (∃bF ops im k,todo=.code (.region bF ops im) :: k∧cuts bF=true∧H.cut bF todo s=some r)∨((todo=[]∨∃k,todo=.code .ret :: k)∧H.fin s=some r)
theorem UK{cuts:Nat→Bool}{H:Hand bB}(bR:j5 P E)(hn:E.n=n):∀(fuel:Nat) (first:Bool) (todo:List Item) (s:ar) (a:Act) (w:World),
  kj E cuts H fuel first todo s=some r→c5 w0 F0 Z0 n s a w→∀(b:Frame) (cs:List Frame),
  ∃p_ av b5 w',c5 w0 F0 Z0 n av b5 w'∧UJ H cuts r p_ av∧(∀p,p∈gW p_→p∈gW todo)∧Steps P (lone (b.at a todo) cs w) (lone (b.at b5 p_) cs w')
 | 0,_,_,_,_,_,hk,_=>by simp [kj] at hk
 | fuel+1,first,todo,s,a,w,hk,hs=>by
  intro b cs;have ih:=fun first todo s a w hk hs=>UK (H:=H) (cuts:=cuts) bR hn fuel first todo s a w hk hs b cs
  have one:∀ {todo1:List Item} {first:Bool},(∀p,p∈gW todo1→p∈gW todo)→step P (lone (b.at a todo) cs w)=.next (lone (b.at a todo1) cs w)→kj E cuts H fuel first todo1 s=some r →
    ∃p_ av b5 w',c5 w0 F0 Z0 n av b5 w'∧UJ H cuts r p_ av∧(∀p,p∈gW p_→p∈gW todo)∧Steps P (lone (b.at a todo) cs w) (lone (b.at b5 p_) cs w'):=by
   intro todo1 first hcs hst hk1
   obtain ⟨cO,av,b5,w',h1,h2,h3,h4⟩:=ih first todo1 s a w hk1 hs
   exact⟨cO,av,b5,w',h1,h2,fun p aw=>hcs p (h3 p aw),.head hst h4⟩
  unfold kj at hk
  match todo,hk with
  | [],hk=>exact⟨[],s,a,w,hs,.inr ⟨.inl rfl,hk⟩,fun _ h=>h,.refl _ _⟩
  | .inBlock _ :: k,hk=>exact one (todo1:=k) (fun _ h=>h) step_inBlock hk
  | .inLoop c :: k,hk=>exact one (fun p aw=>by simp only [gW,List.mem_append] at aw ⊢;exact aw.elim .inl fun h=>h) step_inLoop hk
  | .code .ret :: k,hk=>exact⟨_,s,a,w,hs,.inr ⟨.inr ⟨k,rfl⟩,hk⟩,fun _ h=>h,.refl _ _⟩
  | .code .skip :: k,hk=>exact one (todo1:=k) (fun _ h=>h) step_skip hk
  | .code (.seq x y) :: k,hk=>exact one (fun p aw=>by simp only [gW,mc,List.mem_append] at aw ⊢;exact or_assoc.2 aw) step_seq hk
  | .code (.block id c) :: k,hk=>exact one (fun p aw=>by simpa only [gW,mc] using aw) step_block hk
  | .code (.loop c) :: k,hk=>exact one (fun p aw=>by simp only [gW,mc,List.mem_append] at aw ⊢;exact aw.elim .inl fun h=>h) step_loop hk
  | .code (.exit id) :: k,hk=>
   simp only at hk
   cases he:exitTo id k with
   | none=>rw [he] at hk;simp at hk
   | some k'=>rw [he] at hk;exact one (UI he) (step_exit he) hk
  | .code (.cond c x y) :: k,hk=>
   simp only at hk;obtain ⟨ι,Z,h⟩:=hs;have hc:=fe h c
   cases hcv:bZ s c with
   | aV kl=>
    cases kl with
    | bool t=>
     rw [hcv] at hk hc;simp only [aT,cr] at hc;have hst:=step_cond (P:=P) (b:=b) (a:=a) (k:=k) (cs:=cs) (w:=w) (x:=x) (y:=y) hc
     cases t with
     | true=>exact one (fun p aw=>by simp only [gW,mc,List.mem_append] at aw ⊢;exact aw.elim (fun h=>.inl (.inl h)) .inr) hst hk
     | false=>exact one (fun p aw=>by simp only [gW,mc,List.mem_append] at aw ⊢;exact aw.elim (fun h=>.inl (.inr h)) .inr) hst hk
    | _=>rw [hcv] at hk;simp at hk
   | _=>rw [hcv] at hk;simp at hk
  | .code (.region bF ops im) :: k,hk=>
   simp only at hk;cases jo:(cuts bF && !first)
   ·rw [jo] at hk;simp only [cond_false] at hk
    have af3:∃b5 w',hJ w0 F0 Z0 n (fun av=>kj E cuts H fuel false k av) r b5 w'∧Steps P (lone (b.at a (.code (.region bF ops im) :: k)) cs w) (lone (b.at b5 k) cs w'):=by
     cases im with
     | false=>exact afM bR hn hk hs b k cs
     | true=>exact af2 bR hn hk hs b k cs
    obtain ⟨a1,n1,⟨s1,h1,h2⟩,hst⟩:=af3;obtain ⟨cO,av,b5,w',c0,d_,gQ,hp⟩:=ih false k s1 a1 n1 h1 h2;exact⟨cO,av,b5,w',c0,d_,fun p aw=>by simp only [gW,List.mem_append];exact .inr (gQ p aw),hst.trans hp⟩
   ·rw [jo] at hk;simp only [cond_true] at hk;simp only [Bool.and_eq_true] at jo;exact⟨_,s,a,w,hs,.inl ⟨bF,ops,im,k,rfl,jo.1,hk⟩,fun _ h=>h,.refl _ _⟩
  | .code (.goto _) :: _,hk | .code (.label _) :: _,hk | .code (.scope _) :: _,hk | .inRegion _ _ :: _,hk | .inScope _ :: _,hk=>simp at hk
end
end Go.LM
namespace Go.LM
def lz(key:Nat):(ps:List bD)→(bD.ins ps).D→Nat→ar→Option (List ba×ar×Nat)
 | [],_,j,s=>some ([],s,j)
 | .fn _ _ :: ps,x,j,s=>(lz key ps x j s).bind fun q=>some (.aB :: q.1,q.2)
 | .val t m :: ps,x,j,s=>(t.hW m [] x.1 s j).bind fun r=>(kh t r.1).bind fun v=>(lz key ps x.2 r.2.2 r.2.1).bind fun q=>some (v :: q.1,q.2)
 | .hV t :: ps,x,j,s=>(t.hW .R [] x.1 s j).bind fun r=>(kh t r.1).bind fun v=>(lz key ps x.2 r.2.2 r.2.1).bind fun q=>some (v :: q.1,q.2)
 | .hg t m :: ps,x,j,s=>(t.hW m [] x.1 s j).bind fun r=>(kh t r.1).bind fun v=>(lz key ps x.2 r.2.2 r.2.1).bind fun q=>some (v :: q.1,q.2)
 | .ref t :: ps,x,j,s=>(lz key ps x.2 j s).bind fun q=>some (.du [] (t.cells [] none x.1) 0 :: q.1,q.2)
 | .mut t m _ :: ps,x,j,s=>(t.hW m [] x.1 s j).bind fun r=>(mkObj r.2.1 r.2.2 (.var 0 r.1)).bind fun s1=>(lz key ps x.2 (r.2.2+1) s1).bind fun q=>some (.ptr ⟨r.2.2,none,0⟩ :: q.1,q.2)
section
variable{P:Program}{w0:World}{F0 Z0:ag}{n:cM}{s av:ar}{a b5:Act}{w w':World}{ι bm:Nat→bH}{Z Z':ag}
theorem Inv.start{F:ag}(hZ:∀b o,Z b o→b<w.heap.size){m:Nat}(ha:a.tmps.size=m)(af:a.defers=[]):Inv w F Z ⟨m,[],[]⟩ ⟨fun _=>.aB,fun _=>.none,[]⟩ a w ι Z:=
 ⟨Ext.refl _ _,fun _ _ h=>.inl h,fun _ _ h=>h,hZ,fun _=>trivial,fun _ h=>h.elim,fun _ _ h=>h.elim,fun _ h=>h.elim,fun _=>by simp only [aT],ha,by simp only [a'],fun _ h=>by simp at h,af⟩
def af4(w0:World)(F0 Z0:ag)(n:cM)(s:ar)(a:Act)(w:World)(ι : Nat→bH)(Z:ag)(us:List Value)(F:ag)(q:List ba×ar×Nat):Prop:=
 ∃ bm,Inv w0 F0 Z0 n q.2.1 a w bm Z∧gT false w Z s ι w Z q.2.1 bm (fun _ _=>True)∧a' w Z q.2.1 bm q.1 us∧∀X,bK w0 F0 s w ι Z X→ag.apart X F→bK w0 F0 q.2.1 w bm Z X
theorem af5:gT false w Z s ι w Z s ι (fun _ _=>True):=
 ⟨fun _ _ h=>h,fun _ _ h=>h,fun _ _ h=>h,fun _ _ _ h=>⟨h,rfl⟩,fun h=>by simp at h,cf.refl _ _,cf.refl _ _,fun _ _ h=>h,fun _ _ _ h=>h⟩
theorem o3:Z.or (dt ι [])=Z:=by
 funext b o
 apply propext;constructor
 ·rintro (h | ⟨d,af,_⟩)
  ·exact h
  ·simp at af
 ·exact .inl
theorem u9{key:Nat} : ∀(ps:List bD) (x:(bD.ins ps).D) (us:List Value) (j:Nat) (s:ar) (ι : Nat→bH) (F:ag) (q:List ba×ar×Nat),lz key ps x j s=some q→Inv w0 F0 Z0 n s a w ι Z →
  gF w Z key ps x us F→bK w0 F0 s w ι Z F→af4 w0 F0 Z0 n s a w ι Z us F q
 | [],x,us,j,s,ι,F,q,he,h,hA,hF=>by simp only [lz,Option.some.injEq] at he;subst he;exact⟨ι,h,af5,hA,fun X hX _=>hX⟩
 | .fn mz pN :: ps,x,us,j,s,ι,F,q,he,h,hA,hF=>by simp only [lz] at he;obtain ⟨p,aw,he⟩:=bd he;obtain rfl:=aW he;obtain ⟨atG,atH,aX,rfl,hsz,h4⟩:=hA;obtain ⟨dD,i1,held,hr,nZ⟩:=u9 ps x aX j s ι F p aw h h4 hF;refine⟨dD,i1,held,?_,nZ⟩;simp only [a'];exact⟨_,aX,rfl,by simp only [aT],hr⟩
 | .ref t :: ps,x,us,j,s,ι,F,q,he,h,hA,hF=>by simp only [lz] at he;obtain ⟨p,aw,he⟩:=bd he;obtain rfl:=aW he;obtain ⟨b,o,vs,aX,rfl,h1,h2,h3,h4⟩:=hA;obtain ⟨dD,i1,held,hr,nZ⟩:=u9 ps x.2 aX j s ι F p aw h h4 hF;refine⟨dD,i1,held,?_,nZ⟩;simp only [a'];refine⟨_,aX,rfl,held.aF _ _ ?_,hr⟩;simp only [aT];have hl:=(ad.au.len t _ h2).1;have hc:bL w Z s ι (t.cells [] none x.1) vs:=ad.q2 t [] none (by simp) (fun _=>by rw [o3];exact h2) ⟨_,_,_,h2⟩ .none;refine⟨by simp,b,o,vs,by simp,fun _=>⟨hc,h1,fun k hk=>.inl (h3 k (by rw [← hc.len,hl] at hk;exact hk))⟩⟩
 | .val t m :: ps,x,us,j,s,ι,F,q,he,h,hA,hF=>by simp only [lz] at he;obtain ⟨r,hr,he⟩:=bd he;obtain ⟨v,hv,he⟩:=bd he;obtain ⟨p,aw,he⟩:=bd he;obtain rfl:=aW he;obtain ⟨vs,aX,G,H,rfl,h1,h2,h3,h4,a7⟩:=hA;obtain ⟨dD,i1,jt,c1,fX⟩:=ad.oP t m [] x.1 s ι j r vs G hr h (by rw [o3];exact h1) (hF.sub h4) (by rintro b o _ ⟨d,af,_⟩;simp at af) (by simp);obtain ⟨eN,i2,held,o4,nZ⟩:=u9 ps x.2 aX _ _ dD H p aw i1 h2 (fX H (hF.sub a7) fun b o x y=>h3 b o y x);refine⟨eN,i2,(jt.held _).trans held,?_,fun X hX fY=>nZ X (fX X hX fun b o x y=>fY b o x (h4 b o y)) fun b o x y=>fY b o x (a7 b o y)⟩;simp only [a'];exact⟨_,aX,rfl,held.aF _ _ (pW hv c1),o4⟩
 | .hV t :: ps,x,us,j,s,ι,F,q,he,h,hA,hF=>by simp only [lz] at he;obtain ⟨r,hr,he⟩:=bd he;obtain ⟨v,hv,he⟩:=bd he;obtain ⟨p,aw,he⟩:=bd he;obtain rfl:=aW he;obtain ⟨vs,aX,G,H,rfl,h1,h2,h3,h4,a7⟩:=hA;obtain ⟨dD,i1,jt,c1,fX⟩:=ad.oP t .R [] x.1 s ι j r vs G hr h (by rw [o3];exact h1) (hF.sub h4) (by rintro b o _ ⟨d,af,_⟩;simp at af) (by simp);obtain ⟨eN,i2,held,o4,nZ⟩:=u9 ps x.2 aX _ _ dD H p aw i1 h2 (fX H (hF.sub a7) fun b o x y=>h3 b o y x);refine⟨eN,i2,(jt.held _).trans held,?_,fun X hX fY=>nZ X (fX X hX fun b o x y=>fY b o x (h4 b o y)) fun b o x y=>fY b o x (a7 b o y)⟩;simp only [a'];exact⟨_,aX,rfl,held.aF _ _ (pW hv c1),o4⟩
 | .hg t m :: ps,x,us,j,s,ι,F,q,he,h,hA,hF=>by simp only [lz] at he;obtain ⟨r,hr,he⟩:=bd he;obtain ⟨v,hv,he⟩:=bd he;obtain ⟨p,aw,he⟩:=bd he;obtain rfl:=aW he;obtain ⟨vs,aX,G,H,rfl,h1,h2,h3,h4,a7⟩:=hA;obtain ⟨dD,i1,jt,c1,fX⟩:=ad.oP t m [] x.1 s ι j r vs G hr h (by rw [o3];exact h1) (hF.sub h4) (by rintro b o _ ⟨d,af,_⟩;simp at af) (by simp);obtain ⟨eN,i2,held,o4,nZ⟩:=u9 ps x.2 aX _ _ dD H p aw i1 h2 (fX H (hF.sub a7) fun b o x y=>h3 b o y x);refine⟨eN,i2,(jt.held _).trans held,?_,fun X hX fY=>nZ X (fX X hX fun b o x y=>fY b o x (h4 b o y)) fun b o x y=>fY b o x (a7 b o y)⟩;simp only [a'];exact⟨_,aX,rfl,held.aF _ _ (pW hv c1),o4⟩
 | .mut t m m' :: ps,x,us,j,s,ι,F,q,he,h,hA,hF=>by
  simp only [lz] at he;obtain ⟨r,hr,he⟩:=bd he;obtain ⟨s1,hm,he⟩:=bd he;obtain ⟨p,aw,he⟩:=bd he;obtain rfl:=aW he;obtain ⟨cj,rfl⟩:=q6 hm;obtain ⟨b,o,vs,aX,G,H,rfl,h1,hwr,h2,h3,h4,a7,bh,bJ⟩:=hA;have hG:ag.sub G F:=fun b o x=>bh b o (.inl x)
  have e6:ag.sub (ag.run b o t.size) F:=fun b o x=>bh b o (.inr x)
  obtain ⟨dD,i1,jt,c1,fX⟩:=ad.oP t m [] x.1 s ι j r vs G hr h (by rw [o3];exact h2) (hF.sub hG) (by rintro b o _ ⟨d,af,_⟩;simp at af) (by simp);have hl:=(ad.au.len t _ h2).1;have hcl:=c1.len;have ko:=fX _ (hF.sub e6) (fun b o x y=>a7 b o y x);obtain ⟨i2,nW,mQ,nX⟩:=Ls i1 (id:=r.2.2) (o:=.var 0 r.1) (i:=⟨some (at_ b o),0,ag.run b o t.size⟩) (by rw [cj];exact fun h=>h) (fun o'=>by simp) (by rw [cj];exact .made _ _ _) (fun hm=>by refine⟨at_ b o,vs,rfl,rfl,c1.move hm,h1,fun k hk=>⟨hwr k (by omega),rfl,by simp [at_],by simp [at_];omega⟩⟩) ko;have xY:=(jt.held (w:=w) (Z:=Z) (fun _ _=>True)).trans nW;have Al:∀X,bK w0 F0 s w ι Z X→ag.apart X (G.or (ag.run b o t.size))→bK w0 F0 (r.2.1.bV r.2.2 (.var 0 r.1)) w (bW dD r.2.2 ⟨some (at_ b o),0,ag.run b o t.size⟩) Z X:=fun X hX fY=>mQ X (fX X hX fun b o x y=>fY b o x (.inl y)) fun b o x y=>fY b o x (.inr y)
  obtain ⟨LA,i3,UL,o4,af6⟩:=u9 ps x.2 aX _ _ _ H p aw i2 h3 (Al H (hF.sub bJ) fun b o x y=>h4 b o y x);refine⟨LA,i3,xY.trans UL,?_,fun X hX fY=>af6 X (Al X hX fun b o x y=>fY b o x (bh b o y)) fun b o x y=>fY b o x (bJ b o y)⟩;simp only [a'];refine⟨_,aX,rfl,UL.aF _ _ ?_,o4⟩;simp only [aT];refine⟨by show bW r.2.1.o r.2.2 _ r.2.2≠_;rw [cL];simp,_,rfl,rfl,?_⟩;show match (bW r.2.1.o r.2.2 _ r.2.2).core with | .var _ _=>_ | .row .. => _ | _=>_
  rw [cL];exact⟨rfl,at_ b o,by rw [cL],by simp [at_]⟩
end
end Go.LM
namespace Go.LM
def Au(t:ad)(m:bg)(v:ba)(s:ar):Option (t.D×ar):=
 cond (oJ t v) (match je t v with
  | some cs=>(t.imp false m cs s []).bind fun r=>match r.2.1 with
   | []=>some (r.1,r.2.2.1)
   | _=>none
  | none=>none) none
def iR:(ps:List bD)→List ba→ar→Option (bD.ef ps).D
 | [],_,_=>some ()
 | .mut t _ m' :: ps,gs,s=>
  match gs with
  | .ptr p :: gs=>
   match s.o p.id,p.fF with
   | .var _ cs,none=>cond (Nat.beq p.off 0&&Nat.beq cs.length t.size)
    ((t.imp false m' cs (s.bV p.id .dead) []).bind fun r=>match r.2.1 with
     | []=>(iR ps gs r.2.2.1).bind fun q=>some (r.1,q)
     | _=>none) none
   | _,_=>none
  | _=>none
 | .hg t m :: ps,gs,s=>
  match gs with
  | v :: gs=>(Au t m v s).bind fun r=>(iR ps gs r.2).bind fun q=>some (r.1,q)
  | []=>none
 | .val _ _ :: ps,gs,s=>
  match gs with
  | _ :: gs=>iR ps gs s
  | []=>none
 | .hV _ :: ps,gs,s=>
  match gs with
  | _ :: gs=>iR ps gs s
  | []=>none
 | .ref _ :: ps,gs,s=>
  match gs with
  | _ :: gs=>iR ps gs s
  | []=>none
 | .fn _ _ :: ps,gs,s=>
  match gs with
  | _ :: gs=>iR ps gs s
  | []=>none
section
variable{P:Program}{w0:World}{F0 Z0:ag}{n:cM}{s av:ar}{a b5:Act}{w w':World}{ι bm:Nat→bH}{Z Z':ag}
theorem UM{t:ad}{m:bg}{v:ba}{u:Value}{r:t.D×ar}(ho:Au t m v s=some r)(h:Inv w0 F0 Z0 n s a w ι Z)(hv:aT w Z s ι v u) :
  ∃vs F Z',u=dN t vs∧Inv w0 F0 Z0 n r.2 a w ι Z'∧fj s ι Z r.2 Z'∧bK w0 F0 r.2 w ι Z' F∧t.au w Z' m r.1 vs F∧∀b o,F b o→∃id,(s.o id).live∧(ι id).F b o:=by
 unfold Au at ho;cases hf:oJ t v
 ·rw [hf] at ho;simp at ho
 rw [hf] at ho;simp only [cond_true] at ho
 cases hcs:je t v with
 | none=>rw [hcs] at ho;simp at ho
 | some cs=>
  rw [hcs] at ho;simp only at ho;obtain ⟨q,hq,ho⟩:=bd ho
  cases eD:q.2.1 with
  | cons=>rw [eD] at ho;simp at ho
  | nil=>
   rw [eD] at ho;obtain rfl:=aW ho;obtain ⟨us1,vs1,F1,cH,e1,i1,s1,c1,f1,bE,_,fk,_,g1⟩:=ad.lY t false m cs s [] q _ Z hq h (sI hcs hv) (by simp);rw [eD] at c1;have hvs1:vs1=[]:=by cases vs1 with | nil=>rfl | cons=>exact c1.elim
   subst hvs1;rw [List.append_nil] at e1;have hw:=DH hf hv;rw [e1] at hw;rw [fk rfl,o3] at bE;exact⟨us1,F1,cH,hw,i1,s1,f1,bE,g1⟩
theorem u_:∀(ps:List bD) (gs:List ba) (us:List Value) (s:ar) (Z:ag) (x:(bD.ef ps).D),iR ps gs s=some x→Inv w0 F0 Z0 n s a w ι Z→a' w Z s ι gs us →
  ∃av F Z',Inv w0 F0 Z0 n av a w ι Z'∧fj s ι Z av Z'∧bK w0 F0 av w ι Z' F∧iI w Z' ps us x F∧∀b o,F b o→∃id,(s.o id).live∧(ι id).F b o
 | [],gs,us,s,Z,x,ho,h,hv=>⟨s,ag.none,Z,h,.refl,.none,trivial,fun _ _ h=>h.elim⟩
 | .val t m :: ps,gs,us,s,Z,x,ho,h,hv=>by
  cases gs with
  | nil=>simp [iR] at ho
  | cons v gs=>simp only [a'] at hv;obtain ⟨u,aX,rfl,h1,h2⟩:=hv;obtain ⟨av,F,Z',i1,s1,f1,bE,g1⟩:=u_ ps gs aX s Z x (by simp only [iR] at ho;exact ho) h h2;exact⟨av,F,Z',i1,s1,f1,⟨u,aX,rfl,bE⟩,g1⟩
 | .hV t :: ps,gs,us,s,Z,x,ho,h,hv=>by
  cases gs with
  | nil=>simp [iR] at ho
  | cons v gs=>simp only [a'] at hv;obtain ⟨u,aX,rfl,h1,h2⟩:=hv;obtain ⟨av,F,Z',i1,s1,f1,bE,g1⟩:=u_ ps gs aX s Z x (by simp only [iR] at ho;exact ho) h h2;exact⟨av,F,Z',i1,s1,f1,⟨u,aX,rfl,bE⟩,g1⟩
 | .ref t :: ps,gs,us,s,Z,x,ho,h,hv=>by
  cases gs with
  | nil=>simp [iR] at ho
  | cons v gs=>simp only [a'] at hv;obtain ⟨u,aX,rfl,h1,h2⟩:=hv;obtain ⟨av,F,Z',i1,s1,f1,bE,g1⟩:=u_ ps gs aX s Z x (by simp only [iR] at ho;exact ho) h h2;exact⟨av,F,Z',i1,s1,f1,⟨u,aX,rfl,bE⟩,g1⟩
 | .fn _ _ :: ps,gs,us,s,Z,x,ho,h,hv=>by
  cases gs with
  | nil=>simp [iR] at ho
  | cons v gs=>simp only [a'] at hv;obtain ⟨u,aX,rfl,h1,h2⟩:=hv;obtain ⟨av,F,Z',i1,s1,f1,bE,g1⟩:=u_ ps gs aX s Z x (by simp only [iR] at ho;exact ho) h h2;exact⟨av,F,Z',i1,s1,f1,⟨u,aX,rfl,bE⟩,g1⟩
 | .hg t m :: ps,gs,us,s,Z,x,ho,h,hv=>by
  cases gs with
  | nil=>simp [iR] at ho
  | cons v gs=>
   simp only [a'] at hv;obtain ⟨u,aX,rfl,h1,h2⟩:=hv;simp only [iR] at ho;obtain ⟨r,hr,ho⟩:=bd ho;obtain ⟨q,hq,ho⟩:=bd ho;obtain rfl:=aW ho;obtain ⟨vs,F1,cH,rfl,i1,s1,f1,bE,g1⟩:=UM hr h h1;obtain ⟨av,dU,bQ,i2,s2,f2,cp,g2⟩:=u_ ps gs aX r.2 cH q hq i1 (a'.move s1.eC h2);refine⟨av,F1.or dU,bQ,i2,s1.trans s2,(f1.shrink s2).or f2,⟨vs,aX,F1,dU,rfl,ad.au.mono s2.dL _ _ (fun _ _ h=>h) bE,cp,?_,fun _ _ h=>.inl h,fun _ _ h=>.inr h⟩,?_⟩
   ·intro b o x y;obtain ⟨id,hl,hf⟩:=g2 b o y;exact f1.apart id hl b o x hf
   ·rintro b o (y | y)
    ·exact g1 b o y
    ·obtain ⟨id,hl,hf⟩:=g2 b o y;exact⟨id,(s1.live hl).1,hf⟩
 | .mut t m m' :: ps,gs,us,s,Z,x,ho,h,hv=>by
  cases gs with
  | nil=>simp [iR] at ho
  | cons v gs=>
   simp only [a'] at hv;obtain ⟨u,aX,rfl,h1,h2⟩:=hv;cases v <;> simp only [iR] at ho <;> try (simp at ho;done)
   rename_i p;simp only [aT] at h1;obtain ⟨hk,A,rfl,_,aw⟩:=h1
   cases b0:s.o p.id with
   | var ver cs=>
    rw [b0] at ho aw;obtain ⟨he,a0,eP,hA⟩:=aw;rw [he] at ho;simp only at ho;cases hc:(Nat.beq p.off 0&&Nat.beq cs.length t.size)
    ·rw [hc] at ho;cases ho
    rw [hc] at ho;simp only [Bool.and_eq_true] at hc;have fM:=Nat.eq_of_beq_eq_true hc.1;have hlen:=Nat.eq_of_beq_eq_true hc.2;simp only [cond_true] at ho;obtain ⟨r,hr,ho⟩:=bd ho
    cases eD:r.2.1 with
    | cons=>rw [eD] at ho;cases ho
    | nil=>
     rw [eD] at ho;simp only at ho;obtain ⟨q,hq,ho⟩:=bd ho;obtain rfl:=aW ho;have ck:(s.o p.id).live:=by rw [b0];trivial
     have c7:=h.gf p.id;rw [b0] at c7;obtain ⟨⟨b,o,sp⟩,ws,dM,hsp,hc,cC,hF⟩:=c7;simp only at hsp;subst hsp;rw [eP] at dM;obtain rfl:=aW dM;have iL:fj s ι Z (s.bV p.id .dead) Z:=xA p.id ck;have hi0:=h.take p.id (fun _ _ h=>h) (fun _ _ h=>.inl h);have fs:=h.xz ck;obtain ⟨us1,vs1,F1,cH,e1,i1,s1,c1,f1,bE,_,fk,_,g1⟩:=ad.lY t false m' cs _ [] r _ Z hr hi0 (hc.move iL.eC) (by simp);rw [eD] at c1;have hvs1:vs1=[]:=by cases vs1 with | nil=>rfl | cons=>exact c1.elim
     subst hvs1;rw [List.append_nil] at e1;subst e1;rw [fk rfl,o3] at bE;obtain ⟨av,dU,bQ,i2,s2,f2,cp,g2⟩:=u_ ps gs aX r.2.2.1 cH q hq i1 (a'.move s1.eC (a'.move iL.eC h2))
     have hrun:ag.sub (ag.run b o t.size) (ι p.id).F:=by
      rintro b' o' ⟨rfl,h1,h2⟩
      have:=(hF (o'-o) (by omega)).2;simp only at this;rwa [show o +(o'-o)=o' by omega] at this
     have ko:=(fs.sub hrun).shrink s1;have L':ag.apart F1 (ag.run b o t.size):=by intro b o x y;obtain ⟨id,hl,hf⟩:=g1 b o x;exact fs.apart id hl b o (hrun b o y) hf
     have gV:bK w0 F0 r.2.2.1 w ι cH (F1.or (ag.run b o t.size)):=f1.or ko;refine⟨av,(F1.or (ag.run b o t.size)).or dU,bQ,i2,(iL.trans s1).trans s2,(gV.shrink s2).or f2,⟨b,o,ws,aX,F1,dU,?_,cC,ad.au.mono s2.dL _ _ (fun _ _ h=>h) bE,cp,?_,L',fun _ _ h=>.inl h,fun _ _ h=>.inr h⟩,?_⟩
     ·rw [hA,fM];rfl
     ·intro b o x y;obtain ⟨id,hl,hf⟩:=g2 b o y;exact gV.apart id hl b o x hf
     ·rintro b o ((y | y) | y)
      ·obtain ⟨id,hl,hf⟩:=g1 b o y;exact⟨id,(iL.live hl).1,hf⟩
      ·exact⟨p.id,ck,hrun b o y⟩
      ·obtain ⟨id,hl,hf⟩:=g2 b o y;exact⟨id,(iL.live (s1.live hl).1).1,hf⟩
   | _=>rw [b0] at ho;simp at ho
end
end Go.LM
namespace Go.LM
section
variable{P:Program}{w0:World}{F0 Z0:ag}{n:cM}{s av:ar}{a b5:Act}{w w':World}{ι bm:Nat→bH}{Z Z':ag}
def D'(t:ad)(m:bg)(v:ba)(s:ar):Option (t.D×ar):=
 match v with
 | .ptr p=>
  match s.o p.id,p.fF with
  | .var _ cs,none=>cond (Nat.beq p.off 0&&Nat.beq cs.length t.size)
   ((t.imp false m cs (s.bV p.id .dead) []).bind fun r=>match r.2.1 with
    | []=>some (r.1,r.2.2.1)
    | _=>none) none
  | _,_=>none
 | _=>none
theorem af7{t:ad}{m:bg}{v:ba}{u:Value}{s:ar}{Z:ag}{x:t.D×ar}(ho:D' t m v s=some x)(h:Inv w0 F0 Z0 n s a w ι Z)(h1:aT w Z s ι v u) :
  ∃b o vs F Z',u=.pointer (some (at_ b o))∧Inv w0 F0 Z0 n x.2 a w ι Z'∧fj s ι Z x.2 Z'∧bK w0 F0 x.2 w ι Z' (F.or (ag.run b o t.size))∧cc w b o vs∧(∀j,j<t.size→fE w b (o+j))∧t.au w Z' m x.1 vs F ∧
   ag.apart F (ag.run b o t.size)∧∀b' o',(F.or (ag.run b o t.size)) b' o'→∃id,(s.o id).live∧(ι id).F b' o':=by
 cases v <;> simp only [D'] at ho <;> try (simp at ho;done)
 rename_i p;simp only [aT] at h1;obtain ⟨hk,A,rfl,_,aw⟩:=h1
 cases b0:s.o p.id with
 | var ver cs=>
  rw [b0] at ho aw;obtain ⟨he,a0,eP,hA⟩:=aw;rw [he] at ho;simp only at ho;cases hc:(Nat.beq p.off 0&&Nat.beq cs.length t.size)
  ·rw [hc] at ho;cases ho
  rw [hc] at ho;simp only [Bool.and_eq_true] at hc;have fM:=Nat.eq_of_beq_eq_true hc.1;have hlen:=Nat.eq_of_beq_eq_true hc.2;simp only [cond_true] at ho;obtain ⟨r,hr,ho⟩:=bd ho
  cases eD:r.2.1 with
  | cons=>rw [eD] at ho;cases ho
  | nil=>
   rw [eD] at ho;obtain rfl:=aW ho;have ck:(s.o p.id).live:=by rw [b0];trivial
   have c7:=h.gf p.id;rw [b0] at c7;obtain ⟨a1,ws,dM,hsp,hcs,cC,hF⟩:=c7;rw [eP] at dM;obtain rfl:=aW dM;obtain ⟨b,o,sp⟩:=a0;simp only at hsp;subst hsp;have iL:fj s ι Z (s.bV p.id .dead) Z:=xA p.id ck;have hi0:=h.take p.id (fun _ _ h=>h) (fun _ _ h=>.inl h);have fs:=h.xz ck;obtain ⟨us1,vs1,F1,cH,e1,i1,s1,c1,f1,bE,_,fk,_,g1⟩:=ad.lY t false m cs _ [] r _ Z hr hi0 (hcs.move iL.eC) (by simp);rw [eD] at c1;have hvs1:vs1=[]:=by cases vs1 with | nil=>rfl | cons=>exact c1.elim
   subst hvs1;rw [List.append_nil] at e1;subst e1;rw [fk rfl,o3] at bE
   have hrun:ag.sub (ag.run b o t.size) (ι p.id).F:=by
    rintro b' o' ⟨rfl,h1,h2⟩
    have:=(hF (o'-o) (by omega)).2;simp only at this;rwa [show o +(o'-o)=o' by omega] at this
   have ko:=(fs.sub hrun).shrink s1;have L':ag.apart F1 (ag.run b o t.size):=by intro b o x y;obtain ⟨id,hl,hf⟩:=g1 b o x;exact fs.apart id hl b o (hrun b o y) hf
   refine⟨b,o,_,F1,cH,?_,i1,iL.trans s1,f1.or ko,cC,fun j hj=>(hF j (by omega)).1,bE,L',?_⟩
   ·rw [hA,fM];rfl
   ·rintro b o (y | y)
    ·obtain ⟨id,hl,hf⟩:=g1 b o y;exact⟨id,(iL.live hl).1,hf⟩
    ·exact⟨p.id,ck,hrun b o y⟩
 | _=>rw [b0] at ho;simp at ho
def Av(gs:List ba)(a off:Nat)(t:ad)(v:ba)(s:ar):Option Int:=
 match v with
 | .kg=>some (-1)
 | .opt id x=>
  match qX s gs a off with
  | some k=>cond (Nat.beq k id&&qY s t id) (some x) none
  | none=>none
 | .ptr p=>
  match qX s gs a off,p.fF with
  | some k,some i=>cond (Nat.beq k p.id&&qY s t p.id&&Nat.beq p.off 0) (some (i:Int)) none
  | _,_=>none
 | _=>none
theorem UN{gs:List ba}{us:List Value}{l9 off id:Nat}{t:ad}{i:Nat}{x2:Addr}(eb:qX s gs l9 off=some id)(mS:qY s t id=true)(h:Inv w0 F0 Z0 n s a w ι Z)(hv:a' w Z s ι gs us)
  (aw:jI s ι ⟨id,some i,0⟩ x2):Lh w us l9 off t.size (i:Int) (.pointer (some x2)):=by
 unfold qX at eb
 cases nR:gs[l9]? with
 | none=>rw [nR] at eb;simp at eb
 | some lV=>
  rw [nR] at eb
  cases lV with
  | ptr pl=>
   simp only at eb
   cases c8:mA s 1 { pl with off:=pl.off+off } with
   | none=>rw [c8] at eb;simp at eb
   | some cs=>
    rw [c8] at eb
    have hcs:cs=[.af id none]:=by
     split at eb
     ·rename_i h;obtain rfl:=aW eb;exact aW h
     ·simp at eb
    subst hcs;obtain ⟨u,x0,sW⟩:=hv.get l9 nR;simp only [aT] at sW;obtain ⟨km,A,rfl,nY⟩:=sW;obtain ⟨b,o,sp⟩:=A;have hsp:=nY.1;simp only at hsp;subst hsp;obtain ⟨nH,eT,ws,hA,hc1,hc2,Af⟩:=zV h c8 (jI.plus (b:=b) (o:=o) off nY);simp only [at_,Addr.mk.injEq,and_true] at hA;obtain ⟨rfl,rfl⟩:=hA
    match ws,hc1 with
    | [v0],hc1=>
     obtain ⟨hk0,A,m,k,rfl,hh⟩:=hc1.1;unfold qY at mS
     cases b0:s.o id with
     | row u em ver xs=>
      rw [b0] at mS;have:=ad.eq_of_beq _ _ mS;subst this;obtain ⟨c0,d_,gQ,hp,h5⟩:=hh u em ver xs (lW b0);have c0:m=xs.length:=c0;obtain ⟨hs,aw⟩:=aw;have aw:match (s.o id).core with | .var _ cs=>_ | .row t _ _ xs=>_ | _=>_:=aw
      rw [lW b0] at aw;obtain ⟨ei,hi,bO,a0,gx,q_⟩:=aw;obtain rfl:=aW hi;rcases h5 with h5 | ⟨a1,nN,nS⟩
      ·omega
      ·rw [gx] at nN;obtain rfl:=aW nN;right;refine⟨by omega,b,o,a0.block,a0.off,m,k,x0,?_,by simp;omega,?_⟩
       ·rw [hc2.head,nS];simp [eB,at_]
       ·rw [q_];simp [at_]
     | _=>rw [b0] at mS;cases mS
  | _=>simp at eb
theorem af8{gs:List ba}{us:List Value}{l9 off:Nat}{t:ad}{v:ba}{u:Value}{x:Int}(ho:Av gs l9 off t v s=some x)(h:Inv w0 F0 Z0 n s a w ι Z)(aC:a' w Z s ι gs us)(hv:aT w Z s ι v u):Lh w us l9 off t.size x u:=by
 cases v with
 | kg=>obtain rfl:=aW ho;simp only [aT] at hv;exact .inl ⟨by omega,hv⟩
 | opt id y=>
  simp only [Av] at ho
  cases eb:qX s gs l9 off with
  | none=>rw [eb] at ho;cases ho
  | some k=>
   rw [eb] at ho;cases hc:(Nat.beq k id&&qY s t id)
   ·simp only [hc] at ho;cases ho
   simp only [hc,cond_true] at ho;obtain rfl:=aW ho;simp only [Bool.and_eq_true] at hc;obtain rfl:=Nat.eq_of_beq_eq_true hc.1;simp only [aT] at hv;obtain ⟨_,⟨h1,h2⟩ | ⟨h1,x2,rfl,h2⟩⟩:=hv
   ·exact .inl ⟨h1,h2⟩
   ·have:=UN eb hc.2 h aC h2;rwa [Int.toNat_of_nonneg h1] at this
 | ptr p=>
  simp only [Av] at ho
  cases eb:qX s gs l9 off with
  | none=>rw [eb] at ho;cases ho
  | some k=>
   rw [eb] at ho
   cases ff:p.fF with
   | none=>rw [ff] at ho;cases ho
   | some i=>
    rw [ff] at ho;simp only at ho;cases hc:(Nat.beq k p.id&&qY s t p.id&&Nat.beq p.off 0)
    ·rw [hc] at ho;cases ho
    rw [hc] at ho;obtain rfl:=aW ho;simp only [Bool.and_eq_true] at hc;have hk:=Nat.eq_of_beq_eq_true hc.1.1;have h0:=Nat.eq_of_beq_eq_true hc.2;obtain ⟨pid,atI,atJ⟩:=p;simp only at hk h0 ff hc;subst hk h0 ff;simp only [aT] at hv;obtain ⟨_,x2,rfl,h2⟩:=hv;exact UN eb hc.1.2 h aC h2
 | _=>cases ho
def Aw(t:ad)(v:ba):Bool:=
 oJ t v&&(match je t v with
  | some cs=>Nat.beq cs.length t.size
  | none=>false)
theorem af9{t:ad}{v:ba}{u:Value}{s:ar}{Z:ag}(ho:Aw t v=true)(h1:aT w Z s ι v u):u.cells.toList.length=t.size∧∀x∈u.cells.toList,ep x=true:=by
 unfold Aw at ho;simp only [Bool.and_eq_true] at ho;obtain ⟨hf,hc⟩:=ho
 cases hcs:je t v with
 | none=>rw [hcs] at hc;cases hc
 | some cs=>rw [hcs] at hc;have hl:=Nat.eq_of_beq_eq_true hc;have hr:=sI hcs h1;exact⟨by rw [hr.len];exact hl,hr.ep⟩
def Ea(t:ad)(v:ba)(s:ar):Option (List t.D×ar):=
 match v with
 | .kg=>some ([],s)
 | .du dp cs off=>
  match takeN off t.size cs with
  | none=>none
  | some cs=>cond dp.isEmpty ((t.imp false .R cs s []).bind fun r=>match r.2.1 with
   | []=>some ([r.1],r.2.2.1)
   | _=>none) none
 | .may b dp cs=>cond b (cond (dp.isEmpty&&Nat.beq cs.length t.size) ((t.imp false .R cs s []).bind fun r=>match r.2.1 with
   | []=>some ([r.1],r.2.2.1)
   | _=>none) none) (some ([],s))
 | _=>none
theorem af_{t:ad}{v:ba}{u:Value}{s:ar}{Z:ag}{x:List t.D×ar}(ho:Ea t v s=some x)(h:Inv w0 F0 Z0 n s a w ι Z)(h1:aT w Z s ι v u) :
  ∃Z',Inv w0 F0 Z0 n x.2 a w ι Z'∧fj s ι Z x.2 Z'∧((x.1=[]∧u=.pointer none)∨∃y b o vs,x.1=[y]∧u=.pointer (some (at_ b o))∧cc w b o vs∧t.au w Z' .R y vs ag.none∧∀j,j<t.size→Z' b (o+j)):=by
 have go:∀(cs:List bb) (b o:Nat) (vs:List Value) (x:List t.D×ar),((t.imp false .R cs s []).bind fun r=>match r.2.1 with | []=>some ([r.1],r.2.2.1) | _=>none)=some x→bL w Z s ι cs vs→cc w b o vs→vs.length=t.size→(∀j,j<t.size→Z b (o+j))→u=.pointer (some (at_ b o)) →
   ∃Z',Inv w0 F0 Z0 n x.2 a w ι Z'∧fj s ι Z x.2 Z'∧((x.1=[]∧u=.pointer none)∨∃y b o vs,x.1=[y]∧u=.pointer (some (at_ b o))∧cc w b o vs∧t.au w Z' .R y vs ag.none∧∀j,j<t.size→Z' b (o+j)):=by
  intro cs b o vs x ho pX cC hl hz hu;obtain ⟨r,hr,ho⟩:=bd ho
  cases eD:r.2.1 with
  | cons=>rw [eD] at ho;cases ho
  | nil=>
   rw [eD] at ho;obtain rfl:=aW ho;obtain ⟨us1,vs1,F1,cH,e1,i1,s1,c1,f1,bE,_,fk,_,g1⟩:=ad.lY t false .R cs s [] r _ Z hr h pX (by simp);rw [eD] at c1;have hvs1:vs1=[]:=by cases vs1 with | nil=>rfl | cons=>exact c1.elim
   subst hvs1;rw [List.append_nil] at e1;subst e1;rw [fk rfl,o3] at bE;exact⟨cH,i1,s1,.inr ⟨r.1,b,o,_,rfl,hu,cC,sA bE,fun j hj=>s1.dL _ _ (hz j hj)⟩⟩
 cases v <;> simp only [Ea] at ho <;> try (simp at ho;done)
 ·rename_i dp cs off;simp only [aT] at h1;obtain ⟨h2,b,o,vs,rfl,h3⟩:=h1
  cases ht:takeN off t.size cs with
  | none=>rw [ht] at ho;cases ho
  | some ds=>
   rw [ht] at ho
   cases dp with
   | cons=>cases ho
   | nil=>obtain ⟨k1,k2,k3⟩:=h3 rfl;obtain ⟨hle,rfl⟩:=pT ht;have hlen:=k1.len;refine go _ b (o+off) ((vs.drop off).take t.size) x ho ((k1.drop off).take _) (k2.part off t.size) (by simp;omega) (fun j hj=>?_) rfl;have:=k3 (off+j) (by omega);rw [o3] at this;rwa [← Nat.add_assoc] at this
 ·simp only [aT] at h1;obtain rfl:=aW ho;exact⟨Z,h,.refl,.inl ⟨rfl,h1⟩⟩
 ·rename_i b dp cs;simp only [aT] at h1;rcases h1 with⟨rfl,h1⟩ | ⟨rfl,h2,b,o,vs,rfl,h3⟩
  ·obtain rfl:=aW ho;exact⟨Z,h,.refl,.inl ⟨rfl,h1⟩⟩
  ·simp only [cond_true] at ho
   cases dp with
   | cons=>cases ho
   | nil=>
    cases hc:Nat.beq cs.length t.size
    ·rw [show(List.isEmpty ([]:List (Nat×Nat))&&Nat.beq cs.length t.size)=false by rw [hc];rfl] at ho;cases ho
    rw [show(List.isEmpty ([]:List (Nat×Nat))&&Nat.beq cs.length t.size)=true by rw [hc];rfl] at ho;have hc:=Nat.eq_of_beq_eq_true hc;obtain ⟨k1,k2,k3⟩:=h3 rfl;have hlen:=k1.len;refine go _ b (o+0) vs x ho k1 k2 (by omega) (fun j hj=>?_) rfl;have:=k3 j (by omega);rw [o3] at this;exact this
def hK(ps:List bD)(gs:List ba):(rs:List c4)→List ba→ar→Option (c4.outs rs (bD.ef ps)).D
 | [],vs,s=>
  match vs with
  | []=>iR ps gs s
  | _=>none
 | .val t m :: rs,vs,s=>
  match vs with
  | v :: vs=>(Au t m v s).bind fun r=>(hK ps gs rs vs r.2).bind fun q=>some (r.1,q)
  | []=>none
 | .opt a off t :: rs,vs,s=>
  match vs with
  | v :: vs=>(Av gs a off t v s).bind fun x=>(hK ps gs rs vs s).bind fun q=>some (x,q)
  | []=>none
 | .any t :: rs,vs,s=>
  match vs with
  | v :: vs=>cond (Aw t v) (hK ps gs rs vs s) none
  | []=>none
 | .pO t :: rs,vs,s=>
  match vs with
  | v :: vs=>(Ea t v s).bind fun r=>(hK ps gs rs vs r.2).bind fun q=>some (r.1,q)
  | []=>none
 | .new t m :: rs,vs,s=>
  match vs with
  | v :: vs=>(D' t m v s).bind fun r=>(hK ps gs rs vs r.2).bind fun q=>some (r.1,q)
  | []=>none
theorem af'{ps:List bD}{gs:List ba}{s:ar} : hK ps gs [] [] s=iR ps gs s:=rfl
theorem aga{ps:List bD}{gs:List ba}{s:ar}{v:ba}{vs:List ba} : hK ps gs [] (v :: vs) s=none:=rfl
theorem agb{ps:List bD}{gs:List ba}{a o:Nat}{t:ad}{rs:List c4}{s:ar}{v:ba}{vs:List ba} : hK ps gs (.opt a o t :: rs) (v :: vs) s=(Av gs a o t v s).bind fun x=>(hK ps gs rs vs s).bind fun q=>some (x,q):=rfl
theorem agc{ps:List bD}{gs:List ba}{a o:Nat}{t:ad}{rs:List c4}{s:ar} : hK ps gs (.opt a o t :: rs) [] s=none:=rfl
theorem agd{ps:List bD}{gs:List ba}{t:ad}{m:bg}{rs:List c4}{s:ar}{v:ba}{vs:List ba} : hK ps gs (.val t m :: rs) (v :: vs) s=(Au t m v s).bind fun r=>(hK ps gs rs vs r.2).bind fun q=>some (r.1,q):=rfl
theorem age{ps:List bD}{gs:List ba}{t:ad}{m:bg}{rs:List c4}{s:ar} : hK ps gs (.val t m :: rs) [] s=none:=rfl
theorem agf{ps:List bD}{gs:List ba}{t:ad}{rs:List c4}{s:ar}{v:ba}{vs:List ba} : hK ps gs (.any t :: rs) (v :: vs) s=cond (Aw t v) (hK ps gs rs vs s) none:=rfl
theorem agh{ps:List bD}{gs:List ba}{t:ad}{rs:List c4}{s:ar} : hK ps gs (.any t :: rs) [] s=none:=rfl
theorem agi{ps:List bD}{gs:List ba}{t:ad}{rs:List c4}{s:ar}{v:ba}{vs:List ba} : hK ps gs (.pO t :: rs) (v :: vs) s=(Ea t v s).bind fun r=>(hK ps gs rs vs r.2).bind fun q=>some (r.1,q):=rfl
theorem agj{ps:List bD}{gs:List ba}{t:ad}{rs:List c4}{s:ar} : hK ps gs (.pO t :: rs) [] s=none:=rfl
theorem agk{ps:List bD}{gs:List ba}{t:ad}{m:bg}{rs:List c4}{s:ar}{v:ba}{vs:List ba} : hK ps gs (.new t m :: rs) (v :: vs) s=(D' t m v s).bind fun r=>(hK ps gs rs vs r.2).bind fun q=>some (r.1,q):=rfl
theorem agl{ps:List bD}{gs:List ba}{t:ad}{m:bg}{rs:List c4}{s:ar} : hK ps gs (.new t m :: rs) [] s=none:=rfl
theorem yc{ps:List bD}{gs:List ba}{us:List Value} : ∀(rs:List c4) (vs:List ba) (dy:List Value) (s:ar) (Z:ag) (x:(c4.outs rs (bD.ef ps)).D),hK ps gs rs vs s=some x→Inv w0 F0 Z0 n s a w ι Z →
  a' w Z s ι gs us→a' w Z s ι vs dy→∃av F Z',Inv w0 F0 Z0 n av a w ι Z'∧fj s ι Z av Z'∧bK w0 F0 av w ι Z' F∧iy w Z' ps us rs x dy F∧∀b o,F b o→∃id,(s.o id).live∧(ι id).F b o
 | [],vs,dy,s,Z,x,ho,h,aC,hv=>by
  cases vs with
  | cons=>rw [aga] at ho;cases ho
  | nil=>rw [af'] at ho;simp only [a'] at hv;obtain ⟨av,F,Z',i1,s1,f1,bE,g1⟩:=u_ ps gs us s Z x ho h aC;exact⟨av,F,Z',i1,s1,f1,⟨hv,bE⟩,g1⟩
 | .opt l9 off t :: rs,vs,dy,s,Z,x,ho,h,aC,hv=>by
  cases vs with
  | nil=>rw [agc] at ho;cases ho
  | cons v vs=>simp only [a'] at hv;obtain ⟨u,aX,rfl,h1,h2⟩:=hv;rw [agb] at ho;obtain ⟨y,aR,ho⟩:=bd ho;obtain ⟨q,hq,ho⟩:=bd ho;obtain rfl:=aW ho;obtain ⟨av,dU,bQ,i2,s2,f2,cp,g2⟩:=yc rs vs aX s Z q hq h aC h2;exact⟨av,dU,bQ,i2,s2,f2,⟨u,aX,rfl,af8 aR h aC h1,cp⟩,g2⟩
 | .any t :: rs,vs,dy,s,Z,x,ho,h,aC,hv=>by
  cases vs with
  | nil=>rw [agh] at ho;cases ho
  | cons v vs=>
   simp only [a'] at hv;obtain ⟨u,aX,rfl,h1,h2⟩:=hv;rw [agf] at ho;cases hc:Aw t v
   ·rw [hc] at ho;cases ho
   rw [hc] at ho;obtain ⟨av,dU,bQ,i2,s2,f2,cp,g2⟩:=yc rs vs aX s Z x ho h aC h2;exact⟨av,dU,bQ,i2,s2,f2,⟨u,aX,rfl,af9 hc h1,cp⟩,g2⟩
 | .pO t :: rs,vs,dy,s,Z,x,ho,h,aC,hv=>by
  cases vs with
  | nil=>rw [agj] at ho;cases ho
  | cons v vs=>simp only [a'] at hv;obtain ⟨u,aX,rfl,h1,h2⟩:=hv;rw [agi] at ho;obtain ⟨r,hr,ho⟩:=bd ho;obtain ⟨q,hq,ho⟩:=bd ho;obtain rfl:=aW ho;obtain ⟨cH,i1,s1,bE⟩:=af_ hr h h1;obtain ⟨av,dU,bQ,i2,s2,f2,cp,g2⟩:=yc rs vs aX r.2 cH q hq i1 (a'.move s1.eC aC) (a'.move s1.eC h2);refine⟨av,dU,bQ,i2,s1.trans s2,f2,⟨u,aX,rfl,bE.imp (fun h=>h) fun⟨y,b,o,vs,k1,k2,k3,bs,bp⟩=>⟨y,b,o,vs,k1,k2,k3,ad.au.mono s2.dL _ _ (fun _ _ h=>h) bs,fun j hj=>s2.dL _ _ (bp j hj)⟩,cp⟩,?_⟩;intro b o y;obtain ⟨id,hl,hf⟩:=g2 b o y;exact⟨id,(s1.live hl).1,hf⟩
 | .new t m :: rs,vs,dy,s,Z,x,ho,h,aC,hv=>by
  cases vs with
  | nil=>rw [agl] at ho;cases ho
  | cons v vs=>
   simp only [a'] at hv;obtain ⟨u,aX,rfl,h1,h2⟩:=hv;rw [agk] at ho;obtain ⟨r,hr,ho⟩:=bd ho;obtain ⟨q,hq,ho⟩:=bd ho;obtain rfl:=aW ho;obtain ⟨b,o,ws,F1,cH,rfl,i1,s1,f1,cC,hwr,bE,agm,g1⟩:=af7 hr h h1;obtain ⟨av,dU,bQ,i2,s2,f2,cp,g2⟩:=yc rs vs aX r.2 cH q hq i1 (a'.move s1.eC aC) (a'.move s1.eC h2);refine⟨av,(F1.or (ag.run b o t.size)).or dU,bQ,i2,s1.trans s2,(f1.shrink s2).or f2,⟨b,o,ws,aX,F1,dU,rfl,cC,hwr,ad.au.mono s2.dL _ _ (fun _ _ h=>h) bE,cp,?_,agm,fun _ _ h=>.inl h,fun _ _ h=>.inr h⟩,?_⟩
   ·intro b o x y;obtain ⟨id,hl,hf⟩:=g2 b o y;exact f1.apart id hl b o x hf
   ·rintro b o (y | y)
    ·exact g1 b o y
    ·obtain ⟨id,hl,hf⟩:=g2 b o y;exact⟨id,(s1.live hl).1,hf⟩
 | .val t m :: rs,vs,dy,s,Z,x,ho,h,aC,hv=>by
  cases vs with
  | nil=>rw [age] at ho;cases ho
  | cons v vs=>
   simp only [a'] at hv;obtain ⟨u,aX,rfl,h1,h2⟩:=hv;rw [agd] at ho;obtain ⟨r,hr,ho⟩:=bd ho;obtain ⟨q,hq,ho⟩:=bd ho;obtain rfl:=aW ho;obtain ⟨ws,F1,cH,rfl,i1,s1,f1,bE,g1⟩:=UM hr h h1;obtain ⟨av,dU,bQ,i2,s2,f2,cp,g2⟩:=yc rs vs aX r.2 cH q hq i1 (a'.move s1.eC aC) (a'.move s1.eC h2);refine⟨av,F1.or dU,bQ,i2,s1.trans s2,(f1.shrink s2).or f2,⟨ws,aX,F1,dU,rfl,ad.au.mono s2.dL _ _ (fun _ _ h=>h) bE,cp,?_,fun _ _ h=>.inl h,fun _ _ h=>.inr h⟩,?_⟩
   ·intro b o x y;obtain ⟨id,hl,hf⟩:=g2 b o y;exact f1.apart id hl b o x hf
   ·rintro b o (y | y)
    ·exact g1 b o y
    ·obtain ⟨id,hl,hf⟩:=g2 b o y;exact⟨id,(s1.live hl).1,hf⟩
end
end Go.LM
namespace Go.LM
inductive lA where
 | keep
 | bM (t:ad) (dp:List Nat)
 | af (c:Nat)
 | aw (c:Nat)
inductive kT where
 | cell (c:lA)
 | iK (cs:List lA)
 | ptr (c:Nat)
 | du (dp:List Nat) (cs:List lA)
 | opt (c:Nat)
 | same
 | drop
 | xm (a b:List (List lA))
inductive iS where
 | var (cs:List lA)
 | row (t:ad) (em:bg)
structure bT where
 ak:List (Nat×kT)
 os:List (Nat×iS)
 gs:List kT
abbrev Ren:=List (Nat×Option Nat)
def j6:Ren→Nat→Option (Option Nat)
 | [],_=>none
 | (k,v) :: l,c=>cond (Nat.beq k c) (some v) (j6 l c)
def ks(r:Ren)(c id:Nat):Bool:=match j6 r c with
 | some (some i)=>Nat.beq i id
 | _=>false
def u'(r:Ren)(c:Nat):Bool:=match j6 r c with
 | some none=>true
 | _=>false
def hL:List (Nat×iS)→Nat→Bool
 | [],_=>false
 | (k,_) :: l,c=>cond (Nat.beq k c) true (hL l c)
def s4:Ren→List Nat
 | []=>[]
 | (_,some i) :: l=>i :: s4 l
 | (_,none) :: l=>s4 l
def qa:List Nat→Bool
 | []=>true
 | x :: l=> !(l.any (Nat.beq x))&&qa l
def Ma:Ren→List Nat
 | []=>[]
 | (k,_) :: l=>k :: Ma l
def s5(r:Ren)(c:Nat)(v:Option Nat):Ren:=match j6 r c with
 | none=>(c,v) :: r
 | some _=>r
def Mb(r:Ren):List Nat→List (Nat×Nat)→Ren
 | c :: cs,d :: ds=>Mb (s5 r c (some d.1)) cs ds
 | _,_=>r
def UO(r:Ren):lA→bb→Ren
 | .af c,.af id _=>s5 r c (some id)
 | .af c,.nil _=>s5 r c none
 | .aw c,.af id _=>s5 r c (some id)
 | .bM _ dp,.bM _ ds _ _=>Mb r dp ds
 | .bM _ (c :: _),.af id _=>s5 r c (some id)
 | _,_=>r
def Eb(r:Ren):List lA→List bb→Ren
 | c :: cs,x :: xs=>Eb (UO r c x) cs xs
 | _,_=>r
def UP(r:Ren):kT→ba→Ren
 | .cell c,.aV x=>UO r c x
 | .cell (.af c),.lh=>s5 r c none
 | .iK cs,.iK xs=>Eb r cs xs
 | .ptr c,.ptr p=>s5 r c (some p.id)
 | .du dp cs,.du ds xs _=>Eb (Mb r dp ds) cs xs
 | .opt c,.opt id _=>s5 r c (some id)
 | _,_=>r
def UQ(s:ar)(r:Ren):List (Nat×kT)→Ren
 | []=>r
 | (d,t) :: l=>UQ s (UP r t (s.t d)) l
def UR(r:Ren):List kT→List ba→Ren
 | t :: l,x :: xs=>UR (UP r t x) l xs
 | _,_=>r
def Mc(s:ar)(r:Ren):List (Nat×iS)→Ren
 | []=>r
 | (c,.var cs) :: l=>Mc s (match j6 r c with
   | some (some id)=>(match s.o id with
    | .var _ xs=>Eb r cs xs
    | _=>r)
   | _=>r) l
 | _ :: l=>Mc s r l
def va(dp:List Nat):List (Nat×Nat):=dp.map fun c=>(c,0)
def rl(r:Ren)(os:List (Nat×iS))(s:ar):lA→bb→Option bb
 | .keep,c=>match c with
  | .int k x=>some (.int k x)
  | .bool b=>some (.bool b)
  | .str x=>some (.str x)
  | _=>none
 | .bM t dp,c=>cond (dp.all (hL os)&&(borrows s c).all fun d=>dp.any fun c=>ks r c d.1) ((pP s t c).bind fun x=>some (.bM t (va dp) none x)) none
 | .af k,c=>cond (hL os k) (match c with
  | .af id sub=>cond (ks r k id) (some (.af k sub)) none
  | .nil _=>cond (u' r k) (some (.af k none)) none
  | _=>none) none
 | .aw k,c=>cond (hL os k) (match c with
  | .af id sub=>(match s.o id with
   | .row _ _ _ xs=>cond (ks r k id) (some (.af k (some (eB sub,lS sub xs)))) none
   | _=>none)
  | _=>none) none
def o5(r:Ren)(os:List (Nat×iS))(s:ar):List lA→List bb→Option (List bb)
 | [],[]=>some []
 | c :: cs,x :: xs=>(rl r os s c x).bind fun y=>(o5 r os s cs xs).bind fun ys=>some (y :: ys)
 | _,_=>none
def Ec(r:Ren)(os:List (Nat×iS))(s:ar):kT→ba→Option ba
 | .cell c,.aV x=>(rl r os s c x).bind fun y=>some (.aV y)
 | .cell (.af k),.lh=>cond (hL os k&&u' r k) (some (.aV (.af k none))) none
 | .cell (.bM t dp),.lh=>cond (dp.all (hL os)) (some (.aV (.bM t (va dp) none []))) none
 | .iK cs,.iK xs=>(o5 r os s cs xs).bind fun ys=>some (.iK ys)
 | .ptr k,.ptr p=>cond (hL os k&&ks r k p.id) (some (.ptr { p with id:=k })) none
 | .du dp cs,.du ds xs off=>cond (dp.all (hL os)&&alive s ds&&ds.all fun d=>dp.any fun c=>ks r c d.1) ((o5 r os s cs xs).bind fun ys=>some (.du (va dp) ys off)) none
 | .opt k,.opt id o=>cond (hL os k&&ks r k id) (some (.opt k o)) none
 | .same,.kg=>some .kg
 | .same,.aB=>some .aB
 | .same,.fn f [] []=>some (.fn f [] [])
 | .drop,_=>some .aB
 | _,_=>none
def yd(r:Ren)(os:List (Nat×iS))(s:ar):List kT→List ba→Option (List ba)
 | [],[]=>some []
 | t :: l,x :: xs=>(Ec r os s t x).bind fun v=>(yd r os s l xs).bind fun vs=>some (v :: vs)
 | _,_=>none
def Md(r:Ren)(os:List (Nat×iS))(s:ar):kT→ba→Option ba
 | .xm a b,.fn f xs ys=>(yd r os s (a.map (kT.du [])) xs).bind fun x=>(yd r os s (b.map (kT.du [])) ys).bind fun y=>some (.fn f x y)
 | t,x=>Ec r os s t x
def Ed(r:Ren)(os:List (Nat×iS))(s:ar):List (Nat×kT)→Option (Nat→ba)
 | []=>some fun _=>.aB
 | (d,t) :: l=>(Md r os s t (s.t d)).bind fun v=>(Ed r os s l).bind fun f=>some (bW f d v)
def Me(r:Ren)(os:List (Nat×iS))(s:ar)(c:Nat)(t:iS):Option cB:=
 match j6 r c with
 | some (some id)=>(match t,s.o id with
  | .row t em,.row u gD _ xs=>cond (bg.beq gD em||xs.isEmpty) ((eR (.sl u) (.sl t) xs).bind fun x=>some (.row t em 0 x)) none
  | .var cs,.var _ xs=>(o5 r os s cs xs).bind fun ys=>some (.var 0 ys)
  | _,_=>none)
 | some none=>(match t with
  | .row t em=>some (.row t em 0 [])
  | _=>none)
 | none=>none
def Ee(r:Ren)(os:List (Nat×iS))(s:ar):List (Nat×iS)→Option (Nat→cB)
 | []=>some fun _=>.none
 | (c,t) :: l=>(Me r os s c t).bind fun v=>(Ee r os s l).bind fun f=>some (bW f c v)
def Mf(T:bT)(r:Ren)(s:ar):Option ar:=
 cond (qa (s4 r)&&qa (Ma r)) ((Ed r T.os s T.ak).bind fun t=>(Ee r T.os s T.os).bind fun o=>(yd r T.os s T.gs s.g).bind fun g=>some ⟨t,o,g⟩) none
def norm(T:bT)(s:ar):Option ar:=Mf T (Mc s (UR (UQ s [] T.ak) T.gs s.g) T.os) s
section
variable{w0:World}{F0 Z0:ag}{n:cM}{s s0:ar}{a:Act}{w:World}{ι atK:Nat→bH}{Z:ag}{r:Ren}{os:List (Nat×iS)}
def iota(r:Ren)(ι : Nat→bH):Nat→bH:=fun c=>match j6 r c with
 | some (some id)=> ι id
 | _=>⟨none,0,ag.none⟩
theorem s6{c id:Nat}(h:ks r c id=true):j6 r c=some (some id):=by
 unfold ks at h;split at h
 ·rename_i i hi;rw [hi,Nat.eq_of_beq_eq_true h]
 ·cases h
theorem US{c:Nat}(h:u' r c=true):j6 r c=some none:=by
 unfold u' at h;split at h
 ·rename_i hi;exact hi
 ·cases h
theorem Ef{c id:Nat}(h:ks r c id=true):iota r ι c = ι id:=by unfold iota;rw [s6 h]
theorem agn{c:Nat}(h:u' r c=true):iota r ι c=⟨none,0,ag.none⟩:=by unfold iota;rw [US h]
def mZ(r:Ren)(os:List (Nat×iS))(s s0:ar):Prop:=∀c,(s0.o c=.none∧hL os c=false) ∨
 (∃id,j6 r c=some (some id)∧((∃t em o6 ver xs,s.o id=.row t o6 ver xs∧s0.o c=.row t em 0 xs∧(o6=em∨xs=[]))∨(∃ver cs me o7,s.o id=.var ver cs∧s0.o c=.var 0 me∧o5 r os s o7 cs=some me))) ∨
 (j6 r c=some none∧∃t em,s0.o c=.row t em 0 [])
theorem mZ.known(h:mZ r os s s0){c:Nat}(hc:hL os c=true):LM.known s0 c:=by
 intro h0;rcases h c with⟨_,h1⟩ | ⟨id,_,⟨t,em,o6,ver,xs,_,h1,_⟩ | ⟨ver,cs,me,o7,_,h1,_⟩⟩ | ⟨_,t,em,h1⟩
 ·rw [hc] at h1;cases h1
 all_goals rw [h1] at h0;cases h0
theorem mZ.dep(h:mZ r os s s0){c:Nat}(hc:hL os c=true):eI s0 (c,0):=⟨h.known hc,.inr (Nat.zero_le _)⟩
theorem UT(h:mZ r os s s0){dp:List Nat}(af:dp.all (hL os)=true):∀d,d∈va dp→eI s0 d:=by intro d jO;unfold va at jO;obtain ⟨c,hc,rfl⟩:=List.mem_map.1 jO;exact h.dep (List.all_eq_true.1 af c hc)
theorem UU{dp:List Nat}{ds:List (Nat×Nat)}(h:∀d,d∈ds→(dp.any fun c=>ks r c d.1)=true):ag.sub (dt ι ds) (dt (iota r ι) (va dp)):=by
 rintro b o ⟨d,af,hf⟩
 obtain ⟨c,hc,cC⟩:=List.any_eq_true.1 (h d af);refine⟨(c,0),List.mem_map.2 ⟨c,hc,rfl⟩,?_⟩;rw [Ef cC];exact hf
theorem Eg(h:Inv w0 F0 Z0 n s a w ι Z)(bR:mZ r os s s0){c:lA}{x y:bb}{v:Value}(hn:rl r os s c x=some y)(hx:cr w Z s ι x v):cr w Z s0 (iota r ι) y v:=by
 cases c with
 | keep=>cases x <;> simp only [rl,Option.some.injEq] at hn <;> first | (cases hn;done) | (subst hn;exact hx)
 | bM t dp=>
  simp only [rl] at hn;cases hc:(dp.all (hL os)&&(borrows s x).all fun d=>dp.any fun c=>ks r c d.1)
  ·rw [hc] at hn;cases hn
  rw [hc] at hn;simp only [cond_true] at hn;simp only [Bool.and_eq_true] at hc;obtain ⟨xs,hl,hn⟩:=bd hn;obtain rfl:=aW hn;obtain ⟨h1,h2,h3⟩:=KD h hl hx;have lp:=UU (ι := ι) (r:=r) (dp:=dp) (ds:=borrows s x) fun d af=>List.all_eq_true.1 hc.2 d af
  have h4:=ad.au.mono (Z':=Z.or (dt (iota r ι) (va dp))) (fun b o hz=>hz.elim .inl fun h=>.inr (lp b o h)) _ _ (fun _ _ h=>h) h1;refine⟨UT bR hc.1,?_,fun _=>h4,.none⟩;simp only [ad.au] at h4;obtain ⟨A,c,hv,_⟩:=h4;simp only [List.cons.injEq,and_true] at hv;exact⟨A,_,c,hv⟩
 | af k=>
  simp only [rl] at hn;cases hc:hL os k
  ·rw [hc] at hn;cases hn
  rw [hc] at hn;simp only [cond_true] at hn
  cases x with
  | af id sub=>
   simp only at hn;cases cC:ks r k id
   ·rw [cC] at hn;cases hn
   rw [cC] at hn;obtain rfl:=aW hn;obtain ⟨h1,A,m,kl,hv,h2⟩:=hx;refine⟨bR.known hc,A,m,kl,hv,fun t em ver xs b0=>?_⟩;rw [Ef cC];rcases bR k with⟨h0,_⟩ | ⟨eh,h0,⟨cO,gD,UW,nM,gg,g1,g2,ge⟩ | ⟨nM,cs,me,o7,g1,g2,_⟩⟩ | ⟨h0,cO,gD,g2⟩
   ·rw [h0] at b0;cases b0
   ·rw [s6 cC] at h0;injection h0 with h0;injection h0 with h0;subst h0
    rw [g2] at b0;simp only [cB.core,cB.row.injEq] at b0;obtain ⟨rfl,rfl,rfl,b0⟩:=b0;have:=eq_of_heq b0;subst this;exact h2 _ _ _ _ (lW g1)
   ·rw [g2] at b0;cases b0
   ·rw [s6 cC] at h0;cases h0
  | nil u=>
   simp only at hn;cases cC:u' r k
   ·rw [cC] at hn;cases hn
   rw [cC] at hn;obtain rfl:=aW hn;have hv:v=.slice none 0 0:=hx;refine⟨bR.known hc,none,0,0,hv,fun t em ver xs b0=>?_⟩;rw [agn cC];rcases bR k with⟨h0,_⟩ | ⟨eh,h0,_⟩ | ⟨h0,cO,gD,g2⟩
   ·rw [h0] at b0;cases b0
   ·rw [US cC] at h0;cases h0
   ·rw [g2] at b0;simp only [cB.core,cB.row.injEq] at b0;obtain ⟨rfl,rfl,rfl,b0⟩:=b0;have:=eq_of_heq b0;subst this;exact⟨rfl,Nat.le_refl _,Nat.le_refl _,Nat.le_refl _,.inl rfl⟩
  | _=>cases hn
 | aw k=>
  simp only [rl] at hn;cases hc:hL os k
  ·rw [hc] at hn;cases hn
  rw [hc] at hn;simp only [cond_true] at hn
  cases x with
  | af id sub=>
   simp only at hn
   cases hrow:s.o id with
   | row t2 adV adW adX=>
    rw [hrow] at hn;simp only at hn;cases cC:ks r k id
    ·rw [cC] at hn;cases hn
    rw [cC] at hn;obtain rfl:=aW hn;obtain ⟨h1,A,m,kl,hv,h2⟩:=hx;refine⟨bR.known hc,A,m,kl,hv,fun t em ver xs b0=>?_⟩;rw [Ef cC];rcases bR k with⟨h0,_⟩ | ⟨eh,h0,⟨cO,gD,UW,nM,gg,g1,g2,ge⟩ | ⟨nM,cs,me,o7,g1,g2,_⟩⟩ | ⟨h0,cO,gD,g2⟩
    ·rw [h0] at b0;cases b0
    ·rw [s6 cC] at h0;injection h0 with h0;injection h0 with h0;subst h0
     rw [g2] at b0;simp only [cB.core,cB.row.injEq] at b0;obtain ⟨rfl,rfl,rfl,b0⟩:=b0;have:=eq_of_heq b0;subst this;rw [hrow] at g1;simp only [cB.row.injEq] at g1;obtain ⟨rfl,rfl,rfl,g1⟩:=g1;have:=eq_of_heq g1;subst this;have h3:=h2 _ _ _ _ (lW hrow)
     cases sub with
     | none=>exact⟨h3.SE,h3.fits,h3.le,h3.cap,h3.at_⟩
     | some p=>exact h3
    ·rw [g2] at b0;cases b0
    ·rw [s6 cC] at h0;cases h0
   | _=>rw [hrow] at hn;cases hn
  | _=>cases hn
theorem Eh(h:Inv w0 F0 Z0 n s a w ι Z)(bR:mZ r os s s0):∀ {cs:List lA} {xs ys:List bb} {vs:List Value},o5 r os s cs xs=some ys→bL w Z s ι xs vs→bL w Z s0 (iota r ι) ys vs
 | [],[],ys,vs,hn,hx=>by
  obtain rfl:=aW hn
  cases vs with
  | nil=>trivial
  | cons=>exact hx.elim
 | [],_ :: _,_,_,hn,_=>by cases hn
 | _ :: _,[],_,_,hn,_=>by cases hn
 | c :: cs,x :: xs,ys,vs,hn,hx=>by
  simp only [o5] at hn;obtain ⟨y,h1,hn⟩:=bd hn;obtain ⟨UX,h2,hn⟩:=bd hn;obtain rfl:=aW hn
  cases vs with
  | nil=>exact hx.elim
  | cons v vs=>exact⟨Eg h bR h1 hx.1,Eh h bR h2 hx.2⟩
theorem Mg:∀ {cs:List lA} {xs ys:List bb},o5 r os s cs xs=some ys→ys.length=xs.length
 | [],[],_,hn=>by obtain rfl:=aW hn;rfl
 | [],_ :: _,_,hn=>by cases hn
 | _ :: _,[],_,hn=>by cases hn
 | c :: cs,x :: xs,ys,hn=>by simp only [o5] at hn;obtain ⟨y,h1,hn⟩:=bd hn;obtain ⟨UX,h2,hn⟩:=bd hn;obtain rfl:=aW hn;simp [Mg h2]
theorem UY(bR:mZ r os s s0){k:Nat}{p:Place}{A:Addr}(hc:hL os k=true)(cC:ks r k p.id=true)(aw:jI s ι p A):jI s0 (iota r ι) { p with id:=k } A:=by
 obtain ⟨h1,h2⟩:=aw;refine⟨h1,?_⟩;show match (s0.o k).core with | .var _ cs=>_ | .row t _ _ xs=>_ | _=>_
 rw [Ef cC];rcases bR k with⟨h0,_⟩ | ⟨eh,h0,⟨cO,gD,UW,nM,gg,g1,g2,ge⟩ | ⟨nM,cs,me,o7,g1,g2,_⟩⟩ | ⟨h0,cO,gD,g2⟩
 ·rw [h0];trivial
 ·rw [s6 cC] at h0;injection h0 with h0;injection h0 with h0;subst h0
  rw [g2];rw [g1] at h2;exact h2
 ·rw [s6 cC] at h0;injection h0 with h0;injection h0 with h0;subst h0
  rw [g2];rw [g1] at h2;exact h2
 ·rw [s6 cC] at h0;cases h0
theorem UZ(h:Inv w0 F0 Z0 n s a w ι Z)(bR:mZ r os s s0){t:kT}{x y:ba}{v:Value}(hn:Ec r os s t x=some y)(hx:aT w Z s ι x v):aT w Z s0 (iota r ι) y v:=by
 unfold Ec at hn;split at hn
 ·obtain ⟨z,h1,hn⟩:=bd hn;obtain rfl:=aW hn;simp only [aT] at hx ⊢;exact Eg h bR h1 hx
 ·rename_i k;cases hc:(hL os k&&u' r k)
  ·rw [hc] at hn;cases hn
  rw [hc] at hn;simp only [Bool.and_eq_true] at hc;obtain rfl:=aW hn;simp only [aT] at hx ⊢;exact Eg (c:=.af k) (x:=.nil .bool) h bR (by simp only [rl];rw [hc.1,hc.2];rfl) hx
 ·rename_i t dp;cases hc:dp.all (hL os)
  ·rw [hc] at hn;cases hn
  rw [hc] at hn;obtain rfl:=aW hn;simp only [aT] at hx ⊢;refine Eg (c:=.bM t dp) (x:=.nil t) h bR ?_ hx;simp only [rl,hc,borrows,List.all_nil,Bool.and_true,cond_true];simp only [pP,eR];rw [dif_pos (ad.beq_refl _)];rfl
 ·obtain ⟨z,h1,hn⟩:=bd hn;obtain rfl:=aW hn;simp only [aT] at hx ⊢;obtain ⟨vs,hv,hx⟩:=hx;exact⟨vs,hv,Eh h bR h1 hx⟩
 ·rename_i k p;cases hc:(hL os k&&ks r k p.id)
  ·rw [hc] at hn;cases hn
  rw [hc] at hn;simp only [Bool.and_eq_true] at hc;obtain rfl:=aW hn;simp only [aT] at hx ⊢;obtain ⟨_,A,hv,aw⟩:=hx;exact⟨bR.known hc.1,A,hv,UY bR hc.1 hc.2 aw⟩
 ·rename_i dp cs ds xs off;cases hc:(dp.all (hL os)&&alive s ds&&ds.all fun d=>dp.any fun c=>ks r c d.1)
  ·rw [hc] at hn;cases hn
  rw [hc] at hn;simp only [Bool.and_eq_true] at hc;simp only [cond_true] at hn;obtain ⟨z,h1,hn⟩:=bd hn;obtain rfl:=aW hn;simp only [aT] at hx ⊢;obtain ⟨_,b,o,vs,hv,hx⟩:=hx;obtain ⟨g1,g2,g3⟩:=hx hc.1.2;have lp:=UU (ι := ι) (r:=r) (dp:=dp) (ds:=ds) fun d af=>List.all_eq_true.1 hc.2 d af
  refine⟨UT bR hc.1.1,b,o,vs,hv,fun _=>⟨Eh h bR h1 g1,g2,fun j hj=>?_⟩⟩;rw [Mg h1] at hj;exact(g3 j hj).elim .inl fun h=>.inr (lp _ _ h)
 ·rename_i k id o;cases hc:(hL os k&&ks r k id)
  ·rw [hc] at hn;cases hn
  rw [hc] at hn;simp only [Bool.and_eq_true] at hc;obtain rfl:=aW hn;simp only [aT] at hx ⊢;obtain ⟨_,hx⟩:=hx;exact⟨bR.known hc.1,hx.imp (fun h=>h) fun⟨h1,A,hv,aw⟩=>⟨h1,A,hv,UY (p:=⟨id,some o.toNat,0⟩) bR hc.1 hc.2 aw⟩⟩
 ·obtain rfl:=aW hn;simpa only [aT] using hx
 ·obtain rfl:=aW hn;simp only [aT]
 ·obtain rfl:=aW hn;simpa only [aT,a'] using hx
 ·obtain rfl:=aW hn;simp only [aT]
 ·cases hn
theorem Ei(h:Inv w0 F0 Z0 n s a w ι Z)(bR:mZ r os s s0):∀ {ak:List kT} {xs ys:List ba} {vs:List Value},yd r os s ak xs=some ys→a' w Z s ι xs vs→a' w Z s0 (iota r ι) ys vs
 | [],[],ys,vs,hn,hx=>by obtain rfl:=aW hn;simpa only [a'] using hx
 | [],_ :: _,_,_,hn,_=>by cases hn
 | _ :: _,[],_,_,hn,_=>by cases hn
 | t :: ak,x :: xs,ys,vs,hn,hx=>by simp only [yd] at hn;obtain ⟨y,h1,hn⟩:=bd hn;obtain ⟨UX,h2,hn⟩:=bd hn;obtain rfl:=aW hn;simp only [a'] at hx ⊢;obtain ⟨v,bI,rfl,g1,g2⟩:=hx;exact⟨v,bI,rfl,UZ h bR h1 g1,Ei h bR h2 g2⟩
theorem ago(h:Inv w0 F0 Z0 n s a w ι Z)(bR:mZ r os s s0){t:kT}{x y:ba}{v:Value}(hn:Md r os s t x=some y)(hx:aT w Z s ι x v):aT w Z s0 (iota r ι) y v:=by
 unfold Md at hn;split at hn
 ·obtain ⟨U,h1,hn⟩:=bd hn;obtain ⟨agp,h2,hn⟩:=bd hn;obtain rfl:=aW hn;simp only [aT] at hx ⊢;obtain ⟨us,vs,rfl,k1,k2⟩:=hx;exact⟨us,vs,rfl,Ei h bR h1 k1,Ei h bR h2 k2⟩
 ·exact UZ h bR hn hx
theorem U0(h:Inv w0 F0 Z0 n s a w ι Z)(bR:mZ r os s s0):∀ {ak:List (Nat×kT)} {f:Nat→ba},Ed r os s ak=some f→∀k,aT w Z s0 (iota r ι) (f k) (a.tmps.getD k undef)
 | [],f,hn,k=>by obtain rfl:=aW hn;simp only [aT]
 | (d,t) :: l,f,hn,k=>by
  simp only [Ed] at hn;obtain ⟨v,h1,hn⟩:=bd hn;obtain ⟨g,h2,hn⟩:=bd hn;obtain rfl:=aW hn;by_cases hk:d=k
  ·subst hk;rw [cL];exact ago h bR h1 (h.tmps d)
  ·rw [cW hk];exact U0 h bR h2 k
theorem agq{c:Nat}{t:iS}{v:cB}(hn:Me r os s c t=some v) :
  (∃id,j6 r c=some (some id)∧((∃t em o6 ver xs,s.o id=.row t o6 ver xs∧v=.row t em 0 xs∧(o6=em∨xs=[]))∨(∃ver cs me o7,s.o id=.var ver cs∧v=.var 0 me∧o5 r os s o7 cs=some me)))∨(j6 r c=some none∧∃t em,v=.row t em 0 []):=by
 unfold Me at hn;split at hn
 ·rename_i id hl;refine .inl ⟨id,hl,?_⟩;split at hn
  ·rename_i t em u gD ver xs ho;cases hb:(bg.beq gD em||xs.isEmpty)
   ·rw [hb] at hn;cases hn
   rw [hb] at hn;obtain ⟨x,h1,hn⟩:=bd hn;obtain rfl:=aW hn;simp only [Bool.or_eq_true] at hb;obtain ⟨e,rfl⟩:=hy h1;subst e;refine .inl ⟨_,_,_,_,_,ho,rfl,?_⟩;rcases hb with hb | hb
   ·exact .inl (bg.eq_of_beq _ _ hb)
   ·exact .inr (List.isEmpty_iff.1 hb)
  ·rename_i cs ver xs ho;obtain ⟨ys,h1,hn⟩:=bd hn;obtain rfl:=aW hn;exact .inr ⟨_,_,_,_,ho,rfl,h1⟩
  ·cases hn
 ·rename_i hl;split at hn
  ·obtain rfl:=aW hn;exact .inr ⟨hl,_,_,rfl⟩
  ·cases hn
 ·cases hn
theorem Ej:∀ {l:List (Nat×iS)} {f:Nat→cB},Ee r os s l=some f→∀c,(f c=.none∧hL l c=false) ∨
  (∃id,j6 r c=some (some id)∧((∃t em o6 ver xs,s.o id=.row t o6 ver xs∧f c=.row t em 0 xs∧(o6=em∨xs=[]))∨(∃ver cs me o7,s.o id=.var ver cs∧f c=.var 0 me∧o5 r os s o7 cs=some me))) ∨
  (j6 r c=some none∧∃t em,f c=.row t em 0 [])
 | [],f,hn,c=>by obtain rfl:=aW hn;exact .inl ⟨rfl,rfl⟩
 | (d,t) :: l,f,hn,c=>by
  simp only [Ee] at hn;obtain ⟨v,h1,hn⟩:=bd hn;obtain ⟨g,h2,hn⟩:=bd hn;obtain rfl:=aW hn;by_cases hk:d=c
  ·subst hk;rw [cL];exact .inr (agq h1)
  ·rw [cW hk];rcases Ej h2 c with⟨g1,g2⟩ | g
   ·refine .inl ⟨g1,?_⟩;unfold hL
    have:Nat.beq d c=false:=by
     cases hb:Nat.beq d c
     ·rfl
     ·exact absurd (Nat.eq_of_beq_eq_true hb) hk
    rw [this];exact g2
   ·exact .inr g
theorem Mh{c:Nat}{v:Option Nat} : ∀ {r:Ren},j6 r c=some v→(c,v)∈r
 | [],h=>by cases h
 | (k,u) :: l,h=>by
  unfold j6 at h;cases hb:Nat.beq k c
  ·rw [hb] at h;exact List.mem_cons_of_mem _ (Mh h)
  ·rw [hb] at h;obtain rfl:=aW h;obtain rfl:=Nat.eq_of_beq_eq_true hb;exact List.mem_cons_self
theorem U1{c id:Nat} : ∀ {r:Ren},(c,some id)∈r→id∈s4 r
 | (k,u) :: l,h=>by
  rcases List.mem_cons.1 h with h | h
  ·injection h with h1 h2
   subst h1 h2;exact List.mem_cons_self
  ·have:=U1 h
   cases u with
   | none=>exact this
   | some i=>exact List.mem_cons_of_mem _ this
theorem Mi{c c' id:Nat} : ∀ {r:Ren},qa (s4 r)=true→(c,some id)∈r→(c',some id)∈r→c=c'
 | (k,u) :: l,hn,h,h'=>by
  cases u with
  | none=>
   simp only [s4] at hn;rcases List.mem_cons.1 h with h | h
   ·injection h with _ h2;cases h2
   rcases List.mem_cons.1 h' with h' | h'
   ·injection h' with _ h2;cases h2
   exact Mi hn h h'
  | some i=>
   simp only [s4,qa,Bool.and_eq_true,Bool.not_eq_true'] at hn;have bS:∀ {x},(x,some i)∈l→False:=by intro x hx;have:=U1 hx;have h3:=List.any_eq_false.1 hn.1 i this;simp at h3
   rcases List.mem_cons.1 h with g | g
   ·injection g with h1 h2;injection h2 with h2
    rcases List.mem_cons.1 h' with vd | vd
    ·injection vd with h3 h4;rw [h1,h3]
    ·exact(bS (h2 ▸ vd)).elim
   ·rcases List.mem_cons.1 h' with vd | vd
    ·injection vd with h1 h2;injection h2 with h2
     exact(bS (h2 ▸ g)).elim
    ·exact Mi hn.2 g vd
theorem agr{T:bT}(ye:n.gc=[])(hn:Mf T r s=some s0)(hs:c5 w0 F0 Z0 n s a w):c5 w0 F0 Z0 n s0 a w:=by
 obtain ⟨ι,Z,h⟩:=hs;unfold Mf at hn;cases iA:(qa (s4 r)&&qa (Ma r))
 ·rw [iA] at hn;cases hn
 rw [iA] at hn;simp only [Bool.and_eq_true] at iA;simp only [cond_true] at hn;obtain ⟨ags,h1,hn⟩:=bd hn;obtain ⟨cd,h2,hn⟩:=bd hn;obtain ⟨agt,h3,hn⟩:=bd hn;obtain rfl:=aW hn;have bR:mZ r T.os s ⟨ags,cd,agt⟩:=Ej h2
 have live:∀c,(cd c).live→(∃id,j6 r c=some (some id)∧(s.o id).live∧iota r ι c = ι id)∨(iota r ι c=⟨none,0,ag.none⟩):=by
  intro c hl;rcases Ej h2 c with⟨g,_⟩ | ⟨id,g,⟨t,em,o6,ver,xs,g1,g2,ge⟩ | ⟨ver,cs,me,o7,g1,g2,_⟩⟩ | ⟨g,_⟩
  ·rw [g] at hl;exact hl.elim
  ·exact .inl ⟨id,g,by rw [g1];trivial,by unfold iota;rw [g]⟩
  ·exact .inl ⟨id,g,by rw [g1];trivial,by unfold iota;rw [g]⟩
  ·exact .inr (by unfold iota;rw [g])
 refine⟨iota r ι,Z,h.ext,h.dL,h.sC,h.ji,?_,?_,?_,?_,U0 h bR h1,h.size,Ei h bR h3 h.ghost,by rw [ye];intro e he;simp at he,h.defers⟩
 ·intro c;show iq w Z _ _ _ (cd c);rcases Ej h2 c with⟨g,_⟩ | ⟨id,g,⟨t,em,o6,ver,xs,g1,g2,ge⟩ | ⟨ver,cs,me,o7,g1,g2,g3⟩⟩ | ⟨g,t,em,g2⟩
  ·rw [g];trivial
  ·rw [g2];have:=h.gf id;rw [g1] at this;have hi:iota r ι c = ι id:=by unfold iota;rw [g]
   rw [hi];rcases ge with rfl | rfl
   ·exact this
   ·rcases this with k | ⟨a0,k1,k2⟩
    ·exact .inl k
    ·obtain ⟨k3,bs,bp,df,G,dW,cV,fV⟩:=k2;exact .inr ⟨a0,k1,k3,bs,bp,df,G,trivial,cV,fV⟩
  ·rw [g2];have:=h.gf id;rw [g1] at this;have hi:iota r ι c = ι id:=by unfold iota;rw [g]
   rw [hi];obtain ⟨a0,vs,k1,k2,k3,bs,bp⟩:=this;exact⟨a0,vs,k1,k2,Eh h bR g3 k3,bs,fun j hj=>bp j (by rw [← Mg g3];exact hj)⟩
  ·rw [g2];exact .inl ⟨rfl,by unfold iota;rw [g]⟩
 ·intro c hl b o hf;rcases live c hl with⟨id,_,g2,g3⟩ | g
  ·rw [g3] at hf;exact h.own id g2 b o hf
  ·rw [g] at hf;exact hf.elim
 ·intro c c' hl gr hne b o hf iN;rcases live c hl with⟨id,g1,g2,g3⟩ | g
  ·rcases live c' gr with⟨eh,k1,k2,k3⟩ | k
   ·rw [g3] at hf;rw [k3] at iN;refine h.apart id eh g2 k2 (fun e=>?_) b o hf iN;subst e;exact hne (Mi iA.1 (Mh g1) (Mh k1))
   ·rw [k] at iN;exact iN.elim
  ·rw [g] at hf;exact hf.elim
 ·intro c hl b o hf hz;rcases live c hl with⟨id,g1,g2,g3⟩ | g
  ·rw [g3] at hf;exact h.db id g2 b o hf hz
  ·rw [g] at hf;exact hf.elim
theorem agu{T:bT}(ye:n.gc=[])(hn:norm T s=some s0)(hs:c5 w0 F0 Z0 n s a w):c5 w0 F0 Z0 n s0 a w:=agr ye hn hs
end
end Go.LM
namespace Go.LM
def Ek:List (Nat×List Item)→Nat→Option (List Item)
 | [],_=>none
 | (k,x) :: l,r=>cond (Nat.beq k r) (some x) (Ek l r)
def U2(body:Code)(bF:Nat):Option (List Item):=Ek (gW [.code body]) bF
def Ax:List (Nat×List Item)→List Nat
 | []=>[]
 | (k,_) :: l=>k :: Ax l
def Mj(body:Code):Bool:=qa (Ax (gW [.code body]))
theorem U3{k:Nat}{x:List Item} : ∀ {l:List (Nat×List Item)},(k,x)∈l→k∈Ax l
 | (k',bz) :: l,h=>by
  rcases List.mem_cons.1 h with h | h
  ·injection h with h1 h2;rw [h1];exact List.mem_cons_self
  ·exact List.mem_cons_of_mem _ (U3 h)
theorem U4{k:Nat}{x:List Item} : ∀ {l:List (Nat×List Item)},qa (Ax l)=true→(k,x)∈l→Ek l k=some x
 | (k',bz) :: l,hn,h=>by
  simp only [Ax,qa,Bool.and_eq_true,Bool.not_eq_true'] at hn;unfold Ek;rcases List.mem_cons.1 h with h | h
  ·injection h with h1 h2
   rw [h1,Nat.beq_refl,h2];rfl
  ·have hne:Nat.beq k' k=false:=by
    have h3:=List.any_eq_false.1 hn.1 k (U3 h);cases hb:Nat.beq k' k
    ·rfl
    ·rw [Nat.eq_of_beq_eq_true hb] at h3;simp at h3
   rw [hne];exact U4 hn.2 h
section
variable{bB : Type}
def Mk(hM:Nat→Option bT)(k:Nat→ar→Option bB)(bF:Nat)(s:ar):Option bB:=
 match hM bF with
 | some T=>(norm T s).bind (k bF)
 | none=>none
def Ml(hM:Nat→Option bT)(bF:Nat):Bool:=(hM bF).isSome
def Mm(hM:Nat→Option bT)(fin:ar→Option bB)(k:Nat→ar→Option bB):Hand bB:=⟨fun r _ s=>Mk hM k r s,fin⟩
noncomputable def Mn(E:Env)(hM:Nat→Option bT)(body:Code)(fin:ar→Option bB)(k:Nat→ar→Option bB)(bF:Nat)(s:ar):Option bB:=
 match U2 body bF with
 | some todo=>kj E (Ml hM) (Mm hM fin k) 100000 true todo s
 | none=>none
noncomputable def s7(E:Env)(hM:Nat→Option bT)(body:Code)(fin:ar→Option bB):Nat→Nat→ar→Option bB
 | 0,_,_=>none
 | m+1,bF,s=>Mn E hM body fin (s7 E hM body fin m) bF s
end
def ve(E:Env):List ResultVar→ar→Option (List ba)
 | [],_=>some []
 | .tmp t :: l,s=>(ve E l s).bind fun vs=>some (s.t t :: vs)
 | .cell a ty :: l,s=>
  match E.ty ty,s.t a with
  | some T,.ptr p=>((mA s T.size p).bind (kh T)).bind fun v=>(ve E l s).bind fun vs=>some (v :: vs)
  | _,_=>none
def m0(key:Nat):List bD→List ba→List ba
 | .fn mz _ :: _,_ :: l=>[.fn key (l.take mz) (l.drop mz)]
 | .val _ _ :: ps,v :: l | .hV _ :: ps,v :: l | .hg _ _ :: ps,v :: l | .ref _ :: ps,v :: l | .mut _ _ _ :: ps,v :: l=>v :: m0 key ps l
 | _,_=>[]
def El:List bD→Bool
 | []=>true
 | .fn mz pN :: l=>Nat.beq l.length (mz+pN)
 | .val _ _ :: l | .hV _ :: l | .hg _ _ :: l | .ref _ :: l | .mut _ _ _ :: l=>El l
def U5(key:Nat)(e:Entry)(x:(bD.ins e.ps).D):Option ar:=
 (lz key e.ps x 1099511627776 ⟨fun _=>.aB,fun _=>.none,[]⟩).bind fun q=>some ⟨fun k=>(m0 key e.ps q.1).getD k .aB,q.2.1.o,q.1⟩
def vf(E:Env)(fn:Func)(e:Entry)(s:ar):Option (c4.outs e.rs (bD.ef e.ps)).D:=
 (ve E fn.results.toList s).bind fun vs=>hK e.ps s.g e.rs vs s
noncomputable def Ay(E:Env)(fn:Func)(body:Code)(hM:Nat→Option bT)(key:Nat)(e:Entry)(k:Nat→ar→Option (c4.outs e.rs (bD.ef e.ps)).D)(x:(bD.ins e.ps).D):Option (c4.outs e.rs (bD.ef e.ps)).D:=
 (U5 key e x).bind fun s=>kj E (Ml hM) (Mm hM (vf E fn e) k) 100000 false [.code body] s
section
variable{P:Program}{w0:World}{F0 Z0:ag}{n:cM}{s av:ar}{a b5:Act}{w w':World}{ι bm:Nat→bH}{Z Z':ag}{E:Env}{bB : Type}{r : bB}
def agv(w0:World)(F0 Z0:ag)(n:cM)(fin:ar→Option bB)(r : bB)(todo:List Item)(a:Act)(w:World):Prop:=
 (todo=[]∨∃k,todo=.code .ret :: k)∧∃s,fin s=some r∧c5 w0 F0 Z0 n s a w
theorem U6{hM:Nat→Option bT}{body:Code}{fin:ar→Option bB}(bR:j5 P E)(hn:E.n=n)(ye:n.gc=[])(hu:Mj body=true):∀(m:Nat) (fuel:Nat) (first:Bool) (todo:List Item) (s:ar) (a:Act) (w:World),
  (∀p,p∈gW todo→p∈gW [.code body])→kj E (Ml hM) (Mm hM fin (s7 E hM body fin m)) fuel first todo s=some r→c5 w0 F0 Z0 n s a w→∀(b:Frame) (cs:List Frame),
  ∃p_ b5 w',agv w0 F0 Z0 n fin r p_ b5 w'∧Steps P (lone (b.at a todo) cs w) (lone (b.at b5 p_) cs w')
 | m,fuel,first,todo,s,a,w,hc,hk,hs,b,cs=>by
  obtain ⟨t1,s1,a1,n1,h1,h2,h3,h4⟩:=UK bR hn fuel first todo s a w hk hs b cs
  rcases h2 with⟨bF,ops,im,k,rfl,jo,rk⟩ | ⟨o8,hfin⟩
  ·have Az:Mk hM (s7 E hM body fin m) bF s1=some r:=rk;unfold Mk at Az
   cases b2:hM bF with
   | none=>rw [b2] at Az;cases Az
   | some T=>
    rw [b2] at Az;obtain ⟨s2,g1,g2⟩:=bd Az;have oV:=agu ye g1 h1
    cases m with
    | zero=>cases g2
    | succ m=>unfold s7 Mn at g2;have kU:(bF,(.code (.region bF ops im) :: k:List Item))∈gW [.code body]:=hc _ (h3 _ (by simp [gW,mc]));have agw:U2 body bF=some (.code (.region bF ops im) :: k):=U4 hu kU;rw [agw] at g2;simp only at g2;obtain ⟨cO,b5,w',c0,d_⟩:=U6 bR hn ye hu m 100000 true _ s2 a1 n1 (fun p aw=>hc p (h3 p aw)) g2 oV b cs;exact⟨cO,b5,w',c0,h4.trans d_⟩
  ·exact⟨t1,a1,n1,⟨o8,s1,hfin,h1⟩,h4⟩
theorem m1{α : Type} : ∀x:Sem α,x.bind .pure=x
 | .pure a=>rfl
 | .load m a k=>by simp only [Sem.bind];exact congrArg _ (funext fun v=>m1 (k v))
 | .store m a v k=>by simp only [Sem.bind];exact congrArg _ (m1 k)
 | .new o k=>by simp only [Sem.bind];exact congrArg _ (funext fun v=>m1 (k v))
 | .shape r k=>by simp only [Sem.bind];exact congrArg _ (funext fun v=>m1 (k v))
 | .freeze a n k=>by simp only [Sem.bind];exact congrArg _ (m1 k)
 | .frozen a k=>by simp only [Sem.bind];exact congrArg _ (funext fun v=>m1 (k v))
 | .getObj r k=>by simp only [Sem.bind];exact congrArg _ (funext fun v=>m1 (k v))
 | .setObj r o k=>by simp only [Sem.bind];exact congrArg _ (m1 k)
 | .choose q k=>by simp only [Sem.bind];exact congrArg _ (funext fun v=>m1 (k v))
 | .sys c k=>by simp only [Sem.bind];exact congrArg _ (funext fun v=>m1 (k v))
 | .program k=>by simp only [Sem.bind];exact congrArg _ (funext fun v=>m1 (k v))
 | .mark m k=>by simp only [Sem.bind];exact congrArg _ (m1 k)
 | .halt h=>rfl
theorem m2{α β agx : Type}(f : α → Sem β)(g : β → Sem agx):∀x:Sem α,(x.bind f).bind g=x.bind fun a=>(f a).bind g
 | .pure a=>rfl
 | .load m a k=>by simp only [Sem.bind];exact congrArg _ (funext fun v=>m2 f g (k v))
 | .store m a v k=>by simp only [Sem.bind];exact congrArg _ (m2 f g k)
 | .new o k=>by simp only [Sem.bind];exact congrArg _ (funext fun v=>m2 f g (k v))
 | .shape r k=>by simp only [Sem.bind];exact congrArg _ (funext fun v=>m2 f g (k v))
 | .freeze a n k=>by simp only [Sem.bind];exact congrArg _ (m2 f g k)
 | .frozen a k=>by simp only [Sem.bind];exact congrArg _ (funext fun v=>m2 f g (k v))
 | .getObj r k=>by simp only [Sem.bind];exact congrArg _ (funext fun v=>m2 f g (k v))
 | .setObj r o k=>by simp only [Sem.bind];exact congrArg _ (m2 f g k)
 | .choose q k=>by simp only [Sem.bind];exact congrArg _ (funext fun v=>m2 f g (k v))
 | .sys c k=>by simp only [Sem.bind];exact congrArg _ (funext fun v=>m2 f g (k v))
 | .program k=>by simp only [Sem.bind];exact congrArg _ (funext fun v=>m2 f g (k v))
 | .mark m k=>by simp only [Sem.bind];exact congrArg _ (m2 f g k)
 | .halt h=>rfl
instance:LawfulMonad Sem:=LawfulMonad.mk' Sem (fun x=>m1 x) (fun _ _=>rfl) (fun x f g=>m2 f g x)
theorem U7{α : Type}{f : α → Sem Value} : ∀ {as:List α} {vs:List Value},vs.length=as.length→(∀i (hi:i<as.length) (dk:i<vs.length),(f as[i]).run P w=.ok vs[i] w)→(as.mapM f).run P w=.ok vs w
 | [],[],_,_=>by rw [List.mapM_nil];exact run_pure _ _
 | [],_ :: _,h,_=>by simp at h
 | _ :: _,[],h,_=>by simp at h
 | x :: as,v :: vs,hl,h=>by have h0:=h 0 (by simp) (by simp);simp only [List.getElem_cons_zero] at h0;rw [List.mapM_cons,run_bind,h0];simp only [run_bind];rw [U7 (as:=as) (vs:=vs) (by simpa using hl) fun i hi dk=>h (i+1) (by simpa using hi) (by simpa using dk)];simp only [run_pure]
theorem agy{α : Type}{f : α → Sem Value}{as:Array α}{vs:List Value}(hl:vs.length=as.size)(h:∀i (hi:i<as.toList.length) (dk:i<vs.length),(f as.toList[i]).run P w=.ok vs[i] w) :
  (as.mapM f).run P w=.ok vs.toArray w:=by
 rw [Array.mapM_eq_mapM_toList,map_eq_pure_bind,run_bind,U7 (by simpa using hl) h];rfl
theorem Mo(b2:hB P E)(h:Inv w0 F0 Z0 n s a w ι Z):∀ {l:List ResultVar} {vs:List ba},ve E l s=some vs →
  ∃us,us.length=l.length∧a' w Z s ι vs us∧∀i (hi:i<l.length) (dk:i<us.length),((fun | .tmp t=>pure (a.tmps.getD t undef) | .cell b t=>do loadVar t (← asAddr (a.tmps.getD b undef)):ResultVar→Sem Value) l[i]).run P w=.ok us[i] w
 | [],vs,hr=>by obtain rfl:=aW hr;exact⟨[],rfl,by simp only [a'],fun i hi=>by simp at hi⟩
 | .tmp t :: l,vs,hr=>by
  simp only [ve] at hr;obtain ⟨bI,h1,hr⟩:=bd hr;obtain rfl:=aW hr;obtain ⟨us,g1,g2,g3⟩:=Mo b2 h h1;refine⟨_ :: us,by simp [g1],by simp only [a'];exact⟨_,_,rfl,h.tmps t,g2⟩,fun i hi dk=>?_⟩
  cases i with
  | zero=>rfl
  | succ i=>exact g3 i (by simpa using hi) (by simpa using dk)
 | .cell b ty :: l,vs,hr=>by
  simp only [ve] at hr
  cases ht:E.ty ty with
  | none=>rw [ht] at hr;simp at hr
  | some T=>
   rw [ht] at hr
   cases aw:s.t b with
   | ptr p=>
    rw [aw] at hr;simp only at hr;obtain ⟨v,hv,hr⟩:=bd hr;obtain ⟨bI,h1,hr⟩:=bd hr;obtain rfl:=aW hr;obtain ⟨cs,k1,k2⟩:=bd hv;obtain ⟨us,g1,g2,g3⟩:=Mo b2 h h1;have hx:=h.tmps b;rw [aw] at hx;simp only [aT] at hx;obtain ⟨_,A,he,gl⟩:=hx;obtain ⟨cU,i0,ws,rfl,hc,cC,hlen⟩:=zV h k1 gl;refine⟨dN T ws :: us,by simp [g1],by simp only [a'];exact⟨_,_,rfl,pW k2 hc,g2⟩,fun i hi dk=>?_⟩
    cases i with
    | zero=>show(do loadVar ty (← asAddr (a.tmps.getD b undef)):Sem Value).run P w=_;rw [run_bind,he];show(loadVar ty (at_ cU i0)).run P w=_;exact KQ (b2.ty ty T ht) cC hlen
    | succ i=>exact g3 i (by simpa using hi) (by simpa using dk)
   | _=>rw [aw] at hr;simp at hr
theorem agz{fn:Func}{vs:List ba}(b2:hB P E)(h:Inv w0 F0 Z0 n s a w ι Z)(hr:ve E fn.results.toList s=some vs) :
  ∃us,a' w Z s ι vs us∧(results fn a.tmps).run P w=.ok (oX us) w:=by
 obtain ⟨us,h1,h2,h3⟩:=Mo b2 h hr;refine⟨us,h2,?_⟩;unfold results
 rw [run_bind,agy (vs:=us) (by simpa using h1) (fun i hi dk=>by
  have:=h3 i hi dk;revert this
  cases fn.results.toList[i] <;> exact fun h=>h)]
 simp only;rw [run_pure];congr 1;unfold oX;split
 ·rename_i hs
  match us,hs with
  | [v],_=>rfl
  | [],hs=>simp at hs
  | _ :: _ :: _,hs=>simp at hs
 ·rename_i hs
  match us,hs with
  | [v],hs=>simp at hs
  | [],_=>rfl
  | _ :: _ :: _,_=>rfl
theorem agA(us:List Value)(m k:Nat):((us.toArray++Array.replicate m undef).getD k undef)=us.getD k undef:=by
 rw [Array.getD_eq_getD_getElem?,List.getD_eq_getElem?_getD];by_cases hk:k<us.length
 ·rw [Array.getElem?_append_left (by simpa using hk)];simp
 ·rw [Array.getElem?_append_right (by simpa using Nat.le_of_not_lt hk)];rw [List.getElem?_eq_none (by omega)];simp only [List.size_toArray,Option.getD_none];by_cases dO:k-us.length<m
  ·rw [Array.getElem?_eq_getElem (by simpa using dO)];simp
  ·rw [Array.getElem?_eq_none (by simpa using Nat.le_of_not_lt dO)];rfl
theorem a'.getD:∀ {xs:List ba} {us:List Value},a' w Z s ι xs us→∀k,aT w Z s ι (xs.getD k .aB) (us.getD k undef)
 | [],us,h,k=>by simp only [List.getD_nil,aT]
 | x :: xs,us,h,k=>by
  simp only [a'] at h;obtain ⟨u,aX,rfl,h1,h2⟩:=h
  cases k with
  | zero=>exact h1
  | succ k=>exact a'.getD h2 k
theorem a'.len:∀ {xs:List ba} {us:List Value},a' w Z s ι xs us→us.length=xs.length
 | [],us,h=>by simp only [a'] at h;rw [h];rfl
 | x :: xs,us,h=>by simp only [a'] at h;obtain ⟨u,aX,rfl,h1,h2⟩:=h;simp [a'.len h2]
theorem Em:∀ {t:ad} {m:bg} {x:t.D} {vs us:List Value} {F:ag},t.au w Z m x vs F→gp (dN t vs :: us)=gp us
 | .int k,_,_,_,_,_,h=>by simp only [ad.au] at h;subst h;rfl
 | .bool,_,_,_,_,_,h=>by simp only [ad.au] at h;subst h;rfl
 | .str,_,_,_,_,_,h=>by simp only [ad.au] at h;obtain ⟨b,rfl,_⟩:=h;rfl
 | .raw,_,_,_,_,_,h=>by simp only [ad.au] at h;obtain ⟨rfl,_,_,_,rfl⟩:=h;rfl
 | .sl t,.O e,_,_,_,_,h=>by simp only [ad.au] at h;obtain ⟨A,c,rfl,_⟩:=h;rfl
 | .sl t,.R,_,_,_,_,h=>by simp only [ad.au] at h;obtain ⟨A,c,rfl,_⟩:=h;rfl
 | .sl t,.S _,_,_,_,_,h=>by simp only [ad.au] at h;obtain ⟨A,c,rfl,_⟩:=h;rfl
 | .st ak,_,_,_,_,_,_=>rfl
theorem s8{key:Nat} : ∀(ps:List bD) (x:(bD.ins ps).D) (eW:List Value) (F:ag),gF w Z key ps x eW F→eW.length=ps.length
 | [],x,eW,F,h=>by rw [show eW=[] from h];rfl
 | .fn _ _ :: ps,x,eW,F,h=>by obtain ⟨a,b,aX,rfl,_,h2⟩:=h;simp [s8 ps x aX F h2]
 | .val _ _ :: ps,x,eW,F,h=>by obtain ⟨v,aX,G,H,rfl,_,h2,_⟩:=h;simp [s8 ps _ _ _ h2]
 | .hV _ :: ps,x,eW,F,h=>by obtain ⟨v,aX,G,H,rfl,_,h2,_⟩:=h;simp [s8 ps _ _ _ h2]
 | .hg _ _ :: ps,x,eW,F,h=>by obtain ⟨v,aX,G,H,rfl,_,h2,_⟩:=h;simp [s8 ps _ _ _ h2]
 | .ref _ :: ps,x,eW,F,h=>by obtain ⟨b,o,v,aX,rfl,_,_,_,h2⟩:=h;simp [s8 ps _ _ _ h2]
 | .mut _ _ _ :: ps,x,eW,F,h=>by obtain ⟨b,o,v,aX,G,H,rfl,_,_,_,h2,_⟩:=h;simp [s8 ps _ _ _ h2]
theorem a'.split:∀ {q:List ba} {l k:List Value},a' w Z s ι q (l++k)→a' w Z s ι (q.take l.length) l∧a' w Z s ι (q.drop l.length) k
 | q,[],k,h=>by simp only [List.length_nil,List.take_zero,List.drop_zero,a'];exact⟨trivial,h⟩
 | [],u :: l,k,h=>by simp [a'] at h
 | v :: q,u :: l,k,h=>by
  simp only [List.cons_append,a'] at h;obtain ⟨jr,us2,he,k1,k2⟩:=h;injection he with e3 et
  subst e3 et;obtain ⟨h1,h2⟩:=a'.split (q:=q) (l:=l) (k:=k) k2;refine⟨?_,?_⟩
  ·simp only [List.length_cons,List.take_succ_cons,a'];exact⟨_,l,rfl,k1,h1⟩
  ·simpa only [List.length_cons,List.drop_succ_cons] using h2
theorem yf{key:Nat} : ∀(ps:List bD) (x:(bD.ins ps).D) (eW us:List Value) (F:ag) (q:List ba),El ps=true→gF w Z key ps x eW F→eW=us++gp us→a' w Z s ι q eW→a' w Z s ι (m0 key ps q) us
 | [],x,eW,us,F,q,_,hA,gV,hq=>by have hA:eW=[]:=hA;subst hA;obtain ⟨rfl,_⟩:=List.append_eq_nil_iff.1 gV.symm;cases q <;> simp only [m0,a']
 | .fn mz pN :: ps,x,eW,us,F,q,cl,hA,gV,hq=>by
  obtain ⟨a,b,aX,rfl,⟨ha,hb⟩,h2⟩:=hA;have hl:=s8 _ _ _ _ h2;have atL:=Nat.eq_of_beq_eq_true cl
  cases us with
  | nil=>cases gV
  | cons u us=>
   injection gV with e1 e2
   subst e1;have hz:us=[]:=by have:=congrArg List.length e2;simp [gp] at this;exact List.length_eq_zero_iff.1 (by omega)
   subst hz;simp only [gp,List.nil_append,List.append_nil] at e2;subst e2
   cases q with
   | nil=>simp [a'] at hq
   | cons v q=>
    simp only [a'] at hq;obtain ⟨jr,us2,he,_,k2⟩:=hq;injection he with e3 et
    subst e3 et;obtain ⟨k3,bs⟩:=a'.split (l:=a.toList) (k:=b.toList) k2;simp only [m0,a',aT];rw [Array.length_toList,ha] at k3 bs;exact⟨_,[],rfl,⟨a.toList,b.toList,by simp,k3,bs⟩,rfl⟩
 | .val t m :: ps,x,eW,us,F,q,cl,hA,gV,hq=>by
  obtain ⟨vs,aX,G,H,rfl,h1,h2,_⟩:=hA
  cases us with
  | nil=>cases gV
  | cons u us=>
   injection gV with e1 e2
   subst e1;rw [Em h1] at e2
   cases q with
   | nil=>simp [a'] at hq
   | cons v q=>
    simp only [a'] at hq;obtain ⟨jr,us2,he,k1,k2⟩:=hq;injection he with e3 et
    subst e3 et;simp only [m0,a'];exact⟨_,us,rfl,k1,yf ps x.2 _ us _ q cl h2 e2 k2⟩
 | .hV t :: ps,x,eW,us,F,q,cl,hA,gV,hq=>by
  obtain ⟨vs,aX,G,H,rfl,h1,h2,_⟩:=hA
  cases us with
  | nil=>cases gV
  | cons u us=>
   injection gV with e1 e2
   subst e1;rw [Em h1] at e2
   cases q with
   | nil=>simp [a'] at hq
   | cons v q=>
    simp only [a'] at hq;obtain ⟨jr,us2,he,k1,k2⟩:=hq;injection he with e3 et
    subst e3 et;simp only [m0,a'];exact⟨_,us,rfl,k1,yf ps x.2 _ us _ q cl h2 e2 k2⟩
 | .hg t m :: ps,x,eW,us,F,q,cl,hA,gV,hq=>by
  obtain ⟨vs,aX,G,H,rfl,h1,h2,_⟩:=hA
  cases us with
  | nil=>cases gV
  | cons u us=>
   injection gV with e1 e2
   subst e1;rw [Em h1] at e2
   cases q with
   | nil=>simp [a'] at hq
   | cons v q=>
    simp only [a'] at hq;obtain ⟨jr,us2,he,k1,k2⟩:=hq;injection he with e3 et
    subst e3 et;simp only [m0,a'];exact⟨_,us,rfl,k1,yf ps x.2 _ us _ q cl h2 e2 k2⟩
 | .ref t :: ps,x,eW,us,F,q,cl,hA,gV,hq=>by
  obtain ⟨b,o,vs,aX,rfl,_,_,_,h2⟩:=hA
  cases us with
  | nil=>cases gV
  | cons u us=>
   injection gV with e1 e2
   subst e1;have e2:aX=us++gp us:=e2
   cases q with
   | nil=>simp [a'] at hq
   | cons v q=>
    simp only [a'] at hq;obtain ⟨jr,us2,he,k1,k2⟩:=hq;injection he with e3 et
    subst e3 et;simp only [m0,a'];exact⟨_,us,rfl,k1,yf ps x.2 _ us _ q cl h2 e2 k2⟩
 | .mut t m m' :: ps,x,eW,us,F,q,cl,hA,gV,hq=>by
  obtain ⟨b,o,vs,aX,G,H,rfl,_,_,_,h2,_⟩:=hA
  cases us with
  | nil=>cases gV
  | cons u us=>
   injection gV with e1 e2
   subst e1;have e2:aX=us++gp us:=e2
   cases q with
   | nil=>simp [a'] at hq
   | cons v q=>
    simp only [a'] at hq;obtain ⟨jr,us2,he,k1,k2⟩:=hq;injection he with e3 et
    subst e3 et;simp only [m0,a'];exact⟨_,us,rfl,k1,yf ps x.2 _ us _ q cl h2 e2 k2⟩
theorem agB{f key:Nat}{fn:Func}{body:Code}{e:Entry}{hM:Nat→Option bT}(bR:j5 P E)(hf:P.funcs[f]?=some fn)(hb:fn.body=some body)(ju:(fn.name == "runtime.NumGoroutine")=false)
  (hn:Nat.beq E.n fn.ntmps=true) (En:El e.ps=true) (hlen:Nat.ble e.ps.length fn.ntmps=true) (hu:Mj body=true)
  (hF:∀x r,e.f x=some r→∃m,Ay E fn body hM key e (s7 E hM body (vf E fn e) m) x=some r):Sound P f key e:=by
 refine⟨⟨fn,hf,by rw [hb];rfl,ju⟩,fun w Z F x us r hZ LD hap hA hx=>?_⟩;obtain ⟨m,hm⟩:=hF x r hx;unfold Ay at hm;obtain ⟨st,hst,hm⟩:=bd hm;unfold U5 at hst;obtain ⟨q,hq,hst⟩:=bd hst;obtain rfl:=aW hst;have q4:=s8 _ _ _ _ hA;rw [List.length_append] at q4;have hle:=Nat.le_of_ble_eq_true hlen
 let a0:Act:= { tmps:=us.toArray++Array.replicate (fn.ntmps-us.toArray.size) undef,defers:=[] }
 have hsz:a0.tmps.size=fn.ntmps:=by simp [a0];omega
 have agC:Inv w F Z ⟨fn.ntmps,[],[]⟩ ⟨fun _=>.aB,fun _=>.none,[]⟩ a0 w (fun _=>⟨none,0,ag.none⟩) Z:=Inv.start hZ hsz rfl;obtain ⟨dD,i1,held,cS,nZ⟩:=u9 e.ps x (us++gp us) _ _ _ F q hq agC hA ⟨fun b o h=>⟨.inl h,LD b o h⟩,fun _ h=>h.elim,hap⟩
 have hinv:Inv w F Z ⟨fn.ntmps,us++gp us,[]⟩ ⟨fun k=>(m0 key e.ps q.1).getD k .aB,q.2.1.o,q.1⟩ a0 w dD Z:=by
  have hm:eU w Z q.2.1 dD w Z ⟨fun k=>(m0 key e.ps q.1).getD k .aB,q.2.1.o,q.1⟩ dD:=KA rfl
  exact⟨i1.ext,i1.dL,i1.sC,i1.ji,fun id=>iq.move hm (id:=id) (fun _=>⟨rfl,rfl⟩) rfl (i1.gf id),i1.own,i1.apart,i1.db,
   fun k=>by
    show aT w Z _ dD ((m0 key e.ps q.1).getD k .aB) ((us.toArray++Array.replicate (fn.ntmps-us.toArray.size) undef).getD k undef);rw [agA]
    exact(a'.move hm (yf e.ps x _ us F q.1 En hA rfl cS)).getD k,hsz,a'.move hm cS,fun e he=>by simp at he,rfl⟩
 intro cs
 let cU:Frame:= { (default:Frame) with fn:=f,kind:=.normal }
 have agD:Frame.enter P f us.toArray .normal=cU.at a0 [.code body]:=by simp [Frame.enter,Frame.at,hf,hb,cU,a0]
 obtain ⟨cO,b5,w',⟨o8,av,hfin,bm,Z',dk⟩,U8⟩:=U6 (n:=⟨fn.ntmps,us++gp us,[]⟩) bR (Nat.eq_of_beq_eq_true hn) rfl hu m 100000 false [.code body] _ a0 w (fun _ h=>h) hm ⟨dD,Z,hinv⟩ cU cs;unfold vf at hfin;obtain ⟨vs,hvs,hfin⟩:=bd hfin;obtain ⟨dy,hr1,gR⟩:=agz bR.ty dk hvs;obtain ⟨s2,dU,bQ,mT,e8,DY,LQ,Ud⟩:=yc e.rs vs dy av Z' r hfin dk dk.ghost hr1
 have Eo:Ends w Z F e us r (oX dy) w':=by
  refine⟨dy,bQ,dU,rfl,dk.ext,mT.sC,fun b o hz=>?_,fun b o hf=>?_,DY.db,LQ⟩
  ·rcases mT.dL b o hz with h1 | h1 | h1
   ·exact .inl h1
   ·exact .inr ⟨.inl h1,mT.ji b o hz⟩
   ·exact .inr ⟨.inr h1,mT.ji b o hz⟩
  ·exact DY.own b o hf
 rw [agD];rcases o8 with rfl | ⟨k,rfl⟩
 ·exact⟨.returned (oX dy),w',_,⟨_,rfl,Eo⟩,Steps.trans U8 (.one step_end),rfl,rfl,dk.defers,rfl,fn,hf,gR⟩
 ·exact⟨.returned (oX dy),w',_,⟨_,rfl,Eo⟩,Steps.trans U8 (.one step_ret),rfl,rfl,dk.defers,rfl,fn,hf,gR⟩
end
end Go.LM
namespace Go.LM
mutual
def ad.s9(P:Program):ad→TypeId→Bool
 | .int _,_=>true
 | .bool,_=>true
 | .str,_=>true
 | .sl _,_=>false
 | .raw,_=>false
 | .st ak,id=> !P.stoodInHeld id&&match P.underlying id with | some (.struct cD)=>ak.Ep P cD.toList | _=>false
def aA.Ep(P:Program):aA→List Field→Bool
 | .nil,_=>true
 | .cons t ak,cD=>match cD with
  | f :: l1=>decide (f.name ≠ "_")&&t.s9 P f.type&&ak.Ep P l1
  | []=>false
end
mutual
def ad.deep:ad→Nat
 | .st ak=>ak.deep+1
 | _=>1
def aA.deep:aA→Nat
 | .nil=>0
 | .cons t ak=>t.deep+ak.deep
end
section
variable{P:Program}{w:World}{Z:ag}{s:ar}{ι : Nat→bH}
theorem agE{k:IntKind}{cs ds:List bb}{r:Bool×List bb×List bb}(h:(ad.int k).cmp cs ds=some r):∃x a y b,cs=.int k x :: a∧ds=.int k y :: b∧r=(x==y,a,b):=by
 cases cs with
 | nil=>simp [ad.cmp] at h
 | cons c a=>cases ds with
  | nil=>cases c <;> simp [ad.cmp] at h
  | cons d b=>
   cases c <;> cases d <;> simp only [ad.cmp] at h <;> first | (cases h;done) | skip
   rename_i k1 x k2 y;cases hk:(Nat.beq (dx k1) (dx k)&&Nat.beq (dx k2) (dx k))
   ·rw [hk] at h;cases h
   rw [hk] at h;simp only [Bool.and_eq_true] at hk;obtain rfl:=uA (Nat.eq_of_beq_eq_true hk.1);obtain rfl:=uA (Nat.eq_of_beq_eq_true hk.2);exact⟨x,a,y,b,rfl,rfl,(aW h).symm⟩
theorem agF{cs ds:List bb}{r:Bool×List bb×List bb}(h:ad.bool.cmp cs ds=some r):∃x a y b,cs=.bool x :: a∧ds=.bool y :: b∧r=(x==y,a,b):=by
 cases cs with
 | nil=>simp [ad.cmp] at h
 | cons c a=>cases ds with
  | nil=>cases c <;> simp [ad.cmp] at h
  | cons d b=>
   cases c <;> try (simp [ad.cmp] at h;done)
   cases d <;> try (simp [ad.cmp] at h;done)
   simp only [ad.cmp] at h;exact⟨_,a,_,b,rfl,rfl,(aW h).symm⟩
theorem agG{cs ds:List bb}{r:Bool×List bb×List bb}(h:ad.str.cmp cs ds=some r):∃x a y b,cs=.str x :: a∧ds=.str y :: b∧r=(bw x y,a,b):=by
 cases cs with
 | nil=>simp [ad.cmp] at h
 | cons c a=>cases ds with
  | nil=>cases c <;> simp [ad.cmp] at h
  | cons d b=>
   cases c <;> try (simp [ad.cmp] at h;done)
   cases d <;> try (simp [ad.cmp] at h;done)
   simp only [ad.cmp] at h;exact⟨_,a,_,b,rfl,rfl,(aW h).symm⟩
theorem Mp{c c':bb}{a b:List bb}{us vs:List Value}(h1:bL w Z s ι (c :: a) us)(h2:bL w Z s ι (c' :: b) vs) :
  ∃u us2 v vs2,us=u :: us2∧vs=v :: vs2∧cr w Z s ι c u∧cr w Z s ι c' v∧bL w Z s ι a us2∧bL w Z s ι b vs2:=by
 cases us with
 | nil=>exact h1.elim
 | cons u us=>cases vs with
  | nil=>exact h2.elim
  | cons v vs=>exact⟨u,us,v,vs,rfl,rfl,h1.1,h2.1,h1.2,h2.2⟩
mutual
theorem ad.AA:∀(t:ad) (id:TypeId) (d:Nat) {cs ds:List bb} {r:Bool×List bb×List bb} {us vs:List Value},t.ok P id→t.s9 P id=true→t.deep≤d→t.cmp cs ds=some r →
  bL w Z s ι cs us→bL w Z s ι ds vs→∃us1 us2 vs1 vs2,us=us1++us2∧vs=vs1++vs2∧us1.length=t.size∧vs1.length=t.size∧bL w Z s ι r.2.1 us2∧bL w Z s ι r.2.2 vs2 ∧
   (Op.equalIn d id (dN t us1) (dN t vs1)).run P w=.ok r.1 w
 | .int k,id,0,cs,ds,r,us,vs,ho,hc,af,h,h1,h2=>by simp [ad.deep] at af
 | .int k,id,d+1,cs,ds,r,us,vs,ho,hc,af,h,h1,h2=>by simp only [ad.ok] at ho;obtain ⟨x,a,y,b,rfl,rfl,rfl⟩:=agE h;obtain ⟨u,us2,v,vs2,rfl,rfl,e1,e2,g1,g2⟩:=Mp h1 h2;simp only [cr] at e1 e2;subst e1 e2;exact⟨[_],us2,[_],vs2,rfl,rfl,rfl,rfl,g1,g2,run_equalIn_int w d id _ _ x y ho.1⟩
 | .bool,id,0,cs,ds,r,us,vs,ho,hc,af,h,h1,h2=>by simp [ad.deep] at af
 | .bool,id,d+1,cs,ds,r,us,vs,ho,hc,af,h,h1,h2=>by simp only [ad.ok] at ho;obtain ⟨x,a,y,b,rfl,rfl,rfl⟩:=agF h;obtain ⟨u,us2,v,vs2,rfl,rfl,e1,e2,g1,g2⟩:=Mp h1 h2;simp only [cr] at e1 e2;subst e1 e2;exact⟨[_],us2,[_],vs2,rfl,rfl,rfl,rfl,g1,g2,run_equalIn_bool w d id x y ho.1⟩
 | .str,id,0,cs,ds,r,us,vs,ho,hc,af,h,h1,h2=>by simp [ad.deep] at af
 | .str,id,d+1,cs,ds,r,us,vs,ho,hc,af,h,h1,h2=>by simp only [ad.ok] at ho;obtain ⟨x,a,y,b,rfl,rfl,rfl⟩:=agG h;obtain ⟨u,us2,v,vs2,rfl,rfl,e1,e2,g1,g2⟩:=Mp h1 h2;obtain ⟨xJ,rfl,rfl⟩:=e1;obtain ⟨xK,rfl,rfl⟩:=e2;refine⟨[_],us2,[_],vs2,rfl,rfl,rfl,rfl,g1,g2,?_⟩;rw [← S_];exact run_equalIn_string w d id xJ xK ho.1
 | .raw,id,d,cs,ds,r,us,vs,ho,hc,af,h,h1,h2=>by simp [ad.s9] at hc
 | .sl t,id,d,cs,ds,r,us,vs,ho,hc,af,h,h1,h2=>by simp [ad.s9] at hc
 | .st ak,id,0,cs,ds,r,us,vs,ho,hc,af,h,h1,h2=>by simp [ad.deep] at af
 | .st ak,id,d+1,cs,ds,r,us,vs,ho,hc,af,h,h1,h2=>by
  simp only [ad.ok] at ho;obtain ⟨_,cD,hu,Mq⟩:=ho;simp only [ad.s9,Bool.and_eq_true,Bool.not_eq_true',hu] at hc;simp only [ad.deep] at af;simp only [ad.cmp] at h;obtain ⟨us1,us2,vs1,vs2,e1,e2,ea,eV,g1,g2,g3⟩:=aA.AA ak cD.toList 0 d [] [] Mq hc.2 (by omega) h h1 h2 rfl rfl;refine⟨us1,us2,vs1,vs2,e1,e2,ea,eV,g1,g2,?_⟩;have lq:P.fieldsOf id=cD:=by simp [Program.fieldsOf,hu]
  show(Op.equalIn (d+1) id (.agg us1.toArray) (.agg vs1.toArray)).run P w=_;rw [run_equalIn_struct w d id us1.toArray vs1.toArray (by rw [lq];exact hu) hc.1,lq];have:=g3 [] [];simpa using this
theorem aA.AA:∀(ak:aA) (cD:List Field) (off d:Nat) {cs ds:List bb} {r:Bool×List bb×List bb} {us vs:List Value} (pre vg:List Value),ak.okF P cD off→ak.Ep P cD=true→ak.deep≤d→ak.cmp cs ds=some r →
  bL w Z s ι cs us→bL w Z s ι ds vs→pre.length=off→vg.length=off→∃us1 us2 vs1 vs2,us=us1++us2∧vs=vs1++vs2∧us1.length=ak.size∧vs1.length=ak.size∧bL w Z s ι r.2.1 us2∧bL w Z s ι r.2.2 vs2 ∧
   ∀dC AB:List Value,(Op.eqFields d (pre++us1++dC).toArray (vg++vs1++AB).toArray cD).run P w=.ok r.1 w
 | .nil,cD,off,d,cs,ds,r,us,vs,pre,vg,ho,hc,af,h,h1,h2,aw,jm=>by simp only [aA.okF] at ho;subst ho;obtain rfl:=aW h;exact⟨[],us,[],vs,rfl,rfl,rfl,rfl,h1,h2,fun _ _=>by simp only [Op.eqFields];exact run_pure _ _⟩
 | .cons t ak,cD,off,d,cs,ds,r,us,vs,pre,vg,ho,hc,af,h,h1,h2,aw,jm=>by
  simp only [aA.okF] at ho;obtain ⟨f,l1,rfl,fM,mV,kn⟩:=ho;simp only [aA.Ep,Bool.and_eq_true,decide_eq_true_eq] at hc;simp only [aA.deep] at af;simp only [aA.cmp] at h;obtain ⟨bE,k1,h⟩:=bd h;obtain ⟨cp,k2,h⟩:=bd h;obtain rfl:=aW h;obtain ⟨a1,a2,jl,nH,rfl,rfl,ea,eV,g1,g2,g3⟩:=ad.AA t f.type d mV hc.1.2 (by omega) k1 h1 h2;obtain ⟨a3,a4,oS,zZ,rfl,rfl,oR,pV,g4,g5,g6⟩:=aA.AA ak l1 (off+t.size) d (pre++a1) (vg++jl) kn hc.2 (by omega) k2 g1 g2 (by simp;omega) (by simp;omega);refine⟨a1++a3,a4,jl++oS,zZ,by simp,by simp,by simp [aA.size];omega,by simp [aA.size];omega,g4,g5,fun dC AB=>?_⟩;have er:=KW (P:=P) (w:=w) mV (cs:=pre++(a1++a3)++dC) (k:=off) (by simp;omega);have fc:=KW (P:=P) (w:=w) mV (cs:=vg++(jl++oS)++AB) (k:=off) (by simp;omega);have c0:((pre++(a1++a3)++dC).drop off).take t.size=a1:=by rw [← aw,← ea];simp
  have d_:((vg++(jl++oS)++AB).drop off).take t.size=jl:=by rw [← jm,← eV];simp
  rw [c0] at er;rw [d_] at fc;simp only [Op.eqFields];rw [if_pos hc.1.1,run_bind,fM,er];simp only;rw [run_bind,fc];simp only;rw [run_bind,g3];simp only;cases hr:bE.1
  ·simp only [Bool.not_false,if_true,Bool.false_and];exact run_pure _ _
  ·simp only [Bool.not_true,Bool.false_eq_true,if_false,Bool.true_and];have:=g6 dC AB;simpa using this
end
def uy(P:Program):List (Nat×ad)→List Nat→Bool
 | _,[]=>true
 | tab,k :: l=>(match P.underlying k with | some (.struct _)=>true | _=>false) && !P.eqGuardType P.depth k&&(tab.all fun x=> !Nat.beq x.1 k||x.2.s9 P k&&Nat.ble x.2.deep 10000)&&uy P tab l
theorem U9{tab:List (Nat×ad)}{k:Nat} : ∀ {l:List Nat},uy P tab l=true→k∈l→(∃cD,P.underlying k=some (.struct cD))∧P.eqGuardType P.depth k=false∧∀T,(k,T)∈tab→T.s9 P k=true∧T.deep≤10000
 | x :: l,h,hm=>by
  simp only [uy,Bool.and_eq_true,Bool.not_eq_true'] at h;rcases List.mem_cons.1 hm with rfl | hm
  ·refine⟨?_,h.1.1.2,fun T b2=>?_⟩
   ·have h1:=h.1.1.1;split at h1
    ·rename_i cD hk;exact⟨cD,hk⟩
    ·cases h1
   ·have h2:=List.all_eq_true.1 h.1.2 _ b2;rw [Nat.beq_refl] at h2;simp only [Bool.not_true,Bool.false_or,Bool.and_eq_true] at h2;exact⟨h2.1,Nat.le_of_ble_eq_true h2.2⟩
  ·exact U9 h.2 hm
theorem agH{T:ad}{k:Nat}(ho:T.ok P k)(hu:∃cD,P.underlying k=some (.struct cD))(aC:P.eqGuardType P.depth k=false)(hc:T.s9 P k=true)(af:T.deep≤10000)(op:BinOp)(xo yo:Operand)(w:World)(Z:ag)(s:ar)(ι : Nat→bH)
  (cs ds:List bb) (us vs:List Value) (q:Bool) (h1:bL w Z s ι cs us) (h2:bL w Z s ι ds vs) (h:T.cmp cs ds=some (q,[],[])) :
  (eqGuard op k xo yo (.agg us.toArray) (.agg vs.toArray)).run P w=.ok () w∧(op=.eql→(binOp op k (.agg us.toArray) (.agg vs.toArray)).run P w=.ok (.bool q) w) ∧
   (op=.neq→(binOp op k (.agg us.toArray) (.agg vs.toArray)).run P w=.ok (.bool (!q)) w):=by
 obtain ⟨us1,us2,vs1,vs2,rfl,rfl,ea,eV,g1,g2,g3⟩:=ad.AA T k 10000 ho hc af h h1 h2;have fk:us2=[]:=by cases us2 with | nil=>rfl | cons=>exact g1.elim
 have kk:vs2=[]:=by cases vs2 with | nil=>rfl | cons=>exact g2.elim
 subst fk kk
 have b2:∃ak,T=.st ak:=by
  obtain ⟨cD,hu⟩:=hu
  cases T with
  | st ak=>exact⟨ak,rfl⟩
  | int=>simp only [ad.ok] at ho;rw [hu] at ho;cases ho.1
  | bool=>simp only [ad.ok] at ho;rw [hu] at ho;cases ho.1
  | str=>simp only [ad.ok] at ho;rw [hu] at ho;cases ho.1
  | sl t=>simp only [ad.ok] at ho;obtain ⟨_,e,he,_⟩:=ho;rw [hu] at he;cases he
  | raw=>simp only [ad.ok] at ho;obtain ⟨_,e,he⟩:=ho;rw [hu] at he;cases he
 obtain ⟨ak,rfl⟩:=b2;simp only [List.append_nil];have heq:(Op.equal k (.agg us1.toArray) (.agg vs1.toArray)).run P w=.ok q w:=g3;refine⟨?_,?_,?_⟩
 ·unfold eqGuard;cases op <;> try rfl
  all_goals
   have agI:∀w:World,(program:Sem Program).run P w=.ok P w:=fun _=>rfl
   simp only [Bool.not_true,Bool.false_eq_true,if_false,run_bind,agI,aC,Bool.not_false,if_true];rfl
 ·rintro rfl
  show(do pure (.bool (← Op.equal k _ _)):Sem Value).run P w=_;rw [run_bind,heq];rfl
 ·rintro rfl
  show(do pure (.bool (!(← Op.equal k _ _))):Sem Value).run P w=_;rw [run_bind,heq];rfl
end
end Go.LM
namespace Go.LM
def zeroV:Value→Value→Bool
 | .int k x,.int k' y=>Nat.beq (dx k) (dx k')&&decide (x=y)
 | .bool a,.bool b=>a==b
 | .string a,.string b=>decide (a.data.toList=b.data.toList)
 | .slice none 0 0,.slice none 0 0=>true
 | _,_=>false
theorem U_{u v:Value}(h:zeroV u v=true):u=v:=by
 unfold zeroV at h;split at h
 ·simp only [Bool.and_eq_true,decide_eq_true_eq] at h;rw [uA (Nat.eq_of_beq_eq_true h.1),h.2]
 ·rw [eq_of_beq h]
 ·rename_i a b;have h:=of_decide_eq_true h;obtain ⟨⟨a⟩⟩:=a;obtain ⟨⟨b⟩⟩:=b;simp only at h;rw [h]
 ·rfl
 ·cases h
def Er:List Value→List Value→Bool
 | [],[]=>true
 | u :: us,v :: vs=>cond (zeroV u v) (Er us vs) false
 | _,_=>false
theorem U':∀ {us vs:List Value},Er us vs=true→us=vs
 | [],[],_=>rfl
 | u :: us,v :: vs,h=>by
  unfold Er at h;cases h1:zeroV u v
  ·rw [h1] at h;cases h
  ·rw [h1] at h;rw [U_ h1,U' h]
 | [],_ :: _,h=>by cases h
 | _ :: _,[],h=>by cases h
def Mr(t:ad)(v:Value):Bool:=
 match t,v with
 | .st ak,.agg cs=>Er cs.toList ak.cT
 | .st _,_=>false
 | .sl _,v=>zeroV v (.slice none 0 0)
 | t,v=>zeroV v (t.cT.headD undef)
theorem agJ{t:ad}{v:Value}(h:Mr t v=true):v=dN t t.cT:=by
 cases t with
 | st ak=>
  cases v <;> simp only [Mr] at h <;> try (cases h;done)
  rename_i cs;show Value.agg cs=.agg ak.cT.toArray;rw [← U' h]
 | _=>exact U_ h
def s_(P:Program)(id:TypeId)(t:ad):Bool:=
 match P.info? id with
 | some i=>Nat.beq i.size t.size&&(match i.zero with | some v=>Mr t v | none=>false)&&Nat.ble i.bytes 2048
 | none=>false
theorem yg{P:Program}{id:TypeId}{t:ad}(h:s_ P id t=true):l0 P id t:=by
 unfold s_ at h
 cases hi:P.info? id with
 | none=>rw [hi] at h;cases h
 | some i=>
  rw [hi] at h;simp only [Bool.and_eq_true] at h;refine⟨i,hi,Nat.eq_of_beq_eq_true h.1.1,?_,Nat.le_of_ble_eq_true h.2⟩;have h2:=h.1.2
  cases hz:i.zero with
  | none=>rw [hz] at h2;cases h2
  | some v=>rw [hz] at h2;rw [agJ h2]
mutual
def ad.okB(P:Program):ad→TypeId→Bool
 | .int k,id=>(match P.underlying id with | some (.int k')=>Nat.beq (dx k') (dx k) | _=>false)&&s_ P id (.int k)
 | .bool,id=>(match P.underlying id with | some .bool=>true | _=>false)&&s_ P id .bool
 | .str,id=>(match P.underlying id with | some .string=>true | _=>false)&&s_ P id .str
 | .raw,id=>s_ P id .raw&&match P.underlying id with | some (.slice _)=>true | _=>false
 | .sl t,id=>s_ P id (.sl t)&&match P.underlying id with | some (.slice e)=>t.okB P e | _=>false
 | .st ak,id=>s_ P id (.st ak)&&match P.underlying id with | some (.struct cD)=>ak.yh P cD.toList 0 | _=>false
def aA.yh(P:Program):aA→List Field→Nat→Bool
 | .nil,cD,_=>cD.isEmpty
 | .cons t ak,cD,off=>match cD with
  | f :: l1=>Nat.beq f.offset off&&t.okB P f.type&&ak.yh P l1 (off+t.size)
  | []=>false
end
mutual
theorem ad.Es{P:Program} : ∀(t:ad) (id:TypeId),t.okB P id=true→t.ok P id
 | .int k,id,h=>by
  simp only [ad.okB,Bool.and_eq_true] at h;refine⟨?_,yg h.2⟩;have h1:=h.1;split at h1
  ·rename_i k' hk;rw [hk,uA (Nat.eq_of_beq_eq_true h1)]
  ·cases h1
 | .bool,id,h=>by
  simp only [ad.okB,Bool.and_eq_true] at h;refine⟨?_,yg h.2⟩;have h1:=h.1;split at h1
  ·rename_i hk;exact hk
  ·cases h1
 | .str,id,h=>by
  simp only [ad.okB,Bool.and_eq_true] at h;refine⟨?_,yg h.2⟩;have h1:=h.1;split at h1
  ·rename_i hk;exact hk
  ·cases h1
 | .raw,id,h=>by
  simp only [ad.okB,Bool.and_eq_true] at h;refine⟨yg h.1,?_⟩;have h1:=h.2;split at h1
  ·rename_i e hk;exact⟨e,hk⟩
  ·cases h1
 | .sl t,id,h=>by
  simp only [ad.okB,Bool.and_eq_true] at h;refine⟨yg h.1,?_⟩;have h1:=h.2;split at h1
  ·rename_i e hk;exact⟨e,hk,ad.Es t e h1⟩
  ·cases h1
 | .st ak,id,h=>by
  simp only [ad.okB,Bool.and_eq_true] at h;refine⟨yg h.1,?_⟩;have h1:=h.2;split at h1
  ·rename_i cD hk;exact⟨cD,hk,aA.Va ak _ _ h1⟩
  ·cases h1
theorem aA.Va{P:Program} : ∀(ak:aA) (cD:List Field) (off:Nat),ak.yh P cD off=true→ak.okF P cD off
 | .nil,cD,off,h=>by simp only [aA.yh,List.isEmpty_iff] at h;exact h
 | .cons t ak,cD,off,h=>by
  cases cD with
  | nil=>simp [aA.yh] at h
  | cons f cD=>simp only [aA.yh,Bool.and_eq_true] at h;exact⟨f,cD,rfl,Nat.eq_of_beq_eq_true h.1.1,ad.Es t _ h.1.2,aA.Va ak _ _ h.2⟩
end
def yi:List (Nat×ad)→Nat→Option ad
 | [],_=>none
 | (k,t) :: l,i=>cond (Nat.beq k i) (some t) (yi l i)
def uw(P:Program):List (Nat×ad)→Bool
 | []=>true
 | (k,t) :: l=>t.okB P k&&uw P l
theorem Ms{P:Program}{i:Nat}{T:ad} : ∀ {l:List (Nat×ad)},uw P l=true→yi l i=some T→T.ok P i
 | (k,t) :: l,h,hl=>by
  simp only [uw,Bool.and_eq_true] at h;unfold yi at hl;cases hb:Nat.beq k i
  ·rw [hb] at hl;exact Ms h.2 hl
  ·rw [hb] at hl;obtain rfl:=aW hl;obtain rfl:=Nat.eq_of_beq_eq_true hb;exact ad.Es _ _ h.1
def vh:List Nat→Nat→Bool
 | [],_=>false
 | k :: l,i=>cond (Nat.beq k i) true (vh l i)
def ux(P:Program):List Nat→Bool
 | []=>true
 | k :: l=>(match P.underlying k with | some (.pointer _)=>true | _=>false)&&ux P l
theorem Vb{P:Program}{i:Nat} : ∀ {l:List Nat},ux P l=true→vh l i=true→∃e,P.underlying i=some (.pointer e)
 | k :: l,h,hl=>by
  simp only [ux,Bool.and_eq_true] at h;unfold vh at hl;cases hb:Nat.beq k i
  ·rw [hb] at hl;exact Vb h.2 hl
  ·obtain rfl:=Nat.eq_of_beq_eq_true hb;have h1:=h.1;split at h1
   ·rename_i e hk;exact⟨e,hk⟩
   ·cases h1
def Et:List (Nat×Entry)→Nat→Nat→Option Entry
 | [],_,_=>none
 | (k,e) :: l,f,key=>cond (Nat.blt f 1000000&&Nat.beq k (f+1000000*key)) (some e) (Et l f key)
def s'(P:Program):List (Nat×Entry)→Prop
 | []=>True
 | (k,e) :: l=>ik P (k % 1000000) (k / 1000000) e∧s' P l
theorem Vc{P:Program}{f key:Nat}{e:Entry} : ∀ {l:List (Nat×Entry)},s' P l→Et l f key=some e→ik P f key e
 | (k,gP) :: l,h,hl=>by
  unfold Et at hl;cases hb:(Nat.blt f 1000000&&Nat.beq k (f+1000000*key))
  ·rw [hb] at hl;exact Vc h.2 hl
  ·rw [hb] at hl;obtain rfl:=aW hl;simp only [Bool.and_eq_true] at hb;have h1:=hb.1;rw [Nat.blt_eq] at h1;obtain rfl:=Nat.eq_of_beq_eq_true hb.2;have h2:=h.1;rw [show(f+1000000*key) % 1000000=f by omega,show(f+1000000*key) / 1000000=key by omega] at h2;exact h2
def Vd(n:Nat)(tab:List (Nat×ad))(my eqs:List Nat)(fns:List (Nat×Entry)):Env:=⟨n,yi tab,vh eqs,vh my,Et fns⟩
theorem Ve{i:Nat} : ∀ {l:List Nat},vh l i=true→i∈l
 | k :: l,h=>by
  unfold vh at h;cases hb:Nat.beq k i
  ·rw [hb] at h;exact List.mem_cons_of_mem _ (Ve h)
  ·rw [Nat.eq_of_beq_eq_true hb];exact List.mem_cons_self
theorem Vf{i:Nat}{T:ad} : ∀ {l:List (Nat×ad)},yi l i=some T→(i,T)∈l
 | (k,t) :: l,hl=>by
  unfold yi at hl;cases hb:Nat.beq k i
  ·rw [hb] at hl;exact List.mem_cons_of_mem _ (Vf hl)
  ·rw [hb] at hl;obtain rfl:=aW hl;rw [Nat.eq_of_beq_eq_true hb];exact List.mem_cons_self
theorem agK{P:Program}{n:Nat}{tab:List (Nat×ad)}{my eqs:List Nat}{fns:List (Nat×Entry)}(ht:uw P tab=true)(aw:ux P my=true)(he:uy P tab eqs=true)(hf:s' P fns)(hm:P.follows .mixedOrders=true):j5 P (Vd n tab my eqs fns):=by refine⟨⟨fun id T h=>Ms ht h,fun id h=>Vb aw h⟩,fun id T h b2=>?_,fun f key e h=>Vc hf h,hm⟩;obtain ⟨h1,h2,h3⟩:=U9 he (Ve h);obtain ⟨h4,a7⟩:=h3 T (Vf b2);exact agH (Ms ht b2) h1 h2 h4 a7
@[irreducible] def aM:Nat:=18446744073709551616
end Go.LM
namespace Go.LM
open Go.ChangeShapes Go.WideShapes Go.ChangeAt Go.RowKit
open Go.ChangeMaps (open_string shut_string)
mutual
def ad.fg:(t:ad)→t.D→Prop
 | .int k,x=>(Lit.int k x).wf=true
 | .bool,_=>True
 | .str,x=>x.length≤maxLen
 | .raw,_=>True
 | .sl t,xs=>xs.length≤maxLen∧∀y,y∈xs→t.fg y
 | .st ak,x=>ak.fg x
def aA.fg:(ak:aA)→ak.D→Prop
 | .nil,_=>True
 | .cons t ak,x=>t.fg x.1∧ak.fg x.2
end
mutual
def ad.n4:ad→Bool
 | .sl t=>Nat.blt 0 t.size&&t.n4
 | .raw=>false
 | .st ak=>ak.n4
 | _=>true
def aA.n4:aA→Bool
 | .nil=>true
 | .cons t ak=>t.n4&&ak.n4
end
def rm:(ps:List bD)→(bD.ins ps).D→Prop
 | [],_=>True
 | .fn _ _ :: l,x=>rm l x
 | .val t _ :: l,x=>t.fg x.1∧rm l x.2
 | .hV t :: l,x=>t.fg x.1∧rm l x.2
 | .hg t _ :: l,x=>t.fg x.1∧rm l x.2
 | .ref t :: l,x=>t.fg x.1∧rm l x.2
 | .mut t _ _ :: l,x=>t.fg x.1∧rm l x.2
def Mt:(rs:List c4)→(ak:aA)→(c4.outs rs ak).D→Prop
 | [.val .bool .R],_,r=>r.1=true
 | _,_,_=>False
section
variable{H:Type}{enc:TypeId×Value→H}{P:Program}{w W W':World}{base:Nat}{spare:Nat→Bool}{held:Bool}{fuel:Nat}
def Old(w:World):ag:=fun b _=>b<w.heap.size
theorem agL{a:Addr}{v:Value}(h:w.cell? a=some v):a.block<w.heap.size:=by
 rcases Nat.lt_or_ge a.block w.heap.size with h1 | h1
 ·exact h1
 ·simp [World.cell?,Array.getElem?_eq_none h1] at h
theorem Mu{t:ad}{id:TypeId}(h:t.ok P id):P.cellsOf id=t.size:=by obtain ⟨i,h1,h2,_⟩:=h.info;unfold Program.cellsOf;rw [h1];exact h2
theorem Vg{a:Addr}{k:Nat}{cs:List Value}(h:w.cells? base a k=some cs):cs.length=k∧∀i v,cs[i]?=some v→w.cell? (a.add i)=some v:=by
 unfold World.cells? at h;split at h
 ·have hl:cs.length=k:=by
   have:=List.Vh h;simpa using this
  refine⟨hl,fun i v hv=>?_⟩;have hi:i<k:=by rw [← hl];exact(List.getElem?_eq_some_iff.1 hv).1
  have:=Vi h i (by simpa using hi);rw [hv] at this;simpa using this.symm
 ·cases h
where
 List.Vh {α β : Type} {f : α → Option β} : ∀ {l:List α} {r:List β},l.mapM f=some r→r.length=l.length
  | [],r,h=>by simp at h;subst h;rfl
  | x :: l,r,h=>by rw [List.mapM_cons] at h;simp only [Option.bind_eq_bind,Option.bind_eq_some_iff] at h;obtain ⟨y,h1,ys,h2,h3⟩:=h;simp only [Option.pure_def,Option.some.injEq] at h3;subst h3;simp [List.Vh h2]
 Vi {α β : Type} {f : α → Option β} : ∀ {l:List α} {r:List β},l.mapM f=some r→∀i (hi:i<l.length),r[i]?=f l[i]
  | [],r,h,i,hi=>by simp at hi
  | x :: l,r,h,i,hi=>by
   rw [List.mapM_cons] at h;simp only [Option.bind_eq_bind,Option.bind_eq_some_iff] at h;obtain ⟨y,h1,ys,h2,h3⟩:=h;simp only [Option.pure_def,Option.some.injEq] at h3;subst h3
   cases i with
   | zero=>simp [h1]
   | succ i=>simpa using Vi h2 i (by simpa using hi)
mutual
theorem ad.read:∀(t:ad) (id:TypeId) (fuel:Nat) (cs:List Value) (x:DataW H×List MemPlace),t.ok P id→t.n4=true→DataW.trod enc P w base spare held fuel id cs=some x →
  ∃y:t.D,t.au w (Old w) .R y cs ag.none∧t.fg y
 | .int k,id,fuel,cs,x,ho,aw,h=>by obtain ⟨n,rfl,_,hw⟩:=DataW.trod_int (by simp only [ad.ok] at ho;exact ho.1) h;exact⟨n,by simp only [ad.au],hw⟩
 | .bool,id,fuel,cs,x,ho,aw,h=>by obtain ⟨n,rfl,_⟩:=DataW.trod_bool (by simp only [ad.ok] at ho;exact ho.1) h;exact⟨n,by simp only [ad.au],trivial⟩
 | .str,id,fuel,cs,x,ho,aw,h=>by obtain ⟨s,rfl,_,hs⟩:=DataW.trod_string (by simp only [ad.ok] at ho;exact ho.1) h;exact⟨s.data.toList,by simp only [ad.au];exact⟨s,rfl,rfl⟩,by simp only [ad.fg,Array.length_toList];exact hs⟩
 | .raw,id,fuel,cs,x,ho,aw,h=>by simp [ad.n4] at aw
 | .sl t,id,fuel,cs,x,ho,aw,h=>by
  simp only [ad.ok] at ho;obtain ⟨_,e,hu,Vj⟩:=ho;simp only [ad.n4,Bool.and_eq_true] at aw;have gG:0<t.size:=Nat.le_of_ble_eq_true aw.1;rcases DataW.trod_slice hu h with⟨rfl,_⟩ | ⟨a,len,cap,elems,rest,m,_,rfl,_,_,hl,hm,hlen,Vk,_,_⟩
  ·exact⟨[],by simp only [ad.au];exact⟨none,0,rfl,.inl trivial⟩,by simp [ad.fg,maxLen]⟩
  ·have hsz:P.cellsOf e=t.size:=Mu Vj;rw [hsz] at Vk
   have Vl:∀i,i<len→∃cs' d,w.cells? base (a.add (i*t.size)) t.size=some cs'∧DataW.trod enc P w base spare held m e cs'=some d:=by
    intro i hi;have h1:=Vk i hi;have h2:∃d,elems[i]?=some d:=⟨_,List.getElem?_eq_getElem (by omega)⟩
    obtain ⟨d,h2⟩:=h2;rw [h2] at h1;obtain ⟨cs',h3,h4⟩:=bd h1;exact⟨cs',d,h3,h4⟩
   have agM:=fun(cs':List Value) (d:DataW H×List MemPlace)=>ad.read t e m cs' d Vj aw.2
   have Mv:0<len→a.spot=none∧a.block<w.heap.size:=by intro hn;obtain ⟨cs',d,h1,h2⟩:=Vl 0 hn;obtain ⟨c1,fL⟩:=Vg h1;have p2:=fL 0 cs'[0] (List.getElem?_eq_getElem (by omega));simp only [Nat.zero_mul,Addr.add,if_true] at p2;exact⟨World.cell?_spot p2,agL p2⟩
   have hrow:∀(n k:Nat),k+n≤len→∃xs:List t.D,xs.length=n∧Row w (fun y us _=>t.au w (Old w) .R y us ag.none) t.size xs a.block (a.off+k*t.size) ag.none∧(∀y,y∈xs→t.fg y):=by
    intro n
    induction n with
    | zero=>intro k _;exact⟨[],rfl,trivial,by simp⟩
    | succ n ih=>
     intro k hk;obtain ⟨cs',d,h1,h2⟩:=Vl k (by omega);obtain ⟨y,h3,h4⟩:=agM cs' d h2;obtain ⟨xs,g1,g3,g4⟩:=ih (k+1) (by omega);obtain ⟨c1,fL⟩:=Vg h1;obtain ⟨hsp,atM⟩:=Mv (by omega);obtain ⟨ab,ao,asp⟩:=a;simp only at hsp;subst hsp;refine⟨y :: xs,by simp [g1],⟨cs',ag.none,ag.none,h3,c1,?_,?_,fun _ _ h=>h.elim,fun _ _ h=>h,fun _ _ h=>h⟩,?_⟩
     ·intro i v hv;have:=fL i v hv;rw [show(⟨ab,ao,none⟩:Addr)=at_ ab ao from rfl,qZ,qZ] at this;exact this
     ·have e1:ao+k*t.size+t.size=ao +(k+1)*t.size:=by rw [Nat.add_mul];omega
      simp only;rw [e1];exact g3
     ·intro z hz;rcases List.mem_cons.1 hz with rfl | hz
      ·exact h4
      ·exact g4 z hz
   obtain ⟨xs,g1,g3,g4⟩:=hrow len 0 (by omega);refine⟨xs,?_,?_⟩
   ·simp only [ad.au];refine⟨some a,cap,by rw [g1],?_⟩;by_cases hx:xs=[]
    ·exact .inl hx
    ·have hn:0<len:=by
      rw [← g1]
      cases xs with
      | nil=>exact absurd rfl hx
      | cons=>simp
     exact .inr ⟨a,rfl,(Mv hn).1,by simpa using g3,fun j hj=>(Mv hn).2,by rw [g1];exact hl⟩
   ·simp only [ad.fg];exact⟨by rw [g1];omega,g4⟩
 | .st ak,id,fuel,cs,x,ho,aw,h=>by
  have hsz:=Mu ho;simp only [ad.ok] at ho;obtain ⟨_,cD,hu,Mq⟩:=ho;obtain ⟨xs,n,_,_,hl,hxl,hf⟩:=DataW.trod_struct hu h;have hlen:cs.length=(ad.st ak).size:=by rw [hl,hsz]
  have:=aA.read ak cD.toList 0 n cs Mq (by simpa only [ad.n4] using aw) (by simpa only [ad.size,Nat.zero_add] using hlen) (fun i f kV=>by
   have hi:i<xs.length:=by rw [hxl];have:=(List.getElem?_eq_some_iff.1 kV).1;simpa using this
   exact⟨xs[i],by rw [hf i f (by rw [← Array.getElem?_toList];exact kV),List.getElem?_eq_getElem hi]⟩)
  obtain ⟨y,h1,h2⟩:=this;rw [List.drop_zero] at h1;exact⟨y,by simp only [ad.au];exact h1,by simp only [ad.fg];exact h2⟩
theorem aA.read:∀(ak:aA) (cD:List Field) (off:Nat) (fuel:Nat) (cs:List Value),ak.okF P cD off→ak.n4=true→cs.length=off+ak.size →
  (∀(i:Nat) (f:Field),cD[i]?=some f→∃x,DataW.trod enc P w base spare held fuel f.type ((cs.drop f.offset).take (P.cellsOf f.type))=some x)→∃y:ak.D,ak.au w (Old w) .nil y (cs.drop off) ag.none∧ak.fg y
 | .nil,cD,off,fuel,cs,ho,aw,hl,hf=>by simp only [aA.size,Nat.add_zero] at hl;exact⟨(),by simp only [aA.au];rw [List.drop_of_length_le (by omega)],by simp only [aA.fg]⟩
 | .cons t ak,cD,off,fuel,cs,ho,aw,hl,hf=>by
  simp only [aA.okF] at ho;obtain ⟨f,l1,rfl,h1,h2,h3⟩:=ho;simp only [aA.n4,Bool.and_eq_true] at aw;simp only [aA.size] at hl;obtain ⟨x,hx⟩:=hf 0 f rfl;rw [h1,Mu h2] at hx;obtain ⟨y,g1,g2⟩:=ad.read t f.type fuel _ x h2 aw.1 hx;obtain ⟨ys,g3,g4⟩:=aA.read ak l1 (off+t.size) fuel cs h3 aw.2 (by omega) fun i nF kV=>hf (i+1) nF (by simpa using kV)
  refine⟨(y,ys),?_,⟨g2,g4⟩⟩;simp only [aA.au];refine⟨_,_,ag.none,ag.none,?_,g1,g3,fun _ _ h=>h.elim,fun _ _ h=>h,fun _ _ h=>h⟩;rw [← List.drop_drop,List.take_append_drop]
end
theorem agN{t:ad}{id:TypeId}{r:Reach}{v:Value}(ho:t.ok P id)(hv:Value.okWide P w r base id v):v=dN t v.cells.toList:=by
 cases t with
 | int k=>obtain ⟨n,rfl⟩:=okWide_int (by simp only [ad.ok] at ho;exact ho.1) hv;rfl
 | bool=>obtain ⟨n,rfl⟩:=okWide_bool (by simp only [ad.ok] at ho;exact ho.1) hv;rfl
 | str=>obtain ⟨n,rfl⟩:=okWide_string (by simp only [ad.ok] at ho;exact ho.1) hv;rfl
 | sl t=>simp only [ad.ok] at ho;obtain ⟨_,e,hu,_⟩:=ho;obtain ⟨a,l,c,rfl⟩:=okWide_slice hu hv;rfl
 | raw=>simp only [ad.ok] at ho;obtain ⟨_,e,hu⟩:=ho;obtain ⟨a,l,c,rfl⟩:=okWide_slice hu hv;rfl
 | st ak=>simp only [ad.ok] at ho;obtain ⟨_,cD,hu,_⟩:=ho;simp only [Value.okWide,hu] at hv;obtain ⟨cs,rfl,_⟩:=hv;simp [dN,Value.cells]
def AD:List (Nat×ad)→List bD
 | []=>[]
 | a :: l=>.val a.2 .R :: AD l
def vi(P:Program):List (Nat×ad)→Bool
 | []=>true
 | a :: l=>a.2.okB P a.1&&a.2.n4&&P.readableRec a.1&&Nat.blt a.1 P.types.size&&vi P l
theorem Vm{r:Reach}{cU:Nat} : ∀(as:List (Nat×ad)) (vs:List Value) (ds:List (DataW H)) (p:List MemPlace),vi P as=true →
  DataW.TrodAll enc P w 0 (fun _=>true) true (as.map (·.1)) vs ds p→(∀(j:Nat) t v,(as.map (·.1))[j]?=some t→vs[j]?=some v→Value.okWide P w r cU t v) →
  ∃x:(bD.ins (AD as)).D,gF w (Old w) 0 (AD as) x vs ag.none∧rm (AD as) x∧gp vs=[]
 | [],vs,ds,p,ho,h,hv=>by obtain ⟨rfl,_,_⟩:=trodAll_nil h;exact⟨(),rfl,trivial,rfl⟩
 | a :: as,vs,ds,p,ho,h,hv=>by
  simp only [vi,Bool.and_eq_true] at ho;obtain ⟨v,bI,d,Mw,p',Mx,rfl,rfl,rfl,h1,h2⟩:=trodAll_cons (by simpa using h);obtain ⟨x,g1,g2,g3⟩:=Vm as bI Mw Mx ho.2 h2 fun j t u hj hu=>hv (j+1) t u (by simpa using hj) (by simpa using hu)
  have cl:=ad.Es _ _ ho.1.1.1.1;obtain ⟨fuel,hf⟩:=h1;obtain ⟨y,k1,k2⟩:=ad.read a.2 a.1 fuel _ _ cl ho.1.1.1.2 hf;have hw:=agN cl (hv 0 a.1 v rfl rfl);refine⟨(y,x),⟨v.cells.toList,bI,ag.none,ag.none,by rw [← hw],k1,g1,fun _ _ h=>h.elim,fun _ _ h=>h,fun _ _ h=>h⟩,⟨k2,g2⟩,?_⟩;rw [hw,Em k1];exact g3
theorem agO{w w':World}(h:Ext w w' ag.none):Below w.heap.size w w':=by
 refine⟨h.os,h.tape,h.output,h.size,fun b hb=>?_⟩;rcases h.block b hb with h1 | ⟨c,c',e,f,h1,h2,h3,h4⟩
 ·exact h1
 ·rw [h1,h2];have:c'=c:=by apply Array.ext h3;intro i hi dk;have:=h4 i (fun h=>h.elim);rw [Array.getElem?_eq_getElem hi,Array.getElem?_eq_getElem dk] at this;exact aW this
  rw [this]
theorem Vn(hl:laidOutB P=true):∀(as:List (Nat×ad)) (vs:List Value) (ds:List (DataW H)) (p:List MemPlace),vi P as=true →
  DataW.TrodAll enc P W 0 (fun _=>true) true (as.map (·.1)) vs ds p→Below W.heap.size W W'→DataW.TrodAll enc P W' 0 (fun b=>decide (b<W.heap.size)) true (as.map (·.1)) vs ds p
 | [],vs,ds,p,ho,h,hb=>by obtain ⟨rfl,rfl,rfl⟩:=trodAll_nil h;exact trodAll_mk0
 | a :: as,vs,ds,p,ho,h,hb=>by
  simp only [vi,Bool.and_eq_true] at ho;obtain ⟨v,bI,d,Mw,p',Mx,rfl,rfl,rfl,h1,h2⟩:=trodAll_cons (by simpa using h);have bO:∀x∈p',x.block<W.heap.size:=by obtain ⟨m,hm⟩:=h1;exact DataW.trod_lt m _ _ _ hm
  exact trodAll_cons_mk (Below.trod hl ho.1.1.2 (Nat.le_of_ble_eq_true ho.1.2) h1 hb bO) (Vn hl as bI Mw Mx ho.2 h2 hb)
theorem agP{f:Nat}{fn:Func}{e:Entry}{prs:List (Nat×ad)}{r:Reach}{cU:Nat}{args:Array Value}{ds:List (DataW H)}{p:List MemPlace}(de:Sound P f 0 e)(En:e.ps=AD prs)
  (My:fn.params.toList=prs.map (·.1)) (cl:vi P prs=true) (agQ:laidOutB P=true) (hc:∀x:(bD.ins e.ps).D,rm e.ps x→∃y,e.f x=some y∧Mt e.rs (bD.ef e.ps) y)
  (u0:∀(j:Nat) t v,fn.params[j]?=some t→args[j]?=some v→Value.okWide P W r cU t v)
  (hA:DataW.TrodAll enc P W 0 (fun _=>true) true fn.params.toList args.toList ds p) :
  Calls P f args W fun end_ W'=>end_=.returned (.bool true)∧Below W.heap.size W W'∧DataW.TrodAll enc P W' 0 (fun b=>decide (b<W.heap.size)) true fn.params.toList args.toList ds p:=by
 obtain ⟨ps,rs,c⟩:=e;simp only at En;subst En;rw [My] at hA;obtain ⟨x,h1,h2,h3⟩:=Vm prs args.toList ds p cl hA fun j t v hj hv=>u0 j t v (by rw [← Array.getElem?_toList,My];exact hj) (by rw [← Array.getElem?_toList];exact hv)
 obtain ⟨y,aR,ht⟩:=hc x h2;have x3:=de.calls W (Old W) ag.none x args.toList y (fun _ _ h=>h) (fun _ _ h=>h.elim) (fun _ _ h=>h.elim) (by rw [h3,List.append_nil];exact h1) aR;have l5:args.toList.toArray=args:=by simp
 rw [l5] at x3;refine Calls.mono x3 ?_
 rintro end_ w' ⟨v,rfl,Eo⟩
 obtain ⟨dy,Z',F',rfl,hx,_,_,_,_,h7⟩:=Eo.out;have hb:=agO hx;refine⟨?_,hb,by rw [My];exact Vn agQ prs _ _ _ cl hA hb⟩
 have hfin:∀(rs:List c4) (ak:aA) (ps:List bD) (us:List Value) (agR:ak=bD.ef ps) (y:(c4.outs rs (bD.ef ps)).D),Mt rs (bD.ef ps) y→∀F',iy w' Z' ps us rs y dy F'→oX dy=.bool true:=by
  intro rs ak ps us agR y ht F' h7
  match rs,y,ht,h7 with
  | [.val .bool .R],y,ht,h7=>obtain ⟨vs,ej,G,gj,rfl,k1,k2,_⟩:=h7;obtain ⟨rfl,_⟩:=k2;simp only [ad.au] at k1;subst k1;have ht:y.1=true:=ht;rw [ht];rfl
 exact congrArg _ (hfin rs _ _ _ rfl y ht _ h7)
end
end Go.LM
namespace Go.LM
theorem fT{x:Int}(h : -9223372036854775808≤x)(h':x≤9223372036854775807):ax x=x:=by
 show(if(true&&decide (x % 18446744073709551616≥9223372036854775808))=true then x % 18446744073709551616-18446744073709551616 else x % 18446744073709551616)=x;by_cases hc:x % 18446744073709551616≥9223372036854775808
 ·rw [if_pos (by simp [hc])];omega
 ·rw [if_neg (by simp [hc])];omega
theorem br{n i:Nat}(h:i<n):ix n (i:Int)=some i:=by unfold ix;rw [if_pos ⟨by omega,by omega⟩];simp
theorem qV{t:ad}{xs:List t.D}{i:Nat}(h:i<xs.length):I t xs i=xs[i]:=by unfold I;rw [List.getD_eq_getElem?_getD,List.getElem?_eq_getElem h];rfl
theorem Vo{t:ad}{xs:List t.D}{i:Nat}{y:t.D}(h:i<xs.length):I t (xs.set i y) i=y:=by rw [qV (by simpa using h)];simp
theorem AE{n:Nat}(h:n≤68719476736):room n=true:=Nat.ble_eq_true_of_le h
theorem jd{n lo hi:Nat}(h:lo≤hi)(h':hi≤n):dh n (lo:Int) (hi:Int)=some (lo,hi):=by unfold dh;rw [if_pos ⟨by omega,by omega,by omega⟩];simp
theorem AF{α : Type}(a:Option α):both a a=a:=by unfold both;rw [if_pos rfl]
theorem o9{α : Type}(a:Option α):dup a=a:=AF a
theorem qb(s:List UInt8):bw s s=true:=by simp [bw]
end Go.LM
namespace Go.LM
structure lg(P:Program) where
 tab:List (Nat×ad)
 my:List Nat
 eqs:List Nat
 ht:uw P tab=true
 aw:ux P my=true
 he:uy P tab eqs=true
 hm:P.follows .mixedOrders=true
noncomputable def rn(fn:Func):Code:=match fn.body with
 | some c=>c
 | none=>.skip
noncomputable def yj(fn:Func)(ps:List bD):Bool:=
 fn.body.isSome && !(fn.name == "runtime.NumGoroutine")&&El ps&&Nat.ble ps.length fn.ntmps&&Mj (rn fn)
def ta:List (Nat×bT)→Nat→Option bT
 | [],_=>none
 | (k,t) :: l,r=>cond (Nat.beq r k) (some t) (ta l r)
section
variable{P:Program}
def lg.env(B:lg P)(fn:Func)(fns:List (Nat×Entry)):Env:=Vd fn.ntmps B.tab B.my B.eqs fns
noncomputable def lg.start(B:lg P)(fn:Func)(fns:List (Nat×Entry))(T:List (Nat×bT))(e:Entry)(k:Nat→ar→Option (c4.outs e.rs (bD.ef e.ps)).D)(x:(bD.ins e.ps).D):Option (c4.outs e.rs (bD.ef e.ps)).D:=
 Ay (B.env fn fns) fn (rn fn) (ta T) 0 e k x
noncomputable def lg.Eu(B:lg P)(key:Nat)(fn:Func)(fns:List (Nat×Entry))(T:List (Nat×bT))(e:Entry)(k:Nat→ar→Option (c4.outs e.rs (bD.ef e.ps)).D)(x:(bD.ins e.ps).D):Option (c4.outs e.rs (bD.ef e.ps)).D:=
 Ay (B.env fn fns) fn (rn fn) (ta T) key e k x
noncomputable def lg.step(B:lg P)(fn:Func)(fns:List (Nat×Entry))(T:List (Nat×bT))(e:Entry)(k:Nat→ar→Option (c4.outs e.rs (bD.ef e.ps)).D):Nat→ar→Option (c4.outs e.rs (bD.ef e.ps)).D:=
 Mn (B.env fn fns) (ta T) (rn fn) (vf (B.env fn fns) fn e) k
def ew{K:Type}(s:K→K)(z:K):Nat→K
 | 0=>z
 | m+1=>s (ew s z m)
theorem Vp(B:lg P)(key:Nat){f:Nat}{fn:Func}{e:Entry}{fns:List (Nat×Entry)}(hs:s' P fns)(hf:P.funcs[f]?=some fn)(hc:yj fn e.ps=true)(T:List (Nat×bT))
  (hF:∀x r,e.f x=some r→∃m,Ay (B.env fn fns) fn (rn fn) (ta T) key e (s7 (B.env fn fns) (ta T) (rn fn) (vf (B.env fn fns) fn e) m) x=some r):Sound P f key e:=by
 unfold yj at hc;simp only [Bool.and_eq_true,Bool.not_eq_true'] at hc;obtain ⟨⟨⟨⟨h1,h2⟩,h3⟩,h4⟩,a7⟩:=hc;refine agB (agK (n:=fn.ntmps) (fns:=fns) B.ht B.aw B.he hs B.hm) hf ?_ h2 (Nat.beq_refl _) h3 h4 a7 hF;unfold rn
 cases hb:fn.body with
 | none=>rw [hb] at h1;cases h1
 | some c=>rfl
theorem agS(B:lg P)(key:Nat){f:Nat}{fn:Func}{e:Entry}{fns:List (Nat×Entry)}(hs:s' P fns)(hf:P.funcs[f]?=some fn)(hc:yj fn e.ps=true)
  (h:∀x,B.Eu key fn fns [] e (fun _ _=>none) x=e.f x):Sound P f key e:=
 Vp B key hs hf hc [] fun x r hx=>⟨0,by
  rw [show s7 (B.env fn fns) (ta []) (rn fn) (vf (B.env fn fns) fn e) 0=fun _ _=>none from rfl]
  exact(h x).trans hx⟩
theorem agT(B:lg P)(key:Nat){f:Nat}{fn:Func}{e:Entry}{fns:List (Nat×Entry)}(hs:s' P fns)(hf:P.funcs[f]?=some fn)(hc:yj fn e.ps=true)(T:List (Nat×bT)){K:Type}
  (of:(Nat→ar→Option (c4.outs e.rs (bD.ef e.ps)).D)→K) (step:K→K) (L:Nat→K) (g:K→(bD.ins e.ps).D→Option (c4.outs e.rs (bD.ef e.ps)).D)
  (h0:L 0=of fun _ _=>none) (vj:∀m,L (m+1)=step (L m)) (he:∀x,e.f x=g (L aM) x)
  (aC:∀k x,B.Eu key fn fns T e k x=g (of k) x)
  (hst:∀k,of (B.step fn fns T e k)=step (of k)):Sound P f key e:=
 Vp B key hs hf hc T fun x r hx=>⟨aM,by
  have hl:∀m,of (s7 (B.env fn fns) (ta T) (rn fn) (vf (B.env fn fns) fn e) m)=L m:=by
   intro m
   induction m with
   | zero=>exact h0.symm
   | succ m ih=>rw [vj,← ih];exact hst _
  rw [he,← hl aM] at hx
  exact(aC _ x).trans hx⟩
end
@[reducible] def zN(t:ad):bD:=.val t t.own
@[reducible] def aL(t:ad):bD:=.val t .R
@[reducible] def Ev(t:ad):bD:=.hV t
@[reducible] def Vq(t:ad):bD:=.hg t t.own
@[reducible] def gd(t:ad):bD:=.ref t
@[reducible] def yk(t:ad):bD:=.mut t t.own t.own
@[reducible] def ro(t:ad):c4:=.val t t.own
@[reducible] def a_(t:ad):c4:=.val t .R
def Vr:List (Nat×ba)→Nat→ba
 | []=>fun _=>.aB
 | (d,v) :: l=>bW (Vr l) d v
def Vs:List (Nat×cB)→Nat→cB
 | []=>fun _=>.none
 | (d,v) :: l=>bW (Vs l) d v
def bl(t:List (Nat×ba))(o:List (Nat×cB))(g:List ba):ar:=⟨Vr t,Vs o,g⟩
def aQ(x:Int):ba:=.aV (.int .i64 x)
def jM(x:Bool):ba:=.aV (.bool x)
def eJ(x:List UInt8):ba:=.aV (.str x)
def dS(t:ad)(x:List t.D):ba:=.aV (.bM t [] none x)
def aE(c:Nat):ba:=.ptr ⟨c,none,0⟩
def qc(dp:List Nat):List (Nat×Nat):=dp.map fun c=>(c,0)
mutual
def ad.vk:(t:ad)→bg→List Nat→t.D→Nat→List bb×List (Nat×cB)×Nat
 | .int k,_,_,x,j=>([.int k x],[],j)
 | .bool,_,_,x,j=>([.bool x],[],j)
 | .str,_,_,x,j=>([.str x],[],j)
 | .raw,_,_,x,j=>([.raw x],[],j)
 | .sl t,.O e,_,x,j=>([.af j none],[(j,.row t e 0 x)],j+1)
 | .sl t,_,dp,x,j=>([.bM t (qc dp) none x],[],j)
 | .st ak,m,dp,x,j=>ak.vk m.parts dp x j
def aA.vk:(ak:aA)→c3→List Nat→ak.D→Nat→List bb×List (Nat×cB)×Nat
 | .nil,_,_,_,j=>([],[],j)
 | .cons t ak,m,dp,x,j=>let r:=t.vk m.af dp x.1 j;let q:=ak.vk m.dC dp x.2 r.2.2;(r.1++q.1,r.2.1++q.2.1,q.2.2)
end
mutual
def ad.vl:(t:ad)→bg→List Nat→Nat→List lA×List (Nat×iS)×Nat
 | .sl t,.O e,_,j=>([.af j],[(j,.row t e)],j+1)
 | .sl t,_,dp,j=>([.bM t dp],[],j)
 | .st ak,m,dp,j=>ak.vl m.parts dp j
 | _,_,_,j=>([.keep],[],j)
def aA.vl:(ak:aA)→c3→List Nat→Nat→List lA×List (Nat×iS)×Nat
 | .nil,_,_,j=>([],[],j)
 | .cons t ak,m,dp,j=>let r:=t.vl m.af dp j;let q:=ak.vl m.dC dp r.2.2;(r.1++q.1,r.2.1++q.2.1,q.2.2)
end
def aH(c:Nat)(t:ad)(m:bg)(dp:List Nat)(x:t.D):List (Nat×cB):=let r:=t.vk m dp x (c+1);(c,.var 0 r.1) :: r.2.1
def aF(c:Nat)(t:ad)(m:bg)(dp:List Nat):List (Nat×iS):=let r:=t.vl m dp (c+1);(c,.var r.1) :: r.2.1
def aV(t:ad)(m:bg)(dp:List Nat)(x:t.D)(j:Nat):List bb:=(t.vk m dp x j).1
def tb(t:ad)(m:bg)(dp:List Nat)(j:Nat):List lA:=(t.vl m dp j).1
def Mz(t:ad)(m:bg)(x:t.D)(j:Nat):List (Nat×cB):=(t.vk m [] x j).2.1
def MA(t:ad)(m:bg)(j:Nat):List (Nat×iS):=(t.vl m [] j).2.1
@[reducible] def aG:kT:=.cell .keep
end Go.LM
namespace Go.LM
theorem Vt{P:Program}{f key:Nat}{e:Entry}(hf:∀x,e.f x=none):ik P f key e:=
 ⟨fun w Z F x us r _ _ _ _ hx=>by rw [hf x] at hx;cases hx⟩
theorem agU{w:World}{Z F:ag}{e:Entry}{us:List Value}{k:IntKind}{x:Int}(o4:e.rs=[.val (.int k) .R])(hm:bD.ef e.ps=.nil)(hZ:∀b o,Z b o→b<w.heap.size)(hF:∀b o,F b o→b<w.heap.size)(hap:ag.apart F Z)
  (r:(c4.outs e.rs (bD.ef e.ps)).D) (hr:∀G,iy w Z e.ps (us++gp us) e.rs r [.int k x] G):Ends w Z F e us r (.int k x) w:=
 ⟨[.int k x],Z,ag.none,rfl,Ext.refl _ _,fun _ _ h=>h,fun _ _ h=>.inl h,fun _ _ h=>h.elim,fun _ _ h=>h.elim,hr _⟩
def Ew(g:List UInt8→UInt8→Int):Entry:=⟨[aL .str,aL (.int .u8)],[a_ (.int .i64)],fun x=>some (g x.1 x.2.1.toNat.toUInt8,())⟩
theorem Vu{P:Program}{f:FuncId}{fn:Func}{x:Array Value→Sem Value}(g:List UInt8→UInt8→Int)(hf:P.funcs[f]?=some fn)(ju:(fn.name == "runtime.NumGoroutine")=false)
  (hb:fn.body.isNone=true) (hn:Extern.findNext fn=none) (he:Extern.find fn=some x)
  (hx:∀(s:ByteArray) (c:Int) (w:World),(x #[.string s,.int .u8 c]).run P w=.ok (.int .i64 (g s.data.toList c.toNat.toUInt8)) w):ik P f 0 (Ew g):=by
 refine⟨fun w Z F y us r hZ hF hap hA aR=>?_⟩;obtain rfl:=aW aR;obtain ⟨vs1,us1,G1,H1,e1,k1,h1,_⟩:=hA;obtain ⟨vs2,us2,G2,H2,e2,k2,h2,_⟩:=h1;simp only [ad.au] at k1 k2;obtain ⟨s,rfl,hs⟩:=k1;subst k2;have h2:us2=[]:=h2;subst h2;subst e2
 have hus:us=[.string s,.int .u8 y.2.1]:=by
  cases us with
  | nil=>cases e1
  | cons u us=>
   cases us with
   | nil=>
    simp only [List.cons_append,List.nil_append] at e1;injection e1 with e3 et
    subst e3;cases et
   | cons jr us=>
    simp only [List.cons_append] at e1;injection e1 with e3 et
    injection et with et kP
    subst e3 et;have:us=[]:=(List.append_eq_nil_iff.1 kP).1;subst this;rfl
 subst hus;refine .inr ⟨.int .i64 (g s.data.toList y.2.1.toNat.toUInt8),w,?_,.int .i64 (g s.data.toList y.2.1.toNat.toUInt8),rfl,?_⟩
 ·rw [run_callFunc_extern hf ju hb hn he];have:=hx s y.2.1 w;rw [show(([Value.string s,Value.int IntKind.u8 y.2.1]:List Value).toArray) = #[.string s,.int .u8 y.2.1] from rfl,this];rfl
 ·rw [hs];refine agU (e:=Ew g) rfl rfl hZ hF hap _ fun G=>?_
  refine⟨[_],[],ag.none,ag.none,rfl,?_,?_,fun _ _ h=>h.elim,fun _ _ h=>h.elim,fun _ _ h=>h.elim⟩
  ·simp only [ad.au]
  ·exact⟨rfl,_,_,rfl,_,_,rfl,trivial⟩
theorem agV{P:Program}{f:FuncId}{fn:Func}(hf:P.funcs[f]?=some fn)(ju:(fn.name == "runtime.NumGoroutine")=false)
  (hb:fn.body.isNone=true) (hn:Extern.findNext fn=none) (he:Extern.find fn=some Extern.BytealgIndexByte.indexByte):ik P f 0 (Ew Lib.indexByte):=
 Vu _ hf ju hb hn he fun s c w=>Lib.run_indexByteString s c w
theorem agW{P:Program}{f:FuncId}{fn:Func}(hf:P.funcs[f]?=some fn)(ju:(fn.name == "runtime.NumGoroutine")=false)
  (hb:fn.body.isNone=true) (hn:Extern.findNext fn=none) (he:Extern.find fn=some Extern.BytealgCount.count):ik P f 0 (Ew fun l c=>(Lib.countByte l c:Int)):=
 Vu _ hf ju hb hn he fun s c w=>Lib.run_countString s c w
section
variable{P:Program}
theorem cg(B:lg P)(key:Nat){f:Nat}{fn:Func}{e:Entry}{fns:List (Nat×Entry)}(hs:s' P fns)
  (h:(P.funcs[f]?,yj fn e.ps,B.Eu key fn fns [] e fun _ _=>none)=(some fn,true,e.f)):Sound P f key e:=
 agS B key hs (congrArg (·.1) h) (congrArg (·.2.1) h) fun x=>congrFun (congrArg (·.2.2) h) x
theorem b8(B:lg P)(key:Nat){f:Nat}{fn:Func}{e:Entry}{fns:List (Nat×Entry)}(hs:s' P fns)(T:List (Nat×bT)){K:Type}
  (of:(Nat→ar→Option (c4.outs e.rs (bD.ef e.ps)).D)→K) (step:K→K) (L:Nat→K) (g:K→(bD.ins e.ps).D→Option (c4.outs e.rs (bD.ef e.ps)).D)
  (h:(P.funcs[f]?,yj fn e.ps,L 0,(fun m=>L (m+1)),(fun k=>B.Eu key fn fns T e k),fun k=>of (B.step fn fns T e k))=(some fn,true,of (fun _ _=>none),(fun m=>step (L m)),(fun k=>g (of k)),fun k=>step (of k)))
  (he:e.f=g (L aM)):Sound P f key e:=
 agT B key hs (congrArg (·.1) h) (congrArg (·.2.1) h) T of step L g (congrArg (·.2.2.1) h) (fun m=>congrFun (congrArg (·.2.2.2.1) h) m) (fun x=>congrFun he x)
  (fun k x=>congrFun (congrFun (congrArg (·.2.2.2.2.1) h) k) x) (fun k=>congrFun (congrArg (·.2.2.2.2.2) h) k)
end
end Go.LM
namespace Go.LM
mutual
def ad.rw:ad→ad
 | .sl _=>.raw
 | .st ak=>.st ak.rw
 | .int k=>.int k
 | .bool=>.bool
 | .str=>.str
 | .raw=>.raw
def aA.rw:aA→aA
 | .nil=>.nil
 | .cons t ak=>.cons t.rw ak.rw
end
mutual
def ad.rel:(T T':ad)→T.D→T'.D→Prop
 | .int _,.int _,x,y=>x=y
 | .bool,.bool,x,y=>x=y
 | .str,.str,x,y=>x=y
 | .sl _,.raw,_,_=>True
 | .raw,.raw,x,y=>x=y
 | .st ak,.st MB,x,y=>ak.rel MB x y
 | _,_,_,_=>False
def aA.rel:(T T':aA)→T.D→T'.D→Prop
 | .nil,.nil,_,_=>True
 | .cons t ak,.cons cO MB,x,y=>t.rel cO x.1 y.1∧ak.rel MB x.2 y.2
 | _,_,_,_=>False
end
mutual
theorem ad.o_:∀t:ad,t.rw.size=t.size
 | .int _=>rfl
 | .bool=>rfl
 | .str=>rfl
 | .sl _=>rfl
 | .raw=>rfl
 | .st ak=>by simp only [ad.rw,ad.size];exact aA.o_ ak
theorem aA.o_:∀t:aA,t.rw.size=t.size
 | .nil=>rfl
 | .cons t ak=>by simp only [aA.rw,aA.size,ad.o_ t,aA.o_ ak]
end
mutual
theorem ad.AG{w:World}{Z:ag} : ∀(T:ad) (m:bg) {x:T.D} {vs:List Value} {F:ag},T.au w Z m x vs F→∃y:T.rw.D,(∀(w':World) (Z':ag) (m':bg) (F':ag),T.rw.au w' Z' m' y vs F')∧T.rel T.rw x y
 | .int _,_,x,_,_,h=>by simp only [ad.au] at h;subst h;exact⟨x,fun _ _ _ _=>by simp only [ad.rw,ad.au],by simp only [ad.rw,ad.rel]⟩
 | .bool,_,x,_,_,h=>by simp only [ad.au] at h;subst h;exact⟨x,fun _ _ _ _=>by simp only [ad.rw,ad.au],by simp only [ad.rw,ad.rel]⟩
 | .str,_,x,_,_,h=>by simp only [ad.au] at h;exact⟨x,fun _ _ _ _=>by simp only [ad.rw,ad.au];exact h,by simp only [ad.rw,ad.rel]⟩
 | .raw,_,x,_,_,h=>by simp only [ad.au] at h;exact⟨x,fun _ _ _ _=>by simp only [ad.rw,ad.au];exact h,by simp only [ad.rw,ad.rel]⟩
 | .sl t,m,x,vs,F,h=>by
  have:∃A n c,vs=[.slice A n c]:=by cases m <;>(simp only [ad.au] at h;obtain ⟨A,c,hv,_⟩:=h;exact⟨A,_,c,hv⟩)
  obtain ⟨A,n,c,rfl⟩:=this;exact⟨(.slice A n c:Value),fun _ _ _ _=>by simp only [ad.rw,ad.au];exact⟨trivial,A,n,c,rfl⟩,by simp only [ad.rw,ad.rel]⟩
 | .st ak,m,x,vs,F,h=>by simp only [ad.au] at h;obtain ⟨y,h1,h2⟩:=aA.AG ak m.parts h;exact⟨y,fun w' Z' m' F'=>by simp only [ad.rw,ad.au];exact h1 w' Z' m'.parts F',by simp only [ad.rw,ad.rel];exact h2⟩
theorem aA.AG{w:World}{Z:ag} : ∀(T:aA) (m:c3) {x:T.D} {vs:List Value} {F:ag},T.au w Z m x vs F→∃y:T.rw.D,(∀(w':World) (Z':ag) (m':c3) (F':ag),T.rw.au w' Z' m' y vs F')∧T.rel T.rw x y
 | .nil,_,_,_,_,h=>by simp only [aA.au] at h;exact⟨(),fun _ _ _ _=>by simp only [aA.rw,aA.au];exact h,by simp only [aA.rw,aA.rel]⟩
 | .cons t ak,m,x,vs,F,h=>by simp only [aA.au] at h;obtain ⟨us,bI,G,H,rfl,h1,h2,_⟩:=h;obtain ⟨y,k1,k2⟩:=ad.AG t m.af h1;obtain ⟨z,ea,eV⟩:=aA.AG ak m.dC h2;exact⟨(y,z),fun w' Z' m' F'=>by simp only [aA.rw,aA.au];exact⟨us,bI,ag.none,ag.none,rfl,k1 w' Z' m'.af _,ea w' Z' m'.dC _,fun _ _ h=>h.elim,fun _ _ h=>h.elim,fun _ _ h=>h.elim⟩,by simp only [aA.rw,aA.rel];exact⟨k2,eV⟩⟩
end
mutual
theorem ad.AH{w w':World}{Z Z':ag} : ∀(T:ad) {m m':bg} {y:T.rw.D} {vs:List Value} {F F':ag},T.rw.au w Z m y vs F→T.rw.au w' Z' m' y vs F'
 | .int _,_,_,_,_,_,_,h=>by simp only [ad.rw,ad.au] at h ⊢;exact h
 | .bool,_,_,_,_,_,_,h=>by simp only [ad.rw,ad.au] at h ⊢;exact h
 | .str,_,_,_,_,_,_,h=>by simp only [ad.rw,ad.au] at h ⊢;exact h
 | .sl _,_,_,_,_,_,_,h=>by simp only [ad.rw,ad.au] at h ⊢;exact h
 | .raw,_,_,_,_,_,_,h=>by simp only [ad.rw,ad.au] at h ⊢;exact h
 | .st ak,_,_,_,_,_,_,h=>by simp only [ad.rw,ad.au] at h ⊢;exact aA.AH ak h
theorem aA.AH{w w':World}{Z Z':ag} : ∀(T:aA) {m m':c3} {y:T.rw.D} {vs:List Value} {F F':ag},T.rw.au w Z m y vs F→T.rw.au w' Z' m' y vs F'
 | .nil,_,_,_,_,_,_,h=>by simp only [aA.rw,aA.au] at h ⊢;exact h
 | .cons t ak,_,_,_,_,_,_,h=>by simp only [aA.rw,aA.au] at h ⊢;obtain ⟨a,b,_,_,rfl,h1,h2,_⟩:=h;exact⟨a,b,ag.none,ag.none,rfl,ad.AH t h1,aA.AH ak h2,fun _ _ h=>h.elim,fun _ _ h=>h.elim,fun _ _ h=>h.elim⟩
end
mutual
theorem ad.AI{w w':World}{Z Z':ag} : ∀(T:ad) {m m':bg} {y:T.rw.D} {us vs:List Value} {F F':ag},T.rw.au w Z m y us F→T.rw.au w' Z' m' y vs F'→us=vs
 | .int _,_,_,_,_,_,_,_,h,k=>by simp only [ad.rw,ad.au] at h k;rw [h,k]
 | .bool,_,_,_,_,_,_,_,h,k=>by simp only [ad.rw,ad.au] at h k;rw [h,k]
 | .str,_,_,_,_,_,_,_,h,k=>by
  simp only [ad.rw,ad.au] at h k;obtain ⟨s,rfl,hs⟩:=h;obtain ⟨av,rfl,Vv⟩:=k;have:s=av:=by cases s;cases av;simp only at hs Vv;congr 1;apply Array.ext';rw [hs,Vv]
  rw [this]
 | .sl _,_,_,_,_,_,_,_,h,k=>by simp only [ad.rw,ad.au] at h k;rw [h.1,k.1]
 | .raw,_,_,_,_,_,_,_,h,k=>by simp only [ad.rw,ad.au] at h k;rw [h.1,k.1]
 | .st ak,_,_,_,_,_,_,_,h,k=>by simp only [ad.rw,ad.au] at h k;exact aA.AI ak h k
theorem aA.AI{w w':World}{Z Z':ag} : ∀(T:aA) {m m':c3} {y:T.rw.D} {us vs:List Value} {F F':ag},T.rw.au w Z m y us F→T.rw.au w' Z' m' y vs F'→us=vs
 | .nil,_,_,_,_,_,_,_,h,k=>by simp only [aA.rw,aA.au] at h k;rw [h,k]
 | .cons t ak,_,_,_,_,_,_,_,h,k=>by simp only [aA.rw,aA.au] at h k;obtain ⟨a,b,_,_,rfl,h1,h2,_⟩:=h;obtain ⟨b5,b',_,_,rfl,k1,k2,_⟩:=k;rw [ad.AI t h1 k1,aA.AI ak h2 k2]
end
def hO(w:World)(Z:ag)(T:ad)(m:bg):List T.D→List T.rw.D→ag→Prop
 | [],[],_=>True
 | x :: xs,y :: ys,G=>∃vs G1 G2,T.au w Z m x vs G1∧T.rw.au w Z .R y vs ag.none∧T.rel T.rw x y∧hO w Z T m xs ys G2∧ag.apart G1 G2∧ag.sub G1 G∧ag.sub G2 G
 | _,_,_=>False
section
variable{w w':World}{Z Z':ag}{T:ad}{m:bg}
theorem hO.len:∀ {xs:List T.D} {ys:List T.rw.D} {G:ag},hO w Z T m xs ys G→ys.length=xs.length
 | [],[],_,_=>rfl
 | _ :: _,_ :: _,_,⟨_,_,_,_,_,_,h,_⟩=>by simp [hO.len h]
 | [],_ :: _,_,h=>h.elim
 | _ :: _,[],_,h=>h.elim
theorem hO.mono:∀ {xs:List T.D} {ys:List T.rw.D} {G dv:ag},ag.sub G dv→hO w Z T m xs ys G→hO w Z T m xs ys dv
 | [],[],_,_,_,_=>trivial
 | _ :: _,_ :: _,_,_,hs,⟨vs,G1,G2,h1,h2,h3,h4,a7,bh,bJ⟩=>⟨vs,G1,G2,h1,h2,h3,h4,a7,fun b o h=>hs b o (bh b o h),fun b o h=>hs b o (bJ b o h)⟩
 | [],_ :: _,_,_,_,h=>h.elim
 | _ :: _,[],_,_,_,h=>h.elim
theorem hO.Vw:∀ {xs:List T.D} {b o:Nat} {G:ag},Row w (T.au w Z m) T.size xs b o G→∃ys,hO w Z T m xs ys G∧∀(Z':ag),Row w (T.rw.au w Z' .R) T.rw.size ys b o ag.none
 | [],_,_,_,_=>⟨[],trivial,fun _=>trivial⟩
 | x :: xs,b,o,G,⟨vs,G1,G2,h1,h2,h3,h4,a7,bh,bJ⟩=>by obtain ⟨ys,k1,k2⟩:=hO.Vw h4;obtain ⟨y,ea,eV⟩:=ad.AG T m h1;refine⟨y :: ys,⟨vs,G1,G2,h1,ea _ _ _ _,eV,k1,a7,bh,bJ⟩,fun Z'=>⟨vs,ag.none,ag.none,ea _ _ _ _,by rw [h2,ad.o_],h3,?_,fun _ _ h=>h.elim,fun _ _ h=>h.elim,fun _ _ h=>h.elim⟩⟩;have:=k2 Z';rw [ad.o_] at this ⊢;exact this
theorem hO.filter{p:T.D→Bool}{p':T.rw.D→Bool}(aw:∀x y,T.rel T.rw x y→p x=p' y):∀ {xs:List T.D} {ys:List T.rw.D} {G:ag},hO w Z T m xs ys G→hO w Z T m (xs.filter p) (ys.filter p') G
 | [],[],_,_=>trivial
 | x :: xs,y :: ys,G,⟨vs,G1,G2,h1,h2,h3,h4,a7,bh,bJ⟩=>by
  have ih:=hO.filter aw h4;rw [List.filter_cons,List.filter_cons,aw x y h3];cases p' y
  ·exact ih.mono bJ
  ·exact⟨vs,G1,G2,h1,h2,h3,ih,a7,bh,bJ⟩
 | [],_ :: _,_,h=>h.elim
 | _ :: _,[],_,h=>h.elim
theorem hO.same:∀ {xs:List T.D} {ys:List T.rw.D} {G:ag},cf w w' G→hO w Z T T.own xs ys G→hO w' Z' T T.own xs ys G
 | [],[],_,_,_=>trivial
 | x :: xs,y :: ys,G,hs,⟨vs,G1,G2,h1,h2,h3,h4,a7,bh,bJ⟩=>by exact⟨vs,G1,G2,ra T (hs.mono bh) h1,ad.AH T h2,h3,hO.same (hs.mono bJ) h4,a7,bh,bJ⟩
 | [],_ :: _,_,_,h=>h.elim
 | _ :: _,[],_,_,h=>h.elim
theorem hO.row:∀ {xs:List T.D} {ys:List T.rw.D} {G:ag} {b o:Nat} {H:ag},hO w Z T m xs ys G→Row w (T.rw.au w Z' .R) T.rw.size ys b o H→Row w (T.au w Z m) T.size xs b o G
 | [],[],_,_,_,_,_,_=>trivial
 | x :: xs,y :: ys,G,b,o,H,⟨vs,G1,G2,h1,h2,h3,h4,a7,bh,bJ⟩,⟨us,H1,H2,k1,k2,k3,bs,_⟩=>by have:us=vs:=ad.AI T k1 h2;subst this;rw [ad.o_] at k2 bs;exact⟨us,G1,G2,h1,k2,k3,hO.row h4 (by rw [ad.o_];exact bs),a7,bh,bJ⟩
 | [],_ :: _,_,_,_,_,h,_=>h.elim
 | _ :: _,[],_,_,_,_,h,_=>h.elim
theorem agX{P:Program}{f:FuncId}{key:FuncId}{T':ad}{p:T.D→Int→Bool}{p':T'.D→Int→Bool}(b2:T.rw=T')(D_:∀x y i,T.rel T' x y→p x i=p' y i)
  {fq:(bD.ins [.val (.sl T') (.O .R),.fn 0 1,.ref (.int .i64)]).D→Option (c4.outs [.val (.sl T') (.O .R)] (bD.ef [.val (.sl T') (.O .R),.fn 0 1,.ref (.int .i64)])).D}
  (de:ik P f key ⟨[.val (.sl T') (.O .R),.fn 0 1,.ref (.int .i64)],[.val (.sl T') (.O .R)],fq⟩)
  (hf:∀(ys:List T'.D) (i:Int),room ys.length=true→fq (ys,i,())=some (ys.filter (fun y=>p' y i),())) :
  ik P f key ⟨[.val (.sl T) (.O T.own),.fn 0 1,.ref (.int .i64)],[.val (.sl T) (.O T.own)],fun x=>cond (room x.1.length) (some (x.1.filter (fun y=>p y x.2.1),())) none⟩:=by
 subst b2;refine⟨fun w Z F x us r hZ hF hFZ hA hr=>?_⟩;obtain ⟨xs,i,u⟩:=x;simp only at hr;cases hroom:room xs.length
 ·rw [hroom] at hr;cases hr
 rw [hroom] at hr;simp only [cond_true] at hr;have hr:=aW hr;obtain ⟨vs,aX,G,H,e1,cS,gh,Ex,hGF,AJ⟩:=hA;simp only [ad.au] at cS;obtain ⟨A,c,rfl,cS⟩:=cS
 obtain ⟨ys,G1,yl,dF,agY,AK,ym,MC⟩:∃(ys:List T.rw.D) (G1 yl:ag),hO w Z T T.own xs ys G1∧(ad.sl T.rw).au w Z (.O .R) ys [.slice A xs.length c] yl∧ag.sub G1 G∧ag.sub yl G∧ag.apart G1 yl:=by
  rcases cS with⟨rfl,rfl⟩ | ⟨a,rfl,hr⟩
  ·exact⟨[],ag.none,ag.none,trivial,by simp only [ad.au];exact⟨A,0,rfl,.inl (by simp)⟩,fun _ _ h=>h.elim,fun _ _ h=>h.elim,fun _ _ h=>h.elim⟩
  ·obtain ⟨G1,g1,g2,g3⟩:=hr.row;obtain ⟨ys,k1,k2⟩:=hO.Vw g1;refine⟨ys,G1,ag.run a.block a.off (c*T.size),k1,?_,g3,?_,?_⟩
   ·simp only [ad.au];refine⟨some a,c,by rw [k1.len],.inr ⟨a,rfl,hr.spot,by rw [k1.len];exact hr.cap,?_,?_,ag.none,?_,fun _ _ h=>h,fun _ _ h=>h.elim⟩⟩
    ·rw [ad.o_];exact hr.wr
    ·rw [ad.o_];exact fun j hj=>⟨rfl,by omega,by omega⟩
    ·exact k2 Z
   ·rintro b o ⟨rfl,h1,h2⟩
    have:=hr.inF (o-a.off) (by omega);rwa [show a.off +(o-a.off)=o by omega] at this
   ·rintro b o aC ⟨rfl,h1,h2⟩
    have:=g2 (o-a.off) (by omega);rw [show a.off +(o-a.off)=o by omega] at this;exact this aC
 have hcall:=de.calls w Z (yl.or H) (ys,i,u) us (ys.filter (fun y=>p' y i),()) hZ
  (fun b o h=>h.elim (fun h=>hF b o (hGF b o (ym b o h))) fun h=>hF b o (AJ b o h))
  (fun b o h hz=>h.elim (fun h=>hFZ b o (hGF b o (ym b o h)) hz) fun h=>hFZ b o (AJ b o h) hz)
  ⟨[.slice A xs.length c],aX,yl,H,e1,agY,gh,fun b o h=>Ex b o (ym b o h),fun _ _ h=>.inl h,fun _ _ h=>.inr h⟩
  (hf ys i (by rw [dF.len];exact hroom))
 refine hcall.mono ?_
 rintro end_ w' ⟨v,rfl,⟨⟨dy,Z',F',rfl,hx,jL,hz2,hf2,Am,h7⟩⟩⟩
 subst hr;simp only [iy] at h7;obtain ⟨vs1,ej,dv,afH,rfl,x1,⟨rfl,Vx⟩,_,Vy,_⟩:=h7;have yn:∀b o,G1 b o→F b o∧b<w.heap.size:=fun b o h=>⟨hGF b o (AK b o h),hF b o (hGF b o (AK b o h))⟩
 have agZ:ag.apart G1 F':=by
  intro b o h1 h2;rcases (hf2 b o h2).1 with(h3 | h3) | h3
  ·exact MC b o h1 h3
  ·exact Ex b o (AK b o h1) h3
  ·have:=(yn b o h1).2;omega
 have nQ:cf w w' G1:=cf.jk hx (fun b o h=>(yn b o h).2) (by
  rintro b o h1 (h3 | h3)
  ·exact MC b o h1 h3
  ·exact Ex b o (AK b o h1) h3)
 have Ey:hO w' Z' T T.own (xs.filter fun y=>p y i) (ys.filter fun y=>p' y i) G1:=(dF.same nQ).filter fun x y h=>D_ x y i h
 have hsz:T.rw.size=T.size:=ad.o_ T;refine⟨_,rfl,⟨⟨_,Z',F'.or G1,rfl,?_,jL,?_,?_,?_,?_⟩⟩⟩
 ·exact hx.mono fun b o hb h=>h.elim (fun h=>hGF b o (ym b o h)) fun h=>AJ b o h
 ·intro b o hz;rcases hz2 b o hz with h1 | ⟨h1,h2⟩
  ·exact .inl h1
  ·exact .inr ⟨h1.imp (fun h=>h.elim (fun h=>hGF b o (ym b o h)) fun h=>AJ b o h) fun h=>h,h2⟩
 ·rintro b o (h1 | h1)
  ·obtain ⟨h2,h3⟩:=hf2 b o h1;exact⟨h2.imp (fun h=>h.elim (fun h=>hGF b o (ym b o h)) fun h=>AJ b o h) fun h=>h,h3⟩
  ·exact⟨.inl (yn b o h1).1,Nat.lt_of_lt_of_le (yn b o h1).2 hx.size⟩
 ·rintro b o (h1 | h1) hz
  ·exact Am b o h1 hz
  ·rcases hz2 b o hz with h2 | ⟨(h2 | h2) | h2,_⟩
   ·exact hFZ b o (yn b o h1).1 h2
   ·exact MC b o h1 h2
   ·exact Ex b o (AK b o h1) h2
   ·have:=(yn b o h1).2;omega
 ·simp only [iy];refine⟨vs1,[],F'.or G1,ag.none,rfl,?_,⟨rfl,by simp only [iI] at Vx ⊢;exact Vx⟩,fun _ _ _ h=>h.elim,fun _ _ h=>h,fun _ _ h=>h.elim⟩;simp only [ad.au] at x1 ⊢;obtain ⟨nK,c',rfl,x1⟩:=x1;refine⟨nK,c',by rw [← Ey.len],?_⟩;rcases x1 with⟨h1,h2⟩ | ⟨b5,p1,iM⟩
  ·refine .inl ⟨List.eq_nil_of_length_eq_zero ?_,h2⟩;rw [← Ey.len,h1];rfl
  ·obtain ⟨SO,bE,_⟩:=iM.row;refine .inr ⟨b5,p1,iM.spot,by rw [← Ey.len];exact iM.cap,by have:=iM.wr;rwa [hsz] at this,?_,G1,Ey.row bE,?_,fun _ _ h=>.inr h⟩
   ·intro j hj;exact .inl (Vy _ _ (iM.inF j (by rw [hsz];exact hj)))
   ·intro j hj aC;exact agZ _ _ aC (Vy _ _ (iM.inF j (by rw [hsz];exact hj)))
end
end Go.LM
