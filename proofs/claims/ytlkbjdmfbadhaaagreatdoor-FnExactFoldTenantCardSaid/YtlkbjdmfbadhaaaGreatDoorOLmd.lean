/- Regions, loops and whole functions are what the interpreter says, and a law's reading fits them. Conditions: each theorem's own hypotheses. -/
import Derived.Test.YtlkbjdmfbadhaaaGreatDoorOLmc
import Derived.Orders
import Derived.OrdersHeld
import Derived.Laws.StructEq
import Derived.WalkKit
import Derived.ProofKit
import Derived.OpenShut
import Derived.ShutString
import Derived.ChangeOld
import Derived.Below
import Derived.JoinedCond
import Derived.Lib.Bytealg
set_option linter.unusedVariables false
set_option linter.unusedSimpArgs false
namespace Go.LM
section
variable{P:Program}{Q:Exit→Act→World→Prop}
variable{w0:World}{F0 Z0:ah}{n:cN}{s au:az}{a b8:Act}{w w':World}{ι bp:Nat→bI}{Z Z':ah}
variable{E:Env}{o:Oper}{bC:Type}{K:az→Option bC}{r:bC}{id:Nat}
def hR(w0:World)(F0 Z0:ah)(n:cN)(K:az→Option bC)(r:bC)(a:Act)(w:World):Prop:=∃s,K s=some r∧c6 w0 F0 Z0 n s a w
theorem Wa(hn:E.n=n)(h:AI E o=true):∀k,o.dst=some k→k<n:=by intro k hk;unfold AI at h;rw[hk]at h;rw[←hn];exact Nat.le_of_ble_eq_true h
theorem Inv.Wb(h:Inv w0 F0 Z0 n s a w ι Z){d:Nat}{b:Bool}(hb:s.t d=.aU (.bool b)):Inv w0 F0 Z0 n (s.set d (.aU (.bool b))) a w ι Z∧a.tmps.getD d undef=.bool b:=by
 have af:=h.tmps d;rw[hb]at af;have j8:a.tmps.getD d undef=.bool b:=by simpa only[aV,cz]using af
 refine⟨h.tmp rfl (fun k=>?_) h.size h.defers,j8⟩;have hm:e5 w Z s ι w Z (s.set d (.aU (.bool b))) ι :=LP rfl;show aV w Z (s.set d (.aU (.bool b))) ι (bW s.t d (.aU (.bool b)) k) (a.tmps.getD k undef);by_cases hk:d=k
 ·subst hk;rw[cM,j8];simp only[aV,cz]
 ·rw[cX hk];exact(h.tmps k).move hm
theorem Wc(h:Inv w0 F0 Z0 n s a w ι Z)(af:∀k,o.dst=some k→k<n):c6 w0 F0 Z0 n (s.dst o.dst .gone) (a.put o.dst undef) w:=
 ⟨ι,Z,h.dst (by simp only[aV]) af⟩
theorem Wd{ops:Array Oper}(bS:kq P E)(hn:E.n=n)(h:Inv w0 F0 Z0 n s a w ι Z)(hk:vo E id ops.toList o s K=some r):
  if Region.wanted o (yielded ops a.tmps) then o.wp P a w (hR w0 F0 Z0 n K r) Q else hR w0 F0 Z0 n K r (a.put o.dst undef) w:=by
 unfold vo at hk;cases vS:AI E o
 ·rw[vS]at hk;cases hk
 rw[vS]at hk;simp only[cond_true]at hk;have af:=Wa hn vS;have mA:∀{s1:az},Inv w0 F0 Z0 n s1 a w ι Z→c0 E id o s1 K=some r→o.wp P a w (hR w0 F0 Z0 n K r) Q:=by intro s1 h1 hk1;obtain⟨au,h2,h3⟩:=ag9 (Q:=Q) bS h1 af hk1;exact Oper.wp_mono (fun a w hs=>⟨au,h2,hs⟩) h3
 have bT:∀{s1:az},Inv w0 F0 Z0 n s1 a w ι Z→K (s1.dst o.dst .gone)=some r→hR w0 F0 Z0 n K r (a.put o.dst undef) w:=fun h1 hk1=>⟨_,hk1,Wc h1 af⟩
 unfold guardOf at hk
 cases aB:o.guard with
 |none=>rw[aB]at hk;simp only at hk;rw[if_pos (by simp[Region.wanted,aB])];exact mA h hk
 |some Nf=>
  obtain⟨j,wt⟩:=Nf;rw[aB]at hk;simp only at hk
  cases hj:(ops.toList[j]?).bind (·.dst)with
  |none=>rw[hj]at hk;simp at hk
  |some d=>
   rw[hj]at hk;simp only at hk
   cases hst:s.t d with
   |aU c=>
    cases c with
    |bool b=>
     rw[hst]at hk;simp only at hk;obtain⟨h1,h2⟩:=h.Wb hst
     have aR:yielded ops a.tmps j=some b:=by
      unfold yielded;rw[Array.getElem?_toList]at hj;rw[hj];simp only[al]
      have bQ:d<a.tmps.size:=by
       rcases Nat.lt_or_ge d a.tmps.size with h|h
       ·exact h
       ·rw[Array.getD_eq_getD_getElem?,Array.getElem?_eq_none h]at h2;simp[undef]at h2
      rw[Array.getD_eq_getD_getElem?,Array.getElem?_eq_getElem bQ]at h2;rw[Array.getElem?_eq_getElem bQ];simp only[Option.getD_some]at h2;rw[h2]
     have hw:Region.wanted o (yielded ops a.tmps)=(b==wt):=by simp only[Region.wanted,aB,aR];cases b<;>cases wt<;>rfl
     rw[hw];cases b<;>cases wt<;>simp only[cond_true,cond_false]at hk
     ·exact mA h1 hk
     ·exact bT h1 hk
     ·exact bT h1 hk
     ·exact mA h1 hk
    |_=>rw[hst]at hk;simp at hk
   |gone=>
    rw[hst]at hk;simp only at hk;have h2:=h.tmps d;rw[hst]at h2;simp only[aV]at h2
    have aR:yielded ops a.tmps j=none:=by
     unfold yielded;rw[Array.getElem?_toList]at hj;rw[hj];simp only[al];rw[Array.getD_eq_getD_getElem?]at h2
     cases i_:a.tmps[d]? with
     |none=>rfl
     |some v=>rw[i_]at h2;simp only[Option.getD_some]at h2;subst h2;rfl
    have hw:Region.wanted o (yielded ops a.tmps)=false:=by simp only[Region.wanted,aB,aR];cases wt<;>rfl
    rw[hw];exact bT h hk
   |_=>rw[hst]at hk;simp at hk
theorem E5{ops:Array Oper}{R:Exit→Act→World→Prop}{i m:Nat}(hi:ops[i]?=some o)(aB:o.guard=none)(h:o.wp P a w (fun a w=>wpOps P ops R (List.range' (i+1) m) a w) R):wpOps P ops R (List.range' i (m+1)) a w:=by rw[List.range'_succ];simp only[wpOps,hi];rw[if_pos (by simp[Region.wanted,aB])];exact .inl h
theorem Ng{bH:Nat}{ops:Array Oper}(bS:kq P E)(hn:E.n=n):∀(m:Nat) (l:List Oper) (i:Nat) (s:az) (a:Act) (w:World),l.length≤m→ops.toList.drop i=l→vp E bH ops.toList l i 0 s K=some r→c6 w0 F0 Z0 n s a w →
  wpOps P ops (fun e a w=>e=.normal∧hR w0 F0 Z0 n K r a w) (List.range' i l.length) a w
 |_,[],i,s,a,w,_,_,hk,hs=>⟨rfl,s,hk,hs⟩
 |0,_::_,_,_,_,_,hm,_,_,_=>by simp at hm
 |m+1,o::l,i,s,a,w,hm,hl,hk,⟨ι,Z,h⟩=>by
  have hm:l.length≤m:=by simpa using hm
  have E6:∀(j:Nat) (o:Oper) (l:List Oper),ops.toList.drop j=o::l→ops[j]?=some o∧ops.toList.drop (j+1)=l:=by intro j o l hl;refine⟨?_,by rw[←List.drop_drop,hl];rfl⟩;rw[←Array.getElem?_toList];have:=congrArg (·[0]?) hl;simpa using this
  obtain⟨hi,gC⟩:=E6 i o l hl;simp only[vp]at hk;cases b5:Ui E s o
  ·rw[b5]at hk;simp only[cond_false]at hk;rw[List.length_cons,List.range'_succ];have pj:=Wd (Q:=fun e a w=>e=.normal∧hR w0 F0 Z0 n K r a w) bS hn h hk;simp only[wpOps,hi]
   have rM:∀a w,hR w0 F0 Z0 n (fun au=>vp E bH ops.toList l (i+1) 0 au K) r a w→wpOps P ops (fun e a w=>e=.normal∧hR w0 F0 Z0 n K r a w) (List.range' (i+1) l.length) a w:=by
    rintro a w ⟨au,h1,h2⟩
    exact Ng bS hn m l (i+1) au a w hm gC h1 h2
   split
   ·rename_i hw;rw[if_pos hw]at pj;exact .inl (Oper.wp_mono rM pj)
   ·rename_i hw;rw[if_neg hw]at pj;exact rM _ _ pj
  ·rw[b5]at hk;simp only[cond_true]at hk;obtain⟨dS,e4,e',l',rfl,g0,g1,g2,g3,m4⟩:=ahz (Q:=fun e a w=>e=.normal∧hR w0 F0 Z0 n K r a w) bS hn h hk;obtain⟨m7,hl1⟩:=E6 _ _ _ gC;obtain⟨gF,ei⟩:=E6 _ _ _ hl1;obtain⟨yz,Nh⟩:=E6 _ _ _ ei;refine E5 hi g0 (Oper.wp_mono (fun a w h=>E5 m7 g1 (Oper.wp_mono (fun a w h=>E5 gF g2 (Oper.wp_mono (fun a w h=>E5 yz g3 (Oper.wp_mono (fun a w h=>?_) h)) h)) h)) m4);obtain⟨au,h1,h2⟩:=h;exact Ng bS hn m l' (i+1+1+1+1) au a w (by simp at hm;omega) Nh h1 h2
theorem ahJ{bH:Nat}{ops:Array Oper}(bS:kq P E)(hn:E.n=n)(l:List Oper)(i:Nat)(s:az)(a:Act)(w:World)(hl:ops.toList.drop i=l)(hk:LG E bH ops.toList l i s K=some r)(hs:c6 w0 F0 Z0 n s a w):
  wpOps P ops (fun e a w=>e=.normal∧hR w0 F0 Z0 n K r a w) (List.range' i l.length) a w:=Ng bS hn l.length l i s a w (Nat.le_refl _) hl hk hs
theorem ahK{bH:Nat}{ops:Array Oper}(bS:kq P E)(hn:E.n=n)(hk:LG E bH ops.toList ops.toList 0 s K=some r)(hs:c6 w0 F0 Z0 n s a w)(b:Frame)(k:List Item)(cs:List Frame):
  ∃b8 w',hR w0 F0 Z0 n K r b8 w'∧Steps P (lone (b.at a (.code (.region bH ops false)::k)) cs w) (lone (b.at b8 k) cs w'):=by
 have h:=ahJ (w0:=w0) (F0:=F0) (Z0:=Z0) (n:=n) bS hn ops.toList 0 s a w rfl hk hs;have h':wpOps P ops (fun e a w=>e=.normal∧hR w0 F0 Z0 n K r a w) (List.range ops.size) a w:=by rw[List.range_eq_range'];simpa using h
 obtain⟨e,b8,w',⟨rfl,hl⟩,harr⟩:=wp_ops _ a w h' b k cs;exact⟨b8,w',hl,.head step_region harr⟩
end
end Go.LM
namespace Go.LM
section
variable{P:Program}{ops:Array Oper}{Q:Exit→Act→World→Prop}
abbrev gi:=List (Nat×(World→Prop))
def gi.after(ops:Array Oper)(j:Nat)(p:gi):gi:=p.filter fun x=> !waits ops j x.1
def gi.ok(p:gi)(w:World):Prop:=∀x∈p,x.2 w
def pk(P:Program)(ops:Array Oper)(Q:Exit→Act→World→Prop):Nat→Array Bool→gi→Act→World→Prop
 |0,listed,_,a,w=>Region.ready .any ops listed=[]∧Q .normal a w
 |fuel+1,listed,jr,a,w=>
  (Region.ready .any ops listed=[]→Q .normal a w) ∧
  ∀j∈Region.ready .any ops listed,wpOp P ops Q j (fun b8 w'=>(jr.after ops j).ok w'∧pk P ops Q fuel (listed.setIfInBounds j true) (jr.after ops j) b8 w') a w
theorem We:∀(fuel:Nat) (listed:Array Bool) (jr:gi) (a:Act) (w:World),pk P ops Q fuel listed jr a w→wpAny P .any ops Q fuel listed a w
 |0,_,_,_,_,h=>h
 |fuel+1,_,_,_,_,h=>⟨h.1,fun i hi=>wpOp_mono (fun b8 w' h'=>We fuel _ _ b8 w' h'.2) (h.2 i hi)⟩
theorem gi.Wf{p q:gi}(h:∀x∈p,x∈q)(j:Nat):∀x∈p.after ops j,x∈q.after ops j:=by intro x hx;unfold gi.after at *;rw[List.mem_filter]at *;exact⟨h x hx.1,hx.2⟩
theorem Wg:∀(fuel:Nat) (listed:Array Bool) (p q:gi) (a:Act) (w:World),(∀x∈p,x∈q)→pk P ops Q fuel listed q a w→pk P ops Q fuel listed p a w
 |0,_,_,_,_,_,_,h=>h
 |fuel+1,_,p,q,_,_,hs,h=>⟨h.1,fun i hi=>wpOp_mono (fun b8 w' h'=>⟨fun x hx=>h'.1 x (gi.Wf hs i x hx),Wg fuel _ _ _ b8 w' (gi.Wf hs i) h'.2⟩) (h.2 i hi)⟩
theorem gi.Ni{p:gi}{j:Nat}{x:Nat×(World→Prop)}(hx:x∈p.after ops j):x∈p:=(List.mem_filter.1 hx).1
theorem ahL{i:Nat}{nn:Oper}{v:Value}{S:World→Prop}(hi:ops[i]?=some nn)(yZ:∀(j:Nat) (o:Oper) cs b,ops[j]?=some o→o.op≠.select cs b)
  (oi:∀c a w,Q (.panic c) (a.put nn.dst v) w→Q (.panic c) a w):
  ∀(fuel:Nat) (listed:Array Bool) (jr:gi) (a:Act) (w:World),
   (∀j oj,ops[j]?=some oj→j≠i→listed.getD j true=false→(∀e∈oj.after,Region.binds .any e=true→e.on≠i)→nn.apart ops oj=true) →
   i∈Region.ready .any ops listed→YieldsIf P ops S nn v a→S w→jr.ok w →
   pk P ops Q fuel (listed.setIfInBounds i true) ((i,S)::jr) (a.put nn.dst v) w→pk P ops Q (fuel+1) listed jr a w:=by
 intro fuel
 induction fuel with
 |zero=>
  intro listed jr a w _ hr aR dg av H;refine⟨fun h=>(by rw[h]at hr;cases hr),fun j hj=>?_⟩;by_cases ll:j=i
  ·subst ll;exact aR.wpOp hi dg ⟨fun x hx=>av x (gi.Ni hx),H⟩
  ·have:=ready_mono hj ll;rw[H.1]at this;cases this
 |succ fuel ih=>
  intro listed jr a w fD hr aR dg av H;refine⟨fun h=>(by rw[h]at hr;cases hr),fun j hj=>?_⟩;by_cases ll:j=i
  ·subst ll;exact aR.wpOp hi dg ⟨fun x hx=>av x (gi.Ni hx),Wg _ _ _ _ _ _ (fun x hx=>List.mem_cons_of_mem _ (gi.Ni hx)) H⟩
  ·have h1:=H.2 j (ready_mono hj ll);obtain⟨Wh,oj,E7,MV⟩:=mem_ready.1 hj
   have Wi:∀e∈oj.after,Region.binds .any e=true→e.on≠i:=fun e he hb heq=>by
    have h1:=MV e he hb;have h0:=(mem_ready.1 hr).1;rw[heq]at h1;rcases Nat.lt_or_ge i listed.size with h'|h'
    ·simp[h']at h0 h1;rw[h0]at h1;cases h1
    ·simp[Array.getElem?_eq_none h']at h1
   have ahM:waits ops j i=false:=by unfold waits;rw[E7];simp only;rw[Bool.eq_false_iff];intro ahN;obtain⟨e,he,hb⟩:=Array.any_eq_true'.1 ahN;simp only[Bool.and_eq_true]at hb;exact Wi e he hb.1 (Nat.eq_of_beq_eq_true hb.2)
   have ahO:gi.after ops j ((i,S)::jr)=(i,S)::jr.after ops j:=by unfold gi.after;rw[List.filter_cons_of_pos (by simp[ahM])]
   rw[ahO]at h1;have h2:=wpOp_putIf E7 (fD j oj E7 ll Wh Wi) (fun cs b=>yZ i nn cs b hi) (fun cs b=>yZ j oj cs b E7) oi aR h1
   have ahP:∀k ok,ops[k]?=some ok→k≠i→(listed.setIfInBounds j true).getD k true=false →
     (∀e∈ok.after,Region.binds .any e=true→e.on≠i)→nn.apart ops ok=true:=fun k ok hk iL y0 bT=>by
    refine fD k ok hk iL ?_ bT;by_cases mw:j=k
    ·subst mw;exact Wh
    ·rw[getD_set_ne true mw]at y0;exact y0
   refine wpOp_mono (fun b8 w' h3=>⟨fun x hx=>h3.2.1 x (List.mem_cons_of_mem _ hx),ih (listed.setIfInBounds j true) _ b8 w' ahP (ready_mono hr (Ne.symm ll)) h3.1 (h3.2.1 _ List.mem_cons_self) (fun x hx=>h3.2.1 x (List.mem_cons_of_mem _ hx)) ?_⟩) h2;rw[Array.setIfInBounds_comm _ _ ll];exact h3.2.2
end
end Go.LM
namespace Go.LM
section
variable{P:Program}{Q:Exit→Act→World→Prop}
variable{w0:World}{F0 Z0:ah}{n:cN}{s au:az}{a b8:Act}{w w':World}{ι bp:Nat→bI}{Z Z':ah}
variable{E:Env}{o:Oper}{bC:Type}{K:az→Option bC}{r:bC}{id:Nat}
structure cN.le(p q:cN):Prop where
 n:q.n=p.n
 rp:q.rp=p.rp
 gc:∀e,e∈p.gc→e∈q.gc
theorem cN.le.refl(n:cN):cN.le n n:=⟨rfl,rfl,fun _ h=>h⟩
theorem cN.le.trans{a b c:cN}(h:cN.le a b)(k:cN.le b c):cN.le a c:=⟨k.n.trans h.n,k.rp.trans h.rp,fun e he=>k.gc e (h.gc e he)⟩
theorem Inv.forget{du:cN}(h:Inv w0 F0 Z0 du s a w ι Z)(hl:cN.le n du):Inv w0 F0 Z0 n s a w ι Z:=
 ⟨h.ext,h.dU,h.tl,h.jt,h.gp,h.own,h.apart,h.db,h.tmps,by rw[h.size,hl.n],by rw[←hl.rp];exact h.ghost,fun e he=>h.seen e (hl.gc e he),h.defers⟩
theorem Inv.Wj(h:Inv w0 F0 Z0 n s a w ι Z){e:Seen}(he:vv w Z s ι e):Inv w0 F0 Z0 ⟨n.n,n.rp,e::n.gc⟩ s a w ι Z:=
 ⟨h.ext,h.dU,h.tl,h.jt,h.gp,h.own,h.apart,h.db,h.tmps,h.size,h.ghost,fun x hx=>by rcases List.mem_cons.1 hx with rfl|hx;exact he;exact h.seen x hx,h.defers⟩
theorem Wk(n:cN)(e:Seen):cN.le n ⟨n.n,n.rp,e::n.gc⟩:=⟨rfl,rfl,fun _ h=>List.mem_cons_of_mem _ h⟩
def tK(n:cN)(dp:List (Nat×Nat))(S:World→Prop):Prop:=(∀w,S w)∨∃b i vs,(⟨dp,b,i,vs⟩:Seen)∈n.gc∧S=fun w=>cf w b i vs
theorem tK.le{du:cN}{dp:List (Nat×Nat)}{S:World→Prop}(h:tK n dp S)(hl:cN.le n du):tK du dp S:=
 h.imp (fun h=>h) fun⟨b,i,vs,h1,h2⟩=>⟨b,i,vs,hl.gc _ h1,h2⟩
def Reads(P:Program)(w0:World)(F0 Z0:ah)(n:cN)(dp:List (Nat×Nat))(o:Oper)(a:Act)(w:World)(au:az):Prop:=
 ∃v S du,(∀w',S w'→(execOp a.eval o).run P w'=.ok (.value v) w')∧S w∧c6 w0 F0 Z0 du au (a.put o.dst v) w∧cN.le n du∧tK du dp S
theorem Pure.reads{dp:List (Nat×Nat)}(h:Pure P o a w (c6 w0 F0 Z0 n au)):Reads P w0 F0 Z0 n dp o a w au:=by obtain⟨v,h1,h2⟩:=h;exact⟨v,fun _=>True,n,fun w' _=>h1 w',trivial,h2,.refl n,.inl fun _=>trivial⟩
theorem ahQ{t:Nat}{x:Operand}(b5:hL P E)(h:Inv w0 F0 Z0 n s a w ι Z)(af:∀k,o.dst=some k→k<n)(ho:o.op=.load t x)(hk:c0 E id o s K=some r):
  ∃au,K au=some r∧Reads P w0 F0 Z0 n (jq s o) o a w au:=by
 unfold c0 at hk;rw[ho]at hk;simp only at hk;have hx:=fk h x
 have hrun:∀{T:ad}{b i:Nat}{vs:List Value}{w':World},E.ty t=some T→a.eval x=.pointer (some (at_ b i))→cf w' b i vs→vs.length=T.size →
   (execOp a.eval o).run P w'=.ok (.value (dW T vs)) w':=by
  intro T b i vs w' ht he hc hl;unfold execOp;rw[ho];refine gw ?_;simp only[Instr.loadAt,Instr.sureAddr,he,run_bind,run_pure,L6 (b5.ty t T ht) hc hl]
 cases ht:E.ty t with
 |none=>rw[ht]at hk;simp at hk
 |some T=>
  rw[ht]at hk
  cases cS:bZ s x with
  |ptr p=>
   have n1:jq s o=[(p.id,lf s p.id)]:=by unfold jq;rw[ho];simp only[cS]
   rw[cS]at hk hx;simp only at hk
   cases c_:(mX s T.size p).bind (kE T)with
   |none=>rw[c_]at hk;simp at hk
   |some v=>
    rw[c_]at hk;obtain⟨cs,h1,h2⟩:=bb c_;simp only[aV]at hx;obtain⟨_,A,he,av⟩:=hx;obtain⟨b,i,vs,rfl,hc,cE,hl,cn,hF⟩:=Vw h h1 av;have Nj:vv w Z s ι ⟨jq s o,b,i,vs⟩:=by rw[n1];refine⟨fun d af=>?_,fun _=>⟨cE,fun j hj=>.inr ⟨_,List.mem_singleton.2 rfl,hF j (by simp only at hj;omega)⟩⟩⟩;rw[List.mem_singleton]at af;subst af;exact⟨fun hn=>by rw[hn]at cn;exact cn,.inr (Nat.le_refl _)⟩
    exact⟨_,hk,_,fun w'=>cf w' b i vs,_,fun w' hw=>hrun ht he hw hl,cE,⟨ι,Z,(h.Wj Nj).dst (qf h2 hc) af⟩,Wk n ⟨jq s o,_,_,_⟩,.inr ⟨b,i,vs,List.mem_cons_self,rfl⟩⟩
  |dA dp cs off=>
   have n1:jq s o=dp:=by unfold jq;rw[ho];simp only[cS]
   rw[cS]at hk hx;simp only at hk
   cases c_:(takeN off T.size cs).bind (kE T)with
   |none=>rw[c_]at hk;simp at hk
   |some v=>
    rw[c_]at hk;simp only at hk;cases dN:alive s dp
    ·rw[dN]at hk;simp at hk
    rw[dN]at hk;obtain⟨ds,h1,h2⟩:=bb c_;obtain⟨h3,rfl⟩:=qc h1;simp only[aV]at hx;obtain⟨cp,b,i,vs,he,hx⟩:=hx;obtain⟨hc,cE,hz⟩:=hx dN;have hlen:=hc.len;have Wl:cf w b (i+off) (part vs off T.size):=cE.part off T.size;have gx:(part vs off T.size).length=T.size:=by simp[part];omega
    have Nj:vv w Z s ι ⟨jq s o,b,i+off,part vs off T.size⟩:=by rw[n1];refine⟨cp,fun _=>⟨Wl,fun j hj=>?_⟩⟩;simp only at hj;rw[gx]at hj;have:=hz (off+j) (by omega);rwa[←Nat.add_assoc]at this
    exact⟨_,hk,_,fun w'=>cf w' b (i+off) (part vs off T.size),_,fun w' hw=>hrun ht he hw gx,Wl,⟨ι,Z,(h.Wj Nj).dst (qf h2 ((hc.drop _).take _)) af⟩,Wk n ⟨jq s o,_,_,_⟩,.inr ⟨b,i+off,part vs off T.size,List.mem_cons_self,rfl⟩⟩
  |_=>rw[cS]at hk;simp at hk
theorem ahR(bS:kq P E)(h:Inv w0 F0 Z0 n s a w ι Z)(af:∀k,o.dst=some k→k<n)(c_:vq E o=true)(hk:c0 E id o s K=some r):
  ∃au,K au=some r∧Reads P w0 F0 Z0 n (jq s o) o a w au:=by
 have fE:(∃au,K au=some r∧Pure P o a w (c6 w0 F0 Z0 n au))→∃au,K au=some r∧Reads P w0 F0 Z0 n (jq s o) o a w au:=fun⟨au,h1,h2⟩=>⟨au,h1,h2.reads⟩
 unfold vq at c_
 cases ho:o.op with
 |move x=>exact fE (Ei h af (.inl ho) hk)
 |assign x=>exact fE (Ei h af (.inr ho) hk)
 |pick c x y=>exact fE (UE h af ho hk)
 |load t x=>exact ahQ bS.ty h af ho hk
 |nilCheck x=>exact fE (UG h af ho hk)
 |binOp op t x y Em=>exact fE (UZ bS.ty bS.eq h af ho hk)
 |unOp op t x=>exact fE (UW h af ho hk)
 |convert st gH x=>
  rw[ho]at c_;simp only at c_
  cases h1:E.ty st with
  |none=>rw[h1]at c_;simp at c_
  |some S=>
   cases h2:E.ty gH with
   |none=>rw[h1,h2]at c_;cases S<;>simp at c_
   |some T=>rw[h1,h2]at c_;cases S<;>cases T<;>simp only at c_<;>first|(cases c_;done)|exact fE (agd bS.ty h af ho h1 h2 hk)
 |build t ps=>exact fE (Vd bS.ty h af ho hk)
 |makeFunc f first ma=>
  cases f with
  |func f=>exact fE (UL h af ho hk)
  |_=>unfold c0 at hk;rw[ho]at hk;simp at hk
 |slice t x lo hi fQ=>exact fE (UR bS.ty h af ho hk)
 |fieldAddr t x f=>exact fE (UI bS.ty h af ho hk)
 |field t x f=>exact fE (UJ bS.ty h af ho hk)
 |indexAddr t x i=>exact fE (UM bS.ty h af ho hk)
 |index t x i=>exact fE (UN bS.ty h af ho hk)
 |extract x i=>exact fE (UK h af ho hk)
 |call c=>
  rw[ho]at c_;simp only at c_
  cases hc:c.callee with
  |builtin b=>
   rw[hc]at c_;by_cases hb:b=.append
   ·subst hb;simp at c_
   ·by_cases hb2:b=.clear
    ·subst hb2;simp at c_
    ·exact fE (U9 bS.ty h af ho hc hb hb2 hk)
  |value f=>rw[hc]at c_;simp at c_
  |invoke x m=>rw[hc]at c_;simp at c_
 |_=>rw[ho]at c_;simp at c_
theorem ahS{d:Nat}{c:a_}(hst:s.t d=c)(x:Operand):bZ (s.set d c) x=bZ s x:=by
 cases x with
 |tmp t=>
  show bW s.t d c t=s.t t;by_cases af:d=t
  ·subst af;rw[cM,hst]
  ·rw[cX af]
 |_=>rfl
theorem Wm{d:Nat}{c:a_}(hst:s.t d=c):jq (s.set d c) o=jq s o:=by
 unfold jq;cases ho:o.op<;>simp only
 rename_i t x;rw[ahS hst];rfl
theorem ahT{ops:Array Oper}(bS:kq P E)(hn:E.n=n)(c_:vq E o=true)(h:Inv w0 F0 Z0 n s a w ι Z)(hk:vo E id ops.toList o s K=some r):
  ∃au v S du,K au=some r∧YieldsIf P ops S o v a∧S w∧c6 w0 F0 Z0 du au (a.put o.dst v) w∧cN.le n du∧tK du (jq s o) S:=by
 unfold vo at hk;cases vS:AI E o
 ·rw[vS]at hk;cases hk
 rw[vS]at hk;simp only[cond_true]at hk;have af:=Wa hn vS;have mA:∀{s1:az},Region.wanted o (yielded ops a.tmps)=true→jq s1 o=jq s o→Inv w0 F0 Z0 n s1 a w ι Z→c0 E id o s1 K=some r→∃au v S du,K au=some r∧YieldsIf P ops S o v a∧S w∧c6 w0 F0 Z0 du au (a.put o.dst v) w∧cN.le n du∧tK du (jq s o) S:=by intro s1 hw he h1 hk1;obtain⟨au,h2,v,S,du,h3,h4,a6,bj,bL⟩:=ahR bS h1 af c_ hk1;exact⟨au,v,S,du,h2,.inl ⟨hw,h3⟩,h4,a6,bj,he▸bL⟩
 have bT:∀{s1:az},Region.wanted o (yielded ops a.tmps)=false→Inv w0 F0 Z0 n s1 a w ι Z→K (s1.dst o.dst .gone)=some r→∃au v S du,K au=some r∧YieldsIf P ops S o v a∧S w∧c6 w0 F0 Z0 du au (a.put o.dst v) w∧cN.le n du∧tK du (jq s o) S:=fun hw h1 hk1=>⟨_,undef,fun _=>True,n,hk1,.inr ⟨hw,rfl⟩,trivial,Wc h1 af,.refl n,.inl fun _=>trivial⟩
 unfold guardOf at hk
 cases aB:o.guard with
 |none=>rw[aB]at hk;simp only at hk;exact mA (by simp[Region.wanted,aB]) rfl h hk
 |some Nf=>
  obtain⟨j,wt⟩:=Nf;rw[aB]at hk;simp only at hk
  cases hj:(ops.toList[j]?).bind (·.dst)with
  |none=>rw[hj]at hk;simp at hk
  |some d=>
   rw[hj]at hk;simp only at hk
   cases hst:s.t d with
   |aU c=>
    cases c with
    |bool b=>
     rw[hst]at hk;simp only at hk;obtain⟨h1,h2⟩:=h.Wb hst
     have aR:yielded ops a.tmps j=some b:=by
      unfold yielded;rw[Array.getElem?_toList]at hj;rw[hj];simp only[al]
      have bQ:d<a.tmps.size:=by
       rcases Nat.lt_or_ge d a.tmps.size with h|h
       ·exact h
       ·rw[Array.getD_eq_getD_getElem?,Array.getElem?_eq_none h]at h2;simp[undef]at h2
      rw[Array.getD_eq_getD_getElem?,Array.getElem?_eq_getElem bQ]at h2;rw[Array.getElem?_eq_getElem bQ];simp only[Option.getD_some]at h2;rw[h2]
     have hw:Region.wanted o (yielded ops a.tmps)=(b==wt):=by simp only[Region.wanted,aB,aR];cases b<;>cases wt<;>rfl
     cases b<;>cases wt<;>simp only[cond_true,cond_false]at hk
     ·exact mA hw (Wm hst) h1 hk
     ·exact bT hw h1 hk
     ·exact bT hw h1 hk
     ·exact mA hw (Wm hst) h1 hk
    |_=>rw[hst]at hk;simp at hk
   |gone=>
    rw[hst]at hk;simp only at hk;have h2:=h.tmps d;rw[hst]at h2;simp only[aV]at h2
    have aR:yielded ops a.tmps j=none:=by
     unfold yielded;rw[Array.getElem?_toList]at hj;rw[hj];simp only[al];rw[Array.getD_eq_getD_getElem?]at h2
     cases i_:a.tmps[d]? with
     |none=>rfl
     |some v=>rw[i_]at h2;simp only[Option.getD_some]at h2;subst h2;rfl
    have hw:Region.wanted o (yielded ops a.tmps)=false:=by simp only[Region.wanted,aB,aR];cases wt<;>rfl
    exact bT hw h hk
   |_=>rw[hst]at hk;simp at hk
theorem ahU{a b:Option bC}(h:both a b=some r):a=some r∧b=some r:=by
 unfold both at h;split at h
 ·rename_i he;subst he;exact⟨h,h⟩
 ·cases h
theorem Wn:∀{l:List (Option bC)},Eb l=some r→∀x∈l,x=some r
 | [x],h,y,aR=>by rw[List.mem_singleton]at aR;rw[aR];exact h
 |x::z::l,h,y,aR=>by
  simp only[Eb]at h;obtain⟨h1,h2⟩:=ahU h;rcases List.mem_cons.1 aR with rfl|aR
  ·exact h1
  ·exact Wn (l:=z::l) h2 y aR
def y1(n:cN)(p:List (Nat×List (Nat×Nat)))(q:gi):Prop:=∀x∈q,∃dp,(x.1,dp)∈p∧tK n dp x.2
theorem y1.le{du:cN}{p:List (Nat×List (Nat×Nat))}{q:gi}(h:y1 n p q)(hl:cN.le n du):y1 du p q:=
 fun x hx=>let ⟨dp,h1,h2⟩:=h x hx;⟨dp,h1,h2.le hl⟩
theorem Nk:∀{p:List (Nat×List (Nat×Nat))},vr s p=true→∀x∈p,alive s x.2=true
 | [],_,_,hx=>by simp at hx
 |y::p,h,x,hx=>by
  unfold vr at h;cases ha:alive s y.2
  ·rw[ha]at h;cases h
  ·rw[ha]at h;rcases List.mem_cons.1 hx with rfl|hx
   ·exact ha
   ·exact Nk h x hx
theorem ahV{bH:Nat}{ops:Array Oper}(bS:kq P E){m:Nat}{listed:Array Bool}{p:List (Nat×List (Nat×Nat))}{q:gi}{du:cN}{rs:List Nat}(hn:E.n=du)(hle:cN.le n du)(hr:Region.ready .any ops listed=rs)
  (h:Inv w0 F0 Z0 du s a w ι Z) (av:y1 du p q) (hk:LK E bH ops listed p rs s K=some r):pk P ops (fun e a w=>e=.normal∧hR w0 F0 Z0 n K r a w) (m+3+1) listed q a w:=by
 have E8:∀{l:List Nat}{i:Nat},one l=some i→l=[i]:=by
  intro l i h
  match l,h with
  | [j],h=>rw[aX (show some j=some i from h)]
 unfold LK at hk;obtain⟨i,h0,hk⟩:=bb hk;obtain⟨i1,h1,hk⟩:=bb hk;obtain⟨i2,h2,hk⟩:=bb hk;obtain⟨i3,h3,hk⟩:=bb hk;have h0:=hr.trans (E8 h0);have h1:=E8 h1;have h2:=E8 h2;have h3:=E8 h3;generalize hl1:listed.setIfInBounds i true=dI at hk h1 h2 h3;generalize ei:dI.setIfInBounds i1 true=eP at hk h2 h3;generalize Nh:eP.setIfInBounds i2 true=o9 at hk h3;generalize ahW:o9.setIfInBounds i3 true=qe at hk;cases hb:((Region.ready .any ops qe).isEmpty&&((p.filter fun p=> !waits ops i p.1).filter fun p=> !waits ops i1 p.1).isEmpty)
 ·rw[hb]at hk;cases hk
 rw[hb]at hk;simp only[cond_true]at hk;simp only[Bool.and_eq_true,List.isEmpty_iff]at hb;obtain⟨h4,ahX⟩:=hb;obtain⟨o,ho,hk⟩:=bb hk;obtain⟨dS,ni,hk⟩:=bb hk;obtain⟨e4,kK,hk⟩:=bb hk;obtain⟨e',rJ,hk⟩:=bb hk;obtain⟨g0,g1,g2,g3,m4⟩:=ahH (Q:=fun e a w=>e=.normal∧hR w0 F0 Z0 n K r a w) bS hn h hk
 have step:∀{fuel j:Nat}{oj:Oper}{l:Array Bool}{q:gi}{a:Act}{w:World},Region.ready .any ops l=[j]→ops[j]?=some oj→oj.guard=none →
   oj.wp P a w (fun b8 w'=>(q.after ops j).ok w'∧pk P ops (fun e a w=>e=.normal∧hR w0 F0 Z0 n K r a w) fuel (l.setIfInBounds j true) (q.after ops j) b8 w') (fun e a w=>e=.normal∧hR w0 F0 Z0 n K r a w) →
   pk P ops (fun e a w=>e=.normal∧hR w0 F0 Z0 n K r a w) (fuel+1) l q a w:=by
  intro fuel j oj l q a w hr hj aB hw;refine⟨fun h=>(by rw[hr]at h;cases h),fun k hk=>?_⟩;rw[hr]at hk;obtain rfl:=List.mem_singleton.1 hk;unfold wpOp;simp only[hj];rw[if_pos (by simp[Region.wanted,aB])];exact .inl hw
 have jy:gi.after ops i1 (gi.after ops i q)=[]:=by
  refine List.eq_nil_iff_forall_not_mem.2 fun x hx=>?_
  obtain⟨hx,hx1⟩:=List.mem_filter.1 hx;obtain⟨hx,hx0⟩:=List.mem_filter.1 hx;obtain⟨dp,g1,_⟩:=av x hx;have:(x.1,dp)∈((p.filter fun p=> !waits ops i p.1).filter fun p=> !waits ops i1 p.1):=List.mem_filter.2 ⟨List.mem_filter.2 ⟨g1,hx0⟩,hx1⟩;rw[ahX]at this;cases this
 have nil:∀(j:Nat),gi.after ops j []=[]:=fun _=>rfl
 refine step h0 ho g0 (Oper.wp_mono ?_ m4)
 rintro a1 oh ⟨⟨o4,j7,bp,Z',k2⟩,m4⟩
 refine⟨?_,?_⟩
 ·intro x hx;obtain⟨hx1,hx2⟩:=List.mem_filter.1 hx;obtain⟨dp,f1,f2⟩:=av x hx1;rcases f2 with f2|⟨b,j,vs,f2,f3⟩
  ·exact f2 oh
  ·rw[f3];exact((k2.seen _ f2).2 (Nk j7 _ (List.mem_filter.2 ⟨f1,hx2⟩))).1
 rw[hl1];refine step h1 ni g1 (Oper.wp_mono ?_ m4);intro a2 ck m4;rw[jy,ei];refine⟨fun x hx=>(by cases hx),step h2 kK g2 (Oper.wp_mono ?_ m4)⟩;intro a3 qt m4;rw[nil,Nh];refine⟨fun x hx=>(by cases hx),step h3 rJ g3 (Oper.wp_mono ?_ m4)⟩
 rintro a4 ahY ⟨au,e1,VW,ahZ,e2⟩
 rw[nil,ahW];refine⟨fun x hx=>(by cases hx),?_⟩;have hfin:Exit.normal=.normal∧hR w0 F0 Z0 n K r a4 ahY:=⟨rfl,au,e1,VW,ahZ,e2.forget hle⟩
 cases m with
 |zero=>exact⟨h4,hfin⟩
 |succ m=>exact⟨fun _=>hfin,fun j hj=>(by rw[h4]at hj;cases hj)⟩
theorem Nl{bH:Nat}{ops:Array Oper}(bS:kq P E)(hs:Region.noSelect ops=true):∀(m:Nat) (listed:Array Bool) (p:List (Nat×List (Nat×Nat))) (q:gi) (du:cN) (s:az) (a:Act) (w:World),
  E.n=du→cN.le n du→vt E bH ops m listed p s K=some r→c6 w0 F0 Z0 du s a w→y1 du p q→q.ok w →
  pk P ops (fun e a w=>e=.normal∧hR w0 F0 Z0 n K r a w) m listed q a w
 |0,listed,p,q,du,s,a,w,hn,hle,hk,⟨ι,Z,h⟩,av,hq=>by
  unfold vt at hk
  cases hr:Region.ready .any ops listed with
  |nil=>rw[hr]at hk;exact⟨hr,rfl,s,hk,ι,Z,h.forget hle⟩
  |cons=>rw[hr]at hk;cases hk
 |m+1,listed,p,q,du,s,a,w,hn,hle,hk,⟨ι,Z,h⟩,av,hq=>by
  unfold vt at hk
  cases hr:Region.ready .any ops listed with
  |nil=>rw[hr]at hk;exact⟨fun _=>⟨rfl,s,hk,ι,Z,h.forget hle⟩,fun j hj=>by rw[hr]at hj;simp at hj⟩
  |cons i0 Wo=>
   rw[hr]at hk;simp only at hk
   cases hf:(i0::Wo).find? fun i=>LH E ops i&&Region.free .any ops listed i with
   |some i=>
    rw[hf]at hk;simp only at hk;have h3:=List.find?_some hf;simp only[Bool.and_eq_true]at h3
    cases ho:ops[i]? with
    |none=>rw[ho]at hk;cases hk
    |some o=>
     rw[ho]at hk;simp only at hk;have c_:vq E o=true:=by have:=h3.1;unfold LH at this;rw[ho]at this;exact this
     obtain⟨au,v,S,kH,h1,h2,g3,h4,a6,bj⟩:=ahT bS hn c_ h hk;refine ahL ho (Region.noSelect_spec hs) (fun c a w hh=>by simp at hh) m listed q a w (Region.free_spec ho h3.2) (by rw[hr];exact List.mem_of_find?_eq_some hf) h2 g3 hq ?_;refine Nl bS hs m _ _ _ kH au _ w (hn.trans a6.n.symm) (hle.trans a6) h1 h4 ?_ ?_
     ·intro x hx;rcases List.mem_cons.1 hx with rfl|hx
      ·exact⟨_,List.mem_cons_self,bj⟩
      ·obtain⟨dp,g1,g2⟩:=av x hx;exact⟨dp,List.mem_cons_of_mem _ g1,g2.le a6⟩
     ·intro x hx;rcases List.mem_cons.1 hx with rfl|hx
      ·exact g3
      ·exact hq x hx
   |none=>
    rw[hf]at hk;simp only at hk;cases hA:(Uj s ops (i0::Wo)&&Nat.ble 3 m)
    case true=>
     rw[hA]at hk;simp only[cond_true]at hk;simp only[Bool.and_eq_true]at hA;obtain⟨m',rfl⟩:∃m',m=m'+3:=⟨m-3,by have:=Nat.le_of_ble_eq_true hA.2;omega⟩
     exact ahV bS hn hle hr h av hk
    rw[hA]at hk;simp only[cond_false]at hk;refine⟨fun h0=>(by rw[hr]at h0;cases h0),fun j hj=>?_⟩;rw[hr]at hj;have hj':=Wn hk _ (List.mem_map.2 ⟨j,hj,rfl⟩)
    cases ho:ops[j]? with
    |none=>rw[ho]at hj';cases hj'
    |some o=>
     rw[ho]at hj';simp only at hj';cases c_:vq E o
     case true=>rw[c_]at hj';cases hj'
     rw[c_]at hj';simp only[cond_false]at hj';have pj:=Wd (Q:=fun e a w=>e=.normal∧hR w0 F0 Z0 n K r a w) bS hn h hj'
     have rM:∀b8 w',hR w0 F0 Z0 du (fun au=>cond (vr au (p.filter fun p=> !waits ops j p.1)) (vt E bH ops m (listed.setIfInBounds j true) (p.filter fun p=> !waits ops j p.1) au K) none) r b8 w' →
       (q.after ops j).ok w'∧pk P ops (fun e a w=>e=.normal∧hR w0 F0 Z0 n K r a w) m (listed.setIfInBounds j true) (q.after ops j) b8 w':=by
      rintro b8 w' ⟨au,k1,bp,Z',k2⟩
      dsimp only at k1;cases dN:vr au (p.filter fun p=> !waits ops j p.1)
      ·rw[dN]at k1;cases k1
      rw[dN]at k1;simp only[cond_true]at k1;have E9:y1 du (p.filter fun p=> !waits ops j p.1) (q.after ops j):=by intro x hx;obtain⟨hx1,hx2⟩:=List.mem_filter.1 hx;obtain⟨dp,g1,g2⟩:=av x hx1;exact⟨dp,List.mem_filter.2 ⟨g1,hx2⟩,g2⟩
      have cp:(q.after ops j).ok w':=by
       intro x hx;obtain⟨dp,g1,g2⟩:=E9 x hx;rcases g2 with g2|⟨b,i,vs,g2,g3⟩
       ·exact g2 w'
       ·rw[g3];exact((k2.seen _ g2).2 (Nk dN _ g1)).1
      exact⟨cp,Nl bS hs m _ _ _ du au b8 w' hn hle k1 ⟨bp,Z',k2⟩ E9 cp⟩
     unfold wpOp;simp only[ho];split
     ·rename_i hw;rw[if_pos hw]at pj;exact .inl (Oper.wp_mono rM pj)
     ·rename_i hw;rw[if_neg hw]at pj;exact rM _ _ pj
theorem ah0{bH:Nat}{ops:Array Oper}(bS:kq P E)(hn:E.n=n)(hk:LL E bH ops s K=some r)(hs:c6 w0 F0 Z0 n s a w)(b:Frame)(k:List Item)(cs:List Frame):
  ∃b8 w',hR w0 F0 Z0 n K r b8 w'∧Steps P (lone (b.at a (.code (.region bH ops true)::k)) cs w) (lone (b.at b8 k) cs w'):=by
 unfold LL at hk;cases yZ:Region.noSelect ops
 ·rw[yZ]at hk;cases hk
 rw[yZ]at hk;simp only[cond_true]at hk;obtain⟨ι,Z,h⟩:=hs;have h1:=Nl (n:=n) bS yZ ops.size _ [] [] n s a { w with drawn:=w.drawn+1 } hn (.refl n) hk ⟨ι,Z,h.drew _⟩ (fun x hx=>by simp at hx) (fun x hx=>by simp at hx);obtain⟨e,b8,w',⟨rfl,hl⟩,harr⟩:=(wp_region_any (id:=bH) bS.mix (We _ _ _ _ _ h1)) b k cs;exact⟨b8,w',hl,harr⟩
end
end Go.LM
namespace Go.LM
section
variable{P:Program}{w0:World}{F0 Z0:ah}{n:cN}{E:Env}{bC:Type}{r:bC}
def mB:Code→List Item→List (Nat×List Item)
 |.region bH ops iF,k=>[(bH,.code (.region bH ops iF)::k)]
 |.seq a b,k=>mB a (.code b::k)++mB b k
 |.cond _ x y,k=>mB x k++mB y k
 |.block id c,k=>mB c (.inBlock id::k)
 |.loop c,k=>mB c (.inLoop c::k)
 |_,_=>[]
def hp:List Item→List (Nat×List Item)
 | []=>[]
 |.code c::k=>mB c k++hp k
 |.inLoop c::k=>mB c (.inLoop c::k)++hp k
 |_::k=>hp k
theorem Wp{id:Nat}:∀{k k':List Item},exitTo id k=some k'→∀p,p∈hp k'→p∈hp k
 | [],_,h,_,_=>by simp[exitTo]at h
 |x::k,k',h,p,av=>by
  have key:(∃i,x=.inBlock i∧k'=k)∨exitTo id k=some k':=by
   cases x with
   |inBlock i=>
    simp only[exitTo]at h;by_cases hi:(i==id)=true
    ·rw[if_pos hi]at h;exact .inl ⟨i,rfl,(aX h).symm⟩
    ·rw[if_neg hi]at h;exact .inr h
   |_=>exact .inr h
  rcases key with⟨i,rfl,rfl⟩|hk
  ·exact av
  ·have:=Wp hk p av;cases x<;>simp only[hp]<;>first|exact this|exact List.mem_append_right _ this
def Wq(H:Hand bC)(cuts:Nat→Bool)(r:bC)(todo:List Item)(s:az):Prop:=
 (∃bH ops iF k,todo=.code (.region bH ops iF)::k∧cuts bH=true∧H.cut bH todo s=some r)∨((todo=[]∨∃k,todo=.code .ret::k)∧H.fin s=some r)
theorem Wr{cuts:Nat→Bool}{H:Hand bC}(bS:kq P E)(hn:E.n=n):∀(fuel:Nat) (first:Bool) (todo:List Item) (s:az) (a:Act) (w:World),
  kG E cuts H fuel first todo s=some r→c6 w0 F0 Z0 n s a w→∀(b:Frame) (cs:List Frame),
  ∃qu au b8 w',c6 w0 F0 Z0 n au b8 w'∧Wq H cuts r qu au∧(∀p,p∈hp qu→p∈hp todo)∧Steps P (lone (b.at a todo) cs w) (lone (b.at b8 qu) cs w')
 |0,_,_,_,_,_,hk,_=>by simp[kG]at hk
 |fuel+1,first,todo,s,a,w,hk,hs=>by
  intro b cs;have ih:=fun first todo s a w hk hs=>Wr (H:=H) (cuts:=cuts) bS hn fuel first todo s a w hk hs b cs
  have one:∀{todo1:List Item}{first:Bool},(∀p,p∈hp todo1→p∈hp todo)→step P (lone (b.at a todo) cs w)=.next (lone (b.at a todo1) cs w)→kG E cuts H fuel first todo1 s=some r →
    ∃qu au b8 w',c6 w0 F0 Z0 n au b8 w'∧Wq H cuts r qu au∧(∀p,p∈hp qu→p∈hp todo)∧Steps P (lone (b.at a todo) cs w) (lone (b.at b8 qu) cs w'):=by
   intro todo1 first hcs hst hk1
   obtain⟨cQ,au,b8,w',h1,h2,h3,h4⟩:=ih first todo1 s a w hk1 hs
   exact⟨cQ,au,b8,w',h1,h2,fun p av=>hcs p (h3 p av),.head hst h4⟩
  unfold kG at hk
  match todo,hk with
  | [],hk=>exact⟨[],s,a,w,hs,.inr ⟨.inl rfl,hk⟩,fun _ h=>h,.refl _ _⟩
  |.inBlock _::k,hk=>exact one (todo1:=k) (fun _ h=>h) step_inBlock hk
  |.inLoop c::k,hk=>exact one (fun p av=>by simp only[hp,List.mem_append]at av⊢;exact av.elim .inl fun h=>h) step_inLoop hk
  |.code .ret::k,hk=>exact⟨_,s,a,w,hs,.inr ⟨.inr ⟨k,rfl⟩,hk⟩,fun _ h=>h,.refl _ _⟩
  |.code .skip::k,hk=>exact one (todo1:=k) (fun _ h=>h) step_skip hk
  |.code (.seq x y)::k,hk=>exact one (fun p av=>by simp only[hp,mB,List.mem_append]at av⊢;exact or_assoc.2 av) step_seq hk
  |.code (.block id c)::k,hk=>exact one (fun p av=>by simpa only[hp,mB]using av) step_block hk
  |.code (.loop c)::k,hk=>exact one (fun p av=>by simp only[hp,mB,List.mem_append]at av⊢;exact av.elim .inl fun h=>h) step_loop hk
  |.code (.exit id)::k,hk=>
   simp only at hk
   cases he:exitTo id k with
   |none=>rw[he]at hk;simp at hk
   |some k'=>rw[he]at hk;exact one (Wp he) (step_exit he) hk
  |.code (.cond c x y)::k,hk=>
   simp only at hk;obtain⟨ι,Z,h⟩:=hs;have hc:=fk h c
   cases hcv:bZ s c with
   |aU kI=>
    cases kI with
    |bool t=>
     rw[hcv]at hk hc;simp only[aV,cz]at hc;have hst:=step_cond (P:=P) (b:=b) (a:=a) (k:=k) (cs:=cs) (w:=w) (x:=x) (y:=y) hc
     cases t with
     |true=>exact one (fun p av=>by simp only[hp,mB,List.mem_append]at av⊢;exact av.elim (fun h=>.inl (.inl h)) .inr) hst hk
     |false=>exact one (fun p av=>by simp only[hp,mB,List.mem_append]at av⊢;exact av.elim (fun h=>.inl (.inr h)) .inr) hst hk
    |_=>rw[hcv]at hk;simp at hk
   |_=>rw[hcv]at hk;simp at hk
  |.code (.region bH ops iF)::k,hk=>
   simp only at hk;cases jz:(cuts bH && !first)
   ·rw[jz]at hk;simp only[cond_false]at hk
    have ah1:∃b8 w',hR w0 F0 Z0 n (fun au=>kG E cuts H fuel false k au) r b8 w'∧Steps P (lone (b.at a (.code (.region bH ops iF)::k)) cs w) (lone (b.at b8 k) cs w'):=by
     cases iF with
     |false=>exact ahK bS hn hk hs b k cs
     |true=>exact ah0 bS hn hk hs b k cs
    obtain⟨a1,oh,⟨s1,h1,h2⟩,hst⟩:=ah1;obtain⟨cQ,au,b8,w',c2,eb,gY,hJ⟩:=ih false k s1 a1 oh h1 h2;exact⟨cQ,au,b8,w',c2,eb,fun p av=>by simp only[hp,List.mem_append];exact .inr (gY p av),hst.trans hJ⟩
   ·rw[jz]at hk;simp only[cond_true]at hk;simp only[Bool.and_eq_true]at jz;exact⟨_,s,a,w,hs,.inl ⟨bH,ops,iF,k,rfl,jz.1,hk⟩,fun _ h=>h,.refl _ _⟩
  |.code (.goto _)::_,hk|.code (.label _)::_,hk|.code (.scope _)::_,hk|.inRegion _ _::_,hk|.inScope _::_,hk=>simp at hk
end
end Go.LM
namespace Go.LM
def lS(key:Nat):(ps:List bE)→(bE.ins ps).D→Nat→az→Option (List a_×az×Nat)
 | [],_,j,s=>some ([],s,j)
 |.fn _ _::ps,x,j,s=>(lS key ps x j s).bind fun q=>some (.bB::q.1,q.2)
 |.val t m::ps,x,j,s=>(t.ie m [] x.1 s j).bind fun r=>(kE t r.1).bind fun v=>(lS key ps x.2 r.2.2 r.2.1).bind fun q=>some (v::q.1,q.2)
 |.ic t::ps,x,j,s=>(t.ie .R [] x.1 s j).bind fun r=>(kE t r.1).bind fun v=>(lS key ps x.2 r.2.2 r.2.1).bind fun q=>some (v::q.1,q.2)
 |.hI t m::ps,x,j,s=>(t.ie m [] x.1 s j).bind fun r=>(kE t r.1).bind fun v=>(lS key ps x.2 r.2.2 r.2.1).bind fun q=>some (v::q.1,q.2)
 |.ref t::ps,x,j,s=>(lS key ps x.2 j s).bind fun q=>some (.dA [] (t.cells [] none x.1) 0::q.1,q.2)
 |.mut t m _::ps,x,j,s=>(t.ie m [] x.1 s j).bind fun r=>(mkObj r.2.1 r.2.2 (.var 0 r.1)).bind fun s1=>(lS key ps x.2 (r.2.2+1) s1).bind fun q=>some (.ptr ⟨r.2.2,none,0⟩::q.1,q.2)
section
variable{P:Program}{w0:World}{F0 Z0:ah}{n:cN}{s au:az}{a b8:Act}{w w':World}{ι bp:Nat→bI}{Z Z':ah}
theorem Inv.start{F:ah}(hZ:∀b o,Z b o→b<w.heap.size){m:Nat}(ha:a.tmps.size=m)(af:a.defers=[]):Inv w F Z ⟨m,[],[]⟩ ⟨fun _=>.bB,fun _=>.none,[]⟩ a w ι Z:=
 ⟨Ext.refl _ _,fun _ _ h=>.inl h,fun _ _ h=>h,hZ,fun _=>trivial,fun _ h=>h.elim,fun _ _ h=>h.elim,fun _ h=>h.elim,fun _=>by simp only[aV],ha,by simp only[a8],fun _ h=>by simp at h,af⟩
def ah2(w0:World)(F0 Z0:ah)(n:cN)(s:az)(a:Act)(w:World)(ι:Nat→bI)(Z:ah)(us:List Value)(F:ah)(q:List a_×az×Nat):Prop:=
 ∃ bp,Inv w0 F0 Z0 n q.2.1 a w bp Z∧g' false w Z s ι w Z q.2.1 bp (fun _ _=>True)∧a8 w Z q.2.1 bp q.1 us∧∀X,bM w0 F0 s w ι Z X→ah.apart X F→bM w0 F0 q.2.1 w bp Z X
theorem ah3:g' false w Z s ι w Z s ι (fun _ _=>True):=
 ⟨fun _ _ h=>h,fun _ _ h=>h,fun _ _ h=>h,fun _ _ _ h=>⟨h,rfl⟩,fun h=>by simp at h,ch.refl _ _,ch.refl _ _,fun _ _ h=>h,fun _ _ _ h=>h⟩
theorem pn:Z.or (dz ι [])=Z:=by
 funext b o
 apply propext;constructor
 ·rintro (h|⟨d,af,_⟩)
  ·exact h
  ·simp at af
 ·exact .inl
theorem vT{key:Nat}:∀(ps:List bE) (x:(bE.ins ps).D) (us:List Value) (j:Nat) (s:az) (ι:Nat→bI) (F:ah) (q:List a_×az×Nat),lS key ps x j s=some q→Inv w0 F0 Z0 n s a w ι Z →
  gP w Z key ps x us F→bM w0 F0 s w ι Z F→ah2 w0 F0 Z0 n s a w ι Z us F q
 | [],x,us,j,s,ι,F,q,he,h,hA,hF=>by simp only[lS,Option.some.injEq]at he;subst he;exact⟨ι,h,ah3,hA,fun X hX _=>hX⟩
 |.fn mW p7::ps,x,us,j,s,ι,F,q,he,h,hA,hF=>by simp only[lS]at he;obtain⟨p,av,he⟩:=bb he;obtain rfl:=aX he;obtain⟨auX,auY,aY,rfl,hsz,h4⟩:=hA;obtain⟨dL,i1,held,hr,og⟩:=vT ps x aY j s ι F p av h h4 hF;refine⟨dL,i1,held,?_,og⟩;simp only[a8];exact⟨_,aY,rfl,by simp only[aV],hr⟩
 |.ref t::ps,x,us,j,s,ι,F,q,he,h,hA,hF=>by simp only[lS]at he;obtain⟨p,av,he⟩:=bb he;obtain rfl:=aX he;obtain⟨b,o,vs,aY,rfl,h1,h2,h3,h4⟩:=hA;obtain⟨dL,i1,held,hr,og⟩:=vT ps x.2 aY j s ι F p av h h4 hF;refine⟨dL,i1,held,?_,og⟩;simp only[a8];refine⟨_,aY,rfl,held.aG _ _ ?_,hr⟩;simp only[aV];have hl:=(ad.ar.len t _ h2).1;have hc:bO w Z s ι (t.cells [] none x.1) vs:=ad.rr t [] none (by simp) (fun _=>by rw[pn];exact h2) ⟨_,_,_,h2⟩ .none;refine⟨by simp,b,o,vs,by simp,fun _=>⟨hc,h1,fun k hk=>.inl (h3 k (by rw[←hc.len,hl]at hk;exact hk))⟩⟩
 |.val t m::ps,x,us,j,s,ι,F,q,he,h,hA,hF=>by simp only[lS]at he;obtain⟨r,hr,he⟩:=bb he;obtain⟨v,hv,he⟩:=bb he;obtain⟨p,av,he⟩:=bb he;obtain rfl:=aX he;obtain⟨vs,aY,G,H,rfl,h1,h2,h3,h4,a6⟩:=hA;obtain⟨dL,i1,jF,c1,gg⟩:=ad.o7 t m [] x.1 s ι j r vs G hr h (by rw[pn];exact h1) (hF.sub h4) (by rintro b o _ ⟨d,af,_⟩;simp at af) (by simp);obtain⟨eU,i2,held,pq,og⟩:=vT ps x.2 aY _ _ dL H p av i1 h2 (gg H (hF.sub a6) fun b o x y=>h3 b o y x);refine⟨eU,i2,(jF.held _).trans held,?_,fun X hX gh=>og X (gg X hX fun b o x y=>gh b o x (h4 b o y)) fun b o x y=>gh b o x (a6 b o y)⟩;simp only[a8];exact⟨_,aY,rfl,held.aG _ _ (qf hv c1),pq⟩
 |.ic t::ps,x,us,j,s,ι,F,q,he,h,hA,hF=>by simp only[lS]at he;obtain⟨r,hr,he⟩:=bb he;obtain⟨v,hv,he⟩:=bb he;obtain⟨p,av,he⟩:=bb he;obtain rfl:=aX he;obtain⟨vs,aY,G,H,rfl,h1,h2,h3,h4,a6⟩:=hA;obtain⟨dL,i1,jF,c1,gg⟩:=ad.o7 t .R [] x.1 s ι j r vs G hr h (by rw[pn];exact h1) (hF.sub h4) (by rintro b o _ ⟨d,af,_⟩;simp at af) (by simp);obtain⟨eU,i2,held,pq,og⟩:=vT ps x.2 aY _ _ dL H p av i1 h2 (gg H (hF.sub a6) fun b o x y=>h3 b o y x);refine⟨eU,i2,(jF.held _).trans held,?_,fun X hX gh=>og X (gg X hX fun b o x y=>gh b o x (h4 b o y)) fun b o x y=>gh b o x (a6 b o y)⟩;simp only[a8];exact⟨_,aY,rfl,held.aG _ _ (qf hv c1),pq⟩
 |.hI t m::ps,x,us,j,s,ι,F,q,he,h,hA,hF=>by simp only[lS]at he;obtain⟨r,hr,he⟩:=bb he;obtain⟨v,hv,he⟩:=bb he;obtain⟨p,av,he⟩:=bb he;obtain rfl:=aX he;obtain⟨vs,aY,G,H,rfl,h1,h2,h3,h4,a6⟩:=hA;obtain⟨dL,i1,jF,c1,gg⟩:=ad.o7 t m [] x.1 s ι j r vs G hr h (by rw[pn];exact h1) (hF.sub h4) (by rintro b o _ ⟨d,af,_⟩;simp at af) (by simp);obtain⟨eU,i2,held,pq,og⟩:=vT ps x.2 aY _ _ dL H p av i1 h2 (gg H (hF.sub a6) fun b o x y=>h3 b o y x);refine⟨eU,i2,(jF.held _).trans held,?_,fun X hX gh=>og X (gg X hX fun b o x y=>gh b o x (h4 b o y)) fun b o x y=>gh b o x (a6 b o y)⟩;simp only[a8];exact⟨_,aY,rfl,held.aG _ _ (qf hv c1),pq⟩
 |.mut t m m'::ps,x,us,j,s,ι,F,q,he,h,hA,hF=>by
  simp only[lS]at he;obtain⟨r,hr,he⟩:=bb he;obtain⟨s1,hm,he⟩:=bb he;obtain⟨p,av,he⟩:=bb he;obtain rfl:=aX he;obtain⟨cm,rfl⟩:=rz hm;obtain⟨b,o,vs,aY,G,H,rfl,h1,hwr,h2,h3,h4,a6,bj,bL⟩:=hA;have hG:ah.sub G F:=fun b o x=>bj b o (.inl x)
  have fa:ah.sub (ah.run b o t.size) F:=fun b o x=>bj b o (.inr x)
  obtain⟨dL,i1,jF,c1,gg⟩:=ad.o7 t m [] x.1 s ι j r vs G hr h (by rw[pn];exact h2) (hF.sub hG) (by rintro b o _ ⟨d,af,_⟩;simp at af) (by simp);have hl:=(ad.ar.len t _ h2).1;have hcl:=c1.len;have kM:=gg _ (hF.sub fa) (fun b o x y=>a6 b o y x);obtain⟨i2,oc,nd,od⟩:=MI i1 (id:=r.2.2) (o:=.var 0 r.1) (i:=⟨some (at_ b o),0,ah.run b o t.size⟩) (by rw[cm];exact fun h=>h) (fun o'=>by simp) (by rw[cm];exact .made _ _ _) (fun hm=>by refine⟨at_ b o,vs,rfl,rfl,c1.move hm,h1,fun k hk=>⟨hwr k (by omega),rfl,by simp[at_],by simp[at_];omega⟩⟩) kM;have yL:=(jF.held (w:=w) (Z:=Z) (fun _ _=>True)).trans oc;have A9:∀X,bM w0 F0 s w ι Z X→ah.apart X (G.or (ah.run b o t.size))→bM w0 F0 (r.2.1.bV r.2.2 (.var 0 r.1)) w (bW dL r.2.2 ⟨some (at_ b o),0,ah.run b o t.size⟩) Z X:=fun X hX gh=>nd X (gg X hX fun b o x y=>gh b o x (.inl y)) fun b o x y=>gh b o x (.inr y)
  obtain⟨MP,i3,Ws,pq,ah4⟩:=vT ps x.2 aY _ _ _ H p av i2 h3 (A9 H (hF.sub bL) fun b o x y=>h4 b o y x);refine⟨MP,i3,yL.trans Ws,?_,fun X hX gh=>ah4 X (A9 X hX fun b o x y=>gh b o x (bj b o y)) fun b o x y=>gh b o x (bL b o y)⟩;simp only[a8];refine⟨_,aY,rfl,Ws.aG _ _ ?_,pq⟩;simp only[aV];refine⟨by show bW r.2.1.o r.2.2 _ r.2.2≠_;rw[cM];simp,_,rfl,rfl,?_⟩;show match (bW r.2.1.o r.2.2 _ r.2.2).core with|.var _ _=>_|.row .. => _|_=>_
  rw[cM];exact⟨rfl,at_ b o,by rw[cM],by simp[at_]⟩
end
end Go.LM
namespace Go.LM
def Bg(t:ad)(m:bg)(v:a_)(s:az):Option (t.D×az):=
 cond (o1 t v) (match jo t v with
  |some cs=>(t.imp false m cs s []).bind fun r=>match r.2.1 with
   | []=>some (r.1,r.2.2.1)
   |_=>none
  |none=>none) none
def i':(ps:List bE)→List a_→az→Option (bE.en ps).D
 | [],_,_=>some ()
 |.mut t _ m'::ps,gs,s=>
  match gs with
  |.ptr p::gs=>
   match s.o p.id,p.fO with
   |.var _ cs,none=>cond (Nat.beq p.off 0&&Nat.beq cs.length t.size)
    ((t.imp false m' cs (s.bV p.id .dead) []).bind fun r=>match r.2.1 with
     | []=>(i' ps gs r.2.2.1).bind fun q=>some (r.1,q)
     |_=>none) none
   |_,_=>none
  |_=>none
 |.hI t m::ps,gs,s=>
  match gs with
  |v::gs=>(Bg t m v s).bind fun r=>(i' ps gs r.2).bind fun q=>some (r.1,q)
  | []=>none
 |.val _ _::ps,gs,s=>
  match gs with
  |_::gs=>i' ps gs s
  | []=>none
 |.ic _::ps,gs,s=>
  match gs with
  |_::gs=>i' ps gs s
  | []=>none
 |.ref _::ps,gs,s=>
  match gs with
  |_::gs=>i' ps gs s
  | []=>none
 |.fn _ _::ps,gs,s=>
  match gs with
  |_::gs=>i' ps gs s
  | []=>none
section
variable{P:Program}{w0:World}{F0 Z0:ah}{n:cN}{s au:az}{a b8:Act}{w w':World}{ι bp:Nat→bI}{Z Z':ah}
theorem Wt{t:ad}{m:bg}{v:a_}{u:Value}{r:t.D×az}(ho:Bg t m v s=some r)(h:Inv w0 F0 Z0 n s a w ι Z)(hv:aV w Z s ι v u):
  ∃vs F Z',u=dW t vs∧Inv w0 F0 Z0 n r.2 a w ι Z'∧ft s ι Z r.2 Z'∧bM w0 F0 r.2 w ι Z' F∧t.ar w Z' m r.1 vs F∧∀b o,F b o→∃id,(s.o id).live∧(ι id).F b o:=by
 unfold Bg at ho;cases hf:o1 t v
 ·rw[hf]at ho;simp at ho
 rw[hf]at ho;simp only[cond_true]at ho
 cases hcs:jo t v with
 |none=>rw[hcs]at ho;simp at ho
 |some cs=>
  rw[hcs]at ho;simp only at ho;obtain⟨q,hq,ho⟩:=bb ho
  cases eJ:q.2.1 with
  |cons=>rw[eJ]at ho;simp at ho
  |nil=>
   rw[eJ]at ho;obtain rfl:=aX ho;obtain⟨us1,vs1,F1,cI,e1,i1,s1,c1,f1,bF,_,fw,_,g1⟩:=ad.mi t false m cs s [] q _ Z hq h (tt hcs hv) (by simp);rw[eJ]at c1;have hvs1:vs1=[]:=by cases vs1 with|nil=>rfl|cons=>exact c1.elim
   subst hvs1;rw[List.append_nil]at e1;have hw:=EF hf hv;rw[e1]at hw;rw[fw rfl,pn]at bF;exact⟨us1,F1,cI,hw,i1,s1,f1,bF,g1⟩
theorem vU:∀(ps:List bE) (gs:List a_) (us:List Value) (s:az) (Z:ah) (x:(bE.en ps).D),i' ps gs s=some x→Inv w0 F0 Z0 n s a w ι Z→a8 w Z s ι gs us →
  ∃au F Z',Inv w0 F0 Z0 n au a w ι Z'∧ft s ι Z au Z'∧bM w0 F0 au w ι Z' F∧iT w Z' ps us x F∧∀b o,F b o→∃id,(s.o id).live∧(ι id).F b o
 | [],gs,us,s,Z,x,ho,h,hv=>⟨s,ah.none,Z,h,.refl,.none,trivial,fun _ _ h=>h.elim⟩
 |.val t m::ps,gs,us,s,Z,x,ho,h,hv=>by
  cases gs with
  |nil=>simp[i']at ho
  |cons v gs=>simp only[a8]at hv;obtain⟨u,aY,rfl,h1,h2⟩:=hv;obtain⟨au,F,Z',i1,s1,f1,bF,g1⟩:=vU ps gs aY s Z x (by simp only[i']at ho;exact ho) h h2;exact⟨au,F,Z',i1,s1,f1,⟨u,aY,rfl,bF⟩,g1⟩
 |.ic t::ps,gs,us,s,Z,x,ho,h,hv=>by
  cases gs with
  |nil=>simp[i']at ho
  |cons v gs=>simp only[a8]at hv;obtain⟨u,aY,rfl,h1,h2⟩:=hv;obtain⟨au,F,Z',i1,s1,f1,bF,g1⟩:=vU ps gs aY s Z x (by simp only[i']at ho;exact ho) h h2;exact⟨au,F,Z',i1,s1,f1,⟨u,aY,rfl,bF⟩,g1⟩
 |.ref t::ps,gs,us,s,Z,x,ho,h,hv=>by
  cases gs with
  |nil=>simp[i']at ho
  |cons v gs=>simp only[a8]at hv;obtain⟨u,aY,rfl,h1,h2⟩:=hv;obtain⟨au,F,Z',i1,s1,f1,bF,g1⟩:=vU ps gs aY s Z x (by simp only[i']at ho;exact ho) h h2;exact⟨au,F,Z',i1,s1,f1,⟨u,aY,rfl,bF⟩,g1⟩
 |.fn _ _::ps,gs,us,s,Z,x,ho,h,hv=>by
  cases gs with
  |nil=>simp[i']at ho
  |cons v gs=>simp only[a8]at hv;obtain⟨u,aY,rfl,h1,h2⟩:=hv;obtain⟨au,F,Z',i1,s1,f1,bF,g1⟩:=vU ps gs aY s Z x (by simp only[i']at ho;exact ho) h h2;exact⟨au,F,Z',i1,s1,f1,⟨u,aY,rfl,bF⟩,g1⟩
 |.hI t m::ps,gs,us,s,Z,x,ho,h,hv=>by
  cases gs with
  |nil=>simp[i']at ho
  |cons v gs=>
   simp only[a8]at hv;obtain⟨u,aY,rfl,h1,h2⟩:=hv;simp only[i']at ho;obtain⟨r,hr,ho⟩:=bb ho;obtain⟨q,hq,ho⟩:=bb ho;obtain rfl:=aX ho;obtain⟨vs,F1,cI,rfl,i1,s1,f1,bF,g1⟩:=Wt hr h h1;obtain⟨au,ec,bR,i2,s2,f2,cq,g2⟩:=vU ps gs aY r.2 cI q hq i1 (a8.move s1.eI h2);refine⟨au,F1.or ec,bR,i2,s1.trans s2,(f1.shrink s2).or f2,⟨vs,aY,F1,ec,rfl,ad.ar.mono s2.dU _ _ (fun _ _ h=>h) bF,cq,?_,fun _ _ h=>.inl h,fun _ _ h=>.inr h⟩,?_⟩
   ·intro b o x y;obtain⟨id,hl,hf⟩:=g2 b o y;exact f1.apart id hl b o x hf
   ·rintro b o (y|y)
    ·exact g1 b o y
    ·obtain⟨id,hl,hf⟩:=g2 b o y;exact⟨id,(s1.live hl).1,hf⟩
 |.mut t m m'::ps,gs,us,s,Z,x,ho,h,hv=>by
  cases gs with
  |nil=>simp[i']at ho
  |cons v gs=>
   simp only[a8]at hv;obtain⟨u,aY,rfl,h1,h2⟩:=hv;cases v<;>simp only[i']at ho<;>try (simp at ho;done)
   rename_i p;simp only[aV]at h1;obtain⟨hk,A,rfl,_,av⟩:=h1
   cases b2:s.o p.id with
   |var ver cs=>
    rw[b2]at ho av;obtain⟨he,a0,eW,hA⟩:=av;rw[he]at ho;simp only at ho;cases hc:(Nat.beq p.off 0&&Nat.beq cs.length t.size)
    ·rw[hc]at ho;cases ho
    rw[hc]at ho;simp only[Bool.and_eq_true]at hc;have fW:=Nat.eq_of_beq_eq_true hc.1;have hlen:=Nat.eq_of_beq_eq_true hc.2;simp only[cond_true]at ho;obtain⟨r,hr,ho⟩:=bb ho
    cases eJ:r.2.1 with
    |cons=>rw[eJ]at ho;cases ho
    |nil=>
     rw[eJ]at ho;simp only at ho;obtain⟨q,hq,ho⟩:=bb ho;obtain rfl:=aX ho;have cn:(s.o p.id).live:=by rw[b2];trivial
     have c9:=h.gp p.id;rw[b2]at c9;obtain⟨⟨b,o,sp⟩,ws,dV,hsp,hc,cE,hF⟩:=c9;simp only at hsp;subst hsp;rw[eW]at dV;obtain rfl:=aX dV;have iW:ft s ι Z (s.bV p.id .dead) Z:=yl p.id cn;have hi0:=h.take p.id (fun _ _ h=>h) (fun _ _ h=>.inl h);have fD:=h.yk cn;obtain⟨us1,vs1,F1,cI,e1,i1,s1,c1,f1,bF,_,fw,_,g1⟩:=ad.mi t false m' cs _ [] r _ Z hr hi0 (hc.move iW.eI) (by simp);rw[eJ]at c1;have hvs1:vs1=[]:=by cases vs1 with|nil=>rfl|cons=>exact c1.elim
     subst hvs1;rw[List.append_nil]at e1;subst e1;rw[fw rfl,pn]at bF;obtain⟨au,ec,bR,i2,s2,f2,cq,g2⟩:=vU ps gs aY r.2.2.1 cI q hq i1 (a8.move s1.eI (a8.move iW.eI h2))
     have hrun:ah.sub (ah.run b o t.size) (ι p.id).F:=by
      rintro b' o' ⟨rfl,h1,h2⟩
      have:=(hF (o'-o) (by omega)).2;simp only at this;rwa[show o +(o'-o)=o' by omega]at this
     have kM:=(fD.sub hrun).shrink s1;have Nn:ah.apart F1 (ah.run b o t.size):=by intro b o x y;obtain⟨id,hl,hf⟩:=g1 b o x;exact fD.apart id hl b o (hrun b o y) hf
     have hg:bM w0 F0 r.2.2.1 w ι cI (F1.or (ah.run b o t.size)):=f1.or kM;refine⟨au,(F1.or (ah.run b o t.size)).or ec,bR,i2,(iW.trans s1).trans s2,(hg.shrink s2).or f2,⟨b,o,ws,aY,F1,ec,?_,cE,ad.ar.mono s2.dU _ _ (fun _ _ h=>h) bF,cq,?_,Nn,fun _ _ h=>.inl h,fun _ _ h=>.inr h⟩,?_⟩
     ·rw[hA,fW];rfl
     ·intro b o x y;obtain⟨id,hl,hf⟩:=g2 b o y;exact hg.apart id hl b o x hf
     ·rintro b o ((y|y)|y)
      ·obtain⟨id,hl,hf⟩:=g1 b o y;exact⟨id,(iW.live hl).1,hf⟩
      ·exact⟨p.id,cn,hrun b o y⟩
      ·obtain⟨id,hl,hf⟩:=g2 b o y;exact⟨id,(iW.live (s1.live hl).1).1,hf⟩
   |_=>rw[b2]at ho;simp at ho
end
end Go.LM
namespace Go.LM
section
variable{P:Program}{w0:World}{F0 Z0:ah}{n:cN}{s au:az}{a b8:Act}{w w':World}{ι bp:Nat→bI}{Z Z':ah}
def E_(t:ad)(m:bg)(v:a_)(s:az):Option (t.D×az):=
 match v with
 |.ptr p=>
  match s.o p.id,p.fO with
  |.var _ cs,none=>cond (Nat.beq p.off 0&&Nat.beq cs.length t.size)
   ((t.imp false m cs (s.bV p.id .dead) []).bind fun r=>match r.2.1 with
    | []=>some (r.1,r.2.2.1)
    |_=>none) none
  |_,_=>none
 |_=>none
theorem ah5{t:ad}{m:bg}{v:a_}{u:Value}{s:az}{Z:ah}{x:t.D×az}(ho:E_ t m v s=some x)(h:Inv w0 F0 Z0 n s a w ι Z)(h1:aV w Z s ι v u):
  ∃b o vs F Z',u=.pointer (some (at_ b o))∧Inv w0 F0 Z0 n x.2 a w ι Z'∧ft s ι Z x.2 Z'∧bM w0 F0 x.2 w ι Z' (F.or (ah.run b o t.size))∧cf w b o vs∧(∀j,j<t.size→fN w b (o+j))∧t.ar w Z' m x.1 vs F ∧
   ah.apart F (ah.run b o t.size)∧∀b' o',(F.or (ah.run b o t.size)) b' o'→∃id,(s.o id).live∧(ι id).F b' o':=by
 cases v<;>simp only[E_]at ho<;>try (simp at ho;done)
 rename_i p;simp only[aV]at h1;obtain⟨hk,A,rfl,_,av⟩:=h1
 cases b2:s.o p.id with
 |var ver cs=>
  rw[b2]at ho av;obtain⟨he,a0,eW,hA⟩:=av;rw[he]at ho;simp only at ho;cases hc:(Nat.beq p.off 0&&Nat.beq cs.length t.size)
  ·rw[hc]at ho;cases ho
  rw[hc]at ho;simp only[Bool.and_eq_true]at hc;have fW:=Nat.eq_of_beq_eq_true hc.1;have hlen:=Nat.eq_of_beq_eq_true hc.2;simp only[cond_true]at ho;obtain⟨r,hr,ho⟩:=bb ho
  cases eJ:r.2.1 with
  |cons=>rw[eJ]at ho;cases ho
  |nil=>
   rw[eJ]at ho;obtain rfl:=aX ho;have cn:(s.o p.id).live:=by rw[b2];trivial
   have c9:=h.gp p.id;rw[b2]at c9;obtain⟨a1,ws,dV,hsp,hcs,cE,hF⟩:=c9;rw[eW]at dV;obtain rfl:=aX dV;obtain⟨b,o,sp⟩:=a0;simp only at hsp;subst hsp;have iW:ft s ι Z (s.bV p.id .dead) Z:=yl p.id cn;have hi0:=h.take p.id (fun _ _ h=>h) (fun _ _ h=>.inl h);have fD:=h.yk cn;obtain⟨us1,vs1,F1,cI,e1,i1,s1,c1,f1,bF,_,fw,_,g1⟩:=ad.mi t false m cs _ [] r _ Z hr hi0 (hcs.move iW.eI) (by simp);rw[eJ]at c1;have hvs1:vs1=[]:=by cases vs1 with|nil=>rfl|cons=>exact c1.elim
   subst hvs1;rw[List.append_nil]at e1;subst e1;rw[fw rfl,pn]at bF
   have hrun:ah.sub (ah.run b o t.size) (ι p.id).F:=by
    rintro b' o' ⟨rfl,h1,h2⟩
    have:=(hF (o'-o) (by omega)).2;simp only at this;rwa[show o +(o'-o)=o' by omega]at this
   have kM:=(fD.sub hrun).shrink s1;have Nn:ah.apart F1 (ah.run b o t.size):=by intro b o x y;obtain⟨id,hl,hf⟩:=g1 b o x;exact fD.apart id hl b o (hrun b o y) hf
   refine⟨b,o,_,F1,cI,?_,i1,iW.trans s1,f1.or kM,cE,fun j hj=>(hF j (by omega)).1,bF,Nn,?_⟩
   ·rw[hA,fW];rfl
   ·rintro b o (y|y)
    ·obtain⟨id,hl,hf⟩:=g1 b o y;exact⟨id,(iW.live hl).1,hf⟩
    ·exact⟨p.id,cn,hrun b o y⟩
 |_=>rw[b2]at ho;simp at ho
def Bh(gs:List a_)(a off:Nat)(t:ad)(v:a_)(s:az):Option Int:=
 match v with
 |.kD=>some (-1)
 |.opt id x=>
  match rl s gs a off with
  |some k=>cond (Nat.beq k id&&rm s t id) (some x) none
  |none=>none
 |.ptr p=>
  match rl s gs a off,p.fO with
  |some k,some i=>cond (Nat.beq k p.id&&rm s t p.id&&Nat.beq p.off 0) (some (i:Int)) none
  |_,_=>none
 |_=>none
theorem Wu{gs:List a_}{us:List Value}{mx off id:Nat}{t:ad}{i:Nat}{yP:Addr}(ej:rl s gs mx off=some id)(ng:rm s t id=true)(h:Inv w0 F0 Z0 n s a w ι Z)(hv:a8 w Z s ι gs us)
  (av:j2 s ι ⟨id,some i,0⟩ yP):Mx w us mx off t.size (i:Int) (.pointer (some yP)):=by
 unfold rl at ej
 cases n9:gs[mx]? with
 |none=>rw[n9]at ej;simp at ej
 |some mf=>
  rw[n9]at ej
  cases mf with
  |ptr pl=>
   simp only at ej
   cases c_:mX s 1 { pl with off:=pl.off+off }with
   |none=>rw[c_]at ej;simp at ej
   |some cs=>
    rw[c_]at ej
    have hcs:cs=[.af id none]:=by
     split at ej
     ·rename_i h;obtain rfl:=aX ej;exact aX h
     ·simp at ej
    subst hcs;obtain⟨u,yN,tH⟩:=hv.get mx n9;simp only[aV]at tH;obtain⟨kJ,A,rfl,oe⟩:=tH;obtain⟨b,o,sp⟩:=A;have hsp:=oe.1;simp only at hsp;subst hsp;obtain⟨nZ,e4,ws,hA,hc1,hc2,A3⟩:=AN h c_ (j2.plus (b:=b) (o:=o) off oe);simp only[at_,Addr.mk.injEq,and_true]at hA;obtain⟨rfl,rfl⟩:=hA
    match ws,hc1 with
    | [v0],hc1=>
     obtain⟨hk0,A,m,k,rfl,hh⟩:=hc1.1;unfold rm at ng
     cases b2:s.o id with
     |row u em ver xs=>
      rw[b2]at ng;have:=ad.eq_of_beq _ _ ng;subst this;obtain⟨c2,eb,gY,hJ,ij⟩:=hh u em ver xs (mg b2);have c2:m=xs.length:=c2;obtain⟨hs,av⟩:=av;have av:match (s.o id).core with|.var _ cs=>_|.row t _ _ xs=>_|_=>_:=av
      rw[mg b2]at av;obtain⟨er,hi,bQ,a0,gG,rD⟩:=av;obtain rfl:=aX hi;rcases ij with ij|⟨a1,n5,n_⟩
      ·omega
      ·rw[gG]at n5;obtain rfl:=aX n5;right;refine⟨by omega,b,o,a0.block,a0.off,m,k,yN,?_,by simp;omega,?_⟩
       ·rw[hc2.head,n_];simp[eH,at_]
       ·rw[rD];simp[at_]
     |_=>rw[b2]at ng;cases ng
  |_=>simp at ej
theorem ah6{gs:List a_}{us:List Value}{mx off:Nat}{t:ad}{v:a_}{u:Value}{x:Int}(ho:Bh gs mx off t v s=some x)(h:Inv w0 F0 Z0 n s a w ι Z)(aB:a8 w Z s ι gs us)(hv:aV w Z s ι v u):Mx w us mx off t.size x u:=by
 cases v with
 |kD=>obtain rfl:=aX ho;simp only[aV]at hv;exact .inl ⟨by omega,hv⟩
 |opt id y=>
  simp only[Bh]at ho
  cases ej:rl s gs mx off with
  |none=>rw[ej]at ho;cases ho
  |some k=>
   rw[ej]at ho;cases hc:(Nat.beq k id&&rm s t id)
   ·simp only[hc]at ho;cases ho
   simp only[hc,cond_true]at ho;obtain rfl:=aX ho;simp only[Bool.and_eq_true]at hc;obtain rfl:=Nat.eq_of_beq_eq_true hc.1;simp only[aV]at hv;obtain⟨_,⟨h1,h2⟩|⟨h1,yP,rfl,h2⟩⟩:=hv
   ·exact .inl ⟨h1,h2⟩
   ·have:=Wu ej hc.2 h aB h2;rwa[Int.toNat_of_nonneg h1]at this
 |ptr p=>
  simp only[Bh]at ho
  cases ej:rl s gs mx off with
  |none=>rw[ej]at ho;cases ho
  |some k=>
   rw[ej]at ho
   cases fl:p.fO with
   |none=>rw[fl]at ho;cases ho
   |some i=>
    rw[fl]at ho;simp only at ho;cases hc:(Nat.beq k p.id&&rm s t p.id&&Nat.beq p.off 0)
    ·rw[hc]at ho;cases ho
    rw[hc]at ho;obtain rfl:=aX ho;simp only[Bool.and_eq_true]at hc;have hk:=Nat.eq_of_beq_eq_true hc.1.1;have h0:=Nat.eq_of_beq_eq_true hc.2;obtain⟨pid,auZ,au0⟩:=p;simp only at hk h0 fl hc;subst hk h0 fl;simp only[aV]at hv;obtain⟨_,yP,rfl,h2⟩:=hv;exact Wu ej hc.1.2 h aB h2
 |_=>cases ho
def Bi(t:ad)(v:a_):Bool:=
 o1 t v&&(match jo t v with
  |some cs=>Nat.beq cs.length t.size
  |none=>false)
theorem ah7{t:ad}{v:a_}{u:Value}{s:az}{Z:ah}(ho:Bi t v=true)(h1:aV w Z s ι v u):u.cells.toList.length=t.size∧∀x∈u.cells.toList,eC x=true:=by
 unfold Bi at ho;simp only[Bool.and_eq_true]at ho;obtain⟨hf,hc⟩:=ho
 cases hcs:jo t v with
 |none=>rw[hcs]at hc;cases hc
 |some cs=>rw[hcs]at hc;have hl:=Nat.eq_of_beq_eq_true hc;have hr:=tt hcs h1;exact⟨by rw[hr.len];exact hl,hr.eC⟩
def E'(t:ad)(v:a_)(s:az):Option (List t.D×az):=
 match v with
 |.kD=>some ([],s)
 |.dA dp cs off=>
  match takeN off t.size cs with
  |none=>none
  |some cs=>cond dp.isEmpty ((t.imp false .R cs s []).bind fun r=>match r.2.1 with
   | []=>some ([r.1],r.2.2.1)
   |_=>none) none
 |.may b dp cs=>cond b (cond (dp.isEmpty&&Nat.beq cs.length t.size) ((t.imp false .R cs s []).bind fun r=>match r.2.1 with
   | []=>some ([r.1],r.2.2.1)
   |_=>none) none) (some ([],s))
 |_=>none
theorem ah8{t:ad}{v:a_}{u:Value}{s:az}{Z:ah}{x:List t.D×az}(ho:E' t v s=some x)(h:Inv w0 F0 Z0 n s a w ι Z)(h1:aV w Z s ι v u):
  ∃Z',Inv w0 F0 Z0 n x.2 a w ι Z'∧ft s ι Z x.2 Z'∧((x.1=[]∧u=.pointer none)∨∃y b o vs,x.1=[y]∧u=.pointer (some (at_ b o))∧cf w b o vs∧t.ar w Z' .R y vs ah.none∧∀j,j<t.size→Z' b (o+j)):=by
 have go:∀(cs:List ba) (b o:Nat) (vs:List Value) (x:List t.D×az),((t.imp false .R cs s []).bind fun r=>match r.2.1 with| []=>some ([r.1],r.2.2.1)|_=>none)=some x→bO w Z s ι cs vs→cf w b o vs→vs.length=t.size→(∀j,j<t.size→Z b (o+j))→u=.pointer (some (at_ b o)) →
   ∃Z',Inv w0 F0 Z0 n x.2 a w ι Z'∧ft s ι Z x.2 Z'∧((x.1=[]∧u=.pointer none)∨∃y b o vs,x.1=[y]∧u=.pointer (some (at_ b o))∧cf w b o vs∧t.ar w Z' .R y vs ah.none∧∀j,j<t.size→Z' b (o+j)):=by
  intro cs b o vs x ho qg cE hl hz hu;obtain⟨r,hr,ho⟩:=bb ho
  cases eJ:r.2.1 with
  |cons=>rw[eJ]at ho;cases ho
  |nil=>
   rw[eJ]at ho;obtain rfl:=aX ho;obtain⟨us1,vs1,F1,cI,e1,i1,s1,c1,f1,bF,_,fw,_,g1⟩:=ad.mi t false .R cs s [] r _ Z hr h qg (by simp);rw[eJ]at c1;have hvs1:vs1=[]:=by cases vs1 with|nil=>rfl|cons=>exact c1.elim
   subst hvs1;rw[List.append_nil]at e1;subst e1;rw[fw rfl,pn]at bF;exact⟨cI,i1,s1,.inr ⟨r.1,b,o,_,rfl,hu,cE,tj bF,fun j hj=>s1.dU _ _ (hz j hj)⟩⟩
 cases v<;>simp only[E']at ho<;>try (simp at ho;done)
 ·rename_i dp cs off;simp only[aV]at h1;obtain⟨h2,b,o,vs,rfl,h3⟩:=h1
  cases ht:takeN off t.size cs with
  |none=>rw[ht]at ho;cases ho
  |some ds=>
   rw[ht]at ho
   cases dp with
   |cons=>cases ho
   |nil=>obtain⟨k1,k2,k3⟩:=h3 rfl;obtain⟨hle,rfl⟩:=qc ht;have hlen:=k1.len;refine go _ b (o+off) ((vs.drop off).take t.size) x ho ((k1.drop off).take _) (k2.part off t.size) (by simp;omega) (fun j hj=>?_) rfl;have:=k3 (off+j) (by omega);rw[pn]at this;rwa[←Nat.add_assoc]at this
 ·simp only[aV]at h1;obtain rfl:=aX ho;exact⟨Z,h,.refl,.inl ⟨rfl,h1⟩⟩
 ·rename_i b dp cs;simp only[aV]at h1;rcases h1 with⟨rfl,h1⟩|⟨rfl,h2,b,o,vs,rfl,h3⟩
  ·obtain rfl:=aX ho;exact⟨Z,h,.refl,.inl ⟨rfl,h1⟩⟩
  ·simp only[cond_true]at ho
   cases dp with
   |cons=>cases ho
   |nil=>
    cases hc:Nat.beq cs.length t.size
    ·rw[show(List.isEmpty ([]:List (Nat×Nat))&&Nat.beq cs.length t.size)=false by rw[hc];rfl]at ho;cases ho
    rw[show(List.isEmpty ([]:List (Nat×Nat))&&Nat.beq cs.length t.size)=true by rw[hc];rfl]at ho;have hc:=Nat.eq_of_beq_eq_true hc;obtain⟨k1,k2,k3⟩:=h3 rfl;have hlen:=k1.len;refine go _ b (o+0) vs x ho k1 k2 (by omega) (fun j hj=>?_) rfl;have:=k3 j (by omega);rw[pn]at this;exact this
def hS(ps:List bE)(gs:List a_):(rs:List c4)→List a_→az→Option (c4.outs rs (bE.en ps)).D
 | [],vs,s=>
  match vs with
  | []=>i' ps gs s
  |_=>none
 |.val t m::rs,vs,s=>
  match vs with
  |v::vs=>(Bg t m v s).bind fun r=>(hS ps gs rs vs r.2).bind fun q=>some (r.1,q)
  | []=>none
 |.opt a off t::rs,vs,s=>
  match vs with
  |v::vs=>(Bh gs a off t v s).bind fun x=>(hS ps gs rs vs s).bind fun q=>some (x,q)
  | []=>none
 |.any t::rs,vs,s=>
  match vs with
  |v::vs=>cond (Bi t v) (hS ps gs rs vs s) none
  | []=>none
 |.p8 t::rs,vs,s=>
  match vs with
  |v::vs=>(E' t v s).bind fun r=>(hS ps gs rs vs r.2).bind fun q=>some (r.1,q)
  | []=>none
 |.new t m::rs,vs,s=>
  match vs with
  |v::vs=>(E_ t m v s).bind fun r=>(hS ps gs rs vs r.2).bind fun q=>some (r.1,q)
  | []=>none
theorem ah9{ps:List bE}{gs:List a_}{s:az}:hS ps gs [] [] s=i' ps gs s:=rfl
theorem ah_{ps:List bE}{gs:List a_}{s:az}{v:a_}{vs:List a_}:hS ps gs [] (v::vs) s=none:=rfl
theorem ah'{ps:List bE}{gs:List a_}{a o:Nat}{t:ad}{rs:List c4}{s:az}{v:a_}{vs:List a_}:hS ps gs (.opt a o t::rs) (v::vs) s=(Bh gs a o t v s).bind fun x=>(hS ps gs rs vs s).bind fun q=>some (x,q):=rfl
theorem aia{ps:List bE}{gs:List a_}{a o:Nat}{t:ad}{rs:List c4}{s:az}:hS ps gs (.opt a o t::rs) [] s=none:=rfl
theorem aib{ps:List bE}{gs:List a_}{t:ad}{m:bg}{rs:List c4}{s:az}{v:a_}{vs:List a_}:hS ps gs (.val t m::rs) (v::vs) s=(Bg t m v s).bind fun r=>(hS ps gs rs vs r.2).bind fun q=>some (r.1,q):=rfl
theorem aic{ps:List bE}{gs:List a_}{t:ad}{m:bg}{rs:List c4}{s:az}:hS ps gs (.val t m::rs) [] s=none:=rfl
theorem aid{ps:List bE}{gs:List a_}{t:ad}{rs:List c4}{s:az}{v:a_}{vs:List a_}:hS ps gs (.any t::rs) (v::vs) s=cond (Bi t v) (hS ps gs rs vs s) none:=rfl
theorem aie{ps:List bE}{gs:List a_}{t:ad}{rs:List c4}{s:az}:hS ps gs (.any t::rs) [] s=none:=rfl
theorem aif{ps:List bE}{gs:List a_}{t:ad}{rs:List c4}{s:az}{v:a_}{vs:List a_}:hS ps gs (.p8 t::rs) (v::vs) s=(E' t v s).bind fun r=>(hS ps gs rs vs r.2).bind fun q=>some (r.1,q):=rfl
theorem aih{ps:List bE}{gs:List a_}{t:ad}{rs:List c4}{s:az}:hS ps gs (.p8 t::rs) [] s=none:=rfl
theorem aii{ps:List bE}{gs:List a_}{t:ad}{m:bg}{rs:List c4}{s:az}{v:a_}{vs:List a_}:hS ps gs (.new t m::rs) (v::vs) s=(E_ t m v s).bind fun r=>(hS ps gs rs vs r.2).bind fun q=>some (r.1,q):=rfl
theorem aij{ps:List bE}{gs:List a_}{t:ad}{m:bg}{rs:List c4}{s:az}:hS ps gs (.new t m::rs) [] s=none:=rfl
theorem y2{ps:List bE}{gs:List a_}{us:List Value}:∀(rs:List c4) (vs:List a_) (dE:List Value) (s:az) (Z:ah) (x:(c4.outs rs (bE.en ps)).D),hS ps gs rs vs s=some x→Inv w0 F0 Z0 n s a w ι Z →
  a8 w Z s ι gs us→a8 w Z s ι vs dE→∃au F Z',Inv w0 F0 Z0 n au a w ι Z'∧ft s ι Z au Z'∧bM w0 F0 au w ι Z' F∧iK w Z' ps us rs x dE F∧∀b o,F b o→∃id,(s.o id).live∧(ι id).F b o
 | [],vs,dE,s,Z,x,ho,h,aB,hv=>by
  cases vs with
  |cons=>rw[ah_]at ho;cases ho
  |nil=>rw[ah9]at ho;simp only[a8]at hv;obtain⟨au,F,Z',i1,s1,f1,bF,g1⟩:=vU ps gs us s Z x ho h aB;exact⟨au,F,Z',i1,s1,f1,⟨hv,bF⟩,g1⟩
 |.opt mx off t::rs,vs,dE,s,Z,x,ho,h,aB,hv=>by
  cases vs with
  |nil=>rw[aia]at ho;cases ho
  |cons v vs=>simp only[a8]at hv;obtain⟨u,aY,rfl,h1,h2⟩:=hv;rw[ah']at ho;obtain⟨y,aR,ho⟩:=bb ho;obtain⟨q,hq,ho⟩:=bb ho;obtain rfl:=aX ho;obtain⟨au,ec,bR,i2,s2,f2,cq,g2⟩:=y2 rs vs aY s Z q hq h aB h2;exact⟨au,ec,bR,i2,s2,f2,⟨u,aY,rfl,ah6 aR h aB h1,cq⟩,g2⟩
 |.any t::rs,vs,dE,s,Z,x,ho,h,aB,hv=>by
  cases vs with
  |nil=>rw[aie]at ho;cases ho
  |cons v vs=>
   simp only[a8]at hv;obtain⟨u,aY,rfl,h1,h2⟩:=hv;rw[aid]at ho;cases hc:Bi t v
   ·rw[hc]at ho;cases ho
   rw[hc]at ho;obtain⟨au,ec,bR,i2,s2,f2,cq,g2⟩:=y2 rs vs aY s Z x ho h aB h2;exact⟨au,ec,bR,i2,s2,f2,⟨u,aY,rfl,ah7 hc h1,cq⟩,g2⟩
 |.p8 t::rs,vs,dE,s,Z,x,ho,h,aB,hv=>by
  cases vs with
  |nil=>rw[aih]at ho;cases ho
  |cons v vs=>simp only[a8]at hv;obtain⟨u,aY,rfl,h1,h2⟩:=hv;rw[aif]at ho;obtain⟨r,hr,ho⟩:=bb ho;obtain⟨q,hq,ho⟩:=bb ho;obtain rfl:=aX ho;obtain⟨cI,i1,s1,bF⟩:=ah8 hr h h1;obtain⟨au,ec,bR,i2,s2,f2,cq,g2⟩:=y2 rs vs aY r.2 cI q hq i1 (a8.move s1.eI aB) (a8.move s1.eI h2);refine⟨au,ec,bR,i2,s1.trans s2,f2,⟨u,aY,rfl,bF.imp (fun h=>h) fun⟨y,b,o,vs,k1,k2,k3,bn,bs⟩=>⟨y,b,o,vs,k1,k2,k3,ad.ar.mono s2.dU _ _ (fun _ _ h=>h) bn,fun j hj=>s2.dU _ _ (bs j hj)⟩,cq⟩,?_⟩;intro b o y;obtain⟨id,hl,hf⟩:=g2 b o y;exact⟨id,(s1.live hl).1,hf⟩
 |.new t m::rs,vs,dE,s,Z,x,ho,h,aB,hv=>by
  cases vs with
  |nil=>rw[aij]at ho;cases ho
  |cons v vs=>
   simp only[a8]at hv;obtain⟨u,aY,rfl,h1,h2⟩:=hv;rw[aii]at ho;obtain⟨r,hr,ho⟩:=bb ho;obtain⟨q,hq,ho⟩:=bb ho;obtain rfl:=aX ho;obtain⟨b,o,ws,F1,cI,rfl,i1,s1,f1,cE,hwr,bF,aik,g1⟩:=ah5 hr h h1;obtain⟨au,ec,bR,i2,s2,f2,cq,g2⟩:=y2 rs vs aY r.2 cI q hq i1 (a8.move s1.eI aB) (a8.move s1.eI h2);refine⟨au,(F1.or (ah.run b o t.size)).or ec,bR,i2,s1.trans s2,(f1.shrink s2).or f2,⟨b,o,ws,aY,F1,ec,rfl,cE,hwr,ad.ar.mono s2.dU _ _ (fun _ _ h=>h) bF,cq,?_,aik,fun _ _ h=>.inl h,fun _ _ h=>.inr h⟩,?_⟩
   ·intro b o x y;obtain⟨id,hl,hf⟩:=g2 b o y;exact f1.apart id hl b o x hf
   ·rintro b o (y|y)
    ·exact g1 b o y
    ·obtain⟨id,hl,hf⟩:=g2 b o y;exact⟨id,(s1.live hl).1,hf⟩
 |.val t m::rs,vs,dE,s,Z,x,ho,h,aB,hv=>by
  cases vs with
  |nil=>rw[aic]at ho;cases ho
  |cons v vs=>
   simp only[a8]at hv;obtain⟨u,aY,rfl,h1,h2⟩:=hv;rw[aib]at ho;obtain⟨r,hr,ho⟩:=bb ho;obtain⟨q,hq,ho⟩:=bb ho;obtain rfl:=aX ho;obtain⟨ws,F1,cI,rfl,i1,s1,f1,bF,g1⟩:=Wt hr h h1;obtain⟨au,ec,bR,i2,s2,f2,cq,g2⟩:=y2 rs vs aY r.2 cI q hq i1 (a8.move s1.eI aB) (a8.move s1.eI h2);refine⟨au,F1.or ec,bR,i2,s1.trans s2,(f1.shrink s2).or f2,⟨ws,aY,F1,ec,rfl,ad.ar.mono s2.dU _ _ (fun _ _ h=>h) bF,cq,?_,fun _ _ h=>.inl h,fun _ _ h=>.inr h⟩,?_⟩
   ·intro b o x y;obtain⟨id,hl,hf⟩:=g2 b o y;exact f1.apart id hl b o x hf
   ·rintro b o (y|y)
    ·exact g1 b o y
    ·obtain⟨id,hl,hf⟩:=g2 b o y;exact⟨id,(s1.live hl).1,hf⟩
end
end Go.LM
namespace Go.LM
inductive lT where
 |keep
 |bG (t:ad) (dp:List Nat)
 |af (c:Nat)
 |av (c:Nat)
inductive jI where
 |cell (c:lT)
 |iV (cs:List lT)
 |ptr (c:Nat)
 |dA (dp:List Nat) (cs:List lT)
 |opt (c:Nat)
 |same
 |drop
 |x' (a b:List (List lT))
inductive ja where
 |var (cs:List lT)
 |row (t:ad) (em:bg)
structure ib where
 ak:List (Nat×jI)
 os:List (Nat×ja)
 gs:List jI
abbrev Ren:=List (Nat×Option Nat)
def kr:Ren→Nat→Option (Option Nat)
 | [],_=>none
 |(k,v)::l,c=>cond (Nat.beq k c) (some v) (kr l c)
def kQ(r:Ren)(c id:Nat):Bool:=match kr r c with
 |some (some i)=>Nat.beq i id
 |_=>false
def vV(r:Ren)(c:Nat):Bool:=match kr r c with
 |some none=>true
 |_=>false
def hT:List (Nat×ja)→Nat→Bool
 | [],_=>false
 |(k,_)::l,c=>cond (Nat.beq k c) true (hT l c)
def tL:Ren→List Nat
 | []=>[]
 |(_,some i)::l=>i::tL l
 |(_,none)::l=>tL l
def qv:List Nat→Bool
 | []=>true
 |x::l=> !(l.any (Nat.beq x))&&qv l
def No:Ren→List Nat
 | []=>[]
 |(k,_)::l=>k::No l
def tM(r:Ren)(c:Nat)(v:Option Nat):Ren:=match kr r c with
 |none=>(c,v)::r
 |some _=>r
def Np(r:Ren):List Nat→List (Nat×Nat)→Ren
 |c::cs,d::ds=>Np (tM r c (some d.1)) cs ds
 |_,_=>r
def Wv(r:Ren):lT→ba→Ren
 |.af c,.af id _=>tM r c (some id)
 |.af c,.nil _=>tM r c none
 |.av c,.af id _=>tM r c (some id)
 |.bG _ dp,.bG _ ds _ _=>Np r dp ds
 |.bG _ (c::_),.af id _=>tM r c (some id)
 |_,_=>r
def Fa(r:Ren):List lT→List ba→Ren
 |c::cs,x::xs=>Fa (Wv r c x) cs xs
 |_,_=>r
def Ww(r:Ren):jI→a_→Ren
 |.cell c,.aU x=>Wv r c x
 |.cell (.af c),.lG=>tM r c none
 |.iV cs,.iV xs=>Fa r cs xs
 |.ptr c,.ptr p=>tM r c (some p.id)
 |.dA dp cs,.dA ds xs _=>Fa (Np r dp ds) cs xs
 |.opt c,.opt id _=>tM r c (some id)
 |_,_=>r
def Wx(s:az)(r:Ren):List (Nat×jI)→Ren
 | []=>r
 |(d,t)::l=>Wx s (Ww r t (s.t d)) l
def Wy(r:Ren):List jI→List a_→Ren
 |t::l,x::xs=>Wy (Ww r t x) l xs
 |_,_=>r
def Nq(s:az)(r:Ren):List (Nat×ja)→Ren
 | []=>r
 |(c,.var cs)::l=>Nq s (match kr r c with
   |some (some id)=>(match s.o id with
    |.var _ xs=>Fa r cs xs
    |_=>r)
   |_=>r) l
 |_::l=>Nq s r l
def vW(dp:List Nat):List (Nat×Nat):=dp.map fun c=>(c,0)
def rN(r:Ren)(os:List (Nat×ja))(s:az):lT→ba→Option ba
 |.keep,c=>match c with
  |.int k x=>some (.int k x)
  |.bool b=>some (.bool b)
  |.str x=>some (.str x)
  |_=>none
 |.bG t dp,c=>cond (dp.all (hT os)&&(borrows s c).all fun d=>dp.any fun c=>kQ r c d.1) ((p9 s t c).bind fun x=>some (.bG t (vW dp) none x)) none
 |.af k,c=>cond (hT os k) (match c with
  |.af id sub=>cond (kQ r k id) (some (.af k sub)) none
  |.nil _=>cond (vV r k) (some (.af k none)) none
  |_=>none) none
 |.av k,c=>cond (hT os k) (match c with
  |.af id sub=>(match s.o id with
   |.row _ _ _ xs=>cond (kQ r k id) (some (.af k (some (eH sub,mb sub xs)))) none
   |_=>none)
  |_=>none) none
def pr(r:Ren)(os:List (Nat×ja))(s:az):List lT→List ba→Option (List ba)
 | [],[]=>some []
 |c::cs,x::xs=>(rN r os s c x).bind fun y=>(pr r os s cs xs).bind fun ys=>some (y::ys)
 |_,_=>none
def Fb(r:Ren)(os:List (Nat×ja))(s:az):jI→a_→Option a_
 |.cell c,.aU x=>(rN r os s c x).bind fun y=>some (.aU y)
 |.cell (.af k),.lG=>cond (hT os k&&vV r k) (some (.aU (.af k none))) none
 |.cell (.bG t dp),.lG=>cond (dp.all (hT os)) (some (.aU (.bG t (vW dp) none []))) none
 |.iV cs,.iV xs=>(pr r os s cs xs).bind fun ys=>some (.iV ys)
 |.ptr k,.ptr p=>cond (hT os k&&kQ r k p.id) (some (.ptr { p with id:=k })) none
 |.dA dp cs,.dA ds xs off=>cond (dp.all (hT os)&&alive s ds&&ds.all fun d=>dp.any fun c=>kQ r c d.1) ((pr r os s cs xs).bind fun ys=>some (.dA (vW dp) ys off)) none
 |.opt k,.opt id o=>cond (hT os k&&kQ r k id) (some (.opt k o)) none
 |.same,.kD=>some .kD
 |.same,.bB=>some .bB
 |.same,.fn f [] []=>some (.fn f [] [])
 |.drop,_=>some .bB
 |_,_=>none
def y3(r:Ren)(os:List (Nat×ja))(s:az):List jI→List a_→Option (List a_)
 | [],[]=>some []
 |t::l,x::xs=>(Fb r os s t x).bind fun v=>(y3 r os s l xs).bind fun vs=>some (v::vs)
 |_,_=>none
def Nr(r:Ren)(os:List (Nat×ja))(s:az):jI→a_→Option a_
 |.x' a b,.fn f xs ys=>(y3 r os s (a.map (jI.dA [])) xs).bind fun x=>(y3 r os s (b.map (jI.dA [])) ys).bind fun y=>some (.fn f x y)
 |t,x=>Fb r os s t x
def Fc(r:Ren)(os:List (Nat×ja))(s:az):List (Nat×jI)→Option (Nat→a_)
 | []=>some fun _=>.bB
 |(d,t)::l=>(Nr r os s t (s.t d)).bind fun v=>(Fc r os s l).bind fun f=>some (bW f d v)
def Ns(r:Ren)(os:List (Nat×ja))(s:az)(c:Nat)(t:ja):Option cD:=
 match kr r c with
 |some (some id)=>(match t,s.o id with
  |.row t em,.row u gN _ xs=>cond (bg.beq gN em||xs.isEmpty) ((eY (.sl u) (.sl t) xs).bind fun x=>some (.row t em 0 x)) none
  |.var cs,.var _ xs=>(pr r os s cs xs).bind fun ys=>some (.var 0 ys)
  |_,_=>none)
 |some none=>(match t with
  |.row t em=>some (.row t em 0 [])
  |_=>none)
 |none=>none
def Fe(r:Ren)(os:List (Nat×ja))(s:az):List (Nat×ja)→Option (Nat→cD)
 | []=>some fun _=>.none
 |(c,t)::l=>(Ns r os s c t).bind fun v=>(Fe r os s l).bind fun f=>some (bW f c v)
def Nt(T:ib)(r:Ren)(s:az):Option az:=
 cond (qv (tL r)&&qv (No r)) ((Fc r T.os s T.ak).bind fun t=>(Fe r T.os s T.os).bind fun o=>(y3 r T.os s T.gs s.g).bind fun g=>some ⟨t,o,g⟩) none
def norm(T:ib)(s:az):Option az:=Nt T (Nq s (Wy (Wx s [] T.ak) T.gs s.g) T.os) s
section
variable{w0:World}{F0 Z0:ah}{n:cN}{s s0:az}{a:Act}{w:World}{ι au1:Nat→bI}{Z:ah}{r:Ren}{os:List (Nat×ja)}
def iota(r:Ren)(ι:Nat→bI):Nat→bI:=fun c=>match kr r c with
 |some (some id)=> ι id
 |_=>⟨none,0,ah.none⟩
theorem tN{c id:Nat}(h:kQ r c id=true):kr r c=some (some id):=by
 unfold kQ at h;split at h
 ·rename_i i hi;rw[hi,Nat.eq_of_beq_eq_true h]
 ·cases h
theorem Wz{c:Nat}(h:vV r c=true):kr r c=some none:=by
 unfold vV at h;split at h
 ·rename_i hi;exact hi
 ·cases h
theorem Ff{c id:Nat}(h:kQ r c id=true):iota r ι c=ι id:=by unfold iota;rw[tN h]
theorem ail{c:Nat}(h:vV r c=true):iota r ι c=⟨none,0,ah.none⟩:=by unfold iota;rw[Wz h]
def np(r:Ren)(os:List (Nat×ja))(s s0:az):Prop:=∀c,(s0.o c=.none∧hT os c=false) ∨
 (∃id,kr r c=some (some id)∧((∃t em pt ver xs,s.o id=.row t pt ver xs∧s0.o c=.row t em 0 xs∧(pt=em∨xs=[]))∨(∃ver cs mC pv,s.o id=.var ver cs∧s0.o c=.var 0 mC∧pr r os s pv cs=some mC))) ∨
 (kr r c=some none∧∃t em,s0.o c=.row t em 0 [])
theorem np.known(h:np r os s s0){c:Nat}(hc:hT os c=true):LM.known s0 c:=by
 intro h0;rcases h c with⟨_,h1⟩|⟨id,_,⟨t,em,pt,ver,xs,_,h1,_⟩|⟨ver,cs,mC,pv,_,h1,_⟩⟩|⟨_,t,em,h1⟩
 ·rw[hc]at h1;cases h1
 all_goals rw[h1]at h0;cases h0
theorem np.dep(h:np r os s s0){c:Nat}(hc:hT os c=true):eO s0 (c,0):=⟨h.known hc,.inr (Nat.zero_le _)⟩
theorem WA(h:np r os s s0){dp:List Nat}(af:dp.all (hT os)=true):∀d,d∈vW dp→eO s0 d:=by intro d j8;unfold vW at j8;obtain⟨c,hc,rfl⟩:=List.mem_map.1 j8;exact h.dep (List.all_eq_true.1 af c hc)
theorem WB{dp:List Nat}{ds:List (Nat×Nat)}(h:∀d,d∈ds→(dp.any fun c=>kQ r c d.1)=true):ah.sub (dz ι ds) (dz (iota r ι) (vW dp)):=by
 rintro b o ⟨d,af,hf⟩
 obtain⟨c,hc,cE⟩:=List.any_eq_true.1 (h d af);refine⟨(c,0),List.mem_map.2 ⟨c,hc,rfl⟩,?_⟩;rw[Ff cE];exact hf
theorem Fg(h:Inv w0 F0 Z0 n s a w ι Z)(bS:np r os s s0){c:lT}{x y:ba}{v:Value}(hn:rN r os s c x=some y)(hx:cz w Z s ι x v):cz w Z s0 (iota r ι) y v:=by
 cases c with
 |keep=>cases x<;>simp only[rN,Option.some.injEq]at hn<;>first|(cases hn;done)|(subst hn;exact hx)
 |bG t dp=>
  simp only[rN]at hn;cases hc:(dp.all (hT os)&&(borrows s x).all fun d=>dp.any fun c=>kQ r c d.1)
  ·rw[hc]at hn;cases hn
  rw[hc]at hn;simp only[cond_true]at hn;simp only[Bool.and_eq_true]at hc;obtain⟨xs,hl,hn⟩:=bb hn;obtain rfl:=aX hn;obtain⟨h1,h2,h3⟩:=LS h hl hx;have lL:=WB (ι :=ι) (r:=r) (dp:=dp) (ds:=borrows s x) fun d af=>List.all_eq_true.1 hc.2 d af
  have h4:=ad.ar.mono (Z':=Z.or (dz (iota r ι) (vW dp))) (fun b o hz=>hz.elim .inl fun h=>.inr (lL b o h)) _ _ (fun _ _ h=>h) h1;refine⟨WA bS hc.1,?_,fun _=>h4,.none⟩;simp only[ad.ar]at h4;obtain⟨A,c,hv,_⟩:=h4;simp only[List.cons.injEq,and_true]at hv;exact⟨A,_,c,hv⟩
 |af k=>
  simp only[rN]at hn;cases hc:hT os k
  ·rw[hc]at hn;cases hn
  rw[hc]at hn;simp only[cond_true]at hn
  cases x with
  |af id sub=>
   simp only at hn;cases cE:kQ r k id
   ·rw[cE]at hn;cases hn
   rw[cE]at hn;obtain rfl:=aX hn;obtain⟨h1,A,m,kI,hv,h2⟩:=hx;refine⟨bS.known hc,A,m,kI,hv,fun t em ver xs b2=>?_⟩;rw[Ff cE];rcases bS k with⟨h0,_⟩|⟨ep,h0,⟨cQ,gN,WC,n4,gq,g1,g2,ge⟩|⟨n4,cs,mC,pv,g1,g2,_⟩⟩|⟨h0,cQ,gN,g2⟩
   ·rw[h0]at b2;cases b2
   ·rw[tN cE]at h0;injection h0 with h0;injection h0 with h0;subst h0
    rw[g2]at b2;simp only[cD.core,cD.row.injEq]at b2;obtain⟨rfl,rfl,rfl,b2⟩:=b2;have:=eq_of_heq b2;subst this;exact h2 _ _ _ _ (mg g1)
   ·rw[g2]at b2;cases b2
   ·rw[tN cE]at h0;cases h0
  |nil u=>
   simp only at hn;cases cE:vV r k
   ·rw[cE]at hn;cases hn
   rw[cE]at hn;obtain rfl:=aX hn;have hv:v=.slice none 0 0:=hx;refine⟨bS.known hc,none,0,0,hv,fun t em ver xs b2=>?_⟩;rw[ail cE];rcases bS k with⟨h0,_⟩|⟨ep,h0,_⟩|⟨h0,cQ,gN,g2⟩
   ·rw[h0]at b2;cases b2
   ·rw[Wz cE]at h0;cases h0
   ·rw[g2]at b2;simp only[cD.core,cD.row.injEq]at b2;obtain⟨rfl,rfl,rfl,b2⟩:=b2;have:=eq_of_heq b2;subst this;exact⟨rfl,Nat.le_refl _,Nat.le_refl _,Nat.le_refl _,.inl rfl⟩
  |_=>cases hn
 |av k=>
  simp only[rN]at hn;cases hc:hT os k
  ·rw[hc]at hn;cases hn
  rw[hc]at hn;simp only[cond_true]at hn
  cases x with
  |af id sub=>
   simp only at hn
   cases hrow:s.o id with
   |row t2 afS afT afU=>
    rw[hrow]at hn;simp only at hn;cases cE:kQ r k id
    ·rw[cE]at hn;cases hn
    rw[cE]at hn;obtain rfl:=aX hn;obtain⟨h1,A,m,kI,hv,h2⟩:=hx;refine⟨bS.known hc,A,m,kI,hv,fun t em ver xs b2=>?_⟩;rw[Ff cE];rcases bS k with⟨h0,_⟩|⟨ep,h0,⟨cQ,gN,WC,n4,gq,g1,g2,ge⟩|⟨n4,cs,mC,pv,g1,g2,_⟩⟩|⟨h0,cQ,gN,g2⟩
    ·rw[h0]at b2;cases b2
    ·rw[tN cE]at h0;injection h0 with h0;injection h0 with h0;subst h0
     rw[g2]at b2;simp only[cD.core,cD.row.injEq]at b2;obtain⟨rfl,rfl,rfl,b2⟩:=b2;have:=eq_of_heq b2;subst this;rw[hrow]at g1;simp only[cD.row.injEq]at g1;obtain⟨rfl,rfl,rfl,g1⟩:=g1;have:=eq_of_heq g1;subst this;have h3:=h2 _ _ _ _ (mg hrow)
     cases sub with
     |none=>exact⟨h3.Uo,h3.fits,h3.le,h3.cap,h3.at_⟩
     |some p=>exact h3
    ·rw[g2]at b2;cases b2
    ·rw[tN cE]at h0;cases h0
   |_=>rw[hrow]at hn;cases hn
  |_=>cases hn
theorem Fh(h:Inv w0 F0 Z0 n s a w ι Z)(bS:np r os s s0):∀{cs:List lT}{xs ys:List ba}{vs:List Value},pr r os s cs xs=some ys→bO w Z s ι xs vs→bO w Z s0 (iota r ι) ys vs
 | [],[],ys,vs,hn,hx=>by
  obtain rfl:=aX hn
  cases vs with
  |nil=>trivial
  |cons=>exact hx.elim
 | [],_::_,_,_,hn,_=>by cases hn
 |_::_,[],_,_,hn,_=>by cases hn
 |c::cs,x::xs,ys,vs,hn,hx=>by
  simp only[pr]at hn;obtain⟨y,h1,hn⟩:=bb hn;obtain⟨WD,h2,hn⟩:=bb hn;obtain rfl:=aX hn
  cases vs with
  |nil=>exact hx.elim
  |cons v vs=>exact⟨Fg h bS h1 hx.1,Fh h bS h2 hx.2⟩
theorem Nu:∀{cs:List lT}{xs ys:List ba},pr r os s cs xs=some ys→ys.length=xs.length
 | [],[],_,hn=>by obtain rfl:=aX hn;rfl
 | [],_::_,_,hn=>by cases hn
 |_::_,[],_,hn=>by cases hn
 |c::cs,x::xs,ys,hn=>by simp only[pr]at hn;obtain⟨y,h1,hn⟩:=bb hn;obtain⟨WD,h2,hn⟩:=bb hn;obtain rfl:=aX hn;simp[Nu h2]
theorem WE(bS:np r os s s0){k:Nat}{p:Place}{A:Addr}(hc:hT os k=true)(cE:kQ r k p.id=true)(av:j2 s ι p A):j2 s0 (iota r ι) { p with id:=k } A:=by
 obtain⟨h1,h2⟩:=av;refine⟨h1,?_⟩;show match (s0.o k).core with|.var _ cs=>_|.row t _ _ xs=>_|_=>_
 rw[Ff cE];rcases bS k with⟨h0,_⟩|⟨ep,h0,⟨cQ,gN,WC,n4,gq,g1,g2,ge⟩|⟨n4,cs,mC,pv,g1,g2,_⟩⟩|⟨h0,cQ,gN,g2⟩
 ·rw[h0];trivial
 ·rw[tN cE]at h0;injection h0 with h0;injection h0 with h0;subst h0
  rw[g2];rw[g1]at h2;exact h2
 ·rw[tN cE]at h0;injection h0 with h0;injection h0 with h0;subst h0
  rw[g2];rw[g1]at h2;exact h2
 ·rw[tN cE]at h0;cases h0
theorem WG(h:Inv w0 F0 Z0 n s a w ι Z)(bS:np r os s s0){t:jI}{x y:a_}{v:Value}(hn:Fb r os s t x=some y)(hx:aV w Z s ι x v):aV w Z s0 (iota r ι) y v:=by
 unfold Fb at hn;split at hn
 ·obtain⟨z,h1,hn⟩:=bb hn;obtain rfl:=aX hn;simp only[aV]at hx⊢;exact Fg h bS h1 hx
 ·rename_i k;cases hc:(hT os k&&vV r k)
  ·rw[hc]at hn;cases hn
  rw[hc]at hn;simp only[Bool.and_eq_true]at hc;obtain rfl:=aX hn;simp only[aV]at hx⊢;exact Fg (c:=.af k) (x:=.nil .bool) h bS (by simp only[rN];rw[hc.1,hc.2];rfl) hx
 ·rename_i t dp;cases hc:dp.all (hT os)
  ·rw[hc]at hn;cases hn
  rw[hc]at hn;obtain rfl:=aX hn;simp only[aV]at hx⊢;refine Fg (c:=.bG t dp) (x:=.nil t) h bS ?_ hx;simp only[rN,hc,borrows,List.all_nil,Bool.and_true,cond_true];simp only[p9,eY];rw[dif_pos (ad.beq_refl _)];rfl
 ·obtain⟨z,h1,hn⟩:=bb hn;obtain rfl:=aX hn;simp only[aV]at hx⊢;obtain⟨vs,hv,hx⟩:=hx;exact⟨vs,hv,Fh h bS h1 hx⟩
 ·rename_i k p;cases hc:(hT os k&&kQ r k p.id)
  ·rw[hc]at hn;cases hn
  rw[hc]at hn;simp only[Bool.and_eq_true]at hc;obtain rfl:=aX hn;simp only[aV]at hx⊢;obtain⟨_,A,hv,av⟩:=hx;exact⟨bS.known hc.1,A,hv,WE bS hc.1 hc.2 av⟩
 ·rename_i dp cs ds xs off;cases hc:(dp.all (hT os)&&alive s ds&&ds.all fun d=>dp.any fun c=>kQ r c d.1)
  ·rw[hc]at hn;cases hn
  rw[hc]at hn;simp only[Bool.and_eq_true]at hc;simp only[cond_true]at hn;obtain⟨z,h1,hn⟩:=bb hn;obtain rfl:=aX hn;simp only[aV]at hx⊢;obtain⟨_,b,o,vs,hv,hx⟩:=hx;obtain⟨g1,g2,g3⟩:=hx hc.1.2;have lL:=WB (ι :=ι) (r:=r) (dp:=dp) (ds:=ds) fun d af=>List.all_eq_true.1 hc.2 d af
  refine⟨WA bS hc.1.1,b,o,vs,hv,fun _=>⟨Fh h bS h1 g1,g2,fun j hj=>?_⟩⟩;rw[Nu h1]at hj;exact(g3 j hj).elim .inl fun h=>.inr (lL _ _ h)
 ·rename_i k id o;cases hc:(hT os k&&kQ r k id)
  ·rw[hc]at hn;cases hn
  rw[hc]at hn;simp only[Bool.and_eq_true]at hc;obtain rfl:=aX hn;simp only[aV]at hx⊢;obtain⟨_,hx⟩:=hx;exact⟨bS.known hc.1,hx.imp (fun h=>h) fun⟨h1,A,hv,av⟩=>⟨h1,A,hv,WE (p:=⟨id,some o.toNat,0⟩) bS hc.1 hc.2 av⟩⟩
 ·obtain rfl:=aX hn;simpa only[aV]using hx
 ·obtain rfl:=aX hn;simp only[aV]
 ·obtain rfl:=aX hn;simpa only[aV,a8]using hx
 ·obtain rfl:=aX hn;simp only[aV]
 ·cases hn
theorem Fi(h:Inv w0 F0 Z0 n s a w ι Z)(bS:np r os s s0):∀{ak:List jI}{xs ys:List a_}{vs:List Value},y3 r os s ak xs=some ys→a8 w Z s ι xs vs→a8 w Z s0 (iota r ι) ys vs
 | [],[],ys,vs,hn,hx=>by obtain rfl:=aX hn;simpa only[a8]using hx
 | [],_::_,_,_,hn,_=>by cases hn
 |_::_,[],_,_,hn,_=>by cases hn
 |t::ak,x::xs,ys,vs,hn,hx=>by simp only[y3]at hn;obtain⟨y,h1,hn⟩:=bb hn;obtain⟨WD,h2,hn⟩:=bb hn;obtain rfl:=aX hn;simp only[a8]at hx⊢;obtain⟨v,bK,rfl,g1,g2⟩:=hx;exact⟨v,bK,rfl,WG h bS h1 g1,Fi h bS h2 g2⟩
theorem aim(h:Inv w0 F0 Z0 n s a w ι Z)(bS:np r os s s0){t:jI}{x y:a_}{v:Value}(hn:Nr r os s t x=some y)(hx:aV w Z s ι x v):aV w Z s0 (iota r ι) y v:=by
 unfold Nr at hn;split at hn
 ·obtain⟨U,h1,hn⟩:=bb hn;obtain⟨Bj,h2,hn⟩:=bb hn;obtain rfl:=aX hn;simp only[aV]at hx⊢;obtain⟨us,vs,rfl,k1,k2⟩:=hx;exact⟨us,vs,rfl,Fi h bS h1 k1,Fi h bS h2 k2⟩
 ·exact WG h bS hn hx
theorem WH(h:Inv w0 F0 Z0 n s a w ι Z)(bS:np r os s s0):∀{ak:List (Nat×jI)}{f:Nat→a_},Fc r os s ak=some f→∀k,aV w Z s0 (iota r ι) (f k) (a.tmps.getD k undef)
 | [],f,hn,k=>by obtain rfl:=aX hn;simp only[aV]
 |(d,t)::l,f,hn,k=>by
  simp only[Fc]at hn;obtain⟨v,h1,hn⟩:=bb hn;obtain⟨g,h2,hn⟩:=bb hn;obtain rfl:=aX hn;by_cases hk:d=k
  ·subst hk;rw[cM];exact aim h bS h1 (h.tmps d)
  ·rw[cX hk];exact WH h bS h2 k
theorem ain{c:Nat}{t:ja}{v:cD}(hn:Ns r os s c t=some v):
  (∃id,kr r c=some (some id)∧((∃t em pt ver xs,s.o id=.row t pt ver xs∧v=.row t em 0 xs∧(pt=em∨xs=[]))∨(∃ver cs mC pv,s.o id=.var ver cs∧v=.var 0 mC∧pr r os s pv cs=some mC)))∨(kr r c=some none∧∃t em,v=.row t em 0 []):=by
 unfold Ns at hn;split at hn
 ·rename_i id hl;refine .inl ⟨id,hl,?_⟩;split at hn
  ·rename_i t em u gN ver xs ho;cases hb:(bg.beq gN em||xs.isEmpty)
   ·rw[hb]at hn;cases hn
   rw[hb]at hn;obtain⟨x,h1,hn⟩:=bb hn;obtain rfl:=aX hn;simp only[Bool.or_eq_true]at hb;obtain⟨e,rfl⟩:=hK h1;subst e;refine .inl ⟨_,_,_,_,_,ho,rfl,?_⟩;rcases hb with hb|hb
   ·exact .inl (bg.eq_of_beq _ _ hb)
   ·exact .inr (List.isEmpty_iff.1 hb)
  ·rename_i cs ver xs ho;obtain⟨ys,h1,hn⟩:=bb hn;obtain rfl:=aX hn;exact .inr ⟨_,_,_,_,ho,rfl,h1⟩
  ·cases hn
 ·rename_i hl;split at hn
  ·obtain rfl:=aX hn;exact .inr ⟨hl,_,_,rfl⟩
  ·cases hn
 ·cases hn
theorem Fj:∀{l:List (Nat×ja)}{f:Nat→cD},Fe r os s l=some f→∀c,(f c=.none∧hT l c=false) ∨
  (∃id,kr r c=some (some id)∧((∃t em pt ver xs,s.o id=.row t pt ver xs∧f c=.row t em 0 xs∧(pt=em∨xs=[]))∨(∃ver cs mC pv,s.o id=.var ver cs∧f c=.var 0 mC∧pr r os s pv cs=some mC))) ∨
  (kr r c=some none∧∃t em,f c=.row t em 0 [])
 | [],f,hn,c=>by obtain rfl:=aX hn;exact .inl ⟨rfl,rfl⟩
 |(d,t)::l,f,hn,c=>by
  simp only[Fe]at hn;obtain⟨v,h1,hn⟩:=bb hn;obtain⟨g,h2,hn⟩:=bb hn;obtain rfl:=aX hn;by_cases hk:d=c
  ·subst hk;rw[cM];exact .inr (ain h1)
  ·rw[cX hk];rcases Fj h2 c with⟨g1,g2⟩|g
   ·refine .inl ⟨g1,?_⟩;unfold hT
    have:Nat.beq d c=false:=by
     cases hb:Nat.beq d c
     ·rfl
     ·exact absurd (Nat.eq_of_beq_eq_true hb) hk
    rw[this];exact g2
   ·exact .inr g
theorem Nv{c:Nat}{v:Option Nat}:∀{r:Ren},kr r c=some v→(c,v)∈r
 | [],h=>by cases h
 |(k,u)::l,h=>by
  unfold kr at h;cases hb:Nat.beq k c
  ·rw[hb]at h;exact List.mem_cons_of_mem _ (Nv h)
  ·rw[hb]at h;obtain rfl:=aX h;obtain rfl:=Nat.eq_of_beq_eq_true hb;exact List.mem_cons_self
theorem WI{c id:Nat}:∀{r:Ren},(c,some id)∈r→id∈tL r
 |(k,u)::l,h=>by
  rcases List.mem_cons.1 h with h|h
  ·injection h with h1 h2
   subst h1 h2;exact List.mem_cons_self
  ·have:=WI h
   cases u with
   |none=>exact this
   |some i=>exact List.mem_cons_of_mem _ this
theorem Nw{c c' id:Nat}:∀{r:Ren},qv (tL r)=true→(c,some id)∈r→(c',some id)∈r→c=c'
 |(k,u)::l,hn,h,h'=>by
  cases u with
  |none=>
   simp only[tL]at hn;rcases List.mem_cons.1 h with h|h
   ·injection h with _ h2;cases h2
   rcases List.mem_cons.1 h' with h'|h'
   ·injection h' with _ h2;cases h2
   exact Nw hn h h'
  |some i=>
   simp only[tL,qv,Bool.and_eq_true,Bool.not_eq_true']at hn;have bT:∀{x},(x,some i)∈l→False:=by intro x hx;have:=WI hx;have h3:=List.any_eq_false.1 hn.1 i this;simp at h3
   rcases List.mem_cons.1 h with g|g
   ·injection g with h1 h2;injection h2 with h2
    rcases List.mem_cons.1 h' with vX|vX
    ·injection vX with h3 h4;rw[h1,h3]
    ·exact(bT (h2▸vX)).elim
   ·rcases List.mem_cons.1 h' with vX|vX
    ·injection vX with h1 h2;injection h2 with h2
     exact(bT (h2▸g)).elim
    ·exact Nw hn.2 g vX
theorem aio{T:ib}(y4:n.gc=[])(hn:Nt T r s=some s0)(hs:c6 w0 F0 Z0 n s a w):c6 w0 F0 Z0 n s0 a w:=by
 obtain⟨ι,Z,h⟩:=hs;unfold Nt at hn;cases iM:(qv (tL r)&&qv (No r))
 ·rw[iM]at hn;cases hn
 rw[iM]at hn;simp only[Bool.and_eq_true]at iM;simp only[cond_true]at hn;obtain⟨aip,h1,hn⟩:=bb hn;obtain⟨cg,h2,hn⟩:=bb hn;obtain⟨aiq,h3,hn⟩:=bb hn;obtain rfl:=aX hn;have bS:np r T.os s ⟨aip,cg,aiq⟩:=Fj h2
 have live:∀c,(cg c).live→(∃id,kr r c=some (some id)∧(s.o id).live∧iota r ι c=ι id)∨(iota r ι c=⟨none,0,ah.none⟩):=by
  intro c hl;rcases Fj h2 c with⟨g,_⟩|⟨id,g,⟨t,em,pt,ver,xs,g1,g2,ge⟩|⟨ver,cs,mC,pv,g1,g2,_⟩⟩|⟨g,_⟩
  ·rw[g]at hl;exact hl.elim
  ·exact .inl ⟨id,g,by rw[g1];trivial,by unfold iota;rw[g]⟩
  ·exact .inl ⟨id,g,by rw[g1];trivial,by unfold iota;rw[g]⟩
  ·exact .inr (by unfold iota;rw[g])
 refine⟨iota r ι,Z,h.ext,h.dU,h.tl,h.jt,?_,?_,?_,?_,WH h bS h1,h.size,Fi h bS h3 h.ghost,by rw[y4];intro e he;simp at he,h.defers⟩
 ·intro c;show iG w Z _ _ _ (cg c);rcases Fj h2 c with⟨g,_⟩|⟨id,g,⟨t,em,pt,ver,xs,g1,g2,ge⟩|⟨ver,cs,mC,pv,g1,g2,g3⟩⟩|⟨g,t,em,g2⟩
  ·rw[g];trivial
  ·rw[g2];have:=h.gp id;rw[g1]at this;have hi:iota r ι c=ι id:=by unfold iota;rw[g]
   rw[hi];rcases ge with rfl|rfl
   ·exact this
   ·rcases this with k|⟨a0,k1,k2⟩
    ·exact .inl k
    ·obtain⟨k3,bn,bs,dh,G,ee,cW,gd⟩:=k2;exact .inr ⟨a0,k1,k3,bn,bs,dh,G,trivial,cW,gd⟩
  ·rw[g2];have:=h.gp id;rw[g1]at this;have hi:iota r ι c=ι id:=by unfold iota;rw[g]
   rw[hi];obtain⟨a0,vs,k1,k2,k3,bn,bs⟩:=this;exact⟨a0,vs,k1,k2,Fh h bS g3 k3,bn,fun j hj=>bs j (by rw[←Nu g3];exact hj)⟩
  ·rw[g2];exact .inl ⟨rfl,by unfold iota;rw[g]⟩
 ·intro c hl b o hf;rcases live c hl with⟨id,_,g2,g3⟩|g
  ·rw[g3]at hf;exact h.own id g2 b o hf
  ·rw[g]at hf;exact hf.elim
 ·intro c c' hl gC hne b o hf iY;rcases live c hl with⟨id,g1,g2,g3⟩|g
  ·rcases live c' gC with⟨ep,k1,k2,k3⟩|k
   ·rw[g3]at hf;rw[k3]at iY;refine h.apart id ep g2 k2 (fun e=>?_) b o hf iY;subst e;exact hne (Nw iM.1 (Nv g1) (Nv k1))
   ·rw[k]at iY;exact iY.elim
  ·rw[g]at hf;exact hf.elim
 ·intro c hl b o hf hz;rcases live c hl with⟨id,g1,g2,g3⟩|g
  ·rw[g3]at hf;exact h.db id g2 b o hf hz
  ·rw[g]at hf;exact hf.elim
theorem air{T:ib}(y4:n.gc=[])(hn:norm T s=some s0)(hs:c6 w0 F0 Z0 n s a w):c6 w0 F0 Z0 n s0 a w:=aio y4 hn hs
end
end Go.LM
namespace Go.LM
def Fk:List (Nat×List Item)→Nat→Option (List Item)
 | [],_=>none
 |(k,x)::l,r=>cond (Nat.beq k r) (some x) (Fk l r)
def WJ(body:Code)(bH:Nat):Option (List Item):=Fk (hp [.code body]) bH
def Bk:List (Nat×List Item)→List Nat
 | []=>[]
 |(k,_)::l=>k::Bk l
def Nx(body:Code):Bool:=qv (Bk (hp [.code body]))
theorem WK{k:Nat}{x:List Item}:∀{l:List (Nat×List Item)},(k,x)∈l→k∈Bk l
 |(k',bA)::l,h=>by
  rcases List.mem_cons.1 h with h|h
  ·injection h with h1 h2;rw[h1];exact List.mem_cons_self
  ·exact List.mem_cons_of_mem _ (WK h)
theorem WL{k:Nat}{x:List Item}:∀{l:List (Nat×List Item)},qv (Bk l)=true→(k,x)∈l→Fk l k=some x
 |(k',bA)::l,hn,h=>by
  simp only[Bk,qv,Bool.and_eq_true,Bool.not_eq_true']at hn;unfold Fk;rcases List.mem_cons.1 h with h|h
  ·injection h with h1 h2
   rw[h1,Nat.beq_refl,h2];rfl
  ·have hne:Nat.beq k' k=false:=by
    have h3:=List.any_eq_false.1 hn.1 k (WK h);cases hb:Nat.beq k' k
    ·rfl
    ·rw[Nat.eq_of_beq_eq_true hb]at h3;simp at h3
   rw[hne];exact WL hn.2 h
section
variable{bC:Type}
def Ny(hU:Nat→Option ib)(k:Nat→az→Option bC)(bH:Nat)(s:az):Option bC:=
 match hU bH with
 |some T=>(norm T s).bind (k bH)
 |none=>none
def Nz(hU:Nat→Option ib)(bH:Nat):Bool:=(hU bH).isSome
def NA(hU:Nat→Option ib)(fin:az→Option bC)(k:Nat→az→Option bC):Hand bC:=⟨fun r _ s=>Ny hU k r s,fin⟩
noncomputable def NB(E:Env)(hU:Nat→Option ib)(body:Code)(fin:az→Option bC)(k:Nat→az→Option bC)(bH:Nat)(s:az):Option bC:=
 match WJ body bH with
 |some todo=>kG E (Nz hU) (NA hU fin k) 100000 true todo s
 |none=>none
noncomputable def tO(E:Env)(hU:Nat→Option ib)(body:Code)(fin:az→Option bC):Nat→Nat→az→Option bC
 |0,_,_=>none
 |m+1,bH,s=>NB E hU body fin (tO E hU body fin m) bH s
end
def vY(E:Env):List ResultVar→az→Option (List a_)
 | [],_=>some []
 |.tmp t::l,s=>(vY E l s).bind fun vs=>some (s.t t::vs)
 |.cell a ty::l,s=>
  match E.ty ty,s.t a with
  |some T,.ptr p=>((mX s T.size p).bind (kE T)).bind fun v=>(vY E l s).bind fun vs=>some (v::vs)
  |_,_=>none
def nq(key:Nat):List bE→List a_→List a_
 |.fn mW _::_,_::l=>[.fn key (l.take mW) (l.drop mW)]
 |.val _ _::ps,v::l|.ic _::ps,v::l|.hI _ _::ps,v::l|.ref _::ps,v::l|.mut _ _ _::ps,v::l=>v::nq key ps l
 |_,_=>[]
def Fl:List bE→Bool
 | []=>true
 |.fn mW p7::l=>Nat.beq l.length (mW+p7)
 |.val _ _::l|.ic _::l|.hI _ _::l|.ref _::l|.mut _ _ _::l=>Fl l
def WM(key:Nat)(e:Entry)(x:(bE.ins e.ps).D):Option az:=
 (lS key e.ps x 1099511627776 ⟨fun _=>.bB,fun _=>.none,[]⟩).bind fun q=>some ⟨fun k=>(nq key e.ps q.1).getD k .bB,q.2.1.o,q.1⟩
def vZ(E:Env)(fn:Func)(e:Entry)(s:az):Option (c4.outs e.rs (bE.en e.ps)).D:=
 (vY E fn.results.toList s).bind fun vs=>hS e.ps s.g e.rs vs s
noncomputable def Bl(E:Env)(fn:Func)(body:Code)(hU:Nat→Option ib)(key:Nat)(e:Entry)(k:Nat→az→Option (c4.outs e.rs (bE.en e.ps)).D)(x:(bE.ins e.ps).D):Option (c4.outs e.rs (bE.en e.ps)).D:=
 (WM key e x).bind fun s=>kG E (Nz hU) (NA hU (vZ E fn e) k) 100000 false [.code body] s
section
variable{P:Program}{w0:World}{F0 Z0:ah}{n:cN}{s au:az}{a b8:Act}{w w':World}{ι bp:Nat→bI}{Z Z':ah}{E:Env}{bC:Type}{r:bC}
def ais(w0:World)(F0 Z0:ah)(n:cN)(fin:az→Option bC)(r:bC)(todo:List Item)(a:Act)(w:World):Prop:=
 (todo=[]∨∃k,todo=.code .ret::k)∧∃s,fin s=some r∧c6 w0 F0 Z0 n s a w
theorem WN{hU:Nat→Option ib}{body:Code}{fin:az→Option bC}(bS:kq P E)(hn:E.n=n)(y4:n.gc=[])(hu:Nx body=true):∀(m:Nat) (fuel:Nat) (first:Bool) (todo:List Item) (s:az) (a:Act) (w:World),
  (∀p,p∈hp todo→p∈hp [.code body])→kG E (Nz hU) (NA hU fin (tO E hU body fin m)) fuel first todo s=some r→c6 w0 F0 Z0 n s a w→∀(b:Frame) (cs:List Frame),
  ∃qu b8 w',ais w0 F0 Z0 n fin r qu b8 w'∧Steps P (lone (b.at a todo) cs w) (lone (b.at b8 qu) cs w')
 |m,fuel,first,todo,s,a,w,hc,hk,hs,b,cs=>by
  obtain⟨t1,s1,a1,oh,h1,h2,h3,h4⟩:=Wr bS hn fuel first todo s a w hk hs b cs
  rcases h2 with⟨bH,ops,iF,k,rfl,jz,rM⟩|⟨pw,hfin⟩
  ·have Bm:Ny hU (tO E hU body fin m) bH s1=some r:=rM;unfold Ny at Bm
   cases b5:hU bH with
   |none=>rw[b5]at Bm;cases Bm
   |some T=>
    rw[b5]at Bm;obtain⟨s2,g1,g2⟩:=bb Bm;have pc:=air y4 g1 h1
    cases m with
    |zero=>cases g2
    |succ m=>unfold tO NB at g2;have ln:(bH,(.code (.region bH ops iF)::k:List Item))∈hp [.code body]:=hc _ (h3 _ (by simp[hp,mB]));have ait:WJ body bH=some (.code (.region bH ops iF)::k):=WL hu ln;rw[ait]at g2;simp only at g2;obtain⟨cQ,b8,w',c2,eb⟩:=WN bS hn y4 hu m 100000 true _ s2 a1 oh (fun p av=>hc p (h3 p av)) g2 pc b cs;exact⟨cQ,b8,w',c2,h4.trans eb⟩
  ·exact⟨t1,a1,oh,⟨pw,s1,hfin,h1⟩,h4⟩
theorem nr{α:Type}:∀x:Sem α,x.bind .pure=x
 |.pure a=>rfl
 |.load m a k=>by simp only[Sem.bind];exact congrArg _ (funext fun v=>nr (k v))
 |.store m a v k=>by simp only[Sem.bind];exact congrArg _ (nr k)
 |.new o k=>by simp only[Sem.bind];exact congrArg _ (funext fun v=>nr (k v))
 |.shape r k=>by simp only[Sem.bind];exact congrArg _ (funext fun v=>nr (k v))
 |.freeze a n k=>by simp only[Sem.bind];exact congrArg _ (nr k)
 |.frozen a k=>by simp only[Sem.bind];exact congrArg _ (funext fun v=>nr (k v))
 |.getObj r k=>by simp only[Sem.bind];exact congrArg _ (funext fun v=>nr (k v))
 |.setObj r o k=>by simp only[Sem.bind];exact congrArg _ (nr k)
 |.choose q k=>by simp only[Sem.bind];exact congrArg _ (funext fun v=>nr (k v))
 |.sys c k=>by simp only[Sem.bind];exact congrArg _ (funext fun v=>nr (k v))
 |.program k=>by simp only[Sem.bind];exact congrArg _ (funext fun v=>nr (k v))
 |.mark m k=>by simp only[Sem.bind];exact congrArg _ (nr k)
 |.halt h=>rfl
theorem ns{α β aiu:Type}(f:α→Sem β)(g:β→Sem aiu):∀x:Sem α,(x.bind f).bind g=x.bind fun a=>(f a).bind g
 |.pure a=>rfl
 |.load m a k=>by simp only[Sem.bind];exact congrArg _ (funext fun v=>ns f g (k v))
 |.store m a v k=>by simp only[Sem.bind];exact congrArg _ (ns f g k)
 |.new o k=>by simp only[Sem.bind];exact congrArg _ (funext fun v=>ns f g (k v))
 |.shape r k=>by simp only[Sem.bind];exact congrArg _ (funext fun v=>ns f g (k v))
 |.freeze a n k=>by simp only[Sem.bind];exact congrArg _ (ns f g k)
 |.frozen a k=>by simp only[Sem.bind];exact congrArg _ (funext fun v=>ns f g (k v))
 |.getObj r k=>by simp only[Sem.bind];exact congrArg _ (funext fun v=>ns f g (k v))
 |.setObj r o k=>by simp only[Sem.bind];exact congrArg _ (ns f g k)
 |.choose q k=>by simp only[Sem.bind];exact congrArg _ (funext fun v=>ns f g (k v))
 |.sys c k=>by simp only[Sem.bind];exact congrArg _ (funext fun v=>ns f g (k v))
 |.program k=>by simp only[Sem.bind];exact congrArg _ (funext fun v=>ns f g (k v))
 |.mark m k=>by simp only[Sem.bind];exact congrArg _ (ns f g k)
 |.halt h=>rfl
instance:LawfulMonad Sem:=LawfulMonad.mk' Sem (fun x=>nr x) (fun _ _=>rfl) (fun x f g=>ns f g x)
theorem WO{α:Type}{f:α→Sem Value}:∀{as:List α}{vs:List Value},vs.length=as.length→(∀i (hi:i<as.length) (dr:i<vs.length),(f as[i]).run P w=.ok vs[i] w)→(as.mapM f).run P w=.ok vs w
 | [],[],_,_=>by rw[List.mapM_nil];exact run_pure _ _
 | [],_::_,h,_=>by simp at h
 |_::_,[],h,_=>by simp at h
 |x::as,v::vs,hl,h=>by have h0:=h 0 (by simp) (by simp);simp only[List.getElem_cons_zero]at h0;rw[List.mapM_cons,run_bind,h0];simp only[run_bind];rw[WO (as:=as) (vs:=vs) (by simpa using hl) fun i hi dr=>h (i+1) (by simpa using hi) (by simpa using dr)];simp only[run_pure]
theorem aiv{α:Type}{f:α→Sem Value}{as:Array α}{vs:List Value}(hl:vs.length=as.size)(h:∀i (hi:i<as.toList.length) (dr:i<vs.length),(f as.toList[i]).run P w=.ok vs[i] w):
  (as.mapM f).run P w=.ok vs.toArray w:=by
 rw[Array.mapM_eq_mapM_toList,map_eq_pure_bind,run_bind,WO (by simpa using hl) h];rfl
theorem NC(b5:hL P E)(h:Inv w0 F0 Z0 n s a w ι Z):∀{l:List ResultVar}{vs:List a_},vY E l s=some vs →
  ∃us,us.length=l.length∧a8 w Z s ι vs us∧∀i (hi:i<l.length) (dr:i<us.length),((fun|.tmp t=>pure (a.tmps.getD t undef)|.cell b t=>do loadVar t (←asAddr (a.tmps.getD b undef)):ResultVar→Sem Value) l[i]).run P w=.ok us[i] w
 | [],vs,hr=>by obtain rfl:=aX hr;exact⟨[],rfl,by simp only[a8],fun i hi=>by simp at hi⟩
 |.tmp t::l,vs,hr=>by
  simp only[vY]at hr;obtain⟨bK,h1,hr⟩:=bb hr;obtain rfl:=aX hr;obtain⟨us,g1,g2,g3⟩:=NC b5 h h1;refine⟨_::us,by simp[g1],by simp only[a8];exact⟨_,_,rfl,h.tmps t,g2⟩,fun i hi dr=>?_⟩
  cases i with
  |zero=>rfl
  |succ i=>exact g3 i (by simpa using hi) (by simpa using dr)
 |.cell b ty::l,vs,hr=>by
  simp only[vY]at hr
  cases ht:E.ty ty with
  |none=>rw[ht]at hr;simp at hr
  |some T=>
   rw[ht]at hr
   cases av:s.t b with
   |ptr p=>
    rw[av]at hr;simp only at hr;obtain⟨v,hv,hr⟩:=bb hr;obtain⟨bK,h1,hr⟩:=bb hr;obtain rfl:=aX hr;obtain⟨cs,k1,k2⟩:=bb hv;obtain⟨us,g1,g2,g3⟩:=NC b5 h h1;have hx:=h.tmps b;rw[av]at hx;simp only[aV]at hx;obtain⟨_,A,he,gx⟩:=hx;obtain⟨cV,i0,ws,rfl,hc,cE,hlen⟩:=AN h k1 gx;refine⟨dW T ws::us,by simp[g1],by simp only[a8];exact⟨_,_,rfl,qf k2 hc,g2⟩,fun i hi dr=>?_⟩
    cases i with
    |zero=>show(do loadVar ty (←asAddr (a.tmps.getD b undef)):Sem Value).run P w=_;rw[run_bind,he];show(loadVar ty (at_ cV i0)).run P w=_;exact L6 (b5.ty ty T ht) cE hlen
    |succ i=>exact g3 i (by simpa using hi) (by simpa using dr)
   |_=>rw[av]at hr;simp at hr
theorem aiw{fn:Func}{vs:List a_}(b5:hL P E)(h:Inv w0 F0 Z0 n s a w ι Z)(hr:vY E fn.results.toList s=some vs):
  ∃us,a8 w Z s ι vs us∧(results fn a.tmps).run P w=.ok (pe us) w:=by
 obtain⟨us,h1,h2,h3⟩:=NC b5 h hr;refine⟨us,h2,?_⟩;unfold results
 rw[run_bind,aiv (vs:=us) (by simpa using h1) (fun i hi dr=>by
  have:=h3 i hi dr;revert this
  cases fn.results.toList[i]<;>exact fun h=>h)]
 simp only;rw[run_pure];congr 1;unfold pe;split
 ·rename_i hs
  match us,hs with
  | [v],_=>rfl
  | [],hs=>simp at hs
  |_::_::_,hs=>simp at hs
 ·rename_i hs
  match us,hs with
  | [v],hs=>simp at hs
  | [],_=>rfl
  |_::_::_,_=>rfl
theorem aix(us:List Value)(m k:Nat):((us.toArray++Array.replicate m undef).getD k undef)=us.getD k undef:=by
 rw[Array.getD_eq_getD_getElem?,List.getD_eq_getElem?_getD];by_cases hk:k<us.length
 ·rw[Array.getElem?_append_left (by simpa using hk)];simp
 ·rw[Array.getElem?_append_right (by simpa using Nat.le_of_not_lt hk)];rw[List.getElem?_eq_none (by omega)];simp only[List.size_toArray,Option.getD_none];by_cases dy:k-us.length<m
  ·rw[Array.getElem?_eq_getElem (by simpa using dy)];simp
  ·rw[Array.getElem?_eq_none (by simpa using Nat.le_of_not_lt dy)];rfl
theorem a8.getD:∀{xs:List a_}{us:List Value},a8 w Z s ι xs us→∀k,aV w Z s ι (xs.getD k .bB) (us.getD k undef)
 | [],us,h,k=>by simp only[List.getD_nil,aV]
 |x::xs,us,h,k=>by
  simp only[a8]at h;obtain⟨u,aY,rfl,h1,h2⟩:=h
  cases k with
  |zero=>exact h1
  |succ k=>exact a8.getD h2 k
theorem a8.len:∀{xs:List a_}{us:List Value},a8 w Z s ι xs us→us.length=xs.length
 | [],us,h=>by simp only[a8]at h;rw[h];rfl
 |x::xs,us,h=>by simp only[a8]at h;obtain⟨u,aY,rfl,h1,h2⟩:=h;simp[a8.len h2]
theorem Fm:∀{t:ad}{m:bg}{x:t.D}{vs us:List Value}{F:ah},t.ar w Z m x vs F→gA (dW t vs::us)=gA us
 |.int k,_,_,_,_,_,h=>by simp only[ad.ar]at h;subst h;rfl
 |.bool,_,_,_,_,_,h=>by simp only[ad.ar]at h;subst h;rfl
 |.str,_,_,_,_,_,h=>by simp only[ad.ar]at h;obtain⟨b,rfl,_⟩:=h;rfl
 |.raw,_,_,_,_,_,h=>by simp only[ad.ar]at h;obtain⟨rfl,_,_,_,rfl⟩:=h;rfl
 |.sl t,.O e,_,_,_,_,h=>by simp only[ad.ar]at h;obtain⟨A,c,rfl,_⟩:=h;rfl
 |.sl t,.R,_,_,_,_,h=>by simp only[ad.ar]at h;obtain⟨A,c,rfl,_⟩:=h;rfl
 |.sl t,.S _,_,_,_,_,h=>by simp only[ad.ar]at h;obtain⟨A,c,rfl,_⟩:=h;rfl
 |.st ak,_,_,_,_,_,_=>rfl
theorem tP{key:Nat}:∀(ps:List bE) (x:(bE.ins ps).D) (e6:List Value) (F:ah),gP w Z key ps x e6 F→e6.length=ps.length
 | [],x,e6,F,h=>by rw[show e6=[] from h];rfl
 |.fn _ _::ps,x,e6,F,h=>by obtain⟨a,b,aY,rfl,_,h2⟩:=h;simp[tP ps x aY F h2]
 |.val _ _::ps,x,e6,F,h=>by obtain⟨v,aY,G,H,rfl,_,h2,_⟩:=h;simp[tP ps _ _ _ h2]
 |.ic _::ps,x,e6,F,h=>by obtain⟨v,aY,G,H,rfl,_,h2,_⟩:=h;simp[tP ps _ _ _ h2]
 |.hI _ _::ps,x,e6,F,h=>by obtain⟨v,aY,G,H,rfl,_,h2,_⟩:=h;simp[tP ps _ _ _ h2]
 |.ref _::ps,x,e6,F,h=>by obtain⟨b,o,v,aY,rfl,_,_,_,h2⟩:=h;simp[tP ps _ _ _ h2]
 |.mut _ _ _::ps,x,e6,F,h=>by obtain⟨b,o,v,aY,G,H,rfl,_,_,_,h2,_⟩:=h;simp[tP ps _ _ _ h2]
theorem a8.split:∀{q:List a_}{l k:List Value},a8 w Z s ι q (l++k)→a8 w Z s ι (q.take l.length) l∧a8 w Z s ι (q.drop l.length) k
 |q,[],k,h=>by simp only[List.length_nil,List.take_zero,List.drop_zero,a8];exact⟨trivial,h⟩
 | [],u::l,k,h=>by simp[a8]at h
 |v::q,u::l,k,h=>by
  simp only[List.cons_append,a8]at h;obtain⟨jD,us2,he,k1,k2⟩:=h;injection he with e3 dX
  subst e3 dX;obtain⟨h1,h2⟩:=a8.split (q:=q) (l:=l) (k:=k) k2;refine⟨?_,?_⟩
  ·simp only[List.length_cons,List.take_succ_cons,a8];exact⟨_,l,rfl,k1,h1⟩
  ·simpa only[List.length_cons,List.drop_succ_cons]using h2
theorem y5{key:Nat}:∀(ps:List bE) (x:(bE.ins ps).D) (e6 us:List Value) (F:ah) (q:List a_),Fl ps=true→gP w Z key ps x e6 F→e6=us++gA us→a8 w Z s ι q e6→a8 w Z s ι (nq key ps q) us
 | [],x,e6,us,F,q,_,hA,hg,hq=>by have hA:e6=[]:=hA;subst hA;obtain⟨rfl,_⟩:=List.append_eq_nil_iff.1 hg.symm;cases q<;>simp only[nq,a8]
 |.fn mW p7::ps,x,e6,us,F,q,cp,hA,hg,hq=>by
  obtain⟨a,b,aY,rfl,⟨ha,hb⟩,h2⟩:=hA;have hl:=tP _ _ _ _ h2;have au2:=Nat.eq_of_beq_eq_true cp
  cases us with
  |nil=>cases hg
  |cons u us=>
   injection hg with e1 e2
   subst e1;have hz:us=[]:=by have:=congrArg List.length e2;simp[gA]at this;exact List.length_eq_zero_iff.1 (by omega)
   subst hz;simp only[gA,List.nil_append,List.append_nil]at e2;subst e2
   cases q with
   |nil=>simp[a8]at hq
   |cons v q=>
    simp only[a8]at hq;obtain⟨jD,us2,he,_,k2⟩:=hq;injection he with e3 dX
    subst e3 dX;obtain⟨k3,bn⟩:=a8.split (l:=a.toList) (k:=b.toList) k2;simp only[nq,a8,aV];rw[Array.length_toList,ha]at k3 bn;exact⟨_,[],rfl,⟨a.toList,b.toList,by simp,k3,bn⟩,rfl⟩
 |.val t m::ps,x,e6,us,F,q,cp,hA,hg,hq=>by
  obtain⟨vs,aY,G,H,rfl,h1,h2,_⟩:=hA
  cases us with
  |nil=>cases hg
  |cons u us=>
   injection hg with e1 e2
   subst e1;rw[Fm h1]at e2
   cases q with
   |nil=>simp[a8]at hq
   |cons v q=>
    simp only[a8]at hq;obtain⟨jD,us2,he,k1,k2⟩:=hq;injection he with e3 dX
    subst e3 dX;simp only[nq,a8];exact⟨_,us,rfl,k1,y5 ps x.2 _ us _ q cp h2 e2 k2⟩
 |.ic t::ps,x,e6,us,F,q,cp,hA,hg,hq=>by
  obtain⟨vs,aY,G,H,rfl,h1,h2,_⟩:=hA
  cases us with
  |nil=>cases hg
  |cons u us=>
   injection hg with e1 e2
   subst e1;rw[Fm h1]at e2
   cases q with
   |nil=>simp[a8]at hq
   |cons v q=>
    simp only[a8]at hq;obtain⟨jD,us2,he,k1,k2⟩:=hq;injection he with e3 dX
    subst e3 dX;simp only[nq,a8];exact⟨_,us,rfl,k1,y5 ps x.2 _ us _ q cp h2 e2 k2⟩
 |.hI t m::ps,x,e6,us,F,q,cp,hA,hg,hq=>by
  obtain⟨vs,aY,G,H,rfl,h1,h2,_⟩:=hA
  cases us with
  |nil=>cases hg
  |cons u us=>
   injection hg with e1 e2
   subst e1;rw[Fm h1]at e2
   cases q with
   |nil=>simp[a8]at hq
   |cons v q=>
    simp only[a8]at hq;obtain⟨jD,us2,he,k1,k2⟩:=hq;injection he with e3 dX
    subst e3 dX;simp only[nq,a8];exact⟨_,us,rfl,k1,y5 ps x.2 _ us _ q cp h2 e2 k2⟩
 |.ref t::ps,x,e6,us,F,q,cp,hA,hg,hq=>by
  obtain⟨b,o,vs,aY,rfl,_,_,_,h2⟩:=hA
  cases us with
  |nil=>cases hg
  |cons u us=>
   injection hg with e1 e2
   subst e1;have e2:aY=us++gA us:=e2
   cases q with
   |nil=>simp[a8]at hq
   |cons v q=>
    simp only[a8]at hq;obtain⟨jD,us2,he,k1,k2⟩:=hq;injection he with e3 dX
    subst e3 dX;simp only[nq,a8];exact⟨_,us,rfl,k1,y5 ps x.2 _ us _ q cp h2 e2 k2⟩
 |.mut t m m'::ps,x,e6,us,F,q,cp,hA,hg,hq=>by
  obtain⟨b,o,vs,aY,G,H,rfl,_,_,_,h2,_⟩:=hA
  cases us with
  |nil=>cases hg
  |cons u us=>
   injection hg with e1 e2
   subst e1;have e2:aY=us++gA us:=e2
   cases q with
   |nil=>simp[a8]at hq
   |cons v q=>
    simp only[a8]at hq;obtain⟨jD,us2,he,k1,k2⟩:=hq;injection he with e3 dX
    subst e3 dX;simp only[nq,a8];exact⟨_,us,rfl,k1,y5 ps x.2 _ us _ q cp h2 e2 k2⟩
theorem aiy{f key:Nat}{fn:Func}{body:Code}{e:Entry}{hU:Nat→Option ib}(bS:kq P E)(hf:P.funcs[f]?=some fn)(hb:fn.body=some body)(jG:(fn.name == "runtime.NumGoroutine")=false)
  (hn:Nat.beq E.n fn.ntmps=true) (Fo:Fl e.ps=true) (hlen:Nat.ble e.ps.length fn.ntmps=true) (hu:Nx body=true)
  (hF:∀x r,e.f x=some r→∃m,Bl E fn body hU key e (tO E hU body (vZ E fn e) m) x=some r):Sound P f key e:=by
 refine⟨⟨fn,hf,by rw[hb];rfl,jG⟩,fun w Z F x us r hZ MS hap hA hx=>?_⟩;obtain⟨m,hm⟩:=hF x r hx;unfold Bl at hm;obtain⟨st,hst,hm⟩:=bb hm;unfold WM at hst;obtain⟨q,hq,hst⟩:=bb hst;obtain rfl:=aX hst;have rv:=tP _ _ _ _ hA;rw[List.length_append]at rv;have hle:=Nat.le_of_ble_eq_true hlen
 let a0:Act:={ tmps:=us.toArray++Array.replicate (fn.ntmps-us.toArray.size) undef,defers:=[] }
 have hsz:a0.tmps.size=fn.ntmps:=by simp[a0];omega
 have aiz:Inv w F Z ⟨fn.ntmps,[],[]⟩ ⟨fun _=>.bB,fun _=>.none,[]⟩ a0 w (fun _=>⟨none,0,ah.none⟩) Z:=Inv.start hZ hsz rfl;obtain⟨dL,i1,held,cT,og⟩:=vT e.ps x (us++gA us) _ _ _ F q hq aiz hA ⟨fun b o h=>⟨.inl h,MS b o h⟩,fun _ h=>h.elim,hap⟩
 have hinv:Inv w F Z ⟨fn.ntmps,us++gA us,[]⟩ ⟨fun k=>(nq key e.ps q.1).getD k .bB,q.2.1.o,q.1⟩ a0 w dL Z:=by
  have hm:e5 w Z q.2.1 dL w Z ⟨fun k=>(nq key e.ps q.1).getD k .bB,q.2.1.o,q.1⟩ dL:=LP rfl
  exact⟨i1.ext,i1.dU,i1.tl,i1.jt,fun id=>iG.move hm (id:=id) (fun _=>⟨rfl,rfl⟩) rfl (i1.gp id),i1.own,i1.apart,i1.db,
   fun k=>by
    show aV w Z _ dL ((nq key e.ps q.1).getD k .bB) ((us.toArray++Array.replicate (fn.ntmps-us.toArray.size) undef).getD k undef);rw[aix]
    exact(a8.move hm (y5 e.ps x _ us F q.1 Fo hA rfl cT)).getD k,hsz,a8.move hm cT,fun e he=>by simp at he,rfl⟩
 intro cs
 let cV:Frame:={ (default:Frame)with fn:=f,kind:=.normal }
 have aiA:Frame.enter P f us.toArray .normal=cV.at a0 [.code body]:=by simp[Frame.enter,Frame.at,hf,hb,cV,a0]
 obtain⟨cQ,b8,w',⟨pw,au,hfin,bp,Z',dr⟩,WQ⟩:=WN (n:=⟨fn.ntmps,us++gA us,[]⟩) bS (Nat.eq_of_beq_eq_true hn) rfl hu m 100000 false [.code body] _ a0 w (fun _ h=>h) hm ⟨dL,Z,hinv⟩ cV cs;unfold vZ at hfin;obtain⟨vs,hvs,hfin⟩:=bb hfin;obtain⟨dE,hr1,gZ⟩:=aiw bS.ty dr hvs;obtain⟨s2,ec,bR,kp,fe,EX,M4,VX⟩:=y2 e.rs vs dE au Z' r hfin dr dr.ghost hr1
 have Fp:Ends w Z F e us r (pe dE) w':=by
  refine⟨dE,bR,ec,rfl,dr.ext,kp.tl,fun b o hz=>?_,fun b o hf=>?_,EX.db,M4⟩
  ·rcases kp.dU b o hz with h1|h1|h1
   ·exact .inl h1
   ·exact .inr ⟨.inl h1,kp.jt b o hz⟩
   ·exact .inr ⟨.inr h1,kp.jt b o hz⟩
  ·exact EX.own b o hf
 rw[aiA];rcases pw with rfl|⟨k,rfl⟩
 ·exact⟨.returned (pe dE),w',_,⟨_,rfl,Fp⟩,Steps.trans WQ (.one step_end),rfl,rfl,dr.defers,rfl,fn,hf,gZ⟩
 ·exact⟨.returned (pe dE),w',_,⟨_,rfl,Fp⟩,Steps.trans WQ (.one step_ret),rfl,rfl,dr.defers,rfl,fn,hf,gZ⟩
end
end Go.LM
namespace Go.LM
mutual
def ad.tQ(P:Program):ad→TypeId→Bool
 |.int _,_=>true
 |.bool,_=>true
 |.str,_=>true
 |.sl _,_=>false
 |.raw,_=>false
 |.st ak,id=> !P.stoodInHeld id&&match P.underlying id with|some (.struct cF)=>ak.Fq P cF.toList|_=>false
def aA.Fq(P:Program):aA→List Field→Bool
 |.nil,_=>true
 |.cons t ak,cF=>match cF with
  |f::mm=>decide (f.name ≠ "_")&&t.tQ P f.type&&ak.Fq P mm
  | []=>false
end
mutual
def ad.deep:ad→Nat
 |.st ak=>ak.deep+1
 |_=>1
def aA.deep:aA→Nat
 |.nil=>0
 |.cons t ak=>t.deep+ak.deep
end
section
variable{P:Program}{w:World}{Z:ah}{s:az}{ι:Nat→bI}
theorem aiB{k:IntKind}{cs ds:List ba}{r:Bool×List ba×List ba}(h:(ad.int k).cmp cs ds=some r):∃x a y b,cs=.int k x::a∧ds=.int k y::b∧r=(x==y,a,b):=by
 cases cs with
 |nil=>simp[ad.cmp]at h
 |cons c a=>cases ds with
  |nil=>cases c<;>simp[ad.cmp]at h
  |cons d b=>
   cases c<;>cases d<;>simp only[ad.cmp]at h<;>first|(cases h;done)|skip
   rename_i k1 x k2 y;cases hk:(Nat.beq (dD k1) (dD k)&&Nat.beq (dD k2) (dD k))
   ·rw[hk]at h;cases h
   rw[hk]at h;simp only[Bool.and_eq_true]at hk;obtain rfl:=vk (Nat.eq_of_beq_eq_true hk.1);obtain rfl:=vk (Nat.eq_of_beq_eq_true hk.2);exact⟨x,a,y,b,rfl,rfl,(aX h).symm⟩
theorem aiC{cs ds:List ba}{r:Bool×List ba×List ba}(h:ad.bool.cmp cs ds=some r):∃x a y b,cs=.bool x::a∧ds=.bool y::b∧r=(x==y,a,b):=by
 cases cs with
 |nil=>simp[ad.cmp]at h
 |cons c a=>cases ds with
  |nil=>cases c<;>simp[ad.cmp]at h
  |cons d b=>
   cases c<;>try (simp[ad.cmp]at h;done)
   cases d<;>try (simp[ad.cmp]at h;done)
   simp only[ad.cmp]at h;exact⟨_,a,_,b,rfl,rfl,(aX h).symm⟩
theorem aiD{cs ds:List ba}{r:Bool×List ba×List ba}(h:ad.str.cmp cs ds=some r):∃x a y b,cs=.str x::a∧ds=.str y::b∧r=(bx x y,a,b):=by
 cases cs with
 |nil=>simp[ad.cmp]at h
 |cons c a=>cases ds with
  |nil=>cases c<;>simp[ad.cmp]at h
  |cons d b=>
   cases c<;>try (simp[ad.cmp]at h;done)
   cases d<;>try (simp[ad.cmp]at h;done)
   simp only[ad.cmp]at h;exact⟨_,a,_,b,rfl,rfl,(aX h).symm⟩
theorem ND{c c':ba}{a b:List ba}{us vs:List Value}(h1:bO w Z s ι (c::a) us)(h2:bO w Z s ι (c'::b) vs):
  ∃u us2 v vs2,us=u::us2∧vs=v::vs2∧cz w Z s ι c u∧cz w Z s ι c' v∧bO w Z s ι a us2∧bO w Z s ι b vs2:=by
 cases us with
 |nil=>exact h1.elim
 |cons u us=>cases vs with
  |nil=>exact h2.elim
  |cons v vs=>exact⟨u,us,v,vs,rfl,rfl,h1.1,h2.1,h1.2,h2.2⟩
mutual
theorem ad.Bn:∀(t:ad) (id:TypeId) (d:Nat) {cs ds:List ba}{r:Bool×List ba×List ba}{us vs:List Value},t.ok P id→t.tQ P id=true→t.deep≤d→t.cmp cs ds=some r →
  bO w Z s ι cs us→bO w Z s ι ds vs→∃us1 us2 vs1 vs2,us=us1++us2∧vs=vs1++vs2∧us1.length=t.size∧vs1.length=t.size∧bO w Z s ι r.2.1 us2∧bO w Z s ι r.2.2 vs2 ∧
   (Op.equalIn d id (dW t us1) (dW t vs1)).run P w=.ok r.1 w
 |.int k,id,0,cs,ds,r,us,vs,ho,hc,af,h,h1,h2=>by simp[ad.deep]at af
 |.int k,id,d+1,cs,ds,r,us,vs,ho,hc,af,h,h1,h2=>by simp only[ad.ok]at ho;obtain⟨x,a,y,b,rfl,rfl,rfl⟩:=aiB h;obtain⟨u,us2,v,vs2,rfl,rfl,e1,e2,g1,g2⟩:=ND h1 h2;simp only[cz]at e1 e2;subst e1 e2;exact⟨[_],us2,[_],vs2,rfl,rfl,rfl,rfl,g1,g2,run_equalIn_int w d id _ _ x y ho.1⟩
 |.bool,id,0,cs,ds,r,us,vs,ho,hc,af,h,h1,h2=>by simp[ad.deep]at af
 |.bool,id,d+1,cs,ds,r,us,vs,ho,hc,af,h,h1,h2=>by simp only[ad.ok]at ho;obtain⟨x,a,y,b,rfl,rfl,rfl⟩:=aiC h;obtain⟨u,us2,v,vs2,rfl,rfl,e1,e2,g1,g2⟩:=ND h1 h2;simp only[cz]at e1 e2;subst e1 e2;exact⟨[_],us2,[_],vs2,rfl,rfl,rfl,rfl,g1,g2,run_equalIn_bool w d id x y ho.1⟩
 |.str,id,0,cs,ds,r,us,vs,ho,hc,af,h,h1,h2=>by simp[ad.deep]at af
 |.str,id,d+1,cs,ds,r,us,vs,ho,hc,af,h,h1,h2=>by simp only[ad.ok]at ho;obtain⟨x,a,y,b,rfl,rfl,rfl⟩:=aiD h;obtain⟨u,us2,v,vs2,rfl,rfl,e1,e2,g1,g2⟩:=ND h1 h2;obtain⟨yw,rfl,rfl⟩:=e1;obtain⟨yx,rfl,rfl⟩:=e2;refine⟨[_],us2,[_],vs2,rfl,rfl,rfl,rfl,g1,g2,?_⟩;rw[←UT];exact run_equalIn_string w d id yw yx ho.1
 |.raw,id,d,cs,ds,r,us,vs,ho,hc,af,h,h1,h2=>by simp[ad.tQ]at hc
 |.sl t,id,d,cs,ds,r,us,vs,ho,hc,af,h,h1,h2=>by simp[ad.tQ]at hc
 |.st ak,id,0,cs,ds,r,us,vs,ho,hc,af,h,h1,h2=>by simp[ad.deep]at af
 |.st ak,id,d+1,cs,ds,r,us,vs,ho,hc,af,h,h1,h2=>by
  simp only[ad.ok]at ho;obtain⟨_,cF,hu,NF⟩:=ho;simp only[ad.tQ,Bool.and_eq_true,Bool.not_eq_true',hu]at hc;simp only[ad.deep]at af;simp only[ad.cmp]at h;obtain⟨us1,us2,vs1,vs2,e1,e2,dI,eP,g1,g2,g3⟩:=aA.Bn ak cF.toList 0 d [] [] NF hc.2 (by omega) h h1 h2 rfl rfl;refine⟨us1,us2,vs1,vs2,e1,e2,dI,eP,g1,g2,?_⟩;have lM:P.fieldsOf id=cF:=by simp[Program.fieldsOf,hu]
  show(Op.equalIn (d+1) id (.agg us1.toArray) (.agg vs1.toArray)).run P w=_;rw[run_equalIn_struct w d id us1.toArray vs1.toArray (by rw[lM];exact hu) hc.1,lM];have:=g3 [] [];simpa using this
theorem aA.Bn:∀(ak:aA) (cF:List Field) (off d:Nat) {cs ds:List ba}{r:Bool×List ba×List ba}{us vs:List Value} (pre v7:List Value),ak.okF P cF off→ak.Fq P cF=true→ak.deep≤d→ak.cmp cs ds=some r →
  bO w Z s ι cs us→bO w Z s ι ds vs→pre.length=off→v7.length=off→∃us1 us2 vs1 vs2,us=us1++us2∧vs=vs1++vs2∧us1.length=ak.size∧vs1.length=ak.size∧bO w Z s ι r.2.1 us2∧bO w Z s ι r.2.2 vs2 ∧
   ∀dK Bo:List Value,(Op.eqFields d (pre++us1++dK).toArray (v7++vs1++Bo).toArray cF).run P w=.ok r.1 w
 |.nil,cF,off,d,cs,ds,r,us,vs,pre,v7,ho,hc,af,h,h1,h2,av,jx=>by simp only[aA.okF]at ho;subst ho;obtain rfl:=aX h;exact⟨[],us,[],vs,rfl,rfl,rfl,rfl,h1,h2,fun _ _=>by simp only[Op.eqFields];exact run_pure _ _⟩
 |.cons t ak,cF,off,d,cs,ds,r,us,vs,pre,v7,ho,hc,af,h,h1,h2,av,jx=>by
  simp only[aA.okF]at ho;obtain⟨f,mm,rfl,fW,ni,kK⟩:=ho;simp only[aA.Fq,Bool.and_eq_true,decide_eq_true_eq]at hc;simp only[aA.deep]at af;simp only[aA.cmp]at h;obtain⟨bF,k1,h⟩:=bb h;obtain⟨cq,k2,h⟩:=bb h;obtain rfl:=aX h;obtain⟨a1,a2,jw,nZ,rfl,rfl,dI,eP,g1,g2,g3⟩:=ad.Bn t f.type d ni hc.1.2 (by omega) k1 h1 h2;obtain⟨a3,a4,o_,AR,rfl,rfl,o9,qe,g4,g5,g6⟩:=aA.Bn ak mm (off+t.size) d (pre++a1) (v7++jw) kK hc.2 (by omega) k2 g1 g2 (by simp;omega) (by simp;omega);refine⟨a1++a3,a4,jw++o_,AR,by simp,by simp,by simp[aA.size];omega,by simp[aA.size];omega,g4,g5,fun dK Bo=>?_⟩;have eD:=Ma (P:=P) (w:=w) ni (cs:=pre++(a1++a3)++dK) (k:=off) (by simp;omega);have fb:=Ma (P:=P) (w:=w) ni (cs:=v7++(jw++o_)++Bo) (k:=off) (by simp;omega);have c2:((pre++(a1++a3)++dK).drop off).take t.size=a1:=by rw[←av,←dI];simp
  have eb:((v7++(jw++o_)++Bo).drop off).take t.size=jw:=by rw[←jx,←eP];simp
  rw[c2]at eD;rw[eb]at fb;simp only[Op.eqFields];rw[if_pos hc.1.1,run_bind,fW,eD];simp only;rw[run_bind,fb];simp only;rw[run_bind,g3];simp only;cases hr:bF.1
  ·simp only[Bool.not_false,if_true,Bool.false_and];exact run_pure _ _
  ·simp only[Bool.not_true,Bool.false_eq_true,if_false,Bool.true_and];have:=g6 dK Bo;simpa using this
end
def vi(P:Program):List (Nat×ad)→List Nat→Bool
 |_,[]=>true
 |tab,k::l=>(match P.underlying k with|some (.struct _)=>true|_=>false) && !P.eqGuardType P.depth k&&(tab.all fun x=> !Nat.beq x.1 k||x.2.tQ P k&&Nat.ble x.2.deep 10000)&&vi P tab l
theorem WR{tab:List (Nat×ad)}{k:Nat}:∀{l:List Nat},vi P tab l=true→k∈l→(∃cF,P.underlying k=some (.struct cF))∧P.eqGuardType P.depth k=false∧∀T,(k,T)∈tab→T.tQ P k=true∧T.deep≤10000
 |x::l,h,hm=>by
  simp only[vi,Bool.and_eq_true,Bool.not_eq_true']at h;rcases List.mem_cons.1 hm with rfl|hm
  ·refine⟨?_,h.1.1.2,fun T b5=>?_⟩
   ·have h1:=h.1.1.1;split at h1
    ·rename_i cF hk;exact⟨cF,hk⟩
    ·cases h1
   ·have h2:=List.all_eq_true.1 h.1.2 _ b5;rw[Nat.beq_refl]at h2;simp only[Bool.not_true,Bool.false_or,Bool.and_eq_true]at h2;exact⟨h2.1,Nat.le_of_ble_eq_true h2.2⟩
  ·exact WR h.2 hm
theorem aiE{T:ad}{k:Nat}(ho:T.ok P k)(hu:∃cF,P.underlying k=some (.struct cF))(aB:P.eqGuardType P.depth k=false)(hc:T.tQ P k=true)(af:T.deep≤10000)(op:BinOp)(xo yo:Operand)(w:World)(Z:ah)(s:az)(ι:Nat→bI)
  (cs ds:List ba) (us vs:List Value) (q:Bool) (h1:bO w Z s ι cs us) (h2:bO w Z s ι ds vs) (h:T.cmp cs ds=some (q,[],[])):
  (eqGuard op k xo yo (.agg us.toArray) (.agg vs.toArray)).run P w=.ok () w∧(op=.eql→(binOp op k (.agg us.toArray) (.agg vs.toArray)).run P w=.ok (.bool q) w) ∧
   (op=.neq→(binOp op k (.agg us.toArray) (.agg vs.toArray)).run P w=.ok (.bool (!q)) w):=by
 obtain⟨us1,us2,vs1,vs2,rfl,rfl,dI,eP,g1,g2,g3⟩:=ad.Bn T k 10000 ho hc af h h1 h2;have fw:us2=[]:=by cases us2 with|nil=>rfl|cons=>exact g1.elim
 have kH:vs2=[]:=by cases vs2 with|nil=>rfl|cons=>exact g2.elim
 subst fw kH
 have b5:∃ak,T=.st ak:=by
  obtain⟨cF,hu⟩:=hu
  cases T with
  |st ak=>exact⟨ak,rfl⟩
  |int=>simp only[ad.ok]at ho;rw[hu]at ho;cases ho.1
  |bool=>simp only[ad.ok]at ho;rw[hu]at ho;cases ho.1
  |str=>simp only[ad.ok]at ho;rw[hu]at ho;cases ho.1
  |sl t=>simp only[ad.ok]at ho;obtain⟨_,e,he,_⟩:=ho;rw[hu]at he;cases he
  |raw=>simp only[ad.ok]at ho;obtain⟨_,e,he⟩:=ho;rw[hu]at he;cases he
 obtain⟨ak,rfl⟩:=b5;simp only[List.append_nil];have heq:(Op.equal k (.agg us1.toArray) (.agg vs1.toArray)).run P w=.ok q w:=g3;refine⟨?_,?_,?_⟩
 ·unfold eqGuard;cases op<;>try rfl
  all_goals
   have aiF:∀w:World,(program:Sem Program).run P w=.ok P w:=fun _=>rfl
   simp only[Bool.not_true,Bool.false_eq_true,if_false,run_bind,aiF,aB,Bool.not_false,if_true];rfl
 ·rintro rfl
  show(do pure (.bool (←Op.equal k _ _)):Sem Value).run P w=_;rw[run_bind,heq];rfl
 ·rintro rfl
  show(do pure (.bool (!(←Op.equal k _ _))):Sem Value).run P w=_;rw[run_bind,heq];rfl
end
end Go.LM
namespace Go.LM
def zeroV:Value→Value→Bool
 |.int k x,.int k' y=>Nat.beq (dD k) (dD k')&&decide (x=y)
 |.bool a,.bool b=>a==b
 |.string a,.string b=>decide (a.data.toList=b.data.toList)
 |.slice none 0 0,.slice none 0 0=>true
 |_,_=>false
theorem WS{u v:Value}(h:zeroV u v=true):u=v:=by
 unfold zeroV at h;split at h
 ·simp only[Bool.and_eq_true,decide_eq_true_eq]at h;rw[vk (Nat.eq_of_beq_eq_true h.1),h.2]
 ·rw[eq_of_beq h]
 ·rename_i a b;have h:=of_decide_eq_true h;obtain⟨⟨a⟩⟩:=a;obtain⟨⟨b⟩⟩:=b;simp only at h;rw[h]
 ·rfl
 ·cases h
def Fs:List Value→List Value→Bool
 | [],[]=>true
 |u::us,v::vs=>cond (zeroV u v) (Fs us vs) false
 |_,_=>false
theorem WT:∀{us vs:List Value},Fs us vs=true→us=vs
 | [],[],_=>rfl
 |u::us,v::vs,h=>by
  unfold Fs at h;cases h1:zeroV u v
  ·rw[h1]at h;cases h
  ·rw[h1]at h;rw[WS h1,WT h]
 | [],_::_,h=>by cases h
 |_::_,[],h=>by cases h
def NG(t:ad)(v:Value):Bool:=
 match t,v with
 |.st ak,.agg cs=>Fs cs.toList ak.cU
 |.st _,_=>false
 |.sl _,v=>zeroV v (.slice none 0 0)
 |t,v=>zeroV v (t.cU.headD undef)
theorem aiG{t:ad}{v:Value}(h:NG t v=true):v=dW t t.cU:=by
 cases t with
 |st ak=>
  cases v<;>simp only[NG]at h<;>try (cases h;done)
  rename_i cs;show Value.agg cs=.agg ak.cU.toArray;rw[←WT h]
 |_=>exact WS h
def tT(P:Program)(id:TypeId)(t:ad):Bool:=
 match P.info? id with
 |some i=>Nat.beq i.size t.size&&(match i.zero with|some v=>NG t v|none=>false)&&Nat.ble i.bytes 2048
 |none=>false
theorem y6{P:Program}{id:TypeId}{t:ad}(h:tT P id t=true):ml P id t:=by
 unfold tT at h
 cases hi:P.info? id with
 |none=>rw[hi]at h;cases h
 |some i=>
  rw[hi]at h;simp only[Bool.and_eq_true]at h;refine⟨i,hi,Nat.eq_of_beq_eq_true h.1.1,?_,Nat.le_of_ble_eq_true h.2⟩;have h2:=h.1.2
  cases hz:i.zero with
  |none=>rw[hz]at h2;cases h2
  |some v=>rw[hz]at h2;rw[aiG h2]
mutual
def ad.okB(P:Program):ad→TypeId→Bool
 |.int k,id=>(match P.underlying id with|some (.int k')=>Nat.beq (dD k') (dD k)|_=>false)&&tT P id (.int k)
 |.bool,id=>(match P.underlying id with|some .bool=>true|_=>false)&&tT P id .bool
 |.str,id=>(match P.underlying id with|some .string=>true|_=>false)&&tT P id .str
 |.raw,id=>tT P id .raw&&match P.underlying id with|some (.slice _)=>true|_=>false
 |.sl t,id=>tT P id (.sl t)&&match P.underlying id with|some (.slice e)=>t.okB P e|_=>false
 |.st ak,id=>tT P id (.st ak)&&match P.underlying id with|some (.struct cF)=>ak.y7 P cF.toList 0|_=>false
def aA.y7(P:Program):aA→List Field→Nat→Bool
 |.nil,cF,_=>cF.isEmpty
 |.cons t ak,cF,off=>match cF with
  |f::mm=>Nat.beq f.offset off&&t.okB P f.type&&ak.y7 P mm (off+t.size)
  | []=>false
end
mutual
theorem ad.Ft{P:Program}:∀(t:ad) (id:TypeId),t.okB P id=true→t.ok P id
 |.int k,id,h=>by
  simp only[ad.okB,Bool.and_eq_true]at h;refine⟨?_,y6 h.2⟩;have h1:=h.1;split at h1
  ·rename_i k' hk;rw[hk,vk (Nat.eq_of_beq_eq_true h1)]
  ·cases h1
 |.bool,id,h=>by
  simp only[ad.okB,Bool.and_eq_true]at h;refine⟨?_,y6 h.2⟩;have h1:=h.1;split at h1
  ·rename_i hk;exact hk
  ·cases h1
 |.str,id,h=>by
  simp only[ad.okB,Bool.and_eq_true]at h;refine⟨?_,y6 h.2⟩;have h1:=h.1;split at h1
  ·rename_i hk;exact hk
  ·cases h1
 |.raw,id,h=>by
  simp only[ad.okB,Bool.and_eq_true]at h;refine⟨y6 h.1,?_⟩;have h1:=h.2;split at h1
  ·rename_i e hk;exact⟨e,hk⟩
  ·cases h1
 |.sl t,id,h=>by
  simp only[ad.okB,Bool.and_eq_true]at h;refine⟨y6 h.1,?_⟩;have h1:=h.2;split at h1
  ·rename_i e hk;exact⟨e,hk,ad.Ft t e h1⟩
  ·cases h1
 |.st ak,id,h=>by
  simp only[ad.okB,Bool.and_eq_true]at h;refine⟨y6 h.1,?_⟩;have h1:=h.2;split at h1
  ·rename_i cF hk;exact⟨cF,hk,aA.WU ak _ _ h1⟩
  ·cases h1
theorem aA.WU{P:Program}:∀(ak:aA) (cF:List Field) (off:Nat),ak.y7 P cF off=true→ak.okF P cF off
 |.nil,cF,off,h=>by simp only[aA.y7,List.isEmpty_iff]at h;exact h
 |.cons t ak,cF,off,h=>by
  cases cF with
  |nil=>simp[aA.y7]at h
  |cons f cF=>simp only[aA.y7,Bool.and_eq_true]at h;exact⟨f,cF,rfl,Nat.eq_of_beq_eq_true h.1.1,ad.Ft t _ h.1.2,aA.WU ak _ _ h.2⟩
end
def y8:List (Nat×ad)→Nat→Option ad
 | [],_=>none
 |(k,t)::l,i=>cond (Nat.beq k i) (some t) (y8 l i)
def vg(P:Program):List (Nat×ad)→Bool
 | []=>true
 |(k,t)::l=>t.okB P k&&vg P l
theorem NH{P:Program}{i:Nat}{T:ad}:∀{l:List (Nat×ad)},vg P l=true→y8 l i=some T→T.ok P i
 |(k,t)::l,h,hl=>by
  simp only[vg,Bool.and_eq_true]at h;unfold y8 at hl;cases hb:Nat.beq k i
  ·rw[hb]at hl;exact NH h.2 hl
  ·rw[hb]at hl;obtain rfl:=aX hl;obtain rfl:=Nat.eq_of_beq_eq_true hb;exact ad.Ft _ _ h.1
def v8:List Nat→Nat→Bool
 | [],_=>false
 |k::l,i=>cond (Nat.beq k i) true (v8 l i)
def vh(P:Program):List Nat→Bool
 | []=>true
 |k::l=>(match P.underlying k with|some (.pointer _)=>true|_=>false)&&vh P l
theorem WV{P:Program}{i:Nat}:∀{l:List Nat},vh P l=true→v8 l i=true→∃e,P.underlying i=some (.pointer e)
 |k::l,h,hl=>by
  simp only[vh,Bool.and_eq_true]at h;unfold v8 at hl;cases hb:Nat.beq k i
  ·rw[hb]at hl;exact WV h.2 hl
  ·obtain rfl:=Nat.eq_of_beq_eq_true hb;have h1:=h.1;split at h1
   ·rename_i e hk;exact⟨e,hk⟩
   ·cases h1
def Fu:List (Nat×Entry)→Nat→Nat→Option Entry
 | [],_,_=>none
 |(k,e)::l,f,key=>cond (Nat.blt f 1000000&&Nat.beq k (f+1000000*key)) (some e) (Fu l f key)
def tU(P:Program):List (Nat×Entry)→Prop
 | []=>True
 |(k,e)::l=>iD P (k%1000000) (k / 1000000) e∧tU P l
theorem WW{P:Program}{f key:Nat}{e:Entry}:∀{l:List (Nat×Entry)},tU P l→Fu l f key=some e→iD P f key e
 |(k,gX)::l,h,hl=>by
  unfold Fu at hl;cases hb:(Nat.blt f 1000000&&Nat.beq k (f+1000000*key))
  ·rw[hb]at hl;exact WW h.2 hl
  ·rw[hb]at hl;obtain rfl:=aX hl;simp only[Bool.and_eq_true]at hb;have h1:=hb.1;rw[Nat.blt_eq]at h1;obtain rfl:=Nat.eq_of_beq_eq_true hb.2;have h2:=h.1;rw[show(f+1000000*key)%1000000=f by omega,show(f+1000000*key) / 1000000=key by omega]at h2;exact h2
def WX(n:Nat)(tab:List (Nat×ad))(mV eqs:List Nat)(fns:List (Nat×Entry)):Env:=⟨n,y8 tab,v8 eqs,v8 mV,Fu fns⟩
theorem WY{i:Nat}:∀{l:List Nat},v8 l i=true→i∈l
 |k::l,h=>by
  unfold v8 at h;cases hb:Nat.beq k i
  ·rw[hb]at h;exact List.mem_cons_of_mem _ (WY h)
  ·rw[Nat.eq_of_beq_eq_true hb];exact List.mem_cons_self
theorem WZ{i:Nat}{T:ad}:∀{l:List (Nat×ad)},y8 l i=some T→(i,T)∈l
 |(k,t)::l,hl=>by
  unfold y8 at hl;cases hb:Nat.beq k i
  ·rw[hb]at hl;exact List.mem_cons_of_mem _ (WZ hl)
  ·rw[hb]at hl;obtain rfl:=aX hl;rw[Nat.eq_of_beq_eq_true hb];exact List.mem_cons_self
theorem aiH{P:Program}{n:Nat}{tab:List (Nat×ad)}{mV eqs:List Nat}{fns:List (Nat×Entry)}(ht:vg P tab=true)(av:vh P mV=true)(he:vi P tab eqs=true)(hf:tU P fns)(hm:P.follows .mixedOrders=true):kq P (WX n tab mV eqs fns):=by refine⟨⟨fun id T h=>NH ht h,fun id h=>WV av h⟩,fun id T h b5=>?_,fun f key e h=>WW hf h,hm⟩;obtain⟨h1,h2,h3⟩:=WR he (WY h);obtain⟨h4,a6⟩:=h3 T (WZ b5);exact aiE (NH ht b5) h1 h2 h4 a6
@[irreducible] def aK:Nat:=18446744073709551616
end Go.LM
namespace Go.LM
open Go.ChangeShapes Go.WideShapes Go.ChangeAt Go.RowKit
open Go.ChangeMaps (open_string shut_string)
mutual
def ad.fm:(t:ad)→t.D→Prop
 |.int k,x=>(Lit.int k x).wf=true
 |.bool,_=>True
 |.str,x=>x.length≤maxLen
 |.raw,_=>True
 |.sl t,xs=>xs.length≤maxLen∧∀y,y∈xs→t.fm y
 |.st ak,x=>ak.fm x
def aA.fm:(ak:aA)→ak.D→Prop
 |.nil,_=>True
 |.cons t ak,x=>t.fm x.1∧ak.fm x.2
end
mutual
def ad.om:ad→Bool
 |.sl t=>Nat.blt 0 t.size&&t.om
 |.raw=>false
 |.st ak=>ak.om
 |_=>true
def aA.om:aA→Bool
 |.nil=>true
 |.cons t ak=>t.om&&ak.om
end
def rO:(ps:List bE)→(bE.ins ps).D→Prop
 | [],_=>True
 |.fn _ _::l,x=>rO l x
 |.val t _::l,x=>t.fm x.1∧rO l x.2
 |.ic t::l,x=>t.fm x.1∧rO l x.2
 |.hI t _::l,x=>t.fm x.1∧rO l x.2
 |.ref t::l,x=>t.fm x.1∧rO l x.2
 |.mut t _ _::l,x=>t.fm x.1∧rO l x.2
def NI:(rs:List c4)→(ak:aA)→(c4.outs rs ak).D→Prop
 | [.val .bool .R],_,r=>r.1=true
 |_,_,_=>False
section
variable{H:Type}{enc:TypeId×Value→H}{P:Program}{w W W':World}{base:Nat}{spare:Nat→Bool}{held:Bool}{fuel:Nat}
def Old(w:World):ah:=fun b _=>b<w.heap.size
theorem aiI{a:Addr}{v:Value}(h:w.cell? a=some v):a.block<w.heap.size:=by
 rcases Nat.lt_or_ge a.block w.heap.size with h1|h1
 ·exact h1
 ·simp[World.cell?,Array.getElem?_eq_none h1]at h
theorem NJ{t:ad}{id:TypeId}(h:t.ok P id):P.cellsOf id=t.size:=by obtain⟨i,h1,h2,_⟩:=h.info;unfold Program.cellsOf;rw[h1];exact h2
theorem W0{a:Addr}{k:Nat}{cs:List Value}(h:w.cells? base a k=some cs):cs.length=k∧∀i v,cs[i]?=some v→w.cell? (a.add i)=some v:=by
 unfold World.cells? at h;split at h
 ·have hl:cs.length=k:=by
   have:=List.W4 h;simpa using this
  refine⟨hl,fun i v hv=>?_⟩;have hi:i<k:=by rw[←hl];exact(List.getElem?_eq_some_iff.1 hv).1
  have:=W5 h i (by simpa using hi);rw[hv]at this;simpa using this.symm
 ·cases h
where
 List.W4 {α β:Type}{f:α→Option β}:∀{l:List α}{r:List β},l.mapM f=some r→r.length=l.length
  | [],r,h=>by simp at h;subst h;rfl
  |x::l,r,h=>by rw[List.mapM_cons]at h;simp only[Option.bind_eq_bind,Option.bind_eq_some_iff]at h;obtain⟨y,h1,ys,h2,h3⟩:=h;simp only[Option.pure_def,Option.some.injEq]at h3;subst h3;simp[List.W4 h2]
 W5 {α β:Type}{f:α→Option β}:∀{l:List α}{r:List β},l.mapM f=some r→∀i (hi:i<l.length),r[i]?=f l[i]
  | [],r,h,i,hi=>by simp at hi
  |x::l,r,h,i,hi=>by
   rw[List.mapM_cons]at h;simp only[Option.bind_eq_bind,Option.bind_eq_some_iff]at h;obtain⟨y,h1,ys,h2,h3⟩:=h;simp only[Option.pure_def,Option.some.injEq]at h3;subst h3
   cases i with
   |zero=>simp[h1]
   |succ i=>simpa using W5 h2 i (by simpa using hi)
mutual
theorem ad.read:∀(t:ad) (id:TypeId) (fuel:Nat) (cs:List Value) (x:DataW H×List MemPlace),t.ok P id→t.om=true→DataW.trod enc P w base spare held fuel id cs=some x →
  ∃y:t.D,t.ar w (Old w) .R y cs ah.none∧t.fm y
 |.int k,id,fuel,cs,x,ho,av,h=>by obtain⟨n,rfl,_,hw⟩:=DataW.trod_int (by simp only[ad.ok]at ho;exact ho.1) h;exact⟨n,by simp only[ad.ar],hw⟩
 |.bool,id,fuel,cs,x,ho,av,h=>by obtain⟨n,rfl,_⟩:=DataW.trod_bool (by simp only[ad.ok]at ho;exact ho.1) h;exact⟨n,by simp only[ad.ar],trivial⟩
 |.str,id,fuel,cs,x,ho,av,h=>by obtain⟨s,rfl,_,hs⟩:=DataW.trod_string (by simp only[ad.ok]at ho;exact ho.1) h;exact⟨s.data.toList,by simp only[ad.ar];exact⟨s,rfl,rfl⟩,by simp only[ad.fm,Array.length_toList];exact hs⟩
 |.raw,id,fuel,cs,x,ho,av,h=>by simp[ad.om]at av
 |.sl t,id,fuel,cs,x,ho,av,h=>by
  simp only[ad.ok]at ho;obtain⟨_,e,hu,W6⟩:=ho;simp only[ad.om,Bool.and_eq_true]at av;have gQ:0<t.size:=Nat.le_of_ble_eq_true av.1;rcases DataW.trod_slice hu h with⟨rfl,_⟩|⟨a,len,cap,elems,rest,m,_,rfl,_,_,hl,hm,hlen,W7,_,_⟩
  ·exact⟨[],by simp only[ad.ar];exact⟨none,0,rfl,.inl trivial⟩,by simp[ad.fm,maxLen]⟩
  ·have hsz:P.cellsOf e=t.size:=NJ W6;rw[hsz]at W7
   have W8:∀i,i<len→∃cs' d,w.cells? base (a.add (i*t.size)) t.size=some cs'∧DataW.trod enc P w base spare held m e cs'=some d:=by
    intro i hi;have h1:=W7 i hi;have h2:∃d,elems[i]?=some d:=⟨_,List.getElem?_eq_getElem (by omega)⟩
    obtain⟨d,h2⟩:=h2;rw[h2]at h1;obtain⟨cs',h3,h4⟩:=bb h1;exact⟨cs',d,h3,h4⟩
   have aiJ:=fun(cs':List Value) (d:DataW H×List MemPlace)=>ad.read t e m cs' d W6 av.2
   have NK:0<len→a.spot=none∧a.block<w.heap.size:=by intro hn;obtain⟨cs',d,h1,h2⟩:=W8 0 hn;obtain⟨c1,fV⟩:=W0 h1;have ql:=fV 0 cs'[0] (List.getElem?_eq_getElem (by omega));simp only[Nat.zero_mul,Addr.add,if_true]at ql;exact⟨World.cell?_spot ql,aiI ql⟩
   have hrow:∀(n k:Nat),k+n≤len→∃xs:List t.D,xs.length=n∧Row w (fun y us _=>t.ar w (Old w) .R y us ah.none) t.size xs a.block (a.off+k*t.size) ah.none∧(∀y,y∈xs→t.fm y):=by
    intro n
    induction n with
    |zero=>intro k _;exact⟨[],rfl,trivial,by simp⟩
    |succ n ih=>
     intro k hk;obtain⟨cs',d,h1,h2⟩:=W8 k (by omega);obtain⟨y,h3,h4⟩:=aiJ cs' d h2;obtain⟨xs,g1,g3,g4⟩:=ih (k+1) (by omega);obtain⟨c1,fV⟩:=W0 h1;obtain⟨hsp,au3⟩:=NK (by omega);obtain⟨ab,ao,asp⟩:=a;simp only at hsp;subst hsp;refine⟨y::xs,by simp[g1],⟨cs',ah.none,ah.none,h3,c1,?_,?_,fun _ _ h=>h.elim,fun _ _ h=>h,fun _ _ h=>h⟩,?_⟩
     ·intro i v hv;have:=fV i v hv;rw[show(⟨ab,ao,none⟩:Addr)=at_ ab ao from rfl,rn,rn]at this;exact this
     ·have e1:ao+k*t.size+t.size=ao +(k+1)*t.size:=by rw[Nat.add_mul];omega
      simp only;rw[e1];exact g3
     ·intro z hz;rcases List.mem_cons.1 hz with rfl|hz
      ·exact h4
      ·exact g4 z hz
   obtain⟨xs,g1,g3,g4⟩:=hrow len 0 (by omega);refine⟨xs,?_,?_⟩
   ·simp only[ad.ar];refine⟨some a,cap,by rw[g1],?_⟩;by_cases hx:xs=[]
    ·exact .inl hx
    ·have hn:0<len:=by
      rw[←g1]
      cases xs with
      |nil=>exact absurd rfl hx
      |cons=>simp
     exact .inr ⟨a,rfl,(NK hn).1,by simpa using g3,fun j hj=>(NK hn).2,by rw[g1];exact hl⟩
   ·simp only[ad.fm];exact⟨by rw[g1];omega,g4⟩
 |.st ak,id,fuel,cs,x,ho,av,h=>by
  have hsz:=NJ ho;simp only[ad.ok]at ho;obtain⟨_,cF,hu,NF⟩:=ho;obtain⟨xs,n,_,_,hl,hxl,hf⟩:=DataW.trod_struct hu h;have hlen:cs.length=(ad.st ak).size:=by rw[hl,hsz]
  have:=aA.read ak cF.toList 0 n cs NF (by simpa only[ad.om]using av) (by simpa only[ad.size,Nat.zero_add]using hlen) (fun i f lp=>by
   have hi:i<xs.length:=by rw[hxl];have:=(List.getElem?_eq_some_iff.1 lp).1;simpa using this
   exact⟨xs[i],by rw[hf i f (by rw[←Array.getElem?_toList];exact lp),List.getElem?_eq_getElem hi]⟩)
  obtain⟨y,h1,h2⟩:=this;rw[List.drop_zero]at h1;exact⟨y,by simp only[ad.ar];exact h1,by simp only[ad.fm];exact h2⟩
theorem aA.read:∀(ak:aA) (cF:List Field) (off:Nat) (fuel:Nat) (cs:List Value),ak.okF P cF off→ak.om=true→cs.length=off+ak.size →
  (∀(i:Nat) (f:Field),cF[i]?=some f→∃x,DataW.trod enc P w base spare held fuel f.type ((cs.drop f.offset).take (P.cellsOf f.type))=some x)→∃y:ak.D,ak.ar w (Old w) .nil y (cs.drop off) ah.none∧ak.fm y
 |.nil,cF,off,fuel,cs,ho,av,hl,hf=>by simp only[aA.size,Nat.add_zero]at hl;exact⟨(),by simp only[aA.ar];rw[List.drop_of_length_le (by omega)],by simp only[aA.fm]⟩
 |.cons t ak,cF,off,fuel,cs,ho,av,hl,hf=>by
  simp only[aA.okF]at ho;obtain⟨f,mm,rfl,h1,h2,h3⟩:=ho;simp only[aA.om,Bool.and_eq_true]at av;simp only[aA.size]at hl;obtain⟨x,hx⟩:=hf 0 f rfl;rw[h1,NJ h2]at hx;obtain⟨y,g1,g2⟩:=ad.read t f.type fuel _ x h2 av.1 hx;obtain⟨ys,g3,g4⟩:=aA.read ak mm (off+t.size) fuel cs h3 av.2 (by omega) fun i nX lp=>hf (i+1) nX (by simpa using lp)
  refine⟨(y,ys),?_,⟨g2,g4⟩⟩;simp only[aA.ar];refine⟨_,_,ah.none,ah.none,?_,g1,g3,fun _ _ h=>h.elim,fun _ _ h=>h,fun _ _ h=>h⟩;rw[←List.drop_drop,List.take_append_drop]
end
theorem aiK{t:ad}{id:TypeId}{r:Reach}{v:Value}(ho:t.ok P id)(hv:Value.okWide P w r base id v):v=dW t v.cells.toList:=by
 cases t with
 |int k=>obtain⟨n,rfl⟩:=okWide_int (by simp only[ad.ok]at ho;exact ho.1) hv;rfl
 |bool=>obtain⟨n,rfl⟩:=okWide_bool (by simp only[ad.ok]at ho;exact ho.1) hv;rfl
 |str=>obtain⟨n,rfl⟩:=okWide_string (by simp only[ad.ok]at ho;exact ho.1) hv;rfl
 |sl t=>simp only[ad.ok]at ho;obtain⟨_,e,hu,_⟩:=ho;obtain⟨a,l,c,rfl⟩:=okWide_slice hu hv;rfl
 |raw=>simp only[ad.ok]at ho;obtain⟨_,e,hu⟩:=ho;obtain⟨a,l,c,rfl⟩:=okWide_slice hu hv;rfl
 |st ak=>simp only[ad.ok]at ho;obtain⟨_,cF,hu,_⟩:=ho;simp only[Value.okWide,hu]at hv;obtain⟨cs,rfl,_⟩:=hv;simp[dW,Value.cells]
def Bp:List (Nat×ad)→List bE
 | []=>[]
 |a::l=>.val a.2 .R::Bp l
def v_(P:Program):List (Nat×ad)→Bool
 | []=>true
 |a::l=>a.2.okB P a.1&&a.2.om&&P.readableRec a.1&&Nat.blt a.1 P.types.size&&v_ P l
theorem W9{r:Reach}{cV:Nat}:∀(as:List (Nat×ad)) (vs:List Value) (ds:List (DataW H)) (p:List MemPlace),v_ P as=true →
  DataW.TrodAll enc P w 0 (fun _=>true) true (as.map (·.1)) vs ds p→(∀(j:Nat) t v,(as.map (·.1))[j]?=some t→vs[j]?=some v→Value.okWide P w r cV t v) →
  ∃x:(bE.ins (Bp as)).D,gP w (Old w) 0 (Bp as) x vs ah.none∧rO (Bp as) x∧gA vs=[]
 | [],vs,ds,p,ho,h,hv=>by obtain⟨rfl,_,_⟩:=trodAll_nil h;exact⟨(),rfl,trivial,rfl⟩
 |a::as,vs,ds,p,ho,h,hv=>by
  simp only[v_,Bool.and_eq_true]at ho;obtain⟨v,bK,d,NL,p',NM,rfl,rfl,rfl,h1,h2⟩:=trodAll_cons (by simpa using h);obtain⟨x,g1,g2,g3⟩:=W9 as bK NL NM ho.2 h2 fun j t u hj hu=>hv (j+1) t u (by simpa using hj) (by simpa using hu)
  have cp:=ad.Ft _ _ ho.1.1.1.1;obtain⟨fuel,hf⟩:=h1;obtain⟨y,k1,k2⟩:=ad.read a.2 a.1 fuel _ _ cp ho.1.1.1.2 hf;have hw:=aiK cp (hv 0 a.1 v rfl rfl);refine⟨(y,x),⟨v.cells.toList,bK,ah.none,ah.none,by rw[←hw],k1,g1,fun _ _ h=>h.elim,fun _ _ h=>h,fun _ _ h=>h⟩,⟨k2,g2⟩,?_⟩;rw[hw,Fm k1];exact g3
theorem aiL{w w':World}(h:Ext w w' ah.none):Below w.heap.size w w':=by
 refine⟨h.os,h.tape,h.output,h.size,fun b hb=>?_⟩;rcases h.block b hb with h1|⟨c,c',e,f,h1,h2,h3,h4⟩
 ·exact h1
 ·rw[h1,h2];have:c'=c:=by apply Array.ext h3;intro i hi dr;have:=h4 i (fun h=>h.elim);rw[Array.getElem?_eq_getElem hi,Array.getElem?_eq_getElem dr]at this;exact aX this
  rw[this]
theorem W_(hl:laidOutB P=true):∀(as:List (Nat×ad)) (vs:List Value) (ds:List (DataW H)) (p:List MemPlace),v_ P as=true →
  DataW.TrodAll enc P W 0 (fun _=>true) true (as.map (·.1)) vs ds p→Below W.heap.size W W'→DataW.TrodAll enc P W' 0 (fun b=>decide (b<W.heap.size)) true (as.map (·.1)) vs ds p
 | [],vs,ds,p,ho,h,hb=>by obtain⟨rfl,rfl,rfl⟩:=trodAll_nil h;exact trodAll_mk0
 |a::as,vs,ds,p,ho,h,hb=>by
  simp only[v_,Bool.and_eq_true]at ho;obtain⟨v,bK,d,NL,p',NM,rfl,rfl,rfl,h1,h2⟩:=trodAll_cons (by simpa using h);have bQ:∀x∈p',x.block<W.heap.size:=by obtain⟨m,hm⟩:=h1;exact DataW.trod_lt m _ _ _ hm
  exact trodAll_cons_mk (Below.trod hl ho.1.1.2 (Nat.le_of_ble_eq_true ho.1.2) h1 hb bQ) (W_ hl as bK NL NM ho.2 h2 hb)
theorem aiM{f:Nat}{fn:Func}{e:Entry}{prs:List (Nat×ad)}{r:Reach}{cV:Nat}{args:Array Value}{ds:List (DataW H)}{p:List MemPlace}(dg:Sound P f 0 e)(Fo:e.ps=Bp prs)
  (NN:fn.params.toList=prs.map (·.1)) (cp:v_ P prs=true) (aiN:laidOutB P=true) (hc:∀x:(bE.ins e.ps).D,rO e.ps x→∃y,e.f x=some y∧NI e.rs (bE.en e.ps) y)
  (vL:∀(j:Nat) t v,fn.params[j]?=some t→args[j]?=some v→Value.okWide P W r cV t v)
  (hA:DataW.TrodAll enc P W 0 (fun _=>true) true fn.params.toList args.toList ds p):
  Calls P f args W fun end_ W'=>end_=.returned (.bool true)∧Below W.heap.size W W'∧DataW.TrodAll enc P W' 0 (fun b=>decide (b<W.heap.size)) true fn.params.toList args.toList ds p:=by
 obtain⟨ps,rs,c⟩:=e;simp only at Fo;subst Fo;rw[NN]at hA;obtain⟨x,h1,h2,h3⟩:=W9 prs args.toList ds p cp hA fun j t v hj hv=>vL j t v (by rw[←Array.getElem?_toList,NN];exact hj) (by rw[←Array.getElem?_toList];exact hv)
 obtain⟨y,aR,ht⟩:=hc x h2;have yQ:=dg.calls W (Old W) ah.none x args.toList y (fun _ _ h=>h) (fun _ _ h=>h.elim) (fun _ _ h=>h.elim) (by rw[h3,List.append_nil];exact h1) aR;have mr:args.toList.toArray=args:=by simp
 rw[mr]at yQ;refine Calls.mono yQ ?_
 rintro end_ w' ⟨v,rfl,Fp⟩
 obtain⟨dE,Z',F',rfl,hx,_,_,_,_,il⟩:=Fp.out;have hb:=aiL hx;refine⟨?_,hb,by rw[NN];exact W_ aiN prs _ _ _ cp hA hb⟩
 have hfin:∀(rs:List c4) (ak:aA) (ps:List bE) (us:List Value) (aiO:ak=bE.en ps) (y:(c4.outs rs (bE.en ps)).D),NI rs (bE.en ps) y→∀F',iK w' Z' ps us rs y dE F'→pe dE=.bool true:=by
  intro rs ak ps us aiO y ht F' il
  match rs,y,ht,il with
  | [.val .bool .R],y,ht,il=>obtain⟨vs,et,G,gv,rfl,k1,k2,_⟩:=il;obtain⟨rfl,_⟩:=k2;simp only[ad.ar]at k1;subst k1;have ht:y.1=true:=ht;rw[ht];rfl
 exact congrArg _ (hfin rs _ _ _ rfl y ht _ il)
end
end Go.LM
namespace Go.LM
theorem dG{x:Int}(h : -9223372036854775808≤x)(h':x≤9223372036854775807):aw x=x:=by
 show(if(true&&decide (x%18446744073709551616≥9223372036854775808))=true then x%18446744073709551616-18446744073709551616 else x%18446744073709551616)=x;by_cases hc:x%18446744073709551616≥9223372036854775808
 ·rw[if_pos (by simp[hc])];omega
 ·rw[if_neg (by simp[hc])];omega
theorem bf{n i:Nat}(h:i<n):ix n (i:Int)=some i:=by unfold ix;rw[if_pos ⟨by omega,by omega⟩];simp
theorem rj{t:ad}{xs:List t.D}{i:Nat}(h:i<xs.length):I t xs i=xs[i]:=by unfold I;rw[List.getD_eq_getElem?_getD,List.getElem?_eq_getElem h];rfl
theorem Bq{t:ad}{xs:List t.D}{i:Nat}{y:t.D}(h:i<xs.length):I t (xs.set i y) i=y:=by rw[rj (by simpa using h)];simp
theorem Br{n:Nat}(h:n≤68719476736):room n=true:=Nat.ble_eq_true_of_le h
theorem jn{n lo hi:Nat}(h:lo≤hi)(h':hi≤n):dj n (lo:Int) (hi:Int)=some (lo,hi):=by unfold dj;rw[if_pos ⟨by omega,by omega,by omega⟩];simp
theorem Bs{α:Type}(a:Option α):both a a=a:=by unfold both;rw[if_pos rfl]
theorem px{α:Type}(a:Option α):dup a=a:=Bs a
theorem hV(s:List UInt8):bx s s=true:=by simp[bx]
end Go.LM
namespace Go.LM
structure lF(P:Program) where
 tab:List (Nat×ad)
 mV:List Nat
 eqs:List Nat
 ht:vg P tab=true
 av:vh P mV=true
 he:vi P tab eqs=true
 hm:P.follows .mixedOrders=true
noncomputable def rP(fn:Func):Code:=match fn.body with
 |some c=>c
 |none=>.skip
noncomputable def y9(fn:Func)(ps:List bE):Bool:=
 fn.body.isSome && !(fn.name == "runtime.NumGoroutine")&&Fl ps&&Nat.ble ps.length fn.ntmps&&Nx (rP fn)
def tV:List (Nat×ib)→Nat→Option ib
 | [],_=>none
 |(k,t)::l,r=>cond (Nat.beq r k) (some t) (tV l r)
section
variable{P:Program}
def lF.env(B:lF P)(fn:Func)(fns:List (Nat×Entry)):Env:=WX fn.ntmps B.tab B.mV B.eqs fns
noncomputable def lF.start(B:lF P)(fn:Func)(fns:List (Nat×Entry))(T:List (Nat×ib))(e:Entry)(k:Nat→az→Option (c4.outs e.rs (bE.en e.ps)).D)(x:(bE.ins e.ps).D):Option (c4.outs e.rs (bE.en e.ps)).D:=
 Bl (B.env fn fns) fn (rP fn) (tV T) 0 e k x
noncomputable def lF.Fv(B:lF P)(key:Nat)(fn:Func)(fns:List (Nat×Entry))(T:List (Nat×ib))(e:Entry)(k:Nat→az→Option (c4.outs e.rs (bE.en e.ps)).D)(x:(bE.ins e.ps).D):Option (c4.outs e.rs (bE.en e.ps)).D:=
 Bl (B.env fn fns) fn (rP fn) (tV T) key e k x
noncomputable def lF.step(B:lF P)(fn:Func)(fns:List (Nat×Entry))(T:List (Nat×ib))(e:Entry)(k:Nat→az→Option (c4.outs e.rs (bE.en e.ps)).D):Nat→az→Option (c4.outs e.rs (bE.en e.ps)).D:=
 NB (B.env fn fns) (tV T) (rP fn) (vZ (B.env fn fns) fn e) k
def eE{K:Type}(s:K→K)(z:K):Nat→K
 |0=>z
 |m+1=>s (eE s z m)
theorem Xa(B:lF P)(key:Nat){f:Nat}{fn:Func}{e:Entry}{fns:List (Nat×Entry)}(hs:tU P fns)(hf:P.funcs[f]?=some fn)(hc:y9 fn e.ps=true)(T:List (Nat×ib))
  (hF:∀x r,e.f x=some r→∃m,Bl (B.env fn fns) fn (rP fn) (tV T) key e (tO (B.env fn fns) (tV T) (rP fn) (vZ (B.env fn fns) fn e) m) x=some r):Sound P f key e:=by
 unfold y9 at hc;simp only[Bool.and_eq_true,Bool.not_eq_true']at hc;obtain⟨⟨⟨⟨h1,h2⟩,h3⟩,h4⟩,a6⟩:=hc;refine aiy (aiH (n:=fn.ntmps) (fns:=fns) B.ht B.av B.he hs B.hm) hf ?_ h2 (Nat.beq_refl _) h3 h4 a6 hF;unfold rP
 cases hb:fn.body with
 |none=>rw[hb]at h1;cases h1
 |some c=>rfl
theorem aiP(B:lF P)(key:Nat){f:Nat}{fn:Func}{e:Entry}{fns:List (Nat×Entry)}(hs:tU P fns)(hf:P.funcs[f]?=some fn)(hc:y9 fn e.ps=true)
  (h:∀x,B.Fv key fn fns [] e (fun _ _=>none) x=e.f x):Sound P f key e:=
 Xa B key hs hf hc [] fun x r hx=>⟨0,by
  rw[show tO (B.env fn fns) (tV []) (rP fn) (vZ (B.env fn fns) fn e) 0=fun _ _=>none from rfl]
  exact(h x).trans hx⟩
theorem aiQ(B:lF P)(key:Nat){f:Nat}{fn:Func}{e:Entry}{fns:List (Nat×Entry)}(hs:tU P fns)(hf:P.funcs[f]?=some fn)(hc:y9 fn e.ps=true)(T:List (Nat×ib)){K:Type}
  (of:(Nat→az→Option (c4.outs e.rs (bE.en e.ps)).D)→K) (step:K→K) (L:Nat→K) (g:K→(bE.ins e.ps).D→Option (c4.outs e.rs (bE.en e.ps)).D)
  (h0:L 0=of fun _ _=>none) (v':∀m,L (m+1)=step (L m)) (he:∀x,e.f x=g (L aK) x)
  (aB:∀k x,B.Fv key fn fns T e k x=g (of k) x)
  (hst:∀k,of (B.step fn fns T e k)=step (of k)):Sound P f key e:=
 Xa B key hs hf hc T fun x r hx=>⟨aK,by
  have hl:∀m,of (tO (B.env fn fns) (tV T) (rP fn) (vZ (B.env fn fns) fn e) m)=L m:=by
   intro m
   induction m with
   |zero=>exact h0.symm
   |succ m ih=>rw[v',←ih];exact hst _
  rw[he,←hl aK]at hx
  exact(aB _ x).trans hx⟩
end
@[reducible] def AF(t:ad):bE:=.val t t.own
@[reducible] def aH(t:ad):bE:=.val t .R
@[reducible] def Fw(t:ad):bE:=.ic t
@[reducible] def wa(t:ad):bE:=.hI t t.own
@[reducible] def gn(t:ad):bE:=.ref t
@[reducible] def y_(t:ad):bE:=.mut t t.own t.own
@[reducible] def ro(t:ad):c4:=.val t t.own
@[reducible] def b1(t:ad):c4:=.val t .R
def Xb:List (Nat×a_)→Nat→a_
 | []=>fun _=>.bB
 |(d,v)::l=>bW (Xb l) d v
def Xc:List (Nat×cD)→Nat→cD
 | []=>fun _=>.none
 |(d,v)::l=>bW (Xc l) d v
def bd(t:List (Nat×a_))(o:List (Nat×cD))(g:List a_):az:=⟨Xb t,Xc o,g⟩
def aN(x:Int):a_:=.aU (.int .i64 x)
def j6(x:Bool):a_:=.aU (.bool x)
def eQ(x:List UInt8):a_:=.aU (.str x)
def dx(t:ad)(x:List t.D):a_:=.aU (.bG t [] none x)
def aE(c:Nat):a_:=.ptr ⟨c,none,0⟩
def qw(dp:List Nat):List (Nat×Nat):=dp.map fun c=>(c,0)
mutual
def ad.wb:(t:ad)→bg→List Nat→t.D→Nat→List ba×List (Nat×cD)×Nat
 |.int k,_,_,x,j=>([.int k x],[],j)
 |.bool,_,_,x,j=>([.bool x],[],j)
 |.str,_,_,x,j=>([.str x],[],j)
 |.raw,_,_,x,j=>([.raw x],[],j)
 |.sl t,.O e,_,x,j=>([.af j none],[(j,.row t e 0 x)],j+1)
 |.sl t,_,dp,x,j=>([.bG t (qw dp) none x],[],j)
 |.st ak,m,dp,x,j=>ak.wb m.parts dp x j
def aA.wb:(ak:aA)→c5→List Nat→ak.D→Nat→List ba×List (Nat×cD)×Nat
 |.nil,_,_,_,j=>([],[],j)
 |.cons t ak,m,dp,x,j=>let r:=t.wb m.af dp x.1 j;let q:=ak.wb m.dK dp x.2 r.2.2;(r.1++q.1,r.2.1++q.2.1,q.2.2)
end
mutual
def ad.wc:(t:ad)→bg→List Nat→Nat→List lT×List (Nat×ja)×Nat
 |.sl t,.O e,_,j=>([.af j],[(j,.row t e)],j+1)
 |.sl t,_,dp,j=>([.bG t dp],[],j)
 |.st ak,m,dp,j=>ak.wc m.parts dp j
 |_,_,_,j=>([.keep],[],j)
def aA.wc:(ak:aA)→c5→List Nat→Nat→List lT×List (Nat×ja)×Nat
 |.nil,_,_,j=>([],[],j)
 |.cons t ak,m,dp,j=>let r:=t.wc m.af dp j;let q:=ak.wc m.dK dp r.2.2;(r.1++q.1,r.2.1++q.2.1,q.2.2)
end
def aI(c:Nat)(t:ad)(m:bg)(dp:List Nat)(x:t.D):List (Nat×cD):=let r:=t.wb m dp x (c+1);(c,.var 0 r.1)::r.2.1
def aG(c:Nat)(t:ad)(m:bg)(dp:List Nat):List (Nat×ja):=let r:=t.wc m dp (c+1);(c,.var r.1)::r.2.1
def aU(t:ad)(m:bg)(dp:List Nat)(x:t.D)(j:Nat):List ba:=(t.wb m dp x j).1
def tW(t:ad)(m:bg)(dp:List Nat)(j:Nat):List lT:=(t.wc m dp j).1
def NO(t:ad)(m:bg)(x:t.D)(j:Nat):List (Nat×cD):=(t.wb m [] x j).2.1
def NP(t:ad)(m:bg)(j:Nat):List (Nat×ja):=(t.wc m [] j).2.1
@[reducible] def aF:jI:=.cell .keep
end Go.LM
namespace Go.LM
theorem Xd{P:Program}{f key:Nat}{e:Entry}(hf:∀x,e.f x=none):iD P f key e:=
 ⟨fun w Z F x us r _ _ _ _ hx=>by rw[hf x]at hx;cases hx⟩
theorem aiR{w:World}{Z F:ah}{e:Entry}{us:List Value}{k:IntKind}{x:Int}(pq:e.rs=[.val (.int k) .R])(hm:bE.en e.ps=.nil)(hZ:∀b o,Z b o→b<w.heap.size)(hF:∀b o,F b o→b<w.heap.size)(hap:ah.apart F Z)
  (r:(c4.outs e.rs (bE.en e.ps)).D) (hr:∀G,iK w Z e.ps (us++gA us) e.rs r [.int k x] G):Ends w Z F e us r (.int k x) w:=
 ⟨[.int k x],Z,ah.none,rfl,Ext.refl _ _,fun _ _ h=>h,fun _ _ h=>.inl h,fun _ _ h=>h.elim,fun _ _ h=>h.elim,hr _⟩
def Fx(g:List UInt8→UInt8→Int):Entry:=⟨[aH .str,aH (.int .u8)],[b1 (.int .i64)],fun x=>some (g x.1 x.2.1.toNat.toUInt8,())⟩
theorem Xe{P:Program}{f:FuncId}{fn:Func}{x:Array Value→Sem Value}(g:List UInt8→UInt8→Int)(hf:P.funcs[f]?=some fn)(jG:(fn.name == "runtime.NumGoroutine")=false)
  (hb:fn.body.isNone=true) (hn:Extern.findNext fn=none) (he:Extern.find fn=some x)
  (hx:∀(s:ByteArray) (c:Int) (w:World),(x #[.string s,.int .u8 c]).run P w=.ok (.int .i64 (g s.data.toList c.toNat.toUInt8)) w):iD P f 0 (Fx g):=by
 refine⟨fun w Z F y us r hZ hF hap hA aR=>?_⟩;obtain rfl:=aX aR;obtain⟨vs1,us1,G1,H1,e1,k1,h1,_⟩:=hA;obtain⟨vs2,us2,G2,H2,e2,k2,h2,_⟩:=h1;simp only[ad.ar]at k1 k2;obtain⟨s,rfl,hs⟩:=k1;subst k2;have h2:us2=[]:=h2;subst h2;subst e2
 have hus:us=[.string s,.int .u8 y.2.1]:=by
  cases us with
  |nil=>cases e1
  |cons u us=>
   cases us with
   |nil=>
    simp only[List.cons_append,List.nil_append]at e1;injection e1 with e3 dX
    subst e3;cases dX
   |cons jD us=>
    simp only[List.cons_append]at e1;injection e1 with e3 dX
    injection dX with dX jA
    subst e3 dX;have:us=[]:=(List.append_eq_nil_iff.1 jA).1;subst this;rfl
 subst hus;refine .inr ⟨.int .i64 (g s.data.toList y.2.1.toNat.toUInt8),w,?_,.int .i64 (g s.data.toList y.2.1.toNat.toUInt8),rfl,?_⟩
 ·rw[run_callFunc_extern hf jG hb hn he];have:=hx s y.2.1 w;rw[show(([Value.string s,Value.int IntKind.u8 y.2.1]:List Value).toArray) = #[.string s,.int .u8 y.2.1] from rfl,this];rfl
 ·rw[hs];refine aiR (e:=Fx g) rfl rfl hZ hF hap _ fun G=>?_
  refine⟨[_],[],ah.none,ah.none,rfl,?_,?_,fun _ _ h=>h.elim,fun _ _ h=>h.elim,fun _ _ h=>h.elim⟩
  ·simp only[ad.ar]
  ·exact⟨rfl,_,_,rfl,_,_,rfl,trivial⟩
theorem aiS{P:Program}{f:FuncId}{fn:Func}(hf:P.funcs[f]?=some fn)(jG:(fn.name == "runtime.NumGoroutine")=false)
  (hb:fn.body.isNone=true) (hn:Extern.findNext fn=none) (he:Extern.find fn=some Extern.BytealgIndexByte.indexByte):iD P f 0 (Fx Lib.indexByte):=
 Xe _ hf jG hb hn he fun s c w=>Lib.run_indexByteString s c w
theorem aiT{P:Program}{f:FuncId}{fn:Func}(hf:P.funcs[f]?=some fn)(jG:(fn.name == "runtime.NumGoroutine")=false)
  (hb:fn.body.isNone=true) (hn:Extern.findNext fn=none) (he:Extern.find fn=some Extern.BytealgCount.count):iD P f 0 (Fx fun l c=>(Lib.countByte l c:Int)):=
 Xe _ hf jG hb hn he fun s c w=>Lib.run_countString s c w
section
variable{P:Program}
theorem b4(B:lF P)(key:Nat){f:Nat}{fn:Func}{e:Entry}{fns:List (Nat×Entry)}(hs:tU P fns)
  (h:(P.funcs[f]?,y9 fn e.ps,B.Fv key fn fns [] e fun _ _=>none)=(some fn,true,e.f)):Sound P f key e:=
 aiP B key hs (congrArg (·.1) h) (congrArg (·.2.1) h) fun x=>congrFun (congrArg (·.2.2) h) x
theorem b0(B:lF P)(key:Nat){f:Nat}{fn:Func}{e:Entry}{fns:List (Nat×Entry)}(hs:tU P fns)(T:List (Nat×ib)){K:Type}
  (of:(Nat→az→Option (c4.outs e.rs (bE.en e.ps)).D)→K) (step:K→K) (L:Nat→K) (g:K→(bE.ins e.ps).D→Option (c4.outs e.rs (bE.en e.ps)).D)
  (h:(P.funcs[f]?,y9 fn e.ps,L 0,(fun m=>L (m+1)),(fun k=>B.Fv key fn fns T e k),fun k=>of (B.step fn fns T e k))=(some fn,true,of (fun _ _=>none),(fun m=>step (L m)),(fun k=>g (of k)),fun k=>step (of k)))
  (he:e.f=g (L aK)):Sound P f key e:=
 aiQ B key hs (congrArg (·.1) h) (congrArg (·.2.1) h) T of step L g (congrArg (·.2.2.1) h) (fun m=>congrFun (congrArg (·.2.2.2.1) h) m) (fun x=>congrFun he x)
  (fun k x=>congrFun (congrFun (congrArg (·.2.2.2.2.1) h) k) x) (fun k=>congrFun (congrArg (·.2.2.2.2.2) h) k)
end
end Go.LM
namespace Go.LM
mutual
def ad.rw:ad→ad
 |.sl _=>.raw
 |.st ak=>.st ak.rw
 |.int k=>.int k
 |.bool=>.bool
 |.str=>.str
 |.raw=>.raw
def aA.rw:aA→aA
 |.nil=>.nil
 |.cons t ak=>.cons t.rw ak.rw
end
mutual
def ad.rel:(T T':ad)→T.D→T'.D→Prop
 |.int _,.int _,x,y=>x=y
 |.bool,.bool,x,y=>x=y
 |.str,.str,x,y=>x=y
 |.sl _,.raw,_,_=>True
 |.raw,.raw,x,y=>x=y
 |.st ak,.st NQ,x,y=>ak.rel NQ x y
 |_,_,_,_=>False
def aA.rel:(T T':aA)→T.D→T'.D→Prop
 |.nil,.nil,_,_=>True
 |.cons t ak,.cons cQ NQ,x,y=>t.rel cQ x.1 y.1∧ak.rel NQ x.2 y.2
 |_,_,_,_=>False
end
mutual
theorem ad.py:∀t:ad,t.rw.size=t.size
 |.int _=>rfl
 |.bool=>rfl
 |.str=>rfl
 |.sl _=>rfl
 |.raw=>rfl
 |.st ak=>by simp only[ad.rw,ad.size];exact aA.py ak
theorem aA.py:∀t:aA,t.rw.size=t.size
 |.nil=>rfl
 |.cons t ak=>by simp only[aA.rw,aA.size,ad.py t,aA.py ak]
end
mutual
theorem ad.Bt{w:World}{Z:ah}:∀(T:ad) (m:bg) {x:T.D}{vs:List Value}{F:ah},T.ar w Z m x vs F→∃y:T.rw.D,(∀(w':World) (Z':ah) (m':bg) (F':ah),T.rw.ar w' Z' m' y vs F')∧T.rel T.rw x y
 |.int _,_,x,_,_,h=>by simp only[ad.ar]at h;subst h;exact⟨x,fun _ _ _ _=>by simp only[ad.rw,ad.ar],by simp only[ad.rw,ad.rel]⟩
 |.bool,_,x,_,_,h=>by simp only[ad.ar]at h;subst h;exact⟨x,fun _ _ _ _=>by simp only[ad.rw,ad.ar],by simp only[ad.rw,ad.rel]⟩
 |.str,_,x,_,_,h=>by simp only[ad.ar]at h;exact⟨x,fun _ _ _ _=>by simp only[ad.rw,ad.ar];exact h,by simp only[ad.rw,ad.rel]⟩
 |.raw,_,x,_,_,h=>by simp only[ad.ar]at h;exact⟨x,fun _ _ _ _=>by simp only[ad.rw,ad.ar];exact h,by simp only[ad.rw,ad.rel]⟩
 |.sl t,m,x,vs,F,h=>by
  have:∃A n c,vs=[.slice A n c]:=by cases m<;>(simp only[ad.ar]at h;obtain⟨A,c,hv,_⟩:=h;exact⟨A,_,c,hv⟩)
  obtain⟨A,n,c,rfl⟩:=this;exact⟨(.slice A n c:Value),fun _ _ _ _=>by simp only[ad.rw,ad.ar];exact⟨trivial,A,n,c,rfl⟩,by simp only[ad.rw,ad.rel]⟩
 |.st ak,m,x,vs,F,h=>by simp only[ad.ar]at h;obtain⟨y,h1,h2⟩:=aA.Bt ak m.parts h;exact⟨y,fun w' Z' m' F'=>by simp only[ad.rw,ad.ar];exact h1 w' Z' m'.parts F',by simp only[ad.rw,ad.rel];exact h2⟩
theorem aA.Bt{w:World}{Z:ah}:∀(T:aA) (m:c5) {x:T.D}{vs:List Value}{F:ah},T.ar w Z m x vs F→∃y:T.rw.D,(∀(w':World) (Z':ah) (m':c5) (F':ah),T.rw.ar w' Z' m' y vs F')∧T.rel T.rw x y
 |.nil,_,_,_,_,h=>by simp only[aA.ar]at h;exact⟨(),fun _ _ _ _=>by simp only[aA.rw,aA.ar];exact h,by simp only[aA.rw,aA.rel]⟩
 |.cons t ak,m,x,vs,F,h=>by simp only[aA.ar]at h;obtain⟨us,bK,G,H,rfl,h1,h2,_⟩:=h;obtain⟨y,k1,k2⟩:=ad.Bt t m.af h1;obtain⟨z,dI,eP⟩:=aA.Bt ak m.dK h2;exact⟨(y,z),fun w' Z' m' F'=>by simp only[aA.rw,aA.ar];exact⟨us,bK,ah.none,ah.none,rfl,k1 w' Z' m'.af _,dI w' Z' m'.dK _,fun _ _ h=>h.elim,fun _ _ h=>h.elim,fun _ _ h=>h.elim⟩,by simp only[aA.rw,aA.rel];exact⟨k2,eP⟩⟩
end
mutual
theorem ad.Bu{w w':World}{Z Z':ah}:∀(T:ad) {m m':bg}{y:T.rw.D}{vs:List Value}{F F':ah},T.rw.ar w Z m y vs F→T.rw.ar w' Z' m' y vs F'
 |.int _,_,_,_,_,_,_,h=>by simp only[ad.rw,ad.ar]at h⊢;exact h
 |.bool,_,_,_,_,_,_,h=>by simp only[ad.rw,ad.ar]at h⊢;exact h
 |.str,_,_,_,_,_,_,h=>by simp only[ad.rw,ad.ar]at h⊢;exact h
 |.sl _,_,_,_,_,_,_,h=>by simp only[ad.rw,ad.ar]at h⊢;exact h
 |.raw,_,_,_,_,_,_,h=>by simp only[ad.rw,ad.ar]at h⊢;exact h
 |.st ak,_,_,_,_,_,_,h=>by simp only[ad.rw,ad.ar]at h⊢;exact aA.Bu ak h
theorem aA.Bu{w w':World}{Z Z':ah}:∀(T:aA) {m m':c5}{y:T.rw.D}{vs:List Value}{F F':ah},T.rw.ar w Z m y vs F→T.rw.ar w' Z' m' y vs F'
 |.nil,_,_,_,_,_,_,h=>by simp only[aA.rw,aA.ar]at h⊢;exact h
 |.cons t ak,_,_,_,_,_,_,h=>by simp only[aA.rw,aA.ar]at h⊢;obtain⟨a,b,_,_,rfl,h1,h2,_⟩:=h;exact⟨a,b,ah.none,ah.none,rfl,ad.Bu t h1,aA.Bu ak h2,fun _ _ h=>h.elim,fun _ _ h=>h.elim,fun _ _ h=>h.elim⟩
end
mutual
theorem ad.Bv{w w':World}{Z Z':ah}:∀(T:ad) {m m':bg}{y:T.rw.D}{us vs:List Value}{F F':ah},T.rw.ar w Z m y us F→T.rw.ar w' Z' m' y vs F'→us=vs
 |.int _,_,_,_,_,_,_,_,h,k=>by simp only[ad.rw,ad.ar]at h k;rw[h,k]
 |.bool,_,_,_,_,_,_,_,h,k=>by simp only[ad.rw,ad.ar]at h k;rw[h,k]
 |.str,_,_,_,_,_,_,_,h,k=>by
  simp only[ad.rw,ad.ar]at h k;obtain⟨s,rfl,hs⟩:=h;obtain⟨au,rfl,Xf⟩:=k;have:s=au:=by cases s;cases au;simp only at hs Xf;congr 1;apply Array.ext';rw[hs,Xf]
  rw[this]
 |.sl _,_,_,_,_,_,_,_,h,k=>by simp only[ad.rw,ad.ar]at h k;rw[h.1,k.1]
 |.raw,_,_,_,_,_,_,_,h,k=>by simp only[ad.rw,ad.ar]at h k;rw[h.1,k.1]
 |.st ak,_,_,_,_,_,_,_,h,k=>by simp only[ad.rw,ad.ar]at h k;exact aA.Bv ak h k
theorem aA.Bv{w w':World}{Z Z':ah}:∀(T:aA) {m m':c5}{y:T.rw.D}{us vs:List Value}{F F':ah},T.rw.ar w Z m y us F→T.rw.ar w' Z' m' y vs F'→us=vs
 |.nil,_,_,_,_,_,_,_,h,k=>by simp only[aA.rw,aA.ar]at h k;rw[h,k]
 |.cons t ak,_,_,_,_,_,_,_,h,k=>by simp only[aA.rw,aA.ar]at h k;obtain⟨a,b,_,_,rfl,h1,h2,_⟩:=h;obtain⟨b8,b',_,_,rfl,k1,k2,_⟩:=k;rw[ad.Bv t h1 k1,aA.Bv ak h2 k2]
end
def hW(w:World)(Z:ah)(T:ad)(m:bg):List T.D→List T.rw.D→ah→Prop
 | [],[],_=>True
 |x::xs,y::ys,G=>∃vs G1 G2,T.ar w Z m x vs G1∧T.rw.ar w Z .R y vs ah.none∧T.rel T.rw x y∧hW w Z T m xs ys G2∧ah.apart G1 G2∧ah.sub G1 G∧ah.sub G2 G
 |_,_,_=>False
section
variable{w w':World}{Z Z':ah}{T:ad}{m:bg}
theorem hW.len:∀{xs:List T.D}{ys:List T.rw.D}{G:ah},hW w Z T m xs ys G→ys.length=xs.length
 | [],[],_,_=>rfl
 |_::_,_::_,_,⟨_,_,_,_,_,_,h,_⟩=>by simp[hW.len h]
 | [],_::_,_,h=>h.elim
 |_::_,[],_,h=>h.elim
theorem hW.mono:∀{xs:List T.D}{ys:List T.rw.D}{G dB:ah},ah.sub G dB→hW w Z T m xs ys G→hW w Z T m xs ys dB
 | [],[],_,_,_,_=>trivial
 |_::_,_::_,_,_,hs,⟨vs,G1,G2,h1,h2,h3,h4,a6,bj,bL⟩=>⟨vs,G1,G2,h1,h2,h3,h4,a6,fun b o h=>hs b o (bj b o h),fun b o h=>hs b o (bL b o h)⟩
 | [],_::_,_,_,_,h=>h.elim
 |_::_,[],_,_,_,h=>h.elim
theorem hW.Xg:∀{xs:List T.D}{b o:Nat}{G:ah},Row w (T.ar w Z m) T.size xs b o G→∃ys,hW w Z T m xs ys G∧∀(Z':ah),Row w (T.rw.ar w Z' .R) T.rw.size ys b o ah.none
 | [],_,_,_,_=>⟨[],trivial,fun _=>trivial⟩
 |x::xs,b,o,G,⟨vs,G1,G2,h1,h2,h3,h4,a6,bj,bL⟩=>by obtain⟨ys,k1,k2⟩:=hW.Xg h4;obtain⟨y,dI,eP⟩:=ad.Bt T m h1;refine⟨y::ys,⟨vs,G1,G2,h1,dI _ _ _ _,eP,k1,a6,bj,bL⟩,fun Z'=>⟨vs,ah.none,ah.none,dI _ _ _ _,by rw[h2,ad.py],h3,?_,fun _ _ h=>h.elim,fun _ _ h=>h.elim,fun _ _ h=>h.elim⟩⟩;have:=k2 Z';rw[ad.py]at this⊢;exact this
theorem hW.filter{p:T.D→Bool}{p':T.rw.D→Bool}(av:∀x y,T.rel T.rw x y→p x=p' y):∀{xs:List T.D}{ys:List T.rw.D}{G:ah},hW w Z T m xs ys G→hW w Z T m (xs.filter p) (ys.filter p') G
 | [],[],_,_=>trivial
 |x::xs,y::ys,G,⟨vs,G1,G2,h1,h2,h3,h4,a6,bj,bL⟩=>by
  have ih:=hW.filter av h4;rw[List.filter_cons,List.filter_cons,av x y h3];cases p' y
  ·exact ih.mono bL
  ·exact⟨vs,G1,G2,h1,h2,h3,ih,a6,bj,bL⟩
 | [],_::_,_,h=>h.elim
 |_::_,[],_,h=>h.elim
theorem hW.same:∀{xs:List T.D}{ys:List T.rw.D}{G:ah},ch w w' G→hW w Z T T.own xs ys G→hW w' Z' T T.own xs ys G
 | [],[],_,_,_=>trivial
 |x::xs,y::ys,G,hs,⟨vs,G1,G2,h1,h2,h3,h4,a6,bj,bL⟩=>by exact⟨vs,G1,G2,rF T (hs.mono bj) h1,ad.Bu T h2,h3,hW.same (hs.mono bL) h4,a6,bj,bL⟩
 | [],_::_,_,_,h=>h.elim
 |_::_,[],_,_,h=>h.elim
theorem hW.row:∀{xs:List T.D}{ys:List T.rw.D}{G:ah}{b o:Nat}{H:ah},hW w Z T m xs ys G→Row w (T.rw.ar w Z' .R) T.rw.size ys b o H→Row w (T.ar w Z m) T.size xs b o G
 | [],[],_,_,_,_,_,_=>trivial
 |x::xs,y::ys,G,b,o,H,⟨vs,G1,G2,h1,h2,h3,h4,a6,bj,bL⟩,⟨us,H1,H2,k1,k2,k3,bn,_⟩=>by have:us=vs:=ad.Bv T k1 h2;subst this;rw[ad.py]at k2 bn;exact⟨us,G1,G2,h1,k2,k3,hW.row h4 (by rw[ad.py];exact bn),a6,bj,bL⟩
 | [],_::_,_,_,_,_,h,_=>h.elim
 |_::_,[],_,_,_,_,h,_=>h.elim
theorem aiU{P:Program}{f:FuncId}{key:FuncId}{T':ad}{p:T.D→Int→Bool}{p':T'.D→Int→Bool}(b5:T.rw=T')(E9:∀x y i,T.rel T' x y→p x i=p' y i)
  {fq:(bE.ins [.val (.sl T') (.O .R),.fn 0 1,.ref (.int .i64)]).D→Option (c4.outs [.val (.sl T') (.O .R)] (bE.en [.val (.sl T') (.O .R),.fn 0 1,.ref (.int .i64)])).D}
  (dg:iD P f key ⟨[.val (.sl T') (.O .R),.fn 0 1,.ref (.int .i64)],[.val (.sl T') (.O .R)],fq⟩)
  (hf:∀(ys:List T'.D) (i:Int),room ys.length=true→fq (ys,i,())=some (ys.filter (fun y=>p' y i),())):
  iD P f key ⟨[.val (.sl T) (.O T.own),.fn 0 1,.ref (.int .i64)],[.val (.sl T) (.O T.own)],fun x=>cond (room x.1.length) (some (x.1.filter (fun y=>p y x.2.1),())) none⟩:=by
 subst b5;refine⟨fun w Z F x us r hZ hF hFZ hA hr=>?_⟩;obtain⟨xs,i,u⟩:=x;simp only at hr;cases hroom:room xs.length
 ·rw[hroom]at hr;cases hr
 rw[hroom]at hr;simp only[cond_true]at hr;have hr:=aX hr;obtain⟨vs,aY,G,H,e1,cT,gr,Fy,hGF,Bw⟩:=hA;simp only[ad.ar]at cT;obtain⟨A,c,rfl,cT⟩:=cT
 obtain⟨ys,G1,y',dN,aiV,Bx,za,NR⟩:∃(ys:List T.rw.D) (G1 y':ah),hW w Z T T.own xs ys G1∧(ad.sl T.rw).ar w Z (.O .R) ys [.slice A xs.length c] y'∧ah.sub G1 G∧ah.sub y' G∧ah.apart G1 y':=by
  rcases cT with⟨rfl,rfl⟩|⟨a,rfl,hr⟩
  ·exact⟨[],ah.none,ah.none,trivial,by simp only[ad.ar];exact⟨A,0,rfl,.inl (by simp)⟩,fun _ _ h=>h.elim,fun _ _ h=>h.elim,fun _ _ h=>h.elim⟩
  ·obtain⟨G1,g1,g2,g3⟩:=hr.row;obtain⟨ys,k1,k2⟩:=hW.Xg g1;refine⟨ys,G1,ah.run a.block a.off (c*T.size),k1,?_,g3,?_,?_⟩
   ·simp only[ad.ar];refine⟨some a,c,by rw[k1.len],.inr ⟨a,rfl,hr.spot,by rw[k1.len];exact hr.cap,?_,?_,ah.none,?_,fun _ _ h=>h,fun _ _ h=>h.elim⟩⟩
    ·rw[ad.py];exact hr.wr
    ·rw[ad.py];exact fun j hj=>⟨rfl,by omega,by omega⟩
    ·exact k2 Z
   ·rintro b o ⟨rfl,h1,h2⟩
    have:=hr.inF (o-a.off) (by omega);rwa[show a.off +(o-a.off)=o by omega]at this
   ·rintro b o aB ⟨rfl,h1,h2⟩
    have:=g2 (o-a.off) (by omega);rw[show a.off +(o-a.off)=o by omega]at this;exact this aB
 have hcall:=dg.calls w Z (y'.or H) (ys,i,u) us (ys.filter (fun y=>p' y i),()) hZ
  (fun b o h=>h.elim (fun h=>hF b o (hGF b o (za b o h))) fun h=>hF b o (Bw b o h))
  (fun b o h hz=>h.elim (fun h=>hFZ b o (hGF b o (za b o h)) hz) fun h=>hFZ b o (Bw b o h) hz)
  ⟨[.slice A xs.length c],aY,y',H,e1,aiV,gr,fun b o h=>Fy b o (za b o h),fun _ _ h=>.inl h,fun _ _ h=>.inr h⟩
  (hf ys i (by rw[dN.len];exact hroom))
 refine hcall.mono ?_
 rintro end_ w' ⟨v,rfl,⟨⟨dE,Z',F',rfl,hx,j5,hz2,hf2,A_,il⟩⟩⟩
 subst hr;simp only[iK]at il;obtain⟨vs1,et,dB,ahF,rfl,yO,⟨rfl,Xh⟩,_,Xi,_⟩:=il;have zb:∀b o,G1 b o→F b o∧b<w.heap.size:=fun b o h=>⟨hGF b o (Bx b o h),hF b o (hGF b o (Bx b o h))⟩
 have aiW:ah.apart G1 F':=by
  intro b o h1 h2;rcases (hf2 b o h2).1 with(h3|h3)|h3
  ·exact NR b o h1 h3
  ·exact Fy b o (Bx b o h1) h3
  ·have:=(zb b o h1).2;omega
 have n8:ch w w' G1:=ch.jv hx (fun b o h=>(zb b o h).2) (by
  rintro b o h1 (h3|h3)
  ·exact NR b o h1 h3
  ·exact Fy b o (Bx b o h1) h3)
 have Fz:hW w' Z' T T.own (xs.filter fun y=>p y i) (ys.filter fun y=>p' y i) G1:=(dN.same n8).filter fun x y h=>E9 x y i h
 have hsz:T.rw.size=T.size:=ad.py T;refine⟨_,rfl,⟨⟨_,Z',F'.or G1,rfl,?_,j5,?_,?_,?_,?_⟩⟩⟩
 ·exact hx.mono fun b o hb h=>h.elim (fun h=>hGF b o (za b o h)) fun h=>Bw b o h
 ·intro b o hz;rcases hz2 b o hz with h1|⟨h1,h2⟩
  ·exact .inl h1
  ·exact .inr ⟨h1.imp (fun h=>h.elim (fun h=>hGF b o (za b o h)) fun h=>Bw b o h) fun h=>h,h2⟩
 ·rintro b o (h1|h1)
  ·obtain⟨h2,h3⟩:=hf2 b o h1;exact⟨h2.imp (fun h=>h.elim (fun h=>hGF b o (za b o h)) fun h=>Bw b o h) fun h=>h,h3⟩
  ·exact⟨.inl (zb b o h1).1,Nat.lt_of_lt_of_le (zb b o h1).2 hx.size⟩
 ·rintro b o (h1|h1) hz
  ·exact A_ b o h1 hz
  ·rcases hz2 b o hz with h2|⟨(h2|h2)|h2,_⟩
   ·exact hFZ b o (zb b o h1).1 h2
   ·exact NR b o h1 h2
   ·exact Fy b o (Bx b o h1) h2
   ·have:=(zb b o h1).2;omega
 ·simp only[iK];refine⟨vs1,[],F'.or G1,ah.none,rfl,?_,⟨rfl,by simp only[iT]at Xh⊢;exact Xh⟩,fun _ _ _ h=>h.elim,fun _ _ h=>h,fun _ _ h=>h.elim⟩;simp only[ad.ar]at yO⊢;obtain⟨n2,c',rfl,yO⟩:=yO;refine⟨n2,c',by rw[←Fz.len],?_⟩;rcases yO with⟨h1,h2⟩|⟨b8,qk,iX⟩
  ·refine .inl ⟨List.eq_nil_of_length_eq_zero ?_,h2⟩;rw[←Fz.len,h1];rfl
  ·obtain⟨Uy,bF,_⟩:=iX.row;refine .inr ⟨b8,qk,iX.spot,by rw[←Fz.len];exact iX.cap,by have:=iX.wr;rwa[hsz]at this,?_,G1,Fz.row bF,?_,fun _ _ h=>.inr h⟩
   ·intro j hj;exact .inl (Xi _ _ (iX.inF j (by rw[hsz];exact hj)))
   ·intro j hj aB;exact aiW _ _ aB (Xi _ _ (iX.inF j (by rw[hsz];exact hj)))
end
end Go.LM
