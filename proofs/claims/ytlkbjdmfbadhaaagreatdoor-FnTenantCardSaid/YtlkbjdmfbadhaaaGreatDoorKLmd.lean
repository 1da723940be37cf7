/- Regions, loops and whole functions are what the interpreter says, and a law's reading fits them. Conditions: each theorem's own hypotheses. -/
import Derived.Test.YtlkbjdmfbadhaaaGreatDoorKLmc
import Derived.Orders
import Derived.OrdersHeld
import Derived.Laws.StructEq
import Derived.WalkKit
import Derived.ProofKit
import Derived.OpenShut
import Derived.ShutString
import Derived.ChangeOld
import Derived.Below
import Derived.JoinedCond
import Derived.Lib.Bytealg
set_option linter.unusedVariables false
set_option linter.unusedSimpArgs false
namespace Go.LM
section
variable{P:Program}{Q:Exit→Act→World→Prop}
variable{w0:World}{F0 Z0:ai}{n:cO}{s au:aq}{a cg:Act}{w w':World}{ι bp:Nat→bJ}{Z Z':ai}
variable{E:Env}{o:Oper}{bB : Type}{K:aq→Option bB}{r : bB}{id:Nat}
def hI(w0:World)(F0 Z0:ai)(n:cO)(K:aq→Option bB)(r : bB)(a:Act)(w:World):Prop:=∃s,K s=some r∧c8 w0 F0 Z0 n s a w
theorem TD(hn:E.n=n)(h:zq E o=true):∀k,o.dst=some k→k<n:=by intro k hk;unfold zq at h;rw [hk] at h;rw [← hn];exact Nat.le_of_ble_eq_true h
theorem Inv.TE(h:Inv w0 F0 Z0 n s a w ι Z){d:Nat}{b:Bool}(hb:s.t d=.aW (.bool b)):Inv w0 F0 Z0 n (s.set d (.aW (.bool b))) a w ι Z∧a.tmps.getD d undef=.bool b:=by
 have ah:=h.tmps d;rw [hb] at ah;have jK:a.tmps.getD d undef=.bool b:=by simpa only [aV,cw] using ah
 refine⟨h.tmp rfl (fun k=>?_) h.size h.defers,jK⟩;have hm:eR w Z s ι w Z (s.set d (.aW (.bool b))) ι := JM rfl;show aV w Z (s.set d (.aW (.bool b))) ι (bZ s.t d (.aW (.bool b)) k) (a.tmps.getD k undef);by_cases hk:d=k
 ·subst hk;rw [cN,jK];simp only [aV,cw]
 ·rw [cZ hk];exact(h.tmps k).move hm
theorem TF(h:Inv w0 F0 Z0 n s a w ι Z)(ah:∀k,o.dst=some k→k<n):c8 w0 F0 Z0 n (s.dst o.dst .gone) (a.put o.dst undef) w:=
 ⟨ι,Z,h.dst (by simp only [aV]) ah⟩
theorem TG{ops:Array Oper}(bS:j6 P E)(hn:E.n=n)(h:Inv w0 F0 Z0 n s a w ι Z)(hk:uc E id ops.toList o s K=some r) :
  if Region.wanted o (yielded ops a.tmps) then o.wp P a w (hI w0 F0 Z0 n K r) Q else hI w0 F0 Z0 n K r (a.put o.dst undef) w:=by
 unfold uc at hk;cases uL:zq E o
 ·rw [uL] at hk;cases hk
 rw [uL] at hk;simp only [cond_true] at hk;have ah:=TD hn uL;have ma:∀ {s1:aq},Inv w0 F0 Z0 n s1 a w ι Z→c3 E id o s1 K=some r→o.wp P a w (hI w0 F0 Z0 n K r) Q:=by intro s1 h1 hk1;obtain ⟨au,h2,h3⟩:=adP (Q:=Q) bS h1 ah hk1;exact Oper.wp_mono (fun a w hs=>⟨au,h2,hs⟩) h3
 have bP:∀ {s1:aq},Inv w0 F0 Z0 n s1 a w ι Z→K (s1.dst o.dst .gone)=some r→hI w0 F0 Z0 n K r (a.put o.dst undef) w:=fun h1 hk1=>⟨_,hk1,TF h1 ah⟩
 unfold guardOf at hk
 cases aI:o.guard with
 | none=>rw [aI] at hk;simp only at hk;rw [if_pos (by simp [Region.wanted,aI])];exact ma h hk
 | some K'=>
  obtain ⟨j,wt⟩:=K';rw [aI] at hk;simp only at hk
  cases hj:(ops.toList[j]?).bind (·.dst) with
  | none=>rw [hj] at hk;simp at hk
  | some d=>
   rw [hj] at hk;simp only at hk
   cases hst:s.t d with
   | aW c=>
    cases c with
    | bool b=>
     rw [hst] at hk;simp only at hk;obtain ⟨h1,h2⟩:=h.TE hst
     have aT:yielded ops a.tmps j=some b:=by
      unfold yielded;rw [Array.getElem?_toList] at hj;rw [hj];simp only [aw]
      have b2:d<a.tmps.size:=by
       rcases Nat.lt_or_ge d a.tmps.size with h | h
       ·exact h
       ·rw [Array.getD_eq_getD_getElem?,Array.getElem?_eq_none h] at h2;simp [undef] at h2
      rw [Array.getD_eq_getD_getElem?,Array.getElem?_eq_getElem b2] at h2;rw [Array.getElem?_eq_getElem b2];simp only [Option.getD_some] at h2;rw [h2]
     have hw:Region.wanted o (yielded ops a.tmps)=(b==wt):=by simp only [Region.wanted,aI,aT];cases b <;> cases wt <;> rfl
     rw [hw];cases b <;> cases wt <;> simp only [cond_true,cond_false] at hk
     ·exact ma h1 hk
     ·exact bP h1 hk
     ·exact bP h1 hk
     ·exact ma h1 hk
    | _=>rw [hst] at hk;simp at hk
   | gone=>
    rw [hst] at hk;simp only at hk;have h2:=h.tmps d;rw [hst] at h2;simp only [aV] at h2
    have aT:yielded ops a.tmps j=none:=by
     unfold yielded;rw [Array.getElem?_toList] at hj;rw [hj];simp only [aw];rw [Array.getD_eq_getD_getElem?] at h2
     cases iM:a.tmps[d]? with
     | none=>rfl
     | some v=>rw [iM] at h2;simp only [Option.getD_some] at h2;subst h2;rfl
    have hw:Region.wanted o (yielded ops a.tmps)=false:=by simp only [Region.wanted,aI,aT];cases wt <;> rfl
    rw [hw];exact bP h hk
   | _=>rw [hst] at hk;simp at hk
theorem Du{ops:Array Oper}{R:Exit→Act→World→Prop}{i m:Nat}(hi:ops[i]?=some o)(aI:o.guard=none)(h:o.wp P a w (fun a w=>wpOps P ops R (List.range' (i+1) m) a w) R):wpOps P ops R (List.range' i (m+1)) a w:=by rw [List.range'_succ];simp only [wpOps,hi];rw [if_pos (by simp [Region.wanted,aI])];exact .inl h
theorem La{bI:Nat}{ops:Array Oper}(bS:j6 P E)(hn:E.n=n):∀(m:Nat) (l:List Oper) (i:Nat) (s:aq) (a:Act) (w:World),l.length≤m→ops.toList.drop i=l→ud E bI ops.toList l i 0 s K=some r→c8 w0 F0 Z0 n s a w →
  wpOps P ops (fun e a w=>e=.normal∧hI w0 F0 Z0 n K r a w) (List.range' i l.length) a w
 | _,[],i,s,a,w,_,_,hk,hs=>⟨rfl,s,hk,hs⟩
 | 0,_ :: _,_,_,_,_,hm,_,_,_=>by simp at hm
 | m+1,o :: l,i,s,a,w,hm,hl,hk,⟨ι,Z,h⟩=>by
  have hm:l.length≤m:=by simpa using hm
  have Dv:∀(j:Nat) (o:Oper) (l:List Oper),ops.toList.drop j=o :: l→ops[j]?=some o∧ops.toList.drop (j+1)=l:=by intro j o l hl;refine⟨?_,by rw [← List.drop_drop,hl];rfl⟩;rw [← Array.getElem?_toList];have:=congrArg (·[0]?) hl;simpa using this
  obtain ⟨hi,gu⟩:=Dv i o l hl;simp only [ud] at hk;cases b3:RL E s o
  ·rw [b3] at hk;simp only [cond_false] at hk;rw [List.length_cons,List.range'_succ];have oJ:=TG (Q:=fun e a w=>e=.normal∧hI w0 F0 Z0 n K r a w) bS hn h hk;simp only [wpOps,hi]
   have qX:∀a w,hI w0 F0 Z0 n (fun au=>ud E bI ops.toList l (i+1) 0 au K) r a w→wpOps P ops (fun e a w=>e=.normal∧hI w0 F0 Z0 n K r a w) (List.range' (i+1) l.length) a w:=by
    rintro a w ⟨au,h1,h2⟩
    exact La bS hn m l (i+1) au a w hm gu h1 h2
   split
   ·rename_i hw;rw [if_pos hw] at oJ;exact .inl (Oper.wp_mono qX oJ)
   ·rename_i hw;rw [if_neg hw] at oJ;exact qX _ _ oJ
  ·rw [b3] at hk;simp only [cond_true] at hk;obtain ⟨dN,eQ,e6,l',rfl,g0,g1,g2,g3,mB⟩:=aed (Q:=fun e a w=>e=.normal∧hI w0 F0 Z0 n K r a w) bS hn h hk;obtain ⟨gT,hl1⟩:=Dv _ _ _ gu;obtain ⟨gw,d'⟩:=Dv _ _ _ hl1;obtain ⟨xm,Lb⟩:=Dv _ _ _ d';refine Du hi g0 (Oper.wp_mono (fun a w h=>Du gT g1 (Oper.wp_mono (fun a w h=>Du gw g2 (Oper.wp_mono (fun a w h=>Du xm g3 (Oper.wp_mono (fun a w h=>?_) h)) h)) h)) mB);obtain ⟨au,h1,h2⟩:=h;exact La bS hn m l' (i+1+1+1+1) au a w (by simp at hm;omega) Lb h1 h2
theorem aeo{bI:Nat}{ops:Array Oper}(bS:j6 P E)(hn:E.n=n)(l:List Oper)(i:Nat)(s:aq)(a:Act)(w:World)(hl:ops.toList.drop i=l)(hk:JE E bI ops.toList l i s K=some r)(hs:c8 w0 F0 Z0 n s a w) :
  wpOps P ops (fun e a w=>e=.normal∧hI w0 F0 Z0 n K r a w) (List.range' i l.length) a w:=La bS hn l.length l i s a w (Nat.le_refl _) hl hk hs
theorem aep{bI:Nat}{ops:Array Oper}(bS:j6 P E)(hn:E.n=n)(hk:JE E bI ops.toList ops.toList 0 s K=some r)(hs:c8 w0 F0 Z0 n s a w)(b:Frame)(k:List Item)(cs:List Frame) :
  ∃cg w',hI w0 F0 Z0 n K r cg w'∧Steps P (lone (b.at a (.code (.region bI ops false) :: k)) cs w) (lone (b.at cg k) cs w'):=by
 have h:=aeo (w0:=w0) (F0:=F0) (Z0:=Z0) (n:=n) bS hn ops.toList 0 s a w rfl hk hs;have h':wpOps P ops (fun e a w=>e=.normal∧hI w0 F0 Z0 n K r a w) (List.range ops.size) a w:=by rw [List.range_eq_range'];simpa using h
 obtain ⟨e,cg,w',⟨rfl,hl⟩,harr⟩:=wp_ops _ a w h' b k cs;exact⟨cg,w',hl,.head step_region harr⟩
end
end Go.LM
namespace Go.LM
section
variable{P:Program}{ops:Array Oper}{Q:Exit→Act→World→Prop}
abbrev fR:=List (Nat×(World→Prop))
def fR.after(ops:Array Oper)(j:Nat)(p:fR):fR:=p.filter fun x=> !waits ops j x.1
def fR.ok(p:fR)(w:World):Prop:=∀x∈p,x.2 w
def oL(P:Program)(ops:Array Oper)(Q:Exit→Act→World→Prop):Nat→Array Bool→fR→Act→World→Prop
 | 0,listed,_,a,w=>Region.ready .any ops listed=[]∧Q .normal a w
 | fuel+1,listed,jc,a,w=>
  (Region.ready .any ops listed=[]→Q .normal a w) ∧
  ∀j∈Region.ready .any ops listed,wpOp P ops Q j (fun cg w'=>(jc.after ops j).ok w'∧oL P ops Q fuel (listed.setIfInBounds j true) (jc.after ops j) cg w') a w
theorem TH:∀(fuel:Nat) (listed:Array Bool) (jc:fR) (a:Act) (w:World),oL P ops Q fuel listed jc a w→wpAny P .any ops Q fuel listed a w
 | 0,_,_,_,_,h=>h
 | fuel+1,_,_,_,_,h=>⟨h.1,fun i hi=>wpOp_mono (fun cg w' h'=>TH fuel _ _ cg w' h'.2) (h.2 i hi)⟩
theorem fR.TI{p q:fR}(h:∀x∈p,x∈q)(j:Nat):∀x∈p.after ops j,x∈q.after ops j:=by intro x hx;unfold fR.after at *;rw [List.mem_filter] at *;exact⟨h x hx.1,hx.2⟩
theorem TJ:∀(fuel:Nat) (listed:Array Bool) (p q:fR) (a:Act) (w:World),(∀x∈p,x∈q)→oL P ops Q fuel listed q a w→oL P ops Q fuel listed p a w
 | 0,_,_,_,_,_,_,h=>h
 | fuel+1,_,p,q,_,_,hs,h=>⟨h.1,fun i hi=>wpOp_mono (fun cg w' h'=>⟨fun x hx=>h'.1 x (fR.TI hs i x hx),TJ fuel _ _ _ cg w' (fR.TI hs i) h'.2⟩) (h.2 i hi)⟩
theorem fR.Lc{p:fR}{j:Nat}{x:Nat×(World→Prop)}(hx:x∈p.after ops j):x∈p:=(List.mem_filter.1 hx).1
theorem aeq{i:Nat}{mR:Oper}{v:Value}{S:World→Prop}(hi:ops[i]?=some mR)(xN:∀(j:Nat) (o:Oper) cs b,ops[j]?=some o→o.op≠.select cs b)
  (nN:∀c a w,Q (.panic c) (a.put mR.dst v) w→Q (.panic c) a w) :
  ∀(fuel:Nat) (listed:Array Bool) (jc:fR) (a:Act) (w:World),
   (∀j nO,ops[j]?=some nO→j≠i→listed.getD j true=false→(∀e∈nO.after,Region.binds .any e=true→e.on≠i)→mR.apart ops nO=true) →
   i∈Region.ready .any ops listed→YieldsIf P ops S mR v a→S w→jc.ok w →
   oL P ops Q fuel (listed.setIfInBounds i true) ((i,S) :: jc) (a.put mR.dst v) w→oL P ops Q (fuel+1) listed jc a w:=by
 intro fuel
 induction fuel with
 | zero=>
  intro listed jc a w _ hr aT dZ av H;refine⟨fun h=>(by rw [h] at hr;cases hr),fun j hj=>?_⟩;by_cases l9:j=i
  ·subst l9;exact aT.wpOp hi dZ ⟨fun x hx=>av x (fR.Lc hx),H⟩
  ·have:=ready_mono hj l9;rw [H.1] at this;cases this
 | succ fuel ih=>
  intro listed jc a w fs hr aT dZ av H;refine⟨fun h=>(by rw [h] at hr;cases hr),fun j hj=>?_⟩;by_cases l9:j=i
  ·subst l9;exact aT.wpOp hi dZ ⟨fun x hx=>av x (fR.Lc hx),TJ _ _ _ _ _ _ (fun x hx=>List.mem_cons_of_mem _ (fR.Lc hx)) H⟩
  ·have h1:=H.2 j (ready_mono hj l9);obtain ⟨TK,nO,Dw,qR⟩:=mem_ready.1 hj
   have TL:∀e∈nO.after,Region.binds .any e=true→e.on≠i:=fun e he hb heq=>by
    have h1:=qR e he hb;have h0:=(mem_ready.1 hr).1;rw [heq] at h1;rcases Nat.lt_or_ge i listed.size with h' | h'
    ·simp [h'] at h0 h1;rw [h0] at h1;cases h1
    ·simp [Array.getElem?_eq_none h'] at h1
   have aer:waits ops j i=false:=by unfold waits;rw [Dw];simp only;rw [Bool.eq_false_iff];intro aes;obtain ⟨e,he,hb⟩:=Array.any_eq_true'.1 aes;simp only [Bool.and_eq_true] at hb;exact TL e he hb.1 (Nat.eq_of_beq_eq_true hb.2)
   have aet:fR.after ops j ((i,S) :: jc)=(i,S) :: jc.after ops j:=by unfold fR.after;rw [List.filter_cons_of_pos (by simp [aer])]
   rw [aet] at h1;have h2:=wpOp_putIf Dw (fs j nO Dw l9 TK TL) (fun cs b=>xN i mR cs b hi) (fun cs b=>xN j nO cs b Dw) nN aT h1
   have aeu:∀k ok,ops[k]?=some ok→k≠i→(listed.setIfInBounds j true).getD k true=false →
     (∀e∈ok.after,Region.binds .any e=true→e.on≠i)→mR.apart ops ok=true:=fun k ok hk im xO bP=>by
    refine fs k ok hk im ?_ bP;by_cases l6:j=k
    ·subst l6;exact TK
    ·rw [getD_set_ne true l6] at xO;exact xO
   refine wpOp_mono (fun cg w' h3=>⟨fun x hx=>h3.2.1 x (List.mem_cons_of_mem _ hx),ih (listed.setIfInBounds j true) _ cg w' aeu (ready_mono hr (Ne.symm l9)) h3.1 (h3.2.1 _ List.mem_cons_self) (fun x hx=>h3.2.1 x (List.mem_cons_of_mem _ hx)) ?_⟩) h2;rw [Array.setIfInBounds_comm _ _ l9];exact h3.2.2
end
end Go.LM
namespace Go.LM
section
variable{P:Program}{Q:Exit→Act→World→Prop}
variable{w0:World}{F0 Z0:ai}{n:cO}{s au:aq}{a cg:Act}{w w':World}{ι bp:Nat→bJ}{Z Z':ai}
variable{E:Env}{o:Oper}{bB : Type}{K:aq→Option bB}{r : bB}{id:Nat}
structure cO.le(p q:cO):Prop where
 n:q.n=p.n
 qD:q.qD=p.qD
 gc:∀e,e∈p.gc→e∈q.gc
theorem cO.le.refl(n:cO):cO.le n n:=⟨rfl,rfl,fun _ h=>h⟩
theorem cO.le.trans{a b c:cO}(h:cO.le a b)(k:cO.le b c):cO.le a c:=⟨k.n.trans h.n,k.qD.trans h.qD,fun e he=>k.gc e (h.gc e he)⟩
theorem Inv.forget{en:cO}(h:Inv w0 F0 Z0 en s a w ι Z)(hl:cO.le n en):Inv w0 F0 Z0 n s a w ι Z:=
 ⟨h.ext,h.dO,h.sa,h.je,h.f_,h.own,h.apart,h.dd,h.tmps,by rw [h.size,hl.n],by rw [← hl.qD];exact h.ghost,fun e he=>h.seen e (hl.gc e he),h.defers⟩
theorem Inv.TM(h:Inv w0 F0 Z0 n s a w ι Z){e:Seen}(he:ui w Z s ι e):Inv w0 F0 Z0 ⟨n.n,n.qD,e :: n.gc⟩ s a w ι Z:=
 ⟨h.ext,h.dO,h.sa,h.je,h.f_,h.own,h.apart,h.dd,h.tmps,h.size,h.ghost,fun x hx=>by rcases List.mem_cons.1 hx with rfl | hx;exact he;exact h.seen x hx,h.defers⟩
theorem TN(n:cO)(e:Seen):cO.le n ⟨n.n,n.qD,e :: n.gc⟩:=⟨rfl,rfl,fun _ h=>List.mem_cons_of_mem _ h⟩
def sy(n:cO)(dp:List (Nat×Nat))(S:World→Prop):Prop:=(∀w,S w)∨∃b i vs,(⟨dp,b,i,vs⟩:Seen)∈n.gc∧S=fun w=>ca w b i vs
theorem sy.le{en:cO}{dp:List (Nat×Nat)}{S:World→Prop}(h:sy n dp S)(hl:cO.le n en):sy en dp S:=
 h.imp (fun h=>h) fun⟨b,i,vs,h1,h2⟩=>⟨b,i,vs,hl.gc _ h1,h2⟩
def Reads(P:Program)(w0:World)(F0 Z0:ai)(n:cO)(dp:List (Nat×Nat))(o:Oper)(a:Act)(w:World)(au:aq):Prop:=
 ∃v S en,(∀w',S w'→(execOp a.eval o).run P w'=.ok (.value v) w')∧S w∧c8 w0 F0 Z0 en au (a.put o.dst v) w∧cO.le n en∧sy en dp S
theorem Pure.reads{dp:List (Nat×Nat)}(h:Pure P o a w (c8 w0 F0 Z0 n au)):Reads P w0 F0 Z0 n dp o a w au:=by obtain ⟨v,h1,h2⟩:=h;exact⟨v,fun _=>True,n,fun w' _=>h1 w',trivial,h2,.refl n,.inl fun _=>trivial⟩
theorem aev{t:Nat}{x:Operand}(b3:hB P E)(h:Inv w0 F0 Z0 n s a w ι Z)(ah:∀k,o.dst=some k→k<n)(ho:o.op=.load t x)(hk:c3 E id o s K=some r) :
  ∃au,K au=some r∧Reads P w0 F0 Z0 n (jb s o) o a w au:=by
 unfold c3 at hk;rw [ho] at hk;simp only at hk;have hx:=fe h x
 have hrun:∀ {T:ae} {b i:Nat} {vs:List Value} {w':World},E.ty t=some T→a.eval x=.pointer (some (at_ b i))→ca w' b i vs→vs.length=T.size →
   (execOp a.eval o).run P w'=.ok (.value (dQ T vs)) w':=by
  intro T b i vs w' ht he hc hl;unfold execOp;rw [ho];refine gd ?_;simp only [Instr.loadAt,Instr.sureAddr,he,run_bind,run_pure,J3 (b3.ty t T ht) hc hl]
 cases ht:E.ty t with
 | none=>rw [ht] at hk;simp at hk
 | some T=>
  rw [ht] at hk
  cases cS:b0 s x with
  | ptr p=>
   have nv:jb s o=[(p.id,kG s p.id)]:=by unfold jb;rw [ho];simp only [cS]
   rw [cS] at hk hx;simp only at hk
   cases de:(mv s T.size p).bind (ke T) with
   | none=>rw [de] at hk;simp at hk
   | some v=>
    rw [de] at hk;obtain ⟨cs,h1,h2⟩:=bq de;simp only [aV] at hx;obtain ⟨_,A,he,av⟩:=hx;obtain ⟨b,i,vs,rfl,hc,cB,hl,cj,hF⟩:=SZ h h1 av;have Ld:ui w Z s ι ⟨jb s o,b,i,vs⟩:=by rw [nv];refine⟨fun d ah=>?_,fun _=>⟨cB,fun j hj=>.inr ⟨_,List.mem_singleton.2 rfl,hF j (by simp only at hj;omega)⟩⟩⟩;rw [List.mem_singleton] at ah;subst ah;exact⟨fun hn=>by rw [hn] at cj;exact cj,.inr (Nat.le_refl _)⟩
    exact⟨_,hk,_,fun w'=>ca w' b i vs,_,fun w' hw=>hrun ht he hw hl,cB,⟨ι,Z,(h.TM Ld).dst (pI h2 hc) ah⟩,TN n ⟨jb s o,_,_,_⟩,.inr ⟨b,i,vs,List.mem_cons_self,rfl⟩⟩
  | dk dp cs off=>
   have nv:jb s o=dp:=by unfold jb;rw [ho];simp only [cS]
   rw [cS] at hk hx;simp only at hk
   cases de:(takeN off T.size cs).bind (ke T) with
   | none=>rw [de] at hk;simp at hk
   | some v=>
    rw [de] at hk;simp only at hk;cases dB:alive s dp
    ·rw [dB] at hk;simp at hk
    rw [dB] at hk;obtain ⟨ds,h1,h2⟩:=bq de;obtain ⟨h3,rfl⟩:=pE h1;simp only [aV] at hx;obtain ⟨cK,b,i,vs,he,hx⟩:=hx;obtain ⟨hc,cB,hz⟩:=hx dB;have hlen:=hc.len;have TO:ca w b (i+off) (part vs off T.size):=cB.part off T.size;have gf:(part vs off T.size).length=T.size:=by simp [part];omega
    have Ld:ui w Z s ι ⟨jb s o,b,i+off,part vs off T.size⟩:=by rw [nv];refine⟨cK,fun _=>⟨TO,fun j hj=>?_⟩⟩;simp only at hj;rw [gf] at hj;have:=hz (off+j) (by omega);rwa [← Nat.add_assoc] at this
    exact⟨_,hk,_,fun w'=>ca w' b (i+off) (part vs off T.size),_,fun w' hw=>hrun ht he hw gf,TO,⟨ι,Z,(h.TM Ld).dst (pI h2 ((hc.drop _).take _)) ah⟩,TN n ⟨jb s o,_,_,_⟩,.inr ⟨b,i+off,part vs off T.size,List.mem_cons_self,rfl⟩⟩
  | _=>rw [cS] at hk;simp at hk
theorem aew(bS:j6 P E)(h:Inv w0 F0 Z0 n s a w ι Z)(ah:∀k,o.dst=some k→k<n)(de:ue E o=true)(hk:c3 E id o s K=some r) :
  ∃au,K au=some r∧Reads P w0 F0 Z0 n (jb s o) o a w au:=by
 have fw:(∃au,K au=some r∧Pure P o a w (c8 w0 F0 Z0 n au))→∃au,K au=some r∧Reads P w0 F0 Z0 n (jb s o) o a w au:=fun⟨au,h1,h2⟩=>⟨au,h1,h2.reads⟩
 unfold ue at de
 cases ho:o.op with
 | move x=>exact fw (CL h ah (.inl ho) hk)
 | assign x=>exact fw (CL h ah (.inr ho) hk)
 | pick c x y=>exact fw (R7 h ah ho hk)
 | load t x=>exact aev bS.ty h ah ho hk
 | nilCheck x=>exact fw (R9 h ah ho hk)
 | binOp op t x y CQ=>exact fw (Sp bS.ty bS.eq h ah ho hk)
 | unOp op t x=>exact fw (Sm h ah ho hk)
 | convert st gy x=>
  rw [ho] at de;simp only at de
  cases h1:E.ty st with
  | none=>rw [h1] at de;simp at de
  | some S=>
   cases h2:E.ty gy with
   | none=>rw [h1,h2] at de;cases S <;> simp at de
   | some T=>rw [h1,h2] at de;cases S <;> cases T <;> simp only at de <;> first | (cases de;done) | exact fw (acS bS.ty h ah ho h1 h2 hk)
 | build t ps=>exact fw (SF bS.ty h ah ho hk)
 | makeFunc f first lP=>
  cases f with
  | func f=>exact fw (Sc h ah ho hk)
  | _=>unfold c3 at hk;rw [ho] at hk;simp at hk
 | slice t x lo hi fr=>exact fw (Si bS.ty h ah ho hk)
 | fieldAddr t x f=>exact fw (R' bS.ty h ah ho hk)
 | field t x f=>exact fw (Sa bS.ty h ah ho hk)
 | indexAddr t x i=>exact fw (Sd bS.ty h ah ho hk)
 | index t x i=>exact fw (Se bS.ty h ah ho hk)
 | extract x i=>exact fw (Sb h ah ho hk)
 | call c=>
  rw [ho] at de;simp only at de
  cases hc:c.callee with
  | builtin b=>
   rw [hc] at de;by_cases hb:b=.append
   ·subst hb;simp at de
   ·by_cases hb2:b=.clear
    ·subst hb2;simp at de
    ·exact fw (Sz bS.ty h ah ho hc hb hb2 hk)
  | value f=>rw [hc] at de;simp at de
  | invoke x m=>rw [hc] at de;simp at de
 | _=>rw [ho] at de;simp at de
theorem aex{d:Nat}{c:a_}(hst:s.t d=c)(x:Operand):b0 (s.set d c) x=b0 s x:=by
 cases x with
 | tmp t=>
  show bZ s.t d c t=s.t t;by_cases ah:d=t
  ·subst ah;rw [cN,hst]
  ·rw [cZ ah]
 | _=>rfl
theorem TP{d:Nat}{c:a_}(hst:s.t d=c):jb (s.set d c) o=jb s o:=by
 unfold jb;cases ho:o.op <;> simp only
 rename_i t x;rw [aex hst];rfl
theorem aey{ops:Array Oper}(bS:j6 P E)(hn:E.n=n)(de:ue E o=true)(h:Inv w0 F0 Z0 n s a w ι Z)(hk:uc E id ops.toList o s K=some r) :
  ∃au v S en,K au=some r∧YieldsIf P ops S o v a∧S w∧c8 w0 F0 Z0 en au (a.put o.dst v) w∧cO.le n en∧sy en (jb s o) S:=by
 unfold uc at hk;cases uL:zq E o
 ·rw [uL] at hk;cases hk
 rw [uL] at hk;simp only [cond_true] at hk;have ah:=TD hn uL;have ma:∀ {s1:aq},Region.wanted o (yielded ops a.tmps)=true→jb s1 o=jb s o→Inv w0 F0 Z0 n s1 a w ι Z→c3 E id o s1 K=some r→∃au v S en,K au=some r∧YieldsIf P ops S o v a∧S w∧c8 w0 F0 Z0 en au (a.put o.dst v) w∧cO.le n en∧sy en (jb s o) S:=by intro s1 hw he h1 hk1;obtain ⟨au,h2,v,S,en,h3,h4,a',br,bL⟩:=aew bS h1 ah de hk1;exact⟨au,v,S,en,h2,.inl ⟨hw,h3⟩,h4,a',br,he ▸ bL⟩
 have bP:∀ {s1:aq},Region.wanted o (yielded ops a.tmps)=false→Inv w0 F0 Z0 n s1 a w ι Z→K (s1.dst o.dst .gone)=some r→∃au v S en,K au=some r∧YieldsIf P ops S o v a∧S w∧c8 w0 F0 Z0 en au (a.put o.dst v) w∧cO.le n en∧sy en (jb s o) S:=fun hw h1 hk1=>⟨_,undef,fun _=>True,n,hk1,.inr ⟨hw,rfl⟩,trivial,TF h1 ah,.refl n,.inl fun _=>trivial⟩
 unfold guardOf at hk
 cases aI:o.guard with
 | none=>rw [aI] at hk;simp only at hk;exact ma (by simp [Region.wanted,aI]) rfl h hk
 | some K'=>
  obtain ⟨j,wt⟩:=K';rw [aI] at hk;simp only at hk
  cases hj:(ops.toList[j]?).bind (·.dst) with
  | none=>rw [hj] at hk;simp at hk
  | some d=>
   rw [hj] at hk;simp only at hk
   cases hst:s.t d with
   | aW c=>
    cases c with
    | bool b=>
     rw [hst] at hk;simp only at hk;obtain ⟨h1,h2⟩:=h.TE hst
     have aT:yielded ops a.tmps j=some b:=by
      unfold yielded;rw [Array.getElem?_toList] at hj;rw [hj];simp only [aw]
      have b2:d<a.tmps.size:=by
       rcases Nat.lt_or_ge d a.tmps.size with h | h
       ·exact h
       ·rw [Array.getD_eq_getD_getElem?,Array.getElem?_eq_none h] at h2;simp [undef] at h2
      rw [Array.getD_eq_getD_getElem?,Array.getElem?_eq_getElem b2] at h2;rw [Array.getElem?_eq_getElem b2];simp only [Option.getD_some] at h2;rw [h2]
     have hw:Region.wanted o (yielded ops a.tmps)=(b==wt):=by simp only [Region.wanted,aI,aT];cases b <;> cases wt <;> rfl
     cases b <;> cases wt <;> simp only [cond_true,cond_false] at hk
     ·exact ma hw (TP hst) h1 hk
     ·exact bP hw h1 hk
     ·exact bP hw h1 hk
     ·exact ma hw (TP hst) h1 hk
    | _=>rw [hst] at hk;simp at hk
   | gone=>
    rw [hst] at hk;simp only at hk;have h2:=h.tmps d;rw [hst] at h2;simp only [aV] at h2
    have aT:yielded ops a.tmps j=none:=by
     unfold yielded;rw [Array.getElem?_toList] at hj;rw [hj];simp only [aw];rw [Array.getD_eq_getD_getElem?] at h2
     cases iM:a.tmps[d]? with
     | none=>rfl
     | some v=>rw [iM] at h2;simp only [Option.getD_some] at h2;subst h2;rfl
    have hw:Region.wanted o (yielded ops a.tmps)=false:=by simp only [Region.wanted,aI,aT];cases wt <;> rfl
    exact bP hw h hk
   | _=>rw [hst] at hk;simp at hk
theorem aez{a b:Option bB}(h:both a b=some r):a=some r∧b=some r:=by
 unfold both at h;split at h
 ·rename_i he;subst he;exact⟨h,h⟩
 ·cases h
theorem TQ:∀ {l:List (Option bB)},CE l=some r→∀x∈l,x=some r
 | [x],h,y,aT=>by rw [List.mem_singleton] at aT;rw [aT];exact h
 | x :: z :: l,h,y,aT=>by
  simp only [CE] at h;obtain ⟨h1,h2⟩:=aez h;rcases List.mem_cons.1 aT with rfl | aT
  ·exact h1
  ·exact TQ (l:=z :: l) h2 y aT
def xP(n:cO)(p:List (Nat×List (Nat×Nat)))(q:fR):Prop:=∀x∈q,∃dp,(x.1,dp)∈p∧sy n dp x.2
theorem xP.le{en:cO}{p:List (Nat×List (Nat×Nat))}{q:fR}(h:xP n p q)(hl:cO.le n en):xP en p q:=
 fun x hx=>let ⟨dp,h1,h2⟩:=h x hx;⟨dp,h1,h2.le hl⟩
theorem Le:∀ {p:List (Nat×List (Nat×Nat))},uf s p=true→∀x∈p,alive s x.2=true
 | [],_,_,hx=>by simp at hx
 | y :: p,h,x,hx=>by
  unfold uf at h;cases ha:alive s y.2
  ·rw [ha] at h;cases h
  ·rw [ha] at h;rcases List.mem_cons.1 hx with rfl | hx
   ·exact ha
   ·exact Le h x hx
theorem aeA{bI:Nat}{ops:Array Oper}(bS:j6 P E){m:Nat}{listed:Array Bool}{p:List (Nat×List (Nat×Nat))}{q:fR}{en:cO}{rs:List Nat}(hn:E.n=en)(hle:cO.le n en)(hr:Region.ready .any ops listed=rs)
  (h:Inv w0 F0 Z0 en s a w ι Z) (av:xP en p q) (hk:JI E bI ops listed p rs s K=some r):oL P ops (fun e a w=>e=.normal∧hI w0 F0 Z0 n K r a w) (m+3+1) listed q a w:=by
 have Dx:∀ {l:List Nat} {i:Nat},one l=some i→l=[i]:=by
  intro l i h
  match l,h with
  | [j],h=>rw [aZ (show some j=some i from h)]
 unfold JI at hk;obtain ⟨i,h0,hk⟩:=bq hk;obtain ⟨i1,h1,hk⟩:=bq hk;obtain ⟨i2,h2,hk⟩:=bq hk;obtain ⟨i3,h3,hk⟩:=bq hk;have h0:=hr.trans (Dx h0);have h1:=Dx h1;have h2:=Dx h2;have h3:=Dx h3;generalize hl1:listed.setIfInBounds i true=eb at hk h1 h2 h3;generalize d':eb.setIfInBounds i1 true=eS at hk h2 h3;generalize Lb:eS.setIfInBounds i2 true=oB at hk h3;generalize aeB:oB.setIfInBounds i3 true=pH at hk;cases hb:((Region.ready .any ops pH).isEmpty&&((p.filter fun p=> !waits ops i p.1).filter fun p=> !waits ops i1 p.1).isEmpty)
 ·rw [hb] at hk;cases hk
 rw [hb] at hk;simp only [cond_true] at hk;simp only [Bool.and_eq_true,List.isEmpty_iff] at hb;obtain ⟨h4,aeC⟩:=hb;obtain ⟨o,ho,hk⟩:=bq hk;obtain ⟨dN,mO,hk⟩:=bq hk;obtain ⟨eQ,kj,hk⟩:=bq hk;obtain ⟨e6,qS,hk⟩:=bq hk;obtain ⟨g0,g1,g2,g3,mB⟩:=aem (Q:=fun e a w=>e=.normal∧hI w0 F0 Z0 n K r a w) bS hn h hk
 have step:∀ {fuel j:Nat} {nO:Oper} {l:Array Bool} {q:fR} {a:Act} {w:World},Region.ready .any ops l=[j]→ops[j]?=some nO→nO.guard=none →
   nO.wp P a w (fun cg w'=>(q.after ops j).ok w'∧oL P ops (fun e a w=>e=.normal∧hI w0 F0 Z0 n K r a w) fuel (l.setIfInBounds j true) (q.after ops j) cg w') (fun e a w=>e=.normal∧hI w0 F0 Z0 n K r a w) →
   oL P ops (fun e a w=>e=.normal∧hI w0 F0 Z0 n K r a w) (fuel+1) l q a w:=by
  intro fuel j nO l q a w hr hj aI hw;refine⟨fun h=>(by rw [hr] at h;cases h),fun k hk=>?_⟩;rw [hr] at hk;obtain rfl:=List.mem_singleton.1 hk;unfold wpOp;simp only [hj];rw [if_pos (by simp [Region.wanted,aI])];exact .inl hw
 have ij:fR.after ops i1 (fR.after ops i q)=[]:=by
  refine List.eq_nil_iff_forall_not_mem.2 fun x hx=>?_
  obtain ⟨hx,hx1⟩:=List.mem_filter.1 hx;obtain ⟨hx,hx0⟩:=List.mem_filter.1 hx;obtain ⟨dp,g1,_⟩:=av x hx;have:(x.1,dp)∈((p.filter fun p=> !waits ops i p.1).filter fun p=> !waits ops i1 p.1):=List.mem_filter.2 ⟨List.mem_filter.2 ⟨g1,hx0⟩,hx1⟩;rw [aeC] at this;cases this
 have nil:∀(j:Nat),fR.after ops j []=[]:=fun _=>rfl
 refine step h0 ho g0 (Oper.wp_mono ?_ mB)
 rintro a1 oK ⟨⟨ov,qU,bp,Z',k2⟩,mB⟩
 refine⟨?_,?_⟩
 ·intro x hx;obtain ⟨hx1,hx2⟩:=List.mem_filter.1 hx;obtain ⟨dp,f1,f2⟩:=av x hx1;rcases f2 with f2 | ⟨b,j,vs,f2,f3⟩
  ·exact f2 oK
  ·rw [f3];exact((k2.seen _ f2).2 (Le qU _ (List.mem_filter.2 ⟨f1,hx2⟩))).1
 rw [hl1];refine step h1 mO g1 (Oper.wp_mono ?_ mB);intro a2 ch mB;rw [ij,d'];refine⟨fun x hx=>(by cases hx),step h2 kj g2 (Oper.wp_mono ?_ mB)⟩;intro a3 pW mB;rw [nil,Lb];refine⟨fun x hx=>(by cases hx),step h3 qS g3 (Oper.wp_mono ?_ mB)⟩
 rintro a4 aeD ⟨au,e1,Tn,aeE,e2⟩
 rw [nil,aeB];refine⟨fun x hx=>(by cases hx),?_⟩;have hfin:Exit.normal=.normal∧hI w0 F0 Z0 n K r a4 aeD:=⟨rfl,au,e1,Tn,aeE,e2.forget hle⟩
 cases m with
 | zero=>exact⟨h4,hfin⟩
 | succ m=>exact⟨fun _=>hfin,fun j hj=>(by rw [h4] at hj;cases hj)⟩
theorem Lf{bI:Nat}{ops:Array Oper}(bS:j6 P E)(hs:Region.noSelect ops=true):∀(m:Nat) (listed:Array Bool) (p:List (Nat×List (Nat×Nat))) (q:fR) (en:cO) (s:aq) (a:Act) (w:World),
  E.n=en→cO.le n en→ug E bI ops m listed p s K=some r→c8 w0 F0 Z0 en s a w→xP en p q→q.ok w →
  oL P ops (fun e a w=>e=.normal∧hI w0 F0 Z0 n K r a w) m listed q a w
 | 0,listed,p,q,en,s,a,w,hn,hle,hk,⟨ι,Z,h⟩,av,hq=>by
  unfold ug at hk
  cases hr:Region.ready .any ops listed with
  | nil=>rw [hr] at hk;exact⟨hr,rfl,s,hk,ι,Z,h.forget hle⟩
  | cons=>rw [hr] at hk;cases hk
 | m+1,listed,p,q,en,s,a,w,hn,hle,hk,⟨ι,Z,h⟩,av,hq=>by
  unfold ug at hk
  cases hr:Region.ready .any ops listed with
  | nil=>rw [hr] at hk;exact⟨fun _=>⟨rfl,s,hk,ι,Z,h.forget hle⟩,fun j hj=>by rw [hr] at hj;simp at hj⟩
  | cons i0 TS=>
   rw [hr] at hk;simp only at hk
   cases hf:(i0 :: TS).find? fun i=>JF E ops i&&Region.free .any ops listed i with
   | some i=>
    rw [hf] at hk;simp only at hk;have h3:=List.find?_some hf;simp only [Bool.and_eq_true] at h3
    cases ho:ops[i]? with
    | none=>rw [ho] at hk;cases hk
    | some o=>
     rw [ho] at hk;simp only at hk;have de:ue E o=true:=by have:=h3.1;unfold JF at this;rw [ho] at this;exact this
     obtain ⟨au,v,S,jG,h1,h2,g3,h4,a',br⟩:=aey bS hn de h hk;refine aeq ho (Region.noSelect_spec hs) (fun c a w hh=>by simp at hh) m listed q a w (Region.free_spec ho h3.2) (by rw [hr];exact List.mem_of_find?_eq_some hf) h2 g3 hq ?_;refine Lf bS hs m _ _ _ jG au _ w (hn.trans a'.n.symm) (hle.trans a') h1 h4 ?_ ?_
     ·intro x hx;rcases List.mem_cons.1 hx with rfl | hx
      ·exact⟨_,List.mem_cons_self,br⟩
      ·obtain ⟨dp,g1,g2⟩:=av x hx;exact⟨dp,List.mem_cons_of_mem _ g1,g2.le a'⟩
     ·intro x hx;rcases List.mem_cons.1 hx with rfl | hx
      ·exact g3
      ·exact hq x hx
   | none=>
    rw [hf] at hk;simp only at hk;cases hA:(RM s ops (i0 :: TS)&&Nat.ble 3 m)
    case true=>
     rw [hA] at hk;simp only [cond_true] at hk;simp only [Bool.and_eq_true] at hA;obtain ⟨m',rfl⟩:∃m',m=m'+3:=⟨m-3,by have:=Nat.le_of_ble_eq_true hA.2;omega⟩
     exact aeA bS hn hle hr h av hk
    rw [hA] at hk;simp only [cond_false] at hk;refine⟨fun h0=>(by rw [hr] at h0;cases h0),fun j hj=>?_⟩;rw [hr] at hj;have hj':=TQ hk _ (List.mem_map.2 ⟨j,hj,rfl⟩)
    cases ho:ops[j]? with
    | none=>rw [ho] at hj';cases hj'
    | some o=>
     rw [ho] at hj';simp only at hj';cases de:ue E o
     case true=>rw [de] at hj';cases hj'
     rw [de] at hj';simp only [cond_false] at hj';have oJ:=TG (Q:=fun e a w=>e=.normal∧hI w0 F0 Z0 n K r a w) bS hn h hj'
     have qX:∀cg w',hI w0 F0 Z0 en (fun au=>cond (uf au (p.filter fun p=> !waits ops j p.1)) (ug E bI ops m (listed.setIfInBounds j true) (p.filter fun p=> !waits ops j p.1) au K) none) r cg w' →
       (q.after ops j).ok w'∧oL P ops (fun e a w=>e=.normal∧hI w0 F0 Z0 n K r a w) m (listed.setIfInBounds j true) (q.after ops j) cg w':=by
      rintro cg w' ⟨au,k1,bp,Z',k2⟩
      dsimp only at k1;cases dB:uf au (p.filter fun p=> !waits ops j p.1)
      ·rw [dB] at k1;cases k1
      rw [dB] at k1;simp only [cond_true] at k1;have Dy:xP en (p.filter fun p=> !waits ops j p.1) (q.after ops j):=by intro x hx;obtain ⟨hx1,hx2⟩:=List.mem_filter.1 hx;obtain ⟨dp,g1,g2⟩:=av x hx1;exact⟨dp,List.mem_filter.2 ⟨g1,hx2⟩,g2⟩
      have cK:(q.after ops j).ok w':=by
       intro x hx;obtain ⟨dp,g1,g2⟩:=Dy x hx;rcases g2 with g2 | ⟨b,i,vs,g2,g3⟩
       ·exact g2 w'
       ·rw [g3];exact((k2.seen _ g2).2 (Le dB _ g1)).1
      exact⟨cK,Lf bS hs m _ _ _ en au cg w' hn hle k1 ⟨bp,Z',k2⟩ Dy cK⟩
     unfold wpOp;simp only [ho];split
     ·rename_i hw;rw [if_pos hw] at oJ;exact .inl (Oper.wp_mono qX oJ)
     ·rename_i hw;rw [if_neg hw] at oJ;exact qX _ _ oJ
theorem aeF{bI:Nat}{ops:Array Oper}(bS:j6 P E)(hn:E.n=n)(hk:JJ E bI ops s K=some r)(hs:c8 w0 F0 Z0 n s a w)(b:Frame)(k:List Item)(cs:List Frame) :
  ∃cg w',hI w0 F0 Z0 n K r cg w'∧Steps P (lone (b.at a (.code (.region bI ops true) :: k)) cs w) (lone (b.at cg k) cs w'):=by
 unfold JJ at hk;cases xN:Region.noSelect ops
 ·rw [xN] at hk;cases hk
 rw [xN] at hk;simp only [cond_true] at hk;obtain ⟨ι,Z,h⟩:=hs;have h1:=Lf (n:=n) bS xN ops.size _ [] [] n s a { w with drawn:=w.drawn+1 } hn (.refl n) hk ⟨ι,Z,h.drew _⟩ (fun x hx=>by simp at hx) (fun x hx=>by simp at hx);obtain ⟨e,cg,w',⟨rfl,hl⟩,harr⟩:=(wp_region_any (id:=bI) bS.mix (TH _ _ _ _ _ h1)) b k cs;exact⟨cg,w',hl,harr⟩
end
end Go.LM
namespace Go.LM
section
variable{P:Program}{w0:World}{F0 Z0:ai}{n:cO}{E:Env}{bB : Type}{r : bB}
def mb:Code→List Item→List (Nat×List Item)
 | .region bI ops ic,k=>[(bI,.code (.region bI ops ic) :: k)]
 | .seq a b,k=>mb a (.code b :: k)++mb b k
 | .cond _ x y,k=>mb x k++mb y k
 | .block id c,k=>mb c (.inBlock id :: k)
 | .loop c,k=>mb c (.inLoop c :: k)
 | _,_=>[]
def gY:List Item→List (Nat×List Item)
 | []=>[]
 | .code c :: k=>mb c k++gY k
 | .inLoop c :: k=>mb c (.inLoop c :: k)++gY k
 | _ :: k=>gY k
theorem TT{id:Nat} : ∀ {k k':List Item},exitTo id k=some k'→∀p,p∈gY k'→p∈gY k
 | [],_,h,_,_=>by simp [exitTo] at h
 | x :: k,k',h,p,av=>by
  have key:(∃i,x=.inBlock i∧k'=k)∨exitTo id k=some k':=by
   cases x with
   | inBlock i=>
    simp only [exitTo] at h;by_cases hi:(i==id)=true
    ·rw [if_pos hi] at h;exact .inl ⟨i,rfl,(aZ h).symm⟩
    ·rw [if_neg hi] at h;exact .inr h
   | _=>exact .inr h
  rcases key with⟨i,rfl,rfl⟩ | hk
  ·exact av
  ·have:=TT hk p av;cases x <;> simp only [gY] <;> first | exact this | exact List.mem_append_right _ this
def TU(H:Hand bB)(cuts:Nat→Bool)(r : bB)(todo:List Item)(s:aq):Prop:=
 (∃bI ops ic k,todo=.code (.region bI ops ic) :: k∧cuts bI=true∧H.cut bI todo s=some r)∨((todo=[]∨∃k,todo=.code .ret :: k)∧H.fin s=some r)
theorem TV{cuts:Nat→Bool}{H:Hand bB}(bS:j6 P E)(hn:E.n=n):∀(fuel:Nat) (first:Bool) (todo:List Item) (s:aq) (a:Act) (w:World),
  kg E cuts H fuel first todo s=some r→c8 w0 F0 Z0 n s a w→∀(b:Frame) (cs:List Frame),
  ∃pX au cg w',c8 w0 F0 Z0 n au cg w'∧TU H cuts r pX au∧(∀p,p∈gY pX→p∈gY todo)∧Steps P (lone (b.at a todo) cs w) (lone (b.at cg pX) cs w')
 | 0,_,_,_,_,_,hk,_=>by simp [kg] at hk
 | fuel+1,first,todo,s,a,w,hk,hs=>by
  intro b cs;have ih:=fun first todo s a w hk hs=>TV (H:=H) (cuts:=cuts) bS hn fuel first todo s a w hk hs b cs
  have one:∀ {todo1:List Item} {first:Bool},(∀p,p∈gY todo1→p∈gY todo)→step P (lone (b.at a todo) cs w)=.next (lone (b.at a todo1) cs w)→kg E cuts H fuel first todo1 s=some r →
    ∃pX au cg w',c8 w0 F0 Z0 n au cg w'∧TU H cuts r pX au∧(∀p,p∈gY pX→p∈gY todo)∧Steps P (lone (b.at a todo) cs w) (lone (b.at cg pX) cs w'):=by
   intro todo1 first hcs hst hk1
   obtain ⟨cq,au,cg,w',h1,h2,h3,h4⟩:=ih first todo1 s a w hk1 hs
   exact⟨cq,au,cg,w',h1,h2,fun p av=>hcs p (h3 p av),.head hst h4⟩
  unfold kg at hk
  match todo,hk with
  | [],hk=>exact⟨[],s,a,w,hs,.inr ⟨.inl rfl,hk⟩,fun _ h=>h,.refl _ _⟩
  | .inBlock _ :: k,hk=>exact one (todo1:=k) (fun _ h=>h) step_inBlock hk
  | .inLoop c :: k,hk=>exact one (fun p av=>by simp only [gY,List.mem_append] at av ⊢;exact av.elim .inl fun h=>h) step_inLoop hk
  | .code .ret :: k,hk=>exact⟨_,s,a,w,hs,.inr ⟨.inr ⟨k,rfl⟩,hk⟩,fun _ h=>h,.refl _ _⟩
  | .code .skip :: k,hk=>exact one (todo1:=k) (fun _ h=>h) step_skip hk
  | .code (.seq x y) :: k,hk=>exact one (fun p av=>by simp only [gY,mb,List.mem_append] at av ⊢;exact or_assoc.2 av) step_seq hk
  | .code (.block id c) :: k,hk=>exact one (fun p av=>by simpa only [gY,mb] using av) step_block hk
  | .code (.loop c) :: k,hk=>exact one (fun p av=>by simp only [gY,mb,List.mem_append] at av ⊢;exact av.elim .inl fun h=>h) step_loop hk
  | .code (.exit id) :: k,hk=>
   simp only at hk
   cases he:exitTo id k with
   | none=>rw [he] at hk;simp at hk
   | some k'=>rw [he] at hk;exact one (TT he) (step_exit he) hk
  | .code (.cond c x y) :: k,hk=>
   simp only at hk;obtain ⟨ι,Z,h⟩:=hs;have hc:=fe h c
   cases hcv:b0 s c with
   | aW kh=>
    cases kh with
    | bool t=>
     rw [hcv] at hk hc;simp only [aV,cw] at hc;have hst:=step_cond (P:=P) (b:=b) (a:=a) (k:=k) (cs:=cs) (w:=w) (x:=x) (y:=y) hc
     cases t with
     | true=>exact one (fun p av=>by simp only [gY,mb,List.mem_append] at av ⊢;exact av.elim (fun h=>.inl (.inl h)) .inr) hst hk
     | false=>exact one (fun p av=>by simp only [gY,mb,List.mem_append] at av ⊢;exact av.elim (fun h=>.inl (.inr h)) .inr) hst hk
    | _=>rw [hcv] at hk;simp at hk
   | _=>rw [hcv] at hk;simp at hk
  | .code (.region bI ops ic) :: k,hk=>
   simp only at hk;cases ji:(cuts bI && !first)
   ·rw [ji] at hk;simp only [cond_false] at hk
    have aeG:∃cg w',hI w0 F0 Z0 n (fun au=>kg E cuts H fuel false k au) r cg w'∧Steps P (lone (b.at a (.code (.region bI ops ic) :: k)) cs w) (lone (b.at cg k) cs w'):=by
     cases ic with
     | false=>exact aep bS hn hk hs b k cs
     | true=>exact aeF bS hn hk hs b k cs
    obtain ⟨a1,oK,⟨s1,h1,h2⟩,hst⟩:=aeG;obtain ⟨cq,au,cg,w',cU,eF,iE,iF⟩:=ih false k s1 a1 oK h1 h2;exact⟨cq,au,cg,w',cU,eF,fun p av=>by simp only [gY,List.mem_append];exact .inr (iE p av),hst.trans iF⟩
   ·rw [ji] at hk;simp only [cond_true] at hk;simp only [Bool.and_eq_true] at ji;exact⟨_,s,a,w,hs,.inl ⟨bI,ops,ic,k,rfl,ji.1,hk⟩,fun _ h=>h,.refl _ _⟩
  | .code (.goto _) :: _,hk | .code (.label _) :: _,hk | .code (.scope _) :: _,hk | .inRegion _ _ :: _,hk | .inScope _ :: _,hk=>simp at hk
end
end Go.LM
namespace Go.LM
def lv(key:Nat):(ps:List bF)→(bF.ins ps).D→Nat→aq→Option (List a_×aq×Nat)
 | [],_,j,s=>some ([],s,j)
 | .fn _ _ :: ps,x,j,s=>(lv key ps x j s).bind fun q=>some (.ay :: q.1,q.2)
 | .val t m :: ps,x,j,s=>(t.hT m [] x.1 s j).bind fun r=>(ke t r.1).bind fun v=>(lv key ps x.2 r.2.2 r.2.1).bind fun q=>some (v :: q.1,q.2)
 | .hS t :: ps,x,j,s=>(t.hT .R [] x.1 s j).bind fun r=>(ke t r.1).bind fun v=>(lv key ps x.2 r.2.2 r.2.1).bind fun q=>some (v :: q.1,q.2)
 | .hR t m :: ps,x,j,s=>(t.hT m [] x.1 s j).bind fun r=>(ke t r.1).bind fun v=>(lv key ps x.2 r.2.2 r.2.1).bind fun q=>some (v :: q.1,q.2)
 | .ref t :: ps,x,j,s=>(lv key ps x.2 j s).bind fun q=>some (.dk [] (t.cells [] none x.1) 0 :: q.1,q.2)
 | .mut t m _ :: ps,x,j,s=>(t.hT m [] x.1 s j).bind fun r=>(mkObj r.2.1 r.2.2 (.var 0 r.1)).bind fun s1=>(lv key ps x.2 (r.2.2+1) s1).bind fun q=>some (.ptr ⟨r.2.2,none,0⟩ :: q.1,q.2)
section
variable{P:Program}{w0:World}{F0 Z0:ai}{n:cO}{s au:aq}{a cg:Act}{w w':World}{ι bp:Nat→bJ}{Z Z':ai}
theorem Inv.start{F:ai}(hZ:∀b o,Z b o→b<w.heap.size){m:Nat}(ha:a.tmps.size=m)(ah:a.defers=[]):Inv w F Z ⟨m,[],[]⟩ ⟨fun _=>.ay,fun _=>.none,[]⟩ a w ι Z:=
 ⟨Ext.refl _ _,fun _ _ h=>.inl h,fun _ _ h=>h,hZ,fun _=>trivial,fun _ h=>h.elim,fun _ _ h=>h.elim,fun _ h=>h.elim,fun _=>by simp only [aV],ha,by simp only [a8],fun _ h=>by simp at h,ah⟩
def aeH(w0:World)(F0 Z0:ai)(n:cO)(s:aq)(a:Act)(w:World)(ι : Nat→bJ)(Z:ai)(us:List Value)(F:ai)(q:List a_×aq×Nat):Prop:=
 ∃ bp,Inv w0 F0 Z0 n q.2.1 a w bp Z∧gV false w Z s ι w Z q.2.1 bp (fun _ _=>True)∧a8 w Z q.2.1 bp q.1 us∧∀X,bM w0 F0 s w ι Z X→ai.apart X F→bM w0 F0 q.2.1 w bp Z X
theorem aeI:gV false w Z s ι w Z s ι (fun _ _=>True):=
 ⟨fun _ _ h=>h,fun _ _ h=>h,fun _ _ h=>h,fun _ _ _ h=>⟨h,rfl⟩,fun h=>by simp at h,cd.refl _ _,cd.refl _ _,fun _ _ h=>h,fun _ _ _ h=>h⟩
theorem oM:Z.or (dt ι [])=Z:=by
 funext b o
 apply propext;constructor
 ·rintro (h | ⟨d,ah,_⟩)
  ·exact h
  ·simp at ah
 ·exact .inl
theorem uM{key:Nat} : ∀(ps:List bF) (x:(bF.ins ps).D) (us:List Value) (j:Nat) (s:aq) (ι : Nat→bJ) (F:ai) (q:List a_×aq×Nat),lv key ps x j s=some q→Inv w0 F0 Z0 n s a w ι Z →
  gH w Z key ps x us F→bM w0 F0 s w ι Z F→aeH w0 F0 Z0 n s a w ι Z us F q
 | [],x,us,j,s,ι,F,q,he,h,hA,hF=>by simp only [lv,Option.some.injEq] at he;subst he;exact⟨ι,h,aeI,hA,fun X hX _=>hX⟩
 | .fn mu py :: ps,x,us,j,s,ι,F,q,he,h,hA,hF=>by simp only [lv] at he;obtain ⟨p,av,he⟩:=bq he;obtain rfl:=aZ he;obtain ⟨ark,arl,aX,rfl,hsz,h4⟩:=hA;obtain ⟨dH,i1,held,hr,nM⟩:=uM ps x aX j s ι F p av h h4 hF;refine⟨dH,i1,held,?_,nM⟩;simp only [a8];exact⟨_,aX,rfl,by simp only [aV],hr⟩
 | .ref t :: ps,x,us,j,s,ι,F,q,he,h,hA,hF=>by simp only [lv] at he;obtain ⟨p,av,he⟩:=bq he;obtain rfl:=aZ he;obtain ⟨b,o,vs,aX,rfl,h1,h2,h3,h4⟩:=hA;obtain ⟨dH,i1,held,hr,nM⟩:=uM ps x.2 aX j s ι F p av h h4 hF;refine⟨dH,i1,held,?_,nM⟩;simp only [a8];refine⟨_,aX,rfl,held.az _ _ ?_,hr⟩;simp only [aV];have hl:=(ae.ar.len t _ h2).1;have hc:bN w Z s ι (t.cells [] none x.1) vs:=ae.qF t [] none (by simp) (fun _=>by rw [oM];exact h2) ⟨_,_,_,h2⟩ .none;refine⟨by simp,b,o,vs,by simp,fun _=>⟨hc,h1,fun k hk=>.inl (h3 k (by rw [← hc.len,hl] at hk;exact hk))⟩⟩
 | .val t m :: ps,x,us,j,s,ι,F,q,he,h,hA,hF=>by simp only [lv] at he;obtain ⟨r,hr,he⟩:=bq he;obtain ⟨v,hv,he⟩:=bq he;obtain ⟨p,av,he⟩:=bq he;obtain rfl:=aZ he;obtain ⟨vs,aX,G,H,rfl,h1,h2,h3,h4,a'⟩:=hA;obtain ⟨dH,i1,jn,c1,fP⟩:=ae.oy t m [] x.1 s ι j r vs G hr h (by rw [oM];exact h1) (hF.sub h4) (by rintro b o _ ⟨d,ah,_⟩;simp at ah) (by simp);obtain ⟨eJ,i2,held,oN,nM⟩:=uM ps x.2 aX _ _ dH H p av i1 h2 (fP H (hF.sub a') fun b o x y=>h3 b o y x);refine⟨eJ,i2,(jn.held _).trans held,?_,fun X hX fQ=>nM X (fP X hX fun b o x y=>fQ b o x (h4 b o y)) fun b o x y=>fQ b o x (a' b o y)⟩;simp only [a8];exact⟨_,aX,rfl,held.az _ _ (pI hv c1),oN⟩
 | .hS t :: ps,x,us,j,s,ι,F,q,he,h,hA,hF=>by simp only [lv] at he;obtain ⟨r,hr,he⟩:=bq he;obtain ⟨v,hv,he⟩:=bq he;obtain ⟨p,av,he⟩:=bq he;obtain rfl:=aZ he;obtain ⟨vs,aX,G,H,rfl,h1,h2,h3,h4,a'⟩:=hA;obtain ⟨dH,i1,jn,c1,fP⟩:=ae.oy t .R [] x.1 s ι j r vs G hr h (by rw [oM];exact h1) (hF.sub h4) (by rintro b o _ ⟨d,ah,_⟩;simp at ah) (by simp);obtain ⟨eJ,i2,held,oN,nM⟩:=uM ps x.2 aX _ _ dH H p av i1 h2 (fP H (hF.sub a') fun b o x y=>h3 b o y x);refine⟨eJ,i2,(jn.held _).trans held,?_,fun X hX fQ=>nM X (fP X hX fun b o x y=>fQ b o x (h4 b o y)) fun b o x y=>fQ b o x (a' b o y)⟩;simp only [a8];exact⟨_,aX,rfl,held.az _ _ (pI hv c1),oN⟩
 | .hR t m :: ps,x,us,j,s,ι,F,q,he,h,hA,hF=>by simp only [lv] at he;obtain ⟨r,hr,he⟩:=bq he;obtain ⟨v,hv,he⟩:=bq he;obtain ⟨p,av,he⟩:=bq he;obtain rfl:=aZ he;obtain ⟨vs,aX,G,H,rfl,h1,h2,h3,h4,a'⟩:=hA;obtain ⟨dH,i1,jn,c1,fP⟩:=ae.oy t m [] x.1 s ι j r vs G hr h (by rw [oM];exact h1) (hF.sub h4) (by rintro b o _ ⟨d,ah,_⟩;simp at ah) (by simp);obtain ⟨eJ,i2,held,oN,nM⟩:=uM ps x.2 aX _ _ dH H p av i1 h2 (fP H (hF.sub a') fun b o x y=>h3 b o y x);refine⟨eJ,i2,(jn.held _).trans held,?_,fun X hX fQ=>nM X (fP X hX fun b o x y=>fQ b o x (h4 b o y)) fun b o x y=>fQ b o x (a' b o y)⟩;simp only [a8];exact⟨_,aX,rfl,held.az _ _ (pI hv c1),oN⟩
 | .mut t m m' :: ps,x,us,j,s,ι,F,q,he,h,hA,hF=>by
  simp only [lv] at he;obtain ⟨r,hr,he⟩:=bq he;obtain ⟨s1,hm,he⟩:=bq he;obtain ⟨p,av,he⟩:=bq he;obtain rfl:=aZ he;obtain ⟨cf,rfl⟩:=qI hm;obtain ⟨b,o,vs,aX,G,H,rfl,h1,hwr,h2,h3,h4,a',br,bL⟩:=hA;have hG:ai.sub G F:=fun b o x=>br b o (.inl x)
  have d_:ai.sub (ai.run b o t.size) F:=fun b o x=>br b o (.inr x)
  obtain ⟨dH,i1,jn,c1,fP⟩:=ae.oy t m [] x.1 s ι j r vs G hr h (by rw [oM];exact h2) (hF.sub hG) (by rintro b o _ ⟨d,ah,_⟩;simp at ah) (by simp);have hl:=(ae.ar.len t _ h2).1;have hcl:=c1.len;have kk:=fP _ (hF.sub d_) (fun b o x y=>a' b o y x);obtain ⟨i2,nJ,mJ,nK⟩:=KE i1 (id:=r.2.2) (o:=.var 0 r.1) (i:=⟨some (at_ b o),0,ai.run b o t.size⟩) (by rw [cf];exact fun h=>h) (fun o'=>by simp) (by rw [cf];exact .made _ _ _) (fun hm=>by refine⟨at_ b o,vs,rfl,rfl,c1.move hm,h1,fun k hk=>⟨hwr k (by omega),rfl,by simp [at_],by simp [at_];omega⟩⟩) kk;have xA:=(jn.held (w:=w) (Z:=Z) (fun _ _=>True)).trans nJ;have zR:∀X,bM w0 F0 s w ι Z X→ai.apart X (G.or (ai.run b o t.size))→bM w0 F0 (r.2.1.bV r.2.2 (.var 0 r.1)) w (bZ dH r.2.2 ⟨some (at_ b o),0,ai.run b o t.size⟩) Z X:=fun X hX fQ=>mJ X (fP X hX fun b o x y=>fQ b o x (.inl y)) fun b o x y=>fQ b o x (.inr y)
  obtain ⟨KL,i3,TW,oN,aeJ⟩:=uM ps x.2 aX _ _ _ H p av i2 h3 (zR H (hF.sub bL) fun b o x y=>h4 b o y x);refine⟨KL,i3,xA.trans TW,?_,fun X hX fQ=>aeJ X (zR X hX fun b o x y=>fQ b o x (br b o y)) fun b o x y=>fQ b o x (bL b o y)⟩;simp only [a8];refine⟨_,aX,rfl,TW.az _ _ ?_,oN⟩;simp only [aV];refine⟨by show bZ r.2.1.o r.2.2 _ r.2.2≠_;rw [cN];simp,_,rfl,rfl,?_⟩;show match (bZ r.2.1.o r.2.2 _ r.2.2).core with | .var _ _=>_ | .row .. => _ | _=>_
  rw [cN];exact⟨rfl,at_ b o,by rw [cN],by simp [at_]⟩
end
end Go.LM
namespace Go.LM
def z1(t:ae)(m:bl)(v:a_)(s:aq):Option (t.D×aq):=
 cond (oq t v) (match ja t v with
  | some cs=>(t.imp false m cs s []).bind fun r=>match r.2.1 with
   | []=>some (r.1,r.2.2.1)
   | _=>none
  | none=>none) none
def iN:(ps:List bF)→List a_→aq→Option (bF.eg ps).D
 | [],_,_=>some ()
 | .mut t _ m' :: ps,gs,s=>
  match gs with
  | .ptr p :: gs=>
   match s.o p.id,p.fD with
   | .var _ cs,none=>cond (Nat.beq p.off 0&&Nat.beq cs.length t.size)
    ((t.imp false m' cs (s.bV p.id .dead) []).bind fun r=>match r.2.1 with
     | []=>(iN ps gs r.2.2.1).bind fun q=>some (r.1,q)
     | _=>none) none
   | _,_=>none
  | _=>none
 | .hR t m :: ps,gs,s=>
  match gs with
  | v :: gs=>(z1 t m v s).bind fun r=>(iN ps gs r.2).bind fun q=>some (r.1,q)
  | []=>none
 | .val _ _ :: ps,gs,s=>
  match gs with
  | _ :: gs=>iN ps gs s
  | []=>none
 | .hS _ :: ps,gs,s=>
  match gs with
  | _ :: gs=>iN ps gs s
  | []=>none
 | .ref _ :: ps,gs,s=>
  match gs with
  | _ :: gs=>iN ps gs s
  | []=>none
 | .fn _ _ :: ps,gs,s=>
  match gs with
  | _ :: gs=>iN ps gs s
  | []=>none
section
variable{P:Program}{w0:World}{F0 Z0:ai}{n:cO}{s au:aq}{a cg:Act}{w w':World}{ι bp:Nat→bJ}{Z Z':ai}
theorem TX{t:ae}{m:bl}{v:a_}{u:Value}{r:t.D×aq}(ho:z1 t m v s=some r)(h:Inv w0 F0 Z0 n s a w ι Z)(hv:aV w Z s ι v u) :
  ∃vs F Z',u=dQ t vs∧Inv w0 F0 Z0 n r.2 a w ι Z'∧fj s ι Z r.2 Z'∧bM w0 F0 r.2 w ι Z' F∧t.ar w Z' m r.1 vs F∧∀b o,F b o→∃id,(s.o id).live∧(ι id).F b o:=by
 unfold z1 at ho;cases hf:oq t v
 ·rw [hf] at ho;simp at ho
 rw [hf] at ho;simp only [cond_true] at ho
 cases hcs:ja t v with
 | none=>rw [hcs] at ho;simp at ho
 | some cs=>
  rw [hcs] at ho;simp only at ho;obtain ⟨q,hq,ho⟩:=bq ho
  cases ez:q.2.1 with
  | cons=>rw [ez] at ho;simp at ho
  | nil=>
   rw [ez] at ho;obtain rfl:=aZ ho;obtain ⟨us1,vs1,F1,cI,e1,i1,s1,c1,f1,bH,_,e8,_,g1⟩:=ae.lW t false m cs s [] q _ Z hq h (sg hcs hv) (by simp);rw [ez] at c1;have hvs1:vs1=[]:=by cases vs1 with | nil=>rfl | cons=>exact c1.elim
   subst hvs1;rw [List.append_nil] at e1;have hw:=C7 hf hv;rw [e1] at hw;rw [e8 rfl,oM] at bH;exact⟨us1,F1,cI,hw,i1,s1,f1,bH,g1⟩
theorem uN:∀(ps:List bF) (gs:List a_) (us:List Value) (s:aq) (Z:ai) (x:(bF.eg ps).D),iN ps gs s=some x→Inv w0 F0 Z0 n s a w ι Z→a8 w Z s ι gs us →
  ∃au F Z',Inv w0 F0 Z0 n au a w ι Z'∧fj s ι Z au Z'∧bM w0 F0 au w ι Z' F∧iC w Z' ps us x F∧∀b o,F b o→∃id,(s.o id).live∧(ι id).F b o
 | [],gs,us,s,Z,x,ho,h,hv=>⟨s,ai.none,Z,h,.refl,.none,trivial,fun _ _ h=>h.elim⟩
 | .val t m :: ps,gs,us,s,Z,x,ho,h,hv=>by
  cases gs with
  | nil=>simp [iN] at ho
  | cons v gs=>simp only [a8] at hv;obtain ⟨u,aX,rfl,h1,h2⟩:=hv;obtain ⟨au,F,Z',i1,s1,f1,bH,g1⟩:=uN ps gs aX s Z x (by simp only [iN] at ho;exact ho) h h2;exact⟨au,F,Z',i1,s1,f1,⟨u,aX,rfl,bH⟩,g1⟩
 | .hS t :: ps,gs,us,s,Z,x,ho,h,hv=>by
  cases gs with
  | nil=>simp [iN] at ho
  | cons v gs=>simp only [a8] at hv;obtain ⟨u,aX,rfl,h1,h2⟩:=hv;obtain ⟨au,F,Z',i1,s1,f1,bH,g1⟩:=uN ps gs aX s Z x (by simp only [iN] at ho;exact ho) h h2;exact⟨au,F,Z',i1,s1,f1,⟨u,aX,rfl,bH⟩,g1⟩
 | .ref t :: ps,gs,us,s,Z,x,ho,h,hv=>by
  cases gs with
  | nil=>simp [iN] at ho
  | cons v gs=>simp only [a8] at hv;obtain ⟨u,aX,rfl,h1,h2⟩:=hv;obtain ⟨au,F,Z',i1,s1,f1,bH,g1⟩:=uN ps gs aX s Z x (by simp only [iN] at ho;exact ho) h h2;exact⟨au,F,Z',i1,s1,f1,⟨u,aX,rfl,bH⟩,g1⟩
 | .fn _ _ :: ps,gs,us,s,Z,x,ho,h,hv=>by
  cases gs with
  | nil=>simp [iN] at ho
  | cons v gs=>simp only [a8] at hv;obtain ⟨u,aX,rfl,h1,h2⟩:=hv;obtain ⟨au,F,Z',i1,s1,f1,bH,g1⟩:=uN ps gs aX s Z x (by simp only [iN] at ho;exact ho) h h2;exact⟨au,F,Z',i1,s1,f1,⟨u,aX,rfl,bH⟩,g1⟩
 | .hR t m :: ps,gs,us,s,Z,x,ho,h,hv=>by
  cases gs with
  | nil=>simp [iN] at ho
  | cons v gs=>
   simp only [a8] at hv;obtain ⟨u,aX,rfl,h1,h2⟩:=hv;simp only [iN] at ho;obtain ⟨r,hr,ho⟩:=bq ho;obtain ⟨q,hq,ho⟩:=bq ho;obtain rfl:=aZ ho;obtain ⟨vs,F1,cI,rfl,i1,s1,f1,bH,g1⟩:=TX hr h h1;obtain ⟨au,dU,bR,i2,s2,f2,cm,g2⟩:=uN ps gs aX r.2 cI q hq i1 (a8.move s1.et h2);refine⟨au,F1.or dU,bR,i2,s1.trans s2,(f1.shrink s2).or f2,⟨vs,aX,F1,dU,rfl,ae.ar.mono s2.dO _ _ (fun _ _ h=>h) bH,cm,?_,fun _ _ h=>.inl h,fun _ _ h=>.inr h⟩,?_⟩
   ·intro b o x y;obtain ⟨id,hl,hf⟩:=g2 b o y;exact f1.apart id hl b o x hf
   ·rintro b o (y | y)
    ·exact g1 b o y
    ·obtain ⟨id,hl,hf⟩:=g2 b o y;exact⟨id,(s1.live hl).1,hf⟩
 | .mut t m m' :: ps,gs,us,s,Z,x,ho,h,hv=>by
  cases gs with
  | nil=>simp [iN] at ho
  | cons v gs=>
   simp only [a8] at hv;obtain ⟨u,aX,rfl,h1,h2⟩:=hv;cases v <;> simp only [iN] at ho <;> try (simp at ho;done)
   rename_i p;simp only [aV] at h1;obtain ⟨hk,A,rfl,_,av⟩:=h1
   cases b1:s.o p.id with
   | var ver cs=>
    rw [b1] at ho av;obtain ⟨he,a0,eL,hA⟩:=av;rw [he] at ho;simp only at ho;cases hc:(Nat.beq p.off 0&&Nat.beq cs.length t.size)
    ·rw [hc] at ho;cases ho
    rw [hc] at ho;simp only [Bool.and_eq_true] at hc;have fK:=Nat.eq_of_beq_eq_true hc.1;have hlen:=Nat.eq_of_beq_eq_true hc.2;simp only [cond_true] at ho;obtain ⟨r,hr,ho⟩:=bq ho
    cases ez:r.2.1 with
    | cons=>rw [ez] at ho;cases ho
    | nil=>
     rw [ez] at ho;simp only at ho;obtain ⟨q,hq,ho⟩:=bq ho;obtain rfl:=aZ ho;have cj:(s.o p.id).live:=by rw [b1];trivial
     have da:=h.f_ p.id;rw [b1] at da;obtain ⟨⟨b,o,sp⟩,ws,dP,hsp,hc,cB,hF⟩:=da;simp only at hsp;subst hsp;rw [eL] at dP;obtain rfl:=aZ dP;have iH:fj s ι Z (s.bV p.id .dead) Z:=w9 p.id cj;have hi0:=h.take p.id (fun _ _ h=>h) (fun _ _ h=>.inl h);have fs:=h.w8 cj;obtain ⟨us1,vs1,F1,cI,e1,i1,s1,c1,f1,bH,_,e8,_,g1⟩:=ae.lW t false m' cs _ [] r _ Z hr hi0 (hc.move iH.et) (by simp);rw [ez] at c1;have hvs1:vs1=[]:=by cases vs1 with | nil=>rfl | cons=>exact c1.elim
     subst hvs1;rw [List.append_nil] at e1;subst e1;rw [e8 rfl,oM] at bH;obtain ⟨au,dU,bR,i2,s2,f2,cm,g2⟩:=uN ps gs aX r.2.2.1 cI q hq i1 (a8.move s1.et (a8.move iH.et h2))
     have hrun:ai.sub (ai.run b o t.size) (ι p.id).F:=by
      rintro b' o' ⟨rfl,h1,h2⟩
      have:=(hF (o'-o) (by omega)).2;simp only at this;rwa [show o +(o'-o)=o' by omega] at this
     have kk:=(fs.sub hrun).shrink s1;have Lg:ai.apart F1 (ai.run b o t.size):=by intro b o x y;obtain ⟨id,hl,hf⟩:=g1 b o x;exact fs.apart id hl b o (hrun b o y) hf
     have gX:bM w0 F0 r.2.2.1 w ι cI (F1.or (ai.run b o t.size)):=f1.or kk;refine⟨au,(F1.or (ai.run b o t.size)).or dU,bR,i2,(iH.trans s1).trans s2,(gX.shrink s2).or f2,⟨b,o,ws,aX,F1,dU,?_,cB,ae.ar.mono s2.dO _ _ (fun _ _ h=>h) bH,cm,?_,Lg,fun _ _ h=>.inl h,fun _ _ h=>.inr h⟩,?_⟩
     ·rw [hA,fK];rfl
     ·intro b o x y;obtain ⟨id,hl,hf⟩:=g2 b o y;exact gX.apart id hl b o x hf
     ·rintro b o ((y | y) | y)
      ·obtain ⟨id,hl,hf⟩:=g1 b o y;exact⟨id,(iH.live hl).1,hf⟩
      ·exact⟨p.id,cj,hrun b o y⟩
      ·obtain ⟨id,hl,hf⟩:=g2 b o y;exact⟨id,(iH.live (s1.live hl).1).1,hf⟩
   | _=>rw [b1] at ho;simp at ho
end
end Go.LM
namespace Go.LM
section
variable{P:Program}{w0:World}{F0 Z0:ai}{n:cO}{s au:aq}{a cg:Act}{w w':World}{ι bp:Nat→bJ}{Z Z':ai}
def Dz(t:ae)(m:bl)(v:a_)(s:aq):Option (t.D×aq):=
 match v with
 | .ptr p=>
  match s.o p.id,p.fD with
  | .var _ cs,none=>cond (Nat.beq p.off 0&&Nat.beq cs.length t.size)
   ((t.imp false m cs (s.bV p.id .dead) []).bind fun r=>match r.2.1 with
    | []=>some (r.1,r.2.2.1)
    | _=>none) none
  | _,_=>none
 | _=>none
theorem aeK{t:ae}{m:bl}{v:a_}{u:Value}{s:aq}{Z:ai}{x:t.D×aq}(ho:Dz t m v s=some x)(h:Inv w0 F0 Z0 n s a w ι Z)(h1:aV w Z s ι v u) :
  ∃b o vs F Z',u=.pointer (some (at_ b o))∧Inv w0 F0 Z0 n x.2 a w ι Z'∧fj s ι Z x.2 Z'∧bM w0 F0 x.2 w ι Z' (F.or (ai.run b o t.size))∧ca w b o vs∧(∀j,j<t.size→fC w b (o+j))∧t.ar w Z' m x.1 vs F ∧
   ai.apart F (ai.run b o t.size)∧∀b' o',(F.or (ai.run b o t.size)) b' o'→∃id,(s.o id).live∧(ι id).F b' o':=by
 cases v <;> simp only [Dz] at ho <;> try (simp at ho;done)
 rename_i p;simp only [aV] at h1;obtain ⟨hk,A,rfl,_,av⟩:=h1
 cases b1:s.o p.id with
 | var ver cs=>
  rw [b1] at ho av;obtain ⟨he,a0,eL,hA⟩:=av;rw [he] at ho;simp only at ho;cases hc:(Nat.beq p.off 0&&Nat.beq cs.length t.size)
  ·rw [hc] at ho;cases ho
  rw [hc] at ho;simp only [Bool.and_eq_true] at hc;have fK:=Nat.eq_of_beq_eq_true hc.1;have hlen:=Nat.eq_of_beq_eq_true hc.2;simp only [cond_true] at ho;obtain ⟨r,hr,ho⟩:=bq ho
  cases ez:r.2.1 with
  | cons=>rw [ez] at ho;cases ho
  | nil=>
   rw [ez] at ho;obtain rfl:=aZ ho;have cj:(s.o p.id).live:=by rw [b1];trivial
   have da:=h.f_ p.id;rw [b1] at da;obtain ⟨a1,ws,dP,hsp,hcs,cB,hF⟩:=da;rw [eL] at dP;obtain rfl:=aZ dP;obtain ⟨b,o,sp⟩:=a0;simp only at hsp;subst hsp;have iH:fj s ι Z (s.bV p.id .dead) Z:=w9 p.id cj;have hi0:=h.take p.id (fun _ _ h=>h) (fun _ _ h=>.inl h);have fs:=h.w8 cj;obtain ⟨us1,vs1,F1,cI,e1,i1,s1,c1,f1,bH,_,e8,_,g1⟩:=ae.lW t false m cs _ [] r _ Z hr hi0 (hcs.move iH.et) (by simp);rw [ez] at c1;have hvs1:vs1=[]:=by cases vs1 with | nil=>rfl | cons=>exact c1.elim
   subst hvs1;rw [List.append_nil] at e1;subst e1;rw [e8 rfl,oM] at bH
   have hrun:ai.sub (ai.run b o t.size) (ι p.id).F:=by
    rintro b' o' ⟨rfl,h1,h2⟩
    have:=(hF (o'-o) (by omega)).2;simp only at this;rwa [show o +(o'-o)=o' by omega] at this
   have kk:=(fs.sub hrun).shrink s1;have Lg:ai.apart F1 (ai.run b o t.size):=by intro b o x y;obtain ⟨id,hl,hf⟩:=g1 b o x;exact fs.apart id hl b o (hrun b o y) hf
   refine⟨b,o,_,F1,cI,?_,i1,iH.trans s1,f1.or kk,cB,fun j hj=>(hF j (by omega)).1,bH,Lg,?_⟩
   ·rw [hA,fK];rfl
   ·rintro b o (y | y)
    ·obtain ⟨id,hl,hf⟩:=g1 b o y;exact⟨id,(iH.live hl).1,hf⟩
    ·exact⟨p.id,cj,hrun b o y⟩
 | _=>rw [b1] at ho;simp at ho
def z6(gs:List a_)(a off:Nat)(t:ae)(v:a_)(s:aq):Option Int:=
 match v with
 | .kd=>some (-1)
 | .opt id x=>
  match qA s gs a off with
  | some k=>cond (Nat.beq k id&&qB s t id) (some x) none
  | none=>none
 | .ptr p=>
  match qA s gs a off,p.fD with
  | some k,some i=>cond (Nat.beq k p.id&&qB s t p.id&&Nat.beq p.off 0) (some (i:Int)) none
  | _,_=>none
 | _=>none
theorem TY{gs:List a_}{us:List Value}{l7 off id:Nat}{t:ae}{i:Nat}{xE:Addr}(ec:qA s gs l7 off=some id)(mL:qB s t id=true)(h:Inv w0 F0 Z0 n s a w ι Z)(hv:a8 w Z s ι gs us)
  (av:jF s ι ⟨id,some i,0⟩ xE):Kt w us l7 off t.size (i:Int) (.pointer (some xE)):=by
 unfold qA at ec
 cases nE:gs[l7]? with
 | none=>rw [nE] at ec;simp at ec
 | some lT=>
  rw [nE] at ec
  cases lT with
  | ptr pl=>
   simp only at ec
   cases de:mv s 1 { pl with off:=pl.off+off } with
   | none=>rw [de] at ec;simp at ec
   | some cs=>
    rw [de] at ec
    have hcs:cs=[.ah id none]:=by
     split at ec
     ·rename_i h;obtain rfl:=aZ ec;exact aZ h
     ·simp at ec
    subst hcs;obtain ⟨u,xC,sw⟩:=hv.get l7 nE;simp only [aV] at sw;obtain ⟨ki,A,rfl,nL⟩:=sw;obtain ⟨b,o,sp⟩:=A;have hsp:=nL.1;simp only at hsp;subst hsp;obtain ⟨pD,eQ,ws,hA,hc1,hc2,zL⟩:=zv h de (jF.plus (b:=b) (o:=o) off nL);simp only [at_,Addr.mk.injEq,and_true] at hA;obtain ⟨rfl,rfl⟩:=hA
    match ws,hc1 with
    | [v0],hc1=>
     obtain ⟨hk0,A,m,k,rfl,hh⟩:=hc1.1;unfold qB at mL
     cases b1:s.o id with
     | row u em ver xs=>
      rw [b1] at mL;have:=ae.eq_of_beq _ _ mL;subst this;obtain ⟨cU,eF,iE,iF,iG⟩:=hh u em ver xs (lU b1);have cU:m=xs.length:=cU;obtain ⟨hs,av⟩:=av;have av:match (s.o id).core with | .var _ cs=>_ | .row t _ _ xs=>_ | _=>_:=av
      rw [lU b1] at av;obtain ⟨dS,hi,b2,a0,gx,qL⟩:=av;obtain rfl:=aZ hi;rcases iG with iG | ⟨a1,nA,nF⟩
      ·omega
      ·rw [gx] at nA;obtain rfl:=aZ nA;right;refine⟨by omega,b,o,a0.block,a0.off,m,k,xC,?_,by simp;omega,?_⟩
       ·rw [hc2.head,nF];simp [er,at_]
       ·rw [qL];simp [at_]
     | _=>rw [b1] at mL;cases mL
  | _=>simp at ec
theorem aeL{gs:List a_}{us:List Value}{l7 off:Nat}{t:ae}{v:a_}{u:Value}{x:Int}(ho:z6 gs l7 off t v s=some x)(h:Inv w0 F0 Z0 n s a w ι Z)(aI:a8 w Z s ι gs us)(hv:aV w Z s ι v u):Kt w us l7 off t.size x u:=by
 cases v with
 | kd=>obtain rfl:=aZ ho;simp only [aV] at hv;exact .inl ⟨by omega,hv⟩
 | opt id y=>
  simp only [z6] at ho
  cases ec:qA s gs l7 off with
  | none=>rw [ec] at ho;cases ho
  | some k=>
   rw [ec] at ho;cases hc:(Nat.beq k id&&qB s t id)
   ·simp only [hc] at ho;cases ho
   simp only [hc,cond_true] at ho;obtain rfl:=aZ ho;simp only [Bool.and_eq_true] at hc;obtain rfl:=Nat.eq_of_beq_eq_true hc.1;simp only [aV] at hv;obtain ⟨_,⟨h1,h2⟩ | ⟨h1,xE,rfl,h2⟩⟩:=hv
   ·exact .inl ⟨h1,h2⟩
   ·have:=TY ec hc.2 h aI h2;rwa [Int.toNat_of_nonneg h1] at this
 | ptr p=>
  simp only [z6] at ho
  cases ec:qA s gs l7 off with
  | none=>rw [ec] at ho;cases ho
  | some k=>
   rw [ec] at ho
   cases ff:p.fD with
   | none=>rw [ff] at ho;cases ho
   | some i=>
    rw [ff] at ho;simp only at ho;cases hc:(Nat.beq k p.id&&qB s t p.id&&Nat.beq p.off 0)
    ·rw [hc] at ho;cases ho
    rw [hc] at ho;obtain rfl:=aZ ho;simp only [Bool.and_eq_true] at hc;have hk:=Nat.eq_of_beq_eq_true hc.1.1;have h0:=Nat.eq_of_beq_eq_true hc.2;obtain ⟨pid,arn,aro⟩:=p;simp only at hk h0 ff hc;subst hk h0 ff;simp only [aV] at hv;obtain ⟨_,xE,rfl,h2⟩:=hv;exact TY ec hc.1.2 h aI h2
 | _=>cases ho
def z7(t:ae)(v:a_):Bool:=
 oq t v&&(match ja t v with
  | some cs=>Nat.beq cs.length t.size
  | none=>false)
theorem aeM{t:ae}{v:a_}{u:Value}{s:aq}{Z:ai}(ho:z7 t v=true)(h1:aV w Z s ι v u):u.cells.toList.length=t.size∧∀x∈u.cells.toList,ek x=true:=by
 unfold z7 at ho;simp only [Bool.and_eq_true] at ho;obtain ⟨hf,hc⟩:=ho
 cases hcs:ja t v with
 | none=>rw [hcs] at hc;cases hc
 | some cs=>rw [hcs] at hc;have hl:=Nat.eq_of_beq_eq_true hc;have hr:=sg hcs h1;exact⟨by rw [hr.len];exact hl,hr.ek⟩
def DA(t:ae)(v:a_)(s:aq):Option (List t.D×aq):=
 match v with
 | .kd=>some ([],s)
 | .dk dp cs off=>
  match takeN off t.size cs with
  | none=>none
  | some cs=>cond dp.isEmpty ((t.imp false .R cs s []).bind fun r=>match r.2.1 with
   | []=>some ([r.1],r.2.2.1)
   | _=>none) none
 | .may b dp cs=>cond b (cond (dp.isEmpty&&Nat.beq cs.length t.size) ((t.imp false .R cs s []).bind fun r=>match r.2.1 with
   | []=>some ([r.1],r.2.2.1)
   | _=>none) none) (some ([],s))
 | _=>none
theorem aeN{t:ae}{v:a_}{u:Value}{s:aq}{Z:ai}{x:List t.D×aq}(ho:DA t v s=some x)(h:Inv w0 F0 Z0 n s a w ι Z)(h1:aV w Z s ι v u) :
  ∃Z',Inv w0 F0 Z0 n x.2 a w ι Z'∧fj s ι Z x.2 Z'∧((x.1=[]∧u=.pointer none)∨∃y b o vs,x.1=[y]∧u=.pointer (some (at_ b o))∧ca w b o vs∧t.ar w Z' .R y vs ai.none∧∀j,j<t.size→Z' b (o+j)):=by
 have go:∀(cs:List bd) (b o:Nat) (vs:List Value) (x:List t.D×aq),((t.imp false .R cs s []).bind fun r=>match r.2.1 with | []=>some ([r.1],r.2.2.1) | _=>none)=some x→bN w Z s ι cs vs→ca w b o vs→vs.length=t.size→(∀j,j<t.size→Z b (o+j))→u=.pointer (some (at_ b o)) →
   ∃Z',Inv w0 F0 Z0 n x.2 a w ι Z'∧fj s ι Z x.2 Z'∧((x.1=[]∧u=.pointer none)∨∃y b o vs,x.1=[y]∧u=.pointer (some (at_ b o))∧ca w b o vs∧t.ar w Z' .R y vs ai.none∧∀j,j<t.size→Z' b (o+j)):=by
  intro cs b o vs x ho pJ cB hl hz hu;obtain ⟨r,hr,ho⟩:=bq ho
  cases ez:r.2.1 with
  | cons=>rw [ez] at ho;cases ho
  | nil=>
   rw [ez] at ho;obtain rfl:=aZ ho;obtain ⟨us1,vs1,F1,cI,e1,i1,s1,c1,f1,bH,_,e8,_,g1⟩:=ae.lW t false .R cs s [] r _ Z hr h pJ (by simp);rw [ez] at c1;have hvs1:vs1=[]:=by cases vs1 with | nil=>rfl | cons=>exact c1.elim
   subst hvs1;rw [List.append_nil] at e1;subst e1;rw [e8 rfl,oM] at bH;exact⟨cI,i1,s1,.inr ⟨r.1,b,o,_,rfl,hu,cB,r_ bH,fun j hj=>s1.dO _ _ (hz j hj)⟩⟩
 cases v <;> simp only [DA] at ho <;> try (simp at ho;done)
 ·rename_i dp cs off;simp only [aV] at h1;obtain ⟨h2,b,o,vs,rfl,h3⟩:=h1
  cases ht:takeN off t.size cs with
  | none=>rw [ht] at ho;cases ho
  | some ds=>
   rw [ht] at ho
   cases dp with
   | cons=>cases ho
   | nil=>obtain ⟨k1,k2,k3⟩:=h3 rfl;obtain ⟨hle,rfl⟩:=pE ht;have hlen:=k1.len;refine go _ b (o+off) ((vs.drop off).take t.size) x ho ((k1.drop off).take _) (k2.part off t.size) (by simp;omega) (fun j hj=>?_) rfl;have:=k3 (off+j) (by omega);rw [oM] at this;rwa [← Nat.add_assoc] at this
 ·simp only [aV] at h1;obtain rfl:=aZ ho;exact⟨Z,h,.refl,.inl ⟨rfl,h1⟩⟩
 ·rename_i b dp cs;simp only [aV] at h1;rcases h1 with⟨rfl,h1⟩ | ⟨rfl,h2,b,o,vs,rfl,h3⟩
  ·obtain rfl:=aZ ho;exact⟨Z,h,.refl,.inl ⟨rfl,h1⟩⟩
  ·simp only [cond_true] at ho
   cases dp with
   | cons=>cases ho
   | nil=>
    cases hc:Nat.beq cs.length t.size
    ·rw [show(List.isEmpty ([]:List (Nat×Nat))&&Nat.beq cs.length t.size)=false by rw [hc];rfl] at ho;cases ho
    rw [show(List.isEmpty ([]:List (Nat×Nat))&&Nat.beq cs.length t.size)=true by rw [hc];rfl] at ho;have hc:=Nat.eq_of_beq_eq_true hc;obtain ⟨k1,k2,k3⟩:=h3 rfl;have hlen:=k1.len;refine go _ b (o+0) vs x ho k1 k2 (by omega) (fun j hj=>?_) rfl;have:=k3 j (by omega);rw [oM] at this;exact this
def hJ(ps:List bF)(gs:List a_):(rs:List c7)→List a_→aq→Option (c7.outs rs (bF.eg ps)).D
 | [],vs,s=>
  match vs with
  | []=>iN ps gs s
  | _=>none
 | .val t m :: rs,vs,s=>
  match vs with
  | v :: vs=>(z1 t m v s).bind fun r=>(hJ ps gs rs vs r.2).bind fun q=>some (r.1,q)
  | []=>none
 | .opt a off t :: rs,vs,s=>
  match vs with
  | v :: vs=>(z6 gs a off t v s).bind fun x=>(hJ ps gs rs vs s).bind fun q=>some (x,q)
  | []=>none
 | .any t :: rs,vs,s=>
  match vs with
  | v :: vs=>cond (z7 t v) (hJ ps gs rs vs s) none
  | []=>none
 | .pz t :: rs,vs,s=>
  match vs with
  | v :: vs=>(DA t v s).bind fun r=>(hJ ps gs rs vs r.2).bind fun q=>some (r.1,q)
  | []=>none
 | .new t m :: rs,vs,s=>
  match vs with
  | v :: vs=>(Dz t m v s).bind fun r=>(hJ ps gs rs vs r.2).bind fun q=>some (r.1,q)
  | []=>none
theorem aeO{ps:List bF}{gs:List a_}{s:aq} : hJ ps gs [] [] s=iN ps gs s:=rfl
theorem aeP{ps:List bF}{gs:List a_}{s:aq}{v:a_}{vs:List a_} : hJ ps gs [] (v :: vs) s=none:=rfl
theorem aeQ{ps:List bF}{gs:List a_}{a o:Nat}{t:ae}{rs:List c7}{s:aq}{v:a_}{vs:List a_} : hJ ps gs (.opt a o t :: rs) (v :: vs) s=(z6 gs a o t v s).bind fun x=>(hJ ps gs rs vs s).bind fun q=>some (x,q):=rfl
theorem aeR{ps:List bF}{gs:List a_}{a o:Nat}{t:ae}{rs:List c7}{s:aq} : hJ ps gs (.opt a o t :: rs) [] s=none:=rfl
theorem aeS{ps:List bF}{gs:List a_}{t:ae}{m:bl}{rs:List c7}{s:aq}{v:a_}{vs:List a_} : hJ ps gs (.val t m :: rs) (v :: vs) s=(z1 t m v s).bind fun r=>(hJ ps gs rs vs r.2).bind fun q=>some (r.1,q):=rfl
theorem aeT{ps:List bF}{gs:List a_}{t:ae}{m:bl}{rs:List c7}{s:aq} : hJ ps gs (.val t m :: rs) [] s=none:=rfl
theorem aeU{ps:List bF}{gs:List a_}{t:ae}{rs:List c7}{s:aq}{v:a_}{vs:List a_} : hJ ps gs (.any t :: rs) (v :: vs) s=cond (z7 t v) (hJ ps gs rs vs s) none:=rfl
theorem aeV{ps:List bF}{gs:List a_}{t:ae}{rs:List c7}{s:aq} : hJ ps gs (.any t :: rs) [] s=none:=rfl
theorem aeW{ps:List bF}{gs:List a_}{t:ae}{rs:List c7}{s:aq}{v:a_}{vs:List a_} : hJ ps gs (.pz t :: rs) (v :: vs) s=(DA t v s).bind fun r=>(hJ ps gs rs vs r.2).bind fun q=>some (r.1,q):=rfl
theorem aeX{ps:List bF}{gs:List a_}{t:ae}{rs:List c7}{s:aq} : hJ ps gs (.pz t :: rs) [] s=none:=rfl
theorem aeY{ps:List bF}{gs:List a_}{t:ae}{m:bl}{rs:List c7}{s:aq}{v:a_}{vs:List a_} : hJ ps gs (.new t m :: rs) (v :: vs) s=(Dz t m v s).bind fun r=>(hJ ps gs rs vs r.2).bind fun q=>some (r.1,q):=rfl
theorem aeZ{ps:List bF}{gs:List a_}{t:ae}{m:bl}{rs:List c7}{s:aq} : hJ ps gs (.new t m :: rs) [] s=none:=rfl
theorem xQ{ps:List bF}{gs:List a_}{us:List Value} : ∀(rs:List c7) (vs:List a_) (dA:List Value) (s:aq) (Z:ai) (x:(c7.outs rs (bF.eg ps)).D),hJ ps gs rs vs s=some x→Inv w0 F0 Z0 n s a w ι Z →
  a8 w Z s ι gs us→a8 w Z s ι vs dA→∃au F Z',Inv w0 F0 Z0 n au a w ι Z'∧fj s ι Z au Z'∧bM w0 F0 au w ι Z' F∧il w Z' ps us rs x dA F∧∀b o,F b o→∃id,(s.o id).live∧(ι id).F b o
 | [],vs,dA,s,Z,x,ho,h,aI,hv=>by
  cases vs with
  | cons=>rw [aeP] at ho;cases ho
  | nil=>rw [aeO] at ho;simp only [a8] at hv;obtain ⟨au,F,Z',i1,s1,f1,bH,g1⟩:=uN ps gs us s Z x ho h aI;exact⟨au,F,Z',i1,s1,f1,⟨hv,bH⟩,g1⟩
 | .opt l7 off t :: rs,vs,dA,s,Z,x,ho,h,aI,hv=>by
  cases vs with
  | nil=>rw [aeR] at ho;cases ho
  | cons v vs=>simp only [a8] at hv;obtain ⟨u,aX,rfl,h1,h2⟩:=hv;rw [aeQ] at ho;obtain ⟨y,aT,ho⟩:=bq ho;obtain ⟨q,hq,ho⟩:=bq ho;obtain rfl:=aZ ho;obtain ⟨au,dU,bR,i2,s2,f2,cm,g2⟩:=xQ rs vs aX s Z q hq h aI h2;exact⟨au,dU,bR,i2,s2,f2,⟨u,aX,rfl,aeL aT h aI h1,cm⟩,g2⟩
 | .any t :: rs,vs,dA,s,Z,x,ho,h,aI,hv=>by
  cases vs with
  | nil=>rw [aeV] at ho;cases ho
  | cons v vs=>
   simp only [a8] at hv;obtain ⟨u,aX,rfl,h1,h2⟩:=hv;rw [aeU] at ho;cases hc:z7 t v
   ·rw [hc] at ho;cases ho
   rw [hc] at ho;obtain ⟨au,dU,bR,i2,s2,f2,cm,g2⟩:=xQ rs vs aX s Z x ho h aI h2;exact⟨au,dU,bR,i2,s2,f2,⟨u,aX,rfl,aeM hc h1,cm⟩,g2⟩
 | .pz t :: rs,vs,dA,s,Z,x,ho,h,aI,hv=>by
  cases vs with
  | nil=>rw [aeX] at ho;cases ho
  | cons v vs=>simp only [a8] at hv;obtain ⟨u,aX,rfl,h1,h2⟩:=hv;rw [aeW] at ho;obtain ⟨r,hr,ho⟩:=bq ho;obtain ⟨q,hq,ho⟩:=bq ho;obtain rfl:=aZ ho;obtain ⟨cI,i1,s1,bH⟩:=aeN hr h h1;obtain ⟨au,dU,bR,i2,s2,f2,cm,g2⟩:=xQ rs vs aX r.2 cI q hq i1 (a8.move s1.et aI) (a8.move s1.et h2);refine⟨au,dU,bR,i2,s1.trans s2,f2,⟨u,aX,rfl,bH.imp (fun h=>h) fun⟨y,b,o,vs,k1,k2,k3,bg,bx⟩=>⟨y,b,o,vs,k1,k2,k3,ae.ar.mono s2.dO _ _ (fun _ _ h=>h) bg,fun j hj=>s2.dO _ _ (bx j hj)⟩,cm⟩,?_⟩;intro b o y;obtain ⟨id,hl,hf⟩:=g2 b o y;exact⟨id,(s1.live hl).1,hf⟩
 | .new t m :: rs,vs,dA,s,Z,x,ho,h,aI,hv=>by
  cases vs with
  | nil=>rw [aeZ] at ho;cases ho
  | cons v vs=>
   simp only [a8] at hv;obtain ⟨u,aX,rfl,h1,h2⟩:=hv;rw [aeY] at ho;obtain ⟨r,hr,ho⟩:=bq ho;obtain ⟨q,hq,ho⟩:=bq ho;obtain rfl:=aZ ho;obtain ⟨b,o,ws,F1,cI,rfl,i1,s1,f1,cB,hwr,bH,ae0,g1⟩:=aeK hr h h1;obtain ⟨au,dU,bR,i2,s2,f2,cm,g2⟩:=xQ rs vs aX r.2 cI q hq i1 (a8.move s1.et aI) (a8.move s1.et h2);refine⟨au,(F1.or (ai.run b o t.size)).or dU,bR,i2,s1.trans s2,(f1.shrink s2).or f2,⟨b,o,ws,aX,F1,dU,rfl,cB,hwr,ae.ar.mono s2.dO _ _ (fun _ _ h=>h) bH,cm,?_,ae0,fun _ _ h=>.inl h,fun _ _ h=>.inr h⟩,?_⟩
   ·intro b o x y;obtain ⟨id,hl,hf⟩:=g2 b o y;exact f1.apart id hl b o x hf
   ·rintro b o (y | y)
    ·exact g1 b o y
    ·obtain ⟨id,hl,hf⟩:=g2 b o y;exact⟨id,(s1.live hl).1,hf⟩
 | .val t m :: rs,vs,dA,s,Z,x,ho,h,aI,hv=>by
  cases vs with
  | nil=>rw [aeT] at ho;cases ho
  | cons v vs=>
   simp only [a8] at hv;obtain ⟨u,aX,rfl,h1,h2⟩:=hv;rw [aeS] at ho;obtain ⟨r,hr,ho⟩:=bq ho;obtain ⟨q,hq,ho⟩:=bq ho;obtain rfl:=aZ ho;obtain ⟨ws,F1,cI,rfl,i1,s1,f1,bH,g1⟩:=TX hr h h1;obtain ⟨au,dU,bR,i2,s2,f2,cm,g2⟩:=xQ rs vs aX r.2 cI q hq i1 (a8.move s1.et aI) (a8.move s1.et h2);refine⟨au,F1.or dU,bR,i2,s1.trans s2,(f1.shrink s2).or f2,⟨ws,aX,F1,dU,rfl,ae.ar.mono s2.dO _ _ (fun _ _ h=>h) bH,cm,?_,fun _ _ h=>.inl h,fun _ _ h=>.inr h⟩,?_⟩
   ·intro b o x y;obtain ⟨id,hl,hf⟩:=g2 b o y;exact f1.apart id hl b o x hf
   ·rintro b o (y | y)
    ·exact g1 b o y
    ·obtain ⟨id,hl,hf⟩:=g2 b o y;exact⟨id,(s1.live hl).1,hf⟩
end
end Go.LM
namespace Go.LM
inductive lx where
 | keep
 | bY (t:ae) (dp:List Nat)
 | ah (c:Nat)
 | av (c:Nat)
inductive kM where
 | cell (c:lx)
 | iD (cs:List lx)
 | ptr (c:Nat)
 | dk (dp:List Nat) (cs:List lx)
 | opt (c:Nat)
 | same
 | drop
 | wW (a b:List (List lx))
inductive iO where
 | var (cs:List lx)
 | row (t:ae) (em:bl)
structure bQ where
 ak:List (Nat×kM)
 os:List (Nat×iO)
 gs:List kM
abbrev Ren:=List (Nat×Option Nat)
def j7:Ren→Nat→Option (Option Nat)
 | [],_=>none
 | (k,v) :: l,c=>cond (Nat.beq k c) (some v) (j7 l c)
def ko(r:Ren)(c id:Nat):Bool:=match j7 r c with
 | some (some i)=>Nat.beq i id
 | _=>false
def uO(r:Ren)(c:Nat):Bool:=match j7 r c with
 | some none=>true
 | _=>false
def hK:List (Nat×iO)→Nat→Bool
 | [],_=>false
 | (k,_) :: l,c=>cond (Nat.beq k c) true (hK l c)
def sA:Ren→List Nat
 | []=>[]
 | (_,some i) :: l=>i :: sA l
 | (_,none) :: l=>sA l
def pY:List Nat→Bool
 | []=>true
 | x :: l=> !(l.any (Nat.beq x))&&pY l
def Lh:Ren→List Nat
 | []=>[]
 | (k,_) :: l=>k :: Lh l
def sB(r:Ren)(c:Nat)(v:Option Nat):Ren:=match j7 r c with
 | none=>(c,v) :: r
 | some _=>r
def Li(r:Ren):List Nat→List (Nat×Nat)→Ren
 | c :: cs,d :: ds=>Li (sB r c (some d.1)) cs ds
 | _,_=>r
def TZ(r:Ren):lx→bd→Ren
 | .ah c,.ah id _=>sB r c (some id)
 | .ah c,.nil _=>sB r c none
 | .av c,.ah id _=>sB r c (some id)
 | .bY _ dp,.bY _ ds _ _=>Li r dp ds
 | .bY _ (c :: _),.ah id _=>sB r c (some id)
 | _,_=>r
def DB(r:Ren):List lx→List bd→Ren
 | c :: cs,x :: xs=>DB (TZ r c x) cs xs
 | _,_=>r
def T0(r:Ren):kM→a_→Ren
 | .cell c,.aW x=>TZ r c x
 | .cell (.ah c),.ld=>sB r c none
 | .iD cs,.iD xs=>DB r cs xs
 | .ptr c,.ptr p=>sB r c (some p.id)
 | .dk dp cs,.dk ds xs _=>DB (Li r dp ds) cs xs
 | .opt c,.opt id _=>sB r c (some id)
 | _,_=>r
def T1(s:aq)(r:Ren):List (Nat×kM)→Ren
 | []=>r
 | (d,t) :: l=>T1 s (T0 r t (s.t d)) l
def T2(r:Ren):List kM→List a_→Ren
 | t :: l,x :: xs=>T2 (T0 r t x) l xs
 | _,_=>r
def Lj(s:aq)(r:Ren):List (Nat×iO)→Ren
 | []=>r
 | (c,.var cs) :: l=>Lj s (match j7 r c with
   | some (some id)=>(match s.o id with
    | .var _ xs=>DB r cs xs
    | _=>r)
   | _=>r) l
 | _ :: l=>Lj s r l
def uP(dp:List Nat):List (Nat×Nat):=dp.map fun c=>(c,0)
def qY(r:Ren)(os:List (Nat×iO))(s:aq):lx→bd→Option bd
 | .keep,c=>match c with
  | .int k x=>some (.int k x)
  | .bool b=>some (.bool b)
  | .str x=>some (.str x)
  | _=>none
 | .bY t dp,c=>cond (dp.all (hK os)&&(borrows s c).all fun d=>dp.any fun c=>ko r c d.1) ((pA s t c).bind fun x=>some (.bY t (uP dp) none x)) none
 | .ah k,c=>cond (hK os k) (match c with
  | .ah id sub=>cond (ko r k id) (some (.ah k sub)) none
  | .nil _=>cond (uO r k) (some (.ah k none)) none
  | _=>none) none
 | .av k,c=>cond (hK os k) (match c with
  | .ah id sub=>(match s.o id with
   | .row _ _ _ xs=>cond (ko r k id) (some (.ah k (some (er sub,lQ sub xs)))) none
   | _=>none)
  | _=>none) none
def oO(r:Ren)(os:List (Nat×iO))(s:aq):List lx→List bd→Option (List bd)
 | [],[]=>some []
 | c :: cs,x :: xs=>(qY r os s c x).bind fun y=>(oO r os s cs xs).bind fun ys=>some (y :: ys)
 | _,_=>none
def DC(r:Ren)(os:List (Nat×iO))(s:aq):kM→a_→Option a_
 | .cell c,.aW x=>(qY r os s c x).bind fun y=>some (.aW y)
 | .cell (.ah k),.ld=>cond (hK os k&&uO r k) (some (.aW (.ah k none))) none
 | .cell (.bY t dp),.ld=>cond (dp.all (hK os)) (some (.aW (.bY t (uP dp) none []))) none
 | .iD cs,.iD xs=>(oO r os s cs xs).bind fun ys=>some (.iD ys)
 | .ptr k,.ptr p=>cond (hK os k&&ko r k p.id) (some (.ptr { p with id:=k })) none
 | .dk dp cs,.dk ds xs off=>cond (dp.all (hK os)&&alive s ds&&ds.all fun d=>dp.any fun c=>ko r c d.1) ((oO r os s cs xs).bind fun ys=>some (.dk (uP dp) ys off)) none
 | .opt k,.opt id o=>cond (hK os k&&ko r k id) (some (.opt k o)) none
 | .same,.kd=>some .kd
 | .same,.ay=>some .ay
 | .same,.fn f [] []=>some (.fn f [] [])
 | .drop,_=>some .ay
 | _,_=>none
def xR(r:Ren)(os:List (Nat×iO))(s:aq):List kM→List a_→Option (List a_)
 | [],[]=>some []
 | t :: l,x :: xs=>(DC r os s t x).bind fun v=>(xR r os s l xs).bind fun vs=>some (v :: vs)
 | _,_=>none
def Lk(r:Ren)(os:List (Nat×iO))(s:aq):kM→a_→Option a_
 | .wW a b,.fn f xs ys=>(xR r os s (a.map (kM.dk [])) xs).bind fun x=>(xR r os s (b.map (kM.dk [])) ys).bind fun y=>some (.fn f x y)
 | t,x=>DC r os s t x
def DD(r:Ren)(os:List (Nat×iO))(s:aq):List (Nat×kM)→Option (Nat→a_)
 | []=>some fun _=>.ay
 | (d,t) :: l=>(Lk r os s t (s.t d)).bind fun v=>(DD r os s l).bind fun f=>some (bZ f d v)
def Ll(r:Ren)(os:List (Nat×iO))(s:aq)(c:Nat)(t:iO):Option cE:=
 match j7 r c with
 | some (some id)=>(match t,s.o id with
  | .row t em,.row u gF _ xs=>cond (bl.beq gF em||xs.isEmpty) ((eP (.sl u) (.sl t) xs).bind fun x=>some (.row t em 0 x)) none
  | .var cs,.var _ xs=>(oO r os s cs xs).bind fun ys=>some (.var 0 ys)
  | _,_=>none)
 | some none=>(match t with
  | .row t em=>some (.row t em 0 [])
  | _=>none)
 | none=>none
def DE(r:Ren)(os:List (Nat×iO))(s:aq):List (Nat×iO)→Option (Nat→cE)
 | []=>some fun _=>.none
 | (c,t) :: l=>(Ll r os s c t).bind fun v=>(DE r os s l).bind fun f=>some (bZ f c v)
def Lm(T:bQ)(r:Ren)(s:aq):Option aq:=
 cond (pY (sA r)&&pY (Lh r)) ((DD r T.os s T.ak).bind fun t=>(DE r T.os s T.os).bind fun o=>(xR r T.os s T.gs s.g).bind fun g=>some ⟨t,o,g⟩) none
def norm(T:bQ)(s:aq):Option aq:=Lm T (Lj s (T2 (T1 s [] T.ak) T.gs s.g) T.os) s
section
variable{w0:World}{F0 Z0:ai}{n:cO}{s s0:aq}{a:Act}{w:World}{ι arp:Nat→bJ}{Z:ai}{r:Ren}{os:List (Nat×iO)}
def iota(r:Ren)(ι : Nat→bJ):Nat→bJ:=fun c=>match j7 r c with
 | some (some id)=> ι id
 | _=>⟨none,0,ai.none⟩
theorem sC{c id:Nat}(h:ko r c id=true):j7 r c=some (some id):=by
 unfold ko at h;split at h
 ·rename_i i hi;rw [hi,Nat.eq_of_beq_eq_true h]
 ·cases h
theorem T3{c:Nat}(h:uO r c=true):j7 r c=some none:=by
 unfold uO at h;split at h
 ·rename_i hi;exact hi
 ·cases h
theorem DF{c id:Nat}(h:ko r c id=true):iota r ι c = ι id:=by unfold iota;rw [sC h]
theorem ae1{c:Nat}(h:uO r c=true):iota r ι c=⟨none,0,ai.none⟩:=by unfold iota;rw [T3 h]
def mS(r:Ren)(os:List (Nat×iO))(s s0:aq):Prop:=∀c,(s0.o c=.none∧hK os c=false) ∨
 (∃id,j7 r c=some (some id)∧((∃t em oP ver xs,s.o id=.row t oP ver xs∧s0.o c=.row t em 0 xs∧(oP=em∨xs=[]))∨(∃ver cs mc oQ,s.o id=.var ver cs∧s0.o c=.var 0 mc∧oO r os s oQ cs=some mc))) ∨
 (j7 r c=some none∧∃t em,s0.o c=.row t em 0 [])
theorem mS.known(h:mS r os s s0){c:Nat}(hc:hK os c=true):LM.known s0 c:=by
 intro h0;rcases h c with⟨_,h1⟩ | ⟨id,_,⟨t,em,oP,ver,xs,_,h1,_⟩ | ⟨ver,cs,mc,oQ,_,h1,_⟩⟩ | ⟨_,t,em,h1⟩
 ·rw [hc] at h1;cases h1
 all_goals rw [h1] at h0;cases h0
theorem mS.dep(h:mS r os s s0){c:Nat}(hc:hK os c=true):eE s0 (c,0):=⟨h.known hc,.inr (Nat.zero_le _)⟩
theorem T4(h:mS r os s s0){dp:List Nat}(ah:dp.all (hK os)=true):∀d,d∈uP dp→eE s0 d:=by intro d jK;unfold uP at jK;obtain ⟨c,hc,rfl⟩:=List.mem_map.1 jK;exact h.dep (List.all_eq_true.1 ah c hc)
theorem T5{dp:List Nat}{ds:List (Nat×Nat)}(h:∀d,d∈ds→(dp.any fun c=>ko r c d.1)=true):ai.sub (dt ι ds) (dt (iota r ι) (uP dp)):=by
 rintro b o ⟨d,ah,hf⟩
 obtain ⟨c,hc,cB⟩:=List.any_eq_true.1 (h d ah);refine⟨(c,0),List.mem_map.2 ⟨c,hc,rfl⟩,?_⟩;rw [DF cB];exact hf
theorem DG(h:Inv w0 F0 Z0 n s a w ι Z)(bS:mS r os s s0){c:lx}{x y:bd}{v:Value}(hn:qY r os s c x=some y)(hx:cw w Z s ι x v):cw w Z s0 (iota r ι) y v:=by
 cases c with
 | keep=>cases x <;> simp only [qY,Option.some.injEq] at hn <;> first | (cases hn;done) | (subst hn;exact hx)
 | bY t dp=>
  simp only [qY] at hn;cases hc:(dp.all (hK os)&&(borrows s x).all fun d=>dp.any fun c=>ko r c d.1)
  ·rw [hc] at hn;cases hn
  rw [hc] at hn;simp only [cond_true] at hn;simp only [Bool.and_eq_true] at hc;obtain ⟨xs,hl,hn⟩:=bq hn;obtain rfl:=aZ hn;obtain ⟨h1,h2,h3⟩:=JP h hl hx;have lk:=T5 (ι := ι) (r:=r) (dp:=dp) (ds:=borrows s x) fun d ah=>List.all_eq_true.1 hc.2 d ah
  have h4:=ae.ar.mono (Z':=Z.or (dt (iota r ι) (uP dp))) (fun b o hz=>hz.elim .inl fun h=>.inr (lk b o h)) _ _ (fun _ _ h=>h) h1;refine⟨T4 bS hc.1,?_,fun _=>h4,.none⟩;simp only [ae.ar] at h4;obtain ⟨A,c,hv,_⟩:=h4;simp only [List.cons.injEq,and_true] at hv;exact⟨A,_,c,hv⟩
 | ah k=>
  simp only [qY] at hn;cases hc:hK os k
  ·rw [hc] at hn;cases hn
  rw [hc] at hn;simp only [cond_true] at hn
  cases x with
  | ah id sub=>
   simp only at hn;cases cB:ko r k id
   ·rw [cB] at hn;cases hn
   rw [cB] at hn;obtain rfl:=aZ hn;obtain ⟨h1,A,m,kh,hv,h2⟩:=hx;refine⟨bS.known hc,A,m,kh,hv,fun t em ver xs b1=>?_⟩;rw [DF cB];rcases bS k with⟨h0,_⟩ | ⟨ei,h0,⟨cq,gF,T6,nz,f',g1,g2,ge⟩ | ⟨nz,cs,mc,oQ,g1,g2,_⟩⟩ | ⟨h0,cq,gF,g2⟩
   ·rw [h0] at b1;cases b1
   ·rw [sC cB] at h0;injection h0 with h0;injection h0 with h0;subst h0
    rw [g2] at b1;simp only [cE.core,cE.row.injEq] at b1;obtain ⟨rfl,rfl,rfl,b1⟩:=b1;have:=eq_of_heq b1;subst this;exact h2 _ _ _ _ (lU g1)
   ·rw [g2] at b1;cases b1
   ·rw [sC cB] at h0;cases h0
  | nil u=>
   simp only at hn;cases cB:uO r k
   ·rw [cB] at hn;cases hn
   rw [cB] at hn;obtain rfl:=aZ hn;have hv:v=.slice none 0 0:=hx;refine⟨bS.known hc,none,0,0,hv,fun t em ver xs b1=>?_⟩;rw [ae1 cB];rcases bS k with⟨h0,_⟩ | ⟨ei,h0,_⟩ | ⟨h0,cq,gF,g2⟩
   ·rw [h0] at b1;cases b1
   ·rw [T3 cB] at h0;cases h0
   ·rw [g2] at b1;simp only [cE.core,cE.row.injEq] at b1;obtain ⟨rfl,rfl,rfl,b1⟩:=b1;have:=eq_of_heq b1;subst this;exact⟨rfl,Nat.le_refl _,Nat.le_refl _,Nat.le_refl _,.inl rfl⟩
  | _=>cases hn
 | av k=>
  simp only [qY] at hn;cases hc:hK os k
  ·rw [hc] at hn;cases hn
  rw [hc] at hn;simp only [cond_true] at hn
  cases x with
  | ah id sub=>
   simp only at hn
   cases hrow:s.o id with
   | row t2 acv acw acx=>
    rw [hrow] at hn;simp only at hn;cases cB:ko r k id
    ·rw [cB] at hn;cases hn
    rw [cB] at hn;obtain rfl:=aZ hn;obtain ⟨h1,A,m,kh,hv,h2⟩:=hx;refine⟨bS.known hc,A,m,kh,hv,fun t em ver xs b1=>?_⟩;rw [DF cB];rcases bS k with⟨h0,_⟩ | ⟨ei,h0,⟨cq,gF,T6,nz,f',g1,g2,ge⟩ | ⟨nz,cs,mc,oQ,g1,g2,_⟩⟩ | ⟨h0,cq,gF,g2⟩
    ·rw [h0] at b1;cases b1
    ·rw [sC cB] at h0;injection h0 with h0;injection h0 with h0;subst h0
     rw [g2] at b1;simp only [cE.core,cE.row.injEq] at b1;obtain ⟨rfl,rfl,rfl,b1⟩:=b1;have:=eq_of_heq b1;subst this;rw [hrow] at g1;simp only [cE.row.injEq] at g1;obtain ⟨rfl,rfl,rfl,g1⟩:=g1;have:=eq_of_heq g1;subst this;have h3:=h2 _ _ _ _ (lU hrow)
     cases sub with
     | none=>exact⟨h3.RR,h3.fits,h3.le,h3.cap,h3.at_⟩
     | some p=>exact h3
    ·rw [g2] at b1;cases b1
    ·rw [sC cB] at h0;cases h0
   | _=>rw [hrow] at hn;cases hn
  | _=>cases hn
theorem DH(h:Inv w0 F0 Z0 n s a w ι Z)(bS:mS r os s s0):∀ {cs:List lx} {xs ys:List bd} {vs:List Value},oO r os s cs xs=some ys→bN w Z s ι xs vs→bN w Z s0 (iota r ι) ys vs
 | [],[],ys,vs,hn,hx=>by
  obtain rfl:=aZ hn
  cases vs with
  | nil=>trivial
  | cons=>exact hx.elim
 | [],_ :: _,_,_,hn,_=>by cases hn
 | _ :: _,[],_,_,hn,_=>by cases hn
 | c :: cs,x :: xs,ys,vs,hn,hx=>by
  simp only [oO] at hn;obtain ⟨y,h1,hn⟩:=bq hn;obtain ⟨T7,h2,hn⟩:=bq hn;obtain rfl:=aZ hn
  cases vs with
  | nil=>exact hx.elim
  | cons v vs=>exact⟨DG h bS h1 hx.1,DH h bS h2 hx.2⟩
theorem Ln:∀ {cs:List lx} {xs ys:List bd},oO r os s cs xs=some ys→ys.length=xs.length
 | [],[],_,hn=>by obtain rfl:=aZ hn;rfl
 | [],_ :: _,_,hn=>by cases hn
 | _ :: _,[],_,hn=>by cases hn
 | c :: cs,x :: xs,ys,hn=>by simp only [oO] at hn;obtain ⟨y,h1,hn⟩:=bq hn;obtain ⟨T7,h2,hn⟩:=bq hn;obtain rfl:=aZ hn;simp [Ln h2]
theorem T8(bS:mS r os s s0){k:Nat}{p:Place}{A:Addr}(hc:hK os k=true)(cB:ko r k p.id=true)(av:jF s ι p A):jF s0 (iota r ι) { p with id:=k } A:=by
 obtain ⟨h1,h2⟩:=av;refine⟨h1,?_⟩;show match (s0.o k).core with | .var _ cs=>_ | .row t _ _ xs=>_ | _=>_
 rw [DF cB];rcases bS k with⟨h0,_⟩ | ⟨ei,h0,⟨cq,gF,T6,nz,f',g1,g2,ge⟩ | ⟨nz,cs,mc,oQ,g1,g2,_⟩⟩ | ⟨h0,cq,gF,g2⟩
 ·rw [h0];trivial
 ·rw [sC cB] at h0;injection h0 with h0;injection h0 with h0;subst h0
  rw [g2];rw [g1] at h2;exact h2
 ·rw [sC cB] at h0;injection h0 with h0;injection h0 with h0;subst h0
  rw [g2];rw [g1] at h2;exact h2
 ·rw [sC cB] at h0;cases h0
theorem T9(h:Inv w0 F0 Z0 n s a w ι Z)(bS:mS r os s s0){t:kM}{x y:a_}{v:Value}(hn:DC r os s t x=some y)(hx:aV w Z s ι x v):aV w Z s0 (iota r ι) y v:=by
 unfold DC at hn;split at hn
 ·obtain ⟨z,h1,hn⟩:=bq hn;obtain rfl:=aZ hn;simp only [aV] at hx ⊢;exact DG h bS h1 hx
 ·rename_i k;cases hc:(hK os k&&uO r k)
  ·rw [hc] at hn;cases hn
  rw [hc] at hn;simp only [Bool.and_eq_true] at hc;obtain rfl:=aZ hn;simp only [aV] at hx ⊢;exact DG (c:=.ah k) (x:=.nil .bool) h bS (by simp only [qY];rw [hc.1,hc.2];rfl) hx
 ·rename_i t dp;cases hc:dp.all (hK os)
  ·rw [hc] at hn;cases hn
  rw [hc] at hn;obtain rfl:=aZ hn;simp only [aV] at hx ⊢;refine DG (c:=.bY t dp) (x:=.nil t) h bS ?_ hx;simp only [qY,hc,borrows,List.all_nil,Bool.and_true,cond_true];simp only [pA,eP];rw [dif_pos (ae.beq_refl _)];rfl
 ·obtain ⟨z,h1,hn⟩:=bq hn;obtain rfl:=aZ hn;simp only [aV] at hx ⊢;obtain ⟨vs,hv,hx⟩:=hx;exact⟨vs,hv,DH h bS h1 hx⟩
 ·rename_i k p;cases hc:(hK os k&&ko r k p.id)
  ·rw [hc] at hn;cases hn
  rw [hc] at hn;simp only [Bool.and_eq_true] at hc;obtain rfl:=aZ hn;simp only [aV] at hx ⊢;obtain ⟨_,A,hv,av⟩:=hx;exact⟨bS.known hc.1,A,hv,T8 bS hc.1 hc.2 av⟩
 ·rename_i dp cs ds xs off;cases hc:(dp.all (hK os)&&alive s ds&&ds.all fun d=>dp.any fun c=>ko r c d.1)
  ·rw [hc] at hn;cases hn
  rw [hc] at hn;simp only [Bool.and_eq_true] at hc;simp only [cond_true] at hn;obtain ⟨z,h1,hn⟩:=bq hn;obtain rfl:=aZ hn;simp only [aV] at hx ⊢;obtain ⟨_,b,o,vs,hv,hx⟩:=hx;obtain ⟨g1,g2,g3⟩:=hx hc.1.2;have lk:=T5 (ι := ι) (r:=r) (dp:=dp) (ds:=ds) fun d ah=>List.all_eq_true.1 hc.2 d ah
  refine⟨T4 bS hc.1.1,b,o,vs,hv,fun _=>⟨DH h bS h1 g1,g2,fun j hj=>?_⟩⟩;rw [Ln h1] at hj;exact(g3 j hj).elim .inl fun h=>.inr (lk _ _ h)
 ·rename_i k id o;cases hc:(hK os k&&ko r k id)
  ·rw [hc] at hn;cases hn
  rw [hc] at hn;simp only [Bool.and_eq_true] at hc;obtain rfl:=aZ hn;simp only [aV] at hx ⊢;obtain ⟨_,hx⟩:=hx;exact⟨bS.known hc.1,hx.imp (fun h=>h) fun⟨h1,A,hv,av⟩=>⟨h1,A,hv,T8 (p:=⟨id,some o.toNat,0⟩) bS hc.1 hc.2 av⟩⟩
 ·obtain rfl:=aZ hn;simpa only [aV] using hx
 ·obtain rfl:=aZ hn;simp only [aV]
 ·obtain rfl:=aZ hn;simpa only [aV,a8] using hx
 ·obtain rfl:=aZ hn;simp only [aV]
 ·cases hn
theorem DI(h:Inv w0 F0 Z0 n s a w ι Z)(bS:mS r os s s0):∀ {ak:List kM} {xs ys:List a_} {vs:List Value},xR r os s ak xs=some ys→a8 w Z s ι xs vs→a8 w Z s0 (iota r ι) ys vs
 | [],[],ys,vs,hn,hx=>by obtain rfl:=aZ hn;simpa only [a8] using hx
 | [],_ :: _,_,_,hn,_=>by cases hn
 | _ :: _,[],_,_,hn,_=>by cases hn
 | t :: ak,x :: xs,ys,vs,hn,hx=>by simp only [xR] at hn;obtain ⟨y,h1,hn⟩:=bq hn;obtain ⟨T7,h2,hn⟩:=bq hn;obtain rfl:=aZ hn;simp only [a8] at hx ⊢;obtain ⟨v,bK,rfl,g1,g2⟩:=hx;exact⟨v,bK,rfl,T9 h bS h1 g1,DI h bS h2 g2⟩
theorem ae2(h:Inv w0 F0 Z0 n s a w ι Z)(bS:mS r os s s0){t:kM}{x y:a_}{v:Value}(hn:Lk r os s t x=some y)(hx:aV w Z s ι x v):aV w Z s0 (iota r ι) y v:=by
 unfold Lk at hn;split at hn
 ·obtain ⟨U,h1,hn⟩:=bq hn;obtain ⟨arq,h2,hn⟩:=bq hn;obtain rfl:=aZ hn;simp only [aV] at hx ⊢;obtain ⟨us,vs,rfl,k1,k2⟩:=hx;exact⟨us,vs,rfl,DI h bS h1 k1,DI h bS h2 k2⟩
 ·exact T9 h bS hn hx
theorem T_(h:Inv w0 F0 Z0 n s a w ι Z)(bS:mS r os s s0):∀ {ak:List (Nat×kM)} {f:Nat→a_},DD r os s ak=some f→∀k,aV w Z s0 (iota r ι) (f k) (a.tmps.getD k undef)
 | [],f,hn,k=>by obtain rfl:=aZ hn;simp only [aV]
 | (d,t) :: l,f,hn,k=>by
  simp only [DD] at hn;obtain ⟨v,h1,hn⟩:=bq hn;obtain ⟨g,h2,hn⟩:=bq hn;obtain rfl:=aZ hn;by_cases hk:d=k
  ·subst hk;rw [cN];exact ae2 h bS h1 (h.tmps d)
  ·rw [cZ hk];exact T_ h bS h2 k
theorem ae3{c:Nat}{t:iO}{v:cE}(hn:Ll r os s c t=some v) :
  (∃id,j7 r c=some (some id)∧((∃t em oP ver xs,s.o id=.row t oP ver xs∧v=.row t em 0 xs∧(oP=em∨xs=[]))∨(∃ver cs mc oQ,s.o id=.var ver cs∧v=.var 0 mc∧oO r os s oQ cs=some mc)))∨(j7 r c=some none∧∃t em,v=.row t em 0 []):=by
 unfold Ll at hn;split at hn
 ·rename_i id hl;refine .inl ⟨id,hl,?_⟩;split at hn
  ·rename_i t em u gF ver xs ho;cases hb:(bl.beq gF em||xs.isEmpty)
   ·rw [hb] at hn;cases hn
   rw [hb] at hn;obtain ⟨x,h1,hn⟩:=bq hn;obtain rfl:=aZ hn;simp only [Bool.or_eq_true] at hb;obtain ⟨e,rfl⟩:=hp h1;subst e;refine .inl ⟨_,_,_,_,_,ho,rfl,?_⟩;rcases hb with hb | hb
   ·exact .inl (bl.eq_of_beq _ _ hb)
   ·exact .inr (List.isEmpty_iff.1 hb)
  ·rename_i cs ver xs ho;obtain ⟨ys,h1,hn⟩:=bq hn;obtain rfl:=aZ hn;exact .inr ⟨_,_,_,_,ho,rfl,h1⟩
  ·cases hn
 ·rename_i hl;split at hn
  ·obtain rfl:=aZ hn;exact .inr ⟨hl,_,_,rfl⟩
  ·cases hn
 ·cases hn
theorem DJ:∀ {l:List (Nat×iO)} {f:Nat→cE},DE r os s l=some f→∀c,(f c=.none∧hK l c=false) ∨
  (∃id,j7 r c=some (some id)∧((∃t em oP ver xs,s.o id=.row t oP ver xs∧f c=.row t em 0 xs∧(oP=em∨xs=[]))∨(∃ver cs mc oQ,s.o id=.var ver cs∧f c=.var 0 mc∧oO r os s oQ cs=some mc))) ∨
  (j7 r c=some none∧∃t em,f c=.row t em 0 [])
 | [],f,hn,c=>by obtain rfl:=aZ hn;exact .inl ⟨rfl,rfl⟩
 | (d,t) :: l,f,hn,c=>by
  simp only [DE] at hn;obtain ⟨v,h1,hn⟩:=bq hn;obtain ⟨g,h2,hn⟩:=bq hn;obtain rfl:=aZ hn;by_cases hk:d=c
  ·subst hk;rw [cN];exact .inr (ae3 h1)
  ·rw [cZ hk];rcases DJ h2 c with⟨g1,g2⟩ | g
   ·refine .inl ⟨g1,?_⟩;unfold hK
    have:Nat.beq d c=false:=by
     cases hb:Nat.beq d c
     ·rfl
     ·exact absurd (Nat.eq_of_beq_eq_true hb) hk
    rw [this];exact g2
   ·exact .inr g
theorem Lo{c:Nat}{v:Option Nat} : ∀ {r:Ren},j7 r c=some v→(c,v)∈r
 | [],h=>by cases h
 | (k,u) :: l,h=>by
  unfold j7 at h;cases hb:Nat.beq k c
  ·rw [hb] at h;exact List.mem_cons_of_mem _ (Lo h)
  ·rw [hb] at h;obtain rfl:=aZ h;obtain rfl:=Nat.eq_of_beq_eq_true hb;exact List.mem_cons_self
theorem Ua{c id:Nat} : ∀ {r:Ren},(c,some id)∈r→id∈sA r
 | (k,u) :: l,h=>by
  rcases List.mem_cons.1 h with h | h
  ·injection h with h1 h2
   subst h1 h2;exact List.mem_cons_self
  ·have:=Ua h
   cases u with
   | none=>exact this
   | some i=>exact List.mem_cons_of_mem _ this
theorem Lp{c c' id:Nat} : ∀ {r:Ren},pY (sA r)=true→(c,some id)∈r→(c',some id)∈r→c=c'
 | (k,u) :: l,hn,h,h'=>by
  cases u with
  | none=>
   simp only [sA] at hn;rcases List.mem_cons.1 h with h | h
   ·injection h with _ h2;cases h2
   rcases List.mem_cons.1 h' with h' | h'
   ·injection h' with _ h2;cases h2
   exact Lp hn h h'
  | some i=>
   simp only [sA,pY,Bool.and_eq_true,Bool.not_eq_true'] at hn;have bP:∀ {x},(x,some i)∈l→False:=by intro x hx;have:=Ua hx;have h3:=List.any_eq_false.1 hn.1 i this;simp at h3
   rcases List.mem_cons.1 h with g | g
   ·injection g with h1 h2;injection h2 with h2
    rcases List.mem_cons.1 h' with uQ | uQ
    ·injection uQ with h3 h4;rw [h1,h3]
    ·exact(bP (h2 ▸ uQ)).elim
   ·rcases List.mem_cons.1 h' with uQ | uQ
    ·injection uQ with h1 h2;injection h2 with h2
     exact(bP (h2 ▸ g)).elim
    ·exact Lp hn.2 g uQ
theorem ae4{T:bQ}(xS:n.gc=[])(hn:Lm T r s=some s0)(hs:c8 w0 F0 Z0 n s a w):c8 w0 F0 Z0 n s0 a w:=by
 obtain ⟨ι,Z,h⟩:=hs;unfold Lm at hn;cases iq:(pY (sA r)&&pY (Lh r))
 ·rw [iq] at hn;cases hn
 rw [iq] at hn;simp only [Bool.and_eq_true] at iq;simp only [cond_true] at hn;obtain ⟨ae5,h1,hn⟩:=bq hn;obtain ⟨cc,h2,hn⟩:=bq hn;obtain ⟨ae6,h3,hn⟩:=bq hn;obtain rfl:=aZ hn;have bS:mS r T.os s ⟨ae5,cc,ae6⟩:=DJ h2
 have live:∀c,(cc c).live→(∃id,j7 r c=some (some id)∧(s.o id).live∧iota r ι c = ι id)∨(iota r ι c=⟨none,0,ai.none⟩):=by
  intro c hl;rcases DJ h2 c with⟨g,_⟩ | ⟨id,g,⟨t,em,oP,ver,xs,g1,g2,ge⟩ | ⟨ver,cs,mc,oQ,g1,g2,_⟩⟩ | ⟨g,_⟩
  ·rw [g] at hl;exact hl.elim
  ·exact .inl ⟨id,g,by rw [g1];trivial,by unfold iota;rw [g]⟩
  ·exact .inl ⟨id,g,by rw [g1];trivial,by unfold iota;rw [g]⟩
  ·exact .inr (by unfold iota;rw [g])
 refine⟨iota r ι,Z,h.ext,h.dO,h.sa,h.je,?_,?_,?_,?_,T_ h bS h1,h.size,DI h bS h3 h.ghost,by rw [xS];intro e he;simp at he,h.defers⟩
 ·intro c;show ie w Z _ _ _ (cc c);rcases DJ h2 c with⟨g,_⟩ | ⟨id,g,⟨t,em,oP,ver,xs,g1,g2,ge⟩ | ⟨ver,cs,mc,oQ,g1,g2,g3⟩⟩ | ⟨g,t,em,g2⟩
  ·rw [g];trivial
  ·rw [g2];have:=h.f_ id;rw [g1] at this;have hi:iota r ι c = ι id:=by unfold iota;rw [g]
   rw [hi];rcases ge with rfl | rfl
   ·exact this
   ·rcases this with k | ⟨a0,k1,k2⟩
    ·exact .inl k
    ·obtain ⟨k3,bg,bx,du,G,dq,df,eY⟩:=k2;exact .inr ⟨a0,k1,k3,bg,bx,du,G,trivial,df,eY⟩
  ·rw [g2];have:=h.f_ id;rw [g1] at this;have hi:iota r ι c = ι id:=by unfold iota;rw [g]
   rw [hi];obtain ⟨a0,vs,k1,k2,k3,bg,bx⟩:=this;exact⟨a0,vs,k1,k2,DH h bS g3 k3,bg,fun j hj=>bx j (by rw [← Ln g3];exact hj)⟩
  ·rw [g2];exact .inl ⟨rfl,by unfold iota;rw [g]⟩
 ·intro c hl b o hf;rcases live c hl with⟨id,_,g2,g3⟩ | g
  ·rw [g3] at hf;exact h.own id g2 b o hf
  ·rw [g] at hf;exact hf.elim
 ·intro c c' hl gu hne b o hf iK;rcases live c hl with⟨id,g1,g2,g3⟩ | g
  ·rcases live c' gu with⟨ei,k1,k2,k3⟩ | k
   ·rw [g3] at hf;rw [k3] at iK;refine h.apart id ei g2 k2 (fun e=>?_) b o hf iK;subst e;exact hne (Lp iq.1 (Lo g1) (Lo k1))
   ·rw [k] at iK;exact iK.elim
  ·rw [g] at hf;exact hf.elim
 ·intro c hl b o hf hz;rcases live c hl with⟨id,g1,g2,g3⟩ | g
  ·rw [g3] at hf;exact h.dd id g2 b o hf hz
  ·rw [g] at hf;exact hf.elim
theorem ae7{T:bQ}(xS:n.gc=[])(hn:norm T s=some s0)(hs:c8 w0 F0 Z0 n s a w):c8 w0 F0 Z0 n s0 a w:=ae4 xS hn hs
end
end Go.LM
namespace Go.LM
def DK:List (Nat×List Item)→Nat→Option (List Item)
 | [],_=>none
 | (k,x) :: l,r=>cond (Nat.beq k r) (some x) (DK l r)
def Ub(body:Code)(bI:Nat):Option (List Item):=DK (gY [.code body]) bI
def z8:List (Nat×List Item)→List Nat
 | []=>[]
 | (k,_) :: l=>k :: z8 l
def Lq(body:Code):Bool:=pY (z8 (gY [.code body]))
theorem Uc{k:Nat}{x:List Item} : ∀ {l:List (Nat×List Item)},(k,x)∈l→k∈z8 l
 | (k',bG) :: l,h=>by
  rcases List.mem_cons.1 h with h | h
  ·injection h with h1 h2;rw [h1];exact List.mem_cons_self
  ·exact List.mem_cons_of_mem _ (Uc h)
theorem Ud{k:Nat}{x:List Item} : ∀ {l:List (Nat×List Item)},pY (z8 l)=true→(k,x)∈l→DK l k=some x
 | (k',bG) :: l,hn,h=>by
  simp only [z8,pY,Bool.and_eq_true,Bool.not_eq_true'] at hn;unfold DK;rcases List.mem_cons.1 h with h | h
  ·injection h with h1 h2
   rw [h1,Nat.beq_refl,h2];rfl
  ·have hne:Nat.beq k' k=false:=by
    have h3:=List.any_eq_false.1 hn.1 k (Uc h);cases hb:Nat.beq k' k
    ·rfl
    ·rw [Nat.eq_of_beq_eq_true hb] at h3;simp at h3
   rw [hne];exact Ud hn.2 h
section
variable{bB : Type}
def Lr(hL:Nat→Option bQ)(k:Nat→aq→Option bB)(bI:Nat)(s:aq):Option bB:=
 match hL bI with
 | some T=>(norm T s).bind (k bI)
 | none=>none
def Ls(hL:Nat→Option bQ)(bI:Nat):Bool:=(hL bI).isSome
def Lt(hL:Nat→Option bQ)(fin:aq→Option bB)(k:Nat→aq→Option bB):Hand bB:=⟨fun r _ s=>Lr hL k r s,fin⟩
noncomputable def Lu(E:Env)(hL:Nat→Option bQ)(body:Code)(fin:aq→Option bB)(k:Nat→aq→Option bB)(bI:Nat)(s:aq):Option bB:=
 match Ub body bI with
 | some todo=>kg E (Ls hL) (Lt hL fin k) 100000 true todo s
 | none=>none
noncomputable def sD(E:Env)(hL:Nat→Option bQ)(body:Code)(fin:aq→Option bB):Nat→Nat→aq→Option bB
 | 0,_,_=>none
 | m+1,bI,s=>Lu E hL body fin (sD E hL body fin m) bI s
end
def uR(E:Env):List ResultVar→aq→Option (List a_)
 | [],_=>some []
 | .tmp t :: l,s=>(uR E l s).bind fun vs=>some (s.t t :: vs)
 | .cell a ty :: l,s=>
  match E.ty ty,s.t a with
  | some T,.ptr p=>((mv s T.size p).bind (ke T)).bind fun v=>(uR E l s).bind fun vs=>some (v :: vs)
  | _,_=>none
def mT(key:Nat):List bF→List a_→List a_
 | .fn mu _ :: _,_ :: l=>[.fn key (l.take mu) (l.drop mu)]
 | .val _ _ :: ps,v :: l | .hS _ :: ps,v :: l | .hR _ _ :: ps,v :: l | .ref _ :: ps,v :: l | .mut _ _ _ :: ps,v :: l=>v :: mT key ps l
 | _,_=>[]
def DL:List bF→Bool
 | []=>true
 | .fn mu py :: l=>Nat.beq l.length (mu+py)
 | .val _ _ :: l | .hS _ :: l | .hR _ _ :: l | .ref _ :: l | .mut _ _ _ :: l=>DL l
def Ue(key:Nat)(e:Entry)(x:(bF.ins e.ps).D):Option aq:=
 (lv key e.ps x 1099511627776 ⟨fun _=>.ay,fun _=>.none,[]⟩).bind fun q=>some ⟨fun k=>(mT key e.ps q.1).getD k .ay,q.2.1.o,q.1⟩
def uS(E:Env)(fn:Func)(e:Entry)(s:aq):Option (c7.outs e.rs (bF.eg e.ps)).D:=
 (uR E fn.results.toList s).bind fun vs=>hJ e.ps s.g e.rs vs s
noncomputable def z_(E:Env)(fn:Func)(body:Code)(hL:Nat→Option bQ)(key:Nat)(e:Entry)(k:Nat→aq→Option (c7.outs e.rs (bF.eg e.ps)).D)(x:(bF.ins e.ps).D):Option (c7.outs e.rs (bF.eg e.ps)).D:=
 (Ue key e x).bind fun s=>kg E (Ls hL) (Lt hL (uS E fn e) k) 100000 false [.code body] s
section
variable{P:Program}{w0:World}{F0 Z0:ai}{n:cO}{s au:aq}{a cg:Act}{w w':World}{ι bp:Nat→bJ}{Z Z':ai}{E:Env}{bB : Type}{r : bB}
def ae8(w0:World)(F0 Z0:ai)(n:cO)(fin:aq→Option bB)(r : bB)(todo:List Item)(a:Act)(w:World):Prop:=
 (todo=[]∨∃k,todo=.code .ret :: k)∧∃s,fin s=some r∧c8 w0 F0 Z0 n s a w
theorem Uf{hL:Nat→Option bQ}{body:Code}{fin:aq→Option bB}(bS:j6 P E)(hn:E.n=n)(xS:n.gc=[])(hu:Lq body=true):∀(m:Nat) (fuel:Nat) (first:Bool) (todo:List Item) (s:aq) (a:Act) (w:World),
  (∀p,p∈gY todo→p∈gY [.code body])→kg E (Ls hL) (Lt hL fin (sD E hL body fin m)) fuel first todo s=some r→c8 w0 F0 Z0 n s a w→∀(b:Frame) (cs:List Frame),
  ∃pX cg w',ae8 w0 F0 Z0 n fin r pX cg w'∧Steps P (lone (b.at a todo) cs w) (lone (b.at cg pX) cs w')
 | m,fuel,first,todo,s,a,w,hc,hk,hs,b,cs=>by
  obtain ⟨t1,s1,a1,oK,h1,h2,h3,h4⟩:=TV bS hn fuel first todo s a w hk hs b cs
  rcases h2 with⟨bI,ops,ic,k,rfl,ji,qX⟩ | ⟨me,hfin⟩
  ·have z':Lr hL (sD E hL body fin m) bI s1=some r:=qX;unfold Lr at z'
   cases b3:hL bI with
   | none=>rw [b3] at z';cases z'
   | some T=>
    rw [b3] at z';obtain ⟨s2,g1,g2⟩:=bq z';have oE:=ae7 xS g1 h1
    cases m with
    | zero=>cases g2
    | succ m=>unfold sD Lu at g2;have jL:(bI,(.code (.region bI ops ic) :: k:List Item))∈gY [.code body]:=hc _ (h3 _ (by simp [gY,mb]));have ae9:Ub body bI=some (.code (.region bI ops ic) :: k):=Ud hu jL;rw [ae9] at g2;simp only at g2;obtain ⟨cq,cg,w',cU,eF⟩:=Uf bS hn xS hu m 100000 true _ s2 a1 oK (fun p av=>hc p (h3 p av)) g2 oE b cs;exact⟨cq,cg,w',cU,h4.trans eF⟩
  ·exact⟨t1,a1,oK,⟨me,s1,hfin,h1⟩,h4⟩
theorem mU{α : Type} : ∀x:Sem α,x.bind .pure=x
 | .pure a=>rfl
 | .load m a k=>by simp only [Sem.bind];exact congrArg _ (funext fun v=>mU (k v))
 | .store m a v k=>by simp only [Sem.bind];exact congrArg _ (mU k)
 | .new o k=>by simp only [Sem.bind];exact congrArg _ (funext fun v=>mU (k v))
 | .shape r k=>by simp only [Sem.bind];exact congrArg _ (funext fun v=>mU (k v))
 | .freeze a n k=>by simp only [Sem.bind];exact congrArg _ (mU k)
 | .frozen a k=>by simp only [Sem.bind];exact congrArg _ (funext fun v=>mU (k v))
 | .getObj r k=>by simp only [Sem.bind];exact congrArg _ (funext fun v=>mU (k v))
 | .setObj r o k=>by simp only [Sem.bind];exact congrArg _ (mU k)
 | .choose q k=>by simp only [Sem.bind];exact congrArg _ (funext fun v=>mU (k v))
 | .sys c k=>by simp only [Sem.bind];exact congrArg _ (funext fun v=>mU (k v))
 | .program k=>by simp only [Sem.bind];exact congrArg _ (funext fun v=>mU (k v))
 | .mark m k=>by simp only [Sem.bind];exact congrArg _ (mU k)
 | .halt h=>rfl
theorem mV{α β ae_ : Type}(f : α → Sem β)(g : β → Sem ae_):∀x:Sem α,(x.bind f).bind g=x.bind fun a=>(f a).bind g
 | .pure a=>rfl
 | .load m a k=>by simp only [Sem.bind];exact congrArg _ (funext fun v=>mV f g (k v))
 | .store m a v k=>by simp only [Sem.bind];exact congrArg _ (mV f g k)
 | .new o k=>by simp only [Sem.bind];exact congrArg _ (funext fun v=>mV f g (k v))
 | .shape r k=>by simp only [Sem.bind];exact congrArg _ (funext fun v=>mV f g (k v))
 | .freeze a n k=>by simp only [Sem.bind];exact congrArg _ (mV f g k)
 | .frozen a k=>by simp only [Sem.bind];exact congrArg _ (funext fun v=>mV f g (k v))
 | .getObj r k=>by simp only [Sem.bind];exact congrArg _ (funext fun v=>mV f g (k v))
 | .setObj r o k=>by simp only [Sem.bind];exact congrArg _ (mV f g k)
 | .choose q k=>by simp only [Sem.bind];exact congrArg _ (funext fun v=>mV f g (k v))
 | .sys c k=>by simp only [Sem.bind];exact congrArg _ (funext fun v=>mV f g (k v))
 | .program k=>by simp only [Sem.bind];exact congrArg _ (funext fun v=>mV f g (k v))
 | .mark m k=>by simp only [Sem.bind];exact congrArg _ (mV f g k)
 | .halt h=>rfl
instance:LawfulMonad Sem:=LawfulMonad.mk' Sem (fun x=>mU x) (fun _ _=>rfl) (fun x f g=>mV f g x)
theorem Ug{α : Type}{f : α → Sem Value} : ∀ {as:List α} {vs:List Value},vs.length=as.length→(∀i (hi:i<as.length) (dm:i<vs.length),(f as[i]).run P w=.ok vs[i] w)→(as.mapM f).run P w=.ok vs w
 | [],[],_,_=>by rw [List.mapM_nil];exact run_pure _ _
 | [],_ :: _,h,_=>by simp at h
 | _ :: _,[],h,_=>by simp at h
 | x :: as,v :: vs,hl,h=>by have h0:=h 0 (by simp) (by simp);simp only [List.getElem_cons_zero] at h0;rw [List.mapM_cons,run_bind,h0];simp only [run_bind];rw [Ug (as:=as) (vs:=vs) (by simpa using hl) fun i hi dm=>h (i+1) (by simpa using hi) (by simpa using dm)];simp only [run_pure]
theorem ae'{α : Type}{f : α → Sem Value}{as:Array α}{vs:List Value}(hl:vs.length=as.size)(h:∀i (hi:i<as.toList.length) (dm:i<vs.length),(f as.toList[i]).run P w=.ok vs[i] w) :
  (as.mapM f).run P w=.ok vs.toArray w:=by
 rw [Array.mapM_eq_mapM_toList,map_eq_pure_bind,run_bind,Ug (by simpa using hl) h];rfl
theorem Lv(b3:hB P E)(h:Inv w0 F0 Z0 n s a w ι Z):∀ {l:List ResultVar} {vs:List a_},uR E l s=some vs →
  ∃us,us.length=l.length∧a8 w Z s ι vs us∧∀i (hi:i<l.length) (dm:i<us.length),((fun | .tmp t=>pure (a.tmps.getD t undef) | .cell b t=>do loadVar t (← asAddr (a.tmps.getD b undef)):ResultVar→Sem Value) l[i]).run P w=.ok us[i] w
 | [],vs,hr=>by obtain rfl:=aZ hr;exact⟨[],rfl,by simp only [a8],fun i hi=>by simp at hi⟩
 | .tmp t :: l,vs,hr=>by
  simp only [uR] at hr;obtain ⟨bK,h1,hr⟩:=bq hr;obtain rfl:=aZ hr;obtain ⟨us,g1,g2,g3⟩:=Lv b3 h h1;refine⟨_ :: us,by simp [g1],by simp only [a8];exact⟨_,_,rfl,h.tmps t,g2⟩,fun i hi dm=>?_⟩
  cases i with
  | zero=>rfl
  | succ i=>exact g3 i (by simpa using hi) (by simpa using dm)
 | .cell b ty :: l,vs,hr=>by
  simp only [uR] at hr
  cases ht:E.ty ty with
  | none=>rw [ht] at hr;simp at hr
  | some T=>
   rw [ht] at hr
   cases av:s.t b with
   | ptr p=>
    rw [av] at hr;simp only at hr;obtain ⟨v,hv,hr⟩:=bq hr;obtain ⟨bK,h1,hr⟩:=bq hr;obtain rfl:=aZ hr;obtain ⟨cs,k1,k2⟩:=bq hv;obtain ⟨us,g1,g2,g3⟩:=Lv b3 h h1;have hx:=h.tmps b;rw [av] at hx;simp only [aV] at hx;obtain ⟨_,A,he,gf⟩:=hx;obtain ⟨cX,i0,ws,rfl,hc,cB,hlen⟩:=zv h k1 gf;refine⟨dQ T ws :: us,by simp [g1],by simp only [a8];exact⟨_,_,rfl,pI k2 hc,g2⟩,fun i hi dm=>?_⟩
    cases i with
    | zero=>show(do loadVar ty (← asAddr (a.tmps.getD b undef)):Sem Value).run P w=_;rw [run_bind,he];show(loadVar ty (at_ cX i0)).run P w=_;exact J3 (b3.ty ty T ht) cB hlen
    | succ i=>exact g3 i (by simpa using hi) (by simpa using dm)
   | _=>rw [av] at hr;simp at hr
theorem afa{fn:Func}{vs:List a_}(b3:hB P E)(h:Inv w0 F0 Z0 n s a w ι Z)(hr:uR E fn.results.toList s=some vs) :
  ∃us,a8 w Z s ι vs us∧(results fn a.tmps).run P w=.ok (oG us) w:=by
 obtain ⟨us,h1,h2,h3⟩:=Lv b3 h hr;refine⟨us,h2,?_⟩;unfold results
 rw [run_bind,ae' (vs:=us) (by simpa using h1) (fun i hi dm=>by
  have:=h3 i hi dm;revert this
  cases fn.results.toList[i] <;> exact fun h=>h)]
 simp only;rw [run_pure];congr 1;unfold oG;split
 ·rename_i hs
  match us,hs with
  | [v],_=>rfl
  | [],hs=>simp at hs
  | _ :: _ :: _,hs=>simp at hs
 ·rename_i hs
  match us,hs with
  | [v],hs=>simp at hs
  | [],_=>rfl
  | _ :: _ :: _,_=>rfl
theorem afb(us:List Value)(m k:Nat):((us.toArray++Array.replicate m undef).getD k undef)=us.getD k undef:=by
 rw [Array.getD_eq_getD_getElem?,List.getD_eq_getElem?_getD];by_cases hk:k<us.length
 ·rw [Array.getElem?_append_left (by simpa using hk)];simp
 ·rw [Array.getElem?_append_right (by simpa using Nat.le_of_not_lt hk)];rw [List.getElem?_eq_none (by omega)];simp only [List.size_toArray,Option.getD_none];by_cases ew:k-us.length<m
  ·rw [Array.getElem?_eq_getElem (by simpa using ew)];simp
  ·rw [Array.getElem?_eq_none (by simpa using Nat.le_of_not_lt ew)];rfl
theorem a8.getD:∀ {xs:List a_} {us:List Value},a8 w Z s ι xs us→∀k,aV w Z s ι (xs.getD k .ay) (us.getD k undef)
 | [],us,h,k=>by simp only [List.getD_nil,aV]
 | x :: xs,us,h,k=>by
  simp only [a8] at h;obtain ⟨u,aX,rfl,h1,h2⟩:=h
  cases k with
  | zero=>exact h1
  | succ k=>exact a8.getD h2 k
theorem a8.len:∀ {xs:List a_} {us:List Value},a8 w Z s ι xs us→us.length=xs.length
 | [],us,h=>by simp only [a8] at h;rw [h];rfl
 | x :: xs,us,h=>by simp only [a8] at h;obtain ⟨u,aX,rfl,h1,h2⟩:=h;simp [a8.len h2]
theorem DM:∀ {t:ae} {m:bl} {x:t.D} {vs us:List Value} {F:ai},t.ar w Z m x vs F→gp (dQ t vs :: us)=gp us
 | .int k,_,_,_,_,_,h=>by simp only [ae.ar] at h;subst h;rfl
 | .bool,_,_,_,_,_,h=>by simp only [ae.ar] at h;subst h;rfl
 | .str,_,_,_,_,_,h=>by simp only [ae.ar] at h;obtain ⟨b,rfl,_⟩:=h;rfl
 | .raw,_,_,_,_,_,h=>by simp only [ae.ar] at h;obtain ⟨rfl,_,_,_,rfl⟩:=h;rfl
 | .sl t,.O e,_,_,_,_,h=>by simp only [ae.ar] at h;obtain ⟨A,c,rfl,_⟩:=h;rfl
 | .sl t,.R,_,_,_,_,h=>by simp only [ae.ar] at h;obtain ⟨A,c,rfl,_⟩:=h;rfl
 | .sl t,.S _,_,_,_,_,h=>by simp only [ae.ar] at h;obtain ⟨A,c,rfl,_⟩:=h;rfl
 | .st ak,_,_,_,_,_,_=>rfl
theorem sE{key:Nat} : ∀(ps:List bF) (x:(bF.ins ps).D) (eT:List Value) (F:ai),gH w Z key ps x eT F→eT.length=ps.length
 | [],x,eT,F,h=>by rw [show eT=[] from h];rfl
 | .fn _ _ :: ps,x,eT,F,h=>by obtain ⟨a,b,aX,rfl,_,h2⟩:=h;simp [sE ps x aX F h2]
 | .val _ _ :: ps,x,eT,F,h=>by obtain ⟨v,aX,G,H,rfl,_,h2,_⟩:=h;simp [sE ps _ _ _ h2]
 | .hS _ :: ps,x,eT,F,h=>by obtain ⟨v,aX,G,H,rfl,_,h2,_⟩:=h;simp [sE ps _ _ _ h2]
 | .hR _ _ :: ps,x,eT,F,h=>by obtain ⟨v,aX,G,H,rfl,_,h2,_⟩:=h;simp [sE ps _ _ _ h2]
 | .ref _ :: ps,x,eT,F,h=>by obtain ⟨b,o,v,aX,rfl,_,_,_,h2⟩:=h;simp [sE ps _ _ _ h2]
 | .mut _ _ _ :: ps,x,eT,F,h=>by obtain ⟨b,o,v,aX,G,H,rfl,_,_,_,h2,_⟩:=h;simp [sE ps _ _ _ h2]
theorem a8.split:∀ {q:List a_} {l k:List Value},a8 w Z s ι q (l++k)→a8 w Z s ι (q.take l.length) l∧a8 w Z s ι (q.drop l.length) k
 | q,[],k,h=>by simp only [List.length_nil,List.take_zero,List.drop_zero,a8];exact⟨trivial,h⟩
 | [],u :: l,k,h=>by simp [a8] at h
 | v :: q,u :: l,k,h=>by
  simp only [List.cons_append,a8] at h;obtain ⟨jk,us2,he,k1,k2⟩:=h;injection he with e3 ft
  subst e3 ft;obtain ⟨h1,h2⟩:=a8.split (q:=q) (l:=l) (k:=k) k2;refine⟨?_,?_⟩
  ·simp only [List.length_cons,List.take_succ_cons,a8];exact⟨_,l,rfl,k1,h1⟩
  ·simpa only [List.length_cons,List.drop_succ_cons] using h2
theorem xT{key:Nat} : ∀(ps:List bF) (x:(bF.ins ps).D) (eT us:List Value) (F:ai) (q:List a_),DL ps=true→gH w Z key ps x eT F→eT=us++gp us→a8 w Z s ι q eT→a8 w Z s ι (mT key ps q) us
 | [],x,eT,us,F,q,_,hA,gX,hq=>by have hA:eT=[]:=hA;subst hA;obtain ⟨rfl,_⟩:=List.append_eq_nil_iff.1 gX.symm;cases q <;> simp only [mT,a8]
 | .fn mu py :: ps,x,eT,us,F,q,cK,hA,gX,hq=>by
  obtain ⟨a,b,aX,rfl,⟨ha,hb⟩,h2⟩:=hA;have hl:=sE _ _ _ _ h2;have ars:=Nat.eq_of_beq_eq_true cK
  cases us with
  | nil=>cases gX
  | cons u us=>
   injection gX with e1 e2
   subst e1;have hz:us=[]:=by have:=congrArg List.length e2;simp [gp] at this;exact List.length_eq_zero_iff.1 (by omega)
   subst hz;simp only [gp,List.nil_append,List.append_nil] at e2;subst e2
   cases q with
   | nil=>simp [a8] at hq
   | cons v q=>
    simp only [a8] at hq;obtain ⟨jk,us2,he,_,k2⟩:=hq;injection he with e3 ft
    subst e3 ft;obtain ⟨k3,bg⟩:=a8.split (l:=a.toList) (k:=b.toList) k2;simp only [mT,a8,aV];rw [Array.length_toList,ha] at k3 bg;exact⟨_,[],rfl,⟨a.toList,b.toList,by simp,k3,bg⟩,rfl⟩
 | .val t m :: ps,x,eT,us,F,q,cK,hA,gX,hq=>by
  obtain ⟨vs,aX,G,H,rfl,h1,h2,_⟩:=hA
  cases us with
  | nil=>cases gX
  | cons u us=>
   injection gX with e1 e2
   subst e1;rw [DM h1] at e2
   cases q with
   | nil=>simp [a8] at hq
   | cons v q=>
    simp only [a8] at hq;obtain ⟨jk,us2,he,k1,k2⟩:=hq;injection he with e3 ft
    subst e3 ft;simp only [mT,a8];exact⟨_,us,rfl,k1,xT ps x.2 _ us _ q cK h2 e2 k2⟩
 | .hS t :: ps,x,eT,us,F,q,cK,hA,gX,hq=>by
  obtain ⟨vs,aX,G,H,rfl,h1,h2,_⟩:=hA
  cases us with
  | nil=>cases gX
  | cons u us=>
   injection gX with e1 e2
   subst e1;rw [DM h1] at e2
   cases q with
   | nil=>simp [a8] at hq
   | cons v q=>
    simp only [a8] at hq;obtain ⟨jk,us2,he,k1,k2⟩:=hq;injection he with e3 ft
    subst e3 ft;simp only [mT,a8];exact⟨_,us,rfl,k1,xT ps x.2 _ us _ q cK h2 e2 k2⟩
 | .hR t m :: ps,x,eT,us,F,q,cK,hA,gX,hq=>by
  obtain ⟨vs,aX,G,H,rfl,h1,h2,_⟩:=hA
  cases us with
  | nil=>cases gX
  | cons u us=>
   injection gX with e1 e2
   subst e1;rw [DM h1] at e2
   cases q with
   | nil=>simp [a8] at hq
   | cons v q=>
    simp only [a8] at hq;obtain ⟨jk,us2,he,k1,k2⟩:=hq;injection he with e3 ft
    subst e3 ft;simp only [mT,a8];exact⟨_,us,rfl,k1,xT ps x.2 _ us _ q cK h2 e2 k2⟩
 | .ref t :: ps,x,eT,us,F,q,cK,hA,gX,hq=>by
  obtain ⟨b,o,vs,aX,rfl,_,_,_,h2⟩:=hA
  cases us with
  | nil=>cases gX
  | cons u us=>
   injection gX with e1 e2
   subst e1;have e2:aX=us++gp us:=e2
   cases q with
   | nil=>simp [a8] at hq
   | cons v q=>
    simp only [a8] at hq;obtain ⟨jk,us2,he,k1,k2⟩:=hq;injection he with e3 ft
    subst e3 ft;simp only [mT,a8];exact⟨_,us,rfl,k1,xT ps x.2 _ us _ q cK h2 e2 k2⟩
 | .mut t m m' :: ps,x,eT,us,F,q,cK,hA,gX,hq=>by
  obtain ⟨b,o,vs,aX,G,H,rfl,_,_,_,h2,_⟩:=hA
  cases us with
  | nil=>cases gX
  | cons u us=>
   injection gX with e1 e2
   subst e1;have e2:aX=us++gp us:=e2
   cases q with
   | nil=>simp [a8] at hq
   | cons v q=>
    simp only [a8] at hq;obtain ⟨jk,us2,he,k1,k2⟩:=hq;injection he with e3 ft
    subst e3 ft;simp only [mT,a8];exact⟨_,us,rfl,k1,xT ps x.2 _ us _ q cK h2 e2 k2⟩
theorem afc{f key:Nat}{fn:Func}{body:Code}{e:Entry}{hL:Nat→Option bQ}(bS:j6 P E)(hf:P.funcs[f]?=some fn)(hb:fn.body=some body)(jo:(fn.name == "runtime.NumGoroutine")=false)
  (hn:Nat.beq E.n fn.ntmps=true) (DN:DL e.ps=true) (hlen:Nat.ble e.ps.length fn.ntmps=true) (hu:Lq body=true)
  (hF:∀x r,e.f x=some r→∃m,z_ E fn body hL key e (sD E hL body (uS E fn e) m) x=some r):Sound P f key e:=by
 refine⟨⟨fn,hf,by rw [hb];rfl,jo⟩,fun w Z F x us r hZ KO hap hA hx=>?_⟩;obtain ⟨m,hm⟩:=hF x r hx;unfold z_ at hm;obtain ⟨st,hst,hm⟩:=bq hm;unfold Ue at hst;obtain ⟨q,hq,hst⟩:=bq hst;obtain rfl:=aZ hst;have pG:=sE _ _ _ _ hA;rw [List.length_append] at pG;have hle:=Nat.le_of_ble_eq_true hlen
 let a0:Act:= { tmps:=us.toArray++Array.replicate (fn.ntmps-us.toArray.size) undef,defers:=[] }
 have hsz:a0.tmps.size=fn.ntmps:=by simp [a0];omega
 have afd:Inv w F Z ⟨fn.ntmps,[],[]⟩ ⟨fun _=>.ay,fun _=>.none,[]⟩ a0 w (fun _=>⟨none,0,ai.none⟩) Z:=Inv.start hZ hsz rfl;obtain ⟨dH,i1,held,cV,nM⟩:=uM e.ps x (us++gp us) _ _ _ F q hq afd hA ⟨fun b o h=>⟨.inl h,KO b o h⟩,fun _ h=>h.elim,hap⟩
 have hinv:Inv w F Z ⟨fn.ntmps,us++gp us,[]⟩ ⟨fun k=>(mT key e.ps q.1).getD k .ay,q.2.1.o,q.1⟩ a0 w dH Z:=by
  have hm:eR w Z q.2.1 dH w Z ⟨fun k=>(mT key e.ps q.1).getD k .ay,q.2.1.o,q.1⟩ dH:=JM rfl
  exact⟨i1.ext,i1.dO,i1.sa,i1.je,fun id=>ie.move hm (id:=id) (fun _=>⟨rfl,rfl⟩) rfl (i1.f_ id),i1.own,i1.apart,i1.dd,
   fun k=>by
    show aV w Z _ dH ((mT key e.ps q.1).getD k .ay) ((us.toArray++Array.replicate (fn.ntmps-us.toArray.size) undef).getD k undef);rw [afb]
    exact(a8.move hm (xT e.ps x _ us F q.1 DN hA rfl cV)).getD k,hsz,a8.move hm cV,fun e he=>by simp at he,rfl⟩
 intro cs
 let cX:Frame:= { (default:Frame) with fn:=f,kind:=.normal }
 have afe:Frame.enter P f us.toArray .normal=cX.at a0 [.code body]:=by simp [Frame.enter,Frame.at,hf,hb,cX,a0]
 obtain ⟨cq,cg,w',⟨me,au,hfin,bp,Z',dm⟩,Uh⟩:=Uf (n:=⟨fn.ntmps,us++gp us,[]⟩) bS (Nat.eq_of_beq_eq_true hn) rfl hu m 100000 false [.code body] _ a0 w (fun _ h=>h) hm ⟨dH,Z,hinv⟩ cX cs;unfold uS at hfin;obtain ⟨vs,hvs,hfin⟩:=bq hfin;obtain ⟨dA,hr1,gS⟩:=afa bS.ty dm hvs;obtain ⟨s2,dU,bR,mM,e_,Dm,KY,To⟩:=xQ e.rs vs dA au Z' r hfin dm dm.ghost hr1
 have DO:Ends w Z F e us r (oG dA) w':=by
  refine⟨dA,bR,dU,rfl,dm.ext,mM.sa,fun b o hz=>?_,fun b o hf=>?_,Dm.dd,KY⟩
  ·rcases mM.dO b o hz with h1 | h1 | h1
   ·exact .inl h1
   ·exact .inr ⟨.inl h1,mM.je b o hz⟩
   ·exact .inr ⟨.inr h1,mM.je b o hz⟩
  ·exact Dm.own b o hf
 rw [afe];rcases me with rfl | ⟨k,rfl⟩
 ·exact⟨.returned (oG dA),w',_,⟨_,rfl,DO⟩,Steps.trans Uh (.one step_end),rfl,rfl,dm.defers,rfl,fn,hf,gS⟩
 ·exact⟨.returned (oG dA),w',_,⟨_,rfl,DO⟩,Steps.trans Uh (.one step_ret),rfl,rfl,dm.defers,rfl,fn,hf,gS⟩
end
end Go.LM
namespace Go.LM
mutual
def ae.sF(P:Program):ae→TypeId→Bool
 | .int _,_=>true
 | .bool,_=>true
 | .str,_=>true
 | .sl _,_=>false
 | .raw,_=>false
 | .st ak,id=> !P.stoodInHeld id&&match P.underlying id with | some (.struct cG)=>ak.DP P cG.toList | _=>false
def aC.DP(P:Program):aC→List Field→Bool
 | .nil,_=>true
 | .cons t ak,cG=>match cG with
  | f :: lZ=>decide (f.name ≠ "_")&&t.sF P f.type&&ak.DP P lZ
  | []=>false
end
mutual
def ae.deep:ae→Nat
 | .st ak=>ak.deep+1
 | _=>1
def aC.deep:aC→Nat
 | .nil=>0
 | .cons t ak=>t.deep+ak.deep
end
section
variable{P:Program}{w:World}{Z:ai}{s:aq}{ι : Nat→bJ}
theorem aff{k:IntKind}{cs ds:List bd}{r:Bool×List bd×List bd}(h:(ae.int k).cmp cs ds=some r):∃x a y b,cs=.int k x :: a∧ds=.int k y :: b∧r=(x==y,a,b):=by
 cases cs with
 | nil=>simp [ae.cmp] at h
 | cons c a=>cases ds with
  | nil=>cases c <;> simp [ae.cmp] at h
  | cons d b=>
   cases c <;> cases d <;> simp only [ae.cmp] at h <;> first | (cases h;done) | skip
   rename_i k1 x k2 y;cases hk:(Nat.beq (dz k1) (dz k)&&Nat.beq (dz k2) (dz k))
   ·rw [hk] at h;cases h
   rw [hk] at h;simp only [Bool.and_eq_true] at hk;obtain rfl:=t_ (Nat.eq_of_beq_eq_true hk.1);obtain rfl:=t_ (Nat.eq_of_beq_eq_true hk.2);exact⟨x,a,y,b,rfl,rfl,(aZ h).symm⟩
theorem afg{cs ds:List bd}{r:Bool×List bd×List bd}(h:ae.bool.cmp cs ds=some r):∃x a y b,cs=.bool x :: a∧ds=.bool y :: b∧r=(x==y,a,b):=by
 cases cs with
 | nil=>simp [ae.cmp] at h
 | cons c a=>cases ds with
  | nil=>cases c <;> simp [ae.cmp] at h
  | cons d b=>
   cases c <;> try (simp [ae.cmp] at h;done)
   cases d <;> try (simp [ae.cmp] at h;done)
   simp only [ae.cmp] at h;exact⟨_,a,_,b,rfl,rfl,(aZ h).symm⟩
theorem afh{cs ds:List bd}{r:Bool×List bd×List bd}(h:ae.str.cmp cs ds=some r):∃x a y b,cs=.str x :: a∧ds=.str y :: b∧r=(bD x y,a,b):=by
 cases cs with
 | nil=>simp [ae.cmp] at h
 | cons c a=>cases ds with
  | nil=>cases c <;> simp [ae.cmp] at h
  | cons d b=>
   cases c <;> try (simp [ae.cmp] at h;done)
   cases d <;> try (simp [ae.cmp] at h;done)
   simp only [ae.cmp] at h;exact⟨_,a,_,b,rfl,rfl,(aZ h).symm⟩
theorem Lw{c c':bd}{a b:List bd}{us vs:List Value}(h1:bN w Z s ι (c :: a) us)(h2:bN w Z s ι (c' :: b) vs) :
  ∃u us2 v vs2,us=u :: us2∧vs=v :: vs2∧cw w Z s ι c u∧cw w Z s ι c' v∧bN w Z s ι a us2∧bN w Z s ι b vs2:=by
 cases us with
 | nil=>exact h1.elim
 | cons u us=>cases vs with
  | nil=>exact h2.elim
  | cons v vs=>exact⟨u,us,v,vs,rfl,rfl,h1.1,h2.1,h1.2,h2.2⟩
mutual
theorem ae.Aa:∀(t:ae) (id:TypeId) (d:Nat) {cs ds:List bd} {r:Bool×List bd×List bd} {us vs:List Value},t.ok P id→t.sF P id=true→t.deep≤d→t.cmp cs ds=some r →
  bN w Z s ι cs us→bN w Z s ι ds vs→∃us1 us2 vs1 vs2,us=us1++us2∧vs=vs1++vs2∧us1.length=t.size∧vs1.length=t.size∧bN w Z s ι r.2.1 us2∧bN w Z s ι r.2.2 vs2 ∧
   (Op.equalIn d id (dQ t us1) (dQ t vs1)).run P w=.ok r.1 w
 | .int k,id,0,cs,ds,r,us,vs,ho,hc,ah,h,h1,h2=>by simp [ae.deep] at ah
 | .int k,id,d+1,cs,ds,r,us,vs,ho,hc,ah,h,h1,h2=>by simp only [ae.ok] at ho;obtain ⟨x,a,y,b,rfl,rfl,rfl⟩:=aff h;obtain ⟨u,us2,v,vs2,rfl,rfl,e1,e2,g1,g2⟩:=Lw h1 h2;simp only [cw] at e1 e2;subst e1 e2;exact⟨[_],us2,[_],vs2,rfl,rfl,rfl,rfl,g1,g2,run_equalIn_int w d id _ _ x y ho.1⟩
 | .bool,id,0,cs,ds,r,us,vs,ho,hc,ah,h,h1,h2=>by simp [ae.deep] at ah
 | .bool,id,d+1,cs,ds,r,us,vs,ho,hc,ah,h,h1,h2=>by simp only [ae.ok] at ho;obtain ⟨x,a,y,b,rfl,rfl,rfl⟩:=afg h;obtain ⟨u,us2,v,vs2,rfl,rfl,e1,e2,g1,g2⟩:=Lw h1 h2;simp only [cw] at e1 e2;subst e1 e2;exact⟨[_],us2,[_],vs2,rfl,rfl,rfl,rfl,g1,g2,run_equalIn_bool w d id x y ho.1⟩
 | .str,id,0,cs,ds,r,us,vs,ho,hc,ah,h,h1,h2=>by simp [ae.deep] at ah
 | .str,id,d+1,cs,ds,r,us,vs,ho,hc,ah,h,h1,h2=>by simp only [ae.ok] at ho;obtain ⟨x,a,y,b,rfl,rfl,rfl⟩:=afh h;obtain ⟨u,us2,v,vs2,rfl,rfl,e1,e2,g1,g2⟩:=Lw h1 h2;obtain ⟨xj,rfl,rfl⟩:=e1;obtain ⟨xk,rfl,rfl⟩:=e2;refine⟨[_],us2,[_],vs2,rfl,rfl,rfl,rfl,g1,g2,?_⟩;rw [← Sk];exact run_equalIn_string w d id xj xk ho.1
 | .raw,id,d,cs,ds,r,us,vs,ho,hc,ah,h,h1,h2=>by simp [ae.sF] at hc
 | .sl t,id,d,cs,ds,r,us,vs,ho,hc,ah,h,h1,h2=>by simp [ae.sF] at hc
 | .st ak,id,0,cs,ds,r,us,vs,ho,hc,ah,h,h1,h2=>by simp [ae.deep] at ah
 | .st ak,id,d+1,cs,ds,r,us,vs,ho,hc,ah,h,h1,h2=>by
  simp only [ae.ok] at ho;obtain ⟨_,cG,hu,Lx⟩:=ho;simp only [ae.sF,Bool.and_eq_true,Bool.not_eq_true',hu] at hc;simp only [ae.deep] at ah;simp only [ae.cmp] at h;obtain ⟨us1,us2,vs1,vs2,e1,e2,eb,eS,g1,g2,g3⟩:=aC.Aa ak cG.toList 0 d [] [] Lx hc.2 (by omega) h h1 h2 rfl rfl;refine⟨us1,us2,vs1,vs2,e1,e2,eb,eS,g1,g2,?_⟩;have ll:P.fieldsOf id=cG:=by simp [Program.fieldsOf,hu]
  show(Op.equalIn (d+1) id (.agg us1.toArray) (.agg vs1.toArray)).run P w=_;rw [run_equalIn_struct w d id us1.toArray vs1.toArray (by rw [ll];exact hu) hc.1,ll];have:=g3 [] [];simpa using this
theorem aC.Aa:∀(ak:aC) (cG:List Field) (off d:Nat) {cs ds:List bd} {r:Bool×List bd×List bd} {us vs:List Value} (pre uT:List Value),ak.okF P cG off→ak.DP P cG=true→ak.deep≤d→ak.cmp cs ds=some r →
  bN w Z s ι cs us→bN w Z s ι ds vs→pre.length=off→uT.length=off→∃us1 us2 vs1 vs2,us=us1++us2∧vs=vs1++vs2∧us1.length=ak.size∧vs1.length=ak.size∧bN w Z s ι r.2.1 us2∧bN w Z s ι r.2.2 vs2 ∧
   ∀dF Ab:List Value,(Op.eqFields d (pre++us1++dF).toArray (uT++vs1++Ab).toArray cG).run P w=.ok r.1 w
 | .nil,cG,off,d,cs,ds,r,us,vs,pre,uT,ho,hc,ah,h,h1,h2,av,oz=>by simp only [aC.okF] at ho;subst ho;obtain rfl:=aZ h;exact⟨[],us,[],vs,rfl,rfl,rfl,rfl,h1,h2,fun _ _=>by simp only [Op.eqFields];exact run_pure _ _⟩
 | .cons t ak,cG,off,d,cs,ds,r,us,vs,pre,uT,ho,hc,ah,h,h1,h2,av,oz=>by
  simp only [aC.okF] at ho;obtain ⟨f,lZ,rfl,fK,mO,kj⟩:=ho;simp only [aC.DP,Bool.and_eq_true,decide_eq_true_eq] at hc;simp only [aC.deep] at ah;simp only [aC.cmp] at h;obtain ⟨bH,k1,h⟩:=bq h;obtain ⟨cm,k2,h⟩:=bq h;obtain rfl:=aZ h;obtain ⟨a1,a2,iI,pD,rfl,rfl,eb,eS,g1,g2,g3⟩:=ae.Aa t f.type d mO hc.1.2 (by omega) k1 h1 h2;obtain ⟨a3,a4,sk,CP,rfl,rfl,oB,pH,g4,g5,g6⟩:=aC.Aa ak lZ (off+t.size) d (pre++a1) (uT++iI) kj hc.2 (by omega) k2 g1 g2 (by simp;omega) (by simp;omega);refine⟨a1++a3,a4,iI++sk,CP,by simp,by simp,by simp [aC.size];omega,by simp [aC.size];omega,g4,g5,fun dF Ab=>?_⟩;have ea:=J9 (P:=P) (w:=w) mO (cs:=pre++(a1++a3)++dF) (k:=off) (by simp;omega);have e7:=J9 (P:=P) (w:=w) mO (cs:=uT++(iI++sk)++Ab) (k:=off) (by simp;omega);have cU:((pre++(a1++a3)++dF).drop off).take t.size=a1:=by rw [← av,← eb];simp
  have eF:((uT++(iI++sk)++Ab).drop off).take t.size=iI:=by rw [← oz,← eS];simp
  rw [cU] at ea;rw [eF] at e7;simp only [Op.eqFields];rw [if_pos hc.1.1,run_bind,fK,ea];simp only;rw [run_bind,e7];simp only;rw [run_bind,g3];simp only;cases hr:bH.1
  ·simp only [Bool.not_false,if_true,Bool.false_and];exact run_pure _ _
  ·simp only [Bool.not_true,Bool.false_eq_true,if_false,Bool.true_and];have:=g6 dF Ab;simpa using this
end
def tV(P:Program):List (Nat×ae)→List Nat→Bool
 | _,[]=>true
 | tab,k :: l=>(match P.underlying k with | some (.struct _)=>true | _=>false) && !P.eqGuardType P.depth k&&(tab.all fun x=> !Nat.beq x.1 k||x.2.sF P k&&Nat.ble x.2.deep 10000)&&tV P tab l
theorem Ui{tab:List (Nat×ae)}{k:Nat} : ∀ {l:List Nat},tV P tab l=true→k∈l→(∃cG,P.underlying k=some (.struct cG))∧P.eqGuardType P.depth k=false∧∀T,(k,T)∈tab→T.sF P k=true∧T.deep≤10000
 | x :: l,h,hm=>by
  simp only [tV,Bool.and_eq_true,Bool.not_eq_true'] at h;rcases List.mem_cons.1 hm with rfl | hm
  ·refine⟨?_,h.1.1.2,fun T b3=>?_⟩
   ·have h1:=h.1.1.1;split at h1
    ·rename_i cG hk;exact⟨cG,hk⟩
    ·cases h1
   ·have h2:=List.all_eq_true.1 h.1.2 _ b3;rw [Nat.beq_refl] at h2;simp only [Bool.not_true,Bool.false_or,Bool.and_eq_true] at h2;exact⟨h2.1,Nat.le_of_ble_eq_true h2.2⟩
  ·exact Ui h.2 hm
theorem afi{T:ae}{k:Nat}(ho:T.ok P k)(hu:∃cG,P.underlying k=some (.struct cG))(aI:P.eqGuardType P.depth k=false)(hc:T.sF P k=true)(ah:T.deep≤10000)(op:BinOp)(xo yo:Operand)(w:World)(Z:ai)(s:aq)(ι : Nat→bJ)
  (cs ds:List bd) (us vs:List Value) (q:Bool) (h1:bN w Z s ι cs us) (h2:bN w Z s ι ds vs) (h:T.cmp cs ds=some (q,[],[])) :
  (eqGuard op k xo yo (.agg us.toArray) (.agg vs.toArray)).run P w=.ok () w∧(op=.eql→(binOp op k (.agg us.toArray) (.agg vs.toArray)).run P w=.ok (.bool q) w) ∧
   (op=.neq→(binOp op k (.agg us.toArray) (.agg vs.toArray)).run P w=.ok (.bool (!q)) w):=by
 obtain ⟨us1,us2,vs1,vs2,rfl,rfl,eb,eS,g1,g2,g3⟩:=ae.Aa T k 10000 ho hc ah h h1 h2;have e8:us2=[]:=by cases us2 with | nil=>rfl | cons=>exact g1.elim
 have jG:vs2=[]:=by cases vs2 with | nil=>rfl | cons=>exact g2.elim
 subst e8 jG
 have b3:∃ak,T=.st ak:=by
  obtain ⟨cG,hu⟩:=hu
  cases T with
  | st ak=>exact⟨ak,rfl⟩
  | int=>simp only [ae.ok] at ho;rw [hu] at ho;cases ho.1
  | bool=>simp only [ae.ok] at ho;rw [hu] at ho;cases ho.1
  | str=>simp only [ae.ok] at ho;rw [hu] at ho;cases ho.1
  | sl t=>simp only [ae.ok] at ho;obtain ⟨_,e,he,_⟩:=ho;rw [hu] at he;cases he
  | raw=>simp only [ae.ok] at ho;obtain ⟨_,e,he⟩:=ho;rw [hu] at he;cases he
 obtain ⟨ak,rfl⟩:=b3;simp only [List.append_nil];have heq:(Op.equal k (.agg us1.toArray) (.agg vs1.toArray)).run P w=.ok q w:=g3;refine⟨?_,?_,?_⟩
 ·unfold eqGuard;cases op <;> try rfl
  all_goals
   have afj:∀w:World,(program:Sem Program).run P w=.ok P w:=fun _=>rfl
   simp only [Bool.not_true,Bool.false_eq_true,if_false,run_bind,afj,aI,Bool.not_false,if_true];rfl
 ·rintro rfl
  show(do pure (.bool (← Op.equal k _ _)):Sem Value).run P w=_;rw [run_bind,heq];rfl
 ·rintro rfl
  show(do pure (.bool (!(← Op.equal k _ _))):Sem Value).run P w=_;rw [run_bind,heq];rfl
end
end Go.LM
namespace Go.LM
def zeroV:Value→Value→Bool
 | .int k x,.int k' y=>Nat.beq (dz k) (dz k')&&decide (x=y)
 | .bool a,.bool b=>a==b
 | .string a,.string b=>decide (a.data.toList=b.data.toList)
 | .slice none 0 0,.slice none 0 0=>true
 | _,_=>false
theorem Uj{u v:Value}(h:zeroV u v=true):u=v:=by
 unfold zeroV at h;split at h
 ·simp only [Bool.and_eq_true,decide_eq_true_eq] at h;rw [t_ (Nat.eq_of_beq_eq_true h.1),h.2]
 ·rw [eq_of_beq h]
 ·rename_i a b;have h:=of_decide_eq_true h;obtain ⟨⟨a⟩⟩:=a;obtain ⟨⟨b⟩⟩:=b;simp only at h;rw [h]
 ·rfl
 ·cases h
def DQ:List Value→List Value→Bool
 | [],[]=>true
 | u :: us,v :: vs=>cond (zeroV u v) (DQ us vs) false
 | _,_=>false
theorem Uk:∀ {us vs:List Value},DQ us vs=true→us=vs
 | [],[],_=>rfl
 | u :: us,v :: vs,h=>by
  unfold DQ at h;cases h1:zeroV u v
  ·rw [h1] at h;cases h
  ·rw [h1] at h;rw [Uj h1,Uk h]
 | [],_ :: _,h=>by cases h
 | _ :: _,[],h=>by cases h
def Ly(t:ae)(v:Value):Bool:=
 match t,v with
 | .st ak,.agg cs=>DQ cs.toList ak.cW
 | .st _,_=>false
 | .sl _,v=>zeroV v (.slice none 0 0)
 | t,v=>zeroV v (t.cW.headD undef)
theorem afk{t:ae}{v:Value}(h:Ly t v=true):v=dQ t t.cW:=by
 cases t with
 | st ak=>
  cases v <;> simp only [Ly] at h <;> try (cases h;done)
  rename_i cs;show Value.agg cs=.agg ak.cW.toArray;rw [← Uk h]
 | _=>exact Uj h
def sG(P:Program)(id:TypeId)(t:ae):Bool:=
 match P.info? id with
 | some i=>Nat.beq i.size t.size&&(match i.zero with | some v=>Ly t v | none=>false)&&Nat.ble i.bytes 2048
 | none=>false
theorem xU{P:Program}{id:TypeId}{t:ae}(h:sG P id t=true):lY P id t:=by
 unfold sG at h
 cases hi:P.info? id with
 | none=>rw [hi] at h;cases h
 | some i=>
  rw [hi] at h;simp only [Bool.and_eq_true] at h;refine⟨i,hi,Nat.eq_of_beq_eq_true h.1.1,?_,Nat.le_of_ble_eq_true h.2⟩;have h2:=h.1.2
  cases hz:i.zero with
  | none=>rw [hz] at h2;cases h2
  | some v=>rw [hz] at h2;rw [afk h2]
mutual
def ae.okB(P:Program):ae→TypeId→Bool
 | .int k,id=>(match P.underlying id with | some (.int k')=>Nat.beq (dz k') (dz k) | _=>false)&&sG P id (.int k)
 | .bool,id=>(match P.underlying id with | some .bool=>true | _=>false)&&sG P id .bool
 | .str,id=>(match P.underlying id with | some .string=>true | _=>false)&&sG P id .str
 | .raw,id=>sG P id .raw&&match P.underlying id with | some (.slice _)=>true | _=>false
 | .sl t,id=>sG P id (.sl t)&&match P.underlying id with | some (.slice e)=>t.okB P e | _=>false
 | .st ak,id=>sG P id (.st ak)&&match P.underlying id with | some (.struct cG)=>ak.xV P cG.toList 0 | _=>false
def aC.xV(P:Program):aC→List Field→Nat→Bool
 | .nil,cG,_=>cG.isEmpty
 | .cons t ak,cG,off=>match cG with
  | f :: lZ=>Nat.beq f.offset off&&t.okB P f.type&&ak.xV P lZ (off+t.size)
  | []=>false
end
mutual
theorem ae.DR{P:Program} : ∀(t:ae) (id:TypeId),t.okB P id=true→t.ok P id
 | .int k,id,h=>by
  simp only [ae.okB,Bool.and_eq_true] at h;refine⟨?_,xU h.2⟩;have h1:=h.1;split at h1
  ·rename_i k' hk;rw [hk,t_ (Nat.eq_of_beq_eq_true h1)]
  ·cases h1
 | .bool,id,h=>by
  simp only [ae.okB,Bool.and_eq_true] at h;refine⟨?_,xU h.2⟩;have h1:=h.1;split at h1
  ·rename_i hk;exact hk
  ·cases h1
 | .str,id,h=>by
  simp only [ae.okB,Bool.and_eq_true] at h;refine⟨?_,xU h.2⟩;have h1:=h.1;split at h1
  ·rename_i hk;exact hk
  ·cases h1
 | .raw,id,h=>by
  simp only [ae.okB,Bool.and_eq_true] at h;refine⟨xU h.1,?_⟩;have h1:=h.2;split at h1
  ·rename_i e hk;exact⟨e,hk⟩
  ·cases h1
 | .sl t,id,h=>by
  simp only [ae.okB,Bool.and_eq_true] at h;refine⟨xU h.1,?_⟩;have h1:=h.2;split at h1
  ·rename_i e hk;exact⟨e,hk,ae.DR t e h1⟩
  ·cases h1
 | .st ak,id,h=>by
  simp only [ae.okB,Bool.and_eq_true] at h;refine⟨xU h.1,?_⟩;have h1:=h.2;split at h1
  ·rename_i cG hk;exact⟨cG,hk,aC.Ul ak _ _ h1⟩
  ·cases h1
theorem aC.Ul{P:Program} : ∀(ak:aC) (cG:List Field) (off:Nat),ak.xV P cG off=true→ak.okF P cG off
 | .nil,cG,off,h=>by simp only [aC.xV,List.isEmpty_iff] at h;exact h
 | .cons t ak,cG,off,h=>by
  cases cG with
  | nil=>simp [aC.xV] at h
  | cons f cG=>simp only [aC.xV,Bool.and_eq_true] at h;exact⟨f,cG,rfl,Nat.eq_of_beq_eq_true h.1.1,ae.DR t _ h.1.2,aC.Ul ak _ _ h.2⟩
end
def xW:List (Nat×ae)→Nat→Option ae
 | [],_=>none
 | (k,t) :: l,i=>cond (Nat.beq k i) (some t) (xW l i)
def tT(P:Program):List (Nat×ae)→Bool
 | []=>true
 | (k,t) :: l=>t.okB P k&&tT P l
theorem LA{P:Program}{i:Nat}{T:ae} : ∀ {l:List (Nat×ae)},tT P l=true→xW l i=some T→T.ok P i
 | (k,t) :: l,h,hl=>by
  simp only [tT,Bool.and_eq_true] at h;unfold xW at hl;cases hb:Nat.beq k i
  ·rw [hb] at hl;exact LA h.2 hl
  ·rw [hb] at hl;obtain rfl:=aZ hl;obtain rfl:=Nat.eq_of_beq_eq_true hb;exact ae.DR _ _ h.1
def uU:List Nat→Nat→Bool
 | [],_=>false
 | k :: l,i=>cond (Nat.beq k i) true (uU l i)
def tU(P:Program):List Nat→Bool
 | []=>true
 | k :: l=>(match P.underlying k with | some (.pointer _)=>true | _=>false)&&tU P l
theorem Um{P:Program}{i:Nat} : ∀ {l:List Nat},tU P l=true→uU l i=true→∃e,P.underlying i=some (.pointer e)
 | k :: l,h,hl=>by
  simp only [tU,Bool.and_eq_true] at h;unfold uU at hl;cases hb:Nat.beq k i
  ·rw [hb] at hl;exact Um h.2 hl
  ·obtain rfl:=Nat.eq_of_beq_eq_true hb;have h1:=h.1;split at h1
   ·rename_i e hk;exact⟨e,hk⟩
   ·cases h1
def DS:List (Nat×Entry)→Nat→Nat→Option Entry
 | [],_,_=>none
 | (k,e) :: l,f,key=>cond (Nat.blt f 1000000&&Nat.beq k (f+1000000*key)) (some e) (DS l f key)
def sH(P:Program):List (Nat×Entry)→Prop
 | []=>True
 | (k,e) :: l=>ia P (k % 1000000) (k / 1000000) e∧sH P l
theorem Un{P:Program}{f key:Nat}{e:Entry} : ∀ {l:List (Nat×Entry)},sH P l→DS l f key=some e→ia P f key e
 | (k,gr) :: l,h,hl=>by
  unfold DS at hl;cases hb:(Nat.blt f 1000000&&Nat.beq k (f+1000000*key))
  ·rw [hb] at hl;exact Un h.2 hl
  ·rw [hb] at hl;obtain rfl:=aZ hl;simp only [Bool.and_eq_true] at hb;have h1:=hb.1;rw [Nat.blt_eq] at h1;obtain rfl:=Nat.eq_of_beq_eq_true hb.2;have h2:=h.1;rw [show(f+1000000*key) % 1000000=f by omega,show(f+1000000*key) / 1000000=key by omega] at h2;exact h2
def Uo(n:Nat)(tab:List (Nat×ae))(mr eqs:List Nat)(fns:List (Nat×Entry)):Env:=⟨n,xW tab,uU eqs,uU mr,DS fns⟩
theorem Up{i:Nat} : ∀ {l:List Nat},uU l i=true→i∈l
 | k :: l,h=>by
  unfold uU at h;cases hb:Nat.beq k i
  ·rw [hb] at h;exact List.mem_cons_of_mem _ (Up h)
  ·rw [Nat.eq_of_beq_eq_true hb];exact List.mem_cons_self
theorem Uq{i:Nat}{T:ae} : ∀ {l:List (Nat×ae)},xW l i=some T→(i,T)∈l
 | (k,t) :: l,hl=>by
  unfold xW at hl;cases hb:Nat.beq k i
  ·rw [hb] at hl;exact List.mem_cons_of_mem _ (Uq hl)
  ·rw [hb] at hl;obtain rfl:=aZ hl;rw [Nat.eq_of_beq_eq_true hb];exact List.mem_cons_self
theorem afl{P:Program}{n:Nat}{tab:List (Nat×ae)}{mr eqs:List Nat}{fns:List (Nat×Entry)}(ht:tT P tab=true)(av:tU P mr=true)(he:tV P tab eqs=true)(hf:sH P fns)(hm:P.follows .mixedOrders=true):j6 P (Uo n tab mr eqs fns):=by refine⟨⟨fun id T h=>LA ht h,fun id h=>Um av h⟩,fun id T h b3=>?_,fun f key e h=>Un hf h,hm⟩;obtain ⟨h1,h2,h3⟩:=Ui he (Up h);obtain ⟨h4,a'⟩:=h3 T (Uq b3);exact afi (LA ht b3) h1 h2 h4 a'
@[irreducible] def aN:Nat:=18446744073709551616
end Go.LM
namespace Go.LM
open Go.ChangeShapes Go.WideShapes Go.ChangeAt Go.RowKit
open Go.ChangeMaps (open_string shut_string)
mutual
def ae.j8:(t:ae)→t.D→Prop
 | .int k,x=>(Lit.int k x).wf=true
 | .bool,_=>True
 | .str,x=>x.length≤maxLen
 | .raw,_=>True
 | .sl t,xs=>xs.length≤maxLen∧∀y,y∈xs→t.j8 y
 | .st ak,x=>ak.j8 x
def aC.j8:(ak:aC)→ak.D→Prop
 | .nil,_=>True
 | .cons t ak,x=>t.j8 x.1∧ak.j8 x.2
end
mutual
def ae.nP:ae→Bool
 | .sl t=>Nat.blt 0 t.size&&t.nP
 | .raw=>false
 | .st ak=>ak.nP
 | _=>true
def aC.nP:aC→Bool
 | .nil=>true
 | .cons t ak=>t.nP&&ak.nP
end
def qZ:(ps:List bF)→(bF.ins ps).D→Prop
 | [],_=>True
 | .fn _ _ :: l,x=>qZ l x
 | .val t _ :: l,x=>t.j8 x.1∧qZ l x.2
 | .hS t :: l,x=>t.j8 x.1∧qZ l x.2
 | .hR t _ :: l,x=>t.j8 x.1∧qZ l x.2
 | .ref t :: l,x=>t.j8 x.1∧qZ l x.2
 | .mut t _ _ :: l,x=>t.j8 x.1∧qZ l x.2
def LB:(rs:List c7)→(ak:aC)→(c7.outs rs ak).D→Prop
 | [.val .bool .R],_,r=>r.1=true
 | _,_,_=>False
section
variable{H:Type}{enc:TypeId×Value→H}{P:Program}{w W W':World}{base:Nat}{spare:Nat→Bool}{held:Bool}{fuel:Nat}
def Old(w:World):ai:=fun b _=>b<w.heap.size
theorem afm{a:Addr}{v:Value}(h:w.cell? a=some v):a.block<w.heap.size:=by
 rcases Nat.lt_or_ge a.block w.heap.size with h1 | h1
 ·exact h1
 ·simp [World.cell?,Array.getElem?_eq_none h1] at h
theorem LC{t:ae}{id:TypeId}(h:t.ok P id):P.cellsOf id=t.size:=by obtain ⟨i,h1,h2,_⟩:=h.info;unfold Program.cellsOf;rw [h1];exact h2
theorem Ur{a:Addr}{k:Nat}{cs:List Value}(h:w.cells? base a k=some cs):cs.length=k∧∀i v,cs[i]?=some v→w.cell? (a.add i)=some v:=by
 unfold World.cells? at h;split at h
 ·have hl:cs.length=k:=by
   have:=List.Us h;simpa using this
  refine⟨hl,fun i v hv=>?_⟩;have hi:i<k:=by rw [← hl];exact(List.getElem?_eq_some_iff.1 hv).1
  have:=Ut h i (by simpa using hi);rw [hv] at this;simpa using this.symm
 ·cases h
where
 List.Us {α β : Type} {f : α → Option β} : ∀ {l:List α} {r:List β},l.mapM f=some r→r.length=l.length
  | [],r,h=>by simp at h;subst h;rfl
  | x :: l,r,h=>by rw [List.mapM_cons] at h;simp only [Option.bind_eq_bind,Option.bind_eq_some_iff] at h;obtain ⟨y,h1,ys,h2,h3⟩:=h;simp only [Option.pure_def,Option.some.injEq] at h3;subst h3;simp [List.Us h2]
 Ut {α β : Type} {f : α → Option β} : ∀ {l:List α} {r:List β},l.mapM f=some r→∀i (hi:i<l.length),r[i]?=f l[i]
  | [],r,h,i,hi=>by simp at hi
  | x :: l,r,h,i,hi=>by
   rw [List.mapM_cons] at h;simp only [Option.bind_eq_bind,Option.bind_eq_some_iff] at h;obtain ⟨y,h1,ys,h2,h3⟩:=h;simp only [Option.pure_def,Option.some.injEq] at h3;subst h3
   cases i with
   | zero=>simp [h1]
   | succ i=>simpa using Ut h2 i (by simpa using hi)
mutual
theorem ae.read:∀(t:ae) (id:TypeId) (fuel:Nat) (cs:List Value) (x:DataW H×List MemPlace),t.ok P id→t.nP=true→DataW.trod enc P w base spare held fuel id cs=some x →
  ∃y:t.D,t.ar w (Old w) .R y cs ai.none∧t.j8 y
 | .int k,id,fuel,cs,x,ho,av,h=>by obtain ⟨n,rfl,_,hw⟩:=DataW.trod_int (by simp only [ae.ok] at ho;exact ho.1) h;exact⟨n,by simp only [ae.ar],hw⟩
 | .bool,id,fuel,cs,x,ho,av,h=>by obtain ⟨n,rfl,_⟩:=DataW.trod_bool (by simp only [ae.ok] at ho;exact ho.1) h;exact⟨n,by simp only [ae.ar],trivial⟩
 | .str,id,fuel,cs,x,ho,av,h=>by obtain ⟨s,rfl,_,hs⟩:=DataW.trod_string (by simp only [ae.ok] at ho;exact ho.1) h;exact⟨s.data.toList,by simp only [ae.ar];exact⟨s,rfl,rfl⟩,by simp only [ae.j8,Array.length_toList];exact hs⟩
 | .raw,id,fuel,cs,x,ho,av,h=>by simp [ae.nP] at av
 | .sl t,id,fuel,cs,x,ho,av,h=>by
  simp only [ae.ok] at ho;obtain ⟨_,e,hu,Uu⟩:=ho;simp only [ae.nP,Bool.and_eq_true] at av;have gg:0<t.size:=Nat.le_of_ble_eq_true av.1;rcases DataW.trod_slice hu h with⟨rfl,_⟩ | ⟨a,len,cap,elems,rest,m,_,rfl,_,_,hl,hm,hlen,Uv,_,_⟩
  ·exact⟨[],by simp only [ae.ar];exact⟨none,0,rfl,.inl trivial⟩,by simp [ae.j8,maxLen]⟩
  ·have hsz:P.cellsOf e=t.size:=LC Uu;rw [hsz] at Uv
   have Uw:∀i,i<len→∃cs' d,w.cells? base (a.add (i*t.size)) t.size=some cs'∧DataW.trod enc P w base spare held m e cs'=some d:=by
    intro i hi;have h1:=Uv i hi;have h2:∃d,elems[i]?=some d:=⟨_,List.getElem?_eq_getElem (by omega)⟩
    obtain ⟨d,h2⟩:=h2;rw [h2] at h1;obtain ⟨cs',h3,h4⟩:=bq h1;exact⟨cs',d,h3,h4⟩
   have afn:=fun(cs':List Value) (d:DataW H×List MemPlace)=>ae.read t e m cs' d Uu av.2
   have LD:0<len→a.spot=none∧a.block<w.heap.size:=by intro hn;obtain ⟨cs',d,h1,h2⟩:=Uw 0 hn;obtain ⟨c1,gR⟩:=Ur h1;have jl:=gR 0 cs'[0] (List.getElem?_eq_getElem (by omega));simp only [Nat.zero_mul,Addr.add,if_true] at jl;exact⟨World.cell?_spot jl,afm jl⟩
   have hrow:∀(n k:Nat),k+n≤len→∃xs:List t.D,xs.length=n∧Row w (fun y us _=>t.ar w (Old w) .R y us ai.none) t.size xs a.block (a.off+k*t.size) ai.none∧(∀y,y∈xs→t.j8 y):=by
    intro n
    induction n with
    | zero=>intro k _;exact⟨[],rfl,trivial,by simp⟩
    | succ n ih=>
     intro k hk;obtain ⟨cs',d,h1,h2⟩:=Uw k (by omega);obtain ⟨y,h3,h4⟩:=afn cs' d h2;obtain ⟨xs,g1,g3,g4⟩:=ih (k+1) (by omega);obtain ⟨c1,gR⟩:=Ur h1;obtain ⟨hsp,art⟩:=LD (by omega);obtain ⟨ab,ao,asp⟩:=a;simp only at hsp;subst hsp;refine⟨y :: xs,by simp [g1],⟨cs',ai.none,ai.none,h3,c1,?_,?_,fun _ _ h=>h.elim,fun _ _ h=>h,fun _ _ h=>h⟩,?_⟩
     ·intro i v hv;have:=gR i v hv;rw [show(⟨ab,ao,none⟩:Addr)=at_ ab ao from rfl,qC,qC] at this;exact this
     ·have e1:ao+k*t.size+t.size=ao +(k+1)*t.size:=by rw [Nat.add_mul];omega
      simp only;rw [e1];exact g3
     ·intro z hz;rcases List.mem_cons.1 hz with rfl | hz
      ·exact h4
      ·exact g4 z hz
   obtain ⟨xs,g1,g3,g4⟩:=hrow len 0 (by omega);refine⟨xs,?_,?_⟩
   ·simp only [ae.ar];refine⟨some a,cap,by rw [g1],?_⟩;by_cases hx:xs=[]
    ·exact .inl hx
    ·have hn:0<len:=by
      rw [← g1]
      cases xs with
      | nil=>exact absurd rfl hx
      | cons=>simp
     exact .inr ⟨a,rfl,(LD hn).1,by simpa using g3,fun j hj=>(LD hn).2,by rw [g1];exact hl⟩
   ·simp only [ae.j8];exact⟨by rw [g1];omega,g4⟩
 | .st ak,id,fuel,cs,x,ho,av,h=>by
  have hsz:=LC ho;simp only [ae.ok] at ho;obtain ⟨_,cG,hu,Lx⟩:=ho;obtain ⟨xs,n,_,_,hl,hxl,hf⟩:=DataW.trod_struct hu h;have hlen:cs.length=(ae.st ak).size:=by rw [hl,hsz]
  have:=aC.read ak cG.toList 0 n cs Lx (by simpa only [ae.nP] using av) (by simpa only [ae.size,Nat.zero_add] using hlen) (fun i f kN=>by
   have hi:i<xs.length:=by rw [hxl];have:=(List.getElem?_eq_some_iff.1 kN).1;simpa using this
   exact⟨xs[i],by rw [hf i f (by rw [← Array.getElem?_toList];exact kN),List.getElem?_eq_getElem hi]⟩)
  obtain ⟨y,h1,h2⟩:=this;rw [List.drop_zero] at h1;exact⟨y,by simp only [ae.ar];exact h1,by simp only [ae.j8];exact h2⟩
theorem aC.read:∀(ak:aC) (cG:List Field) (off:Nat) (fuel:Nat) (cs:List Value),ak.okF P cG off→ak.nP=true→cs.length=off+ak.size →
  (∀(i:Nat) (f:Field),cG[i]?=some f→∃x,DataW.trod enc P w base spare held fuel f.type ((cs.drop f.offset).take (P.cellsOf f.type))=some x)→∃y:ak.D,ak.ar w (Old w) .nil y (cs.drop off) ai.none∧ak.j8 y
 | .nil,cG,off,fuel,cs,ho,av,hl,hf=>by simp only [aC.size,Nat.add_zero] at hl;exact⟨(),by simp only [aC.ar];rw [List.drop_of_length_le (by omega)],by simp only [aC.j8]⟩
 | .cons t ak,cG,off,fuel,cs,ho,av,hl,hf=>by
  simp only [aC.okF] at ho;obtain ⟨f,lZ,rfl,h1,h2,h3⟩:=ho;simp only [aC.nP,Bool.and_eq_true] at av;simp only [aC.size] at hl;obtain ⟨x,hx⟩:=hf 0 f rfl;rw [h1,LC h2] at hx;obtain ⟨y,g1,g2⟩:=ae.read t f.type fuel _ x h2 av.1 hx;obtain ⟨ys,g3,g4⟩:=aC.read ak lZ (off+t.size) fuel cs h3 av.2 (by omega) fun i nr kN=>hf (i+1) nr (by simpa using kN)
  refine⟨(y,ys),?_,⟨g2,g4⟩⟩;simp only [aC.ar];refine⟨_,_,ai.none,ai.none,?_,g1,g3,fun _ _ h=>h.elim,fun _ _ h=>h,fun _ _ h=>h⟩;rw [← List.drop_drop,List.take_append_drop]
end
theorem afo{t:ae}{id:TypeId}{r:Reach}{v:Value}(ho:t.ok P id)(hv:Value.okWide P w r base id v):v=dQ t v.cells.toList:=by
 cases t with
 | int k=>obtain ⟨n,rfl⟩:=okWide_int (by simp only [ae.ok] at ho;exact ho.1) hv;rfl
 | bool=>obtain ⟨n,rfl⟩:=okWide_bool (by simp only [ae.ok] at ho;exact ho.1) hv;rfl
 | str=>obtain ⟨n,rfl⟩:=okWide_string (by simp only [ae.ok] at ho;exact ho.1) hv;rfl
 | sl t=>simp only [ae.ok] at ho;obtain ⟨_,e,hu,_⟩:=ho;obtain ⟨a,l,c,rfl⟩:=okWide_slice hu hv;rfl
 | raw=>simp only [ae.ok] at ho;obtain ⟨_,e,hu⟩:=ho;obtain ⟨a,l,c,rfl⟩:=okWide_slice hu hv;rfl
 | st ak=>simp only [ae.ok] at ho;obtain ⟨_,cG,hu,_⟩:=ho;simp only [Value.okWide,hu] at hv;obtain ⟨cs,rfl,_⟩:=hv;simp [dQ,Value.cells]
def Ac:List (Nat×ae)→List bF
 | []=>[]
 | a :: l=>.val a.2 .R :: Ac l
def uV(P:Program):List (Nat×ae)→Bool
 | []=>true
 | a :: l=>a.2.okB P a.1&&a.2.nP&&P.readableRec a.1&&Nat.blt a.1 P.types.size&&uV P l
theorem Ux{r:Reach}{cX:Nat} : ∀(as:List (Nat×ae)) (vs:List Value) (ds:List (DataW H)) (p:List MemPlace),uV P as=true →
  DataW.TrodAll enc P w 0 (fun _=>true) true (as.map (·.1)) vs ds p→(∀(j:Nat) t v,(as.map (·.1))[j]?=some t→vs[j]?=some v→Value.okWide P w r cX t v) →
  ∃x:(bF.ins (Ac as)).D,gH w (Old w) 0 (Ac as) x vs ai.none∧qZ (Ac as) x∧gp vs=[]
 | [],vs,ds,p,ho,h,hv=>by obtain ⟨rfl,_,_⟩:=trodAll_nil h;exact⟨(),rfl,trivial,rfl⟩
 | a :: as,vs,ds,p,ho,h,hv=>by
  simp only [uV,Bool.and_eq_true] at ho;obtain ⟨v,bK,d,LF,p',LG,rfl,rfl,rfl,h1,h2⟩:=trodAll_cons (by simpa using h);obtain ⟨x,g1,g2,g3⟩:=Ux as bK LF LG ho.2 h2 fun j t u hj hu=>hv (j+1) t u (by simpa using hj) (by simpa using hu)
  have cK:=ae.DR _ _ ho.1.1.1.1;obtain ⟨fuel,hf⟩:=h1;obtain ⟨y,k1,k2⟩:=ae.read a.2 a.1 fuel _ _ cK ho.1.1.1.2 hf;have hw:=afo cK (hv 0 a.1 v rfl rfl);refine⟨(y,x),⟨v.cells.toList,bK,ai.none,ai.none,by rw [← hw],k1,g1,fun _ _ h=>h.elim,fun _ _ h=>h,fun _ _ h=>h⟩,⟨k2,g2⟩,?_⟩;rw [hw,DM k1];exact g3
theorem afp{w w':World}(h:Ext w w' ai.none):Below w.heap.size w w':=by
 refine⟨h.os,h.tape,h.output,h.size,fun b hb=>?_⟩;rcases h.block b hb with h1 | ⟨c,c',e,f,h1,h2,h3,h4⟩
 ·exact h1
 ·rw [h1,h2];have:c'=c:=by apply Array.ext h3;intro i hi dm;have:=h4 i (fun h=>h.elim);rw [Array.getElem?_eq_getElem hi,Array.getElem?_eq_getElem dm] at this;exact aZ this
  rw [this]
theorem Uy(hl:laidOutB P=true):∀(as:List (Nat×ae)) (vs:List Value) (ds:List (DataW H)) (p:List MemPlace),uV P as=true →
  DataW.TrodAll enc P W 0 (fun _=>true) true (as.map (·.1)) vs ds p→Below W.heap.size W W'→DataW.TrodAll enc P W' 0 (fun b=>decide (b<W.heap.size)) true (as.map (·.1)) vs ds p
 | [],vs,ds,p,ho,h,hb=>by obtain ⟨rfl,rfl,rfl⟩:=trodAll_nil h;exact trodAll_mk0
 | a :: as,vs,ds,p,ho,h,hb=>by
  simp only [uV,Bool.and_eq_true] at ho;obtain ⟨v,bK,d,LF,p',LG,rfl,rfl,rfl,h1,h2⟩:=trodAll_cons (by simpa using h);have b2:∀x∈p',x.block<W.heap.size:=by obtain ⟨m,hm⟩:=h1;exact DataW.trod_lt m _ _ _ hm
  exact trodAll_cons_mk (Below.trod hl ho.1.1.2 (Nat.le_of_ble_eq_true ho.1.2) h1 hb b2) (Uy hl as bK LF LG ho.2 h2 hb)
theorem afq{f:Nat}{fn:Func}{e:Entry}{prs:List (Nat×ae)}{r:Reach}{cX:Nat}{args:Array Value}{ds:List (DataW H)}{p:List MemPlace}(dZ:Sound P f 0 e)(DN:e.ps=Ac prs)
  (LH:fn.params.toList=prs.map (·.1)) (cK:uV P prs=true) (afr:laidOutB P=true) (hc:∀x:(bF.ins e.ps).D,qZ e.ps x→∃y,e.f x=some y∧LB e.rs (bF.eg e.ps) y)
  (uD:∀(j:Nat) t v,fn.params[j]?=some t→args[j]?=some v→Value.okWide P W r cX t v)
  (hA:DataW.TrodAll enc P W 0 (fun _=>true) true fn.params.toList args.toList ds p) :
  Calls P f args W fun end_ W'=>end_=.returned (.bool true)∧Below W.heap.size W W'∧DataW.TrodAll enc P W' 0 (fun b=>decide (b<W.heap.size)) true fn.params.toList args.toList ds p:=by
 obtain ⟨ps,rs,c⟩:=e;simp only at DN;subst DN;rw [LH] at hA;obtain ⟨x,h1,h2,h3⟩:=Ux prs args.toList ds p cK hA fun j t v hj hv=>uD j t v (by rw [← Array.getElem?_toList,LH];exact hj) (by rw [← Array.getElem?_toList];exact hv)
 obtain ⟨y,aT,ht⟩:=hc x h2;have xF:=dZ.calls W (Old W) ai.none x args.toList y (fun _ _ h=>h) (fun _ _ h=>h.elim) (fun _ _ h=>h.elim) (by rw [h3,List.append_nil];exact h1) aT;have l3:args.toList.toArray=args:=by simp
 rw [l3] at xF;refine Calls.mono xF ?_
 rintro end_ w' ⟨v,rfl,DO⟩
 obtain ⟨dA,Z',F',rfl,hx,_,_,_,_,hW⟩:=DO.out;have hb:=afp hx;refine⟨?_,hb,by rw [LH];exact Uy afr prs _ _ _ cK hA hb⟩
 have hfin:∀(rs:List c7) (ak:aC) (ps:List bF) (us:List Value) (afs:ak=bF.eg ps) (y:(c7.outs rs (bF.eg ps)).D),LB rs (bF.eg ps) y→∀F',il w' Z' ps us rs y dA F'→oG dA=.bool true:=by
  intro rs ak ps us afs y ht F' hW
  match rs,y,ht,hW with
  | [.val .bool .R],y,ht,hW=>obtain ⟨vs,ej,G,gb,rfl,k1,k2,_⟩:=hW;obtain ⟨rfl,_⟩:=k2;simp only [ae.ar] at k1;subst k1;have ht:y.1=true:=ht;rw [ht];rfl
 exact congrArg _ (hfin rs _ _ _ rfl y ht _ hW)
end
end Go.LM
namespace Go.LM
theorem tY{x:Int}(h : -9223372036854775808≤x)(h':x≤9223372036854775807):aH x=x:=by
 show(if(true&&decide (x % 18446744073709551616≥9223372036854775808))=true then x % 18446744073709551616-18446744073709551616 else x % 18446744073709551616)=x;by_cases hc:x % 18446744073709551616≥9223372036854775808
 ·rw [if_pos (by simp [hc])];omega
 ·rw [if_neg (by simp [hc])];omega
theorem bu{n i:Nat}(h:i<n):aM n (i:Int)=some i:=by unfold aM;rw [if_pos ⟨by omega,by omega⟩];simp
theorem tZ{t:ae}{xs:List t.D}{i:Nat}(h:i<xs.length):I t xs i=xs[i]:=by unfold I;rw [List.getD_eq_getElem?_getD,List.getElem?_eq_getElem h];rfl
theorem aft{t:ae}{xs:List t.D}{i:Nat}{y:t.D}(h:i<xs.length):I t (xs.set i y) i=y:=by rw [tZ (by simpa using h)];simp
theorem afu{n:Nat}(h:n≤68719476736):room n=true:=Nat.ble_eq_true_of_le h
theorem jD{n lo hi:Nat}(h:lo≤hi)(h':hi≤n):eh n (lo:Int) (hi:Int)=some (lo,hi):=by unfold eh;rw [if_pos ⟨by omega,by omega,by omega⟩];simp
theorem DT{α : Type}(a:Option α):both a a=a:=by unfold both;rw [if_pos rfl]
theorem oR{α : Type}(a:Option α):dup a=a:=DT a
theorem Ad(s:List UInt8):bD s s=true:=by simp [bD]
end Go.LM
namespace Go.LM
structure la(P:Program) where
 tab:List (Nat×ae)
 mr:List Nat
 eqs:List Nat
 ht:tT P tab=true
 av:tU P mr=true
 he:tV P tab eqs=true
 hm:P.follows .mixedOrders=true
noncomputable def q0(fn:Func):Code:=match fn.body with
 | some c=>c
 | none=>.skip
noncomputable def xX(fn:Func)(ps:List bF):Bool:=
 fn.body.isSome && !(fn.name == "runtime.NumGoroutine")&&DL ps&&Nat.ble ps.length fn.ntmps&&Lq (q0 fn)
def sI:List (Nat×bQ)→Nat→Option bQ
 | [],_=>none
 | (k,t) :: l,r=>cond (Nat.beq r k) (some t) (sI l r)
section
variable{P:Program}
def la.env(B:la P)(fn:Func)(fns:List (Nat×Entry)):Env:=Uo fn.ntmps B.tab B.mr B.eqs fns
noncomputable def la.start(B:la P)(fn:Func)(fns:List (Nat×Entry))(T:List (Nat×bQ))(e:Entry)(k:Nat→aq→Option (c7.outs e.rs (bF.eg e.ps)).D)(x:(bF.ins e.ps).D):Option (c7.outs e.rs (bF.eg e.ps)).D:=
 z_ (B.env fn fns) fn (q0 fn) (sI T) 0 e k x
noncomputable def la.DU(B:la P)(key:Nat)(fn:Func)(fns:List (Nat×Entry))(T:List (Nat×bQ))(e:Entry)(k:Nat→aq→Option (c7.outs e.rs (bF.eg e.ps)).D)(x:(bF.ins e.ps).D):Option (c7.outs e.rs (bF.eg e.ps)).D:=
 z_ (B.env fn fns) fn (q0 fn) (sI T) key e k x
noncomputable def la.step(B:la P)(fn:Func)(fns:List (Nat×Entry))(T:List (Nat×bQ))(e:Entry)(k:Nat→aq→Option (c7.outs e.rs (bF.eg e.ps)).D):Nat→aq→Option (c7.outs e.rs (bF.eg e.ps)).D:=
 Lu (B.env fn fns) (sI T) (q0 fn) (uS (B.env fn fns) fn e) k
def dJ{K:Type}(s:K→K)(z:K):Nat→K
 | 0=>z
 | m+1=>s (dJ s z m)
theorem Uz(B:la P)(key:Nat){f:Nat}{fn:Func}{e:Entry}{fns:List (Nat×Entry)}(hs:sH P fns)(hf:P.funcs[f]?=some fn)(hc:xX fn e.ps=true)(T:List (Nat×bQ))
  (hF:∀x r,e.f x=some r→∃m,z_ (B.env fn fns) fn (q0 fn) (sI T) key e (sD (B.env fn fns) (sI T) (q0 fn) (uS (B.env fn fns) fn e) m) x=some r):Sound P f key e:=by
 unfold xX at hc;simp only [Bool.and_eq_true,Bool.not_eq_true'] at hc;obtain ⟨⟨⟨⟨h1,h2⟩,h3⟩,h4⟩,a'⟩:=hc;refine afc (afl (n:=fn.ntmps) (fns:=fns) B.ht B.av B.he hs B.hm) hf ?_ h2 (Nat.beq_refl _) h3 h4 a' hF;unfold q0
 cases hb:fn.body with
 | none=>rw [hb] at h1;cases h1
 | some c=>rfl
theorem afv(B:la P)(key:Nat){f:Nat}{fn:Func}{e:Entry}{fns:List (Nat×Entry)}(hs:sH P fns)(hf:P.funcs[f]?=some fn)(hc:xX fn e.ps=true)
  (h:∀x,B.DU key fn fns [] e (fun _ _=>none) x=e.f x):Sound P f key e:=
 Uz B key hs hf hc [] fun x r hx=>⟨0,by
  rw [show sD (B.env fn fns) (sI []) (q0 fn) (uS (B.env fn fns) fn e) 0=fun _ _=>none from rfl]
  exact(h x).trans hx⟩
theorem afw(B:la P)(key:Nat){f:Nat}{fn:Func}{e:Entry}{fns:List (Nat×Entry)}(hs:sH P fns)(hf:P.funcs[f]?=some fn)(hc:xX fn e.ps=true)(T:List (Nat×bQ)){K:Type}
  (of:(Nat→aq→Option (c7.outs e.rs (bF.eg e.ps)).D)→K) (step:K→K) (L:Nat→K) (g:K→(bF.ins e.ps).D→Option (c7.outs e.rs (bF.eg e.ps)).D)
  (h0:L 0=of fun _ _=>none) (xY:∀m,L (m+1)=step (L m)) (he:∀x,e.f x=g (L aN) x)
  (aI:∀k x,B.DU key fn fns T e k x=g (of k) x)
  (hst:∀k,of (B.step fn fns T e k)=step (of k)):Sound P f key e:=
 Uz B key hs hf hc T fun x r hx=>⟨aN,by
  have hl:∀m,of (sD (B.env fn fns) (sI T) (q0 fn) (uS (B.env fn fns) fn e) m)=L m:=by
   intro m
   induction m with
   | zero=>exact h0.symm
   | succ m ih=>rw [xY,← ih];exact hst _
  rw [he,← hl aN] at hx
  exact(aI _ x).trans hx⟩
end
@[reducible] def tW(t:ae):bF:=.val t t.own
@[reducible] def aQ(t:ae):bF:=.val t .R
@[reducible] def Ae(t:ae):bF:=.hS t
@[reducible] def fJ(t:ae):bF:=.ref t
@[reducible] def LI(t:ae):bF:=.mut t t.own t.own
@[reducible] def ro(t:ae):c7:=.val t t.own
@[reducible] def bb(t:ae):c7:=.val t .R
def UA:List (Nat×a_)→Nat→a_
 | []=>fun _=>.ay
 | (d,v) :: l=>bZ (UA l) d v
def UB:List (Nat×cE)→Nat→cE
 | []=>fun _=>.none
 | (d,v) :: l=>bZ (UB l) d v
def bf(t:List (Nat×a_))(o:List (Nat×cE))(g:List a_):aq:=⟨UA t,UB o,g⟩
def aU(x:Int):a_:=.aW (.int .i64 x)
def jq(x:Bool):a_:=.aW (.bool x)
def eM(x:List UInt8):a_:=.aW (.str x)
def fp(t:ae)(x:List t.D):a_:=.aW (.bY t [] none x)
def ax(c:Nat):a_:=.ptr ⟨c,none,0⟩
def nQ(dp:List Nat):List (Nat×Nat):=dp.map fun c=>(c,0)
mutual
def ae.uW:(t:ae)→bl→List Nat→t.D→Nat→List bd×List (Nat×cE)×Nat
 | .int k,_,_,x,j=>([.int k x],[],j)
 | .bool,_,_,x,j=>([.bool x],[],j)
 | .str,_,_,x,j=>([.str x],[],j)
 | .raw,_,_,x,j=>([.raw x],[],j)
 | .sl t,.O e,_,x,j=>([.ah j none],[(j,.row t e 0 x)],j+1)
 | .sl t,_,dp,x,j=>([.bY t (nQ dp) none x],[],j)
 | .st ak,m,dp,x,j=>ak.uW m.parts dp x j
def aC.uW:(ak:aC)→c4→List Nat→ak.D→Nat→List bd×List (Nat×cE)×Nat
 | .nil,_,_,_,j=>([],[],j)
 | .cons t ak,m,dp,x,j=>let r:=t.uW m.ah dp x.1 j;let q:=ak.uW m.dF dp x.2 r.2.2;(r.1++q.1,r.2.1++q.2.1,q.2.2)
end
mutual
def ae.uX:(t:ae)→bl→List Nat→Nat→List lx×List (Nat×iO)×Nat
 | .sl t,.O e,_,j=>([.ah j],[(j,.row t e)],j+1)
 | .sl t,_,dp,j=>([.bY t dp],[],j)
 | .st ak,m,dp,j=>ak.uX m.parts dp j
 | _,_,_,j=>([.keep],[],j)
def aC.uX:(ak:aC)→c4→List Nat→Nat→List lx×List (Nat×iO)×Nat
 | .nil,_,_,j=>([],[],j)
 | .cons t ak,m,dp,j=>let r:=t.uX m.ah dp j;let q:=ak.uX m.dF dp r.2.2;(r.1++q.1,r.2.1++q.2.1,q.2.2)
end
def aA(c:Nat)(t:ae)(m:bl)(dp:List Nat)(x:t.D):List (Nat×cE):=let r:=t.uW m dp x (c+1);(c,.var 0 r.1) :: r.2.1
def az(c:Nat)(t:ae)(m:bl)(dp:List Nat):List (Nat×iO):=let r:=t.uX m dp (c+1);(c,.var r.1) :: r.2.1
def aW(t:ae)(m:bl)(dp:List Nat)(x:t.D)(j:Nat):List bd:=(t.uW m dp x j).1
def pZ(t:ae)(m:bl)(dp:List Nat)(j:Nat):List lx:=(t.uX m dp j).1
def LJ(t:ae)(m:bl)(x:t.D)(j:Nat):List (Nat×cE):=(t.uW m [] x j).2.1
def LK(t:ae)(m:bl)(j:Nat):List (Nat×iO):=(t.uX m [] j).2.1
@[reducible] def aJ:kM:=.cell .keep
end Go.LM
namespace Go.LM
theorem UC{P:Program}{f key:Nat}{e:Entry}(hf:∀x,e.f x=none):ia P f key e:=
 ⟨fun w Z F x us r _ _ _ _ hx=>by rw [hf x] at hx;cases hx⟩
theorem afx{w:World}{Z F:ai}{e:Entry}{us:List Value}{k:IntKind}{x:Int}(oN:e.rs=[.val (.int k) .R])(hm:bF.eg e.ps=.nil)(hZ:∀b o,Z b o→b<w.heap.size)(hF:∀b o,F b o→b<w.heap.size)(hap:ai.apart F Z)
  (r:(c7.outs e.rs (bF.eg e.ps)).D) (hr:∀G,il w Z e.ps (us++gp us) e.rs r [.int k x] G):Ends w Z F e us r (.int k x) w:=
 ⟨[.int k x],Z,ai.none,rfl,Ext.refl _ _,fun _ _ h=>h,fun _ _ h=>.inl h,fun _ _ h=>h.elim,fun _ _ h=>h.elim,hr _⟩
def DV(g:List UInt8→UInt8→Int):Entry:=⟨[aQ .str,aQ (.int .u8)],[bb (.int .i64)],fun x=>some (g x.1 x.2.1.toNat.toUInt8,())⟩
theorem UD{P:Program}{f:FuncId}{fn:Func}{x:Array Value→Sem Value}(g:List UInt8→UInt8→Int)(hf:P.funcs[f]?=some fn)(jo:(fn.name == "runtime.NumGoroutine")=false)
  (hb:fn.body.isNone=true) (hn:Extern.findNext fn=none) (he:Extern.find fn=some x)
  (hx:∀(s:ByteArray) (c:Int) (w:World),(x #[.string s,.int .u8 c]).run P w=.ok (.int .i64 (g s.data.toList c.toNat.toUInt8)) w):ia P f 0 (DV g):=by
 refine⟨fun w Z F y us r hZ hF hap hA aT=>?_⟩;obtain rfl:=aZ aT;obtain ⟨vs1,us1,G1,H1,e1,k1,h1,_⟩:=hA;obtain ⟨vs2,us2,G2,H2,e2,k2,h2,_⟩:=h1;simp only [ae.ar] at k1 k2;obtain ⟨s,rfl,hs⟩:=k1;subst k2;have h2:us2=[]:=h2;subst h2;subst e2
 have hus:us=[.string s,.int .u8 y.2.1]:=by
  cases us with
  | nil=>cases e1
  | cons u us=>
   cases us with
   | nil=>
    simp only [List.cons_append,List.nil_append] at e1;injection e1 with e3 ft
    subst e3;cases ft
   | cons jk us=>
    simp only [List.cons_append] at e1;injection e1 with e3 ft
    injection ft with ft pK
    subst e3 ft;have:us=[]:=(List.append_eq_nil_iff.1 pK).1;subst this;rfl
 subst hus;refine .inr ⟨.int .i64 (g s.data.toList y.2.1.toNat.toUInt8),w,?_,.int .i64 (g s.data.toList y.2.1.toNat.toUInt8),rfl,?_⟩
 ·rw [run_callFunc_extern hf jo hb hn he];have:=hx s y.2.1 w;rw [show(([Value.string s,Value.int IntKind.u8 y.2.1]:List Value).toArray) = #[.string s,.int .u8 y.2.1] from rfl,this];rfl
 ·rw [hs];refine afx (e:=DV g) rfl rfl hZ hF hap _ fun G=>?_
  refine⟨[_],[],ai.none,ai.none,rfl,?_,?_,fun _ _ h=>h.elim,fun _ _ h=>h.elim,fun _ _ h=>h.elim⟩
  ·simp only [ae.ar]
  ·exact⟨rfl,_,_,rfl,_,_,rfl,trivial⟩
theorem afy{P:Program}{f:FuncId}{fn:Func}(hf:P.funcs[f]?=some fn)(jo:(fn.name == "runtime.NumGoroutine")=false)
  (hb:fn.body.isNone=true) (hn:Extern.findNext fn=none) (he:Extern.find fn=some Extern.BytealgIndexByte.indexByte):ia P f 0 (DV Lib.indexByte):=
 UD _ hf jo hb hn he fun s c w=>Lib.run_indexByteString s c w
theorem afz{P:Program}{f:FuncId}{fn:Func}(hf:P.funcs[f]?=some fn)(jo:(fn.name == "runtime.NumGoroutine")=false)
  (hb:fn.body.isNone=true) (hn:Extern.findNext fn=none) (he:Extern.find fn=some Extern.BytealgCount.count):ia P f 0 (DV fun l c=>(Lib.countByte l c:Int)):=
 UD _ hf jo hb hn he fun s c w=>Lib.run_countString s c w
section
variable{P:Program}
theorem ct(B:la P)(key:Nat){f:Nat}{fn:Func}{e:Entry}{fns:List (Nat×Entry)}(hs:sH P fns)
  (h:(P.funcs[f]?,xX fn e.ps,B.DU key fn fns [] e fun _ _=>none)=(some fn,true,e.f)):Sound P f key e:=
 afv B key hs (congrArg (·.1) h) (congrArg (·.2.1) h) fun x=>congrFun (congrArg (·.2.2) h) x
theorem b4(B:la P)(key:Nat){f:Nat}{fn:Func}{e:Entry}{fns:List (Nat×Entry)}(hs:sH P fns)(T:List (Nat×bQ)){K:Type}
  (of:(Nat→aq→Option (c7.outs e.rs (bF.eg e.ps)).D)→K) (step:K→K) (L:Nat→K) (g:K→(bF.ins e.ps).D→Option (c7.outs e.rs (bF.eg e.ps)).D)
  (h:(P.funcs[f]?,xX fn e.ps,L 0,(fun m=>L (m+1)),(fun k=>B.DU key fn fns T e k),fun k=>of (B.step fn fns T e k))=(some fn,true,of (fun _ _=>none),(fun m=>step (L m)),(fun k=>g (of k)),fun k=>step (of k)))
  (he:e.f=g (L aN)):Sound P f key e:=
 afw B key hs (congrArg (·.1) h) (congrArg (·.2.1) h) T of step L g (congrArg (·.2.2.1) h) (fun m=>congrFun (congrArg (·.2.2.2.1) h) m) (fun x=>congrFun he x)
  (fun k x=>congrFun (congrFun (congrArg (·.2.2.2.2.1) h) k) x) (fun k=>congrFun (congrArg (·.2.2.2.2.2) h) k)
end
end Go.LM
namespace Go.LM
mutual
def ae.rw:ae→ae
 | .sl _=>.raw
 | .st ak=>.st ak.rw
 | .int k=>.int k
 | .bool=>.bool
 | .str=>.str
 | .raw=>.raw
def aC.rw:aC→aC
 | .nil=>.nil
 | .cons t ak=>.cons t.rw ak.rw
end
mutual
def ae.rel:(T T':ae)→T.D→T'.D→Prop
 | .int _,.int _,x,y=>x=y
 | .bool,.bool,x,y=>x=y
 | .str,.str,x,y=>x=y
 | .sl _,.raw,_,_=>True
 | .raw,.raw,x,y=>x=y
 | .st ak,.st LL,x,y=>ak.rel LL x y
 | _,_,_,_=>False
def aC.rel:(T T':aC)→T.D→T'.D→Prop
 | .nil,.nil,_,_=>True
 | .cons t ak,.cons cq LL,x,y=>t.rel cq x.1 y.1∧ak.rel LL x.2 y.2
 | _,_,_,_=>False
end
mutual
theorem ae.oS:∀t:ae,t.rw.size=t.size
 | .int _=>rfl
 | .bool=>rfl
 | .str=>rfl
 | .sl _=>rfl
 | .raw=>rfl
 | .st ak=>by simp only [ae.rw,ae.size];exact aC.oS ak
theorem aC.oS:∀t:aC,t.rw.size=t.size
 | .nil=>rfl
 | .cons t ak=>by simp only [aC.rw,aC.size,ae.oS t,aC.oS ak]
end
mutual
theorem ae.Af{w:World}{Z:ai} : ∀(T:ae) (m:bl) {x:T.D} {vs:List Value} {F:ai},T.ar w Z m x vs F→∃y:T.rw.D,(∀(w':World) (Z':ai) (m':bl) (F':ai),T.rw.ar w' Z' m' y vs F')∧T.rel T.rw x y
 | .int _,_,x,_,_,h=>by simp only [ae.ar] at h;subst h;exact⟨x,fun _ _ _ _=>by simp only [ae.rw,ae.ar],by simp only [ae.rw,ae.rel]⟩
 | .bool,_,x,_,_,h=>by simp only [ae.ar] at h;subst h;exact⟨x,fun _ _ _ _=>by simp only [ae.rw,ae.ar],by simp only [ae.rw,ae.rel]⟩
 | .str,_,x,_,_,h=>by simp only [ae.ar] at h;exact⟨x,fun _ _ _ _=>by simp only [ae.rw,ae.ar];exact h,by simp only [ae.rw,ae.rel]⟩
 | .raw,_,x,_,_,h=>by simp only [ae.ar] at h;exact⟨x,fun _ _ _ _=>by simp only [ae.rw,ae.ar];exact h,by simp only [ae.rw,ae.rel]⟩
 | .sl t,m,x,vs,F,h=>by
  have:∃A n c,vs=[.slice A n c]:=by cases m <;>(simp only [ae.ar] at h;obtain ⟨A,c,hv,_⟩:=h;exact⟨A,_,c,hv⟩)
  obtain ⟨A,n,c,rfl⟩:=this;exact⟨(.slice A n c:Value),fun _ _ _ _=>by simp only [ae.rw,ae.ar];exact⟨trivial,A,n,c,rfl⟩,by simp only [ae.rw,ae.rel]⟩
 | .st ak,m,x,vs,F,h=>by simp only [ae.ar] at h;obtain ⟨y,h1,h2⟩:=aC.Af ak m.parts h;exact⟨y,fun w' Z' m' F'=>by simp only [ae.rw,ae.ar];exact h1 w' Z' m'.parts F',by simp only [ae.rw,ae.rel];exact h2⟩
theorem aC.Af{w:World}{Z:ai} : ∀(T:aC) (m:c4) {x:T.D} {vs:List Value} {F:ai},T.ar w Z m x vs F→∃y:T.rw.D,(∀(w':World) (Z':ai) (m':c4) (F':ai),T.rw.ar w' Z' m' y vs F')∧T.rel T.rw x y
 | .nil,_,_,_,_,h=>by simp only [aC.ar] at h;exact⟨(),fun _ _ _ _=>by simp only [aC.rw,aC.ar];exact h,by simp only [aC.rw,aC.rel]⟩
 | .cons t ak,m,x,vs,F,h=>by simp only [aC.ar] at h;obtain ⟨us,bK,G,H,rfl,h1,h2,_⟩:=h;obtain ⟨y,k1,k2⟩:=ae.Af t m.ah h1;obtain ⟨z,eb,eS⟩:=aC.Af ak m.dF h2;exact⟨(y,z),fun w' Z' m' F'=>by simp only [aC.rw,aC.ar];exact⟨us,bK,ai.none,ai.none,rfl,k1 w' Z' m'.ah _,eb w' Z' m'.dF _,fun _ _ h=>h.elim,fun _ _ h=>h.elim,fun _ _ h=>h.elim⟩,by simp only [aC.rw,aC.rel];exact⟨k2,eS⟩⟩
end
mutual
theorem ae.Ag{w w':World}{Z Z':ai} : ∀(T:ae) {m m':bl} {y:T.rw.D} {vs:List Value} {F F':ai},T.rw.ar w Z m y vs F→T.rw.ar w' Z' m' y vs F'
 | .int _,_,_,_,_,_,_,h=>by simp only [ae.rw,ae.ar] at h ⊢;exact h
 | .bool,_,_,_,_,_,_,h=>by simp only [ae.rw,ae.ar] at h ⊢;exact h
 | .str,_,_,_,_,_,_,h=>by simp only [ae.rw,ae.ar] at h ⊢;exact h
 | .sl _,_,_,_,_,_,_,h=>by simp only [ae.rw,ae.ar] at h ⊢;exact h
 | .raw,_,_,_,_,_,_,h=>by simp only [ae.rw,ae.ar] at h ⊢;exact h
 | .st ak,_,_,_,_,_,_,h=>by simp only [ae.rw,ae.ar] at h ⊢;exact aC.Ag ak h
theorem aC.Ag{w w':World}{Z Z':ai} : ∀(T:aC) {m m':c4} {y:T.rw.D} {vs:List Value} {F F':ai},T.rw.ar w Z m y vs F→T.rw.ar w' Z' m' y vs F'
 | .nil,_,_,_,_,_,_,h=>by simp only [aC.rw,aC.ar] at h ⊢;exact h
 | .cons t ak,_,_,_,_,_,_,h=>by simp only [aC.rw,aC.ar] at h ⊢;obtain ⟨a,b,_,_,rfl,h1,h2,_⟩:=h;exact⟨a,b,ai.none,ai.none,rfl,ae.Ag t h1,aC.Ag ak h2,fun _ _ h=>h.elim,fun _ _ h=>h.elim,fun _ _ h=>h.elim⟩
end
mutual
theorem ae.Ah{w w':World}{Z Z':ai} : ∀(T:ae) {m m':bl} {y:T.rw.D} {us vs:List Value} {F F':ai},T.rw.ar w Z m y us F→T.rw.ar w' Z' m' y vs F'→us=vs
 | .int _,_,_,_,_,_,_,_,h,k=>by simp only [ae.rw,ae.ar] at h k;rw [h,k]
 | .bool,_,_,_,_,_,_,_,h,k=>by simp only [ae.rw,ae.ar] at h k;rw [h,k]
 | .str,_,_,_,_,_,_,_,h,k=>by
  simp only [ae.rw,ae.ar] at h k;obtain ⟨s,rfl,hs⟩:=h;obtain ⟨au,rfl,UE⟩:=k;have:s=au:=by cases s;cases au;simp only at hs UE;congr 1;apply Array.ext';rw [hs,UE]
  rw [this]
 | .sl _,_,_,_,_,_,_,_,h,k=>by simp only [ae.rw,ae.ar] at h k;rw [h.1,k.1]
 | .raw,_,_,_,_,_,_,_,h,k=>by simp only [ae.rw,ae.ar] at h k;rw [h.1,k.1]
 | .st ak,_,_,_,_,_,_,_,h,k=>by simp only [ae.rw,ae.ar] at h k;exact aC.Ah ak h k
theorem aC.Ah{w w':World}{Z Z':ai} : ∀(T:aC) {m m':c4} {y:T.rw.D} {us vs:List Value} {F F':ai},T.rw.ar w Z m y us F→T.rw.ar w' Z' m' y vs F'→us=vs
 | .nil,_,_,_,_,_,_,_,h,k=>by simp only [aC.rw,aC.ar] at h k;rw [h,k]
 | .cons t ak,_,_,_,_,_,_,_,h,k=>by simp only [aC.rw,aC.ar] at h k;obtain ⟨a,b,_,_,rfl,h1,h2,_⟩:=h;obtain ⟨cg,b',_,_,rfl,k1,k2,_⟩:=k;rw [ae.Ah t h1 k1,aC.Ah ak h2 k2]
end
def hM(w:World)(Z:ai)(T:ae)(m:bl):List T.D→List T.rw.D→ai→Prop
 | [],[],_=>True
 | x :: xs,y :: ys,G=>∃vs G1 G2,T.ar w Z m x vs G1∧T.rw.ar w Z .R y vs ai.none∧T.rel T.rw x y∧hM w Z T m xs ys G2∧ai.apart G1 G2∧ai.sub G1 G∧ai.sub G2 G
 | _,_,_=>False
section
variable{w w':World}{Z Z':ai}{T:ae}{m:bl}
theorem hM.len:∀ {xs:List T.D} {ys:List T.rw.D} {G:ai},hM w Z T m xs ys G→ys.length=xs.length
 | [],[],_,_=>rfl
 | _ :: _,_ :: _,_,⟨_,_,_,_,_,_,h,_⟩=>by simp [hM.len h]
 | [],_ :: _,_,h=>h.elim
 | _ :: _,[],_,h=>h.elim
theorem hM.mono:∀ {xs:List T.D} {ys:List T.rw.D} {G dx:ai},ai.sub G dx→hM w Z T m xs ys G→hM w Z T m xs ys dx
 | [],[],_,_,_,_=>trivial
 | _ :: _,_ :: _,_,_,hs,⟨vs,G1,G2,h1,h2,h3,h4,a',br,bL⟩=>⟨vs,G1,G2,h1,h2,h3,h4,a',fun b o h=>hs b o (br b o h),fun b o h=>hs b o (bL b o h)⟩
 | [],_ :: _,_,_,_,h=>h.elim
 | _ :: _,[],_,_,_,h=>h.elim
theorem hM.UF:∀ {xs:List T.D} {b o:Nat} {G:ai},Row w (T.ar w Z m) T.size xs b o G→∃ys,hM w Z T m xs ys G∧∀(Z':ai),Row w (T.rw.ar w Z' .R) T.rw.size ys b o ai.none
 | [],_,_,_,_=>⟨[],trivial,fun _=>trivial⟩
 | x :: xs,b,o,G,⟨vs,G1,G2,h1,h2,h3,h4,a',br,bL⟩=>by obtain ⟨ys,k1,k2⟩:=hM.UF h4;obtain ⟨y,eb,eS⟩:=ae.Af T m h1;refine⟨y :: ys,⟨vs,G1,G2,h1,eb _ _ _ _,eS,k1,a',br,bL⟩,fun Z'=>⟨vs,ai.none,ai.none,eb _ _ _ _,by rw [h2,ae.oS],h3,?_,fun _ _ h=>h.elim,fun _ _ h=>h.elim,fun _ _ h=>h.elim⟩⟩;have:=k2 Z';rw [ae.oS] at this ⊢;exact this
theorem hM.filter{p:T.D→Bool}{p':T.rw.D→Bool}(av:∀x y,T.rel T.rw x y→p x=p' y):∀ {xs:List T.D} {ys:List T.rw.D} {G:ai},hM w Z T m xs ys G→hM w Z T m (xs.filter p) (ys.filter p') G
 | [],[],_,_=>trivial
 | x :: xs,y :: ys,G,⟨vs,G1,G2,h1,h2,h3,h4,a',br,bL⟩=>by
  have ih:=hM.filter av h4;rw [List.filter_cons,List.filter_cons,av x y h3];cases p' y
  ·exact ih.mono bL
  ·exact⟨vs,G1,G2,h1,h2,h3,ih,a',br,bL⟩
 | [],_ :: _,_,h=>h.elim
 | _ :: _,[],_,h=>h.elim
theorem hM.same:∀ {xs:List T.D} {ys:List T.rw.D} {G:ai},cd w w' G→hM w Z T T.own xs ys G→hM w' Z' T T.own xs ys G
 | [],[],_,_,_=>trivial
 | x :: xs,y :: ys,G,hs,⟨vs,G1,G2,h1,h2,h3,h4,a',br,bL⟩=>by exact⟨vs,G1,G2,qN T (hs.mono br) h1,ae.Ag T h2,h3,hM.same (hs.mono bL) h4,a',br,bL⟩
 | [],_ :: _,_,_,h=>h.elim
 | _ :: _,[],_,_,h=>h.elim
theorem hM.row:∀ {xs:List T.D} {ys:List T.rw.D} {G:ai} {b o:Nat} {H:ai},hM w Z T m xs ys G→Row w (T.rw.ar w Z' .R) T.rw.size ys b o H→Row w (T.ar w Z m) T.size xs b o G
 | [],[],_,_,_,_,_,_=>trivial
 | x :: xs,y :: ys,G,b,o,H,⟨vs,G1,G2,h1,h2,h3,h4,a',br,bL⟩,⟨us,H1,H2,k1,k2,k3,bg,_⟩=>by have:us=vs:=ae.Ah T k1 h2;subst this;rw [ae.oS] at k2 bg;exact⟨us,G1,G2,h1,k2,k3,hM.row h4 (by rw [ae.oS];exact bg),a',br,bL⟩
 | [],_ :: _,_,_,_,_,h,_=>h.elim
 | _ :: _,[],_,_,_,_,h,_=>h.elim
theorem afA{P:Program}{f:FuncId}{key:FuncId}{T':ae}{p:T.D→Int→Bool}{p':T'.D→Int→Bool}(b3:T.rw=T')(Dy:∀x y i,T.rel T' x y→p x i=p' y i)
  {fq:(bF.ins [.val (.sl T') (.O .R),.fn 0 1,.ref (.int .i64)]).D→Option (c7.outs [.val (.sl T') (.O .R)] (bF.eg [.val (.sl T') (.O .R),.fn 0 1,.ref (.int .i64)])).D}
  (dZ:ia P f key ⟨[.val (.sl T') (.O .R),.fn 0 1,.ref (.int .i64)],[.val (.sl T') (.O .R)],fq⟩)
  (hf:∀(ys:List T'.D) (i:Int),room ys.length=true→fq (ys,i,())=some (ys.filter (fun y=>p' y i),())) :
  ia P f key ⟨[.val (.sl T) (.O T.own),.fn 0 1,.ref (.int .i64)],[.val (.sl T) (.O T.own)],fun x=>cond (room x.1.length) (some (x.1.filter (fun y=>p y x.2.1),())) none⟩:=by
 subst b3;refine⟨fun w Z F x us r hZ hF hFZ hA hr=>?_⟩;obtain ⟨xs,i,u⟩:=x;simp only at hr;cases hroom:room xs.length
 ·rw [hroom] at hr;cases hr
 rw [hroom] at hr;simp only [cond_true] at hr;have hr:=aZ hr;obtain ⟨vs,aX,G,H,e1,cV,ga,DW,hGF,Ai⟩:=hA;simp only [ae.ar] at cV;obtain ⟨A,c,rfl,cV⟩:=cV
 obtain ⟨ys,G1,xZ,dB,afB,Aj,x0,LN⟩:∃(ys:List T.rw.D) (G1 xZ:ai),hM w Z T T.own xs ys G1∧(ae.sl T.rw).ar w Z (.O .R) ys [.slice A xs.length c] xZ∧ai.sub G1 G∧ai.sub xZ G∧ai.apart G1 xZ:=by
  rcases cV with⟨rfl,rfl⟩ | ⟨a,rfl,hr⟩
  ·exact⟨[],ai.none,ai.none,trivial,by simp only [ae.ar];exact⟨A,0,rfl,.inl (by simp)⟩,fun _ _ h=>h.elim,fun _ _ h=>h.elim,fun _ _ h=>h.elim⟩
  ·obtain ⟨G1,g1,g2,g3⟩:=hr.row;obtain ⟨ys,k1,k2⟩:=hM.UF g1;refine⟨ys,G1,ai.run a.block a.off (c*T.size),k1,?_,g3,?_,?_⟩
   ·simp only [ae.ar];refine⟨some a,c,by rw [k1.len],.inr ⟨a,rfl,hr.spot,by rw [k1.len];exact hr.cap,?_,?_,ai.none,?_,fun _ _ h=>h,fun _ _ h=>h.elim⟩⟩
    ·rw [ae.oS];exact hr.wr
    ·rw [ae.oS];exact fun j hj=>⟨rfl,by omega,by omega⟩
    ·exact k2 Z
   ·rintro b o ⟨rfl,h1,h2⟩
    have:=hr.inF (o-a.off) (by omega);rwa [show a.off +(o-a.off)=o by omega] at this
   ·rintro b o aI ⟨rfl,h1,h2⟩
    have:=g2 (o-a.off) (by omega);rw [show a.off +(o-a.off)=o by omega] at this;exact this aI
 have hcall:=dZ.calls w Z (xZ.or H) (ys,i,u) us (ys.filter (fun y=>p' y i),()) hZ
  (fun b o h=>h.elim (fun h=>hF b o (hGF b o (x0 b o h))) fun h=>hF b o (Ai b o h))
  (fun b o h hz=>h.elim (fun h=>hFZ b o (hGF b o (x0 b o h)) hz) fun h=>hFZ b o (Ai b o h) hz)
  ⟨[.slice A xs.length c],aX,xZ,H,e1,afB,ga,fun b o h=>DW b o (x0 b o h),fun _ _ h=>.inl h,fun _ _ h=>.inr h⟩
  (hf ys i (by rw [dB.len];exact hroom))
 refine hcall.mono ?_
 rintro end_ w' ⟨v,rfl,⟨⟨dA,Z',F',rfl,hx,jJ,hz2,hf2,zS,hW⟩⟩⟩
 subst hr;simp only [il] at hW;obtain ⟨vs1,ej,dx,aek,rfl,xD,⟨rfl,DX⟩,_,UG,_⟩:=hW;have x1:∀b o,G1 b o→F b o∧b<w.heap.size:=fun b o h=>⟨hGF b o (Aj b o h),hF b o (hGF b o (Aj b o h))⟩
 have afC:ai.apart G1 F':=by
  intro b o h1 h2;rcases (hf2 b o h2).1 with(h3 | h3) | h3
  ·exact LN b o h1 h3
  ·exact DW b o (Aj b o h1) h3
  ·have:=(x1 b o h1).2;omega
 have nD:cd w w' G1:=cd.jg hx (fun b o h=>(x1 b o h).2) (by
  rintro b o h1 (h3 | h3)
  ·exact LN b o h1 h3
  ·exact DW b o (Aj b o h1) h3)
 have DY:hM w' Z' T T.own (xs.filter fun y=>p y i) (ys.filter fun y=>p' y i) G1:=(dB.same nD).filter fun x y h=>Dy x y i h
 have hsz:T.rw.size=T.size:=ae.oS T;refine⟨_,rfl,⟨⟨_,Z',F'.or G1,rfl,?_,jJ,?_,?_,?_,?_⟩⟩⟩
 ·exact hx.mono fun b o hb h=>h.elim (fun h=>hGF b o (x0 b o h)) fun h=>Ai b o h
 ·intro b o hz;rcases hz2 b o hz with h1 | ⟨h1,h2⟩
  ·exact .inl h1
  ·exact .inr ⟨h1.imp (fun h=>h.elim (fun h=>hGF b o (x0 b o h)) fun h=>Ai b o h) fun h=>h,h2⟩
 ·rintro b o (h1 | h1)
  ·obtain ⟨h2,h3⟩:=hf2 b o h1;exact⟨h2.imp (fun h=>h.elim (fun h=>hGF b o (x0 b o h)) fun h=>Ai b o h) fun h=>h,h3⟩
  ·exact⟨.inl (x1 b o h1).1,Nat.lt_of_lt_of_le (x1 b o h1).2 hx.size⟩
 ·rintro b o (h1 | h1) hz
  ·exact zS b o h1 hz
  ·rcases hz2 b o hz with h2 | ⟨(h2 | h2) | h2,_⟩
   ·exact hFZ b o (x1 b o h1).1 h2
   ·exact LN b o h1 h2
   ·exact DW b o (Aj b o h1) h2
   ·have:=(x1 b o h1).2;omega
 ·simp only [il];refine⟨vs1,[],F'.or G1,ai.none,rfl,?_,⟨rfl,by simp only [iC] at DX ⊢;exact DX⟩,fun _ _ _ h=>h.elim,fun _ _ h=>h,fun _ _ h=>h.elim⟩;simp only [ae.ar] at xD ⊢;obtain ⟨nx,c',rfl,xD⟩:=xD;refine⟨nx,c',by rw [← DY.len],?_⟩;rcases xD with⟨h1,h2⟩ | ⟨cg,pP,iJ⟩
  ·refine .inl ⟨List.eq_nil_of_length_eq_zero ?_,h2⟩;rw [← DY.len,h1];rfl
  ·obtain ⟨R1,bH,_⟩:=iJ.row;refine .inr ⟨cg,pP,iJ.spot,by rw [← DY.len];exact iJ.cap,by have:=iJ.wr;rwa [hsz] at this,?_,G1,DY.row bH,?_,fun _ _ h=>.inr h⟩
   ·intro j hj;exact .inl (UG _ _ (iJ.inF j (by rw [hsz];exact hj)))
   ·intro j hj aI;exact afC _ _ aI (UG _ _ (iJ.inF j (by rw [hsz];exact hj)))
end
end Go.LM
