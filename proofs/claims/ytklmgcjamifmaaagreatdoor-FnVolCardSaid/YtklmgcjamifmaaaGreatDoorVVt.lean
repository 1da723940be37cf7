/- What is drawn, and the law. Conditions: each theorem's own hypotheses. -/
import Derived.Test.YtklmgcjamifmaaaGreatDoorVVe
set_option linter.unusedVariables false
set_option linter.unusedSimpArgs false
namespace Go.LM.kb
theorem Ah{n:Nat}{i:Int}(h:0≤i)(h':i<n):aN n i=some i.toNat:=by
 rw [show aN n i=aN n ((i.toNat:Nat):Int) by congr 1;omega]
 exact bx (by omega)
abbrev fm:Type:=bm.D
def eZ(C:fm):Prop:=0≤C.2.1∧C.2.1≤(C.1.length:Int)∧C.1.length≤1048576
def a_{α : Type}(o:Option (α × bm.D×Unit))(Q : α → Prop):Prop:=∃x C,o=some (x,C,())∧eZ C∧Q x
theorem a_.ret{α : Type}{x : α}{C:fm}{Q : α → Prop}(h:eZ C)(hq:Q x):a_ (some (x,C,())) Q:=⟨x,C,rfl,h,hq⟩
theorem a_.bind{α β : Type}{o:Option (α × bm.D×Unit)}{f : α × bm.D×Unit→Option (β × bm.D×Unit)}{Q : α → Prop}{R : β → Prop}(h:a_ o Q)
  (hf:∀x C,eZ C→Q x→a_ (f (x,C,())) R):a_ (o.bind f) R:=by
 obtain ⟨x,C,rfl,hc,hq⟩:=h
 exact hf x C hc hq
theorem a_.mono{α : Type}{o:Option (α × bm.D×Unit)}{Q R : α → Prop}(h:a_ o Q)(hr:∀x,Q x→R x):a_ o R:=by
 obtain ⟨x,C,h1,h2,h3⟩:=h
 exact⟨x,C,h1,h2,hr x h3⟩
theorem a_.cond{α : Type}{b:Bool}{o p:Option (α × bm.D×Unit)}{Q : α → Prop}(h:a_ o Q)(h':a_ p Q):a_ (cond b o p) Q:=by
 cases b
 ·exact h'
 ·exact h
theorem Wt(x:Int):0≤cN .and .i64 x 255∧cN .and .i64 x 255≤255:=by
 have h:(BitVec.ofInt 64 x &&& BitVec.ofInt 64 255).toNat≤255:=by
  rw [BitVec.toNat_and]
  exact Nat.le_trans Nat.and_le_right (by decide)
 have h':((BitVec.ofInt 64 x &&& BitVec.ofInt 64 255).toNat:Int)≤255:=by omega
 have:cN .and .i64 x 255=((BitVec.ofInt 64 x &&& BitVec.ofInt 64 255).toNat:Int):=sy (Int.le_trans (by decide) (Int.natCast_nonneg _)) (Int.le_trans h' (by decide))
 omega
theorem ajl(b:List Int)(i hh:Int)(u:Unit)(h1:0≤i)(h2:i≤(b.length:Int))(h3:b.length≤1048576):a_ (p9 (((b,i,hh,u):fm),())) (fun x=>0≤x∧x≤255):=by
 show a_ (I0 ((b,i,hh,u):fm)) _
 unfold I0
 dsimp only
 by_cases hi:i<(b.length:Int)
 ·rw [mi hi,Ah h1 hi]
  refine a_.ret ⟨?_,?_,h3⟩ (Wt _)
  ·show 0≤aH (i+1);rw [dI (a:=i+1) (by omega) (by omega)];omega
  ·show aH (i+1)≤(b.length:Int);rw [dI (a:=i+1) (by omega) (by omega)];omega
 ·rw [iY hi]
  exact a_.ret ⟨h1,h2,h3⟩ (Wt _)
theorem xi{C:fm}(h:eZ C):a_ (p9 (C,())) (fun x=>0≤x∧x≤255) :=
 ajl C.1 C.2.1 C.2.2.1 C.2.2.2 h.1 h.2.1 h.2.2
structure Below(n x:Int):Prop where
 lo:0≤x
 hi:0<n→x<n
 no:n≤0→x=0
theorem Wu{x n:Int}(hx:0≤x)(hn:0<n):Below n (Int.tmod x n) :=
 ⟨Int.tmod_nonneg _ hx,fun _=>Int.tmod_lt_of_pos _ hn,fun h=>by omega⟩
theorem gz{C:fm}(h:eZ C)(n:Int):a_ (fY (C,n,())) (Below n):=by
 show a_ (I1 C n) _
 unfold I1
 by_cases h0:n≤0
 ·rw [mi h0];exact a_.ret h ⟨Int.le_refl _,fun h=>by omega,fun _=>rfl⟩
 rw [iY h0]
 by_cases h1:n≤256
 ·rw [mi h1]
  refine(xi h).bind fun x C aQ hx=>?_
  dsimp only
  rw [c0 (by omega:n≠0)]
  exact a_.ret aQ (Wu hx.1 (by omega))
 ·rw [iY h1]
  refine(xi h).bind fun x C aQ hx=>(xi aQ).bind fun y C aQ aM=>(xi aQ).bind fun z C aQ hz=>(xi aQ).bind fun w C aQ hw=>?_
  dsimp only
  rw [c0 (by omega:n≠0)]
  refine a_.ret aQ (Wu ?_ (by omega))
  rw [dI (a:=x*16777216) (by omega) (by omega),dI (a:=y*65536) (by omega) (by omega),dI (a:=z*256) (by omega) (by omega),dI (a:=x*16777216+y*65536) (by omega) (by omega),dI (a:=x*16777216+y*65536+z*256) (by omega) (by omega),dI (a:=x*16777216+y*65536+z*256+w) (by omega) (by omega)]
  omega
theorem xj{C:fm}(h:eZ C)(n:Int):a_ (rB (C,n,())) (fun _=>True) :=
 (gz h n).bind fun x C aQ _=>a_.ret aQ trivial
theorem km{C:fm}(h:eZ C)(l:List Int)(hl:0<l.length):a_ (iG (C,l,())) (fun x=>x∈l):=by
 show a_ (Jz C l) _
 unfold Jz
 refine(gz h _).bind fun x C aQ hx=>?_
 dsimp only
 have:=hx.hi (by omega)
 rw [Ah hx.lo this]
 refine a_.ret aQ ?_
 rw [Nat.zero_add]
 exact cI (t:=.int .i64) (by have:=hx.lo;omega)
theorem Gg{C:fm}(h:eZ C)(l:List aF)(hl:0<l.length):a_ (qi (C,l,())) (fun x=>x∈l):=by
 show a_ (JC C l) _
 unfold JC
 refine(gz h _).bind fun x C aQ hx=>?_
 dsimp only
 have:=hx.hi (by omega)
 rw [Ah hx.lo this]
 refine a_.ret aQ ?_
 rw [Nat.zero_add]
 exact cI (t:=.str) (by have:=hx.lo;omega)
theorem Nv{C:fm}(h:eZ C)(n:Nat)(l:List aF)(hl:0<l.length)(hn:l.all fun s=>decide (s.length≤n)):a_ (qi (C,l,())) (fun x=>x.length≤n) :=
 (Gg h l hl).mono fun x hx=>by simpa using List.all_eq_true.1 hn x hx
theorem ajm(U:Int):∀(r q:Nat) (ai:List Int) (C:fm),eZ C→ai.length+r≤1000→2*r<q→a_ ((rO q).bf U (r:Int) C ai) (fun s=>s.length≤ai.length+r):=by
 intro r
 induction r with
 | zero =>
  intro q ai C aQ hl hq
  obtain ⟨q,rfl,_⟩:=fuel hq
  show a_ (yR (rO q) U ((0:Nat):Int) C ai) (fun s=>s.length≤ai.length+0)
  unfold yR
  rw [iY (by omega)]
  exact a_.ret aQ (by simp [gl])
 | succ r ih =>
  intro q ai C aQ hl hq
  obtain ⟨q,rfl,hq⟩:=fuel hq
  show a_ (yR (rO q) U _ C ai) _
  unfold yR
  rw [mi (by omega)]
  refine(xi aQ).bind fun y C aQ _=>?_
  have hk:∀y,a_ ((rO q).cZ U ((r+1:Nat):Int) y C ai) (fun s=>s.length≤ai.length +(r+1)):=fun y=>by
   obtain ⟨q,rfl,hq⟩:=fuel (show 2*r+1<q by omega)
   show a_ (JB (rO q) U _ y C ai) _
   unfold JB
   rw [cE (by simp;omega),dI (by omega) (by omega),show((r+1:Nat):Int)-1=(r:Int) by omega]
   exact(ih q _ C aQ (by simp;omega) (by omega)).mono fun s hs=>by simp at hs;omega
  exact a_.cond (a_.cond (hk _) (hk _)) (a_.cond (hk _) (hk _))
theorem ajn{C:fm}(h:eZ C)(n:Nat)(hn:n≤900):a_ (yS (C,(n:Int),())) (fun s=>s.length≤n):=by
 show a_ (CR (rO aP) C n) _
 unfold CR
 refine(gz h _).bind fun x C aQ hx=>(gz aQ _).bind fun y C aQ aM=>?_
 dsimp only
 rw [dI (a:=(n:Int)+1) (by omega) (by omega)] at aM
 have h1:=aM.lo;have h2:=aM.hi (by omega)
 have:=ajm x y.toNat aP [] C aQ (by simp;omega) (by rw [qB];omega)
 rw [Int.toNat_of_nonneg h1] at this
 exact this.mono fun s hs=>by simp at hs;omega
theorem Wv{C:fm}(h:eZ C):a_ (wo (C,())) (fun s=>s.length≤3):=by
 show a_ (JD C) _
 unfold JD
 exact(Nv h 3 _ (by decide) (by decide)).bind fun s C aQ hs=>a_.ret aQ hs
theorem Ww(q:Nat){C:fm}(aQ:eZ C)(s:aF):a_ ((oa (q+1)).mc s C) (fun _=>True):=by
 show a_ (JF (oa q) s C) _
 unfold JF
 refine(xj aQ 30).bind fun b C aQ _=>?_
 dsimp only
 exact a_.cond ((Gg aQ _ (by decide)).bind fun y C aQ _=>a_.ret aQ trivial) (a_.ret aQ trivial)
theorem Wx(q:Nat){C:fm}(aQ:eZ C)(s:aF)(hs:s.length≤1000):a_ ((oa (q+2)).l9 s C) (fun _=>True):=by
 show a_ (JE (oa (q+1)) s C) _
 unfold JE
 rw [cE (by simp;omega)]
 exact Ww q aQ _
theorem ajo:∀(r q:Nat) (s:aF) (C:fm),eZ C→s.length+20*r≤900→r<q→a_ ((oa (q+2)).k3 s (r:Int) C) (fun _=>True):=by
 intro r
 induction r with
 | zero =>
  intro q s C aQ hs hq
  obtain ⟨q,rfl,_⟩:=fuel hq
  show a_ (yT (oa (q+2)) s ((0:Nat):Int) C) _
  unfold yT
  rw [iY (by omega),cond_false]
  refine a_.cond (Wx q aQ s (by omega)) ?_
  refine(xj aQ 20).bind fun b C aQ _=>?_
  dsimp only
  exact a_.cond (Wx q aQ s (by omega)) (Ww (q+1) aQ s)
 | succ r ih =>
  intro q s C aQ hs hq
  obtain ⟨q,rfl,hq⟩:=fuel hq
  show a_ (yT (oa (q+2)) s _ C) _
  unfold yT
  rw [mi (by omega),cE (by simp;omega),dI (a:=((r+1:Nat):Int)-1) (by omega) (by omega),show((r+1:Nat):Int)-1=(r:Int) by omega]
  refine(Wv aQ).bind fun n C aQ hn=>?_
  dsimp only
  rw [cE (by simp;omega)]
  refine(gz aQ 14).bind fun k C aQ _=>?_
  dsimp only
  have hk:∀(t:aF) C,eZ C→t.length≤9→a_ (cond (room (((s++([47]:List UInt8))++n).length+t.length)) ((oa (q+2)).k3 (((s++([47]:List UInt8))++n)++t) (r:Int) C) none) (fun _=>True):=fun t C aQ ht=>by
   rw [cE (by simp;omega)]
   exact ih q _ C aQ (by simp;omega) (by omega)
  refine a_.cond (hk _ C aQ (by simp)) (a_.cond (hk _ C aQ (by simp)) (a_.cond (hk _ C aQ (by simp)) (a_.cond ?_ ?_)))
  ·refine(Nv aQ 9 _ (by decide) (by decide)).bind fun y C aQ aM=>?_
   exact hk y C aQ aM
  ·exact ih q _ C aQ (by simp;omega) (by omega)
theorem Wy{C:fm}(h:eZ C):a_ (CT (C,())) (fun _=>True):=by
 show a_ (CS (oa aP) C) _
 unfold CS
 refine(gz h 5).bind fun x C aQ hx=>?_
 dsimp only
 have h1:=hx.lo;have h2:=hx.hi (by omega)
 obtain ⟨q,hq,Wz⟩:=i_ 2
 have:=ajo x.toNat q [] C aQ (by simp;omega) (by omega)
 rw [Int.toNat_of_nonneg h1,← hq] at this
 exact this
theorem ajp(v:af.D){n:Nat}(hv:eQ n v.2.1)(hn:n≤1000):∀(r q:Nat) (s:aF) (at_:Int) (C:fm),eZ C→s.length+9*r≤900→r<q→a_ (tO q s at_ ((r:Int)-1) C v) (fun _=>True):=by
 intro r
 induction r with
 | zero =>
  intro q s at_ C aQ hs hq
  obtain ⟨q,rfl,_⟩:=fuel hq
  show a_ (wq (tO q) s at_ _ C v) _
  unfold wq
  rw [iY (by omega)]
  exact a_.ret aQ trivial
 | succ r ih =>
  intro q s at_ C aQ hs hq
  obtain ⟨q,rfl,hq⟩:=fuel hq
  show a_ (wq (tO q) s at_ _ C v) _
  unfold wq
  rw [mi (show((r+1:Nat):Int)-1≥0 by omega),ni v at_ (by have:=hv.len;omega)]
  simp only [cond_true,av]
  have lq:∀C,eZ C→a_ (cond (room (s.length +([47]:List UInt8).length)) ((wo (C,())).bind fun v2=>cond (room ((s++([47]:List UInt8)).length+v2.1.length)) (some ((s++([47]:List UInt8))++v2.1,v2.2.1,())) none) none) (fun _=>True):=fun C aQ=>by
   rw [cE (by simp;omega)]
   refine(Wv aQ).bind fun m C aQ hm=>?_
   dsimp only
   rw [cE (by simp;omega)]
   exact a_.ret aQ trivial
  cases hi:bj v.2.1 at_ with
  | none=>exact lq C aQ
  | some d =>
   have ag:=(bX hi).1
   rw [show decide (gN (some d)<0)=false from iY (show ¬((d:Int)<0) by omega)]
   rw [show aN v.2.1.length (gN (some d))=some d from bx ag]
   simp only [cond_false,av]
   by_cases h0:(ak (J I v.2.1 d)).length=0
   ·rw [cB (show(((J I v.2.1 d).2.2.2.2.2.2.1).length:Int)=0 from by have:(ak (J I v.2.1 d)).length=0:=h0;exact congrArg (fun k:Nat=>(k:Int)) this)]
    exact lq C aQ
   ·rw [bG (show(((J I v.2.1 d).2.2.2.2.2.2.1).length:Int)≠0 from by have:(ak (J I v.2.1 d)).length≠0:=h0;exact fun h=>this (Int.ofNat.inj h))]
    simp only [cond_false,o0]
    refine(gz aQ _).bind fun k C aQ hk=>?_
    have cw:k<((ak (J I v.2.1 d)).length:Int):=hk.hi (by show(0:Int)<((ak (J I v.2.1 d)).length:Int);omega)
    have Ph:=hk.lo
    dsimp only
    rw [show aN (((J I v.2.1 d).2.2.2.2.2.2.1).length) k=some k.toNat from Ah hk.lo cw]
    simp only [av]
    have cU:((J aw (ak (J I v.2.1 d)) k.toNat).1).length≤8:=(hv.get ag).each _ (cI (by omega))
    have cU:((J aw ((J I v.2.1 d).2.2.2.2.2.2.1) k.toNat).1).length≤8:=cU
    rw [cE (by simp;omega)]
    simp only [cond_true]
    rw [cE (n:=(s++([47]:List UInt8)).length +((J aw ((J I v.2.1 d).2.2.2.2.2.2.1) k.toNat).1).length) (by simp;omega)]
    simp only [cond_true]
    rw [dI (a:=((r+1:Nat):Int)-1-1) (by omega) (by omega),show((r+1:Nat):Int)-1-1=(r:Int)-1 by omega]
    refine ih q _ _ C aQ ?_ (by omega)
    simp only [List.length_append,List.length_singleton];omega
theorem WA{C:fm}(h:eZ C)(v:af.D){n:Nat}(hv:eQ n v.2.1)(hn:n≤1000):a_ (wu (C,v,())) (fun _=>True):=by
 show a_ (CV (tO aP) C v) _
 unfold CV
 refine(xj h 4).bind fun b C aQ _=>?_
 dsimp only
 refine a_.cond ((Wy aQ).bind fun y C aQ _=>a_.ret aQ trivial) ?_
 refine(gz aQ 4).bind fun x C aQ hx=>?_
 dsimp only
 have h1:=hx.lo;have h2:=hx.hi (by omega)
 have:=ajp v hv hn (x.toNat+1) aP [] 1 C aQ (by simp;omega) (by rw [qB];omega)
 rw [show((x.toNat+1:Nat):Int)-1=x by omega] at this
 exact this
theorem ajq{n:Nat}{lo hi:Int}(h:0≤lo)(h':lo≤hi)(ajr:hi≤n):dZ n lo hi=some (lo.toNat,hi.toNat):=by
 unfold dZ
 rw [if_pos ⟨h,h',ajr⟩]
theorem Nw{C:fm}(h:eZ C):a_ (yQ (C,())) (fun c=>df c=true):=by
 show a_ (JA C) _
 unfold JA
 refine(gz h 4).bind fun x C aQ _=>?_
 dsimp only
 have h0:a_ (some (((0,0,([]:List Int),()):aJ.D),C,())) (fun c=>df c=true):=a_.ret aQ (by kernel_rfl)
 have h2:a_ (some (((2,2,[5],()):aJ.D),C,())) (fun c=>df c=true):=a_.ret aQ (by kernel_rfl)
 have h3:a_ (some (((3,2,([]:List Int),()):aJ.D),C,())) (fun c=>df c=true):=a_.ret aQ (by kernel_rfl)
 exact a_.cond (a_.cond h0 (a_.cond h2 h3)) (a_.cond h0 (a_.cond h2 h3))
theorem ajs{C:fm}(h:eZ C):a_ (JT (C,())) (fun _=>True):=by
 show a_ (JS C) _
 unfold JS
 refine(Nw h).bind fun c C aQ _=>?_
 refine(xj aQ 10).bind fun b C aQ _=>?_
 dsimp only
 refine a_.cond ?_ (a_.ret aQ trivial)
 refine(gz aQ 3).bind fun x C aQ _=>?_
 dsimp only
 refine a_.cond ((km aQ _ (by decide)).bind fun y C aQ _=>a_.ret aQ trivial) (a_.cond ((km aQ _ (by decide)).bind fun y C aQ _=>a_.ret aQ trivial) ?_)
 refine(gz aQ 2).bind fun y C aQ aM=>?_
 dsimp only
 have h1:=aM.lo;have h2:=aM.hi (by omega)
 rw [dI (a:=4+y) (by omega) (by omega)]
 show a_ ((dZ 5 0 (4+y)).bind fun bt=>some (((c.1,c.2.1,part ([1,2,3,4,5]:List Int) (0+bt.1) (bt.2-bt.1),()):aJ.D),C,())) _
 rw [ajq (Int.le_refl _) (by omega) (by omega)]
 exact a_.ret aQ trivial
theorem call32(m:Nat){C:fm}(aQ:eZ C)(aa ae:aG.D)(ag:ae.2.2.2.2.2.1.length≤100):a_ ((kE (m+1)).fL C aa ae) (fun _=>True):=by
 show a_ (JJ (kE m) C aa ae) _
 unfold JJ
 refine(xj aQ 25).bind fun b C aQ _=>?_
 dsimp only
 refine a_.cond ?_ (a_.ret aQ trivial)
 refine(gz aQ 6).bind fun z C aQ _=>?_
 dsimp only
 refine a_.cond ((km aQ _ (by decide)).bind fun y C aQ _=>a_.ret aQ trivial) (a_.cond ((km aQ _ (by decide)).bind fun y C aQ _=>a_.ret aQ trivial)
  (a_.cond ((km aQ _ (by decide)).bind fun y C aQ _=>a_.ret aQ trivial) (a_.cond ?_ (a_.cond ((Gg aQ _ (by decide)).bind fun y C aQ _=>a_.ret aQ trivial) ((Wy aQ).bind fun y C aQ _=>a_.ret aQ trivial)))))
 rw [cE (by simp;omega)]
 exact a_.ret aQ trivial
theorem call19(m:Nat){C:fm}(aQ:eZ C)(v:af.D){n:Nat}(hv:eQ n v.2.1)(hn:n≤1000)(aa ae:aG.D)(ag:ae.2.2.2.2.2.1.length≤100):a_ ((kE (m+2)).n' C v aa ae) (fun _=>True):=by
 show a_ (JK (kE (m+1)) C v aa ae) _
 unfold JK
 refine(WA aQ v hv hn).bind fun s C aQ _=>?_
 exact call32 m aQ _ _ ag
theorem call20(m:Nat){C:fm}(aQ:eZ C)(k:Int)(aa ae:aG.D)(ag:ae.2.2.2.2.2.1.length≤100):a_ ((kE (m+2)).n9 k C aa ae) (fun _=>True):=by
 show a_ (JL (kE (m+1)) k C aa ae) _
 unfold JL
 refine a_.cond ((Gg aQ _ (by decide)).bind fun y C aQ _=>call32 m aQ _ _ ag) (a_.cond ((gz aQ 2).bind fun y C aQ _=>call32 m aQ _ _ ag)
  (a_.cond ((km aQ _ (by decide)).bind fun y C aQ _=>(km aQ _ (by decide)).bind fun z C aQ _=>call32 m aQ _ _ ag) (a_.cond ((gz aQ 8).bind fun y C aQ _=>call32 m aQ _ _ ag)
   (a_.cond ((km aQ _ (by decide)).bind fun y C aQ _=>(km aQ _ (by decide)).bind fun z C aQ _=>call32 m aQ _ _ ag) (call32 m aQ _ _ ag)))))
theorem WB{C:fm}(h:eZ C)(v:af.D){n:Nat}(hv:eQ n v.2.1)(hn:n≤1000):a_ (CX (C,v,())) (fun _=>True):=by
 obtain ⟨m,hm,_⟩:=i_ 4
 show a_ (CW (kE aP) C v) _
 rw [hm]
 unfold CW
 simp only [o0,IT]
 refine(km h _ (by decide)).bind fun k C aQ _=>(WA aQ v hv hn).bind fun s C aQ _=>?_
 dsimp only
 show a_ (JG (kE (m+3)) C v _ _) _
 unfold JG
 have bd:∀(aa ae:aG.D),ae.2.2.2.2.2.1.length≤100→a_ ((kE (m+3)).c_ C aa ae) (fun _=>True):=fun aa ae ag=>by
  show a_ (JH (kE (m+2)) C aa ae) _
  unfold JH
  exact(km aQ _ (by decide)).bind fun y C aQ _=>call32 (m+1) aQ _ _ ag
 have bC:∀(k:Int) (aa ae:aG.D),ae.2.2.2.2.2.1.length≤100→a_ ((kE (m+3)).dh k C v aa ae) (fun _=>True):=fun k aa ae ag=>by
  show a_ (JI (kE (m+2)) k C v aa ae) _
  unfold JI
  have WC:∀ {C:fm},eZ C→∀ai:aF→aG.D,(∀t,(ai t).2.2.2.2.2.1=t)→a_ ((yS (C,30,())).bind fun v4=>(kE (m+2)).fL v4.2.1 aa (ai v4.1)) (fun _=>True):=fun aQ ai hx =>
   (ajn aQ 30 (by omega)).bind fun t C aQ ht=>call32 (m+1) aQ _ _ (by rw [hx];exact Nat.le_trans ht (by omega))
  refine a_.cond ((gz aQ 8).bind fun y C aQ _=>(gz aQ 20).bind fun z C aQ _=>call32 (m+1) aQ _ _ ag) (a_.cond ((gz aQ 20).bind fun y C aQ _=>?_) (a_.cond ?_ (a_.cond ((gz aQ 70).bind fun y C aQ _=>call32 (m+1) aQ _ _ ag)
   (a_.cond (a_.cond (call19 m aQ v hv hn _ _ ag) (call20 m aQ _ _ _ ag)) (a_.cond (call19 m aQ v hv hn _ _ ag) (call20 m aQ _ _ _ ag))))))
  ·exact WC aQ (fun t=>(ae.1,ae.2.1,ae.2.2.1,y,ae.2.2.2.2.1,t,())) fun t=>rfl
  ·exact WC aQ (fun t=>(ae.1,ae.2.1,ae.2.2.1,ae.2.2.2.1,ae.2.2.2.2.1,t,())) fun t=>rfl
 have ag:([]:aF).length≤100:=by simp
 exact a_.cond (a_.cond (bd _ _ ag) (bC _ _ _ ag)) (a_.cond (a_.cond (bd _ _ ag) (bC _ _ _ ag)) (a_.cond (bd _ _ ag) (bC _ _ _ ag)))
theorem WD:∀m:Int,m∈[511,511,493,1023,2047]→bI ((2:Int),([(1,2,m,0,0,([]:aF),([]:List aw.D),0,0,())]:List aK),()):=by
 intro m hm
 simp only [List.mem_cons,List.not_mem_nil,or_false] at hm
 rcases hm with rfl | rfl | rfl | rfl | rfl <;> exact pq.1 (by kernel_rfl)
theorem ajt:eQ 24 ([(1,2,493,0,0,([]:aF),([]:List aw.D),0,0,())]:List aK):=(bI.sz (WD 493 (by decide)))
theorem WE{C:fm}(h:eZ C):a_ (CY (C,())) (fun _=>True):=by
 show a_ (JM C) _
 unfold JM
 rw [show I3 ()=some ((2,[(1,2,493,0,0,([]:aF),([]:List aw.D),0,0,())],()),()) from rfl]
 simp only [av]
 exact(WB h _ ajt (by omega)).bind fun x C aQ _=>a_.ret aQ trivial
theorem WG(v:af.D)(c:aJ.D)(x:aG.D)(hv:bI v)(hc:df c=true):∃w r,m6 (v,c,x,())=some (w,r,())∧bI w:=by
 by_cases hx:jU x=true∧aA x≤20
 ·obtain ⟨k,t,w,_,h2,h3,_,_⟩:=V3 v c x hv hc (w5.1 hx.1) hx.2
  refine⟨_,_,h2,?_⟩
  by_cases h0:k=0
  ·rw [cB h0];exact(h3 h0).ok hv hc (w5.1 hx.1)
  ·rw [bG h0];exact hv
 ·refine⟨v,(22,[],()),?_,hv⟩
  show rN (yP aP) v c x=_
  unfold rN
  rw [L4]
  simp only [av]
  cases hcall:jU x with
  | false=>rfl
  | true =>
   simp only [Bool.not_true,cond_false]
   rw [decide_eq_true (show x.1>20 from by have:¬aA x≤20:=fun h=>hx ⟨hcall,h⟩;exact Int.not_le.1 this)];rfl
theorem WH:∀m,yj m=o2 m
 | 0=>rfl
 | m+1=>by
  funext U aa ae ai
  show I4 (yj m) U aa ae ai=yi (o2 m) U aa ae ai
  rw [WH m];rfl
theorem WI{v:af.D}(h:bI v):yk (v,())=some (v,()):=by
 have:=h.V4
 rw [show lu (v,())=yh (o2 aP) v from rfl,← WH] at this
 exact this
theorem aju(v0:af.D):∀(r q:Nat) (C:fm) (v:af.D),eZ C→bI v→r≤1000→r<q→a_ (tP q ((r:Int)+1) C v0 v) bI:=by
 intro r
 induction r with
 | zero =>
  intro q C v aQ hv hr hq
  obtain ⟨q,rfl,_⟩:=fuel hq
  show a_ (wx (tP q) _ C v0 v) _
  unfold wx
  rw [dI (a:=((0:Nat):Int)+1-1) (by omega) (by omega),iY (by omega),WI hv]
  exact a_.ret aQ hv
 | succ r ih =>
  intro q C v aQ hv hr hq
  obtain ⟨q,rfl,hq⟩:=fuel hq
  show a_ (wx (tP q) _ C v0 v) _
  unfold wx
  rw [dI (a:=((r+1:Nat):Int)+1-1) (by omega) (by omega),mi (by omega)]
  refine(Nw aQ).bind fun c C aQ hc=>(WE aQ).bind fun x C aQ _=>?_
  dsimp only
  obtain ⟨w,k,hw,dt⟩:=WG v c x hv hc
  rw [hw]
  simp only [av]
  rw [show((r+1:Nat):Int)+1-1=(r:Int)+1 by omega]
  exact ih q C w aQ dt (by omega) (by omega)
theorem ajv{C:fm}(h:eZ C)(n:Int)(hn:n≤1000):a_ (JN (C,n,())) bI:=by
 show a_ (CZ (tP aP) C n) _
 unfold CZ
 rw [show I2 ()=some ((2,[(1,2,493,0,0,([]:aF),([]:List aw.D),0,0,())],()),()) from rfl]
 simp only [av]
 refine(km h _ (by decide)).bind fun m C aQ hm=>?_
 rw [show aN (([(1,2,493,0,0,([]:aF),([]:List aw.D),0,0,())]:List aK)).length 0=some 0 from rfl]
 simp only [av]
 unfold Rm
 refine(gz aQ n).bind fun k C aQ hk=>?_
 dsimp only
 have dt:=WD m hm
 by_cases h0:k>0
 ·rw [mi h0]
  refine(Nw aQ).bind fun c C aQ hc=>(WE aQ).bind fun x C aQ _=>?_
  dsimp only
  obtain ⟨w,r,hw,dt⟩:=WG _ c x dt hc
  have G4:m6 (((2,List.set [(1,2,493,0,0,([]:aF),([]:List aw.D),0,0,())] (0+0) (((J I [(1,2,493,0,0,([]:aF),([]:List aw.D),0,0,())] (0+0)).1,(J I [(1,2,493,0,0,([]:aF),([]:List aw.D),0,0,())] (0+0)).2.1,m,(J I [(1,2,493,0,0,([]:aF),([]:List aw.D),0,0,())] (0+0)).2.2.2.1,(J I [(1,2,493,0,0,([]:aF),([]:List aw.D),0,0,())] (0+0)).2.2.2.2.1,(J I [(1,2,493,0,0,([]:aF),([]:List aw.D),0,0,())] (0+0)).2.2.2.2.2.1,(J I [(1,2,493,0,0,([]:aF),([]:List aw.D),0,0,())] (0+0)).2.2.2.2.2.2.1,(J I [(1,2,493,0,0,([]:aF),([]:List aw.D),0,0,())] (0+0)).2.2.2.2.2.2.2.1,(J I [(1,2,493,0,0,([]:aF),([]:List aw.D),0,0,())] (0+0)).2.2.2.2.2.2.2.2.1,()):aK),()):af.D),c,x,())=some (w,r,()):=hw
  rw [G4]
  simp only [av]
  have h1:=hk.hi (by have:=hk.no;omega)
  have:=aju (0,([]:List I.D),()) (k.toNat-1) aP C w aQ dt (by omega) (by rw [qB];omega)
  rw [show((k.toNat-1:Nat):Int)+1=k by omega] at this
  exact this
 ·rw [iY h0]
  have xA:=WI dt
  exact(show a_ ((yk (((2:Int),([(1,2,m,0,0,([]:aF),([]:List aw.D),0,0,())]:List aK),()),())).bind fun v9=>some (v9.1,C,())) bI by rw [xA];exact a_.ret aQ dt)
theorem ajw{C:fm}(h:eZ C)(n:Int)(hn:n≤1000):a_ (JP (C,n,())) (fun w=>eQ 25 w.2.1):=by
 show a_ (JO C n) _
 unfold JO
 refine(ajv h n hn).bind fun v C aQ hv=>(xj aQ 10).bind fun b C aQ _=>?_
 have hsz:eQ 25 v.2.1:=hv.sz.mono (by omega)
 refine a_.cond (a_.ret aQ hsz) ?_
 refine(gz aQ _).bind fun k C aQ hk=>?_
 have h1:=hk.lo;have h2:=hk.hi (by have:=hv.len;show(0:Int)<(v.2.1.length:Int);omega)
 have h2:k<(v.2.1.length:Int):=h2
 refine(gz aQ 9).bind fun z C aQ _=>?_
 dsimp only
 have hi:k.toNat<v.2.1.length:=by omega
 have au:=hsz.get hi
 have F5:=hv.fy hi
 have jz:(ak (J I v.2.1 k.toNat)).length≤24:=(hv.sz.get hi).cJ
 rw [show aN v.2.1.length k=some k.toNat from Ah h1 h2]
 simp only [av,Nat.zero_add]
 refine a_.cond ((km aQ _ (by decide)).bind fun y C aQ _=>a_.ret aQ hsz) (a_.cond ((gz aQ 5).bind fun y C aQ _=>a_.ret aQ (hsz.set _ ⟨au.fy,au.cJ,au.each⟩)) (a_.cond ((km aQ _ (by decide)).bind fun y C aQ _=>a_.ret aQ (hsz.set _ ⟨au.fy,au.cJ,au.each⟩))
  (a_.cond ?_ (a_.cond ?_ (a_.cond ((km aQ _ (by decide)).bind fun y C aQ _=>a_.ret aQ (hsz.set _ ⟨au.fy,au.cJ,au.each⟩)) (a_.cond ((km aQ _ (by decide)).bind fun y C aQ _=>a_.ret aQ (hsz.set _ ⟨au.fy,au.cJ,au.each⟩)) (a_.cond ?_ ((gz aQ 5).bind fun y C aQ _=>a_.ret aQ (hsz.set _ ⟨au.fy,au.cJ,au.each⟩)))))))))
 ·rw [cE (n:=(J I v.2.1 k.toNat).2.2.2.2.2.1.length +([120]:List UInt8).length) (by have:(J I v.2.1 k.toNat).2.2.2.2.2.1.length≤64:=F5;simp;omega)]
  refine a_.ret aQ (hsz.set _ ⟨?_,au.cJ,au.each⟩)
  show((bN (J I v.2.1 k.toNat))++([120]:List UInt8)).length≤200
  simp only [List.length_append,List.length_singleton];omega
 ·refine(Nv aQ 2 _ (by decide) (by decide)).bind fun y C aQ aM=>(gz aQ 6).bind fun u C aQ _=>?_
  dsimp only
  rw [show Nat.beq k.toNat k.toNat=true from Nat.beq_refl _]
  simp only [cond_true]
  rw [cE (n:=(J I v.2.1 k.toNat).2.2.2.2.2.2.1.length+[((y,u,()):aw.D)].length) (by have:(J I v.2.1 k.toNat).2.2.2.2.2.2.1.length≤24:=jz;simp;omega)]
  refine a_.ret aQ (hsz.set _ ⟨au.fy,?_,?_⟩)
  ·show((ak (J I v.2.1 k.toNat))++[((y,u,()):aw.D)]).length≤25
   simp only [List.length_append,List.length_singleton];omega
  ·intro d ag
   have ag:d∈(ak (J I v.2.1 k.toNat))++[((y,u,()):aw.D)]:=ag
   rcases List.mem_append.1 ag with ag | ag
   ·exact au.each d ag
   ·rw [List.mem_singleton.1 ag];show y.length≤8;omega
 ·rw [cE (by have:=hv.len;simp;omega)]
  refine a_.ret aQ (hv.sz.app ⟨?_,?_,fun d ag=>by cases ag⟩)
  ·show([]:aF).length≤200;simp
  ·show([]:List aw.D).length≤24;simp
theorem ajx(a:List Int)(ha:a.length≤1048576):∀(r q:Nat) (h:Int) (i:Nat),i+r=4000→r<q→∃C,wc q a h (i:Int)=some (C,())∧eZ C:=by
 intro r
 induction r with
 | zero =>
  intro q h i hi hq
  obtain ⟨q,rfl,_⟩:=fuel hq
  refine⟨(a,0,h,()),?_,Int.le_refl _,Int.natCast_nonneg _,ha⟩
  show wb (wc q) a h (i:Int)=_
  unfold wb
  rw [iY (show ¬(i:Int)<4000 by omega)]
  cases decide ((i:Int)<(a.length:Int)) <;> rfl
 | succ r ih =>
  intro q h i hi hq
  obtain ⟨q,rfl,hq⟩:=fuel hq
  show ∃C,wb (wc q) a h (i:Int)=_∧_
  unfold wb
  rw [mi (show(i:Int)<4000 by omega)]
  by_cases hl:i<a.length
  ·rw [ck hl,bx hl]
   simp only [cond_true,av]
   rw [dI (a:=(i:Int)+1) (by omega) (by omega)]
   exact ih q _ (i+1) (by omega) (by omega)
  ·rw [cG (by omega)]
   exact⟨(a,0,h,()),rfl,Int.le_refl _,Int.natCast_nonneg _,ha⟩
theorem ajy(a:List Int)(ha:a.length≤1048576):∃C,IZ (a,())=some (C,())∧eZ C:=ajx a ha 4000 aP _ 0 (by omega) (by rw [qB];omega)
theorem size_le(a:List Int)(n:Int):∃k,JR (a,n,())=some (k,())∧k≤n:=by
 show ∃k,JQ a n=_∧_
 unfold JQ
 by_cases h:aH (2+aH (Int.tdiv (a.length:Int) 20))>n
 ·rw [mi h];exact⟨n,rfl,Int.le_refl _⟩
 ·rw [iY h];exact⟨_,rfl,by omega⟩
theorem ajz(a:List Int)(ha:a.length≤1048576):∃v c x,JV (a,())=some (v,c,x,())∧eQ 25 v.2.1:=by
 obtain ⟨C,hn,aQ⟩:=ajy a ha
 obtain ⟨k,hs,hk⟩:=size_le a 50
 show ∃v c x,JU a=_∧_
 unfold JU
 rw [hn,hs]
 simp only [av]
 obtain ⟨v,C,h1,aQ,hv⟩:=ajw aQ k (by omega)
 rw [h1];simp only [av]
 obtain ⟨c,C,h2,aQ,_⟩:=ajs aQ
 rw [h2];simp only [av]
 obtain ⟨x,C,h3,aQ,_⟩:=WB aQ v hv (by omega)
 rw [h3]
 exact⟨v,c,x,rfl,hv⟩
theorem eQ.vb{v:af.D}(h:eQ 25 v.2.1):uJ v:=afp (Nat.le_trans (V5 h) (by decide))
theorem ajA(a:List Int):IY (a,())=some (decide ((a.length:Int)>1048576),()):=rfl
theorem ajB(v:af.D)(x:aK)(i:Int)(q:Nat):∀(r j:Nat),j+r=(ak x).length→(ak x).length≤1000→(pc (q+r+1)).cZ i (j:Int) v v x x=(pc q).bf (aH (i+1)) v v:=by
 intro r
 induction r with
 | zero =>
  intro j hj hl
  show cond (decide ((j:Int)<((ak x).length:Int))) _ ((pc q).bf (aH (i+1)) v v)=_
  rw [cG (by omega)];rfl
 | succ r ih =>
  intro j hj hl
  show cond (decide ((j:Int)<((ak x).length:Int))) (Option.bind (aN (ak x).length (j:Int)) fun v1=>Option.bind (aN (ak x).length (j:Int)) fun v2 =>
   cond (!(bu (J aw (ak x) v1).1 (J aw (ak x) v2).1&&((J aw (ak x) v1).2.1 ==(J aw (ak x) v2).2.1&&true))) (some (false,())) ((pc (q+r+1)).cZ i (aH ((j:Int)+1)) v v x x)) _=_
  rw [ck (by omega),bx (by omega)]
  simp only [cond_true,av,QC,beq_self_eq_true,Bool.and_self,Bool.not_true,cond_false]
  rw [dI (a:=(j:Int)+1) (by omega) (by omega)]
  exact ih (j+1) (by omega) hl
theorem ajC(v:af.D)(hl:v.2.1.length≤1000)(hn:∀x,x∈v.2.1→(ak x).length≤1000):∀(r q i:Nat),i+r=v.2.1.length→r*1010<q→(pc q).bf (i:Int) v v=some (true,()):=by
 intro r
 induction r with
 | zero =>
  intro q i hi hq
  obtain ⟨q,rfl,_⟩:=fuel (show 0<q by omega)
  show zd (pc q) (i:Int) v v=_
  unfold zd
  rw [cG (by omega)];rfl
 | succ r ih =>
  intro q i hi hq
  obtain ⟨q,rfl,Wz⟩:=fuel (show 0<q by omega)
  show zd (pc q) (i:Int) v v=_
  unfold zd
  rw [ck (by omega),bx (by omega)]
  simp only [cond_true,av,QC,bne_self_eq_false,Bool.not_true,cond_false]
  have hx:=hn _ (cI (t:=I) (show i<v.2.1.length by omega))
  generalize hN:(ak (J I v.2.1 i)).length=N at hx
  obtain ⟨p,rfl⟩:∃p,q=p+N+1:=⟨q-N-1,by omega⟩
  have h1:=ajB v (J I v.2.1 i) (i:Int) p N 0 (by omega) (by omega)
  rw [dI (a:=(i:Int)+1) (by omega) (by omega)] at h1
  have au:r*1010<p:=by
   clear h1 ih
   rw [Nat.add_mul,Nat.one_mul] at hq
   generalize r*1010=R at hq ⊢
   omega
  exact h1.trans (ih p (i+1) (by omega) au)
theorem WJ{v:af.D}{n:Nat}(h:eQ n v.2.1)(hn:n≤1000):EH (v,v,())=some (true,()):=by
 show EG (pc aP) v v=_
 unfold EG
 simp only [bne_self_eq_false,cond_false]
 have hl:=h.len
 exact ajC v (by omega) (fun x hx=>by have:=(h.po x hx).cJ;omega) v.2.1.length aP 0 (by omega) (by rw [qB];omega)
theorem bI.vb{v:af.D}(h:bI v):uJ v:=(h.sz.mono (by omega)).vb
theorem bI.ajD{v:af.D}(h:bI v){i:Nat}(hi:i<v.2.1.length)(hk:kindOf (J I v.2.1 i)=2) :
  ∃B K:Nat,EI (v,a7 (J I v.2.1 i),())=some ((B:Int),(K:Int),())∧(ej (J I v.2.1 i)>0→(B:Int)≤ej (J I v.2.1 i))∧(dC (J I v.2.1 i)>0→(K:Int)≤dC (J I v.2.1 i)):=by
 have hb:=h.vb
 show ∃B K:Nat,K6 v (a7 (J I v.2.1 i))=_∧_
 unfold K6
 rw [Fm v hb,pq.2 h]
 simp only [av,Bool.not_true,cond_false]
 rw [Ft v _ hb.len]
 have ag:kL v.2.1 (a7 (J I v.2.1 i))=true:=by
  have:=h.ga i hi
  unfold kL
  rw [show bj v.2.1 (a7 (J I v.2.1 i))=some i from this]
  exact cB hk
 rw [ag]
 simp only [av,Bool.not_true,cond_false]
 obtain ⟨out,hf,he⟩:=Mi v (a7 (J I v.2.1 i)) hb.len hb.cJ hb.bytes
 obtain ⟨kX,hK⟩:=Mj h.ga h.gZ hf
 rw [he]
 refine⟨_,_,rfl,?_,?_⟩
 ·intro hm
  have:=Nk.1 h.over _ (cI hi)
  unfold hS at this
  rw [decide_eq_true hm] at this
  simp only [Bool.true_and,Bool.or_eq_false_iff,decide_eq_false_iff_not,Int.not_lt] at this
  rw [kX];exact this.1
 ·intro hm
  have:=Nk.1 h.over _ (cI hi)
  unfold hS at this
  rw [decide_eq_true hm] at this
  simp only [Bool.true_and,Bool.or_eq_false_iff,decide_eq_false_iff_not,Int.not_lt] at this
  rw [hK];exact this.2
theorem bI.parent{v:af.D}(h:bI v){i:Nat}(hi:i<v.2.1.length)(hk:kindOf (J I v.2.1 i)=2):∃p,uB (v,a7 (J I v.2.1 i),())=some (p,())∧p≠0:=by
 have hb:=h.vb
 show ∃p,K7 v (a7 (J I v.2.1 i))=_∧_
 unfold K7
 rw [Fm v hb,pq.2 h]
 simp only [av,Bool.not_true,cond_false]
 rw [Ft v _ hb.len]
 have ag:kL v.2.1 (a7 (J I v.2.1 i))=true:=by
  unfold kL
  rw [show bj v.2.1 (a7 (J I v.2.1 i))=some i from h.ga i hi]
  exact cB hk
 rw [ag]
 simp only [av,Bool.not_true,cond_false]
 rw [UJ v _ hb.len hb.cJ]
 refine⟨_,rfl,?_⟩
 obtain ⟨j,hj,_⟩:=FA (h.afL hb) (a7 (J I v.2.1 i))
 obtain ⟨x4,j_⟩:=bX hj
 have:=(h.ids j x4).1
 have e:a7 (J I v.2.1 j)=jW v.2.1 (a7 (J I v.2.1 i)):=j_
 omega
theorem bI.ajE{v:af.D}(h:bI v){i:Nat}(hi:i<v.2.1.length):∃k,EF (v,a7 (J I v.2.1 i),())=some (k,())∧1≤k∧k=oq v.2.1 (J I v.2.1 i):=by
 have hb:=h.vb
 show ∃k,K5 v (a7 (J I v.2.1 i))=_∧_
 unfold K5
 rw [mo v _ hb.len (show bj v.2.1 (a7 (J I v.2.1 i))=some i from h.ga i hi)]
 simp only [av,List.isEmpty_cons,Bool.not_false,cond_true]
 rw [Fm v hb,pq.2 h]
 simp only [av,cond_true]
 have hn:=(h.sz.get hi).cJ
 rw [show J I [J I v.2.1 i] 0=J I v.2.1 i from rfl,UM v _ hb.len hb.cJ (by omega)]
 refine⟨_,rfl,?_,rfl⟩
 unfold oq
 by_cases hk:kindOf (J I v.2.1 i)=2
 ·rw [dH hk];simp only [cond_false];omega
 ·rw [c0 hk]
  simp only [cond_true]
  have hi0:1≤i:=by
   rcases Nat.eq_zero_or_pos i with h0 | h0
   ·subst h0;exact absurd h.root.2 hk
   ·exact h0
  have fI:=h.reach i hi0 hi
  have hne:cg v.2.1 (J I v.2.1 i).1≠0:=by
   intro h0
   have hE:∃a,E v.2.1 a (J I v.2.1 i).1:=by
    cases fI with
    | single h1=>exact⟨_,h1⟩
    | tail _ h1=>exact⟨_,h1⟩
   obtain ⟨a,j,d,hj,ag,he⟩:=hE
   exact FL h0 _ (cI (bX hj).1) d ag he
  omega
theorem ov.next{v:af.D}{c:aJ.D}{x:aG.D}{w:af.D}(h:ov v c x w):w.1=v.1∨w.1=v.1+1:=by
 rcases h with⟨_,h⟩ | ⟨_,h⟩ | ⟨_,h⟩ | ⟨_,h⟩ | ⟨_,h⟩ | ⟨_,h⟩ | ⟨_,h⟩ | ⟨_,h⟩ | ⟨_,h⟩
 ·obtain ⟨r,i,_,_,_,_,_,_,_,_,_,rfl,_⟩:=h.out;exact .inr rfl
 ·obtain ⟨r,i,j,_,_,_,_,_,_,_,_,_,_,rfl⟩:=h.out;exact .inl rfl
 ·obtain ⟨r,t,i,j,_,_,_,_,_,_,_,_,_,_,rfl,_⟩:=h.out;exact .inl rfl
 ·obtain ⟨r,t,j,_,_,_,_,_,_,_,_,h⟩:=h.out
  rcases h with⟨_,rfl⟩ | ⟨_,_,l,ir,it,_,rfl,_⟩
  ·exact .inl rfl
  ·exact .inl rfl
 ·obtain ⟨r,i,_,_,_,_,_,_,_,h⟩:=h.out
  rcases h with⟨_,_,rfl⟩ | ⟨_,_,rfl,_⟩
  ·exact .inl rfl
  ·exact .inl rfl
 ·obtain ⟨_,_,r,i,_,_,_,_,_,rfl⟩:=h.out;exact .inl rfl
 ·obtain ⟨_,_,r,i,_,_,_,rfl⟩:=h.out;exact .inl rfl
 ·obtain ⟨_,_,_,r,i,_,_,_,_,rfl,_⟩:=h.out;exact .inl rfl
 ·rw [h];exact .inl rfl
theorem ajF(k:Int):∃b,K9 (k,())=some (b,())∧(b=true→k=4∨k=11∨k=13∨k=14∨k=17∨k=18∨k=20∨k=21):=by
 show ∃b,K8 k=_∧_
 unfold K8
 by_cases h1:k=4
 ·rw [cB h1];exact⟨true,rfl,fun _=>by omega⟩
 by_cases h2:k=11
 ·rw [bG h1,cB h2];exact⟨true,rfl,fun _=>by omega⟩
 by_cases h3:k=13
 ·rw [bG h1,bG h2,cB h3];exact⟨true,rfl,fun _=>by omega⟩
 by_cases h4:k=14
 ·rw [bG h1,bG h2,bG h3,cB h4];exact⟨true,rfl,fun _=>by omega⟩
 by_cases aZ:k=17
 ·rw [bG h1,bG h2,bG h3,bG h4,cB aZ];exact⟨true,rfl,fun _=>by omega⟩
 by_cases bd:k=18
 ·rw [bG h1,bG h2,bG h3,bG h4,bG aZ,cB bd];exact⟨true,rfl,fun _=>by omega⟩
 by_cases bC:k=20
 ·rw [bG h1,bG h2,bG h3,bG h4,bG aZ,bG bd,cB bC];exact⟨true,rfl,fun _=>by omega⟩
 by_cases cU:k=21
 ·rw [bG h1,bG h2,bG h3,bG h4,bG aZ,bG bd,bG bC,cB cU];exact⟨true,rfl,fun _=>by omega⟩
 rw [bG h1,bG h2,bG h3,bG h4,bG aZ,bG bd,bG bC,bG cU]
 exact⟨false,rfl,fun h=>by cases h⟩
theorem qP.tell{v:af.D}{c:aJ.D}{x:aG.D}{w:af.D}{k:Int}{t:aF}(h:qP v c x w k t)(hv:jd v=true)(hk:aA x=4∨aA x=11∨aA x=13∨aA x=14∨aA x=17∨aA x=18∨aA x=20∨aA x=21):w=v:=by
 cases hc:df c with
 | false=>exact(h.F8 hv hc).1
 | true =>
 cases hcall:jU x with
 | false=>exact(h.call hv hc (.inl hcall)).1
 | true =>
 by_cases iO:20<aA x
 ·exact(h.call hv hc (.inr iO)).1
 by_cases h0:k=0
 ·rcases h.done hv hc hcall (by omega) h0 with⟨ag,_⟩ | ⟨ag,_⟩ | ⟨ag,_⟩ | ⟨ag,_⟩ | ⟨ag,_⟩ | ⟨ag,_⟩ | ⟨ag,_⟩ | ⟨ag,_⟩ | ⟨_,ag⟩
  all_goals first | exact ag | (exfalso;omega)
 ·exact h.no hv h0
theorem ajG(v:af.D)(x:aG.D)(w:af.D)(hw:bI w)(ht:aA x=4∨aA x=11∨aA x=13∨aA x=14∨aA x=17∨aA x=18∨aA x=20∨aA x=21→w=v) :
  ∀(r q i:Nat),i+r=w.2.1.length→2*r<q→(qx q).eX (i:Int) v x w=some (true,()):=by
 intro r
 induction r with
 | zero =>
  intro q i hi hq
  obtain ⟨q,rfl,_⟩:=fuel (show 0<q by omega)
  show ze (qx q) (i:Int) v x w=_
  unfold ze
  rw [cG (by omega)]
  simp only [cond_false]
  obtain ⟨b,hb,dj⟩:=ajF x.1
  rw [hb]
  simp only [av]
  cases b with
  | false=>rfl
  | true =>
   have e:=ht (dj rfl)
   subst e
   simp only [Bool.not_true,cond_false]
   rw [WJ hw.sz (by omega)];rfl
 | succ r ih =>
  intro q i hi hq
  obtain ⟨q,rfl,Wz⟩:=fuel (show 0<q by omega)
  have bJ:i<w.2.1.length:=by omega
  have WK:(qx q).mc (i:Int) v x w (J I w.2.1 i)=some (true,()):=by
   obtain ⟨q,rfl,akq⟩:=fuel (show 0<q by omega)
   show K_ (qx q) (i:Int) v x w (J I w.2.1 i)=_
   unfold K_
   obtain ⟨k,hk,hk1,_⟩:=hw.ajE bJ
   rw [show EF (w,(J I w.2.1 i).1,())=some (k,()) from hk]
   simp only [av]
   have hl:=hw.len.2
   rw [iY (by omega),dI (a:=(i:Int)+1) (by omega) (by omega)]
   exact ih q (i+1) (by omega) (by omega)
  show ze (qx q) (i:Int) v x w=_
  unfold ze
  rw [ck bJ,bx bJ]
  simp only [cond_true,av,Nat.zero_add]
  show cond (kindOf (J I w.2.1 i)==2) _ _=_
  by_cases hk:kindOf (J I w.2.1 i)=2
  case neg=>rw [bG hk];exact WK
  rw [cB hk]
  simp only [cond_true]
  obtain ⟨B,K,hu,fI,xN⟩:=hw.ajD bJ hk
  obtain ⟨p,au,Wr⟩:=hw.parent bJ hk
  rw [show EI (w,(J I w.2.1 i).1,())=some ((B:Int),(K:Int),()) from hu,show uB (w,(J I w.2.1 i).1,())=some (p,()) from au]
  simp only [av]
  rw [bG Wr,WK]
  show cond (decide (ej (J I w.2.1 i)>0)) (cond (decide ((B:Int)>ej (J I w.2.1 i))) _ (cond (decide (dC (J I w.2.1 i)>0)) (cond (decide ((K:Int)>dC (J I w.2.1 i))) _ _) _)) (cond (decide (dC (J I w.2.1 i)>0)) (cond (decide ((K:Int)>dC (J I w.2.1 i))) _ _) _)=_
  have fV:∀o:Option (Bool×Unit),cond (decide (dC (J I w.2.1 i)>0)) (cond (decide ((K:Int)>dC (J I w.2.1 i))) o (some (true,()))) (some (true,()))=some (true,()):=by
   intro o
   by_cases h:dC (J I w.2.1 i)>0
   ·have:=xN h
    rw [mi h,iY (by omega)];rfl
   ·rw [iY h];rfl
  simp only [cond_false]
  rw [fV]
  by_cases h:ej (J I w.2.1 i)>0
  ·have:=fI h
   rw [mi h,iY (by omega)];rfl
  ·rw [iY h];rfl
theorem qP.next{v:af.D}{c:aJ.D}{x:aG.D}{w:af.D}{k:Int}{t:aF}(h:qP v c x w k t)(hv:jd v=true):w.1=v.1∨w.1=v.1+1:=by
 have h0:w=v→w.1=v.1∨w.1=v.1+1:=fun e=>by rw [e];exact .inl rfl
 cases hc:df c with
 | false=>exact h0 (h.F8 hv hc).1
 | true =>
 cases hcall:jU x with
 | false=>exact h0 (h.call hv hc (.inl hcall)).1
 | true =>
 by_cases iO:20<aA x
 ·exact h0 (h.call hv hc (.inr iO)).1
 by_cases hk:k=0
 ·exact(h.done hv hc hcall (by omega) hk).next
 ·exact h0 (h.no hv hk)
theorem aiC(a:List Int):Sb (a,())=some (true,()):=by
 obtain ⟨q,hq,_⟩:=i_ 4
 show EJ (qx aP) a=_
 unfold EJ
 rw [ajA]
 simp only [av]
 by_cases ha:(a.length:Int)>1048576
 ·rw [mi ha];rfl
 rw [iY ha]
 simp only [cond_false]
 obtain ⟨v,c,x,ag,hsz⟩:=ajz a (by omega)
 obtain ⟨w,k,t,hs,hi,uX⟩:=ahQ v c x hsz.vb
 rw [ag]
 simp only [av]
 rw [hi,Ml v hsz.vb]
 simp only [av]
 cases b9:jd v with
 | false =>
  obtain ⟨rfl,rfl,rfl⟩:=uX.bad b9
  rfl
 | true =>
 simp only [Bool.not_true,cond_false]
 have hw:=pq.1 (uX.ok b9)
 have dt:=pq.1 b9
 rw [Ml w hw.vb,uX.ok b9]
 simp only [av,Bool.not_true,cond_false]
 have hn:2≤et v∧et v≤100000:=dt.next
 have FP:et w=et v∨et w=et v+1:=uX.next b9
 have e1:aH (v.1+1)=v.1+1:=dI (a:=et v+1) (by omega) (by omega)
 have e2:decide (w.1<v.1)=false:=iY (show ¬et w<et v by omega)
 have e3:decide (w.1>v.1+1)=false:=iY (show ¬et w>et v+1 by omega)
 have ajH:(qx aP).eX 0 v x w=some (true,()):=by
  have hl:=hw.len.2
  exact ajG v x w hw (fun h=>uX.tell b9 h) w.2.1.length aP 0 (by omega) (by rw [qB];omega)
 rw [ajH,e1,e2,e3]
 by_cases h0:k=0
 ·rw [dH h0];rfl
 ·have e:=uX.no b9 h0
  have ajI:t=[]:=by rcases uX.data with h | h;exact absurd h h0;exact h
  subst e ajI
  rw [c0 h0,WJ hw.sz (by omega)]
  rfl
end Go.LM.kb
