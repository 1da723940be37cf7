/- What is drawn, and the law. Conditions: each theorem's own hypotheses. -/
import Derived.Test.YtklmgcjamifmaaaGreatDoorMVe
set_option linter.unusedVariables false
set_option linter.unusedSimpArgs false
namespace Go.LM.kD
theorem A4{n:Nat}{i:Int}(h:0≤i)(h':i<n):aM n i=some i.toNat:=by
 rw [show aM n i=aM n ((i.toNat:Nat):Int) by congr 1;omega]
 exact bx (by omega)
abbrev fC:Type:=bq.D
def fh(C:fC):Prop:=0≤C.2.1∧C.2.1≤(C.1.length:Int)∧C.1.length≤1048576
def a_{α : Type}(o:Option (α × bq.D×Unit))(Q : α → Prop):Prop:=∃x C,o=some (x,C,())∧fh C∧Q x
theorem a_.ret{α : Type}{x : α}{C:fC}{Q : α → Prop}(h:fh C)(hq:Q x):a_ (some (x,C,())) Q:=⟨x,C,rfl,h,hq⟩
theorem a_.bind{α β : Type}{o:Option (α × bq.D×Unit)}{f : α × bq.D×Unit→Option (β × bq.D×Unit)}{Q : α → Prop}{R : β → Prop}(h:a_ o Q)
  (hf:∀x C,fh C→Q x→a_ (f (x,C,())) R):a_ (o.bind f) R:=by
 obtain ⟨x,C,rfl,hc,hq⟩:=h
 exact hf x C hc hq
theorem a_.mono{α : Type}{o:Option (α × bq.D×Unit)}{Q R : α → Prop}(h:a_ o Q)(hr:∀x,Q x→R x):a_ o R:=by
 obtain ⟨x,C,h1,h2,h3⟩:=h
 exact⟨x,C,h1,h2,hr x h3⟩
theorem a_.cond{α : Type}{b:Bool}{o p:Option (α × bq.D×Unit)}{Q : α → Prop}(h:a_ o Q)(h':a_ p Q):a_ (cond b o p) Q:=by
 cases b
 ·exact h'
 ·exact h
theorem Xo(x:Int):0≤cR .and .i64 x 255∧cR .and .i64 x 255≤255:=by
 have h:(BitVec.ofInt 64 x &&& BitVec.ofInt 64 255).toNat≤255:=by
  rw [BitVec.toNat_and]
  exact Nat.le_trans Nat.and_le_right (by decide)
 have h':((BitVec.ofInt 64 x &&& BitVec.ofInt 64 255).toNat:Int)≤255:=by omega
 have:cR .and .i64 x 255=((BitVec.ofInt 64 x &&& BitVec.ofInt 64 255).toNat:Int):=te (Int.le_trans (by decide) (Int.natCast_nonneg _)) (Int.le_trans h' (by decide))
 omega
theorem aj8(b:List Int)(i hh:Int)(u:Unit)(h1:0≤i)(h2:i≤(b.length:Int))(h3:b.length≤1048576):a_ (qz (((b,i,hh,u):fC),())) (fun x=>0≤x∧x≤255):=by
 show a_ (JE ((b,i,hh,u):fC)) _
 unfold JE
 dsimp only
 by_cases hi:i<(b.length:Int)
 ·rw [nR hi,A4 h1 hi]
  refine a_.ret ⟨?_,?_,h3⟩ (Xo _)
  ·show 0≤aG (i+1);rw [dI (a:=i+1) (by omega) (by omega)];omega
  ·show aG (i+1)≤(b.length:Int);rw [dI (a:=i+1) (by omega) (by omega)];omega
 ·rw [mP hi]
  exact a_.ret ⟨h1,h2,h3⟩ (Xo _)
theorem x8{C:fC}(h:fh C):a_ (qz (C,())) (fun x=>0≤x∧x≤255) :=
 aj8 C.1 C.2.1 C.2.2.1 C.2.2.2 h.1 h.2.1 h.2.2
structure Below(n x:Int):Prop where
 lo:0≤x
 hi:0<n→x<n
 no:n≤0→x=0
theorem Xp{x n:Int}(hx:0≤x)(hn:0<n):Below n (Int.tmod x n) :=
 ⟨Int.tmod_nonneg _ hx,fun _=>Int.tmod_lt_of_pos _ hn,fun h=>by omega⟩
theorem gO{C:fC}(h:fh C)(n:Int):a_ (gl (C,n,())) (Below n):=by
 show a_ (JF C n) _
 unfold JF
 by_cases h0:n≤0
 ·rw [nR h0];exact a_.ret h ⟨Int.le_refl _,fun h=>by omega,fun _=>rfl⟩
 rw [mP h0]
 by_cases h1:n≤256
 ·rw [nR h1]
  refine(x8 h).bind fun x C aR hx=>?_
  dsimp only
  rw [cV (by omega:n≠0)]
  exact a_.ret aR (Xp hx.1 (by omega))
 ·rw [mP h1]
  refine(x8 h).bind fun x C aR hx=>(x8 aR).bind fun y C aR aN=>(x8 aR).bind fun z C aR hz=>(x8 aR).bind fun w C aR hw=>?_
  dsimp only
  rw [cV (by omega:n≠0)]
  refine a_.ret aR (Xp ?_ (by omega))
  rw [dI (a:=x*16777216) (by omega) (by omega),dI (a:=y*65536) (by omega) (by omega),dI (a:=z*256) (by omega) (by omega),dI (a:=x*16777216+y*65536) (by omega) (by omega),dI (a:=x*16777216+y*65536+z*256) (by omega) (by omega),dI (a:=x*16777216+y*65536+z*256+w) (by omega) (by omega)]
  omega
theorem x9{C:fC}(h:fh C)(n:Int):a_ (r2 (C,n,())) (fun _=>True) :=
 (gO h n).bind fun x C aR _=>a_.ret aR trivial
theorem kP{C:fC}(h:fh C)(l:List Int)(hl:0<l.length):a_ (je (C,l,())) (fun x=>x∈l):=by
 show a_ (J' C l) _
 unfold J'
 refine(gO h _).bind fun x C aR hx=>?_
 dsimp only
 have:=hx.hi (by omega)
 rw [A4 hx.lo this]
 refine a_.ret aR ?_
 rw [Nat.zero_add]
 exact cJ (t:=.int .i64) (by have:=hx.lo;omega)
theorem GY{C:fC}(h:fh C)(l:List aF)(hl:0<l.length):a_ (qJ (C,l,())) (fun x=>x∈l):=by
 show a_ (Kc C l) _
 unfold Kc
 refine(gO h _).bind fun x C aR hx=>?_
 dsimp only
 have:=hx.hi (by omega)
 rw [A4 hx.lo this]
 refine a_.ret aR ?_
 rw [Nat.zero_add]
 exact cJ (t:=.str) (by have:=hx.lo;omega)
theorem Oa{C:fC}(h:fh C)(n:Nat)(l:List aF)(hl:0<l.length)(hn:l.all fun s=>decide (s.length≤n)):a_ (qJ (C,l,())) (fun x=>x.length≤n) :=
 (GY h l hl).mono fun x hx=>by simpa using List.all_eq_true.1 hn x hx
theorem aj9(U:Int):∀(r q:Nat) (ai:List Int) (C:fC),fh C→ai.length+r≤1000→2*r<q→a_ ((sg q).ba U (r:Int) C ai) (fun s=>s.length≤ai.length+r):=by
 intro r
 induction r with
 | zero =>
  intro q ai C aR hl hq
  obtain ⟨q,rfl,_⟩:=fuel hq
  show a_ (zB (sg q) U ((0:Nat):Int) C ai) (fun s=>s.length≤ai.length+0)
  unfold zB
  rw [mP (by omega)]
  exact a_.ret aR (by simp [gB])
 | succ r ih =>
  intro q ai C aR hl hq
  obtain ⟨q,rfl,hq⟩:=fuel hq
  show a_ (zB (sg q) U _ C ai) _
  unfold zB
  rw [nR (by omega)]
  refine(x8 aR).bind fun y C aR _=>?_
  have hk:∀y,a_ ((sg q).c3 U ((r+1:Nat):Int) y C ai) (fun s=>s.length≤ai.length +(r+1)):=fun y=>by
   obtain ⟨q,rfl,hq⟩:=fuel (show 2*r+1<q by omega)
   show a_ (Kb (sg q) U _ y C ai) _
   unfold Kb
   rw [cI (by simp;omega),dI (by omega) (by omega),show((r+1:Nat):Int)-1=(r:Int) by omega]
   exact(ih q _ C aR (by simp;omega) (by omega)).mono fun s hs=>by simp at hs;omega
  exact a_.cond (a_.cond (hk _) (hk _)) (a_.cond (hk _) (hk _))
theorem aj_{C:fC}(h:fh C)(n:Nat)(hn:n≤900):a_ (zC (C,(n:Int),())) (fun s=>s.length≤n):=by
 show a_ (DD (sg aP) C n) _
 unfold DD
 refine(gO h _).bind fun x C aR hx=>(gO aR _).bind fun y C aR aN=>?_
 dsimp only
 rw [dI (a:=(n:Int)+1) (by omega) (by omega)] at aN
 have h1:=aN.lo;have h2:=aN.hi (by omega)
 have:=aj9 x y.toNat aP [] C aR (by simp;omega) (by rw [sF];omega)
 rw [Int.toNat_of_nonneg h1] at this
 exact this.mono fun s hs=>by simp at hs;omega
theorem Xq{C:fC}(h:fh C):a_ (xc (C,())) (fun s=>s.length≤3):=by
 show a_ (Kd C) _
 unfold Kd
 exact(Oa h 3 _ (by decide) (by decide)).bind fun s C aR hs=>a_.ret aR hs
theorem Xr(q:Nat){C:fC}(aR:fh C)(s:aF):a_ ((oP (q+1)).xd s C) (fun _=>True):=by
 show a_ (Kf (oP q) s C) _
 unfold Kf
 refine(x9 aR 30).bind fun b C aR _=>?_
 dsimp only
 exact a_.cond ((GY aR _ (by decide)).bind fun y C aR _=>a_.ret aR trivial) (a_.ret aR trivial)
theorem Xs(q:Nat){C:fC}(aR:fh C)(s:aF)(hs:s.length≤1000):a_ ((oP (q+2)).mI s C) (fun _=>True):=by
 show a_ (Ke (oP (q+1)) s C) _
 unfold Ke
 rw [cI (by simp;omega)]
 exact Xr q aR _
theorem aj':∀(r q:Nat) (s:aF) (C:fC),fh C→s.length+20*r≤900→r<q→a_ ((oP (q+2)).k3 s (r:Int) C) (fun _=>True):=by
 intro r
 induction r with
 | zero =>
  intro q s C aR hs hq
  obtain ⟨q,rfl,_⟩:=fuel hq
  show a_ (zD (oP (q+2)) s ((0:Nat):Int) C) _
  unfold zD
  rw [mP (by omega),cond_false]
  refine a_.cond (Xs q aR s (by omega)) ?_
  refine(x9 aR 20).bind fun b C aR _=>?_
  dsimp only
  exact a_.cond (Xs q aR s (by omega)) (Xr (q+1) aR s)
 | succ r ih =>
  intro q s C aR hs hq
  obtain ⟨q,rfl,hq⟩:=fuel hq
  show a_ (zD (oP (q+2)) s _ C) _
  unfold zD
  rw [nR (by omega),cI (by simp;omega),dI (a:=((r+1:Nat):Int)-1) (by omega) (by omega),show((r+1:Nat):Int)-1=(r:Int) by omega]
  refine(Xq aR).bind fun n C aR hn=>?_
  dsimp only
  rw [cI (by simp;omega)]
  refine(gO aR 14).bind fun k C aR _=>?_
  dsimp only
  have hk:∀(t:aF) C,fh C→t.length≤9→a_ (cond (room (((s++([47]:List UInt8))++n).length+t.length)) ((oP (q+2)).k3 (((s++([47]:List UInt8))++n)++t) (r:Int) C) none) (fun _=>True):=fun t C aR ht=>by
   rw [cI (by simp;omega)]
   exact ih q _ C aR (by simp;omega) (by omega)
  refine a_.cond (hk _ C aR (by simp)) (a_.cond (hk _ C aR (by simp)) (a_.cond (hk _ C aR (by simp)) (a_.cond ?_ ?_)))
  ·refine(Oa aR 9 _ (by decide) (by decide)).bind fun y C aR aN=>?_
   exact hk y C aR aN
  ·exact ih q _ C aR (by simp;omega) (by omega)
theorem Xt{C:fC}(h:fh C):a_ (DF (C,())) (fun _=>True):=by
 show a_ (DE (oP aP) C) _
 unfold DE
 refine(gO h 5).bind fun x C aR hx=>?_
 dsimp only
 have h1:=hx.lo;have h2:=hx.hi (by omega)
 obtain ⟨q,hq,aka⟩:=iI 2
 have:=aj' x.toNat q [] C aR (by simp;omega) (by omega)
 rw [Int.toNat_of_nonneg h1,← hq] at this
 exact this
theorem akb(v:ae.D){n:Nat}(hv:eV n v.2.1)(hn:n≤1000):∀(r q:Nat) (s:aF) (at_:Int) (C:fC),fh C→s.length+9*r≤900→r<q→a_ (uJ q s at_ ((r:Int)-1) C v) (fun _=>True):=by
 intro r
 induction r with
 | zero =>
  intro q s at_ C aR hs hq
  obtain ⟨q,rfl,_⟩:=fuel hq
  show a_ (xe (uJ q) s at_ _ C v) _
  unfold xe
  rw [mP (by omega)]
  exact a_.ret aR trivial
 | succ r ih =>
  intro q s at_ C aR hs hq
  obtain ⟨q,rfl,hq⟩:=fuel hq
  show a_ (xe (uJ q) s at_ _ C v) _
  unfold xe
  rw [nR (show((r+1:Nat):Int)-1≥0 by omega),l1 v at_ (by have:=hv.len;omega)]
  simp only [cond_true,av]
  have jd:∀C,fh C→a_ (cond (room (s.length +([47]:List UInt8).length)) ((xc (C,())).bind fun v2=>cond (room ((s++([47]:List UInt8)).length+v2.1.length)) (some ((s++([47]:List UInt8))++v2.1,v2.2.1,())) none) none) (fun _=>True):=fun C aR=>by
   rw [cI (by simp;omega)]
   refine(Xq aR).bind fun m C aR hm=>?_
   dsimp only
   rw [cI (by simp;omega)]
   exact a_.ret aR trivial
  cases hi:bd v.2.1 at_ with
  | none=>exact jd C aR
  | some d =>
   have ag:=(bT hi).1
   rw [show decide (hd (some d)<0)=false from mP (show ¬((d:Int)<0) by omega)]
   rw [show aM v.2.1.length (hd (some d))=some d from bx ag]
   simp only [cond_false,av]
   by_cases h0:(ak (J I v.2.1 d)).length=0
   ·rw [cF (show(((J I v.2.1 d).2.2.2.2.2.2.1).length:Int)=0 from by have:(ak (J I v.2.1 d)).length=0:=h0;exact congrArg (fun k:Nat=>(k:Int)) this)]
    exact jd C aR
   ·rw [b5 (show(((J I v.2.1 d).2.2.2.2.2.2.1).length:Int)≠0 from by have:(ak (J I v.2.1 d)).length≠0:=h0;exact fun h=>this (Int.ofNat.inj h))]
    simp only [cond_false,k7]
    refine(gO aR _).bind fun k C aR hk=>?_
    have cz:k<((ak (J I v.2.1 d)).length:Int):=hk.hi (by show(0:Int)<((ak (J I v.2.1 d)).length:Int);omega)
    have P_:=hk.lo
    dsimp only
    rw [show aM (((J I v.2.1 d).2.2.2.2.2.2.1).length) k=some k.toNat from A4 hk.lo cz]
    simp only [av]
    have cG:((J aw (ak (J I v.2.1 d)) k.toNat).1).length≤8:=(hv.get ag).each _ (cJ (by omega))
    have cG:((J aw ((J I v.2.1 d).2.2.2.2.2.2.1) k.toNat).1).length≤8:=cG
    rw [cI (by simp;omega)]
    simp only [cond_true]
    rw [cI (n:=(s++([47]:List UInt8)).length +((J aw ((J I v.2.1 d).2.2.2.2.2.2.1) k.toNat).1).length) (by simp;omega)]
    simp only [cond_true]
    rw [dI (a:=((r+1:Nat):Int)-1-1) (by omega) (by omega),show((r+1:Nat):Int)-1-1=(r:Int)-1 by omega]
    refine ih q _ _ C aR ?_ (by omega)
    simp only [List.length_append,List.length_singleton];omega
theorem Xu{C:fC}(h:fh C)(v:ae.D){n:Nat}(hv:eV n v.2.1)(hn:n≤1000):a_ (xf (C,v,())) (fun _=>True):=by
 show a_ (DH (uJ aP) C v) _
 unfold DH
 refine(x9 h 4).bind fun b C aR _=>?_
 dsimp only
 refine a_.cond ((Xt aR).bind fun y C aR _=>a_.ret aR trivial) ?_
 refine(gO aR 4).bind fun x C aR hx=>?_
 dsimp only
 have h1:=hx.lo;have h2:=hx.hi (by omega)
 have:=akb v hv hn (x.toNat+1) aP [] 1 C aR (by simp;omega) (by rw [sF];omega)
 rw [show((x.toNat+1:Nat):Int)-1=x by omega] at this
 exact this
theorem akc{n:Nat}{lo hi:Int}(h:0≤lo)(h':lo≤hi)(akd:hi≤n):d_ n lo hi=some (lo.toNat,hi.toNat):=by
 unfold d_
 rw [if_pos ⟨h,h',akd⟩]
theorem Ob{C:fC}(h:fh C):a_ (zA (C,())) (fun c=>c9 c=true):=by
 show a_ (Ka C) _
 unfold Ka
 refine(gO h 4).bind fun x C aR _=>?_
 dsimp only
 have h0:a_ (some (((0,0,([]:List Int),()):aH.D),C,())) (fun c=>c9 c=true):=a_.ret aR (by kernel_rfl)
 have h2:a_ (some (((2,2,[5],()):aH.D),C,())) (fun c=>c9 c=true):=a_.ret aR (by kernel_rfl)
 have h3:a_ (some (((3,2,([]:List Int),()):aH.D),C,())) (fun c=>c9 c=true):=a_.ret aR (by kernel_rfl)
 exact a_.cond (a_.cond h0 (a_.cond h2 h3)) (a_.cond h0 (a_.cond h2 h3))
theorem ake{C:fC}(h:fh C):a_ (Kt (C,())) (fun _=>True):=by
 show a_ (Ks C) _
 unfold Ks
 refine(Ob h).bind fun c C aR _=>?_
 refine(x9 aR 10).bind fun b C aR _=>?_
 dsimp only
 refine a_.cond ?_ (a_.ret aR trivial)
 refine(gO aR 3).bind fun x C aR _=>?_
 dsimp only
 refine a_.cond ((kP aR _ (by decide)).bind fun y C aR _=>a_.ret aR trivial) (a_.cond ((kP aR _ (by decide)).bind fun y C aR _=>a_.ret aR trivial) ?_)
 refine(gO aR 2).bind fun y C aR aN=>?_
 dsimp only
 have h1:=aN.lo;have h2:=aN.hi (by omega)
 rw [dI (a:=4+y) (by omega) (by omega)]
 show a_ ((d_ 5 0 (4+y)).bind fun bu=>some (((c.1,c.2.1,part ([1,2,3,4,5]:List Int) (0+bu.1) (bu.2-bu.1),()):aH.D),C,())) _
 rw [akc (Int.le_refl _) (by omega) (by omega)]
 exact a_.ret aR trivial
theorem call32(m:Nat){C:fC}(aR:fh C)(aa af:aI.D)(ag:af.2.2.2.2.2.1.length≤100):a_ ((ld (m+1)).fZ C aa af) (fun _=>True):=by
 show a_ (Kj (ld m) C aa af) _
 unfold Kj
 refine(x9 aR 25).bind fun b C aR _=>?_
 dsimp only
 refine a_.cond ?_ (a_.ret aR trivial)
 refine(gO aR 6).bind fun z C aR _=>?_
 dsimp only
 refine a_.cond ((kP aR _ (by decide)).bind fun y C aR _=>a_.ret aR trivial) (a_.cond ((kP aR _ (by decide)).bind fun y C aR _=>a_.ret aR trivial)
  (a_.cond ((kP aR _ (by decide)).bind fun y C aR _=>a_.ret aR trivial) (a_.cond ?_ (a_.cond ((GY aR _ (by decide)).bind fun y C aR _=>a_.ret aR trivial) ((Xt aR).bind fun y C aR _=>a_.ret aR trivial)))))
 rw [cI (by simp;omega)]
 exact a_.ret aR trivial
theorem call19(m:Nat){C:fC}(aR:fh C)(v:ae.D){n:Nat}(hv:eV n v.2.1)(hn:n≤1000)(aa af:aI.D)(ag:af.2.2.2.2.2.1.length≤100):a_ ((ld (m+2)).oO C v aa af) (fun _=>True):=by
 show a_ (Kk (ld (m+1)) C v aa af) _
 unfold Kk
 refine(Xu aR v hv hn).bind fun s C aR _=>?_
 exact call32 m aR _ _ ag
theorem call20(m:Nat){C:fC}(aR:fh C)(k:Int)(aa af:aI.D)(ag:af.2.2.2.2.2.1.length≤100):a_ ((ld (m+2)).iH k C aa af) (fun _=>True):=by
 show a_ (Kl (ld (m+1)) k C aa af) _
 unfold Kl
 refine a_.cond ((GY aR _ (by decide)).bind fun y C aR _=>call32 m aR _ _ ag) (a_.cond ((gO aR 2).bind fun y C aR _=>call32 m aR _ _ ag)
  (a_.cond ((kP aR _ (by decide)).bind fun y C aR _=>(kP aR _ (by decide)).bind fun z C aR _=>call32 m aR _ _ ag) (a_.cond ((gO aR 8).bind fun y C aR _=>call32 m aR _ _ ag)
   (a_.cond ((kP aR _ (by decide)).bind fun y C aR _=>(kP aR _ (by decide)).bind fun z C aR _=>call32 m aR _ _ ag) (call32 m aR _ _ ag)))))
theorem Xv{C:fC}(h:fh C)(v:ae.D){n:Nat}(hv:eV n v.2.1)(hn:n≤1000):a_ (DJ (C,v,())) (fun _=>True):=by
 obtain ⟨m,hm,_⟩:=iI 4
 show a_ (DI (ld aP) C v) _
 rw [hm]
 unfold DI
 simp only [k7,uc]
 refine(kP h _ (by decide)).bind fun k C aR _=>(Xu aR v hv hn).bind fun s C aR _=>?_
 dsimp only
 show a_ (Kg (ld (m+3)) C v _ _) _
 unfold Kg
 have bh:∀(aa af:aI.D),af.2.2.2.2.2.1.length≤100→a_ ((ld (m+3)).dh C aa af) (fun _=>True):=fun aa af ag=>by
  show a_ (Kh (ld (m+2)) C aa af) _
  unfold Kh
  exact(kP aR _ (by decide)).bind fun y C aR _=>call32 (m+1) aR _ _ ag
 have bH:∀(k:Int) (aa af:aI.D),af.2.2.2.2.2.1.length≤100→a_ ((ld (m+3)).dj k C v aa af) (fun _=>True):=fun k aa af ag=>by
  show a_ (Ki (ld (m+2)) k C v aa af) _
  unfold Ki
  have GZ:∀ {C:fC},fh C→∀ai:aF→aI.D,(∀t,(ai t).2.2.2.2.2.1=t)→a_ ((zC (C,30,())).bind fun v4=>(ld (m+2)).fZ v4.2.1 aa (ai v4.1)) (fun _=>True):=fun aR ai hx =>
   (aj_ aR 30 (by omega)).bind fun t C aR ht=>call32 (m+1) aR _ _ (by rw [hx];exact Nat.le_trans ht (by omega))
  refine a_.cond ((gO aR 8).bind fun y C aR _=>(gO aR 20).bind fun z C aR _=>call32 (m+1) aR _ _ ag) (a_.cond ((gO aR 20).bind fun y C aR _=>?_) (a_.cond ?_ (a_.cond ((gO aR 70).bind fun y C aR _=>call32 (m+1) aR _ _ ag)
   (a_.cond (a_.cond (call19 m aR v hv hn _ _ ag) (call20 m aR _ _ _ ag)) (a_.cond (call19 m aR v hv hn _ _ ag) (call20 m aR _ _ _ ag))))))
  ·exact GZ aR (fun t=>(af.1,af.2.1,af.2.2.1,y,af.2.2.2.2.1,t,())) fun t=>rfl
  ·exact GZ aR (fun t=>(af.1,af.2.1,af.2.2.1,af.2.2.2.1,af.2.2.2.2.1,t,())) fun t=>rfl
 have ag:([]:aF).length≤100:=by simp
 exact a_.cond (a_.cond (bh _ _ ag) (bH _ _ _ ag)) (a_.cond (a_.cond (bh _ _ ag) (bH _ _ _ ag)) (a_.cond (bh _ _ ag) (bH _ _ _ ag)))
theorem Xw:∀m:Int,m∈[511,511,493,1023,2047]→bz ((2:Int),([(1,2,m,0,0,([]:aF),([]:List aw.D),0,0,())]:List aJ),()):=by
 intro m hm
 simp only [List.mem_cons,List.not_mem_nil,or_false] at hm
 rcases hm with rfl | rfl | rfl | rfl | rfl <;> exact mW.1 (by kernel_rfl)
theorem akf:eV 24 ([(1,2,493,0,0,([]:aF),([]:List aw.D),0,0,())]:List aJ):=(bz.sz (Xw 493 (by decide)))
theorem Xx{C:fC}(h:fh C):a_ (DK (C,())) (fun _=>True):=by
 show a_ (Km C) _
 unfold Km
 rw [show JH ()=some ((2,[(1,2,493,0,0,([]:aF),([]:List aw.D),0,0,())],()),()) from rfl]
 simp only [av]
 exact(Xv h _ akf (by omega)).bind fun x C aR _=>a_.ret aR trivial
theorem Xy(v:ae.D)(c:aH.D)(x:aI.D)(hv:bz v)(hc:c9 c=true):∃w r,kH (v,c,x,())=some (w,r,())∧bz w:=by
 by_cases hx:ke x=true∧az x≤20
 ·obtain ⟨k,t,w,_,h2,h3,_,_⟩:=WS v c x hv hc (vw.1 hx.1) hx.2
  refine⟨_,_,h2,?_⟩
  by_cases h0:k=0
  ·rw [cF h0];exact(h3 h0).ok hv hc (vw.1 hx.1)
  ·rw [b5 h0];exact hv
 ·refine⟨v,(22,[],()),?_,hv⟩
  show sf (zz aP) v c x=_
  unfold sf
  rw [ME]
  simp only [av]
  cases hcall:ke x with
  | false=>rfl
  | true =>
   simp only [Bool.not_true,cond_false]
   rw [decide_eq_true (show x.1>20 from by have:¬az x≤20:=fun h=>hx ⟨hcall,h⟩;exact Int.not_le.1 this)];rfl
theorem Xz:∀m,y8 m=pH m
 | 0=>rfl
 | m+1=>by
  funext U aa af ai
  show JI (y8 m) U aa af ai=y7 (pH m) U aa af ai
  rw [Xz m];rfl
theorem XA{v:ae.D}(h:bz v):y9 (v,())=some (v,()):=by
 have:=h.GO
 rw [show lZ (v,())=y6 (pH aP) v from rfl,← Xz] at this
 exact this
theorem akg(v0:ae.D):∀(r q:Nat) (C:fC) (v:ae.D),fh C→bz v→r≤1000→r<q→a_ (uK q ((r:Int)+1) C v0 v) bz:=by
 intro r
 induction r with
 | zero =>
  intro q C v aR hv hr hq
  obtain ⟨q,rfl,_⟩:=fuel hq
  show a_ (xh (uK q) _ C v0 v) _
  unfold xh
  rw [dI (a:=((0:Nat):Int)+1-1) (by omega) (by omega),mP (by omega),XA hv]
  exact a_.ret aR hv
 | succ r ih =>
  intro q C v aR hv hr hq
  obtain ⟨q,rfl,hq⟩:=fuel hq
  show a_ (xh (uK q) _ C v0 v) _
  unfold xh
  rw [dI (a:=((r+1:Nat):Int)+1-1) (by omega) (by omega),nR (by omega)]
  refine(Ob aR).bind fun c C aR hc=>(Xx aR).bind fun x C aR _=>?_
  dsimp only
  obtain ⟨w,k,hw,dJ⟩:=Xy v c x hv hc
  rw [hw]
  simp only [av]
  rw [show((r+1:Nat):Int)+1-1=(r:Int)+1 by omega]
  exact ih q C w aR dJ (by omega) (by omega)
theorem akh{C:fC}(h:fh C)(n:Int)(hn:n≤1000):a_ (Kn (C,n,())) bz:=by
 show a_ (DL (uK aP) C n) _
 unfold DL
 rw [show JG ()=some ((2,[(1,2,493,0,0,([]:aF),([]:List aw.D),0,0,())],()),()) from rfl]
 simp only [av]
 refine(kP h _ (by decide)).bind fun m C aR hm=>?_
 rw [show aM (([(1,2,493,0,0,([]:aF),([]:List aw.D),0,0,())]:List aJ)).length 0=some 0 from rfl]
 simp only [av]
 unfold R'
 refine(gO aR n).bind fun k C aR hk=>?_
 dsimp only
 have dJ:=Xw m hm
 by_cases h0:k>0
 ·rw [nR h0]
  refine(Ob aR).bind fun c C aR hc=>(Xx aR).bind fun x C aR _=>?_
  dsimp only
  obtain ⟨w,r,hw,dJ⟩:=Xy _ c x dJ hc
  have HL:kH (((2,List.set [(1,2,493,0,0,([]:aF),([]:List aw.D),0,0,())] (0+0) (((J I [(1,2,493,0,0,([]:aF),([]:List aw.D),0,0,())] (0+0)).1,(J I [(1,2,493,0,0,([]:aF),([]:List aw.D),0,0,())] (0+0)).2.1,m,(J I [(1,2,493,0,0,([]:aF),([]:List aw.D),0,0,())] (0+0)).2.2.2.1,(J I [(1,2,493,0,0,([]:aF),([]:List aw.D),0,0,())] (0+0)).2.2.2.2.1,(J I [(1,2,493,0,0,([]:aF),([]:List aw.D),0,0,())] (0+0)).2.2.2.2.2.1,(J I [(1,2,493,0,0,([]:aF),([]:List aw.D),0,0,())] (0+0)).2.2.2.2.2.2.1,(J I [(1,2,493,0,0,([]:aF),([]:List aw.D),0,0,())] (0+0)).2.2.2.2.2.2.2.1,(J I [(1,2,493,0,0,([]:aF),([]:List aw.D),0,0,())] (0+0)).2.2.2.2.2.2.2.2.1,()):aJ),()):ae.D),c,x,())=some (w,r,()):=hw
  rw [HL]
  simp only [av]
  have h1:=hk.hi (by have:=hk.no;omega)
  have:=akg (0,([]:List I.D),()) (k.toNat-1) aP C w aR dJ (by omega) (by rw [sF];omega)
  rw [show((k.toNat-1:Nat):Int)+1=k by omega] at this
  exact this
 ·rw [mP h0]
  have yn:=XA dJ
  exact(show a_ ((y9 (((2:Int),([(1,2,m,0,0,([]:aF),([]:List aw.D),0,0,())]:List aJ),()),())).bind fun v9=>some (v9.1,C,())) bz by rw [yn];exact a_.ret aR dJ)
theorem aki{C:fC}(h:fh C)(n:Int)(hn:n≤1000):a_ (Kp (C,n,())) (fun w=>eV 25 w.2.1):=by
 show a_ (Ko C n) _
 unfold Ko
 refine(akh h n hn).bind fun v C aR hv=>(x9 aR 10).bind fun b C aR _=>?_
 have hsz:eV 25 v.2.1:=hv.sz.mono (by omega)
 refine a_.cond (a_.ret aR hsz) ?_
 refine(gO aR _).bind fun k C aR hk=>?_
 have h1:=hk.lo;have h2:=hk.hi (by have:=hv.len;show(0:Int)<(v.2.1.length:Int);omega)
 have h2:k<(v.2.1.length:Int):=h2
 refine(gO aR 9).bind fun z C aR _=>?_
 dsimp only
 have hi:k.toNat<v.2.1.length:=by omega
 have au:=hsz.get hi
 have GL:=hv.fO hi
 have hQ:(ak (J I v.2.1 k.toNat)).length≤24:=(hv.sz.get hi).cC
 rw [show aM v.2.1.length k=some k.toNat from A4 h1 h2]
 simp only [av,Nat.zero_add]
 refine a_.cond ((kP aR _ (by decide)).bind fun y C aR _=>a_.ret aR hsz) (a_.cond ((gO aR 5).bind fun y C aR _=>a_.ret aR (hsz.set _ ⟨au.fO,au.cC,au.each⟩)) (a_.cond ((kP aR _ (by decide)).bind fun y C aR _=>a_.ret aR (hsz.set _ ⟨au.fO,au.cC,au.each⟩))
  (a_.cond ?_ (a_.cond ?_ (a_.cond ((kP aR _ (by decide)).bind fun y C aR _=>a_.ret aR (hsz.set _ ⟨au.fO,au.cC,au.each⟩)) (a_.cond ((kP aR _ (by decide)).bind fun y C aR _=>a_.ret aR (hsz.set _ ⟨au.fO,au.cC,au.each⟩)) (a_.cond ?_ ((gO aR 5).bind fun y C aR _=>a_.ret aR (hsz.set _ ⟨au.fO,au.cC,au.each⟩)))))))))
 ·rw [cI (n:=(J I v.2.1 k.toNat).2.2.2.2.2.1.length +([120]:List UInt8).length) (by have:(J I v.2.1 k.toNat).2.2.2.2.2.1.length≤64:=GL;simp;omega)]
  refine a_.ret aR (hsz.set _ ⟨?_,au.cC,au.each⟩)
  show((bw (J I v.2.1 k.toNat))++([120]:List UInt8)).length≤200
  simp only [List.length_append,List.length_singleton];omega
 ·refine(Oa aR 2 _ (by decide) (by decide)).bind fun y C aR aN=>(gO aR 6).bind fun u C aR _=>?_
  dsimp only
  rw [show Nat.beq k.toNat k.toNat=true from Nat.beq_refl _]
  simp only [cond_true]
  rw [cI (n:=(J I v.2.1 k.toNat).2.2.2.2.2.2.1.length+[((y,u,()):aw.D)].length) (by have:(J I v.2.1 k.toNat).2.2.2.2.2.2.1.length≤24:=hQ;simp;omega)]
  refine a_.ret aR (hsz.set _ ⟨au.fO,?_,?_⟩)
  ·show((ak (J I v.2.1 k.toNat))++[((y,u,()):aw.D)]).length≤25
   simp only [List.length_append,List.length_singleton];omega
  ·intro d ag
   have ag:d∈(ak (J I v.2.1 k.toNat))++[((y,u,()):aw.D)]:=ag
   rcases List.mem_append.1 ag with ag | ag
   ·exact au.each d ag
   ·rw [List.mem_singleton.1 ag];show y.length≤8;omega
 ·rw [cI (by have:=hv.len;simp;omega)]
  refine a_.ret aR (hv.sz.app ⟨?_,?_,fun d ag=>by cases ag⟩)
  ·show([]:aF).length≤200;simp
  ·show([]:List aw.D).length≤24;simp
theorem akj(a:List Int)(ha:a.length≤1048576):∀(r q:Nat) (h:Int) (i:Nat),i+r=4000→r<q→∃C,w2 q a h (i:Int)=some (C,())∧fh C:=by
 intro r
 induction r with
 | zero =>
  intro q h i hi hq
  obtain ⟨q,rfl,_⟩:=fuel hq
  refine⟨(a,0,h,()),?_,Int.le_refl _,Int.natCast_nonneg _,ha⟩
  show w1 (w2 q) a h (i:Int)=_
  unfold w1
  rw [mP (show ¬(i:Int)<4000 by omega)]
  cases decide ((i:Int)<(a.length:Int)) <;> rfl
 | succ r ih =>
  intro q h i hi hq
  obtain ⟨q,rfl,hq⟩:=fuel hq
  show ∃C,w1 (w2 q) a h (i:Int)=_∧_
  unfold w1
  rw [nR (show(i:Int)<4000 by omega)]
  by_cases hl:i<a.length
  ·rw [cp hl,bx hl]
   simp only [cond_true,av]
   rw [dI (a:=(i:Int)+1) (by omega) (by omega)]
   exact ih q _ (i+1) (by omega) (by omega)
  ·rw [cM (by omega)]
   exact⟨(a,0,h,()),rfl,Int.le_refl _,Int.natCast_nonneg _,ha⟩
theorem akk(a:List Int)(ha:a.length≤1048576):∃C,JD (a,())=some (C,())∧fh C:=akj a ha 4000 aP _ 0 (by omega) (by rw [sF];omega)
theorem size_le(a:List Int)(n:Int):∃k,Kr (a,n,())=some (k,())∧k≤n:=by
 show ∃k,Kq a n=_∧_
 unfold Kq
 by_cases h:aG (2+aG (Int.tdiv (a.length:Int) 20))>n
 ·rw [nR h];exact⟨n,rfl,Int.le_refl _⟩
 ·rw [mP h];exact⟨_,rfl,by omega⟩
theorem akl(a:List Int)(ha:a.length≤1048576):∃v c x,Kv (a,())=some (v,c,x,())∧eV 25 v.2.1:=by
 obtain ⟨C,hn,aR⟩:=akk a ha
 obtain ⟨k,hs,hk⟩:=size_le a 50
 show ∃v c x,Ku a=_∧_
 unfold Ku
 rw [hn,hs]
 simp only [av]
 obtain ⟨v,C,h1,aR,hv⟩:=aki aR k (by omega)
 rw [h1];simp only [av]
 obtain ⟨c,C,h2,aR,_⟩:=ake aR
 rw [h2];simp only [av]
 obtain ⟨x,C,h3,aR,_⟩:=Xv aR v hv (by omega)
 rw [h3]
 exact⟨v,c,x,rfl,hv⟩
theorem eV.vb{v:ae.D}(h:eV 25 v.2.1):vp v:=agu (Nat.le_trans (WU h) (by decide))
theorem akm(a:List Int):JC (a,())=some (decide ((a.length:Int)>1048576),()):=rfl
theorem akn(v:ae.D)(x:aJ)(i:Int)(q:Nat):∀(r j:Nat),j+r=(ak x).length→(ak x).length≤1000→(pR (q+r+1)).c3 i (j:Int) v v x x=(pR q).ba (aG (i+1)) v v:=by
 intro r
 induction r with
 | zero =>
  intro j hj hl
  show cond (decide ((j:Int)<((ak x).length:Int))) _ ((pR q).ba (aG (i+1)) v v)=_
  rw [cM (by omega)];rfl
 | succ r ih =>
  intro j hj hl
  show cond (decide ((j:Int)<((ak x).length:Int))) (Option.bind (aM (ak x).length (j:Int)) fun v1=>Option.bind (aM (ak x).length (j:Int)) fun v2 =>
   cond (!(bn (J aw (ak x) v1).1 (J aw (ak x) v2).1&&((J aw (ak x) v1).2.1 ==(J aw (ak x) v2).2.1&&true))) (some (false,())) ((pR (q+r+1)).c3 i (aG ((j:Int)+1)) v v x x)) _=_
  rw [cp (by omega),bx (by omega)]
  simp only [cond_true,av,Cz,beq_self_eq_true,Bool.and_self,Bool.not_true,cond_false]
  rw [dI (a:=(j:Int)+1) (by omega) (by omega)]
  exact ih (j+1) (by omega) hl
theorem ako(v:ae.D)(hl:v.2.1.length≤1000)(hn:∀x,x∈v.2.1→(ak x).length≤1000):∀(r q i:Nat),i+r=v.2.1.length→r*1010<q→(pR q).ba (i:Int) v v=some (true,()):=by
 intro r
 induction r with
 | zero =>
  intro q i hi hq
  obtain ⟨q,rfl,_⟩:=fuel (show 0<q by omega)
  show zZ (pR q) (i:Int) v v=_
  unfold zZ
  rw [cM (by omega)];rfl
 | succ r ih =>
  intro q i hi hq
  obtain ⟨q,rfl,aka⟩:=fuel (show 0<q by omega)
  show zZ (pR q) (i:Int) v v=_
  unfold zZ
  rw [cp (by omega),bx (by omega)]
  simp only [cond_true,av,Cz,bne_self_eq_false,Bool.not_true,cond_false]
  have hx:=hn _ (cJ (t:=I) (show i<v.2.1.length by omega))
  generalize hN:(ak (J I v.2.1 i)).length=N at hx
  obtain ⟨p,rfl⟩:∃p,q=p+N+1:=⟨q-N-1,by omega⟩
  have h1:=akn v (J I v.2.1 i) (i:Int) p N 0 (by omega) (by omega)
  rw [dI (a:=(i:Int)+1) (by omega) (by omega)] at h1
  have au:r*1010<p:=by
   clear h1 ih
   rw [Nat.add_mul,Nat.one_mul] at hq
   generalize r*1010=R at hq ⊢
   omega
  exact h1.trans (ih p (i+1) (by omega) au)
theorem akp{v:ae.D}{n:Nat}(h:eV n v.2.1)(hn:n≤1000):Fv (v,v,())=some (true,()):=by
 show Fu (pR aP) v v=_
 unfold Fu
 simp only [bne_self_eq_false,cond_false]
 have hl:=h.len
 exact ako v (by omega) (fun x hx=>by have:=(h.po x hx).cC;omega) v.2.1.length aP 0 (by omega) (by rw [sF];omega)
theorem bz.vb{v:ae.D}(h:bz v):vp v:=(h.sz.mono (by omega)).vb
theorem bz.alL{v:ae.D}(h:bz v){i:Nat}(hi:i<v.2.1.length)(hk:kindOf (J I v.2.1 i)=2) :
  ∃B K:Nat,ab4 (v,aX (J I v.2.1 i),())=some ((B:Int),(K:Int),())∧(eT (J I v.2.1 i)>0→(B:Int)≤eT (J I v.2.1 i))∧(eD (J I v.2.1 i)>0→(K:Int)≤eD (J I v.2.1 i)):=by
 have hb:=h.vb
 show ∃B K:Nat,LH v (aX (J I v.2.1 i))=_∧_
 unfold LH
 rw [F8 v hb,mW.2 h]
 simp only [av,Bool.not_true,cond_false]
 rw [Gb v _ hb.len]
 have ag:ln v.2.1 (aX (J I v.2.1 i))=true:=by
  have:=h.fM i hi
  unfold ln
  rw [show bd v.2.1 (aX (J I v.2.1 i))=some i from this]
  exact cF hk
 rw [ag]
 simp only [av,Bool.not_true,cond_false]
 obtain ⟨out,hf,he⟩:=MU v (aX (J I v.2.1 i)) hb.len hb.cC hb.bytes
 obtain ⟨lC,ib⟩:=MV h.fM h.f_ hf
 rw [he]
 refine⟨_,_,rfl,?_,?_⟩
 ·intro hm
  have:=N2.1 h.over _ (cJ hi)
  unfold ik at this
  rw [decide_eq_true hm] at this
  simp only [Bool.true_and,Bool.or_eq_false_iff,decide_eq_false_iff_not,Int.not_lt] at this
  rw [lC];exact this.1
 ·intro hm
  have:=N2.1 h.over _ (cJ hi)
  unfold ik at this
  rw [decide_eq_true hm] at this
  simp only [Bool.true_and,Bool.or_eq_false_iff,decide_eq_false_iff_not,Int.not_lt] at this
  rw [ib];exact this.2
theorem bz.parent{v:ae.D}(h:bz v){i:Nat}(hi:i<v.2.1.length)(hk:kindOf (J I v.2.1 i)=2):∃p,ab5 (v,aX (J I v.2.1 i),())=some (p,())∧p≠0:=by
 have hb:=h.vb
 show ∃p,LI v (aX (J I v.2.1 i))=_∧_
 unfold LI
 rw [F8 v hb,mW.2 h]
 simp only [av,Bool.not_true,cond_false]
 rw [Gb v _ hb.len]
 have ag:ln v.2.1 (aX (J I v.2.1 i))=true:=by
  unfold ln
  rw [show bd v.2.1 (aX (J I v.2.1 i))=some i from h.fM i hi]
  exact cF hk
 rw [ag]
 simp only [av,Bool.not_true,cond_false]
 rw [Vy v _ hb.len hb.cC]
 refine⟨_,rfl,?_⟩
 obtain ⟨j,hj,_⟩:=vr (h.hp hb) (aX (J I v.2.1 i))
 obtain ⟨yR,kA⟩:=bT hj
 have:=(h.ids j yR).1
 have e:aX (J I v.2.1 j)=hR v.2.1 (aX (J I v.2.1 i)):=kA
 omega
theorem bz.alM{v:ae.D}(h:bz v){i:Nat}(hi:i<v.2.1.length):∃k,ab2 (v,aX (J I v.2.1 i),())=some (k,())∧1≤k∧k=o2 v.2.1 (J I v.2.1 i):=by
 have hb:=h.vb
 show ∃k,LG v (aX (J I v.2.1 i))=_∧_
 unfold LG
 rw [mU v _ hb.len (show bd v.2.1 (aX (J I v.2.1 i))=some i from h.fM i hi)]
 simp only [av,List.isEmpty_cons,Bool.not_false,cond_true]
 rw [F8 v hb,mW.2 h]
 simp only [av,cond_true]
 have hn:=(h.sz.get hi).cC
 rw [show J I [J I v.2.1 i] 0=J I v.2.1 i from rfl,VB v _ hb.len hb.cC (by omega)]
 refine⟨_,rfl,?_,rfl⟩
 unfold o2
 by_cases hk:kindOf (J I v.2.1 i)=2
 ·rw [dt hk];simp only [cond_false];omega
 ·rw [cV hk]
  simp only [cond_true]
  have hi0:1≤i:=by
   rcases Nat.eq_zero_or_pos i with h0 | h0
   ·subst h0;exact absurd h.root.2 hk
   ·exact h0
  have gv:=h.reach i hi0 hi
  have hne:ck v.2.1 (J I v.2.1 i).1≠0:=by
   intro h0
   have hE:∃a,E v.2.1 a (J I v.2.1 i).1:=by
    cases gv with
    | single h1=>exact⟨_,h1⟩
    | tail _ h1=>exact⟨_,h1⟩
   obtain ⟨a,j,d,hj,ag,he⟩:=hE
   exact Gs h0 _ (cJ (bT hj).1) d ag he
  omega
theorem o7.next{v:ae.D}{c:aH.D}{x:aI.D}{w:ae.D}(h:o7 v c x w):w.1=v.1∨w.1=v.1+1:=by
 rcases h with⟨_,h⟩ | ⟨_,h⟩ | ⟨_,h⟩ | ⟨_,h⟩ | ⟨_,h⟩ | ⟨_,h⟩ | ⟨_,h⟩ | ⟨_,h⟩ | ⟨_,h⟩
 ·obtain ⟨r,i,_,_,_,_,_,_,_,_,_,rfl,_⟩:=h.out;exact .inr rfl
 ·obtain ⟨r,i,j,_,_,_,_,_,_,_,_,_,_,rfl⟩:=h.out;exact .inl rfl
 ·obtain ⟨r,t,i,j,_,_,_,_,_,_,_,_,_,_,rfl,_⟩:=h.out;exact .inl rfl
 ·obtain ⟨r,t,j,_,_,_,_,_,_,_,_,h⟩:=h.out
  rcases h with⟨_,rfl⟩ | ⟨_,_,l,ir,it,_,rfl,_⟩
  ·exact .inl rfl
  ·exact .inl rfl
 ·obtain ⟨r,i,_,_,_,_,_,_,_,_,h⟩:=h.out
  rcases h with⟨_,_,rfl⟩ | ⟨_,_,rfl,_⟩
  ·exact .inl rfl
  ·exact .inl rfl
 ·obtain ⟨_,_,r,i,_,_,_,_,_,rfl⟩:=h.out;exact .inl rfl
 ·obtain ⟨_,_,r,i,_,_,_,rfl⟩:=h.out;exact .inl rfl
 ·obtain ⟨_,_,_,r,i,_,_,_,_,rfl,_⟩:=h.out;exact .inl rfl
 ·rw [h];exact .inl rfl
def eS(l:List aJ)(id:Int):aJ:=match bd l id with
 | some i=>J I l i
 | none=>I.zero
theorem re{l:List aJ}{id:Int}{i:Nat}(h:bd l id=some i):eS l id=J I l i:=by unfold eS;rw [h]
def jE(k:Int):aS.D:=((0:Int),([]:aF),(0:Int),k,())
def ed(l:List aJ)(at_:Int)(p:aF):Int:=cW (ak (eS l at_)) p
def hp(l:List aJ)(c:aH.D)(bA:Bool):Nat→Int→Nat→List aF→aS.D
 | _,at_,_,[]=>((0:Int),([]:aF),at_,(0:Int),())
 | 0,at_,_,_ :: _=>((0:Int),([]:aF),at_,(0:Int),())
 | n+1,at_,k,p :: L=>cond (!may c (eS l at_) 1) (jE 13) (cond (bn p [46]) (hp l c bA n at_ k L) (cond (bn p [46,46]) (hp l c bA n (hR l at_) k L) (cond (decide ((p.length:Int)>8)) (jE 36)
   (cond (ed l at_ p==0) (cond L.isEmpty (at_,p,(0:Int),(2:Int),()) (jE 2))
    (cond (kindOf (eS l (ed l at_ p))==3&&(!L.isEmpty||bA)) (cond (Nat.ble 8 k) (jE 40) (cond (Nat.blt 40 (cut (bw (eS l (ed l at_ p)))++L).length) (jE 36)
      (hp l c bA n (cond (nb (bw (eS l (ed l at_ p))) 0==47) 1 at_) (k+1) (cut (bw (eS l (ed l at_ p)))++L))))
     (cond L.isEmpty (at_,p,ed l at_ p,(0:Int),()) (cond (kindOf (eS l (ed l at_ p)) != 2) (jE 20) (hp l c bA n (ed l at_ p) k L))))))))
theorem akq{L:List aF}{a c:Nat}(h:0<c)(hl:a+c≤L.length):part L a c=J ad.str L a :: part L (a+1) (c-1):=by
 unfold part
 rw [c6 (by omega),List.drop_eq_getElem_cons (by omega:a<L.length)]
 obtain ⟨c,rfl⟩:∃k,c=k+1:=⟨c-1,by omega⟩
 rw [List.take_succ_cons];rfl
theorem Oc{L:List aF}{a:Nat} : part L a 0=[]:=by unfold part;rfl
theorem akr{L:List aF}{a c:Nat}(hl:a+c≤L.length):(part L a c).isEmpty=(((c:Nat):Int)==0):=by
 have h:(part L a c).length=c:=by unfold part;rw [List.length_take,List.length_drop];omega
 cases c with
 | zero=>rw [Oc];rfl
 | succ c =>
  rw [b5 (by omega)]
  cases au:part L a (c+1) with
  | nil=>rw [au] at h;simp at h
  | cons x y=>rfl
theorem aks(v:ae.D)(c:aH.D)(hw:n0 v.2.1)(hc:c9 c=true)(bA:Bool)(z:aS.D):∀(n:Nat) (at_:Int) (k:Nat) (L:List aF) (a bP:Nat),(8-k)*100+bP≤n→k≤8→a+bP≤L.length→bP≤100→(∀p,p∈part L a bP→sN p)→iL v.2.1 at_ →
  bW (fun m=>(de m).ba bA a bP at_ (k:Int) v c z L) (5*n+5) (some (hp v.2.1 c bA n at_ k (part L a bP),())):=by
 intro n
 induction n with
 | zero =>
  intro at_ k L a bP hn hk hl Nb au b4
  have h0:bP=0:=by omega
  subst h0
  rw [Oc]
  refine(bW.now 1 fun m=>?_).mono (by omega)
  rw [ji];unfold ie;simp only [hp];rfl
 | succ n ih =>
  intro at_ k L a bP hn hk hl Nb au b4
  rcases Nat.eq_zero_or_pos bP with h0 | h0
  ·subst h0
   rw [Oc]
   refine(bW.now 1 fun m=>?_).mono (by omega)
   rw [ji];unfold ie;simp only [hp];rfl
  obtain ⟨d,ag,eE⟩:=b4
  have hdl:=bT ag
  have gZ:(ak (J I v.2.1 d)).length≤1048576:=Nat.le_trans (fI hdl.1) hw.cC
  have mw:=au _ (VN h0 hl)
  have fb:∀p,p∈part L (a+1) (bP-1)→sN p:=fun p h=>au p (VO p h)
  have e6:aM bP 0=some 0:=bx (i:=0) h0
  have fN:d_ bP 1 (bP:Int)=some (1,bP):=kr (lo:=1) h0 (Nat.le_refl _)
  have eZ:decide ((bP:Int)>0)=true:=decide_eq_true (by omega)
  have kh:=nX c (J I v.2.1 d) 1 hc
  have Nd:=M5 v at_ hw.len hw.cC
  have ki:jQ (v,at_,())=some ((d:Int),()):=by rw [l1 v at_ hw.len,ag];rfl
  have kj:aM v.2.1.length (d:Int)=some d:=bx hdl.1
  have q5:=Vw v at_ (J ad.str L a) hw.len ag gZ
  have XB:=re ag
  have kN:=akr (L:=L) (a:=a+1) (c:=bP-1) (by omega)
  rw [akq h0 hl]
  have akt:ed v.2.1 at_ (J ad.str L a)=cW (ak (J I v.2.1 d)) (J ad.str L a):=by unfold ed;rw [XB]
  simp only [hp]
  rw [akt,XB,kN]
  cases hm:may c (J I v.2.1 d) 1 with
  | false =>
   refine(bW.now 1 fun m=>?_).mono (by omega)
   rw [ji];unfold ie
   simp only [eZ,e6,fN,ki,kj,kh,hm,cond_true,cond_false,av,Bool.not_true,Bool.not_false]
   rfl
  | true =>
  simp only [Bool.not_true,cond_false]
  cases h1:bn (J ad.str L a) [46] with
  | true =>
   refine((ih at_ k L (a+1) (bP-1) (by omega) hk (by omega) (by omega) fb ⟨d,ag,eE⟩).jump (f:=fun m=>(de m).ba bA a bP at_ (k:Int) v c z L) 1 fun m=>?_).mono (by omega)
   rw [ji];unfold ie
   simp only [eZ,e6,fN,ki,kj,kh,hm,h1,cond_true,cond_false,av,Bool.not_true,Bool.not_false,Nat.add_zero]
  | false =>
  simp only [cond_false]
  cases h2:bn (J ad.str L a) [46,46] with
  | true =>
   refine((ih (hR v.2.1 at_) k L (a+1) (bP-1) (by omega) hk (by omega) (by omega) fb (vr hw _)).jump (f:=fun m=>(de m).ba bA a bP at_ (k:Int) v c z L) 1 fun m=>?_).mono (by omega)
   rw [ji];unfold ie
   simp only [eZ,e6,fN,ki,kj,kh,hm,h1,h2,Nd,cond_true,cond_false,av,Bool.not_true,Bool.not_false,Nat.add_zero]
  | false =>
  simp only [cond_false]
  cases cG:decide (((J ad.str L a).length:Int)>8) with
  | true =>
   refine(bW.now 1 fun m=>?_).mono (by omega)
   rw [ji];unfold ie
   simp only [eZ,e6,fN,ki,kj,kh,hm,h1,h2,cG,cond_true,cond_false,av,Bool.not_true,Bool.not_false,Nat.add_zero]
   rfl
  | false =>
  simp only [cond_false]
  cases fL:cW (ak (J I v.2.1 d)) (J ad.str L a)==0 with
  | true =>
   refine(bW.now 1 fun m=>?_).mono (by omega)
   rw [ji];unfold ie
   simp only [eZ,e6,fN,ki,kj,kh,hm,h1,h2,cG,q5,fL,cond_true,cond_false,av,Bool.not_true,Bool.not_false,Nat.add_zero]
   cases ((bP-1:Nat):Int)==0 <;> rfl
  | false =>
  simp only [cond_false]
  obtain ⟨e,he,q6,k4⟩:=mX (N:=ak (J I v.2.1 d)) (s:=J ad.str L a) (by simpa using fL)
  obtain ⟨i2,eL⟩:=Option.isSome_iff_exists.1 (hw.f_ d hdl.1 e he)
  rw [k4] at eL
  have pX:=bT eL
  have xO:jQ (v,cW (ak (J I v.2.1 d)) (J ad.str L a),())=some ((i2:Int),()):=by rw [l1 v _ hw.len,eL];rfl
  have xP:aM v.2.1.length (i2:Int)=some i2:=bx pX.1
  rw [re eL]
  have ns:∀m,(de (m+1)).ba bA a bP at_ (k:Int) v c z L=(de m).r4 bA (a+1) (bP-1) at_ (k:Int) (J ad.str L a) (((bP-1:Nat):Int)==0) (cW (ak (J I v.2.1 d)) (J ad.str L a)) v c z L (J I v.2.1 i2):=by
   intro m
   rw [ji];unfold ie
   simp only [eZ,e6,fN,ki,kj,kh,hm,h1,h2,cG,q5,fL,k7,xO,xP,cond_true,cond_false,av,Bool.not_true,Bool.not_false,Nat.add_zero]
  cases o6:kindOf (J I v.2.1 i2)==3&&(!(((bP-1:Nat):Int)==0)||bA) with
  | true =>
   simp only [cond_true]
   rw [Bool.and_eq_true] at o6
   obtain ⟨il,jU⟩:=o6
   have At:=hw.l2 i2 pX.1 (beq_iff_eq.1 il)
   have pY:=As At
   have sQ:aM ((J I v.2.1 i2).2.2.2.2.2.1).length 0=some 0:=bx (i:=0) pY.1
   have Gl:w5 ((J I v.2.1 i2).2.2.2.2.2.1,())=some (cut (bw (J I v.2.1 i2)),()):=Ge _ (Nat.le_trans pY.2 (by omega))
   have hcl:=Gf (bw (J I v.2.1 i2))
   have fD:(part L (a+1) (bP-1)).length≤100:=by unfold part;rw [List.length_take];omega
   have hroom:room ((cut (bw (J I v.2.1 i2))).length +(part L (a+1) (bP-1)).length)=true:=cI (by omega)
   have h_:=Gg At
   generalize pZ:cut (bw (J I v.2.1 i2))++part L (a+1) (bP-1)=ft at *
   have Nf:∀p,p∈ft→sN p:=by
    intro p kx
    rw [← pZ] at kx
    rcases List.mem_append.1 kx with h | h
    ·exact h_ p h
    ·exact fb p h
   have b7:aG ((k:Int)+1)=((k+1:Nat):Int):=df k (by omega)
   have mZ:∀m,(de (m+4)).ba bA a bP at_ (k:Int) v c z L=cond (decide (((k+1:Nat):Int)>8)) (some (jE 40,()))
      (cond (decide ((ft.length:Int)>40)) (some (jE 36,())) ((de m).ba bA 0 ft.length (cond (nb (bw (J I v.2.1 i2)) 0==47) 1 at_) ((k+1:Nat):Int) v c z ft)):=by
    intro m
    rw [ns,xM];unfold r5
    have:(cond (!(((bP-1:Nat):Int)==0)) ((de (m+2)).gx bA (a+1) (bP-1) at_ (k:Int) v c z L (J I v.2.1 i2)) (cond bA ((de (m+2)).gx bA (a+1) (bP-1) at_ (k:Int) v c z L (J I v.2.1 i2)) ((de (m+2)).uu bA (a+1) (bP-1) at_ (k:Int) (J ad.str L a) (((bP-1:Nat):Int)==0) (cW (ak (J I v.2.1 d)) (J ad.str L a)) v c z L (J I v.2.1 i2))))=(de (m+2)).gx bA (a+1) (bP-1) at_ (k:Int) v c z L (J I v.2.1 i2):=by
     revert jU
     cases ((bP-1:Nat):Int)==0 <;> cases bA <;> intro jU <;> first | rfl | cases jU
    rw [show((J I v.2.1 i2).2.1==3)=true from il]
    simp only [cond_true]
    refine this.trans ?_
    rw [M_];unfold zd
    rw [sQ,b7]
    simp only [av]
    show cond (decide (((k+1:Nat):Int)>8)) _ (cond (nb (bw (J I v.2.1 i2)) 0==47) _ _)=_
    have XC:∀at',(de (m+1)).oI bA (a+1) (bP-1) at' ((k+1:Nat):Int) v c z L (J I v.2.1 i2)=cond (decide ((ft.length:Int)>40)) (some (jE 36,())) ((de m).ba bA 0 ft.length at' ((k+1:Nat):Int) v c z ft):=by
     intro at'
     rw [Na];unfold zf
     rw [Gl]
     simp only [av,hroom,cond_true,pZ]
     rfl
    rw [XC,XC]
    cases nb (bw (J I v.2.1 i2)) 0==47 <;> rfl
   have Ng:iL v.2.1 (cond (nb (bw (J I v.2.1 i2)) 0==47) 1 at_):=by
    cases nb (bw (J I v.2.1 i2)) 0==47
    ·exact⟨d,ag,eE⟩
    ·exact hw.root
   by_cases sR:8≤k
   ·rw [show Nat.ble 8 k=true from Nat.ble_eq_true_of_le sR]
    refine(bW.now 4 fun m=>?_).mono (by omega)
    rw [mZ,decide_eq_true (show((k+1:Nat):Int)>8 by omega)];rfl
   ·rw [show Nat.ble 8 k=false from Bool.eq_false_iff.2 fun h=>sR (Nat.le_of_ble_eq_true h)]
    simp only [cond_false]
    have XD:decide (((k+1:Nat):Int)>8)=false:=decide_eq_false (by omega)
    by_cases p0:40<ft.length
    ·rw [show Nat.blt 40 ft.length=true from Nat.ble_eq_true_of_le p0]
     refine(bW.now 4 fun m=>?_).mono (by omega)
     rw [mZ,XD,decide_eq_true (show(ft.length:Int)>40 by omega)];rfl
    ·rw [show Nat.blt 40 ft.length=false from Bool.eq_false_iff.2 fun h=>p0 (Nat.le_of_ble_eq_true h)]
     have:=ih (cond (nb (bw (J I v.2.1 i2)) 0==47) 1 at_) (k+1) ft 0 ft.length (by omega) (by omega) (by omega) (by omega) (by rw [xE];exact Nf) Ng
     rw [xE] at this
     refine(this.jump (f:=fun m=>(de m).ba bA a bP at_ (k:Int) v c z L) 4 fun m=>?_).mono (by omega)
     rw [mZ,XD,decide_eq_false (show ¬(ft.length:Int)>40 by omega)];rfl
  | false =>
   simp only [cond_false]
   have g2:∀m,(de (m+3)).ba bA a bP at_ (k:Int) v c z L=cond (((bP-1:Nat):Int)==0) (some ((at_,J ad.str L a,cW (ak (J I v.2.1 d)) (J ad.str L a),(0:Int),()),()))
     (cond (kindOf (J I v.2.1 i2) != 2) (some (jE 20,())) ((de m).ba bA (a+1) (bP-1) (cW (ak (J I v.2.1 d)) (J ad.str L a)) (k:Int) v c z L)):=by
    intro m
    have GZ:(de (m+1)).uu bA (a+1) (bP-1) at_ (k:Int) (J ad.str L a) (((bP-1:Nat):Int)==0) (cW (ak (J I v.2.1 d)) (J ad.str L a)) v c z L (J I v.2.1 i2)=cond (((bP-1:Nat):Int)==0) (some ((at_,J ad.str L a,cW (ak (J I v.2.1 d)) (J ad.str L a),(0:Int),()),()))
     (cond (kindOf (J I v.2.1 i2) != 2) (some (jE 20,())) ((de m).ba bA (a+1) (bP-1) (cW (ak (J I v.2.1 d)) (J ad.str L a)) (k:Int) v c z L)):=by
     rw [M'];unfold ze;rfl
    rw [ns,xM];unfold r5
    rw [GZ]
    show cond (kindOf (J I v.2.1 i2)==3) _ _=_
    revert o6
    cases kindOf (J I v.2.1 i2)==3 <;> cases ((bP-1:Nat):Int)==0 <;> cases bA <;> intro o6 <;> first | rfl | cases o6
   cases gq:((bP-1:Nat):Int)==0 with
   | true =>
    refine(bW.now 3 fun m=>?_).mono (by omega)
    rw [g2,gq];rfl
   | false =>
    simp only [cond_false]
    by_cases hk2:kindOf (J I v.2.1 i2)=2
    ·rw [dt hk2]
     refine((ih (cW (ak (J I v.2.1 d)) (J ad.str L a)) k L (a+1) (bP-1) (by omega) hk (by omega) (by omega) fb ⟨i2,eL,hk2⟩).jump (f:=fun m=>(de m).ba bA a bP at_ (k:Int) v c z L) 3 fun m=>?_).mono (by omega)
     rw [g2,gq,dt hk2];rfl
    ·rw [cV hk2]
     refine(bW.now 3 fun m=>?_).mono (by omega)
     rw [g2,gq,cV hk2];rfl
def wp(l:List aJ)(c:aH.D)(bA:Bool)(p:aF):aS.D:=hp l c bA 900 1 0 (cut p)
theorem G0(v:ae.D)(c:aH.D)(p:aF)(bA:Bool)(hw:n0 v.2.1)(hc:c9 c=true)(au:ll p=true):dv (v,c,p,bA,())=some (wp v.2.1 c bA p,()):=by
 have kx:=au
 unfold ll at au
 rw [Bool.and_eq_true] at au
 have pY:=As au.1
 have hcl:=Gf p
 have h:=aks v c hw hc bA ((0:Int),([]:aF),(0:Int),(0:Int),()) 900 1 0 (cut p) 0 (cut p).length (by omega) (by omega) (by omega) (by omega) (by rw [xE];exact Gg au.1) hw.root
 rw [xE] at h
 show mH v c p bA=_
 unfold mH
 rw [q3,kx]
 simp only [av,Bool.not_true,cond_false]
 show Option.bind (w6 (de aP) v c p bA) _=_
 unfold w6
 rw [Ge p (by omega)]
 simp only [av]
 have:=kK h (by omega)
 rw [show(de aP).ba bA 0 (cut p).length 1 0 v c ((0:Int),([]:aF),(0:Int),(0:Int),()) (cut p)=some (hp v.2.1 c bA 900 1 0 (cut p),()) from this]
 rfl
def eh:aH.D:=(0,0,([]:List Int),())
theorem Od:oU ()=some (eh,()):=rfl
theorem s7:c9 eh=true:=by kernel_rfl
section
variable(v w:ae.D)(a b:aS.D)
end
theorem aku(v:ae.D)(c:aH.D)(x:aI.D)(hv:bz v)(hc:c9 c=true):xu (v,c,x,())=(kH (v,c,x,())).bind fun r=>some (r.1,r.2.1,()):=by
 show z1 v c x=_
 unfold z1
 rw [MX v hv.vb,mW.2 hv,xK,hc,hv.GO]
 simp only [av,Bool.not_true,cond_false,k7,uc]
theorem G4{v:ae.D}{c:aH.D}{x:aI.D}(hv:bz v)(hc:c9 c=true){w w':ae.D}{k k':Int}{t di:aF}(h:xu (v,c,x,())=some (w,(k,t,()),()))(h':kH (v,c,x,())=some (w',(k',di,()),())):w=w'∧k=k'∧t=di:=by
 rw [aku v c x hv hc,h'] at h
 have:=aT h
 simp only [Prod.mk.injEq] at this
 exact⟨this.1.symm,this.2.1.1.symm,this.2.1.2.1.symm⟩
theorem akv{v:ae.D}{c:aH.D}{p:aF}{r:aS.D}(au:ll p=true)(h:dv (v,c,p,false,())=some (r,()))(h0:bE r=0):qB (v,c,p,())=some (r,17,()):=by
 rw [show dv (v,c,p,false,())=mH v c p false from rfl] at h
 unfold mH at h
 rw [q3,au] at h
 simp only [av,Bool.not_true,cond_false] at h
 show uv v c p=_
 unfold uv
 rw [q3,au]
 simp only [av,Bool.not_true,cond_false]
 obtain ⟨⟨ec,⟨⟩⟩,h1,h2⟩:=bg h
 rw [h1]
 have e:ec=r:=congrArg Prod.fst (aT h2)
 subst e
 simp only [av]
 show cond (bE ec==0) _ _=_
 rw [cF h0];rfl
theorem akw(v:ae.D)(c:aH.D)(x:aI.D){r:aS.D}(hk:az x=1∨az x=3)(hn:c0 (bO x) 0 2047=true)(au:ll (da x)=true)(h:dv (v,c,da x,false,())=some (r,()))(h0:bE r=0) :
  r8 (v,c,x,())=some (v,(17,[],()),()):=by
 obtain ⟨q,hq,_⟩:=iI 1
 show w7 (iG aP) v c x=_
 unfold w7
 show cond (az x==10) _ (cond (az x != 10) (Option.bind (eg (bO x,0,2047,())) fun v3=>cond (!v3.1) _ ((iG aP).k3 v c x (0,([]:List I.D),()) (0,([]:aF),()))) _)=_
 rw [b5 (show az x≠10 by omega),cV (show az x≠10 by omega)]
 simp only [cond_false,cond_true]
 rw [jv (bO x),hn]
 simp only [av,Bool.not_true,cond_false]
 rw [hq]
 show zn (iG q) v c x _ _=_
 unfold zn
 show Option.bind (qB (v,c,da x,())) _=_
 rw [akv au h h0]
 rfl
theorem akx{n:aJ}(h:kindOf n=2):may eh n 3=true:=by
 unfold may
 rw [h];rfl
theorem aky{n:aJ}(h:kindOf n=2):may eh n 1=true:=by
 unfold may
 rw [h];rfl
theorem akz(d n:aJ):nY eh d n=true:=by
 unfold nY
 rw [show(eh.1==0)=true from rfl];simp
theorem akA{v:ae.D}(hv:bz v)(x:aI.D){r:aS.D}{d j:Nat}(hk:az x=2∨az x=8)(h:dv (v,eh,da x,false,())=some (r,()))(h0:bE r=0)(hn:nameOf r≠[])(ag:bd v.2.1 (cd r)=some d)(eE:kindOf (J I v.2.1 d)=2)
  (hj:bd v.2.1 (bp r)=some j) (nd:ak (J I v.2.1 j)=[]) (h2:az x=2→kindOf (J I v.2.1 j)=2) (cG:az x=8→kindOf (J I v.2.1 j)≠2):w_ (v,eh,x,())=some (hU v d (nameOf r),(0,[],()),()):=by
 have b7:=hv.fP
 have hl:v.2.1.length≤1048576:=b7.len
 obtain ⟨q,hq,_⟩:=iI 3
 have hdl:=bT ag
 show w9 (k9 aP) v eh x=_
 unfold w9
 show Option.bind (dv (v,eh,da x,false,())) _=_
 rw [h]
 simp only [av]
 show cond (bE r != 0) _ (Option.bind (e_ (v,bp r,())) fun v2=>cond (az x==2) (cond (bn (nameOf r) []) _ ((k9 aP).dj v eh x _ _ r v2.1)) ((k9 aP).dj v eh x _ _ r v2.1))=_
 rw [dt h0,iK v _ hl hj]
 have hne:bn (nameOf r) []=false:=by rw [← Bool.not_eq_true,m0];exact hn
 rw [hne]
 simp only [cond_false,av]
 have bH:(k9 aP).dj v eh x (0,([]:List I.D),()) (0,([]:aF),()) r (J I v.2.1 j)=some (hU v d (nameOf r),(0,[],()),()):=by
  rw [hq,V_]
  unfold Dj
  have iZ:(k9 (q+2)).gG v eh x (0,([]:List I.D),()) (0,([]:aF),()) r (J I v.2.1 j)=some (hU v d (nameOf r),(0,[],()),()):=by
   rw [V']
   unfold Dk
   have tF:(k9 (q+1)).c3 v eh (0,([]:List I.D),()) (0,([]:aF),()) r (J I v.2.1 j)=some (hU v d (nameOf r),(0,[],()),()):=by
    rw [Wa]
    unfold Dl
    show Option.bind (e_ (v,cd r,())) _=_
    rw [iK v _ hl ag]
    simp only [av]
    rw [nX eh _ 3 s7,akx eE]
    simp only [av,Bool.not_true,cond_false]
    rw [F_ eh _ _ s7,akz]
    simp only [av,Bool.not_true,cond_false]
    show cond (decide (((ak (J I v.2.1 j)).length:Int)>0)) _ _=_
    rw [nd,show decide ((([]:List aw.D).length:Int)>0)=false from rfl]
    simp only [cond_false]
    rw [hv.GO]
    simp only [av]
    show Option.bind (nE (v,cd r,nameOf r,())) _=_
    rw [Gv v _ _ hl b7.cC ag (hv.ino d hdl.1).sorted]
    rfl
   show cond (az x==8) (cond (kindOf (J I v.2.1 j)==2) _ _) _=_
   rw [tF]
   by_cases sR:az x=8
   ·rw [cF sR,b5 (cG sR)];rfl
   ·rw [b5 sR];rfl
  show cond (az x==2) (cond (kindOf (J I v.2.1 j) != 2) _ _) _=_
  rw [iZ]
  by_cases hk2:az x=2
  ·rw [cF hk2,dt (h2 hk2)];rfl
  ·rw [b5 hk2];rfl
 rw [bH]
 cases az x==2 <;> rfl
theorem bz.fresh{v:ae.D}(h:bz v):bd v.2.1 (dn v)=none:=by
 cases hi:bd v.2.1 (dn v) with
 | none=>rfl
 | some i =>
  have h1:=bT hi
  have h2:=h.ids i h1.1
  have h3:aX (J I v.2.1 i)=dn v:=h1.2
  omega
theorem akB{l:List aJ}{n:aJ} : J I (l++[n]) l.length=n:=by rw [c6 (by simp)];simp
theorem XE{v:ae.D}(h:bz v){j:Nat}(hj:j<v.2.1.length){id:Int}(b2:aX (J I v.2.1 j)=id):bd v.2.1 id=some j:=by
 have:=h.fM j hj
 rw [← b2];exact this
section
variable{v nz b6 fY akC:ae.D}
end
theorem XF{N:List aw.D}{id:Int} : nZ N id=true↔∃e,e∈N∧e.2.1=id:=by
 unfold nZ
 constructor
 ·intro h
  obtain ⟨i,hi⟩:=Option.isSome_iff_exists.1 h
  obtain ⟨h1,h2,_⟩:=gA.1 hi
  exact⟨J aw N i,cJ h1,by unfold jT at h2;exact beq_iff_eq.1 h2⟩
 ·rintro ⟨e,he,rfl⟩
  obtain ⟨i,hi,rfl⟩:=fg he
  cases hf:eR N.length (jT N (J aw N i).2.1) with
  | some j=>rfl
  | none =>
   have:=kf.1 hf i hi
   unfold jT at this
   simp at this
theorem akD{n:Nat}{P Q:Nat→Bool}(h:∀i,i<n→P i=Q i)(hl:P n=false):eR (n+1) P=eR n Q:=by
 cases hq:eR n Q with
 | some i =>
  obtain ⟨h1,h2,h3⟩:=gA.1 hq
  exact gA.2 ⟨by omega,by rw [h i h1];exact h2,fun j hj=>by rw [h j (by omega)];exact h3 j hj⟩
 | none =>
  refine kf.2 fun i hi=>?_
  by_cases hin:i<n
  ·rw [h i hin];exact kf.1 hq i hin
  ·rw [show i=n by omega];exact hl
section
variable{v w:ae.D}{i:Nat}{cH:aF}{jW:aJ}
structure jX(v w:ae.D)(i:Nat)(cH:aF)(jW:aJ):Prop where
 hi:i<v.2.1.length
 cP:kindOf (J I v.2.1 i)=2
 look:cW (ak (J I v.2.1 i)) cH=0
 eq:w.2.1=v.2.1.set i (b0 (J I v.2.1 i) (ins (ak (J I v.2.1 i)) cH (dn v)))++[jW]
 next:w.1=v.1+1
 id:aX jW=dn v
 kind:kindOf jW≠3
 cC:ak jW=[]
theorem jX.vE(h:jX v w i cH jW){k:Nat}(hk:k<v.2.1.length):J I w.2.1 k=if i=k then b0 (J I v.2.1 i) (ins (ak (J I v.2.1 i)) cH (dn v)) else J I v.2.1 k:=by
 rw [h.eq,Gr (by rw [List.length_set];exact hk),iM h.hi]
theorem jX.G5(h:jX v w i cH jW):J I w.2.1 v.2.1.length=jW:=by
 rw [h.eq]
 have:v.2.1.length=(v.2.1.set i (b0 (J I v.2.1 i) (ins (ak (J I v.2.1 i)) cH (dn v)))).length:=by rw [List.length_set]
 rw [this];exact akB
theorem jX.XG(h:jX v w i cH jW){a:Int}{k:Nat}(ha:bd v.2.1 a=some k):bd w.2.1 a=some k:=by
 rw [h.eq]
 exact V1 (by rw [Av (y:=b0 (J I v.2.1 i) (ins (ak (J I v.2.1 i)) cH (dn v))) h.hi rfl];exact ha)
theorem jX.len(h:jX v w i cH jW):w.2.1.length=v.2.1.length+1:=by rw [h.eq,List.length_append,List.length_set];rfl
theorem jX.XH(h:jX v w i cH jW){a:Int}{k:Nat}(ha:bd v.2.1 a=some k):eS w.2.1 a=if i=k then b0 (J I v.2.1 i) (ins (ak (J I v.2.1 i)) cH (dn v)) else J I v.2.1 k:=by
 rw [re (h.XG ha),h.vE (bT ha).1]
theorem jX.par(h:jX v w i cH jW){a:Int}{k:Nat}(ha:bd v.2.1 a=some k)(hv:bz v):hR w.2.1 a=hR v.2.1 a:=by
 have hne:a≠dn v:=by
  intro e
  rw [e,hv.fresh] at ha
  cases ha
 have au:sM w.2.1 a=sM v.2.1 a:=by
  unfold sM
  rw [h.len]
  refine akD (fun j hj=>?_) ?_
  ·rw [h.vE hj]
   split
   ·rename_i e
    subst e
    rw [hy,Bool.eq_iff_iff,XF,XF]
    constructor
    ·rintro ⟨e,he,b2⟩
     rcases l5.1 he with he | rfl
     ·exact⟨e,he,b2⟩
     ·exact absurd b2.symm hne
    ·rintro ⟨e,he,b2⟩
     exact⟨e,l5.2 (.inl he),b2⟩
   ·rfl
  ·rw [h.G5,h.cC];rfl
 unfold hR
 rw [au]
 cases hq:sM v.2.1 a with
 | none=>rfl
 | some j =>
  show(J I w.2.1 j).1=(J I v.2.1 j).1
  have hj:=(gA.1 hq).1
  rw [h.vE hj]
  split
  ·rename_i e;subst e;rfl
  ·rfl
theorem jX.XI(h:jX v w i cH jW)(hw:bz w):bd w.2.1 (dn v)=some v.2.1.length:=XE hw (by rw [h.len];omega) (by rw [h.G5];exact h.id)
theorem x_{d:Int}{k:Int}(hn:cH≠[]):jE k≠(d,cH,(0:Int),(2:Int),()):=fun h=>hn (congrArg (fun r:aS.D=>r.2.1) h).symm
theorem XJ(h:jX v w i cH jW)(hv:bz v)(hw:bz w)(hn:cH≠[])(c:aH.D):∀(n:Nat) (at_:Int) (k:Nat) (L:List aF),iL v.2.1 at_→hp v.2.1 c false n at_ k L=(aX (J I v.2.1 i),cH,(0:Int),(2:Int),())→hp w.2.1 c false n at_ k L=(aX (J I v.2.1 i),cH,dn v,(0:Int),()):=by
 have jd:∀a:Int,((0:Int),([]:aF),a,(0:Int),())≠((aX (J I v.2.1 i),cH,(0:Int),(2:Int),()):aS.D):=fun a e=>hn (congrArg (fun r:aS.D=>r.2.1) e).symm
 have akE:dn v≠0:=by have:=hv.next.1;omega
 have b7:=hv.fP
 intro n
 induction n with
 | zero =>
  intro at_ k L b4 he
  cases L <;> simp only [hp] at he <;> exact absurd he (jd _)
 | succ n ih =>
  intro at_ k L b4 he
  cases L with
  | nil=>simp only [hp] at he;exact absurd he (jd _)
  | cons p L =>
   obtain ⟨d,ag,eE⟩:=b4
   have hdl:=bT ag
   have Oe:=h.XH ag
   have s8:=re ag
   have l4:may c (eS w.2.1 at_) 1=may c (eS v.2.1 at_) 1:=by
    rw [Oe,s8]
    split
    ·rename_i e;subst e;rfl
    ·rfl
   have Nc:=h.par ag hv
   simp only [hp] at he ⊢
   rw [l4,Nc]
   cases hm:may c (eS v.2.1 at_) 1 with
   | false=>rw [hm] at he;exact absurd he (x_ hn)
   | true =>
   rw [hm] at he
   simp only [Bool.not_true,cond_false] at he ⊢
   cases h1:bn p [46] with
   | true=>rw [h1] at he;exact ih at_ k L ⟨d,ag,eE⟩ he
   | false =>
   rw [h1] at he
   simp only [cond_false] at he ⊢
   cases h2:bn p [46,46] with
   | true=>rw [h2] at he;exact ih _ k L (vr b7 _) he
   | false =>
   rw [h2] at he
   simp only [cond_false] at he ⊢
   cases cG:decide ((p.length:Int)>8) with
   | true=>rw [cG] at he;exact absurd he (x_ hn)
   | false =>
   rw [cG] at he
   simp only [cond_false] at he ⊢
   by_cases fL:ed v.2.1 at_ p=0
   ·rw [cF fL] at he
    simp only [cond_true] at he
    cases kN:L.isEmpty with
    | false=>rw [kN] at he;exact absurd he (x_ hn)
    | true =>
     rw [kN] at he
     simp only [cond_true] at he
     have e1:at_=aX (J I v.2.1 i):=congrArg (fun r:aS.D=>cd r) he
     have e2:p=cH:=congrArg (fun r:aS.D=>nameOf r) he
     have WA:d=i:=by
      have:=hv.fM i h.hi
      rw [show(J I v.2.1 i).1=at_ from e1.symm,ag] at this
      exact aT this
     have Of:ed w.2.1 at_ p=dn v:=by
      unfold ed
      rw [Oe,if_pos WA.symm,hy,e2]
      have A5:=(hw.ino i (by rw [h.len];have:=h.hi;omega)).sorted
      rw [h.vE h.hi,if_pos rfl,hy] at A5
      exact sU (d:=(cH,dn v,())) A5 (l5.2 (.inr rfl))
     rw [Of,b5 akE,re (h.XI hw),h.G5,b5 h.kind,e1,e2]
     rfl
   ·have Of:ed w.2.1 at_ p=ed v.2.1 at_ p:=by
     have hl1:cW (ak (J I v.2.1 d)) p≠0:=by have:=fL;unfold ed at this;rw [s8] at this;exact this
     obtain ⟨e,q6,k4,tO⟩:=mX hl1
     unfold ed
     rw [Oe,s8]
     split
     ·rename_i A6
      subst A6
      rw [hy]
      have A5:=(hw.ino i (by rw [h.len];have:=h.hi;omega)).sorted
      rw [h.vE h.hi,if_pos rfl,hy] at A5
      have:=sU A5 (l5.2 (.inl q6))
      rw [k4,tO] at this
      exact this
     ·rfl
    rw [Of]
    rw [b5 fL] at he ⊢
    simp only [cond_false] at he ⊢
    have hl1:cW (ak (J I v.2.1 d)) p≠0:=by have:=fL;unfold ed at this;rw [s8] at this;exact this
    obtain ⟨e,q6,k4,tO⟩:=mX hl1
    obtain ⟨i2,eL⟩:=Option.isSome_iff_exists.1 (hv.f_ d hdl.1 e q6)
    have akF:ed v.2.1 at_ p=e.2.1:=by unfold ed;rw [s8,tO]
    have Og:bd v.2.1 (ed v.2.1 at_ p)=some i2:=by rw [akF];exact eL
    have hq:=h.XH Og
    have Oh:=re Og
    have akG:kindOf (eS w.2.1 (ed v.2.1 at_ p))=kindOf (eS v.2.1 (ed v.2.1 at_ p)):=by
     rw [hq,Oh]
     split
     ·rename_i A6;subst A6;rfl
     ·rfl
    have akH:bw (eS w.2.1 (ed v.2.1 at_ p))=bw (eS v.2.1 (ed v.2.1 at_ p)):=by
     rw [hq,Oh]
     split
     ·rename_i A6;subst A6;rfl
     ·rfl
    rw [akG,akH]
    cases o6:kindOf (eS v.2.1 (ed v.2.1 at_ p))==3&&(!L.isEmpty||false) with
    | true =>
     rw [o6] at he
     simp only [cond_true] at he ⊢
     cases cG:Nat.ble 8 k with
     | true=>rw [cG] at he;exact absurd he (x_ hn)
     | false =>
     rw [cG] at he
     simp only [cond_false] at he ⊢
     cases p0:Nat.blt 40 (cut (bw (eS v.2.1 (ed v.2.1 at_ p)))++L).length with
     | true=>rw [p0] at he;exact absurd he (x_ hn)
     | false =>
     rw [p0] at he
     simp only [cond_false] at he ⊢
     refine ih _ _ _ ?_ he
     cases nb (bw (eS v.2.1 (ed v.2.1 at_ p))) 0==47
     ·exact⟨d,ag,eE⟩
     ·exact b7.root
    | false =>
     rw [o6] at he
     simp only [cond_false] at he ⊢
     cases kN:L.isEmpty with
     | true =>
      rw [kN] at he
      simp only [cond_true] at he
      have:(0:Int)=2:=congrArg (fun r:aS.D=>bE r) he
      omega
     | false =>
      rw [kN] at he
      simp only [cond_false] at he ⊢
      by_cases hk2:kindOf (eS v.2.1 (ed v.2.1 at_ p))=2
      ·rw [dt hk2] at he ⊢
       exact ih _ k L ⟨i2,Og,by rw [← Oh];exact hk2⟩ he
      ·rw [cV hk2] at he
       exact absurd he (x_ hn)
theorem akI(hv:bz v){at_:Int}{d:Nat}{p:aF}(ag:bd v.2.1 at_=some d)(h:ed v.2.1 at_ p≠0):∃j,bd v.2.1 (ed v.2.1 at_ p)=some j:=by
 have s8:=re ag
 have hl1:cW (ak (J I v.2.1 d)) p≠0:=by have:=h;unfold ed at this;rw [s8] at this;exact this
 obtain ⟨e,q6,k4,tO⟩:=mX hl1
 obtain ⟨i2,eL⟩:=Option.isSome_iff_exists.1 (hv.f_ d (bT ag).1 e q6)
 exact⟨i2,by unfold ed;rw [s8,← tO];exact eL⟩
def G6(l:List aJ)(at_:Int)(k:Nat)(p:aF)(L:List aF)(F:Int→Nat→List aF→aS.D):aS.D :=
 cond (bn p [46]) (F at_ k L) (cond (bn p [46,46]) (F (hR l at_) k L) (cond (decide ((p.length:Int)>8)) (jE 36)
   (cond (ed l at_ p==0) (cond L.isEmpty (at_,p,(0:Int),(2:Int),()) (jE 2))
    (cond (kindOf (eS l (ed l at_ p))==3&&(!L.isEmpty||false)) (cond (Nat.ble 8 k) (jE 40) (cond (Nat.blt 40 (cut (bw (eS l (ed l at_ p)))++L).length) (jE 36)
      (F (cond (nb (bw (eS l (ed l at_ p))) 0==47) 1 at_) (k+1) (cut (bw (eS l (ed l at_ p)))++L))))
     (cond L.isEmpty (at_,p,ed l at_ p,(0:Int),()) (cond (kindOf (eS l (ed l at_ p)) != 2) (jE 20) (F (ed l at_ p) k L)))))))
theorem akJ(l:List aJ)(c:aH.D)(n:Nat)(at_:Int)(k:Nat)(p:aF)(L:List aF):hp l c false (n+1) at_ k (p :: L)=cond (!may c (eS l at_) 1) (jE 13) (G6 l at_ k p L (hp l c false n)):=by
 rw [hp];rfl
theorem rf{b:Bool}{x bB y kv r:aS.D}(h:b=true→x=r→bB=r)(h':b=false→y=r→kv=r)(he:cond b x y=r):cond b bB kv=r:=by
 cases b with
 | true=>exact h rfl he
 | false=>exact h' rfl he
theorem akK(hv:bz v){F G:Int→Nat→List aF→aS.D}{r:aS.D}(h:∀a k L,iL v.2.1 a→F a k L=r→G a k L=r){at_:Int}{k:Nat}{p:aF}{L:List aF}(b4:iL v.2.1 at_) :
  G6 v.2.1 at_ k p L F=r→G6 v.2.1 at_ k p L G=r:=by
 have b7:=hv.fP
 unfold G6
 refine rf (fun _=>h _ _ _ b4) fun _=>rf (fun _=>h _ _ _ (vr b7 _)) fun _=>rf (fun _ e=>e) fun _=>rf (fun _ e=>e) fun h0=>rf (fun _=>rf (fun _ e=>e) fun _=>rf (fun _ e=>e) fun _=>h _ _ _ ?_) fun _=>rf (fun _ e=>e) fun _=>rf (fun _ e=>e) fun h2=>h _ _ _ ?_
 ·cases nb (bw (eS v.2.1 (ed v.2.1 at_ p))) 0==47
  ·exact b4
  ·exact b7.root
 ·obtain ⟨d,ag,_⟩:=b4
  obtain ⟨j,hj⟩:=akI hv ag (p:=p) (by simpa using h0)
  exact⟨j,hj,by rw [← re hj];simpa using h2⟩
theorem akL(hv:bz v)(c:aH.D){r:aS.D}(hn:nameOf r≠[]):∀(n:Nat) (at_:Int) (k:Nat) (L:List aF),iL v.2.1 at_→hp v.2.1 c false n at_ k L=r→hp v.2.1 eh false n at_ k L=r:=by
 have jd:∀a:Int,((0:Int),([]:aF),a,(0:Int),())≠r:=fun a e=>hn (by rw [← e];rfl)
 have akM:∀k,jE k≠r:=fun k e=>hn (by rw [← e];rfl)
 intro n
 induction n with
 | zero =>
  intro at_ k L b4 he
  cases L <;> simp only [hp] at he <;> exact absurd he (jd _)
 | succ n ih =>
  intro at_ k L b4 he
  cases L with
  | nil=>simp only [hp] at he;exact absurd he (jd _)
  | cons p L =>
   rw [akJ] at he ⊢
   have hr:may eh (eS v.2.1 at_) 1=true:=by
    obtain ⟨d,ag,eE⟩:=b4
    exact aky (by rw [re ag];exact eE)
   rw [hr]
   cases hm:may c (eS v.2.1 at_) 1 with
   | false=>rw [hm] at he;exact absurd he (akM _)
   | true=>rw [hm] at he;exact akK hv (fun a k L=>ih a k L) b4 he
end
theorem akN(a:List Int):∃n:Int,LK (a,0,())=some (n,()):=by
 show ∃n,LJ a 0=_
 unfold LJ
 by_cases h0:0<a.length
 ·rw [show decide ((0:Int)<(a.length:Int))=true from nR (by omega),show aM a.length 0=some 0 from bx (i:=0) h0]
  exact⟨_,rfl⟩
 ·rw [show decide ((0:Int)<(a.length:Int))=false from mP (by omega)]
  exact⟨_,rfl⟩
theorem akO(n:Int):aG (1+aG (2*(Int.tmod n 2))) = -1∨aG (1+aG (2*(Int.tmod n 2)))=1∨aG (1+aG (2*(Int.tmod n 2)))=3:=by
 have h1:=Int.tmod_lt_of_pos n (show(0:Int)<2 by omega)
 have h2 : -2<Int.tmod n 2:=by
  have h:=Int.tmod_lt_of_pos (-n) (show(0:Int)<2 by omega)
  rw [Int.neg_tmod] at h
  omega
 rw [dI (a:=2*Int.tmod n 2) (by omega) (by omega),dI (by omega) (by omega)]
 omega
theorem akP{N:List aw.D}{s:aF}{id:Int}(h:∀d,d∈N→d.1≠s):cf (ins N s id) s=N:=by
 have hf:∀d:aw.D,d∈N→(!bn d.1 s)=true:=fun d ag=>by
  rw [afZ,decide_eq_false (h d ag)];rfl
 unfold cf ins
 rw [List.filter_append,List.filter_append,List.filter_eq_self.2 (fun d ag=>hf d (List.takeWhile_subset _ ag)),List.filter_eq_self.2 (fun d ag=>hf d (List.dropWhile_subset _ ag))]
 have:([(s,id,())]:List aw.D).filter (fun d => !bn d.1 s)=[]:=by
  rw [List.filter_cons,show(!bn s s)=false by rw [Cz];rfl];rfl
 rw [this,List.append_nil,List.takeWhile_append_dropWhile]
section
variable{v w:ae.D}{i:Nat}{cH:aF}{jW:aJ}
theorem jX.drop(h:jX v w i cH jW)(hv:bz v)(hw:bz w):hU w i cH=(w.1,v.2.1,()):=by
 have g:=h.vE h.hi
 rw [if_pos rfl] at g
 have hs:∀d,d∈ak (J I v.2.1 i)→d.1≠cH:=by
  intro d ag e
  have h1:=sU (hv.ino i h.hi).sorted ag
  rw [e,h.look] at h1
  have h2:=hv.f_ i h.hi d ag
  rw [← h1] at h2
  obtain ⟨j,hj⟩:=Option.isSome_iff_exists.1 h2
  have h3:=hv.ids j (bT hj).1
  have h4:aX (J I v.2.1 j)=0:=(bT hj).2
  omega
 have hl:cW (ak (J I w.2.1 i)) cH=dn v:=by
  refine sU (d:=(cH,dn v,())) (hw.ino i (by rw [h.len];have:=h.hi;omega)).sorted ?_
  rw [g,hy];exact l5.2 (.inr rfl)
 unfold hU
 rw [hl,g,hy,akP hs]
 have e1:b0 (b0 (J I v.2.1 i) (ins (ak (J I v.2.1 i)) cH (dn v))) (ak (J I v.2.1 i))=J I v.2.1 i:=by
  generalize J I v.2.1 i=y
  obtain ⟨aaS,alN,alO,alP,alQ,alR,alS,alT,alU,⟨⟩⟩:=y
  rfl
 have e2:w.2.1.set i (J I v.2.1 i)=v.2.1++[jW]:=by
  rw [h.eq,List.set_append_left _ _ (by rw [List.length_set];exact h.hi),List.set_set,c6 h.hi,List.set_getElem_self]
 rw [e1,e2]
 unfold goN
 rw [WX,W0 hv.f_ hv.fresh,h.cC]
 have e3:du ([]:List aw.D) (dn v)=0:=rfl
 rw [e3,decide_eq_true (show 0+0=0 from rfl)]
 simp only [cond_true]
 rw [List.filter_append,List.filter_eq_self.2,List.filter_cons,cF (show jW.1=dn v from h.id)]
 ·simp
 ·intro y aN
  obtain ⟨j,hj,rfl⟩:=fg aN
  have h3:=hv.ids j hj
  have h4:aX (J I v.2.1 j)≠dn v:=by omega
  rw [show((J I v.2.1 j).1==dn v)=false from b5 h4];rfl
end
section
variable{v w:ae.D}{c:aH.D}{x:aI.D}
theorem akQ(hv:bz v)(hk:az x=1∨az x=3)(j8:Made v c x w):∃i cH,jX v w i cH (fQ v c x (J I v.2.1 i))∧cH≠[]∧dv (v,c,da x,false,())=some ((aX (J I v.2.1 i),cH,(0:Int),(2:Int),()),()):=by
 obtain ⟨r,i,hr,hc,hn,hi,gW,hm,hl,PZ,Gw,hw,hf,q_⟩:=j8.out
 obtain ⟨h0,_,d,ag,_,o6⟩:=hr.new hc hn
 rw [hi] at ag
 have ag:=aT ag
 subst ag
 obtain ⟨bD,cg,gd,akR,⟨⟩⟩:=r
 have h0:gd=0:=h0
 have hc:akR=2:=hc
 subst h0 hc
 have e1:aX (J I v.2.1 i)=bD:=(bT hi).2
 refine⟨i,cg,⟨(bT hi).1,gW,o6,?_,?_,rfl,?_,rfl⟩,hn,?_⟩
 ·rw [hw];rfl
 ·rw [hw]
 ·show q9 x≠3
  unfold q9
  rcases hk with h | h
  ·rw [if_pos h];decide
  ·rw [if_neg (by omega),if_neg (by omega)];decide
 ·rw [e1];exact q_
end
theorem akS{v:ae.D}{c:aH.D}{p:aF}{r:aS.D}(h:dv (v,c,p,false,())=some (r,()))(hc:bE r=2):ll p=true:=by
 cases au:ll p with
 | true=>rfl
 | false =>
  rw [show dv (v,c,p,false,())=mH v c p false from rfl] at h
  unfold mH at h
  rw [q3,au] at h
  have e:((0:Int),([]:aF),(0:Int),(22:Int),())=r:=congrArg Prod.fst (aT h)
  rw [← e] at hc
  cases hc
abbrev l7(p:aF):aI.D:=(14,p,([]:List UInt8),1,0,([]:List UInt8),())
abbrev vF(k:Int)(p:aF):aI.D:=(k,p,([]:List UInt8),0,0,([]:List UInt8),())
theorem akT{p:aF}(h:p.length≤60):gM (l7 p):=by
 have hk:az (l7 p)=14:=rfl
 have hn:bO (l7 p)=1:=rfl
 have hm:dX (l7 p)=0:=rfl
 exact⟨by omega,h,Nat.zero_le _,Nat.zero_le _,by omega,by omega,.inl rfl,.inl rfl⟩
theorem akU{k:Int}{p:aF}(hk:1≤k∧k≤22)(h:p.length≤60):gM (vF k p):=by
 have hn:bO (vF k p)=0:=rfl
 have hm:dX (vF k p)=0:=rfl
 exact⟨hk,h,Nat.zero_le _,Nat.zero_le _,by omega,by omega,.inl rfl,.inl rfl⟩
theorem XK{v w:ae.D}{p:aF}{k:Int}{t:aF}(hv:bz v)(au:p.length≤60){r:aS.D}(hr:dv (v,eh,p,false,())=some (r,()))(h:xu (v,eh,l7 p,())=some (w,(k,t,()),())):(bE r=0→w=v∧k=0)∧(bE r≠0→k=bE r):=by
 have n8:az (l7 p)=14:=rfl
 have hx:=akT au
 constructor
 ·intro h0
  obtain ⟨res,_,hs,_,_,hg⟩:=WN v eh (l7 p) hv s7 hx n8
  have hg:=hg r rfl hr h0
  obtain ⟨k',di,⟨⟩⟩:=res
  have h2:kH (v,eh,l7 p,())=some (v,(k',di,()),()):=by
   rw [AQ v eh _ hx (by omega)]
   unfold vB
   rw [if_neg (by omega),if_neg (by omega),if_neg (by omega),if_neg (by omega),if_neg (by omega),if_neg (by omega),hs]
   rfl
  obtain ⟨e1,e2,_⟩:=G4 hv s7 h h2
  exact⟨e1,by rw [e2];exact hg⟩
 ·intro h0
  have h2:kH (v,eh,l7 p,())=some (v,(bE r,[],()),()):=by
   rw [AQ v eh _ hx (by omega)]
   unfold vB
   rw [if_neg (by omega),if_neg (by omega),if_neg (by omega),if_neg (by omega),if_neg (by omega),if_neg (by omega)]
   obtain ⟨q,hq,bZ⟩:=xX v eh (l7 p) (by omega) rfl hv.fP r hr
   rw [bZ,xY v eh _ q r h0]
   rfl
  exact(G4 hv s7 h h2).2.1
theorem XL(v:ae.D)(c:aH.D)(x:aI.D)(w:ae.D)(ca:jA v=true)(hc:c9 c=true)(hx:gM x)(b7:jA w=true)(hsz:eV 25 v.2.1)(hk:az x=1∨az x=3)(j8:Made v c x w)(K:Int)(BL:(az x=1→K=2)∧(az x=3→K=8))(q:Nat) :
  ∃t2 k3 t3,jg (w,c,x,())=some (w,(17,t2,()),())∧jg (w,eh,l7 (da x),())=some (w,(k3,t3,()),())∧(vi (q+3)).iH K v c x w (17,t2,()) (k3,t3,())=some (true,()):=by
 have hv:=mW.1 ca
 have hw:=mW.1 b7
 obtain ⟨i,cH,hg,hQ,q_⟩:=akQ hv hk j8
 have nU:ll (da x)=true:=akS q_ rfl
 have XM:wp v.2.1 c false (da x)=(aX (J I v.2.1 i),cH,(0:Int),(2:Int),()):=by
  rw [G0 v c _ false hv.fP hc nU] at q_
  exact congrArg Prod.fst (aT q_)
 have Oi:iL v.2.1 1:=hv.fP.root
 have XN:wp v.2.1 eh false (da x)=(aX (J I v.2.1 i),cH,(0:Int),(2:Int),()):=akL hv c (r:=(aX (J I v.2.1 i),cH,(0:Int),(2:Int),())) hQ 900 1 0 _ Oi XM
 have akV:dv (w,c,da x,false,())=some ((aX (J I v.2.1 i),cH,dn v,(0:Int),()),()):=by
  rw [G0 w c _ false hw.fP hc nU]
  exact congrArg (fun r=>some (r,())) (XJ hg hv hw hQ c 900 1 0 _ Oi XM)
 have XO:dv (w,eh,da x,false,())=some ((aX (J I v.2.1 i),cH,dn v,(0:Int),()),()):=by
  rw [G0 w eh _ false hw.fP s7 nU]
  exact congrArg (fun r=>some (r,())) (XJ hg hv hw hQ eh 900 1 0 _ Oi XN)
 obtain ⟨b6,k2,t2,ml,eL,_⟩:=AS w c x hw.vb
 have akW:c0 (bO x) 0 2047=true:=by
  have hb:=j8.bad
  unfold p2 at hb
  rw [b5 (show az x≠10 by omega)] at hb
  simpa using hb
 obtain ⟨rfl,rfl,rfl⟩:b6=w∧k2=17∧t2=[]:=by
  refine G4 hw hc ml ?_
  rw [AQ w c x hx (by omega)]
  unfold vB
  rw [if_pos (by omega),akw w c x hk akW nU akV rfl]
  rfl
 obtain ⟨fY,k3,t3,akX,rK,alV⟩:=AS b6 eh (l7 (da x)) hw.vb
 obtain ⟨rfl,rfl⟩:=(XK hw hx.path XO akX).1 rfl
 refine⟨[],0,t3,eL,rK,?_⟩
 obtain ⟨z,ba,t4,akY,wh,akZ⟩:=AS fY eh (vF K (da x)) hw.vb
 have alW:az (vF K (da x))=K:=rfl
 have hnew:=hg.XI hw
 have Oj:=hg.G5
 have m1:=hg.vE hg.hi
 rw [if_pos rfl] at m1
 have iX:kindOf (J I fY.2.1 v.2.1.length)=q9 x:=by rw [Oj];rfl
 have b4:bd v.2.1 (aX (J I v.2.1 i))=some i:=XE hv hg.hi rfl
 obtain ⟨rfl,rfl,rfl⟩:z=hU fY i cH∧ba=0∧t4=[]:=by
  refine G4 hw s7 akY ?_
  rw [AQ fY eh _ (akU (by omega) hx.path) (by omega)]
  unfold vB
  rw [if_neg (by omega),if_pos (by omega)]
  rw [akA hw (vF K (da x)) (by omega) XO rfl hQ (hg.XG b4) (by rw [m1];exact hg.cP) hnew (by rw [Oj];exact hg.cC)
   (fun h=>by rw [iX];unfold q9;rw [if_pos (by omega)]) (fun h=>by rw [iX];unfold q9;rw [if_neg (by omega),if_neg (by omega)];decide)]
  rfl
 have XP:=akZ.ok b7
 rw [hg.drop hv hw] at wh XP
 have hz:=mW.1 XP
 show LL (vi (q+2)) K v c x fY (17,[],()) (0,t3,())=_
 unfold LL
 rw [Od]
 simp only [av,k7,uc]
 show Option.bind (jg (fY,eh,vF K (da x),())) _=_
 rw [wh]
 simp only [av]
 obtain ⟨akC,bt,t5,ak0,ak1,_⟩:=AS (fY.1,v.2.1,()) eh (l7 (da x)) hz.vb
 have ak2:dv (((fY.1,v.2.1,()):ae.D),eh,da x,false,())=some ((aX (J I v.2.1 i),cH,(0:Int),(2:Int),()),()):=by
  rw [G0 _ eh _ false hz.fP s7 nU]
  exact congrArg (fun r=>some (r,())) XN
 have ak3:bt=2:=(XK hz hx.path ak2 ak0).2 (by show(2:Int)≠0;decide)
 subst ak3
 show LN (vi (q+1)) v c x fY (17,[],()) (0,t3,()) (fY.1,v.2.1,()) (0,[],())=_
 unfold LN
 rw [Od]
 simp only [av,k7,uc]
 show Option.bind (jg (((fY.1,v.2.1,()):ae.D),eh,l7 (da x),())) _=_
 rw [ak1]
 simp only [av]
 show LO (vi q) v c fY (17,[],()) (0,t3,()) (fY.1,v.2.1,()) (0,[],()) (2,t5,())=_
 unfold LO
 have hl:=hg.len
 have hvl:=hv.len
 have fa:aM fY.2.1.length (aG ((fY.2.1.length:Int)-1))=some v.2.1.length:=by
  rw [hl,show aG (((v.2.1.length+1:Nat):Int)-1)=(v.2.1.length:Int) by rw [dI (by omega) (by omega)];omega,bx (by omega)]
 rw [b5 (show(fY.2.1.length:Int)≠0 by omega),fa]
 simp only [cond_false,av,Nat.zero_add]
 rw [Oj,show((fQ v c x (J I v.2.1 i)).1==v.1)=true from cF rfl,show((fQ v c x (J I v.2.1 i)).2.2.2.1==c.1)=true from cF rfl]
 have lO:Fv (((v.1,v.2.1,()):ae.D),v,())=some (true,()):=akp hsz (by omega)
 rw [lO]
 rfl
theorem ajn(z:List Int):S2 (z,())=some (true,()):=by
 obtain ⟨q,hq,alX⟩:=iI 3
 show Fw (vi aP) z=_
 unfold Fw
 rw [akm]
 simp only [av]
 by_cases ha:(z.length:Int)>1048576
 ·rw [nR ha];rfl
 rw [mP ha]
 simp only [cond_false]
 obtain ⟨v,c,jN,ag,hsz⟩:=akl z (by omega)
 obtain ⟨n,hn⟩:=akN z
 rw [ag]
 simp only [av]
 rw [MX v hsz.vb]
 simp only [av]
 cases ca:jA v with
 | false=>rfl
 | true =>
 simp only [Bool.not_true,cond_false]
 rw [xK]
 simp only [av]
 cases hc:c9 c with
 | false=>rfl
 | true =>
 simp only [Bool.not_true,cond_false]
 rw [hn,Od]
 simp only [av]
 have hv:=mW.1 ca
 obtain ⟨cP,n8⟩:∃cP,cP=aG (1+aG (2*(Int.tmod n 2))):=⟨_,rfl⟩
 have alY:cP = -1∨cP=1∨cP=3:=by rw [n8];exact akO n
 rw [← n8]
 obtain ⟨x,hx⟩:∃x:aI.D,x=(cP,jN.2.1,([]:List UInt8),jN.2.2.2.1,jN.2.2.2.2.1,([]:List UInt8),()):=⟨_,rfl⟩
 have Xf:az x=cP:=by rw [hx];rfl
 have oq:jN.2.1=da x:=by rw [hx];rfl
 rw [← hx]
 obtain ⟨w,k,t,hs,hi,Ok⟩:=AS v c x hv.vb
 rw [hs,hi]
 simp only [av,k7,uc,Cz,beq_self_eq_true,Bool.and_self,Bool.not_true,cond_false]
 by_cases h0:k=0
 case neg=>rw [cV h0];rfl
 rw [dt h0]
 simp only [cond_false]
 have hcall:ke x=true:=by
  cases h:ke x with
  | true=>rfl
  | false =>
   have:=(Ok.call ca hc (.inl h)).2.1
   rw [h0] at this
   cases this
 have Ol:=vw.1 hcall
 have hk1:=Ol.cP
 have hk:az x=1∨az x=3:=by omega
 have j8:Made v c x w:=by
  rcases Ok.done ca hc hcall (by omega) h0 with⟨_,ag⟩ | ⟨ag,_⟩ | ⟨ag,_⟩ | ⟨ag,_⟩ | ⟨ag,_⟩ | ⟨ag,_⟩ | ⟨ag,_⟩ | ⟨ag,_⟩ | ⟨ag,_⟩
  case inl=>exact ag
  all_goals (exfalso;omega)
 have XQ:=Ok.ok ca
 rw [oq,hq]
 rcases hk with hk | hk
 ·obtain ⟨t2,k3,t3,h1,h2,h3⟩:=XL v c x w ca hc Ol XQ hsz (.inl hk) j8 2 ⟨fun _=>rfl,fun h=>by omega⟩ q
  rw [h1,h2,cF (show cP=1 by omega)]
  exact h3
 ·obtain ⟨t2,k3,t3,h1,h2,h3⟩:=XL v c x w ca hc Ol XQ hsz (.inr hk) j8 8 ⟨fun h=>by omega,fun _=>rfl⟩ q
  rw [h1,h2,b5 (show cP≠1 by omega)]
  exact h3
end Go.LM.kD
