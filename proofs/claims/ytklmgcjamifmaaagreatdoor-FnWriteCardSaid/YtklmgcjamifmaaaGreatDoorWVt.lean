/- What is drawn, and the law. Conditions: each theorem's own hypotheses. -/
import Derived.Test.YtklmgcjamifmaaaGreatDoorWVe
set_option linter.unusedVariables false
set_option linter.unusedSimpArgs false
namespace Go.LM.kF
theorem A5{n:Nat}{i:Int}(h:0≤i)(h':i<n):aO n i=some i.toNat:=by
 rw [show aO n i=aO n ((i.toNat:Nat):Int) by congr 1;omega]
 exact bB (by omega)
abbrev fG:Type:=br.D
def ff(C:fG):Prop:=0≤C.2.1∧C.2.1≤(C.1.length:Int)∧C.1.length≤1048576
def a'{α : Type}(o:Option (α × br.D×Unit))(Q : α → Prop):Prop:=∃x C,o=some (x,C,())∧ff C∧Q x
theorem a'.ret{α : Type}{x : α}{C:fG}{Q : α → Prop}(h:ff C)(hq:Q x):a' (some (x,C,())) Q:=⟨x,C,rfl,h,hq⟩
theorem a'.bind{α β : Type}{o:Option (α × br.D×Unit)}{f : α × br.D×Unit→Option (β × br.D×Unit)}{Q : α → Prop}{R : β → Prop}(h:a' o Q)
  (hf:∀x C,ff C→Q x→a' (f (x,C,())) R):a' (o.bind f) R:=by
 obtain ⟨x,C,rfl,hc,hq⟩:=h
 exact hf x C hc hq
theorem a'.mono{α : Type}{o:Option (α × br.D×Unit)}{Q R : α → Prop}(h:a' o Q)(hr:∀x,Q x→R x):a' o R:=by
 obtain ⟨x,C,h1,h2,h3⟩:=h
 exact⟨x,C,h1,h2,hr x h3⟩
theorem a'.cond{α : Type}{b:Bool}{o p:Option (α × br.D×Unit)}{Q : α → Prop}(h:a' o Q)(h':a' p Q):a' (cond b o p) Q:=by
 cases b
 ·exact h'
 ·exact h
theorem Xq(x:Int):0≤cQ .and .i64 x 255∧cQ .and .i64 x 255≤255:=by
 have h:(BitVec.ofInt 64 x &&& BitVec.ofInt 64 255).toNat≤255:=by
  rw [BitVec.toNat_and]
  exact Nat.le_trans Nat.and_le_right (by decide)
 have h':((BitVec.ofInt 64 x &&& BitVec.ofInt 64 255).toNat:Int)≤255:=by omega
 have:cQ .and .i64 x 255=((BitVec.ofInt 64 x &&& BitVec.ofInt 64 255).toNat:Int):=tj (Int.le_trans (by decide) (Int.natCast_nonneg _)) (Int.le_trans h' (by decide))
 omega
theorem akf(b:List Int)(i hh:Int)(u:Unit)(h1:0≤i)(h2:i≤(b.length:Int))(h3:b.length≤1048576):a' (qF (((b,i,hh,u):fG),())) (fun x=>0≤x∧x≤255):=by
 show a' (JE ((b,i,hh,u):fG)) _
 unfold JE
 dsimp only
 by_cases hi:i<(b.length:Int)
 ·rw [nS hi,A5 h1 hi]
  refine a'.ret ⟨?_,?_,h3⟩ (Xq _)
  ·show 0≤aK (i+1);rw [ed (a:=i+1) (by omega) (by omega)];omega
  ·show aK (i+1)≤(b.length:Int);rw [ed (a:=i+1) (by omega) (by omega)];omega
 ·rw [l1 hi]
  exact a'.ret ⟨h1,h2,h3⟩ (Xq _)
theorem x9{C:fG}(h:ff C):a' (qF (C,())) (fun x=>0≤x∧x≤255) :=
 akf C.1 C.2.1 C.2.2.1 C.2.2.2 h.1 h.2.1 h.2.2
structure Below(n x:Int):Prop where
 lo:0≤x
 hi:0<n→x<n
 no:n≤0→x=0
theorem Xr{x n:Int}(hx:0≤x)(hn:0<n):Below n (Int.tmod x n) :=
 ⟨Int.tmod_nonneg _ hx,fun _=>Int.tmod_lt_of_pos _ hn,fun h=>by omega⟩
theorem gW{C:fG}(h:ff C)(n:Int):a' (gr (C,n,())) (Below n):=by
 show a' (JF C n) _
 unfold JF
 by_cases h0:n≤0
 ·rw [nS h0];exact a'.ret h ⟨Int.le_refl _,fun h=>by omega,fun _=>rfl⟩
 rw [l1 h0]
 by_cases h1:n≤256
 ·rw [nS h1]
  refine(x9 h).bind fun x C aR hx=>?_
  dsimp only
  rw [cP (by omega:n≠0)]
  exact a'.ret aR (Xr hx.1 (by omega))
 ·rw [l1 h1]
  refine(x9 h).bind fun x C aR hx=>(x9 aR).bind fun y C aR aN=>(x9 aR).bind fun z C aR hz=>(x9 aR).bind fun w C aR hw=>?_
  dsimp only
  rw [cP (by omega:n≠0)]
  refine a'.ret aR (Xr ?_ (by omega))
  rw [ed (a:=x*16777216) (by omega) (by omega),ed (a:=y*65536) (by omega) (by omega),ed (a:=z*256) (by omega) (by omega),ed (a:=x*16777216+y*65536) (by omega) (by omega),ed (a:=x*16777216+y*65536+z*256) (by omega) (by omega),ed (a:=x*16777216+y*65536+z*256+w) (by omega) (by omega)]
  omega
theorem x_{C:fG}(h:ff C)(n:Int):a' (r9 (C,n,())) (fun _=>True) :=
 (gW h n).bind fun x C aR _=>a'.ret aR trivial
theorem kR{C:fG}(h:ff C)(l:List Int)(hl:0<l.length):a' (jk (C,l,())) (fun x=>x∈l):=by
 show a' (Ka C l) _
 unfold Ka
 refine(gW h _).bind fun x C aR hx=>?_
 dsimp only
 have:=hx.hi (by omega)
 rw [A5 hx.lo this]
 refine a'.ret aR ?_
 rw [Nat.zero_add]
 exact cJ (t:=.int .i64) (by have:=hx.lo;omega)
theorem GW{C:fG}(h:ff C)(l:List aG)(hl:0<l.length):a' (qT (C,l,())) (fun x=>x∈l):=by
 show a' (Kd C l) _
 unfold Kd
 refine(gW h _).bind fun x C aR hx=>?_
 dsimp only
 have:=hx.hi (by omega)
 rw [A5 hx.lo this]
 refine a'.ret aR ?_
 rw [Nat.zero_add]
 exact cJ (t:=.str) (by have:=hx.lo;omega)
theorem Ov{C:fG}(h:ff C)(n:Nat)(l:List aG)(hl:0<l.length)(hn:l.all fun s=>decide (s.length≤n)):a' (qT (C,l,())) (fun x=>x.length≤n) :=
 (GW h l hl).mono fun x hx=>by simpa using List.all_eq_true.1 hn x hx
theorem akg(U:Int):∀(r q:Nat) (ai:List Int) (C:fG),ff C→ai.length+r≤1000→2*r<q→a' ((sm q).bg U (r:Int) C ai) (fun s=>s.length≤ai.length+r):=by
 intro r
 induction r with
 | zero =>
  intro q ai C aR hl hq
  obtain ⟨q,rfl,_⟩:=fuel hq
  show a' (zE (sm q) U ((0:Nat):Int) C ai) (fun s=>s.length≤ai.length+0)
  unfold zE
  rw [l1 (by omega)]
  exact a'.ret aR (by simp [gI])
 | succ r ih =>
  intro q ai C aR hl hq
  obtain ⟨q,rfl,hq⟩:=fuel hq
  show a' (zE (sm q) U _ C ai) _
  unfold zE
  rw [nS (by omega)]
  refine(x9 aR).bind fun y C aR _=>?_
  have hk:∀y,a' ((sm q).db U ((r+1:Nat):Int) y C ai) (fun s=>s.length≤ai.length +(r+1)):=fun y=>by
   obtain ⟨q,rfl,hq⟩:=fuel (show 2*r+1<q by omega)
   show a' (Kc (sm q) U _ y C ai) _
   unfold Kc
   rw [cH (by simp;omega),ed (by omega) (by omega),show((r+1:Nat):Int)-1=(r:Int) by omega]
   exact(ih q _ C aR (by simp;omega) (by omega)).mono fun s hs=>by simp at hs;omega
  exact a'.cond (a'.cond (hk _) (hk _)) (a'.cond (hk _) (hk _))
theorem Xs{C:fG}(h:ff C)(n:Nat)(hn:n≤900):a' (uM (C,(n:Int),())) (fun s=>s.length≤n):=by
 show a' (DD (sm aQ) C n) _
 unfold DD
 refine(gW h _).bind fun x C aR hx=>(gW aR _).bind fun y C aR aN=>?_
 dsimp only
 rw [ed (a:=(n:Int)+1) (by omega) (by omega)] at aN
 have h1:=aN.lo;have h2:=aN.hi (by omega)
 have:=akg x y.toNat aQ [] C aR (by simp;omega) (by rw [vp];omega)
 rw [Int.toNat_of_nonneg h1] at this
 exact this.mono fun s hs=>by simp at hs;omega
theorem Xt{C:fG}(h:ff C):a' (xe (C,())) (fun s=>s.length≤3):=by
 show a' (Ke C) _
 unfold Ke
 exact(Ov h 3 _ (by decide) (by decide)).bind fun s C aR hs=>a'.ret aR hs
theorem Xu(q:Nat){C:fG}(aR:ff C)(s:aG):a' ((oR (q+1)).xf s C) (fun _=>True):=by
 show a' (Kg (oR q) s C) _
 unfold Kg
 refine(x_ aR 30).bind fun b C aR _=>?_
 dsimp only
 exact a'.cond ((GW aR _ (by decide)).bind fun y C aR _=>a'.ret aR trivial) (a'.ret aR trivial)
theorem Xv(q:Nat){C:fG}(aR:ff C)(s:aG)(hs:s.length≤1000):a' ((oR (q+2)).jS s C) (fun _=>True):=by
 show a' (Kf (oR (q+1)) s C) _
 unfold Kf
 rw [cH (by simp;omega)]
 exact Xu q aR _
theorem akh:∀(r q:Nat) (s:aG) (C:fG),ff C→s.length+20*r≤900→r<q→a' ((oR (q+2)).k3 s (r:Int) C) (fun _=>True):=by
 intro r
 induction r with
 | zero =>
  intro q s C aR hs hq
  obtain ⟨q,rfl,_⟩:=fuel hq
  show a' (zF (oR (q+2)) s ((0:Nat):Int) C) _
  unfold zF
  rw [l1 (by omega),cond_false]
  refine a'.cond (Xv q aR s (by omega)) ?_
  refine(x_ aR 20).bind fun b C aR _=>?_
  dsimp only
  exact a'.cond (Xv q aR s (by omega)) (Xu (q+1) aR s)
 | succ r ih =>
  intro q s C aR hs hq
  obtain ⟨q,rfl,hq⟩:=fuel hq
  show a' (zF (oR (q+2)) s _ C) _
  unfold zF
  rw [nS (by omega),cH (by simp;omega),ed (a:=((r+1:Nat):Int)-1) (by omega) (by omega),show((r+1:Nat):Int)-1=(r:Int) by omega]
  refine(Xt aR).bind fun n C aR hn=>?_
  dsimp only
  rw [cH (by simp;omega)]
  refine(gW aR 14).bind fun k C aR _=>?_
  dsimp only
  have hk:∀(t:aG) C,ff C→t.length≤9→a' (cond (room (((s++([47]:List UInt8))++n).length+t.length)) ((oR (q+2)).k3 (((s++([47]:List UInt8))++n)++t) (r:Int) C) none) (fun _=>True):=fun t C aR ht=>by
   rw [cH (by simp;omega)]
   exact ih q _ C aR (by simp;omega) (by omega)
  refine a'.cond (hk _ C aR (by simp)) (a'.cond (hk _ C aR (by simp)) (a'.cond (hk _ C aR (by simp)) (a'.cond ?_ ?_)))
  ·refine(Ov aR 9 _ (by decide) (by decide)).bind fun y C aR aN=>?_
   exact hk y C aR aN
  ·exact ih q _ C aR (by simp;omega) (by omega)
theorem Xw{C:fG}(h:ff C):a' (DF (C,())) (fun _=>True):=by
 show a' (DE (oR aQ) C) _
 unfold DE
 refine(gW h 5).bind fun x C aR hx=>?_
 dsimp only
 have h1:=hx.lo;have h2:=hx.hi (by omega)
 obtain ⟨q,hq,alL⟩:=jm 2
 have:=akh x.toNat q [] C aR (by simp;omega) (by omega)
 rw [Int.toNat_of_nonneg h1,← hq] at this
 exact this
theorem aki(v:af.D){n:Nat}(hv:e9 n v.2.1)(hn:n≤1000):∀(r q:Nat) (s:aG) (at_:Int) (C:fG),ff C→s.length+9*r≤900→r<q→a' (uN q s at_ ((r:Int)-1) C v) (fun _=>True):=by
 intro r
 induction r with
 | zero =>
  intro q s at_ C aR hs hq
  obtain ⟨q,rfl,_⟩:=fuel hq
  show a' (xg (uN q) s at_ _ C v) _
  unfold xg
  rw [l1 (by omega)]
  exact a'.ret aR trivial
 | succ r ih =>
  intro q s at_ C aR hs hq
  obtain ⟨q,rfl,hq⟩:=fuel hq
  show a' (xg (uN q) s at_ _ C v) _
  unfold xg
  rw [nS (show((r+1:Nat):Int)-1≥0 by omega),l3 v at_ (by have:=hv.len;omega)]
  simp only [cond_true,av]
  have lX:∀C,ff C→a' (cond (room (s.length +([47]:List UInt8).length)) ((xe (C,())).bind fun v2=>cond (room ((s++([47]:List UInt8)).length+v2.1.length)) (some ((s++([47]:List UInt8))++v2.1,v2.2.1,())) none) none) (fun _=>True):=fun C aR=>by
   rw [cH (by simp;omega)]
   refine(Xt aR).bind fun m C aR hm=>?_
   dsimp only
   rw [cH (by simp;omega)]
   exact a'.ret aR trivial
  cases hi:bd v.2.1 at_ with
  | none=>exact lX C aR
  | some d =>
   have ag:=(bY hi).1
   rw [show decide (hL (some d)<0)=false from l1 (show ¬((d:Int)<0) by omega)]
   rw [show aO v.2.1.length (hL (some d))=some d from bB ag]
   simp only [cond_false,av]
   by_cases h0:(ak (J I v.2.1 d)).length=0
   ·rw [cF (show(((J I v.2.1 d).2.2.2.2.2.2.1).length:Int)=0 from by have:(ak (J I v.2.1 d)).length=0:=h0;exact congrArg (fun k:Nat=>(k:Int)) this)]
    exact lX C aR
   ·rw [ca (show(((J I v.2.1 d).2.2.2.2.2.2.1).length:Int)≠0 from by have:(ak (J I v.2.1 d)).length≠0:=h0;exact fun h=>this (Int.ofNat.inj h))]
    simp only [cond_false,ji]
    refine(gW aR _).bind fun k C aR hk=>?_
    have cw:k<((ak (J I v.2.1 d)).length:Int):=hk.hi (by show(0:Int)<((ak (J I v.2.1 d)).length:Int);omega)
    have Qn:=hk.lo
    dsimp only
    rw [show aO (((J I v.2.1 d).2.2.2.2.2.2.1).length) k=some k.toNat from A5 hk.lo cw]
    simp only [av]
    have cV:((J ay (ak (J I v.2.1 d)) k.toNat).1).length≤8:=(hv.get ag).each _ (cJ (by omega))
    have cV:((J ay ((J I v.2.1 d).2.2.2.2.2.2.1) k.toNat).1).length≤8:=cV
    rw [cH (by simp;omega)]
    simp only [cond_true]
    rw [cH (n:=(s++([47]:List UInt8)).length +((J ay ((J I v.2.1 d).2.2.2.2.2.2.1) k.toNat).1).length) (by simp;omega)]
    simp only [cond_true]
    rw [ed (a:=((r+1:Nat):Int)-1-1) (by omega) (by omega),show((r+1:Nat):Int)-1-1=(r:Int)-1 by omega]
    refine ih q _ _ C aR ?_ (by omega)
    simp only [List.length_append,List.length_singleton];omega
theorem Xx{C:fG}(h:ff C)(v:af.D){n:Nat}(hv:e9 n v.2.1)(hn:n≤1000):a' (xh (C,v,())) (fun _=>True):=by
 show a' (DH (uN aQ) C v) _
 unfold DH
 refine(x_ h 4).bind fun b C aR _=>?_
 dsimp only
 refine a'.cond ((Xw aR).bind fun y C aR _=>a'.ret aR trivial) ?_
 refine(gW aR 4).bind fun x C aR hx=>?_
 dsimp only
 have h1:=hx.lo;have h2:=hx.hi (by omega)
 have:=aki v hv hn (x.toNat+1) aQ [] 1 C aR (by simp;omega) (by rw [vp];omega)
 rw [show((x.toNat+1:Nat):Int)-1=x by omega] at this
 exact this
theorem akj{n:Nat}{lo hi:Int}(h:0≤lo)(h':lo≤hi)(akk:hi≤n):du n lo hi=some (lo.toNat,hi.toNat):=by
 unfold du
 rw [if_pos ⟨h,h',akk⟩]
theorem Ow{C:fG}(h:ff C):a' (zD (C,())) (fun c=>c9 c=true):=by
 show a' (Kb C) _
 unfold Kb
 refine(gW h 4).bind fun x C aR _=>?_
 dsimp only
 have h0:a' (some (((0,0,([]:List Int),()):aH.D),C,())) (fun c=>c9 c=true):=a'.ret aR (by kernel_rfl)
 have h2:a' (some (((2,2,[5],()):aH.D),C,())) (fun c=>c9 c=true):=a'.ret aR (by kernel_rfl)
 have h3:a' (some (((3,2,([]:List Int),()):aH.D),C,())) (fun c=>c9 c=true):=a'.ret aR (by kernel_rfl)
 exact a'.cond (a'.cond h0 (a'.cond h2 h3)) (a'.cond h0 (a'.cond h2 h3))
theorem akl{C:fG}(h:ff C):a' (Ku (C,())) (fun _=>True):=by
 show a' (Kt C) _
 unfold Kt
 refine(Ow h).bind fun c C aR _=>?_
 refine(x_ aR 10).bind fun b C aR _=>?_
 dsimp only
 refine a'.cond ?_ (a'.ret aR trivial)
 refine(gW aR 3).bind fun x C aR _=>?_
 dsimp only
 refine a'.cond ((kR aR _ (by decide)).bind fun y C aR _=>a'.ret aR trivial) (a'.cond ((kR aR _ (by decide)).bind fun y C aR _=>a'.ret aR trivial) ?_)
 refine(gW aR 2).bind fun y C aR aN=>?_
 dsimp only
 have h1:=aN.lo;have h2:=aN.hi (by omega)
 rw [ed (a:=4+y) (by omega) (by omega)]
 show a' ((du 5 0 (4+y)).bind fun bp=>some (((c.1,c.2.1,part ([1,2,3,4,5]:List Int) (0+bp.1) (bp.2-bp.1),()):aH.D),C,())) _
 rw [akj (Int.le_refl _) (by omega) (by omega)]
 exact a'.ret aR trivial
theorem call32(m:Nat){C:fG}(aR:ff C)(aa ae:aJ.D)(ag:ae.2.2.2.2.2.1.length≤100):a' ((lf (m+1)).f_ C aa ae) (fun _=>True):=by
 show a' (Kk (lf m) C aa ae) _
 unfold Kk
 refine(x_ aR 25).bind fun b C aR _=>?_
 dsimp only
 refine a'.cond ?_ (a'.ret aR trivial)
 refine(gW aR 6).bind fun z C aR _=>?_
 dsimp only
 refine a'.cond ((kR aR _ (by decide)).bind fun y C aR _=>a'.ret aR trivial) (a'.cond ((kR aR _ (by decide)).bind fun y C aR _=>a'.ret aR trivial)
  (a'.cond ((kR aR _ (by decide)).bind fun y C aR _=>a'.ret aR trivial) (a'.cond ?_ (a'.cond ((GW aR _ (by decide)).bind fun y C aR _=>a'.ret aR trivial) ((Xw aR).bind fun y C aR _=>a'.ret aR trivial)))))
 rw [cH (by simp;omega)]
 exact a'.ret aR trivial
theorem call19(m:Nat){C:fG}(aR:ff C)(v:af.D){n:Nat}(hv:e9 n v.2.1)(hn:n≤1000)(aa ae:aJ.D)(ag:ae.2.2.2.2.2.1.length≤100):a' ((lf (m+2)).oQ C v aa ae) (fun _=>True):=by
 show a' (Kl (lf (m+1)) C v aa ae) _
 unfold Kl
 refine(Xx aR v hv hn).bind fun s C aR _=>?_
 exact call32 m aR _ _ ag
theorem call20(m:Nat){C:fG}(aR:ff C)(k:Int)(aa ae:aJ.D)(ag:ae.2.2.2.2.2.1.length≤100):a' ((lf (m+2)).nI k C aa ae) (fun _=>True):=by
 show a' (Km (lf (m+1)) k C aa ae) _
 unfold Km
 refine a'.cond ((GW aR _ (by decide)).bind fun y C aR _=>call32 m aR _ _ ag) (a'.cond ((gW aR 2).bind fun y C aR _=>call32 m aR _ _ ag)
  (a'.cond ((kR aR _ (by decide)).bind fun y C aR _=>(kR aR _ (by decide)).bind fun z C aR _=>call32 m aR _ _ ag) (a'.cond ((gW aR 8).bind fun y C aR _=>call32 m aR _ _ ag)
   (a'.cond ((kR aR _ (by decide)).bind fun y C aR _=>(kR aR _ (by decide)).bind fun z C aR _=>call32 m aR _ _ ag) (call32 m aR _ _ ag)))))
theorem Xy{C:fG}(h:ff C)(v:af.D){n:Nat}(hv:e9 n v.2.1)(hn:n≤1000):a' (DJ (C,v,())) (fun _=>True):=by
 obtain ⟨m,hm,_⟩:=jm 4
 show a' (DI (lf aQ) C v) _
 rw [hm]
 unfold DI
 simp only [ji,nE]
 refine(kR h _ (by decide)).bind fun k C aR _=>(Xx aR v hv hn).bind fun s C aR _=>?_
 dsimp only
 show a' (Kh (lf (m+3)) C v _ _) _
 unfold Kh
 have bl:∀(aa ae:aJ.D),ae.2.2.2.2.2.1.length≤100→a' ((lf (m+3)).dg C aa ae) (fun _=>True):=fun aa ae ag=>by
  show a' (Ki (lf (m+2)) C aa ae) _
  unfold Ki
  exact(kR aR _ (by decide)).bind fun y C aR _=>call32 (m+1) aR _ _ ag
 have bK:∀(k:Int) (aa ae:aJ.D),ae.2.2.2.2.2.1.length≤100→a' ((lf (m+3)).da k C v aa ae) (fun _=>True):=fun k aa ae ag=>by
  show a' (Kj (lf (m+2)) k C v aa ae) _
  unfold Kj
  have GX:∀ {C:fG},ff C→∀ai:aG→aJ.D,(∀t,(ai t).2.2.2.2.2.1=t)→a' ((uM (C,30,())).bind fun v4=>(lf (m+2)).f_ v4.2.1 aa (ai v4.1)) (fun _=>True):=fun aR ai hx =>
   (Xs aR 30 (by omega)).bind fun t C aR ht=>call32 (m+1) aR _ _ (by rw [hx];exact Nat.le_trans ht (by omega))
  refine a'.cond ((gW aR 8).bind fun y C aR _=>(gW aR 20).bind fun z C aR _=>call32 (m+1) aR _ _ ag) (a'.cond ((gW aR 20).bind fun y C aR _=>?_) (a'.cond ?_ (a'.cond ((gW aR 70).bind fun y C aR _=>call32 (m+1) aR _ _ ag)
   (a'.cond (a'.cond (call19 m aR v hv hn _ _ ag) (call20 m aR _ _ _ ag)) (a'.cond (call19 m aR v hv hn _ _ ag) (call20 m aR _ _ _ ag))))))
  ·exact GX aR (fun t=>(ae.1,ae.2.1,ae.2.2.1,y,ae.2.2.2.2.1,t,())) fun t=>rfl
  ·exact GX aR (fun t=>(ae.1,ae.2.1,ae.2.2.1,ae.2.2.2.1,ae.2.2.2.2.1,t,())) fun t=>rfl
 have ag:([]:aG).length≤100:=by simp
 exact a'.cond (a'.cond (bl _ _ ag) (bK _ _ _ ag)) (a'.cond (a'.cond (bl _ _ ag) (bK _ _ _ ag)) (a'.cond (bl _ _ ag) (bK _ _ _ ag)))
theorem Ox:∀m:Int,m∈[511,511,493,1023,2047]→bE ((2:Int),([(1,2,m,0,0,([]:aG),([]:List ay.D),0,0,())]:List aI),()):=by
 intro m hm
 simp only [List.mem_cons,List.not_mem_nil,or_false] at hm
 rcases hm with rfl | rfl | rfl | rfl | rfl <;> exact lr.1 (by kernel_rfl)
theorem akm:e9 24 ([(1,2,493,0,0,([]:aG),([]:List ay.D),0,0,())]:List aI):=(bE.sz (Ox 493 (by decide)))
theorem Xz{C:fG}(h:ff C):a' (DK (C,())) (fun _=>True):=by
 show a' (Kn C) _
 unfold Kn
 rw [show JG ()=some ((2,[(1,2,493,0,0,([]:aG),([]:List ay.D),0,0,())],()),()) from rfl]
 simp only [av]
 exact(Xy h _ akm (by omega)).bind fun x C aR _=>a'.ret aR trivial
theorem XA(v:af.D)(c:aH.D)(x:aJ.D)(hv:bE v)(hc:c9 c=true):∃w r,ke (v,c,x,())=some (w,r,())∧bE w:=by
 by_cases hx:h8 x=true∧aE x≤20
 ·obtain ⟨k,t,w,_,h2,h3,_,_⟩:=W0 v c x hv hc (p9.1 hx.1) hx.2
  refine⟨_,_,h2,?_⟩
  by_cases h0:k=0
  ·rw [cF h0];exact(h3 h0).ok hv hc (p9.1 hx.1)
  ·rw [ca h0];exact hv
 ·refine⟨v,(22,[],()),?_,hv⟩
  show sk (zC aQ) v c x=_
  unfold sk
  rw [MQ]
  simp only [av]
  cases hcall:h8 x with
  | false=>rfl
  | true =>
   simp only [Bool.not_true,cond_false]
   rw [decide_eq_true (show x.1>20 from by have:¬aE x≤20:=fun h=>hx ⟨hcall,h⟩;exact Int.not_le.1 this)];rfl
theorem XB:∀m,y' m=pM m
 | 0=>rfl
 | m+1=>by
  funext U aa ae ai
  show JH (y' m) U aa ae ai=y_ (pM m) U aa ae ai
  rw [XB m];rfl
theorem XC{v:af.D}(h:bE v):za (v,())=some (v,()):=by
 have:=h.GL
 rw [show lZ (v,())=y9 (pM aQ) v from rfl,← XB] at this
 exact this
theorem akn(v0:af.D):∀(r q:Nat) (C:fG) (v:af.D),ff C→bE v→r≤1000→r<q→a' (uO q ((r:Int)+1) C v0 v) bE:=by
 intro r
 induction r with
 | zero =>
  intro q C v aR hv hr hq
  obtain ⟨q,rfl,_⟩:=fuel hq
  show a' (xj (uO q) _ C v0 v) _
  unfold xj
  rw [ed (a:=((0:Nat):Int)+1-1) (by omega) (by omega),l1 (by omega),XC hv]
  exact a'.ret aR hv
 | succ r ih =>
  intro q C v aR hv hr hq
  obtain ⟨q,rfl,hq⟩:=fuel hq
  show a' (xj (uO q) _ C v0 v) _
  unfold xj
  rw [ed (a:=((r+1:Nat):Int)+1-1) (by omega) (by omega),nS (by omega)]
  refine(Ow aR).bind fun c C aR hc=>(Xz aR).bind fun x C aR _=>?_
  dsimp only
  obtain ⟨w,k,hw,dM⟩:=XA v c x hv hc
  rw [hw]
  simp only [av]
  rw [show((r+1:Nat):Int)+1-1=(r:Int)+1 by omega]
  exact ih q C w aR dM (by omega) (by omega)
theorem ako{C:fG}(h:ff C)(n:Int)(hn:n≤1000):a' (Ko (C,n,())) bE:=by
 show a' (DL (uO aQ) C n) _
 unfold DL
 rw [show y8 ()=some ((2,[(1,2,493,0,0,([]:aG),([]:List ay.D),0,0,())],()),()) from rfl]
 simp only [av]
 refine(kR h _ (by decide)).bind fun m C aR hm=>?_
 rw [show aO (([(1,2,493,0,0,([]:aG),([]:List ay.D),0,0,())]:List aI)).length 0=some 0 from rfl]
 simp only [av]
 unfold So
 refine(gW aR n).bind fun k C aR hk=>?_
 dsimp only
 have dM:=Ox m hm
 by_cases h0:k>0
 ·rw [nS h0]
  refine(Ow aR).bind fun c C aR hc=>(Xz aR).bind fun x C aR _=>?_
  dsimp only
  obtain ⟨w,r,hw,dM⟩:=XA _ c x dM hc
  have rL:ke (((2,List.set [(1,2,493,0,0,([]:aG),([]:List ay.D),0,0,())] (0+0) (((J I [(1,2,493,0,0,([]:aG),([]:List ay.D),0,0,())] (0+0)).1,(J I [(1,2,493,0,0,([]:aG),([]:List ay.D),0,0,())] (0+0)).2.1,m,(J I [(1,2,493,0,0,([]:aG),([]:List ay.D),0,0,())] (0+0)).2.2.2.1,(J I [(1,2,493,0,0,([]:aG),([]:List ay.D),0,0,())] (0+0)).2.2.2.2.1,(J I [(1,2,493,0,0,([]:aG),([]:List ay.D),0,0,())] (0+0)).2.2.2.2.2.1,(J I [(1,2,493,0,0,([]:aG),([]:List ay.D),0,0,())] (0+0)).2.2.2.2.2.2.1,(J I [(1,2,493,0,0,([]:aG),([]:List ay.D),0,0,())] (0+0)).2.2.2.2.2.2.2.1,(J I [(1,2,493,0,0,([]:aG),([]:List ay.D),0,0,())] (0+0)).2.2.2.2.2.2.2.2.1,()):aI),()):af.D),c,x,())=some (w,r,()):=hw
  rw [rL]
  simp only [av]
  have h1:=hk.hi (by have:=hk.no;omega)
  have:=akn (0,([]:List I.D),()) (k.toNat-1) aQ C w aR dM (by omega) (by rw [vp];omega)
  rw [show((k.toNat-1:Nat):Int)+1=k by omega] at this
  exact this
 ·rw [l1 h0]
  have yq:=XC dM
  exact(show a' ((za (((2:Int),([(1,2,m,0,0,([]:aG),([]:List ay.D),0,0,())]:List aI),()),())).bind fun v9=>some (v9.1,C,())) bE by rw [yq];exact a'.ret aR dM)
theorem akp{C:fG}(h:ff C)(n:Int)(hn:n≤1000):a' (Kq (C,n,())) (fun w=>e9 25 w.2.1):=by
 show a' (Kp C n) _
 unfold Kp
 refine(ako h n hn).bind fun v C aR hv=>(x_ aR 10).bind fun b C aR _=>?_
 have hsz:e9 25 v.2.1:=hv.sz.mono (by omega)
 refine a'.cond (a'.ret aR hsz) ?_
 refine(gW aR _).bind fun k C aR hk=>?_
 have h1:=hk.lo;have h2:=hk.hi (by have:=hv.len;show(0:Int)<(v.2.1.length:Int);omega)
 have h2:k<(v.2.1.length:Int):=h2
 refine(gW aR 9).bind fun z C aR _=>?_
 dsimp only
 have hi:k.toNat<v.2.1.length:=by omega
 have au:=hsz.get hi
 have xZ:=hv.fe hi
 have jX:(ak (J I v.2.1 k.toNat)).length≤24:=(hv.sz.get hi).cG
 rw [show aO v.2.1.length k=some k.toNat from A5 h1 h2]
 simp only [av,Nat.zero_add]
 refine a'.cond ((kR aR _ (by decide)).bind fun y C aR _=>a'.ret aR hsz) (a'.cond ((gW aR 5).bind fun y C aR _=>a'.ret aR (hsz.set _ ⟨au.fe,au.cG,au.each⟩)) (a'.cond ((kR aR _ (by decide)).bind fun y C aR _=>a'.ret aR (hsz.set _ ⟨au.fe,au.cG,au.each⟩))
  (a'.cond ?_ (a'.cond ?_ (a'.cond ((kR aR _ (by decide)).bind fun y C aR _=>a'.ret aR (hsz.set _ ⟨au.fe,au.cG,au.each⟩)) (a'.cond ((kR aR _ (by decide)).bind fun y C aR _=>a'.ret aR (hsz.set _ ⟨au.fe,au.cG,au.each⟩)) (a'.cond ?_ ((gW aR 5).bind fun y C aR _=>a'.ret aR (hsz.set _ ⟨au.fe,au.cG,au.each⟩)))))))))
 ·rw [cH (n:=(J I v.2.1 k.toNat).2.2.2.2.2.1.length +([120]:List UInt8).length) (by have:(J I v.2.1 k.toNat).2.2.2.2.2.1.length≤64:=xZ;simp;omega)]
  refine a'.ret aR (hsz.set _ ⟨?_,au.cG,au.each⟩)
  show((bh (J I v.2.1 k.toNat))++([120]:List UInt8)).length≤200
  simp only [List.length_append,List.length_singleton];omega
 ·refine(Ov aR 2 _ (by decide) (by decide)).bind fun y C aR aN=>(gW aR 6).bind fun u C aR _=>?_
  dsimp only
  rw [show Nat.beq k.toNat k.toNat=true from Nat.beq_refl _]
  simp only [cond_true]
  rw [cH (n:=(J I v.2.1 k.toNat).2.2.2.2.2.2.1.length+[((y,u,()):ay.D)].length) (by have:(J I v.2.1 k.toNat).2.2.2.2.2.2.1.length≤24:=jX;simp;omega)]
  refine a'.ret aR (hsz.set _ ⟨au.fe,?_,?_⟩)
  ·show((ak (J I v.2.1 k.toNat))++[((y,u,()):ay.D)]).length≤25
   simp only [List.length_append,List.length_singleton];omega
  ·intro d ag
   have ag:d∈(ak (J I v.2.1 k.toNat))++[((y,u,()):ay.D)]:=ag
   rcases List.mem_append.1 ag with ag | ag
   ·exact au.each d ag
   ·rw [List.mem_singleton.1 ag];show y.length≤8;omega
 ·rw [cH (by have:=hv.len;simp;omega)]
  refine a'.ret aR (hv.sz.app ⟨?_,?_,fun d ag=>by cases ag⟩)
  ·show([]:aG).length≤200;simp
  ·show([]:List ay.D).length≤24;simp
theorem akq(a:List Int)(ha:a.length≤1048576):∀(r q:Nat) (h:Int) (i:Nat),i+r=4000→r<q→∃C,w7 q a h (i:Int)=some (C,())∧ff C:=by
 intro r
 induction r with
 | zero =>
  intro q h i hi hq
  obtain ⟨q,rfl,_⟩:=fuel hq
  refine⟨(a,0,h,()),?_,Int.le_refl _,Int.natCast_nonneg _,ha⟩
  show w6 (w7 q) a h (i:Int)=_
  unfold w6
  rw [l1 (show ¬(i:Int)<4000 by omega)]
  cases decide ((i:Int)<(a.length:Int)) <;> rfl
 | succ r ih =>
  intro q h i hi hq
  obtain ⟨q,rfl,hq⟩:=fuel hq
  show ∃C,w6 (w7 q) a h (i:Int)=_∧_
  unfold w6
  rw [nS (show(i:Int)<4000 by omega)]
  by_cases hl:i<a.length
  ·rw [cr hl,bB hl]
   simp only [cond_true,av]
   rw [ed (a:=(i:Int)+1) (by omega) (by omega)]
   exact ih q _ (i+1) (by omega) (by omega)
  ·rw [cS (by omega)]
   exact⟨(a,0,h,()),rfl,Int.le_refl _,Int.natCast_nonneg _,ha⟩
theorem XD(a:List Int)(ha:a.length≤1048576):∃C,CH (a,())=some (C,())∧ff C:=akq a ha 4000 aQ _ 0 (by omega) (by rw [vp];omega)
theorem size_le(a:List Int)(n:Int):∃k,Ks (a,n,())=some (k,())∧k≤n:=by
 show ∃k,Kr a n=_∧_
 unfold Kr
 by_cases h:aK (2+aK (Int.tdiv (a.length:Int) 20))>n
 ·rw [nS h];exact⟨n,rfl,Int.le_refl _⟩
 ·rw [l1 h];exact⟨_,rfl,by omega⟩
theorem akr(a:List Int)(ha:a.length≤1048576):∃v c x,Kw (a,())=some (v,c,x,())∧e9 25 v.2.1:=by
 obtain ⟨C,hn,aR⟩:=XD a ha
 obtain ⟨k,hs,hk⟩:=size_le a 50
 show ∃v c x,Kv a=_∧_
 unfold Kv
 rw [hn,hs]
 simp only [av]
 obtain ⟨v,C,h1,aR,hv⟩:=akp aR k (by omega)
 rw [h1];simp only [av]
 obtain ⟨c,C,h2,aR,_⟩:=akl aR
 rw [h2];simp only [av]
 obtain ⟨x,C,h3,aR,_⟩:=Xy aR v hv (by omega)
 rw [h3]
 exact⟨v,c,x,rfl,hv⟩
theorem e9.vb{v:af.D}(h:e9 25 v.2.1):vu v:=agy (Nat.le_trans (W5 h) (by decide))
theorem aks(a:List Int):JD (a,())=some (decide ((a.length:Int)>1048576),()):=rfl
theorem bE.vb{v:af.D}(h:bE v):vu v:=(h.sz.mono (by omega)).vb
theorem bE.alM{v:af.D}(h:bE v){i:Nat}(hi:i<v.2.1.length)(hk:kindOf (J I v.2.1 i)=2) :
  ∃B K:Nat,acb (v,a6 (J I v.2.1 i),())=some ((B:Int),(K:Int),())∧(eE (J I v.2.1 i)>0→(B:Int)≤eE (J I v.2.1 i))∧(et (J I v.2.1 i)>0→(K:Int)≤et (J I v.2.1 i)):=by
 have hb:=h.vb
 show ∃B K:Nat,LI v (a6 (J I v.2.1 i))=_∧_
 unfold LI
 rw [F7 v hb,lr.2 h]
 simp only [av,Bool.not_true,cond_false]
 rw [F_ v _ hb.len]
 have ag:ln v.2.1 (a6 (J I v.2.1 i))=true:=by
  have:=h.ga i hi
  unfold ln
  rw [show bd v.2.1 (a6 (J I v.2.1 i))=some i from this]
  exact cF hk
 rw [ag]
 simp only [av,Bool.not_true,cond_false]
 obtain ⟨out,hf,he⟩:=M8 v (a6 (J I v.2.1 i)) hb.len hb.cG hb.bytes
 obtain ⟨kW,hp⟩:=M9 h.ga h.gT hf
 rw [he]
 refine⟨_,_,rfl,?_,?_⟩
 ·intro hm
  have:=AZ.1 h.over _ (cJ hi)
  unfold hO at this
  rw [decide_eq_true hm] at this
  simp only [Bool.true_and,Bool.or_eq_false_iff,decide_eq_false_iff_not,Int.not_lt] at this
  rw [kW];exact this.1
 ·intro hm
  have:=AZ.1 h.over _ (cJ hi)
  unfold hO at this
  rw [decide_eq_true hm] at this
  simp only [Bool.true_and,Bool.or_eq_false_iff,decide_eq_false_iff_not,Int.not_lt] at this
  rw [hp];exact this.2
theorem bE.parent{v:af.D}(h:bE v){i:Nat}(hi:i<v.2.1.length)(hk:kindOf (J I v.2.1 i)=2):∃p,acd (v,a6 (J I v.2.1 i),())=some (p,())∧p≠0:=by
 have hb:=h.vb
 show ∃p,LJ v (a6 (J I v.2.1 i))=_∧_
 unfold LJ
 rw [F7 v hb,lr.2 h]
 simp only [av,Bool.not_true,cond_false]
 rw [F_ v _ hb.len]
 have ag:ln v.2.1 (a6 (J I v.2.1 i))=true:=by
  unfold ln
  rw [show bd v.2.1 (a6 (J I v.2.1 i))=some i from h.ga i hi]
  exact cF hk
 rw [ag]
 simp only [av,Bool.not_true,cond_false]
 rw [VN v _ hb.len hb.cG]
 refine⟨_,rfl,?_⟩
 obtain ⟨j,hj,_⟩:=Au (h.kj hb) (a6 (J I v.2.1 i))
 obtain ⟨yT,kC⟩:=bY hj
 have:=(h.ids j yT).1
 have e:a6 (J I v.2.1 j)=gS v.2.1 (a6 (J I v.2.1 i)):=kC
 omega
theorem bE.alN{v:af.D}(h:bE v){i:Nat}(hi:i<v.2.1.length):∃k,aca (v,a6 (J I v.2.1 i),())=some (k,())∧1≤k∧k=o3 v.2.1 (J I v.2.1 i):=by
 have hb:=h.vb
 show ∃k,LH v (a6 (J I v.2.1 i))=_∧_
 unfold LH
 rw [m1 v _ hb.len (show bd v.2.1 (a6 (J I v.2.1 i))=some i from h.ga i hi)]
 simp only [av,List.isEmpty_cons,Bool.not_false,cond_true]
 rw [F7 v hb,lr.2 h]
 simp only [av,cond_true]
 have hn:=(h.sz.get hi).cG
 rw [show J I [J I v.2.1 i] 0=J I v.2.1 i from rfl,VQ v _ hb.len hb.cG (by omega)]
 refine⟨_,rfl,?_,rfl⟩
 unfold o3
 by_cases hk:kindOf (J I v.2.1 i)=2
 ·rw [dk hk];simp only [cond_false];omega
 ·rw [cP hk]
  simp only [cond_true]
  have hi0:1≤i:=by
   rcases Nat.eq_zero_or_pos i with h0 | h0
   ·subst h0;exact absurd h.root.2 hk
   ·exact h0
  have fZ:=h.reach i hi0 hi
  have hne:cl v.2.1 (J I v.2.1 i).1≠0:=by
   intro h0
   have hE:∃a,E v.2.1 a (J I v.2.1 i).1:=by
    cases fZ with
    | single h1=>exact⟨_,h1⟩
    | tail _ h1=>exact⟨_,h1⟩
   obtain ⟨a,j,d,hj,ag,he⟩:=hE
   exact Gp h0 _ (cJ (bY hj).1) d ag he
  omega
theorem o8.next{v:af.D}{c:aH.D}{x:aJ.D}{w:af.D}(h:o8 v c x w):w.1=v.1∨w.1=v.1+1:=by
 rcases h with⟨_,h⟩ | ⟨_,h⟩ | ⟨_,h⟩ | ⟨_,h⟩ | ⟨_,h⟩ | ⟨_,h⟩ | ⟨_,h⟩ | ⟨_,h⟩ | ⟨_,h⟩
 ·obtain ⟨r,i,_,_,_,_,_,_,_,_,_,rfl,_⟩:=h.out;exact .inr rfl
 ·obtain ⟨r,i,j,_,_,_,_,_,_,_,_,_,_,rfl⟩:=h.out;exact .inl rfl
 ·obtain ⟨r,t,i,j,_,_,_,_,_,_,_,_,_,_,rfl,_⟩:=h.out;exact .inl rfl
 ·obtain ⟨r,t,j,_,_,_,_,_,_,_,_,h⟩:=h.out
  rcases h with⟨_,rfl⟩ | ⟨_,_,l,ir,it,_,rfl,_⟩
  ·exact .inl rfl
  ·exact .inl rfl
 ·obtain ⟨r,i,_,_,_,_,_,_,_,_,h⟩:=h.out
  rcases h with⟨_,_,rfl⟩ | ⟨_,_,rfl,_⟩
  ·exact .inl rfl
  ·exact .inl rfl
 ·obtain ⟨_,_,r,i,_,_,_,_,_,rfl⟩:=h.out;exact .inl rfl
 ·obtain ⟨_,_,r,i,_,_,_,rfl⟩:=h.out;exact .inl rfl
 ·obtain ⟨_,_,_,r,i,_,_,_,_,rfl,_⟩:=h.out;exact .inl rfl
 ·rw [h];exact .inl rfl
def fD(l:List aI)(id:Int):aI:=match bd l id with
 | some i=>J I l i
 | none=>I.zero
theorem XE{l:List aI}{id:Int}{i:Nat}(h:bd l id=some i):fD l id=J I l i:=by unfold fD;rw [h]
def m8(k:Int):aV.D:=((0:Int),([]:aG),(0:Int),k,())
def lx(l:List aI)(at_:Int)(p:aG):Int:=c6 (ak (fD l at_)) p
def kj(l:List aI)(c:aH.D)(bw:Bool):Nat→Int→Nat→List aG→aV.D
 | _,at_,_,[]=>((0:Int),([]:aG),at_,(0:Int),())
 | 0,at_,_,_ :: _=>((0:Int),([]:aG),at_,(0:Int),())
 | n+1,at_,k,p :: L=>cond (!may c (fD l at_) 1) (m8 13) (cond (bs p [46]) (kj l c bw n at_ k L) (cond (bs p [46,46]) (kj l c bw n (gS l at_) k L) (cond (decide ((p.length:Int)>8)) (m8 36)
   (cond (lx l at_ p==0) (cond L.isEmpty (at_,p,(0:Int),(2:Int),()) (m8 2))
    (cond (kindOf (fD l (lx l at_ p))==3&&(!L.isEmpty||bw)) (cond (Nat.ble 8 k) (m8 40) (cond (Nat.blt 40 (cut (bh (fD l (lx l at_ p)))++L).length) (m8 36)
      (kj l c bw n (cond (nb (bh (fD l (lx l at_ p))) 0==47) 1 at_) (k+1) (cut (bh (fD l (lx l at_ p)))++L))))
     (cond L.isEmpty (at_,p,lx l at_ p,(0:Int),()) (cond (kindOf (fD l (lx l at_ p)) != 2) (m8 20) (kj l c bw n (lx l at_ p) k L))))))))
theorem akt{L:List aG}{a c:Nat}(h:0<c)(hl:a+c≤L.length):part L a c=J ad.str L a :: part L (a+1) (c-1):=by
 unfold part
 rw [c8 (by omega),List.drop_eq_getElem_cons (by omega:a<L.length)]
 obtain ⟨c,rfl⟩:∃k,c=k+1:=⟨c-1,by omega⟩
 rw [List.take_succ_cons];rfl
theorem Oy{L:List aG}{a:Nat} : part L a 0=[]:=by unfold part;rfl
theorem aku{L:List aG}{a c:Nat}(hl:a+c≤L.length):(part L a c).isEmpty=(((c:Nat):Int)==0):=by
 have h:(part L a c).length=c:=by unfold part;rw [List.length_take,List.length_drop];omega
 cases c with
 | zero=>rw [Oy];rfl
 | succ c =>
  rw [ca (by omega)]
  cases au:part L a (c+1) with
  | nil=>rw [au] at h;simp at h
  | cons x y=>rfl
theorem akv(v:af.D)(c:aH.D)(hw:nY v.2.1)(hc:c9 c=true)(bw:Bool)(z:aV.D):∀(n:Nat) (at_:Int) (k:Nat) (L:List aG) (a bP:Nat),(8-k)*100+bP≤n→k≤8→a+bP≤L.length→bP≤100→(∀p,p∈part L a bP→sQ p)→kN v.2.1 at_ →
  bW (fun m=>(dd m).bg bw a bP at_ (k:Int) v c z L) (5*n+5) (some (kj v.2.1 c bw n at_ k (part L a bP),())):=by
 intro n
 induction n with
 | zero =>
  intro at_ k L a bP hn hk hl Nr au ck
  have h0:bP=0:=by omega
  subst h0
  rw [Oy]
  refine(bW.now 1 fun m=>?_).mono (by omega)
  rw [jq];unfold ix;simp only [kj];rfl
 | succ n ih =>
  intro at_ k L a bP hn hk hl Nr au ck
  rcases Nat.eq_zero_or_pos bP with h0 | h0
  ·subst h0
   rw [Oy]
   refine(bW.now 1 fun m=>?_).mono (by omega)
   rw [jq];unfold ix;simp only [kj];rfl
  obtain ⟨d,ag,fx⟩:=ck
  have hdl:=bY ag
  have hH:(ak (J I v.2.1 d)).length≤1048576:=Nat.le_trans (fN hdl.1) hw.cG
  have mC:=au _ (V2 h0 hl)
  have fa:∀p,p∈part L (a+1) (bP-1)→sQ p:=fun p h=>au p (V3 p h)
  have eN:aO bP 0=some 0:=bB (i:=0) h0
  have fQ:du bP 1 (bP:Int)=some (1,bP):=iW (lo:=1) h0 (Nat.le_refl _)
  have eY:decide ((bP:Int)>0)=true:=decide_eq_true (by omega)
  have kk:=m0 c (J I v.2.1 d) 1 hc
  have Ns:=Ni v at_ hw.len hw.cG
  have kl:jQ (v,at_,())=some ((d:Int),()):=by rw [l3 v at_ hw.len,ag];rfl
  have km:aO v.2.1.length (d:Int)=some d:=bB hdl.1
  have re:=VL v at_ (J ad.str L a) hw.len ag hH
  have XF:=XE ag
  have qc:=aku (L:=L) (a:=a+1) (c:=bP-1) (by omega)
  rw [akt h0 hl]
  have akw:lx v.2.1 at_ (J ad.str L a)=c6 (ak (J I v.2.1 d)) (J ad.str L a):=by unfold lx;rw [XF]
  simp only [kj]
  rw [akw,XF,qc]
  cases hm:may c (J I v.2.1 d) 1 with
  | false =>
   refine(bW.now 1 fun m=>?_).mono (by omega)
   rw [jq];unfold ix
   simp only [eY,eN,fQ,kl,km,kk,hm,cond_true,cond_false,av,Bool.not_true,Bool.not_false]
   rfl
  | true =>
  simp only [Bool.not_true,cond_false]
  cases h1:bs (J ad.str L a) [46] with
  | true =>
   refine((ih at_ k L (a+1) (bP-1) (by omega) hk (by omega) (by omega) fa ⟨d,ag,fx⟩).jump (f:=fun m=>(dd m).bg bw a bP at_ (k:Int) v c z L) 1 fun m=>?_).mono (by omega)
   rw [jq];unfold ix
   simp only [eY,eN,fQ,kl,km,kk,hm,h1,cond_true,cond_false,av,Bool.not_true,Bool.not_false,Nat.add_zero]
  | false =>
  simp only [cond_false]
  cases h2:bs (J ad.str L a) [46,46] with
  | true =>
   refine((ih (gS v.2.1 at_) k L (a+1) (bP-1) (by omega) hk (by omega) (by omega) fa (Au hw _)).jump (f:=fun m=>(dd m).bg bw a bP at_ (k:Int) v c z L) 1 fun m=>?_).mono (by omega)
   rw [jq];unfold ix
   simp only [eY,eN,fQ,kl,km,kk,hm,h1,h2,Ns,cond_true,cond_false,av,Bool.not_true,Bool.not_false,Nat.add_zero]
  | false =>
  simp only [cond_false]
  cases cV:decide (((J ad.str L a).length:Int)>8) with
  | true =>
   refine(bW.now 1 fun m=>?_).mono (by omega)
   rw [jq];unfold ix
   simp only [eY,eN,fQ,kl,km,kk,hm,h1,h2,cV,cond_true,cond_false,av,Bool.not_true,Bool.not_false,Nat.add_zero]
   rfl
  | false =>
  simp only [cond_false]
  cases hM:c6 (ak (J I v.2.1 d)) (J ad.str L a)==0 with
  | true =>
   refine(bW.now 1 fun m=>?_).mono (by omega)
   rw [jq];unfold ix
   simp only [eY,eN,fQ,kl,km,kk,hm,h1,h2,cV,re,hM,cond_true,cond_false,av,Bool.not_true,Bool.not_false,Nat.add_zero]
   cases ((bP-1:Nat):Int)==0 <;> rfl
  | false =>
  simp only [cond_false]
  obtain ⟨e,he,Nt,oz⟩:=p3 (N:=ak (J I v.2.1 d)) (s:=J ad.str L a) (by simpa using hM)
  obtain ⟨i2,fo⟩:=Option.isSome_iff_exists.1 (hw.gT d hdl.1 e he)
  rw [oz] at fo
  have p4:=bY fo
  have xP:jQ (v,c6 (ak (J I v.2.1 d)) (J ad.str L a),())=some ((i2:Int),()):=by rw [l3 v _ hw.len,fo];rfl
  have xQ:aO v.2.1.length (i2:Int)=some i2:=bB p4.1
  rw [XE fo]
  have nt:∀m,(dd (m+1)).bg bw a bP at_ (k:Int) v c z L=(dd m).r' bw (a+1) (bP-1) at_ (k:Int) (J ad.str L a) (((bP-1:Nat):Int)==0) (c6 (ak (J I v.2.1 d)) (J ad.str L a)) v c z L (J I v.2.1 i2):=by
   intro m
   rw [jq];unfold ix
   simp only [eY,eN,fQ,kl,km,kk,hm,h1,h2,cV,re,hM,ji,xP,xQ,cond_true,cond_false,av,Bool.not_true,Bool.not_false,Nat.add_zero]
  cases s9:kindOf (J I v.2.1 i2)==3&&(!(((bP-1:Nat):Int)==0)||bw) with
  | true =>
   simp only [cond_true]
   rw [Bool.and_eq_true] at s9
   obtain ⟨gU,jY⟩:=s9
   have Aw:=hw.l5 i2 p4.1 (beq_iff_eq.1 gU)
   have p5:=Av Aw
   have sU:aO ((J I v.2.1 i2).2.2.2.2.2.1).length 0=some 0:=bB (i:=0) p5.1
   have Gj:xa ((J I v.2.1 i2).2.2.2.2.2.1,())=some (cut (bh (J I v.2.1 i2)),()):=Gc _ (Nat.le_trans p5.2 (by omega))
   have hcl:=Gd (bh (J I v.2.1 i2))
   have fH:(part L (a+1) (bP-1)).length≤100:=by unfold part;rw [List.length_take];omega
   have hroom:room ((cut (bh (J I v.2.1 i2))).length +(part L (a+1) (bP-1)).length)=true:=cH (by omega)
   have iv:=Ge Aw
   generalize p6:cut (bh (J I v.2.1 i2))++part L (a+1) (bP-1)=fy at *
   have Nu:∀p,p∈fy→sQ p:=by
    intro p kz
    rw [← p6] at kz
    rcases List.mem_append.1 kz with h | h
    ·exact iv p h
    ·exact fa p h
   have b8:aK ((k:Int)+1)=((k+1:Nat):Int):=de k (by omega)
   have m4:∀m,(dd (m+4)).bg bw a bP at_ (k:Int) v c z L=cond (decide (((k+1:Nat):Int)>8)) (some (m8 40,()))
      (cond (decide ((fy.length:Int)>40)) (some (m8 36,())) ((dd m).bg bw 0 fy.length (cond (nb (bh (J I v.2.1 i2)) 0==47) 1 at_) ((k+1:Nat):Int) v c z fy)):=by
    intro m
    rw [nt,xN];unfold sa
    have:(cond (!(((bP-1:Nat):Int)==0)) ((dd (m+2)).gD bw (a+1) (bP-1) at_ (k:Int) v c z L (J I v.2.1 i2)) (cond bw ((dd (m+2)).gD bw (a+1) (bP-1) at_ (k:Int) v c z L (J I v.2.1 i2)) ((dd (m+2)).uw bw (a+1) (bP-1) at_ (k:Int) (J ad.str L a) (((bP-1:Nat):Int)==0) (c6 (ak (J I v.2.1 d)) (J ad.str L a)) v c z L (J I v.2.1 i2))))=(dd (m+2)).gD bw (a+1) (bP-1) at_ (k:Int) v c z L (J I v.2.1 i2):=by
     revert jY
     cases ((bP-1:Nat):Int)==0 <;> cases bw <;> intro jY <;> first | rfl | cases jY
    rw [show((J I v.2.1 i2).2.1==3)=true from gU]
    simp only [cond_true]
    refine this.trans ?_
    rw [No];unfold zg
    rw [sU,b8]
    simp only [av]
    show cond (decide (((k+1:Nat):Int)>8)) _ (cond (nb (bh (J I v.2.1 i2)) 0==47) _ _)=_
    have XG:∀at',(dd (m+1)).oJ bw (a+1) (bP-1) at' ((k+1:Nat):Int) v c z L (J I v.2.1 i2)=cond (decide ((fy.length:Int)>40)) (some (m8 36,())) ((dd m).bg bw 0 fy.length at' ((k+1:Nat):Int) v c z fy):=by
     intro at'
     rw [Nq];unfold zi
     rw [Gj]
     simp only [av,hroom,cond_true,p6]
     rfl
    rw [XG,XG]
    cases nb (bh (J I v.2.1 i2)) 0==47 <;> rfl
   have Nv:kN v.2.1 (cond (nb (bh (J I v.2.1 i2)) 0==47) 1 at_):=by
    cases nb (bh (J I v.2.1 i2)) 0==47
    ·exact⟨d,ag,fx⟩
    ·exact hw.root
   by_cases Gk:8≤k
   ·rw [show Nat.ble 8 k=true from Nat.ble_eq_true_of_le Gk]
    refine(bW.now 4 fun m=>?_).mono (by omega)
    rw [m4,decide_eq_true (show((k+1:Nat):Int)>8 by omega)];rfl
   ·rw [show Nat.ble 8 k=false from Bool.eq_false_iff.2 fun h=>Gk (Nat.le_of_ble_eq_true h)]
    simp only [cond_false]
    have XH:decide (((k+1:Nat):Int)>8)=false:=decide_eq_false (by omega)
    by_cases vw:40<fy.length
    ·rw [show Nat.blt 40 fy.length=true from Nat.ble_eq_true_of_le vw]
     refine(bW.now 4 fun m=>?_).mono (by omega)
     rw [m4,XH,decide_eq_true (show(fy.length:Int)>40 by omega)];rfl
    ·rw [show Nat.blt 40 fy.length=false from Bool.eq_false_iff.2 fun h=>vw (Nat.le_of_ble_eq_true h)]
     have:=ih (cond (nb (bh (J I v.2.1 i2)) 0==47) 1 at_) (k+1) fy 0 fy.length (by omega) (by omega) (by omega) (by omega) (by rw [xE];exact Nu) Nv
     rw [xE] at this
     refine(this.jump (f:=fun m=>(dd m).bg bw a bP at_ (k:Int) v c z L) 4 fun m=>?_).mono (by omega)
     rw [m4,XH,decide_eq_false (show ¬(fy.length:Int)>40 by omega)];rfl
  | false =>
   simp only [cond_false]
   have g2:∀m,(dd (m+3)).bg bw a bP at_ (k:Int) v c z L=cond (((bP-1:Nat):Int)==0) (some ((at_,J ad.str L a,c6 (ak (J I v.2.1 d)) (J ad.str L a),(0:Int),()),()))
     (cond (kindOf (J I v.2.1 i2) != 2) (some (m8 20,())) ((dd m).bg bw (a+1) (bP-1) (c6 (ak (J I v.2.1 d)) (J ad.str L a)) (k:Int) v c z L)):=by
    intro m
    have GX:(dd (m+1)).uw bw (a+1) (bP-1) at_ (k:Int) (J ad.str L a) (((bP-1:Nat):Int)==0) (c6 (ak (J I v.2.1 d)) (J ad.str L a)) v c z L (J I v.2.1 i2)=cond (((bP-1:Nat):Int)==0) (some ((at_,J ad.str L a,c6 (ak (J I v.2.1 d)) (J ad.str L a),(0:Int),()),()))
     (cond (kindOf (J I v.2.1 i2) != 2) (some (m8 20,())) ((dd m).bg bw (a+1) (bP-1) (c6 (ak (J I v.2.1 d)) (J ad.str L a)) (k:Int) v c z L)):=by
     rw [Np];unfold zh;rfl
    rw [nt,xN];unfold sa
    rw [GX]
    show cond (kindOf (J I v.2.1 i2)==3) _ _=_
    revert s9
    cases kindOf (J I v.2.1 i2)==3 <;> cases ((bP-1:Nat):Int)==0 <;> cases bw <;> intro s9 <;> first | rfl | cases s9
   cases gx:((bP-1:Nat):Int)==0 with
   | true =>
    refine(bW.now 3 fun m=>?_).mono (by omega)
    rw [g2,gx];rfl
   | false =>
    simp only [cond_false]
    by_cases hk2:kindOf (J I v.2.1 i2)=2
    ·rw [dk hk2]
     refine((ih (c6 (ak (J I v.2.1 d)) (J ad.str L a)) k L (a+1) (bP-1) (by omega) hk (by omega) (by omega) fa ⟨i2,fo,hk2⟩).jump (f:=fun m=>(dd m).bg bw a bP at_ (k:Int) v c z L) 3 fun m=>?_).mono (by omega)
     rw [g2,gx,dk hk2];rfl
    ·rw [cP hk2]
     refine(bW.now 3 fun m=>?_).mono (by omega)
     rw [g2,gx,cP hk2];rfl
def wp(l:List aI)(c:aH.D)(bw:Bool)(p:aG):aV.D:=kj l c bw 900 1 0 (cut p)
theorem XI(v:af.D)(c:aH.D)(p:aG)(bw:Bool)(hw:nY v.2.1)(hc:c9 c=true)(au:o1 p=true):dQ (v,c,p,bw,())=some (wp v.2.1 c bw p,()):=by
 have kz:=au
 unfold o1 at au
 rw [Bool.and_eq_true] at au
 have p5:=Av au.1
 have hcl:=Gd p
 have h:=akv v c hw hc bw ((0:Int),([]:aG),(0:Int),(0:Int),()) 900 1 0 (cut p) 0 (cut p).length (by omega) (by omega) (by omega) (by omega) (by rw [xE];exact Ge au.1) hw.root
 rw [xE] at h
 show qL v c p bw=_
 unfold qL
 rw [xL,kz]
 simp only [av,Bool.not_true,cond_false]
 show Option.bind (xb (dd aQ) v c p bw) _=_
 unfold xb
 rw [Gc p (by omega)]
 simp only [av]
 have:=kL h (by omega)
 rw [show(dd aQ).bg bw 0 (cut p).length 1 0 v c ((0:Int),([]:aG),(0:Int),(0:Int),()) (cut p)=some (kj v.2.1 c bw 900 1 0 (cut p),()) from this]
 rfl
def cL:aH.D:=(0,0,([]:List Int),())
theorem tb:f' ()=some (cL,()):=rfl
theorem n5:c9 cL=true:=by kernel_rfl
section
variable(v w:af.D)(a b:aV.D)
end
theorem akx(v:af.D)(c:aH.D)(x:aJ.D)(hv:bE v)(hc:c9 c=true):jV (v,c,x,())=(ke (v,c,x,())).bind fun r=>some (r.1,r.2.1,()):=by
 show z6 v c x=_
 unfold z6
 rw [M' v hv.vb,lr.2 hv,Aq,hc,hv.GL]
 simp only [av,Bool.not_true,cond_false,ji,nE]
theorem x'{v:af.D}{c:aH.D}{x:aJ.D}(hv:bE v)(hc:c9 c=true){w w':af.D}{k k':Int}{t dn:aG}(h:jV (v,c,x,())=some (w,(k,t,()),()))(h':ke (v,c,x,())=some (w',(k',dn,()),())):w=w'∧k=k'∧t=dn:=by
 rw [akx v c x hv hc,h'] at h
 have:=aU h
 simp only [Prod.mk.injEq] at this
 exact⟨this.1.symm,this.2.1.1.symm,this.2.1.2.1.symm⟩
theorem aky(n:aI):may cL n 4=true:=by
 unfold may
 rfl
theorem akz(n:aI):may cL n 2=true:=by
 unfold may
 rfl
theorem akA{v:af.D}(hv:bE v)(x:aJ.D){r:aV.D}{i:Nat}(hk:aE x=4)(h:dQ (v,cL,eU x,true,())=some (r,()))(h0:bC r=0)(hi:bd v.2.1 (bj r)=some i)(fM:kindOf (J I v.2.1 i)≠2)
  {a b:Nat} (ha:(a:Int)=bQ x) (hb:(b:Int)=dV x) (tN:a≤1000000) (hb2:b≤1000000):jU (v,cL,x,())=some ((0,((bh (J I v.2.1 i)).drop a).take b,()),()):=by
 have b8:=hv.gy
 obtain ⟨q,hq,bX⟩:=vG v cL x (by omega) (by unfold l9;rw [ca (show aE x≠14 by omega),ca (show aE x≠17 by omega)];rfl) b8 r (by
  rw [show ks x=true by unfold ks;rw [cP (show aE x≠11 by omega),cP (show aE x≠14 by omega)];rfl];exact h)
 rw [bX,s8]
 unfold pT
 show cond (bC r != 0) _ (Option.bind (eS (v,bj r,())) _)=_
 rw [dk h0,h_ v _ b8.len hi]
 simp only [cond_false,av]
 show cond (aE x==4) (cond (kindOf (J I v.2.1 i)==2) _ (Option.bind (jj (cL,J I v.2.1 i,4,())) fun v2=>cond (!v2.1) _ (cond (decide (bQ x<0)) _ (cond (decide (dV x<0)) _ ((fr q).nI (bQ x) x qe (J I v.2.1 i) []))))) _=_
 rw [cF hk,m0 cL _ 4 n5,aky,ca fM]
 simp only [cond_true,cond_false,av,Bool.not_true]
 rw [decide_eq_false (show ¬bQ x<0 by omega),decide_eq_false (show ¬dV x<0 by omega)]
 simp only [cond_false]
 rw [← ha,WY _ x a ha tN b hb hb2 (hv.fe (bY hi).1) qe q (by omega)]
structure akB(p s:aG):Prop where
 cut:cut p=[s]
 dot:bs s [46]=false
 alO:bs s [46,46]=false
 len:s.length≤8
 ok:o1 p=true
 ne:s≠[]
theorem XJ:akB [47,122,122] [122,122]:=⟨by kernel_rfl,by kernel_rfl,by kernel_rfl,by decide,by kernel_rfl,by decide⟩
def XK:aJ.D:=(3,([47,122,122]:List UInt8),([]:List UInt8),420,0,([]:List UInt8),())
def iU(p:aG)(a b:Int):aJ.D:=(4,p,([]:List UInt8),a,b,([]:List UInt8),())
theorem bE.fresh{v:af.D}(h:bE v):bd v.2.1 (fE v)=none:=by
 cases hi:bd v.2.1 (fE v) with
 | none=>rfl
 | some i =>
  have h1:=bY hi
  have h2:=h.ids i h1.1
  have h3:a6 (J I v.2.1 i)=fE v:=h1.2
  omega
section
variable{v kB b5 oA alP:af.D}
end
structure XL(c:aH.D)(l l':List aI):Prop where
 may:∀a,may c (fD l' a) 1=may c (fD l a) 1
 cG:∀a,ak (fD l' a)=ak (fD l a)
 kind:∀a,kindOf (fD l' a)=kindOf (fD l a)
 par:∀a,gS l' a=gS l a
 data:∀a,kindOf (fD l a)=3→bh (fD l' a)=bh (fD l a)
theorem akC{c:aH.D}{l l':List aI}(h:XL c l l')(bw:Bool):∀(n:Nat) (at_:Int) (k:Nat) (L:List aG),kj l' c bw n at_ k L=kj l c bw n at_ k L:=by
 intro n
 induction n with
 | zero =>
  intro at_ k L
  cases L <;> simp only [kj]
 | succ n ih =>
  intro at_ k L
  cases L with
  | nil=>simp only [kj]
  | cons p L =>
   have s9:lx l' at_ p=lx l at_ p:=by unfold lx;rw [h.cG]
   simp only [kj]
   rw [s9,h.may,h.par,h.kind,ih at_ k L,ih (gS l at_) k L,ih (lx l at_ p) k L]
   cases hk:kindOf (fD l (lx l at_ p))==3&&(!L.isEmpty||bw) with
   | false=>rfl
   | true =>
    rw [Bool.and_eq_true] at hk
    rw [h.data _ (beq_iff_eq.1 hk.1),ih]
theorem akD{l:List aI}{i:Nat}{y:aI}(hi:i<l.length)(h1:y.1=(J I l i).1)(h2:ak y=ak (J I l i))(a:Int):gS (l.set i y) a=gS l a:=by
 have aA:∀k,nX (ak (J I (l.set i y) k)) a=nX (ak (J I l k)) a:=by
  intro k
  rw [gb hi]
  split
  ·rename_i e;subst e;rw [h2]
  ·rfl
 have au:sP (l.set i y) a=sP l a:=by
  unfold sP
  rw [List.length_set]
  exact NB fun k _=>aA k
 unfold gS
 rw [au]
 cases sP l a with
 | none=>rfl
 | some k =>
  show(J I (l.set i y) k).1=(J I l k).1
  rw [gb hi]
  split
  ·rename_i e;subst e;exact h1
  ·rfl
theorem akE{l:List aI}{i:Nat}(hi:i<l.length)(hk:kindOf (J I l i)≠3)(c:aH.D)(d:aG):XL c l (l.set i (dF (J I l i) d)):=by
 have hn:∀a,(bd l a=some i∧fD (l.set i (dF (J I l i) d)) a=dF (J I l i) d∧fD l a=J I l i)∨fD (l.set i (dF (J I l i) d)) a=fD l a:=by
  intro a
  unfold fD
  rw [ri (y:=dF (J I l i) d) hi rfl a]
  cases XM:bd l a with
  | none=>exact .inr rfl
  | some k =>
   by_cases fM:i=k
   ·subst fM
    exact .inl ⟨rfl,by simp only;rw [gb hi,if_pos rfl],rfl⟩
   ·exact .inr (by simp only;rw [gb hi,if_neg fM])
 refine⟨fun a=>?_,fun a=>?_,fun a=>?_,akD hi rfl rfl,fun a h=>?_⟩
 ·rcases hn a with⟨_,e1,e2⟩ | e
  ·rw [e1,e2];rfl
  ·rw [e]
 ·rcases hn a with⟨_,e1,e2⟩ | e
  ·rw [e1,e2];rfl
  ·rw [e]
 ·rcases hn a with⟨_,e1,e2⟩ | e
  ·rw [e1,e2];rfl
  ·rw [e]
 ·rcases hn a with⟨_,e1,e2⟩ | e
  ·rw [e2] at h;exact absurd h hk
  ·rw [e]
theorem XN(p:aI→Bool)(f:aI→Nat):∀ {l:List aI} {i:Nat} {y:aI},i<l.length→p y=p (J I l i)→f y≤f (J I l i)→(((l.set i y).filter p).map f).sum≤((l.filter p).map f).sum∧((l.set i y).filter p).length=(l.filter p).length
 | [],i,y,h,_,_=>by simp at h
 | x :: l,0,y,_,au,hf=>by
  have au:p y=p x:=au
  have hf:f y≤f x:=hf
  rw [List.set_cons_zero,List.filter_cons,List.filter_cons,au]
  cases p x
  ·exact⟨Nat.le_refl _,rfl⟩
  ·simp only [if_true,List.map_cons,List.sum_cons,List.length_cons]
   exact⟨by omega,trivial⟩
 | x :: l,i+1,y,h,au,hf=>by
  have ih:=XN p f (l:=l) (i:=i) (y:=y) (by simpa using h) au hf
  rw [List.set_cons_succ,List.filter_cons,List.filter_cons]
  cases p x
  ·exact ih
  ·simp only [if_true,List.map_cons,List.sum_cons,List.length_cons]
   exact⟨by omega,by omega⟩
theorem akF{v:af.D}(hv:bE v){i:Nat}(hi:i<v.2.1.length){d:aG}(ag:d.length≤(bh (J I v.2.1 i)).length):e8 (v.2.1.set i (dF (J I v.2.1 i) d))=0:=by
 have Oz:=hv.ga
 have XO:h9 (v.2.1.set i (dF (J I v.2.1 i) d)):=kQ (s' (l_.1 hv).j0 hi rfl)
 have hE:∀a b,E (v.2.1.set i (dF (J I v.2.1 i) d)) a b↔E v.2.1 a b:=by
  intro a b
  unfold E
  constructor
  ·rintro ⟨k,e,hk,he,hb⟩
   rw [ri (y:=dF (J I v.2.1 i) d) hi rfl] at hk
   rw [gb hi] at he
   split at he
   ·rename_i e2;subst e2;exact⟨_,e,hk,he,hb⟩
   ·exact⟨_,e,hk,he,hb⟩
  ·rintro ⟨k,e,hk,he,hb⟩
   refine⟨k,e,by rw [ri (y:=dF (J I v.2.1 i) d) hi rfl];exact hk,?_,hb⟩
   rw [gb hi]
   split
   ·rename_i e2;subst e2;exact he
   ·exact he
 have fZ:∀a b,dt (v.2.1.set i (dF (J I v.2.1 i) d)) a b↔dt v.2.1 a b:=fun a b=>⟨s_ fun a b h=>(hE a b).1 h,s_ fun a b h=>(hE a b).2 h⟩
 have akG:∀id,iQ (v.2.1.set i (dF (J I v.2.1 i) d)) (dw (v.2.1.set i (dF (J I v.2.1 i) d)) id)≤iQ v.2.1 (dw v.2.1 id)∧jn (v.2.1.set i (dF (J I v.2.1 i) d)) (dw (v.2.1.set i (dF (J I v.2.1 i) d)) id)=jn v.2.1 (dw v.2.1 id):=by
  intro id
  classical
  rw [GQ Oz,GQ XO,GP Oz,GP XO]
  have hb:ml (v.2.1.set i (dF (J I v.2.1 i) d)) id=(v.2.1.set i (dF (J I v.2.1 i) d)).filter fun x=>decide (dt v.2.1 id (a6 x)):=by
   unfold ml
   exact List.filter_congr fun x _=>by simp only [fZ]
  have hb2:ml v.2.1 id=v.2.1.filter fun x=>decide (dt v.2.1 id (a6 x)):=by unfold ml;exact List.filter_congr fun x _=>rfl
  rw [hb,hb2]
  exact XN (fun x=>decide (dt v.2.1 id (a6 x))) (fun x=>(bh x).length) hi rfl ag
 refine AS.2 ⟨?_,?_⟩
 ·have:=ND (y:=dF (J I v.2.1 i) d) hi
  have h2:=hv.bytes
  have:bytesOf (v.2.1.set i (dF (J I v.2.1 i) d)) +(bh (J I v.2.1 i)).length=bytesOf v.2.1+d.length:=this
  omega
 ·refine AZ.2 fun x hx=>?_
  have key:∀z:aI,z∈v.2.1→a6 x=a6 z→eE x=eE z→et x=et z→hO (v.2.1.set i (dF (J I v.2.1 i) d)) x=false:=by
   intro z hz e1 e2 e3
   have h0:=AZ.1 hv.over z hz
   unfold hO at h0 ⊢
   rw [e2,e3,show x.1=z.1 from e1]
   obtain ⟨kW,hp⟩:=akG z.1
   rw [hp]
   simp only [Bool.or_eq_false_iff,Bool.and_eq_false_iff,decide_eq_false_iff_not] at h0 ⊢
   refine⟨h0.1.imp id fun h=>by omega,h0.2⟩
  rcases (mem_set Oz hi (y:=dF (J I v.2.1 i) d) rfl).1 hx with rfl | ⟨hx,_⟩
  ·exact key _ (cJ hi) rfl rfl rfl
  ·exact key x hx rfl rfl rfl
abbrev eP:aG:=[47,122,122]
def o9(n:Int)(d:aG):aJ.D:=(5,eP,([]:List UInt8),n,0,d,())
def o_(n:Int):aJ.D:=(7,eP,([]:List UInt8),n,0,([]:List UInt8),())
theorem GY{v:af.D}(hv:bE v)(a b:Int)(hx:h8 (iU eP a b)=true){r:aV.D}(h:dQ (v,cL,eP,true,())=some (r,())){w:af.D}{k:Int}{t:aG}(hr:jV (v,cL,iU eP a b,())=some (w,(k,t,()),())) :
  (bC r≠0→k=bC r)∧(bC r=0→∀i,bd v.2.1 (bj r)=some i→kindOf (J I v.2.1 i)=2→k=21) ∧
   (bC r=0→∀i,bd v.2.1 (bj r)=some i→kindOf (J I v.2.1 i)≠2→∀x y:Nat,(x:Int)=a→(y:Int)=b→x≤1000000→y≤1000000→k=0∧t=((bh (J I v.2.1 i)).drop x).take y):=by
 have fR:aE (iU eP a b)=4:=rfl
 have iL:∀res:aF.D,jU (v,cL,iU eP a b,())=some (res,())→ke (v,cL,iU eP a b,())=some (v,(res.1,res.2.1,()),()):=by
  intro res h
  rw [GK v cL _ (p9.1 hx) (by rw [fR];omega)]
  unfold x0
  rw [if_neg (by rw [fR];omega),if_neg (by rw [fR];omega),if_neg (by rw [fR];omega),if_neg (by rw [fR];omega),if_neg (by rw [fR];omega),if_neg (by rw [fR];omega),h]
  rfl
 have b8:=hv.gy
 obtain ⟨q,hq,bX⟩:=vG v cL (iU eP a b) (by rw [fR];omega) (by unfold l9;rw [fR];rfl) b8 r (by
  rw [show ks (iU eP a b)=true by unfold ks;rw [fR];rfl];exact h)
 refine⟨fun h0=>?_,fun h0 i hi hk=>?_,fun h0 i hi hk x y iT akH hx2 vJ=>?_⟩
 ·rw [xX v cL _ q r h0] at bX
  exact(x' hv n5 hr (iL _ bX)).2.1
 ·have akI:jU (v,cL,iU eP a b,())=some ((21,[],()),()):=by
   rw [bX,s8]
   unfold pT
   show cond (bC r != 0) _ (Option.bind (eS (v,bj r,())) _)=_
   rw [dk h0,h_ v _ b8.len hi]
   simp only [cond_false,av]
   show cond ((4:Int)==4) (cond (kindOf (J I v.2.1 i)==2) _ _) _=_
   rw [cF hk];rfl
  exact(x' hv n5 hr (iL _ akI)).2.1
 ·have:=akA hv (iU eP a b) fR h h0 hi hk (a:=x) (b:=y) iT akH hx2 vJ
  obtain ⟨_,h1,h2⟩:=x' hv n5 hr (iL _ this)
  exact⟨h1,h2⟩
theorem akJ{v:af.D}(hv:bE v)(x:aJ.D)(hk:aE x=5)(oj:eU x=eP)(hx:h8 x=true){r:aV.D}(h:dQ (v,cL,eP,true,())=some (r,())){w:af.D}{k:Int}{t:aG}(hr:jV (v,cL,x,())=some (w,(k,t,()),())) :
  (bC r≠0→k=bC r)∧(bC r=0→∀i,bd v.2.1 (bj r)=some i→kindOf (J I v.2.1 i)=2→k=21):=by
 have iL:∀c:Int,qP (v,cL,x,())=some (v,(c,[],()),())→ke (v,cL,x,())=some (v,(c,[],()),()):=by
  intro c h
  rw [GK v cL _ (p9.1 hx) (by omega)]
  unfold x0
  rw [if_neg (by omega),if_neg (by omega),if_neg (by omega),if_neg (by omega),if_pos (by omega),h]
  rfl
 have dm:qP (v,cL,x,())=cond (bC r != 0) (some (v,(bC r,[],()),())) (Option.bind (eS (v,bj r,())) fun v2=>cond (kindOf v2.1==2) (some (v,(21,[],()),())) (Option.bind (jj (cL,v2.1,2,())) fun v3=>cond (!v3.1) (some (v,(13,[],()),())) (cond (aE x==6)
   ((hY aQ).la ((bh v2.1).length:Int) v x (0,([]:List I.D),()) (0,([]:aG),()) v2.1) ((hY aQ).la (bQ x) v x (0,([]:List I.D),()) (0,([]:aG),()) v2.1)))):=by
  show sf (hY aQ) v cL x=_
  unfold sf
  show Option.bind (dQ (v,cL,eU x,true,())) _=_
  rw [oj,h];rfl
 refine⟨fun h0=>?_,fun h0 i hi fM=>?_⟩
 ·rw [cP h0] at dm
  exact(x' hv n5 hr (iL _ dm)).2.1
 ·rw [dk h0,h_ v _ hv.gy.len hi] at dm
  simp only [cond_false,av] at dm
  rw [cF fM] at dm
  exact(x' hv n5 hr (iL _ dm)).2.1
theorem akK{v:af.D}(hv:bE v){n:Nat}{r:aV.D}{i:Nat}(h:dQ (v,cL,eP,true,())=some (r,()))(h0:bC r=0)(hi:bd v.2.1 (bj r)=some i)(hk:kindOf (J I v.2.1 i)≠2)(hn:n≤(bh (J I v.2.1 i)).length){w:af.D}{k:Int}{t:aG}
  (hr:jV (v,cL,o_ (n:Int),())=some (w,(k,t,()),())) (hx:h8 (o_ (n:Int))=true):k=0∧w=(v.1,v.2.1.set i (dF (J I v.2.1 i) ((bh (J I v.2.1 i)).take n)),()):=by
 have bI:=bY hi
 have xZ:=hv.fe bI.1
 have b8:=hv.gy
 have fR:aE (o_ (n:Int))=7:=rfl
 obtain ⟨q,hq,_⟩:=jm 2
 obtain ⟨w',rL⟩:∃w':af.D,w'=(v.1,v.2.1.set i (dF (J I v.2.1 i) ((bh (J I v.2.1 i)).take n)),()):=⟨_,rfl⟩
 have cw:((bh (J I v.2.1 i)).take n).length≤(bh (J I v.2.1 i)).length:=by rw [List.length_take];omega
 have hfit:e8 w'.2.1=0:=by rw [rL];exact akF hv bI.1 cw
 have hst:aq 1000 w'.2.1:=by
  rw [rL]
  exact(hv.st.set (k:=200) (i:=i) (y:=dF (J I v.2.1 i) ((bh (J I v.2.1 i)).take n)) bI.1 rfl (fun d ag=>hv.gT i bI.1 d ag) (fun eb=>hv.st.bare i bI.1 eb) (Nat.le_add_right _ _) (by
   show((bh (J I v.2.1 i)).take n).length≤_
   omega)).mono (by omega)
 have rp:qP (v,cL,o_ (n:Int),())=some (w',(0,[],()),()):=by
  show sf (hY aQ) v cL (o_ (n:Int))=_
  unfold sf
  show Option.bind (dQ (v,cL,eP,true,())) _=_
  rw [h]
  simp only [av]
  show cond (bC r != 0) _ (Option.bind (eS (v,bj r,())) fun v2=>cond (kindOf v2.1==2) _ (Option.bind (jj (cL,v2.1,2,())) fun v3=>cond (!v3.1) _ ((hY aQ).la (n:Int) v (o_ (n:Int)) (0,([]:List I.D),()) (0,([]:aG),()) v2.1)))=_
  rw [dk h0,h_ v _ b8.len hi]
  simp only [cond_false,av]
  rw [ca hk,m0 cL _ 2 n5,akz]
  simp only [cond_false,av,Bool.not_true]
  rw [hq,WI]
  unfold Dt
  rw [decide_eq_false (show ¬((n:Int)<0) by omega)]
  simp only [cond_false]
  rw [show((o_ (n:Int)).1==7)=true from rfl]
  simp only [cond_true]
  rw [decide_eq_false (show ¬((n:Int)>64) by omega)]
  simp only [cond_false]
  show Option.bind (qO (bh (J I v.2.1 i),(n:Int),[],())) _=_
  rw [N0 _ _ _ (by omega) (by omega) (by simp),put_eq]
  simp only [av]
  have e1:iS (bh (J I v.2.1 i)) n []=bh (J I v.2.1 i):=by
   unfold iS gd
   rw [show n-(bh (J I v.2.1 i)).length=0 by omega]
   show((bh (J I v.2.1 i))++[]).take n++[]++(bh (J I v.2.1 i)).drop (n+0)=_
   rw [List.append_nil,List.append_nil,Nat.add_zero,List.take_append_drop]
  rw [e1]
  show Option.bind (du (bh (J I v.2.1 i)).length ((0:Nat):Int) (n:Int)) _=_
  rw [iW (by omega) hn]
  simp only [av,Nat.sub_zero]
  rw [vq]
  show(hY (q+1)).hK v (0,([]:List I.D),()) (0,([]:aG),()) (dF (J I v.2.1 i) ((bh (J I v.2.1 i)).take n))=_
  rw [WJ]
  unfold Du
  rw [hv.GL]
  simp only [av]
  rw [Ax v _ b8.len (show bd v.2.1 (dF (J I v.2.1 i) ((bh (J I v.2.1 i)).take n)).1=some i from(show(J I v.2.1 i).1=bj r from bI.2) ▸ hi),← rL]
  simp only [av]
  rw [xU v w' hst (by omega),hfit];rfl
 have lM:ke (v,cL,o_ (n:Int),())=some (w',(0,[],()),()):=by
  rw [GK v cL _ (p9.1 hx) (by rw [fR];omega)]
  unfold x0
  rw [if_neg (by rw [fR];omega),if_neg (by rw [fR];omega),if_neg (by rw [fR];omega),if_neg (by rw [fR];omega),if_pos (by rw [fR];omega),rp]
  rfl
 obtain ⟨e1,e2,_⟩:=x' hv n5 hr lM
 exact⟨e2,by rw [e1,rL]⟩
theorem XP{v w:af.D}(hv:bE v)(hw:bE w){i:Nat}(hi:i<v.2.1.length)(hk:kindOf (J I v.2.1 i)≠3){d:aG}(he:w.2.1=v.2.1.set i (dF (J I v.2.1 i) d)){r:aV.D}(h:dQ (v,cL,eP,true,())=some (r,())):dQ (w,cL,eP,true,())=some (r,()):=by
 rw [XI v cL eP true hv.gy n5 XJ.ok] at h
 rw [XI w cL eP true hw.gy n5 XJ.ok]
 have:wp w.2.1 cL true eP=wp v.2.1 cL true eP:=by
  unfold wp
  rw [he]
  exact akC (akE hi hk cL d) true 900 1 0 (cut eP)
 rw [this];exact h
theorem OA{x:aJ.D}(h:ib x):h8 x=true:=p9.2 h
theorem akL(w:af.D)(hw:bE w)(n:Nat)(hn:n<30)(d:aG)(ag:d.length≤40)(y z)(q:Nat){XQ:af.D}{ma:Int}{zto:aG}(vD:jV (w,cL,iU eP 0 100,())=some (XQ,(ma,zto,()),())) :
  ∃x r,eM (w,cL,o9 (n:Int) d,())=some (x,r,())∧(mU (q+6)).hW (n:Int) d w y z (ma,zto,()) x r=some (true,()):=by
 have cd:=lr.2 hw
 have XR:h8 (o9 (n:Int) d)=true:=OA ⟨⟨by show(1:Int)≤5;omega,by show(5:Int)≤22;omega⟩,by show(3:Nat)≤60;omega,by show(0:Nat)≤60;omega,by show d.length≤64;omega,⟨by show(-1000000:Int)≤(n:Int);omega,by show(n:Int)≤1000000;omega⟩,⟨by show(-1000000:Int)≤0;omega,by show(0:Int)≤1000000;omega⟩,.inl rfl,.inr (.inl rfl)⟩
 have hx0:h8 (iU eP 0 100)=true:=by kernel_rfl
 obtain ⟨x,ow,ya,XS,eN,OB⟩:=vH w cL (o9 (n:Int) d) hw.vb
 refine⟨x,(ow,ya,()),eN,?_⟩
 have XT:=OB.ok cd
 have rq:=lr.1 XT
 obtain ⟨alQ,A6,e',XU,XM,_⟩:=vH x cL (iU eP 0 100) rq.vb
 obtain ⟨alR,GZ,gi,akM,mX,_⟩:=vH x cL (iU eP (n:Int) (d.length:Int)) rq.vb
 show LU (mU (q+5)) (n:Int) d w y z (ma,zto,()) x (ow,ya,())=_
 unfold LU
 rw [tb]
 simp only [av,ji,nE]
 show Option.bind (eM (x,cL,iU eP 0 100,())) _=_
 rw [XM]
 simp only [av]
 show LV (mU (q+4)) (n:Int) d w y z (ma,zto,()) x (ow,ya,()) (A6,e',())=_
 unfold LV
 rw [tb]
 simp only [av,ji,nE]
 show Option.bind (eM (x,cL,iU eP (n:Int) (d.length:Int),())) _=_
 rw [mX]
 simp only [av]
 show LW (mU (q+3)) (n:Int) d w y z (ma,zto,()) x (ow,ya,()) (A6,e',()) (GZ,gi,())=_
 unfold LW
 rw [tb]
 simp only [av,ji,nE]
 show Option.bind (jV (w,cL,o9 (n:Int) d,())) _=_
 rw [XS]
 simp only [av]
 show LX (mU (q+2)) (n:Int) d (ma,zto,()) x (ow,ya,()) (A6,e',()) (GZ,gi,()) (ow,ya,())=_
 unfold LX
 obtain ⟨r,⟨hr,s6⟩,_,sW⟩:=xS w cL (iU eP 0 100) eP true hw.gy n5 (by decide)
 obtain ⟨bz,cc,gj⟩:=GY hw 0 100 hx0 sW vD
 obtain ⟨s1,s2⟩:=akJ hw (o9 (n:Int) d) rfl rfl XR sW XS
 simp only [bne_self_eq_false,beq_self_eq_true,cond_false]
 by_cases bT:bC r=0
 case neg =>
  have e1:=bz bT
  have e2:=s1 bT
  rw [cP (show ma≠0 by rw [e1];exact bT),cF (show ma=ow by rw [e1,e2])];rfl
 obtain ⟨i,hi⟩:=hr.there bT
 have bI:=bY hi
 by_cases hk2:kindOf (J I w.2.1 i)=2
 ·have e1:=cc bT i hi hk2
  have e2:=s2 bT i hi hk2
  rw [cP (show ma≠0 by rw [e1];decide),cF (show ma=ow by rw [e1,e2])];rfl
 obtain ⟨e1,e2⟩:=gj bT i hi hk2 0 100 rfl rfl (by omega) (by omega)
 have gU:=s6 rfl bT i hi
 have xZ:=hw.fe bI.1
 rw [List.drop_zero,List.take_of_length_le (by omega)] at e2
 rw [dk e1]
 simp only [cond_false]
 have k4:x=w→bs e' zto=true:=by
  intro e
  subst e
  have:=XU.symm.trans vD
  have:=congrArg (fun o=>(o.map fun p=>p.2.1.2.1)) this
  have:e'=zto:=by simpa using this
  rw [this];exact Cz _
 by_cases x4:ow=0
 case neg =>
  rw [cP x4,k4 (OB.no cd x4)];rfl
 rw [dk x4]
 simp only [cond_false]
 have rp:vF w cL (o9 (n:Int) d) x:=by
  have fR:aE (o9 (n:Int) d)=5:=rfl
  rcases OB.done cd n5 XR (by rw [fR];omega) x4 with⟨ag,_⟩ | ⟨ag,_⟩ | ⟨ag,_⟩ | ⟨ag,_⟩ | ⟨_,ag⟩ | ⟨ag,_⟩ | ⟨ag,_⟩ | ⟨ag,_⟩ | ⟨ag,_⟩
  case inr.inr.inr.inr.inl=>exact ag
  all_goals (exfalso;rw [fR] at ag;omega)
 obtain ⟨dU,cz,_,_,c4,_,_,_,_,akN,rp⟩:=rp.out
 have m8:dU=r:=by
  have h1:dQ (w,cL,eP,true,())=some (dU,()):=akN
  exact congrArg Prod.fst (aU (h1.symm.trans sW))
 subst m8
 have e_:cz=i:=by rw [hi] at c4;exact(aU c4).symm
 subst e_
 by_cases G0:d=[]
 ·have hx:x=w:=by
   rcases rp with⟨_,_,h⟩ | ⟨h,_⟩
   ·exact h
   ·exact absurd G0 (h (by show(5:Int)≠7;omega))
  rw [l7.2 G0,k4 hx];rfl
 have AY:bs d []=false:=by rw [← Bool.not_eq_true,l7];exact G0
 rw [AY]
 simp only [cond_false]
 obtain ⟨hsz,hT⟩:n+d.length≤64∧x=(w.1,w.2.1.set cz (dF (J I w.2.1 cz) (iS (bh (J I w.2.1 cz)) n d)),()):=by
  rcases rp with⟨_,h,_⟩ | ⟨_,h1,h2,_⟩
  ·exact absurd h G0
  ·have ha:eg (o9 (n:Int) d) (J I w.2.1 cz)=(n:Int):=rfl
   rw [ha] at h1
   have h1:(n:Int) +(d.length:Int)≤64:=h1
   refine⟨by omega,?_⟩
   rw [h2]
   have:ig (o9 (n:Int) d) (J I w.2.1 cz)=iS (bh (J I w.2.1 cz)) n d:=by
    unfold ig
    rw [if_neg (show ¬aE (o9 (n:Int) d)=7 by show ¬(5:Int)=7;omega),ha,Int.toNat_natCast];rfl
   rw [this]
 obtain ⟨D,lM⟩:∃D,D=bh (J I w.2.1 cz):=⟨_,rfl⟩
 obtain ⟨M,nA⟩:∃M,M=iS D n d:=⟨_,rfl⟩
 rw [← lM,← nA] at hT
 have hex:x.2.1=w.2.1.set cz (dF (J I w.2.1 cz) M):=by rw [hT]
 have vK:J I x.2.1 cz=dF (J I w.2.1 cz) M:=by rw [hex,gb bI.1,if_pos rfl]
 have hxl:x.2.1.length=w.2.1.length:=by rw [hex,List.length_set]
 have G4:=XP hw rq bI.1 gU hex sW
 have G5:bd x.2.1 (bj dU)=some cz:=by rw [hex,ri (y:=dF (J I w.2.1 cz) M) bI.1 rfl];exact hi
 have G6:kindOf (J I x.2.1 cz)≠2:=by rw [vK];exact hk2
 have alS:M.length≤64:=by
  have:=rq.fe (i:=cz) (by omega)
  rw [vK] at this
  exact this
 have fp:=o6 D n
 have A7:M=gd D n++(d++D.drop (n+d.length)):=by rw [nA];unfold iS;rw [List.append_assoc]
 have XV:n≤M.length:=by rw [A7,List.length_append,fp];omega
 obtain ⟨_,_,a3⟩:=GY rq 0 100 hx0 G4 XU
 obtain ⟨a1,a2⟩:=a3 bT cz G5 G6 0 100 rfl rfl (by omega) (by omega)
 rw [show bh (J I x.2.1 cz)=M by rw [vK];rfl,List.drop_zero,List.take_of_length_le (by omega)] at a2
 have akO:h8 (iU eP (n:Int) (d.length:Int))=true:=OA ⟨⟨by show(1:Int)≤4;omega,by show(4:Int)≤22;omega⟩,by show(3:Nat)≤60;omega,by show(0:Nat)≤60;omega,by show(0:Nat)≤64;omega,⟨by show(-1000000:Int)≤(n:Int);omega,by show(n:Int)≤1000000;omega⟩,⟨by show(-1000000:Int)≤(d.length:Int);omega,by show(d.length:Int)≤1000000;omega⟩,.inl rfl,.inl rfl⟩
 obtain ⟨_,_,pv⟩:=GY rq (n:Int) (d.length:Int) akO G4 akM
 obtain ⟨jc,og⟩:=pv bT cz G5 G6 n d.length rfl rfl (by omega) (by omega)
 rw [show bh (J I x.2.1 cz)=M by rw [vK];rfl,A7,List.drop_append_of_le_length (by omega),List.drop_of_length_le (by omega),List.nil_append,List.take_append_of_le_length (Nat.le_refl _),List.take_of_length_le (Nat.le_refl _)] at og
 have akP:h8 (o_ (n:Int))=true:=OA ⟨⟨by show(1:Int)≤7;omega,by show(7:Int)≤22;omega⟩,by show(3:Nat)≤60;omega,by show(0:Nat)≤60;omega,by show(0:Nat)≤64;omega,⟨by show(-1000000:Int)≤(n:Int);omega,by show(n:Int)≤1000000;omega⟩,⟨by show(-1000000:Int)≤0;omega,by show(0:Int)≤1000000;omega⟩,.inl rfl,.inl rfl⟩
 obtain ⟨u,XW,XX,akQ,akR,akS⟩:=vH x cL (o_ (n:Int)) rq.vb
 have OC:=lr.1 (akS.ok XT)
 obtain ⟨jM,iu⟩:=akK rq (n:=n) G4 bT G5 G6 (by rw [show bh (J I x.2.1 cz)=M by rw [vK];rfl];exact XV) akQ akP
 have XY:M.take n=gd D n:=by rw [A7,List.take_append_of_le_length (by omega),List.take_of_length_le (by omega)]
 rw [show bh (J I x.2.1 cz)=M by rw [vK];rfl,XY] at iu
 have OD:u.2.1=x.2.1.set cz (dF (J I x.2.1 cz) (gd D n)):=by rw [iu]
 have XZ:J I u.2.1 cz=dF (J I x.2.1 cz) (gd D n):=by rw [OD,gb (by omega),if_pos rfl]
 have akT:=XP rq OC (i:=cz) (by omega) (by rw [vK];exact gU) OD G4
 have akU:bd u.2.1 (bj dU)=some cz:=by rw [OD,ri (y:=dF (J I x.2.1 cz) (gd D n)) (by omega) rfl];exact G5
 obtain ⟨wl,akV,dv,l4,akW,_⟩:=vH u cL (iU eP 0 100) OC.vb
 obtain ⟨_,_,mm⟩:=GY OC 0 100 hx0 akT l4
 obtain ⟨dN,ek⟩:=mm bT cz akU (by rw [XZ];exact G6) 0 100 rfl rfl (by omega) (by omega)
 rw [show bh (J I u.2.1 cz)=gd D n by rw [XZ];rfl,List.drop_zero,List.take_of_length_le (by omega)] at ek
 rw [tb]
 simp only [av,ji,nE]
 show Option.bind (eM (x,cL,o_ (n:Int),())) _=_
 rw [akR]
 simp only [av]
 show LY (mU (q+1)) (n:Int) d (ma,zto,()) (A6,e',()) (GZ,gi,()) u (XW,XX,())=_
 unfold LY
 rw [tb]
 simp only [av,ji,nE]
 show Option.bind (eM (u,cL,iU eP 0 100,())) _=_
 rw [akW]
 simp only [av]
 show LZ (mU q) (n:Int) d (ma,zto,()) (A6,e',()) (GZ,gi,()) (XW,XX,()) (akV,dv,())=_
 unfold LZ
 simp only
 rw [og,Cz,cF jM,ek,cF (show((gd D n).length:Int)=(n:Int) by rw [fp])]
 simp only [cond_true]
 have akX:LQ (gd D n,e',())=some (true,()):=by
  show LP (gd D n) e'=_
  unfold LP
  rw [a2,decide_eq_true (show((gd D n).length:Int)≤(M.length:Int) by rw [fp];omega)]
  simp only [cond_true]
  show Option.bind (du M.length ((0:Nat):Int) ((gd D n).length:Int)) _=_
  rw [iW (by omega) (by rw [fp];exact XV)]
  simp only [av,Nat.sub_zero]
  rw [vq,fp,XY,Cz]
 rw [akX]
 simp only [av,cond_true]
 rw [e2,← lM,ed (a:=(n:Int) +(d.length:Int)) (by omega) (by omega)]
 by_cases hle:D.length≤n+d.length
 ·rw [decide_eq_true (by omega)];rfl
 ·rw [decide_eq_false (by omega)]
  simp only [cond_false]
  have alT:M.length=D.length:=by rw [A7,List.length_append,List.length_append,fp,List.length_drop];omega
  rw [a2,show(n:Int) +(d.length:Int)=((n+d.length:Nat):Int) by omega,iW (by omega) (Nat.le_refl _),iW (by omega) (Nat.le_refl _)]
  simp only [av]
  rw [Aj,Aj]
  have:M.drop (n+d.length)=D.drop (n+d.length):=by
   rw [A7,← List.append_assoc,List.drop_append_of_le_length (by rw [List.length_append,fp];omega),List.drop_of_length_le (by rw [List.length_append,fp];omega),List.nil_append]
  rw [this,Cz]
theorem akY(a:List Int)(hw:ad.gC (.sl (.int .u8)) a)(ha:a.length≤1048576):∃n:Int,LL (a,0,())=some (n,())∧0≤n:=by
 show ∃n,LK a 0=_∧_
 unfold LK
 by_cases h0:0<a.length
 ·rw [show decide ((0:Int)<(a.length:Int))=true from nS (by omega),show aO a.length 0=some 0 from bB (i:=0) h0]
  refine⟨_,rfl,?_⟩
  have aA:=(af3 hw).2 _ (cJ (t:=.int .u8) h0)
  have key:∀x:Int,ad.gC (.int .u8) x→(0:Int)≤x∧x≤255:=by
   intro x hx
   have hx:(decide (IntKind.min .u8≤x)&&decide (x≤IntKind.max .u8))=true:=by simpa only [ad.gC,Lit.wf] using hx
   rw [Bool.and_eq_true,decide_eq_true_eq,decide_eq_true_eq] at hx
   exact⟨Int.le_trans (by decide) hx.1,Int.le_trans hx.2 (by decide)⟩
  obtain ⟨x,hx⟩:∃x:Int,x=J (.int .u8) a 0:=⟨_,rfl⟩
  have aA:=key x (by rw [hx];exact aA)
  show(0:Int)≤aK (J (.int .u8) a 0)
  rw [← hx,ed (by omega) (by omega)];exact aA.1
 ·rw [show decide ((0:Int)<(a.length:Int))=false from l1 (by omega)]
  refine⟨_,rfl,?_⟩
  have e:a.length=0:=by omega
  rw [e]
  exact Int.tmod_nonneg _ (by decide)
theorem akZ(a:List Int)(ha:a.length≤1048576):∃s,LO (a,())=some (s,())∧s.length≤40:=by
 obtain ⟨C,hn,aR⟩:=XD a ha
 show ∃s,LN a=_∧_
 unfold LN
 rw [hn]
 simp only [av]
 obtain ⟨s,C,h1,_,hs⟩:=Xs aR 40 (by omega)
 have h1:uM (_,40,())=some (s,C,()):=h1
 rw [h1]
 exact⟨s,rfl,hs⟩
theorem X0(a:List Int)(hw:ad.gC (.sl (.int .u8)) a)(ha:a.length≤1048576)(v:af.D)(hv:bE v)(y z)(q:Nat):∃w r,jV (v,cL,XK,())=some (w,r,())∧(mU (q+8)).da a w y z=some (true,()):=by
 obtain ⟨w,k1,t1,hs1,_,hr1⟩:=vH v cL XK hv.vb
 refine⟨w,(k1,t1,()),hs1,?_⟩
 have hvw:=lr.1 (hr1.ok (lr.2 hv))
 obtain ⟨XQ,ma,zto,vD,M5,_⟩:=vH w cL (iU eP 0 100) hvw.vb
 show LR (mU (q+7)) a w y z=_
 unfold LR
 rw [tb]
 simp only [av,ji,nE]
 show Option.bind (eM (w,cL,iU eP 0 100,())) _=_
 rw [M5]
 simp only [av]
 show LS (mU (q+6)) a w y z (ma,zto,())=_
 unfold LS
 obtain ⟨m,hm,ak0⟩:=akY a hw ha
 obtain ⟨s,hs,l4⟩:=akZ a ha
 rw [hm,hs,tb]
 simp only [av,ji,nE]
 rw [l1 (show ¬((s.length:Int)>40) by omega)]
 simp only [cond_false]
 obtain ⟨n,hn,ak1⟩:∃n:Nat,Int.tmod m 30=(n:Int)∧n<30:=by
  have h1:=Int.tmod_nonneg 30 ak0
  have h2:=Int.tmod_lt_of_pos m (show(0:Int)<30 by omega)
  exact⟨(Int.tmod m 30).toNat,by omega,by omega⟩
 rw [hn]
 obtain ⟨x,r,h1,h2⟩:=akL w hvw n ak1 s l4 y z q vD
 show Option.bind (eM (w,cL,o9 (n:Int) s,())) _=_
 rw [h1]
 exact h2
theorem ajw(a:List Int)(hw:ad.gC (.sl (.int .u8)) a):Te (a,())=some (true,()):=by
 obtain ⟨q,hq,_⟩:=jm 8
 show Fu (mU aQ) a=_
 unfold Fu
 rw [aks]
 simp only [av]
 by_cases ha:(a.length:Int)>1048576
 ·rw [nS ha];rfl
 rw [l1 ha]
 simp only [cond_false]
 obtain ⟨v,c,x,ag,hsz⟩:=akr a (by omega)
 rw [ag,hq]
 simp only [av]
 rw [M' v hsz.vb,tb]
 simp only [av,ji,nE]
 cases cd:ki v with
 | false =>
  simp only [Bool.not_false,cond_true]
  rw [show y8 ()=some ((2,[(1,2,493,0,0,([]:aG),([]:List ay.D),0,0,())],()),()) from rfl]
  simp only [av]
  obtain ⟨kB,bz,h1,h2⟩:=X0 a hw (by omega) ((2:Int),([(1,2,493,0,0,([]:aG),([]:List ay.D),0,0,())]:List aI),()) (Ox 493 (by decide)) cL.2.2.1 ([(1,2,493,0,0,([]:aG),([]:List ay.D),0,0,())]:List aI) q
  have OE:jV ((2,[(1,2,493,0,0,([]:aG),([]:List ay.D),0,0,())],()),cL,(3,([47,122,122]:List UInt8),([]:List UInt8),420,0,([]:List UInt8),()),())=some (kB,bz,()):=h1
  rw [OE]
  exact h2
 | true =>
  simp only [Bool.not_true,cond_false]
  obtain ⟨kB,bz,h1,h2⟩:=X0 a hw (by omega) v (lr.1 cd) cL.2.2.1 v.2.1 q
  have OE:jV (v,cL,(3,([47,122,122]:List UInt8),([]:List UInt8),420,0,([]:List UInt8),()),())=some (kB,bz,()):=h1
  rw [OE]
  exact h2
end Go.LM.kF
