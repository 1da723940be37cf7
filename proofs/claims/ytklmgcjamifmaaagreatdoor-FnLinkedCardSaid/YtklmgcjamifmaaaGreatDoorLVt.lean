/- What is drawn, and the law. Conditions: each theorem's own hypotheses. -/
import Derived.Test.YtklmgcjamifmaaaGreatDoorLVe
set_option linter.unusedVariables false
set_option linter.unusedSimpArgs false
namespace Go.LM.kA
theorem A7{n:Nat}{i:Int}(h:0≤i)(h':i<n):aO n i=some i.toNat:=by
 rw [show aO n i=aO n ((i.toNat:Nat):Int) by congr 1;omega]
 exact bC (by omega)
abbrev fH:Type:=bq.D
def fe(C:fH):Prop:=0≤C.2.1∧C.2.1≤(C.1.length:Int)∧C.1.length≤1048576
def a_{α : Type}(o:Option (α × bq.D×Unit))(Q : α → Prop):Prop:=∃x C,o=some (x,C,())∧fe C∧Q x
theorem a_.ret{α : Type}{x : α}{C:fH}{Q : α → Prop}(h:fe C)(hq:Q x):a_ (some (x,C,())) Q:=⟨x,C,rfl,h,hq⟩
theorem a_.bind{α β : Type}{o:Option (α × bq.D×Unit)}{f : α × bq.D×Unit→Option (β × bq.D×Unit)}{Q : α → Prop}{R : β → Prop}(h:a_ o Q)
  (hf:∀x C,fe C→Q x→a_ (f (x,C,())) R):a_ (o.bind f) R:=by
 obtain ⟨x,C,rfl,hc,hq⟩:=h
 exact hf x C hc hq
theorem a_.mono{α : Type}{o:Option (α × bq.D×Unit)}{Q R : α → Prop}(h:a_ o Q)(hr:∀x,Q x→R x):a_ o R:=by
 obtain ⟨x,C,h1,h2,h3⟩:=h
 exact⟨x,C,h1,h2,hr x h3⟩
theorem a_.cond{α : Type}{b:Bool}{o p:Option (α × bq.D×Unit)}{Q : α → Prop}(h:a_ o Q)(h':a_ p Q):a_ (cond b o p) Q:=by
 cases b
 ·exact h'
 ·exact h
theorem Xy(x:Int):0≤cQ .and .i64 x 255∧cQ .and .i64 x 255≤255:=by
 have h:(BitVec.ofInt 64 x &&& BitVec.ofInt 64 255).toNat≤255:=by
  rw [BitVec.toNat_and]
  exact Nat.le_trans Nat.and_le_right (by decide)
 have h':((BitVec.ofInt 64 x &&& BitVec.ofInt 64 255).toNat:Int)≤255:=by omega
 have:cQ .and .i64 x 255=((BitVec.ofInt 64 x &&& BitVec.ofInt 64 255).toNat:Int):=tf (Int.le_trans (by decide) (Int.natCast_nonneg _)) (Int.le_trans h' (by decide))
 omega
theorem akf(b:List Int)(i hh:Int)(u:Unit)(h1:0≤i)(h2:i≤(b.length:Int))(h3:b.length≤1048576):a_ (qG (((b,i,hh,u):fH),())) (fun x=>0≤x∧x≤255):=by
 show a_ (JS ((b,i,hh,u):fH)) _
 unfold JS
 dsimp only
 by_cases hi:i<(b.length:Int)
 ·rw [o0 hi,A7 h1 hi]
  refine a_.ret ⟨?_,?_,h3⟩ (Xy _)
  ·show 0≤aK (i+1);rw [eh (a:=i+1) (by omega) (by omega)];omega
  ·show aK (i+1)≤(b.length:Int);rw [eh (a:=i+1) (by omega) (by omega)];omega
 ·rw [nU hi]
  exact a_.ret ⟨h1,h2,h3⟩ (Xy _)
theorem x5{C:fH}(h:fe C):a_ (qG (C,())) (fun x=>0≤x∧x≤255) :=
 akf C.1 C.2.1 C.2.2.1 C.2.2.2 h.1 h.2.1 h.2.2
structure Below(n x:Int):Prop where
 lo:0≤x
 hi:0<n→x<n
 no:n≤0→x=0
theorem Xz{x n:Int}(hx:0≤x)(hn:0<n):Below n (Int.tmod x n) :=
 ⟨Int.tmod_nonneg _ hx,fun _=>Int.tmod_lt_of_pos _ hn,fun h=>by omega⟩
theorem gP{C:fH}(h:fe C)(n:Int):a_ (gm (C,n,())) (Below n):=by
 show a_ (JT C n) _
 unfold JT
 by_cases h0:n≤0
 ·rw [o0 h0];exact a_.ret h ⟨Int.le_refl _,fun h=>by omega,fun _=>rfl⟩
 rw [nU h0]
 by_cases h1:n≤256
 ·rw [o0 h1]
  refine(x5 h).bind fun x C aR hx=>?_
  dsimp only
  rw [cI (by omega:n≠0)]
  exact a_.ret aR (Xz hx.1 (by omega))
 ·rw [nU h1]
  refine(x5 h).bind fun x C aR hx=>(x5 aR).bind fun y C aR aN=>(x5 aR).bind fun z C aR hz=>(x5 aR).bind fun w C aR hw=>?_
  dsimp only
  rw [cI (by omega:n≠0)]
  refine a_.ret aR (Xz ?_ (by omega))
  rw [eh (a:=x*16777216) (by omega) (by omega),eh (a:=y*65536) (by omega) (by omega),eh (a:=z*256) (by omega) (by omega),eh (a:=x*16777216+y*65536) (by omega) (by omega),eh (a:=x*16777216+y*65536+z*256) (by omega) (by omega),eh (a:=x*16777216+y*65536+z*256+w) (by omega) (by omega)]
  omega
theorem x6{C:fH}(h:fe C)(n:Int):a_ (r6 (C,n,())) (fun _=>True) :=
 (gP h n).bind fun x C aR _=>a_.ret aR trivial
theorem kO{C:fH}(h:fe C)(l:List Int)(hl:0<l.length):a_ (i' (C,l,())) (fun x=>x∈l):=by
 show a_ (Kn C l) _
 unfold Kn
 refine(gP h _).bind fun x C aR hx=>?_
 dsimp only
 have:=hx.hi (by omega)
 rw [A7 hx.lo this]
 refine a_.ret aR ?_
 rw [Nat.zero_add]
 exact cP (t:=.int .i64) (by have:=hx.lo;omega)
theorem G_{C:fH}(h:fe C)(l:List aF)(hl:0<l.length):a_ (qS (C,l,())) (fun x=>x∈l):=by
 show a_ (Kq C l) _
 unfold Kq
 refine(gP h _).bind fun x C aR hx=>?_
 dsimp only
 have:=hx.hi (by omega)
 rw [A7 hx.lo this]
 refine a_.ret aR ?_
 rw [Nat.zero_add]
 exact cP (t:=.str) (by have:=hx.lo;omega)
theorem Ox{C:fH}(h:fe C)(n:Nat)(l:List aF)(hl:0<l.length)(hn:l.all fun s=>decide (s.length≤n)):a_ (qS (C,l,())) (fun x=>x.length≤n) :=
 (G_ h l hl).mono fun x hx=>by simpa using List.all_eq_true.1 hn x hx
theorem akg(U:Int):∀(r q:Nat) (ai:List Int) (C:fH),fe C→ai.length+r≤1000→2*r<q→a_ ((si q).bb U (r:Int) C ai) (fun s=>s.length≤ai.length+r):=by
 intro r
 induction r with
 | zero =>
  intro q ai C aR hl hq
  obtain ⟨q,rfl,_⟩:=fuel hq
  show a_ (zC (si q) U ((0:Nat):Int) C ai) (fun s=>s.length≤ai.length+0)
  unfold zC
  rw [nU (by omega)]
  exact a_.ret aR (by simp [gF])
 | succ r ih =>
  intro q ai C aR hl hq
  obtain ⟨q,rfl,hq⟩:=fuel hq
  show a_ (zC (si q) U _ C ai) _
  unfold zC
  rw [o0 (by omega)]
  refine(x5 aR).bind fun y C aR _=>?_
  have hk:∀y,a_ ((si q).db U ((r+1:Nat):Int) y C ai) (fun s=>s.length≤ai.length +(r+1)):=fun y=>by
   obtain ⟨q,rfl,hq⟩:=fuel (show 2*r+1<q by omega)
   show a_ (Kp (si q) U _ y C ai) _
   unfold Kp
   rw [cH (by simp;omega),eh (by omega) (by omega),show((r+1:Nat):Int)-1=(r:Int) by omega]
   exact(ih q _ C aR (by simp;omega) (by omega)).mono fun s hs=>by simp at hs;omega
  exact a_.cond (a_.cond (hk _) (hk _)) (a_.cond (hk _) (hk _))
theorem akh{C:fH}(h:fe C)(n:Nat)(hn:n≤900):a_ (zD (C,(n:Int),())) (fun s=>s.length≤n):=by
 show a_ (DJ (si aQ) C n) _
 unfold DJ
 refine(gP h _).bind fun x C aR hx=>(gP aR _).bind fun y C aR aN=>?_
 dsimp only
 rw [eh (a:=(n:Int)+1) (by omega) (by omega)] at aN
 have h1:=aN.lo;have h2:=aN.hi (by omega)
 have:=akg x y.toNat aQ [] C aR (by simp;omega) (by rw [vj];omega)
 rw [Int.toNat_of_nonneg h1] at this
 exact this.mono fun s hs=>by simp at hs;omega
theorem XA{C:fH}(h:fe C):a_ (xc (C,())) (fun s=>s.length≤3):=by
 show a_ (Kr C) _
 unfold Kr
 exact(Ox h 3 _ (by decide) (by decide)).bind fun s C aR hs=>a_.ret aR hs
theorem XB(q:Nat){C:fH}(aR:fe C)(s:aF):a_ ((oS (q+1)).oR s C) (fun _=>True):=by
 show a_ (Kt (oS q) s C) _
 unfold Kt
 refine(x6 aR 30).bind fun b C aR _=>?_
 dsimp only
 exact a_.cond ((G_ aR _ (by decide)).bind fun y C aR _=>a_.ret aR trivial) (a_.ret aR trivial)
theorem XC(q:Nat){C:fH}(aR:fe C)(s:aF)(hs:s.length≤1000):a_ ((oS (q+2)).jN s C) (fun _=>True):=by
 show a_ (Ks (oS (q+1)) s C) _
 unfold Ks
 rw [cH (by simp;omega)]
 exact XB q aR _
theorem aki:∀(r q:Nat) (s:aF) (C:fH),fe C→s.length+20*r≤900→r<q→a_ ((oS (q+2)).k3 s (r:Int) C) (fun _=>True):=by
 intro r
 induction r with
 | zero =>
  intro q s C aR hs hq
  obtain ⟨q,rfl,_⟩:=fuel hq
  show a_ (zE (oS (q+2)) s ((0:Nat):Int) C) _
  unfold zE
  rw [nU (by omega),cond_false]
  refine a_.cond (XC q aR s (by omega)) ?_
  refine(x6 aR 20).bind fun b C aR _=>?_
  dsimp only
  exact a_.cond (XC q aR s (by omega)) (XB (q+1) aR s)
 | succ r ih =>
  intro q s C aR hs hq
  obtain ⟨q,rfl,hq⟩:=fuel hq
  show a_ (zE (oS (q+2)) s _ C) _
  unfold zE
  rw [o0 (by omega),cH (by simp;omega),eh (a:=((r+1:Nat):Int)-1) (by omega) (by omega),show((r+1:Nat):Int)-1=(r:Int) by omega]
  refine(XA aR).bind fun n C aR hn=>?_
  dsimp only
  rw [cH (by simp;omega)]
  refine(gP aR 14).bind fun k C aR _=>?_
  dsimp only
  have hk:∀(t:aF) C,fe C→t.length≤9→a_ (cond (room (((s++([47]:List UInt8))++n).length+t.length)) ((oS (q+2)).k3 (((s++([47]:List UInt8))++n)++t) (r:Int) C) none) (fun _=>True):=fun t C aR ht=>by
   rw [cH (by simp;omega)]
   exact ih q _ C aR (by simp;omega) (by omega)
  refine a_.cond (hk _ C aR (by simp)) (a_.cond (hk _ C aR (by simp)) (a_.cond (hk _ C aR (by simp)) (a_.cond ?_ ?_)))
  ·refine(Ox aR 9 _ (by decide) (by decide)).bind fun y C aR aN=>?_
   exact hk y C aR aN
  ·exact ih q _ C aR (by simp;omega) (by omega)
theorem XD{C:fH}(h:fe C):a_ (DL (C,())) (fun _=>True):=by
 show a_ (DK (oS aQ) C) _
 unfold DK
 refine(gP h 5).bind fun x C aR hx=>?_
 dsimp only
 have h1:=hx.lo;have h2:=hx.hi (by omega)
 obtain ⟨q,hq,alU⟩:=iI 2
 have:=aki x.toNat q [] C aR (by simp;omega) (by omega)
 rw [Int.toNat_of_nonneg h1,← hq] at this
 exact this
theorem akj(v:af.D){n:Nat}(hv:e8 n v.2.1)(hn:n≤1000):∀(r q:Nat) (s:aF) (at_:Int) (C:fH),fe C→s.length+9*r≤900→r<q→a_ (uH q s at_ ((r:Int)-1) C v) (fun _=>True):=by
 intro r
 induction r with
 | zero =>
  intro q s at_ C aR hs hq
  obtain ⟨q,rfl,_⟩:=fuel hq
  show a_ (xd (uH q) s at_ _ C v) _
  unfold xd
  rw [nU (by omega)]
  exact a_.ret aR trivial
 | succ r ih =>
  intro q s at_ C aR hs hq
  obtain ⟨q,rfl,hq⟩:=fuel hq
  show a_ (xd (uH q) s at_ _ C v) _
  unfold xd
  rw [o0 (show((r+1:Nat):Int)-1≥0 by omega),l2 v at_ (by have:=hv.len;omega)]
  simp only [cond_true,av]
  have lX:∀C,fe C→a_ (cond (room (s.length +([47]:List UInt8).length)) ((xc (C,())).bind fun v2=>cond (room ((s++([47]:List UInt8)).length+v2.1.length)) (some ((s++([47]:List UInt8))++v2.1,v2.2.1,())) none) none) (fun _=>True):=fun C aR=>by
   rw [cH (by simp;omega)]
   refine(XA aR).bind fun m C aR hm=>?_
   dsimp only
   rw [cH (by simp;omega)]
   exact a_.ret aR trivial
  cases hi:ba v.2.1 at_ with
  | none=>exact lX C aR
  | some d =>
   have ag:=(bZ hi).1
   rw [show decide (hg (some d)<0)=false from nU (show ¬((d:Int)<0) by omega)]
   rw [show aO v.2.1.length (hg (some d))=some d from bC ag]
   simp only [cond_false,av]
   by_cases h0:(ak (J I v.2.1 d)).length=0
   ·rw [cF (show(((J I v.2.1 d).2.2.2.2.2.2.1).length:Int)=0 from by have:(ak (J I v.2.1 d)).length=0:=h0;exact congrArg (fun k:Nat=>(k:Int)) this)]
    exact lX C aR
   ·rw [b4 (show(((J I v.2.1 d).2.2.2.2.2.2.1).length:Int)≠0 from by have:(ak (J I v.2.1 d)).length≠0:=h0;exact fun h=>this (Int.ofNat.inj h))]
    simp only [cond_false,jo]
    refine(gP aR _).bind fun k C aR hk=>?_
    have cA:k<((ak (J I v.2.1 d)).length:Int):=hk.hi (by show(0:Int)<((ak (J I v.2.1 d)).length:Int);omega)
    have Qn:=hk.lo
    dsimp only
    rw [show aO (((J I v.2.1 d).2.2.2.2.2.2.1).length) k=some k.toNat from A7 hk.lo cA]
    simp only [av]
    have cV:((J ax (ak (J I v.2.1 d)) k.toNat).1).length≤8:=(hv.get ag).each _ (cP (by omega))
    have cV:((J ax ((J I v.2.1 d).2.2.2.2.2.2.1) k.toNat).1).length≤8:=cV
    rw [cH (by simp;omega)]
    simp only [cond_true]
    rw [cH (n:=(s++([47]:List UInt8)).length +((J ax ((J I v.2.1 d).2.2.2.2.2.2.1) k.toNat).1).length) (by simp;omega)]
    simp only [cond_true]
    rw [eh (a:=((r+1:Nat):Int)-1-1) (by omega) (by omega),show((r+1:Nat):Int)-1-1=(r:Int)-1 by omega]
    refine ih q _ _ C aR ?_ (by omega)
    simp only [List.length_append,List.length_singleton];omega
theorem XE{C:fH}(h:fe C)(v:af.D){n:Nat}(hv:e8 n v.2.1)(hn:n≤1000):a_ (xe (C,v,())) (fun _=>True):=by
 show a_ (DN (uH aQ) C v) _
 unfold DN
 refine(x6 h 4).bind fun b C aR _=>?_
 dsimp only
 refine a_.cond ((XD aR).bind fun y C aR _=>a_.ret aR trivial) ?_
 refine(gP aR 4).bind fun x C aR hx=>?_
 dsimp only
 have h1:=hx.lo;have h2:=hx.hi (by omega)
 have:=akj v hv hn (x.toNat+1) aQ [] 1 C aR (by simp;omega) (by rw [vj];omega)
 rw [show((x.toNat+1:Nat):Int)-1=x by omega] at this
 exact this
theorem akk{n:Nat}{lo hi:Int}(h:0≤lo)(h':lo≤hi)(akl:hi≤n):d' n lo hi=some (lo.toNat,hi.toNat):=by
 unfold d'
 rw [if_pos ⟨h,h',akl⟩]
theorem Oy{C:fH}(h:fe C):a_ (zB (C,())) (fun c=>dd c=true):=by
 show a_ (Ko C) _
 unfold Ko
 refine(gP h 4).bind fun x C aR _=>?_
 dsimp only
 have h0:a_ (some (((0,0,([]:List Int),()):aI.D),C,())) (fun c=>dd c=true):=a_.ret aR (by kernel_rfl)
 have h2:a_ (some (((2,2,[5],()):aI.D),C,())) (fun c=>dd c=true):=a_.ret aR (by kernel_rfl)
 have h3:a_ (some (((3,2,([]:List Int),()):aI.D),C,())) (fun c=>dd c=true):=a_.ret aR (by kernel_rfl)
 exact a_.cond (a_.cond h0 (a_.cond h2 h3)) (a_.cond h0 (a_.cond h2 h3))
theorem akm{C:fH}(h:fe C):a_ (KH (C,())) (fun _=>True):=by
 show a_ (KG C) _
 unfold KG
 refine(Oy h).bind fun c C aR _=>?_
 refine(x6 aR 10).bind fun b C aR _=>?_
 dsimp only
 refine a_.cond ?_ (a_.ret aR trivial)
 refine(gP aR 3).bind fun x C aR _=>?_
 dsimp only
 refine a_.cond ((kO aR _ (by decide)).bind fun y C aR _=>a_.ret aR trivial) (a_.cond ((kO aR _ (by decide)).bind fun y C aR _=>a_.ret aR trivial) ?_)
 refine(gP aR 2).bind fun y C aR aN=>?_
 dsimp only
 have h1:=aN.lo;have h2:=aN.hi (by omega)
 rw [eh (a:=4+y) (by omega) (by omega)]
 show a_ ((d' 5 0 (4+y)).bind fun bt=>some (((c.1,c.2.1,part ([1,2,3,4,5]:List Int) (0+bt.1) (bt.2-bt.1),()):aI.D),C,())) _
 rw [akk (Int.le_refl _) (by omega) (by omega)]
 exact a_.ret aR trivial
theorem call32(m:Nat){C:fH}(aR:fe C)(aa ae:aH.D)(ag:ae.2.2.2.2.2.1.length≤100):a_ ((k9 (m+1)).fZ C aa ae) (fun _=>True):=by
 show a_ (Kx (k9 m) C aa ae) _
 unfold Kx
 refine(x6 aR 25).bind fun b C aR _=>?_
 dsimp only
 refine a_.cond ?_ (a_.ret aR trivial)
 refine(gP aR 6).bind fun z C aR _=>?_
 dsimp only
 refine a_.cond ((kO aR _ (by decide)).bind fun y C aR _=>a_.ret aR trivial) (a_.cond ((kO aR _ (by decide)).bind fun y C aR _=>a_.ret aR trivial)
  (a_.cond ((kO aR _ (by decide)).bind fun y C aR _=>a_.ret aR trivial) (a_.cond ?_ (a_.cond ((G_ aR _ (by decide)).bind fun y C aR _=>a_.ret aR trivial) ((XD aR).bind fun y C aR _=>a_.ret aR trivial)))))
 rw [cH (by simp;omega)]
 exact a_.ret aR trivial
theorem call19(m:Nat){C:fH}(aR:fe C)(v:af.D){n:Nat}(hv:e8 n v.2.1)(hn:n≤1000)(aa ae:aH.D)(ag:ae.2.2.2.2.2.1.length≤100):a_ ((k9 (m+2)).oQ C v aa ae) (fun _=>True):=by
 show a_ (Ky (k9 (m+1)) C v aa ae) _
 unfold Ky
 refine(XE aR v hv hn).bind fun s C aR _=>?_
 exact call32 m aR _ _ ag
theorem call20(m:Nat){C:fH}(aR:fe C)(k:Int)(aa ae:aH.D)(ag:ae.2.2.2.2.2.1.length≤100):a_ ((k9 (m+2)).nJ k C aa ae) (fun _=>True):=by
 show a_ (Kz (k9 (m+1)) k C aa ae) _
 unfold Kz
 refine a_.cond ((G_ aR _ (by decide)).bind fun y C aR _=>call32 m aR _ _ ag) (a_.cond ((gP aR 2).bind fun y C aR _=>call32 m aR _ _ ag)
  (a_.cond ((kO aR _ (by decide)).bind fun y C aR _=>(kO aR _ (by decide)).bind fun z C aR _=>call32 m aR _ _ ag) (a_.cond ((gP aR 8).bind fun y C aR _=>call32 m aR _ _ ag)
   (a_.cond ((kO aR _ (by decide)).bind fun y C aR _=>(kO aR _ (by decide)).bind fun z C aR _=>call32 m aR _ _ ag) (call32 m aR _ _ ag)))))
theorem XF{C:fH}(h:fe C)(v:af.D){n:Nat}(hv:e8 n v.2.1)(hn:n≤1000):a_ (DP (C,v,())) (fun _=>True):=by
 obtain ⟨m,hm,_⟩:=iI 4
 show a_ (DO (k9 aQ) C v) _
 rw [hm]
 unfold DO
 simp only [jo,oH]
 refine(kO h _ (by decide)).bind fun k C aR _=>(XE aR v hv hn).bind fun s C aR _=>?_
 dsimp only
 show a_ (Ku (k9 (m+3)) C v _ _) _
 unfold Ku
 have bg:∀(aa ae:aH.D),ae.2.2.2.2.2.1.length≤100→a_ ((k9 (m+3)).da C aa ae) (fun _=>True):=fun aa ae ag=>by
  show a_ (Kv (k9 (m+2)) C aa ae) _
  unfold Kv
  exact(kO aR _ (by decide)).bind fun y C aR _=>call32 (m+1) aR _ _ ag
 have bH:∀(k:Int) (aa ae:aH.D),ae.2.2.2.2.2.1.length≤100→a_ ((k9 (m+3)).c5 k C v aa ae) (fun _=>True):=fun k aa ae ag=>by
  show a_ (Kw (k9 (m+2)) k C v aa ae) _
  unfold Kw
  have G':∀ {C:fH},fe C→∀ai:aF→aH.D,(∀t,(ai t).2.2.2.2.2.1=t)→a_ ((zD (C,30,())).bind fun v4=>(k9 (m+2)).fZ v4.2.1 aa (ai v4.1)) (fun _=>True):=fun aR ai hx =>
   (akh aR 30 (by omega)).bind fun t C aR ht=>call32 (m+1) aR _ _ (by rw [hx];exact Nat.le_trans ht (by omega))
  refine a_.cond ((gP aR 8).bind fun y C aR _=>(gP aR 20).bind fun z C aR _=>call32 (m+1) aR _ _ ag) (a_.cond ((gP aR 20).bind fun y C aR _=>?_) (a_.cond ?_ (a_.cond ((gP aR 70).bind fun y C aR _=>call32 (m+1) aR _ _ ag)
   (a_.cond (a_.cond (call19 m aR v hv hn _ _ ag) (call20 m aR _ _ _ ag)) (a_.cond (call19 m aR v hv hn _ _ ag) (call20 m aR _ _ _ ag))))))
  ·exact G' aR (fun t=>(ae.1,ae.2.1,ae.2.2.1,y,ae.2.2.2.2.1,t,())) fun t=>rfl
  ·exact G' aR (fun t=>(ae.1,ae.2.1,ae.2.2.1,ae.2.2.2.1,ae.2.2.2.2.1,t,())) fun t=>rfl
 have ag:([]:aF).length≤100:=by simp
 exact a_.cond (a_.cond (bg _ _ ag) (bH _ _ _ ag)) (a_.cond (a_.cond (bg _ _ ag) (bH _ _ _ ag)) (a_.cond (bg _ _ ag) (bH _ _ _ ag)))
theorem Oz:∀m:Int,m∈[511,511,493,1023,2047]→bz ((2:Int),([(1,2,m,0,0,([]:aF),([]:List ax.D),0,0,())]:List aJ),()):=by
 intro m hm
 simp only [List.mem_cons,List.not_mem_nil,or_false] at hm
 rcases hm with rfl | rfl | rfl | rfl | rfl <;> exact ll.1 (by kernel_rfl)
theorem akn:e8 24 ([(1,2,493,0,0,([]:aF),([]:List ax.D),0,0,())]:List aJ):=(bz.sz (Oz 493 (by decide)))
theorem XG{C:fH}(h:fe C):a_ (DQ (C,())) (fun _=>True):=by
 show a_ (KA C) _
 unfold KA
 rw [show JU ()=some ((2,[(1,2,493,0,0,([]:aF),([]:List ax.D),0,0,())],()),()) from rfl]
 simp only [av]
 exact(XF h _ akn (by omega)).bind fun x C aR _=>a_.ret aR trivial
theorem XH(v:af.D)(c:aI.D)(x:aH.D)(hv:bz v)(hc:dd c=true):∃w r,k7 (v,c,x,())=some (w,r,())∧bz w:=by
 by_cases hx:kH x=true∧az x≤20
 ·obtain ⟨k,t,w,_,h2,h3,_,_⟩:=W7 v c x hv hc (rf.1 hx.1) hx.2
  refine⟨_,_,h2,?_⟩
  by_cases h0:k=0
  ·rw [cF h0];exact(h3 h0).ok hv hc (rf.1 hx.1)
  ·rw [b4 h0];exact hv
 ·refine⟨v,(22,[],()),?_,hv⟩
  show sh (zA aQ) v c x=_
  unfold sh
  rw [MX]
  simp only [av]
  cases hcall:kH x with
  | false=>rfl
  | true =>
   simp only [Bool.not_true,cond_false]
   rw [decide_eq_true (show x.1>20 from by have:¬az x≤20:=fun h=>hx ⟨hcall,h⟩;exact Int.not_le.1 this)];rfl
theorem XI:∀m,y9 m=pJ m
 | 0=>rfl
 | m+1=>by
  funext U aa ae ai
  show JV (y9 m) U aa ae ai=y8 (pJ m) U aa ae ai
  rw [XI m];rfl
theorem XJ{v:af.D}(h:bz v):y_ (v,())=some (v,()):=by
 have:=h.GY
 rw [show lZ (v,())=y7 (pJ aQ) v from rfl,← XI] at this
 exact this
theorem ako(v0:af.D):∀(r q:Nat) (C:fH) (v:af.D),fe C→bz v→r≤1000→r<q→a_ (uI q ((r:Int)+1) C v0 v) bz:=by
 intro r
 induction r with
 | zero =>
  intro q C v aR hv hr hq
  obtain ⟨q,rfl,_⟩:=fuel hq
  show a_ (xg (uI q) _ C v0 v) _
  unfold xg
  rw [eh (a:=((0:Nat):Int)+1-1) (by omega) (by omega),nU (by omega),XJ hv]
  exact a_.ret aR hv
 | succ r ih =>
  intro q C v aR hv hr hq
  obtain ⟨q,rfl,hq⟩:=fuel hq
  show a_ (xg (uI q) _ C v0 v) _
  unfold xg
  rw [eh (a:=((r+1:Nat):Int)+1-1) (by omega) (by omega),o0 (by omega)]
  refine(Oy aR).bind fun c C aR hc=>(XG aR).bind fun x C aR _=>?_
  dsimp only
  obtain ⟨w,k,hw,dK⟩:=XH v c x hv hc
  rw [hw]
  simp only [av]
  rw [show((r+1:Nat):Int)+1-1=(r:Int)+1 by omega]
  exact ih q C w aR dK (by omega) (by omega)
theorem akp{C:fH}(h:fe C)(n:Int)(hn:n≤1000):a_ (KB (C,n,())) bz:=by
 show a_ (DR (uI aQ) C n) _
 unfold DR
 rw [show y6 ()=some ((2,[(1,2,493,0,0,([]:aF),([]:List ax.D),0,0,())],()),()) from rfl]
 simp only [av]
 refine(kO h _ (by decide)).bind fun m C aR hm=>?_
 rw [show aO (([(1,2,493,0,0,([]:aF),([]:List ax.D),0,0,())]:List aJ)).length 0=some 0 from rfl]
 simp only [av]
 unfold Sp
 refine(gP aR n).bind fun k C aR hk=>?_
 dsimp only
 have dK:=Oz m hm
 by_cases h0:k>0
 ·rw [o0 h0]
  refine(Oy aR).bind fun c C aR hc=>(XG aR).bind fun x C aR _=>?_
  dsimp only
  obtain ⟨w,r,hw,dK⟩:=XH _ c x dK hc
  have HY:k7 (((2,List.set [(1,2,493,0,0,([]:aF),([]:List ax.D),0,0,())] (0+0) (((J I [(1,2,493,0,0,([]:aF),([]:List ax.D),0,0,())] (0+0)).1,(J I [(1,2,493,0,0,([]:aF),([]:List ax.D),0,0,())] (0+0)).2.1,m,(J I [(1,2,493,0,0,([]:aF),([]:List ax.D),0,0,())] (0+0)).2.2.2.1,(J I [(1,2,493,0,0,([]:aF),([]:List ax.D),0,0,())] (0+0)).2.2.2.2.1,(J I [(1,2,493,0,0,([]:aF),([]:List ax.D),0,0,())] (0+0)).2.2.2.2.2.1,(J I [(1,2,493,0,0,([]:aF),([]:List ax.D),0,0,())] (0+0)).2.2.2.2.2.2.1,(J I [(1,2,493,0,0,([]:aF),([]:List ax.D),0,0,())] (0+0)).2.2.2.2.2.2.2.1,(J I [(1,2,493,0,0,([]:aF),([]:List ax.D),0,0,())] (0+0)).2.2.2.2.2.2.2.2.1,()):aJ),()):af.D),c,x,())=some (w,r,()):=hw
  rw [HY]
  simp only [av]
  have h1:=hk.hi (by have:=hk.no;omega)
  have:=ako (0,([]:List I.D),()) (k.toNat-1) aQ C w aR dK (by omega) (by rw [vj];omega)
  rw [show((k.toNat-1:Nat):Int)+1=k by omega] at this
  exact this
 ·rw [nU h0]
  have ym:=XJ dK
  exact(show a_ ((y_ (((2:Int),([(1,2,m,0,0,([]:aF),([]:List ax.D),0,0,())]:List aJ),()),())).bind fun v9=>some (v9.1,C,())) bz by rw [ym];exact a_.ret aR dK)
theorem akq{C:fH}(h:fe C)(n:Int)(hn:n≤1000):a_ (KD (C,n,())) (fun w=>e8 25 w.2.1):=by
 show a_ (KC C n) _
 unfold KC
 refine(akp h n hn).bind fun v C aR hv=>(x6 aR 10).bind fun b C aR _=>?_
 have hsz:e8 25 v.2.1:=hv.sz.mono (by omega)
 refine a_.cond (a_.ret aR hsz) ?_
 refine(gP aR _).bind fun k C aR hk=>?_
 have h1:=hk.lo;have h2:=hk.hi (by have:=hv.len;show(0:Int)<(v.2.1.length:Int);omega)
 have h2:k<(v.2.1.length:Int):=h2
 refine(gP aR 9).bind fun z C aR _=>?_
 dsimp only
 have hi:k.toNat<v.2.1.length:=by omega
 have au:=hsz.get hi
 have GU:=hv.fF hi
 have jQ:(ak (J I v.2.1 k.toNat)).length≤24:=(hv.sz.get hi).cG
 rw [show aO v.2.1.length k=some k.toNat from A7 h1 h2]
 simp only [av,Nat.zero_add]
 refine a_.cond ((kO aR _ (by decide)).bind fun y C aR _=>a_.ret aR hsz) (a_.cond ((gP aR 5).bind fun y C aR _=>a_.ret aR (hsz.set _ ⟨au.fF,au.cG,au.each⟩)) (a_.cond ((kO aR _ (by decide)).bind fun y C aR _=>a_.ret aR (hsz.set _ ⟨au.fF,au.cG,au.each⟩))
  (a_.cond ?_ (a_.cond ?_ (a_.cond ((kO aR _ (by decide)).bind fun y C aR _=>a_.ret aR (hsz.set _ ⟨au.fF,au.cG,au.each⟩)) (a_.cond ((kO aR _ (by decide)).bind fun y C aR _=>a_.ret aR (hsz.set _ ⟨au.fF,au.cG,au.each⟩)) (a_.cond ?_ ((gP aR 5).bind fun y C aR _=>a_.ret aR (hsz.set _ ⟨au.fF,au.cG,au.each⟩)))))))))
 ·rw [cH (n:=(J I v.2.1 k.toNat).2.2.2.2.2.1.length +([120]:List UInt8).length) (by have:(J I v.2.1 k.toNat).2.2.2.2.2.1.length≤64:=GU;simp;omega)]
  refine a_.ret aR (hsz.set _ ⟨?_,au.cG,au.each⟩)
  show((bA (J I v.2.1 k.toNat))++([120]:List UInt8)).length≤200
  simp only [List.length_append,List.length_singleton];omega
 ·refine(Ox aR 2 _ (by decide) (by decide)).bind fun y C aR aN=>(gP aR 6).bind fun u C aR _=>?_
  dsimp only
  rw [show Nat.beq k.toNat k.toNat=true from Nat.beq_refl _]
  simp only [cond_true]
  rw [cH (n:=(J I v.2.1 k.toNat).2.2.2.2.2.2.1.length+[((y,u,()):ax.D)].length) (by have:(J I v.2.1 k.toNat).2.2.2.2.2.2.1.length≤24:=jQ;simp;omega)]
  refine a_.ret aR (hsz.set _ ⟨au.fF,?_,?_⟩)
  ·show((ak (J I v.2.1 k.toNat))++[((y,u,()):ax.D)]).length≤25
   simp only [List.length_append,List.length_singleton];omega
  ·intro d ag
   have ag:d∈(ak (J I v.2.1 k.toNat))++[((y,u,()):ax.D)]:=ag
   rcases List.mem_append.1 ag with ag | ag
   ·exact au.each d ag
   ·rw [List.mem_singleton.1 ag];show y.length≤8;omega
 ·rw [cH (by have:=hv.len;simp;omega)]
  refine a_.ret aR (hv.sz.app ⟨?_,?_,fun d ag=>by cases ag⟩)
  ·show([]:aF).length≤200;simp
  ·show([]:List ax.D).length≤24;simp
theorem akr(a:List Int)(ha:a.length≤1048576):∀(r q:Nat) (h:Int) (i:Nat),i+r=4000→r<q→∃C,w1 q a h (i:Int)=some (C,())∧fe C:=by
 intro r
 induction r with
 | zero =>
  intro q h i hi hq
  obtain ⟨q,rfl,_⟩:=fuel hq
  refine⟨(a,0,h,()),?_,Int.le_refl _,Int.natCast_nonneg _,ha⟩
  show wZ (w1 q) a h (i:Int)=_
  unfold wZ
  rw [nU (show ¬(i:Int)<4000 by omega)]
  cases decide ((i:Int)<(a.length:Int)) <;> rfl
 | succ r ih =>
  intro q h i hi hq
  obtain ⟨q,rfl,hq⟩:=fuel hq
  show ∃C,wZ (w1 q) a h (i:Int)=_∧_
  unfold wZ
  rw [o0 (show(i:Int)<4000 by omega)]
  by_cases hl:i<a.length
  ·rw [cq hl,bC hl]
   simp only [cond_true,av]
   rw [eh (a:=(i:Int)+1) (by omega) (by omega)]
   exact ih q _ (i+1) (by omega) (by omega)
  ·rw [cT (by omega)]
   exact⟨(a,0,h,()),rfl,Int.le_refl _,Int.natCast_nonneg _,ha⟩
theorem aks(a:List Int)(ha:a.length≤1048576):∃C,JR (a,())=some (C,())∧fe C:=akr a ha 4000 aQ _ 0 (by omega) (by rw [vj];omega)
theorem size_le(a:List Int)(n:Int):∃k,KF (a,n,())=some (k,())∧k≤n:=by
 show ∃k,KE a n=_∧_
 unfold KE
 by_cases h:aK (2+aK (Int.tdiv (a.length:Int) 20))>n
 ·rw [o0 h];exact⟨n,rfl,Int.le_refl _⟩
 ·rw [nU h];exact⟨_,rfl,by omega⟩
theorem akt(a:List Int)(ha:a.length≤1048576):∃v c x,KJ (a,())=some (v,c,x,())∧e8 25 v.2.1:=by
 obtain ⟨C,hn,aR⟩:=aks a ha
 obtain ⟨k,hs,hk⟩:=size_le a 50
 show ∃v c x,KI a=_∧_
 unfold KI
 rw [hn,hs]
 simp only [av]
 obtain ⟨v,C,h1,aR,hv⟩:=akq aR k (by omega)
 rw [h1];simp only [av]
 obtain ⟨c,C,h2,aR,_⟩:=akm aR
 rw [h2];simp only [av]
 obtain ⟨x,C,h3,aR,_⟩:=XF aR v hv (by omega)
 rw [h3]
 exact⟨v,c,x,rfl,hv⟩
theorem e8.vb{v:af.D}(h:e8 25 v.2.1):vm v:=agD (Nat.le_trans (W9 h) (by decide))
theorem aku(a:List Int):JQ (a,())=some (decide ((a.length:Int)>1048576),()):=rfl
theorem bz.vb{v:af.D}(h:bz v):vm v:=(h.sz.mono (by omega)).vb
theorem bz.alV{v:af.D}(h:bz v){i:Nat}(hi:i<v.2.1.length)(hk:kindOf (J I v.2.1 i)=2) :
  ∃B K:Nat,acj (v,aY (J I v.2.1 i),())=some ((B:Int),(K:Int),())∧(eP (J I v.2.1 i)>0→(B:Int)≤eP (J I v.2.1 i))∧(eD (J I v.2.1 i)>0→(K:Int)≤eD (J I v.2.1 i)):=by
 have hb:=h.vb
 show ∃B K:Nat,LX v (aY (J I v.2.1 i))=_∧_
 unfold LX
 rw [Gd v hb,ll.2 h]
 simp only [av,Bool.not_true,cond_false]
 rw [Gh v _ hb.len]
 have ag:lh v.2.1 (aY (J I v.2.1 i))=true:=by
  have:=h.fR i hi
  unfold lh
  rw [show ba v.2.1 (aY (J I v.2.1 i))=some i from this]
  exact cF hk
 rw [ag]
 simp only [av,Bool.not_true,cond_false]
 obtain ⟨out,hf,he⟩:=Nb v (aY (J I v.2.1 i)) hb.len hb.cG hb.bytes
 obtain ⟨lC,h_⟩:=Nc h.fR h.gN hf
 rw [he]
 refine⟨_,_,rfl,?_,?_⟩
 ·intro hm
  have:=Ok.1 h.over _ (cP hi)
  unfold ij at this
  rw [decide_eq_true hm] at this
  simp only [Bool.true_and,Bool.or_eq_false_iff,decide_eq_false_iff_not,Int.not_lt] at this
  rw [lC];exact this.1
 ·intro hm
  have:=Ok.1 h.over _ (cP hi)
  unfold ij at this
  rw [decide_eq_true hm] at this
  simp only [Bool.true_and,Bool.or_eq_false_iff,decide_eq_false_iff_not,Int.not_lt] at this
  rw [h_];exact this.2
theorem bz.parent{v:af.D}(h:bz v){i:Nat}(hi:i<v.2.1.length)(hk:kindOf (J I v.2.1 i)=2):∃p,ack (v,aY (J I v.2.1 i),())=some (p,())∧p≠0:=by
 have hb:=h.vb
 show ∃p,LY v (aY (J I v.2.1 i))=_∧_
 unfold LY
 rw [Gd v hb,ll.2 h]
 simp only [av,Bool.not_true,cond_false]
 rw [Gh v _ hb.len]
 have ag:lh v.2.1 (aY (J I v.2.1 i))=true:=by
  unfold lh
  rw [show ba v.2.1 (aY (J I v.2.1 i))=some i from h.fR i hi]
  exact cF hk
 rw [ag]
 simp only [av,Bool.not_true,cond_false]
 rw [VM v _ hb.len hb.cG]
 refine⟨_,rfl,?_⟩
 obtain ⟨j,hj,_⟩:=At (h.kK hb) (aY (J I v.2.1 i))
 obtain ⟨yR,kx⟩:=bZ hj
 have:=(h.ids j yR).1
 have e:aY (J I v.2.1 j)=jw v.2.1 (aY (J I v.2.1 i)):=kx
 omega
theorem bz.XK{v:af.D}(h:bz v){i:Nat}(hi:i<v.2.1.length):∃k,FA (v,aY (J I v.2.1 i),())=some (k,())∧1≤k∧k=mZ v.2.1 (J I v.2.1 i):=by
 have hb:=h.vb
 show ∃k,LW v (aY (J I v.2.1 i))=_∧_
 unfold LW
 rw [mX v _ hb.len (show ba v.2.1 (aY (J I v.2.1 i))=some i from h.fR i hi)]
 simp only [av,List.isEmpty_cons,Bool.not_false,cond_true]
 rw [Gd v hb,ll.2 h]
 simp only [av,cond_true]
 have hn:=(h.sz.get hi).cG
 rw [show J I [J I v.2.1 i] 0=J I v.2.1 i from rfl,VP v _ hb.len hb.cG (by omega)]
 refine⟨_,rfl,?_,rfl⟩
 unfold mZ
 by_cases hk:kindOf (J I v.2.1 i)=2
 ·rw [dq hk];simp only [cond_false];omega
 ·rw [cI hk]
  simp only [cond_true]
  have hi0:1≤i:=by
   rcases Nat.eq_zero_or_pos i with h0 | h0
   ·subst h0;exact absurd h.root.2 hk
   ·exact h0
  have gz:=h.reach i hi0 hi
  have hne:ca v.2.1 (J I v.2.1 i).1≠0:=by
   intro h0
   have hE:∃a,E v.2.1 a (J I v.2.1 i).1:=by
    cases gz with
    | single h1=>exact⟨_,h1⟩
    | tail _ h1=>exact⟨_,h1⟩
   obtain ⟨a,j,d,hj,ag,he⟩:=hE
   exact GC h0 _ (cP (bZ hj).1) d ag he
  omega
theorem o7.next{v:af.D}{c:aI.D}{x:aH.D}{w:af.D}(h:o7 v c x w):w.1=v.1∨w.1=v.1+1:=by
 rcases h with⟨_,h⟩ | ⟨_,h⟩ | ⟨_,h⟩ | ⟨_,h⟩ | ⟨_,h⟩ | ⟨_,h⟩ | ⟨_,h⟩ | ⟨_,h⟩ | ⟨_,h⟩
 ·obtain ⟨r,i,_,_,_,_,_,_,_,_,_,rfl,_⟩:=h.out;exact .inr rfl
 ·obtain ⟨r,i,j,_,_,_,_,_,_,_,_,_,_,rfl⟩:=h.out;exact .inl rfl
 ·obtain ⟨r,t,i,j,_,_,_,_,_,_,_,_,_,_,rfl,_⟩:=h.out;exact .inl rfl
 ·obtain ⟨r,t,j,_,_,_,_,_,_,_,_,h⟩:=h.out
  rcases h with⟨_,rfl⟩ | ⟨_,_,l,ir,it,_,rfl,_⟩
  ·exact .inl rfl
  ·exact .inl rfl
 ·obtain ⟨r,i,_,_,_,_,_,_,_,_,h⟩:=h.out
  rcases h with⟨_,_,rfl⟩ | ⟨_,_,rfl,_⟩
  ·exact .inl rfl
  ·exact .inl rfl
 ·obtain ⟨_,_,r,i,_,_,_,_,_,rfl⟩:=h.out;exact .inl rfl
 ·obtain ⟨_,_,r,i,_,_,_,rfl⟩:=h.out;exact .inl rfl
 ·obtain ⟨_,_,_,r,i,_,_,_,_,rfl,_⟩:=h.out;exact .inl rfl
 ·rw [h];exact .inl rfl
def jP(l:List aJ)(id:Int):aJ:=match ba l id with
 | some i=>J I l i
 | none=>I.zero
theorem x7{l:List aJ}{id:Int}{i:Nat}(h:ba l id=some i):jP l id=J I l i:=by unfold jP;rw [h]
def o8(k:Int):aV.D:=((0:Int),([]:aF),(0:Int),k,())
def l6(l:List aJ)(at_:Int)(p:aF):Int:=cJ (ak (jP l at_)) p
def kK(l:List aJ)(c:aI.D)(bl:Bool):Nat→Int→Nat→List aF→aV.D
 | _,at_,_,[]=>((0:Int),([]:aF),at_,(0:Int),())
 | 0,at_,_,_ :: _=>((0:Int),([]:aF),at_,(0:Int),())
 | n+1,at_,k,p :: L=>cond (!may c (jP l at_) 1) (o8 13) (cond (bs p [46]) (kK l c bl n at_ k L) (cond (bs p [46,46]) (kK l c bl n (jw l at_) k L) (cond (decide ((p.length:Int)>8)) (o8 36)
   (cond (l6 l at_ p==0) (cond L.isEmpty (at_,p,(0:Int),(2:Int),()) (o8 2))
    (cond (kindOf (jP l (l6 l at_ p))==3&&(!L.isEmpty||bl)) (cond (Nat.ble 8 k) (o8 40) (cond (Nat.blt 40 (cut (bA (jP l (l6 l at_ p)))++L).length) (o8 36)
      (kK l c bl n (cond (nb (bA (jP l (l6 l at_ p))) 0==47) 1 at_) (k+1) (cut (bA (jP l (l6 l at_ p)))++L))))
     (cond L.isEmpty (at_,p,l6 l at_ p,(0:Int),()) (cond (kindOf (jP l (l6 l at_ p)) != 2) (o8 20) (kK l c bl n (l6 l at_ p) k L))))))))
theorem akv{L:List aF}{a c:Nat}(h:0<c)(hl:a+c≤L.length):part L a c=J ad.str L a :: part L (a+1) (c-1):=by
 unfold part
 rw [c7 (by omega),List.drop_eq_getElem_cons (by omega:a<L.length)]
 obtain ⟨c,rfl⟩:∃k,c=k+1:=⟨c-1,by omega⟩
 rw [List.take_succ_cons];rfl
theorem OA{L:List aF}{a:Nat} : part L a 0=[]:=by unfold part;rfl
theorem akw{L:List aF}{a c:Nat}(hl:a+c≤L.length):(part L a c).isEmpty=(((c:Nat):Int)==0):=by
 have h:(part L a c).length=c:=by unfold part;rw [List.length_take,List.length_drop];omega
 cases c with
 | zero=>rw [OA];rfl
 | succ c =>
  rw [b4 (by omega)]
  cases au:part L a (c+1) with
  | nil=>rw [au] at h;simp at h
  | cons x y=>rfl
theorem akx(v:af.D)(c:aI.D)(hw:n0 v.2.1)(hc:dd c=true)(bl:Bool)(z:aV.D):∀(n:Nat) (at_:Int) (k:Nat) (L:List aF) (a bP:Nat),(8-k)*100+bP≤n→k≤8→a+bP≤L.length→bP≤100→(∀p,p∈part L a bP→sO p)→kL v.2.1 at_ →
  bV (fun m=>(df m).bb bl a bP at_ (k:Int) v c z L) (5*n+5) (some (kK v.2.1 c bl n at_ k (part L a bP),())):=by
 intro n
 induction n with
 | zero =>
  intro at_ k L a bP hn hk hl Nv au ck
  have h0:bP=0:=by omega
  subst h0
  rw [OA]
  refine(bV.now 1 fun m=>?_).mono (by omega)
  rw [jc];unfold ib;simp only [kK];rfl
 | succ n ih =>
  intro at_ k L a bP hn hk hl Nv au ck
  rcases Nat.eq_zero_or_pos bP with h0 | h0
  ·subst h0
   rw [OA]
   refine(bV.now 1 fun m=>?_).mono (by omega)
   rw [jc];unfold ib;simp only [kK];rfl
  obtain ⟨d,ag,fc⟩:=ck
  have hdl:=bZ ag
  have gZ:(ak (J I v.2.1 d)).length≤1048576:=Nat.le_trans (fO hdl.1) hw.cG
  have mv:=au _ (V1 h0 hl)
  have e9:∀p,p∈part L (a+1) (bP-1)→sO p:=fun p h=>au p (V2 p h)
  have eZ:aO bP 0=some 0:=bC (i:=0) h0
  have fS:d' bP 1 (bP:Int)=some (1,bP):=kp (lo:=1) h0 (Nat.le_refl _)
  have eV:decide ((bP:Int)>0)=true:=decide_eq_true (by omega)
  have kd:=mV c (J I v.2.1 d) 1 hc
  have Nw:=Nn v at_ hw.len hw.cG
  have ke:jM (v,at_,())=some ((d:Int),()):=by rw [l2 v at_ hw.len,ag];rfl
  have kf:aO v.2.1.length (d:Int)=some d:=bC hdl.1
  have ra:=VK v at_ (J ad.str L a) hw.len ag gZ
  have XL:=x7 ag
  have p9:=akw (L:=L) (a:=a+1) (c:=bP-1) (by omega)
  rw [akv h0 hl]
  have aky:l6 v.2.1 at_ (J ad.str L a)=cJ (ak (J I v.2.1 d)) (J ad.str L a):=by unfold l6;rw [XL]
  simp only [kK]
  rw [aky,XL,p9]
  cases hm:may c (J I v.2.1 d) 1 with
  | false =>
   refine(bV.now 1 fun m=>?_).mono (by omega)
   rw [jc];unfold ib
   simp only [eV,eZ,fS,ke,kf,kd,hm,cond_true,cond_false,av,Bool.not_true,Bool.not_false]
   rfl
  | true =>
  simp only [Bool.not_true,cond_false]
  cases h1:bs (J ad.str L a) [46] with
  | true =>
   refine((ih at_ k L (a+1) (bP-1) (by omega) hk (by omega) (by omega) e9 ⟨d,ag,fc⟩).jump (f:=fun m=>(df m).bb bl a bP at_ (k:Int) v c z L) 1 fun m=>?_).mono (by omega)
   rw [jc];unfold ib
   simp only [eV,eZ,fS,ke,kf,kd,hm,h1,cond_true,cond_false,av,Bool.not_true,Bool.not_false,Nat.add_zero]
  | false =>
  simp only [cond_false]
  cases h2:bs (J ad.str L a) [46,46] with
  | true =>
   refine((ih (jw v.2.1 at_) k L (a+1) (bP-1) (by omega) hk (by omega) (by omega) e9 (At hw _)).jump (f:=fun m=>(df m).bb bl a bP at_ (k:Int) v c z L) 1 fun m=>?_).mono (by omega)
   rw [jc];unfold ib
   simp only [eV,eZ,fS,ke,kf,kd,hm,h1,h2,Nw,cond_true,cond_false,av,Bool.not_true,Bool.not_false,Nat.add_zero]
  | false =>
  simp only [cond_false]
  cases cV:decide (((J ad.str L a).length:Int)>8) with
  | true =>
   refine(bV.now 1 fun m=>?_).mono (by omega)
   rw [jc];unfold ib
   simp only [eV,eZ,fS,ke,kf,kd,hm,h1,h2,cV,cond_true,cond_false,av,Bool.not_true,Bool.not_false,Nat.add_zero]
   rfl
  | false =>
  simp only [cond_false]
  cases gD:cJ (ak (J I v.2.1 d)) (J ad.str L a)==0 with
  | true =>
   refine(bV.now 1 fun m=>?_).mono (by omega)
   rw [jc];unfold ib
   simp only [eV,eZ,fS,ke,kf,kd,hm,h1,h2,cV,ra,gD,cond_true,cond_false,av,Bool.not_true,Bool.not_false,Nat.add_zero]
   cases ((bP-1:Nat):Int)==0 <;> rfl
  | false =>
  simp only [cond_false]
  obtain ⟨e,he,Nx,oz⟩:=pZ (N:=ak (J I v.2.1 d)) (s:=J ad.str L a) (by simpa using gD)
  obtain ⟨i2,e'⟩:=Option.isSome_iff_exists.1 (hw.gN d hdl.1 e he)
  rw [oz] at e'
  have p0:=bZ e'
  have xL:jM (v,cJ (ak (J I v.2.1 d)) (J ad.str L a),())=some ((i2:Int),()):=by rw [l2 v _ hw.len,e'];rfl
  have xM:aO v.2.1.length (i2:Int)=some i2:=bC p0.1
  rw [x7 e']
  have nu:∀m,(df (m+1)).bb bl a bP at_ (k:Int) v c z L=(df m).J2 bl (a+1) (bP-1) at_ (k:Int) (J ad.str L a) (((bP-1:Nat):Int)==0) (cJ (ak (J I v.2.1 d)) (J ad.str L a)) v c z L (J I v.2.1 i2):=by
   intro m
   rw [jc];unfold ib
   simp only [eV,eZ,fS,ke,kf,kd,hm,h1,h2,cV,ra,gD,jo,xL,xM,cond_true,cond_false,av,Bool.not_true,Bool.not_false,Nat.add_zero]
  cases qb:kindOf (J I v.2.1 i2)==3&&(!(((bP-1:Nat):Int)==0)||bl) with
  | true =>
   simp only [cond_true]
   rw [Bool.and_eq_true] at qb
   obtain ⟨il,jS⟩:=qb
   have Av:=hw.l3 i2 p0.1 (beq_iff_eq.1 il)
   have p1:=Au Av
   have sR:aO ((J I v.2.1 i2).2.2.2.2.2.1).length 0=some 0:=bC (i:=0) p1.1
   have Gt:w5 ((J I v.2.1 i2).2.2.2.2.2.1,())=some (cut (bA (J I v.2.1 i2)),()):=Gl _ (Nat.le_trans p1.2 (by omega))
   have hcl:=Gm (bA (J I v.2.1 i2))
   have fJ:(part L (a+1) (bP-1)).length≤100:=by unfold part;rw [List.length_take];omega
   have hroom:room ((cut (bA (J I v.2.1 i2))).length +(part L (a+1) (bP-1)).length)=true:=cH (by omega)
   have h8:=Gn Av
   generalize p2:cut (bA (J I v.2.1 i2))++part L (a+1) (bP-1)=fy at *
   have Ny:∀p,p∈fy→sO p:=by
    intro p kt
    rw [← p2] at kt
    rcases List.mem_append.1 kt with h | h
    ·exact h8 p h
    ·exact e9 p h
   have cf:aK ((k:Int)+1)=((k+1:Nat):Int):=dg k (by omega)
   have m1:∀m,(df (m+4)).bb bl a bP at_ (k:Int) v c z L=cond (decide (((k+1:Nat):Int)>8)) (some (o8 40,()))
      (cond (decide ((fy.length:Int)>40)) (some (o8 36,())) ((df m).bb bl 0 fy.length (cond (nb (bA (J I v.2.1 i2)) 0==47) 1 at_) ((k+1:Nat):Int) v c z fy)):=by
    intro m
    rw [nu,xJ];unfold r8
    have:(cond (!(((bP-1:Nat):Int)==0)) ((df (m+2)).iF bl (a+1) (bP-1) at_ (k:Int) v c z L (J I v.2.1 i2)) (cond bl ((df (m+2)).iF bl (a+1) (bP-1) at_ (k:Int) v c z L (J I v.2.1 i2)) ((df (m+2)).uq bl (a+1) (bP-1) at_ (k:Int) (J ad.str L a) (((bP-1:Nat):Int)==0) (cJ (ak (J I v.2.1 d)) (J ad.str L a)) v c z L (J I v.2.1 i2))))=(df (m+2)).iF bl (a+1) (bP-1) at_ (k:Int) v c z L (J I v.2.1 i2):=by
     revert jS
     cases ((bP-1:Nat):Int)==0 <;> cases bl <;> intro jS <;> first | rfl | cases jS
    rw [show((J I v.2.1 i2).2.1==3)=true from il]
    simp only [cond_true]
    refine this.trans ?_
    rw [Ns];unfold ze
    rw [sR,cf]
    simp only [av]
    show cond (decide (((k+1:Nat):Int)>8)) _ (cond (nb (bA (J I v.2.1 i2)) 0==47) _ _)=_
    have XM:∀at',(df (m+1)).oJ bl (a+1) (bP-1) at' ((k+1:Nat):Int) v c z L (J I v.2.1 i2)=cond (decide ((fy.length:Int)>40)) (some (o8 36,())) ((df m).bb bl 0 fy.length at' ((k+1:Nat):Int) v c z fy):=by
     intro at'
     rw [Nu];unfold zg
     rw [Gt]
     simp only [av,hroom,cond_true,p2]
     rfl
    rw [XM,XM]
    cases nb (bA (J I v.2.1 i2)) 0==47 <;> rfl
   have Nz:kL v.2.1 (cond (nb (bA (J I v.2.1 i2)) 0==47) 1 at_):=by
    cases nb (bA (J I v.2.1 i2)) 0==47
    ·exact⟨d,ag,fc⟩
    ·exact hw.root
   by_cases sS:8≤k
   ·rw [show Nat.ble 8 k=true from Nat.ble_eq_true_of_le sS]
    refine(bV.now 4 fun m=>?_).mono (by omega)
    rw [m1,decide_eq_true (show((k+1:Nat):Int)>8 by omega)];rfl
   ·rw [show Nat.ble 8 k=false from Bool.eq_false_iff.2 fun h=>sS (Nat.le_of_ble_eq_true h)]
    simp only [cond_false]
    have XN:decide (((k+1:Nat):Int)>8)=false:=decide_eq_false (by omega)
    by_cases vo:40<fy.length
    ·rw [show Nat.blt 40 fy.length=true from Nat.ble_eq_true_of_le vo]
     refine(bV.now 4 fun m=>?_).mono (by omega)
     rw [m1,XN,decide_eq_true (show(fy.length:Int)>40 by omega)];rfl
    ·rw [show Nat.blt 40 fy.length=false from Bool.eq_false_iff.2 fun h=>vo (Nat.le_of_ble_eq_true h)]
     have:=ih (cond (nb (bA (J I v.2.1 i2)) 0==47) 1 at_) (k+1) fy 0 fy.length (by omega) (by omega) (by omega) (by omega) (by rw [xB];exact Ny) Nz
     rw [xB] at this
     refine(this.jump (f:=fun m=>(df m).bb bl a bP at_ (k:Int) v c z L) 4 fun m=>?_).mono (by omega)
     rw [m1,XN,decide_eq_false (show ¬(fy.length:Int)>40 by omega)];rfl
  | false =>
   simp only [cond_false]
   have g2:∀m,(df (m+3)).bb bl a bP at_ (k:Int) v c z L=cond (((bP-1:Nat):Int)==0) (some ((at_,J ad.str L a,cJ (ak (J I v.2.1 d)) (J ad.str L a),(0:Int),()),()))
     (cond (kindOf (J I v.2.1 i2) != 2) (some (o8 20,())) ((df m).bb bl (a+1) (bP-1) (cJ (ak (J I v.2.1 d)) (J ad.str L a)) (k:Int) v c z L)):=by
    intro m
    have G':(df (m+1)).uq bl (a+1) (bP-1) at_ (k:Int) (J ad.str L a) (((bP-1:Nat):Int)==0) (cJ (ak (J I v.2.1 d)) (J ad.str L a)) v c z L (J I v.2.1 i2)=cond (((bP-1:Nat):Int)==0) (some ((at_,J ad.str L a,cJ (ak (J I v.2.1 d)) (J ad.str L a),(0:Int),()),()))
     (cond (kindOf (J I v.2.1 i2) != 2) (some (o8 20,())) ((df m).bb bl (a+1) (bP-1) (cJ (ak (J I v.2.1 d)) (J ad.str L a)) (k:Int) v c z L)):=by
     rw [Nt];unfold zf;rfl
    rw [nu,xJ];unfold r8
    rw [G']
    show cond (kindOf (J I v.2.1 i2)==3) _ _=_
    revert qb
    cases kindOf (J I v.2.1 i2)==3 <;> cases ((bP-1:Nat):Int)==0 <;> cases bl <;> intro qb <;> first | rfl | cases qb
   cases gu:((bP-1:Nat):Int)==0 with
   | true =>
    refine(bV.now 3 fun m=>?_).mono (by omega)
    rw [g2,gu];rfl
   | false =>
    simp only [cond_false]
    by_cases hk2:kindOf (J I v.2.1 i2)=2
    ·rw [dq hk2]
     refine((ih (cJ (ak (J I v.2.1 d)) (J ad.str L a)) k L (a+1) (bP-1) (by omega) hk (by omega) (by omega) e9 ⟨i2,e',hk2⟩).jump (f:=fun m=>(df m).bb bl a bP at_ (k:Int) v c z L) 3 fun m=>?_).mono (by omega)
     rw [g2,gu,dq hk2];rfl
    ·rw [cI hk2]
     refine(bV.now 3 fun m=>?_).mono (by omega)
     rw [g2,gu,cI hk2];rfl
def wp(l:List aJ)(c:aI.D)(bl:Bool)(p:aF):aV.D:=kK l c bl 900 1 0 (cut p)
theorem XO(v:af.D)(c:aI.D)(p:aF)(bl:Bool)(hw:n0 v.2.1)(hc:dd c=true)(au:mW p=true):dX (v,c,p,bl,())=some (wp v.2.1 c bl p,()):=by
 have kt:=au
 unfold mW at au
 rw [Bool.and_eq_true] at au
 have p1:=Au au.1
 have hcl:=Gm p
 have h:=akx v c hw hc bl ((0:Int),([]:aF),(0:Int),(0:Int),()) 900 1 0 (cut p) 0 (cut p).length (by omega) (by omega) (by omega) (by omega) (by rw [xB];exact Gn au.1) hw.root
 rw [xB] at h
 show oN v c p bl=_
 unfold oN
 rw [sN,kt]
 simp only [av,Bool.not_true,cond_false]
 show Option.bind (w6 (df aQ) v c p bl) _=_
 unfold w6
 rw [Gl p (by omega)]
 simp only [av]
 have:=kI h (by omega)
 rw [show(df aQ).bb bl 0 (cut p).length 1 0 v c ((0:Int),([]:aF),(0:Int),(0:Int),()) (cut p)=some (kK v.2.1 c bl 900 1 0 (cut p),()) from this]
 rfl
def cS:aI.D:=(0,0,([]:List Int),())
theorem vB:hd ()=some (cS,()):=rfl
theorem o9:dd cS=true:=by kernel_rfl
section
variable(v w:af.D)(a b:aV.D)
end
theorem akz(v:af.D)(c:aI.D)(x:aH.D)(hv:bz v)(hc:dd c=true):ka (v,c,x,())=(k7 (v,c,x,())).bind fun r=>some (r.1,r.2.1,()):=by
 show z1 v c x=_
 unfold z1
 rw [Nf v hv.vb,ll.2 hv,Ap,hc,hv.GY]
 simp only [av,Bool.not_true,cond_false,jo,oH]
theorem OB{v:af.D}{c:aI.D}{x:aH.D}(hv:bz v)(hc:dd c=true){w w':af.D}{k k':Int}{t dm:aF}(h:ka (v,c,x,())=some (w,(k,t,()),()))(h':k7 (v,c,x,())=some (w',(k',dm,()),())):w=w'∧k=k'∧t=dm:=by
 rw [akz v c x hv hc,h'] at h
 have:=aS h
 simp only [Prod.mk.injEq] at this
 exact⟨this.1.symm,this.2.1.1.symm,this.2.1.2.1.symm⟩
theorem akA{v:af.D}{c:aI.D}{p:aF}{r:aV.D}(au:mW p=true)(h:dX (v,c,p,false,())=some (r,()))(h0:bG r=0):qI (v,c,p,())=some (r,17,()):=by
 rw [show dX (v,c,p,false,())=oN v c p false from rfl] at h
 unfold oN at h
 rw [sN,au] at h
 simp only [av,Bool.not_true,cond_false] at h
 show ur v c p=_
 unfold ur
 rw [sN,au]
 simp only [av,Bool.not_true,cond_false]
 obtain ⟨⟨ed,⟨⟩⟩,h1,h2⟩:=bf h
 rw [h1]
 have e:ed=r:=congrArg Prod.fst (aS h2)
 subst e
 simp only [av]
 show cond (bG ed==0) _ _=_
 rw [cF h0];rfl
theorem akB(v:af.D)(c:aI.D)(x:aH.D){r:aV.D}(hk:az x=1∨az x=3)(hn:c2 (bO x) 0 2047=true)(au:mW (ew x)=true)(h:dX (v,c,ew x,false,())=some (r,()))(h0:bG r=0) :
  r' (v,c,x,())=some (v,(17,[],()),()):=by
 obtain ⟨q,hq,_⟩:=iI 1
 show w7 (iH aQ) v c x=_
 unfold w7
 show cond (az x==10) _ (cond (az x != 10) (Option.bind (eg (bO x,0,2047,())) fun v3=>cond (!v3.1) _ ((iH aQ).k3 v c x (0,([]:List I.D),()) (0,([]:aF),()))) _)=_
 rw [b4 (show az x≠10 by omega),cI (show az x≠10 by omega)]
 simp only [cond_false,cond_true]
 rw [jr (bO x),hn]
 simp only [av,Bool.not_true,cond_false]
 rw [hq]
 show zo (iH q) v c x _ _=_
 unfold zo
 show Option.bind (qI (v,c,ew x,())) _=_
 rw [akA au h h0]
 rfl
theorem akC{n:aJ}(h:kindOf n=2):may cS n 3=true:=by
 unfold may
 rw [h];rfl
theorem akD(n:aJ):may cS n 4=true:=by
 unfold may
 rfl
theorem XP{n:aJ}(h:kindOf n=2):may cS n 1=true:=by
 unfold may
 rw [h];rfl
theorem akE(d n:aJ):nZ cS d n=true:=by
 unfold nZ
 rw [show(cS.1==0)=true from rfl];simp
theorem akF{v:af.D}(hv:bz v)(x:aH.D){r:aV.D}{d j:Nat}(hk:az x=2∨az x=8)(h:dX (v,cS,ew x,false,())=some (r,()))(h0:bG r=0)(hn:nameOf r≠[])(ag:ba v.2.1 (cc r)=some d)(fc:kindOf (J I v.2.1 d)=2)
  (hj:ba v.2.1 (bn r)=some j) (nf:ak (J I v.2.1 j)=[]) (h2:az x=2→kindOf (J I v.2.1 j)=2) (cV:az x=8→kindOf (J I v.2.1 j)≠2):w_ (v,cS,x,())=some (iL v d (nameOf r),(0,[],()),()):=by
 have cf:=hv.hy
 have hl:v.2.1.length≤1048576:=cf.len
 obtain ⟨q,hq,_⟩:=iI 3
 have hdl:=bZ ag
 show w9 (k6 aQ) v cS x=_
 unfold w9
 show Option.bind (dX (v,cS,ew x,false,())) _=_
 rw [h]
 simp only [av]
 show cond (bG r != 0) _ (Option.bind (eW (v,bn r,())) fun v2=>cond (az x==2) (cond (bs (nameOf r) []) _ ((k6 aQ).c5 v cS x _ _ r v2.1)) ((k6 aQ).c5 v cS x _ _ r v2.1))=_
 rw [dq h0,ik v _ hl hj]
 have hne:bs (nameOf r) []=false:=by rw [← Bool.not_eq_true,m2];exact hn
 rw [hne]
 simp only [cond_false,av]
 have bH:(k6 aQ).c5 v cS x (0,([]:List I.D),()) (0,([]:aF),()) r (J I v.2.1 j)=some (iL v d (nameOf r),(0,[],()),()):=by
  rw [hq,Wl]
  unfold Dq
  have iV:(k6 (q+2)).fB v cS x (0,([]:List I.D),()) (0,([]:aF),()) r (J I v.2.1 j)=some (iL v d (nameOf r),(0,[],()),()):=by
   rw [Wm]
   unfold Dr
   have tF:(k6 (q+1)).db v cS (0,([]:List I.D),()) (0,([]:aF),()) r (J I v.2.1 j)=some (iL v d (nameOf r),(0,[],()),()):=by
    rw [Wn]
    unfold Ds
    show Option.bind (eW (v,cc r,())) _=_
    rw [ik v _ hl ag]
    simp only [av]
    rw [mV cS _ 3 o9,akC fc]
    simp only [av,Bool.not_true,cond_false]
    rw [Gf cS _ _ o9,akE]
    simp only [av,Bool.not_true,cond_false]
    show cond (decide (((ak (J I v.2.1 j)).length:Int)>0)) _ _=_
    rw [nf,show decide ((([]:List ax.D).length:Int)>0)=false from rfl]
    simp only [cond_false]
    rw [hv.GY]
    simp only [av]
    show Option.bind (nF (v,cc r,nameOf r,())) _=_
    rw [GG v _ _ hl cf.cG ag (hv.ino d hdl.1).sorted]
    rfl
   show cond (az x==8) (cond (kindOf (J I v.2.1 j)==2) _ _) _=_
   rw [tF]
   by_cases sS:az x=8
   ·rw [cF sS,b4 (cV sS)];rfl
   ·rw [b4 sS];rfl
  show cond (az x==2) (cond (kindOf (J I v.2.1 j) != 2) _ _) _=_
  rw [iV]
  by_cases hk2:az x=2
  ·rw [cF hk2,dq (h2 hk2)];rfl
  ·rw [b4 hk2];rfl
 rw [bH]
 cases az x==2 <;> rfl
theorem akG{v:af.D}(hv:bz v)(x:aH.D){r:aV.D}{i:Nat}(hk:az x=4)(h:dX (v,cS,ew x,true,())=some (r,()))(h0:bG r=0)(hi:ba v.2.1 (bn r)=some i)(gL:kindOf (J I v.2.1 i)≠2)
  {a b:Nat} (ha:(a:Int)=bO x) (hb:(b:Int)=dR x) (tJ:a≤1000000) (hb2:b≤1000000):kE (v,cS,x,())=some ((0,((bA (J I v.2.1 i)).drop a).take b,()),()):=by
 have cf:=hv.hy
 obtain ⟨q,hq,b1⟩:=xS v cS x (by omega) (by unfold m4;rw [b4 (show az x≠14 by omega),b4 (show az x≠17 by omega)];rfl) cf r (by
  rw [show lr x=true by unfold lr;rw [cI (show az x≠11 by omega),cI (show az x≠14 by omega)];rfl];exact h)
 rw [b1,vy]
 unfold qQ
 show cond (bG r != 0) _ (Option.bind (eW (v,bn r,())) _)=_
 rw [dq h0,ik v _ cf.len hi]
 simp only [cond_false,av]
 show cond (az x==4) (cond (kindOf (J I v.2.1 i)==2) _ (Option.bind (jL (cS,J I v.2.1 i,4,())) fun v2=>cond (!v2.1) _ (cond (decide (bO x<0)) _ (cond (decide (dR x<0)) _ ((fs q).nJ (bO x) x qa (J I v.2.1 i) []))))) _=_
 rw [cF hk,mV cS _ 4 o9,akD,b4 gL]
 simp only [cond_true,cond_false,av,Bool.not_true]
 rw [decide_eq_false (show ¬bO x<0 by omega),decide_eq_false (show ¬dR x<0 by omega)]
 simp only [cond_false]
 rw [← ha,W5 _ x a ha tJ b hb hb2 (hv.fF (bZ hi).1) qa q (by omega)]
theorem bz.A8{v:af.D}(h:bz v):ba v.2.1 1=some 0:=by
 have h0:0<v.2.1.length:=by have:=h.len.1;omega
 have:=h.fR 0 h0
 rwa [show(J I v.2.1 0).1=1 from h.root.1] at this
structure vC(p s:aF):Prop where
 cut:cut p=[s]
 dot:bs s [46]=false
 XQ:bs s [46,46]=false
 len:s.length≤8
 ok:mW p=true
 ne:s≠[]
theorem XR{v:af.D}(h:bz v){p s:aF}(ht:vC p s)(bl:Bool)(hl:cJ (ak (J I v.2.1 0)) s=0):wp v.2.1 cS bl p=(1,s,(0:Int),(2:Int),()):=by
 unfold wp
 rw [ht.cut]
 have hr:jP v.2.1 1=J I v.2.1 0:=x7 h.A8
 have qb:l6 v.2.1 1 s=0:=by unfold l6;rw [hr];exact hl
 show kK v.2.1 cS bl (899+1) 1 0 [s]=_
 simp only [kK]
 rw [qb,hr,XP h.root.2,ht.dot,ht.XQ,decide_eq_false (show ¬((s.length:Int)>8) by have:=ht.len;omega)]
 rfl
theorem A9{v:af.D}(h:bz v){p s:aF}(ht:vC p s)(bl:Bool){id:Int}(hl:cJ (ak (J I v.2.1 0)) s=id)(h0:id≠0)(hk:bl=true→kindOf (jP v.2.1 id)≠3):wp v.2.1 cS bl p=(1,s,id,(0:Int),()):=by
 unfold wp
 rw [ht.cut]
 have hr:jP v.2.1 1=J I v.2.1 0:=x7 h.A8
 have qb:l6 v.2.1 1 s=id:=by unfold l6;rw [hr];exact hl
 show kK v.2.1 cS bl (899+1) 1 0 [s]=_
 simp only [kK]
 rw [qb,hr,XP h.root.2,ht.dot,ht.XQ,decide_eq_false (show ¬((s.length:Int)>8) by have:=ht.len;omega),b4 h0]
 simp only [Bool.not_true,cond_false,List.isEmpty_nil,Bool.not_true,Bool.false_or,cond_true]
 cases bl with
 | false=>rw [Bool.and_false];rfl
 | true=>rw [b4 (hk rfl)];rfl
theorem Ha{v:af.D}(h:bz v){p s:aF}(ht:vC p s)(bl:Bool){r:aV.D}(hw:dX (v,cS,p,bl,())=some (r,())):wp v.2.1 cS bl p=r:=by
 rw [XO v cS p bl h.hy o9 ht.ok] at hw
 exact congrArg Prod.fst (aS hw)
theorem s7:vC [47,122,122] [122,122]:=⟨by kernel_rfl,by kernel_rfl,by kernel_rfl,by decide,by kernel_rfl,by decide⟩
theorem x8:vC [47,122,121] [122,121]:=⟨by kernel_rfl,by kernel_rfl,by kernel_rfl,by decide,by kernel_rfl,by decide⟩
abbrev jA:aF:=[122,122]
abbrev s8:aF:=[122,121]
def rk:aH.D:=(3,([47,122,122]:List UInt8),([]:List UInt8),420,0,([]:List UInt8),())
def A_:aH.D:=(9,([47,122,122]:List UInt8),([47,122,121]:List UInt8),0,0,([]:List UInt8),())
def A':aH.D:=(6,([47,122,121]:List UInt8),([]:List UInt8),0,0,([113]:List UInt8),())
def s9(p:aF)(a b:Int):aH.D:=(4,p,([]:List UInt8),a,b,([]:List UInt8),())
def Hb:aH.D:=(8,([47,122,122]:List UInt8),([]:List UInt8),0,0,([]:List UInt8),())
theorem XS{v:af.D}(h:bz v){p s:aF}(ht:vC p s)(bl:Bool){id:Int}(hl:cJ (ak (J I v.2.1 0)) s=id)(h0:id≠0){j:Nat}(hj:ba v.2.1 id=some j)(hk:bl=true→kindOf (J I v.2.1 j)≠3) :
  dX (v,cS,p,bl,())=some (((1:Int),s,id,(0:Int),()),()):=by
 rw [XO v cS p bl h.hy o9 ht.ok,A9 h ht bl hl h0 (by rw [x7 hj];exact hk)]
theorem XT{v:af.D}(h:bz v){p s:aF}(ht:vC p s){id:Int}(hl:cJ (ak (J I v.2.1 0)) s=id)(h0:id≠0){j:Nat}(hj:ba v.2.1 id=some j)(hk:kindOf (J I v.2.1 j)=1){a b:Nat}(hx:kH (s9 p a b)=true)(ha:a≤1000000)(hb:b≤1000000)
  {w:af.D} {k:Int} {t:aF} (hr:ka (v,cS,s9 p a b,())=some (w,(k,t,()),())):w=v∧k=0∧t=((bA (J I v.2.1 j)).drop a).take b:=by
 refine OB h o9 hr ?_
 rw [GX v cS _ (rf.1 hx) (show az (s9 p a b)≤20 by show(4:Int)≤20;omega)]
 have eR:az (s9 p a b)=4:=rfl
 unfold xU
 rw [if_neg (by rw [eR];omega),if_neg (by rw [eR];omega),if_neg (by rw [eR];omega),if_neg (by rw [eR];omega),if_neg (by rw [eR];omega),if_neg (by rw [eR];omega)]
 rw [akG h _ (r:=((1:Int),s,id,(0:Int),())) eR (XS h ht true hl h0 hj (fun _=>by rw [hk];decide)) rfl hj (by rw [hk];decide) (a:=a) (b:=b) rfl rfl ha hb]
 rfl
theorem bz.fresh{v:af.D}(h:bz v):ba v.2.1 (cw v)=none:=by
 cases hi:ba v.2.1 (cw v) with
 | none=>rfl
 | some i =>
  have h1:=bZ hi
  have h2:=h.ids i h1.1
  have h3:aY (J I v.2.1 i)=cw v:=h1.2
  omega
theorem akH{l:List aJ}{n:aJ} : J I (l++[n]) l.length=n:=by rw [c7 (by simp)];simp
theorem x9{v:af.D}(h:bz v){s:aF}{id:Int}(hm:(s,id,())∈ak (J I v.2.1 0)):cJ (ak (J I v.2.1 0)) s=id :=
 AM (h.ino 0 (by have:=h.len.1;omega)).sorted hm
theorem Hc{v:af.D}(h:bz v){j:Nat}(hj:j<v.2.1.length){id:Int}(b7:aY (J I v.2.1 j)=id):ba v.2.1 id=some j:=by
 have:=h.fR j hj
 rw [← b7];exact this
section
variable{v c6 bL dJ lv:af.D}
structure akI(v c6:af.D)(n:aJ):Prop where
 next:c6.1=v.1+1
 eq:c6.2.1=v.2.1.set 0 (bX (J I v.2.1 0) (ins (ak (J I v.2.1 0)) jA (cw v)))++[n]
 id:aY n=cw v
 kind:kindOf n=1
 data:bA n=[]
 cG:ak n=[]
theorem akJ(hv:bz v)(mB:Made v cS rk c6):∃n,akI v c6 n:=by
 obtain ⟨r,i,hr,hc,hn,hi,hk,hm,hl,Qc,GI,hw,hf,AH⟩:=mB.out
 have fI:wp v.2.1 cS false [47,122,122]=r:=Ha hv s7 false AH
 have gD:cJ (ak (J I v.2.1 0)) jA=0:=by
  by_cases h0:cJ (ak (J I v.2.1 0)) jA=0
  ·exact h0
  ·rw [A9 hv s7 false rfl h0 (fun h=>by cases h)] at fI
   rw [← fI] at hc
   cases hc
 rw [XR hv s7 false gD] at fI
 subst fI
 have hi0:i=0:=by
  have:ba v.2.1 1=some i:=hi
  rw [hv.A8] at this
  exact(aS this).symm
 subst hi0
 refine⟨gw v cS rk (J I v.2.1 0),?_,?_,rfl,rfl,rfl,rfl⟩
 ·rw [hw]
 ·rw [hw];rfl
end
theorem XU(v:af.D)(hv:bz v)(y z)(q:Nat):∃c6 bx,ka (v,cS,rk,())=some (c6,bx,())∧(oX (q+7)).c5 c6 y z bx=some (true,()):=by
 have cd:=ll.2 hv
 obtain ⟨c6,k1,t1,hs1,_,hr1⟩:=xV v cS rk hv.vb
 refine⟨c6,(k1,t1,()),hs1,?_⟩
 have CB:=hr1.ok cd
 have hw1:=ll.1 CB
 obtain ⟨bL,k2,t2,mj,e',fX⟩:=xV c6 cS A_ hw1.vb
 have Hd:=fX.ok CB
 have hw2:=ll.1 Hd
 show LZ (oX (q+6)) c6 y z (k1,t1,())=_
 unfold LZ
 rw [vB]
 simp only [av,jo,oH]
 show Option.bind (gp (c6,cS,A_,())) _=_
 rw [e']
 simp only [av]
 show L0 (oX (q+5)) c6 y z (k1,t1,()) bL (k2,t2,())=_
 unfold L0
 rw [vB]
 simp only [av,jo,oH]
 show Option.bind (ka (c6,cS,A_,())) _=_
 rw [mj]
 simp only [av]
 show L1 (oX (q+4)) c6 y z (k1,t1,()) bL (k2,t2,()) (k2,t2,())=_
 unfold L1
 simp only [RH,beq_self_eq_true,Bool.and_self,Bool.not_true,cond_false]
 by_cases h2:k2=0
 case neg =>
  rw [cI h2]
  cases k1 != 0 <;> rfl
 rw [dq h2]
 have wV:AL c6 cS A_ bL:=by
  have eR:az A_=9:=rfl
  rcases fX.done CB o9 (by kernel_rfl) (by rw [eR];omega) h2 with⟨ag,_⟩ | ⟨ag,_⟩ | ⟨_,ag⟩ | ⟨ag,_⟩ | ⟨ag,_⟩ | ⟨ag,_⟩ | ⟨ag,_⟩ | ⟨ag,_⟩ | ⟨ag,_⟩
  case inr.inr.inl=>exact ag
  all_goals (exfalso;rw [eR] at ag;omega)
 obtain ⟨r,t,i,j,hr,Of,hj,pX,ht,n8,htn,hi,gL,alW,akK,hf2,XV,akL⟩:=wV.out
 by_cases h1:k1=0
 case neg =>
  rw [cI h1]
  have e:=hr1.no cd h1
  subst e
  have eR:az rk=3:=rfl
  have akM:k7 (c6,cS,rk,())=some (c6,(17,[],()),()):=by
   rw [GX c6 cS _ (rf.1 (by kernel_rfl)) (by rw [eR];omega)]
   unfold xU
   rw [if_pos (by rw [eR];omega),akB c6 cS rk (r:=r) (by rw [eR];omega) (by kernel_rfl) s7.ok XV Of]
   rfl
  obtain ⟨_,N8,_⟩:=OB hv o9 hs1 akM
  subst N8
  rfl
 rw [dq h1]
 simp only [cond_false]
 have mB:Made v cS rk c6:=by
  have eR:az rk=3:=rfl
  rcases hr1.done cd o9 (by kernel_rfl) (by rw [eR];omega) h1 with⟨_,ag⟩ | ⟨ag,_⟩ | ⟨ag,_⟩ | ⟨ag,_⟩ | ⟨ag,_⟩ | ⟨ag,_⟩ | ⟨ag,_⟩ | ⟨ag,_⟩ | ⟨ag,_⟩
  case inl=>exact ag
  all_goals (exfalso;rw [eR] at ag;omega)
 obtain ⟨km,hz⟩:=akJ hv mB
 have yv:0<v.2.1.length:=by have:=hv.len.1;omega
 have kg:cw v≠0:=by have:=hv.next.1;omega
 obtain ⟨f_,akN⟩:∃f_,f_=v.2.1.length:=⟨_,rfl⟩
 have OC:0≠f_:=by omega
 have mS:(v.2.1.set 0 (bX (J I v.2.1 0) (ins (ak (J I v.2.1 0)) jA (cw v)))).length=f_:=by rw [List.length_set,akN]
 have akO:c6.2.1.length=f_+1:=by rw [hz.eq,List.length_append,mS];rfl
 have g10:J I c6.2.1 0=bX (J I v.2.1 0) (ins (ak (J I v.2.1 0)) jA (cw v)):=by
  rw [hz.eq,GB (by omega),gv yv,if_pos rfl]
 have XW:J I c6.2.1 f_=km:=by rw [hz.eq,← mS];exact akH
 have XX:((jA,cw v,()):ax.D)∈ak (J I c6.2.1 0):=by rw [g10,hp];exact n4.2 (.inr rfl)
 have a1:ba c6.2.1 (cw v)=some f_:=Hc hw1 (by omega) (by rw [XW];exact hz.id)
 have fp:ca c6.2.1 (cw v)=1:=by
  rw [hz.eq,Xb,hz.cG]
  have h3:=s5 (y:=bX (J I v.2.1 0) (ins (ak (J I v.2.1 0)) jA (cw v))) yv (cw v)
  rw [hp,Ob,Xe hv.gN hv.fresh,cF rfl] at h3
  have:dr ([]:List ax.D) (cw v)=0:=rfl
  simp only [cond_true] at h3
  omega
 have fI:wp c6.2.1 cS false [47,122,122]=r:=Ha hw1 s7 false XV
 rw [A9 hw1 s7 false (x9 hw1 XX) kg (fun h=>by cases h)] at fI
 subst fI
 have sL:wp c6.2.1 cS false [47,122,121]=t:=Ha hw1 x8 false akL
 have dF:cJ (ak (J I c6.2.1 0)) s8=0:=by
  by_cases h0:cJ (ak (J I c6.2.1 0)) s8=0
  ·exact h0
  ·rw [A9 hw1 x8 false rfl h0 (fun h=>by cases h)] at sL
   rw [← sL] at n8
   cases n8
 rw [XR hw1 x8 false dF] at sL
 subst sL
 have hi0:i=0:=by
  have:ba c6.2.1 1=some i:=hi
  rw [hw1.A8] at this
  exact(aS this).symm
 subst hi0
 have e2:bL.2.1=c6.2.1.set 0 (bX (J I c6.2.1 0) (ins (ak (J I c6.2.1 0)) s8 (cw v))):=by rw [akK];rfl
 have OD:0<c6.2.1.length:=by omega
 have akP:bL.2.1.length=f_+1:=by rw [e2,List.length_set,akO]
 have g20:J I bL.2.1 0=bX (J I c6.2.1 0) (ins (ak (J I c6.2.1 0)) s8 (cw v)):=by rw [e2,gv OD,if_pos rfl]
 have vD:J I bL.2.1 f_=km:=by rw [e2,gv OD,if_neg OC,XW]
 have akQ:((jA,cw v,()):ax.D)∈ak (J I bL.2.1 0):=by rw [g20,hp];exact n4.2 (.inl XX)
 have XY:((s8,cw v,()):ax.D)∈ak (J I bL.2.1 0):=by rw [g20,hp];exact n4.2 (.inr rfl)
 have a2:ba bL.2.1 (cw v)=some f_:=Hc hw2 (by omega) (by rw [vD];exact hz.id)
 have jY:ca bL.2.1 (cw v)=2:=by
  rw [e2]
  have h3:=s5 (y:=bX (J I c6.2.1 0) (ins (ak (J I c6.2.1 0)) s8 (cw v))) OD (cw v)
  rw [hp,Ob,fp,cF rfl] at h3
  simp only [cond_true] at h3
  omega
 obtain ⟨dJ,k3,t3,alX,rO,OE⟩:=xV bL cS A' hw2.vb
 have XZ:=OE.ok Hd
 have hw3:=ll.1 XZ
 obtain ⟨D,X0,X1,e3⟩:∃D,(k3=0→D=[113])∧(k3≠0→D=[])∧dJ.2.1=bL.2.1.set f_ (jd km D):=by
  by_cases h3:k3=0
  ·have eR:az A'=6:=rfl
   have x4:vx bL cS A' dJ:=by
    rcases OE.done Hd o9 (by kernel_rfl) (by rw [eR];omega) h3 with⟨ag,_⟩ | ⟨ag,_⟩ | ⟨ag,_⟩ | ⟨ag,_⟩ | ⟨_,ag⟩ | ⟨ag,_⟩ | ⟨ag,_⟩ | ⟨ag,_⟩ | ⟨ag,_⟩
    case inr.inr.inr.inr.inl=>exact ag
    all_goals (exfalso;rw [eR] at ag;omega)
   obtain ⟨gd,i3,_,_,akR,_,_,_,_,akS,x4⟩:=x4.out
   have X2:wp bL.2.1 cS true [47,122,121]=gd:=Ha hw2 x8 true akS
   rw [A9 hw2 x8 true (x9 hw2 XY) kg (fun _=>by rw [x7 a2,vD,hz.kind];decide)] at X2
   subst X2
   have akT:i3=f_:=by
    have:ba bL.2.1 (cw v)=some i3:=akR
    rw [a2] at this
    exact(aS this).symm
   subst akT
   rcases x4 with⟨_,ag,_⟩ | ⟨_,_,hw,_⟩
   ·cases ag
   ·refine⟨[113],fun _=>rfl,fun h=>absurd h3 h,?_⟩
    rw [hw,vD]
    have:hT A' km=[113]:=by
     unfold hT
     rw [if_neg (by rw [eR];omega)]
     unfold ei
     rw [if_pos eR,hz.data]
     rfl
    rw [this]
  ·refine⟨[],fun h=>absurd h h3,fun _=>rfl,?_⟩
   rw [OE.no Hd h3]
   have:jd km []=J I bL.2.1 f_:=by
    rw [vD]
    have ag:=hz.data
    obtain ⟨fp,jY,X3,alY,alZ,akU,al0,al1,al2,⟨⟩⟩:=km
    have:akU=[]:=ag
    subst this;rfl
   rw [this,c7 (by omega),List.set_getElem_self]
 rw [vB]
 simp only [av,jo,oH]
 show Option.bind (gp (bL,cS,A',())) _=_
 rw [rO]
 simp only [av]
 have akV:aK (c6.1-1)=cw v:=by
  rw [hz.next]
  have:=hv.next
  show aK (cw v+1-1)=cw v
  rw [eh (by omega) (by omega)];omega
 rw [akV]
 have akW:dJ.2.1.length=f_+1:=by rw [e3,List.length_set,akP]
 have He:f_<bL.2.1.length:=by omega
 have X4:J I dJ.2.1 0=J I bL.2.1 0:=by rw [e3,gv He,if_neg (Ne.symm OC)]
 have Ba:J I dJ.2.1 f_=jd km D:=by rw [e3,gv He,if_pos rfl]
 have Hf:((jA,cw v,()):ax.D)∈ak (J I dJ.2.1 0):=by rw [X4];exact akQ
 have m32:((s8,cw v,()):ax.D)∈ak (J I dJ.2.1 0):=by rw [X4];exact XY
 have a3:ba dJ.2.1 (cw v)=some f_:=Hc hw3 (by omega) (by rw [Ba];exact hz.id)
 have X3:ca dJ.2.1 (cw v)=2:=by
  rw [e3]
  have h3:=s5 (y:=jd km D) He (cw v)
  rw [jY,vD] at h3
  have:ak (jd km D)=ak km:=rfl
  rw [this] at h3
  omega
 have X5:kindOf (J I dJ.2.1 f_)=1:=by rw [Ba];exact hz.kind
 have akX:bA (J I dJ.2.1 f_)=D:=by rw [Ba];rfl
 have al3:D.length≤1:=by
  by_cases h3:k3=0
  ·rw [X0 h3];simp
  ·rw [X1 h3];simp
 have X6:(D.drop 0).take 9=D:=by rw [List.drop_zero];exact List.take_of_length_le (by omega)
 obtain ⟨QX,bb,t4,akY,we,al4⟩:=xV dJ cS (s9 [47,122,122] 0 9) hw3.vb
 obtain ⟨_,_,fr⟩:=XT hw3 s7 (x9 hw3 Hf) kg a3 X5 (a:=0) (b:=9) (by kernel_rfl) (by omega) (by omega) akY
 rw [akX,X6] at fr
 rw [fr] at we
 show L2 (oX (q+3)) (cw v) bL dJ (k3,t3,())=_
 unfold L2
 rw [vB]
 simp only [av,jo,oH]
 show Option.bind (gp (dJ,cS,s9 [47,122,122] 0 9,())) _=_
 rw [we]
 simp only [av]
 obtain ⟨lv,bw,t5,akZ,ak0,ak1⟩:=xV dJ cS Hb hw3.vb
 have ak2:=ak1.ok XZ
 have Bb:=ll.1 ak2
 obtain ⟨qq,ak3,_⟩:lv=iL dJ 0 jA∧bw=0∧t5=[]:=by
  refine OB hw3 o9 akZ ?_
  have eR:az Hb=8:=rfl
  rw [GX dJ cS _ (rf.1 (by kernel_rfl)) (by rw [eR];omega)]
  unfold xU
  rw [if_neg (by rw [eR];omega),if_pos (by rw [eR];omega)]
  rw [akF hw3 Hb (r:=((1:Int),jA,cw v,(0:Int),())) (d:=0) (j:=f_) (by rw [eR];omega) (XS hw3 s7 false (x9 hw3 Hf) kg a3 (fun h=>by cases h)) rfl (by show jA≠[];decide) hw3.A8 hw3.root.2 a3 (by rw [Ba];exact hz.cG) (fun h=>by rw [eR] at h;omega) (fun _=>by rw [X5];decide)]
  rfl
 subst ak3
 show L3 (oX (q+2)) (cw v) bL dJ (k3,t3,()) (bb,D,())=_
 unfold L3
 rw [vB]
 simp only [av,jo,oH]
 show Option.bind (gp (dJ,cS,Hb,())) _=_
 rw [ak0]
 simp only [av]
 have Hg:0<dJ.2.1.length:=by omega
 have ak4:=(hw3.ino 0 Hg).sorted
 have X7:ca (dJ.2.1.set 0 (bX (J I dJ.2.1 0) (b8 (ak (J I dJ.2.1 0)) jA))) (cw v)=1:=by
  have h3:=s5 (y:=bX (J I dJ.2.1 0) (b8 (ak (J I dJ.2.1 0)) jA)) Hg (cw v)
  have h4:=G0 ak4 Hf (cw v)
  rw [show(((jA,cw v,()):ax.D).2.1==cw v)=true from cF rfl] at h4
  simp only [cond_true] at h4
  rw [hp,X3] at h3
  have h4:dr (b8 (ak (J I dJ.2.1 0)) jA) (cw v)+1=dr (ak (J I dJ.2.1 0)) (cw v):=h4
  omega
 have Hh:lv.2.1=dJ.2.1.set 0 (bX (J I dJ.2.1 0) (b8 (ak (J I dJ.2.1 0)) jA)):=by
  rw [qq]
  show goN _ (cJ (ak (J I dJ.2.1 0)) jA)=_
  rw [x9 hw3 Hf]
  unfold goN
  rw [decide_eq_false (by rw [X7];omega)];rfl
 have ak5:J I lv.2.1 0=bX (J I dJ.2.1 0) (b8 (ak (J I dJ.2.1 0)) jA):=by rw [Hh,gv Hg,if_pos rfl]
 have Bc:J I lv.2.1 f_=jd km D:=by rw [Hh,gv Hg,if_neg OC,Ba]
 have ak6:((s8,cw v,()):ax.D)∈ak (J I lv.2.1 0):=by
  rw [ak5,hp]
  exact List.mem_filter.2 ⟨m32,rfl⟩
 have al5:lv.2.1.length=f_+1:=by rw [Hh,List.length_set,akW]
 have a5:ba lv.2.1 (cw v)=some f_:=Hc Bb (by omega) (by rw [Bc];exact hz.id)
 obtain ⟨al6,da,t6,ak7,X8,_⟩:=xV lv cS (s9 [47,122,121] 0 9) Bb.vb
 obtain ⟨_,_,yq⟩:=XT Bb x8 (x9 Bb ak6) kg a5 (by rw [Bc];exact hz.kind) (a:=0) (b:=9) (by kernel_rfl) (by omega) (by omega) ak7
 rw [show bA (J I lv.2.1 f_)=D by rw [Bc];rfl,X6] at yq
 rw [yq] at X8
 show L4 (oX (q+1)) (cw v) bL (k3,t3,()) (bb,D,()) lv (0,t5,())=_
 unfold L4
 rw [vB]
 simp only [av,jo,oH]
 show Option.bind (gp (lv,cS,s9 [47,122,121] 0 9,())) _=_
 rw [X8]
 simp only [av]
 show L5 (oX q) (cw v) bL (k3,t3,()) (bb,D,()) lv (0,t5,()) (da,D,())=_
 unfold L5
 obtain ⟨gh,hc2,_,ak8⟩:=hw2.XK (i:=f_) He
 obtain ⟨ak9,X9,_,ak_⟩:=Bb.XK (i:=f_) (by omega)
 rw [show aY (J I bL.2.1 f_)=cw v by rw [vD];exact hz.id] at hc2
 rw [show aY (J I lv.2.1 f_)=cw v by rw [Bc];exact hz.id] at X9
 have B_:gh=2:=by
  rw [ak8,vD]
  unfold mZ
  rw [cI (show kindOf km≠2 by rw [hz.kind];decide)]
  show((ca bL.2.1 (aY km):Nat):Int)=2
  rw [hz.id,jY];rfl
 have ak':ak9=1:=by
  rw [ak_,Bc]
  unfold mZ
  rw [cI (show kindOf (jd km D)≠2 by rw [show kindOf (jd km D)=kindOf km from rfl,hz.kind];decide)]
  show((ca lv.2.1 (aY km):Nat):Int)=1
  rw [hz.id,Hh,X7];rfl
 rw [hc2,X9,B_,ak']
 simp only [av,RH]
 by_cases h3:k3=0
 ·rw [X0 h3]
  subst h3
  rfl
 ·rw [X1 h3,cI h3]
  rfl
theorem ajw(a:List Int):Tf (a,())=some (true,()):=by
 obtain ⟨q,hq,_⟩:=iI 7
 show FB (oX aQ) a=_
 unfold FB
 rw [aku]
 simp only [av]
 by_cases ha:(a.length:Int)>1048576
 ·rw [o0 ha];rfl
 rw [nU ha]
 simp only [cond_false]
 obtain ⟨v,c,x,ag,hsz⟩:=akt a (by omega)
 rw [ag,hq]
 simp only [av]
 rw [Nf v hsz.vb,vB]
 simp only [av,jo,oH]
 cases cd:kc v with
 | false =>
  simp only [Bool.not_false,cond_true]
  rw [show y6 ()=some ((2,[(1,2,493,0,0,([]:aF),([]:List ax.D),0,0,())],()),()) from rfl]
  simp only [av]
  obtain ⟨c6,bx,h1,h2⟩:=XU ((2:Int),([(1,2,493,0,0,([]:aF),([]:List ax.D),0,0,())]:List aJ),()) (Oz 493 (by decide)) cS.2.2.1 ([(1,2,493,0,0,([]:aF),([]:List ax.D),0,0,())]:List aJ) q
  have OF:ka ((2,[(1,2,493,0,0,([]:aF),([]:List ax.D),0,0,())],()),cS,(3,([47,122,122]:List UInt8),([]:List UInt8),420,0,([]:List UInt8),()),())=some (c6,bx,()):=h1
  rw [OF]
  exact h2
 | true =>
  simp only [Bool.not_true,cond_false]
  obtain ⟨c6,bx,h1,h2⟩:=XU v (ll.1 cd) cS.2.2.1 v.2.1 q
  have OF:ka (v,cS,(3,([47,122,122]:List UInt8),([]:List UInt8),420,0,([]:List UInt8),()),())=some (c6,bx,()):=h1
  rw [OF]
  exact h2
end Go.LM.kA
