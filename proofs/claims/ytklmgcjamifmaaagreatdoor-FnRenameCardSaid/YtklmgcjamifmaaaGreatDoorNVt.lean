/- What is drawn, and the law. Conditions: each theorem's own hypotheses. -/
import Derived.Test.YtklmgcjamifmaaaGreatDoorNVe
set_option linter.unusedVariables false
set_option linter.unusedSimpArgs false
namespace Go.LM.kc
theorem Ay{n:Nat}{i:Int}(h:0≤i)(h':i<n):aN n i=some i.toNat:=by
 rw [show aN n i=aN n ((i.toNat:Nat):Int) by congr 1;omega]
 exact bw (by omega)
abbrev fo:Type:=bp.D
def eY(C:fo):Prop:=0≤C.2.1∧C.2.1≤(C.1.length:Int)∧C.1.length≤1048576
def a'{α : Type}(o:Option (α × bp.D×Unit))(Q : α → Prop):Prop:=∃x C,o=some (x,C,())∧eY C∧Q x
theorem a'.ret{α : Type}{x : α}{C:fo}{Q : α → Prop}(h:eY C)(hq:Q x):a' (some (x,C,())) Q:=⟨x,C,rfl,h,hq⟩
theorem a'.bind{α β : Type}{o:Option (α × bp.D×Unit)}{f : α × bp.D×Unit→Option (β × bp.D×Unit)}{Q : α → Prop}{R : β → Prop}(h:a' o Q)
  (hf:∀x C,eY C→Q x→a' (f (x,C,())) R):a' (o.bind f) R:=by
 obtain ⟨x,C,rfl,hc,hq⟩:=h
 exact hf x C hc hq
theorem a'.mono{α : Type}{o:Option (α × bp.D×Unit)}{Q R : α → Prop}(h:a' o Q)(hr:∀x,Q x→R x):a' o R:=by
 obtain ⟨x,C,h1,h2,h3⟩:=h
 exact⟨x,C,h1,h2,hr x h3⟩
theorem a'.cond{α : Type}{b:Bool}{o p:Option (α × bp.D×Unit)}{Q : α → Prop}(h:a' o Q)(h':a' p Q):a' (cond b o p) Q:=by
 cases b
 ·exact h'
 ·exact h
theorem WX(x:Int):0≤cN .and .i64 x 255∧cN .and .i64 x 255≤255:=by
 have h:(BitVec.ofInt 64 x &&& BitVec.ofInt 64 255).toNat≤255:=by
  rw [BitVec.toNat_and]
  exact Nat.le_trans Nat.and_le_right (by decide)
 have h':((BitVec.ofInt 64 x &&& BitVec.ofInt 64 255).toNat:Int)≤255:=by omega
 have:cN .and .i64 x 255=((BitVec.ofInt 64 x &&& BitVec.ofInt 64 255).toNat:Int):=sG (Int.le_trans (by decide) (Int.natCast_nonneg _)) (Int.le_trans h' (by decide))
 omega
theorem ajT(b:List Int)(i hh:Int)(u:Unit)(h1:0≤i)(h2:i≤(b.length:Int))(h3:b.length≤1048576):a' (qi (((b,i,hh,u):fo),())) (fun x=>0≤x∧x≤255):=by
 show a' (Je ((b,i,hh,u):fo)) _
 unfold Je
 dsimp only
 by_cases hi:i<(b.length:Int)
 ·rw [nk hi,Ay h1 hi]
  refine a'.ret ⟨?_,?_,h3⟩ (WX _)
  ·show 0≤aG (i+1);rw [dD (a:=i+1) (by omega) (by omega)];omega
  ·show aG (i+1)≤(b.length:Int);rw [dD (a:=i+1) (by omega) (by omega)];omega
 ·rw [mm hi]
  exact a'.ret ⟨h1,h2,h3⟩ (WX _)
theorem xx{C:fo}(h:eY C):a' (qi (C,())) (fun x=>0≤x∧x≤255) :=
 ajT C.1 C.2.1 C.2.2.1 C.2.2.2 h.1 h.2.1 h.2.2
structure Below(n x:Int):Prop where
 lo:0≤x
 hi:0<n→x<n
 no:n≤0→x=0
theorem WY{x n:Int}(hx:0≤x)(hn:0<n):Below n (Int.tmod x n) :=
 ⟨Int.tmod_nonneg _ hx,fun _=>Int.tmod_lt_of_pos _ hn,fun h=>by omega⟩
theorem gC{C:fo}(h:eY C)(n:Int):a' (fZ (C,n,())) (Below n):=by
 show a' (Jf C n) _
 unfold Jf
 by_cases h0:n≤0
 ·rw [nk h0];exact a'.ret h ⟨Int.le_refl _,fun h=>by omega,fun _=>rfl⟩
 rw [mm h0]
 by_cases h1:n≤256
 ·rw [nk h1]
  refine(xx h).bind fun x C aP hx=>?_
  dsimp only
  rw [cY (by omega:n≠0)]
  exact a'.ret aP (WY hx.1 (by omega))
 ·rw [mm h1]
  refine(xx h).bind fun x C aP hx=>(xx aP).bind fun y C aP aO=>(xx aP).bind fun z C aP hz=>(xx aP).bind fun w C aP hw=>?_
  dsimp only
  rw [cY (by omega:n≠0)]
  refine a'.ret aP (WY ?_ (by omega))
  rw [dD (a:=x*16777216) (by omega) (by omega),dD (a:=y*65536) (by omega) (by omega),dD (a:=z*256) (by omega) (by omega),dD (a:=x*16777216+y*65536) (by omega) (by omega),dD (a:=x*16777216+y*65536+z*256) (by omega) (by omega),dD (a:=x*16777216+y*65536+z*256+w) (by omega) (by omega)]
  omega
theorem u6{C:fo}(h:eY C)(n:Int):a' (qj (C,n,())) (fun _=>True) :=
 (gC h n).bind fun x C aP _=>a'.ret aP trivial
theorem ko{C:fo}(h:eY C)(l:List Int)(hl:0<l.length):a' (iN (C,l,())) (fun x=>x∈l):=by
 show a' (JP C l) _
 unfold JP
 refine(gC h _).bind fun x C aP hx=>?_
 dsimp only
 have:=hx.hi (by omega)
 rw [Ay hx.lo this]
 refine a'.ret aP ?_
 rw [Nat.zero_add]
 exact cE (t:=.int .i64) (by have:=hx.lo;omega)
theorem Gu{C:fo}(h:eY C)(l:List aF)(hl:0<l.length):a' (qu (C,l,())) (fun x=>x∈l):=by
 show a' (JS C l) _
 unfold JS
 refine(gC h _).bind fun x C aP hx=>?_
 dsimp only
 have:=hx.hi (by omega)
 rw [Ay hx.lo this]
 refine a'.ret aP ?_
 rw [Nat.zero_add]
 exact cE (t:=.str) (by have:=hx.lo;omega)
theorem NU{C:fo}(h:eY C)(n:Nat)(l:List aF)(hl:0<l.length)(hn:l.all fun s=>decide (s.length≤n)):a' (qu (C,l,())) (fun x=>x.length≤n) :=
 (Gu h l hl).mono fun x hx=>by simpa using List.all_eq_true.1 hn x hx
theorem ajU(U:Int):∀(r q:Nat) (ai:List Int) (C:fo),eY C→ai.length+r≤1000→2*r<q→a' ((rW q).bh U (r:Int) C ai) (fun s=>s.length≤ai.length+r):=by
 intro r
 induction r with
 | zero =>
  intro q ai C aP hl hq
  obtain ⟨q,rfl,_⟩:=fuel hq
  show a' (y4 (rW q) U ((0:Nat):Int) C ai) (fun s=>s.length≤ai.length+0)
  unfold y4
  rw [mm (by omega)]
  exact a'.ret aP (by simp [gp])
 | succ r ih =>
  intro q ai C aP hl hq
  obtain ⟨q,rfl,hq⟩:=fuel hq
  show a' (y4 (rW q) U _ C ai) _
  unfold y4
  rw [nk (by omega)]
  refine(xx aP).bind fun y C aP _=>?_
  have hk:∀y,a' ((rW q).cR U ((r+1:Nat):Int) y C ai) (fun s=>s.length≤ai.length +(r+1)):=fun y=>by
   obtain ⟨q,rfl,hq⟩:=fuel (show 2*r+1<q by omega)
   show a' (JR (rW q) U _ y C ai) _
   unfold JR
   rw [cG (by simp;omega),dD (by omega) (by omega),show((r+1:Nat):Int)-1=(r:Int) by omega]
   exact(ih q _ C aP (by simp;omega) (by omega)).mono fun s hs=>by simp at hs;omega
  exact a'.cond (a'.cond (hk _) (hk _)) (a'.cond (hk _) (hk _))
theorem ajV{C:fo}(h:eY C)(n:Nat)(hn:n≤900):a' (y5 (C,(n:Int),())) (fun s=>s.length≤n):=by
 show a' (C6 (rW aR) C n) _
 unfold C6
 refine(gC h _).bind fun x C aP hx=>(gC aP _).bind fun y C aP aO=>?_
 dsimp only
 rw [dD (a:=(n:Int)+1) (by omega) (by omega)] at aO
 have h1:=aO.lo;have h2:=aO.hi (by omega)
 have:=ajU x y.toNat aR [] C aP (by simp;omega) (by rw [qL];omega)
 rw [Int.toNat_of_nonneg h1] at this
 exact this.mono fun s hs=>by simp at hs;omega
theorem WZ{C:fo}(h:eY C):a' (wB (C,())) (fun s=>s.length≤3):=by
 show a' (JT C) _
 unfold JT
 exact(NU h 3 _ (by decide) (by decide)).bind fun s C aP hs=>a'.ret aP hs
theorem W0(q:Nat){C:fo}(aP:eY C)(s:aF):a' ((og (q+1)).wC s C) (fun _=>True):=by
 show a' (JV (og q) s C) _
 unfold JV
 refine(u6 aP 30).bind fun b C aP _=>?_
 dsimp only
 exact a'.cond ((Gu aP _ (by decide)).bind fun y C aP _=>a'.ret aP trivial) (a'.ret aP trivial)
theorem W4(q:Nat){C:fo}(aP:eY C)(s:aF)(hs:s.length≤1000):a' ((og (q+2)).mc s C) (fun _=>True):=by
 show a' (JU (og (q+1)) s C) _
 unfold JU
 rw [cG (by simp;omega)]
 exact W0 q aP _
theorem ajW:∀(r q:Nat) (s:aF) (C:fo),eY C→s.length+20*r≤900→r<q→a' ((og (q+2)).k3 s (r:Int) C) (fun _=>True):=by
 intro r
 induction r with
 | zero =>
  intro q s C aP hs hq
  obtain ⟨q,rfl,_⟩:=fuel hq
  show a' (y6 (og (q+2)) s ((0:Nat):Int) C) _
  unfold y6
  rw [mm (by omega),cond_false]
  refine a'.cond (W4 q aP s (by omega)) ?_
  refine(u6 aP 20).bind fun b C aP _=>?_
  dsimp only
  exact a'.cond (W4 q aP s (by omega)) (W0 (q+1) aP s)
 | succ r ih =>
  intro q s C aP hs hq
  obtain ⟨q,rfl,hq⟩:=fuel hq
  show a' (y6 (og (q+2)) s _ C) _
  unfold y6
  rw [nk (by omega),cG (by simp;omega),dD (a:=((r+1:Nat):Int)-1) (by omega) (by omega),show((r+1:Nat):Int)-1=(r:Int) by omega]
  refine(WZ aP).bind fun n C aP hn=>?_
  dsimp only
  rw [cG (by simp;omega)]
  refine(gC aP 14).bind fun k C aP _=>?_
  dsimp only
  have hk:∀(t:aF) C,eY C→t.length≤9→a' (cond (room (((s++([47]:List UInt8))++n).length+t.length)) ((og (q+2)).k3 (((s++([47]:List UInt8))++n)++t) (r:Int) C) none) (fun _=>True):=fun t C aP ht=>by
   rw [cG (by simp;omega)]
   exact ih q _ C aP (by simp;omega) (by omega)
  refine a'.cond (hk _ C aP (by simp)) (a'.cond (hk _ C aP (by simp)) (a'.cond (hk _ C aP (by simp)) (a'.cond ?_ ?_)))
  ·refine(NU aP 9 _ (by decide) (by decide)).bind fun y C aP aO=>?_
   exact hk y C aP aO
  ·exact ih q _ C aP (by simp;omega) (by omega)
theorem W5{C:fo}(h:eY C):a' (C8 (C,())) (fun _=>True):=by
 show a' (C7 (og aR) C) _
 unfold C7
 refine(gC h 5).bind fun x C aP hx=>?_
 dsimp only
 have h1:=hx.lo;have h2:=hx.hi (by omega)
 obtain ⟨q,hq,ajX⟩:=jb 2
 have:=ajW x.toNat q [] C aP (by simp;omega) (by omega)
 rw [Int.toNat_of_nonneg h1,← hq] at this
 exact this
theorem ajY(v:af.D){n:Nat}(hv:eO n v.2.1)(hn:n≤1000):∀(r q:Nat) (s:aF) (at_:Int) (C:fo),eY C→s.length+9*r≤900→r<q→a' (tZ q s at_ ((r:Int)-1) C v) (fun _=>True):=by
 intro r
 induction r with
 | zero =>
  intro q s at_ C aP hs hq
  obtain ⟨q,rfl,_⟩:=fuel hq
  show a' (wD (tZ q) s at_ _ C v) _
  unfold wD
  rw [mm (by omega)]
  exact a'.ret aP trivial
 | succ r ih =>
  intro q s at_ C aP hs hq
  obtain ⟨q,rfl,hq⟩:=fuel hq
  show a' (wD (tZ q) s at_ _ C v) _
  unfold wD
  rw [nk (show((r+1:Nat):Int)-1≥0 by omega),nn v at_ (by have:=hv.len;omega)]
  simp only [cond_true,av]
  have lv:∀C,eY C→a' (cond (room (s.length +([47]:List UInt8).length)) ((wB (C,())).bind fun v2=>cond (room ((s++([47]:List UInt8)).length+v2.1.length)) (some ((s++([47]:List UInt8))++v2.1,v2.2.1,())) none) none) (fun _=>True):=fun C aP=>by
   rw [cG (by simp;omega)]
   refine(WZ aP).bind fun m C aP hm=>?_
   dsimp only
   rw [cG (by simp;omega)]
   exact a'.ret aP trivial
  cases hi:bl v.2.1 at_ with
  | none=>exact lv C aP
  | some d =>
   have ag:=(bS hi).1
   rw [show decide (gQ (some d)<0)=false from mm (show ¬((d:Int)<0) by omega)]
   rw [show aN v.2.1.length (gQ (some d))=some d from bw ag]
   simp only [cond_false,av]
   by_cases h0:(ak (J I v.2.1 d)).length=0
   ·rw [cD (show(((J I v.2.1 d).2.2.2.2.2.2.1).length:Int)=0 from by have:(ak (J I v.2.1 d)).length=0:=h0;exact congrArg (fun k:Nat=>(k:Int)) this)]
    exact lv C aP
   ·rw [cd (show(((J I v.2.1 d).2.2.2.2.2.2.1).length:Int)≠0 from by have:(ak (J I v.2.1 d)).length≠0:=h0;exact fun h=>this (Int.ofNat.inj h))]
    simp only [cond_false,lx]
    refine(gC aP _).bind fun k C aP hk=>?_
    have cz:k<((ak (J I v.2.1 d)).length:Int):=hk.hi (by show(0:Int)<((ak (J I v.2.1 d)).length:Int);omega)
    have PI:=hk.lo
    dsimp only
    rw [show aN (((J I v.2.1 d).2.2.2.2.2.2.1).length) k=some k.toNat from Ay hk.lo cz]
    simp only [av]
    have c3:((J aw (ak (J I v.2.1 d)) k.toNat).1).length≤8:=(hv.get ag).each _ (cE (by omega))
    have c3:((J aw ((J I v.2.1 d).2.2.2.2.2.2.1) k.toNat).1).length≤8:=c3
    rw [cG (by simp;omega)]
    simp only [cond_true]
    rw [cG (n:=(s++([47]:List UInt8)).length +((J aw ((J I v.2.1 d).2.2.2.2.2.2.1) k.toNat).1).length) (by simp;omega)]
    simp only [cond_true]
    rw [dD (a:=((r+1:Nat):Int)-1-1) (by omega) (by omega),show((r+1:Nat):Int)-1-1=(r:Int)-1 by omega]
    refine ih q _ _ C aP ?_ (by omega)
    simp only [List.length_append,List.length_singleton];omega
theorem NV{C:fo}(h:eY C)(v:af.D){n:Nat}(hv:eO n v.2.1)(hn:n≤1000):a' (t_ (C,v,())) (fun _=>True):=by
 show a' (C_ (tZ aR) C v) _
 unfold C_
 refine(u6 h 4).bind fun b C aP _=>?_
 dsimp only
 refine a'.cond ((W5 aP).bind fun y C aP _=>a'.ret aP trivial) ?_
 refine(gC aP 4).bind fun x C aP hx=>?_
 dsimp only
 have h1:=hx.lo;have h2:=hx.hi (by omega)
 have:=ajY v hv hn (x.toNat+1) aR [] 1 C aP (by simp;omega) (by rw [qL];omega)
 rw [show((x.toNat+1:Nat):Int)-1=x by omega] at this
 exact this
theorem ajZ{n:Nat}{lo hi:Int}(h:0≤lo)(h':lo≤hi)(aj0:hi≤n):dZ n lo hi=some (lo.toNat,hi.toNat):=by
 unfold dZ
 rw [if_pos ⟨h,h',aj0⟩]
theorem NW{C:fo}(h:eY C):a' (y3 (C,())) (fun c=>dm c=true):=by
 show a' (JQ C) _
 unfold JQ
 refine(gC h 4).bind fun x C aP _=>?_
 dsimp only
 have h0:a' (some (((0,0,([]:List Int),()):aH.D),C,())) (fun c=>dm c=true):=a'.ret aP (by kernel_rfl)
 have h2:a' (some (((2,2,[5],()):aH.D),C,())) (fun c=>dm c=true):=a'.ret aP (by kernel_rfl)
 have h3:a' (some (((3,2,([]:List Int),()):aH.D),C,())) (fun c=>dm c=true):=a'.ret aP (by kernel_rfl)
 exact a'.cond (a'.cond h0 (a'.cond h2 h3)) (a'.cond h0 (a'.cond h2 h3))
theorem W6{C:fo}(h:eY C):a' (Dh (C,())) (fun _=>True):=by
 show a' (J6 C) _
 unfold J6
 refine(NW h).bind fun c C aP _=>?_
 refine(u6 aP 10).bind fun b C aP _=>?_
 dsimp only
 refine a'.cond ?_ (a'.ret aP trivial)
 refine(gC aP 3).bind fun x C aP _=>?_
 dsimp only
 refine a'.cond ((ko aP _ (by decide)).bind fun y C aP _=>a'.ret aP trivial) (a'.cond ((ko aP _ (by decide)).bind fun y C aP _=>a'.ret aP trivial) ?_)
 refine(gC aP 2).bind fun y C aP aO=>?_
 dsimp only
 have h1:=aO.lo;have h2:=aO.hi (by omega)
 rw [dD (a:=4+y) (by omega) (by omega)]
 show a' ((dZ 5 0 (4+y)).bind fun bt=>some (((c.1,c.2.1,part ([1,2,3,4,5]:List Int) (0+bt.1) (bt.2-bt.1),()):aH.D),C,())) _
 rw [ajZ (Int.le_refl _) (by omega) (by omega)]
 exact a'.ret aP trivial
theorem call32(m:Nat){C:fo}(aP:eY C)(aa ad:aK.D)(ag:ad.2.2.2.2.2.1.length≤100):a' ((kG (m+1)).fL C aa ad) (fun _=>True):=by
 show a' (JZ (kG m) C aa ad) _
 unfold JZ
 refine(u6 aP 25).bind fun b C aP _=>?_
 dsimp only
 refine a'.cond ?_ (a'.ret aP trivial)
 refine(gC aP 6).bind fun z C aP _=>?_
 dsimp only
 refine a'.cond ((ko aP _ (by decide)).bind fun y C aP _=>a'.ret aP trivial) (a'.cond ((ko aP _ (by decide)).bind fun y C aP _=>a'.ret aP trivial)
  (a'.cond ((ko aP _ (by decide)).bind fun y C aP _=>a'.ret aP trivial) (a'.cond ?_ (a'.cond ((Gu aP _ (by decide)).bind fun y C aP _=>a'.ret aP trivial) ((W5 aP).bind fun y C aP _=>a'.ret aP trivial)))))
 rw [cG (by simp;omega)]
 exact a'.ret aP trivial
theorem call19(m:Nat){C:fo}(aP:eY C)(v:af.D){n:Nat}(hv:eO n v.2.1)(hn:n≤1000)(aa ad:aK.D)(ag:ad.2.2.2.2.2.1.length≤100):a' ((kG (m+2)).oe C v aa ad) (fun _=>True):=by
 show a' (J0 (kG (m+1)) C v aa ad) _
 unfold J0
 refine(NV aP v hv hn).bind fun s C aP _=>?_
 exact call32 m aP _ _ ag
theorem call20(m:Nat){C:fo}(aP:eY C)(k:Int)(aa ad:aK.D)(ag:ad.2.2.2.2.2.1.length≤100):a' ((kG (m+2)).oc k C aa ad) (fun _=>True):=by
 show a' (J1 (kG (m+1)) k C aa ad) _
 unfold J1
 refine a'.cond ((Gu aP _ (by decide)).bind fun y C aP _=>call32 m aP _ _ ag) (a'.cond ((gC aP 2).bind fun y C aP _=>call32 m aP _ _ ag)
  (a'.cond ((ko aP _ (by decide)).bind fun y C aP _=>(ko aP _ (by decide)).bind fun z C aP _=>call32 m aP _ _ ag) (a'.cond ((gC aP 8).bind fun y C aP _=>call32 m aP _ _ ag)
   (a'.cond ((ko aP _ (by decide)).bind fun y C aP _=>(ko aP _ (by decide)).bind fun z C aP _=>call32 m aP _ _ ag) (call32 m aP _ _ ag)))))
theorem W7{C:fo}(h:eY C)(v:af.D){n:Nat}(hv:eO n v.2.1)(hn:n≤1000):a' (Da (C,v,())) (fun _=>True):=by
 obtain ⟨m,hm,_⟩:=jb 4
 show a' (C' (kG aR) C v) _
 rw [hm]
 unfold C'
 simp only [lx,tu]
 refine(ko h _ (by decide)).bind fun k C aP _=>(NV aP v hv hn).bind fun s C aP _=>?_
 dsimp only
 show a' (JW (kG (m+3)) C v _ _) _
 unfold JW
 have bj:∀(aa ad:aK.D),ad.2.2.2.2.2.1.length≤100→a' ((kG (m+3)).dd C aa ad) (fun _=>True):=fun aa ad ag=>by
  show a' (JX (kG (m+2)) C aa ad) _
  unfold JX
  exact(ko aP _ (by decide)).bind fun y C aP _=>call32 (m+1) aP _ _ ag
 have bE:∀(k:Int) (aa ad:aK.D),ad.2.2.2.2.2.1.length≤100→a' ((kG (m+3)).dj k C v aa ad) (fun _=>True):=fun k aa ad ag=>by
  show a' (JY (kG (m+2)) k C v aa ad) _
  unfold JY
  have W8:∀ {C:fo},eY C→∀ai:aF→aK.D,(∀t,(ai t).2.2.2.2.2.1=t)→a' ((y5 (C,30,())).bind fun v4=>(kG (m+2)).fL v4.2.1 aa (ai v4.1)) (fun _=>True):=fun aP ai hx =>
   (ajV aP 30 (by omega)).bind fun t C aP ht=>call32 (m+1) aP _ _ (by rw [hx];exact Nat.le_trans ht (by omega))
  refine a'.cond ((gC aP 8).bind fun y C aP _=>(gC aP 20).bind fun z C aP _=>call32 (m+1) aP _ _ ag) (a'.cond ((gC aP 20).bind fun y C aP _=>?_) (a'.cond ?_ (a'.cond ((gC aP 70).bind fun y C aP _=>call32 (m+1) aP _ _ ag)
   (a'.cond (a'.cond (call19 m aP v hv hn _ _ ag) (call20 m aP _ _ _ ag)) (a'.cond (call19 m aP v hv hn _ _ ag) (call20 m aP _ _ _ ag))))))
  ·exact W8 aP (fun t=>(ad.1,ad.2.1,ad.2.2.1,y,ad.2.2.2.2.1,t,())) fun t=>rfl
  ·exact W8 aP (fun t=>(ad.1,ad.2.1,ad.2.2.1,ad.2.2.2.1,ad.2.2.2.2.1,t,())) fun t=>rfl
 have ag:([]:aF).length≤100:=by simp
 exact a'.cond (a'.cond (bj _ _ ag) (bE _ _ _ ag)) (a'.cond (a'.cond (bj _ _ ag) (bE _ _ _ ag)) (a'.cond (bj _ _ ag) (bE _ _ _ ag)))
theorem W9:∀m:Int,m∈[511,511,493,1023,2047]→bH ((2:Int),([(1,2,m,0,0,([]:aF),([]:List aw.D),0,0,())]:List aL),()):=by
 intro m hm
 simp only [List.mem_cons,List.not_mem_nil,or_false] at hm
 rcases hm with rfl | rfl | rfl | rfl | rfl <;> exact py.1 (by kernel_rfl)
theorem aj1:eO 24 ([(1,2,493,0,0,([]:aF),([]:List aw.D),0,0,())]:List aL):=(bH.sz (W9 493 (by decide)))
theorem W_{C:fo}(h:eY C):a' (Db (C,())) (fun _=>True):=by
 show a' (J2 C) _
 unfold J2
 rw [show Jh ()=some ((2,[(1,2,493,0,0,([]:aF),([]:List aw.D),0,0,())],()),()) from rfl]
 simp only [av]
 exact(W7 h _ aj1 (by omega)).bind fun x C aP _=>a'.ret aP trivial
theorem Xa(v:af.D)(c:aH.D)(x:aK.D)(hv:bH v)(hc:dm c=true):∃w r,m8 (v,c,x,())=some (w,r,())∧bH w:=by
 by_cases hx:jW x=true∧aE x≤20
 ·obtain ⟨k,t,w,_,h2,h3,_,_⟩:=Ws v c x hv hc (xi.1 hx.1) hx.2
  refine⟨_,_,h2,?_⟩
  by_cases h0:k=0
  ·rw [cD h0];exact(h3 h0).ok hv hc (xi.1 hx.1)
  ·rw [cd h0];exact hv
 ·refine⟨v,(22,[],()),?_,hv⟩
  show rV (y2 aR) v c x=_
  unfold rV
  rw [Mq]
  simp only [av]
  cases hcall:jW x with
  | false=>rfl
  | true =>
   simp only [Bool.not_true,cond_false]
   rw [decide_eq_true (show x.1>20 from by have:¬aE x≤20:=fun h=>hx ⟨hcall,h⟩;exact Int.not_le.1 this)];rfl
theorem Xb:∀m,yx m=o7 m
 | 0=>rfl
 | m+1=>by
  funext U aa ad ai
  show Ji (yx m) U aa ad ai=yw (o7 m) U aa ad ai
  rw [Xb m];rfl
theorem Xc{v:af.D}(h:bH v):yy (v,())=some (v,()):=by
 have:=h.Wt
 rw [show lz (v,())=yv (o7 aR) v from rfl,← Xb] at this
 exact this
theorem aj2(v0:af.D):∀(r q:Nat) (C:fo) (v:af.D),eY C→bH v→r≤1000→r<q→a' (t' q ((r:Int)+1) C v0 v) bH:=by
 intro r
 induction r with
 | zero =>
  intro q C v aP hv hr hq
  obtain ⟨q,rfl,_⟩:=fuel hq
  show a' (wF (t' q) _ C v0 v) _
  unfold wF
  rw [dD (a:=((0:Nat):Int)+1-1) (by omega) (by omega),mm (by omega),Xc hv]
  exact a'.ret aP hv
 | succ r ih =>
  intro q C v aP hv hr hq
  obtain ⟨q,rfl,hq⟩:=fuel hq
  show a' (wF (t' q) _ C v0 v) _
  unfold wF
  rw [dD (a:=((r+1:Nat):Int)+1-1) (by omega) (by omega),nk (by omega)]
  refine(NW aP).bind fun c C aP hc=>(W_ aP).bind fun x C aP _=>?_
  dsimp only
  obtain ⟨w,k,hw,dG⟩:=Xa v c x hv hc
  rw [hw]
  simp only [av]
  rw [show((r+1:Nat):Int)+1-1=(r:Int)+1 by omega]
  exact ih q C w aP dG (by omega) (by omega)
theorem aj3{C:fo}(h:eY C)(n:Int)(hn:n≤1000):a' (J3 (C,n,())) bH:=by
 show a' (Dc (t' aR) C n) _
 unfold Dc
 rw [show Jg ()=some ((2,[(1,2,493,0,0,([]:aF),([]:List aw.D),0,0,())],()),()) from rfl]
 simp only [av]
 refine(ko h _ (by decide)).bind fun m C aP hm=>?_
 rw [show aN (([(1,2,493,0,0,([]:aF),([]:List aw.D),0,0,())]:List aL)).length 0=some 0 from rfl]
 simp only [av]
 unfold RK
 refine(gC aP n).bind fun k C aP hk=>?_
 dsimp only
 have dG:=W9 m hm
 by_cases h0:k>0
 ·rw [nk h0]
  refine(NW aP).bind fun c C aP hc=>(W_ aP).bind fun x C aP _=>?_
  dsimp only
  obtain ⟨w,r,hw,dG⟩:=Xa _ c x dG hc
  have Hi:m8 (((2,List.set [(1,2,493,0,0,([]:aF),([]:List aw.D),0,0,())] (0+0) (((J I [(1,2,493,0,0,([]:aF),([]:List aw.D),0,0,())] (0+0)).1,(J I [(1,2,493,0,0,([]:aF),([]:List aw.D),0,0,())] (0+0)).2.1,m,(J I [(1,2,493,0,0,([]:aF),([]:List aw.D),0,0,())] (0+0)).2.2.2.1,(J I [(1,2,493,0,0,([]:aF),([]:List aw.D),0,0,())] (0+0)).2.2.2.2.1,(J I [(1,2,493,0,0,([]:aF),([]:List aw.D),0,0,())] (0+0)).2.2.2.2.2.1,(J I [(1,2,493,0,0,([]:aF),([]:List aw.D),0,0,())] (0+0)).2.2.2.2.2.2.1,(J I [(1,2,493,0,0,([]:aF),([]:List aw.D),0,0,())] (0+0)).2.2.2.2.2.2.2.1,(J I [(1,2,493,0,0,([]:aF),([]:List aw.D),0,0,())] (0+0)).2.2.2.2.2.2.2.2.1,()):aL),()):af.D),c,x,())=some (w,r,()):=hw
  rw [Hi]
  simp only [av]
  have h1:=hk.hi (by have:=hk.no;omega)
  have:=aj2 (0,([]:List I.D),()) (k.toNat-1) aR C w aP dG (by omega) (by rw [qL];omega)
  rw [show((k.toNat-1:Nat):Int)+1=k by omega] at this
  exact this
 ·rw [mm h0]
  have xN:=Xc dG
  exact(show a' ((yy (((2:Int),([(1,2,m,0,0,([]:aF),([]:List aw.D),0,0,())]:List aL),()),())).bind fun v9=>some (v9.1,C,())) bH by rw [xN];exact a'.ret aP dG)
theorem Xd{C:fo}(h:eY C)(n:Int)(hn:n≤1000):a' (Df (C,n,())) (fun w=>eO 25 w.2.1):=by
 show a' (J4 C n) _
 unfold J4
 refine(aj3 h n hn).bind fun v C aP hv=>(u6 aP 10).bind fun b C aP _=>?_
 have hsz:eO 25 v.2.1:=hv.sz.mono (by omega)
 refine a'.cond (a'.ret aP hsz) ?_
 refine(gC aP _).bind fun k C aP hk=>?_
 have h1:=hk.lo;have h2:=hk.hi (by have:=hv.len;show(0:Int)<(v.2.1.length:Int);omega)
 have h2:k<(v.2.1.length:Int):=h2
 refine(gC aP 9).bind fun z C aP _=>?_
 dsimp only
 have hi:k.toNat<v.2.1.length:=by omega
 have au:=hsz.get hi
 have Gj:=hv.fA hi
 have jA:(ak (J I v.2.1 k.toNat)).length≤24:=(hv.sz.get hi).cH
 rw [show aN v.2.1.length k=some k.toNat from Ay h1 h2]
 simp only [av,Nat.zero_add]
 refine a'.cond ((ko aP _ (by decide)).bind fun y C aP _=>a'.ret aP hsz) (a'.cond ((gC aP 5).bind fun y C aP _=>a'.ret aP (hsz.set _ ⟨au.fA,au.cH,au.each⟩)) (a'.cond ((ko aP _ (by decide)).bind fun y C aP _=>a'.ret aP (hsz.set _ ⟨au.fA,au.cH,au.each⟩))
  (a'.cond ?_ (a'.cond ?_ (a'.cond ((ko aP _ (by decide)).bind fun y C aP _=>a'.ret aP (hsz.set _ ⟨au.fA,au.cH,au.each⟩)) (a'.cond ((ko aP _ (by decide)).bind fun y C aP _=>a'.ret aP (hsz.set _ ⟨au.fA,au.cH,au.each⟩)) (a'.cond ?_ ((gC aP 5).bind fun y C aP _=>a'.ret aP (hsz.set _ ⟨au.fA,au.cH,au.each⟩)))))))))
 ·rw [cG (n:=(J I v.2.1 k.toNat).2.2.2.2.2.1.length +([120]:List UInt8).length) (by have:(J I v.2.1 k.toNat).2.2.2.2.2.1.length≤64:=Gj;simp;omega)]
  refine a'.ret aP (hsz.set _ ⟨?_,au.cH,au.each⟩)
  show((bM (J I v.2.1 k.toNat))++([120]:List UInt8)).length≤200
  simp only [List.length_append,List.length_singleton];omega
 ·refine(NU aP 2 _ (by decide) (by decide)).bind fun y C aP aO=>(gC aP 6).bind fun u C aP _=>?_
  dsimp only
  rw [show Nat.beq k.toNat k.toNat=true from Nat.beq_refl _]
  simp only [cond_true]
  rw [cG (n:=(J I v.2.1 k.toNat).2.2.2.2.2.2.1.length+[((y,u,()):aw.D)].length) (by have:(J I v.2.1 k.toNat).2.2.2.2.2.2.1.length≤24:=jA;simp;omega)]
  refine a'.ret aP (hsz.set _ ⟨au.fA,?_,?_⟩)
  ·show((ak (J I v.2.1 k.toNat))++[((y,u,()):aw.D)]).length≤25
   simp only [List.length_append,List.length_singleton];omega
  ·intro d ag
   have ag:d∈(ak (J I v.2.1 k.toNat))++[((y,u,()):aw.D)]:=ag
   rcases List.mem_append.1 ag with ag | ag
   ·exact au.each d ag
   ·rw [List.mem_singleton.1 ag];show y.length≤8;omega
 ·rw [cG (by have:=hv.len;simp;omega)]
  refine a'.ret aP (hv.sz.app ⟨?_,?_,fun d ag=>by cases ag⟩)
  ·show([]:aF).length≤200;simp
  ·show([]:List aw.D).length≤24;simp
theorem aj4(a:List Int)(ha:a.length≤1048576):∀(r q:Nat) (h:Int) (i:Nat),i+r=4000→r<q→∃C,wq q a h (i:Int)=some (C,())∧eY C:=by
 intro r
 induction r with
 | zero =>
  intro q h i hi hq
  obtain ⟨q,rfl,_⟩:=fuel hq
  refine⟨(a,0,h,()),?_,Int.le_refl _,Int.natCast_nonneg _,ha⟩
  show wo (wq q) a h (i:Int)=_
  unfold wo
  rw [mm (show ¬(i:Int)<4000 by omega)]
  cases decide ((i:Int)<(a.length:Int)) <;> rfl
 | succ r ih =>
  intro q h i hi hq
  obtain ⟨q,rfl,hq⟩:=fuel hq
  show ∃C,wo (wq q) a h (i:Int)=_∧_
  unfold wo
  rw [nk (show(i:Int)<4000 by omega)]
  by_cases hl:i<a.length
  ·rw [ch hl,bw hl]
   simp only [cond_true,av]
   rw [dD (a:=(i:Int)+1) (by omega) (by omega)]
   exact ih q _ (i+1) (by omega) (by omega)
  ·rw [cF (by omega)]
   exact⟨(a,0,h,()),rfl,Int.le_refl _,Int.natCast_nonneg _,ha⟩
theorem Xe(a:List Int)(ha:a.length≤1048576):∃C,B_ (a,())=some (C,())∧eY C:=aj4 a ha 4000 aR _ 0 (by omega) (by rw [qL];omega)
theorem size_le(a:List Int)(n:Int):∃k,Dg (a,n,())=some (k,())∧k≤n:=by
 show ∃k,J5 a n=_∧_
 unfold J5
 by_cases h:aG (2+aG (Int.tdiv (a.length:Int) 20))>n
 ·rw [nk h];exact⟨n,rfl,Int.le_refl _⟩
 ·rw [mm h];exact⟨_,rfl,by omega⟩
theorem aj5(a:List Int)(ha:a.length≤1048576):∃v c x,J8 (a,())=some (v,c,x,())∧eO 25 v.2.1:=by
 obtain ⟨C,hn,aP⟩:=Xe a ha
 obtain ⟨k,hs,hk⟩:=size_le a 50
 show ∃v c x,J7 a=_∧_
 unfold J7
 rw [hn,hs]
 simp only [av]
 obtain ⟨v,C,h1,aP,hv⟩:=Xd aP k (by omega)
 rw [h1];simp only [av]
 obtain ⟨c,C,h2,aP,_⟩:=W6 aP
 rw [h2];simp only [av]
 obtain ⟨x,C,h3,aP,_⟩:=W7 aP v hv (by omega)
 rw [h3]
 exact⟨v,c,x,rfl,hv⟩
theorem eO.vb{v:af.D}(h:eO 25 v.2.1):uS v:=af0 (Nat.le_trans (Wv h) (by decide))
theorem aj6(a:List Int):Jd (a,())=some (decide ((a.length:Int)>1048576),()):=rfl
theorem aj7(v:af.D)(x:aL)(i:Int)(q:Nat):∀(r j:Nat),j+r=(ak x).length→(ak x).length≤1000→(ph (q+r+1)).cR i (j:Int) v v x x=(ph q).bh (aG (i+1)) v v:=by
 intro r
 induction r with
 | zero =>
  intro j hj hl
  show cond (decide ((j:Int)<((ak x).length:Int))) _ ((ph q).bh (aG (i+1)) v v)=_
  rw [cF (by omega)];rfl
 | succ r ih =>
  intro j hj hl
  show cond (decide ((j:Int)<((ak x).length:Int))) (Option.bind (aN (ak x).length (j:Int)) fun v1=>Option.bind (aN (ak x).length (j:Int)) fun v2 =>
   cond (!(br (J aw (ak x) v1).1 (J aw (ak x) v2).1&&((J aw (ak x) v1).2.1 ==(J aw (ak x) v2).2.1&&true))) (some (false,())) ((ph (q+r+1)).cR i (aG ((j:Int)+1)) v v x x)) _=_
  rw [ch (by omega),bw (by omega)]
  simp only [cond_true,av,B3,beq_self_eq_true,Bool.and_self,Bool.not_true,cond_false]
  rw [dD (a:=(j:Int)+1) (by omega) (by omega)]
  exact ih (j+1) (by omega) hl
theorem aj8(v:af.D)(hl:v.2.1.length≤1000)(hn:∀x,x∈v.2.1→(ak x).length≤1000):∀(r q i:Nat),i+r=v.2.1.length→r*1010<q→(ph q).bh (i:Int) v v=some (true,()):=by
 intro r
 induction r with
 | zero =>
  intro q i hi hq
  obtain ⟨q,rfl,_⟩:=fuel (show 0<q by omega)
  show zq (ph q) (i:Int) v v=_
  unfold zq
  rw [cF (by omega)];rfl
 | succ r ih =>
  intro q i hi hq
  obtain ⟨q,rfl,ajX⟩:=fuel (show 0<q by omega)
  show zq (ph q) (i:Int) v v=_
  unfold zq
  rw [ch (by omega),bw (by omega)]
  simp only [cond_true,av,B3,bne_self_eq_false,Bool.not_true,cond_false]
  have hx:=hn _ (cE (t:=I) (show i<v.2.1.length by omega))
  generalize hN:(ak (J I v.2.1 i)).length=N at hx
  obtain ⟨p,rfl⟩:∃p,q=p+N+1:=⟨q-N-1,by omega⟩
  have h1:=aj7 v (J I v.2.1 i) (i:Int) p N 0 (by omega) (by omega)
  rw [dD (a:=(i:Int)+1) (by omega) (by omega)] at h1
  have au:r*1010<p:=by
   clear h1 ih
   rw [Nat.add_mul,Nat.one_mul] at hq
   generalize r*1010=R at hq ⊢
   omega
  exact h1.trans (ih p (i+1) (by omega) au)
theorem aj9{v:af.D}{n:Nat}(h:eO n v.2.1)(hn:n≤1000):Lg (v,v,())=some (true,()):=by
 show EY (ph aR) v v=_
 unfold EY
 simp only [bne_self_eq_false,cond_false]
 have hl:=h.len
 exact aj8 v (by omega) (fun x hx=>by have:=(h.po x hx).cH;omega) v.2.1.length aR 0 (by omega) (by rw [qL];omega)
theorem bH.vb{v:af.D}(h:bH v):uS v:=(h.sz.mono (by omega)).vb
theorem bH.ak3{v:af.D}(h:bH v){i:Nat}(hi:i<v.2.1.length)(hk:kindOf (J I v.2.1 i)=2) :
  ∃B K:Nat,abB (v,aX (J I v.2.1 i),())=some ((B:Int),(K:Int),())∧(eM (J I v.2.1 i)>0→(B:Int)≤eM (J I v.2.1 i))∧(ez (J I v.2.1 i)>0→(K:Int)≤ez (J I v.2.1 i)):=by
 have hb:=h.vb
 show ∃B K:Nat,Lh v (aX (J I v.2.1 i))=_∧_
 unfold Lh
 rw [FE v hb,py.2 h]
 simp only [av,Bool.not_true,cond_false]
 rw [FH v _ hb.len]
 have ag:kN v.2.1 (aX (J I v.2.1 i))=true:=by
  have:=h.fO i hi
  unfold kN
  rw [show bl v.2.1 (aX (J I v.2.1 i))=some i from this]
  exact cD hk
 rw [ag]
 simp only [av,Bool.not_true,cond_false]
 obtain ⟨out,hf,he⟩:=MG v (aX (J I v.2.1 i)) hb.len hb.cH hb.bytes
 obtain ⟨kZ,hO⟩:=MH h.fO h.hp hf
 rw [he]
 refine⟨_,_,rfl,?_,?_⟩
 ·intro hm
  have:=NJ.1 h.over _ (cE hi)
  unfold hW at this
  rw [decide_eq_true hm] at this
  simp only [Bool.true_and,Bool.or_eq_false_iff,decide_eq_false_iff_not,Int.not_lt] at this
  rw [kZ];exact this.1
 ·intro hm
  have:=NJ.1 h.over _ (cE hi)
  unfold hW at this
  rw [decide_eq_true hm] at this
  simp only [Bool.true_and,Bool.or_eq_false_iff,decide_eq_false_iff_not,Int.not_lt] at this
  rw [hO];exact this.2
theorem bH.parent{v:af.D}(h:bH v){i:Nat}(hi:i<v.2.1.length)(hk:kindOf (J I v.2.1 i)=2):∃p,abC (v,aX (J I v.2.1 i),())=some (p,())∧p≠0:=by
 have hb:=h.vb
 show ∃p,Li v (aX (J I v.2.1 i))=_∧_
 unfold Li
 rw [FE v hb,py.2 h]
 simp only [av,Bool.not_true,cond_false]
 rw [FH v _ hb.len]
 have ag:kN v.2.1 (aX (J I v.2.1 i))=true:=by
  unfold kN
  rw [show bl v.2.1 (aX (J I v.2.1 i))=some i from h.fO i hi]
  exact cD hk
 rw [ag]
 simp only [av,Bool.not_true,cond_false]
 rw [U' v _ hb.len hb.cH]
 refine⟨_,rfl,?_⟩
 obtain ⟨j,hj,_⟩:=FO (h.agl hb) (aX (J I v.2.1 i))
 obtain ⟨ye,iZ⟩:=bS hj
 have:=(h.ids j ye).1
 have e:aX (J I v.2.1 j)=jZ v.2.1 (aX (J I v.2.1 i)):=iZ
 omega
theorem bH.ak4{v:af.D}(h:bH v){i:Nat}(hi:i<v.2.1.length):∃k,abz (v,aX (J I v.2.1 i),())=some (k,())∧1≤k∧k=ox v.2.1 (J I v.2.1 i):=by
 have hb:=h.vb
 show ∃k,Lf v (aX (J I v.2.1 i))=_∧_
 unfold Lf
 rw [mu v _ hb.len (show bl v.2.1 (aX (J I v.2.1 i))=some i from h.fO i hi)]
 simp only [av,List.isEmpty_cons,Bool.not_false,cond_true]
 rw [FE v hb,py.2 h]
 simp only [av,cond_true]
 have hn:=(h.sz.get hi).cH
 rw [show J I [J I v.2.1 i] 0=J I v.2.1 i from rfl,Vc v _ hb.len hb.cH (by omega)]
 refine⟨_,rfl,?_,rfl⟩
 unfold ox
 by_cases hk:kindOf (J I v.2.1 i)=2
 ·rw [dC hk];simp only [cond_false];omega
 ·rw [cY hk]
  simp only [cond_true]
  have hi0:1≤i:=by
   rcases Nat.eq_zero_or_pos i with h0 | h0
   ·subst h0;exact absurd h.root.2 hk
   ·exact h0
  have fp:=h.reach i hi0 hi
  have hne:cg v.2.1 (J I v.2.1 i).1≠0:=by
   intro h0
   have hE:∃a,E v.2.1 a (J I v.2.1 i).1:=by
    cases fp with
    | single h1=>exact⟨_,h1⟩
    | tail _ h1=>exact⟨_,h1⟩
   obtain ⟨a,j,d,hj,ag,he⟩:=hE
   exact F3 h0 _ (cE (bS hj).1) d ag he
  omega
theorem oB.next{v:af.D}{c:aH.D}{x:aK.D}{w:af.D}(h:oB v c x w):w.1=v.1∨w.1=v.1+1:=by
 rcases h with⟨_,h⟩ | ⟨_,h⟩ | ⟨_,h⟩ | ⟨_,h⟩ | ⟨_,h⟩ | ⟨_,h⟩ | ⟨_,h⟩ | ⟨_,h⟩ | ⟨_,h⟩
 ·obtain ⟨r,i,_,_,_,_,_,_,_,_,_,rfl,_⟩:=h.out;exact .inr rfl
 ·obtain ⟨r,i,j,_,_,_,_,_,_,_,_,_,_,rfl⟩:=h.out;exact .inl rfl
 ·obtain ⟨r,t,i,j,_,_,_,_,_,_,_,_,_,_,rfl,_⟩:=h.out;exact .inl rfl
 ·obtain ⟨r,t,j,_,_,_,_,_,_,_,_,h⟩:=h.out
  rcases h with⟨_,rfl⟩ | ⟨_,_,l,ir,it,_,rfl,_⟩
  ·exact .inl rfl
  ·exact .inl rfl
 ·obtain ⟨r,i,_,_,_,_,_,_,_,h⟩:=h.out
  rcases h with⟨_,_,rfl⟩ | ⟨_,_,rfl,_⟩
  ·exact .inl rfl
  ·exact .inl rfl
 ·obtain ⟨_,_,r,i,_,_,_,_,_,rfl⟩:=h.out;exact .inl rfl
 ·obtain ⟨_,_,r,i,_,_,_,rfl⟩:=h.out;exact .inl rfl
 ·obtain ⟨_,_,_,r,i,_,_,_,_,rfl,_⟩:=h.out;exact .inl rfl
 ·rw [h];exact .inl rfl
theorem Xf(a:List Int)(ha:a.length≤1048576):∃v c p b,EZ (a,())=some (v,c,p,b,()):=by
 obtain ⟨C,hn,aP⟩:=Xe a ha
 obtain ⟨k,hs,hk⟩:=size_le a 50
 show ∃v c p b,Lk a=_
 unfold Lk
 rw [hn,hs]
 simp only [av]
 obtain ⟨v,C,h1,aP,hv⟩:=Xd aP k (by omega)
 rw [h1];simp only [av]
 obtain ⟨c,C,h2,aP,_⟩:=W6 aP
 rw [h2];simp only [av]
 obtain ⟨p,C,h3,aP,_⟩:=NV aP v hv (by omega)
 rw [h3];simp only [av]
 obtain ⟨b,C,h4,aP,_⟩:=u6 aP 2
 rw [h4]
 exact⟨v,c,p,b,rfl⟩
theorem aj_(a:List Int)(s:Int):∀(r q i:Nat) (x:List Int),i+r=600→x.length=i+1→r<q→∃y,wT q a s (i:Int) x=some (y,())∧y.length≤601:=by
 intro r
 induction r with
 | zero =>
  intro q i x hi hx hq
  obtain ⟨q,rfl,_⟩:=fuel hq
  refine⟨x,?_,by omega⟩
  show wS (wT q) a s (i:Int) x=_
  unfold wS
  rw [mm (show ¬(i:Int)<600 by omega)]
  cases decide ((i:Int)<(a.length:Int)) <;> rfl
 | succ r ih =>
  intro q i x hi hx hq
  obtain ⟨q,rfl,hq⟩:=fuel hq
  show ∃y,wS (wT q) a s (i:Int) x=_∧_
  unfold wS
  rw [nk (show(i:Int)<600 by omega)]
  by_cases hl:i<a.length
  ·rw [ch hl,bw hl]
   simp only [cond_true,av]
   rw [cG (by simp;omega)]
   simp only [cond_true]
   unfold SB
   rw [dD (a:=(i:Int)+1) (by omega) (by omega)]
   exact ih q (i+1) _ (by omega) (by simp;omega) (by omega)
  ·rw [cF (by omega)]
   exact⟨x,rfl,by omega⟩
theorem aj'(a:List Int)(s:Int):∃y,Ll (a,s,())=some (y,())∧y.length≤601:=aj_ a s 600 aR 0 _ (by omega) (by simp) (by rw [qL];omega)
def oC:aH.D:=(0,0,([]:List Int),())
theorem Gv:ng ()=some (oC,()):=rfl
theorem Gw:dm oC=true:=by kernel_rfl
theorem Xg{v:af.D}(hv:bH v)(p:aF)(bZ:Bool):wU (v,oC,p,bZ,())=fk (v,oC,p,bZ,()):=by
 show Lm v oC p bZ=rM v oC p bZ
 unfold Lm
 rw [MJ v hv.vb,py.2 hv,zP,Gw]
 rfl
section
variable(v w:af.D)(a b:aJ.D)
def xy(id:Int)(e:aw.D):Bool:=id==bY b&&(br e.1 (nameOf b)&&(e.2.1==bb a))
def Gz:Prop:=∀x,x∈w.2.1→∀e,e∈ak x→aX x=bY a→e.1≠nameOf a
theorem aka(aA:Gz w a){i:Nat}(hi:i<w.2.1.length){e:aw.D}(he:e∈ak (J I w.2.1 i))(q:Nat)(f:Bool)(j:Int) :
  (gA (q+1)).hS f (i:Int) j v a b w e=(gA q).rI f (i:Int) (aG (j+1)) v a b w:=by
 show Ls (gA q) f (i:Int) j v a b w e=_
 unfold Ls
 rw [bw hi]
 simp only [av,Nat.zero_add]
 show cond (aX (J I w.2.1 i)==bY a) (cond (br e.1 (nameOf a)) _ _) _=_
 by_cases h:aX (J I w.2.1 i)=bY a
 ·rw [cD h]
  have hne:=aA _ (cE hi) e he h
  have:br e.1 (nameOf a)=false:=by unfold br;simpa using hne
  rw [this];rfl
 ·rw [cd h];rfl
theorem akb(aA:Gz w a){i:Nat}(hi:i<w.2.1.length)(hn:(ak (J I w.2.1 i)).length≤1000):∀(r q j:Nat) (f:Bool),j+r=(ak (J I w.2.1 i)).length →
  (gA (q+2*r+1)).rI f (i:Int) (j:Int) v a b w=(gA q).fc (f||((ak (J I w.2.1 i)).drop j).any (xy a b (aX (J I w.2.1 i)))) (aG ((i:Int)+1)) v a b w:=by
 intro r
 induction r with
 | zero =>
  intro q j f hj
  show zt (gA q) f (i:Int) (j:Int) v a b w=_
  unfold zt
  rw [bw hi]
  simp only [av,Nat.zero_add]
  show cond (decide ((j:Int)<((ak (J I w.2.1 i)).length:Int))) _ _=_
  rw [cF (by omega),List.drop_of_length_le (by omega)]
  simp only [cond_false,List.any_nil,Bool.or_false]
 | succ r ih =>
  intro q j f hj
  have hjl:j<(ak (J I w.2.1 i)).length:=by omega
  rw [show q+2*(r+1)+1=(q+2*r+1)+1+1 by omega]
  show zt (gA ((q+2*r+1)+1)) f (i:Int) (j:Int) v a b w=_
  unfold zt
  rw [bw hi]
  simp only [av,Nat.zero_add]
  show cond (decide ((j:Int)<((ak (J I w.2.1 i)).length:Int))) (Option.bind (aN (ak (J I w.2.1 i)).length (j:Int)) fun v3=>cond f ((gA ((q+2*r+1)+1)).hS true (i:Int) (j:Int) v a b w (J aw (ak (J I w.2.1 i)) v3))
   (cond (aX (J I w.2.1 i)==bY b) (cond (br (J aw (ak (J I w.2.1 i)) v3).1 (nameOf b)) ((gA ((q+2*r+1)+1)).hS ((J aw (ak (J I w.2.1 i)) v3).2.1==bb a) (i:Int) (j:Int) v a b w (J aw (ak (J I w.2.1 i)) v3)) ((gA ((q+2*r+1)+1)).hS false (i:Int) (j:Int) v a b w (J aw (ak (J I w.2.1 i)) v3)))
    ((gA ((q+2*r+1)+1)).hS false (i:Int) (j:Int) v a b w (J aw (ak (J I w.2.1 i)) v3)))) _=_
  rw [ch hjl,bw hjl]
  simp only [cond_true,av]
  have he:=cE (t:=aw) hjl
  have FA:∀g:Bool,(gA ((q+2*r+1)+1)).hS g (i:Int) (j:Int) v a b w (J aw (ak (J I w.2.1 i)) j)=(gA q).fc (g||((ak (J I w.2.1 i)).drop (j+1)).any (xy a b (aX (J I w.2.1 i)))) (aG ((i:Int)+1)) v a b w:=by
   intro g
   rw [aka v w a b aA hi he,dD (a:=(j:Int)+1) (by omega) (by omega)]
   exact ih q (j+1) g (by omega)
  simp only [FA]
  rw [show(ak (J I w.2.1 i)).drop j=J aw (ak (J I w.2.1 i)) j ::(ak (J I w.2.1 i)).drop (j+1) by rw [c7 hjl];exact List.drop_eq_getElem_cons hjl]
  rw [List.any_cons]
  unfold xy
  cases f <;> cases aX (J I w.2.1 i)==bY b <;> cases br (J aw (ak (J I w.2.1 i)) j).1 (nameOf b) <;> rfl
def Xh(f:Bool):Option (Bool×Unit):=cond f (cond ((w.2.1.length:Int) ==(v.2.1.length:Int)) (some (w.1==v.1,())) (some (false,()))) (some (false,()))
theorem akc(aA:Gz w a)(hl:w.2.1.length≤1000)(hn:∀x,x∈w.2.1→(ak x).length≤1000):∀(r q i:Nat) (f:Bool),i+r=w.2.1.length→r*3000<q →
  (gA q).fc f (i:Int) v a b w=Xh v w (f||(w.2.1.drop i).any fun x=>(ak x).any (xy a b (aX x))):=by
 intro r
 induction r with
 | zero =>
  intro q i f hi hq
  obtain ⟨q,rfl,_⟩:=fuel (show 0<q by omega)
  show zs (gA q) f (i:Int) v a b w=_
  unfold zs
  rw [cF (by omega),List.drop_of_length_le (by omega)]
  simp only [cond_false,List.any_nil,Bool.or_false]
  rfl
 | succ r ih =>
  intro q i f hi hq
  obtain ⟨q,rfl,_⟩:=fuel (show 0<q by omega)
  have bJ:i<w.2.1.length:=by omega
  show zs (gA q) f (i:Int) v a b w=_
  unfold zs
  rw [ch bJ]
  simp only [cond_true]
  have hN:=hn _ (cE bJ)
  have e1:∃p,q=p+2*(ak (J I w.2.1 i)).length+1∧r*3000<p:=by
   clear ih
   rw [Nat.add_mul,Nat.one_mul] at hq
   generalize r*3000=R at hq ⊢
   exact⟨q-2*(ak (J I w.2.1 i)).length-1,by omega,by omega⟩
  obtain ⟨p,rfl,au⟩:=e1
  have h1:=akb v w a b aA bJ hN (ak (J I w.2.1 i)).length p 0 f (by omega)
  rw [dD (a:=(i:Int)+1) (by omega) (by omega),List.drop_zero] at h1
  refine h1.trans ((ih p (i+1) _ (by omega) au).trans ?_)
  rw [show w.2.1.drop i=J I w.2.1 i :: w.2.1.drop (i+1) by rw [c7 bJ];exact List.drop_eq_getElem_cons bJ,List.any_cons,Bool.or_assoc]
end
theorem NX(l:List aL)(ir it:Nat)(cq dF:aF)(bA:Int):(c9 l ir cq it dF bA).length=l.length:=by unfold c9 gn cP;rw [List.length_set,List.length_set]
theorem akd{l:List aL}{a b:aJ.D}{ir it:Nat}(h:pG l (bY a) (bY b) ir it (nameOf a) (nameOf b) (bb a)):(c9 l ir (nameOf a) it (nameOf b) (bb a)).any (fun x=>(ak x).any (xy a b (aX x)))=true:=by
 have gD:=(bS h.ht).1
 have hl:it<(cP l ir (nameOf a)).length:=by unfold cP;rw [List.length_set];exact gD
 refine List.any_eq_true.2 ⟨J I (c9 l ir (nameOf a) it (nameOf b) (bb a)) it,cE (by rw [NX];exact gD),?_⟩
 have aA:J I (c9 l ir (nameOf a) it (nameOf b) (bb a)) it=b0 (J I (cP l ir (nameOf a)) it) (ins (ak (J I (cP l ir (nameOf a)) it)) (nameOf b) (bb a)):=by
  unfold c9 gn
  rw [gR hl,if_pos rfl]
 rw [aA,iR]
 have b3:aX (b0 (J I (cP l ir (nameOf a)) it) (ins (ak (J I (cP l ir (nameOf a)) it)) (nameOf b) (bb a)))=bY b:=by
  show aX (J I (cP l ir (nameOf a)) it)=_
  have h1:aX (J I l it)=bY b:=(bS h.ht).2
  unfold cP
  rw [gR (bS h.hr).1]
  split
  ·rename_i e;rw [← h1,← e];rfl
  ·exact h1
 rw [b3]
 refine List.any_eq_true.2 ⟨(nameOf b,bb a,()),oy.2 (.inr rfl),?_⟩
 unfold xy
 rw [cD rfl,B3,cD rfl];rfl
theorem ake{l:List aL}{a b:aJ.D}{ir it:Nat}(h:pG l (bY a) (bY b) ir it (nameOf a) (nameOf b) (bb a))(n:Int):Gz (n,c9 l ir (nameOf a) it (nameOf b) (bb a),()) a:=by
 intro x hx e he b3
 have Gd:=(bS h.hr).1
 have gD:=(bS h.ht).1
 have hx:x∈c9 l ir (nameOf a) it (nameOf b) (bb a):=hx
 obtain ⟨i,hi,rfl⟩:=e8 hx
 have c5:i<l.length:=by have:=NX l ir it (nameOf a) (nameOf b) (bb a);omega
 have hl:it<(cP l ir (nameOf a)).length:=by unfold cP;rw [List.length_set];exact gD
 have akf:=h.st.fO
 have Xi:∀k,J I (cP l ir (nameOf a)) k=if ir=k then b0 (J I l ir) (b9 (ak (J I l ir)) (nameOf a)) else J I l k:=fun k=>by unfold cP;rw [gR Gd]
 have Xj:∀k,J I (c9 l ir (nameOf a) it (nameOf b) (bb a)) k=if it=k then b0 (J I (cP l ir (nameOf a)) it) (ins (ak (J I (cP l ir (nameOf a)) it)) (nameOf b) (bb a)) else J I (cP l ir (nameOf a)) k:=fun k=>by unfold c9 gn;rw [gR hl]
 have akg:∀k,aX (J I (c9 l ir (nameOf a) it (nameOf b) (bb a)) k)=aX (J I l k):=by
  intro k
  have hu:∀k,aX (J I (cP l ir (nameOf a)) k)=aX (J I l k):=by
   intro k
   rw [Xi];split
   ·rename_i e;subst e;rfl
   ·rfl
  rw [Xj];split
  ·rename_i e;subst e;exact hu _
  ·exact hu _
 have eL:i=ir:=by
  have h1:=akf i c5
  have h2:aX (J I l i)=bY a:=by rw [← akg];exact b3
  have h3:bl l (aX (J I l i))=some i:=h1
  rw [h2,h.hr] at h3
  exact(aV h3).symm
 subst eL
 have qe:∀e,e∈ak (J I (cP l i (nameOf a)) i)→e.1≠nameOf a:=by
  intro e he
  rw [Xi,if_pos rfl,iR] at he
  exact V0 e he
 have he:e∈ak (J I (c9 l i (nameOf a) it (nameOf b) (bb a)) i):=he
 rw [Xj] at he
 by_cases hii:it=i
 ·rw [if_pos hii,iR] at he
  rcases oy.1 he with he | rfl
  ·rw [hii] at he;exact qe e he
  ·exact(h.ne hii.symm).symm
 ·rw [if_neg hii] at he
  exact qe e he
theorem ai_(z:List Int):SD (z,())=some (true,()):=by
 obtain ⟨q,hq,ak5⟩:=jb 5
 show E0 (gA aR) z=_
 unfold E0
 rw [aj6]
 simp only [av]
 by_cases ha:(z.length:Int)>1048576
 ·rw [nk ha];rfl
 rw [mm ha]
 simp only [cond_false]
 obtain ⟨v,Hz,ll,ag,hsz⟩:=aj5 z (by omega)
 obtain ⟨v1,c1,p,iF,hw1⟩:=Xf z (by omega)
 obtain ⟨z2,hz2,ak6⟩:=aj' z 4
 obtain ⟨v2,gf,d_,pV,hw2⟩:=Xf z2 (by omega)
 rw [ag,hw1,hz2]
 simp only [av]
 rw [hw2,MJ v hsz.vb]
 simp only [av]
 cases ca:jY v with
 | false=>rfl
 | true =>
 simp only [Bool.not_true,cond_false,lx,tu]
 have hv:=py.1 ca
 rw [Gv]
 simp only [av]
 have Xk:∀p:aF,∃r,fk (v,oC,p,false,())=some (r,()):=by
  intro p
  by_cases au:p.length≤1048576
  ·obtain ⟨r,_,_,h⟩:=xg v oC (0,([]:aF),([]:aF),0,0,([]:aF),()) p false hv.iv Gw au
   exact⟨r,h⟩
  ·refine⟨(0,([]:aF),0,22,()),?_⟩
   show rM v oC p false=_
   unfold rM
   rw [zR,show pw p=false from by
    rw [← Bool.not_eq_true]
    intro h
    unfold pw at h
    rw [Bool.and_eq_true] at h
    have:=FP h.1
    omega]
   rfl
 obtain ⟨a,hA⟩:=Xk p
 obtain ⟨b,fp⟩:=Xk d_
 rw [Xg hv,hA]
 simp only [av]
 rw [hq]
 show Ln (gA (q+4)) p d_ v a=_
 unfold Ln
 rw [Gv]
 simp only [av,lx,tu]
 rw [Xg hv,fp]
 simp only [av]
 show Lo (gA (q+3)) p d_ v a b=_
 unfold Lo
 rw [Gv]
 simp only [av,lx,tu]
 obtain ⟨w,k,t,hs,hi,NY⟩:=aip v oC (12,p,d_,0,0,([]:aF),()) hsz.vb
 rw [hi]
 simp only [av]
 show Lp (gA (q+2)) p d_ v a b w (k,t,())=_
 unfold Lp
 rw [Gv]
 simp only [av,lx,tu]
 rw [hs]
 simp only [av]
 show Lq (gA (q+1)) v a b w (k,t,()) (k,t,())=_
 unfold Lq
 simp only [B3,beq_self_eq_true,Bool.and_self,Bool.not_true,cond_false]
 have Xl:k=0∨w=v→(gA (q+1)).rJ v w (k,t,())=some (true,()):=by
  intro h
  show Lr (gA q) v w (k,t,())=_
  unfold Lr
  by_cases h0:k=0
  ·rw [cD h0];rfl
  ·have e:=h.resolve_left h0
   subst e
   rw [cd h0,aj9 hv.sz (by omega)];rfl
 by_cases h0:k=0
 case neg =>
  rw [cY h0]
  exact Xl (.inr (NY.no ca h0))
 rw [dC h0]
 simp only [cond_false]
 show cond (bI b != 2) _ _=_
 by_cases hb2:bI b=2
 case neg=>rw [cY hb2];exact Xl (.inl h0)
 rw [dC hb2]
 simp only [cond_false]
 have Af:u2 v oC (12,p,d_,0,0,([]:aF),()) w:=by
  have pL:aE (12,p,d_,0,0,([]:aF),())=12:=rfl
  have hcall:jW (12,p,d_,0,0,([]:aF),())=true:=by
   cases hc:jW (12,p,d_,0,0,([]:aF),()) with
   | true=>rfl
   | false =>
    have:=(NY.call ca Gw (.inl hc)).2.1
    rw [h0] at this;cases this
  rcases NY.done ca Gw hcall (by rw [pL];omega) h0 with⟨ag,_⟩ | ⟨ag,_⟩ | ⟨ag,_⟩ | ⟨_,ag⟩ | ⟨ag,_⟩ | ⟨ag,_⟩ | ⟨ag,_⟩ | ⟨ag,_⟩ | ⟨ag,_⟩
  case inr.inr.inr.inl=>exact ag
  all_goals (exfalso;rw [pL] at ag;omega)
 obtain ⟨r,c8,j,hr,b1,nx,hj,ht,htn,pH,⟨hw1,hw2⟩,h⟩:=Af.out
 have akh:r=a:=by
  have:some (r,())=some (a,()):=hw1.symm.trans hA
  exact congrArg Prod.fst (aV this)
 have aki:c8=b:=by
  have:some (c8,())=some (b,()):=hw2.symm.trans fp
  exact congrArg Prod.fst (aV this)
 subst akh aki
 have lV:=(ht.new hb2 htn).1
 have NS:=(hr.named b1 nx).1
 rcases h with⟨he,_⟩ | ⟨_,_,l,ir,it,hpre,rfl,_,h⟩
 ·exact absurd (he.symm.trans lV) NS
 have hl:l=v.2.1:=by
  rcases h with⟨_,h,_⟩ | ⟨i2,ew,_,_,iZ,_⟩
  ·exact h
  ·exfalso
   rw [lV] at iZ
   have h1:=bS iZ
   have h2:=hv.ids ew h1.1
   have h3:aX (J I v.2.1 ew)=0:=h1.2
   omega
 subst hl
 have Xm:eO 30 (c9 v.2.1 ir (nameOf r) it (nameOf c8) (bb r)):=(Wx hv.sz (bS hpre.hr).1 (bS hpre.ht).1 _ (Al (ht.new hb2 htn).2.1) _).mono (by omega)
 have hlen:=Xm.len
 have wi:=akc v (v.1,c9 v.2.1 ir (nameOf r) it (nameOf c8) (bb r),()) r c8 (ake hpre _) (by show(c9 _ _ _ _ _ _).length≤1000;omega) (fun x hx=>Nat.le_trans (Xm.po x hx).cH (by omega)) (c9 v.2.1 ir (nameOf r) it (nameOf c8) (bb r)).length (q+1) 0 false (by show 0+_=(c9 _ _ _ _ _ _).length;omega) (by omega)
 refine wi.trans ?_
 rw [List.drop_zero,show List.any (((v.1,c9 v.2.1 ir (nameOf r) it (nameOf c8) (bb r),()):af.D)).2.1 _=true from akd hpre]
 unfold Xh
 rw [show(((v.1,c9 v.2.1 ir (nameOf r) it (nameOf c8) (bb r),()):af.D)).2.1.length=v.2.1.length from NX _ _ _ _ _ _]
 rw [cD rfl]
 show some ((v.1==v.1),())=_
 rw [cD rfl]
end Go.LM.kc
