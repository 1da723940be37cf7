/- Insert, Join, Repeat and DeleteFunc of the library keep their contracts. Conditions: each theorem's own hypotheses. -/
import Derived.Test.YtlkbjdmfbadhaaaGreatDoorZLmd
import Derived.Shelf.Spec.SlicesInsertGrow
import Derived.Test.YtlkbjdmfbadhaaaGreatDoorChecked
import Derived.Lib.Join
import Derived.Lib.Repeat
import Derived.Shelf.Strings.OnBuilder
import Derived.Shelf.Strings.Repeat
import Derived.Test.YtlkbjdmfbadhaaaGreatDoorProg
set_option linter.unusedVariables false
set_option linter.unusedSimpArgs false
namespace Go.LM
open Go.Lib Go.Proofs Go.RowKit
theorem kit_setCells(b:Nat):∀(vs:List Value) (o:Nat) (w:World),World.setCells w b o vs=setCells w b o vs
 | [],_,_=>rfl
 |v::vs,o,w=>by rw[World.setCells,setCells];exact kit_setCells b vs (o+1) _
section
variable{P:Program}
theorem run_overlaps_no(w:World)(tS tR e:TypeId)(ht:P.underlying tS=some (.slice e))(hz:∀w,(Go.sizeOf e).run P w=.ok 2 w)
  (vb voff vc b o lb cb:Nat) (hv:fb w 2 vb voff) (hb:∃v,w.cell? (at_ b o)=some v) (hap:vb=b->¬(voff<o+lb*2/\o<voff+2)):
  (Extern.SlicesOverlaps.overlaps #[tS,tS] #[tR] #[.slice (some ⟨vb,voff,none⟩) 1 vc,.slice (some ⟨b,o,none⟩) lb cb]).run P w=.ok (.bool false) w:=by
 obtain⟨⟨⟨v,hcv⟩,hf⟩,hk⟩:=hv;have hk:∀k,w.frozen? (at_ vb k)=false:=hk.resolve_left (by omega)
 obtain⟨cv,ev,fv,hh,_⟩:=vZ hcv;obtain⟨u,hcu⟩:=hb;obtain⟨cu,eu,fu,hhu,hou⟩:=vZ hcu;by_cases hne:vb=b
 ·subst hne;have hap:=hap rfl
  change Sem.run P (α :=Value) (do
   let some t:=(#[tS,tS]:Array TypeId)[0]? |stuck "slices.overlaps: no parameter types"
   let .slice elem <-underlying t|stuck "slices.overlaps: slice type expected"
   let size <-sizeOf elem
   match (some ⟨vb,voff,none⟩:Option Addr),(some ⟨vb,o,none⟩:Option Addr)with
   |some a,some b=>
    if 1=0\/lb=0\/size=0 then pure (Value.bool false)
    else if a.block != b.block&&(<-frozen a)&&(<-frozen b) then unsupported .addressObserved
    else do
     if a.block != b.block then do
      noView a;noView b
      if <-mayBeOne a b then return Value.bool ((<-choose (.extern "sameAddr.stringBytes" 2))==1)
     pure (Value.bool (a.block==b.block&&a.off<b.off+lb*size&&b.off<a.off+1*size))
   |_,_=>pure (Value.bool false)) w=_
  by_cases h0:lb=0
  ·simp[run_underlying ht,hz,h0]
  ·simp[run_underlying ht,hz,h0,frozen,Sem.run];omega
 ·have hsz:cu.size≠0:=by
   rcases Nat.lt_or_ge o cu.size with h|h
   ·omega
   ·rw[Array.getElem?_eq_none h]at hou;cases hou
  exact run_overlaps_apart w tS tR e ht 2 hz ⟨vb,voff,none⟩ ⟨b,o,none⟩ 1 vc lb cb hne ev eu cv.size cu.size (by simp[World.shape?,hh]) (by simp[World.shape?,hhu]) hsz (hk voff) (hk cv.size)
theorem run_copy_cellsN(w:World)(dT sT ty elem:TypeId)(sz b o dLen dCap:Nat)(a:Addr)(sLen sCap:Nat)(cs:List Value)
  (hu:P.underlying dT=some (.slice elem)) (hs:(P.info? elem).map (·.size)=some sz) (hn:cs.length=Nat.min sLen dLen*sz)
  (hsrc:∀j v,cs[j]?=some v->w.cell? (a.add j)=some v) (hc:∀j,j<cs.length->(w.cell? ⟨b,o+j,none⟩).isSome=true) (hf:∀j,j<cs.length->w.frozen? ⟨b,o+j,none⟩=false) (h1:∀v∈cs,v.oneCell'=true):
  (Builtin.copy_ #[dT,sT] ty #[.slice (some ⟨b,o,none⟩) dLen dCap,.slice (some a) sLen sCap]).run P w=.ok (goInt (Nat.min sLen dLen)) (w.setCells b o cs):=by
 have hl:=run_loadCells_list (P:=P) w a cs hsrc;have hst:=run_storeCells_cells (P:=P) b o cs 0 w (by simpa using hc) (by simpa using hf) h1
 cases hq:P.info? elem with
 |none=>simp[hq]at hs
 |some i=>
  have hi:i.size=sz:=by simpa[hq]using hs
  simp[Builtin.copy_,run_underlying hu,Builtin.lenOf,Builtin.firstCells,sizeOf,typeInfo,hq,hi];rw[show(min sLen dLen)*sz=cs.length from hn.symm,hl];simp[hst]
theorem below_ext{w w':World}{F:ae}(h:Below w.heap.size w w'):Ext w w' F:=⟨h.os,h.tape,h.output,h.size,fun b hb=>.inl (h.block b hb)⟩
end
end Go.LM
namespace Go.Proofs
open Go.Shelf Go.RowKit Go.Lib
open Go.LM (at_ fb eS bV Ext)
theorem in_u46:Tryz.prog.underlying 148=some (.slice 187):=by kernel_rfl
theorem in_s60:(Tryz.prog.info? 187).map (·.size)=some 2:=by kernel_rfl
theorem in_z60:∀w,(Go.sizeOf 187).run Tryz.prog w=.ok 2 w:=fun w=>by
 have h:=in_s60
 cases hq:Tryz.prog.info? 187 with
 |none=>simp[hq]at h
 |some i=>simp only[hq,Option.map_some,Option.some.injEq]at h;simp[sizeOf,typeInfo,hq,h]
theorem in_mixed:Tryz.prog.follows .mixedOrders=true:=by kernel_rfl
theorem in_ov(w:World)(vb voff vc b o lb cb:Nat)(hv:fb w 2 vb voff)(hb:∃v,w.cell? (at_ b o)=some v)(hap:vb=b->¬(voff<o+lb*2/\o<voff+2)):
  (callFunc 302 #[.slice (some ⟨vb,voff,none⟩) 1 vc,.slice (some ⟨b,o,none⟩) lb cb]).run Tryz.prog w=.ok (.value (.bool false)) w:=by
 rw[run_callFunc_extern Tryz.func302 (by kernel_rfl) (by kernel_rfl) (by kernel_rfl) (e:=Extern.SlicesOverlaps.overlaps #[148,148] #[4]) (by kernel_rfl),
  Go.LM.run_overlaps_no w 148 4 187 in_u46 in_z60 vb voff vc b o lb cb hv hb hap]
 rfl
set_option maxHeartbeats 4000000 in
set_option maxRecDepth 100000 in
theorem ins_shift(b off n c i vb voff vc:Nat)(cs vs:List Value)(w:World)(hi:i<n)(hroom:n+1<=c)(hn:n+1<=68719476736)
  (hcl:cs.length=n*2) (hvl:vs.length=2)
  (hcs:bV w b off cs) (hwr:∀j,j<c*2->eS w b (off+j)) (hvs:bV w vb voff vs) (hv2:fb w 2 vb voff) (hvo:vb=b->voff+2<=off\/off+c*2<=voff) (h1c:∀v∈cs,v.oneCell'=true) (h1v:∀v∈vs,v.oneCell'=true):
  Calls Tryz.prog 288 #[.slice (some ⟨b,off,none⟩) n c,.int .i64 i,.slice (some ⟨vb,voff,none⟩) 1 vc] w fun e w'=>
   e=.returned (.slice (some ⟨b,off,none⟩) (n+1) c)/\w'=(w.drew.setCells b (off +(i+1)*2) (cs.drop (i*2))).setCells b (off+i*2) vs:=by
 have hz2:¬((i:Int)=(n:Int)):=by omega
 have hw1:IntKind.i64.wrap ((i:Int) +(1:Int))=(i:Int)+1:=by rw[IntKind.wrap_i64];omega
 have hin:i<=n:=by omega
 have hdl:(cs.drop (i*2)).length=(n-i)*2:=by rw[List.length_drop,hcl];omega
 have hsp:∀j,j<(n+1)*2->(w.cell? ⟨b,off+j,none⟩).isSome=true:=fun j hj=>by obtain⟨⟨v,hv⟩,_⟩:=hwr j (by omega);rw[hv];rfl
 have hfz:∀j,j<(n+1)*2->w.frozen? ⟨b,off+j,none⟩=false:=fun j hj=>(hwr j (by omega)).2
 have hov:∀lb cb,lb=n-i->(callFunc 302 #[.slice (some ⟨vb,voff,none⟩) 1 vc,.slice (some ⟨b,off +(i+1)*2,none⟩) lb cb]).run Tryz.prog w=.ok (.value (.bool false)) w:=fun lb cb hlb=>by
  subst hlb;refine in_ov w vb voff vc b _ _ cb hv2 (hwr ((i+1)*2) (by omega)).1 fun he=>?_
  have:=hvo he;omega
 have hcp1:∀(W:World) ty dc aP,(∀x,W.cell? x=w.cell? x)->(∀x,W.frozen? x=w.frozen? x)->(Builtin.copy_ #[148,148] ty #[.slice (some ⟨b,off +(i+1)*2,none⟩) (n-i) dc,.slice (some ⟨b,off+i*2,none⟩) (n+1-i) aP]).run Tryz.prog W=.ok (goInt ((n-i:Nat):Int)) (W.setCells b (off +(i+1)*2) (cs.drop (i*2))):=fun W ty dc aP hWc hWf=>by
  have:=Go.LM.run_copy_cellsN (P:=Tryz.prog) W 148 148 ty 187 2 b (off +(i+1)*2) (n-i) dc ⟨b,off+i*2,none⟩ (n+1-i) aP (cs.drop (i*2)) in_u46 in_s60 (by rw[hdl];simp only[Nat.min_def];split<;>omega)
   (fun j v hj=>by rw[Addr.add_lit,Nat.add_assoc,hWc];exact hcs (i*2+j) v (by rwa[List.getElem?_drop]at hj))
   (fun j hj=>by rw[hWc,Nat.add_assoc];exact hsp _ (by omega)) (fun j hj=>by rw[hWf,Nat.add_assoc];exact hfz _ (by omega)) (fun v hv=>h1c v (List.mem_of_mem_drop hv))
  rw[this];congr 2;simp only[Nat.min_def];split<;>omega
 have mixed:=in_mixed;have hb1:(0:Int)<=(i:Int)+1:=by omega
 have htn:((i:Int)+1).toNat=i+1:=by omega
 have hb2:¬(c=i+1):=by omega
 have hb3:(i:Int)<=(n:Int)+1:=by omega
 have hb4:¬(c=i):=by omega
 obtain⟨W1,hW1⟩:∃W1:World,W1=w.drew.setCells b (off +(i+1)*2) (cs.drop (i*2)):=⟨_,rfl⟩
 have hcp2:∀(W:World) ty dc,(∀x,W.cell? x=W1.cell? x)->(∀x,W.frozen? x=W1.frozen? x)->(Builtin.copy_ #[148,148] ty #[.slice (some ⟨b,off+i*2,none⟩) (n+1-i) dc,.slice (some ⟨vb,voff,none⟩) 1 vc]).run Tryz.prog W=.ok (goInt 1) (W.setCells b (off+i*2) vs):=fun W ty dc hWc hWf=>by
  have:=Go.LM.run_copy_cellsN (P:=Tryz.prog) W 148 148 ty 187 2 b (off+i*2) (n+1-i) dc ⟨vb,voff,none⟩ 1 vc vs in_u46 in_s60 (by rw[hvl];simp only[Nat.min_def];split<;>omega)
   (fun j v hj=>by
    have hjl:j<2:=by
     rcases Nat.lt_or_ge j 2 with h|h
     ·exact h
     ·rw[List.getElem?_eq_none (by omega)]at hj;cases hj
    rw[Addr.add_lit,hWc,hW1,World.cell?_setCells_out b _ _ _ _ (fun h _=>by simp only at h⊢;have:=hvo h;omega)]
    exact hvs j v hj)
   (fun j hj=>by rw[hWc,hW1,Nat.add_assoc];exact isSome_setCells b _ _ _ (fun t ht=>by rw[Nat.add_assoc];exact hsp _ (by omega)) _ (hsp _ (by omega)))
   (fun j hj=>by rw[hWf,hW1,World.frozen?_setCells,Nat.add_assoc];exact hfz _ (by omega)) h1v
  rw[this];congr 2;simp only[Nat.min_def];split<;>omega
 have hcp1':∀ty dc aP,(Builtin.copy_ #[148,148] ty #[.slice (some ⟨b,off +(i+1)*2,none⟩) (n-i) dc,.slice (some ⟨b,off+i*2,none⟩) (n+1-i) aP]).run Tryz.prog w.drew=.ok (goInt ((n-i:Nat):Int)) W1:=fun ty dc aP=>by rw[hW1];exact hcp1 _ ty dc aP (fun _=>rfl) (fun _=>rfl)
 have hov':=fun cb=>hov (n-i) cb rfl
 go_enter Tryz.func288,Tryz.ntmps288
 go_wp2_with (simp only[hov'])
 go_region_law_o (refine step_copy_runI rfl _ _ 148 148 rfl _ _ (by simp[Act.eval,Act.put]) (by simp[Act.eval,Act.put]) (hcp1' _ _ _) ?_)
 go_wp2_with (at_builtin;refine wpList_copy_runI _ rfl _ _ 148 148 rfl _ _ rfl rfl (hcp2 _ _ _ (fun _=>rfl) (fun _=>rfl)) ?_)
 go_ret
 first|exact⟨rfl,rfl⟩|exact⟨rfl,by rw[hW1]⟩
theorem in_app_room(w:World)(A:Option Addr)(n c vb voff vc:Nat)(vs:List Value)(ty:TypeId)(hroom:n+1<=c)(hvl:vs.length=2)(b off:Nat)(hA:A=some ⟨b,off,none⟩)
  (hwr:∀j,j<c*2->eS w b (off+j)) (hvs:bV w vb voff vs) (h1v:∀v∈vs,Go.LM.dD v=true):
  (Builtin.append_ #[148,148] ty #[.slice A n c,.slice (some ⟨vb,voff,none⟩) 1 vc]).run Tryz.prog w=.ok (.slice A (n+1) c) (Go.LM.setCells w b (off+n*2) vs):=by
 subst hA;refine Go.LM.run_append_room (P:=Tryz.prog) (size:=2) (vs:=vs) (e:=187) rfl rfl rfl rfl in_u46 (in_z60 w) (.inr ⟨187,in_u46⟩) hroom rfl (Go.LM.pw (by rw[hvl]) (.inr ⟨vb,voff,rfl,hvs⟩)) ?_ (fun h=>by cases h);intro a ha;obtain rfl:=Option.some.inj ha;have:=Go.LM.yY (P:=Tryz.prog) (b:=b) (o:=off+n*2) vs w 0 h1v (fun j hj=>by rw[Nat.add_zero,Nat.add_assoc];exact hwr _ (by omega));rw[Nat.add_zero]at this;rw[show(Addr.add ⟨b,off,none⟩ (n*2))=at_ b (off+n*2) from Addr.add_lit ..];exact this
set_option maxHeartbeats 4000000 in
set_option maxRecDepth 100000 in
theorem ins_end_run(A:Option Addr)(n c vb voff vc:Nat)(w W':World)(X:Value)(hrun:(Builtin.append_ #[148,148] 148 #[.slice A n c,.slice (some ⟨vb,voff,none⟩) 1 vc]).run Tryz.prog w=.ok X W'):
  Calls Tryz.prog 288 #[.slice A n c,.int .i64 n,.slice (some ⟨vb,voff,none⟩) 1 vc] w fun e w'=>e=.returned X/\w'=W':=by
 have mixed:=in_mixed
 go_enter Tryz.func288,Tryz.ntmps288
 cases A with
 |none=>
  go_wp2_with (at_builtin;refine Lib.wpList_append_run _ rfl _ _ _ _ rfl _ _ rfl rfl _ _ hrun ?_)
  go_ret
  exact⟨rfl,rfl⟩
 |some a=>
  obtain⟨ab,ao,asp⟩:=a
  go_wp2_with (at_builtin;refine Lib.wpList_append_run _ rfl _ _ _ _ rfl _ _ rfl rfl _ _ hrun ?_)
  all_goals (go_ret;exact⟨rfl,rfl⟩)
theorem ins_end(b off n c vb voff vc:Nat)(vs:List Value)(w:World)(hroom:n+1<=c)
  (hvl:vs.length=2) (hwr:∀j,j<c*2->eS w b (off+j)) (hvs:bV w vb voff vs) (h1v:∀v∈vs,Go.LM.dD v=true):
  Calls Tryz.prog 288 #[.slice (some ⟨b,off,none⟩) n c,.int .i64 n,.slice (some ⟨vb,voff,none⟩) 1 vc] w fun e w'=>
   e=.returned (.slice (some ⟨b,off,none⟩) (n+1) c)/\w'=Go.LM.setCells w b (off+n*2) vs:=
 ins_end_run _ _ _ _ _ _ _ _ _ (in_app_room w (some ⟨b,off,none⟩) n c vb voff vc vs 148 hroom hvl b off rfl hwr hvs h1v)
theorem in_i60:∃(i:TypeInfo) (z:Value),Tryz.prog.info? 187=some i/\i.size=2/\i.zero=some z/\z.cells.size=2/\i.bytes<=2048:=by
 cases hq:Tryz.prog.info? 187 with
 |none=>exact absurd hq (by intro h;have h2:=in_s60;rw[h]at h2;simp at h2)
 |some i=>
  refine⟨i,?_⟩;have h1:(Tryz.prog.info? 187).map (fun i=>decide (i.size=2)&&(match i.zero with|some z=>decide (z.cells.size=2)|none=>false)&&decide (i.bytes<=2048))=some true:=by kernel_rfl
  rw[hq]at h1;simp only[Option.map_some,Option.some.injEq,Bool.and_eq_true,decide_eq_true_eq]at h1;obtain⟨⟨h2,h3⟩,h4⟩:=h1
  cases hz:i.zero with
  |none=>rw[hz]at h3;cases h3
  |some z=>rw[hz]at h3;exact⟨z,rfl,h2,rfl,by simpa using h3,h4⟩
theorem ins_end_grow(A:Option Addr)(n c vb voff vc:Nat)(cs vs:List Value)(w:World)(hroom:c<n+1)(hn:n+1<=68719476736)
  (hcl:cs.length=n*2) (hvl:vs.length=2) (hcs:n=0\/∃b off,A=some (at_ b off)/\bV w b off cs) (hvs:bV w vb voff vs):
  Calls Tryz.prog 288 #[.slice A n c,.int .i64 n,.slice (some ⟨vb,voff,none⟩) 1 vc] w fun e w'=>
   ∃(q:Nat) (z:Value),n+1<=q/\z.cells.size=2/\e=.returned (.slice (some (at_ w.heap.size 0)) (n+1) q)/\w'=Go.LM.grown w (w.drawn+1) (cs.toArray++vs.toArray++Builtin.zeroCells z.cells (q-(n+1))) 187 (0,0):=by
 obtain⟨i,z,hi,hs,hz,hzc,hb⟩:=in_i60
 have hrun:=Go.LM.run_append_grow (P:=Tryz.prog) (w:=w) (ty:=148) (ats:= #[148,148]) (args:= #[.slice A n c,.slice (some ⟨vb,voff,none⟩) 1 vc]) (us:=cs) (vs:=vs) (m:=n) (c:=c) (k:=1) (A:=A) rfl rfl rfl rfl in_u46 hi hs hz (.inr ⟨187,in_u46⟩) (by omega) rfl
   (fun d=>Go.LM.pw (by rw[hcl]) (by
    rcases hcs with h|⟨b,off,h1,h2⟩
    ·exact .inl h
    ·exact .inr ⟨b,off,h1,h2⟩)) (fun d=>Go.LM.pw (by rw[hvl]) (.inr ⟨vb,voff,rfl,hvs⟩)) hn hb
 obtain⟨q,hq,hrun⟩:=hrun;exact(ins_end_run A n c vb voff vc w _ _ hrun).mono fun e w' ⟨h1,h2⟩=>⟨q,z,hq,hzc,h1,h2⟩
set_option maxHeartbeats 4000000 in
set_option maxRecDepth 100000 in
theorem ins_grow_run(b off n c i vb voff vc G:Nat)(B:Nat)(cs vs:List Value)(w W1:World)(hi:i<n)(hnc:n<=c)(hroom:c<n+1)(hn:n+1<=68719476736)(hG:n+1<=G)
  (hcl:cs.length=n*2) (hvl:vs.length=2) (hbB:b≠B) (hvB:vb≠B)
  (hrz:(Builtin.append_ #[148,3] 148 #[.slice (some ⟨b,off,none⟩) i c,.int .i64 ((n:Int)+1-(i:Int))]).run Tryz.prog w=.ok (.slice (some ⟨B,0,none⟩) (n+1) G) W1)
  (hcs:bV W1 b off cs) (hvs:bV W1 vb voff vs) (hwr:∀j,j<(n+1)*2->eS W1 B j) (h1c:∀v∈cs,v.oneCell'=true) (h1v:∀v∈vs,v.oneCell'=true):
  Calls Tryz.prog 288 #[.slice (some ⟨b,off,none⟩) n c,.int .i64 i,.slice (some ⟨vb,voff,none⟩) 1 vc] w fun e w'=>
   e=.returned (.slice (some ⟨B,0,none⟩) (n+1) G)/\w'=(W1.setCells B (i*2) vs).drew.setCells B ((i+1)*2) (cs.drop (i*2)):=by
 have mixed:=in_mixed;have hz2:¬((i:Int)=(n:Int)):=by omega
 have hz3:(c:Int)<(n:Int)+1:=by omega
 have hw1:IntKind.i64.wrap ((i:Int) +(1:Int))=(i:Int)+1:=by rw[IntKind.wrap_i64];omega
 have hw2:IntKind.i64.wrap ((n:Int) +(1:Int))=(n:Int)+1:=by rw[IntKind.wrap_i64];omega
 have hw3:IntKind.i64.wrap ((n:Int)+1-(i:Int))=(n:Int)+1-i:=by rw[IntKind.wrap_i64];omega
 have hin:i<=n:=by omega
 have hdl:(cs.drop (i*2)).length=(n-i)*2:=by rw[List.length_drop,hcl];omega
 have hsp:∀j,j<(n+1)*2->(W1.cell? ⟨B,j,none⟩).isSome=true:=fun j hj=>by obtain⟨⟨v,hv⟩,_⟩:=hwr j hj;rw[hv];rfl
 have hfz:∀j,j<(n+1)*2->W1.frozen? ⟨B,j,none⟩=false:=fun j hj=>(hwr j hj).2
 have hcpA:∀(W:World) ty dc,(∀x,W.cell? x=W1.cell? x)->(∀x,W.frozen? x=W1.frozen? x)->(Builtin.copy_ #[148,148] ty #[.slice (some ⟨B,i*2,none⟩) (n+1-i) dc,.slice (some ⟨vb,voff,none⟩) 1 vc]).run Tryz.prog W=.ok (goInt 1) (W.setCells B (i*2) vs):=fun W ty dc hWc hWf=>by
  have:=Go.LM.run_copy_cellsN (P:=Tryz.prog) W 148 148 ty 187 2 B (i*2) (n+1-i) dc ⟨vb,voff,none⟩ 1 vc vs in_u46 in_s60 (by rw[hvl];simp only[Nat.min_def];split<;>omega)
   (fun j v hj=>by rw[Addr.add_lit,hWc];exact hvs j v hj)
   (fun j hj=>by rw[hWc];exact hsp _ (by omega)) (fun j hj=>by rw[hWf];exact hfz _ (by omega)) h1v
  rw[this];congr 2;simp only[Nat.min_def];split<;>omega
 obtain⟨W2,hW2⟩:∃W2:World,W2=W1.setCells B (i*2) vs:=⟨_,rfl⟩
 rw[<-hW2];have hcpA':∀ty dc,(Builtin.copy_ #[148,148] ty #[.slice (some ⟨B,i*2,none⟩) (n+1-i) dc,.slice (some ⟨vb,voff,none⟩) 1 vc]).run Tryz.prog W1=.ok (goInt 1) W2:=fun ty dc=>by rw[hW2];exact hcpA W1 ty dc (fun _=>rfl) (fun _=>rfl)
 obtain⟨W3,hW3⟩:∃W3:World,W3=W2.drew.setCells B ((i+1)*2) (cs.drop (i*2)):=⟨_,rfl⟩
 rw[<-hW3]
 have hcpB:∀ty dc aP,(Builtin.copy_ #[148,148] ty #[.slice (some ⟨B,(i+1)*2,none⟩) (n-i) dc,.slice (some ⟨b,off+i*2,none⟩) (n-i) aP]).run Tryz.prog W2.drew=.ok (goInt ((n-i:Nat):Int)) W3:=fun ty dc aP=>by
  have hc2:∀x,W2.drew.cell? x=W2.cell? x:=fun _=>rfl
  have hf2:∀x,W2.drew.frozen? x=W2.frozen? x:=fun _=>rfl
  have:=Go.LM.run_copy_cellsN (P:=Tryz.prog) W2.drew 148 148 ty 187 2 B ((i+1)*2) (n-i) dc ⟨b,off+i*2,none⟩ (n-i) aP (cs.drop (i*2)) in_u46 in_s60 (by rw[hdl];simp only[Nat.min_def];split<;>omega)
   (fun j v hj=>by
    rw[Addr.add_lit,hc2,hW2,World.cell?_setCells_out _ _ _ _ _ (fun h _=>absurd h hbB),Nat.add_assoc]
    exact hcs (i*2+j) v (by rwa[List.getElem?_drop]at hj))
   (fun j hj=>by rw[hc2,hW2];exact isSome_setCells _ _ _ _ (fun t ht=>hsp _ (by omega)) _ (hsp _ (by omega)))
   (fun j hj=>by rw[hf2,hW2,World.frozen?_setCells];exact hfz _ (by omega)) (fun v hv=>h1c v (List.mem_of_mem_drop hv))
  rw[this,hW3];congr 2;simp only[Nat.min_def];split<;>omega
 have hb1:(0:Int)<=(i:Int)+1:=by omega
 have htn:((i:Int)+1).toNat=i+1:=by omega
 have hb3:(i:Int)<=(n:Int):=by omega
 have hb4:(i:Int)<=(n:Int)+1:=by omega
 have hGi:¬(G=i):=by omega
 have hGim:¬(G=i+1):=by omega
 have hci:¬(c=i):=by omega
 clear hW3 hcs hvs hwr hsp hfz hcpA;clear hW2
 go_enter Tryz.func288,Tryz.ntmps288
 go_wp2_with (first
  |(at_builtin;refine Lib.wpList_append_run _ rfl _ _ _ _ rfl _ _ rfl rfl _ _ hrz ?_)
  |(at_builtin;refine wpList_copy_runI _ rfl _ _ 148 148 rfl _ _ rfl rfl (hcpA' _ _) ?_))
 go_region_law_o (refine step_copy_runI rfl _ _ 148 148 rfl _ _ (by simp[Act.eval,Act.put]) (by simp[Act.eval,Act.put]) (hcpB _ _ _) ?_)
 go_wp2
 go_ret
 exact⟨rfl,rfl⟩
end Go.Proofs
namespace Go.LM
open Go.Lib Go.Proofs Go.RowKit
theorem oneC'{v:Value}(h:dD v=true):v.oneCell'=true:=by cases v<;>simp_all[dD,Value.oneCell']
def InsOut(w:World)(F:ae)(cs':List Value)(n:Nat)(e:Ending)(w':World):Prop:=
 ∃b' o' c',e=.returned (.slice (some (at_ b' o')) (n+1) c')/\n+1<=c'/\Ext w w' F/\bV w' b' o' cs'/\(∀j,j<c'*2->fb w' 2 b' (o'+j))/\∀j,j<c'*2->(F b' (o'+j)\/w.heap.size<=b')/\b'<w'.heap.size
theorem zero_size(z:Value)(hz:z.cells.size=2)(k:Nat):(Builtin.zeroCells z.cells k).size=k*2:=by rw[GG,hz]
theorem drew_grown(w:World)(arr:Array Value)(e:TypeId):w.drew.alloc (.cells arr e)=grown w (w.drawn+1) arr e (0,0):=rfl
theorem drew_ext(w:World)(F:ae):Ext w w.drew F:=Ext.drew w _ F
theorem ins_all(A:Option Addr)(n c i vb voff vc:Nat)(cs vs:List Value)(w:World)(F:ae)(hin:i<=n)(hn:n+1<=68719476736)(hnc:n<=c)(hcl:cs.length=n*2)(hvl:vs.length=2)
  (hA:(n=0/\c=0)\/∃b off,A=some (at_ b off)/\bV w b off cs/\(∀j,j<c*2->fb w 2 b (off+j))/\∀j,j<c*2->F b (off+j)) (hvs:bV w vb voff vs) (hv2:∀j,j<2->fb w 2 vb (voff+j))
  (hvo:∀b off,A=some (at_ b off)->∀j,j<2->∀k,k<c*2->¬(vb=b/\voff+j=off+k)) (hF:∀b o,F b o->b<w.heap.size) (h1c:∀v∈cs,dD v=true) (h1v:∀v∈vs,dD v=true):
  Calls Tryz.prog 288 #[.slice A n c,.int .i64 i,.slice (some ⟨vb,voff,none⟩) 1 vc] w (InsOut w F (cs.take (i*2)++vs++cs.drop (i*2)) n):=by
 by_cases hroom:n+1<=c
 ·obtain⟨b,off,rfl,hcs,hwr,hFc⟩:∃b off,A=some (at_ b off)/\bV w b off cs/\(∀j,j<c*2->fb w 2 b (off+j))/\∀j,j<c*2->F b (off+j):=by
   rcases hA with⟨_,h⟩|h
   ·omega
   ·exact h
  obtain⟨s0,hs0⟩:=(hwr (n*2) (by omega)).1.1;obtain⟨s1,hs1⟩:=(hwr (n*2+1) (by omega)).1.1
  have hold:bV w b off (cs++[s0,s1]):=by
   intro j v hj;rcases Nat.lt_or_ge j cs.length with h|h
   ·rw[List.getElem?_append_left h]at hj;exact hcs j v hj
   ·rw[List.getElem?_append_right h]at hj;rw[hcl]at h hj;rcases Nat.lt_or_ge (j-n*2) 1 with h1|h1
    ·have:j=n*2:=by omega
     subst this;simp only[Nat.sub_self,List.getElem?_cons_zero,Option.some.injEq]at hj;rw[<-hj];exact hs0
    ·rcases Nat.lt_or_ge (j-n*2) 2 with h2|h2
     ·have:j=n*2+1:=by omega
      subst this;rw[show n*2+1-n*2=1 by omega]at hj;simp only[List.getElem?_cons_succ,List.getElem?_cons_zero,Option.some.injEq]at hj;rw[<-hj];exact hs1
     ·rw[List.getElem?_eq_none (by simpa using h2)]at hj;cases hj
  have hol:(cs++[s0,s1]).length=(n+1)*2:=by simp[hcl];omega
  have hbw:b<w.heap.size:=hF _ _ (hFc 0 (by omega));rcases Nat.lt_or_ge i n with hi|hi
  ·
   have hvo':vb=b->voff+2<=off\/off+c*2<=voff:=fun he=>by
    rcases Nat.lt_or_ge off (voff+2)with h1|h1
    ·rcases Nat.lt_or_ge voff (off+c*2)with h2|h2
     ·exfalso;rcases Nat.lt_or_ge voff off with h3|h3
      ·exact hvo b off rfl 1 (by omega) 0 (by omega) ⟨he,by omega⟩
      ·exact hvo b off rfl 0 (by omega) (voff-off) (by omega) ⟨he,by omega⟩
     ·exact .inr h2
    ·exact .inl h1
   refine(ins_shift b off n c i vb voff vc cs vs w hi hroom hn hcl hvl hcs (fun j hj=>(hwr j hj).1) hvs (by simpa using hv2 0 (by omega)) hvo' (fun v hv=>oneC' (h1c v hv)) (fun v hv=>oneC' (h1v v hv))).mono ?_
   rintro e w' ⟨rfl,rfl⟩
   rw[kit_setCells,kit_setCells];have hdl:(cs.drop (i*2)).length=(n-i)*2:=by rw[List.length_drop,hcl];omega
   have hx0:Ext w w.drew F:=drew_ext w F;have hx1:Ext w.drew (setCells w.drew b (off +(i+1)*2) (cs.drop (i*2))) F:=lp _ _ _ _ fun j hj=>by rw[Nat.add_assoc];exact hFc _ (by omega)
   have hx2:Ext (setCells w.drew b (off +(i+1)*2) (cs.drop (i*2))) (setCells (setCells w.drew b (off +(i+1)*2) (cs.drop (i*2))) b (off+i*2) vs) F:=lp _ _ _ _ fun j hj=>by rw[Nat.add_assoc];exact hFc _ (by omega)
   have hx01:=hx0.trans hx1;have hc1:=px (w:=w.drew) (b:=b) (o:=off) (k:=(i+1)*2) (old:=cs++[s0,s1]) (vs:=cs.drop (i*2)) (fun j v hj=>hold j v hj) (fun j hj=>(hx0.nU (hwr j (by omega)).1)) (by rw[hol,hdl];omega);have hl1:(c9 (cs++[s0,s1]) ((i+1)*2) (cs.drop (i*2))).length=(n+1)*2:=by rw[GH (by rw[hol,hdl];omega),hol]
   have hc2:=px (k:=i*2) (vs:=vs) hc1 (fun j hj=>(hx01.nU (hwr j (by omega)).1)) (by rw[hl1,hvl];omega);refine⟨b,off,c,rfl,hroom,hx01.trans hx2,?_,fun j hj=>(hx01.trans hx2).iz (hwr j hj),fun j hj=>⟨.inl (hFc j hj),Nat.lt_of_lt_of_le hbw (hx01.trans hx2).size⟩⟩
   have:c9 (c9 (cs++[s0,s1]) ((i+1)*2) (cs.drop (i*2))) (i*2) vs=cs.take (i*2)++vs++cs.drop (i*2):=by
    unfold c9;have e1:((cs++[s0,s1]).take ((i+1)*2)++cs.drop (i*2)++(cs++[s0,s1]).drop ((i+1)*2 +(cs.drop (i*2)).length))=(cs++[s0,s1]).take ((i+1)*2)++cs.drop (i*2):=by rw[List.drop_of_length_le (l:=cs++[s0,s1]) (by rw[hol,hdl];omega),List.append_nil]
    rw[e1];have e2:((cs++[s0,s1]).take ((i+1)*2)).length=(i+1)*2:=by rw[List.length_take,hol];omega
    rw[List.take_append_of_le_length (by rw[e2];omega),List.take_take,List.drop_append_of_le_length (by rw[e2,hvl];omega),hvl,List.drop_of_length_le (l:=(cs++[s0,s1]).take ((i+1)*2)) (by rw[e2];omega),List.nil_append,
     show min (i*2) ((i+1)*2)=i*2 by omega,List.take_append_of_le_length (by rw[hcl];omega)]
   rw[<-this];exact hc2
  ·
   have hin':i=n:=by omega
   subst hin';refine(ins_end b off i c vb voff vc vs w hroom hvl (fun j hj=>(hwr j hj).1) hvs h1v).mono ?_
   rintro e w' ⟨rfl,rfl⟩
   have hx:Ext w (setCells w b (off+i*2) vs) F:=lp _ _ _ _ fun j hj=>by rw[Nat.add_assoc];exact hFc _ (by omega)
   have hc1:=px (w:=w) (b:=b) (o:=off) (k:=i*2) (old:=cs++[s0,s1]) (vs:=vs) hold (fun j hj=>(hwr j (by omega)).1) (by rw[hol,hvl];omega);refine⟨b,off,c,rfl,hroom,hx,?_,fun j hj=>hx.iz (hwr j hj),fun j hj=>⟨.inl (hFc j hj),Nat.lt_of_lt_of_le hbw hx.size⟩⟩;have:c9 (cs++[s0,s1]) (i*2) vs=cs.take (i*2)++vs++cs.drop (i*2):=by unfold c9;rw[List.drop_of_length_le (l:=cs) (by omega),List.drop_of_length_le (l:=cs++[s0,s1]) (by rw[hol,hvl];omega),List.take_append_of_le_length (by omega)]
   rw[<-this];exact hc1
 ·have hroom:c<n+1:=by omega
  have hvw:vb<w.heap.size:=by obtain⟨v,hv⟩:=(hv2 0 (by omega)).1.1;exact v7 hv
  have hnew:∀(q:Nat) (arr:Array Value) (w':World),Ext (grown w (w.drawn+1) arr 187 (0,0)) w' (fun b _=>w.heap.size<=b)->Ext w w' F:=fun q arr w' hx=>(yZ w _ arr 187 (0,0) F).trans' hx fun _ _ h=>.inr h
  rcases Nat.lt_or_ge i n with hi|hi
  ·
   obtain⟨b,off,rfl,hcs,hwr,hFc⟩:∃b off,A=some (at_ b off)/\bV w b off cs/\(∀j,j<c*2->fb w 2 b (off+j))/\∀j,j<c*2->F b (off+j):=by
    rcases hA with⟨h,_⟩|h
    ·omega
    ·exact h
   have hbw:b<w.heap.size:=hF _ _ (hFc 0 (by omega));obtain⟨ii,z,hii,hs,hz,hzc,hb⟩:=in_i60
   have hold:(Builtin.firstCells ii.size i (.slice (some ⟨b,off,none⟩) i c)).run Tryz.prog w.drew=.ok (cs.take (i*2)).toArray w.drew:=by
    rw[hs];refine pw (by rw[List.length_take,hcl];omega) (.inr ⟨b,off,rfl,fun j v hj=>?_⟩);rw[List.getElem?_take]at hj;split at hj
    ·exact hcs j v hj
    ·cases hj
   have hik:i +(n+1-i)=n+1:=by omega
   have hfit:Builtin.nextslicecap (n+1) c*ii.bytes<=281474976710656:=by have h1:=nextslicecap_le (need:=n+1) (old:=c) (by omega);have h2:Builtin.nextslicecap (n+1) c*ii.bytes<=(2*68719476736)*2048:=Nat.mul_le_mul (by omega) hb;omega
   have hkb:(n+1-i)*ii.bytes<=68719476736*2048:=Nat.mul_le_mul (by omega) hb;have hrz:=Lib.run_append_grow_zeros (P:=Tryz.prog) w 148 3 148 187 ii z .i64 .i64 in_u46 (by kernel_rfl) hii hz (some ⟨b,off,none⟩) i c (cs.take (i*2)) hold (n+1-i) (by omega) (by omega) (by omega) (by omega) (by omega) (by rw[hik];exact hfit);rw[hik,drew_grown]at hrz;have hkk:((n+1-i:Nat):Int)=(n:Int)+1-(i:Int):=by omega
   rw[hkk]at hrz;have hG:n+1<=grownCap w (n+1) c 187:=grownCap_ge w _ _ _;generalize grownCap w (n+1) c 187=G at hrz hG;generalize harr:((cs.take (i*2)).toArray++Builtin.zeroCells z.cells (n+1-i)++Builtin.zeroCells z.cells (G-(n+1)))=arr at hrz;have hsz:arr.size=G*2:=by rw[<-harr];simp only[Array.size_append,zero_size z hzc,List.size_toArray,List.length_take,hcl];omega
   have hpre:∀j v,(cs.take (i*2))[j]?=some v->arr[j]?=some v:=fun j v hj=>by
    have hj':j<(cs.take (i*2)).length:=by
     rcases Nat.lt_or_ge j (cs.take (i*2)).length with h|h
     ·exact h
     ·rw[List.getElem?_eq_none h]at hj;cases hj
    rw[<-harr,Array.append_assoc,Array.getElem?_append_left (by simpa using hj')];simpa using hj
   obtain⟨W1,hW1⟩:∃W1,W1=grown w (w.drawn+1) arr 187 (0,0):=⟨_,rfl⟩
   rw[<-hW1]at hrz;have hxg:Ext w W1 ae.none:=hW1▸yZ w _ arr 187 (0,0) _;have hcell:∀j,W1.cell? (at_ w.heap.size j)=arr[j]?:=fun j=>by rw[hW1,v8]
   have hfrz:∀j,W1.frozen? (at_ w.heap.size j)=false:=fun j=>by rw[hW1,nV,v_];simp
   have hwrG:∀j,j<G*2->fb W1 2 w.heap.size j:=fun j hj=>⟨⟨⟨arr[j]'(by omega),by rw[hcell];exact Array.getElem?_eq_getElem (by omega)⟩,hfrz j⟩,.inr hfrz⟩
   have hcs1:bV W1 b off cs:=fun j v hj=>by rw[hxg.cell hbw (fun h=>h)];exact hcs j v hj
   have hvs1:bV W1 vb voff vs:=fun j v hj=>by rw[hxg.cell hvw (fun h=>h)];exact hvs j v hj
   refine(ins_grow_run b off n c i vb voff vc G w.heap.size cs vs w W1 hi hnc hroom hn hG hcl hvl (by omega) (by omega) hrz hcs1 hvs1 (fun j hj=>(hwrG j (by omega)).1) (fun v hv=>oneC' (h1c v hv)) (fun v hv=>oneC' (h1v v hv))).mono ?_
   rintro e w' ⟨rfl,rfl⟩
   rw[kit_setCells,kit_setCells];have hdl:(cs.drop (i*2)).length=(n-i)*2:=by rw[List.length_drop,hcl];omega
   have hold1:bV W1 w.heap.size 0 (arr.toList.take ((n+1)*2)):=fun j v hj=>by
    rw[List.getElem?_take]at hj;split at hj
    ·rw[Nat.zero_add,hcell];simpa using hj
    ·cases hj
   have hol:(arr.toList.take ((n+1)*2)).length=(n+1)*2:=by rw[List.length_take,Array.length_toList,hsz];omega
   have hc1:=px (k:=i*2) (vs:=vs) hold1 (fun j hj=>by rw[Nat.zero_add];exact(hwrG j (by omega)).1) (by rw[hol,hvl];omega);rw[Nat.zero_add]at hc1;have hx1:Ext W1 (setCells W1 w.heap.size (i*2) vs) (fun b _=>w.heap.size<=b):=lp _ _ _ _ fun j hj=>Nat.le_refl _
   have hx2:=hx1.trans (drew_ext (setCells W1 w.heap.size (i*2) vs) (fun b _=>w.heap.size<=b));have hl1:(c9 (arr.toList.take ((n+1)*2)) (i*2) vs).length=(n+1)*2:=by rw[GH (by rw[hol,hvl];omega),hol]
   have hc2:=px (w:=(setCells W1 w.heap.size (i*2) vs).drew) (b:=w.heap.size) (o:=0) (k:=(i+1)*2) (vs:=cs.drop (i*2)) (old:=c9 (arr.toList.take ((n+1)*2)) (i*2) vs) (fun j v hj=>hc1 j v hj) (fun j hj=>by rw[Nat.zero_add];exact(hx2.iz (hwrG j (by omega))).1) (by rw[hl1,hdl];omega);rw[Nat.zero_add]at hc2;have hx3:Ext (setCells W1 w.heap.size (i*2) vs).drew (setCells (setCells W1 w.heap.size (i*2) vs).drew w.heap.size ((i+1)*2) (cs.drop (i*2))) (fun b _=>w.heap.size<=b):=lp _ _ _ _ fun j hj=>Nat.le_refl _
   have hxW:=hx2.trans hx3;have hx:Ext w (setCells (setCells W1 w.heap.size (i*2) vs).drew w.heap.size ((i+1)*2) (cs.drop (i*2))) F:=hnew 0 arr _ (hW1▸hxW);have hBw:w.heap.size<W1.heap.size:=by rw[hW1,GI];omega
   refine⟨w.heap.size,0,G,rfl,hG,hx,?_,fun j hj=>by rw[Nat.zero_add];exact hxW.iz (hwrG j hj),fun j hj=>⟨.inr (Nat.le_refl _),Nat.lt_of_lt_of_le hBw hxW.size⟩⟩
   have:c9 (c9 (arr.toList.take ((n+1)*2)) (i*2) vs) ((i+1)*2) (cs.drop (i*2))=cs.take (i*2)++vs++cs.drop (i*2):=by
    generalize hX:c9 (arr.toList.take ((n+1)*2)) (i*2) vs=X at hl1;unfold c9;rw[List.drop_of_length_le (l:=X) (by rw[hl1,hdl];omega),List.append_nil];rw[<-hX];unfold c9;refine congrArg (fun z=>z++cs.drop (i*2)) ?_
    have e0:(arr.toList.take ((n+1)*2)).take (i*2)=cs.take (i*2):=by
     rw[List.take_take,show min (i*2) ((n+1)*2)=i*2 by omega];refine List.ext_getElem? fun j=>?_
     rw[List.getElem?_take];split
     ·rename_i hj;have h1:j<(cs.take (i*2)).length:=by rw[List.length_take,hcl];omega
      rw[List.getElem?_eq_getElem h1];have:=hpre j _ (List.getElem?_eq_getElem h1);simpa using this
     ·rw[List.getElem?_eq_none (by rw[List.length_take];omega)]
    rw[e0];have e1:(cs.take (i*2)).length=i*2:=by rw[List.length_take,hcl];omega
    have e2:(cs.take (i*2)++vs).length=(i+1)*2:=by rw[List.length_append,e1,hvl];omega
    rw[List.take_append_of_le_length (by omega),List.take_of_length_le (by omega)]
   rw[<-this];exact hc2
  ·
   have hin':i=n:=by omega
   subst hin'
   have hcs':i=0\/∃b off,A=some (at_ b off)/\bV w b off cs:=by
    rcases hA with⟨h,_⟩|⟨b,off,h1,h2,_⟩
    ·exact .inl h
    ·exact .inr ⟨b,off,h1,h2⟩
   refine(ins_end_grow A i c vb voff vc cs vs w hroom hn hcl hvl hcs' hvs).mono ?_
   rintro e w' ⟨q,z,hq,hzc,rfl,rfl⟩
   have hsz:(cs.toArray++vs.toArray++Builtin.zeroCells z.cells (q-(i+1))).size=q*2:=by simp only[Array.size_append,zero_size z hzc,List.size_toArray,hcl,hvl];omega
   generalize harr:(cs.toArray++vs.toArray++Builtin.zeroCells z.cells (q-(i+1)))=arr at hsz⊢;refine⟨w.heap.size,0,q,rfl,hq,yZ w _ arr 187 (0,0) F,fun j v hj=>?_,fun j hj=>?_,fun j hj=>⟨.inr (Nat.le_refl _),by rw[GI];omega⟩⟩
   ·rw[Nat.zero_add,v8];rw[List.take_of_length_le (by omega),List.drop_of_length_le (by omega),List.append_nil]at hj
    have hj':j<(cs++vs).length:=by
     rcases Nat.lt_or_ge j (cs++vs).length with h|h
     ·exact h
     ·rw[List.getElem?_eq_none h]at hj;cases hj
    rw[<-harr,Array.getElem?_append_left (by simpa using hj')];simpa[<-List.getElem?_append]using hj
   ·have hfrz:∀j,(grown w (w.drawn+1) arr 187 (0,0)).frozen? (at_ w.heap.size j)=false:=fun j=>by rw[nV,v_];simp
    rw[Nat.zero_add];exact⟨⟨⟨arr[j]'(by omega),by rw[v8];exact Array.getElem?_eq_getElem (by omega)⟩,hfrz j⟩,.inr hfrz⟩
end Go.LM
namespace Go.LM
open Go.Lib
abbrev tDir:U:=.st (.cons .str (.cons (.int .i64) .nil))
def insF(xs:List tDir.D)(i:Int)(ys:List tDir.D):Option (List tDir.D×Unit):=
 if 0<=i/\i<=(xs.length:Int)/\ys.length=1/\xs.length+1<=68719476736 then some (xs.take i.toNat++ys++xs.drop i.toNat,()) else none
def joinF(xs:List (List UInt8))(sep:List UInt8):Option (List UInt8×Unit):=
 if xs.length<=68719476736/\(Lib.join xs sep).length<=68719476736 then some (Lib.join xs sep,()) else none
def repF(s:List UInt8)(c:Int):Option (List UInt8×Unit):=
 if 0<=c/\c<=68719476736/\s.length*c.toNat<=68719476736 then some (Lib.repeatL s c.toNat,()) else none
end Go.LM
namespace Go.LM
open Go.Lib Go.Proofs Go.RowKit
theorem flat_any{t:U}{m m':a8}{x:t.D}{vs:List Value}{w w':World}{Z Z' F F':ae}(hf:t.flat=true)(h:t.al w Z m x vs F):t.al w' Z' m' x vs F':=
 py t (F:=ae.none) hf (U.al.same (w':=w') (Z:=ae.none) (fun _ _ h=>h.elim) t m (F:=ae.none) (fun _ _ h=>h.elim) (py t (Z':=ae.none) (m':=m) (F':=ae.none) hf h))
def insE:Entry:=⟨[.val (.sl tDir) (.O .R),.val (.int .i64) .R,.val (.sl tDir) (.O .R)],[.val (.sl tDir) (.O .R)],fun x=>insF x.1 x.2.1 x.2.2.1⟩
theorem capsV_plain{us l:List Value}(h:us++fI us=l)(hl:∀v∈l,∀f a b,v≠.func f a b):us=l:=by
 have:fI us=[]:=by
  have hu:∀v∈us,∀f a b,v≠.func f a b:=fun v hv=>hl v (by rw[<-h];exact List.mem_append_left _ hv)
  clear h hl
  induction us with
  |nil=>rfl
  |cons u us ih=>
   have h1:=hu u List.mem_cons_self;have h2:=ih fun v hv=>hu v (List.mem_cons_of_mem _ hv)
   cases u with
   |func f a b=>exact absurd rfl (h1 f a b)
   |_=>exact h2
 rw[this,List.append_nil]at h;exact h
theorem els_flat{t:U}{m m':a8}{w w':World}{Z Z':ae}{xs:List t.D}{vs:List Value}{F:ae}(hf:t.flat=true)(h:cV (t.al w Z m) t.size xs vs F):cV (t.al w' Z' m') t.size xs vs ae.none:=
 h.bare fun _ _ _ _ hr=>flat_any hf hr
theorem ins_soundX:gR Tryz.prog 288 0 insE:=by
 refine⟨fun w Z F x us r hZ hF hFZ hA hr=>?_⟩;obtain⟨xs,i,ys,u⟩:=x;have hr:insF xs i ys=some r:=hr;unfold insF at hr;split at hr
 case isFalse=>cases hr
 rename_i hc;obtain⟨hi0,hin,hyl,hxl⟩:=hc;have hr:=Option.some.inj hr;obtain⟨vs1,us1,G1,H1,e1,k1,h1,a1,s1,t1⟩:=hA;obtain⟨vs2,us2,G2,H2,e2,k2,h2,a2,s2,t2⟩:=h1;obtain⟨vs3,us3,G3,H3,e3,k3,h3,a3,s3,t3⟩:=h2;have h3:us3=[]:=h3;subst h3;simp only[U.al]at k1 k2 k3;obtain⟨A,c,rfl,k1⟩:=k1;subst k2;obtain⟨B,vc,rfl,k3⟩:=k3;have hus:us=[.slice A xs.length c,.int .i64 i,.slice B ys.length vc]:=by refine capsV_plain (l:=[.slice A xs.length c,.int .i64 i,.slice B ys.length vc]) (by rw[e1,e2,e3];rfl) ?_;intro v hv f a b he;simp only[List.mem_cons,List.not_mem_nil,or_false]at hv;rcases hv with rfl|rfl|rfl<;>cases he
 subst hus;obtain⟨k,rfl⟩:∃k:Nat,i=(k:Int):=⟨Int.toNat i,(Int.toNat_of_nonneg hi0).symm⟩
 simp only[Int.toNat_natCast]at hr;have hk:k<=xs.length:=Int.ofNat_le.1 hin
 obtain⟨bo,rfl,ho⟩:∃a,B=some a/\iA w (tDir.al w Z .R) tDir.size ys a vc G3:=by
  rcases k3 with⟨h,_⟩|h
  ·rw[h]at hyl;cases hyl
  ·exact h
 obtain⟨vb,voff,vsp⟩:=bo;have hvsp:=ho.spot;simp only at hvsp;subst hvsp;obtain⟨Gy,gy1,gy2,gy3⟩:=ho.row;obtain⟨vs,ey,cy⟩:=gy1.q5;have hvl:vs.length=2:=by rw[ey.len,hyl];rfl
 have hvc:1<=vc:=by have:=ho.cap;omega
 have hwv:∀j,j<2->fb w 2 vb (voff+j):=fun j hj=>ho.wr j (by show j<vc*2;omega)
 have hFv:∀j,j<2->G3 vb (voff+j):=fun j hj=>ho.inF j (by show j<vc*2;omega)
 obtain⟨cs,hels,hAc,hnc⟩:∃cs,cV (tDir.al w Z .R) tDir.size xs cs ae.none/\((xs.length=0/\c=0)\/∃b off,A=some (at_ b off)/\bV w b off cs/\(∀j,j<c*2->fb w 2 b (off+j))/\∀j,j<c*2->G1 b (off+j))/\xs.length<=c:=by
  rcases k1 with⟨rfl,rfl⟩|⟨⟨b,off,sp⟩,rfl,hr1⟩
  ·exact⟨[],rfl,.inl ⟨rfl,rfl⟩,Nat.le_refl _⟩
  ·have hsp:=hr1.spot;simp only at hsp;subst hsp;obtain⟨Gx,gx1,gx2,gx3⟩:=hr1.row;obtain⟨cs,ex,cx⟩:=gx1.q5;exact⟨cs,els_flat rfl ex,.inr ⟨b,off,rfl,cx,hr1.wr,hr1.inF⟩,hr1.cap⟩
 have hcl:cs.length=xs.length*2:=by rw[hels.len];rfl
 have hap13:ae.apart G1 G3:=fun b o h h'=>a1 b o h (t2 b o (s3 b o h'))
 have hcall:=ins_all A xs.length c k vb voff vc cs vs w G1 hk hxl hnc hcl hvl hAc cy hwv (by
   intro b off hb j hj q hq hh;rcases hAc with⟨_,h⟩|⟨b',off',h1,_,_,h4⟩
   ·omega
   ·rw[hb]at h1;simp only[Option.some.injEq,Addr.mk.injEq,at_]at h1;obtain⟨rfl,rfl,_⟩:=h1;have:=h4 q hq;rw[<-hh.2,<-hh.1]at this
    exact hap13 _ _ this (hFv j hj)) (fun b o h=>hF b o (s1 b o h)) (y0 hels) (y0 ey)
 have hyl':(.slice (some ⟨vb,voff,none⟩) ys.length vc:Value)=.slice (some ⟨vb,voff,none⟩) 1 vc:=by rw[hyl]
 refine .inl ⟨⟨Tryz.f288,Tryz.func288,by kernel_rfl,by kernel_rfl⟩,?_⟩;rw[show([Value.slice A xs.length c,.int .i64 (k:Int),.slice (some ⟨vb,voff,none⟩) ys.length vc]:List Value).toArray = #[.slice A xs.length c,.int .i64 (k:Int),.slice (some ⟨vb,voff,none⟩) 1 vc] by rw[hyl']];refine hcall.mono ?_
 rintro e w' ⟨b',o',c',rfl,hc',hx,hcells,hwr,hin'⟩
 subst hr;have hnl:(xs.take k++ys++xs.drop k).length=xs.length+1:=by simp only[List.length_append,List.length_take,List.length_drop,hyl];omega
 have hE:cV (tDir.al w' Z .R) tDir.size (xs.take k++ys++xs.drop k) (cs.take (k*2)++vs++cs.drop (k*2)) ae.none:=by have c1:=hels.cut k;have e1:=els_flat (w':=w') (Z':=Z) (m':=.R) rfl c1.1;have e2:=els_flat (w':=w') (Z':=Z) (m':=.R) (t:=tDir) rfl ey;have e3:=els_flat (w':=w') (Z':=Z) (m':=.R) rfl c1.2;exact(((e1.append e2 fun _ _ h _=>h.elim).append e3 fun _ _ _ h=>h.elim).mono fun b o h=>h.elim (fun h=>h.elim id id) id)
 have hGF:ae.sub G1 F:=s1;refine⟨_,rfl,⟨[.slice (some (at_ b' o')) (xs.length+1) c'],Z,ae.run b' o' (c'*2),rfl,hx.mono fun b o _ h=>s1 b o h,fun _ _ h=>h,fun _ _ h=>.inl h,?_,?_,?_⟩⟩
 ·rintro b o ⟨rfl,h1,h2⟩
  have:=hin' (o-o') (by omega);rw[show o' +(o-o')=o by omega]at this;exact⟨this.1.imp (hGF _ _) id,this.2⟩
 ·rintro b o ⟨rfl,h1,h2⟩ hz
  have:=(hin' (o-o') (by omega)).1;rw[show o' +(o-o')=o by omega]at this;rcases this with h|h
  ·exact hFZ _ _ (hGF _ _ h) hz
  ·have:=hZ _ _ hz;omega
 ·refine⟨[_],[],ae.run b' o' (c'*2),ae.none,rfl,?_,⟨rfl,_,_,rfl,_,_,rfl,_,_,rfl,trivial⟩,fun _ _ _ h=>h.elim,fun _ _ h=>h,fun _ _ h=>h.elim⟩;simp only[U.al];refine⟨some (at_ b' o'),c',by rw[hnl],.inr ⟨_,rfl,rfl,by rw[hnl];exact hc',hwr,fun j hj=>⟨rfl,by simp[at_],by show o'+j<o'+c'*2;exact Nat.add_lt_add_left hj _⟩,ae.none,hE.row hcells,fun _ _ h=>h,fun _ _ h=>h.elim⟩⟩
end Go.LM
namespace Go.Proofs
open Go.Shelf
def Tryz.lays156_ren:Go.Shelf.Ren:=⟨fun|156=>280|165=>297|166=>298|169=>299|240=>310|241=>311|276=>317|277=>318|n=>n,fun|31=>203|9=>9|3=>3|4=>4|0=>0|20=>20|72=>304|76=>308|70=>302|37=>22|75=>307|127=>317|164=>325|5=>5|80=>234|n=>n,fun|n=>n⟩
theorem Tryz.lays156:Go.Proofs.Lays.n156 Tryz.prog Tryz.lays156_ren:={
 mixed:=by kernel_rfl
 f156:=Tryz.func280.trans (congrArg some (by kernel_rfl))
 f165:=Tryz.func297.trans (congrArg some (by kernel_rfl))
 f166:=Tryz.func298.trans (congrArg some (by kernel_rfl))
 f169:=Tryz.func299.trans (congrArg some (by kernel_rfl))
 f240:=Tryz.func310.trans (congrArg some (by kernel_rfl))
 f241:=Tryz.func311.trans (congrArg some (by kernel_rfl))
 f276:=Tryz.func317.trans (congrArg some (by kernel_rfl))
 f277:=Tryz.func318.trans (congrArg some (by kernel_rfl))
 t0:=Tryz.underlying0
 a0:=Tryz.isAgg0
 z0:=Tryz.sizeOf0
 v0:=Tryz.zeroValue0
 t3:=Tryz.underlying3
 a3:=Tryz.isAgg3
 z3:=Tryz.sizeOf3
 v3:=Tryz.zeroValue3
 t4:=Tryz.underlying4
 a4:=Tryz.isAgg4
 z4:=Tryz.sizeOf4
 v4:=Tryz.zeroValue4
 t9:=Tryz.underlying9
 a9:=Tryz.isAgg9
 z9:=Tryz.sizeOf9
 v9:=Tryz.zeroValue9
 t20:=Tryz.underlying20
 a20:=Tryz.isAgg20
 z20:=Tryz.sizeOf20
 v20:=Tryz.zeroValue20
 t31:=Tryz.underlying203
 a31:=Tryz.isAgg203
 z31:=Tryz.sizeOf203
 v31:=Tryz.zeroValue203
 t37:=Tryz.underlying22
 a37:=Tryz.isAgg22
 z37:=Tryz.sizeOf22
 v37:=Tryz.zeroValue22
 t70:=Tryz.underlying302
 a70:=Tryz.isAgg302
 z70:=Tryz.sizeOf302
 v70:=Tryz.zeroValue302
 t72:=Tryz.underlying304
 a72:=Tryz.isAgg304
 z72:=Tryz.sizeOf304
 v72:=Tryz.zeroValue304
 t75:=Tryz.underlying307
 a75:=Tryz.isAgg307
 z75:=Tryz.sizeOf307
 v75:=Tryz.zeroValue307
 t76:=Tryz.underlying308
 a76:=Tryz.isAgg308
 z76:=Tryz.sizeOf308
 v76:=Tryz.zeroValue308
 t127:=Tryz.underlying317
 a127:=Tryz.isAgg317
 z127:=Tryz.sizeOf317
 v127:=Tryz.zeroValue317
 t164:=Tryz.underlying325
 a164:=Tryz.isAgg325
 z164:=Tryz.sizeOf325
 v164:=Tryz.zeroValue325 }
theorem Tryz.Builder_Extra_156:Builder.Extra Tryz.prog Tryz.lays156_ren:={
 sizeBuilder:=by kernel_rfl
 liesBuilder:=by kernel_rfl
 t5:=Tryz.underlying5
 a5:=Tryz.isAgg5
 z5:=Tryz.sizeOf5
 v5:=Tryz.zeroValue5
 infoByte:=by kernel_rfl
 cellsByte:=by kernel_rfl
 sizeByte:=by kernel_rfl
 neB5:=by decide }
open Go.RowKit in
theorem Tryz.strings_Join_none(a:Option Addr)(c:Nat)(sep:ByteArray)(w:World):
  Calls Tryz.prog 280 #[.slice a 0 c,.string sep] w fun e w'=>e=.returned (.string ⟨#[]⟩)/\w'=w:=Any.strings_Join_none Tryz.lays156 Tryz.Builder_Extra_156 a c sep w
open Go.RowKit in
theorem Tryz.strings_Join(bk o c:Nat)(xs:List ByteArray)(sep:ByteArray)(w:World)(hcells:∀(j:Nat) x,xs[j]?=some x->w.cell? ⟨bk,o+j,none⟩=some (.string x))(hbk:bk<w.heap.size)(hN:xs.length<=140737488355328)(hcap:xs.length<=c)(hlen:(Lib.join (xs.map (·.data.toList)) sep.data.toList).length<=140737488355328):
  Calls Tryz.prog 280 #[.slice (some ⟨bk,o,none⟩) xs.length c,.string sep] w fun e w'=>e=.returned (.string ⟨(Lib.join (xs.map (·.data.toList)) sep.data.toList).toArray⟩)/\Below w.heap.size w w':=Any.strings_Join Tryz.lays156 Tryz.Builder_Extra_156 bk o c xs sep w hcells hbk hN hcap hlen
def Tryz.lays105_ren:Go.Shelf.Ren:=⟨fun|105=>296|212=>307|99=>308|165=>297|166=>298|170=>309|169=>299|263=>314|264=>315|206=>316|240=>310|241=>311|276=>317|277=>318|n=>n,fun|9=>9|3=>3|4=>4|20=>20|0=>0|46=>213|109=>314|5=>5|72=>304|76=>308|51=>319|146=>320|53=>322|148=>323|70=>302|37=>22|75=>307|127=>317|164=>325|80=>234|n=>n,fun|n=>n⟩
theorem Tryz.lays105:Go.Proofs.Lays.n105 Tryz.prog Tryz.lays105_ren:={
 mixed:=by kernel_rfl
 f99:=Tryz.func308.trans (congrArg some (by kernel_rfl))
 f105:=Tryz.func296.trans (congrArg some (by kernel_rfl))
 f165:=Tryz.func297.trans (congrArg some (by kernel_rfl))
 f166:=Tryz.func298.trans (congrArg some (by kernel_rfl))
 f169:=Tryz.func299.trans (congrArg some (by kernel_rfl))
 f170:=Tryz.func309.trans (congrArg some (by kernel_rfl))
 f206:=Tryz.func316.trans (congrArg some (by kernel_rfl))
 f212:=Tryz.func307.trans (congrArg some (by kernel_rfl))
 f240:=Tryz.func310.trans (congrArg some (by kernel_rfl))
 f241:=Tryz.func311.trans (congrArg some (by kernel_rfl))
 f263:=Tryz.func314.trans (congrArg some (by kernel_rfl))
 f264:=Tryz.func315.trans (congrArg some (by kernel_rfl))
 f276:=Tryz.func317.trans (congrArg some (by kernel_rfl))
 f277:=Tryz.func318.trans (congrArg some (by kernel_rfl))
 t0:=Tryz.underlying0
 a0:=Tryz.isAgg0
 z0:=Tryz.sizeOf0
 v0:=Tryz.zeroValue0
 t3:=Tryz.underlying3
 a3:=Tryz.isAgg3
 z3:=Tryz.sizeOf3
 v3:=Tryz.zeroValue3
 t4:=Tryz.underlying4
 a4:=Tryz.isAgg4
 z4:=Tryz.sizeOf4
 v4:=Tryz.zeroValue4
 t5:=Tryz.underlying5
 a5:=Tryz.isAgg5
 z5:=Tryz.sizeOf5
 v5:=Tryz.zeroValue5
 t9:=Tryz.underlying9
 a9:=Tryz.isAgg9
 z9:=Tryz.sizeOf9
 v9:=Tryz.zeroValue9
 t20:=Tryz.underlying20
 a20:=Tryz.isAgg20
 z20:=Tryz.sizeOf20
 v20:=Tryz.zeroValue20
 t37:=Tryz.underlying22
 a37:=Tryz.isAgg22
 z37:=Tryz.sizeOf22
 v37:=Tryz.zeroValue22
 t46:=Tryz.underlying213
 a46:=Tryz.isAgg213
 z46:=Tryz.sizeOf213
 v46:=Tryz.zeroValue213
 t51:=Tryz.underlying319
 a51:=Tryz.isAgg319
 z51:=Tryz.sizeOf319
 v51:=Tryz.zeroValue319
 t53:=Tryz.underlying322
 a53:=Tryz.isAgg322
 z53:=Tryz.sizeOf322
 v53:=Tryz.zeroValue322
 t70:=Tryz.underlying302
 a70:=Tryz.isAgg302
 z70:=Tryz.sizeOf302
 v70:=Tryz.zeroValue302
 t72:=Tryz.underlying304
 a72:=Tryz.isAgg304
 z72:=Tryz.sizeOf304
 v72:=Tryz.zeroValue304
 t75:=Tryz.underlying307
 a75:=Tryz.isAgg307
 z75:=Tryz.sizeOf307
 v75:=Tryz.zeroValue307
 t76:=Tryz.underlying308
 a76:=Tryz.isAgg308
 z76:=Tryz.sizeOf308
 v76:=Tryz.zeroValue308
 t109:=Tryz.underlying314
 a109:=Tryz.isAgg314
 z109:=Tryz.sizeOf314
 v109:=Tryz.zeroValue314
 t127:=Tryz.underlying317
 a127:=Tryz.isAgg317
 z127:=Tryz.sizeOf317
 v127:=Tryz.zeroValue317
 t146:=Tryz.underlying320
 a146:=Tryz.isAgg320
 z146:=Tryz.sizeOf320
 v146:=Tryz.zeroValue320
 t148:=Tryz.underlying323
 a148:=Tryz.isAgg323
 z148:=Tryz.sizeOf323
 v148:=Tryz.zeroValue323
 t164:=Tryz.underlying325
 a164:=Tryz.isAgg325
 z164:=Tryz.sizeOf325
 v164:=Tryz.zeroValue325 }
theorem Tryz.Builder_Extra_105:Builder.Extra Tryz.prog Tryz.lays105_ren:={
 sizeBuilder:=by kernel_rfl
 liesBuilder:=by kernel_rfl
 t5:=Tryz.underlying5
 a5:=Tryz.isAgg5
 z5:=Tryz.sizeOf5
 v5:=Tryz.zeroValue5
 infoByte:=by kernel_rfl
 cellsByte:=by kernel_rfl
 sizeByte:=by kernel_rfl
 neB5:=by decide }
open Go.RowKit Go.Lib in
theorem Tryz.strings_Repeat(s:ByteArray)(c:Nat)(w:World)(hc:c<=9223372036854775807)(hlen:s.size*c<=140737488355328):
  Calls Tryz.prog 296 #[.string s,.int .i64 c] w fun e w'=>e=.returned (.string ⟨(Lib.repeatL s.data.toList c).toArray⟩)/\Below w.heap.size w w':=Any.strings_Repeat Tryz.lays105 Tryz.Builder_Extra_105 s c w hc hlen
end Go.Proofs
namespace Go.LM
open Go.Lib Go.Proofs Go.RowKit
theorem str_ends{w w':World}{Z F:ae}{ps:List bt}{f:(bt.ins ps).D->Option (cN.outs [.val .str .R] (bt.dP ps)).D}{us:List Value}{s:ByteArray}{r:(cN.outs [.val .str .R] (bt.dP ps)).D}
  (hr:r.1=s.data.toList) (ho:hC w' Z ps (us++fI us) r.2 ae.none) (hx:Below w.heap.size w w'):Ends w Z F ⟨ps,[.val .str .R],f⟩ us r (.string s) w':=
 ⟨[.string s],Z,ae.none,rfl,below_ext hx,fun _ _ h=>h,fun _ _ h=>.inl h,fun _ _ h=>h.elim,fun _ _ h=>h.elim,
  [.string s],[],ae.none,ae.none,rfl,by simp only[U.al];exact⟨s,rfl,hr.symm⟩,⟨rfl,ho⟩,fun _ _ h=>h.elim,fun _ _ h=>h.elim,fun _ _ h=>h.elim⟩
def joinE:Entry:=⟨[.val (.sl .str) .R,.val .str .R],[.val .str .R],fun x=>joinF x.1 x.2.1⟩
def repE:Entry:=⟨[.val .str .R,.val (.int .i64) .R],[.val .str .R],fun x=>repF x.1 x.2.1⟩
theorem row_strs{w:World}:∀{xs:List (List UInt8)}{b o:Nat}{F:ae},Row w (fun y us _=>∃s:ByteArray,us=[.string s]/\s.data.toList=y) 1 xs b o F →
  ∃ss:List ByteArray,ss.map (·.data.toList)=xs/\∀(j:Nat) x,ss[j]?=some x->w.cell? ⟨b,o+j,none⟩=some (.string x)
 | [],_,_,_,_=>⟨[],rfl,fun j x h=>by simp at h⟩
 |x::xs,b,o,F,⟨vs,G,H,h1,h2,h3,h4,_⟩=>by
  obtain⟨ss,k1,k2⟩:=row_strs h4;obtain⟨s,rfl,hs⟩:=h1;refine⟨s::ss,by simp[k1,hs],fun j y hj=>?_⟩
  cases j with
  |zero=>simp only[List.getElem?_cons_zero,Option.some.injEq]at hj;subst hj;exact h3 0 _ rfl
  |succ j=>have:=k2 j y (by simpa using hj);rwa[show o+1+j=o +(j+1) by omega]at this
theorem join_soundX:gR Tryz.prog 280 0 joinE:=by
 refine⟨fun w Z F x us r hZ hF hFZ hA hr=>?_⟩;obtain⟨xs,sep,u⟩:=x;have hr:joinF xs sep=some r:=hr;unfold joinF at hr;split at hr
 case isFalse=>cases hr
 rename_i hc;have hr:=Option.some.inj hr;obtain⟨vs1,us1,G1,H1,e1,k1,h1,a1,s1,t1⟩:=hA;obtain⟨vs2,us2,G2,H2,e2,k2,h2,a2,s2,t2⟩:=h1;have h2:us2=[]:=h2;subst h2;simp only[U.al]at k1 k2;obtain⟨A,c,rfl,k1⟩:=k1;obtain⟨sp,rfl,hsp⟩:=k2;have hus:us=[.slice A xs.length c,.string sp]:=by refine capsV_plain (l:=[.slice A xs.length c,.string sp]) (by rw[e1,e2];rfl) ?_;intro v hv f a b he;simp only[List.mem_cons,List.not_mem_nil,or_false]at hv;rcases hv with rfl|rfl<;>cases he
 subst hus;refine .inl ⟨⟨Tryz.f280,Tryz.func280,by kernel_rfl,by kernel_rfl⟩,?_⟩;have hfin:∀(s:ByteArray) (w':World),s.data.toList=Lib.join xs sep->Below w.heap.size w w'->Ends w Z F joinE [.slice A xs.length c,.string sp] r (.string s) w':=fun s w' hs hb=>str_ends (by rw[<-hr];exact hs.symm) ⟨_,_,rfl,_,_,rfl,trivial⟩ hb
 rcases k1 with h0|⟨a,rfl,hspot,hrow,hzr,hcap⟩
 ·subst h0;refine(Tryz.strings_Join_none A c sp w).mono ?_
  rintro e w' ⟨rfl,rfl⟩
  exact⟨_,rfl,hfin _ _ rfl (Below.refl _ _)⟩
 ·obtain⟨b,o,sp0⟩:=a;simp only at hspot;subst hspot;obtain⟨ss,k1,k2⟩:=row_strs hrow;have hl:xs.length=ss.length:=by rw[<-k1];simp
  rcases Nat.eq_zero_or_pos xs.length with h0|h0
  ·have:xs=[]:=List.eq_nil_of_length_eq_zero h0;subst this;refine(Tryz.strings_Join_none _ c sp w).mono ?_
   rintro e w' ⟨rfl,rfl⟩
   exact⟨_,rfl,hfin _ _ rfl (Below.refl _ _)⟩
  ·have hb:b<w.heap.size:=by
    have:=k2 0 _ (List.getElem?_eq_getElem (by omega));exact v7 this
   have hj:=Tryz.strings_Join b o c ss sp w k2 hb (by omega) (by omega) (by rw[k1,hsp];omega);rw[k1,hsp]at hj;rw[hl];refine hj.mono ?_
   rintro e w' ⟨rfl,hbw⟩
   rw[<-hl];exact⟨_,rfl,hfin _ _ (by simp) hbw⟩
theorem rep_soundX:gR Tryz.prog 296 0 repE:=by
 refine⟨fun w Z F x us r hZ hF hFZ hA hr=>?_⟩;obtain⟨xs,k,u⟩:=x;have hr:repF xs k=some r:=hr;unfold repF at hr;split at hr
 case isFalse=>cases hr
 rename_i hc;obtain⟨hk0,hk1,hk2⟩:=hc;have hr:=Option.some.inj hr;obtain⟨vs1,us1,G1,H1,e1,k1,h1,a1,s1,t1⟩:=hA;obtain⟨vs2,us2,G2,H2,e2,k2,h2,a2,s2,t2⟩:=h1;have h2:us2=[]:=h2;subst h2;simp only[U.al]at k1 k2;obtain⟨sp,rfl,hsp⟩:=k1;subst k2;have hus:us=[.string sp,.int .i64 k]:=by refine capsV_plain (l:=[.string sp,.int .i64 k]) (by rw[e1,e2];rfl) ?_;intro v hv f a b he;simp only[List.mem_cons,List.not_mem_nil,or_false]at hv;rcases hv with rfl|rfl<;>cases he
 subst hus;obtain⟨n,rfl⟩:∃n:Nat,k=(n:Int):=⟨Int.toNat k,(Int.toNat_of_nonneg hk0).symm⟩
 have hn:n<=68719476736:=Int.ofNat_le.1 hk1;rw[Int.toNat_natCast]at hk2 hr;refine .inl ⟨⟨Tryz.f296,Tryz.func296,by kernel_rfl,by kernel_rfl⟩,?_⟩;refine(Tryz.strings_Repeat sp n w (by omega) (by rw[show sp.size=xs.length by rw[<-hsp];rfl];omega)).mono ?_
 rintro e w' ⟨rfl,hb⟩
 exact⟨_,rfl,str_ends (by rw[<-hr,hsp]) ⟨_,_,rfl,_,_,rfl,trivial⟩ hb⟩
end Go.LM
namespace Go.LM.mW
noncomputable section
@[reducible] def eh:U:=.st (.cons (.int .i64) (.cons (.int .i64) (.cons (.int .i64) (.cons (.int .i64) (.cons (.int .i64) (.cons .str (.cons .raw (.cons (.int .i64) (.cons (.int .i64) .nil)))))))))
def YK(a1:eh.D)(a2:Int):Option (Bool×Unit):=
 some (a1.1==a2,())
def y1(x:eh.D×Int×Unit):Option (Bool×Unit):=YK x.1 x.2.1
abbrev y2:Type:=(List eh.D)->Int->Int->Int->Option (Int×Unit)
def OA(k2:y2)(a1:List eh.D)(a2:Int):Option (Int×Unit):=
 k2 a1 a2 (a1.length:Int) 0
def y3(k2:y2)(jg:List eh.D)(h_:Int)(jh:Int)(gn:Int):Option (Int×Unit):=
 cond (decide (gn<jh))
  ((ax jg.length gn).bind fun v1=>
  (y1 (I eh jg v1,h_,())).bind fun v2=>
  cond v2.1
   (some (gn,()))
   (k2 jg h_ jh (aj (gn+1))))
  (some ((-1),()))
def tP:Nat->y2
 |0,_,_,_,_=>none
 |m+1,jg,h_,jh,gn=>y3 (tP m) jg h_ jh gn
def GJ(x:(List eh.D)×Int×Unit):Option (Int×Unit):=OA (tP aC) x.1 x.2.1
abbrev q6:Type:=(List eh.D)×Unit
abbrev v':Type:=Int->Int->Int->(List eh.D)->Option (q6)
def y4(a_:v')(a1:List eh.D)(a2:Int):Option (q6):=
 (GJ (a1,a2,())).bind fun v1=>
 cond (v1.1 ==(-1))
  (some (a1,()))
  (a_ a2 v1.1 (aj (v1.1+1)) a1)
def OB(a_:v')(jg:Int)(h_:Int)(jh:Int)(v4:List eh.D):Option (q6):=
 a_ jg (aj (h_+1)) (aj (jh+1)) v4
def OC(h_:Int)(v6:List eh.D):Option (q6):=
 (cZ v6.length 0 h_).bind fun GK=>
 some (part v6 (0+GK.1) (GK.2-GK.1),())
def y5(a_:v')(jg:Int)(h_:Int)(jh:Int)(gn:List eh.D):Option (q6):=
 cond (decide (jh<(gn.length:Int)))
  ((ax gn.length jh).bind fun v1=>
  (y1 (I eh gn (0+v1),jg,())).bind fun v2=>
  cond (!v2.1)
   ((ax gn.length h_).bind fun v3=>
   OB a_ jg h_ jh (gn.set (0+v3) (I eh gn (0+v1))))
   (a_ jg h_ (aj (jh+1)) gn))
  ((cZ gn.length h_ (gn.length:Int)).bind fun v5=>
  OC h_ (gn.take (0+v5.1)++List.replicate (v5.2-v5.1) ((0,0,0,0,0,([]:List UInt8),(.slice none 0 0:Value),0,0,()):eh.D)++gn.drop ((0+v5.1) +(v5.2-v5.1))))
def tQ:Nat->v'
 |0,_,_,_,_=>none
 |m+1,jg,h_,jh,gn=>y5 (tQ m) jg h_ jh gn
def GL(x:(List eh.D)×Int×Unit):Option (q6):=y4 (tQ aC) x.1 x.2.1
end
end Go.LM.mW
namespace Go.LM.mW
open Go.Proofs
def tab:List (Nat×U):=[(3,.int .i64),(24,.sl eh),(150,eh)]
def kF:List Nat:=[15,16,17,105,174,231,246,247,253,302,317]
def eqs:List Nat:=[]
theorem GM:q7 Tryz.prog tab=true:=by kernel_rfl
theorem GN:q8 Tryz.prog kF=true:=by kernel_rfl
theorem GO:q9 Tryz.prog tab eqs=true:=by kernel_rfl
theorem mix:Tryz.prog.follows .mixedOrders=true:=by kernel_rfl
noncomputable def bk:jV Tryz.prog:=⟨tab,kF,eqs,GM,GN,GO,mix⟩
set_option maxRecDepth 100000
noncomputable def GP:Entry:=⟨[aD eh,e4 (.int .i64)],[bT .bool],y1⟩
theorem OD:Sound Tryz.prog 295 0 GP:=bQ bk 0 (fn:=Tryz.f295) (fns:=[]) trivial (by kernel_rfl)
noncomputable def OE:Entry:=⟨[aD (.sl eh),.fn 0 1,e4 (.int .i64)],[bT (.int .i64)],GJ⟩
def YL:List (Nat×gH):=[(2,⟨[(0,.cell (.bq eh [])),(1,.tT [] [[.keep]]),(7,az),(8,az)],[],[.drop,.drop,.drop]⟩)]
def YM(k:Nat->av->Option (Int×Unit)):y2:=fun jg h_ jh gn=>k 2 (aW [(0,cq eh jg),(1,.fn 295 [] [.c2 [] [.int .i64 h_] 0]),(7,aJ jh),(8,aJ gn)] [] [.bf,.bf,.bf])
theorem YN:Sound Tryz.prog 207 295 OE:=bw bk 295 (fn:=Tryz.f207) (fns:=[(295,GP)]) ⟨OD,trivial⟩ YL YM y3 tP (fun k x=>OA k x.1 x.2.1) (by kernel_rfl) rfl
noncomputable def YO:Entry:=⟨[wa (.sl eh),.fn 0 1,e4 (.int .i64)],[ro (.sl eh)],GL⟩
def YP:List (Nat×gH):=[(5,⟨[(0,.cell (.aa 1)),(1,.tT [] [[.keep]]),(5,az),(6,az)],[(1,.row eh .R)],[.drop,.drop,.drop]⟩)]
def YQ(k:Nat->av->Option (q6)):v':=fun jg h_ jh gn=>k 5 (aW [(0,.aP (.aa 1 none)),(1,.fn 295 [] [.c2 [] [.int .i64 jg] 0]),(5,aJ h_),(6,aJ jh)] [(1,.row eh .R 0 gn)] [.bf,.bf,.bf])
theorem YR:Sound Tryz.prog 294 295 YO:=bw bk 295 (fn:=Tryz.f294) (fns:=[(295,GP),(295000207,OE)]) ⟨OD,YN,trivial⟩ YP YQ y5 tQ (fun k x=>y4 k x.1 x.2.1) (by kernel_rfl) rfl
end Go.LM.mW
namespace Go.LM.mW
theorem OF{n:Nat}(h:n<=68719476736):n+1<aC:=by unfold aC;omega
def iB(y:eh.D)(id:Int):Bool:=y.1==id
theorem OG(y:eh.D)(id:Int):y1 (y,id,())=some (iB y id,()):=rfl
def q_(id:Int):List eh.D->Nat->Int
 | [],_=> -1
 |y::l,k=>cond (iB y id) (k:Int) (q_ id l (k+1))
theorem inc{i:Nat}(h:i<=68719476736):aj ((i:Int)+1)=((i+1:Nat):Int):=by rw[cj (by omega) (by omega)];omega
theorem bj{i n:Nat}(h:i<n):decide ((i:Int)<(n:Int))=true:=by simp;omega
theorem bI{i n:Nat}(h:n<=i):decide ((i:Int)<(n:Int))=false:=by simp;omega
theorem drop_cons{α:Type}{l:List α}{k:Nat}(h:k<l.length):l.drop k=l[k]::l.drop (k+1):=List.drop_eq_getElem_cons h
theorem YS(ys:List eh.D)(id:Int)(hn:ys.length<=68719476736):∀(r k m:Nat),k+r=ys.length->r<m →
  tP m ys id (ys.length:Int) (k:Int)=some (q_ id (ys.drop k) k,()):=by
 intro r
 induction r with
 |zero=>
  intro k m hk hm;obtain⟨m,rfl⟩:∃q,m=q+1:=⟨m-1,by omega⟩
  simp only[tP,y3];rw[bI (by omega),List.drop_of_length_le (by omega)];rfl
 |succ r ih=>
  intro k m hk hm;obtain⟨m,rfl⟩:∃q,m=q+1:=⟨m-1,by omega⟩
  have y6:k<ys.length:=by omega
  simp only[tP,y3];rw[bj y6,aU y6];simp only[cond_true,Option.bind_some];rw[OG,nW y6,drop_cons y6];simp only[Option.bind_some,q_];cases iB ys[k] id
  ·simp only[cond_false];rw[inc (by omega)];exact ih (k+1) m (by omega) (by omega)
  ·rfl
theorem OH(id:Int):∀(l:List eh.D) (k:Nat),(q_ id l k = -1/\l.filter (fun y=> !iB y id)=l)\/∃j,j<l.length/\q_ id l k=((k+j:Nat):Int)/\(l.filter (fun y=> !iB y id))=l.take j++(l.drop (j+1)).filter (fun y=> !iB y id)
 | [],_=>.inl ⟨rfl,rfl⟩
 |y::l,k=>by
  rw[List.filter_cons];unfold q_;cases h:iB y id
  ·rcases OH id l (k+1)with⟨h1,h2⟩|⟨j,h1,h2,h3⟩
   ·exact .inl ⟨by simp only[cond_false];exact h1,by simp[h2]⟩
   ·exact .inr ⟨j+1,by simpa using h1,by simp only[cond_false];rw[h2];congr 1;omega,by simp[h3]⟩
  ·exact .inr ⟨0,by simp,by simp,by simp⟩
theorem YT(ys:List eh.D)(id:Int)(hn:ys.length<=68719476736):∀(r j i m:Nat) (xs:List eh.D),j+r=ys.length->i<=j->xs.length=ys.length->xs.drop j=ys.drop j->r<m →
  tQ m id (i:Int) (j:Int) xs=some (xs.take i++(ys.drop j).filter (fun y=> !iB y id),()):=by
 intro r
 induction r with
 |zero=>
  intro j i m xs hj YU hl aa hm;obtain⟨m,rfl⟩:∃q,m=q+1:=⟨m-1,by omega⟩
  simp only[tQ,y5];rw[bI (by omega),iC (by omega) (Nat.le_refl _)];simp only[cond_false,Option.bind_some,OC,Nat.zero_add];generalize ((0,0,0,0,0,([]:List UInt8),(.slice none 0 0:Value),0,0,()):eh.D)=z;have hlen:(xs.take i++List.replicate (xs.length-i) z++xs.drop (i +(xs.length-i))).length=xs.length:=by simp;omega
  rw[show(0:Int)=((0:Nat):Int) from rfl,iC (Nat.zero_le _) (by rw[hlen];omega)];simp only[Option.bind_some,Nat.sub_zero,Nat.zero_add];rw[List.drop_of_length_le (l:=ys) (by omega),List.filter_nil,List.append_nil];congr 2;unfold part;rw[List.drop_zero,List.append_assoc,List.take_append_of_le_length (by simp;omega),List.take_take];simp
 |succ r ih=>
  intro j i m xs hj YU hl aa hm;obtain⟨m,rfl⟩:∃q,m=q+1:=⟨m-1,by omega⟩
  have hjl:j<xs.length:=by omega
  have OI:j<ys.length:=by omega
  have he:xs[j]=ys[j]/\xs.drop (j+1)=ys.drop (j+1):=by rw[drop_cons hjl,drop_cons OI]at aa;exact List.cons.inj aa
  simp only[tQ,y5];rw[bj hjl,aU hjl];simp only[cond_true,Option.bind_some,Nat.zero_add];rw[OG,nW hjl,he.1,drop_cons OI,List.filter_cons];simp only[Option.bind_some];cases hh:iB ys[j] id
  ·simp only[Bool.not_false,cond_true,if_true];rw[aU (show i<xs.length by omega)];simp only[Option.bind_some,OB];rw[inc (by omega),inc (by omega),ih (j+1) (i+1) m (xs.set i ys[j]) (by omega) (by omega) (by simpa using hl) (by rw[List.drop_set_of_lt (by omega)];exact he.2) (by omega)];congr 2;rw[List.take_add_one,List.take_set_of_le (Nat.le_refl _),List.getElem?_set_self (by omega)];simp
  ·simp only[Bool.not_true,cond_false,Bool.false_eq_true,if_false];rw[inc (by omega)];exact ih (j+1) i m xs (by omega) (by omega) hl he.2 (by omega)
theorem del_eq(ys:List eh.D)(id:Int)(hn:room ys.length=true):GL (ys,id,())=some (ys.filter (fun y=> !iB y id),()):=by
 have hn:ys.length<=68719476736:=Nat.le_of_ble_eq_true hn;show y4 _ ys id=_;unfold y4;have hi:GJ (ys,id,())=some (q_ id ys 0,()):=by have:=YS ys id hn ys.length 0 aC (by omega) (by have:=OF hn;omega);rw[List.drop_zero]at this;exact this
 rw[hi];simp only[Option.bind_some];rcases OH id ys 0 with⟨h1,h2⟩|⟨j,h1,h2,h3⟩
 ·rw[h1,h2];rfl
 ·rw[h2,h3,Nat.zero_add,show((j:Int) == -1)=false from by rw[beq_eq_false_iff_ne];omega];simp only[cond_false];rw[inc (by omega)];exact YT ys id hn (ys.length-(j+1)) (j+1) j aC ys (by omega) (by omega) rfl rfl (by have:=OF hn;omega)
end Go.LM.mW
